import Derived.Test.YtgpafbbnobanbaaGreatDoorAmB
import Derived.Conc.MuLone
/-
  Operations one behind the other: what the abstract machine reckons is what the model does.
-/
namespace Go.Proofs.YtgpafbbnobanbaaGreatDoor.AM
open Go

def okGuard (ops : Array Oper) : Option (Nat × Bool) → Option (Nat × Bool) → Bool
  | none, none => true
  | some (j, b), some (s, b') => ((ops[j]?).bind (·.dst) == some s) && b == b'
  | _, _ => false
def okDst (nt : Nat) : Option Tmp → Option Nat → Bool
  | none, none => true
  | some d, some d' => d == d' && decide (d < nt)
  | _, _ => false
def okOper (P : Program) (nt : Nat) (ops : Array Oper) (o : Oper) (q : AOper) : Bool := okDst nt o.dst q.d && okGuard ops o.guard q.g && okA P o.op q.o
def okOps (P : Program) (nt : Nat) (ops : Array Oper) : List Oper → List AOper → Bool
  | [], [] => true
  | o :: os, q :: qs => okOper P nt ops o q && okOps P nt ops os qs
  | _, _ => false
theorem okDst_eq {nt : Nat} {d : Option Tmp} {d' : Option Nat} (h : okDst nt d d' = true) : d = d' ∧ ∀ k, d' = some k → k < nt := by
  unfold okDst at h
  split at h
  · exact ⟨rfl, by simp⟩
  · simp only [Bool.and_eq_true, beq_iff_eq, decide_eq_true_eq] at h
    obtain ⟨rfl, h⟩ := h
    exact ⟨rfl, fun k hk => by injection hk with hk; subst hk; exact h⟩
  · cases h
theorem EnvOK.mono {φ φ' : Phi} {e : Env} {a : Act} (h : EnvOK φ e a) (hl : Le φ φ') : EnvOK φ' e a := fun t => (h t).mono hl
theorem EnvOK.put {φ : Phi} {e : Env} {a : Act} {v : V} {rv : Value} {d : Option Nat} (h : EnvOK φ e a) (hv : VR φ v rv) (hd : ∀ k, d = some k → k < a.tmps.size) : EnvOK φ (AM.put e d v) (a.put d rv) := by
  cases d with
  | none => exact h
  | some d =>
    intro t
    have hlt := hd d rfl
    simp only [AM.put, Act.put, AM.get]
    by_cases ht : d = t
    · subst ht
      rw [if_pos rfl]
      simpa [Array.getD_eq_getD_getElem?, Array.getElem?_setIfInBounds, hlt] using hv
    · rw [if_neg ht]
      have := h t
      simpa [Array.getD_eq_getD_getElem?, Array.getElem?_setIfInBounds_ne ht] using this
theorem put_size (a : Act) (d : Option Nat) (v : Value) : (a.put d v).tmps.size = a.tmps.size := by cases d <;> simp [Act.put]
theorem put_defers' (a : Act) (d : Option Nat) (v : Value) : (a.put d v).defers = a.defers := by cases d <;> rfl
theorem wanted_ok {φ : Phi} {e : Env} {a : Act} {ops : Array Oper} {o : Oper} {g : Option (Nat × Bool)} {b : Bool} (he : EnvOK φ e a) (hg : okGuard ops o.guard g = true) (hw : wantedA e g = some b) : Region.wanted o (yielded ops a.tmps) = b := by
  unfold okGuard at hg
  split at hg
  · rename_i h1
    simp only [wantedA, Option.some.injEq] at hw
    subst hw
    simp [Region.wanted, h1]
  · rename_i j b1 s b2 h1
    simp only [Bool.and_eq_true, beq_iff_eq] at hg
    obtain ⟨h2, rfl⟩ := hg
    have hs := he s
    simp only [wantedA] at hw
    simp only [Region.wanted, h1, yielded, h2, Option.bind_some]
    rw [Array.getD_eq_getD_getElem?] at hs
    split at hw
    · rename_i b' hb
      rw [hb] at hs
      injection hw with hw
      subst hw
      have hs : (a.tmps[s]?).getD Go.undef = .bool b' := hs
      cases hx : a.tmps[s]? with
      | none => rw [hx] at hs; cases hs
      | some v =>
        rw [hx] at hs
        simp only [Option.getD_some] at hs
        subst hs
        simp
    · rename_i hb
      rw [hb] at hs
      injection hw with hw
      subst hw
      have hs : (a.tmps[s]?).getD Go.undef = Go.undef := hs
      cases hx : a.tmps[s]? with
      | none => simp
      | some v =>
        rw [hx] at hs
        simp only [Option.getD_some] at hs
        subst hs
        simp [Go.undef]
    · cases hw
  · cases hg
/-- what an operation writes is there -/
theorem ev_ups {F : Fns} {q : AOp} {e : Env} {H : HF} {base : Nat} {r : Out} (h : q.ev F e H base = some r) : ∀ p ∈ r.2.2, (H p.1).isSome = true := by
  cases q with
  | p q =>
    simp only [AOp.ev] at h
    obtain ⟨s, _, rfl⟩ := Option.map_eq_some_iff.1 h
    simp
  | h q =>
    simp only [AOp.ev] at h
    cases q with
    | load n agg a =>
      simp only [HOp.ev] at h
      split at h
      · obtain ⟨s, _, rfl⟩ := Option.map_eq_some_iff.1 h; simp
      · cases h
    | slA m sz x lo hi =>
      simp only [HOp.ev] at h
      split at h
      · split at h
        · obtain ⟨_, _, h⟩ := Option.bind_eq_some_iff.1 h
          obtain ⟨_, _, rfl⟩ := Option.map_eq_some_iff.1 h
          simp
        · cases h
      · cases h
    | store n a x =>
      simp only [HOp.ev] at h
      split at h
      · split at h
        · rename_i hb
          split at h
          · injection h with h; subst h; simp [hb]
          · cases h
        · cases h
      · cases h
    | app sz a b =>
      simp only [HOp.ev] at h
      obtain ⟨_, _, h⟩ := Option.bind_eq_some_iff.1 h
      split at h
      · split at h
        · rename_i hb
          split at h
          · injection h with h; subst h; simp [hb]
          · cases h
        · cases h
      · split at h
        · injection h with h; subst h; simp
        · cases h
      · cases h
    | clr sz z x =>
      simp only [HOp.ev] at h
      split at h
      · split at h
        · rename_i hb
          split at h
          · injection h with h; subst h; simp [hb]
          · cases h
        · cases h
      · injection h with h; subst h; simp
      · cases h
    | s2b x =>
      simp only [HOp.ev] at h
      split at h
      · split at h
        · injection h with h; subst h; simp
        · cases h
      · cases h
    | b2s x =>
      simp only [HOp.ev] at h
      split at h
      · obtain ⟨_, _, h⟩ := Option.bind_eq_some_iff.1 h
        split at h
        · injection h with h; subst h; simp
        · cases h
      · injection h with h; subst h; simp
      · cases h
    | mnew => simp only [HOp.ev] at h; injection h with h; subst h; simp
    | mget z ok m k =>
      simp only [HOp.ev] at h
      split at h
      · split at h
        · split at h
          · injection h with h; subst h; simp
          · cases h
        · cases h
      · cases h
    | mset m k x =>
      simp only [HOp.ev] at h
      split at h
      · split at h
        · rename_i hb
          split at h
          · injection h with h; subst h; simp [hb]
          · cases h
        · cases h
      · cases h
    | mlen m =>
      simp only [HOp.ev] at h
      split at h
      · split at h
        · injection h with h; subst h; simp
        · cases h
      · cases h
    | call f args =>
      simp only [HOp.ev] at h
      split at h
      · unfold callA at h
        simp only at h
        split at h
        · rename_i hc
          obtain ⟨_, _, h⟩ := Option.bind_eq_some_iff.1 h
          split at h
          · injection h with h
            subst h
            intro p hp
            have hm := (List.of_mem_zip (a := p.1) (b := p.2) hp).1
            obtain ⟨b, hb, _⟩ := closed_at hc.1 hm
            simp [hb]
          · cases h
        · cases h
      · cases h
theorem out_ups {F : Fns} {q : AOper} {e : Env} {H : HF} {base : Nat} {r : Out} (h : outA F q e H base = some r) : ∀ p ∈ r.2.2, (H p.1).isSome = true := by
  unfold outA at h
  obtain ⟨w, _, h⟩ := Option.bind_eq_some_iff.1 h
  split at h
  · exact ev_ups h
  · injection h with h; subst h; simp
theorem ups_length : ∀ (us : List (Nat × Blk)) (h : Heap), (ups us h).length = h.length
  | [], _ => rfl
  | p :: us, h => by simp [ups, ups_length us]
theorem lkp_ups : ∀ (us : List (Nat × Blk)) (h : Heap), (∀ p ∈ us, p.1 < h.length) → lkp (ups us h) = updU us (lkp h)
  | [], _, _ => rfl
  | p :: us, h, hp => by
    simp only [ups, updU]
    rw [lkp_ups us _ (fun q hq => by simpa using hp q (by simp [hq]))]
    congr 1
    funext i
    unfold lkp
    rw [List.getElem?_set]
    have := hp p (by simp)
    by_cases hi : p.1 = i
    · subst hi; simp [this]
    · rw [if_neg hi, if_neg (Ne.symm hi)]
theorem updU_none : ∀ (us : List (Nat × Blk)) (H : HF) (i : Nat), (∀ p ∈ us, (H p.1).isSome = true) → H i = none → updU us H i = none
  | [], _, _, _, h => h
  | p :: us, H, i, hp, h => by
    simp only [updU]
    refine updU_none us _ i (fun q hq => ?_) ?_
    · have := hp q (by simp [hq])
      split
      · rfl
      · exact this
    · have := hp p (by simp)
      rw [if_neg]
      · exact h
      · intro e; rw [← e, h] at this; cases this
theorem lkp_step {h : Heap} {ns : List Blk} {us : List (Nat × Blk)} (hp : ∀ p ∈ us, (lkp h p.1).isSome = true) : lkp (ups us h ++ ns) = updH (lkp h) h.length ns us := by
  have hlt : ∀ p ∈ us, p.1 < h.length := fun p hpu => by
    obtain ⟨b, hb⟩ := Option.isSome_iff_exists.1 (hp p hpu)
    exact (List.getElem?_eq_some_iff.1 hb).1
  have hl := ups_length us h
  funext i
  unfold updH
  by_cases hi : h.length ≤ i ∧ i < h.length + ns.length
  · rw [if_pos hi]
    unfold lkp
    rw [List.getElem?_append_right (by omega), hl]
  · rw [if_neg hi]
    by_cases hi2 : i < h.length
    · rw [← lkp_ups us h hlt]
      unfold lkp
      rw [List.getElem?_append_left (by omega)]
    · rw [updU_none us (lkp h) i hp (by unfold lkp; exact List.getElem?_eq_none (by omega))]
      unfold lkp
      exact List.getElem?_eq_none (by rw [List.length_append]; omega)
theorem HeapOK.free {φ : Phi} {h : Heap} {w : World} (hh : HeapOK φ (lkp h) w) (k : Nat) : Free φ h.length k := by
  intro j _
  cases hp : φ (h.length + j) with
  | none => rfl
  | some p =>
    obtain ⟨b, hb⟩ := hh.dom _ p hp
    have := (List.getElem?_eq_some_iff.1 hb).1
    omega
/-- one state of a call's run -/
structure StOK (φ : Phi) (e : Env) (h : Heap) (nt : Nat) (a : Act) (w : World) : Prop where
  env : EnvOK φ e a
  heap : HeapOK φ (lkp h) w
  size : a.tmps.size = nt
  defers : a.defers = []
/-- a later state, seen from an earlier one: the first m blocks have kept their numbers -/
structure Later (m : Nat) (φ : Phi) (h : Heap) (w : World) (φ' : Phi) (h' : Heap) (w' : World) : Prop where
  keep : ∀ i, i < m → φ' i = φ i
  mv : Mv φ (lkp h) w φ' (lkp h') w'
  len : m ≤ h'.length
theorem Later.refl {m : Nat} {φ : Phi} {h : Heap} {w : World} (hh : HeapOK φ (lkp h) w) (hm : m ≤ h.length) : Later m φ h w φ h w := ⟨fun _ _ => rfl, Mv.refl hh, hm⟩
theorem Later.trans {m : Nat} {φ φ' φ'' : Phi} {h h' h'' : Heap} {w w' w'' : World} (a : Later m φ h w φ' h' w') (b : Later m φ' h' w' φ'' h'' w'') : Later m φ h w φ'' h'' w'' :=
  ⟨fun i hi => (b.keep i hi).trans (a.keep i hi), a.mv.trans b.mv, b.len⟩
/-- one operation -/
theorem step_ok {P : Program} {F : Fns} (hF : FnOK P F) {nt : Nat} {ops : Array Oper} {o : Oper} {q : AOper} (hk : okOper P nt ops o q = true) {φ : Phi} {e e' : Env} {h h' : Heap} {a : Act} {w : World} (hs : StOK φ e h nt a w) (hst : stepA F q e h = some (e', h')) {m : Nat} (hm : m ≤ h.length)
    {K : Act → World → Prop} {Q : Exit → Act → World → Prop} (hK : ∀ φ' a' w', StOK φ' e' h' nt a' w' → Later m φ h w φ' h' w' → K a' w') :
    if Region.wanted o (yielded ops a.tmps) then o.wp P a w K Q ∨ (o.asks P a w ∧ LetsOut Q) else K (a.put o.dst Go.undef) w := by
  simp only [okOper, Bool.and_eq_true] at hk
  obtain ⟨⟨hd, hg⟩, hop⟩ := hk
  obtain ⟨hd1, hd2⟩ := okDst_eq hd
  unfold stepA at hst
  obtain ⟨r, hr, hst⟩ := Option.map_eq_some_iff.1 hst
  have hups := out_ups hr
  unfold outA at hr
  obtain ⟨b, hb, hr⟩ := Option.bind_eq_some_iff.1 hr
  rw [wanted_ok hs.env hg hb]
  injection hst with he' hh'
  have hlk := lkp_step (h := h) (ns := r.2.1) hups
  cases b with
  | true =>
    simp only [if_true] at hr ⊢
    refine .inl ((okA_does hF hop hs.env hs.heap hr (hs.heap.free _) (fun _ => by unfold lkp; exact List.getElem?_eq_none (Nat.le_refl _))).wp fun rv w' ⟨φ', hv, ho⟩ => ?_)
    have hle : Le φ φ' := le_of_old ho.old (hs.heap.free _)
    have hmv : Mv φ (lkp h) w φ' (lkp h') w' := by rw [← hh', hlk]; exact ho.mv
    refine hK φ' _ _ ⟨?_, hmv.ok, by rw [put_size]; exact hs.size, by rw [put_defers']; exact hs.defers⟩ ⟨fun i hi => ho.old i (.inl (by omega)), hmv, by rw [← hh', List.length_append, ups_length]; omega⟩
    rw [← he', hd1]
    exact (hs.env.mono hle).put hv fun k hk => by rw [hs.size]; exact hd2 k hk
  | false =>
    simp only [Bool.false_eq_true, if_false] at hr ⊢
    injection hr with hr
    subst hr
    simp only [ups, List.append_nil] at hh'
    subst hh'
    refine hK φ _ _ ⟨?_, hs.heap, by rw [put_size]; exact hs.size, by rw [put_defers']; exact hs.defers⟩ (Later.refl hs.heap hm)
    rw [← he', hd1]
    exact hs.env.put rfl fun k hk => by rw [hs.size]; exact hd2 k hk
theorem ops_seq {P : Program} {F : Fns} (hF : FnOK P F) {nt : Nat} {ops : Array Oper} {Q : Exit → Act → World → Prop} {m : Nat} : ∀ (qs : List AOper) (os : List Oper) (k : Nat), (∀ j, os[j]? = ops[k + j]?) → okOps P nt ops os qs = true → ∀ {φ : Phi} {e e' : Env} {h h' : Heap} {a : Act} {w : World}, StOK φ e h nt a w → runOps F qs e h = some (e', h') → m ≤ h.length →
    (∀ φ' a' w', StOK φ' e' h' nt a' w' → Later m φ h w φ' h' w' → Q .normal a' w') → wpOps P ops Q (List.range' k os.length) a w
  | [], [], k, _, _, φ, e, e', h, h', a, w, hs, hr, hm, hQ => by
    simp only [runOps, Option.some.injEq, Prod.mk.injEq] at hr
    obtain ⟨rfl, rfl⟩ := hr
    exact hQ φ a w hs (Later.refl hs.heap hm)
  | q :: qs, o :: os, k, hos, hk, φ, e, e', h, h', a, w, hs, hr, hm, hQ => by
    simp only [okOps, Bool.and_eq_true] at hk
    simp only [runOps] at hr
    obtain ⟨s, hs1, hr⟩ := Option.bind_eq_some_iff.1 hr
    have ho : ops[k]? = some o := by have := hos 0; simpa using this.symm
    simp only [List.length_cons, List.range'_succ, wpOps, ho]
    refine step_ok hF hk.1 hs hs1 hm fun φ1 a1 w1 hs' hl' => ?_
    exact ops_seq hF qs os (k + 1) (fun j => by have := hos (j + 1); simpa [Nat.add_assoc, Nat.add_comm 1 j] using this) hk.2 hs' hr hl'.len fun φ2 a2 w2 hs2 hl2 => hQ φ2 a2 w2 hs2 (hl'.trans hl2)
  | [], _ :: _, _, _, h, _, _, _, _, _, _, _, _, _, _, _ => by simp [okOps] at h
  | _ :: _, [], _, _, h, _, _, _, _, _, _, _, _, _, _, _ => by simp [okOps] at h
end Go.Proofs.YtgpafbbnobanbaaGreatDoor.AM

/-
  Operations whose order is open: any order that the model may take comes to what the listed one comes to.
-/
namespace Go.Proofs.YtgpafbbnobanbaaGreatDoor.AM
open Go

/-! ### what an operation looks at -/
def POp.opds : POp → List Opd
  | .mv x => [x] | .nilsl _ => [] | .pick c a b => [c, a, b] | .alloc _ => [] | .box _ x => [x]
  | .build _ ps => ps.map fun p => p.2.2
  | .mksl _ _ _ ps => ps.map fun p => p.2.2
  | .mkslice _ _ l c => [l, c] | .grow0 _ _ x k => [x, k] | .bin _ x y => [x, y] | .eqv _ _ x y => [x, y] | .eqb _ x y => [x, y] | .iserr _ x => [x] | .un _ x => [x] | .conv _ x => [x]
  | .mkfn _ cs => cs
  | .slS _ x lo hi => x :: lo.toList ++ hi.toList | .sl0 _ x => [x] | .slStr x lo hi => x :: lo.toList ++ hi.toList
  | .fld _ x => [x] | .fldV _ _ _ x => [x] | .ixA _ _ x i => [x, i] | .ixS _ x i => [x, i] | .ixStr x i => [x, i] | .ixV _ _ _ x i => [x, i]
  | .ext x _ => [x] | .len x => [x] | .cap0 x => [x] | .lenStr x => [x] | .mnmx _ xs => xs | .nn x => [x] | .bad => []
def HOp.opds : HOp → List Opd
  | .load _ _ a => [a] | .slA _ _ x lo hi => x :: lo.toList ++ hi.toList | .store _ a x => [a, x] | .app _ a b => [a, b] | .clr _ _ x => [x] | .s2b x => [x] | .b2s x => [x] | .mnew => [] | .mget _ _ m k => [m, k] | .mset m k x => [m, k, x] | .mlen m => [m] | .call f xs => f :: xs
def AOp.opds : AOp → List Opd | .p q => q.opds | .h q => q.opds
theorem fillAt_congr {e e' : Env} : ∀ (ps : List (Nat × Nat × Opd)) (cs : List C), (∀ x ∈ ps.map (fun p => p.2.2), Opd.ev e x = Opd.ev e' x) → fillAt e ps cs = fillAt e' ps cs
  | [], _, _ => rfl
  | (o, n, x) :: ps, cs, h => by
    have hx := h x (by simp)
    simp only [fillAt, hx]
    split
    · exact fillAt_congr ps _ fun y hy => h y (by simp only [List.map_cons, List.mem_cons]; exact .inr hy)
    · rfl
theorem mmL_congr {e e' : Env} (m : Bool) (k : IntKind) : ∀ (xs : List Opd) (a : Int), (∀ x ∈ xs, Opd.ev e x = Opd.ev e' x) → mmL e m k a xs = mmL e' m k a xs
  | [], _, _ => rfl
  | x :: xs, a, h => by
    simp only [mmL, h x (by simp)]
    split
    · split
      · exact mmL_congr m k xs _ fun y hy => h y (by simp [hy])
      · rfl
    · rfl
theorem capsOf_congr {e e' : Env} : ∀ (xs : List Opd), (∀ x ∈ xs, Opd.ev e x = Opd.ev e' x) → capsOf e xs = capsOf e' xs
  | [], _ => rfl
  | x :: xs, h => by
    simp only [capsOf, h x (by simp), capsOf_congr xs fun y hy => h y (by simp [hy])]
theorem bnd_congr {e e' : Env} (x : Option Opd) (d l : Nat) (h : ∀ y ∈ x.toList, Opd.ev e y = Opd.ev e' y) : bnd e x d l = bnd e' x d l := by
  cases x with
  | none => rfl
  | some y => simp only [bnd, h y (by simp)]
theorem pop_congr {e e' : Env} (n : Nat) (q : POp) (h : ∀ x ∈ q.opds, Opd.ev e x = Opd.ev e' x) : q.ev e n = q.ev e' n := by
  cases q <;> simp only [POp.opds] at h
  case build z ps => simp only [POp.ev, fillAt_congr ps _ h]
  case mksl sz k z ps => simp only [POp.ev, fillAt_congr ps _ h]
  case mkfn f cs => simp only [POp.ev, capsOf_congr cs h]
  case mnmx m xs =>
    cases xs with
    | nil => rfl
    | cons x xs =>
      simp only [POp.ev, h x (by simp)]
      split
      · rw [mmL_congr m _ xs _ fun y hy => h y (by simp [hy])]
      · rfl
  case slS sz x lo hi =>
    simp only [POp.ev, h x (by simp), bnd_congr (e := e) (e' := e') lo _ _ fun y hy => h y (by simp at hy ⊢; simp [hy]), bnd_congr (e := e) (e' := e') hi _ _ fun y hy => h y (by simp at hy ⊢; simp [hy])]
  case slStr x lo hi =>
    simp only [POp.ev, h x (by simp), bnd_congr (e := e) (e' := e') lo _ _ fun y hy => h y (by simp at hy ⊢; simp [hy]), bnd_congr (e := e) (e' := e') hi _ _ fun y hy => h y (by simp at hy ⊢; simp [hy])]
  all_goals simp only [POp.ev]
  all_goals (simp only [List.mem_cons, List.not_mem_nil, or_false, forall_eq_or_imp, forall_eq] at h)
  all_goals first | rfl | simp only [h]

/-- operands whose block is looked at; whose block is written -/
def AOp.rs : AOp → List Opd
  | .h (.load _ _ a) => [a] | .h (.slA _ _ x _ _) => [x] | .h (.store _ a _) => [a] | .h (.app _ a b) => [a, b] | .h (.clr _ _ x) => [x] | .h (.b2s x) => [x] | .h (.mget _ _ m _) => [m] | .h (.mset m _ _) => [m] | .h (.mlen m) => [m] | _ => []
def AOp.ws : AOp → List Opd
  | .h (.store _ a _) => [a] | .h (.app _ a _) => [a] | .h (.clr _ _ x) => [x] | .h (.mset m _ _) => [m] | _ => []
theorem readB_congr {H H' : HF} {i o n : Nat} (h : H i = H' i) : readB H i o n = readB H' i o n := by unfold readB; rw [h]
theorem appSrc_congr {H H' : HF} {sz : Nat} {v : V} (h : ∀ i, idOf v = some i → H i = H' i) : appSrc H sz v = appSrc H' sz v := by
  cases v with
  | c x => cases x <;> simp only [appSrc]
           rename_i i o ln sz'
           rw [readB_congr (h i rfl)]
  | _ => rfl
theorem reach_prefix (H : HF) : ∀ (n : Nat) (todo seen : List Nat), ∃ r, reach H n todo seen = seen ++ r
  | 0, _, seen => ⟨[], by simp [reach]⟩
  | _ + 1, [], seen => ⟨[], by simp [reach]⟩
  | n + 1, i :: todo, seen => by
    unfold reach
    split
    · exact reach_prefix H n todo seen
    · obtain ⟨r, hr⟩ := reach_prefix H n (todo ++ idsAt H i) (seen ++ [i])
      exact ⟨i :: r, by rw [hr]; simp⟩
theorem reach_congr {H H' : HF} : ∀ (n : Nat) (todo seen : List Nat), (∀ i ∈ reach H n todo seen, H i = H' i) → reach H' n todo seen = reach H n todo seen
  | 0, _, _, _ => rfl
  | _ + 1, [], _, _ => rfl
  | n + 1, i :: todo, seen, hm => by
    unfold reach at hm ⊢
    split
    · rename_i hi
      rw [if_pos hi] at hm
      exact reach_congr n todo seen hm
    · rename_i hi
      rw [if_neg hi] at hm
      have heq : H i = H' i := by
        obtain ⟨r, hr⟩ := reach_prefix H n (todo ++ idsAt H i) (seen ++ [i])
        exact hm i (by rw [hr]; simp)
      have he : idsAt H' i = idsAt H i := by unfold idsAt; rw [heq]
      rw [he]
      exact reach_congr n _ _ hm
/-- a call looks at the blocks that it tells of alone; they are there -/
theorem callA_congr {F : Fns} {f : Nat} {args : List V} {H H' : HF} {base : Nat} {r : Out} (hr : callA F f args H base = some r) (hm : ∀ p ∈ r.2.2, (H p.1).isSome = true → H p.1 = H' p.1) : callA F f args H' base = some r := by
  unfold callA at hr ⊢
  simp only at hr ⊢
  obtain ⟨L, hL⟩ : ∃ L, L = reach H 64 (args.flatMap V.ids) [] := ⟨_, rfl⟩
  rw [← hL] at hr
  split at hr
  · rename_i hc
    obtain ⟨x, hx, hr⟩ := Option.bind_eq_some_iff.1 hr
    split at hr
    · rename_i hle
      injection hr with hr
      have hL' : ∀ i ∈ L, H i = H' i := by
        intro i hi
        have hz : i ∈ (r.2.2).map Prod.fst := by
          rw [← hr]
          simp only
          rw [List.map_fst_zip (by simp; omega)]
          exact hi
        obtain ⟨p, hp, rfl⟩ := List.mem_map.1 hz
        have := List.all_eq_true.1 hc.1 p.1 hi
        simp only [Bool.and_eq_true] at this
        exact hm p hp this.1
      have hre : reach H' 64 (args.flatMap V.ids) [] = L := by rw [hL] at hL' ⊢; exact reach_congr _ _ _ hL'
      have hcl : closed L H' = closed L H := by
        unfold closed
        rw [Bool.eq_iff_iff]
        simp only [List.all_eq_true]
        constructor <;> intro hh i hi <;> have := hh i hi <;> simpa [idsAt, hL' i hi] using this
      have hsub : sub L H' = sub L H := by
        unfold sub
        exact List.map_congr_left fun i hi => by rw [hL' i hi]
      rw [hre, hcl, hsub, if_pos hc, hx]
      simp only [Option.bind_some]
      rw [if_pos hle, hr]
    · cases hr
  · cases hr
theorem hop_congr {F : Fns} {e e' : Env} {H H' : HF} (base : Nat) (q : HOp) (hq : (AOp.h q).isCall = false) (h : ∀ x ∈ q.opds, Opd.ev e x = Opd.ev e' x) (hH : ∀ y ∈ (AOp.h q).rs, ∀ i, idOf (y.ev e) = some i → H i = H' i) : q.ev F e H base = q.ev F e' H' base := by
  cases q with
  | load n agg a =>
    have ha := h a (by simp [HOp.opds])
    have hi := hH a (by simp [AOp.rs])
    simp only [HOp.ev, ← ha]
    split
    · rename_i i o hv; rw [readB_congr (hi i (by rw [hv]; rfl))]
    · rfl
  | slA m sz x lo hi =>
    have ha := h x (by simp [HOp.opds])
    have hi' := hH x (by simp [AOp.rs])
    have e1 := fun d l => bnd_congr (e := e) (e' := e') lo d l fun y hy => h y (by simp only [HOp.opds, List.cons_append, List.mem_cons, List.mem_append]; exact .inr (.inl hy))
    have e2 := fun d l => bnd_congr (e := e) (e' := e') hi d l fun y hy => h y (by simp only [HOp.opds, List.cons_append, List.mem_cons, List.mem_append]; exact .inr (.inr hy))
    simp only [HOp.ev, ← ha, e1, e2]
    split
    · rename_i i o hv; rw [readB_congr (hi' i (by rw [hv]; rfl))]
    · rfl
  | store n a x =>
    have ha := h a (by simp [HOp.opds])
    have hx := h x (by simp [HOp.opds])
    have hi := hH a (by simp [AOp.rs])
    simp only [HOp.ev, ← ha, ← hx]
    split
    · rename_i i o hv; rw [hi i (by rw [hv]; rfl)]
    · rfl
  | app sz a b =>
    have ha := h a (by simp [HOp.opds])
    have hb := h b (by simp [HOp.opds])
    have hi := hH a (by simp [AOp.rs])
    have hj := hH b (by simp [AOp.rs])
    simp only [HOp.ev, ← ha, ← hb, appSrc_congr hj]
    congr 1
    funext q
    split
    · rename_i i o ln sz' hv; rw [hi i (by rw [hv]; rfl)]
    · rfl
    · rfl
  | clr sz z x =>
    have ha := h x (by simp [HOp.opds])
    have hi := hH x (by simp [AOp.rs])
    simp only [HOp.ev, ← ha]
    split
    · rename_i i o ln sz' hv; rw [hi i (by rw [hv]; rfl)]
    · rfl
    · rfl
  | s2b x => simp only [HOp.ev, h x (by simp [HOp.opds])]
  | b2s x =>
    have ha := h x (by simp [HOp.opds])
    have hi := hH x (by simp [AOp.rs])
    simp only [HOp.ev, ← ha]
    split
    · rename_i i o ln hv; rw [readB_congr (hi i (by rw [hv]; rfl))]
    · rfl
    · rfl
  | mnew => rfl
  | mget z ok m k =>
    have ha := h m (by simp [HOp.opds])
    have hb := h k (by simp [HOp.opds])
    have hi := hH m (by simp [AOp.rs])
    simp only [HOp.ev, ← ha, ← hb]
    split
    · rename_i i cs hv _; rw [hi i (by rw [hv]; rfl)]
    · rfl
  | mset m k x =>
    have ha := h m (by simp [HOp.opds])
    have hb := h k (by simp [HOp.opds])
    have hc := h x (by simp [HOp.opds])
    have hi := hH m (by simp [AOp.rs])
    simp only [HOp.ev, ← ha, ← hb, ← hc]
    split
    · rename_i i cs kd n hv _ _; rw [hi i (by rw [hv]; rfl)]
    · rfl
  | mlen m =>
    have ha := h m (by simp [HOp.opds])
    have hi := hH m (by simp [AOp.rs])
    simp only [HOp.ev, ← ha]
    split
    · rename_i i hv; rw [hi i (by rw [hv]; rfl)]
    · rfl
  | call f xs => simp [AOp.isCall] at hq
/-- what a plain operation writes belongs to an operand of its own -/
theorem ws_ids {F : Fns} {q : AOp} {e : Env} {H : HF} {base : Nat} {r : Out} (hq : q.isCall = false) (h : q.ev F e H base = some r) : ∀ p ∈ r.2.2, ∃ x ∈ q.ws, idOf (x.ev e) = some p.1 := by
  cases q with
  | p q =>
    simp only [AOp.ev] at h
    obtain ⟨s, _, rfl⟩ := Option.map_eq_some_iff.1 h
    simp
  | h q =>
    simp only [AOp.ev] at h
    cases q with
    | load n agg a =>
      simp only [HOp.ev] at h
      split at h
      · obtain ⟨s, _, rfl⟩ := Option.map_eq_some_iff.1 h; simp
      · cases h
    | slA m sz x lo hi =>
      simp only [HOp.ev] at h
      split at h
      · split at h
        · obtain ⟨_, _, h⟩ := Option.bind_eq_some_iff.1 h
          obtain ⟨_, _, rfl⟩ := Option.map_eq_some_iff.1 h
          simp
        · cases h
      · cases h
    | store n a x =>
      simp only [HOp.ev] at h
      split at h
      · rename_i i o hv
        split at h
        · split at h
          · injection h with h; subst h; simp [AOp.ws, hv, idOf]
          · cases h
        · cases h
      · cases h
    | app sz a b =>
      simp only [HOp.ev] at h
      obtain ⟨_, _, h⟩ := Option.bind_eq_some_iff.1 h
      split at h
      · rename_i i o ln sz' hv
        split at h
        · split at h
          · injection h with h; subst h; simp [AOp.ws, hv, idOf]
          · cases h
        · cases h
      · split at h
        · injection h with h; subst h; simp
        · cases h
      · cases h
    | clr sz z x =>
      simp only [HOp.ev] at h
      split at h
      · rename_i i o ln sz' hv
        split at h
        · split at h
          · injection h with h; subst h; simp [AOp.ws, hv, idOf]
          · cases h
        · cases h
      · injection h with h; subst h; simp
      · cases h
    | s2b x =>
      simp only [HOp.ev] at h
      split at h
      · split at h
        · injection h with h; subst h; simp
        · cases h
      · cases h
    | b2s x =>
      simp only [HOp.ev] at h
      split at h
      · obtain ⟨_, _, h⟩ := Option.bind_eq_some_iff.1 h
        split at h
        · injection h with h; subst h; simp
        · cases h
      · injection h with h; subst h; simp
      · cases h
    | mnew => simp only [HOp.ev] at h; injection h with h; subst h; simp
    | mget z ok m k =>
      simp only [HOp.ev] at h
      split at h
      · split at h
        · split at h
          · injection h with h; subst h; simp
          · cases h
        · cases h
      · cases h
    | mset m k x =>
      simp only [HOp.ev] at h
      split at h
      · rename_i i cs kd n hv _ _
        split at h
        · split at h
          · injection h with h; subst h; simp [AOp.ws, hv, idOf]
          · cases h
        · cases h
      · cases h
    | mlen m =>
      simp only [HOp.ev] at h
      split at h
      · split at h
        · injection h with h; subst h; simp
        · cases h
      · cases h
    | call f args => simp [AOp.isCall] at hq
theorem updU_other : ∀ (us : List (Nat × Blk)) (H : HF) (i : Nat), (∀ p ∈ us, p.1 ≠ i) → updU us H i = H i
  | [], _, _, _ => rfl
  | p :: us, H, i, h => by
    simp only [updU]
    rw [updU_other us _ i fun q hq => h q (by simp [hq]), if_neg (Ne.symm (h p (by simp)))]
theorem updU_same : ∀ (us : List (Nat × Blk)) (H : HF), (∀ p ∈ us, H p.1 = some p.2) → updU us H = H
  | [], _, _ => rfl
  | p :: us, H, h => by
    simp only [updU]
    have he : (fun i => if i = p.1 then some p.2 else H i) = H := by
      funext i
      by_cases hi : i = p.1
      · rw [if_pos hi, hi, h p (by simp)]
      · rw [if_neg hi]
    rw [he]
    exact updU_same us H fun q hq => h q (by simp [hq])
end Go.Proofs.YtgpafbbnobanbaaGreatDoor.AM

/-
  The proof for regions whose order is open: the state is told by the set of operations that have been carried out.
-/
namespace Go.Proofs.YtgpafbbnobanbaaGreatDoor.AM
open Go

/-- what binds: the transitive closure of the model's edges -/
inductive Anc (ops : Array Oper) : Nat → Nat → Prop
  | edge {j : Nat} {o : Oper} {e : Edge} : ops[j]? = some o → e ∈ o.after → Region.binds .any e = true → Anc ops e.on j
  | step {i j : Nat} {o : Oper} {e : Edge} : ops[j]? = some o → e ∈ o.after → Region.binds .any e = true → Anc ops i e.on → Anc ops i j
def EdgesIn (ops : Array Oper) (S : Nat → Bool) (j : Nat) : Prop := ∀ o e, ops[j]? = some o → e ∈ o.after → Region.binds .any e = true → S e.on = true
def Down (ops : Array Oper) (S : Nat → Bool) : Prop := ∀ j, S j = true → EdgesIn ops S j
theorem anc_ready {ops : Array Oper} {S : Nat → Bool} (hd : Down ops S) {i j : Nat} (h : Anc ops i j) (hj : EdgesIn ops S j) : S i = true := by
  induction h with
  | edge ho he hb => exact hj _ _ ho he hb
  | step ho he hb _ ih => exact ih (hd _ (hj _ _ ho he hb))
theorem anc_down {ops : Array Oper} {S : Nat → Bool} (hd : Down ops S) {i j : Nat} (h : Anc ops i j) (hj : S j = true) : S i = true := anc_ready hd h (hd j hj)

/-- the listed run, state by state; what each operation ahead has made -/
def bsT (bs : List (Nat × Nat)) (tr : Nat → Env × Heap) (k : Nat) : List (Nat × Nat) := bs ++ (List.range k).map fun j => ((tr j).2.length, (tr (j + 1)).2.length)
structure TrB (F : Fns) (n0 : Nat) (ms : List (List Nat)) (bs : List (Nat × Nat)) (qs : List AOper) (tr : Nat → Env × Heap) (out : Nat → Out) : Prop where
  step : ∀ k q, qs[k]? = some q → outA F q (tr k).1 (lkp (tr k).2) (tr k).2.length = some (out k) ∧ okE n0 (ms.getD k []) (bsT bs tr k) (tr k).2 (tr k).1 (out k).2.2 q.o = true ∧
    tr (k + 1) = (put (tr k).1 q.d (out k).1, ups (out k).2.2 (tr k).2 ++ (out k).2.1)
abbrev Tr (F : Fns) (n0 : Nat) (ms : List (List Nat)) (qs : List AOper) (tr : Nat → Env × Heap) (out : Nat → Out) : Prop := TrB F n0 ms [] qs tr out
theorem trB_of {F : Fns} {n0 : Nat} : ∀ (qs : List AOper) (ms : List (List Nat)) (bs : List (Nat × Nat)) (e : Env) (h : Heap) (e' : Env) (h' : Heap), runOpsE F n0 qs ms bs e h = some (e', h') → ∃ tr out, TrB F n0 ms bs qs tr out ∧ tr 0 = (e, h) ∧ tr qs.length = (e', h')
  | [], ms, bs, e, h, e', h', hr => by
    simp only [runOpsE, Option.some.injEq] at hr
    exact ⟨fun _ => (e, h), fun _ => (.c .dead, [], []), ⟨fun k q hq => by simp at hq⟩, rfl, hr⟩
  | q :: qs, ms, bs, e, h, e', h', hr => by
    simp only [runOpsE, stepE] at hr
    obtain ⟨s, hs, hr⟩ := Option.bind_eq_some_iff.1 hr
    obtain ⟨r, hr1, hs⟩ := Option.bind_eq_some_iff.1 hs
    split at hs
    · rename_i hok
      injection hs with hs
      obtain ⟨tr, out, ht, h0, hn⟩ := trB_of qs ms.tail (bs ++ [(h.length, s.2.length)]) s.1 s.2 e' h' hr
      refine ⟨fun k => match k with | 0 => (e, h) | k + 1 => tr k, fun k => match k with | 0 => r | k + 1 => out k, ⟨fun k q' hq => ?_⟩, rfl, hn⟩
      cases k with
      | zero =>
        simp at hq; subst hq
        refine ⟨hr1, ?_, by simp only [h0]; exact hs.symm⟩
        simp only [bsT, List.range_zero, List.map_nil, List.append_nil]
        rw [show ms.getD 0 [] = ms.headD [] from by cases ms <;> rfl]
        exact hok
      | succ k =>
        obtain ⟨a1, a2, a3⟩ := ht.step k q' (by simpa using hq)
        refine ⟨a1, ?_, a3⟩
        have e1 : ms.getD (k + 1) [] = ms.tail.getD k [] := by cases ms <;> simp
        have e2 : bsT bs (fun k => match k with | 0 => (e, h) | k + 1 => tr k) (k + 1) = bsT (bs ++ [(h.length, s.2.length)]) tr k := by
          unfold bsT
          rw [List.range_succ_eq_map, List.map_cons, List.map_map, List.append_assoc]
          simp only [h0, List.cons_append, List.nil_append]
          rfl
        rw [e1, e2]
        exact a2
    · cases hs
theorem tr_of {F : Fns} {n0 : Nat} (qs : List AOper) (ms : List (List Nat)) (e : Env) (h : Heap) (e' : Env) (h' : Heap) (hr : runOpsE F n0 qs ms [] e h = some (e', h')) : ∃ tr out, Tr F n0 ms qs tr out ∧ tr 0 = (e, h) ∧ tr qs.length = (e', h') := trB_of qs ms [] e h e' h' hr
/-- the stricter rule is a case of this one -/
theorem smallE_of {n : Nat} {as : List Nat} {bs : List (Nat × Nat)} {v : V} (h : smallSl n v = true) : smallE n as bs v = true := by
  cases v with
  | c x => cases x <;> first | rfl | (simp only [smallSl, smallE, Bool.or_eq_true] at h ⊢; exact .inl h)
  | _ => rfl
theorem okE_of_okD {n : Nat} {bs : List (Nat × Nat)} {h : Heap} {e : Env} {us : List (Nat × Blk)} {o : AOp} (hd : okD n h e us o = true) : okE n [] bs h e us o = true := by
  cases o with
  | p q => rfl
  | h q =>
    cases q with
    | call f xs =>
      have hs : stillA n h us = true := hd
      have hf : farE [] e us = true := by simp [farE]
      show (stillE n [] bs h us && farE [] e us) = true
      rw [hf, Bool.and_true]
      unfold stillE
      rw [List.all_eq_true]
      intro p hp
      have := List.all_eq_true.1 hs p hp
      simp only [Bool.and_eq_true, Bool.or_eq_true] at this ⊢
      exact ⟨.inl this.1, .inr this.2⟩
    | app sz a b =>
      simp only [okD, okE, Bool.and_eq_true] at hd ⊢
      exact ⟨smallE_of hd.1, smallE_of hd.2⟩
    | clr sz z x => exact smallE_of (show smallSl n (x.ev e) = true from hd)
    | b2s x => exact smallE_of (show smallSl n (x.ev e) = true from hd)
    | _ => rfl
theorem runE_of_D {F : Fns} {n : Nat} : ∀ (qs : List AOper) (bs : List (Nat × Nat)) (e : Env) (h : Heap) r, runOpsD F n qs e h = some r → runOpsE F n qs [] bs e h = some r
  | [], bs, e, h, r, hr => hr
  | q :: qs, bs, e, h, r, hr => by
    simp only [runOpsD, stepD] at hr
    simp only [runOpsE, stepE]
    obtain ⟨s, hs, hr⟩ := Option.bind_eq_some_iff.1 hr
    obtain ⟨x, hx, hs⟩ := Option.bind_eq_some_iff.1 hs
    split at hs
    · rename_i hok
      rw [hx]
      simp only [Option.bind_some]
      have hk2 : okE n (([] : List (List Nat)).headD []) bs h e x.2.2 q.o = true := okE_of_okD hok
      rw [if_pos hk2, hs]
      exact runE_of_D qs _ _ _ r hr
    · cases hs
theorem madeA_at {as : List Nat} {bs : List (Nat × Nat)} {b : Nat} (h : madeA as bs b = true) : ∃ k ∈ as, ∃ q, bs[k]? = some q ∧ q.1 ≤ b ∧ b < q.2 := by
  obtain ⟨k, hk, h1⟩ := List.any_eq_true.1 h
  split at h1
  · rename_i q hq
    simp only [Bool.and_eq_true, decide_eq_true_eq] at h1
    exact ⟨k, hk, q, hq, h1.1, h1.2⟩
  · cases h1
theorem okE_call {n : Nat} {as : List Nat} {bs : List (Nat × Nat)} {h : Heap} {e : Env} {us : List (Nat × Blk)} {o : AOp} (hc : o.isCall = true) (hk : okE n as bs h e us o = true) : ∀ p ∈ us, (p.1 < n ∨ ∃ k ∈ as, ∃ q, bs[k]? = some q ∧ q.1 ≤ p.1 ∧ p.1 < q.2) ∧ (as.contains bs.length = true ∨ h[p.1]? = some p.2) := by
  have hs : stillE n as bs h us = true := by
    cases o with
    | p q => simp [AOp.isCall] at hc
    | h q => cases q <;> first | exact (Bool.and_eq_true_iff.1 hk).1 | simp [AOp.isCall] at hc
  intro p hp
  have := List.all_eq_true.1 hs p hp
  simp only [Bool.and_eq_true, Bool.or_eq_true, decide_eq_true_eq] at this
  exact ⟨this.1.imp id madeA_at, this.2⟩
theorem okE_far {n : Nat} {as : List Nat} {bs : List (Nat × Nat)} {h : Heap} {e : Env} {us : List (Nat × Blk)} {o : AOp} (hc : o.isCall = true) (hk : okE n as bs h e us o = true) : ∀ p ∈ us, ∀ t, (t + 1000000) ∈ as → idOf (get e t) ≠ some p.1 := by
  have hs : farE as e us = true := by
    cases o with
    | p q => simp [AOp.isCall] at hc
    | h q => cases q <;> first | exact (Bool.and_eq_true_iff.1 hk).2 | simp [AOp.isCall] at hc
  intro p hp t ht
  have := List.all_eq_true.1 (List.all_eq_true.1 hs p hp) _ ht
  simp only [Bool.or_eq_true, decide_eq_true_eq] at this
  have h2 := this.resolve_left (by omega)
  rwa [Nat.add_sub_cancel] at h2
theorem bsT_get {tr : Nat → Env × Heap} {k j : Nat} {q : Nat × Nat} (h : (bsT [] tr k)[j]? = some q) : j < k ∧ q = ((tr j).2.length, (tr (j + 1)).2.length) := by
  unfold bsT at h
  rw [List.nil_append, List.getElem?_map] at h
  obtain ⟨i, hi, hq⟩ := Option.map_eq_some_iff.1 h
  obtain ⟨hj, he⟩ := List.getElem?_eq_some_iff.1 hi
  simp at hj he
  subst he
  exact ⟨hj, hq.symm⟩

section
variable {F : Fns} {n0 : Nat} {ms : List (List Nat)} {qs : List AOper} {tr : Nat → Env × Heap} {out : Nat → Out}
/-- a call that may write -/
def loudT (ms : List (List Nat)) (k : Nat) : Bool := (ms.getD k []).contains k
theorem bsT_len (tr : Nat → Env × Heap) (k : Nat) : (bsT [] tr k).length = k := by unfold bsT; simp
def usT (ms : List (List Nat)) (qs : List AOper) (out : Nat → Out) (k : Nat) : List (Nat × Blk) := match qs[k]? with | some q => if (q.o.isCall && !loudT ms k) = true then [] else (out k).2.2 | none => []
def nsT (qs : List AOper) (out : Nat → Out) (k : Nat) : List Blk := match qs[k]? with | some _ => (out k).2.1 | none => []
def dT (qs : List AOper) (k : Nat) : Option Nat := (qs[k]?).bind (·.d)
def ES (qs : List AOper) (tr : Nat → Env × Heap) (out : Nat → Out) (S : Nat → Bool) : Nat → Env
  | 0 => (tr 0).1
  | k + 1 => if S k then put (ES qs tr out S k) (dT qs k) (out k).1 else ES qs tr out S k
def HS (ms : List (List Nat)) (qs : List AOper) (tr : Nat → Env × Heap) (out : Nat → Out) (S : Nat → Bool) : Nat → HF
  | 0 => lkp (tr 0).2
  | k + 1 => if S k then updH (HS ms qs tr out S k) (tr k).2.length (nsT qs out k) (usT ms qs out k) else HS ms qs tr out S k
theorem get_put (e : Env) (d : Option Nat) (v : V) (t : Nat) : get (put e d v) t = if d = some t then v else get e t := by
  cases d with
  | none => simp [put]
  | some d =>
    simp only [put, AM.get, Option.some.injEq]
theorem tr_len (ht : Tr F n0 ms qs tr out) {k : Nat} (hk : k < qs.length) : (tr (k + 1)).2.length = (tr k).2.length + (nsT qs out k).length := by
  have hq := List.getElem?_eq_getElem hk
  obtain ⟨_, _, h⟩ := ht.step k _ hq
  rw [h]
  simp only [List.length_append, ups_length, nsT, hq]
theorem tr_mono (ht : Tr F n0 ms qs tr out) : ∀ {k k' : Nat}, k ≤ k' → k' ≤ qs.length → (tr k).2.length ≤ (tr k').2.length := by
  intro k k' h
  induction h with
  | refl => intro _; exact Nat.le_refl _
  | @step m h ih =>
    intro hk
    have := ih (by omega)
    have h2 := tr_len ht (k := m) (by omega)
    exact Nat.le_trans this (by rw [h2]; omega)
theorem tr_end (ht : Tr F n0 ms qs tr out) {k k' : Nat} (h : k < k') (hk : k' ≤ qs.length) : (tr k).2.length + (nsT qs out k).length ≤ (tr k').2.length := by
  rw [← tr_len ht (by omega)]; exact tr_mono ht (by omega) hk
theorem usT_some (ht : Tr F n0 ms qs tr out) {k : Nat} {p : Nat × Blk} (hp : p ∈ usT ms qs out k) : ∃ q, qs[k]? = some q ∧ (q.o.isCall = false ∨ loudT ms k = true) ∧ p ∈ (out k).2.2 ∧ p.1 < (tr k).2.length := by
  unfold usT at hp
  split at hp
  · rename_i q hq
    split at hp
    · simp at hp
    · rename_i hc
      refine ⟨q, hq, ?_, hp, ?_⟩
      · cases hcc : q.o.isCall with
        | false => exact .inl rfl
        | true =>
          cases hll : loudT ms k with
          | true => exact .inr rfl
          | false => rw [hcc, hll] at hc; exact absurd rfl hc
      have := out_ups (ht.step k q hq).1 p hp
      obtain ⟨b, hb⟩ := Option.isSome_iff_exists.1 this
      exact (List.getElem?_eq_some_iff.1 hb).1
  · simp at hp
theorem updH_at {H : HF} {base : Nat} {ns : List Blk} {us : List (Nat × Blk)} {b : Nat} (h1 : b < base ∨ base + ns.length ≤ b) (h2 : ∀ p ∈ us, p.1 ≠ b) : updH H base ns us b = H b := by
  unfold updH
  rw [if_neg (by omega), updU_other us H b h2]
theorem ES_all (ht : Tr F n0 ms qs tr out) {S : Nat → Bool} : ∀ K, K ≤ qs.length → (∀ k, k < K → S k = true) → ES qs tr out S K = (tr K).1
  | 0, _, _ => rfl
  | K + 1, hK, h => by
    have hq := List.getElem?_eq_getElem (by omega : K < qs.length)
    simp only [ES, h K (by omega), if_true, ES_all ht K (by omega) fun k hk => h k (by omega)]
    rw [(ht.step K _ hq).2.2]
    simp [dT, hq]
theorem HS_all (ht : Tr F n0 ms qs tr out) {S : Nat → Bool} : ∀ K, K ≤ qs.length → (∀ k, k < K → S k = true) → HS ms qs tr out S K = lkp (tr K).2
  | 0, _, _ => rfl
  | K + 1, hK, h => by
    have hq := List.getElem?_eq_getElem (by omega : K < qs.length)
    obtain ⟨h1, h2, h3⟩ := ht.step K _ hq
    simp only [HS, h K (by omega), if_true, HS_all ht K (by omega) fun k hk => h k (by omega)]
    rw [h3, lkp_step (out_ups h1)]
    simp only [nsT, usT, hq]
    split
    · rename_i hc
      simp only [Bool.and_eq_true, Bool.not_eq_true'] at hc
      have he : updU (out K).2.2 (lkp (tr K).2) = lkp (tr K).2 := updU_same _ _ fun p hp => ((okE_call hc.1 h2 p hp).2.resolve_left fun h => by
        rw [bsT_len] at h
        have h5 : loudT ms K = true := h
        rw [hc.2] at h5; cases h5)
      funext i
      simp only [updH, updU, he]
    · rfl
theorem ES_skip {S : Nat → Bool} {K t : Nat} : ∀ m, (∀ k, K ≤ k → k < K + m → S k = true → dT qs k ≠ some t) → get (ES qs tr out S (K + m)) t = get (ES qs tr out S K) t
  | 0, _ => rfl
  | m + 1, h => by
    rw [← Nat.add_assoc]
    simp only [ES]
    split
    · rename_i hs
      rw [get_put, if_neg (h (K + m) (by omega) (by omega) hs)]
      exact ES_skip m fun k h1 h2 => h k h1 (by omega)
    · exact ES_skip m fun k h1 h2 => h k h1 (by omega)
theorem ES_agree {S S' : Nat → Bool} {t : Nat} : ∀ K, (∀ k, k < K → dT qs k = some t → S k = S' k) → get (ES qs tr out S K) t = get (ES qs tr out S' K) t
  | 0, _ => rfl
  | K + 1, h => by
    have ih := ES_agree (S := S) (S' := S') (t := t) K fun k hk => h k (by omega)
    simp only [ES]
    by_cases hd : dT qs K = some t
    · rw [h K (by omega) hd]
      split
      · rw [get_put, get_put, if_pos hd, if_pos hd]
      · exact ih
    · split <;> split <;> simp only [get_put, if_neg hd, ih]
theorem HS_skip {S : Nat → Bool} {K b : Nat} : ∀ m, (∀ k, K ≤ k → k < K + m → S k = true → (b < (tr k).2.length ∨ (tr k).2.length + (nsT qs out k).length ≤ b) ∧ ∀ p ∈ usT ms qs out k, p.1 ≠ b) → HS ms qs tr out S (K + m) b = HS ms qs tr out S K b
  | 0, _ => rfl
  | m + 1, h => by
    rw [← Nat.add_assoc]
    simp only [HS]
    split
    · rename_i hs
      obtain ⟨h1, h2⟩ := h (K + m) (by omega) (by omega) hs
      rw [updH_at h1 h2]
      exact HS_skip m fun k h1 h2 => h k h1 (by omega)
    · exact HS_skip m fun k h1 h2 => h k h1 (by omega)
theorem HS_agree {S S' : Nat → Bool} {b : Nat} : ∀ K, (∀ k, k < K → S k ≠ S' k → (b < (tr k).2.length ∨ (tr k).2.length + (nsT qs out k).length ≤ b) ∧ ∀ p ∈ usT ms qs out k, p.1 ≠ b) → HS ms qs tr out S K b = HS ms qs tr out S' K b
  | 0, _ => rfl
  | K + 1, h => by
    have ih := HS_agree (S := S) (S' := S') (b := b) K fun k hk => h k (by omega)
    simp only [HS]
    by_cases hS : S K = S' K
    · rw [hS]
      split
      · have key : ∀ (us : List (Nat × Blk)) (H H' : HF), H b = H' b → updU us H b = updU us H' b := by
          intro us
          induction us with
          | nil => intro H H' hh; exact hh
          | cons p us ihu => intro H H' hh; simp only [updU]; exact ihu _ _ (by simp only [hh])
        unfold updH
        split
        · rfl
        · exact key _ _ _ ih
      · exact ih
    · obtain ⟨h1, h2⟩ := h K (by omega) hS
      split <;> split <;> simp only [updH_at h1 h2, ih]
end
end Go.Proofs.YtgpafbbnobanbaaGreatDoor.AM

/-
  A step of any order, seen from the listed one.
-/
namespace Go.Proofs.YtgpafbbnobanbaaGreatDoor.AM
open Go

def Opd.tmp : Opd → Option Nat | .t n => some n | _ => none
def AOper.reads (q : AOper) : List Nat := q.o.opds.filterMap Opd.tmp ++ (match q.g with | some (s, _) => [s] | none => [])
def readsT (qs : List AOper) (k : Nat) : List Nat := match qs[k]? with | some q => q.reads | none => []
def SlotC (qs : List AOper) (i j : Nat) : Prop := ∃ t, (dT qs i = some t ∧ (t ∈ readsT qs j ∨ dT qs j = some t)) ∨ (dT qs j = some t ∧ t ∈ readsT qs i)
/-- operands that name no block unless they are slots -/
def plainRs (q : AOper) : Prop := ∀ y ∈ q.o.rs, (∃ t, y = .t t) ∨ ∀ e, idOf (y.ev e) = none
theorem rs_opds {q : AOp} {y : Opd} (h : y ∈ q.rs) : y ∈ q.opds := by
  cases q with
  | p q => simp [AOp.rs] at h
  | h q => cases q <;> simp_all [AOp.rs, AOp.opds, HOp.opds] <;> first | done | (rcases h with h | h <;> simp [h])
theorem ws_rs {q : AOp} {y : Opd} (h : y ∈ q.ws) : y ∈ q.rs := by
  cases q with
  | p q => simp [AOp.ws] at h
  | h q => cases q <;> simp_all [AOp.rs, AOp.ws]
theorem readB_some {H : HF} {i o n : Nat} {cs : List C} (h : readB H i o n = some cs) : (H i).isSome = true := by
  unfold readB at h
  split at h
  · rename_i hb; rw [hb]; rfl
  · cases h
/-- what is looked at is there -/
theorem rs_some {F : Fns} {q : AOp} {e : Env} {H : HF} {base : Nat} {r : Out} (h : q.ev F e H base = some r) : ∀ y ∈ q.rs, ∀ b, idOf (y.ev e) = some b → (H b).isSome = true := by
  cases q with
  | p q => intro y hy; simp [AOp.rs] at hy
  | h q =>
    simp only [AOp.ev] at h
    cases q with
    | load n agg a =>
      intro y hy b hb
      simp [AOp.rs] at hy; subst hy
      simp only [HOp.ev] at h
      split at h
      · rename_i i o hv
        rw [hv] at hb; simp [idOf] at hb; subst hb
        obtain ⟨cs, hc, _⟩ := Option.map_eq_some_iff.1 h
        exact readB_some hc
      · cases h
    | slA m sz x lo hi =>
      intro y hy b hb
      simp [AOp.rs] at hy; subst hy
      simp only [HOp.ev] at h
      split at h
      · rename_i i o hv
        rw [hv] at hb; simp [idOf] at hb; subst hb
        split at h
        · rename_i hc; exact readB_some hc
        · cases h
      · cases h
    | store n a x =>
      intro y hy b hb
      simp [AOp.rs] at hy; subst hy
      simp only [HOp.ev] at h
      split at h
      · rename_i i o hv
        rw [hv] at hb; simp [idOf] at hb; subst hb
        split at h
        · rename_i hc; rw [hc]; rfl
        · cases h
      · cases h
    | app sz a x =>
      intro y hy b hb
      simp [AOp.rs] at hy
      simp only [HOp.ev] at h
      obtain ⟨q, hq, h⟩ := Option.bind_eq_some_iff.1 h
      rcases hy with rfl | rfl
      · split at h
        · rename_i i o ln sz' hv
          rw [hv] at hb; simp [idOf] at hb; subst hb
          split at h
          · rename_i hc; rw [hc]; rfl
          · cases h
        · rename_i hv; rw [hv] at hb; simp [idOf] at hb
        · cases h
      · unfold appSrc at hq
        split at hq
        · rename_i i o ln sz' hv
          rw [hv] at hb; simp [idOf] at hb; subst hb
          split at hq
          · obtain ⟨cs, hc, _⟩ := Option.bind_eq_some_iff.1 hq
            exact readB_some hc
          · cases hq
        · rename_i hv; rw [hv] at hb; simp [idOf] at hb
        · cases hq
    | clr sz z x =>
      intro y hy b hb
      simp [AOp.rs] at hy; subst hy
      simp only [HOp.ev] at h
      split at h
      · rename_i i o ln sz' hv
        rw [hv] at hb; simp [idOf] at hb; subst hb
        split at h
        · rename_i hc; rw [hc]; rfl
        · cases h
      · rename_i hv; rw [hv] at hb; simp [idOf] at hb
      · cases h
    | s2b x => intro y hy; simp [AOp.rs] at hy
    | b2s x =>
      intro y hy b hb
      simp [AOp.rs] at hy; subst hy
      simp only [HOp.ev] at h
      split at h
      · rename_i i o ln hv
        rw [hv] at hb; simp [idOf] at hb; subst hb
        obtain ⟨cs, hc, _⟩ := Option.bind_eq_some_iff.1 h
        exact readB_some hc
      · rename_i hv; rw [hv] at hb; simp [idOf] at hb
      · cases h
    | mnew => intro y hy; simp [AOp.rs] at hy
    | mget z ok m k =>
      intro y hy b hb
      simp [AOp.rs] at hy; subst hy
      simp only [HOp.ev] at h
      split at h
      · rename_i i cs hv _
        rw [hv] at hb; simp [idOf] at hb; subst hb
        split at h
        · rename_i hc; rw [hc]; rfl
        · cases h
      · cases h
    | mset m k x =>
      intro y hy b hb
      simp [AOp.rs] at hy; subst hy
      simp only [HOp.ev] at h
      split at h
      · rename_i i cs kd n hv _ _
        rw [hv] at hb; simp [idOf] at hb; subst hb
        split at h
        · rename_i hc; rw [hc]; rfl
        · cases h
      · cases h
    | mlen m =>
      intro y hy b hb
      simp [AOp.rs] at hy; subst hy
      simp only [HOp.ev] at h
      split at h
      · rename_i i hv
        rw [hv] at hb; simp [idOf] at hb; subst hb
        split at h
        · rename_i hc; rw [hc]; rfl
        · cases h
      · cases h
    | call f xs => intro y hy; simp [AOp.rs] at hy
/-- a slice that is looked at is old, or not empty, or made by an operation that must come ahead -/
theorem okE_small {n : Nat} {as : List Nat} {bs : List (Nat × Nat)} {h : Heap} {e : Env} {us : List (Nat × Blk)} {q : AOp} (hok : okE n as bs h e us q = true) {F : Fns} {H : HF} {base : Nat} {r : Out} (hev : q.ev F e H base = some r) : ∀ y ∈ q.rs, smallE n as bs (y.ev e) = true := by
  cases q with
  | p q => intro y hy; simp [AOp.rs] at hy
  | h q =>
    simp only [AOp.ev] at hev
    intro y hy
    cases q with
    | load m agg a =>
      simp [AOp.rs] at hy; subst hy
      simp only [HOp.ev] at hev
      split at hev
      · rename_i i o hv; rw [hv]; rfl
      · cases hev
    | slA m sz x lo hi =>
      simp [AOp.rs] at hy; subst hy
      simp only [HOp.ev] at hev
      split at hev
      · rename_i i o hv; rw [hv]; rfl
      · cases hev
    | store m a x =>
      simp [AOp.rs] at hy; subst hy
      simp only [HOp.ev] at hev
      split at hev
      · rename_i i o hv; rw [hv]; rfl
      · cases hev
    | app sz a b =>
      simp only [okE, Bool.and_eq_true] at hok
      simp [AOp.rs] at hy
      rcases hy with rfl | rfl
      · exact hok.1
      · exact hok.2
    | clr sz z x =>
      simp [AOp.rs] at hy; subst hy
      exact hok
    | s2b x => simp [AOp.rs] at hy
    | b2s x =>
      simp [AOp.rs] at hy; subst hy
      exact hok
    | mnew => simp [AOp.rs] at hy
    | mget z ok m k =>
      simp [AOp.rs] at hy; subst hy
      simp only [HOp.ev] at hev
      split at hev
      · rename_i hv _; rw [hv]; rfl
      · cases hev
    | mset m k x =>
      simp [AOp.rs] at hy; subst hy
      simp only [HOp.ev] at hev
      split at hev
      · rename_i hv _ _; rw [hv]; rfl
      · cases hev
    | mlen m =>
      simp [AOp.rs] at hy; subst hy
      simp only [HOp.ev] at hev
      split at hev
      · rename_i hv; rw [hv]; rfl
      · cases hev
    | call f xs => simp [AOp.rs] at hy
theorem opd_agree {e e' : Env} {q : AOper} (h : ∀ t ∈ q.reads, get e t = get e' t) : ∀ x ∈ q.o.opds, Opd.ev e x = Opd.ev e' x := by
  intro x hx
  cases x with
  | t n =>
    simp only [Opd.ev]
    refine h n ?_
    unfold AOper.reads
    exact List.mem_append_left _ (List.mem_filterMap.2 ⟨_, hx, rfl⟩)
  | k v => rfl
  | f f => rfl
theorem wanted_agree {e e' : Env} {q : AOper} (h : ∀ t ∈ q.reads, get e t = get e' t) : wantedA e q.g = wantedA e' q.g := by
  unfold AOper.reads at h
  cases hg : q.g with
  | none => rfl
  | some p =>
    obtain ⟨s, b⟩ := p
    rw [hg] at h
    simp only [wantedA]
    rw [h s (by simp)]
theorem updU_hit : ∀ (us : List (Nat × Blk)) (H H' : HF) (b : Nat), (∃ p ∈ us, p.1 = b) → updU us H b = updU us H' b
  | [], _, _, _, h => by obtain ⟨p, hp, _⟩ := h; simp at hp
  | q :: us, H, H', b, h => by
    simp only [updU]
    by_cases hu : ∃ p ∈ us, p.1 = b
    · exact updU_hit us _ _ b hu
    · have hq : q.1 = b := by
        obtain ⟨p, hp, hpb⟩ := h
        rcases List.mem_cons.1 hp with rfl | hp
        · exact hpb
        · exact absurd ⟨p, hp, hpb⟩ hu
      rw [updU_other us _ b fun p hp hpb => hu ⟨p, hp, hpb⟩, updU_other us _ b fun p hp hpb => hu ⟨p, hp, hpb⟩]
      simp [hq]

/-- what is asked of a region's code -/
structure Hyp (P : Program) (F : Fns) (nt n0 : Nat) (ms : List (List Nat)) (ops : Array Oper) (qs : List AOper) (tr : Nat → Env × Heap) (out : Nat → Out) : Prop where
  ht : Tr F n0 ms qs tr out
  an : ∀ k j, j ∈ ms.getD k [] → j < qs.length → j ≠ k → Anc ops j k
  len : ops.size = qs.length
  n0 : (tr 0).2.length = n0
  ok : ∀ (k : Nat) o q, ops[k]? = some o → qs[k]? = some q → okOper P nt ops o q = true
  rs : ∀ (k : Nat) q, qs[k]? = some q → plainRs q
  lower : ∀ i j, Anc ops i j → i < j
  c1 : ∀ i j, i < j → j < qs.length → SlotC qs i j → Anc ops i j
  c2 : ∀ (i j : Nat) q q', i < j → qs[i]? = some q → qs[j]? = some q' → Anc ops i j ∨
    ((∀ x ∈ q.o.ws, ∀ y ∈ q'.o.rs, ∀ b, idOf (x.ev (tr i).1) = some b → idOf (y.ev (tr j).1) ≠ some b) ∧
     (∀ x ∈ q.o.rs, ∀ y ∈ q'.o.ws, ∀ b, idOf (x.ev (tr i).1) = some b → idOf (y.ev (tr j).1) ≠ some b) ∧
     (q.o.isCall = true → q'.o.ws = []) ∧ (q'.o.isCall = true → q.o.ws = []) ∧
     (loudT ms i = true → q.o.isCall = true → q'.o.isCall = false ∧ (∀ y ∈ q'.o.rs, ∀ p ∈ (out i).2.2, idOf (y.ev (tr j).1) ≠ some p.1) ∧ q'.o.ws = []) ∧ (loudT ms j = true → q'.o.isCall = true → q.o.isCall = false ∧ (∀ y ∈ q.o.rs, ∀ p ∈ (out j).2.2, idOf (y.ev (tr i).1) ≠ some p.1) ∧ q.o.ws = []))
section
variable {P : Program} {F : Fns} {nt n0 : Nat} {ms : List (List Nat)} {ops : Array Oper} {qs : List AOper} {tr : Nat → Env × Heap} {out : Nat → Out}
theorem slot_agree (hy : Hyp P F nt n0 ms ops qs tr out) {S : Nat → Bool} {i : Nat} {q : AOper} (hq : qs[i]? = some q) (hS : S i = false) (hr : EdgesIn ops S i) (hd : Down ops S) :
    ∀ t ∈ q.reads, get (ES qs tr out S qs.length) t = get (tr i).1 t := by
  intro t ht
  have hi : i < qs.length := (List.getElem?_eq_some_iff.1 hq).1
  have htr : t ∈ readsT qs i := by unfold readsT; rw [hq]; exact ht
  rw [← ES_all hy.ht (S := fun _ => true) i (by omega) fun _ _ => rfl]
  have h1 := ES_skip (qs := qs) (tr := tr) (out := out) (S := S) (K := i) (t := t) (qs.length - i) fun k h1 h2 h3 hdk => by
    rcases Nat.lt_or_ge i k with hlt | hge
    · have := anc_down hd (hy.c1 i k hlt (by omega) ⟨t, .inr ⟨hdk, htr⟩⟩) h3
      rw [hS] at this; cases this
    · have : k = i := by omega
      subst this
      rw [hS] at h3; cases h3
  rw [show i + (qs.length - i) = qs.length by omega] at h1
  rw [h1]
  exact ES_agree i fun k hk hdk => anc_ready hd (hy.c1 k i hk hi ⟨t, .inl ⟨hdk, .inl htr⟩⟩) hr
theorem heap_agree (hy : Hyp P F nt n0 ms ops qs tr out) {S : Nat → Bool} {i b : Nat} (hi : i < qs.length) (hS : S i = false) (hr : EdgesIn ops S i) (hd : Down ops S)
    (hc : ∀ k p, k < qs.length → p ∈ usT ms qs out k → p.1 = b → (k < i → Anc ops k i) ∧ (i < k → Anc ops i k)) (hb : b < (tr i).2.length)
    (hfar : ∀ k, k < i → S k = false → b < (tr k).2.length ∨ (tr k).2.length + (nsT qs out k).length ≤ b) : HS ms qs tr out S qs.length b = lkp (tr i).2 b := by
  rw [← HS_all hy.ht (S := fun _ => true) i (by omega) fun _ _ => rfl]
  have h1 := HS_skip (qs := qs) (tr := tr) (out := out) (S := S) (K := i) (b := b) (qs.length - i) fun k h1 h2 h3 => by
    rcases Nat.lt_or_ge i k with hlt | hge
    · refine ⟨.inl (Nat.lt_of_lt_of_le hb (tr_mono hy.ht h1 (by omega))), fun p hp hpb => ?_⟩
      have := anc_down hd ((hc k p (by omega) hp hpb).2 hlt) h3
      rw [hS] at this; cases this
    · have : k = i := by omega
      subst this
      rw [hS] at h3; cases h3
  rw [show i + (qs.length - i) = qs.length by omega] at h1
  rw [h1]
  refine HS_agree i fun k hk hne => ?_
  have hk0 : S k = false := by simpa using hne
  refine ⟨hfar k hk hk0, fun p hp hpb => ?_⟩
  have := anc_ready hd ((hc k p (by omega) hp hpb).1 hk) hr
  rw [hk0] at this; cases this
/-- a block that is old, or has its place, or was made by an operation that has been carried out -/
def Sure (qs : List AOper) (tr : Nat → Env × Heap) (n0 : Nat) (φ : Phi) (S : Nat → Bool) (b : Nat) : Prop := b < n0 ∨ (∃ pl, φ b = some pl) ∨ ∃ j, j < qs.length ∧ S j = true ∧ (tr j).2.length ≤ b ∧ b < (tr (j + 1)).2.length
/-- one state of a run in an order of the model's own -/
structure Rel (ms : List (List Nat)) (ops : Array Oper) (qs : List AOper) (tr : Nat → Env × Heap) (out : Nat → Out) (nt n0 : Nat) (φ0 : Phi) (w0 : World) (S : Nat → Bool) (φ : Phi) (a : Act) (w : World) : Prop where
  env : EnvOK φ (ES qs tr out S qs.length) a
  free : ∀ k, k < qs.length → S k = false → Free φ (tr k).2.length (nsT qs out k).length
  us : ∀ k p, k < qs.length → S k = true → p ∈ usT ms qs out k → Sure qs tr n0 φ S p.1
  size : a.tmps.size = nt
  defers : a.defers = []
  down : Down ops S
  keep : ∀ i, i < n0 → φ i = φ0 i
  mv : Mv φ0 (lkp (tr 0).2) w0 φ (HS ms qs tr out S qs.length) w
/-- what is looked at is old, or has its place -/
theorem known (hy : Hyp P F nt n0 ms ops qs tr out) {φ0 φ : Phi} {w0 w : World} {S : Nat → Bool} {a : Act} (hl : Rel ms ops qs tr out nt n0 φ0 w0 S φ a w) {i : Nat} {q : AOper} (hq : qs[i]? = some q) (hS : S i = false) (hr : EdgesIn ops S i) (hev : q.o.ev F (tr i).1 (lkp (tr i).2) (tr i).2.length = some (out i)) :
    ∀ y ∈ q.o.rs, ∀ b, idOf (y.ev (tr i).1) = some b → Sure qs tr n0 φ S b := by
  have hsl := slot_agree hy hq hS hr hl.down
  have hopd := opd_agree hsl
  obtain ⟨_, hokd, _⟩ := hy.ht.step i q hq
  have hsm := fun y hy' => okE_small (q := q.o) hokd hev y hy'
  intro y hy' b hb
  rcases hy.rs i q hq y hy' with ⟨t, rfl⟩ | hno
  · have hv := hl.env t
    have hre := hopd _ (rs_opds hy')
    simp only [Opd.ev] at hre hb
    rw [hre] at hv
    have hsm := hsm _ hy'
    simp only [Opd.ev] at hsm
    cases hg : get (tr i).1 t with
    | c x =>
      rw [hg] at hb hv hsm
      cases x with
      | ptr j o =>
        simp only [idOf, Option.some.injEq] at hb
        subst hb
        obtain ⟨pl, hpl, _⟩ := hv
        exact .inr (.inl ⟨pl, hpl⟩)
      | map j =>
        simp only [idOf, Option.some.injEq] at hb
        subst hb
        obtain ⟨pl, hpl, _⟩ := hv
        exact .inr (.inl ⟨pl, hpl⟩)
      | sl j o ln sz =>
        simp only [idOf, Option.some.injEq] at hb
        subst hb
        simp only [smallE, Bool.or_eq_true, decide_eq_true_eq] at hsm
        rcases hsm with (hsm | hsm) | hsm
        · exact .inl hsm
        · rcases hv with ⟨h0, _⟩ | ⟨pl, cap, hpl, _⟩
          · omega
          · exact .inr (.inl ⟨pl, hpl⟩)
        · obtain ⟨k, hk, x, hx, hx1, hx2⟩ := madeA_at hsm
          obtain ⟨hki, rfl⟩ := bsT_get hx
          have hi : i < qs.length := (List.getElem?_eq_some_iff.1 hq).1
          exact .inr (.inr ⟨k, by omega, anc_ready hl.down (hy.an i k hk (by omega) (by omega)) hr, hx1, hx2⟩)
      | _ => simp [idOf] at hb
    | _ => rw [hg] at hb; simp [idOf] at hb
  · rw [hno] at hb; cases hb
/-- what an operation yields is the same in any order -/
theorem out_agree (hy : Hyp P F nt n0 ms ops qs tr out) {φ0 φ : Phi} {w0 w : World} {S : Nat → Bool} {a : Act} (hl : Rel ms ops qs tr out nt n0 φ0 w0 S φ a w) {i : Nat} {q : AOper} (hq : qs[i]? = some q) (hS : S i = false) (hr : EdgesIn ops S i) :
    outA F q (ES qs tr out S qs.length) (HS ms qs tr out S qs.length) (tr i).2.length = some (out i) ∧ (q.o.isCall = true → loudT ms i = false → updU (out i).2.2 (HS ms qs tr out S qs.length) = HS ms qs tr out S qs.length) := by
  have hi : i < qs.length := (List.getElem?_eq_some_iff.1 hq).1
  have hsl := slot_agree hy hq hS hr hl.down
  obtain ⟨hout, hokd, _⟩ := hy.ht.step i q hq
  have hopd := opd_agree hsl
  have hold : q.o.isCall = true → ∀ p ∈ (out i).2.2, HS ms qs tr out S qs.length p.1 = lkp (tr i).2 p.1 := by
    intro hcall pp hpp
    obtain ⟨hor, hthere⟩ := okE_call hcall hokd pp hpp
    have hlt : pp.1 < (tr i).2.length := by
      obtain ⟨b, hb⟩ := Option.isSome_iff_exists.1 (out_ups hout pp hpp)
      exact (List.getElem?_eq_some_iff.1 hb).1
    refine heap_agree hy hi hS hr hl.down (fun k p hk hp hpb => ?_) hlt fun k hk hk0 => ?_
    rotate_left
    · rcases hor with hb | ⟨j, hj, x, hx, hx1, hx2⟩
      · exact .inl (Nat.lt_of_lt_of_le (by rw [hy.n0]; exact hb) (tr_mono hy.ht (Nat.zero_le k) (by omega)))
      · obtain ⟨hji, rfl⟩ := bsT_get hx
        simp only at hx1 hx2
        have hjS : S j = true := anc_ready hl.down (hy.an i j hj (by omega) (by omega)) hr
        have hkj : k ≠ j := fun e => by rw [e, hjS] at hk0; cases hk0
        rcases Nat.lt_or_ge k j with hkj' | hkj'
        · have := tr_end hy.ht hkj' (by omega); omega
        · have := tr_mono hy.ht (show j + 1 ≤ k by omega) (by omega); omega
    obtain ⟨q', hq', hnc, hpo, _⟩ := usT_some hy.ht hp
    by_cases hc' : q'.o.isCall = true
    · have hld : loudT ms k = true := hnc.resolve_left (by rw [hc']; simp)
      exact ⟨fun hlt => (hy.c2 k i q' q hlt hq' hq).elim id fun h => absurd (h.2.2.2.2.1 hld hc').1 (by rw [hcall]; simp), fun hlt => (hy.c2 i k q q' hlt hq hq').elim id fun h => absurd (h.2.2.2.2.2 hld hc').1 (by rw [hcall]; simp)⟩
    have hnc : q'.o.isCall = false := by simpa using hc'
    have hwn : q'.o.ws ≠ [] := by
      obtain ⟨ho, _, _⟩ := hy.ht.step k q' hq'
      unfold outA at ho
      obtain ⟨wd, _, ho⟩ := Option.bind_eq_some_iff.1 ho
      split at ho
      · obtain ⟨x, hx, _⟩ := ws_ids hnc ho p hpo
        intro e; rw [e] at hx; simp at hx
      · injection ho with ho; rw [← ho] at hpo; simp at hpo
    exact ⟨fun hlt => (hy.c2 k i q' q hlt hq' hq).elim id fun h => absurd (h.2.2.2.1 hcall) hwn, fun hlt => (hy.c2 i k q q' hlt hq hq').elim id fun h => absurd (h.2.2.1 hcall) hwn⟩
  refine ⟨?_, fun hcall hquiet => ?_⟩
  · unfold outA at hout ⊢
    rw [wanted_agree hsl]
    obtain ⟨wd, hwd, hout⟩ := Option.bind_eq_some_iff.1 hout
    rw [hwd]
    simp only [Option.bind_some]
    cases wd with
    | false => exact hout
    | true =>
      simp only [if_true] at hout ⊢
      cases ho : q.o with
      | p o =>
        rw [ho] at hopd hout
        simp only [AOp.ev] at hout ⊢
        rw [pop_congr _ o hopd]
        exact hout
      | h o =>
        by_cases hcall : q.o.isCall = true
        · have hold := hold hcall
          rw [ho] at hopd hout hcall hokd
          cases o with
          | call f xs =>
            simp only [AOp.ev, HOp.ev] at hout ⊢
            have hf := hopd f (by simp [AOp.opds, HOp.opds])
            have hxs : xs.map (Opd.ev (ES qs tr out S qs.length)) = xs.map (Opd.ev (tr i).1) := List.map_congr_left fun x hx => hopd x (by simp [AOp.opds, HOp.opds, hx])
            rw [hf, hxs]
            split at hout
            · exact callA_congr hout fun p hp _ => (hold p hp).symm
            · cases hout
          | _ => simp [AOp.isCall] at hcall
        · have hnc : q.o.isCall = false := by simpa using hcall
          have hkn := known hy hl hq hS hr hout
          have hso := fun y hy' => rs_some (q := q.o) hout y hy'
          have hro : ∀ y ∈ q.o.rs, y.ev (ES qs tr out S qs.length) = y.ev (tr i).1 := fun y hy' => hopd y (rs_opds hy')
          have hag : ∀ y ∈ q.o.rs, ∀ b, idOf (y.ev (tr i).1) = some b → HS ms qs tr out S qs.length b = lkp (tr i).2 b := by
            intro y hy' b hb
            obtain ⟨bl, hbl⟩ := Option.isSome_iff_exists.1 (hso y hy' b hb)
            have hblt : b < (tr i).2.length := (List.getElem?_eq_some_iff.1 hbl).1
            refine heap_agree hy hi hS hr hl.down (fun k p hk hp hpb => ?_) hblt fun k hk hk0 => ?_
            · obtain ⟨q', hq', hnc', hpo, _⟩ := usT_some hy.ht hp
              by_cases hc' : q'.o.isCall = true
              · have hld : loudT ms k = true := hnc'.resolve_left (by rw [hc']; simp)
                exact ⟨fun hlt => (hy.c2 k i q' q hlt hq' hq).elim id fun h => by
                    have := (h.2.2.2.2.1 hld hc').2.1 y hy' p hpo
                    rw [hpb] at this
                    exact absurd hb this, fun hlt => (hy.c2 i k q q' hlt hq hq').elim id fun h => by
                    have := (h.2.2.2.2.2 hld hc').2.1 y hy' p hpo
                    rw [hpb] at this
                    exact absurd hb this⟩
              have hnc' : q'.o.isCall = false := by simpa using hc'
              obtain ⟨hko, _, _⟩ := hy.ht.step k q' hq'
              have hx : ∃ x ∈ q'.o.ws, idOf (x.ev (tr k).1) = some b := by
                unfold outA at hko
                obtain ⟨wd, _, hko⟩ := Option.bind_eq_some_iff.1 hko
                split at hko
                · rw [← hpb]; exact ws_ids hnc' hko p hpo
                · injection hko with hko; rw [← hko] at hpo; simp at hpo
              obtain ⟨x, hx, hxb⟩ := hx
              exact ⟨fun hlt => (hy.c2 k i q' q hlt hq' hq).elim id fun h => absurd hb (h.1 x hx y hy' b hxb), fun hlt => (hy.c2 i k q q' hlt hq hq').elim id fun h => absurd hxb (h.2.1 y hy' x hx b hb)⟩
            · rcases Nat.lt_or_ge b n0 with hbn | hbn
              · exact .inl (Nat.lt_of_lt_of_le (by rw [hy.n0]; exact hbn) (tr_mono hy.ht (Nat.zero_le k) (by omega)))
              · rcases (hkn y hy' b hb).resolve_left (by omega) with ⟨pl, hpl⟩ | ⟨j, hj, hjS, hj1, hj2⟩
                · rcases Nat.lt_or_ge b (tr k).2.length with h1 | h1
                  · exact .inl h1
                  · rcases Nat.lt_or_ge b ((tr k).2.length + (nsT qs out k).length) with h2 | h2
                    · have := hl.free k (by omega) hk0 (b - (tr k).2.length) (by omega)
                      rw [show (tr k).2.length + (b - (tr k).2.length) = b by omega, hpl] at this
                      cases this
                    · exact .inr h2
                · have hkj : k ≠ j := fun e => by rw [e, hjS] at hk0; cases hk0
                  rcases Nat.lt_or_ge k j with hkj' | hkj'
                  · have := tr_end hy.ht hkj' (by omega); omega
                  · have := tr_mono hy.ht (show j + 1 ≤ k by omega) (by omega); omega
          rw [ho] at hopd hout hnc hag hro
          simp only [AOp.ev] at hout ⊢
          rw [hop_congr (F := F) (e := ES qs tr out S qs.length) (e' := (tr i).1) (H := HS ms qs tr out S qs.length) (H' := lkp (tr i).2) (tr i).2.length o hnc hopd fun y hy' b hb => hag y hy' b (by rw [← hro y hy']; exact hb)]
          exact hout
  · have hold := hold hcall
    refine updU_same _ _ fun p hp => ?_
    rw [hold p hp]
    exact (okE_call hcall hokd p hp).2.resolve_left fun h => by
      rw [bsT_len] at h
      have h5 : loudT ms i = true := h
      rw [hquiet] at h5; cases h5
end
end Go.Proofs.YtgpafbbnobanbaaGreatDoor.AM

/-
  A region whose order is open, as a whole; the test by computation that a region's code must pass.
-/
namespace Go.Proofs.YtgpafbbnobanbaaGreatDoor.AM
open Go
section
variable {P : Program} {F : Fns} {nt n0 : Nat} {ms : List (List Nat)} {ops : Array Oper} {qs : List AOper} {tr : Nat → Env × Heap} {out : Nat → Out}
theorem HS_zero (S : Nat → Bool) (hS : ∀ k, S k = false) : ∀ K, HS ms qs tr out S K = lkp (tr 0).2
  | 0 => rfl
  | K + 1 => by simp only [HS, hS K, Bool.false_eq_true, if_false, HS_zero S hS K]
theorem ranges (ht : Tr F n0 ms qs tr out) {i k b : Nat} (hi : i < qs.length) (hk : k < qs.length) (hne : k ≠ i) (hb : (tr i).2.length ≤ b ∧ b < (tr i).2.length + (nsT qs out i).length) : b < (tr k).2.length ∨ (tr k).2.length + (nsT qs out k).length ≤ b := by
  rcases Nat.lt_or_ge k i with h | h
  · have := tr_end ht h (by omega); omega
  · have := tr_end ht (show i < k by omega) (by omega); omega
/-- what is sure is not among what an operation to come makes -/
theorem sure_not (hy : Hyp P F nt n0 ms ops qs tr out) {φ0 φ : Phi} {w0 w : World} {S : Nat → Bool} {a : Act} (hl : Rel ms ops qs tr out nt n0 φ0 w0 S φ a w) {i : Nat} (hi : i < qs.length) (hS : S i = false) {b : Nat} (hb : (tr i).2.length ≤ b ∧ b < (tr i).2.length + (nsT qs out i).length) (hs : Sure qs tr n0 φ S b) : False := by
  have hn : n0 ≤ b := by have := tr_mono hy.ht (Nat.zero_le i) (by omega); rw [hy.n0] at this; omega
  rcases hs with h | ⟨pl, hpl⟩ | ⟨j, hj, hjS, hj1, hj2⟩
  · omega
  · have := hl.free i hi hS (b - (tr i).2.length) (by omega)
    rw [show (tr i).2.length + (b - (tr i).2.length) = b by omega, hpl] at this
    cases this
  · have hij : i ≠ j := fun e => by rw [e, hjS] at hS; cases hS
    rcases Nat.lt_or_ge i j with h | h
    · have := tr_end hy.ht h (by omega); omega
    · have := tr_mono hy.ht (show j + 1 ≤ i by omega) (by omega); omega
theorem HS_none (hy : Hyp P F nt n0 ms ops qs tr out) {φ0 φ : Phi} {w0 w : World} {S : Nat → Bool} {a : Act} (hl : Rel ms ops qs tr out nt n0 φ0 w0 S φ a w) {i : Nat} (hi : i < qs.length) (hS : S i = false) {b : Nat} (hb : (tr i).2.length ≤ b ∧ b < (tr i).2.length + (nsT qs out i).length) : HS ms qs tr out S qs.length b = none := by
  have hn : n0 ≤ b := by have := tr_mono hy.ht (Nat.zero_le i) (by omega); rw [hy.n0] at this; omega
  have h1 := HS_agree (ms := ms) (qs := qs) (tr := tr) (out := out) (S := S) (S' := fun _ => false) (b := b) qs.length fun k hk hne => by
    have hk1 : S k = true := by simpa using hne
    have hki : k ≠ i := fun e => by rw [e, hS] at hk1; cases hk1
    refine ⟨ranges hy.ht hi hk hki hb, fun p hp hpb => ?_⟩
    have hsu := hl.us k p hk hk1 hp
    rw [hpb] at hsu
    exact sure_not hy hl hi hS hb hsu
  rw [h1, HS_zero _ fun _ => rfl]
  unfold lkp
  exact List.getElem?_eq_none (by rw [hy.n0]; exact hn)
theorem rel_next (hy : Hyp P F nt n0 ms ops qs tr out) {φ0 φ φ' : Phi} {w0 w w' : World} {S S' : Nat → Bool} {a : Act} (hl : Rel ms ops qs tr out nt n0 φ0 w0 S φ a w) {i : Nat} {o : Oper} {q : AOper} (ho : ops[i]? = some o) (hq : qs[i]? = some q) (hS : S i = false) (hr : EdgesIn ops S i)
    (hS1 : S' i = true) (hS2 : ∀ k, k ≠ i → S' k = S k) {rv : Value} (hv : VR φ' (out i).1 rv) (hout : OutOK φ (HS ms qs tr out S qs.length) w (tr i).2.length (out i).2.1 (out i).2.2 φ' w') :
    Rel ms ops qs tr out nt n0 φ0 w0 S' φ' (a.put o.dst rv) w' := by
  have hi : i < qs.length := (List.getElem?_eq_some_iff.1 hq).1
  have hns : nsT qs out i = (out i).2.1 := by unfold nsT; rw [hq]
  have hfree := hl.free i hi hS
  rw [hns] at hfree
  have hle : Le φ φ' := le_of_old hout.old hfree
  have hokq := hy.ok i o q ho hq
  simp only [okOper, Bool.and_eq_true] at hokq
  obtain ⟨hd1, hd2⟩ := okDst_eq hokq.1.1
  have hdT : dT qs i = q.d := by unfold dT; rw [hq]; rfl
  have hdown : Down ops S' := by
    intro j hj o' e ho' he hb
    by_cases hji : j = i
    · subst hji
      have h1 := hr o' e ho' he hb
      have : e.on ≠ j := fun h => by rw [h, hS] at h1; cases h1
      rw [hS2 _ this]; exact h1
    · rw [hS2 j hji] at hj
      have h1 := hl.down j hj o' e ho' he hb
      have : e.on ≠ i := fun h => by rw [h, hS] at h1; cases h1
      rw [hS2 _ this]; exact h1
  have hafter : ∀ k, i < k → S' k = true → Anc ops i k → False := by
    intro k hik hk ha
    rw [hS2 k (by omega)] at hk
    have := anc_down hl.down ha hk
    rw [hS] at this; cases this
  have hn0i : n0 ≤ (tr i).2.length := by have := tr_mono hy.ht (Nat.zero_le i) (by omega); rw [hy.n0] at this; exact this
  /- what has been written by others lies elsewhere than what is made now -/
  have husr : ∀ k p, k < qs.length → S k = true → p ∈ usT ms qs out k → ¬ ((tr i).2.length ≤ p.1 ∧ p.1 < (tr i).2.length + (out i).2.1.length) := by
    intro k p hk hk1 hp hin
    exact sure_not hy hl hi hS (by rw [hns]; exact hin) (hl.us k p hk hk1 hp)
  have hup : ∀ b, Sure qs tr n0 φ S b → Sure qs tr n0 φ' S' b := by
    rintro b (h | ⟨pl, hpl⟩ | ⟨j, hj, hjS, h1, h2⟩)
    · exact .inl h
    · exact .inr (.inl ⟨pl, hle _ _ hpl⟩)
    · refine .inr (.inr ⟨j, hj, ?_, h1, h2⟩)
      by_cases hji : j = i
      · rw [hji]; exact hS1
      · rw [hS2 j hji]; exact hjS
  have hwsi : ∀ (k : Nat) p, p ∈ usT ms qs out k → ∃ q', qs[k]? = some q' ∧ ((∃ x ∈ q'.o.ws, idOf (x.ev (tr k).1) = some p.1 ∧ q'.o.ev F (tr k).1 (lkp (tr k).2) (tr k).2.length = some (out k)) ∨ (q'.o.isCall = true ∧ loudT ms k = true ∧ p ∈ (out k).2.2)) := by
    intro k p hp
    obtain ⟨q', hq', hnc, hpo, _⟩ := usT_some hy.ht hp
    by_cases hc' : q'.o.isCall = true
    · exact ⟨q', hq', .inr ⟨hc', hnc.resolve_left (by rw [hc']; simp), hpo⟩⟩
    have hnc : q'.o.isCall = false := by simpa using hc'
    obtain ⟨hko, _, _⟩ := hy.ht.step k q' hq'
    unfold outA at hko
    obtain ⟨wd, _, hko⟩ := Option.bind_eq_some_iff.1 hko
    split at hko
    · obtain ⟨x, hx, hxb⟩ := ws_ids hnc hko p hpo
      exact ⟨q', hq', .inl ⟨x, hx, hxb, hko⟩⟩
    · injection hko with hko; rw [← hko] at hpo; simp at hpo
  have hHS : updH (HS ms qs tr out S qs.length) (tr i).2.length (out i).2.1 (out i).2.2 = HS ms qs tr out S' qs.length := by
    have e1 : updH (HS ms qs tr out S qs.length) (tr i).2.length (out i).2.1 (out i).2.2 = updH (HS ms qs tr out S qs.length) (tr i).2.length (nsT qs out i) (usT ms qs out i) := by
      rw [hns]
      unfold usT
      rw [hq]
      simp only
      split
      · rename_i hcall
        simp only [Bool.and_eq_true, Bool.not_eq_true'] at hcall
        have := (out_agree hy hl hq hS hr).2 hcall.1 hcall.2
        funext b
        simp only [updH, updU, this]
      · rfl
    rw [e1]
    funext b
    have hS2' : ∀ k, S' k ≠ S k → k = i := fun k h => by
      by_cases hki : k = i
      · exact hki
      · exact absurd (hS2 k hki) h
    by_cases hrange : (tr i).2.length ≤ b ∧ b < (tr i).2.length + (nsT qs out i).length
    · have h1 := HS_skip (ms := ms) (qs := qs) (tr := tr) (out := out) (S := S') (K := i + 1) (b := b) (qs.length - (i + 1)) fun k h1 h2 h3 => by
        have hk : S k = true := by rw [← hS2 k (by omega)]; exact h3
        refine ⟨ranges hy.ht hi (by omega) (by omega) hrange, fun p hp hpb => husr k p (by omega) hk hp ?_⟩
        rw [hpb, ← hns]; exact hrange
      rw [show i + 1 + (qs.length - (i + 1)) = qs.length by omega] at h1
      rw [h1]
      simp only [HS, hS1, if_true, updH]
      rw [if_pos hrange, if_pos hrange]
    · by_cases hu : ∃ p ∈ usT ms qs out i, p.1 = b
      · obtain ⟨p, hp, hpb⟩ := hu
        obtain ⟨_, _, _, _, hlt⟩ := usT_some hy.ht hp
        obtain ⟨q0, hq0, hw0⟩ := hwsi i p hp
        have h1 := HS_skip (ms := ms) (qs := qs) (tr := tr) (out := out) (S := S') (K := i + 1) (b := b) (qs.length - (i + 1)) fun k h1 h2 h3 => by
          refine ⟨.inl ?_, fun p' hp' hpb' => ?_⟩
          · have := tr_mono hy.ht (show i ≤ k by omega) (by omega); omega
          · obtain ⟨q', hq', hw'⟩ := hwsi k p' hp'
            rcases hy.c2 i k q0 q' (by omega) hq0 hq' with ha | ha
            · exact hafter k (by omega) h3 ha
            · rcases hw0 with ⟨x, hx, hxb, _⟩ | ⟨hc0, hl0, _⟩
              · rcases hw' with ⟨x', hx', hxb', _⟩ | ⟨hc1, hl1, _⟩
                · exact ha.1 x hx x' (ws_rs hx') p.1 hxb (by rw [hxb', hpb', hpb])
                · have := (ha.2.2.2.2.2 hl1 hc1).2.2
                  rw [this] at hx; simp at hx
              · have hq5 := ha.2.2.2.2.1 hl0 hc0
                rcases hw' with ⟨x', hx', hxb', _⟩ | ⟨hc1, hl1, _⟩
                · rw [hq5.2.2] at hx'; simp at hx'
                · rw [hc1] at hq5; cases hq5.1
        rw [show i + 1 + (qs.length - (i + 1)) = qs.length by omega] at h1
        rw [h1]
        simp only [HS, hS1, if_true, updH]
        rw [if_neg hrange, if_neg hrange]
        exact updU_hit _ _ _ b ⟨p, hp, hpb⟩
      · rw [updH_at (by omega) fun p hp hpb => hu ⟨p, hp, hpb⟩]
        refine (HS_agree qs.length fun k hk hne => ?_)
        have := hS2' k fun e => hne e.symm
        subst this
        exact ⟨by omega, fun p hp hpb => hu ⟨p, hp, hpb⟩⟩
  refine ⟨?_, fun k hk hk0 => ?_, fun k p hk hk1 hp => ?_, by rw [put_size]; exact hl.size, by rw [put_defers']; exact hl.defers, hdown, fun j hj => ?_, ?_⟩
  · have h1 : EnvOK φ' (put (ES qs tr out S qs.length) q.d (out i).1) (a.put q.d rv) := (hl.env.mono hle).put hv fun k hk => by rw [hl.size]; exact hd2 k hk
    rw [hd1]
    intro t
    have h2 := h1 t
    have h3 : get (ES qs tr out S' qs.length) t = get (put (ES qs tr out S qs.length) q.d (out i).1) t := by
      rw [get_put]
      by_cases hdt : q.d = some t
      · rw [if_pos hdt]
        have h4 := ES_skip (qs := qs) (tr := tr) (out := out) (S := S') (K := i + 1) (t := t) (qs.length - (i + 1)) fun k h1 h2 h3 hdk =>
          hafter k (by omega) h3 (hy.c1 i k (by omega) (by omega) ⟨t, .inl ⟨hdT.trans hdt, .inr hdk⟩⟩)
        rw [show i + 1 + (qs.length - (i + 1)) = qs.length by omega] at h4
        rw [h4]
        simp only [ES, hS1, if_true]
        rw [get_put, hdT, if_pos hdt]
      · rw [if_neg hdt]
        refine ES_agree qs.length fun k hk hdk => hS2 k fun e => ?_
        subst e
        exact hdt (hdT.symm.trans hdk)
    rw [h3]
    exact h2
  · have hki : k ≠ i := fun e => by rw [e, hS1] at hk0; cases hk0
    rw [hS2 k hki] at hk0
    intro j hj
    have hro := ranges hy.ht hk hi (Ne.symm hki) (b := (tr k).2.length + j) ⟨by omega, by omega⟩
    rw [hns] at hro
    rw [hout.old _ hro]
    exact hl.free k hk hk0 j hj
  · by_cases hki : k = i
    · subst hki
      obtain ⟨q0, hq0, hw0⟩ := hwsi k p hp
      rcases hw0 with ⟨x, hx, hxb, hev⟩ | ⟨hc0, hl0, hpo⟩
      · exact hup _ (known hy hl hq0 hS hr hev x (ws_rs hx) p.1 hxb)
      · obtain ⟨_, hokd, _⟩ := hy.ht.step k q0 hq0
        rcases (okE_call hc0 hokd p hpo).1 with hb | ⟨j, hj, x, hx, hx1, hx2⟩
        · exact .inl hb
        · obtain ⟨hjk, rfl⟩ := bsT_get hx
          exact hup _ (.inr (.inr ⟨j, by omega, anc_ready hl.down (hy.an k j hj (by omega) (by omega)) hr, hx1, hx2⟩))
    · rw [hS2 k hki] at hk1
      exact hup _ (hl.us k p hk hk1 hp)
  · rw [hout.old j (.inl (by omega))]
    exact hl.keep j hj
  · have := hout.mv
    rw [hHS] at this
    exact hl.mv.trans this
theorem rel_step (hF : FnOK P F) (hy : Hyp P F nt n0 ms ops qs tr out) {φ0 φ : Phi} {w0 w : World} {S S' : Nat → Bool} {a : Act} (hl : Rel ms ops qs tr out nt n0 φ0 w0 S φ a w) {i : Nat} {o : Oper} {q : AOper} (ho : ops[i]? = some o) (hq : qs[i]? = some q) (hS : S i = false) (hr : EdgesIn ops S i)
    (hS1 : S' i = true) (hS2 : ∀ k, k ≠ i → S' k = S k) {K : Act → World → Prop} {Q : Exit → Act → World → Prop} (hK : ∀ φ' a' w', Rel ms ops qs tr out nt n0 φ0 w0 S' φ' a' w' → K a' w') :
    if Region.wanted o (yielded ops a.tmps) then o.wp P a w K Q ∨ (o.asks P a w ∧ LetsOut Q) else K (a.put o.dst Go.undef) w := by
  have hi : i < qs.length := (List.getElem?_eq_some_iff.1 hq).1
  have hns : nsT qs out i = (out i).2.1 := by unfold nsT; rw [hq]
  have hokq := hy.ok i o q ho hq
  simp only [okOper, Bool.and_eq_true] at hokq
  obtain ⟨⟨hd, hg⟩, hop⟩ := hokq
  have hev := (out_agree hy hl hq hS hr).1
  unfold outA at hev
  obtain ⟨wd, hwd, hev⟩ := Option.bind_eq_some_iff.1 hev
  rw [wanted_ok hl.env hg hwd]
  cases wd with
  | true =>
    simp only [if_true] at hev ⊢
    have hf := hl.free i hi hS
    rw [hns] at hf
    refine .inl ((okA_does hF hop hl.env hl.mv.ok hev hf fun hne => HS_none hy hl hi hS ⟨Nat.le_refl _, ?_⟩).wp fun rv w' ⟨φ', hv, hout⟩ => hK φ' _ _ (rel_next hy hl ho hq hS hr hS1 hS2 hv hout))
    rw [hns]
    have := List.length_pos_iff.2 hne
    omega
  | false =>
    simp only [Bool.false_eq_true, if_false] at hev ⊢
    injection hev with hev
    refine hK φ _ _ (rel_next hy hl ho hq hS hr hS1 hS2 (by rw [← hev]; rfl) ?_)
    rw [← hev]
    exact OutOK.same _ hl.mv.ok

def cnt (S : Nat → Bool) : Nat → Nat
  | 0 => 0
  | k + 1 => cnt S k + if S k then 0 else 1
theorem cnt_le (S : Nat → Bool) : ∀ n, cnt S n ≤ n
  | 0 => Nat.le_refl _
  | n + 1 => by have := cnt_le S n; simp only [cnt]; split <;> omega
theorem cnt_zero {S : Nat → Bool} : ∀ {n}, cnt S n = 0 → ∀ k, k < n → S k = true
  | n + 1, h, k, hk => by
    simp only [cnt] at h
    by_cases hkn : k = n
    · subst hkn
      split at h
      · assumption
      · omega
    · exact cnt_zero (n := n) (by omega) k (by omega)
theorem cnt_set {S S' : Nat → Bool} {i : Nat} (hS : S i = false) (hS1 : S' i = true) (hS2 : ∀ k, k ≠ i → S' k = S k) : ∀ n, (n ≤ i → cnt S' n = cnt S n) ∧ (i < n → cnt S' n + 1 = cnt S n)
  | 0 => ⟨fun _ => rfl, fun h => by omega⟩
  | n + 1 => by
    obtain ⟨h1, h2⟩ := cnt_set hS hS1 hS2 n
    constructor
    · intro h
      simp only [cnt, h1 (by omega), hS2 n (by omega)]
    · intro h
      by_cases hn : n = i
      · subst hn
        simp only [cnt, h1 (Nat.le_refl _), hS, hS1, if_true]
        simp
      · simp only [cnt, hS2 n hn]
        have := h2 (by omega)
        omega
theorem any_ok (hF : FnOK P F) (hy : Hyp P F nt n0 ms ops qs tr out) {φ0 : Phi} {w0 : World} {Q : Exit → Act → World → Prop} (hQ : ∀ (S : Nat → Bool) φ a w, (∀ k, k < qs.length → S k = true) → Rel ms ops qs tr out nt n0 φ0 w0 S φ a w → Q .normal a w) :
    ∀ (fuel : Nat) (listed : Array Bool) (φ : Phi) (a : Act) (w : World), listed.size = qs.length → cnt (fun k => listed.getD k false) qs.length ≤ fuel → Rel ms ops qs tr out nt n0 φ0 w0 (fun k => listed.getD k false) φ a w → wpAny P .any ops Q fuel listed a w := by
  have hdone : ∀ (listed : Array Bool), listed.size = qs.length → (Region.ready .any ops listed = [] ↔ ∀ k, k < qs.length → listed.getD k false = true) := by
    intro listed hsz
    constructor
    · intro hr
      have key : ∀ n k, k ≤ n → k < qs.length → listed.getD k false = true := by
        intro n
        induction n with
        | zero =>
          intro k hk hkn
          have : k = 0 := by omega
          subst this
          cases hb : listed.getD 0 false with
          | true => rfl
          | false =>
            have : 0 ∈ Region.ready .any ops listed := by
              rw [mem_ready]
              refine ⟨?_, ops[0]'(by rw [hy.len]; omega), Array.getElem?_eq_getElem _, fun e he hbd => ?_⟩
              · have hl : 0 < listed.size := by omega
                simpa [Array.getD, hl] using hb
              · have := hy.lower _ _ (Anc.edge (Array.getElem?_eq_getElem (by rw [hy.len]; omega)) he hbd); omega
            rw [hr] at this; cases this
        | succ n ih =>
          intro k hk hkn
          by_cases hkle : k ≤ n
          · exact ih k hkle hkn
          · cases hb : listed.getD k false with
            | true => rfl
            | false =>
              have : k ∈ Region.ready .any ops listed := by
                rw [mem_ready]
                refine ⟨?_, ops[k]'(by rw [hy.len]; omega), Array.getElem?_eq_getElem _, fun e he hbd => ?_⟩
                · have hl : k < listed.size := by omega
                  simpa [Array.getD, hl] using hb
                · have := hy.lower _ _ (Anc.edge (Array.getElem?_eq_getElem (by rw [hy.len]; omega)) he hbd)
                  exact ih e.on (by omega) (by omega)
              rw [hr] at this; cases this
      exact fun k hk => key k k (Nat.le_refl _) hk
    · intro h
      apply List.eq_nil_iff_forall_not_mem.2
      intro k hk
      obtain ⟨h0, o, ho, _⟩ := mem_ready.1 hk
      have hkn : k < qs.length := by rw [← hy.len]; exact (Array.getElem?_eq_some_iff.1 ho).1
      have h1 := h k hkn
      have hl : k < listed.size := by omega
      simp [Array.getD, hl] at h0 h1
      rw [h0] at h1; cases h1
  intro fuel
  induction fuel with
  | zero =>
    intro listed φ a w hsz hc hl
    have hall := cnt_zero (Nat.le_zero.1 hc)
    exact ⟨(hdone listed hsz).2 hall, hQ _ φ a w hall hl⟩
  | succ fuel ih =>
    intro listed φ a w hsz hc hl
    refine ⟨fun hr => hQ _ φ a w ((hdone listed hsz).1 hr) hl, fun i hi => ?_⟩
    obtain ⟨h0, o, ho, hall⟩ := mem_ready.1 hi
    have hin : i < qs.length := by rw [← hy.len]; exact (Array.getElem?_eq_some_iff.1 ho).1
    have hil : i < listed.size := by omega
    have hS : listed.getD i false = false := by simpa [Array.getD, hil] using h0
    have hS1 : (listed.setIfInBounds i true).getD i false = true := by simp [hil]
    have hS2 : ∀ k, k ≠ i → (listed.setIfInBounds i true).getD k false = listed.getD k false := fun k hk => getD_set_ne false (Ne.symm hk)
    have hr : EdgesIn ops (fun k => listed.getD k false) i := fun o' e ho' he hb => by
      rw [ho] at ho'; injection ho' with ho'; subst ho'
      exact hall e he hb
    unfold wpOp
    rw [ho]
    refine rel_step hF hy hl ho (List.getElem?_eq_getElem hin) hS hr (S' := fun k => (listed.setIfInBounds i true).getD k false) hS1 hS2 fun φ' a' w' hl' => ih _ φ' a' w' (by simp [hsz]) ?_ hl'
    have := (cnt_set (S := fun k => listed.getD k false) (S' := fun k => (listed.setIfInBounds i true).getD k false) hS hS1 hS2 qs.length).2 hin
    omega
end

/-! ### the test -/
def ancM (acc : List Nat) : List Edge → Nat
  | [] => 0
  | e :: es => if Region.binds .any e then ancM acc es ||| 2 ^ e.on ||| acc.getD e.on 0 else ancM acc es
def ancL : List Oper → List Nat → List Nat
  | [], acc => acc
  | o :: os, acc => ancL os (acc ++ [ancM acc o.after.toList])
def lowL : List Oper → Nat → Bool
  | [], _ => true
  | o :: os, k => (o.after.toList.all fun e => !Region.binds .any e || decide (e.on < k)) && lowL os (k + 1)
def freeS (q q' : AOper) : Bool :=
  (match q.d with | some t => !q'.reads.contains t && !(q'.d == some t) | none => true) && (match q'.d with | some t => !q.reads.contains t | none => true)
def stableX (qs : List AOper) (i : Nat) : Opd → Bool
  | .t t => (qs.drop i).all fun q => !(q.d == some t)
  | _ => true
def apIn (qs : List AOper) (ap : List (Opd × Opd)) (i j : Nat) (x y : Opd) : Bool := (ap.contains (x, y) || ap.contains (y, x)) && stableX qs i x && stableX qs j y
def calmB (ms : List (List Nat)) (qs : List AOper) (i j : Nat) (q : AOper) : Bool := !q.o.isCall && q.o.ws.isEmpty && q.o.rs.all fun y => match y with | .t t => (ms.getD i []).contains (t + 1000000) && stableX qs (min i j) (.t t) | _ => false
def freeH (ms : List (List Nat)) (qs : List AOper) (ap : List (Opd × Opd)) (i j : Nat) (q q' : AOper) : Bool :=
  (q.o.ws.all fun x => q'.o.rs.all fun y => apIn qs ap i j x y) && (q.o.rs.all fun x => q'.o.ws.all fun y => apIn qs ap i j x y) && (!q.o.isCall || q'.o.ws.isEmpty) && (!q'.o.isCall || q.o.ws.isEmpty) && (!(loudT ms i && q.o.isCall) || calmB ms qs i j q') && (!(loudT ms j && q'.o.isCall) || calmB ms qs j i q)
def plainB (q : AOper) : Bool := q.o.rs.all fun y => match y with | .t _ => true | .k v => (idOf v).isNone | .f _ => true
def pairB (ms : List (List Nat)) (qs : List AOper) (anc : List Nat) (ap : List (Opd × Opd)) (i j : Nat) : Bool :=
  (anc.getD j 0).testBit i || (match qs[i]?, qs[j]? with | some q, some q' => freeS q q' && freeH ms qs ap i j q q' | _, _ => true)
def okDrawM (ms : List (List Nat)) (ops : Array Oper) (qs : List AOper) (ap : List (Opd × Opd)) : Bool :=
  lowL ops.toList 0 && qs.all plainB && (let anc := ancL ops.toList []; (List.range qs.length).all fun j => (List.range j).all fun i => pairB ms qs anc ap i j)
def okDraw (ops : Array Oper) (qs : List AOper) (ap : List (Opd × Opd)) : Bool := okDrawM [] ops qs ap && decide (qs.length < 1000000)
/-- the operations that a call leans on must have been carried out ahead of it -/
def ancOK (anc : List Nat) : List (List Nat) → Nat → Bool
  | [], _ => true
  | m :: ms, k => (m.all fun j => (j == k) || (anc.getD k 0).testBit j || decide (1000000 ≤ j)) && ancOK anc ms (k + 1)
def okDrawE (ops : Array Oper) (qs : List AOper) (ap : List (Opd × Opd)) (ms : List (List Nat)) : Bool := okDrawM ms ops qs ap && ancOK (ancL ops.toList []) ms 0 && decide (qs.length < 1000000)
theorem ancOK_at {anc : List Nat} : ∀ {ms : List (List Nat)} {i : Nat}, ancOK anc ms i = true → ∀ k j, j ∈ ms.getD k [] → j < 1000000 → j ≠ i + k → (anc.getD (i + k) 0).testBit j = true
  | [], _, _, k, j, hj, _, _ => by simp at hj
  | m :: ms, i, h, 0, j, hj, hlt, hne => by
    simp only [ancOK, Bool.and_eq_true] at h
    have := List.all_eq_true.1 h.1 j (by simpa using hj)
    simp only [Bool.or_eq_true, beq_iff_eq, decide_eq_true_eq] at this
    exact (this.resolve_right (by omega)).resolve_left (by simpa using hne)
  | m :: ms, i, h, k + 1, j, hj, hlt, hne => by
    simp only [ancOK, Bool.and_eq_true] at h
    have := ancOK_at h.2 k j (by simpa using hj) hlt (by omega)
    rwa [show i + 1 + k = i + (k + 1) by omega] at this
theorem lowL_ok : ∀ {os : List Oper} {k : Nat}, lowL os k = true → ∀ (j : Nat) o e, os[j]? = some o → e ∈ o.after → Region.binds .any e = true → e.on < k + j
  | o :: os, k, h, 0, o', e, ho, he, hb => by
    simp only [lowL, Bool.and_eq_true] at h
    simp at ho; subst ho
    have := List.all_eq_true.1 h.1 e (by simpa using he)
    simpa [hb] using this
  | o :: os, k, h, j + 1, o', e, ho, he, hb => by
    simp only [lowL, Bool.and_eq_true] at h
    have := lowL_ok h.2 j o' e (by simpa using ho) he hb
    omega
  | [], _, _, j, _, _, ho, _, _ => by simp at ho
theorem anc_lower {ops : Array Oper} (h : lowL ops.toList 0 = true) : ∀ {i j : Nat}, Anc ops i j → i < j := by
  intro i j ha
  have key : ∀ (j : Nat) o e, ops[j]? = some o → e ∈ o.after → Region.binds .any e = true → e.on < j := fun j o e ho he hb => by
    have := lowL_ok h j o e (by simpa using ho) he hb; omega
  induction ha with
  | edge ho he hb => exact key _ _ _ ho he hb
  | step ho he hb _ ih => exact Nat.lt_trans ih (key _ _ _ ho he hb)
theorem ancM_ok {ops : Array Oper} {acc : List Nat} (hacc : ∀ j i, (acc.getD j 0).testBit i = true → Anc ops i j) {j : Nat} {o : Oper} (ho : ops[j]? = some o) : ∀ (es : List Edge), (∀ e ∈ es, e ∈ o.after) → ∀ i, (ancM acc es).testBit i = true → Anc ops i j
  | [], _, i, h => by simp [ancM] at h
  | e :: es, hes, i, h => by
    simp only [ancM] at h
    have he := hes e (by simp)
    split at h
    · rename_i hb
      simp only [Nat.testBit_or, Bool.or_eq_true] at h
      rcases h with (h | h) | h
      · exact ancM_ok hacc ho es (fun e he => hes e (by simp [he])) i h
      · rw [Nat.testBit_two_pow] at h
        have : e.on = i := by simpa using h
        subst this
        exact .edge ho he hb
      · exact .step ho he hb (hacc _ _ h)
    · exact ancM_ok hacc ho es (fun e he => hes e (by simp [he])) i h
theorem ancL_ok {ops : Array Oper} : ∀ (os : List Oper) (acc : List Nat), (∀ j, os[j]? = ops[acc.length + j]?) → (∀ j i, (acc.getD j 0).testBit i = true → Anc ops i j) → ∀ j i, ((ancL os acc).getD j 0).testBit i = true → Anc ops i j
  | [], acc, _, h, j, i, hb => h j i hb
  | o :: os, acc, hos, h, j, i, hb => by
    have ho : ops[acc.length]? = some o := by simpa using (hos 0).symm
    refine ancL_ok os (acc ++ [ancM acc o.after.toList]) (fun j => ?_) (fun j i hb => ?_) j i hb
    · have := hos (j + 1)
      simp only [List.length_append, List.length_singleton]
      rw [show acc.length + 1 + j = acc.length + (j + 1) by omega, ← this]; rfl
    · rw [List.getD_eq_getElem?_getD] at hb
      rcases Nat.lt_trichotomy j acc.length with hj | hj | hj
      · rw [List.getElem?_append_left hj, ← List.getD_eq_getElem?_getD] at hb
        exact h j i hb
      · subst hj
        rw [List.getElem?_append_right (Nat.le_refl _)] at hb
        simp at hb
        exact ancM_ok h ho _ (fun e he => by simpa using he) i hb
      · rw [List.getElem?_eq_none (by simp; omega)] at hb
        simp at hb
theorem apartA_ok {e : Env} : ∀ {ap : List (Opd × Opd)}, apartA e ap = true → ∀ p ∈ ap, ∀ i j, idOf (p.1.ev e) = some i → idOf (p.2.ev e) = some j → i ≠ j
  | [], _, p, hp => by simp at hp
  | (x, y) :: r, h, p, hp => by
    simp only [apartA, Bool.and_eq_true] at h
    rcases List.mem_cons.1 hp with rfl | hp
    · intro i j hi hj
      have h1 := h.1
      rw [hi, hj] at h1
      simpa using h1
    · exact apartA_ok h.2 p hp
theorem stable_ok {F : Fns} {n0 : Nat} {ms : List (List Nat)} {qs : List AOper} {tr : Nat → Env × Heap} {out : Nat → Out} (ht : Tr F n0 ms qs tr out) {i : Nat} (hi : i ≤ qs.length) {x : Opd} (h : stableX qs i x = true) : x.ev (tr i).1 = x.ev (tr qs.length).1 := by
  cases x with
  | t t =>
    simp only [Opd.ev]
    rw [← ES_all ht (S := fun _ => true) i hi fun _ _ => rfl, ← ES_all ht (S := fun _ => true) qs.length (Nat.le_refl _) fun _ _ => rfl]
    have h1 := ES_skip (qs := qs) (tr := tr) (out := out) (S := fun _ => true) (K := i) (t := t) (qs.length - i) fun k h1 h2 _ hd => by
      have hk : k < qs.length := by omega
      have hm : qs[k] ∈ qs.drop i := by
        refine List.mem_iff_getElem?.2 ⟨k - i, ?_⟩
        rw [List.getElem?_drop, show i + (k - i) = k by omega, List.getElem?_eq_getElem hk]
      have := List.all_eq_true.1 h _ hm
      unfold dT at hd
      rw [List.getElem?_eq_getElem hk] at hd
      simp only [Option.bind_some] at hd
      simp [hd] at this
    rw [show i + (qs.length - i) = qs.length by omega] at h1
    exact h1.symm
  | k v => rfl
  | f f => rfl
theorem hyp_of {P : Program} {F : Fns} {nt : Nat} {ms : List (List Nat)} {ops : Array Oper} {qs : List AOper} {ap : List (Opd × Opd)} {tr : Nat → Env × Heap} {out : Nat → Out} (ht : Tr F (tr 0).2.length ms qs tr out) (hk : okOps P nt ops ops.toList qs = true) (hd : okDrawE ops qs ap ms = true) (hap : apartA (tr qs.length).1 ap = true) :
    Hyp P F nt (tr 0).2.length ms ops qs tr out := by
  simp only [okDrawE, okDrawM, Bool.and_eq_true] at hd
  obtain ⟨⟨⟨⟨hlow, hpl⟩, hpairs⟩, hms⟩, hqn⟩ := hd
  have hqn := of_decide_eq_true hqn
  have hlist : ∀ (os : List Oper) (qs : List AOper), okOps P nt ops os qs = true → os.length = qs.length ∧ ∀ (k : Nat) o q, os[k]? = some o → qs[k]? = some q → okOper P nt ops o q = true := by
    intro os
    induction os with
    | nil => intro qs h; cases qs <;> simp_all [okOps]
    | cons o os ih =>
      intro qs h
      cases qs with
      | nil => simp [okOps] at h
      | cons q qs =>
        simp only [okOps, Bool.and_eq_true] at h
        obtain ⟨h1, h2⟩ := ih qs h.2
        refine ⟨by simp [h1], fun k o' q' ho hq => ?_⟩
        cases k with
        | zero => simp at ho hq; subst ho; subst hq; exact h.1
        | succ k => exact h2 k o' q' (by simpa using ho) (by simpa using hq)
  obtain ⟨hlen, hok⟩ := hlist _ _ hk
  have hlen : ops.size = qs.length := by simpa using hlen
  have hanc := ancL_ok (ops := ops) ops.toList [] (fun j => by simp) (fun j i h => by simp at h)
  have hpair : ∀ i j, i < j → j < qs.length → Anc ops i j ∨ ∀ q q', qs[i]? = some q → qs[j]? = some q' → freeS q q' = true ∧ freeH ms qs ap i j q q' = true := by
    intro i j hij hj
    have := List.all_eq_true.1 (List.all_eq_true.1 hpairs j (by simpa using hj)) i (by simpa using hij)
    simp only [pairB, Bool.or_eq_true] at this
    rcases this with h | h
    · exact .inl (hanc j i h)
    · refine .inr fun q q' hq hq' => ?_
      rw [hq, hq'] at h
      simpa using h
  refine ⟨ht, fun k j hj hjl hne => hanc k j (by have := ancOK_at hms k j hj (by omega) (by omega); rwa [Nat.zero_add] at this), hlen, rfl, fun k o q ho hq => hok k o q (by simpa using ho) hq, fun k q hq y hy => ?_, fun i j => anc_lower hlow, fun i j hij hj ⟨t, hc⟩ => ?_, fun i j q q' hij hq hq' => ?_⟩
  · have := List.all_eq_true.1 (List.all_eq_true.1 hpl q (List.mem_of_getElem? hq)) y hy
    cases y with
    | t t => exact .inl ⟨t, rfl⟩
    | k v => exact .inr fun e => by simpa [Opd.ev] using this
    | f f => exact .inr fun e => rfl
  · rcases hpair i j hij hj with h | h
    · exact h
    · exfalso
      have hqi := List.getElem?_eq_getElem (show i < qs.length by omega)
      have hqj := List.getElem?_eq_getElem hj
      obtain ⟨h1, _⟩ := h _ _ hqi hqj
      simp only [freeS, Bool.and_eq_true] at h1
      have hdi : dT qs i = (qs[i]'(by omega)).d := by unfold dT; rw [hqi]; rfl
      have hdj : dT qs j = (qs[j]).d := by unfold dT; rw [hqj]; rfl
      have hri : readsT qs i = (qs[i]'(by omega)).reads := by unfold readsT; rw [hqi]
      have hrj : readsT qs j = (qs[j]).reads := by unfold readsT; rw [hqj]
      rw [hdi, hdj, hri, hrj] at hc
      rcases hc with ⟨h2, h3⟩ | ⟨h2, h3⟩
      · rw [h2] at h1
        rcases h3 with h3 | h3
        · simp [h3] at h1
        · simp [h3] at h1
      · rw [h2] at h1
        simp [h3] at h1
  · rcases hpair i j hij (List.getElem?_eq_some_iff.1 hq').1 with h | h
    · exact .inl h
    · right
      obtain ⟨_, h1⟩ := h _ _ hq hq'
      simp only [freeH, Bool.and_eq_true] at h1
      obtain ⟨⟨⟨⟨⟨h1, h2⟩, h3⟩, h4⟩, h5⟩, h6⟩ := h1
      have hi : i ≤ qs.length := by have := (List.getElem?_eq_some_iff.1 hq).1; omega
      have hj : j ≤ qs.length := by have := (List.getElem?_eq_some_iff.1 hq').1; omega
      have hapx : ∀ x y b, apIn qs ap i j x y = true → idOf (x.ev (tr i).1) = some b → idOf (y.ev (tr j).1) ≠ some b := by
        intro x y b h hx hyb
        simp only [apIn, Bool.and_eq_true, Bool.or_eq_true] at h
        rw [stable_ok ht hi h.1.2] at hx
        rw [stable_ok ht hj h.2] at hyb
        rcases h.1.1 with h | h
        · exact apartA_ok hap _ (by simpa using h) b b hx hyb rfl
        · exact apartA_ok hap _ (by simpa using h) b b hyb hx rfl
      have hst0 : ∀ (t m k : Nat), m ≤ k → stableX qs m (.t t) = true → stableX qs k (.t t) = true := fun t m k hmk h => by
        unfold stableX at h ⊢
        rw [List.all_eq_true] at h ⊢
        refine fun x hx => h x ?_
        have e : qs.drop k = (qs.drop m).drop (k - m) := by rw [List.drop_drop]; congr 1; omega
        rw [e] at hx
        exact List.mem_of_mem_drop hx
      have hcalm : ∀ (i j : Nat) (q : AOper), qs[i]? = some q → q.o.isCall = true → i ≤ qs.length → j ≤ qs.length → ∀ x : AOper, calmB ms qs i j x = true → x.o.isCall = false ∧ (∀ y ∈ x.o.rs, ∀ p ∈ (out i).2.2, idOf (y.ev (tr j).1) ≠ some p.1) ∧ x.o.ws = [] := fun i j q hq hc hi hj x hx => by
        simp only [calmB, Bool.and_eq_true, Bool.not_eq_true', List.isEmpty_iff] at hx
        refine ⟨hx.1.1, fun y hy p hp => ?_, hx.1.2⟩
        have hyx := List.all_eq_true.1 hx.2 y hy
        split at hyx
        · rename_i t
          simp only [Bool.and_eq_true, List.contains_iff_mem] at hyx
          rw [stable_ok ht hj (hst0 t _ j (Nat.min_le_right i j) hyx.2), ← stable_ok ht hi (hst0 t _ i (Nat.min_le_left i j) hyx.2)]
          exact okE_far hc (ht.step i q hq).2.1 p hp t hyx.1
        · cases hyx
      refine ⟨fun x hx y hy b => hapx x y b (List.all_eq_true.1 (List.all_eq_true.1 h1 x hx) y hy), fun x hx y hy b => hapx x y b (List.all_eq_true.1 (List.all_eq_true.1 h2 x hx) y hy), fun hc => by simpa [hc] using h3, fun hc => by simpa [hc] using h4, fun hl hc => hcalm i j q hq hc hi hj q' (by rw [hl, hc] at h5; simpa using h5), fun hl hc => hcalm j i q' hq' hc hj hi q (by rw [hl, hc] at h6; simpa using h6)⟩
theorem regionE_ok {P : Program} {F : Fns} (hF : FnOK P F) (hm : P.follows .mixedOrders = true) {nt id : Nat} {ms : List (List Nat)} {ops : Array Oper} {qs : List AOper} {ap : List (Opd × Opd)} (hk : okOps P nt ops ops.toList qs = true) (hd : okDrawE ops qs ap ms = true)
    {φ : Phi} {e e' : Env} {h h' : Heap} {a : Act} {w : World} (hs : StOK φ e h nt a w) (hr : runOpsE F h.length qs ms [] e h = some (e', h')) (hap : apartA e' ap = true) {m : Nat} (hml : m ≤ h.length) {Q : Exit → Act → World → Prop}
    (hQ : ∀ φ' a' w', StOK φ' e' h' nt a' w' → Later m φ h w φ' h' w' → Q .normal a' w') : (Code.region id ops true).wp P Q a w := by
  obtain ⟨tr, out, ht, h0, hn⟩ := tr_of qs ms e h e' h' hr
  have hh0 : (tr 0).2 = h := by rw [h0]
  have he0 : (tr 0).1 = e := by rw [h0]
  have hen : (tr qs.length).1 = e' := by rw [hn]
  have hhn : (tr qs.length).2 = h' := by rw [hn]
  have hy : Hyp P F nt (tr 0).2.length ms ops qs tr out := hyp_of (by rw [hh0]; exact ht) hk hd (by rw [hen]; exact hap)
  refine wp_region_any hm ?_
  rw [hy.len]
  have hdrew : HeapOK φ (lkp h) { w with drawn := w.drawn + 1 } := ⟨⟨fun i b p hb hp => by
    have := hs.heap.blk i b p hb hp
    cases b with
    | dead => trivial
    | cells cs own => exact this
    | map es => exact this, hs.heap.sep, hs.heap.dom⟩, hs.heap.tab⟩
  have hmv0 : Mv φ (lkp (tr 0).2) w φ (lkp (tr 0).2) { w with drawn := w.drawn + 1 } := by
    rw [hh0]
    exact ⟨hdrew, ⟨rfl, rfl, rfl, Nat.le_refl _, fun _ _ _ => rfl⟩, fun _ hk => .inl hk, fun _ hk => .inl hk⟩
  have hS0 : ∀ k, (Array.replicate qs.length false).getD k false = false := fun k => by
    by_cases hk : k < qs.length <;> simp [Array.getD, hk]
  refine any_ok hF hy (φ0 := φ) (w0 := w) (fun S φ' a' w' hS hl => ?_) qs.length (Array.replicate qs.length false) φ a _ (by simp) (cnt_le _ _) ⟨?_, fun k hk _ => ?_, fun k p _ hk => ?_, hs.size, hs.defers, fun j hj => ?_, fun _ _ => rfl, ?_⟩
  · have henv := hl.env
    have hmv := hl.mv
    rw [ES_all hy.ht qs.length (Nat.le_refl _) hS, hen] at henv
    rw [HS_all hy.ht qs.length (Nat.le_refl _) hS, hhn, hh0] at hmv
    have hlen := tr_mono hy.ht (Nat.zero_le qs.length) (Nat.le_refl _)
    rw [hh0, hhn] at hlen
    exact hQ φ' a' w' ⟨henv, hmv.ok, hl.size, hl.defers⟩ ⟨fun i hi => hl.keep i (by rw [hh0]; omega), hmv, by omega⟩
  · have : ∀ K, ES qs tr out (fun k => (Array.replicate qs.length false).getD k false) K = e := by
      intro K
      induction K with
      | zero => exact he0
      | succ K ih => simp only [ES, hS0 K, Bool.false_eq_true, if_false]; exact ih
    rw [this]
    exact hs.env
  · intro j hj
    have hlen := tr_mono hy.ht (Nat.zero_le k) (by omega)
    have := hs.heap.free ((tr k).2.length - h.length + j + 1) ((tr k).2.length - h.length + j) (by omega)
    rw [hh0] at hlen
    rwa [show h.length + ((tr k).2.length - h.length + j) = (tr k).2.length + j by omega] at this
  · rw [hS0 k] at hk; cases hk
  · rw [hS0 j] at hj; cases hj
  · rw [HS_zero _ hS0]
    exact hmv0
theorem regionD_ok {P : Program} {F : Fns} (hF : FnOK P F) (hm : P.follows .mixedOrders = true) {nt id : Nat} {ops : Array Oper} {qs : List AOper} {ap : List (Opd × Opd)} (hk : okOps P nt ops ops.toList qs = true) (hd : okDraw ops qs ap = true)
    {φ : Phi} {e e' : Env} {h h' : Heap} {a : Act} {w : World} (hs : StOK φ e h nt a w) (hr : runOpsD F h.length qs e h = some (e', h')) (hap : apartA e' ap = true) {m : Nat} (hml : m ≤ h.length) {Q : Exit → Act → World → Prop}
    (hQ : ∀ φ' a' w', StOK φ' e' h' nt a' w' → Later m φ h w φ' h' w' → Q .normal a' w') : (Code.region id ops true).wp P Q a w :=
  regionE_ok hF hm (ms := []) hk (by unfold okDrawE; unfold okDraw at hd; simp only [Bool.and_eq_true] at hd; rw [hd.1, hd.2]; rfl) hs (runE_of_D qs [] e h _ hr) hap hml hQ
end Go.Proofs.YtgpafbbnobanbaaGreatDoor.AM

