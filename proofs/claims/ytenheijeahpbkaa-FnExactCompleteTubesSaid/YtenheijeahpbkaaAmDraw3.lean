/-
  A step of any order, seen from the listed one.
-/
import Derived.Test.YtenheijeahpbkaaAmDraw2
namespace Go.Proofs.Ytenheijeahpbkaa.AM
open Go

def Opd.tmp : Opd → Option Nat | .t n => some n | _ => none
def AOper.reads (q : AOper) : List Nat := q.o.opds.filterMap Opd.tmp ++ (match q.g with | some (s, _) => [s] | none => [])
def readsT (qs : List AOper) (k : Nat) : List Nat := match qs[k]? with | some q => q.reads | none => []
def SlotC (qs : List AOper) (i j : Nat) : Prop := ∃ t, (dT qs i = some t ∧ (t ∈ readsT qs j ∨ dT qs j = some t)) ∨ (dT qs j = some t ∧ t ∈ readsT qs i)
/-- operands that name no block unless they are slots -/
def plainRs (q : AOper) : Prop := ∀ y ∈ q.o.rs, (∃ t, y = .t t) ∨ ∀ e, idOf (y.ev e) = none
theorem rs_opds {q : AOp} {y : Opd} (h : y ∈ q.rs) : y ∈ q.opds := by
  cases q with
  | p q => simp [AOp.rs] at h
  | h q => cases q <;> simp_all [AOp.rs, AOp.opds, HOp.opds] <;> first | done | (rcases h with h | h <;> simp [h])
theorem ws_rs {q : AOp} {y : Opd} (h : y ∈ q.ws) : y ∈ q.rs := by
  cases q with
  | p q => simp [AOp.ws] at h
  | h q => cases q <;> simp_all [AOp.rs, AOp.ws]
theorem readB_some {H : HF} {i o n : Nat} {cs : List C} (h : readB H i o n = some cs) : (H i).isSome = true := by
  unfold readB at h
  split at h
  · rename_i hb; rw [hb]; rfl
  · cases h
/-- what is looked at is there -/
theorem rs_some {F : Fns} {q : AOp} {e : Env} {H : HF} {base : Nat} {r : Out} (h : q.ev F e H base = some r) : ∀ y ∈ q.rs, ∀ b, idOf (y.ev e) = some b → (H b).isSome = true := by
  cases q with
  | p q => intro y hy; simp [AOp.rs] at hy
  | h q =>
    simp only [AOp.ev] at h
    cases q with
    | load n agg a =>
      intro y hy b hb
      simp [AOp.rs] at hy; subst hy
      simp only [HOp.ev] at h
      split at h
      · rename_i i o hv
        rw [hv] at hb; simp [idOf] at hb; subst hb
        obtain ⟨cs, hc, _⟩ := Option.map_eq_some_iff.1 h
        exact readB_some hc
      · cases h
    | slA m sz x lo hi =>
      intro y hy b hb
      simp [AOp.rs] at hy; subst hy
      simp only [HOp.ev] at h
      split at h
      · rename_i i o hv
        rw [hv] at hb; simp [idOf] at hb; subst hb
        split at h
        · rename_i hc; exact readB_some hc
        · cases h
      · cases h
    | store n a x =>
      intro y hy b hb
      simp [AOp.rs] at hy; subst hy
      simp only [HOp.ev] at h
      split at h
      · rename_i i o hv
        rw [hv] at hb; simp [idOf] at hb; subst hb
        split at h
        · rename_i hc; rw [hc]; rfl
        · cases h
      · cases h
    | app sz a x =>
      intro y hy b hb
      simp [AOp.rs] at hy
      simp only [HOp.ev] at h
      obtain ⟨q, hq, h⟩ := Option.bind_eq_some_iff.1 h
      rcases hy with rfl | rfl
      · split at h
        · rename_i i o ln sz' hv
          rw [hv] at hb; simp [idOf] at hb; subst hb
          split at h
          · rename_i hc; rw [hc]; rfl
          · cases h
        · rename_i hv; rw [hv] at hb; simp [idOf] at hb
        · cases h
      · unfold appSrc at hq
        split at hq
        · rename_i i o ln sz' hv
          rw [hv] at hb; simp [idOf] at hb; subst hb
          split at hq
          · obtain ⟨cs, hc, _⟩ := Option.bind_eq_some_iff.1 hq
            exact readB_some hc
          · cases hq
        · rename_i hv; rw [hv] at hb; simp [idOf] at hb
        · cases hq
    | s2b x => intro y hy; simp [AOp.rs] at hy
    | b2s x =>
      intro y hy b hb
      simp [AOp.rs] at hy; subst hy
      simp only [HOp.ev] at h
      split at h
      · rename_i i o ln hv
        rw [hv] at hb; simp [idOf] at hb; subst hb
        obtain ⟨cs, hc, _⟩ := Option.bind_eq_some_iff.1 h
        exact readB_some hc
      · rename_i hv; rw [hv] at hb; simp [idOf] at hb
      · cases h
    | call f xs => intro y hy; simp [AOp.rs] at hy
/-- a slice that is looked at is old or not empty -/
theorem okD_small {n : Nat} {h : Heap} {e : Env} {us : List (Nat × Blk)} {q : AOp} (hok : okD n h e us q = true) {F : Fns} {H : HF} {base : Nat} {r : Out} (hev : q.ev F e H base = some r) : ∀ y ∈ q.rs, smallSl n (y.ev e) = true := by
  cases q with
  | p q => intro y hy; simp [AOp.rs] at hy
  | h q =>
    simp only [AOp.ev] at hev
    intro y hy
    cases q with
    | load m agg a =>
      simp [AOp.rs] at hy; subst hy
      simp only [HOp.ev] at hev
      split at hev
      · rename_i i o hv; rw [hv]; rfl
      · cases hev
    | slA m sz x lo hi =>
      simp [AOp.rs] at hy; subst hy
      simp only [HOp.ev] at hev
      split at hev
      · rename_i i o hv; rw [hv]; rfl
      · cases hev
    | store m a x =>
      simp [AOp.rs] at hy; subst hy
      simp only [HOp.ev] at hev
      split at hev
      · rename_i i o hv; rw [hv]; rfl
      · cases hev
    | app sz a b =>
      simp only [okD, Bool.and_eq_true] at hok
      simp [AOp.rs] at hy
      rcases hy with rfl | rfl
      · exact hok.1
      · exact hok.2
    | s2b x => simp [AOp.rs] at hy
    | b2s x =>
      simp [AOp.rs] at hy; subst hy
      exact hok
    | call f xs => simp [AOp.rs] at hy
theorem opd_agree {e e' : Env} {q : AOper} (h : ∀ t ∈ q.reads, get e t = get e' t) : ∀ x ∈ q.o.opds, Opd.ev e x = Opd.ev e' x := by
  intro x hx
  cases x with
  | t n =>
    simp only [Opd.ev]
    refine h n ?_
    unfold AOper.reads
    exact List.mem_append_left _ (List.mem_filterMap.2 ⟨_, hx, rfl⟩)
  | k v => rfl
  | f f => rfl
theorem wanted_agree {e e' : Env} {q : AOper} (h : ∀ t ∈ q.reads, get e t = get e' t) : wantedA e q.g = wantedA e' q.g := by
  unfold AOper.reads at h
  cases hg : q.g with
  | none => rfl
  | some p =>
    obtain ⟨s, b⟩ := p
    rw [hg] at h
    simp only [wantedA]
    rw [h s (by simp)]
theorem updU_hit : ∀ (us : List (Nat × Blk)) (H H' : HF) (b : Nat), (∃ p ∈ us, p.1 = b) → updU us H b = updU us H' b
  | [], _, _, _, h => by obtain ⟨p, hp, _⟩ := h; simp at hp
  | q :: us, H, H', b, h => by
    simp only [updU]
    by_cases hu : ∃ p ∈ us, p.1 = b
    · exact updU_hit us _ _ b hu
    · have hq : q.1 = b := by
        obtain ⟨p, hp, hpb⟩ := h
        rcases List.mem_cons.1 hp with rfl | hp
        · exact hpb
        · exact absurd ⟨p, hp, hpb⟩ hu
      rw [updU_other us _ b fun p hp hpb => hu ⟨p, hp, hpb⟩, updU_other us _ b fun p hp hpb => hu ⟨p, hp, hpb⟩]
      simp [hq]

/-- what is asked of a region's code -/
structure Hyp (P : Program) (F : Fns) (nt n0 : Nat) (ops : Array Oper) (qs : List AOper) (tr : Nat → Env × Heap) (out : Nat → Out) : Prop where
  ht : Tr F n0 qs tr out
  len : ops.size = qs.length
  n0 : (tr 0).2.length = n0
  ok : ∀ (k : Nat) o q, ops[k]? = some o → qs[k]? = some q → okOper P nt ops o q = true
  rs : ∀ (k : Nat) q, qs[k]? = some q → plainRs q
  lower : ∀ i j, Anc ops i j → i < j
  c1 : ∀ i j, i < j → j < qs.length → SlotC qs i j → Anc ops i j
  c2 : ∀ (i j : Nat) q q', i < j → qs[i]? = some q → qs[j]? = some q' → Anc ops i j ∨
    ((∀ x ∈ q.o.ws, ∀ y ∈ q'.o.rs, ∀ b, idOf (x.ev (tr i).1) = some b → idOf (y.ev (tr j).1) ≠ some b) ∧
     (∀ x ∈ q.o.rs, ∀ y ∈ q'.o.ws, ∀ b, idOf (x.ev (tr i).1) = some b → idOf (y.ev (tr j).1) ≠ some b) ∧
     (q.o.isCall = true → q'.o.ws = []) ∧ (q'.o.isCall = true → q.o.ws = []))
section
variable {P : Program} {F : Fns} {nt n0 : Nat} {ops : Array Oper} {qs : List AOper} {tr : Nat → Env × Heap} {out : Nat → Out}
theorem slot_agree (hy : Hyp P F nt n0 ops qs tr out) {S : Nat → Bool} {i : Nat} {q : AOper} (hq : qs[i]? = some q) (hS : S i = false) (hr : EdgesIn ops S i) (hd : Down ops S) :
    ∀ t ∈ q.reads, get (ES qs tr out S qs.length) t = get (tr i).1 t := by
  intro t ht
  have hi : i < qs.length := (List.getElem?_eq_some_iff.1 hq).1
  have htr : t ∈ readsT qs i := by unfold readsT; rw [hq]; exact ht
  rw [← ES_all hy.ht (S := fun _ => true) i (by omega) fun _ _ => rfl]
  have h1 := ES_skip (qs := qs) (tr := tr) (out := out) (S := S) (K := i) (t := t) (qs.length - i) fun k h1 h2 h3 hdk => by
    rcases Nat.lt_or_ge i k with hlt | hge
    · have := anc_down hd (hy.c1 i k hlt (by omega) ⟨t, .inr ⟨hdk, htr⟩⟩) h3
      rw [hS] at this; cases this
    · have : k = i := by omega
      subst this
      rw [hS] at h3; cases h3
  rw [show i + (qs.length - i) = qs.length by omega] at h1
  rw [h1]
  exact ES_agree i fun k hk hdk => anc_ready hd (hy.c1 k i hk hi ⟨t, .inl ⟨hdk, .inl htr⟩⟩) hr
theorem heap_agree (hy : Hyp P F nt n0 ops qs tr out) {S : Nat → Bool} {i b : Nat} (hi : i < qs.length) (hS : S i = false) (hr : EdgesIn ops S i) (hd : Down ops S)
    (hc : ∀ k p, k < qs.length → p ∈ usT qs out k → p.1 = b → (k < i → Anc ops k i) ∧ (i < k → Anc ops i k)) (hb : b < (tr i).2.length)
    (hfar : ∀ k, k < i → S k = false → b < (tr k).2.length ∨ (tr k).2.length + (nsT qs out k).length ≤ b) : HS qs tr out S qs.length b = lkp (tr i).2 b := by
  rw [← HS_all hy.ht (S := fun _ => true) i (by omega) fun _ _ => rfl]
  have h1 := HS_skip (qs := qs) (tr := tr) (out := out) (S := S) (K := i) (b := b) (qs.length - i) fun k h1 h2 h3 => by
    rcases Nat.lt_or_ge i k with hlt | hge
    · refine ⟨.inl (Nat.lt_of_lt_of_le hb (tr_mono hy.ht h1 (by omega))), fun p hp hpb => ?_⟩
      have := anc_down hd ((hc k p (by omega) hp hpb).2 hlt) h3
      rw [hS] at this; cases this
    · have : k = i := by omega
      subst this
      rw [hS] at h3; cases h3
  rw [show i + (qs.length - i) = qs.length by omega] at h1
  rw [h1]
  refine HS_agree i fun k hk hne => ?_
  have hk0 : S k = false := by simpa using hne
  refine ⟨hfar k hk hk0, fun p hp hpb => ?_⟩
  have := anc_ready hd ((hc k p (by omega) hp hpb).1 hk) hr
  rw [hk0] at this; cases this
/-- one state of a run in an order of the model's own -/
structure Rel (ops : Array Oper) (qs : List AOper) (tr : Nat → Env × Heap) (out : Nat → Out) (nt n0 : Nat) (φ0 : Phi) (w0 : World) (S : Nat → Bool) (φ : Phi) (a : Act) (w : World) : Prop where
  env : EnvOK φ (ES qs tr out S qs.length) a
  free : ∀ k, k < qs.length → S k = false → Free φ (tr k).2.length (nsT qs out k).length
  us : ∀ k p, k < qs.length → S k = true → p ∈ usT qs out k → p.1 < n0 ∨ ∃ pl, φ p.1 = some pl
  size : a.tmps.size = nt
  defers : a.defers = []
  down : Down ops S
  keep : ∀ i, i < n0 → φ i = φ0 i
  mv : Mv φ0 (lkp (tr 0).2) w0 φ (HS qs tr out S qs.length) w
/-- what is looked at is old, or has its place -/
theorem known (hy : Hyp P F nt n0 ops qs tr out) {φ0 φ : Phi} {w0 w : World} {S : Nat → Bool} {a : Act} (hl : Rel ops qs tr out nt n0 φ0 w0 S φ a w) {i : Nat} {q : AOper} (hq : qs[i]? = some q) (hS : S i = false) (hr : EdgesIn ops S i) (hev : q.o.ev F (tr i).1 (lkp (tr i).2) (tr i).2.length = some (out i)) :
    ∀ y ∈ q.o.rs, ∀ b, idOf (y.ev (tr i).1) = some b → b < n0 ∨ ∃ pl, φ b = some pl := by
  have hsl := slot_agree hy hq hS hr hl.down
  have hopd := opd_agree hsl
  obtain ⟨_, hokd, _⟩ := hy.ht.step i q hq
  have hsm := fun y hy' => okD_small (q := q.o) hokd hev y hy'
  intro y hy' b hb
  rcases hy.rs i q hq y hy' with ⟨t, rfl⟩ | hno
  · have hv := hl.env t
    have hre := hopd _ (rs_opds hy')
    simp only [Opd.ev] at hre hb
    rw [hre] at hv
    have hsm := hsm _ hy'
    simp only [Opd.ev] at hsm
    cases hg : get (tr i).1 t with
    | c x =>
      rw [hg] at hb hv hsm
      cases x with
      | ptr j o =>
        simp only [idOf, Option.some.injEq] at hb
        subst hb
        obtain ⟨pl, hpl, _⟩ := hv
        exact .inr ⟨pl, hpl⟩
      | sl j o ln sz =>
        simp only [idOf, Option.some.injEq] at hb
        subst hb
        simp only [smallSl, Bool.or_eq_true, decide_eq_true_eq] at hsm
        rcases hsm with hsm | hsm
        · exact .inl hsm
        · rcases hv with ⟨h0, _⟩ | ⟨pl, cap, hpl, _⟩
          · omega
          · exact .inr ⟨pl, hpl⟩
      | _ => simp [idOf] at hb
    | _ => rw [hg] at hb; simp [idOf] at hb
  · rw [hno] at hb; cases hb
/-- what an operation yields is the same in any order -/
theorem out_agree (hy : Hyp P F nt n0 ops qs tr out) {φ0 φ : Phi} {w0 w : World} {S : Nat → Bool} {a : Act} (hl : Rel ops qs tr out nt n0 φ0 w0 S φ a w) {i : Nat} {q : AOper} (hq : qs[i]? = some q) (hS : S i = false) (hr : EdgesIn ops S i) :
    outA F q (ES qs tr out S qs.length) (HS qs tr out S qs.length) (tr i).2.length = some (out i) ∧ (q.o.isCall = true → updU (out i).2.2 (HS qs tr out S qs.length) = HS qs tr out S qs.length) := by
  have hi : i < qs.length := (List.getElem?_eq_some_iff.1 hq).1
  have hsl := slot_agree hy hq hS hr hl.down
  obtain ⟨hout, hokd, _⟩ := hy.ht.step i q hq
  have hopd := opd_agree hsl
  have hold : q.o.isCall = true → ∀ b, b < n0 → HS qs tr out S qs.length b = lkp (tr i).2 b := by
    intro hcall b hb
    have hlen : ∀ k, k ≤ qs.length → b < (tr k).2.length := fun k hk => Nat.lt_of_lt_of_le (by rw [hy.n0]; exact hb) (tr_mono hy.ht (Nat.zero_le k) hk)
    refine heap_agree hy hi hS hr hl.down (fun k p hk hp hpb => ?_) (hlen i (by omega)) fun k hk _ => .inl (hlen k (by omega))
    obtain ⟨q', hq', hnc, hpo, _⟩ := usT_some hy.ht hp
    have hwn : q'.o.ws ≠ [] := by
      obtain ⟨ho, _, _⟩ := hy.ht.step k q' hq'
      unfold outA at ho
      obtain ⟨wd, _, ho⟩ := Option.bind_eq_some_iff.1 ho
      split at ho
      · obtain ⟨x, hx, _⟩ := ws_ids hnc ho p hpo
        intro e; rw [e] at hx; simp at hx
      · injection ho with ho; rw [← ho] at hpo; simp at hpo
    exact ⟨fun hlt => (hy.c2 k i q' q hlt hq' hq).elim id fun h => absurd (h.2.2.2 hcall) hwn, fun hlt => (hy.c2 i k q q' hlt hq hq').elim id fun h => absurd (h.2.2.1 hcall) hwn⟩
  refine ⟨?_, fun hcall => ?_⟩
  · unfold outA at hout ⊢
    rw [wanted_agree hsl]
    obtain ⟨wd, hwd, hout⟩ := Option.bind_eq_some_iff.1 hout
    rw [hwd]
    simp only [Option.bind_some]
    cases wd with
    | false => exact hout
    | true =>
      simp only [if_true] at hout ⊢
      cases ho : q.o with
      | p o =>
        rw [ho] at hopd hout
        simp only [AOp.ev] at hout ⊢
        rw [pop_congr _ o hopd]
        exact hout
      | h o =>
        by_cases hcall : q.o.isCall = true
        · have hold := hold hcall
          rw [ho] at hopd hout hcall hokd
          cases o with
          | call f xs =>
            simp only [AOp.ev, HOp.ev] at hout ⊢
            have hf := hopd f (by simp [AOp.opds, HOp.opds])
            have hxs : xs.map (Opd.ev (ES qs tr out S qs.length)) = xs.map (Opd.ev (tr i).1) := List.map_congr_left fun x hx => hopd x (by simp [AOp.opds, HOp.opds, hx])
            rw [hf, hxs]
            split at hout
            · refine callA_congr (m := n0) (fun b hb => (hold b hb).symm) hout fun p hp => ?_
              have := List.all_eq_true.1 hokd p hp
              simp only [Bool.and_eq_true, decide_eq_true_eq] at this
              exact this.1
            · cases hout
          | _ => simp [AOp.isCall] at hcall
        · have hnc : q.o.isCall = false := by simpa using hcall
          have hkn := known hy hl hq hS hr hout
          have hso := fun y hy' => rs_some (q := q.o) hout y hy'
          have hro : ∀ y ∈ q.o.rs, y.ev (ES qs tr out S qs.length) = y.ev (tr i).1 := fun y hy' => hopd y (rs_opds hy')
          have hag : ∀ y ∈ q.o.rs, ∀ b, idOf (y.ev (tr i).1) = some b → HS qs tr out S qs.length b = lkp (tr i).2 b := by
            intro y hy' b hb
            obtain ⟨bl, hbl⟩ := Option.isSome_iff_exists.1 (hso y hy' b hb)
            have hblt : b < (tr i).2.length := (List.getElem?_eq_some_iff.1 hbl).1
            refine heap_agree hy hi hS hr hl.down (fun k p hk hp hpb => ?_) hblt fun k hk hk0 => ?_
            · obtain ⟨q', hq', hnc', hpo, _⟩ := usT_some hy.ht hp
              obtain ⟨hko, _, _⟩ := hy.ht.step k q' hq'
              have hx : ∃ x ∈ q'.o.ws, idOf (x.ev (tr k).1) = some b := by
                unfold outA at hko
                obtain ⟨wd, _, hko⟩ := Option.bind_eq_some_iff.1 hko
                split at hko
                · rw [← hpb]; exact ws_ids hnc' hko p hpo
                · injection hko with hko; rw [← hko] at hpo; simp at hpo
              obtain ⟨x, hx, hxb⟩ := hx
              exact ⟨fun hlt => (hy.c2 k i q' q hlt hq' hq).elim id fun h => absurd hb (h.1 x hx y hy' b hxb), fun hlt => (hy.c2 i k q q' hlt hq hq').elim id fun h => absurd hxb (h.2.1 y hy' x hx b hb)⟩
            · rcases Nat.lt_or_ge b n0 with hbn | hbn
              · exact .inl (Nat.lt_of_lt_of_le (by rw [hy.n0]; exact hbn) (tr_mono hy.ht (Nat.zero_le k) (by omega)))
              · obtain ⟨pl, hpl⟩ := (hkn y hy' b hb).resolve_left (by omega)
                rcases Nat.lt_or_ge b (tr k).2.length with h1 | h1
                · exact .inl h1
                · rcases Nat.lt_or_ge b ((tr k).2.length + (nsT qs out k).length) with h2 | h2
                  · have := hl.free k (by omega) hk0 (b - (tr k).2.length) (by omega)
                    rw [show (tr k).2.length + (b - (tr k).2.length) = b by omega, hpl] at this
                    cases this
                  · exact .inr h2
          rw [ho] at hopd hout hnc hag hro
          simp only [AOp.ev] at hout ⊢
          rw [hop_congr (F := F) (e := ES qs tr out S qs.length) (e' := (tr i).1) (H := HS qs tr out S qs.length) (H' := lkp (tr i).2) (tr i).2.length o hnc hopd fun y hy' b hb => hag y hy' b (by rw [← hro y hy']; exact hb)]
          exact hout
  · have hold := hold hcall
    refine updU_same _ _ fun p hp => ?_
    have hst : stillA n0 (tr i).2 (out i).2.2 = true := by
      unfold okD at hokd
      cases ho : q.o with
      | p o => rw [ho] at hcall; simp [AOp.isCall] at hcall
      | h o => cases o <;> rw [ho] at hcall hokd <;> first | exact hokd | simp [AOp.isCall] at hcall
    have := List.all_eq_true.1 hst p hp
    simp only [Bool.and_eq_true, decide_eq_true_eq] at this
    rw [hold p.1 this.1]
    exact this.2
end
end Go.Proofs.Ytenheijeahpbkaa.AM
