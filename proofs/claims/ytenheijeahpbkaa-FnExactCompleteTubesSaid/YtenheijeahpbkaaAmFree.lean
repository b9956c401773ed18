/-
  The evaluator without fuel: equations to rewrite by.
-/
import Derived.Test.YtenheijeahpbkaaAmSound
namespace Go.Proofs.Ytenheijeahpbkaa.AM
open Go

def FLe (F F' : Fns) : Prop := ∀ f a h r, F f a h = some r → F' f a h = some r
abbrev Rec := ACode → Env → Heap → R
def RLe (A B : Rec) : Prop := ∀ c e h r, A c e h = some r → B c e h = some r
theorem callA_mono {F F' : Fns} (hF : FLe F F') {f : Nat} {args : List V} {H : HF} {base : Nat} {r : Out} (h : callA F f args H base = some r) : callA F' f args H base = some r := by
  unfold callA at h ⊢
  simp only at h ⊢
  split at h
  · rename_i hc
    rw [if_pos hc]
    obtain ⟨x, hx, h⟩ := Option.bind_eq_some_iff.1 h
    rw [hF _ _ _ _ hx]
    exact h
  · cases h
theorem ev_mono {F F' : Fns} (hF : FLe F F') {q : AOp} {e : Env} {H : HF} {base : Nat} {r : Out} (h : q.ev F e H base = some r) : q.ev F' e H base = some r := by
  cases q with
  | p q => exact h
  | h q =>
    cases q with
    | call f xs =>
      simp only [AOp.ev, HOp.ev] at h ⊢
      split at h
      · exact callA_mono hF h
      · cases h
    | _ => exact h
theorem outA_mono {F F' : Fns} (hF : FLe F F') {q : AOper} {e : Env} {H : HF} {base : Nat} {r : Out} (h : outA F q e H base = some r) : outA F' q e H base = some r := by
  unfold outA at h ⊢
  obtain ⟨w, hw, h⟩ := Option.bind_eq_some_iff.1 h
  rw [hw]
  simp only [Option.bind_some]
  cases w with
  | true => simp only [if_true] at h ⊢; exact ev_mono hF h
  | false => exact h
theorem runOps_mono {F F' : Fns} (hF : FLe F F') : ∀ (qs : List AOper) (e : Env) (h : Heap) r, runOps F qs e h = some r → runOps F' qs e h = some r
  | [], _, _, _, hr => hr
  | q :: qs, e, h, r, hr => by
    simp only [runOps, stepA] at hr ⊢
    obtain ⟨s, hs, hr⟩ := Option.bind_eq_some_iff.1 hr
    obtain ⟨o, ho, hs⟩ := Option.map_eq_some_iff.1 hs
    rw [outA_mono hF ho]
    simp only [Option.map_some, Option.bind_some]
    subst hs
    exact runOps_mono hF qs _ _ r hr
theorem runOpsD_mono {F F' : Fns} (hF : FLe F F') {n0 : Nat} : ∀ (qs : List AOper) (e : Env) (h : Heap) r, runOpsD F n0 qs e h = some r → runOpsD F' n0 qs e h = some r
  | [], _, _, _, hr => hr
  | q :: qs, e, h, r, hr => by
    simp only [runOpsD, stepD] at hr ⊢
    obtain ⟨s, hs, hr⟩ := Option.bind_eq_some_iff.1 hr
    obtain ⟨o, ho, hs⟩ := Option.bind_eq_some_iff.1 hs
    rw [outA_mono hF ho]
    simp only [Option.bind_some]
    rw [hs]
    exact runOpsD_mono hF qs _ _ r hr
theorem exS_mono {F F' : Fns} {A B : Rec} {m : Nat} (hF : FLe F F') (hA : RLe A B) : ∀ (c : ACode) (e : Env) (h : Heap) r, exS F A m c e h = some r → exS F' B m c e h = some r := by
  intro c
  induction c with
  | skip => intro e h r hr; exact hr
  | ret => intro e h r hr; exact hr
  | exit id => intro e h r hr; exact hr
  | region qs live =>
    intro e h r hr
    simp only [exS] at hr ⊢
    obtain ⟨s, hs, hr⟩ := Option.map_eq_some_iff.1 hr
    rw [runOps_mono hF _ _ _ _ hs]
    simpa using hr
  | regionD qs live ap =>
    intro e h r hr
    simp only [exS] at hr ⊢
    obtain ⟨s, hs, hr⟩ := Option.bind_eq_some_iff.1 hr
    rw [runOpsD_mono hF _ _ _ _ hs]
    exact hr
  | seq a b iha ihb =>
    intro e h r hr
    simp only [exS] at hr ⊢
    obtain ⟨⟨x, e1, h1⟩, hs, hr⟩ := Option.bind_eq_some_iff.1 hr
    rw [iha _ _ _ hs]
    simp only [Option.bind_some]
    cases x with
    | norm => exact ihb _ _ _ hr
    | exit id => exact hr
    | ret => exact hr
  | cond c a b iha ihb =>
    intro e h r hr
    simp only [exS] at hr ⊢
    split at hr
    · rename_i t ht
      cases t with
      | true => exact iha _ _ _ hr
      | false => exact ihb _ _ _ hr
    · cases hr
  | block id a ih =>
    intro e h r hr
    simp only [exS] at hr ⊢
    obtain ⟨s, hs, hr⟩ := Option.map_eq_some_iff.1 hr
    rw [ih _ _ _ hs]
    simpa using hr
  | loop a live ih =>
    intro e h r hr
    simp only [exS] at hr ⊢
    obtain ⟨s, hs, hr⟩ := Option.bind_eq_some_iff.1 hr
    obtain ⟨⟨x, e1, h1⟩, hs1, hr⟩ := Option.bind_eq_some_iff.1 hr
    rw [hs]
    simp only [Option.bind_some]
    rw [ih _ _ _ hs1]
    simp only [Option.bind_some]
    cases x with
    | norm => exact hA _ _ _ _ hr
    | exit id => exact hr
    | ret => exact hr
theorem fnOf_mono {P : Prog} {Q : Prim} {A B : Nat → Rec} (hA : ∀ m, RLe (A m) (B m)) : FLe (fnOf P Q A) (fnOf P Q B) := by
  intro f a h r hr
  unfold fnOf at hr ⊢
  split
  · rename_i q hq
    rw [hq] at hr
    exact hr
  · rename_i hq
    rw [hq] at hr
    simp only at hr
    split
    · rename_i hp; rw [hp] at hr; cases hr
    · rename_i fn hp
      rw [hp] at hr
      simp only at hr
      split at hr
      · rename_i hl
        rw [if_pos hl]
        obtain ⟨s, hs, hr⟩ := Option.bind_eq_some_iff.1 hr
        rw [hA _ _ _ _ _ hs]
        exact hr
      · cases hr
section
variable (P : Prog) (Q : Prim)
theorem exN_succ : ∀ (n m : Nat), RLe (exN P Q n m) (exN P Q (n + 1) m)
  | 0, m => fun c e h r hr => by simp [exN] at hr
  | n + 1, m => fun c e h r hr => by
    simp only [exN] at hr
    rw [exN]
    exact exS_mono (fnOf_mono fun m => exN_succ n m) (exN_succ n m) c e h r hr
theorem exN_le {n k : Nat} (h : n ≤ k) (m : Nat) : RLe (exN P Q n m) (exN P Q k m) := by
  induction h with
  | refl => exact fun _ _ _ _ hr => hr
  | step _ ih => exact fun c e h r hr => exN_succ P Q _ m c e h r (ih c e h r hr)
theorem fnN_le {n k : Nat} (h : n ≤ k) : FLe (fnN P Q n) (fnN P Q k) := fnOf_mono fun m => exN_le P Q h m
open Classical in
noncomputable def fnI : Fns := fun f a h => if hx : ∃ r n, fnN P Q n f a h = some r then some (Classical.choose hx) else none
open Classical in
noncomputable def exI (m : Nat) : Rec := fun c e h => if hx : ∃ r n, exN P Q n m c e h = some r then some (Classical.choose hx) else none
theorem fnI_iff {f : Nat} {a : List V} {h : Heap} {r : V × Heap} : fnI P Q f a h = some r ↔ ∃ n, fnN P Q n f a h = some r := by
  unfold fnI
  constructor
  · intro hr
    split at hr
    · rename_i hx
      injection hr with hr
      rw [← hr]
      exact Classical.choose_spec hx
    · cases hr
  · intro ⟨n, hn⟩
    have hx : ∃ r n, fnN P Q n f a h = some r := ⟨r, n, hn⟩
    rw [dif_pos hx]
    obtain ⟨k, hk⟩ := Classical.choose_spec hx
    have h1 := fnN_le P Q (Nat.le_max_left n k) _ _ _ _ hn
    have h2 := fnN_le P Q (Nat.le_max_right n k) _ _ _ _ hk
    rw [h1] at h2
    exact h2.symm
theorem exI_iff {m : Nat} {c : ACode} {e : Env} {h : Heap} {r : Ex × Env × Heap} : exI P Q m c e h = some r ↔ ∃ n, exN P Q n m c e h = some r := by
  unfold exI
  constructor
  · intro hr
    split at hr
    · rename_i hx
      injection hr with hr
      rw [← hr]
      exact Classical.choose_spec hx
    · cases hr
  · intro ⟨n, hn⟩
    have hx : ∃ r n, exN P Q n m c e h = some r := ⟨r, n, hn⟩
    rw [dif_pos hx]
    obtain ⟨k, hk⟩ := Classical.choose_spec hx
    have h1 := exN_le P Q (Nat.le_max_left n k) m _ _ _ _ hn
    have h2 := exN_le P Q (Nat.le_max_right n k) m _ _ _ _ hk
    rw [h1] at h2
    exact h2.symm
theorem fnN_le_I (n : Nat) : FLe (fnN P Q n) (fnI P Q) := fun _ _ _ _ hr => (fnI_iff P Q).2 ⟨n, hr⟩
theorem exN_le_I (n m : Nat) : RLe (exN P Q n m) (exI P Q m) := fun _ _ _ _ hr => (exI_iff P Q).2 ⟨n, hr⟩
/-! what is reckoned without fuel is reckoned with some -/
theorem callA_fin {f : Nat} {args : List V} {H : HF} {base : Nat} {r : Out} (h : callA (fnI P Q) f args H base = some r) : ∃ n, callA (fnN P Q n) f args H base = some r := by
  unfold callA at h
  simp only at h
  split at h
  · rename_i hc
    obtain ⟨x, hx, h⟩ := Option.bind_eq_some_iff.1 h
    obtain ⟨n, hn⟩ := (fnI_iff P Q).1 hx
    refine ⟨n, ?_⟩
    unfold callA
    simp only
    rw [if_pos hc, hn]
    exact h
  · cases h
theorem ev_fin {q : AOp} {e : Env} {H : HF} {base : Nat} {r : Out} (h : q.ev (fnI P Q) e H base = some r) : ∃ n, q.ev (fnN P Q n) e H base = some r := by
  cases q with
  | p q => exact ⟨0, h⟩
  | h q =>
    cases q with
    | call f xs =>
      simp only [AOp.ev, HOp.ev] at h ⊢
      split at h
      · obtain ⟨n, hn⟩ := callA_fin P Q h
        exact ⟨n, hn⟩
      · cases h
    | _ => exact ⟨0, h⟩
theorem outA_fin {q : AOper} {e : Env} {H : HF} {base : Nat} {r : Out} (h : outA (fnI P Q) q e H base = some r) : ∃ n, outA (fnN P Q n) q e H base = some r := by
  unfold outA at h ⊢
  obtain ⟨w, hw, h⟩ := Option.bind_eq_some_iff.1 h
  rw [hw]
  simp only [Option.bind_some]
  cases w with
  | true => simp only [if_true] at h ⊢; exact ev_fin P Q h
  | false => exact ⟨0, h⟩
theorem runOps_fin : ∀ (qs : List AOper) (e : Env) (h : Heap) r, runOps (fnI P Q) qs e h = some r → ∃ n, runOps (fnN P Q n) qs e h = some r
  | [], _, _, _, hr => ⟨0, hr⟩
  | q :: qs, e, h, r, hr => by
    simp only [runOps, stepA] at hr ⊢
    obtain ⟨s, hs, hr⟩ := Option.bind_eq_some_iff.1 hr
    obtain ⟨o, ho, hs⟩ := Option.map_eq_some_iff.1 hs
    obtain ⟨n1, h1⟩ := outA_fin P Q ho
    obtain ⟨n2, h2⟩ := runOps_fin qs _ _ r hr
    refine ⟨max n1 n2, ?_⟩
    rw [outA_mono (fnN_le P Q (Nat.le_max_left n1 n2)) h1]
    simp only [Option.map_some, Option.bind_some]
    subst hs
    exact runOps_mono (fnN_le P Q (Nat.le_max_right n1 n2)) _ _ _ _ h2
theorem runOpsD_fin {n0 : Nat} : ∀ (qs : List AOper) (e : Env) (h : Heap) r, runOpsD (fnI P Q) n0 qs e h = some r → ∃ n, runOpsD (fnN P Q n) n0 qs e h = some r
  | [], _, _, _, hr => ⟨0, hr⟩
  | q :: qs, e, h, r, hr => by
    simp only [runOpsD, stepD] at hr ⊢
    obtain ⟨s, hs, hr⟩ := Option.bind_eq_some_iff.1 hr
    obtain ⟨o, ho, hs⟩ := Option.bind_eq_some_iff.1 hs
    obtain ⟨n1, h1⟩ := outA_fin P Q ho
    obtain ⟨n2, h2⟩ := runOpsD_fin qs _ _ r hr
    refine ⟨max n1 n2, ?_⟩
    rw [outA_mono (fnN_le P Q (Nat.le_max_left n1 n2)) h1]
    simp only [Option.bind_some]
    rw [hs]
    exact runOpsD_mono (fnN_le P Q (Nat.le_max_right n1 n2)) _ _ _ _ h2
theorem exS_fin {m : Nat} : ∀ (c : ACode) (e : Env) (h : Heap) r, exS (fnI P Q) (exI P Q m) m c e h = some r → ∃ n, exS (fnN P Q n) (exN P Q n m) m c e h = some r := by
  have up : ∀ {n k : Nat}, n ≤ k → ∀ {c e h r}, exS (fnN P Q n) (exN P Q n m) m c e h = some r → exS (fnN P Q k) (exN P Q k m) m c e h = some r := fun hle c e h r hr => exS_mono (fnN_le P Q hle) (exN_le P Q hle m) c e h r hr
  intro c
  induction c with
  | skip => intro e h r hr; exact ⟨0, hr⟩
  | ret => intro e h r hr; exact ⟨0, hr⟩
  | exit id => intro e h r hr; exact ⟨0, hr⟩
  | region qs live =>
    intro e h r hr
    simp only [exS] at hr ⊢
    obtain ⟨s, hs, hr⟩ := Option.map_eq_some_iff.1 hr
    obtain ⟨n, hn⟩ := runOps_fin P Q _ _ _ _ hs
    exact ⟨n, by rw [hn]; simpa using hr⟩
  | regionD qs live ap =>
    intro e h r hr
    simp only [exS] at hr ⊢
    obtain ⟨s, hs, hr⟩ := Option.bind_eq_some_iff.1 hr
    obtain ⟨n, hn⟩ := runOpsD_fin P Q _ _ _ _ hs
    exact ⟨n, by rw [hn]; exact hr⟩
  | seq a b iha ihb =>
    intro e h r hr
    simp only [exS] at hr ⊢
    obtain ⟨⟨x, e1, h1⟩, hs, hr⟩ := Option.bind_eq_some_iff.1 hr
    obtain ⟨n1, hn1⟩ := iha _ _ _ hs
    cases x with
    | norm =>
      obtain ⟨n2, hn2⟩ := ihb _ _ _ hr
      refine ⟨max n1 n2, ?_⟩
      rw [up (Nat.le_max_left n1 n2) hn1]
      exact up (Nat.le_max_right n1 n2) hn2
    | exit id => exact ⟨n1, by rw [hn1]; exact hr⟩
    | ret => exact ⟨n1, by rw [hn1]; exact hr⟩
  | cond c a b iha ihb =>
    intro e h r hr
    simp only [exS] at hr ⊢
    split at hr
    · rename_i t ht
      cases t with
      | true => exact iha _ _ _ hr
      | false => exact ihb _ _ _ hr
    · cases hr
  | block id a ih =>
    intro e h r hr
    simp only [exS] at hr ⊢
    obtain ⟨s, hs, hr⟩ := Option.map_eq_some_iff.1 hr
    obtain ⟨n, hn⟩ := ih _ _ _ hs
    exact ⟨n, by rw [hn]; simpa using hr⟩
  | loop a live ih =>
    intro e h r hr
    simp only [exS] at hr ⊢
    obtain ⟨s, hs, hr⟩ := Option.bind_eq_some_iff.1 hr
    obtain ⟨⟨x, e1, h1⟩, hs1, hr⟩ := Option.bind_eq_some_iff.1 hr
    obtain ⟨n1, hn1⟩ := ih _ _ _ hs1
    rw [hs]
    simp only [Option.bind_some]
    cases x with
    | norm =>
      obtain ⟨n2, hn2⟩ := (exI_iff P Q).1 hr
      refine ⟨max n1 n2, ?_⟩
      rw [up (Nat.le_max_left n1 n2) hn1]
      exact exN_le P Q (Nat.le_max_right n1 n2) m _ _ _ _ hn2
    | exit id => exact ⟨n1, by rw [hn1]; exact hr⟩
    | ret => exact ⟨n1, by rw [hn1]; exact hr⟩
theorem opt_ext {α : Type} {a b : Option α} (h : ∀ r, a = some r ↔ b = some r) : a = b := by
  cases a with
  | none => cases b with
    | none => rfl
    | some y => exact absurd ((h y).2 rfl) (by simp)
  | some x => exact ((h x).1 rfl).symm
/-- the code's equation -/
theorem exI_eq (m : Nat) (c : ACode) (e : Env) (h : Heap) : exI P Q m c e h = exS (fnI P Q) (exI P Q m) m c e h := by
  refine opt_ext fun r => ⟨fun hr => ?_, fun hr => ?_⟩
  · obtain ⟨n, hn⟩ := (exI_iff P Q).1 hr
    cases n with
    | zero => simp [exN] at hn
    | succ n => exact exS_mono (fnN_le_I P Q n) (exN_le_I P Q n m) c e h r hn
  · obtain ⟨n, hn⟩ := exS_fin P Q c e h r hr
    exact (exI_iff P Q).2 ⟨n + 1, hn⟩
/-- a function's equation -/
theorem fnI_eq (f : Nat) (a : List V) (h : Heap) : fnI P Q f a h = fnOf P Q (exI P Q) f a h := by
  refine opt_ext fun r => ⟨fun hr => ?_, fun hr => ?_⟩
  · obtain ⟨n, hn⟩ := (fnI_iff P Q).1 hr
    exact fnOf_mono (fun m => exN_le_I P Q n m) _ _ _ _ hn
  · unfold fnOf at hr
    rw [fnI_iff]
    split at hr
    · rename_i q hq
      exact ⟨0, by unfold fnN fnOf; rw [hq]; exact hr⟩
    · rename_i hq
      split at hr
      · cases hr
      · rename_i fn hp
        split at hr
        · rename_i hl
          obtain ⟨s, hs, hr⟩ := Option.bind_eq_some_iff.1 hr
          obtain ⟨n, hn⟩ := (exI_iff P Q).1 hs
          refine ⟨n, ?_⟩
          unfold fnN fnOf
          rw [hq]
          simp only [hp]
          rw [if_pos hl, hn]
          exact hr
        · cases hr
/-- a call's equation -/
theorem fnI_body {f : Nat} {fn : AFn} (hq : Q f = none) (hp : P f = some fn) {a : List V} (hl : a.length = fn.np) (h : Heap) : fnI P Q f a h = (exI P Q h.length fn.body (enter a 0) h).bind fun
    | (.exit _, _, _) => none
    | (_, e, h') => leave h.length fn.res e h' := by
  rw [fnI_eq]
  unfold fnOf
  rw [hq]
  simp only [hp]
  rw [if_pos hl]
  rfl
theorem exI_skip (m : Nat) (e : Env) (h : Heap) : exI P Q m .skip e h = some (.norm, e, h) := by rw [exI_eq]; rfl
theorem exI_ret (m : Nat) (e : Env) (h : Heap) : exI P Q m .ret e h = some (.ret, e, h) := by rw [exI_eq]; rfl
theorem exI_exit (m id : Nat) (e : Env) (h : Heap) : exI P Q m (.exit id) e h = some (.exit id, e, h) := by rw [exI_eq]; rfl
theorem exI_region (m : Nat) (qs : List AOper) (live : List Nat) (e : Env) (h : Heap) : exI P Q m (.region qs live) e h = (runOps (fnI P Q) qs e h).map fun s => (.norm, restrict s.1 live, s.2) := by rw [exI_eq]; rfl
theorem exI_regionD (m : Nat) (qs : List AOper) (live : List Nat) (ap : List (Opd × Opd)) (e : Env) (h : Heap) : exI P Q m (.regionD qs live ap) e h = (runOpsD (fnI P Q) h.length qs e h).bind fun s => if apartA s.1 ap then some (.norm, restrict s.1 live, s.2) else none := by rw [exI_eq]; rfl
theorem exI_seq (m : Nat) (a b : ACode) (e : Env) (h : Heap) : exI P Q m (.seq a b) e h = (exI P Q m a e h).bind fun
    | (.norm, e', h') => exI P Q m b e' h'
    | r => some r := by
  rw [exI_eq P Q m (.seq a b)]
  simp only [exS]
  rw [← exI_eq]
  congr 1
  funext ⟨x, e', h'⟩
  cases x <;> simp only [← exI_eq]
theorem exI_cond (m : Nat) (c : Opd) (a b : ACode) (e : Env) (h : Heap) : exI P Q m (.cond c a b) e h = match c.ev e with
    | .c (.bool t) => if t then exI P Q m a e h else exI P Q m b e h
    | _ => none := by
  rw [exI_eq P Q m (.cond c a b)]
  simp only [exS, ← exI_eq]
  rfl
theorem exI_block (m id : Nat) (a : ACode) (e : Env) (h : Heap) : exI P Q m (.block id a) e h = (exI P Q m a e h).map fun
    | (.exit i, e', h') => if i = id then (.norm, e', h') else (.exit i, e', h')
    | r => r := by
  rw [exI_eq P Q m (.block id a)]
  simp only [exS]
  rw [← exI_eq]
  rfl
theorem exI_loop (m : Nat) (a : ACode) (live : List Nat) (e : Env) (h : Heap) : exI P Q m (.loop a live) e h = (gcE m live e h).bind fun s => (exI P Q m a s.1 s.2).bind fun
    | (.norm, e', h') => exI P Q m (.loop a live) e' h'
    | r => some r := by
  rw [exI_eq P Q m (.loop a live)]
  simp only [exS, ← exI_eq]
  rfl
end
theorem fnI_ok {P : Program} {pr : Prog} {pm : Prim} (hm : P.follows .mixedOrders = true) (hpr : ProgOK P pr) (hpm : PrimOK P pm) : FnOK P (fnI pr pm) := by
  intro f args h res h' hr
  obtain ⟨n, hn⟩ := (fnI_iff pr pm).1 hr
  exact fn_ok hm hpr hpm n f args h res h' hn
end Go.Proofs.Ytenheijeahpbkaa.AM
