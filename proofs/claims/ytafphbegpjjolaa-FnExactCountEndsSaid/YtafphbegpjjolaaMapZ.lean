import Derived.Test.YtafphbegpjjolaaMapY
/- Code with maps of racks: what must be shown of the abstract machine's states, and that this is enough. -/
namespace Go.Proofs.Ytafphbegpjjolaa.AM
open Go
set_option linter.unusedSimpArgs false
set_option linter.unusedVariables false
inductive XOp where
  | am (q : AOper)
  | mk (d : Nat)
  | ins (m k : Opd)
  | rng (d : Nat) (m : Opd)
  | nxt (d : Nat) (it : Opd)
  | ent (d : Nat) (it : Opd)
  | len (d : Nat) (m : Opd)
inductive XC where
  | am (c : ACode)
  | ops (l : List XOp) (live : List Nat)
  | seq (a b : XC)
  | cond (c : Opd) (a b : XC)
  | block (id : Nat) (a : XC)
  | loop (a : XC)
def runX (F : Fns) : List XOp → XS → (XS → Prop) → Prop
  | [], s, Q => Q s
  | .am q :: r, s, Q => ∃ e' h', stepA F q s.e s.h = some (e', h') ∧ runX F r ⟨e', h', s.M⟩ Q
  | .mk d :: r, s, Q => runX F r ⟨AM.put s.e (some d) (.c (.map s.h.length)), s.h ++ [.dead], (s.h.length, .map []) :: s.M⟩ Q
  | .ins m k :: r, s, Q => ∃ i ks x, m.ev s.e = .c (.map i) ∧ k.ev s.e = .agg (x.map (C.int .i64)) ∧ RackOK x ∧ mget s.M i = some (.map ks) ∧ runX F r ⟨s.e, s.h, (i, .map (insK x ks)) :: s.M⟩ Q
  | .rng d m :: r, s, Q => ∃ i ks, m.ev s.e = .c (.map i) ∧ mget s.M i = some (.map ks) ∧ runX F r ⟨AM.put s.e (some d) (.c (.ptr s.h.length 0)), s.h ++ [.dead], (s.h.length, .iter i ks.length []) :: s.M⟩ Q
  | .nxt d it :: r, s, Q => ∃ j i seen ks, it.ev s.e = .c (.ptr j 0) ∧ mget s.M j = some (.iter i ks.length seen) ∧ mget s.M i = some (.map ks) ∧
      (∀ k (hk : k < ks.length), k ∉ seen → runX F r ⟨AM.put s.e (some d) (.tup [.c (.bool true), .agg ((ks[k]'hk).map (C.int .i64)), .c (.bool true)]), s.h, (j, .iter i ks.length (seen ++ [k])) :: s.M⟩ Q) ∧
      ((∀ k, k < ks.length → k ∈ seen) → runX F r ⟨AM.put s.e (some d) (.tup [.c (.bool false)]), s.h, s.M⟩ Q)
  | .ent d it :: r, s, Q => ∃ j i seen ks k, ∃ hk : k < ks.length, it.ev s.e = .c (.ptr j 0) ∧ mget s.M j = some (.iter i ks.length (seen ++ [k])) ∧ mget s.M i = some (.map ks) ∧
      runX F r ⟨AM.put s.e (some d) (.tup [.agg ((ks[k]'hk).map (C.int .i64)), .c (.bool true)]), s.h, s.M⟩ Q
  | .len d m :: r, s, Q => ∃ i ks, m.ev s.e = .c (.map i) ∧ mget s.M i = some (.map ks) ∧ runX F r ⟨AM.put s.e (some d) (.c (.int .i64 ks.length)), s.h, s.M⟩ Q
/-- what is still named stays, under its new number -/
def MO.mp (g : Nat → Nat) : MO → MO
  | .map ks => .map ks
  | .iter i n seen => .iter (g i) n seen
def MO.ids : MO → List Nat
  | .map _ => []
  | .iter i _ _ => [i]
def Gc (live : List Nat) (s s' : XS) : Prop :=
  gcE 0 live s.e s.h = some (s'.e, s'.h) ∧ ∀ j o, mget s'.M j = some o → ∃ i o0, (gcL 0 (envIds (restrict s.e live)) s.h)[j]? = some i ∧ mget s.M i = some o0 ∧ o = o0.mp (pos (gcL 0 (envIds (restrict s.e live)) s.h)) ∧ ∀ k ∈ o0.ids, k ∈ gcL 0 (envIds (restrict s.e live)) s.h
def thenX (n : XS → Prop) (Q : Ex → XS → Prop) : Ex → XS → Prop
  | .norm, s => n s
  | x, s => Q x s
def blockX (id : Nat) (Q : Ex → XS → Prop) : Ex → XS → Prop
  | .exit i, s => if i = id then Q .norm s else Q (.exit i) s
  | x, s => Q x s
def exW (pr : Prog) (pm : Prim) : XC → XS → (Ex → XS → Prop) → Prop
  | .am c, s, Q => ∃ x e' h', exI pr pm s.h.length c s.e s.h = some (x, e', h') ∧ Q x ⟨e', h', s.M⟩
  | .ops l live, s, Q => runX (fnI pr pm) l s fun s' => Q .norm ⟨restrict s'.e live, s'.h, s'.M⟩
  | .seq a b, s, Q => exW pr pm a s (thenX (fun s' => exW pr pm b s' Q) Q)
  | .cond c a b, s, Q => ∃ t, c.ev s.e = .c (.bool t) ∧ if t = true then exW pr pm a s Q else exW pr pm b s Q
  | .block id a, s, Q => exW pr pm a s (blockX id Q)
  | .loop a, s, Q => ∃ (I : XS → Prop) (μ : XS → Nat), (∃ live s', Gc live s s' ∧ I s') ∧ ∀ s, I s → exW pr pm a s (thenX (fun s1 => ∃ live s2, Gc live s1 s2 ∧ I s2 ∧ μ s2 < μ s) Q)
/-! ### the tests -/
def okX1 (P : Program) (nt : Nat) (tm : TypeId) (ops : Array Oper) (o : Oper) : XOp → Bool
  | .am q => okOper P nt ops o q
  | .mk d => o.dst == some d && decide (d < nt) && o.guard.isNone && (match o.op with | .makeMap t none => t == tm | _ => false)
  | .ins m k => o.dst.isNone && o.guard.isNone && (match o.op with
    | .insert t x y (.const (.bool true)) => t == tm && okOpd x m && okOpd y k
    | .mapUpdate t x y (.const (.bool true)) => t == tm && okOpd x m && okOpd y k
    | _ => false)
  | .rng d m => o.dst == some d && decide (d < nt) && o.guard.isNone && (match o.op with | .range t x => t == tm && okOpd x m | _ => false)
  | .nxt d it => o.dst == some d && decide (d < nt) && o.guard.isNone && (match o.op with | .next x false => okOpd x it | _ => false)
  | .ent d it => o.dst == some d && decide (d < nt) && o.guard.isNone && (match o.op with | .entry x => okOpd x it | _ => false)
  | .len d m => o.dst == some d && decide (d < nt) && o.guard.isNone && (match o.op with | .call { callee := .builtin .len, args := xs, argTypes := ts } => (ts.toList == [tm]) && (match xs.toList with | [x] => okOpd x m | _ => false) | _ => false)
def okXs (P : Program) (nt : Nat) (tm : TypeId) (ops : Array Oper) : List Oper → List XOp → Bool
  | [], [] => true
  | o :: os, q :: qs => okX1 P nt tm ops o q && okXs P nt tm ops os qs
  | _, _ => false
def okXC (P : Program) (nt : Nat) (tm : TypeId) : Code → XC → Bool
  | c, .am ac => okCode P nt c ac
  | .region _ ops false, .ops l _ => okXs P nt tm ops ops.toList l
  | .seq a b, .seq a' b' => okXC P nt tm a a' && okXC P nt tm b b'
  | .cond c a b, .cond c' a' b' => okOpd c c' && okXC P nt tm a a' && okXC P nt tm b b'
  | .block id a, .block id' a' => (id == id') && okXC P nt tm a a'
  | .loop a, .loop a' => okXC P nt tm a a'
  | _, _ => false
section
variable {P : Program} {pr : Prog} {pm : Prim} {φ0 : Phi} {w0 : World} {nt : Nat} {tm : TypeId}
theorem opX_ok (hF : FnOK P (fnI pr pm)) (K : KeyF P tm) {ops : Array Oper} {o : Oper} {q : XOp} {r : List XOp} (hk : okX1 P nt tm ops o q = true) {φ : Phi} {s : XS} {a : Act} {w : World} (hs : SM φ0 w0 nt φ s a w) {Q : XS → Prop} (hr : runX (fnI pr pm) (q :: r) s Q)
    {N : Act → World → Prop} {E : Exit → Act → World → Prop} (hN : ∀ s' φ' a' w', runX (fnI pr pm) r s' Q → SM φ0 w0 nt φ' s' a' w' → N a' w') :
    if Region.wanted o (yielded ops a.tmps) then o.wp P a w N E ∨ (o.asks P a w ∧ LetsOut E) else N (a.put o.dst Go.undef) w := by
  have wantT : o.guard.isNone = true → Region.wanted o (yielded ops a.tmps) = true := fun h => by
    unfold Region.wanted
    rw [Option.isNone_iff_eq_none.1 h]
  cases q with
  | am q =>
    obtain ⟨e', h', h1, h2⟩ := hr
    exact step_ok hF hk hs.st h1 (Nat.le_refl _) fun φ' a' w' hs' hl => hN _ φ' a' w' h2 (hs.later hs' hl)
  | mk d =>
    simp only [okX1, Bool.and_eq_true, beq_iff_eq, decide_eq_true_eq] at hk
    obtain ⟨⟨⟨hd, hdn⟩, hg⟩, hop⟩ := hk
    rw [wantT hg, if_pos rfl]
    split at hop
    · rename_i t hopt
      refine .inl (Does.wp (R := fun rv w' => rv = .map (some w.heap.size) ∧ w' = w.alloc (objOf φ (.map []))) (.inl ⟨_, _, ?_, rfl, rfl⟩) ?_)
      · simp only [execOp, hopt, Option.map_none, Sem.run_bind, run_mkmap, Result.andThen_ok, Sem.run_pure]
        rfl
      · rintro rv w' ⟨rfl, rfl⟩
        rw [hd]
        obtain ⟨φ', hsm⟩ := hs.alloc (o := .map []) (v := .c (.map s.h.length)) (rv := .map (some w.heap.size)) hdn (fun r hr => by simp at hr) fun φ' hp => ⟨_, hp, rfl, rfl⟩
        exact hN _ φ' _ _ hr hsm
    · cases hop
  | ins m k =>
    obtain ⟨i, ks, x, hm, hx, hok, hmg, hr⟩ := hr
    simp only [okX1, Bool.and_eq_true] at hk
    obtain ⟨⟨hd, hg⟩, hop⟩ := hk
    rw [wantT hg, if_pos rfl]
    obtain ⟨b, hb, hob, _, _, hks⟩ := hs.mo i _ hmg
    have main : ∀ xo yo : Operand, okOpd xo m = true → okOpd yo k = true → (Instr.mapUpdate tm (a.eval xo) (a.eval yo) (.bool true)).run P w = .ok () { w with heap := w.heap.setIfInBounds b (objOf φ (.map (insK x ks))) } := by
      intro xo yo h1 h2
      have v1 := opd_ok hs.st.env h1
      rw [hm] at v1
      obtain ⟨p, hp, hp0, hv⟩ := v1
      rw [hb] at hp
      injection hp with hp
      subst hp
      have v2 := opd_ok hs.st.env h2
      rw [hx] at v2
      rw [VR_key_eq v2, hv]
      exact run_ins K hob hks hok
    have hdone : (execOp a.eval o).run P w = .ok .skip { w with heap := w.heap.setIfInBounds b (objOf φ (.map (insK x ks))) } := by
      split at hop
      · rename_i t xo yo hopt
        simp only [Bool.and_eq_true, beq_iff_eq] at hop
        obtain ⟨⟨rfl, h1⟩, h2⟩ := hop
        have := main xo yo h1 h2
        simp only [execOp, hopt, Sem.run_bind, Act.eval] at this ⊢
        rw [this]
        rfl
      · rename_i t xo yo hopt
        simp only [Bool.and_eq_true, beq_iff_eq] at hop
        obtain ⟨⟨rfl, h1⟩, h2⟩ := hop
        have := main xo yo h1 h2
        simp only [execOp, hopt, Sem.run_bind, Act.eval] at this ⊢
        rw [this]
        rfl
      · cases hop
    refine .inl (Does.wp (R := fun rv w' => rv = Go.undef ∧ w' = { w with heap := w.heap.setIfInBounds b (objOf φ (.map (insK x ks))) }) (.inr (.inl ⟨_, hdone, rfl, rfl⟩)) ?_)
    rintro rv w' ⟨rfl, rfl⟩
    rw [Option.isNone_iff_eq_none.1 hd]
    refine hN _ φ _ _ hr (hs.set hmg hb ?_ rfl rfl rfl rfl)
    intro y hy
    unfold insK at hy
    split at hy
    · exact hks y hy
    · rcases List.mem_append.1 hy with hy | hy
      · exact hks y hy
      · simp at hy; subst hy; exact hok
  | rng d m =>
    obtain ⟨i, ks, hm, hmg, hr⟩ := hr
    simp only [okX1, Bool.and_eq_true, beq_iff_eq, decide_eq_true_eq] at hk
    obtain ⟨⟨⟨hd, hdn⟩, hg⟩, hop⟩ := hk
    rw [wantT hg, if_pos rfl]
    obtain ⟨b, hb, hob, _, _, hks⟩ := hs.mo i _ hmg
    split at hop
    · rename_i t xo hopt
      simp only [Bool.and_eq_true, beq_iff_eq] at hop
      obtain ⟨rfl, h1⟩ := hop
      have v1 := opd_ok hs.st.env h1
      rw [hm] at v1
      obtain ⟨p, hp, hp0, hv⟩ := v1
      rw [hb] at hp
      injection hp with hp
      subst hp
      have hobj : objOf φ (.iter i ks.length []) = .mapIter (some b) ks.length #[] ks.length := by simp [objOf, hb]
      refine .inl (Does.wp (R := fun rv w' => rv = .pointer (some ⟨w.heap.size, 0, none⟩) ∧ w' = w.alloc (objOf φ (.iter i ks.length []))) (.inl ⟨_, _, ?_, rfl, rfl⟩) ?_)
      · simp only [execOp, hopt, Sem.run_bind, hv, run_rng K hob, Result.andThen_ok, Sem.run_pure, hobj]
      · rintro rv w' ⟨rfl, rfl⟩
        rw [hd]
        obtain ⟨φ', hsm⟩ := hs.alloc (o := .iter i ks.length []) (v := .c (.ptr s.h.length 0)) (rv := .pointer (some ⟨w.heap.size, 0, none⟩)) hdn ⟨_, hb⟩ fun φ' hp => ⟨_, hp, rfl⟩
        exact hN _ φ' _ _ hr hsm
    · cases hop
  | nxt d it =>
    obtain ⟨j, i, seen, ks, hit, hmj, hmi, hr1, hr2⟩ := hr
    simp only [okX1, Bool.and_eq_true, beq_iff_eq, decide_eq_true_eq] at hk
    obtain ⟨⟨⟨hd, hdn⟩, hg⟩, hop⟩ := hk
    rw [wantT hg, if_pos rfl]
    obtain ⟨b, hb, hob, _, _, hks⟩ := hs.mo i _ hmi
    obtain ⟨c, hc, hoc, _, _, hki⟩ := hs.mo j _ hmj
    have hoc' : w.heap[c]? = some (.mapIter (some b) ks.length seen.toArray ks.length) := by rw [hoc]; simp [objOf, hb]
    split at hop
    · rename_i xo hopt
      have v1 := opd_ok hs.st.env hop
      rw [hit] at v1
      obtain ⟨p, hp, hv⟩ := v1
      rw [hc] at hp
      injection hp with hp
      subst hp
      have hv' : a.eval xo = .pointer (some ⟨c, 0, none⟩) := hv
      rcases run_nxt hoc' hob o.type with ⟨hall, hrun⟩ | ⟨k, hk, hns, w1, a1, a2, a3, a4, hrun⟩
      · refine .inl (Does.wp (R := fun rv w' => rv = .tuple #[.bool false] ∧ w' = w) (.inl ⟨_, _, ?_, rfl, rfl⟩) ?_)
        · simp only [execOp, hopt, Sem.run_bind, hv']
          rw [hrun]
          rfl
        · rintro rv w' ⟨rfl, rfl⟩
          rw [hd]
          exact hN _ φ _ _ (hr2 hall) (hs.put hdn ⟨[.bool false], rfl, rfl, trivial⟩)
      · refine .inl (Does.wp (R := fun rv w' => rv = .tuple #[.bool true, keyV (ks[k]'hk), .bool true] ∧ w' = { w1 with heap := w1.heap.setIfInBounds c (.mapIter (some b) ks.length (seen ++ [k]).toArray ks.length) }) (.inl ⟨_, _, ?_, rfl, rfl⟩) ?_)
        · simp only [execOp, hopt, Sem.run_bind, hv']
          rw [hrun]
          rfl
        · rintro rv w' ⟨rfl, rfl⟩
          rw [hd]
          have hobj : objOf φ (.iter i ks.length (seen ++ [k])) = .mapIter (some b) ks.length (seen ++ [k]).toArray ks.length := by simp [objOf, hb]
          have h1 := hs.set (o := .iter i ks.length (seen ++ [k])) (w' := { w1 with heap := w1.heap.setIfInBounds c (.mapIter (some b) ks.length (seen ++ [k]).toArray ks.length) }) hmj hc hki (by rw [hobj, ← a1]) a2 a3 a4
          exact hN _ φ _ _ (hr1 k hk hns) (h1.put hdn ⟨[.bool true, keyV (ks[k]'hk), .bool true], rfl, rfl, VR_key φ _, rfl, trivial⟩)
    · cases hop
  | ent d it =>
    obtain ⟨j, i, seen, ks, k, hk0, hit, hmj, hmi, hr⟩ := hr
    simp only [okX1, Bool.and_eq_true, beq_iff_eq, decide_eq_true_eq] at hk
    obtain ⟨⟨⟨hd, hdn⟩, hg⟩, hop⟩ := hk
    rw [wantT hg, if_pos rfl]
    obtain ⟨b, hb, hob, _, _, hks⟩ := hs.mo i _ hmi
    obtain ⟨c, hc, hoc, _, _, hki⟩ := hs.mo j _ hmj
    have hoc' : w.heap[c]? = some (.mapIter (some b) ks.length (seen ++ [k]).toArray ks.length) := by rw [hoc]; simp [objOf, hb]
    split at hop
    · rename_i xo hopt
      have v1 := opd_ok hs.st.env hop
      rw [hit] at v1
      obtain ⟨p, hp, hv⟩ := v1
      rw [hc] at hp
      injection hp with hp
      subst hp
      have hv' : a.eval xo = .pointer (some ⟨c, 0, none⟩) := hv
      refine .inl (Does.wp (R := fun rv w' => rv = .tuple #[keyV (ks[k]'hk0), .bool true] ∧ w' = w) (.inl ⟨_, _, ?_, rfl, rfl⟩) ?_)
      · simp only [execOp, hopt, Sem.run_bind, hv', run_ent hk0 hoc' hob, Result.andThen_ok, Sem.run_pure]
      · rintro rv w' ⟨rfl, rfl⟩
        rw [hd]
        exact hN _ φ _ _ hr (hs.put hdn ⟨[keyV (ks[k]'hk0), .bool true], rfl, VR_key φ _, rfl, trivial⟩)
    · cases hop
  | len d m =>
    obtain ⟨i, ks, hm, hmg, hr⟩ := hr
    simp only [okX1, Bool.and_eq_true, beq_iff_eq, decide_eq_true_eq] at hk
    obtain ⟨⟨⟨hd, hdn⟩, hg⟩, hop⟩ := hk
    rw [wantT hg, if_pos rfl]
    obtain ⟨b, hb, hob, _, _, hks⟩ := hs.mo i _ hmg
    split at hop
    · rename_i xs ts hopt
      simp only [Bool.and_eq_true, beq_iff_eq] at hop
      obtain ⟨hts, hop⟩ := hop
      have hts' : ts = #[tm] := by apply Array.ext'; simpa using hts
      split at hop
      · rename_i xo hxs
        have hxs' : xs = #[xo] := by apply Array.ext'; simpa using hxs
        have v1 := opd_ok hs.st.env hop
        rw [hm] at v1
        obtain ⟨p, hp, hp0, hv⟩ := v1
        rw [hb] at hp
        injection hp with hp
        subst hp
        refine .inl (Does.wp (R := fun rv w' => rv = .int .i64 ks.length ∧ w' = w) (.inl ⟨_, _, ?_, rfl, rfl⟩) ?_)
        · subst hts' hxs'
          have := run_len K hob o.type
          simp [execOp, hopt, resolve, Deferred.ofValue, invoke, builtin, hv, this]
        · rintro rv w' ⟨rfl, rfl⟩
          rw [hd]
          exact hN _ φ _ _ hr (hs.put (v := .c (.int .i64 ks.length)) hdn rfl)
      · cases hop
    · cases hop
end
end Go.Proofs.Ytafphbegpjjolaa.AM
