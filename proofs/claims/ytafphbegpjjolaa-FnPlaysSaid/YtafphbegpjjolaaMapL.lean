import Derived.Test.YtafphbegpjjolaaMapK
/- Contract: how many racks a play can be at (the program's function with maps). -/
namespace Go.Proofs.Ytafphbegpjjolaa.AM
open Go
set_option maxRecDepth 1000000
set_option linter.unusedSimpArgs false
set_option linter.unusedVariables false
def amK (M : Ms) (Q : Ex → XS → Prop) : R → Prop
  | some (x, e, h) => Q x ⟨e, h, M⟩
  | none => False
def seqQ (b : XC) (Q : Ex → XS → Prop) : Ex → XS → Prop
  | .norm, s => exW pr np b s Q
  | x, s => Q x s
def opsQ (live : List Nat) (Q : Ex → XS → Prop) : XS → Prop := fun s => Q .norm ⟨restrict s.e live, s.h, s.M⟩
def amS (r : List XOp) (M : Ms) (Q : XS → Prop) : Option (Env × Heap) → Prop
  | some (e, h) => runX (fnI pr np) r ⟨e, h, M⟩ Q
  | none => False
def turnX (I : XS → Prop) (μ : XS → Nat) (s : XS) : XS → Prop := fun s1 => ∃ live s2, Gc live s1 s2 ∧ I s2 ∧ μ s2 < μ s
def condQ (a b : XC) (s : XS) (Q : Ex → XS → Prop) : V → Prop
  | .c (.bool t) => if t = true then exW pr np a s Q else exW pr np b s Q
  | _ => False
theorem W_am (c : ACode) (s : XS) (Q : Ex → XS → Prop) : exW pr np (.am c) s Q = amK s.M Q (exI pr np s.h.length c s.e s.h) := by
  apply propext
  simp only [exW]
  cases exI pr np s.h.length c s.e s.h with
  | none => simp [amK]
  | some r =>
    obtain ⟨x, e, h⟩ := r
    simp only [amK]
    constructor
    · rintro ⟨x', e', h', h1, h2⟩
      injection h1 with h1
      simp only [Prod.mk.injEq] at h1
      obtain ⟨rfl, rfl, rfl⟩ := h1
      exact h2
    · intro h2
      exact ⟨x, e, h, rfl, h2⟩
theorem W_seq (a b : XC) (s : XS) (Q : Ex → XS → Prop) : exW pr np (.seq a b) s Q = exW pr np a s (seqQ b Q) := by
  simp only [exW]
  congr 1
theorem W_ops (l : List XOp) (live : List Nat) (s : XS) (Q : Ex → XS → Prop) : exW pr np (.ops l live) s Q = runX (fnI pr np) l s (opsQ live Q) := rfl
theorem W_block (id : Nat) (a : XC) (s : XS) (Q : Ex → XS → Prop) : exW pr np (.block id a) s Q = exW pr np a s (blockX id Q) := rfl
theorem W_cond (c : Opd) (a b : XC) (s : XS) (Q : Ex → XS → Prop) : exW pr np (.cond c a b) s Q = condQ a b s Q (c.ev s.e) := by
  apply propext
  simp only [exW]
  constructor
  · rintro ⟨t, h1, h2⟩
    rw [h1]
    exact h2
  · intro h
    unfold condQ at h
    split at h
    · rename_i t ht
      exact ⟨t, ht, h⟩
    · exact h.elim
theorem W_loop {a : XC} {s : XS} {Q : Ex → XS → Prop} (I : XS → Prop) (μ : XS → Nat) {live : List Nat} {s' : XS} (hg : Gc live s s') (hi : I s') (ht : ∀ s, I s → exW pr np a s (thenX (turnX I μ s) Q)) : exW pr np (.loop a) s Q := ⟨I, μ, ⟨live, s', hg, hi⟩, ht⟩
theorem X_nil (F : Fns) (s : XS) (Q : XS → Prop) : runX F [] s Q = Q s := rfl
theorem X_am (q : AOper) (r : List XOp) (s : XS) (Q : XS → Prop) : runX (fnI pr np) (.am q :: r) s Q = amS r s.M Q (stepK q.d s.e s.h (wantK (fnI pr np) q.o s.e (lkp s.h) s.h.length (wantedA s.e q.g))) := by
  have e : stepA (fnI pr np) q s.e s.h = stepK q.d s.e s.h (wantK (fnI pr np) q.o s.e (lkp s.h) s.h.length (wantedA s.e q.g)) := by
    have := runOps_cons (fnI pr np) q [] s.e s.h
    simp only [runOps] at this
    cases hx : stepA (fnI pr np) q s.e s.h with
    | none =>
      rw [hx] at this
      simp only [Option.bind_none] at this
      revert this
      cases stepK q.d s.e s.h (wantK (fnI pr np) q.o s.e (lkp s.h) s.h.length (wantedA s.e q.g)) with
      | none => intro _; rfl
      | some p => intro h; simp [runK, runOps] at h
    | some p =>
      rw [hx] at this
      simp only [Option.bind_some] at this
      revert this
      cases stepK q.d s.e s.h (wantK (fnI pr np) q.o s.e (lkp s.h) s.h.length (wantedA s.e q.g)) with
      | none => intro h; simp [runK] at h
      | some p' => intro h; simpa [runK, runOps, Prod.ext_iff] using h
  apply propext
  simp only [runX, e]
  cases stepK q.d s.e s.h (wantK (fnI pr np) q.o s.e (lkp s.h) s.h.length (wantedA s.e q.g)) with
  | none => simp [amS]
  | some p =>
    obtain ⟨e, h⟩ := p
    simp only [amS]
    constructor
    · rintro ⟨e', h', h1, h2⟩
      injection h1 with h1
      simp only [Prod.mk.injEq] at h1
      obtain ⟨rfl, rfl⟩ := h1
      exact h2
    · intro h2
      exact ⟨e, h, rfl, h2⟩
theorem X_mk (F : Fns) (d : Nat) (r : List XOp) (s : XS) (Q : XS → Prop) : runX F (.mk d :: r) s Q = runX F r ⟨AM.put s.e (some d) (.c (.map s.h.length)), s.h ++ [.dead], (s.h.length, .map []) :: s.M⟩ Q := rfl
section
variable (M : Ms) (Q : Ex → XS → Prop) (x : Ex) (e : Env) (h : Heap) (b : XC) (s : XS)
@[simp] theorem amK_some : amK M Q (some (x, e, h)) = Q x ⟨e, h, M⟩ := rfl
@[simp] theorem amS_some (r : List XOp) (Q : XS → Prop) : amS r M Q (some (e, h)) = runX (fnI pr np) r ⟨e, h, M⟩ Q := rfl
@[simp] theorem seqQ_norm : seqQ b Q .norm s = exW pr np b s Q := rfl
@[simp] theorem seqQ_ret : seqQ b Q .ret s = Q .ret s := rfl
@[simp] theorem seqQ_exit (i : Nat) : seqQ b Q (.exit i) s = Q (.exit i) s := rfl
@[simp] theorem blockX_norm (i : Nat) : blockX i Q .norm s = Q .norm s := rfl
@[simp] theorem blockX_ret (i : Nat) : blockX i Q .ret s = Q .ret s := rfl
@[simp] theorem blockX_exit (i j : Nat) : blockX i Q (.exit j) s = if j = i then Q .norm s else Q (.exit j) s := rfl
@[simp] theorem opsQ_eq (live : List Nat) : opsQ live Q s = Q .norm ⟨restrict s.e live, s.h, s.M⟩ := rfl
@[simp] theorem thenX_norm (n : XS → Prop) : thenX n Q .norm s = n s := rfl
@[simp] theorem thenX_ret (n : XS → Prop) : thenX n Q .ret s = Q .ret s := rfl
@[simp] theorem thenX_exit (n : XS → Prop) (i : Nat) : thenX n Q (.exit i) s = Q (.exit i) s := rfl
@[simp] theorem condQ_bool (a : XC) (t : Bool) : condQ a b s Q (.c (.bool t)) = if t = true then exW pr np a s Q else exW pr np b s Q := rfl
end
@[simp] theorem idsC_map (i : Nat) : (C.map i).ids = [i] := rfl
@[simp] theorem mpC_map (g : Nat → Nat) (i : Nat) : (C.map i).mp g = .map (g i) := rfl
@[simp] theorem idsB_dead : Blk.dead.ids = [] := rfl
@[simp] theorem mpB_dead (g : Nat → Nat) : Blk.dead.mp g = .dead := rfl
attribute [simp] W_am W_seq W_ops W_block W_cond X_nil X_am X_mk
theorem Gc.of {live : List Nat} {s : XS} {e : Env} {h : Heap} {M : Ms} (h1 : gcE 0 live s.e s.h = some (e, h)) (h2 : ∀ p ∈ M, ∃ i o0, (gcL 0 (envIds (restrict s.e live)) s.h)[p.1]? = some i ∧ mget s.M i = some o0 ∧ p.2 = o0.mp (pos (gcL 0 (envIds (restrict s.e live)) s.h)) ∧ ∀ k ∈ o0.ids, k ∈ gcL 0 (envIds (restrict s.e live)) s.h) : Gc live s ⟨e, h, M⟩ := by
  refine ⟨h1, ?_⟩
  intro j o hj
  have : ∀ (M : Ms), mget M j = some o → (j, o) ∈ M := by
    intro M
    induction M with
    | nil => intro h; simp [mget] at h
    | cons p M ih =>
      intro h
      obtain ⟨i, o'⟩ := p
      simp only [mget] at h
      split at h
      · rename_i e; subst e; injection h with h; subst h; exact List.mem_cons_self
      · exact List.mem_cons_of_mem _ (ih h)
  exact h2 _ (this M hj)
/-! ### which racks the map holds -/
def Has (ks S : List (List Int)) : Prop := ks.Nodup ∧ ∀ y, y ∈ ks ↔ y ∈ S
theorem Has.nil : Has [] [] := ⟨List.nodup_nil, fun y => Iff.rfl⟩
theorem Has.ins {ks S : List (List Int)} (h : Has ks S) (y : List Int) : Has (insK y ks) (S ++ [y]) := by
  unfold insK
  split
  · rename_i hy
    refine ⟨h.1, fun z => ?_⟩
    rw [h.2 z, List.mem_append, List.mem_singleton]
    constructor
    · exact .inl
    · rintro (hz | rfl)
      · exact hz
      · exact (h.2 _).1 hy
  · rename_i hy
    refine ⟨List.nodup_append.2 ⟨h.1, by simp, fun a ha b hb e => ?_⟩, fun z => ?_⟩
    · simp only [List.mem_singleton] at hb
      subst hb; subst e
      exact hy ha
    · rw [List.mem_append, List.mem_append, h.2 z]
def own (x : List Int) : List Blk := [.dead, .cells (x.map (C.int .i64)) true, .dead, .dead, .cells (flatC (usefulL x) ++ padC x) true]
def poursX (x : List Int) (j : Nat) : List (List Int) := ((usefulL x).take j).map fun p => pourR x p.1 p.2
theorem poursX_succ {x : List Int} {j : Nat} (h : j < (usefulL x).length) : poursX x (j + 1) = poursX x j ++ [pourR x ((usefulL x)[j]'h).1 ((usefulL x)[j]'h).2] := by
  unfold poursX
  rw [List.take_succ_eq_append_getElem h, List.map_append]
  rfl
theorem inner {x : List Int} (hx : RackOK x) (n k : Int) (last : List (List Int)) (seen : List Nat) {Q : Ex → XS → Prop} {ks0 S0 : List (List Int)} (h0 : Has ks0 S0)
    (hQ : ∀ ks, Has ks (S0 ++ poursX x (usefulL x).length) → Q (.exit 4) ⟨[(7, .c (.map 0)), (8, .c (.ptr 1 0)), (20, .c (.int .i64 n)), (21, .c (.int .i64 k)), (24, .c (.map 2)), (25, .c (.ptr 3 0)), (35, .c (.sl 4 0 (usefulL x).length 2)), (36, .c (.int .i64 (usefulL x).length)), (37, .c (.int .i64 (usefulL x).length)), (38, .c (.bool false))], own x, [(0, .map ks), (2, .map last), (3, .iter 2 last.length seen)]⟩)
    {live : List Nat} {s : XS} (hg : Gc live s ⟨[(7, .c (.map 0)), (8, .c (.ptr 1 0)), (20, .c (.int .i64 n)), (21, .c (.int .i64 k)), (24, .c (.map 2)), (25, .c (.ptr 3 0)), (35, .c (.sl 4 0 (usefulL x).length 2)), (36, .c (.int .i64 (usefulL x).length)), (37, .c (.int .i64 0))], own x, [(0, .map ks0), (2, .map last), (3, .iter 2 last.length seen)]⟩) : exW pr np (.loop xL2) s Q := by
  refine W_loop (fun s => ∃ j ks, j ≤ (usefulL x).length ∧ Has ks (S0 ++ poursX x j) ∧ s = ⟨[(7, .c (.map 0)), (8, .c (.ptr 1 0)), (20, .c (.int .i64 n)), (21, .c (.int .i64 k)), (24, .c (.map 2)), (25, .c (.ptr 3 0)), (35, .c (.sl 4 0 (usefulL x).length 2)), (36, .c (.int .i64 (usefulL x).length)), (37, .c (.int .i64 (j : Nat)))], own x, [(0, .map ks), (2, .map last), (3, .iter 2 last.length seen)]⟩)
    (fun s => match AM.get s.e 37 with | .c (.int _ j) => (usefulL x).length - j.toNat | _ => 0) hg ⟨0, ks0, Nat.zero_le _, by simpa [poursX] using h0, rfl⟩ ?_
  rintro s ⟨j, ks, hj, hh, rfl⟩
  have hr := hx.len
  have h24 := take24 hr
  by_cases hjl : j = (usefulL x).length
  · subst hjl
    have := hQ ks hh
    simpa [xL2, own] using this
  · have hkl : j < (usefulL x).length := by omega
    have hl30 := usefulL_len30 x
    obtain ⟨hi, hj', hp⟩ := useful_pour hx (List.getElem_mem hkl)
    have hc := callA_pure (c_impl_pour x hx hi hj') (by simp) (by simp)
    have hgt := flatC_get (usefulL x) (padC x) j hkl
    have b1 : j * 2 + 2 ≤ (usefulL x).length * 2 + (padC x).length := by omega
    have wk := wrapS (k := j) (by omega)
    have hpl := hp.len
    have hp24 := take24 hpl
    simp [xL2, own, hkl, hr, h24, hc, hgt, b1, wk, hpl, hp24, setAt_all, setAt, sub]
    refine ⟨0, ks, pourR x ((usefulL x)[j]'hkl).1 ((usefulL x)[j]'hkl).2, rfl, rfl, hp, rfl, ?_⟩
    simp [wk]
    unfold turnX
    refine ⟨[7, 8, 20, 21, 24, 25, 35, 36, 37], ⟨_, _, [(0, .map (insK (pourR x ((usefulL x)[j]'hkl).1 ((usefulL x)[j]'hkl).2) ks)), (2, .map last), (3, .iter 2 last.length seen)]⟩, Gc.of ?_ ?_, ⟨j + 1, by omega, insK (pourR x ((usefulL x)[j]'hkl).1 ((usefulL x)[j]'hkl).2) ks, ?_, rfl⟩, ?_⟩
    · simp [own, sub]
    · simp [own, sub, mget, MO.mp, MO.ids]
    · rw [poursX_succ hkl, ← List.append_assoc]
      exact hh.ins _
    · simp
      omega
end Go.Proofs.Ytafphbegpjjolaa.AM

/- Contract: the loops over a map and over the pours (the program's function with maps). -/
namespace Go.Proofs.Ytafphbegpjjolaa.AM
open Go
set_option maxRecDepth 1000000
set_option linter.unusedSimpArgs false
set_option linter.unusedVariables false
def seenX (last : List (List Int)) (seen : List Nat) : List (List Int) := seen.flatMap fun k => nexts (last.getD k [])
theorem seenX_app {last : List (List Int)} {seen : List Nat} {k : Nat} (hk : k < last.length) : seenX last (seen ++ [k]) = seenX last seen ++ nexts (last[k]'hk) := by
  simp [seenX, List.flatMap_append, List.getElem?_eq_getElem hk]
theorem seenX_all {last : List (List Int)} {seen : List Nat} (h1 : ∀ k ∈ seen, k < last.length) (h2 : ∀ k, k < last.length → k ∈ seen) (y : List Int) : y ∈ seenX last seen ↔ ∃ x ∈ last, y ∈ nexts x := by
  unfold seenX
  rw [List.mem_flatMap]
  constructor
  · rintro ⟨k, hk, hy⟩
    have hl := h1 k hk
    rw [List.getD_eq_getElem?_getD, List.getElem?_eq_getElem hl] at hy
    exact ⟨_, List.getElem_mem hl, hy⟩
  · rintro ⟨x, hx, hy⟩
    obtain ⟨k, hk, rfl⟩ := List.getElem_of_mem hx
    refine ⟨k, h2 k hk, ?_⟩
    rw [List.getD_eq_getElem?_getD, List.getElem?_eq_getElem hk]
    exact hy
def leftN (n : Nat) (seen : List Nat) : Nat := ((List.range n).filter fun k => !decide (k ∈ seen)).length
theorem leftN_lt {n k : Nat} {seen : List Nat} (hk : k < n) (hs : k ∉ seen) : leftN n (seen ++ [k]) < leftN n seen := by
  unfold leftN
  refine filter_lt _ _ (fun x hx => ?_) k ?_ ?_ _ (List.mem_range.2 hk)
  · simp only [List.mem_append, List.mem_singleton, not_or, Bool.not_eq_true', decide_eq_false_iff_not] at hx ⊢
    exact hx.1
  · simpa using hs
  · simp
theorem mid (n k : Int) (last : List (List Int)) (hlast : ∀ r ∈ last, RackOK r) {Q : Ex → XS → Prop}
    (hQ : ∀ ks seen, ks.Nodup → (∀ y, y ∈ ks ↔ ∃ x ∈ last, y ∈ nexts x) → Q (.exit 2) ⟨[(7, .c (.map 0)), (20, .c (.int .i64 n)), (21, .c (.int .i64 k)), (24, .c (.map 1)), (25, .c (.ptr 2 0)), (27, .c (.bool false))], [.dead, .dead, .dead], [(0, .map ks), (1, .map last), (2, .iter 1 last.length seen)]⟩)
    {live : List Nat} {s : XS} (hg : Gc live s ⟨[(7, .c (.map 0)), (20, .c (.int .i64 n)), (21, .c (.int .i64 k)), (24, .c (.map 1)), (25, .c (.ptr 2 0))], [.dead, .dead, .dead], [(0, .map []), (1, .map last), (2, .iter 1 last.length [])]⟩) : exW pr np (.loop xL1) s Q := by
  refine W_loop (fun s => ∃ seen ks, (∀ k ∈ seen, k < last.length) ∧ Has ks (seenX last seen) ∧ s = ⟨[(7, .c (.map 0)), (20, .c (.int .i64 n)), (21, .c (.int .i64 k)), (24, .c (.map 1)), (25, .c (.ptr 2 0))], [.dead, .dead, .dead], [(0, .map ks), (1, .map last), (2, .iter 1 last.length seen)]⟩)
    (fun s => match mget s.M 2 with | some (.iter _ n seen) => leftN n seen | _ => 0) hg ⟨[], [], by simp, Has.nil, rfl⟩ ?_
  rintro s ⟨seen, ks, hseen, hh, rfl⟩
  simp [xL1]
  refine ⟨2, 1, seen, last, rfl, rfl, rfl, fun i hi hns => ?_, fun hall => ?_⟩
  · simp
    refine ⟨2, 1, seen, last, i, hi, rfl, rfl, rfl, ?_⟩
    have hx := hlast _ (List.getElem_mem hi)
    have hnext := seenX_app (seen := seen) hi
    have hseen' : ∀ j ∈ seen ++ [i], j < last.length := by
      intro j hj
      rcases List.mem_append.1 hj with hj | hj
      · exact hseen j hj
      · simp at hj; omega
    have hlt := leftN_lt hi hns
    generalize last[i]'hi = x at hx hnext ⊢
    have hr := hx.len
    have h24 := take24 hr
    have hend := callA_pure (c_impl_isEnd x hx) (by simp) (by simp)
    have hm := callA_new (c_impl_useful x hx) (by simp)
    cases he : endB x with
    | true =>
      rw [he] at hend
      simp [hr, h24, hend, setAt_all, setAt, sub]
      refine ⟨0, ks, x, rfl, rfl, hx, rfl, ?_⟩
      simp
      unfold turnX
      refine ⟨[7, 20, 21, 24, 25], ⟨_, _, [(0, .map (insK x ks)), (1, .map last), (2, .iter 1 last.length (seen ++ [i]))]⟩, Gc.of ?_ ?_, ⟨seen ++ [i], ?_, insK x ks, ?_, rfl⟩, ?_⟩
      · simp [sub]
      · simp [sub, mget, MO.mp, MO.ids]
      · exact hseen'
      · rw [hnext, show nexts x = [x] by simp [nexts, he]]
        exact hh.ins _
      · simpa [mget] using hlt
    | false =>
      rw [he] at hend
      simp [hr, h24, hend, hm, setAt_all, setAt, sub]
      refine inner (live := [7, 8, 20, 21, 24, 25, 35, 36, 37]) hx n k last (seen ++ [i]) hh (fun ks' hh' => ?_) (Gc.of ?_ ?_)
      · simp
        unfold turnX
        refine ⟨[7, 20, 21, 24, 25], ⟨_, _, [(0, .map ks'), (1, .map last), (2, .iter 1 last.length (seen ++ [i]))]⟩, Gc.of ?_ ?_, ⟨seen ++ [i], ?_, ks', ?_, rfl⟩, ?_⟩
        · simp [own, sub]
        · simp [own, sub, mget, MO.mp, MO.ids]
        · exact hseen'
        · rw [hnext, show nexts x = poursX x (usefulL x).length by simp [nexts, he, poursX]]
          exact hh'
        · simpa [mget] using hlt
      · simp [own, sub]
      · simp [own, sub, mget, MO.mp, MO.ids]
  · have hfin := hQ ks seen hh.1 fun y => (hh.2 y).trans (seenX_all hseen hall y)
    simpa using hfin
end Go.Proofs.Ytafphbegpjjolaa.AM

/- Contract: the whole function with maps; the table in which it stands beside the others. -/
namespace Go.Proofs.Ytafphbegpjjolaa.AM
open Go
set_option maxRecDepth 1000000
set_option linter.unusedSimpArgs false
set_option linter.unusedVariables false
theorem outer {r : List Int} (h : RackOK r) (n : Nat) (hn : n ≤ 2) {Q : Ex → XS → Prop}
    (hQ : ∀ ks, ks.Nodup → (∀ y, y ∈ ks ↔ y ∈ endsX r n) → Q (.exit 0) ⟨[(6, .c (.map 0)), (20, .c (.int .i64 n)), (21, .c (.int .i64 n)), (22, .c (.bool false)), (24, .c .dead)], [.dead], [(0, .map ks)]⟩)
    {live : List Nat} {s : XS} (hg : Gc live s ⟨[(6, .c (.map 0)), (20, .c (.int .i64 n)), (21, .c (.int .i64 0))], [.dead], [(0, .map [r])]⟩) : exW pr np (.loop xL0) s Q := by
  refine W_loop (fun s => ∃ (k : Nat) (ks : List (List Int)), k ≤ n ∧ ks.Nodup ∧ (∀ y, y ∈ ks ↔ y ∈ endsX r k) ∧ s = ⟨[(6, .c (.map 0)), (20, .c (.int .i64 n)), (21, .c (.int .i64 (k : Nat)))], [.dead], [(0, .map ks)]⟩)
    (fun s => match AM.get s.e 21 with | .c (.int _ k) => n - k.toNat | _ => 0) hg ⟨0, [r], Nat.zero_le _, by simp, fun y => Iff.rfl, rfl⟩ ?_
  rintro s ⟨k, ks, hk, hnd, hmem, rfl⟩
  by_cases hkn : k = n
  · subst hkn
    have := hQ ks hnd hmem
    simpa [xL0] using this
  · have hlt : k < n := by omega
    have wk := wrapS (k := k) (by omega)
    have hlast : ∀ x ∈ ks, RackOK x := fun x hx => (endsX_row h k).ok x ((hmem x).1 hx)
    simp [xL0, hlt]
    refine ⟨0, ks, rfl, rfl, ?_⟩
    simp
    refine mid (live := [7, 20, 21, 24, 25]) (n : Int) (k : Int) ks hlast (fun ks' seen hnd' hmem' => ?_) (Gc.of ?_ ?_)
    · simp [wk]
      unfold turnX
      refine ⟨[6, 20, 21], ⟨_, _, [(0, .map ks')]⟩, Gc.of ?_ ?_, ⟨k + 1, by omega, ks', hnd', fun y => ?_, rfl⟩, ?_⟩
      · simp [sub]
      · simp [sub, mget, MO.mp, MO.ids]
      · rw [hmem' y]
        show _ ↔ y ∈ stepX (endsX r k)
        rw [mem_stepX]
        constructor
        · rintro ⟨x, hx, hy⟩
          exact ⟨x, (hmem x).1 hx, hy⟩
        · rintro ⟨x, hx, hy⟩
          exact ⟨x, (hmem x).2 hx, hy⟩
      · simp
        omega
    · simp [sub]
    · simp [sub, mget, MO.mp, MO.ids]
def endsN (r : List Int) (n : Int) : Nat := if playB r n 2 = true then (endsX r n.toNat).length else 0
def endsV (r : List Int) (n : Int) : V := .tup [.c (.int .i64 (endsN r n)), .c (.bool (playB r n 2))]
theorem whole (r : List Int) (hr : r.length = 24) (n : Int) : exW pr np xCode ⟨enter [.agg (r.map (C.int .i64)), .c (.int .i64 n)] 0, [], []⟩ (fun x s => (∀ i, x ≠ .exit i) ∧ leave 0 xRes s.e s.h = some (endsV r n, [])) := by
  have h24 := take24 hr
  have hp := callA_pure (c_impl_isPlay r hr n 2) (by simp) (by simp)
  cases hq : playB r n 2 with
  | false =>
    rw [hq] at hp
    simp [xCode, hr, h24, hp, xRes, endsV, endsN, hq, sub]
  | true =>
    rw [hq] at hp
    obtain ⟨h, h0, h2⟩ := playB_facts hr hq
    obtain ⟨m, rfl⟩ := Int.eq_ofNat_of_zero_le h0
    have hm : m ≤ 2 := by omega
    simp [xCode, hr, h24, hp]
    refine ⟨1, [], r, rfl, rfl, h, rfl, ?_⟩
    simp
    refine outer (live := [6, 20, 21]) h m hm (fun ks hnd hmem => ?_) (Gc.of ?_ ?_)
    · simp
      refine ⟨0, ks, rfl, rfl, ?_⟩
      have hlen := same_len (endsX_row h m) hnd hmem
      simp [xRes, endsV, endsN, hq, sub, hlen]
    · simp [sub]
    · simp [sub, mget, MO.mp, MO.ids, insK]
/-- the table with the function beside the others -/
def cellI : C → Int
  | .int _ n => n
  | _ => 0
def qEnds : List V → Heap → Option (V × Heap)
  | [.agg xs, .c (.int .i64 n)], [] => if xs.length = 24 ∧ (xs.map cellI).map (C.int .i64) = xs then some (endsV (xs.map cellI) n, []) else none
  | _, _ => none
def nq : Prim := fun f => if f = xFn then some qEnds else none
theorem np_ok : PrimOK Try.prog np := fun f q h => by simp [np] at h
theorem nq_ok : PrimOK Try.prog nq := by
  intro f q hq args h res h' hr φ w vs hh ha
  unfold nq at hq
  split at hq
  · rename_i e
    subst e
    injection hq with hq
    subst hq
    unfold qEnds at hr
    split at hr
    · rename_i xs n
      split at hr
      · rename_i hx
        injection hr with hr
        simp only [Prod.mk.injEq] at hr
        obtain ⟨rfl, rfl⟩ := hr
        obtain ⟨hl, he⟩ := hx
        generalize hy : xs.map cellI = r at *
        have hrl : r.length = 24 := by rw [← hy]; simpa using hl
        subst he
        have := fnX_ok mixed pr_ok np_ok key_facts xCode_ok (args := [.agg (r.map (C.int .i64)), .c (.int .i64 n)]) rfl (whole r hrl n) (fun x s h => h) hh ha
        rcases this with ⟨rv, w', h1, φ', h2, h3⟩ | ⟨h1, h2⟩
        · exact .inl ⟨rv, w', h1, φ', fun i hi => absurd hi (Nat.not_lt_zero _), h2, h3⟩
        · exact .inr ⟨h1, h2.mono fun e w' ⟨rv, he, φ', h2, h3⟩ => ⟨rv, he, φ', fun i hi => absurd hi (Nat.not_lt_zero _), h2, h3⟩⟩
      · cases hr
    · cases hr
  · cases hq
theorem np_none : ∀ f, np f = none := fun _ => rfl
/-- what the table without the function answers, the table with it answers -/
theorem up {f : Nat} {a : List V} {h : Heap} {r : V × Heap} (hr : fnI pr np f a h = some r) : fnI pr nq f a h = some r := by
  refine fnI_prim (fun f q hq => by simp [np] at hq) (fun f _ hf => ?_) f a h r hr
  unfold nq at hf
  split at hf
  · rename_i e
    subst e
    kernel_rfl
  · exact absurd rfl hf
theorem q_ends (r : List Int) (hr : r.length = 24) (n : Int) : fnI pr nq xFn [.agg (r.map (C.int .i64)), .c (.int .i64 n)] [] = some (endsV r n, []) := by
  have hc : (r.map (C.int .i64)).map cellI = r := by simp [Function.comp_def, cellI]
  refine (fnI_iff pr nq).2 ⟨0, ?_⟩
  simp only [fnN, fnOf, nq, if_true, qEnds, hc, List.length_map, hr, and_self]
theorem fq {fn : AFn} {f : Nat} (hq : nq f = none) (hp : pr f = some fn) {a : List V} (hl : a.length = fn.np) (h : Heap) : fnI pr nq f a h = leaveK h.length fn.res (exI pr nq h.length fn.body (enter a 0) h) := fnI_body' pr nq hq hp hl h
end Go.Proofs.Ytafphbegpjjolaa.AM
