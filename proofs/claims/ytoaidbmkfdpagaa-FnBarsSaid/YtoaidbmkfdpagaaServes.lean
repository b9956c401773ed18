import Derived.Test.YtoaidbmkfdpagaaServeS
import Derived.Test.YtoaidbmkfdpagaaRowsOpen
/- Contracts: a bar is served many times; the law. -/
namespace Go.Proofs.Ytoaidbmkfdpagaa.AM
open Go
set_option maxRecDepth 1000000
set_option linter.unusedSimpArgs false
set_option linter.unusedVariables false
def cF (l : List Four) : List C := (flat4 l).map (C.int .i64)
theorem flat4_len : ∀ l : List Four, (flat4 l).length = l.length * 4
  | [] => rfl
  | p :: l => by have := flat4_len l; simp only [flat4, List.flatMap_cons, List.length_append] at this ⊢; simp [this]; omega
@[simp] theorem cF_len (l : List Four) : (cF l).length = l.length * 4 := by simp [cF, flat4_len]
@[simp] theorem cF_ids (l : List Four) : cids (cF l) = [] := cids_ints _ _
@[simp] theorem cF_cmp (g : Nat → Nat) (l : List Four) : cmp g (cF l) = cF l := cmp_ints _ _ _
@[simp] theorem cF_dead (l : List Four) : noDead (cF l) = true := noDead_ints _ _
theorem cF_cons (q : Four) (l : List Four) : cF (q :: l) = C.int .i64 q.k :: C.int .i64 q.a :: C.int .i64 q.b :: C.int .i64 q.c :: cF l := rfl
theorem cF_nil : cF [] = [] := rfl
theorem cF_app (a b : List Four) : cF (a ++ b) = cF a ++ cF b := by simp [cF, flat4]
theorem cF_drop (l : List Four) : ∀ k, (cF l).drop (k * 4) = cF (l.drop k) := by
  induction l with
  | nil => intro k; simp [cF_nil]
  | cons p l ih =>
    intro k
    cases k with
    | zero => simp
    | succ k =>
      rw [cF_cons, show (k + 1) * 4 = k * 4 + 1 + 1 + 1 + 1 by omega]
      simp only [List.drop_succ_cons, ih k]
theorem cF_get (l : List Four) {k : Nat} (hk : k < l.length) : ((cF l).drop (k * 4)).take 4 = [C.int .i64 (l[k]'hk).k, C.int .i64 (l[k]'hk).a, C.int .i64 (l[k]'hk).b, C.int .i64 (l[k]'hk).c] := by
  rw [cF_drop, List.drop_eq_getElem_cons hk, cF_cons]
  rfl
theorem inst_four : ∀ (n m : Nat), inst (rep n [.k (C.int .i64 0), .k (C.int .i64 0), .k (C.int .i64 0), .k (C.int .i64 0)]) m = (List.replicate (n * 4) (C.int .i64 0), [])
  | 0, m => rfl
  | n + 1, m => by
    have := inst_four n m
    simp only [rep, List.cons_append, List.nil_append, inst, this]
    rw [show (n + 1) * 4 = n * 4 + 1 + 1 + 1 + 1 by omega]
    rfl
theorem copy4 (l : List Four) {k : Nat} (hk : k < l.length) : ((((cF (l.take k) ++ List.replicate ((l.length - k) * 4) (C.int .i64 0)).set (k * 4) (C.int .i64 (l[k]'hk).k)).set (k * 4 + 1) (C.int .i64 (l[k]'hk).a)).set (k * 4 + 1 + 1) (C.int .i64 (l[k]'hk).b)).set (k * 4 + 1 + 1 + 1) (C.int .i64 (l[k]'hk).c) = cF (l.take (k + 1)) ++ List.replicate ((l.length - (k + 1)) * 4) (C.int .i64 0) := by
  have hlen : (cF (l.take k)).length = k * 4 := by simp; omega
  rw [show (l.length - k) * 4 = (l.length - (k + 1)) * 4 + 1 + 1 + 1 + 1 by omega, List.replicate_succ, List.replicate_succ, List.replicate_succ, List.replicate_succ, take_snoc hk, cF_app]
  rw [List.set_append_right _ _ (by omega), hlen, Nat.sub_self, List.set_cons_zero]
  rw [List.set_append_right _ _ (by omega), hlen, show k * 4 + 1 - k * 4 = 1 by omega, List.set_cons_succ, List.set_cons_zero]
  rw [List.set_append_right _ _ (by omega), hlen, show k * 4 + 1 + 1 - k * 4 = 1 + 1 by omega, List.set_cons_succ, List.set_cons_succ, List.set_cons_zero]
  rw [List.set_append_right _ _ (by omega), hlen, show k * 4 + 1 + 1 + 1 - k * 4 = 1 + 1 + 1 by omega, List.set_cons_succ, List.set_cons_succ, List.set_cons_succ, List.set_cons_zero]
  simp [cF_cons, cF_nil]
/-! ### the serves one by one -/
structure St where
  r : List Int
  m : Int
  n : Int
def srv (s : St) (q : Four) : Option St := (doO s.r s.m s.n q.k q.a q.b q.c).map fun p => ⟨p.1, p.2, s.n + 1⟩
def srvTo (s0 : St) (l : List Four) : Nat → St
  | 0 => s0
  | k + 1 => (srv (srvTo s0 l k) (l.getD k ⟨0, 0, 0, 0⟩)).getD (srvTo s0 l k)
theorem srv_ok {s s' : St} {q : Four} (h : srv s q = some s') (hr : s.r.length = 24) : s'.r.length = 24 ∧ barOK s'.r s'.m s'.n = true := by
  unfold srv at h
  cases hd : doO s.r s.m s.n q.k q.a q.b q.c with
  | none => rw [hd] at h; cases h
  | some p =>
    rw [hd] at h
    injection h with h
    subst h
    obtain ⟨x, y⟩ := p
    unfold doO at hd
    split at hd
    · split at hd
      · rename_i s2 d hs
        split at hd
        · rename_i hok
          injection hd with hd; injection hd with h1 h2; subst h1; subst h2
          exact ⟨(svO_facts hr hs).1, hok⟩
        · cases hd
      · cases hd
    · cases hd
def stopAt (s0 : St) (l : List Four) (k : Nat) : Bool := (srv (srvTo s0 l k) (l.getD k ⟨0, 0, 0, 0⟩)).isNone
theorem srvTo_step {s0 : St} {l : List Four} {k : Nat} (h : stopAt s0 l k = false) : srv (srvTo s0 l k) (l.getD k ⟨0, 0, 0, 0⟩) = some (srvTo s0 l (k + 1)) := by
  unfold stopAt at h
  show _ = some ((srv (srvTo s0 l k) (l.getD k ⟨0, 0, 0, 0⟩)).getD (srvTo s0 l k))
  cases hs : srv (srvTo s0 l k) (l.getD k ⟨0, 0, 0, 0⟩) with
  | none => rw [hs] at h; simp at h
  | some x => rfl
theorem srvTo_ok {s0 : St} {l : List Four} (hr : s0.r.length = 24) (hb : barOK s0.r s0.m s0.n = true) : ∀ k, (∀ j, j < k → stopAt s0 l j = false) → (srvTo s0 l k).r.length = 24 ∧ barOK (srvTo s0 l k).r (srvTo s0 l k).m (srvTo s0 l k).n = true
  | 0, _ => ⟨hr, hb⟩
  | k + 1, h => srv_ok (srvTo_step (h k (by omega))) (srvTo_ok hr hb k fun j hj => h j (by omega)).1
theorem stop_end (s0 : St) (l : List Four) : ∃ K, K ≤ l.length ∧ (K = l.length ∨ stopAt s0 l K = true) ∧ ∀ j, j < K → stopAt s0 l j = false := first_exit (stopAt s0 l) l.length
noncomputable def stopK (s0 : St) (l : List Four) : Nat := (stop_end s0 l).choose
theorem doV_some {s s' : St} {q : Four} (h : srv s q = some s') : doV s.r s.m s.n q.k q.a q.b q.c = .tup [.agg (barC s'.r s'.m s'.n), .c (.bool true)] := by
  unfold srv at h
  unfold doV
  cases hd : doO s.r s.m s.n q.k q.a q.b q.c with
  | none => rw [hd] at h; cases h
  | some p => rw [hd] at h; injection h with h; subst h; rfl
theorem doV_none {s : St} {q : Four} (h : srv s q = none) : doV s.r s.m s.n q.k q.a q.b q.c = .tup [.agg (List.replicate 26 (C.int .i64 0)), .c (.bool false)] := by
  unfold srv at h
  unfold doV
  cases hd : doO s.r s.m s.n q.k q.a q.b q.c with
  | none => rfl
  | some p => rw [hd] at h; cases h
noncomputable def svsV (s0 : St) (l : List Four) : V := if barOK s0.r s0.m s0.n = true then .tup [.agg (barC (srvTo s0 l (stopK s0 l)).r (srvTo s0 l (stopK s0 l)).m (srvTo s0 l (stopK s0 l)).n), .c (.int .i64 (stopK s0 l)), .c (.bool true)] else .tup [.agg (List.replicate 26 (C.int .i64 0)), .c (.int .i64 0), .c (.bool false)]
set_option maxHeartbeats 4000000 in
theorem c_impl_DoServes (s0 : St) (hr : s0.r.length = 24) (l : List Four) (hl : l.length ≤ 1048576) (o : Bool) : fnI pr np 73 [.agg (barC s0.r s0.m s0.n), .c (.sl 0 0 l.length 4)] [.cells (cF l) o] = some (svsV s0 l, [.cells (cF l) o]) := by
  have l0 := barC_len hr s0.m s0.n
  have l2 := barC_all hr s0.m s0.n
  have h0 := callA_pure (c_bar_impl s0.r hr s0.m s0.n) (by simp) (by simp)
  rw [fb (fn := a73) rfl rfl]
  unfold svsV
  cases hq : barOK s0.r s0.m s0.n with
  | false => rw [hq] at h0; simp [a73, l0, l2, h0, setAt_all, cids_rep, cmp_rep, sub]
  | true =>
    rw [hq] at h0
    obtain ⟨hK1, hK2, hK3⟩ := (stop_end s0 l).choose_spec
    have hKe : (stop_end s0 l).choose = stopK s0 l := rfl
    rw [hKe] at hK1 hK2 hK3
    generalize stopK s0 l = K at *
    have hok := fun k (hk : k ≤ K) => srvTo_ok (l := l) hr hq k fun j hj => hK3 j (by omega)
    simp [a73, l0, l2, h0]
    rw [loop_to (fun k => ([(1, V.c (C.sl 0 0 l.length 4)), (2, V.c (C.ptr 1 0)), (4, V.c (C.ptr 2 0)), (15, V.c (C.sl 0 0 l.length 4)), (16, V.c (C.int .i64 l.length)), (17, V.c (C.int .i64 k))], [Blk.cells (cF l) o, Blk.cells (barC (srvTo s0 l k).r (srvTo s0 l k).m (srvTo s0 l k).n) true, Blk.cells (List.replicate 26 (C.int .i64 0)) true])) K]
    · obtain ⟨hlen, hb⟩ := hok K (Nat.le_refl _)
      have l3 := barC_len hlen (srvTo s0 l K).m (srvTo s0 l K).n
      have l4 := barC_all hlen (srvTo s0 l K).m (srvTo s0 l K).n
      by_cases hk : K < l.length
      · have hst := hK2.resolve_left (by omega)
        unfold stopAt at hst
        rw [List.getD_eq_getElem?_getD, List.getElem?_eq_getElem hk] at hst
        have hn : srv (srvTo s0 l K) (l[K]'hk) = none := by simpa using hst
        have hd := c_impl_DoServe (srvTo s0 l K).r hlen (srvTo s0 l K).m (srvTo s0 l K).n (l[K]'hk).k (l[K]'hk).a (l[K]'hk).b (l[K]'hk).c
        rw [doV_none hn] at hd
        have hd := callA_pure hd (by simp) (by simp [cids_rep])
        have g := cF_get l hk
        have b1 : K * 4 + 4 ≤ l.length * 4 := by omega
        generalize srvTo s0 l K = s at *
        simp [hk, g, b1, hd, l3, l4, setAt_all, setAt, cids_rep, cmp_rep, sub]
      · have hKl : K = l.length := by omega
        subst hKl
        generalize srvTo s0 l l.length = s at *
        simp [l3, l4, setAt_all, cids_rep, cmp_rep, sub]
    · simp [srvTo, cids_rep, cmp_rep, sub]
    · intro k hk
      have hkl : k < l.length := by omega
      obtain ⟨hlen, hb⟩ := hok k (by omega)
      obtain ⟨hlen', hb'⟩ := hok (k + 1) (by omega)
      have hs := srvTo_step (hK3 k hk)
      rw [List.getD_eq_getElem?_getD, List.getElem?_eq_getElem hkl] at hs
      have hs : srv (srvTo s0 l k) (l[k]'hkl) = some (srvTo s0 l (k + 1)) := hs
      have hd := c_impl_DoServe (srvTo s0 l k).r hlen (srvTo s0 l k).m (srvTo s0 l k).n (l[k]'hkl).k (l[k]'hkl).a (l[k]'hkl).b (l[k]'hkl).c
      rw [doV_some hs] at hd
      have hd := callA_pure hd (by simp) (by simp)
      have g := cF_get l hkl
      have b1 : k * 4 + 4 ≤ l.length * 4 := by omega
      have wk := wrapS (k := k) (by omega)
      have l3 := barC_len hlen (srvTo s0 l k).m (srvTo s0 l k).n
      have l4 := barC_all hlen (srvTo s0 l k).m (srvTo s0 l k).n
      have l5 := barC_len hlen' (srvTo s0 l (k + 1)).m (srvTo s0 l (k + 1)).n
      have l6 := barC_all hlen' (srvTo s0 l (k + 1)).m (srvTo s0 l (k + 1)).n
      generalize srvTo s0 l (k + 1) = s' at *
      generalize srvTo s0 l k = s at *
      simp [hkl, g, b1, wk, hd, l3, l4, l5, l6, setAt_all, setAt, cids_rep, cmp_rep, sub]
set_option maxHeartbeats 4000000 in
theorem c_spec_DoServes (s0 : St) (hr : s0.r.length = 24) (l : List Four) (hl : l.length ≤ 1048576) (o : Bool) : fnI pr np 74 [.agg (barC s0.r s0.m s0.n), .c (.sl 0 0 l.length 4)] [.cells (cF l) o] = some (svsV s0 l, [.cells (cF l) o]) := by
  have l0 := barC_len hr s0.m s0.n
  have l2 := barC_all hr s0.m s0.n
  have h0 := callA_pure (c_bar_spec s0.r hr s0.m s0.n) (by simp) (by simp)
  rw [fb (fn := a74) rfl rfl]
  unfold svsV
  cases hq : barOK s0.r s0.m s0.n with
  | false => rw [hq] at h0; simp [a74, l0, l2, h0, setAt_all, cids_rep, cmp_rep, sub]
  | true =>
    rw [hq] at h0
    obtain ⟨hK1, hK2, hK3⟩ := (stop_end s0 l).choose_spec
    have hKe : (stop_end s0 l).choose = stopK s0 l := rfl
    rw [hKe] at hK1 hK2 hK3
    generalize stopK s0 l = K at *
    have hok := fun k (hk : k ≤ K) => srvTo_ok (l := l) hr hq k fun j hj => hK3 j (by omega)
    simp [a74, l0, l2, h0, setAt_all]
    rw [loop_to (fun k => ([(1, V.c (C.sl 0 0 l.length 4)), (4, V.c (C.ptr 1 0)), (7, V.c (C.ptr 2 0)), (8, V.c (C.int .i64 k))], [Blk.cells (cF l) o, Blk.cells (List.replicate 26 (C.int .i64 0)) true, Blk.cells (barC (srvTo s0 l k).r (srvTo s0 l k).m (srvTo s0 l k).n) true])) K]
    · obtain ⟨hlen, hb⟩ := hok K (Nat.le_refl _)
      have l3 := barC_len hlen (srvTo s0 l K).m (srvTo s0 l K).n
      have l4 := barC_all hlen (srvTo s0 l K).m (srvTo s0 l K).n
      by_cases hk : K < l.length
      · have hst := hK2.resolve_left (by omega)
        unfold stopAt at hst
        rw [List.getD_eq_getElem?_getD, List.getElem?_eq_getElem hk] at hst
        have hn : srv (srvTo s0 l K) (l[K]'hk) = none := by simpa using hst
        have hd := c_spec_l12Do (srvTo s0 l K).r hlen (srvTo s0 l K).m (srvTo s0 l K).n (l[K]'hk).k (l[K]'hk).a (l[K]'hk).b (l[K]'hk).c hb
        rw [doV_none hn] at hd
        have hd := callA_pure hd (by simp) (by simp [cids_rep])
        have g := cF_get l hk
        have b1 : K * 4 + 4 ≤ l.length * 4 := by omega
        generalize srvTo s0 l K = s at *
        simp [hk, g, b1, hd, l3, l4, setAt_all, setAt, stillE, madeA, idOf, cids_rep, cmp_rep, sub]
      · have hKl : K = l.length := by omega
        subst hKl
        generalize srvTo s0 l l.length = s at *
        simp [l3, l4, setAt_all, cids_rep, cmp_rep, sub]
    · simp [srvTo, cids_rep, cmp_rep, sub]
    · intro k hk
      have hkl : k < l.length := by omega
      obtain ⟨hlen, hb⟩ := hok k (by omega)
      obtain ⟨hlen', hb'⟩ := hok (k + 1) (by omega)
      have hs := srvTo_step (hK3 k hk)
      rw [List.getD_eq_getElem?_getD, List.getElem?_eq_getElem hkl] at hs
      have hs : srv (srvTo s0 l k) (l[k]'hkl) = some (srvTo s0 l (k + 1)) := hs
      have hd := c_spec_l12Do (srvTo s0 l k).r hlen (srvTo s0 l k).m (srvTo s0 l k).n (l[k]'hkl).k (l[k]'hkl).a (l[k]'hkl).b (l[k]'hkl).c hb
      rw [doV_some hs] at hd
      have hd := callA_pure hd (by simp) (by simp)
      have g := cF_get l hkl
      have b1 : k * 4 + 4 ≤ l.length * 4 := by omega
      have wk := wrapS (k := k) (by omega)
      have l3 := barC_len hlen (srvTo s0 l k).m (srvTo s0 l k).n
      have l4 := barC_all hlen (srvTo s0 l k).m (srvTo s0 l k).n
      have l5 := barC_len hlen' (srvTo s0 l (k + 1)).m (srvTo s0 l (k + 1)).n
      have l6 := barC_all hlen' (srvTo s0 l (k + 1)).m (srvTo s0 l (k + 1)).n
      generalize srvTo s0 l (k + 1) = s' at *
      generalize srvTo s0 l k = s at *
      simp [hkl, g, b1, wk, hd, l3, l4, l5, l6, setAt_all, setAt, stillE, madeA, idOf, cids_rep, cmp_rep, sub]
/-! ### the law -/
theorem call_slE {F : Fns} {f n z : Nat} {rest : List V} {b : Blk} {v : V} {ns : Heap} (hre : rest.flatMap V.ids = []) (hbi : b.ids = []) (hF : F f (.c (.sl 0 0 n z) :: rest) [b] = some (v, b :: ns)) (i : Nat) (H : HF) (base : Nat) (hb : (H i == some b) = true) :
    callA F f (.c (.sl i 0 n z) :: rest) H base = some (v.mp (back [i] base), ns.map (Blk.mp (back [i] base)), [(i, b)]) := by
  have hb : H i = some b := by simpa using hb
  exact callA_one (x := .c (.sl i 0 n z)) hb (by simp) (by simp) hre hbi hF base
theorem call_xslE {F : Fns} {f n z : Nat} {x : V} {b : Blk} {v : V} {ns : Heap} (hx : x.ids = []) (hbi : b.ids = []) (hF : F f [x, .c (.sl 0 0 n z)] [b] = some (v, b :: ns)) (i : Nat) (H : HF) (base : Nat) (hb : (H i == some b) = true) :
    callA F f [x, .c (.sl i 0 n z)] H base = some (v.mp (back [i] base), ns.map (Blk.mp (back [i] base)), [(i, b)]) := by
  have hb : H i = some b := by simpa using hb
  have h := callA_gen (F := F) (f := f) (args := [x, .c (.sl i 0 n z)]) (H := H) (L := [i]) (by simp [hx, reach, idsAt, hb, hbi]) (by simp [closed, hb, idsAt, hbi, inL, hx]) (show sub [i] H = [b] by simp [sub, hb, mp_ids hbi]) (show [x, V.c (.sl i 0 n z)].map (V.mp (pos [i])) = [x, .c (.sl 0 0 n z)] by simp [V.mp_pure hx, pos]) hF (by simp) base
  rw [h]
  simp [mp_ids hbi]
theorem call_sl2E {F : Fns} {f n n' z : Nat} {b c : Blk} {v : V} (hbi : b.ids = []) (hci : c.ids = []) (hF : F f [.c (.sl 0 0 n z), .c (.sl 1 0 n' z)] [b, c] = some (v, [b, c])) (i j : Nat) (H : HF) (base : Nat) (hij : (i != j) = true) (hb : (H i == some b) = true) (hc : (H j == some c) = true) :
    callA F f [.c (.sl i 0 n z), .c (.sl j 0 n' z)] H base = some (v.mp (back [i, j] base), [], [(i, b), (j, c)]) := by
  have hb : H i = some b := by simpa using hb
  have hc : H j = some c := by simpa using hc
  have hij : i ≠ j := by simpa using hij
  exact callA_two (x := .c (.sl i 0 n z)) (y := .c (.sl j 0 n' z)) hij hb hc (by simp) (by simp) (by simp [pos]) (by simp [pos, hij]) hbi hci hF base
theorem svs_eq (s0 : St) (hr : s0.r.length = 24) (l : List Four) : ∃ (s : List Int) (x y i : Int) (q : Bool), s.length = 24 ∧ svsV s0 l = .tup [.agg (barC s x y), .c (.int .i64 i), .c (.bool q)] := by
  unfold svsV
  cases hq : barOK s0.r s0.m s0.n with
  | false => exact ⟨List.replicate 24 0, 0, 0, 0, false, by simp, by rw [barC_zero]; rfl⟩
  | true =>
    have hK3 := (stop_end s0 l).choose_spec.2.2
    exact ⟨_, _, _, _, true, (srvTo_ok hr hq (stopK s0 l) hK3).1, rfl⟩
end Go.Proofs.Ytoaidbmkfdpagaa.AM
