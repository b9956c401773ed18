import Derived.Test.YtafphbegpjjolaaEndsP
import Derived.DeepKeys5
import Derived.Laws.IdiomRangeMap
/- Code with maps of racks: the abstract machine's state with the maps and iterators beside it; what each operation on maps does. -/
namespace Go.Proofs.Ytafphbegpjjolaa.AM
open Go
set_option linter.unusedSimpArgs false
set_option linter.unusedVariables false
/-- a map from racks to true, or an iterator over one: its map, how many entries it had, the places that have been seen -/
inductive MO where
  | map (ks : List (List Int))
  | iter (i n : Nat) (seen : List Nat)
abbrev Ms := List (Nat × MO)
def mget : Ms → Nat → Option MO
  | [], _ => none
  | (j, o) :: r, i => if j = i then some o else mget r i
structure XS where
  e : Env
  h : Heap
  M : Ms
def keyV (r : List Int) : Value := .agg (r.map (Value.int .i64)).toArray
def ent (p : List Int × Nat) : MapEntry := { key := keyV p.1, val := .bool true, born := p.2 }
def ents (ks : List (List Int)) : Array MapEntry := (ks.zipIdx.map ent).toArray
def objOf (φ : Phi) : MO → Obj
  | .map ks => .map (ents ks) ks.length
  | .iter i n seen => .mapIter ((φ i).map (·.b)) n seen.toArray n
def MO.okAt (φ : Phi) : MO → Prop
  | .map ks => ∀ r ∈ ks, RackOK r
  | .iter i _ _ => ∃ p, φ i = some p
theorem MO.okAt.mono {φ φ' : Phi} {o : MO} (h : o.okAt φ) (hl : Le φ φ') : o.okAt φ' := by
  cases o with
  | map ks => exact h
  | iter i n seen => obtain ⟨p, hp⟩ := h; exact ⟨p, hl i p hp⟩
theorem objOf_mono {φ φ' : Phi} {o : MO} (h : o.okAt φ) (hl : Le φ φ') : objOf φ' o = objOf φ o := by
  cases o with
  | map ks => rfl
  | iter i n seen => obtain ⟨p, hp⟩ := h; simp only [objOf, hp, hl i p hp]
theorem vals_inj : ∀ {x y : List Int}, x.map (Value.int .i64) = y.map (Value.int .i64) → x = y
  | [], [], _ => rfl
  | a :: x, b :: y, h => by
    simp only [List.map_cons, List.cons.injEq] at h
    obtain ⟨h1, h2⟩ := h
    injection h1 with _ h1
    rw [h1, vals_inj h2]
  | [], _ :: _, h => by simp at h
  | _ :: _, [], h => by simp at h
theorem keyV_inj {x y : List Int} (h : keyV x = keyV y) : x = y := by
  unfold keyV at h
  injection h with h
  exact vals_inj (by simpa using h)
theorem All2_ints (φ : Phi) (r : List Int) : All2 (VRc φ) (r.map (C.int .i64)) (r.map (Value.int .i64)) := by
  induction r with
  | nil => trivial
  | cons a r ih => exact ⟨rfl, ih⟩
theorem VR_key (φ : Phi) (r : List Int) : VR φ (.agg (r.map (C.int .i64))) (keyV r) := ⟨_, rfl, All2_ints φ r⟩
theorem VR_key_eq {φ : Phi} {r : List Int} {v : Value} (h : VR φ (.agg (r.map (C.int .i64))) v) : v = keyV r := by
  obtain ⟨vs, rfl, ha⟩ := h
  unfold keyV
  congr 2
  induction r generalizing vs with
  | nil => cases vs with
    | nil => rfl
    | cons => exact ha.elim
  | cons a r ih => cases vs with
    | nil => exact ha.elim
    | cons v vs =>
      have h1 : v = .int .i64 a := ha.1
      rw [h1, ih vs ha.2]
      rfl
/-! ### entries -/
theorem ents_get (ks : List (List Int)) (k : Nat) : (ents ks)[k]? = (ks[k]?).map fun r => ent (r, k) := by
  unfold ents
  rw [List.getElem?_toArray, List.getElem?_map, List.getElem?_zipIdx]
  cases ks[k]? <;> simp
theorem ents_size (ks : List (List Int)) : (ents ks).size = ks.length := by simp [ents]
theorem ents_mem {ks : List (List Int)} {x : MapEntry} (h : x ∈ (ents ks).toList) : ∃ k, ∃ hk : k < ks.length, x = ent (ks[k], k) := by
  obtain ⟨k, hk⟩ := List.getElem?_of_mem h
  have h2 : (ents ks)[k]? = some x := by simpa using hk
  rw [ents_get] at h2
  obtain ⟨r, hr, hx⟩ := Option.map_eq_some_iff.1 h2
  obtain ⟨hk2, rfl⟩ := List.getElem?_eq_some_iff.1 hr
  exact ⟨k, hk2, hx.symm⟩
theorem ents_push (ks : List (List Int)) (r : List Int) : (ents ks).push (ent (r, ks.length)) = ents (ks ++ [r]) := by
  apply Array.ext'
  simp [ents, List.zipIdx_append]
theorem ents_at {ks : List (List Int)} {k : Nat} (hk : k < ks.length) : ent (ks[k], k) ∈ (ents ks).toList := by
  refine List.mem_of_getElem? (i := k) ?_
  have := ents_get ks k
  rw [List.getElem?_eq_getElem hk] at this
  simpa using this
theorem ents_born (ks : List (List Int)) : (ents ks).toList.map (·.born) = List.range ks.length := by
  unfold ents
  simp only [List.map_map]
  apply List.ext_getElem?
  intro k
  rw [List.getElem?_map, List.getElem?_zipIdx]
  by_cases hk : k < ks.length
  · simp [List.getElem?_eq_getElem hk, ent, hk]
  · rw [List.getElem?_eq_none (by omega), List.getElem?_eq_none (by simpa using hk)]
    rfl
/-! ### the state -/
structure SM (φ0 : Phi) (w0 : World) (nt : Nat) (φ : Phi) (s : XS) (a : Act) (w : World) : Prop where
  st : StOK φ s.e s.h nt a w
  mv : Mv φ0 (lkp []) w0 φ (lkp s.h) w
  mo : ∀ i o, mget s.M i = some o → ∃ b, φ i = some ⟨b, 0, 0⟩ ∧ w.heap[b]? = some (objOf φ o) ∧ ¬ LS φ (lkp s.h) b ∧ w0.heap.size ≤ b ∧ o.okAt φ
  ap : ∀ i j oi oj p q, mget s.M i = some oi → mget s.M j = some oj → i ≠ j → φ i = some p → φ j = some q → p.b ≠ q.b
section
variable {φ0 : Phi} {w0 : World} {nt : Nat} {φ : Phi} {s : XS} {a : Act} {w : World}
theorem HeapOK.domlt {h : Heap} (hh : HeapOK φ (lkp h) w) {i : Nat} {p : Pl} (hp : φ i = some p) : i < h.length := by
  obtain ⟨b, hb⟩ := hh.dom i p hp
  exact (List.getElem?_eq_some_iff.1 hb).1
theorem OS_LS {H : HF} {k : Nat} (h : OS φ H k) : LS φ H k := by
  obtain ⟨i, b, p, h1, h2, h3, h4⟩ := h
  exact ⟨i, b, p, h1, Blk.live_of_own h2, h3, h4⟩
theorem SM.later (hs : SM φ0 w0 nt φ s a w) {φ' : Phi} {e' : Env} {h' : Heap} {a' : Act} {w' : World} (hs' : StOK φ' e' h' nt a' w') (hl : Later s.h.length φ s.h w φ' h' w') : SM φ0 w0 nt φ' ⟨e', h', s.M⟩ a' w' := by
  have hk : Le φ φ' := fun i p hp => (hl.keep i (hs.st.heap.domlt hp)).trans hp
  refine ⟨hs', hs.mv.trans hl.mv, fun i o hm => ?_, fun i j oi oj p q hi hj hij hp hq => ?_⟩
  · obtain ⟨b, hb, ho, hn, h0, hok⟩ := hs.mo i o hm
    have hlt : b < w.heap.size := (Array.getElem?_eq_some_iff.1 ho).1
    refine ⟨b, hk _ _ hb, ?_, fun hls => (hl.mv.lv b hls).elim hn (by omega), h0, hok.mono hk⟩
    rw [hl.mv.fr.block b hlt fun ho => hn (OS_LS ho), ho, objOf_mono hok hk]
  · obtain ⟨b, hb, _⟩ := hs.mo i oi hi
    obtain ⟨c, hc, _⟩ := hs.mo j oj hj
    rw [hk _ _ hb] at hp
    rw [hk _ _ hc] at hq
    injection hp with hp
    injection hq with hq
    subst hp; subst hq
    exact hs.ap i j oi oj _ _ hi hj hij hb hc
theorem SM.put (hs : SM φ0 w0 nt φ s a w) {d : Nat} (hd : d < nt) {v : V} {rv : Value} (hv : VR φ v rv) : SM φ0 w0 nt φ ⟨AM.put s.e (some d) v, s.h, s.M⟩ (a.put (some d) rv) w :=
  ⟨⟨hs.st.env.put (d := some d) hv fun k hk => by injection hk with hk; subst hk; rw [hs.st.size]; exact hd, hs.st.heap, by rw [put_size]; exact hs.st.size, by rw [put_defers']; exact hs.st.defers⟩, hs.mv, hs.mo, hs.ap⟩
theorem SM.alloc (hs : SM φ0 w0 nt φ s a w) {d : Nat} (hd : d < nt) {o : MO} (ho : o.okAt φ) {v : V} {rv : Value} (hv : ∀ φ' : Phi, φ' s.h.length = some ⟨w.heap.size, 0, 0⟩ → VR φ' v rv) :
    ∃ φ', SM φ0 w0 nt φ' ⟨AM.put s.e (some d) v, s.h ++ [.dead], (s.h.length, o) :: s.M⟩ (a.put (some d) rv) (w.alloc (objOf φ o)) := by
  obtain ⟨φ', hφ⟩ : ∃ φ' : Phi, φ' = fun i => if i = s.h.length then some ⟨w.heap.size, 0, 0⟩ else φ i := ⟨_, rfl⟩
  have hb : φ' s.h.length = some ⟨w.heap.size, 0, 0⟩ := by rw [hφ]; simp
  have hold : ∀ i, i ≠ s.h.length → φ' i = φ i := fun i hi => by rw [hφ]; simp [hi]
  have hnew : New φ w s.h.length [.dead] φ' (w.alloc (objOf φ o)) := by
    refine ⟨fun i hi => hold i (by simp only [List.length_cons, List.length_nil] at hi; omega), fun j b p hj hp => ?_, fun j k p q hjk hj hk _ _ => ?_, Fr.alloc _ _ _⟩
    · have hj0 : j = 0 := by have := (List.getElem?_eq_some_iff.1 hj).1; simp only [List.length_cons, List.length_nil] at this; omega
      subst hj0
      simp only [List.getElem?_cons_zero, Option.some.injEq] at hj
      subst hj
      rw [Nat.add_zero, hb] at hp
      injection hp with hp
      subst hp
      exact ⟨trivial, Nat.le_refl _⟩
    · simp only [List.length_cons, List.length_nil] at hj hk; omega
  have hlk : lkp (s.h ++ [.dead]) = updH (lkp s.h) s.h.length [.dead] [] := by
    have := lkp_step (h := s.h) (ns := [.dead]) (us := []) (by simp)
    simpa [ups] using this
  have hout := hnew.out hs.st.heap (hs.st.heap.free _)
  have hmv : Mv φ (lkp s.h) w φ' (lkp (s.h ++ [.dead])) (w.alloc (objOf φ o)) := by rw [hlk]; exact hout.mv
  have hle : Le φ φ' := fun i p hp => by
    rw [hold i (by have := hs.st.heap.domlt hp; omega)]; exact hp
  have hst : StOK φ' (AM.put s.e (some d) v) (s.h ++ [.dead]) nt (a.put (some d) rv) (w.alloc (objOf φ o)) :=
    ⟨(hs.st.env.mono hle).put (d := some d) (hv φ' hb) fun k hk => by injection hk with hk; subst hk; rw [hs.st.size]; exact hd, hmv.ok, by rw [put_size]; exact hs.st.size, by rw [put_defers']; exact hs.st.defers⟩
  have hlater : Later s.h.length φ s.h w φ' (s.h ++ [.dead]) (w.alloc (objOf φ o)) := ⟨fun i hi => hold i (by omega), hmv, by simp⟩
  have h1 := hs.later hst hlater
  have hnone : mget s.M s.h.length = none := by
    cases hx : mget s.M s.h.length with
    | none => rfl
    | some x =>
      obtain ⟨b, hb, _⟩ := hs.mo _ _ hx
      have := hs.st.heap.domlt hb
      omega
  refine ⟨φ', hst, h1.mv, fun i x hm => ?_, fun i j oi oj p q hi hj hij hp hq => ?_⟩
  · simp only [mget] at hm
    split at hm
    · rename_i hi
      injection hm with hm
      subst hi; subst hm
      refine ⟨w.heap.size, hb, ?_, ?_, hs.mv.fr.size, ho.mono hle⟩
      · rw [objOf_mono ho hle]
        exact heap_alloc_new w _
      · rintro ⟨i, bl, p, h1, h2, h3, h4⟩
        by_cases hi : i = s.h.length
        · subst hi
          rw [hlk] at h1
          unfold updH at h1
          rw [if_pos (by simp)] at h1
          simp at h1
          subst h1
          simp [Blk.live] at h2
        · rw [hold i hi] at h3
          have h5 : lkp s.h i = some bl := by
            unfold lkp at h1 ⊢
            have := hs.st.heap.domlt h3
            rwa [List.getElem?_append_left this] at h1
          have := (hs.st.heap.blk i bl p h5 h3).lt h2
          omega
    · exact h1.mo i x hm
  · have key : ∀ i oi p, mget s.M i = some oi → φ' i = some p → p.b < w.heap.size := by
      intro i oi p hi hp
      obtain ⟨b, hb', hob, _⟩ := hs.mo i oi hi
      rw [hle _ _ hb'] at hp
      injection hp with hp
      subst hp
      exact (Array.getElem?_eq_some_iff.1 hob).1
    simp only [mget] at hi hj
    by_cases e1 : s.h.length = i
    · subst e1
      rw [hb] at hp
      injection hp with hp
      subst hp
      rw [if_neg hij] at hj
      have := key j oj q hj hq
      simp only
      omega
    · rw [if_neg e1] at hi
      by_cases e2 : s.h.length = j
      · subst e2
        rw [hb] at hq
        injection hq with hq
        subst hq
        have := key i oi p hi hp
        simp only
        omega
      · rw [if_neg e2] at hj
        exact h1.ap i j oi oj p q hi hj hij hp hq
theorem SM.set (hs : SM φ0 w0 nt φ s a w) {i : Nat} {o0 o : MO} {b : Nat} (hm : mget s.M i = some o0) (hb : φ i = some ⟨b, 0, 0⟩) (ok : o.okAt φ) {w' : World} (hw : w'.heap = w.heap.setIfInBounds b (objOf φ o)) (h1 : w'.os = w.os) (h2 : w'.tape = w.tape) (h3 : w'.output = w.output) :
    SM φ0 w0 nt φ ⟨s.e, s.h, (i, o) :: s.M⟩ a w' := by
  obtain ⟨b', hb', hob, hnl, h0, _⟩ := hs.mo i o0 hm
  have hbb : b' = b := by rw [hb] at hb'; injection hb' with hb'; injection hb' with hb'; exact hb'.symm
  subst hbb
  have hlt : b' < w.heap.size := (Array.getElem?_eq_some_iff.1 hob).1
  have hne : ∀ k, k ≠ b' → w'.heap[k]? = w.heap[k]? := fun k hk => by rw [hw, Array.getElem?_setIfInBounds_ne (Ne.symm hk)]
  have hat : w'.heap[b']? = some (objOf φ o) := by rw [hw]; simp [hlt]
  have hok0 : HeapOK0 φ (lkp s.h) w' := by
    refine ⟨fun j bl p hj hp => ?_, hs.st.heap.sep, hs.st.heap.dom⟩
    have h := hs.st.heap.blk j bl p hj hp
    cases hl : bl.live with
    | false => cases bl <;> simp [Blk.live] at hl; trivial
    | true => exact h.mono (hne p.b fun e => hnl ⟨j, bl, p, hj, hl, hp, e⟩) (Le.refl φ)
  have htab : TabW φ (lkp s.h) w' := by
    refine ⟨fun g cs hg => ?_, hs.st.heap.tab.2⟩
    obtain ⟨t, fr, hh⟩ := hs.st.heap.tab.1 g cs hg
    refine ⟨t, fr, ?_⟩
    rw [hne g fun e => ?_]
    · exact hh
    · subst e
      rw [hob] at hh
      cases o0 <;> simp [objOf] at hh
  have hok : HeapOK φ (lkp s.h) w' := ⟨hok0, htab⟩
  refine ⟨⟨hs.st.env, hok, hs.st.size, hs.st.defers⟩, ⟨hok, ⟨h1.trans hs.mv.fr.os, h2.trans hs.mv.fr.tape, h3.trans hs.mv.fr.output, ?_, fun k hk hn => ?_⟩, hs.mv.own, hs.mv.lv⟩, fun j x hj => ?_, fun j k oj ok p q hj hk hjk hp hq => ?_⟩
  · rw [hw, Array.size_setIfInBounds]; exact hs.mv.fr.size
  · rw [hne k (by omega)]; exact hs.mv.fr.block k hk hn
  · simp only [mget] at hj
    split at hj
    · rename_i e
      subst e
      injection hj with hj
      subst hj
      exact ⟨b', hb, hat, hnl, h0, ok⟩
    · rename_i e
      obtain ⟨c, hc, hoc, hnc, h0c, okc⟩ := hs.mo j x hj
      refine ⟨c, hc, ?_, hnc, h0c, okc⟩
      rw [hne c (fun e' => hs.ap i j o0 x _ _ hm hj e hb hc e'.symm)]
      exact hoc
  · have back : ∀ j oj, mget ((i, o) :: s.M) j = some oj → ∃ oj', mget s.M j = some oj' := by
      intro j oj hj
      simp only [mget] at hj
      split at hj
      · rename_i e; subst e; exact ⟨o0, hm⟩
      · exact ⟨oj, hj⟩
    obtain ⟨_, hj⟩ := back j oj hj
    obtain ⟨_, hk⟩ := back k ok hk
    exact hs.ap j k _ _ p q hj hk hjk hp hq
end
end Go.Proofs.Ytafphbegpjjolaa.AM

/- Code with maps of racks: what the model's operations on maps do at such a map. -/
namespace Go.Proofs.Ytafphbegpjjolaa.AM
open Go
set_option linter.unusedSimpArgs false
set_option linter.unusedVariables false
section
variable {P : Program} {w : World} {t k e : TypeId}
theorem run_mkmap (t : TypeId) : (Instr.makeMap t none).run P w = .ok (.map (some w.heap.size)) (w.alloc (.map (ents []) 0)) := by
  simp [Instr.makeMap, ents]
/-- the facts of a map type from racks -/
structure KeyF (P : Program) (t : TypeId) : Prop where
  und : ∃ k e, P.underlying t = some (.map k e) ∧ WideMaps.KeyLaw P k ∧ ∀ r, RackOK r → ∃ l, keyOf P k (keyV r) = some l
def insK (x : List Int) (ks : List (List Int)) : List (List Int) := if x ∈ ks then ks else ks ++ [x]
theorem set_self {α : Type} (xs : Array α) {i : Nat} {a : α} (h : xs[i]? = some a) : xs.setIfInBounds i a = xs := by
  apply Array.ext_getElem?
  intro j
  rw [Array.getElem?_setIfInBounds]
  split
  · rename_i e
    subst e
    split
    · exact h.symm
    · rename_i hn
      rw [Array.getElem?_eq_none (by omega)] at h
      cases h
  · rfl
theorem modify_self {α : Type} (xs : Array α) (i : Nat) (f : α → α) (h : ∀ a, xs[i]? = some a → f a = a) : xs.modify i f = xs := by
  apply Array.ext_getElem?
  intro j
  rw [Array.getElem?_modify]
  split
  · rename_i e
    subst e
    cases hx : xs[i]? with
    | none => rfl
    | some a => simp [h a hx]
  · rfl
theorem run_ins (K : KeyF P t) {b : Nat} {ks : List (List Int)} (hb : w.heap[b]? = some (.map (ents ks) ks.length)) (hks : ∀ r ∈ ks, RackOK r) {x : List Int} (hx : RackOK x) :
    (Instr.mapUpdate t (.map (some b)) (keyV x) (.bool true)).run P w = .ok () { w with heap := w.heap.setIfInBounds b (.map (ents (insK x ks)) (insK x ks).length) } := by
  obtain ⟨k, e, ht, KL, hkey⟩ := K.und
  obtain ⟨l, hl⟩ := hkey x hx
  have hkeys : ∀ m ∈ (ents ks).toList, ∃ l, keyOf P k m.key = some l := by
    intro m hm
    obtain ⟨j, hj, rfl⟩ := ents_mem hm
    exact hkey _ (hks _ (List.getElem_mem hj))
  unfold Instr.mapUpdate
  simp only [Sem.run_bind, run_underlying ht, Result.andThen_ok, MapKept.run_getObj_map hb, KL.check w false hl]
  rcases KL.find w hl (ents ks).toList hkeys with ⟨hf, hn⟩ | ⟨j, e0, hf, hj, he⟩
  · have hni : x ∉ ks := by
      intro hmem
      obtain ⟨j, hj, hxj⟩ := List.getElem_of_mem hmem
      exact hn _ (ents_at hj) (by rw [hxj]; rfl)
    have e1 : insK x ks = ks ++ [x] := by simp [insK, hni]
    simp only [hf, Result.andThen_ok, MapKept.run_setObj_map _ hb, e1]
    have e2 : (ents ks).push { key := keyV x, val := .bool true, born := ks.length } = ents (ks ++ [x]) := ents_push ks x
    rw [e2]
    simp
  · have hmem : x ∈ ks := by
      obtain ⟨j', hj', rfl⟩ := ents_mem (List.mem_of_getElem? hj)
      have : ks[j'] = x := keyV_inj he
      rw [← this]
      exact List.getElem_mem _
    have e1 : insK x ks = ks := by simp [insK, hmem]
    have hj' : (ents ks)[j]? = some e0 := by simpa using hj
    simp only [hf, Result.andThen_ok, hj', Option.map_some, Option.getD_some, he, KL.stays w hl, MapKept.run_setObj_map _ hb, e1, Sem.run_bind]
    rw [modify_self]
    intro a ha
    rw [hj'] at ha
    injection ha with ha
    subst ha
    obtain ⟨j2, hj2, h2⟩ := ents_mem (List.mem_of_getElem? hj)
    rw [← he, h2]
    rfl
theorem run_rng (K : KeyF P t) {b : Nat} {ks : List (List Int)} (hb : w.heap[b]? = some (.map (ents ks) ks.length)) :
    (Instr.range t (.map (some b))).run P w = .ok (.pointer (some ⟨w.heap.size, 0, none⟩)) (w.alloc (.mapIter (some b) ks.length #[] ks.length)) := by
  obtain ⟨k, e, ht, _⟩ := K.und
  exact run_range_map w t k e b _ _ ht hb
theorem run_len (K : KeyF P t) {b : Nat} {ks : List (List Int)} (hb : w.heap[b]? = some (.map (ents ks) ks.length)) (ty : TypeId) :
    (Builtin.len_ #[t] ty #[.map (some b)]).run P w = .ok (.int .i64 ks.length) w := by
  obtain ⟨k, e, ht, _⟩ := K.und
  simp [Builtin.len_, run_underlying ht, MapKept.run_getObj_map hb, goInt, ents_size]
theorem run_getObj_it {r : Nat} {m : Option Nat} {x z : Nat} {y : Array Nat} (hb : w.heap[r]? = some (.mapIter m x y z)) : (getObj r).run P w = .ok (.mapIter m x y z) w := by
  simp [getObj, Sem.run, hb]
theorem run_setObj_it {r : Nat} {m : Option Nat} {x z : Nat} {y : Array Nat} (o' : Obj) (hb : w.heap[r]? = some (.mapIter m x y z)) : (setObj r o').run P w = .ok () { w with heap := w.heap.setIfInBounds r o' } := by
  simp [setObj, Sem.run, hb]
theorem run_nxt {r bm : Nat} {ks : List (List Int)} {seen : List Nat} (hr : w.heap[r]? = some (.mapIter (some bm) ks.length seen.toArray ks.length)) (hb : w.heap[bm]? = some (.map (ents ks) ks.length)) (ty : TypeId) :
    ((∀ j, j < ks.length → j ∈ seen) ∧ (Instr.next (.pointer (some ⟨r, 0, none⟩)) false ty).run P w = .ok (.tuple #[.bool false]) w) ∨
    ∃ j, ∃ hj : j < ks.length, j ∉ seen ∧ ∃ w1 : World, w1.heap = w.heap ∧ w1.os = w.os ∧ w1.tape = w.tape ∧ w1.output = w.output ∧
      (Instr.next (.pointer (some ⟨r, 0, none⟩)) false ty).run P w = .ok (.tuple #[.bool true, keyV (ks[j]'hj), .bool true]) { w1 with heap := w1.heap.setIfInBounds r (.mapIter (some bm) ks.length (seen ++ [j]).toArray ks.length) } := by
  have hborn : ∀ x ∈ (ents ks).toList, x.born < ks.length := by
    intro x hx
    obtain ⟨j, hj, rfl⟩ := ents_mem hx
    exact hj
  have htest := next_test_false seen.toArray (ents ks) ks.length ks.length hborn (Nat.le_refl _)
  simp only [Instr.next, Sem.run_bind, run_getObj_it hr, MapKept.run_getObj_map hb, Result.andThen_ok, htest, Bool.false_eq_true, if_false]
  have hleft : ∀ x ∈ (Array.filter (fun e : MapEntry => !seen.toArray.contains e.born) (ents ks)).toList, ∃ j, ∃ hj : j < ks.length, j ∉ seen ∧ x = ent (ks[j]'hj, j) := by
    intro x hx
    have hx := Array.mem_filter.1 (Array.mem_toList_iff.1 hx)
    obtain ⟨j, hj, rfl⟩ := ents_mem (Array.mem_toList_iff.2 hx.1)
    refine ⟨j, hj, ?_, rfl⟩
    have h2 := hx.2
    simp only [ent, List.contains_toArray, Bool.not_eq_true'] at h2
    intro hm
    rw [List.contains_iff_mem.2 hm] at h2
    cases h2
  have hnone : (Array.filter (fun e : MapEntry => !seen.toArray.contains e.born) (ents ks)) = #[] → ∀ j, j < ks.length → j ∈ seen := by
    intro he j hj
    have := Array.filter_eq_empty_iff.1 he (ent (ks[j], j)) (Array.mem_toList_iff.1 (ents_at hj))
    simpa [ent] using this
  generalize Array.filter (fun e : MapEntry => !seen.toArray.contains e.born) (ents ks) = L at hleft hnone
  have hmem : ∀ x ∈ L.toList, x.born < ks.length := fun x hx => by
    obtain ⟨j, hj, _, rfl⟩ := hleft x hx
    exact hj
  have e1 : L.filter (fun x => decide (x.born < ks.length)) = L := Array.filter_eq_self.2 (fun x hx => by simpa using hmem x (by simpa using hx))
  have e2 : L.filter (fun x => decide (x.born ≥ ks.length)) = #[] := by
    rw [Array.filter_eq_empty_iff]
    intro x hx
    have := hmem x (by simpa using hx)
    simp
    omega
  simp only [e1, e2, Array.append_empty]
  by_cases h0 : L.size = 0
  · left
    have : L = #[] := Array.eq_empty_of_size_eq_zero h0
    subst this
    refine ⟨hnone rfl, ?_⟩
    simp [choose, Sem.run, Question.forced]
  · right
    have hne : L.isEmpty = false := by simp [Array.isEmpty, h0]
    simp only [hne, Bool.false_eq_true, if_false, Array.empty_append, Array.size_map]
    have hch : ∃ (j : Nat) (w1 : World), j < L.size ∧ (w1.heap = w.heap ∧ w1.os = w.os ∧ w1.tape = w.tape ∧ w1.output = w.output) ∧ (choose (Question.mapNext L.size)).run P w = .ok j w1 := by
      by_cases hf : L.size ≤ 1
      · exact ⟨0, w, by omega, ⟨rfl, rfl, rfl, rfl⟩, by simp [choose, Sem.run, Question.forced, hf]⟩
      · exact ⟨_, w.drew, Nat.mod_lt _ (by omega), ⟨rfl, rfl, rfl, rfl⟩, by
          simp only [choose, Sem.run, Question.forced, decide_eq_true_eq, hf, if_false, Question.cut]
          rfl⟩
    obtain ⟨i, w1, hi, ⟨a1, a2, a3, a4⟩, hrun⟩ := hch
    obtain ⟨j, hj, hns, hx⟩ := hleft L[i] (by simp)
    refine ⟨j, hj, hns, w1, a1, a2, a3, a4, ?_⟩
    have hr1 : w1.heap[r]? = some (.mapIter (some bm) ks.length seen.toArray ks.length) := by rw [a1]; exact hr
    have hL : L[i]? = some (ent (ks[j]'hj, j)) := by rw [Array.getElem?_eq_getElem hi, hx]
    simp only [hrun, Array.getElem?_map, hL, Option.map_some, Sem.run_bind, run_setObj_it _ hr1, Result.andThen_ok, ent]
    simp
theorem run_ent {r bm : Nat} {ks : List (List Int)} {seen : List Nat} {j : Nat} (hj : j < ks.length) (hr : w.heap[r]? = some (.mapIter (some bm) ks.length (seen ++ [j]).toArray ks.length)) (hb : w.heap[bm]? = some (.map (ents ks) ks.length)) :
    (Instr.entry (.pointer (some ⟨r, 0, none⟩))).run P w = .ok (.tuple #[keyV (ks[j]'hj), .bool true]) w := by
  have hn : ((ents ks).toList.map (·.born)).Nodup := by rw [ents_born]; exact List.nodup_range
  have hf : (ents ks).find? (·.born == (ent (ks[j]'hj, j)).born) = some (ent (ks[j]'hj, j)) := by rw [← Array.find?_toList]; exact find_born _ _ hn (ents_at hj)
  have hf' : (ents ks).find? (fun x => x.born == j) = some (ent (ks[j]'hj, j)) := hf
  have hback : (seen ++ [j]).toArray.back? = some j := by simp
  simp only [Instr.entry, Sem.run_bind, run_getObj_it hr, Result.andThen_ok, hback, MapKept.run_getObj_map hb, bne_self_eq_false, Bool.false_eq_true, if_false, hf']
  simp [ent]
end
end Go.Proofs.Ytafphbegpjjolaa.AM

/- Code with maps of racks: what must be shown of the abstract machine's states, and that this is enough. -/
namespace Go.Proofs.Ytafphbegpjjolaa.AM
open Go
set_option linter.unusedSimpArgs false
set_option linter.unusedVariables false
inductive XOp where
  | am (q : AOper)
  | mk (d : Nat)
  | ins (m k : Opd)
  | rng (d : Nat) (m : Opd)
  | nxt (d : Nat) (it : Opd)
  | ent (d : Nat) (it : Opd)
  | len (d : Nat) (m : Opd)
inductive XC where
  | am (c : ACode)
  | ops (l : List XOp) (live : List Nat)
  | seq (a b : XC)
  | cond (c : Opd) (a b : XC)
  | block (id : Nat) (a : XC)
  | loop (a : XC)
def runX (F : Fns) : List XOp → XS → (XS → Prop) → Prop
  | [], s, Q => Q s
  | .am q :: r, s, Q => ∃ e' h', stepA F q s.e s.h = some (e', h') ∧ runX F r ⟨e', h', s.M⟩ Q
  | .mk d :: r, s, Q => runX F r ⟨AM.put s.e (some d) (.c (.map s.h.length)), s.h ++ [.dead], (s.h.length, .map []) :: s.M⟩ Q
  | .ins m k :: r, s, Q => ∃ i ks x, m.ev s.e = .c (.map i) ∧ k.ev s.e = .agg (x.map (C.int .i64)) ∧ RackOK x ∧ mget s.M i = some (.map ks) ∧ runX F r ⟨s.e, s.h, (i, .map (insK x ks)) :: s.M⟩ Q
  | .rng d m :: r, s, Q => ∃ i ks, m.ev s.e = .c (.map i) ∧ mget s.M i = some (.map ks) ∧ runX F r ⟨AM.put s.e (some d) (.c (.ptr s.h.length 0)), s.h ++ [.dead], (s.h.length, .iter i ks.length []) :: s.M⟩ Q
  | .nxt d it :: r, s, Q => ∃ j i seen ks, it.ev s.e = .c (.ptr j 0) ∧ mget s.M j = some (.iter i ks.length seen) ∧ mget s.M i = some (.map ks) ∧
      (∀ k (hk : k < ks.length), k ∉ seen → runX F r ⟨AM.put s.e (some d) (.tup [.c (.bool true), .agg ((ks[k]'hk).map (C.int .i64)), .c (.bool true)]), s.h, (j, .iter i ks.length (seen ++ [k])) :: s.M⟩ Q) ∧
      ((∀ k, k < ks.length → k ∈ seen) → runX F r ⟨AM.put s.e (some d) (.tup [.c (.bool false)]), s.h, s.M⟩ Q)
  | .ent d it :: r, s, Q => ∃ j i seen ks k, ∃ hk : k < ks.length, it.ev s.e = .c (.ptr j 0) ∧ mget s.M j = some (.iter i ks.length (seen ++ [k])) ∧ mget s.M i = some (.map ks) ∧
      runX F r ⟨AM.put s.e (some d) (.tup [.agg ((ks[k]'hk).map (C.int .i64)), .c (.bool true)]), s.h, s.M⟩ Q
  | .len d m :: r, s, Q => ∃ i ks, m.ev s.e = .c (.map i) ∧ mget s.M i = some (.map ks) ∧ runX F r ⟨AM.put s.e (some d) (.c (.int .i64 ks.length)), s.h, s.M⟩ Q
/-- what is still named stays, under its new number -/
def MO.mp (g : Nat → Nat) : MO → MO
  | .map ks => .map ks
  | .iter i n seen => .iter (g i) n seen
def MO.ids : MO → List Nat
  | .map _ => []
  | .iter i _ _ => [i]
def Gc (live : List Nat) (s s' : XS) : Prop :=
  gcE 0 live s.e s.h = some (s'.e, s'.h) ∧ ∀ j o, mget s'.M j = some o → ∃ i o0, (gcL 0 (envIds (restrict s.e live)) s.h)[j]? = some i ∧ mget s.M i = some o0 ∧ o = o0.mp (pos (gcL 0 (envIds (restrict s.e live)) s.h)) ∧ ∀ k ∈ o0.ids, k ∈ gcL 0 (envIds (restrict s.e live)) s.h
def thenX (n : XS → Prop) (Q : Ex → XS → Prop) : Ex → XS → Prop
  | .norm, s => n s
  | x, s => Q x s
def blockX (id : Nat) (Q : Ex → XS → Prop) : Ex → XS → Prop
  | .exit i, s => if i = id then Q .norm s else Q (.exit i) s
  | x, s => Q x s
def exW (pr : Prog) (pm : Prim) : XC → XS → (Ex → XS → Prop) → Prop
  | .am c, s, Q => ∃ x e' h', exI pr pm s.h.length c s.e s.h = some (x, e', h') ∧ Q x ⟨e', h', s.M⟩
  | .ops l live, s, Q => runX (fnI pr pm) l s fun s' => Q .norm ⟨restrict s'.e live, s'.h, s'.M⟩
  | .seq a b, s, Q => exW pr pm a s (thenX (fun s' => exW pr pm b s' Q) Q)
  | .cond c a b, s, Q => ∃ t, c.ev s.e = .c (.bool t) ∧ if t = true then exW pr pm a s Q else exW pr pm b s Q
  | .block id a, s, Q => exW pr pm a s (blockX id Q)
  | .loop a, s, Q => ∃ (I : XS → Prop) (μ : XS → Nat), (∃ live s', Gc live s s' ∧ I s') ∧ ∀ s, I s → exW pr pm a s (thenX (fun s1 => ∃ live s2, Gc live s1 s2 ∧ I s2 ∧ μ s2 < μ s) Q)
/-! ### the tests -/
def okX1 (P : Program) (nt : Nat) (tm : TypeId) (ops : Array Oper) (o : Oper) : XOp → Bool
  | .am q => okOper P nt ops o q
  | .mk d => o.dst == some d && decide (d < nt) && o.guard.isNone && (match o.op with | .makeMap t none => t == tm | _ => false)
  | .ins m k => o.dst.isNone && o.guard.isNone && (match o.op with
    | .insert t x y (.const (.bool true)) => t == tm && okOpd x m && okOpd y k
    | .mapUpdate t x y (.const (.bool true)) => t == tm && okOpd x m && okOpd y k
    | _ => false)
  | .rng d m => o.dst == some d && decide (d < nt) && o.guard.isNone && (match o.op with | .range t x => t == tm && okOpd x m | _ => false)
  | .nxt d it => o.dst == some d && decide (d < nt) && o.guard.isNone && (match o.op with | .next x false => okOpd x it | _ => false)
  | .ent d it => o.dst == some d && decide (d < nt) && o.guard.isNone && (match o.op with | .entry x => okOpd x it | _ => false)
  | .len d m => o.dst == some d && decide (d < nt) && o.guard.isNone && (match o.op with | .call { callee := .builtin .len, args := xs, argTypes := ts } => (ts.toList == [tm]) && (match xs.toList with | [x] => okOpd x m | _ => false) | _ => false)
def okXs (P : Program) (nt : Nat) (tm : TypeId) (ops : Array Oper) : List Oper → List XOp → Bool
  | [], [] => true
  | o :: os, q :: qs => okX1 P nt tm ops o q && okXs P nt tm ops os qs
  | _, _ => false
def okXC (P : Program) (nt : Nat) (tm : TypeId) : Code → XC → Bool
  | c, .am ac => okCode P nt c ac
  | .region _ ops false, .ops l _ => okXs P nt tm ops ops.toList l
  | .seq a b, .seq a' b' => okXC P nt tm a a' && okXC P nt tm b b'
  | .cond c a b, .cond c' a' b' => okOpd c c' && okXC P nt tm a a' && okXC P nt tm b b'
  | .block id a, .block id' a' => (id == id') && okXC P nt tm a a'
  | .loop a, .loop a' => okXC P nt tm a a'
  | _, _ => false
section
variable {P : Program} {pr : Prog} {pm : Prim} {φ0 : Phi} {w0 : World} {nt : Nat} {tm : TypeId}
theorem opX_ok (hF : FnOK P (fnI pr pm)) (K : KeyF P tm) {ops : Array Oper} {o : Oper} {q : XOp} {r : List XOp} (hk : okX1 P nt tm ops o q = true) {φ : Phi} {s : XS} {a : Act} {w : World} (hs : SM φ0 w0 nt φ s a w) {Q : XS → Prop} (hr : runX (fnI pr pm) (q :: r) s Q)
    {N : Act → World → Prop} {E : Exit → Act → World → Prop} (hN : ∀ s' φ' a' w', runX (fnI pr pm) r s' Q → SM φ0 w0 nt φ' s' a' w' → N a' w') :
    if Region.wanted o (yielded ops a.tmps) then o.wp P a w N E ∨ (o.asks P a w ∧ LetsOut E) else N (a.put o.dst Go.undef) w := by
  have wantT : o.guard.isNone = true → Region.wanted o (yielded ops a.tmps) = true := fun h => by
    unfold Region.wanted
    rw [Option.isNone_iff_eq_none.1 h]
  cases q with
  | am q =>
    obtain ⟨e', h', h1, h2⟩ := hr
    exact step_ok hF hk hs.st h1 (Nat.le_refl _) fun φ' a' w' hs' hl => hN _ φ' a' w' h2 (hs.later hs' hl)
  | mk d =>
    simp only [okX1, Bool.and_eq_true, beq_iff_eq, decide_eq_true_eq] at hk
    obtain ⟨⟨⟨hd, hdn⟩, hg⟩, hop⟩ := hk
    rw [wantT hg, if_pos rfl]
    split at hop
    · rename_i t hopt
      refine .inl (Does.wp (R := fun rv w' => rv = .map (some w.heap.size) ∧ w' = w.alloc (objOf φ (.map []))) (.inl ⟨_, _, ?_, rfl, rfl⟩) ?_)
      · simp only [execOp, hopt, Option.map_none, Sem.run_bind, run_mkmap, Result.andThen_ok, Sem.run_pure]
        rfl
      · rintro rv w' ⟨rfl, rfl⟩
        rw [hd]
        obtain ⟨φ', hsm⟩ := hs.alloc (o := .map []) (v := .c (.map s.h.length)) (rv := .map (some w.heap.size)) hdn (fun r hr => by simp at hr) fun φ' hp => ⟨_, hp, rfl, rfl⟩
        exact hN _ φ' _ _ hr hsm
    · cases hop
  | ins m k =>
    obtain ⟨i, ks, x, hm, hx, hok, hmg, hr⟩ := hr
    simp only [okX1, Bool.and_eq_true] at hk
    obtain ⟨⟨hd, hg⟩, hop⟩ := hk
    rw [wantT hg, if_pos rfl]
    obtain ⟨b, hb, hob, _, _, hks⟩ := hs.mo i _ hmg
    have main : ∀ xo yo : Operand, okOpd xo m = true → okOpd yo k = true → (Instr.mapUpdate tm (a.eval xo) (a.eval yo) (.bool true)).run P w = .ok () { w with heap := w.heap.setIfInBounds b (objOf φ (.map (insK x ks))) } := by
      intro xo yo h1 h2
      have v1 := opd_ok hs.st.env h1
      rw [hm] at v1
      obtain ⟨p, hp, hp0, hv⟩ := v1
      rw [hb] at hp
      injection hp with hp
      subst hp
      have v2 := opd_ok hs.st.env h2
      rw [hx] at v2
      rw [VR_key_eq v2, hv]
      exact run_ins K hob hks hok
    have hdone : (execOp a.eval o).run P w = .ok .skip { w with heap := w.heap.setIfInBounds b (objOf φ (.map (insK x ks))) } := by
      split at hop
      · rename_i t xo yo hopt
        simp only [Bool.and_eq_true, beq_iff_eq] at hop
        obtain ⟨⟨rfl, h1⟩, h2⟩ := hop
        have := main xo yo h1 h2
        simp only [execOp, hopt, Sem.run_bind, Act.eval] at this ⊢
        rw [this]
        rfl
      · rename_i t xo yo hopt
        simp only [Bool.and_eq_true, beq_iff_eq] at hop
        obtain ⟨⟨rfl, h1⟩, h2⟩ := hop
        have := main xo yo h1 h2
        simp only [execOp, hopt, Sem.run_bind, Act.eval] at this ⊢
        rw [this]
        rfl
      · cases hop
    refine .inl (Does.wp (R := fun rv w' => rv = Go.undef ∧ w' = { w with heap := w.heap.setIfInBounds b (objOf φ (.map (insK x ks))) }) (.inr (.inl ⟨_, hdone, rfl, rfl⟩)) ?_)
    rintro rv w' ⟨rfl, rfl⟩
    rw [Option.isNone_iff_eq_none.1 hd]
    refine hN _ φ _ _ hr (hs.set hmg hb ?_ rfl rfl rfl rfl)
    intro y hy
    unfold insK at hy
    split at hy
    · exact hks y hy
    · rcases List.mem_append.1 hy with hy | hy
      · exact hks y hy
      · simp at hy; subst hy; exact hok
  | rng d m =>
    obtain ⟨i, ks, hm, hmg, hr⟩ := hr
    simp only [okX1, Bool.and_eq_true, beq_iff_eq, decide_eq_true_eq] at hk
    obtain ⟨⟨⟨hd, hdn⟩, hg⟩, hop⟩ := hk
    rw [wantT hg, if_pos rfl]
    obtain ⟨b, hb, hob, _, _, hks⟩ := hs.mo i _ hmg
    split at hop
    · rename_i t xo hopt
      simp only [Bool.and_eq_true, beq_iff_eq] at hop
      obtain ⟨rfl, h1⟩ := hop
      have v1 := opd_ok hs.st.env h1
      rw [hm] at v1
      obtain ⟨p, hp, hp0, hv⟩ := v1
      rw [hb] at hp
      injection hp with hp
      subst hp
      have hobj : objOf φ (.iter i ks.length []) = .mapIter (some b) ks.length #[] ks.length := by simp [objOf, hb]
      refine .inl (Does.wp (R := fun rv w' => rv = .pointer (some ⟨w.heap.size, 0, none⟩) ∧ w' = w.alloc (objOf φ (.iter i ks.length []))) (.inl ⟨_, _, ?_, rfl, rfl⟩) ?_)
      · simp only [execOp, hopt, Sem.run_bind, hv, run_rng K hob, Result.andThen_ok, Sem.run_pure, hobj]
      · rintro rv w' ⟨rfl, rfl⟩
        rw [hd]
        obtain ⟨φ', hsm⟩ := hs.alloc (o := .iter i ks.length []) (v := .c (.ptr s.h.length 0)) (rv := .pointer (some ⟨w.heap.size, 0, none⟩)) hdn ⟨_, hb⟩ fun φ' hp => ⟨_, hp, rfl⟩
        exact hN _ φ' _ _ hr hsm
    · cases hop
  | nxt d it =>
    obtain ⟨j, i, seen, ks, hit, hmj, hmi, hr1, hr2⟩ := hr
    simp only [okX1, Bool.and_eq_true, beq_iff_eq, decide_eq_true_eq] at hk
    obtain ⟨⟨⟨hd, hdn⟩, hg⟩, hop⟩ := hk
    rw [wantT hg, if_pos rfl]
    obtain ⟨b, hb, hob, _, _, hks⟩ := hs.mo i _ hmi
    obtain ⟨c, hc, hoc, _, _, hki⟩ := hs.mo j _ hmj
    have hoc' : w.heap[c]? = some (.mapIter (some b) ks.length seen.toArray ks.length) := by rw [hoc]; simp [objOf, hb]
    split at hop
    · rename_i xo hopt
      have v1 := opd_ok hs.st.env hop
      rw [hit] at v1
      obtain ⟨p, hp, hv⟩ := v1
      rw [hc] at hp
      injection hp with hp
      subst hp
      have hv' : a.eval xo = .pointer (some ⟨c, 0, none⟩) := hv
      rcases run_nxt hoc' hob o.type with ⟨hall, hrun⟩ | ⟨k, hk, hns, w1, a1, a2, a3, a4, hrun⟩
      · refine .inl (Does.wp (R := fun rv w' => rv = .tuple #[.bool false] ∧ w' = w) (.inl ⟨_, _, ?_, rfl, rfl⟩) ?_)
        · simp only [execOp, hopt, Sem.run_bind, hv']
          rw [hrun]
          rfl
        · rintro rv w' ⟨rfl, rfl⟩
          rw [hd]
          exact hN _ φ _ _ (hr2 hall) (hs.put hdn ⟨[.bool false], rfl, rfl, trivial⟩)
      · refine .inl (Does.wp (R := fun rv w' => rv = .tuple #[.bool true, keyV (ks[k]'hk), .bool true] ∧ w' = { w1 with heap := w1.heap.setIfInBounds c (.mapIter (some b) ks.length (seen ++ [k]).toArray ks.length) }) (.inl ⟨_, _, ?_, rfl, rfl⟩) ?_)
        · simp only [execOp, hopt, Sem.run_bind, hv']
          rw [hrun]
          rfl
        · rintro rv w' ⟨rfl, rfl⟩
          rw [hd]
          have hobj : objOf φ (.iter i ks.length (seen ++ [k])) = .mapIter (some b) ks.length (seen ++ [k]).toArray ks.length := by simp [objOf, hb]
          have h1 := hs.set (o := .iter i ks.length (seen ++ [k])) (w' := { w1 with heap := w1.heap.setIfInBounds c (.mapIter (some b) ks.length (seen ++ [k]).toArray ks.length) }) hmj hc hki (by rw [hobj, ← a1]) a2 a3 a4
          exact hN _ φ _ _ (hr1 k hk hns) (h1.put hdn ⟨[.bool true, keyV (ks[k]'hk), .bool true], rfl, rfl, VR_key φ _, rfl, trivial⟩)
    · cases hop
  | ent d it =>
    obtain ⟨j, i, seen, ks, k, hk0, hit, hmj, hmi, hr⟩ := hr
    simp only [okX1, Bool.and_eq_true, beq_iff_eq, decide_eq_true_eq] at hk
    obtain ⟨⟨⟨hd, hdn⟩, hg⟩, hop⟩ := hk
    rw [wantT hg, if_pos rfl]
    obtain ⟨b, hb, hob, _, _, hks⟩ := hs.mo i _ hmi
    obtain ⟨c, hc, hoc, _, _, hki⟩ := hs.mo j _ hmj
    have hoc' : w.heap[c]? = some (.mapIter (some b) ks.length (seen ++ [k]).toArray ks.length) := by rw [hoc]; simp [objOf, hb]
    split at hop
    · rename_i xo hopt
      have v1 := opd_ok hs.st.env hop
      rw [hit] at v1
      obtain ⟨p, hp, hv⟩ := v1
      rw [hc] at hp
      injection hp with hp
      subst hp
      have hv' : a.eval xo = .pointer (some ⟨c, 0, none⟩) := hv
      refine .inl (Does.wp (R := fun rv w' => rv = .tuple #[keyV (ks[k]'hk0), .bool true] ∧ w' = w) (.inl ⟨_, _, ?_, rfl, rfl⟩) ?_)
      · simp only [execOp, hopt, Sem.run_bind, hv', run_ent hk0 hoc' hob, Result.andThen_ok, Sem.run_pure]
      · rintro rv w' ⟨rfl, rfl⟩
        rw [hd]
        exact hN _ φ _ _ hr (hs.put hdn ⟨[keyV (ks[k]'hk0), .bool true], rfl, VR_key φ _, rfl, trivial⟩)
    · cases hop
  | len d m =>
    obtain ⟨i, ks, hm, hmg, hr⟩ := hr
    simp only [okX1, Bool.and_eq_true, beq_iff_eq, decide_eq_true_eq] at hk
    obtain ⟨⟨⟨hd, hdn⟩, hg⟩, hop⟩ := hk
    rw [wantT hg, if_pos rfl]
    obtain ⟨b, hb, hob, _, _, hks⟩ := hs.mo i _ hmg
    split at hop
    · rename_i xs ts hopt
      simp only [Bool.and_eq_true, beq_iff_eq] at hop
      obtain ⟨hts, hop⟩ := hop
      have hts' : ts = #[tm] := by apply Array.ext'; simpa using hts
      split at hop
      · rename_i xo hxs
        have hxs' : xs = #[xo] := by apply Array.ext'; simpa using hxs
        have v1 := opd_ok hs.st.env hop
        rw [hm] at v1
        obtain ⟨p, hp, hp0, hv⟩ := v1
        rw [hb] at hp
        injection hp with hp
        subst hp
        refine .inl (Does.wp (R := fun rv w' => rv = .int .i64 ks.length ∧ w' = w) (.inl ⟨_, _, ?_, rfl, rfl⟩) ?_)
        · subst hts' hxs'
          have := run_len K hob o.type
          simp [execOp, hopt, resolve, Deferred.ofValue, invoke, builtin, hv, this]
        · rintro rv w' ⟨rfl, rfl⟩
          rw [hd]
          exact hN _ φ _ _ hr (hs.put (v := .c (.int .i64 ks.length)) hdn rfl)
      · cases hop
    · cases hop
end
end Go.Proofs.Ytafphbegpjjolaa.AM

/- Code with maps of racks: what has been shown of the abstract machine's states holds of the model's run; a function of such code. -/
namespace Go.Proofs.Ytafphbegpjjolaa.AM
open Go
set_option linter.unusedSimpArgs false
set_option linter.unusedVariables false
section
variable {P : Program} {pr : Prog} {pm : Prim} {φ0 : Phi} {w0 : World} {nt : Nat} {tm : TypeId}
theorem opsX_ok (hF : FnOK P (fnI pr pm)) (K : KeyF P tm) {ops : Array Oper} {R : Exit → Act → World → Prop} : ∀ (qs : List XOp) (os : List Oper) (k : Nat), (∀ j, os[j]? = ops[k + j]?) → okXs P nt tm ops os qs = true → ∀ {φ : Phi} {s : XS} {a : Act} {w : World} {Q : XS → Prop}, SM φ0 w0 nt φ s a w → runX (fnI pr pm) qs s Q →
    (∀ s' φ' a' w', Q s' → SM φ0 w0 nt φ' s' a' w' → R .normal a' w') → wpOps P ops R (List.range' k os.length) a w
  | [], [], k, _, _, φ, s, a, w, Q, hs, hr, hQ => hQ s φ a w hr hs
  | q :: qs, o :: os, k, hos, hk, φ, s, a, w, Q, hs, hr, hQ => by
    simp only [okXs, Bool.and_eq_true] at hk
    have ho : ops[k]? = some o := by have := hos 0; simpa using this.symm
    simp only [List.length_cons, List.range'_succ, wpOps, ho]
    refine opX_ok hF K hk.1 hs hr fun s1 φ1 a1 w1 hr1 hs1 => ?_
    exact opsX_ok hF K qs os (k + 1) (fun j => by have := hos (j + 1); simpa [Nat.add_assoc, Nat.add_comm 1 j] using this) hk.2 hs1 hr1 hQ
  | [], _ :: _, _, _, h, _, _, _, _, _, _, _, _ => by simp [okXs] at h
  | _ :: _, [], _, _, h, _, _, _, _, _, _, _, _ => by simp [okXs] at h
theorem Gc.ok {live : List Nat} {s s' : XS} (hg : Gc live s s') {φ : Phi} {a : Act} {w : World} (hs : SM φ0 w0 nt φ s a w) : ∃ φ', SM φ0 w0 nt φ' s' a w := by
  obtain ⟨hg, hM⟩ := hg
  unfold gcE at hg
  simp only at hg
  split at hg
  · rename_i hc
    injection hg with hg
    injection hg with h1 h2
    obtain ⟨L, hL⟩ : ∃ L, L = gcL 0 (envIds (restrict s.e live)) s.h := ⟨_, rfl⟩
    rw [← hL] at hc h1 h2 hM
    obtain ⟨hn, hm, hLu⟩ := gcL_facts 0 (envIds (restrict s.e live)) s.h
    rw [← hL] at hn hm hLu
    have hl := Later.cut hs.st.heap hn hm hLu hc.1
    have hst : StOK (φ.sub L) s'.e s'.h nt a w := by
      rw [← h1, ← h2]
      refine ⟨fun t => ?_, hl.mv.ok, hs.st.size, hs.st.defers⟩
      rw [get_map]
      exact (hs.st.env.restrict live t).mp (keeps_sub (inL_sub hc.2 (get_ids t _)))
    have hph : ∀ j i, L[j]? = some i → φ.sub L j = φ i := fun j i hj => by unfold Phi.sub; rw [hj]; rfl
    refine ⟨φ.sub L, hst, by rw [← h2]; exact hs.mv.trans hl.mv, fun j o hj => ?_, fun i j oi oj p q hi hj hij hp hq => ?_⟩
    · obtain ⟨i, o0, hi, hm0, rfl, hids⟩ := hM j o hj
      obtain ⟨b, hb, hob, hnl, h0, hok⟩ := hs.mo i o0 hm0
      refine ⟨b, (hph j i hi).trans hb, ?_, fun hls => hnl ?_, h0, ?_⟩
      · rw [hob]
        congr 1
        cases o0 with
        | map ks => rfl
        | iter i2 n seen =>
          have hin : i2 ∈ L := hids i2 (by simp [MO.ids])
          simp only [objOf, MO.mp, hph _ _ (pos_get hin)]
      · rw [← h2] at hls
        obtain ⟨i, b', p, _, h3, h4, h5, h6⟩ := LS.sub hc.1 hls
        exact ⟨i, b', p, h3, h4, h5, h6⟩
      · cases o0 with
        | map ks => exact hok
        | iter i2 n seen =>
          have hin : i2 ∈ L := hids i2 (by simp [MO.ids])
          obtain ⟨p, hp⟩ := hok
          exact ⟨p, (hph _ _ (pos_get hin)).trans hp⟩
    · obtain ⟨i', oi', hi', hmi, _, _⟩ := hM i oi hi
      obtain ⟨j', oj', hj', hmj, _, _⟩ := hM j oj hj
      rw [hph _ _ hi'] at hp
      rw [hph _ _ hj'] at hq
      exact hs.ap i' j' oi' oj' p q hmi hmj (fun e => hij (by subst e; exact nodup_inj hn hi' hj')) hp hq
  · cases hg
theorem exI_code (hm : P.follows .mixedOrders = true) (hpr : ProgOK P pr) (hpm : PrimOK P pm) {m : Nat} {ac : ACode} {c : Code} (hk : okCode P nt c ac = true) {φ : Phi} {e e' : Env} {h h' : Heap} {a : Act} {w : World} {x : Ex} (hs : StOK φ e h nt a w) (hml : m ≤ h.length) (hr : exI pr pm m ac e h = some (x, e', h')) {Q : Exit → Act → World → Prop}
    (hQ : ∀ φ' a' w', StOK φ' e' h' nt a' w' → Later m φ h w φ' h' w' → Q x.up a' w') : c.wp P Q a w := by
  obtain ⟨n, hn⟩ := (exI_iff pr pm).1 hr
  cases n with
  | zero => simp [exN] at hn
  | succ n => exact exS_ok hm (N := n + 1) (fun i _ => fn_ok hm hpr hpm i) ac c hk n (Nat.lt_succ_self n) hs hml hn hQ
theorem exW_ok (hm : P.follows .mixedOrders = true) (hpr : ProgOK P pr) (hpm : PrimOK P pm) (K : KeyF P tm) : ∀ (xc : XC) (c : Code), okXC P nt tm c xc = true → ∀ {φ : Phi} {s : XS} {a : Act} {w : World} {Q : Ex → XS → Prop} {R : Exit → Act → World → Prop}, SM φ0 w0 nt φ s a w → exW pr pm xc s Q →
    (∀ x s' φ' a' w', Q x s' → SM φ0 w0 nt φ' s' a' w' → R x.up a' w') → c.wp P R a w := by
  intro xc
  induction xc with
  | am ac =>
    intro c hk φ s a w Q R hs hr hQ
    have hk : okCode P nt c ac = true := by cases c <;> exact hk
    obtain ⟨x, e', h', hx, hq⟩ := hr
    exact exI_code hm hpr hpm hk hs.st (Nat.le_refl _) hx fun φ' a' w' hs' hl => hQ x _ φ' a' w' hq (hs.later hs' hl)
  | ops l live =>
    intro c hk φ s a w Q R hs hr hQ
    cases c with
    | region id ops draw =>
      cases draw with
      | false =>
        have hk : okXs P nt tm ops ops.toList l = true := hk
        refine wp_region ?_
        have hrg : List.range ops.size = List.range' 0 ops.toList.length := by simp [List.range_eq_range']
        rw [hrg]
        refine opsX_ok (fnI_ok hm hpr hpm) K l ops.toList 0 (fun j => by simp) hk hs hr fun s' φ' a' w' hq hs' => ?_
        exact hQ .norm _ φ' a' w' hq ⟨⟨hs'.st.env.restrict live, hs'.st.heap, hs'.st.size, hs'.st.defers⟩, hs'.mv, hs'.mo, hs'.ap⟩
      | true => simp [okXC] at hk
    | _ => simp [okXC] at hk
  | seq p q ihp ihq =>
    intro c hk φ s a w Q R hs hr hQ
    cases c with
    | seq c1 c2 =>
      simp only [okXC, Bool.and_eq_true] at hk
      refine wp_seq (ihp c1 hk.1 hs hr fun x s1 φ1 a1 w1 hq hs1 => ?_)
      cases x with
      | norm => exact ihq c2 hk.2 hs1 hq hQ
      | exit id => exact hQ _ s1 φ1 a1 w1 hq hs1
      | ret => exact hQ _ s1 φ1 a1 w1 hq hs1
    | _ => simp [okXC] at hk
  | cond co p q ihp ihq =>
    intro c hk φ s a w Q R hs hr hQ
    cases c with
    | cond c0 c1 c2 =>
      simp only [okXC, Bool.and_eq_true] at hk
      have hc := opd_ok hs.st.env hk.1.1
      obtain ⟨t, ht, hr⟩ := hr
      rw [ht] at hc
      refine wp_cond (t := t) hc ?_
      cases t with
      | true => exact ihp c1 hk.1.2 hs hr hQ
      | false => exact ihq c2 hk.2 hs hr hQ
    | _ => simp [okXC] at hk
  | block id p ih =>
    intro c hk φ s a w Q R hs hr hQ
    cases c with
    | block id' c1 =>
      simp only [okXC, Bool.and_eq_true, beq_iff_eq] at hk
      obtain ⟨rfl, hk⟩ := hk
      refine wp_block (ih c1 hk hs hr fun x s1 φ1 a1 w1 hq hs1 => ?_)
      cases x with
      | norm => exact hQ .norm s1 φ1 a1 w1 hq hs1
      | exit i =>
        simp only [blockX] at hq
        simp only [Ex.up, Exit.inBlock]
        split at hq
        · rename_i hi
          rw [if_pos hi]
          exact hQ .norm s1 φ1 a1 w1 hq hs1
        · rename_i hi
          rw [if_neg hi]
          exact hQ (.exit i) s1 φ1 a1 w1 hq hs1
      | ret => exact hQ .ret s1 φ1 a1 w1 hq hs1
    | _ => simp [okXC] at hk
  | loop p ih =>
    intro c hk φ s a w Q R hs hr hQ
    cases c with
    | loop c1 =>
      have hk : okXC P nt tm c1 p = true := hk
      obtain ⟨I, μ, ⟨live, s', hg, hI⟩, hround⟩ := hr
      obtain ⟨φ', hs'⟩ := hg.ok hs
      let J : Nat → Act → World → Prop := fun k a1 w1 => ∃ s1 φ1, I s1 ∧ SM φ0 w0 nt φ1 s1 a1 w1 ∧ μ s1 = k
      have hJ0 : ∃ k, J k a w := ⟨_, s', φ', hI, hs', rfl⟩
      classical
      let ν : Act → World → Nat := fun a1 w1 => if hx : ∃ k, J k a1 w1 then Classical.choose (least hx) else 0
      refine wp_loop (fun a1 w1 => ∃ k, J k a1 w1) ν hJ0 fun a1 w1 hJ => ?_
      have hnu : ν a1 w1 = Classical.choose (least hJ) := by simp only [ν]; rw [dif_pos hJ]
      obtain ⟨s1, φ1, hI1, hs1, hmu⟩ := (Classical.choose_spec (least hJ)).1
      rw [← hnu] at hmu
      refine ih c1 hk hs1 (hround s1 hI1) fun x s2 φ2 a2 w2 hq hs2 => ?_
      cases x with
      | norm =>
        obtain ⟨live2, s3, hg3, hI3, hlt⟩ := hq
        obtain ⟨φ3, hs3⟩ := hg3.ok hs2
        have hJ3 : J (μ s3) a2 w2 := ⟨s3, φ3, hI3, hs3, rfl⟩
        refine ⟨⟨_, hJ3⟩, ?_⟩
        have hx3 : ∃ k, J k a2 w2 := ⟨_, hJ3⟩
        have : ν a2 w2 = Classical.choose (least hx3) := by simp only [ν]; rw [dif_pos hx3]
        rw [this]
        have := (Classical.choose_spec (least hx3)).2 _ hJ3
        omega
      | exit i => exact hQ (.exit i) s2 φ2 a2 w2 hq hs2
      | ret => exact hQ .ret s2 φ2 a2 w2 hq hs2
    | _ => simp [okXC] at hk
/-- a function with maps and its code -/
def okXF (P : Program) (tm : TypeId) (f : Nat) (np : Nat) (res : List RV) (xc : XC) : Bool :=
  match P.funcs[f]? with
  | some g => (match g.body with
    | some c => !(g.name == "runtime.NumGoroutine") && okXC P g.ntmps tm c xc && okRes P g.results.toList res && decide (np ≤ g.ntmps)
    | none => false)
  | none => false
theorem fnX_ok (hm : P.follows .mixedOrders = true) (hpr : ProgOK P pr) (hpm : PrimOK P pm) (K : KeyF P tm) {f np : Nat} {rs : List RV} {xc : XC} (hok : okXF P tm f np rs xc = true) {args : List V} (hlen : args.length = np) {res : V} {Q : Ex → XS → Prop} (hr : exW pr pm xc ⟨enter args 0, [], []⟩ Q)
    (hQ : ∀ x s, Q x s → (∀ i, x ≠ .exit i) ∧ leave 0 rs s.e s.h = some (res, [])) {φ : Phi} {w : World} {vs : List Value} (hh : HeapOK φ (lkp []) w) (ha : All2 (VR φ) args vs) :
    Invokes P f vs.toArray w fun rv w' => ∃ φ', VR φ' res rv ∧ Mv φ (lkp []) w φ' (lkp []) w' := by
  unfold okXF at hok
  split at hok
  · rename_i g hg
    split at hok
    · rename_i c hc
      simp only [Bool.and_eq_true, decide_eq_true_eq] at hok
      obtain ⟨⟨⟨hname, hcode⟩, hres⟩, hnp⟩ := hok
      refine .inr ⟨Go.MuLone.run_callFunc_enter hg (by simpa using hname) hc _ _, calls_of_wp hg hc ?_⟩
      have hvl := ha.length
      have hst : StOK φ (enter args 0) [] g.ntmps { tmps := vs.toArray ++ Array.replicate (g.ntmps - vs.toArray.size) undef, defers := [] } w := by
        refine ⟨fun t => ?_, hh, by simp; omega, rfl⟩
        rw [get_enter]
        simp only [Nat.zero_le, if_true, Nat.sub_zero]
        by_cases ht : t < args.length
        · obtain ⟨u, hu, hvr⟩ := ha.get (List.getElem?_eq_getElem ht)
          rw [List.getD_eq_getElem?_getD, List.getElem?_eq_getElem ht]
          have hult := (List.getElem?_eq_some_iff.1 hu).1
          have : (vs.toArray ++ Array.replicate (g.ntmps - vs.toArray.size) undef).getD t undef = u := by
            rw [Array.getD_eq_getD_getElem?, Array.getElem?_append_left (by simpa using hult)]
            simp [hu]
          show VR φ _ ((vs.toArray ++ Array.replicate (g.ntmps - vs.toArray.size) undef).getD t undef)
          rw [this]
          exact hvr
        · rw [List.getD_eq_getElem?_getD, List.getElem?_eq_none (by omega)]
          trivial
      have hsm : SM φ w g.ntmps φ ⟨enter args 0, [], []⟩ { tmps := vs.toArray ++ Array.replicate (g.ntmps - vs.toArray.size) undef, defers := [] } w :=
        ⟨hst, Mv.refl hh, fun i o hi => by simp [mget] at hi, fun i j oi oj p q hi => by simp [mget] at hi⟩
      have hfin : ∀ s' φ' a' w', SM φ w g.ntmps φ' s' a' w' → leave 0 rs s'.e s'.h = some (res, []) → a'.defers = [] ∧ ∃ v, (results g a'.tmps).run P w' = .ok v w' ∧ ∃ rv, Ending.returned v = .returned rv ∧ ∃ φ', VR φ' res rv ∧ Mv φ (lkp []) w φ' (lkp []) w' := by
        intro s' φ' a' w' hs' hlv
        unfold leave at hlv
        obtain ⟨xs, hxs, hlv⟩ := Option.bind_eq_some_iff.1 hlv
        simp only at hlv
        split at hlv
        · rename_i hcl
          injection hlv with hlv
          injection hlv with hl1 hl2
          obtain ⟨v, hv, hvr⟩ := results_ok (P := P) hs'.st hres hxs
          obtain ⟨hn, hm', hL⟩ := gcL_facts 0 (oneV xs).ids s'.h
          have hcut := Later.cut hs'.st.heap hn hm' hL hcl.1
          refine ⟨hs'.st.defers, v, hv, v, rfl, φ'.sub (gcL 0 (oneV xs).ids s'.h), ?_, ?_⟩
          · rw [← hl1]
            exact hvr.mp (keeps_sub hcl.2)
          · have := hs'.mv.trans hcut.mv
            rw [hl2] at this
            exact this
        · cases hlv
      refine exW_ok hm hpr hpm K xc c hcode hsm hr fun x s' φ' a' w' hq hs' => ?_
      obtain ⟨hx, hlv⟩ := hQ x s' hq
      cases x with
      | norm => exact hfin s' φ' a' w' hs' hlv
      | ret => exact hfin s' φ' a' w' hs' hlv
      | exit i => exact absurd rfl (hx i)
    · cases hok
  · cases hok
end
/-! ### more functions told by what they answer -/
theorem prim_mono {P : Prog} {Q Q' : Prim} (hq : ∀ f q, Q f = some q → Q' f = some q) (hp : ∀ f, Q f = none → Q' f ≠ none → P f = none) : ∀ n, (∀ m, RLe (exN P Q n m) (exN P Q' n m)) ∧ FLe (fnN P Q n) (fnN P Q' n) := by
  have step : ∀ n, (∀ m, RLe (exN P Q n m) (exN P Q' n m)) → FLe (fnN P Q n) (fnN P Q' n) := by
    intro n h f a hp' r hr
    unfold fnN fnOf at hr ⊢
    split at hr
    · rename_i q hf
      rw [hq f q hf]
      exact hr
    · rename_i hf
      split at hr
      · cases hr
      · rename_i fn hfn
        have hf' : Q' f = none := by
          cases hx : Q' f with
          | none => rfl
          | some q => rw [hp f hf (by rw [hx]; simp)] at hfn; cases hfn
        rw [hf']
        split at hr
        · rename_i hl
          simp only [hfn, if_pos hl]
          obtain ⟨x, hx, hr⟩ := Option.bind_eq_some_iff.1 hr
          exact Option.bind_eq_some_iff.2 ⟨x, h _ _ _ _ _ hx, hr⟩
        · cases hr
  intro n
  induction n with
  | zero => exact ⟨fun m c e h r hr => by simp [exN] at hr, step 0 fun m c e h r hr => by simp [exN] at hr⟩
  | succ n ih =>
    have h1 : ∀ m, RLe (exN P Q (n + 1) m) (exN P Q' (n + 1) m) := fun m c e h r hr => by
      simp only [exN] at hr ⊢
      exact exS_mono ih.2 (ih.1 m) c e h r hr
    exact ⟨h1, step (n + 1) h1⟩
theorem fnI_prim {P : Prog} {Q Q' : Prim} (hq : ∀ f q, Q f = some q → Q' f = some q) (hp : ∀ f, Q f = none → Q' f ≠ none → P f = none) : FLe (fnI P Q) (fnI P Q') := by
  intro f a h r hr
  obtain ⟨n, hn⟩ := (fnI_iff P Q).1 hr
  exact (fnI_iff P Q').2 ⟨n, (prim_mono hq hp n).2 f a h r hn⟩
end Go.Proofs.Ytafphbegpjjolaa.AM
