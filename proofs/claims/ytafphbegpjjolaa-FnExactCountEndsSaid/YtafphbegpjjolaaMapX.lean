import Derived.Test.YtafphbegpjjolaaEndsP
import Derived.DeepKeys5
import Derived.Laws.IdiomRangeMap
/- Code with maps of racks: the abstract machine's state with the maps and iterators beside it; what each operation on maps does. -/
namespace Go.Proofs.Ytafphbegpjjolaa.AM
open Go
set_option linter.unusedSimpArgs false
set_option linter.unusedVariables false
/-- a map from racks to true, or an iterator over one: its map, how many entries it had, the places that have been seen -/
inductive MO where
  | map (ks : List (List Int))
  | iter (i n : Nat) (seen : List Nat)
abbrev Ms := List (Nat × MO)
def mget : Ms → Nat → Option MO
  | [], _ => none
  | (j, o) :: r, i => if j = i then some o else mget r i
structure XS where
  e : Env
  h : Heap
  M : Ms
def keyV (r : List Int) : Value := .agg (r.map (Value.int .i64)).toArray
def ent (p : List Int × Nat) : MapEntry := { key := keyV p.1, val := .bool true, born := p.2 }
def ents (ks : List (List Int)) : Array MapEntry := (ks.zipIdx.map ent).toArray
def objOf (φ : Phi) : MO → Obj
  | .map ks => .map (ents ks) ks.length
  | .iter i n seen => .mapIter ((φ i).map (·.b)) n seen.toArray n
def MO.okAt (φ : Phi) : MO → Prop
  | .map ks => ∀ r ∈ ks, RackOK r
  | .iter i _ _ => ∃ p, φ i = some p
theorem MO.okAt.mono {φ φ' : Phi} {o : MO} (h : o.okAt φ) (hl : Le φ φ') : o.okAt φ' := by
  cases o with
  | map ks => exact h
  | iter i n seen => obtain ⟨p, hp⟩ := h; exact ⟨p, hl i p hp⟩
theorem objOf_mono {φ φ' : Phi} {o : MO} (h : o.okAt φ) (hl : Le φ φ') : objOf φ' o = objOf φ o := by
  cases o with
  | map ks => rfl
  | iter i n seen => obtain ⟨p, hp⟩ := h; simp only [objOf, hp, hl i p hp]
theorem vals_inj : ∀ {x y : List Int}, x.map (Value.int .i64) = y.map (Value.int .i64) → x = y
  | [], [], _ => rfl
  | a :: x, b :: y, h => by
    simp only [List.map_cons, List.cons.injEq] at h
    obtain ⟨h1, h2⟩ := h
    injection h1 with _ h1
    rw [h1, vals_inj h2]
  | [], _ :: _, h => by simp at h
  | _ :: _, [], h => by simp at h
theorem keyV_inj {x y : List Int} (h : keyV x = keyV y) : x = y := by
  unfold keyV at h
  injection h with h
  exact vals_inj (by simpa using h)
theorem All2_ints (φ : Phi) (r : List Int) : All2 (VRc φ) (r.map (C.int .i64)) (r.map (Value.int .i64)) := by
  induction r with
  | nil => trivial
  | cons a r ih => exact ⟨rfl, ih⟩
theorem VR_key (φ : Phi) (r : List Int) : VR φ (.agg (r.map (C.int .i64))) (keyV r) := ⟨_, rfl, All2_ints φ r⟩
theorem VR_key_eq {φ : Phi} {r : List Int} {v : Value} (h : VR φ (.agg (r.map (C.int .i64))) v) : v = keyV r := by
  obtain ⟨vs, rfl, ha⟩ := h
  unfold keyV
  congr 2
  induction r generalizing vs with
  | nil => cases vs with
    | nil => rfl
    | cons => exact ha.elim
  | cons a r ih => cases vs with
    | nil => exact ha.elim
    | cons v vs =>
      have h1 : v = .int .i64 a := ha.1
      rw [h1, ih vs ha.2]
      rfl
/-! ### entries -/
theorem ents_get (ks : List (List Int)) (k : Nat) : (ents ks)[k]? = (ks[k]?).map fun r => ent (r, k) := by
  unfold ents
  rw [List.getElem?_toArray, List.getElem?_map, List.getElem?_zipIdx]
  cases ks[k]? <;> simp
theorem ents_size (ks : List (List Int)) : (ents ks).size = ks.length := by simp [ents]
theorem ents_mem {ks : List (List Int)} {x : MapEntry} (h : x ∈ (ents ks).toList) : ∃ k, ∃ hk : k < ks.length, x = ent (ks[k], k) := by
  obtain ⟨k, hk⟩ := List.getElem?_of_mem h
  have h2 : (ents ks)[k]? = some x := by simpa using hk
  rw [ents_get] at h2
  obtain ⟨r, hr, hx⟩ := Option.map_eq_some_iff.1 h2
  obtain ⟨hk2, rfl⟩ := List.getElem?_eq_some_iff.1 hr
  exact ⟨k, hk2, hx.symm⟩
theorem ents_push (ks : List (List Int)) (r : List Int) : (ents ks).push (ent (r, ks.length)) = ents (ks ++ [r]) := by
  apply Array.ext'
  simp [ents, List.zipIdx_append]
theorem ents_at {ks : List (List Int)} {k : Nat} (hk : k < ks.length) : ent (ks[k], k) ∈ (ents ks).toList := by
  refine List.mem_of_getElem? (i := k) ?_
  have := ents_get ks k
  rw [List.getElem?_eq_getElem hk] at this
  simpa using this
theorem ents_born (ks : List (List Int)) : (ents ks).toList.map (·.born) = List.range ks.length := by
  unfold ents
  simp only [List.map_map]
  apply List.ext_getElem?
  intro k
  rw [List.getElem?_map, List.getElem?_zipIdx]
  by_cases hk : k < ks.length
  · simp [List.getElem?_eq_getElem hk, ent, hk]
  · rw [List.getElem?_eq_none (by omega), List.getElem?_eq_none (by simpa using hk)]
    rfl
/-! ### the state -/
structure SM (φ0 : Phi) (w0 : World) (nt : Nat) (φ : Phi) (s : XS) (a : Act) (w : World) : Prop where
  st : StOK φ s.e s.h nt a w
  mv : Mv φ0 (lkp []) w0 φ (lkp s.h) w
  mo : ∀ i o, mget s.M i = some o → ∃ b, φ i = some ⟨b, 0, 0⟩ ∧ w.heap[b]? = some (objOf φ o) ∧ ¬ LS φ (lkp s.h) b ∧ w0.heap.size ≤ b ∧ o.okAt φ
  ap : ∀ i j oi oj p q, mget s.M i = some oi → mget s.M j = some oj → i ≠ j → φ i = some p → φ j = some q → p.b ≠ q.b
section
variable {φ0 : Phi} {w0 : World} {nt : Nat} {φ : Phi} {s : XS} {a : Act} {w : World}
theorem HeapOK.domlt {h : Heap} (hh : HeapOK φ (lkp h) w) {i : Nat} {p : Pl} (hp : φ i = some p) : i < h.length := by
  obtain ⟨b, hb⟩ := hh.dom i p hp
  exact (List.getElem?_eq_some_iff.1 hb).1
theorem OS_LS {H : HF} {k : Nat} (h : OS φ H k) : LS φ H k := by
  obtain ⟨i, b, p, h1, h2, h3, h4⟩ := h
  exact ⟨i, b, p, h1, Blk.live_of_own h2, h3, h4⟩
theorem SM.later (hs : SM φ0 w0 nt φ s a w) {φ' : Phi} {e' : Env} {h' : Heap} {a' : Act} {w' : World} (hs' : StOK φ' e' h' nt a' w') (hl : Later s.h.length φ s.h w φ' h' w') : SM φ0 w0 nt φ' ⟨e', h', s.M⟩ a' w' := by
  have hk : Le φ φ' := fun i p hp => (hl.keep i (hs.st.heap.domlt hp)).trans hp
  refine ⟨hs', hs.mv.trans hl.mv, fun i o hm => ?_, fun i j oi oj p q hi hj hij hp hq => ?_⟩
  · obtain ⟨b, hb, ho, hn, h0, hok⟩ := hs.mo i o hm
    have hlt : b < w.heap.size := (Array.getElem?_eq_some_iff.1 ho).1
    refine ⟨b, hk _ _ hb, ?_, fun hls => (hl.mv.lv b hls).elim hn (by omega), h0, hok.mono hk⟩
    rw [hl.mv.fr.block b hlt fun ho => hn (OS_LS ho), ho, objOf_mono hok hk]
  · obtain ⟨b, hb, _⟩ := hs.mo i oi hi
    obtain ⟨c, hc, _⟩ := hs.mo j oj hj
    rw [hk _ _ hb] at hp
    rw [hk _ _ hc] at hq
    injection hp with hp
    injection hq with hq
    subst hp; subst hq
    exact hs.ap i j oi oj _ _ hi hj hij hb hc
theorem SM.put (hs : SM φ0 w0 nt φ s a w) {d : Nat} (hd : d < nt) {v : V} {rv : Value} (hv : VR φ v rv) : SM φ0 w0 nt φ ⟨AM.put s.e (some d) v, s.h, s.M⟩ (a.put (some d) rv) w :=
  ⟨⟨hs.st.env.put (d := some d) hv fun k hk => by injection hk with hk; subst hk; rw [hs.st.size]; exact hd, hs.st.heap, by rw [put_size]; exact hs.st.size, by rw [put_defers']; exact hs.st.defers⟩, hs.mv, hs.mo, hs.ap⟩
theorem SM.alloc (hs : SM φ0 w0 nt φ s a w) {d : Nat} (hd : d < nt) {o : MO} (ho : o.okAt φ) {v : V} {rv : Value} (hv : ∀ φ' : Phi, φ' s.h.length = some ⟨w.heap.size, 0, 0⟩ → VR φ' v rv) :
    ∃ φ', SM φ0 w0 nt φ' ⟨AM.put s.e (some d) v, s.h ++ [.dead], (s.h.length, o) :: s.M⟩ (a.put (some d) rv) (w.alloc (objOf φ o)) := by
  obtain ⟨φ', hφ⟩ : ∃ φ' : Phi, φ' = fun i => if i = s.h.length then some ⟨w.heap.size, 0, 0⟩ else φ i := ⟨_, rfl⟩
  have hb : φ' s.h.length = some ⟨w.heap.size, 0, 0⟩ := by rw [hφ]; simp
  have hold : ∀ i, i ≠ s.h.length → φ' i = φ i := fun i hi => by rw [hφ]; simp [hi]
  have hnew : New φ w s.h.length [.dead] φ' (w.alloc (objOf φ o)) := by
    refine ⟨fun i hi => hold i (by simp only [List.length_cons, List.length_nil] at hi; omega), fun j b p hj hp => ?_, fun j k p q hjk hj hk _ _ => ?_, Fr.alloc _ _ _⟩
    · have hj0 : j = 0 := by have := (List.getElem?_eq_some_iff.1 hj).1; simp only [List.length_cons, List.length_nil] at this; omega
      subst hj0
      simp only [List.getElem?_cons_zero, Option.some.injEq] at hj
      subst hj
      rw [Nat.add_zero, hb] at hp
      injection hp with hp
      subst hp
      exact ⟨trivial, Nat.le_refl _⟩
    · simp only [List.length_cons, List.length_nil] at hj hk; omega
  have hlk : lkp (s.h ++ [.dead]) = updH (lkp s.h) s.h.length [.dead] [] := by
    have := lkp_step (h := s.h) (ns := [.dead]) (us := []) (by simp)
    simpa [ups] using this
  have hout := hnew.out hs.st.heap (hs.st.heap.free _)
  have hmv : Mv φ (lkp s.h) w φ' (lkp (s.h ++ [.dead])) (w.alloc (objOf φ o)) := by rw [hlk]; exact hout.mv
  have hle : Le φ φ' := fun i p hp => by
    rw [hold i (by have := hs.st.heap.domlt hp; omega)]; exact hp
  have hst : StOK φ' (AM.put s.e (some d) v) (s.h ++ [.dead]) nt (a.put (some d) rv) (w.alloc (objOf φ o)) :=
    ⟨(hs.st.env.mono hle).put (d := some d) (hv φ' hb) fun k hk => by injection hk with hk; subst hk; rw [hs.st.size]; exact hd, hmv.ok, by rw [put_size]; exact hs.st.size, by rw [put_defers']; exact hs.st.defers⟩
  have hlater : Later s.h.length φ s.h w φ' (s.h ++ [.dead]) (w.alloc (objOf φ o)) := ⟨fun i hi => hold i (by omega), hmv, by simp⟩
  have h1 := hs.later hst hlater
  have hnone : mget s.M s.h.length = none := by
    cases hx : mget s.M s.h.length with
    | none => rfl
    | some x =>
      obtain ⟨b, hb, _⟩ := hs.mo _ _ hx
      have := hs.st.heap.domlt hb
      omega
  refine ⟨φ', hst, h1.mv, fun i x hm => ?_, fun i j oi oj p q hi hj hij hp hq => ?_⟩
  · simp only [mget] at hm
    split at hm
    · rename_i hi
      injection hm with hm
      subst hi; subst hm
      refine ⟨w.heap.size, hb, ?_, ?_, hs.mv.fr.size, ho.mono hle⟩
      · rw [objOf_mono ho hle]
        exact heap_alloc_new w _
      · rintro ⟨i, bl, p, h1, h2, h3, h4⟩
        by_cases hi : i = s.h.length
        · subst hi
          rw [hlk] at h1
          unfold updH at h1
          rw [if_pos (by simp)] at h1
          simp at h1
          subst h1
          simp [Blk.live] at h2
        · rw [hold i hi] at h3
          have h5 : lkp s.h i = some bl := by
            unfold lkp at h1 ⊢
            have := hs.st.heap.domlt h3
            rwa [List.getElem?_append_left this] at h1
          have := (hs.st.heap.blk i bl p h5 h3).lt h2
          omega
    · exact h1.mo i x hm
  · have key : ∀ i oi p, mget s.M i = some oi → φ' i = some p → p.b < w.heap.size := by
      intro i oi p hi hp
      obtain ⟨b, hb', hob, _⟩ := hs.mo i oi hi
      rw [hle _ _ hb'] at hp
      injection hp with hp
      subst hp
      exact (Array.getElem?_eq_some_iff.1 hob).1
    simp only [mget] at hi hj
    by_cases e1 : s.h.length = i
    · subst e1
      rw [hb] at hp
      injection hp with hp
      subst hp
      rw [if_neg hij] at hj
      have := key j oj q hj hq
      simp only
      omega
    · rw [if_neg e1] at hi
      by_cases e2 : s.h.length = j
      · subst e2
        rw [hb] at hq
        injection hq with hq
        subst hq
        have := key i oi p hi hp
        simp only
        omega
      · rw [if_neg e2] at hj
        exact h1.ap i j oi oj p q hi hj hij hp hq
theorem SM.set (hs : SM φ0 w0 nt φ s a w) {i : Nat} {o0 o : MO} {b : Nat} (hm : mget s.M i = some o0) (hb : φ i = some ⟨b, 0, 0⟩) (ok : o.okAt φ) {w' : World} (hw : w'.heap = w.heap.setIfInBounds b (objOf φ o)) (h1 : w'.os = w.os) (h2 : w'.tape = w.tape) (h3 : w'.output = w.output) :
    SM φ0 w0 nt φ ⟨s.e, s.h, (i, o) :: s.M⟩ a w' := by
  obtain ⟨b', hb', hob, hnl, h0, _⟩ := hs.mo i o0 hm
  have hbb : b' = b := by rw [hb] at hb'; injection hb' with hb'; injection hb' with hb'; exact hb'.symm
  subst hbb
  have hlt : b' < w.heap.size := (Array.getElem?_eq_some_iff.1 hob).1
  have hne : ∀ k, k ≠ b' → w'.heap[k]? = w.heap[k]? := fun k hk => by rw [hw, Array.getElem?_setIfInBounds_ne (Ne.symm hk)]
  have hat : w'.heap[b']? = some (objOf φ o) := by rw [hw]; simp [hlt]
  have hok0 : HeapOK0 φ (lkp s.h) w' := by
    refine ⟨fun j bl p hj hp => ?_, hs.st.heap.sep, hs.st.heap.dom⟩
    have h := hs.st.heap.blk j bl p hj hp
    cases hl : bl.live with
    | false => cases bl <;> simp [Blk.live] at hl; trivial
    | true => exact h.mono (hne p.b fun e => hnl ⟨j, bl, p, hj, hl, hp, e⟩) (Le.refl φ)
  have htab : TabW φ (lkp s.h) w' := by
    refine ⟨fun g cs hg => ?_, hs.st.heap.tab.2⟩
    obtain ⟨t, fr, hh⟩ := hs.st.heap.tab.1 g cs hg
    refine ⟨t, fr, ?_⟩
    rw [hne g fun e => ?_]
    · exact hh
    · subst e
      rw [hob] at hh
      cases o0 <;> simp [objOf] at hh
  have hok : HeapOK φ (lkp s.h) w' := ⟨hok0, htab⟩
  refine ⟨⟨hs.st.env, hok, hs.st.size, hs.st.defers⟩, ⟨hok, ⟨h1.trans hs.mv.fr.os, h2.trans hs.mv.fr.tape, h3.trans hs.mv.fr.output, ?_, fun k hk hn => ?_⟩, hs.mv.own, hs.mv.lv⟩, fun j x hj => ?_, fun j k oj ok p q hj hk hjk hp hq => ?_⟩
  · rw [hw, Array.size_setIfInBounds]; exact hs.mv.fr.size
  · rw [hne k (by omega)]; exact hs.mv.fr.block k hk hn
  · simp only [mget] at hj
    split at hj
    · rename_i e
      subst e
      injection hj with hj
      subst hj
      exact ⟨b', hb, hat, hnl, h0, ok⟩
    · rename_i e
      obtain ⟨c, hc, hoc, hnc, h0c, okc⟩ := hs.mo j x hj
      refine ⟨c, hc, ?_, hnc, h0c, okc⟩
      rw [hne c (fun e' => hs.ap i j o0 x _ _ hm hj e hb hc e'.symm)]
      exact hoc
  · have back : ∀ j oj, mget ((i, o) :: s.M) j = some oj → ∃ oj', mget s.M j = some oj' := by
      intro j oj hj
      simp only [mget] at hj
      split at hj
      · rename_i e; subst e; exact ⟨o0, hm⟩
      · exact ⟨oj, hj⟩
    obtain ⟨_, hj⟩ := back j oj hj
    obtain ⟨_, hk⟩ := back k ok hk
    exact hs.ap j k _ _ p q hj hk hjk hp hq
end
end Go.Proofs.Ytafphbegpjjolaa.AM
