import Derived.Test.YtafphbegpjjolaaMapX
/- Code with maps of racks: what the model's operations on maps do at such a map. -/
namespace Go.Proofs.Ytafphbegpjjolaa.AM
open Go
set_option linter.unusedSimpArgs false
set_option linter.unusedVariables false
section
variable {P : Program} {w : World} {t k e : TypeId}
theorem run_mkmap (t : TypeId) : (Instr.makeMap t none).run P w = .ok (.map (some w.heap.size)) (w.alloc (.map (ents []) 0)) := by
  simp [Instr.makeMap, ents]
/-- the facts of a map type from racks -/
structure KeyF (P : Program) (t : TypeId) : Prop where
  und : ∃ k e, P.underlying t = some (.map k e) ∧ WideMaps.KeyLaw P k ∧ ∀ r, RackOK r → ∃ l, keyOf P k (keyV r) = some l
def insK (x : List Int) (ks : List (List Int)) : List (List Int) := if x ∈ ks then ks else ks ++ [x]
theorem set_self {α : Type} (xs : Array α) {i : Nat} {a : α} (h : xs[i]? = some a) : xs.setIfInBounds i a = xs := by
  apply Array.ext_getElem?
  intro j
  rw [Array.getElem?_setIfInBounds]
  split
  · rename_i e
    subst e
    split
    · exact h.symm
    · rename_i hn
      rw [Array.getElem?_eq_none (by omega)] at h
      cases h
  · rfl
theorem modify_self {α : Type} (xs : Array α) (i : Nat) (f : α → α) (h : ∀ a, xs[i]? = some a → f a = a) : xs.modify i f = xs := by
  apply Array.ext_getElem?
  intro j
  rw [Array.getElem?_modify]
  split
  · rename_i e
    subst e
    cases hx : xs[i]? with
    | none => rfl
    | some a => simp [h a hx]
  · rfl
theorem run_ins (K : KeyF P t) {b : Nat} {ks : List (List Int)} (hb : w.heap[b]? = some (.map (ents ks) ks.length)) (hks : ∀ r ∈ ks, RackOK r) {x : List Int} (hx : RackOK x) :
    (Instr.mapUpdate t (.map (some b)) (keyV x) (.bool true)).run P w = .ok () { w with heap := w.heap.setIfInBounds b (.map (ents (insK x ks)) (insK x ks).length) } := by
  obtain ⟨k, e, ht, KL, hkey⟩ := K.und
  obtain ⟨l, hl⟩ := hkey x hx
  have hkeys : ∀ m ∈ (ents ks).toList, ∃ l, keyOf P k m.key = some l := by
    intro m hm
    obtain ⟨j, hj, rfl⟩ := ents_mem hm
    exact hkey _ (hks _ (List.getElem_mem hj))
  unfold Instr.mapUpdate
  simp only [Sem.run_bind, run_underlying ht, Result.andThen_ok, MapKept.run_getObj_map hb, KL.check w false hl]
  rcases KL.find w hl (ents ks).toList hkeys with ⟨hf, hn⟩ | ⟨j, e0, hf, hj, he⟩
  · have hni : x ∉ ks := by
      intro hmem
      obtain ⟨j, hj, hxj⟩ := List.getElem_of_mem hmem
      exact hn _ (ents_at hj) (by rw [hxj]; rfl)
    have e1 : insK x ks = ks ++ [x] := by simp [insK, hni]
    simp only [hf, Result.andThen_ok, MapKept.run_setObj_map _ hb, e1]
    have e2 : (ents ks).push { key := keyV x, val := .bool true, born := ks.length } = ents (ks ++ [x]) := ents_push ks x
    rw [e2]
    simp
  · have hmem : x ∈ ks := by
      obtain ⟨j', hj', rfl⟩ := ents_mem (List.mem_of_getElem? hj)
      have : ks[j'] = x := keyV_inj he
      rw [← this]
      exact List.getElem_mem _
    have e1 : insK x ks = ks := by simp [insK, hmem]
    have hj' : (ents ks)[j]? = some e0 := by simpa using hj
    simp only [hf, Result.andThen_ok, hj', Option.map_some, Option.getD_some, he, KL.stays w hl, MapKept.run_setObj_map _ hb, e1, Sem.run_bind]
    rw [modify_self]
    intro a ha
    rw [hj'] at ha
    injection ha with ha
    subst ha
    obtain ⟨j2, hj2, h2⟩ := ents_mem (List.mem_of_getElem? hj)
    rw [← he, h2]
    rfl
theorem run_rng (K : KeyF P t) {b : Nat} {ks : List (List Int)} (hb : w.heap[b]? = some (.map (ents ks) ks.length)) :
    (Instr.range t (.map (some b))).run P w = .ok (.pointer (some ⟨w.heap.size, 0, none⟩)) (w.alloc (.mapIter (some b) ks.length #[] ks.length)) := by
  obtain ⟨k, e, ht, _⟩ := K.und
  exact run_range_map w t k e b _ _ ht hb
theorem run_len (K : KeyF P t) {b : Nat} {ks : List (List Int)} (hb : w.heap[b]? = some (.map (ents ks) ks.length)) (ty : TypeId) :
    (Builtin.len_ #[t] ty #[.map (some b)]).run P w = .ok (.int .i64 ks.length) w := by
  obtain ⟨k, e, ht, _⟩ := K.und
  simp [Builtin.len_, run_underlying ht, MapKept.run_getObj_map hb, goInt, ents_size]
theorem run_getObj_it {r : Nat} {m : Option Nat} {x z : Nat} {y : Array Nat} (hb : w.heap[r]? = some (.mapIter m x y z)) : (getObj r).run P w = .ok (.mapIter m x y z) w := by
  simp [getObj, Sem.run, hb]
theorem run_setObj_it {r : Nat} {m : Option Nat} {x z : Nat} {y : Array Nat} (o' : Obj) (hb : w.heap[r]? = some (.mapIter m x y z)) : (setObj r o').run P w = .ok () { w with heap := w.heap.setIfInBounds r o' } := by
  simp [setObj, Sem.run, hb]
theorem run_nxt {r bm : Nat} {ks : List (List Int)} {seen : List Nat} (hr : w.heap[r]? = some (.mapIter (some bm) ks.length seen.toArray ks.length)) (hb : w.heap[bm]? = some (.map (ents ks) ks.length)) (ty : TypeId) :
    ((∀ j, j < ks.length → j ∈ seen) ∧ (Instr.next (.pointer (some ⟨r, 0, none⟩)) false ty).run P w = .ok (.tuple #[.bool false]) w) ∨
    ∃ j, ∃ hj : j < ks.length, j ∉ seen ∧ ∃ w1 : World, w1.heap = w.heap ∧ w1.os = w.os ∧ w1.tape = w.tape ∧ w1.output = w.output ∧
      (Instr.next (.pointer (some ⟨r, 0, none⟩)) false ty).run P w = .ok (.tuple #[.bool true, keyV (ks[j]'hj), .bool true]) { w1 with heap := w1.heap.setIfInBounds r (.mapIter (some bm) ks.length (seen ++ [j]).toArray ks.length) } := by
  have hborn : ∀ x ∈ (ents ks).toList, x.born < ks.length := by
    intro x hx
    obtain ⟨j, hj, rfl⟩ := ents_mem hx
    exact hj
  have htest := next_test_false seen.toArray (ents ks) ks.length ks.length hborn (Nat.le_refl _)
  simp only [Instr.next, Sem.run_bind, run_getObj_it hr, MapKept.run_getObj_map hb, Result.andThen_ok, htest, Bool.false_eq_true, if_false]
  have hleft : ∀ x ∈ (Array.filter (fun e : MapEntry => !seen.toArray.contains e.born) (ents ks)).toList, ∃ j, ∃ hj : j < ks.length, j ∉ seen ∧ x = ent (ks[j]'hj, j) := by
    intro x hx
    have hx := Array.mem_filter.1 (Array.mem_toList_iff.1 hx)
    obtain ⟨j, hj, rfl⟩ := ents_mem (Array.mem_toList_iff.2 hx.1)
    refine ⟨j, hj, ?_, rfl⟩
    have h2 := hx.2
    simp only [ent, List.contains_toArray, Bool.not_eq_true'] at h2
    intro hm
    rw [List.contains_iff_mem.2 hm] at h2
    cases h2
  have hnone : (Array.filter (fun e : MapEntry => !seen.toArray.contains e.born) (ents ks)) = #[] → ∀ j, j < ks.length → j ∈ seen := by
    intro he j hj
    have := Array.filter_eq_empty_iff.1 he (ent (ks[j], j)) (Array.mem_toList_iff.1 (ents_at hj))
    simpa [ent] using this
  generalize Array.filter (fun e : MapEntry => !seen.toArray.contains e.born) (ents ks) = L at hleft hnone
  have hmem : ∀ x ∈ L.toList, x.born < ks.length := fun x hx => by
    obtain ⟨j, hj, _, rfl⟩ := hleft x hx
    exact hj
  have e1 : L.filter (fun x => decide (x.born < ks.length)) = L := Array.filter_eq_self.2 (fun x hx => by simpa using hmem x (by simpa using hx))
  have e2 : L.filter (fun x => decide (x.born ≥ ks.length)) = #[] := by
    rw [Array.filter_eq_empty_iff]
    intro x hx
    have := hmem x (by simpa using hx)
    simp
    omega
  simp only [e1, e2, Array.append_empty]
  by_cases h0 : L.size = 0
  · left
    have : L = #[] := Array.eq_empty_of_size_eq_zero h0
    subst this
    refine ⟨hnone rfl, ?_⟩
    simp [choose, Sem.run, Question.forced]
  · right
    have hne : L.isEmpty = false := by simp [Array.isEmpty, h0]
    simp only [hne, Bool.false_eq_true, if_false, Array.empty_append, Array.size_map]
    have hch : ∃ (j : Nat) (w1 : World), j < L.size ∧ (w1.heap = w.heap ∧ w1.os = w.os ∧ w1.tape = w.tape ∧ w1.output = w.output) ∧ (choose (Question.mapNext L.size)).run P w = .ok j w1 := by
      by_cases hf : L.size ≤ 1
      · exact ⟨0, w, by omega, ⟨rfl, rfl, rfl, rfl⟩, by simp [choose, Sem.run, Question.forced, hf]⟩
      · exact ⟨_, w.drew, Nat.mod_lt _ (by omega), ⟨rfl, rfl, rfl, rfl⟩, by
          simp only [choose, Sem.run, Question.forced, decide_eq_true_eq, hf, if_false, Question.cut]
          rfl⟩
    obtain ⟨i, w1, hi, ⟨a1, a2, a3, a4⟩, hrun⟩ := hch
    obtain ⟨j, hj, hns, hx⟩ := hleft L[i] (by simp)
    refine ⟨j, hj, hns, w1, a1, a2, a3, a4, ?_⟩
    have hr1 : w1.heap[r]? = some (.mapIter (some bm) ks.length seen.toArray ks.length) := by rw [a1]; exact hr
    have hL : L[i]? = some (ent (ks[j]'hj, j)) := by rw [Array.getElem?_eq_getElem hi, hx]
    simp only [hrun, Array.getElem?_map, hL, Option.map_some, Sem.run_bind, run_setObj_it _ hr1, Result.andThen_ok, ent]
    simp
theorem run_ent {r bm : Nat} {ks : List (List Int)} {seen : List Nat} {j : Nat} (hj : j < ks.length) (hr : w.heap[r]? = some (.mapIter (some bm) ks.length (seen ++ [j]).toArray ks.length)) (hb : w.heap[bm]? = some (.map (ents ks) ks.length)) :
    (Instr.entry (.pointer (some ⟨r, 0, none⟩))).run P w = .ok (.tuple #[keyV (ks[j]'hj), .bool true]) w := by
  have hn : ((ents ks).toList.map (·.born)).Nodup := by rw [ents_born]; exact List.nodup_range
  have hf : (ents ks).find? (·.born == (ent (ks[j]'hj, j)).born) = some (ent (ks[j]'hj, j)) := by rw [← Array.find?_toList]; exact find_born _ _ hn (ents_at hj)
  have hf' : (ents ks).find? (fun x => x.born == j) = some (ent (ks[j]'hj, j)) := hf
  have hback : (seen ++ [j]).toArray.back? = some j := by simp
  simp only [Instr.entry, Sem.run_bind, run_getObj_it hr, Result.andThen_ok, hback, MapKept.run_getObj_map hb, bne_self_eq_false, Bool.false_eq_true, if_false, hf']
  simp [ent]
end
end Go.Proofs.Ytafphbegpjjolaa.AM
