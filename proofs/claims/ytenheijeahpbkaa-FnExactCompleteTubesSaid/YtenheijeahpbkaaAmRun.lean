/-
  Running code of the abstract machine by rewriting: the rules.
-/
import Derived.Test.YtenheijeahpbkaaAmFree
namespace Go.Proofs.Ytenheijeahpbkaa.AM
open Go

theorem cids_ints (k : IntKind) (l : List Int) : cids (l.map (C.int k)) = [] := by induction l <;> simp_all [cids, C.ids]
theorem cmp_ints (g : Nat → Nat) (k : IntKind) (l : List Int) : cmp g (l.map (C.int k)) = l.map (C.int k) := by induction l <;> simp_all [cmp, C.mp]
theorem noDead_ints (k : IntKind) (l : List Int) : noDead (l.map (C.int k)) = true := by induction l <;> simp_all [noDead]
/-- a value of no blocks is the same under every renaming -/
theorem C.mp_pure {g : Nat → Nat} {c : C} (h : c.ids = []) : c.mp g = c := by
  cases c <;> simp_all [C.ids, C.mp]
theorem cmp_pure {g : Nat → Nat} : ∀ {l : List C}, cids l = [] → cmp g l = l
  | [], _ => rfl
  | c :: l, h => by
    simp only [cids, List.append_eq_nil_iff] at h
    simp only [cmp, C.mp_pure h.1, cmp_pure h.2]
theorem V1.mp_pure {g : Nat → Nat} {v : V1} (h : v.ids = []) : v.mp g = v := by
  cases v with
  | c x => simp only [V1.mp, C.mp_pure h]
  | agg xs => simp only [V1.mp, cmp_pure h]
theorem V.mp_pure {g : Nat → Nat} {v : V} (h : v.ids = []) : v.mp g = v := by
  cases v with
  | c x => simp only [V.mp, C.mp_pure h]
  | agg xs => simp only [V.mp, cmp_pure h]
  | tup xs =>
    simp only [V.mp]
    congr 1
    have : ∀ (xs : List V1), xs.flatMap V1.ids = [] → xs.map (V1.mp g) = xs := by
      intro xs
      induction xs with
      | nil => intro _; rfl
      | cons x xs ih =>
        intro h
        simp only [List.flatMap_cons, List.append_eq_nil_iff] at h
        simp only [List.map_cons, V1.mp_pure h.1, ih h.2]
    exact this xs h
theorem mps_pure {g : Nat → Nat} : ∀ {vs : List V}, vs.flatMap V.ids = [] → vs.map (V.mp g) = vs
  | [], _ => rfl
  | v :: vs, h => by
    simp only [List.flatMap_cons, List.append_eq_nil_iff] at h
    simp only [List.map_cons, V.mp_pure h.1, mps_pure h.2]
/-- a renaming that leaves the numbers below n alone -/
theorem C.mp_below {g : Nat → Nat} {c : C} (h : ∀ i ∈ c.ids, g i = i) : c.mp g = c := by
  cases c with
  | ptr i o => simp [C.mp, h i (by simp [C.ids])]
  | sl i o n s => simp [C.mp, h i (by simp [C.ids])]
  | map i => simp [C.mp, h i (by simp [C.ids])]
  | fn f cs =>
    simp only [C.mp]
    congr 1
    have : ∀ (cs : List (Nat × Nat)), (∀ i ∈ cs.map (·.1), g i = i) → cs.map (fun p => (g p.1, p.2)) = cs := by
      intro cs
      induction cs with
      | nil => intro _; rfl
      | cons p cs ih =>
        intro h
        simp only [List.map_cons, h p.1 (by simp), ih fun i hi => h i (by simp only [List.map_cons, List.mem_cons]; exact .inr hi)]
    exact this cs h
  | _ => rfl
theorem cmp_below {g : Nat → Nat} : ∀ {l : List C}, (∀ i ∈ cids l, g i = i) → cmp g l = l
  | [], _ => rfl
  | c :: l, h => by
    have h1 : c.mp g = c := C.mp_below fun i hi => h i (by rw [cids]; exact List.mem_append_left _ hi)
    have h2 : cmp g l = l := cmp_below fun i hi => h i (by rw [cids]; exact List.mem_append_right _ hi)
    rw [cmp, h1, h2]
theorem V1.mp_below {g : Nat → Nat} {v : V1} (h : ∀ i ∈ v.ids, g i = i) : v.mp g = v := by
  cases v with
  | c x => simp only [V1.mp, C.mp_below h]
  | agg xs => simp only [V1.mp, cmp_below h]
theorem V.mp_below {g : Nat → Nat} {v : V} (h : ∀ i ∈ v.ids, g i = i) : v.mp g = v := by
  cases v with
  | c x => simp only [V.mp, C.mp_below h]
  | agg xs => simp only [V.mp, cmp_below h]
  | tup xs =>
    simp only [V.mp]
    congr 1
    have : ∀ (xs : List V1), (∀ i ∈ xs.flatMap V1.ids, g i = i) → xs.map (V1.mp g) = xs := by
      intro xs
      induction xs with
      | nil => intro _; rfl
      | cons x xs ih =>
        intro h
        simp only [List.map_cons, V1.mp_below fun i hi => h i (by simp only [List.flatMap_cons, List.mem_append]; exact .inl hi), ih fun i hi => h i (by simp only [List.flatMap_cons, List.mem_append]; exact .inr hi)]
    exact this xs h
theorem Blk.mp_below {g : Nat → Nat} {b : Blk} (h : ∀ i ∈ b.ids, g i = i) : b.mp g = b := by
  cases b with
  | cells cs o => simp only [Blk.mp, cmp_below h]
  | dead => rfl
  | map es =>
    simp only [Blk.mp]
    congr 1
    have : ∀ (es : List (List C × C)), (∀ i ∈ es.flatMap (fun e => e.2.ids), g i = i) → es.map (fun e => (e.1, e.2.mp g)) = es := by
      intro es
      induction es with
      | nil => intro _; rfl
      | cons x es ih =>
        intro h
        simp only [List.map_cons, C.mp_below fun i hi => h i (by simp only [List.flatMap_cons, List.mem_append]; exact .inl hi), ih fun i hi => h i (by simp only [List.flatMap_cons, List.mem_append]; exact .inr hi)]
    exact this es h
/-- the blocks name blocks below n alone -/
def wfH (n : Nat) (h : Heap) : Bool := h.all fun b => b.ids.all fun i => decide (i < n)
theorem wfH_at {n : Nat} {h : Heap} (hw : wfH n h = true) {i : Nat} {b : Blk} (hb : lkp h i = some b) : ∀ j ∈ b.ids, j < n := by
  have := List.all_eq_true.1 hw b (List.mem_of_getElem? hb)
  intro j hj
  simpa using List.all_eq_true.1 this j hj
theorem pos_upto {m i : Nat} (h : i < m) : pos (upto m) i = i := pos_of_get (upto_nodup m) (upto_get m i h)
theorem mem_upto {m i : Nat} : i ∈ upto m ↔ i < m := by
  refine ⟨upto_lt m i, fun h => List.mem_of_getElem? (upto_get m i h)⟩
theorem reach_done (H : HF) (m : Nat) : ∀ (n : Nat) (todo : List Nat), (∀ i ∈ todo, i < m) → reach H n todo (upto m) = upto m
  | 0, _, _ => rfl
  | _ + 1, [], _ => rfl
  | n + 1, i :: todo, h => by
    unfold reach
    rw [if_pos (mem_upto.2 (h i (by simp)))]
    exact reach_done H m n todo fun j hj => h j (by simp [hj])
theorem sub_upto {m : Nat} {h : Heap} (hm : m ≤ h.length) (hw : wfH m (h.take m) = true) : sub (upto m) (lkp h) = h.take m := by
  apply List.ext_getElem?
  intro i
  unfold sub
  rw [List.getElem?_map]
  by_cases hi : i < m
  · rw [upto_get m i hi, List.getElem?_take, if_pos hi]
    have hb : lkp (h.take m) i = some (h[i]'(by omega)) := by unfold lkp; rw [List.getElem?_take, if_pos hi, List.getElem?_eq_getElem]
    have : lkp h i = some (h[i]'(by omega)) := List.getElem?_eq_getElem _
    simp only [Option.map_some, this, Option.getD_some]
    rw [List.getElem?_eq_getElem (by omega)]
    congr 1
    exact Blk.mp_below fun j hj => pos_upto (wfH_at hw hb j hj)
  · rw [List.getElem?_eq_none (by rw [upto_length]; omega), List.getElem?_eq_none (by simp; omega)]
    rfl
theorem closed_upto {m : Nat} {h : Heap} (hm : m ≤ h.length) (hw : wfH m (h.take m) = true) : closed (upto m) (lkp h) = true := by
  unfold closed
  rw [List.all_eq_true]
  intro i hi
  have hi := mem_upto.1 hi
  have hb : lkp (h.take m) i = some (h[i]'(by omega)) := by unfold lkp; rw [List.getElem?_take, if_pos hi, List.getElem?_eq_getElem]
  have : lkp h i = some (h[i]'(by omega)) := List.getElem?_eq_getElem _
  simp only [idsAt, this, Option.isSome_some, Bool.true_and, inL, List.all_eq_true, decide_eq_true_eq]
  exact fun j hj => mem_upto.2 (wfH_at hw hb j hj)
theorem gcL_upto {m : Nat} {roots : List Nat} {h : Heap} (hr : ∀ i ∈ roots, i < m) (hw : wfH m (h.take m) = true) : gcL m roots h = upto m := by
  unfold gcL
  refine reach_done _ m _ _ fun i hi => ?_
  rcases List.mem_append.1 hi with hi | hi
  · exact hr i hi
  · obtain ⟨b, hb, hib⟩ := List.mem_flatMap.1 hi
    have := List.all_eq_true.1 (List.all_eq_true.1 hw b hb) i hib
    simpa using this
/-- what is cut off behind a value -/
def cut (m : Nat) (v : V) (h : Heap) : Option (V × Heap) := if closed (gcL m v.ids h) (lkp h) ∧ inL (gcL m v.ids h) v.ids then some (v.mp (pos (gcL m v.ids h)), sub (gcL m v.ids h) (lkp h)) else none
theorem leave_eq (m : Nat) (rs : List RV) (e : Env) (h : Heap) : leave m rs e h = (resL e h rs).bind fun vs => cut m (oneV vs) h := rfl
/-- a value that names the old blocks alone -/
theorem cut_old {m : Nat} {v : V} {h : Heap} (hv : ∀ i ∈ v.ids, i < m) (hm : m ≤ h.length) (hw : wfH m (h.take m) = true) : cut m v h = some (v, h.take m) := by
  unfold cut
  rw [gcL_upto hv hw, closed_upto hm hw, sub_upto hm hw]
  have : inL (upto m) v.ids = true := by
    rw [inL, List.all_eq_true]
    exact fun i hi => by simpa using mem_upto.2 (hv i hi)
  rw [this]
  simp only [and_self, if_true]
  rw [V.mp_below fun i hi => pos_upto (hv i hi)]
theorem cut_zero {v : V} {h : Heap} (hv : v.ids = []) : cut 0 v h = some (v, []) := by
  rw [cut_old (by simp [hv]) (Nat.zero_le _) rfl]
  rfl
theorem envIds_restrict {m : Nat} {e : Env} {live : List Nat} (h : ∀ t ∈ live, ∀ i ∈ (get e t).ids, i < m) : ∀ i ∈ envIds (restrict e live), i < m := by
  intro i hi
  unfold envIds restrict at hi
  obtain ⟨p, hp, hi⟩ := List.mem_flatMap.1 hi
  obtain ⟨t, ht, rfl⟩ := List.mem_map.1 hp
  exact h t ht i hi
/-- a loop's head where all that lives is old -/
theorem gcE_old {m : Nat} {live : List Nat} {e : Env} {h : Heap} (he : ∀ t ∈ live, ∀ i ∈ (get e t).ids, i < m) (hm : m ≤ h.length) (hw : wfH m (h.take m) = true) : gcE m live e h = some (restrict e live, h.take m) := by
  unfold gcE
  simp only
  have he := envIds_restrict he
  rw [gcL_upto he hw, closed_upto hm hw, sub_upto hm hw]
  have : inL (upto m) (envIds (restrict e live)) = true := by
    rw [inL, List.all_eq_true]
    exact fun i hi => by simpa using mem_upto.2 (he i hi)
  rw [this]
  simp only [and_self, if_true, Option.some.injEq, Prod.mk.injEq, and_true]
  have : ∀ (e : Env), (∀ i ∈ envIds e, i < m) → e.map (fun p => (p.1, p.2.mp (pos (upto m)))) = e := by
    intro e
    induction e with
    | nil => intro _; rfl
    | cons p e ih =>
      intro h
      simp only [List.map_cons]
      rw [V.mp_below fun i hi => pos_upto (h i (by simp only [envIds, List.flatMap_cons, List.mem_append]; exact .inl hi)), ih fun i hi => h i (by simp only [envIds, List.flatMap_cons, List.mem_append]; exact .inr hi)]
  exact this _ he
/-- a call with values alone -/
theorem callA_val {F : Fns} {f : Nat} {args : List V} {H : HF} {base : Nat} {v : V} (ha : args.flatMap V.ids = []) (hF : F f args [] = some (v, [])) (hv : v.ids = []) : callA F f args H base = some (v, [], []) := by
  unfold callA
  simp only [ha, reach]
  have : closed [] H = true := rfl
  rw [if_pos ⟨this, rfl⟩, mps_pure ha]
  have : sub [] H = [] := rfl
  rw [this, hF]
  simp [V.mp_pure hv]
theorem take_len (h g : Heap) (m : Nat) (hm : h.length = m) : (h ++ g).take m = h := by subst hm; simp
end Go.Proofs.Ytenheijeahpbkaa.AM
