import Derived.Test.YthpookdfaikabaaGreatDoorBaseB
/- Pours of a rack as lists: definitions and plain laws, no program in sight. -/
namespace Go.Proofs.YthpookdfaikabaaGreatDoor.AM
open Go
set_option maxRecDepth 1000000
set_option linter.unusedSimpArgs false
set_option linter.unusedVariables false
def six : List Int := [0, 1, 2, 3, 4, 5]
/-- a test of all valid tubes -/
def allT (p : List Int → Bool) : Bool := six.all fun a => six.all fun b => six.all fun c => six.all fun d => !tubeP [a, b, c, d] || p [a, b, c, d]
theorem six_mem {a : Int} (h : 0 ≤ a ∧ a ≤ 5) : a ∈ six := by
  have : a = 0 ∨ a = 1 ∨ a = 2 ∨ a = 3 ∨ a = 4 ∨ a = 5 := by omega
  rcases this with rfl | rfl | rfl | rfl | rfl | rfl <;> simp [six]
theorem tubes_all {p : List Int → Bool} (h : allT p = true) {t : List Int} (ht : t.length = 4) (hv : tubeP t = true) : p t = true := by
  obtain ⟨a, b, c, d, rfl⟩ := len4 ht
  obtain ⟨ha, hb, hc, hd⟩ := tubeP_range hv
  have := List.all_eq_true.1 (List.all_eq_true.1 (List.all_eq_true.1 (List.all_eq_true.1 h a (six_mem ha)) b (six_mem hb)) c (six_mem hc)) d (six_mem hd)
  simpa [hv] using this
def takeGo (f : Nat) : Nat → List Int → List Int
  | 0, t => t
  | k + 1, t => (takeGo f k t).set (f - 1 - k) 0
def putGo (t0 : Nat) (c : Int) : Nat → List Int → List Int
  | 0, t => t
  | k + 1, t => (putGo t0 c k t).set (t0 + k) c
def pourStep (i j f t : Nat) (c : Int) (k : Nat) (r : List Int) : List Int := (r.set (i * 4 + (f - 1 - k)) 0).set (j * 4 + (t + k)) c
def pourGo (i j f t : Nat) (c : Int) : Nat → List Int → List Int
  | 0, r => r
  | k + 1, r => pourStep i j f t c k (pourGo i j f t c k r)
def pourN (r : List Int) (i j : Nat) : Nat := min (topOf (tubeAt r i)).2.toNat (4 - layN (tubeAt r j))
/-- the rack behind a pour -/
def pourR (r : List Int) (i j : Nat) : List Int := pourGo i j (layN (tubeAt r i)) (layN (tubeAt r j)) (topOf (tubeAt r i)).1 (pourN r i j) r
def canP (r : List Int) (i j : Nat) : Bool := !(decide (i = j)) && decide (0 < (topOf (tubeAt r i)).1) && decide (layN (tubeAt r j) < 4) && (decide ((topOf (tubeAt r j)).1 = 0) || decide ((topOf (tubeAt r j)).1 = (topOf (tubeAt r i)).1))
def idleP (r : List Int) (i j : Nat) : Bool := decide ((runsOf (tubeAt r i)).length = 1) && decide (layN (tubeAt r j) = 0)
def pairAt (q : Nat) : Nat × Nat := (q / 6, q % 6)
/-- the pours among the first k pairs -/
def poursTo (r : List Int) (k : Nat) : List (Nat × Nat) := ((List.range k).map pairAt).filter fun p => canP r p.1 p.2
def poursL (r : List Int) : List (Nat × Nat) := poursTo r 36
def usefulL (r : List Int) : List (Nat × Nat) := (poursL r).filter fun p => !idleP r p.1 p.2
/-- a list of pairs as cells -/
def flatI (l : List (Nat × Nat)) : List Int := l.flatMap fun p => [(p.1 : Int), (p.2 : Int)]
def flatC (l : List (Nat × Nat)) : List C := (flatI l).map (C.int .i64)
theorem poursTo_succ (r : List Int) (k : Nat) : poursTo r (k + 1) = poursTo r k ++ if canP r (k / 6) (k % 6) = true then [pairAt k] else [] := by
  unfold poursTo
  rw [List.range_succ, List.map_append, List.filter_append]
  congr 1
  simp only [List.map_cons, List.map_nil, List.filter_cons, List.filter_nil, pairAt]
theorem poursTo_len (r : List Int) (k : Nat) : (poursTo r k).length ≤ k := by
  unfold poursTo
  exact Nat.le_trans (List.length_filter_le _ _) (by simp)
theorem flatI_len (l : List (Nat × Nat)) : (flatI l).length = l.length * 2 := by
  induction l with
  | nil => rfl
  | cons p l ih => simp [flatI] at ih ⊢; omega
theorem flatI_app (l m : List (Nat × Nat)) : flatI (l ++ m) = flatI l ++ flatI m := by simp [flatI]
theorem flatC_app (l m : List (Nat × Nat)) : flatC (l ++ m) = flatC l ++ flatC m := by simp [flatC, flatI_app]
theorem flatC_len (l : List (Nat × Nat)) : (flatC l).length = l.length * 2 := by simp [flatC, flatI_len]
theorem flatC_one (p : Nat × Nat) : flatC [p] = [.int .i64 p.1, .int .i64 p.2] := rfl
theorem flatC_ids (l : List (Nat × Nat)) : cids (flatC l) = [] := cids_ints _ _
theorem flatC_get : ∀ (l : List (Nat × Nat)) (z : List C) (k : Nat) (h : k < l.length), ((flatC l ++ z).drop (k * 2)).take 2 = [C.int .i64 (l[k]'h).1, C.int .i64 (l[k]'h).2]
  | p :: l, z, 0, h => by simp [flatC, flatI]
  | p :: l, z, k + 1, h => by
    have := flatC_get l z k (by simpa using h)
    have e : (k + 1) * 2 = k * 2 + 1 + 1 := by omega
    rw [e]
    have hd : flatC (p :: l) ++ z = C.int .i64 p.1 :: C.int .i64 p.2 :: (flatC l ++ z) := by simp [flatC, flatI]
    rw [hd, List.drop_succ_cons, List.drop_succ_cons, this]
    simp
theorem mem_poursL {r : List Int} {p : Nat × Nat} (h : p ∈ poursL r) : p.1 < 6 ∧ p.2 < 6 ∧ canP r p.1 p.2 = true := by
  unfold poursL poursTo at h
  obtain ⟨h1, h2⟩ := List.mem_filter.1 h
  obtain ⟨q, hq, rfl⟩ := List.mem_map.1 h1
  have := List.mem_range.1 hq
  exact ⟨by simp only [pairAt]; omega, by simp only [pairAt]; omega, h2⟩
theorem mem_usefulL {r : List Int} {p : Nat × Nat} (h : p ∈ usefulL r) : p.1 < 6 ∧ p.2 < 6 ∧ canP r p.1 p.2 = true := mem_poursL (List.mem_filter.1 h).1
theorem usefulL_len (r : List Int) : (usefulL r).length ≤ 36 := Nat.le_trans (List.length_filter_le _ _) (poursTo_len r 36)
theorem canP_ne {r : List Int} {i j : Nat} (h : canP r i j = true) : i ≠ j := by
  simp [canP] at h
  exact h.1.1.1
/-! ### what a pour leaves -/
theorem takeGo_len (f : Nat) : ∀ (n : Nat) (t : List Int), (takeGo f n t).length = t.length
  | 0, _ => rfl
  | n + 1, t => by simp [takeGo, takeGo_len f n t]
theorem putGo_len (t0 : Nat) (c : Int) : ∀ (n : Nat) (t : List Int), (putGo t0 c n t).length = t.length
  | 0, _ => rfl
  | n + 1, t => by simp [putGo, putGo_len t0 c n t]
theorem pourGo_len (i j f t : Nat) (c : Int) : ∀ (n : Nat) (r : List Int), (pourGo i j f t c n r).length = r.length
  | 0, _ => rfl
  | n + 1, r => by simp [pourGo, pourStep, pourGo_len i j f t c n r]
theorem pourR_len {r : List Int} (hr : r.length = 24) (i j : Nat) : (pourR r i j).length = 24 := by unfold pourR; rw [pourGo_len, hr]
theorem tubeAt_set (r : List Int) {i k : Nat} (hk : k < 4) (x : Int) (i' : Nat) : tubeAt (r.set (i * 4 + k) x) i' = if i' = i then (tubeAt r i).set k x else tubeAt r i' := by
  apply List.ext_getElem?
  intro m
  by_cases hi : i' = i
  · subst hi
    rw [if_pos rfl]
    simp only [tubeAt, List.getElem?_take, List.getElem?_drop, List.getElem?_set, List.length_take, List.length_drop]
    by_cases hm : m < 4
    · by_cases hmk : k = m
      · subst hmk
        simp [hm]
        split <;> split <;> first | rfl | omega
      · rw [if_pos hm, if_neg (by omega), if_neg hmk, if_pos hm]
    · rw [if_neg hm, if_neg (by omega), if_neg hm]
  · rw [if_neg hi]
    simp only [tubeAt, List.getElem?_take, List.getElem?_drop, List.getElem?_set]
    by_cases hm : m < 4
    · rw [if_pos hm, if_neg (by omega), if_pos hm]
    · rw [if_neg hm, if_neg hm]
theorem tube_pourGo {i j f t : Nat} {c : Int} (hij : i ≠ j) (hf : f ≤ 4) : ∀ (n : Nat) (r : List Int), n ≤ f → t + n ≤ 4 → ∀ i', tubeAt (pourGo i j f t c n r) i' = if i' = i then takeGo f n (tubeAt r i) else if i' = j then putGo t c n (tubeAt r j) else tubeAt r i'
  | 0, r, _, _, i' => by
    simp only [pourGo, takeGo, putGo]
    split
    · rename_i h; rw [h]
    · split
      · rename_i h; rw [h]
      · rfl
  | n + 1, r, h1, h2, i' => by
    have ih := tube_pourGo (i := i) (j := j) (f := f) (t := t) (c := c) hij hf n r (by omega) (by omega)
    simp only [pourGo, pourStep, takeGo, putGo]
    rw [tubeAt_set _ (k := t + n) (by omega), tubeAt_set _ (k := f - 1 - n) (by omega), tubeAt_set _ (k := f - 1 - n) (by omega), ih i', ih i, ih j]
    by_cases e1 : i' = i
    · subst e1
      simp [hij]
    · by_cases e2 : i' = j
      · subst e2
        simp [e1]
      · simp [e1, e2]
def topT (t : List Int) : Bool := decide (0 ≤ (topOf t).1) && decide ((topOf t).1 ≤ 5) && decide (0 ≤ (topOf t).2) && decide ((topOf t).2 ≤ (layN t : Int)) && decide (layN t ≤ 4) && decide ((topOf t).1 = 0 ↔ (topOf t).2 = 0) && decide ((topOf t).1 = 0 ↔ layN t = 0) && decide ((topOf t).1 = (match (runsOf t).getLast? with | some p => p.1 | none => 0)) && decide ((topOf t).2 = (match (runsOf t).getLast? with | some p => p.2 | none => 0)) && decide ((runsOf t).length = 0 ↔ layN t = 0)
theorem topT_all : allT topT = true := by kernel_rfl
structure TopOK (t : List Int) : Prop where
  c0 : 0 ≤ (topOf t).1
  c5 : (topOf t).1 ≤ 5
  n0 : 0 ≤ (topOf t).2
  nl : (topOf t).2 ≤ (layN t : Int)
  l4 : layN t ≤ 4
  cn : (topOf t).1 = 0 ↔ (topOf t).2 = 0
  cl : (topOf t).1 = 0 ↔ layN t = 0
  r1 : (topOf t).1 = (match (runsOf t).getLast? with | some p => p.1 | none => 0)
  r2 : (topOf t).2 = (match (runsOf t).getLast? with | some p => p.2 | none => 0)
  rl : (runsOf t).length = 0 ↔ layN t = 0
theorem top_ok {t : List Int} (ht : t.length = 4) (hv : tubeP t = true) : TopOK t := by
  have := tubes_all topT_all ht hv
  unfold topT at this
  simp only [Bool.and_eq_true, decide_eq_true_eq] at this
  obtain ⟨⟨⟨⟨⟨⟨⟨⟨⟨h1, h2⟩, h3⟩, h4⟩, h5⟩, h6⟩, h7⟩, h8⟩, h9⟩, h10⟩ := this
  exact ⟨h1, h2, h3, h4, h5, h6, h7, h8, h9, h10⟩
def takeT (t : List Int) : Bool := (List.range 5).all fun n => decide (layN t < n) || tubeP (takeGo (layN t) n t)
theorem takeT_all : allT takeT = true := by kernel_rfl
def putT (t : List Int) : Bool := (List.range 5).all fun n => decide (4 - layN t < n) || ([1, 2, 3, 4, 5] : List Int).all fun c => tubeP (putGo (layN t) c n t)
theorem putT_all : allT putT = true := by kernel_rfl
theorem rackP_iff {r : List Int} : rackP r = true ↔ ∀ i, i < 6 → tubeP (tubeAt r i) = true := by
  refine ⟨fun h i hi => rackP_tube h hi, fun h => ?_⟩
  unfold rackP
  rw [List.all_eq_true]
  intro t ht
  have : ∀ (d i : Nat), i + d ≤ 6 → t ∈ tubesFrom r i d → ∃ k, k < 6 ∧ t = tubeAt r k := by
    intro d
    induction d with
    | zero => intro i _ h; simp [tubesFrom] at h
    | succ d ih =>
      intro i hi h
      rcases List.mem_cons.1 h with h | h
      · exact ⟨i, by omega, h⟩
      · exact ih (i + 1) (by omega) h
  obtain ⟨k, hk, rfl⟩ := this 6 0 (by omega) ht
  exact h k hk
theorem rackP_pour {r : List Int} (hr : r.length = 24) (hv : rackP r = true) {i j : Nat} (hi : i < 6) (hj : j < 6) (hij : i ≠ j) : rackP (pourR r i j) = true := by
  rw [rackP_iff]
  intro k hk
  have hti := rackP_tube hv hi
  have htj := rackP_tube hv hj
  have oi := top_ok (tubeAt_len hr hi) hti
  have oj := top_ok (tubeAt_len hr hj) htj
  have h1 : pourN r i j ≤ layN (tubeAt r i) := by unfold pourN; have := oi.nl; have := oi.n0; omega
  have h2 : layN (tubeAt r j) + pourN r i j ≤ 4 := by unfold pourN; have := oj.l4; omega
  unfold pourR
  rw [tube_pourGo hij oi.l4 _ _ h1 h2]
  by_cases e1 : k = i
  · rw [if_pos e1]
    have := List.all_eq_true.1 (tubes_all takeT_all (tubeAt_len hr hi) hti) (pourN r i j) (List.mem_range.2 (by have := oi.l4; omega))
    simp only [Bool.or_eq_true, decide_eq_true_eq] at this
    rcases this with h | h
    · omega
    · exact h
  · rw [if_neg e1]
    by_cases e2 : k = j
    · rw [if_pos e2]
      by_cases hc : (topOf (tubeAt r i)).1 = 0
      · have hn : pourN r i j = 0 := by unfold pourN; rw [oi.cn.1 hc]; rfl
        rw [hn]
        exact htj
      · have := List.all_eq_true.1 (tubes_all putT_all (tubeAt_len hr hj) htj) (pourN r i j) (List.mem_range.2 (by omega))
        simp only [Bool.or_eq_true, decide_eq_true_eq] at this
        rcases this with h | h
        · omega
        · refine List.all_eq_true.1 h _ ?_
          have h0 := oi.c0
          have h5 := oi.c5
          have : (topOf (tubeAt r i)).1 = 1 ∨ (topOf (tubeAt r i)).1 = 2 ∨ (topOf (tubeAt r i)).1 = 3 ∨ (topOf (tubeAt r i)).1 = 4 ∨ (topOf (tubeAt r i)).1 = 5 := by omega
          rcases this with e | e | e | e | e <;> rw [e] <;> simp
    · rw [if_neg e2]
      exact rackP_tube hv hk
end Go.Proofs.YthpookdfaikabaaGreatDoor.AM

/- Deleting from a list in place: definitions and plain laws, no program in sight. -/
namespace Go.Proofs.YthpookdfaikabaaGreatDoor.AM
open Go
set_option maxRecDepth 1000000
set_option linter.unusedSimpArgs false
set_option linter.unusedVariables false
/-- the first one that is to go, or -1 -/
def firstD (d : Nat × Nat → Bool) : List (Nat × Nat) → Int → Int
  | [], _ => -1
  | x :: r, i => if d x then i else firstD d r (i + 1)
def keepN (d : Nat × Nat → Bool) (l : List (Nat × Nat)) (j : Nat) : List (Nat × Nat) := (l.take j).filter fun p => !d p
def curF (d : Nat × Nat → Bool) (l : List (Nat × Nat)) : Nat → List (Nat × Nat)
  | 0 => l
  | j + 1 => match l[j]? with
    | some p => if d p then curF d l j else (curF d l j).set (keepN d l j).length p
    | none => curF d l j
theorem firstD_case (d : Nat × Nat → Bool) : ∀ (l : List (Nat × Nat)) (i : Nat), (firstD d l i = -1 ∧ ∀ p ∈ l, d p = false) ∨ ∃ (k : Nat) (h : k < l.length), firstD d l i = ((i + k : Nat) : Int) ∧ d (l[k]'h) = true ∧ ∀ p ∈ l.take k, d p = false
  | [], i => .inl ⟨rfl, by simp⟩
  | x :: r, i => by
    by_cases hx : d x = true
    · exact .inr ⟨0, by simp, by simp [firstD, hx], by simpa using hx, by simp⟩
    · have hx : d x = false := by simpa using hx
      rcases firstD_case d r (i + 1) with ⟨h1, h2⟩ | ⟨k, hk, h1, h2, h3⟩
      · refine .inl ⟨?_, ?_⟩
        · simpa [firstD, hx] using h1
        · intro p hp
          rcases List.mem_cons.1 hp with rfl | hp
          · exact hx
          · exact h2 p hp
      · refine .inr ⟨k + 1, by simp; omega, ?_, by simpa using h2, ?_⟩
        · simp only [firstD, hx, Bool.false_eq_true, if_false]
          have : ((i : Int) + 1) = ((i + 1 : Nat) : Int) := by omega
          rw [this, h1]
          omega
        · intro p hp
          simp only [List.take_succ_cons] at hp
          rcases List.mem_cons.1 hp with rfl | hp
          · exact hx
          · exact h3 p hp
theorem keepN_succ (d : Nat × Nat → Bool) (l : List (Nat × Nat)) {j : Nat} (hj : j < l.length) : keepN d l (j + 1) = keepN d l j ++ if d (l[j]'hj) then [] else [l[j]'hj] := by
  unfold keepN
  rw [List.take_succ_eq_append_getElem hj, List.filter_append]
  congr 1
  by_cases h : d (l[j]'hj) = true
  · simp [h]
  · simp [h]
theorem keepN_le (d : Nat × Nat → Bool) (l : List (Nat × Nat)) (j : Nat) : (keepN d l j).length ≤ j := by
  unfold keepN
  exact Nat.le_trans (List.length_filter_le _ _) (by simp; omega)
theorem keepN_all (d : Nat × Nat → Bool) (l : List (Nat × Nat)) : keepN d l l.length = l.filter fun p => !d p := by
  unfold keepN; rw [List.take_length]
structure CurOK (d : Nat × Nat → Bool) (l : List (Nat × Nat)) (j : Nat) : Prop where
  len : (curF d l j).length = l.length
  kept : (curF d l j).take (keepN d l j).length = keepN d l j
  rest : (curF d l j).drop j = l.drop j
theorem curF_succ (d : Nat × Nat → Bool) (l : List (Nat × Nat)) {j : Nat} (hj : j < l.length) : curF d l (j + 1) = if d (l[j]'hj) then curF d l j else (curF d l j).set (keepN d l j).length (l[j]'hj) := by
  simp only [curF, List.getElem?_eq_getElem hj]
theorem cur_ok (d : Nat × Nat → Bool) (l : List (Nat × Nat)) : ∀ j, j ≤ l.length → CurOK d l j
  | 0, _ => ⟨rfl, by simp [keepN], by simp [curF]⟩
  | j + 1, h => by
    have ih := cur_ok d l j (by omega)
    have hj : j < l.length := by omega
    have hk := keepN_le d l j
    by_cases hd : d (l[j]'hj) = true
    · refine ⟨?_, ?_, ?_⟩
      · rw [curF_succ d l hj, if_pos hd]; exact ih.len
      · rw [curF_succ d l hj, if_pos hd, keepN_succ d l hj, if_pos hd, List.append_nil]; exact ih.kept
      · rw [curF_succ d l hj, if_pos hd, ← List.drop_drop, ih.rest, List.drop_drop]
    · have hl := ih.len
      refine ⟨?_, ?_, ?_⟩
      · rw [curF_succ d l hj, if_neg hd, List.length_set]; exact ih.len
      · rw [curF_succ d l hj, if_neg hd, keepN_succ d l hj, if_neg hd, List.length_append, List.length_singleton]
        rw [List.take_succ_eq_append_getElem (by rw [List.length_set]; omega), List.getElem_set_self, List.take_set_of_le (Nat.le_refl _), ih.kept]
      · rw [curF_succ d l hj, if_neg hd, List.drop_set_of_lt (by omega), ← List.drop_drop, ih.rest, List.drop_drop]
theorem cur_first (d : Nat × Nat → Bool) (l : List (Nat × Nat)) : ∀ k, k ≤ l.length → (∀ p ∈ l.take k, d p = false) → curF d l k = l ∧ keepN d l k = l.take k
  | 0, _, _ => ⟨rfl, rfl⟩
  | k + 1, hk, h => by
    have hk' : k < l.length := by omega
    have ih := cur_first d l k (by omega) fun p hp => h p (by
      rw [List.take_succ_eq_append_getElem hk']; exact List.mem_append_left _ hp)
    have hd : d (l[k]'hk') = false := h _ (by rw [List.take_succ_eq_append_getElem hk']; exact List.mem_append_right _ (List.mem_singleton.2 rfl))
    refine ⟨?_, ?_⟩
    · rw [curF_succ d l hk', hd, ih.1, ih.2]
      simp [List.length_take, Nat.min_eq_left (Nat.le_of_lt hk')]
    · rw [keepN_succ d l hk', hd, ih.2, List.take_succ_eq_append_getElem hk']
      simp
theorem flatC_set : ∀ (l : List (Nat × Nat)) (i : Nat) (p : Nat × Nat) (z : List C), i < l.length → setAt (flatC l ++ z) (i * 2) [C.int .i64 p.1, C.int .i64 p.2] = flatC (l.set i p) ++ z
  | q :: l, 0, p, z, _ => by simp [flatC, flatI, setAt]
  | q :: l, i + 1, p, z, h => by
    have ih := flatC_set l i p z (by simpa using h)
    have e : (i + 1) * 2 = i * 2 + 1 + 1 := by omega
    have hd : flatC (q :: l) ++ z = C.int .i64 q.1 :: C.int .i64 q.2 :: (flatC l ++ z) := by simp [flatC, flatI]
    rw [e, hd]
    simp only [setAt, List.set_cons_succ, List.cons_append] at ih ⊢
    simp only [flatC, flatI] at ih ⊢
    simp only [List.set_cons_succ, List.flatMap_cons, List.map_append, List.append_assoc]
    rw [← ih]
    simp
theorem flatC_zero (l : List (Nat × Nat)) (i : Nat) (z : List C) (h : i ≤ l.length) : setAt (flatC l ++ z) (i * 2) (List.replicate ((l.length - i) * 2) (C.int .i64 0)) = flatC (l.take i) ++ (List.replicate ((l.length - i) * 2) (C.int .i64 0) ++ z) := by
  have hl := flatC_len l
  have hf : (flatC (l.take i)).length = i * 2 := by rw [flatC_len, List.length_take]; congr 1; omega
  apply List.ext_getElem?
  intro j
  have htk : flatC l = flatC (l.take i) ++ flatC (l.drop i) := by rw [← flatC_app, List.take_append_drop]
  rw [setAt_get _ _ _ _ (by simp [hl]; omega)]
  simp only [List.length_replicate]
  by_cases h1 : j < i * 2
  · rw [if_neg (by omega), List.getElem?_append_left (by omega), List.getElem?_append_left (by omega), htk, List.getElem?_append_left (by omega)]
  · rw [List.getElem?_append_right (l₁ := flatC (l.take i)) (by omega), hf]
    by_cases h2 : j < i * 2 + (l.length - i) * 2
    · rw [if_pos (by omega), List.getElem?_append_left (by simp; omega)]
    · rw [if_neg (by omega), List.getElem?_append_right (by omega), List.getElem?_append_right (by simp; omega)]
      simp only [List.length_replicate]
      congr 1
      omega
end Go.Proofs.YthpookdfaikabaaGreatDoor.AM

/- Games: definitions and plain laws, no program in sight. -/
namespace Go.Proofs.YthpookdfaikabaaGreatDoor.AM
open Go
set_option maxRecDepth 1000000
set_option linter.unusedSimpArgs false
set_option linter.unusedVariables false
/-- where a loop that may end early ends -/
theorem first_exit (p : Nat → Bool) : ∀ n, ∃ k, k ≤ n ∧ (k = n ∨ p k = true) ∧ ∀ j, j < k → p j = false
  | 0 => ⟨0, Nat.le_refl _, .inl rfl, fun j hj => absurd hj (by omega)⟩
  | n + 1 => by
    obtain ⟨k, hk, h1, h2⟩ := first_exit p n
    rcases h1 with h1 | h1
    · subst h1
      by_cases hp : p k = true
      · exact ⟨k, by omega, .inr hp, h2⟩
      · refine ⟨k + 1, by omega, .inl rfl, fun j hj => ?_⟩
        by_cases hjk : j = k
        · subst hjk; simpa using hp
        · exact h2 j (by omega)
    · exact ⟨k, by omega, .inr h1, h2⟩
def bestOf (f : Nat × Nat → Int) (b : Int) (l : List (Nat × Nat)) : Int := l.foldl (fun b p => max b (f p)) b
theorem bestOf_le (f : Nat × Nat → Int) : ∀ (l : List (Nat × Nat)) (b : Int), b ≤ bestOf f b l
  | [], b => Int.le_refl _
  | p :: l, b => by
    have := bestOf_le f l (max b (f p))
    simp only [bestOf, List.foldl_cons] at this ⊢
    omega
theorem bestOf_ub (f : Nat × Nat → Int) (u : Int) : ∀ (l : List (Nat × Nat)) (b : Int), b ≤ u → (∀ p ∈ l, f p ≤ u) → bestOf f b l ≤ u
  | [], b, h, _ => h
  | p :: l, b, h, h2 => by
    have := h2 p (by simp)
    exact bestOf_ub f u l (max b (f p)) (by omega) fun q hq => h2 q (by simp [hq])
theorem bestOf_mem (f : Nat × Nat → Int) : ∀ (l : List (Nat × Nat)) (b : Int), (bestOf f b l = b) ∨ ∃ p ∈ l, f p = bestOf f b l
  | [], b => .inl rfl
  | p :: l, b => by
    rcases bestOf_mem f l (max b (f p)) with h | ⟨q, hq, h⟩
    · simp only [bestOf, List.foldl_cons] at h ⊢
      by_cases hb : f p ≤ b
      · left; omega
      · right; exact ⟨p, by simp, by omega⟩
    · exact .inr ⟨q, by simp [hq], h⟩
theorem bestOf_ge (f : Nat × Nat → Int) : ∀ (l : List (Nat × Nat)) (b : Int) (p : Nat × Nat), p ∈ l → f p ≤ bestOf f b l
  | q :: l, b, p, h => by
    rcases List.mem_cons.1 h with rfl | h
    · have := bestOf_le f l (max b (f p))
      simp only [bestOf, List.foldl_cons] at this ⊢
      omega
    · exact bestOf_ge f l _ p h
theorem bestOf_snoc (f : Nat × Nat → Int) (b : Int) (l : List (Nat × Nat)) (p : Nat × Nat) : bestOf f b (l ++ [p]) = max (bestOf f b l) (f p) := by simp [bestOf]
theorem take_snoc {α : Type} {l : List α} {k : Nat} (h : k < l.length) : l.take (k + 1) = l.take k ++ [l[k]'h] := List.take_succ_eq_append_getElem h
/-! ### the game to the end -/
def endV : Nat → List Int → Int
  | 0, _ => 0
  | n + 1, r => bestOf (fun p => -(endV n (pourR r p.1 p.2))) (-1) (usefulL r)
def endF (n : Nat) (r : List Int) (p : Nat × Nat) : Int := -(endV n (pourR r p.1 p.2))
def endTo (n : Nat) (r : List Int) (k : Nat) : Int := bestOf (endF n r) (-1) ((usefulL r).take k)
theorem endV_range : ∀ (n : Nat) (r : List Int), -1 ≤ endV n r ∧ endV n r ≤ 1
  | 0, _ => by simp [endV]
  | n + 1, r => ⟨bestOf_le _ _ _, bestOf_ub _ 1 _ _ (by omega) fun p _ => by have := endV_range n (pourR r p.1 p.2); omega⟩
theorem endTo_range (n : Nat) (r : List Int) (k : Nat) : -1 ≤ endTo n r k ∧ endTo n r k ≤ 1 :=
  ⟨bestOf_le _ _ _, bestOf_ub _ 1 _ _ (by omega) fun p _ => by unfold endF; have := endV_range n (pourR r p.1 p.2); omega⟩
theorem endTo_succ (n : Nat) (r : List Int) {k : Nat} (h : k < (usefulL r).length) : endTo n r (k + 1) = max (endTo n r k) (endF n r ((usefulL r)[k]'h)) := by
  unfold endTo; rw [take_snoc h, bestOf_snoc]
theorem endTo_all (n : Nat) (r : List Int) : endTo n r (usefulL r).length = endV (n + 1) r := by
  unfold endTo; rw [List.take_length]; rfl
theorem endTo_mono (n : Nat) (r : List Int) : ∀ (d k : Nat), k + d ≤ (usefulL r).length → endTo n r k ≤ endTo n r (k + d)
  | 0, k, _ => Int.le_refl _
  | d + 1, k, h => by
    have h1 := endTo_mono n r d k (by omega)
    have h2 := endTo_succ n r (k := k + d) (by omega)
    rw [show k + (d + 1) = k + d + 1 from rfl, h2]
    omega
/-! ### the game for tubes -/
def fullN (r : List Int) : Nat := (fullsFrom r 0 6).length
def gainP (r : List Int) (p : Nat × Nat) : Int := (fullN (pourR r p.1 p.2) : Int) - (fullN r : Int)
def tubeV : Nat → List Int → Int
  | 0, _ => 0
  | n + 1, r => if (usefulL r).length = 0 then 0 else bestOf (fun p => gainP r p - tubeV n (pourR r p.1 p.2)) (-100) (usefulL r)
def tubeF (n : Nat) (r : List Int) (p : Nat × Nat) : Int := gainP r p - tubeV n (pourR r p.1 p.2)
theorem fullsFrom_le6 (r : List Int) : ∀ (d i : Nat), (fullsFrom r i d).length ≤ d
  | 0, _ => Nat.le_refl _
  | d + 1, i => by
    have := fullsFrom_le6 r d (i + 1)
    unfold fullsFrom
    split <;> simp <;> omega
theorem fullN_le (r : List Int) : fullN r ≤ 6 := fullsFrom_le6 r 6 0
theorem gain_range (r : List Int) (p : Nat × Nat) : -6 ≤ gainP r p ∧ gainP r p ≤ 6 := by
  unfold gainP
  have := fullN_le r
  have := fullN_le (pourR r p.1 p.2)
  omega
theorem tubeV_range : ∀ (n : Nat) (r : List Int), n ≤ 10 → -(6 * n : Int) ≤ tubeV n r ∧ tubeV n r ≤ 6 * n
  | 0, _, _ => by simp [tubeV]
  | n + 1, r, hn => by
    have ih := fun p : Nat × Nat => tubeV_range n (pourR r p.1 p.2) (by omega)
    have hg := fun p => gain_range r p
    unfold tubeV
    split
    · omega
    · rename_i hne
      refine ⟨?_, bestOf_ub _ _ _ _ (by omega) fun p _ => by have := ih p; have := hg p; omega⟩
      have hl : 0 < (usefulL r).length := by omega
      have := bestOf_ge (fun p => gainP r p - tubeV n (pourR r p.1 p.2)) (usefulL r) (-100) ((usefulL r)[0]'hl) (List.getElem_mem hl)
      have := ih ((usefulL r)[0]'hl)
      have := hg ((usefulL r)[0]'hl)
      omega
theorem tubeF_range {n : Nat} (hn : n ≤ 10) (r : List Int) (p : Nat × Nat) : -66 ≤ tubeF n r p ∧ tubeF n r p ≤ 66 := by
  unfold tubeF
  have := gain_range r p
  have := tubeV_range n (pourR r p.1 p.2) hn
  omega
def tubeTo (n : Nat) (r : List Int) (k : Nat) : Int := bestOf (tubeF n r) (-100) ((usefulL r).take k)
theorem tubeTo_succ (n : Nat) (r : List Int) {k : Nat} (h : k < (usefulL r).length) : tubeTo n r (k + 1) = max (tubeTo n r k) (tubeF n r ((usefulL r)[k]'h)) := by
  unfold tubeTo; rw [take_snoc h, bestOf_snoc]
theorem tubeTo_all (n : Nat) (r : List Int) (h : (usefulL r).length ≠ 0) : tubeTo n r (usefulL r).length = tubeV (n + 1) r := by
  unfold tubeTo tubeV; rw [List.take_length, if_neg h]; rfl
theorem tubeTo_range {n : Nat} (hn : n ≤ 10) (r : List Int) (k : Nat) : -100 ≤ tubeTo n r k ∧ tubeTo n r k ≤ 66 :=
  ⟨bestOf_le _ _ _, bestOf_ub _ _ _ _ (by omega) fun p _ => (tubeF_range hn r p).2⟩
/-- the pours with the greatest value among the first k -/
def bestL (n : Nat) (r : List Int) (k : Nat) : List (Nat × Nat) := ((usefulL r).take k).filter fun p => decide (tubeF n r p = tubeTo n r k)
theorem bestL_len (n : Nat) (r : List Int) (k : Nat) : (bestL n r k).length ≤ k := by
  unfold bestL
  exact Nat.le_trans (List.length_filter_le _ _) (by simp; omega)
def boB (n : Nat) (r : List Int) (k : Nat) : Int := if k = 0 then 0 else tubeTo n r k
theorem bestL_pos {n : Nat} (hn : n ≤ 10) (r : List Int) {k : Nat} (hk : k < (usefulL r).length) : (bestL n r (k + 1)).length ≠ 0 := by
  intro h0
  have hnil : bestL n r (k + 1) = [] := List.eq_nil_of_length_eq_zero h0
  rcases bestOf_mem (tubeF n r) ((usefulL r).take (k + 1)) (-100) with h | ⟨p, hp, h⟩
  · have h1 := bestOf_ge (tubeF n r) ((usefulL r).take (k + 1)) (-100) ((usefulL r)[k]'hk) (by rw [take_snoc hk]; exact List.mem_append_right _ (List.mem_singleton.2 rfl))
    have := (tubeF_range hn r ((usefulL r)[k]'hk)).1
    omega
  · have : p ∈ bestL n r (k + 1) := by
      unfold bestL
      rw [List.mem_filter]
      exact ⟨hp, decide_eq_true h⟩
    rw [hnil] at this
    cases this
/-- one turn of the program's loop -/
theorem bo_step {n : Nat} (hn : n ≤ 10) (r : List Int) {k : Nat} (hk : k < (usefulL r).length) :
    (((bestL n r k).length = 0 ∨ boB n r k < tubeF n r ((usefulL r)[k]'hk)) → boB n r (k + 1) = tubeF n r ((usefulL r)[k]'hk) ∧ bestL n r (k + 1) = [(usefulL r)[k]'hk]) ∧
    (¬((bestL n r k).length = 0 ∨ boB n r k < tubeF n r ((usefulL r)[k]'hk)) → boB n r (k + 1) = boB n r k ∧ bestL n r (k + 1) = bestL n r k ++ if tubeF n r ((usefulL r)[k]'hk) = boB n r k then [(usefulL r)[k]'hk] else []) := by
  obtain ⟨f, hf⟩ : ∃ f, f = tubeF n r ((usefulL r)[k]'hk) := ⟨_, rfl⟩
  have hfr := tubeF_range hn r ((usefulL r)[k]'hk)
  have hs := tubeTo_succ n r hk
  have hle : ∀ p ∈ (usefulL r).take k, tubeF n r p ≤ tubeTo n r k := fun p hp => bestOf_ge _ _ _ _ hp
  have hk1 : boB n r (k + 1) = tubeTo n r (k + 1) := by simp [boB]
  rw [← hf] at hs hfr ⊢
  have hbl : bestL n r (k + 1) = (((usefulL r).take k).filter fun p => decide (tubeF n r p = tubeTo n r (k + 1))) ++ if f = tubeTo n r (k + 1) then [(usefulL r)[k]'hk] else [] := by
    unfold bestL
    rw [take_snoc hk, List.filter_append]
    congr 1
    rw [hf]
    by_cases h : tubeF n r ((usefulL r)[k]'hk) = tubeTo n r (k + 1) <;> simp [h]
  refine ⟨fun h => ?_, fun h => ?_⟩
  · have hlt : tubeTo n r k < f := by
      by_cases h0 : k = 0
      · subst h0
        have : tubeTo n r 0 = -100 := rfl
        omega
      · rcases h with h | h
        · obtain ⟨j, rfl⟩ : ∃ j, k = j + 1 := ⟨k - 1, by omega⟩
          exact absurd h (bestL_pos hn r (by omega))
        · simpa [boB, h0] using h
    have he : tubeTo n r (k + 1) = f := by omega
    refine ⟨by rw [hk1, he], ?_⟩
    rw [hbl, he, if_pos rfl]
    have : (((usefulL r).take k).filter fun p => decide (tubeF n r p = f)) = [] := by
      rw [List.filter_eq_nil_iff]
      intro p hp
      have := hle p hp
      simp only [decide_eq_true_eq]
      omega
    rw [this]
    rfl
  · have h0 : k ≠ 0 := by
      intro h0
      subst h0
      exact h (.inl rfl)
    have hb : boB n r k = tubeTo n r k := by simp [boB, h0]
    rw [hb] at h ⊢
    have hge : f ≤ tubeTo n r k := by
      have := fun h1 => h (.inr h1)
      omega
    have he : tubeTo n r (k + 1) = tubeTo n r k := by omega
    exact ⟨by rw [hk1, he], by rw [hbl, he]; rfl⟩
end Go.Proofs.YthpookdfaikabaaGreatDoor.AM

/- Fractions in lowest terms and means of plays: definitions and plain laws, no program in sight. -/
namespace Go.Proofs.YthpookdfaikabaaGreatDoor.AM
open Go
set_option maxRecDepth 1000000
set_option linter.unusedSimpArgs false
set_option linter.unusedVariables false
def cutF (a b : Nat) : Nat × Nat := (a / Nat.gcd a b, b / Nat.gcd a b)
def plusF (x y : Nat × Nat) : Nat × Nat := cutF (x.1 * y.2 + y.1 * x.2) (x.2 * y.2)
theorem cutF_pos {a b : Nat} (hb : 0 < b) : 0 < (cutF a b).2 :=
  Nat.div_pos (Nat.le_of_dvd hb (Nat.gcd_dvd_right a b)) (Nat.gcd_pos_of_pos_right a hb)
theorem cutF_ratio (a b : Nat) : (cutF a b).1 * b = a * (cutF a b).2 := by
  unfold cutF
  obtain ⟨x, hx⟩ := Nat.gcd_dvd_left a b
  obtain ⟨y, hy⟩ := Nat.gcd_dvd_right a b
  by_cases hg : Nat.gcd a b = 0
  · have h1 := Nat.eq_zero_of_gcd_eq_zero_left hg
    have h2 := Nat.eq_zero_of_gcd_eq_zero_right hg
    clear hx hy
    subst h1; subst h2
    rfl
  · generalize hgg : Nat.gcd a b = g at *
    have h1 : a / g = x := by rw [hx]; exact Nat.mul_div_cancel_left x (by omega)
    have h2 : b / g = y := by rw [hy]; exact Nat.mul_div_cancel_left y (by omega)
    simp only [h1, h2]
    rw [hx, hy]
    rw [← Nat.mul_assoc, Nat.mul_comm x g]
theorem cutF_le (a b : Nat) : (cutF a b).1 ≤ a ∧ (cutF a b).2 ≤ b := ⟨Nat.div_le_self _ _, Nat.div_le_self _ _⟩
theorem cutF_dvd (a b : Nat) : (cutF a b).2 ∣ b := Nat.div_dvd_of_dvd (Nat.gcd_dvd_right a b)
/-- the denominator of a sum divides what both denominators divide -/
theorem plusF_dvd {x y : Nat × Nat} {M : Nat} (hx : 0 < x.2) (hy : 0 < y.2) (hxM : x.2 ∣ M) (hyM : y.2 ∣ M) : (plusF x y).2 ∣ M := by
  obtain ⟨u, hu⟩ := hxM
  obtain ⟨v, hv⟩ := hyM
  unfold plusF cutF
  generalize hs : x.1 * y.2 + y.1 * x.2 = s
  generalize ht : x.2 * y.2 = t
  have htp : 0 < t := by rw [← ht]; exact Nat.mul_pos hx hy
  have hg : 0 < Nat.gcd s t := Nat.gcd_pos_of_pos_right s htp
  have key : s * M = (x.1 * u + y.1 * v) * t := by
    rw [← hs, ← ht, Nat.add_mul, Nat.add_mul]
    congr 1
    · calc x.1 * y.2 * M = x.1 * y.2 * (x.2 * u) := by rw [← hu]
        _ = x.1 * u * (x.2 * y.2) := by ac_rfl
    · calc y.1 * x.2 * M = y.1 * x.2 * (y.2 * v) := by rw [← hv]
        _ = y.1 * v * (x.2 * y.2) := by ac_rfl
  obtain ⟨s', hs'⟩ := Nat.gcd_dvd_left s t
  obtain ⟨t', ht'⟩ := Nat.gcd_dvd_right s t
  have hco := Nat.coprime_div_gcd_div_gcd hg
  have e1 : s / Nat.gcd s t = s' := by
    have := Nat.mul_div_cancel_left s' hg
    rw [← hs'] at this; exact this
  have e2 : t / Nat.gcd s t = t' := by
    have := Nat.mul_div_cancel_left t' hg
    rw [← ht'] at this; exact this
  rw [e1, e2] at hco
  simp only [e2]
  have h2 : s' * M = (x.1 * u + y.1 * v) * t' := by
    have : Nat.gcd s t * (s' * M) = Nat.gcd s t * ((x.1 * u + y.1 * v) * t') := by
      rw [← Nat.mul_assoc, ← hs', key]
      rw [Nat.mul_left_comm, ← ht']
    exact Nat.eq_of_mul_eq_mul_left hg this
  exact Nat.Coprime.dvd_of_dvd_mul_left (Nat.Coprime.symm hco) ⟨x.1 * u + y.1 * v, by rw [h2, Nat.mul_comm]⟩
theorem plusF_pos {x y : Nat × Nat} (hx : 0 < x.2) (hy : 0 < y.2) : 0 < (plusF x y).2 := cutF_pos (Nat.mul_pos hx hy)
/-- a value is at most c / n -/
def AtMost (x : Nat × Nat) (c n : Nat) : Prop := x.1 * n ≤ c * x.2
theorem AtMost.cut {a b c n : Nat} (hb : 0 < b) (h : a * n ≤ c * b) : AtMost (cutF a b) c n := by
  unfold AtMost
  have hr := cutF_ratio a b
  have : (cutF a b).1 * n * b ≤ c * (cutF a b).2 * b := by
    calc (cutF a b).1 * n * b = (cutF a b).1 * b * n := by ac_rfl
      _ = a * (cutF a b).2 * n := by rw [hr]
      _ = (a * n) * (cutF a b).2 := by ac_rfl
      _ ≤ (c * b) * (cutF a b).2 := Nat.mul_le_mul_right _ h
      _ = c * (cutF a b).2 * b := by ac_rfl
  exact Nat.le_of_mul_le_mul_right this hb
theorem AtMost.plus {x y : Nat × Nat} {c d n : Nat} (hx : 0 < x.2) (hy : 0 < y.2) (h1 : AtMost x c n) (h2 : AtMost y d n) : AtMost (plusF x y) (c + d) n := by
  refine AtMost.cut (Nat.mul_pos hx hy) ?_
  unfold AtMost at h1 h2
  calc (x.1 * y.2 + y.1 * x.2) * n = (x.1 * n) * y.2 + (y.1 * n) * x.2 := by rw [Nat.add_mul]; ac_rfl
    _ ≤ (c * x.2) * y.2 + (d * y.2) * x.2 := Nat.add_le_add (Nat.mul_le_mul_right _ h1) (Nat.mul_le_mul_right _ h2)
    _ = (c + d) * (x.2 * y.2) := by rw [Nat.add_mul]; ac_rfl
/-! ### plays -/
theorem poursL_len (r : List Int) : (poursL r).length ≤ 30 := by
  have h1 : poursL r = (((List.range 36).map pairAt).filter fun p => !decide (p.1 = p.2)).filter fun p => canP r p.1 p.2 := by
    unfold poursL poursTo
    rw [List.filter_filter]
    congr 1
    funext p
    by_cases hc : canP r p.1 p.2 = true
    · simp [hc, canP_ne hc]
    · have hc : canP r p.1 p.2 = false := by simpa using hc
      simp [hc]
  rw [h1]
  exact Nat.le_trans (List.length_filter_le _ _) (by decide)
theorem usefulL_len30 (r : List Int) : (usefulL r).length ≤ 30 := Nat.le_trans (List.length_filter_le _ _) (poursL_len r)
def meanTo (m : Nat × Nat → Nat × Nat) (len : Nat) (l : List (Nat × Nat)) : Nat × Nat := l.foldl (fun acc p => plusF acc (cutF (m p).1 ((m p).2 * len))) (0, 1)
def meanV (w : List Int → Nat) (e : List Int → Bool) : Nat → List Int → Nat × Nat
  | 0, r => (w r, 1)
  | n + 1, r => if e r = true then (w r, 1) else meanTo (fun p => meanV w e n (pourR r p.1 p.2)) (usefulL r).length (usefulL r)
theorem meanTo_snoc (m : Nat × Nat → Nat × Nat) (len : Nat) (l : List (Nat × Nat)) (p : Nat × Nat) : meanTo m len (l ++ [p]) = plusF (meanTo m len l) (cutF (m p).1 ((m p).2 * len)) := by simp [meanTo]
/-- what holds of a mean: a denominator that divides M, a value of at most 24 -/
structure MeanOK (x : Nat × Nat) (M : Nat) : Prop where
  pos : 0 < x.2
  dvd : x.2 ∣ M
  most : x.1 ≤ 24 * x.2
theorem meanTo_ok {m : Nat × Nat → Nat × Nat} {M len : Nat} (hlen : 0 < len) : ∀ (k : Nat) (l : List (Nat × Nat)), l.length = k → (∀ p ∈ l, MeanOK (m p) M) → 0 < (meanTo m len l).2 ∧ (meanTo m len l).2 ∣ M * len ∧ AtMost (meanTo m len l) (24 * k) len
  | 0, l, hl, _ => by
    have : l = [] := List.eq_nil_of_length_eq_zero hl
    subst this
    exact ⟨by simp [meanTo], ⟨M * len, by simp [meanTo]⟩, by simp [meanTo, AtMost]⟩
  | k + 1, l, hl, h => by
    obtain ⟨a, p, rfl⟩ : ∃ a p, l = a ++ [p] := ⟨l.dropLast, l.getLast (by intro e; subst e; simp at hl), (List.dropLast_concat_getLast _).symm⟩
    obtain ⟨i1, i2, i3⟩ := meanTo_ok (m := m) (M := M) hlen k a (by simpa using hl) fun q hq => h q (by simp [hq])
    have hp := h p (by simp)
    have hq : 0 < (m p).2 * len := Nat.mul_pos hp.pos hlen
    have hc := cutF_pos (a := (m p).1) hq
    have hd : (cutF (m p).1 ((m p).2 * len)).2 ∣ M * len := Nat.dvd_trans (cutF_dvd _ _) (Nat.mul_dvd_mul_right hp.dvd len)
    have hm : AtMost (cutF (m p).1 ((m p).2 * len)) 24 len := AtMost.cut hq (by
      calc (m p).1 * len ≤ (24 * (m p).2) * len := Nat.mul_le_mul_right _ hp.most
        _ = 24 * ((m p).2 * len) := by ac_rfl)
    rw [meanTo_snoc]
    refine ⟨plusF_pos i1 hc, plusF_dvd i1 hc i2 hd, ?_⟩
    have := AtMost.plus i1 hc i3 hm
    rwa [show 24 * k + 24 = 24 * (k + 1) by omega] at this
def lcm30 : Nat := 2329089562800
theorem lcm30_dvd : ∀ k, 0 < k → k ≤ 30 → k ∣ lcm30 := by
  intro k h1 h2
  have : (List.range 31).all (fun k => k == 0 || lcm30 % k == 0) = true := by decide
  have := List.all_eq_true.1 this k (List.mem_range.2 (by omega))
  simp only [Bool.or_eq_true, beq_iff_eq] at this
  rcases this with h | h
  · omega
  · exact Nat.dvd_of_mod_eq_zero h
/-- the mean of at most one pour: its denominator divides a number up to 30 -/
theorem mean1_ok {w : List Int → Nat} {e : List Int → Bool} (hw : ∀ r, r.length = 24 → rackP r = true → w r ≤ 24) (he : ∀ r, e r = false → 0 < (usefulL r).length) {n : Nat} (hn : n ≤ 1) {r : List Int} (hr : r.length = 24) (hv : rackP r = true) : ∃ k, 0 < k ∧ k ≤ 30 ∧ MeanOK (meanV w e n r) k := by
  have h0 : ∀ r : List Int, r.length = 24 → rackP r = true → MeanOK (w r, 1) 1 := fun r hr hv => ⟨by simp, ⟨1, rfl⟩, by have := hw r hr hv; simpa using this⟩
  match n, hn with
  | 0, _ => exact ⟨1, by omega, by omega, h0 r hr hv⟩
  | 1, _ =>
    unfold meanV
    by_cases hend : e r = true
    · rw [if_pos hend]; exact ⟨1, by omega, by omega, h0 r hr hv⟩
    · rw [if_neg hend]
      have hl := he r (by simpa using hend)
      obtain ⟨h1, h2, h3⟩ := meanTo_ok (m := fun p => meanV w e 0 (pourR r p.1 p.2)) (M := 1) hl _ (usefulL r) rfl fun p hp => by
        have hm := mem_usefulL hp
        exact h0 _ (pourR_len hr _ _) (rackP_pour hr hv hm.1 hm.2.1 (canP_ne hm.2.2))
      refine ⟨(usefulL r).length, hl, usefulL_len30 r, h1, by simpa using h2, ?_⟩
      unfold AtMost at h3
      have : (meanTo (fun p => meanV w e 0 (pourR r p.1 p.2)) (usefulL r).length (usefulL r)).1 * (usefulL r).length ≤ 24 * (meanTo (fun p => meanV w e 0 (pourR r p.1 p.2)) (usefulL r).length (usefulL r)).2 * (usefulL r).length := by
        refine Nat.le_trans h3 (Nat.le_of_eq ?_)
        ac_rfl
      exact Nat.le_of_mul_le_mul_right this hl
theorem mean_ok {w : List Int → Nat} {e : List Int → Bool} (hw : ∀ r, r.length = 24 → rackP r = true → w r ≤ 24) (he : ∀ r, e r = false → 0 < (usefulL r).length) {n : Nat} (hn : n ≤ 1) {r : List Int} (hr : r.length = 24) (hv : rackP r = true) : MeanOK (meanV w e n r) lcm30 ∧ (meanV w e n r).2 ≤ 30 := by
  obtain ⟨k, h1, h2, h3⟩ := mean1_ok hw he hn hr hv
  exact ⟨⟨h3.pos, Nat.dvd_trans h3.dvd (lcm30_dvd k h1 h2), h3.most⟩, Nat.le_trans (Nat.le_of_dvd h1 h3.dvd) h2⟩
/-- the numbers that a turn of the loop meets: small enough for a machine word -/
theorem meanTo_small {w : List Int → Nat} {e : List Int → Bool} (hw : ∀ r, r.length = 24 → rackP r = true → w r ≤ 24) (he : ∀ r, e r = false → 0 < (usefulL r).length) {n : Nat} (hn : n ≤ 1) {r : List Int} (hr : r.length = 24) (hv : rackP r = true) (hl : 0 < (usefulL r).length) (k : Nat) (hk : k ≤ (usefulL r).length) :
    0 < (meanTo (fun p => meanV w e n (pourR r p.1 p.2)) (usefulL r).length ((usefulL r).take k)).2 ∧
    (meanTo (fun p => meanV w e n (pourR r p.1 p.2)) (usefulL r).length ((usefulL r).take k)).2 ≤ 69872686884000 ∧
    (meanTo (fun p => meanV w e n (pourR r p.1 p.2)) (usefulL r).length ((usefulL r).take k)).1 ≤ 24 * 69872686884000 := by
  have hall : ∀ p ∈ (usefulL r).take k, MeanOK (meanV w e n (pourR r p.1 p.2)) lcm30 := fun p hp => by
    have hm := mem_usefulL (List.mem_of_mem_take hp)
    exact (mean_ok hw he hn (pourR_len hr _ _) (rackP_pour hr hv hm.1 hm.2.1 (canP_ne hm.2.2))).1
  obtain ⟨h1, h2, h3⟩ := meanTo_ok (m := fun p => meanV w e n (pourR r p.1 p.2)) (M := lcm30) hl k ((usefulL r).take k) (by simp; omega) hall
  generalize meanTo (fun p => meanV w e n (pourR r p.1 p.2)) (usefulL r).length ((usefulL r).take k) = x at *
  have hl30 := usefulL_len30 r
  have hle : x.2 ≤ 69872686884000 := by
    have := Nat.le_of_dvd (Nat.mul_pos (by decide) hl) h2
    refine Nat.le_trans this ?_
    calc lcm30 * (usefulL r).length ≤ lcm30 * 30 := Nat.mul_le_mul_left _ hl30
      _ = 69872686884000 := by decide
  refine ⟨h1, hle, ?_⟩
  unfold AtMost at h3
  have : x.1 * (usefulL r).length ≤ 24 * x.2 * (usefulL r).length := by
    refine Nat.le_trans h3 ?_
    calc 24 * k * x.2 ≤ 24 * (usefulL r).length * x.2 := Nat.mul_le_mul_right _ (Nat.mul_le_mul_left _ hk)
      _ = 24 * x.2 * (usefulL r).length := by ac_rfl
  have := Nat.le_of_mul_le_mul_right this hl
  omega
end Go.Proofs.YthpookdfaikabaaGreatDoor.AM

