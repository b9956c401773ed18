import Derived.Test.YtafphbegpjjolaaChances
/- Racks in order, without doubles; the racks at which a play can be: plain laws, no program in sight. -/
namespace Go.Proofs.Ytafphbegpjjolaa.AM
open Go
set_option maxRecDepth 1000000
set_option linter.unusedSimpArgs false
set_option linter.unusedVariables false
def lexB : List Int → List Int → Bool
  | a :: x, b :: y => if a = b then lexB x y else decide (a < b)
  | _, _ => false
theorem lexB_irr : ∀ x, lexB x x = false
  | [] => rfl
  | a :: x => by simp [lexB, lexB_irr x]
theorem lexB_tri : ∀ x y : List Int, x.length = y.length → lexB x y = false → x ≠ y → lexB y x = true
  | [], [], _, _, h => absurd rfl h
  | a :: x, b :: y, hl, h1, h2 => by
    simp only [lexB] at h1 ⊢
    by_cases hab : a = b
    · subst hab
      simp only [if_true] at h1 ⊢
      exact lexB_tri x y (by simpa using hl) h1 fun e => h2 (by rw [e])
    · rw [if_neg hab] at h1
      rw [if_neg (Ne.symm hab)]
      simp only [decide_eq_false_iff_not] at h1
      simp only [decide_eq_true_eq]
      omega
  | [], _ :: _, hl, _, _ => by simp at hl
  | _ :: _, [], hl, _, _ => by simp at hl
theorem lexB_trans : ∀ x y z : List Int, lexB x y = true → lexB y z = true → lexB x z = true
  | a :: x, b :: y, c :: z, h1, h2 => by
    simp only [lexB] at h1 h2 ⊢
    by_cases hab : a = b
    · subst hab
      rw [if_pos rfl] at h1
      by_cases hac : a = c
      · subst hac
        rw [if_pos rfl] at h2 ⊢
        exact lexB_trans x y z h1 h2
      · rw [if_neg hac] at h2 ⊢
        exact h2
    · rw [if_neg hab] at h1
      simp only [decide_eq_true_eq] at h1
      by_cases hbc : b = c
      · subst hbc
        rw [if_neg hab]
        simpa using h1
      · rw [if_neg hbc] at h2
        simp only [decide_eq_true_eq] at h2
        rw [if_neg (by omega)]
        simp only [decide_eq_true_eq]
        omega
  | [], _, _, h, _ => by simp [lexB] at h
  | _ :: _, [], _, h, _ => by simp [lexB] at h
  | _ :: _, _ :: _, [], _, h => by simp [lexB] at h
/-- a rack comes to its place -/
def putX (r : List Int) : List (List Int) → List (List Int)
  | [] => [r]
  | x :: t => if lexB x r = true then x :: putX r t else if x = r then x :: t else r :: x :: t
/-- the place: how many come ahead -/
def placeX (r : List Int) : List (List Int) → Nat
  | [] => 0
  | x :: t => if lexB x r = true then placeX r t + 1 else 0
theorem placeX_le (r : List Int) : ∀ l, placeX r l ≤ l.length
  | [] => Nat.le_refl _
  | x :: t => by have := placeX_le r t; simp only [placeX, List.length_cons]; split <;> omega
theorem placeX_lt (r : List Int) : ∀ (l : List (List Int)) (k : Nat) (h : k < l.length), k < placeX r l → lexB (l[k]'h) r = true
  | [], k, h, _ => by simp at h
  | x :: t, k, h, hk => by
    simp only [placeX] at hk
    split at hk
    · rename_i hx
      cases k with
      | zero => exact hx
      | succ k => exact placeX_lt r t k (by simpa using h) (by omega)
    · omega
theorem placeX_at (r : List Int) : ∀ (l : List (List Int)) (h : placeX r l < l.length), lexB (l[placeX r l]'h) r = false
  | [], h => by simp at h
  | x :: t, h => by
    by_cases hx : lexB x r = true
    · have e : placeX r (x :: t) = placeX r t + 1 := by simp [placeX, hx]
      have h' : placeX r t < t.length := by rw [e] at h; simpa using h
      have := placeX_at r t h'
      simp only [e, List.getElem_cons_succ]
      exact this
    · have e : placeX r (x :: t) = 0 := by simp [placeX, hx]
      simp only [e, List.getElem_cons_zero]
      simpa using hx
theorem putX_eq (r : List Int) : ∀ l : List (List Int), putX r l = if l[placeX r l]? = some r then l else l.take (placeX r l) ++ [r] ++ l.drop (placeX r l)
  | [] => by simp [putX, placeX]
  | x :: t => by
    have ih := putX_eq r t
    by_cases hx : lexB x r = true
    · simp only [putX, placeX, hx, if_true, List.getElem?_cons_succ, List.take_succ_cons, List.drop_succ_cons]
      rw [ih]
      split <;> simp
    · simp only [putX, placeX, hx, Bool.false_eq_true, if_false, List.getElem?_cons_zero, Option.some.injEq, List.take_zero, List.drop_zero, List.nil_append]
      split <;> simp
theorem mem_putX (r y : List Int) : ∀ l, y ∈ putX r l ↔ y = r ∨ y ∈ l
  | [] => by simp [putX]
  | x :: t => by
    have ih := mem_putX r y t
    simp only [putX]
    split
    · simp only [List.mem_cons, ih]
      constructor
      · rintro (h | h | h) <;> simp [h]
      · rintro (h | h | h) <;> simp [h]
    · split
      · rename_i e; subst e; simp
      · simp
theorem putX_len (r : List Int) : ∀ l, (putX r l).length ≤ l.length + 1
  | [] => by simp [putX]
  | x :: t => by
    have := putX_len r t
    simp only [putX]
    repeat' split
    all_goals (simp only [List.length_cons]; omega)
structure Row (l : List (List Int)) : Prop where
  ord : l.Pairwise fun a b => lexB a b = true
  ok : ∀ x ∈ l, RackOK x
theorem Row.nil : Row [] := ⟨List.Pairwise.nil, by simp⟩
theorem Row.put {l : List (List Int)} (h : Row l) {r : List Int} (hr : RackOK r) : Row (putX r l) := by
  refine ⟨?_, fun x hx => ((mem_putX r x l).1 hx).elim (fun e => e ▸ hr) (h.ok x)⟩
  obtain ⟨ho, hk⟩ := h
  induction l with
  | nil => simp [putX]
  | cons x t ih =>
    obtain ⟨h1, h2⟩ := List.pairwise_cons.1 ho
    simp only [putX]
    split
    · rename_i hx
      refine List.pairwise_cons.2 ⟨fun y hy => ?_, ih h2 fun z hz => hk z (by simp [hz])⟩
      rcases (mem_putX r y t).1 hy with rfl | hy
      · exact hx
      · exact h1 y hy
    · rename_i hx
      split
      · exact ho
      · rename_i hne
        have hlt : lexB r x = true := lexB_tri x r ((hk x (by simp)).len.trans hr.len.symm) (by simpa using hx) hne
        refine List.pairwise_cons.2 ⟨fun y hy => ?_, ho⟩
        rcases List.mem_cons.1 hy with rfl | hy
        · exact hlt
        · exact lexB_trans _ _ _ hlt (h1 y hy)
theorem Row.nodup {l : List (List Int)} (h : Row l) : l.Nodup := by
  refine h.ord.imp fun {a b} hab e => ?_
  subst e
  rw [lexB_irr] at hab
  cases hab
/-- what a rack can become by one pour of a play -/
def nexts (x : List Int) : List (List Int) := if endB x = true then [x] else (usefulL x).map fun p => pourR x p.1 p.2
def stepX (l : List (List Int)) : List (List Int) := (l.flatMap nexts).foldl (fun acc y => putX y acc) []
def endsX (r : List Int) : Nat → List (List Int)
  | 0 => [r]
  | n + 1 => stepX (endsX r n)
theorem fold_mem (y : List Int) : ∀ (ys acc : List (List Int)), y ∈ ys.foldl (fun acc y => putX y acc) acc ↔ y ∈ ys ∨ y ∈ acc
  | [], acc => by simp
  | z :: ys, acc => by
    simp only [List.foldl_cons, fold_mem y ys, mem_putX, List.mem_cons]
    constructor
    · rintro (h | h | h) <;> simp [h]
    · rintro ((h | h) | h) <;> simp [h]
theorem fold_row : ∀ (ys acc : List (List Int)), Row acc → (∀ y ∈ ys, RackOK y) → Row (ys.foldl (fun acc y => putX y acc) acc)
  | [], acc, h, _ => h
  | z :: ys, acc, h, hy => fold_row ys _ (h.put (hy z (by simp))) fun y hm => hy y (by simp [hm])
theorem fold_len : ∀ (ys acc : List (List Int)), (ys.foldl (fun acc y => putX y acc) acc).length ≤ ys.length + acc.length
  | [], acc => by simp
  | z :: ys, acc => by
    have h1 := fold_len ys (putX z acc)
    have h2 := putX_len z acc
    simp only [List.foldl_cons, List.length_cons]
    omega
theorem nexts_ok {x : List Int} (h : RackOK x) : ∀ y ∈ nexts x, RackOK y := by
  intro y hy
  unfold nexts at hy
  split at hy
  · simp at hy; subst hy; exact h
  · obtain ⟨p, hp, rfl⟩ := List.mem_map.1 hy
    obtain ⟨h1, h2, h3⟩ := mem_usefulL hp
    exact h.pour h1 h2 (canP_ne h3)
theorem nexts_len (x : List Int) : (nexts x).length ≤ 36 := by
  unfold nexts
  split
  · simp
  · rw [List.length_map]; exact usefulL_len x
theorem mem_stepX {l : List (List Int)} {y : List Int} : y ∈ stepX l ↔ ∃ x ∈ l, y ∈ nexts x := by
  unfold stepX
  rw [fold_mem]
  simp
theorem stepX_row {l : List (List Int)} (h : Row l) : Row (stepX l) := by
  refine fold_row _ _ Row.nil fun y hy => ?_
  obtain ⟨x, hx, hy⟩ := List.mem_flatMap.1 hy
  exact nexts_ok (h.ok x hx) y hy
theorem flat_len36 (l : List (List Int)) : (l.flatMap nexts).length ≤ l.length * 36 := by
  induction l with
  | nil => simp
  | cons x l ih => have := nexts_len x; simp only [List.flatMap_cons, List.length_append, List.length_cons]; omega
theorem stepX_len (l : List (List Int)) : (stepX l).length ≤ l.length * 36 := by
  have h1 := fold_len (l.flatMap nexts) []
  have h2 := flat_len36 l
  unfold stepX
  simp only [List.length_nil] at h1
  omega
theorem endsX_row {r : List Int} (h : RackOK r) : ∀ n, Row (endsX r n)
  | 0 => ⟨by simp [endsX], by simp [endsX]; exact h⟩
  | n + 1 => stepX_row (endsX_row h n)
theorem endsX_len (r : List Int) {n : Nat} (hn : n ≤ 2) : (endsX r n).length ≤ 1296 := by
  have h1 : (endsX r 1).length ≤ 36 := by have := stepX_len (endsX r 0); simpa [endsX] using this
  have h2 : (endsX r 2).length ≤ 1296 := by have := stepX_len (endsX r 1); have e : endsX r 2 = stepX (endsX r 1) := rfl; rw [e]; omega
  have : n = 0 ∨ n = 1 ∨ n = 2 := by omega
  rcases this with rfl | rfl | rfl
  · simp [endsX]
  · omega
  · omega
/-- a list of different racks, each of them in the row -/
theorem same_len {l m : List (List Int)} (hl : Row l) (hm : m.Nodup) (h : ∀ y, y ∈ m ↔ y ∈ l) : m.length = l.length :=
  ((List.perm_ext_iff_of_nodup hm hl.nodup).2 h).length_eq
end Go.Proofs.Ytafphbegpjjolaa.AM
