/-
  The proof for regions whose order is open: the state is told by the set of operations that have been carried out.
-/
import Derived.Test.YtenheijeahpbkaaAmDraw
namespace Go.Proofs.Ytenheijeahpbkaa.AM
open Go

/-- what binds: the transitive closure of the model's edges -/
inductive Anc (ops : Array Oper) : Nat → Nat → Prop
  | edge {j : Nat} {o : Oper} {e : Edge} : ops[j]? = some o → e ∈ o.after → Region.binds .any e = true → Anc ops e.on j
  | step {i j : Nat} {o : Oper} {e : Edge} : ops[j]? = some o → e ∈ o.after → Region.binds .any e = true → Anc ops i e.on → Anc ops i j
def EdgesIn (ops : Array Oper) (S : Nat → Bool) (j : Nat) : Prop := ∀ o e, ops[j]? = some o → e ∈ o.after → Region.binds .any e = true → S e.on = true
def Down (ops : Array Oper) (S : Nat → Bool) : Prop := ∀ j, S j = true → EdgesIn ops S j
theorem anc_ready {ops : Array Oper} {S : Nat → Bool} (hd : Down ops S) {i j : Nat} (h : Anc ops i j) (hj : EdgesIn ops S j) : S i = true := by
  induction h with
  | edge ho he hb => exact hj _ _ ho he hb
  | step ho he hb _ ih => exact ih (hd _ (hj _ _ ho he hb))
theorem anc_down {ops : Array Oper} {S : Nat → Bool} (hd : Down ops S) {i j : Nat} (h : Anc ops i j) (hj : S j = true) : S i = true := anc_ready hd h (hd j hj)

/-- the listed run, state by state -/
structure Tr (F : Fns) (n0 : Nat) (qs : List AOper) (tr : Nat → Env × Heap) (out : Nat → Out) : Prop where
  step : ∀ k q, qs[k]? = some q → outA F q (tr k).1 (lkp (tr k).2) (tr k).2.length = some (out k) ∧ okD n0 (tr k).2 (tr k).1 (out k).2.2 q.o = true ∧
    tr (k + 1) = (put (tr k).1 q.d (out k).1, ups (out k).2.2 (tr k).2 ++ (out k).2.1)
theorem tr_of {F : Fns} {n0 : Nat} : ∀ (qs : List AOper) (e : Env) (h : Heap) (e' : Env) (h' : Heap), runOpsD F n0 qs e h = some (e', h') → ∃ tr out, Tr F n0 qs tr out ∧ tr 0 = (e, h) ∧ tr qs.length = (e', h')
  | [], e, h, e', h', hr => by
    simp only [runOpsD, Option.some.injEq] at hr
    exact ⟨fun _ => (e, h), fun _ => (.c .dead, [], []), ⟨fun k q hq => by simp at hq⟩, rfl, hr⟩
  | q :: qs, e, h, e', h', hr => by
    simp only [runOpsD, stepD] at hr
    obtain ⟨s, hs, hr⟩ := Option.bind_eq_some_iff.1 hr
    obtain ⟨r, hr1, hs⟩ := Option.bind_eq_some_iff.1 hs
    split at hs
    · rename_i hok
      injection hs with hs
      obtain ⟨tr, out, ht, h0, hn⟩ := tr_of qs s.1 s.2 e' h' hr
      refine ⟨fun k => match k with | 0 => (e, h) | k + 1 => tr k, fun k => match k with | 0 => r | k + 1 => out k, ⟨fun k q' hq => ?_⟩, rfl, hn⟩
      cases k with
      | zero =>
        simp at hq; subst hq
        exact ⟨hr1, hok, by simp only [h0]; exact hs.symm⟩
      | succ k => exact ht.step k q' (by simpa using hq)
    · cases hs

section
variable {F : Fns} {n0 : Nat} {qs : List AOper} {tr : Nat → Env × Heap} {out : Nat → Out}
def usT (qs : List AOper) (out : Nat → Out) (k : Nat) : List (Nat × Blk) := match qs[k]? with | some q => if q.o.isCall then [] else (out k).2.2 | none => []
def nsT (qs : List AOper) (out : Nat → Out) (k : Nat) : List Blk := match qs[k]? with | some _ => (out k).2.1 | none => []
def dT (qs : List AOper) (k : Nat) : Option Nat := (qs[k]?).bind (·.d)
def ES (qs : List AOper) (tr : Nat → Env × Heap) (out : Nat → Out) (S : Nat → Bool) : Nat → Env
  | 0 => (tr 0).1
  | k + 1 => if S k then put (ES qs tr out S k) (dT qs k) (out k).1 else ES qs tr out S k
def HS (qs : List AOper) (tr : Nat → Env × Heap) (out : Nat → Out) (S : Nat → Bool) : Nat → HF
  | 0 => lkp (tr 0).2
  | k + 1 => if S k then updH (HS qs tr out S k) (tr k).2.length (nsT qs out k) (usT qs out k) else HS qs tr out S k
theorem get_put (e : Env) (d : Option Nat) (v : V) (t : Nat) : get (put e d v) t = if d = some t then v else get e t := by
  cases d with
  | none => simp [put]
  | some d =>
    simp only [put, AM.get, Option.some.injEq]
theorem tr_len (ht : Tr F n0 qs tr out) {k : Nat} (hk : k < qs.length) : (tr (k + 1)).2.length = (tr k).2.length + (nsT qs out k).length := by
  have hq := List.getElem?_eq_getElem hk
  obtain ⟨_, _, h⟩ := ht.step k _ hq
  rw [h]
  simp only [List.length_append, ups_length, nsT, hq]
theorem tr_mono (ht : Tr F n0 qs tr out) : ∀ {k k' : Nat}, k ≤ k' → k' ≤ qs.length → (tr k).2.length ≤ (tr k').2.length := by
  intro k k' h
  induction h with
  | refl => intro _; exact Nat.le_refl _
  | @step m h ih =>
    intro hk
    have := ih (by omega)
    have h2 := tr_len ht (k := m) (by omega)
    exact Nat.le_trans this (by rw [h2]; omega)
theorem tr_end (ht : Tr F n0 qs tr out) {k k' : Nat} (h : k < k') (hk : k' ≤ qs.length) : (tr k).2.length + (nsT qs out k).length ≤ (tr k').2.length := by
  rw [← tr_len ht (by omega)]; exact tr_mono ht (by omega) hk
theorem usT_some (ht : Tr F n0 qs tr out) {k : Nat} {p : Nat × Blk} (hp : p ∈ usT qs out k) : ∃ q, qs[k]? = some q ∧ q.o.isCall = false ∧ p ∈ (out k).2.2 ∧ p.1 < (tr k).2.length := by
  unfold usT at hp
  split at hp
  · rename_i q hq
    split at hp
    · simp at hp
    · rename_i hc
      refine ⟨q, hq, by simpa using hc, hp, ?_⟩
      have := out_ups (ht.step k q hq).1 p hp
      obtain ⟨b, hb⟩ := Option.isSome_iff_exists.1 this
      exact (List.getElem?_eq_some_iff.1 hb).1
  · simp at hp
theorem updH_at {H : HF} {base : Nat} {ns : List Blk} {us : List (Nat × Blk)} {b : Nat} (h1 : b < base ∨ base + ns.length ≤ b) (h2 : ∀ p ∈ us, p.1 ≠ b) : updH H base ns us b = H b := by
  unfold updH
  rw [if_neg (by omega), updU_other us H b h2]
theorem ES_all (ht : Tr F n0 qs tr out) {S : Nat → Bool} : ∀ K, K ≤ qs.length → (∀ k, k < K → S k = true) → ES qs tr out S K = (tr K).1
  | 0, _, _ => rfl
  | K + 1, hK, h => by
    have hq := List.getElem?_eq_getElem (by omega : K < qs.length)
    simp only [ES, h K (by omega), if_true, ES_all ht K (by omega) fun k hk => h k (by omega)]
    rw [(ht.step K _ hq).2.2]
    simp [dT, hq]
theorem HS_all (ht : Tr F n0 qs tr out) {S : Nat → Bool} : ∀ K, K ≤ qs.length → (∀ k, k < K → S k = true) → HS qs tr out S K = lkp (tr K).2
  | 0, _, _ => rfl
  | K + 1, hK, h => by
    have hq := List.getElem?_eq_getElem (by omega : K < qs.length)
    obtain ⟨h1, h2, h3⟩ := ht.step K _ hq
    simp only [HS, h K (by omega), if_true, HS_all ht K (by omega) fun k hk => h k (by omega)]
    rw [h3, lkp_step (out_ups h1)]
    simp only [nsT, usT, hq]
    split
    · rename_i hc
      have hs : stillA n0 (tr K).2 (out K).2.2 = true := by
        unfold okD at h2
        cases ho : (qs[K]).o with
        | p q => rw [ho] at hc; simp [AOp.isCall] at hc
        | h q =>
          cases q <;> rw [ho] at hc h2 <;> first | exact h2 | simp [AOp.isCall] at hc
      have he : updU (out K).2.2 (lkp (tr K).2) = lkp (tr K).2 := updU_same _ _ fun p hp => by
        have := List.all_eq_true.1 hs p hp
        simp only [Bool.and_eq_true, decide_eq_true_eq] at this
        exact this.2
      funext i
      simp only [updH, updU, he]
    · rfl
theorem ES_skip {S : Nat → Bool} {K t : Nat} : ∀ m, (∀ k, K ≤ k → k < K + m → S k = true → dT qs k ≠ some t) → get (ES qs tr out S (K + m)) t = get (ES qs tr out S K) t
  | 0, _ => rfl
  | m + 1, h => by
    rw [← Nat.add_assoc]
    simp only [ES]
    split
    · rename_i hs
      rw [get_put, if_neg (h (K + m) (by omega) (by omega) hs)]
      exact ES_skip m fun k h1 h2 => h k h1 (by omega)
    · exact ES_skip m fun k h1 h2 => h k h1 (by omega)
theorem ES_agree {S S' : Nat → Bool} {t : Nat} : ∀ K, (∀ k, k < K → dT qs k = some t → S k = S' k) → get (ES qs tr out S K) t = get (ES qs tr out S' K) t
  | 0, _ => rfl
  | K + 1, h => by
    have ih := ES_agree (S := S) (S' := S') (t := t) K fun k hk => h k (by omega)
    simp only [ES]
    by_cases hd : dT qs K = some t
    · rw [h K (by omega) hd]
      split
      · rw [get_put, get_put, if_pos hd, if_pos hd]
      · exact ih
    · split <;> split <;> simp only [get_put, if_neg hd, ih]
theorem HS_skip {S : Nat → Bool} {K b : Nat} : ∀ m, (∀ k, K ≤ k → k < K + m → S k = true → (b < (tr k).2.length ∨ (tr k).2.length + (nsT qs out k).length ≤ b) ∧ ∀ p ∈ usT qs out k, p.1 ≠ b) → HS qs tr out S (K + m) b = HS qs tr out S K b
  | 0, _ => rfl
  | m + 1, h => by
    rw [← Nat.add_assoc]
    simp only [HS]
    split
    · rename_i hs
      obtain ⟨h1, h2⟩ := h (K + m) (by omega) (by omega) hs
      rw [updH_at h1 h2]
      exact HS_skip m fun k h1 h2 => h k h1 (by omega)
    · exact HS_skip m fun k h1 h2 => h k h1 (by omega)
theorem HS_agree {S S' : Nat → Bool} {b : Nat} : ∀ K, (∀ k, k < K → S k ≠ S' k → (b < (tr k).2.length ∨ (tr k).2.length + (nsT qs out k).length ≤ b) ∧ ∀ p ∈ usT qs out k, p.1 ≠ b) → HS qs tr out S K b = HS qs tr out S' K b
  | 0, _ => rfl
  | K + 1, h => by
    have ih := HS_agree (S := S) (S' := S') (b := b) K fun k hk => h k (by omega)
    simp only [HS]
    by_cases hS : S K = S' K
    · rw [hS]
      split
      · have key : ∀ (us : List (Nat × Blk)) (H H' : HF), H b = H' b → updU us H b = updU us H' b := by
          intro us
          induction us with
          | nil => intro H H' hh; exact hh
          | cons p us ihu => intro H H' hh; simp only [updU]; exact ihu _ _ (by simp only [hh])
        unfold updH
        split
        · rfl
        · exact key _ _ _ ih
      · exact ih
    · obtain ⟨h1, h2⟩ := h K (by omega) hS
      split <;> split <;> simp only [updH_at h1 h2, ih]
end
end Go.Proofs.Ytenheijeahpbkaa.AM
