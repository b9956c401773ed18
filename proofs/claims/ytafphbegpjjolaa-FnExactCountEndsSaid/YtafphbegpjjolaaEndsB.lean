import Derived.Test.YtafphbegpjjolaaEndsA
import Derived.Test.YtafphbegpjjolaaConfs
/- Contract: a rack is put to its place among others. -/
namespace Go.Proofs.Ytafphbegpjjolaa.AM
open Go
set_option maxRecDepth 1000000
set_option linter.unusedSimpArgs false
set_option linter.unusedVariables false
/-- a list of racks as cells -/
def flatR (l : List (List Int)) : List C := l.flatten.map (C.int .i64)
def All24 (l : List (List Int)) : Prop := ∀ r ∈ l, r.length = 24
theorem flat24 : ∀ {l : List (List Int)}, All24 l → l.flatten.length = l.length * 24
  | [], _ => rfl
  | r :: l, h => by
    have h1 := h r (by simp)
    have h2 := flat24 (l := l) fun x hx => h x (by simp [hx])
    simp only [List.flatten_cons, List.length_append, List.length_cons]
    omega
theorem flatR_len {l : List (List Int)} (h : All24 l) : (flatR l).length = l.length * 24 := by unfold flatR; rw [List.length_map, flat24 h]
@[simp] theorem flatR_ids (l : List (List Int)) : cids (flatR l) = [] := cids_ints _ _
@[simp] theorem flatR_cmp (g : Nat → Nat) (l : List (List Int)) : cmp g (flatR l) = flatR l := cmp_ints _ _ _
@[simp] theorem noDead_flatR (l : List (List Int)) : noDead (flatR l) = true := noDead_ints _ _
theorem flatR_nil : flatR [] = [] := rfl
theorem flatR_app (a b : List (List Int)) : flatR (a ++ b) = flatR a ++ flatR b := by simp [flatR]
theorem flatR_one (r : List Int) : flatR [r] = r.map (C.int .i64) := by simp [flatR]
theorem flatR_cut : ∀ {l : List (List Int)} (k : Nat), All24 l → (flatR l).take (k * 24) = flatR (l.take k) ∧ (flatR l).drop (k * 24) = flatR (l.drop k)
  | l, 0, _ => by simp [flatR]
  | [], k + 1, _ => by simp [flatR]
  | r :: l, k + 1, h => by
    have h1 : (r.map (C.int .i64)).length = 24 := by simpa using h r (by simp)
    obtain ⟨i1, i2⟩ := flatR_cut (l := l) k fun x hx => h x (by simp [hx])
    have e : flatR (r :: l) = r.map (C.int .i64) ++ flatR l := by simp [flatR]
    have e2 : flatR (r :: l.take k) = r.map (C.int .i64) ++ flatR (l.take k) := by simp [flatR]
    have hk : (k + 1) * 24 = 24 + k * 24 := by omega
    rw [List.take_succ_cons, List.drop_succ_cons, e, e2, hk]
    constructor
    · rw [List.take_append, h1, List.take_of_length_le (by omega), Nat.add_sub_cancel_left, i1]
    · rw [List.drop_append, h1, List.drop_eq_nil_of_le (by omega), Nat.add_sub_cancel_left, i2, List.nil_append]
theorem flatR_get {l : List (List Int)} (h : All24 l) {k : Nat} (hk : k < l.length) : ((flatR l).drop (k * 24)).take 24 = (l[k]'hk).map (C.int .i64) := by
  rw [(flatR_cut k h).2, List.drop_eq_getElem_cons hk]
  have e : flatR (l[k] :: l.drop (k + 1)) = l[k].map (C.int .i64) ++ flatR (l.drop (k + 1)) := by unfold flatR; rw [List.flatten_cons, List.map_append]
  rw [e]
  have h1 : (l[k].map (C.int .i64)).length = 24 := by simpa using h _ (List.getElem_mem hk)
  rw [List.take_append, h1, Nat.sub_self, List.take_of_length_le (by omega)]
  simp
def putV (r : List Int) (l : List (List Int)) : V × Heap := if l[placeX r l]? = some r then (.c (.sl 0 0 l.length 24), [.cells (flatR l) true]) else (.c (.sl 1 0 (l.length + 1) 24), [.cells (flatR l) true, .cells (flatR (putX r l)) true])
theorem c_spec_l5Put (l : List (List Int)) (hl : All24 l) (hn : l.length ≤ 2000) (r : List Int) (hr : r.length = 24) : fnI pr np 76 [.c (.sl 0 0 l.length 24), .agg (r.map (C.int .i64))] [.cells (flatR l) true] = some (putV r l) := by
  obtain ⟨K, hK⟩ : ∃ K, K = placeX r l := ⟨_, rfl⟩
  have hKl := placeX_le r l
  have hlt := placeX_lt r l
  have hat := placeX_at r l
  have hlen := flatR_len hl
  have h24 := take24 hr
  have hput := putX_eq r l
  unfold putV
  rw [hput]
  rw [← hK] at hKl hlt hat ⊢
  have hq : ∀ (x : List Int) (H : HF) (base : Nat), x.length = 24 → callA (fnI pr np) 95 [.agg (x.map (C.int .i64)), .agg (r.map (C.int .i64))] H base = some (.c (.bool (lexB x r)), [], []) := fun x H base hx => callA_pure (c_spec_l2Before x r hx hr) (by simp) (by simp) H base
  rw [fb (fn := a76) rfl rfl]
  simp [a76, hr]
  rw [loop_to (fun k => ([(0, V.c (C.sl 0 0 l.length 24)), (3, V.c (C.ptr 1 0)), (5, V.c (C.int .i64 k))], [Blk.cells (flatR l) true, Blk.cells (r.map (C.int .i64)) true])) K]
  · skip
    obtain ⟨t1, t2⟩ := flatR_cut K hl
    have hc : l.length - K + K = l.length := by omega
    have t3 : ((flatR l).drop (K * 24)).take ((l.length - K) * 24) = flatR (l.drop K) := by
      rw [t2, List.take_of_length_le]
      rw [flatR_len fun y hy => hl y (List.mem_of_mem_drop hy), List.length_drop]
      exact Nat.le_refl _
    have n1 : K * 24 + (l.length - K) * 24 ≤ l.length * 24 := by omega
    have n2 : K * 24 ≤ l.length * 24 := by omega
    have n3 : K + 1 + (l.length - K) = l.length + 1 := by omega
    have n4 : K ≤ 68719476736 := by omega
    have n5 : K + 1 ≤ 68719476736 := by omega
    have n6 : l.length + 1 ≤ 68719476736 := by omega
    have l1 : (flatR (l.take K)).length = K * 24 := by rw [flatR_len fun y hy => hl y (List.mem_of_mem_take hy), List.length_take]; omega
    have k1 : (flatR (l.take K)).take (K * 24) = flatR (l.take K) := List.take_of_length_le (by omega)
    have k2 : (flatR (l.take K) ++ r.map (C.int .i64)).take ((K + 1) * 24) = flatR (l.take K) ++ r.map (C.int .i64) := List.take_of_length_le (by simp [l1, hr]; omega)
    have n7 : (K + 1) * 24 ≤ K * 24 + 24 := by omega
    have hfin : flatR (l.take K) ++ (r.map (C.int .i64) ++ flatR (l.drop K)) = flatR (l.take K ++ r :: l.drop K) := by
      rw [flatR_app]
      congr 1
      have := flatR_app [r] (l.drop K)
      rw [flatR_one] at this
      exact this.symm
    by_cases hk : K < l.length
    · have hg := flatR_get hl hk
      have hx24 := hl _ (List.getElem_mem hk)
      have hb := hat hk
      have b1 : K * 24 + 24 ≤ l.length * 24 := by omega
      have hge : l[K]? = some (l[K]'hk) := List.getElem?_eq_getElem hk
      have hdq := fun H base => hq (l[K]'hk) H base hx24
      rw [hb] at hdq
      rw [hge]
      generalize hX : l[K]'hk = x at *
      have c1 := conf24 x hx24
      have c2 := conf24 r hr
      have c3 := ints_inj x r
      by_cases he : x = r
      · subst he
        simp [hk, hg, hx24, hr, h24, hlen, b1, hdq, c1, sub]
      · simp [hk, hg, hx24, hr, h24, hlen, b1, hdq, c1, c2, c3, he, sub, t1, t3, n1, n2, n3, n4, n5, n6, n7, l1, k1, k2, hKl, setAt_all, hfin, madeA, stillE, idOf]
    · have hKe : K = l.length := by omega
      have hge : l[K]? = none := List.getElem?_eq_none (by omega)
      rw [hge]
      simp [hk, hr, h24, hlen, sub, t1, t3, n1, n2, n3, n4, n5, n6, n7, l1, k1, k2, hKl, setAt_all, hfin, madeA, stillE, idOf]
  · simp [sub]
  · intro k hk
    have hkl : k < l.length := by omega
    have hg := flatR_get hl hkl
    have hx24 := hl _ (List.getElem_mem hkl)
    have b1 : k * 24 + 24 ≤ l.length * 24 := by omega
    have hdq := fun H base => hq (l[k]'hkl) H base hx24
    rw [hlt k hkl hk] at hdq
    have wk := wrapS (k := k) (by omega)
    generalize hX : l[k]'hkl = x at *
    simp [hkl, hg, hx24, hr, h24, hlen, b1, hdq, wk, sub]
end Go.Proofs.Ytafphbegpjjolaa.AM
