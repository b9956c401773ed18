import Derived.Test.YtafphbegpjjolaaMapL
import Derived.Test.YtafphbegpjjolaaRacks
import Derived.Test.YtafphbegpjjolaaConfs
/- Contracts: the order of racks, and putting a rack to its place among others. -/
namespace Go.Proofs.Ytafphbegpjjolaa.AM
open Go
set_option maxRecDepth 1000000
set_option linter.unusedSimpArgs false
set_option linter.unusedVariables false
theorem lexB_first : ∀ (a b : List Int) (K : Nat), a.length = b.length → K < a.length → (∀ j, j < K → a.getD j 0 = b.getD j 0) → a.getD K 0 ≠ b.getD K 0 → lexB a b = decide (a.getD K 0 < b.getD K 0)
  | x :: a, y :: b, 0, _, _, _, h => by
    simp only [List.getD_cons_zero] at h ⊢
    simp [lexB, h]
  | x :: a, y :: b, K + 1, hl, hK, he, h => by
    have h0 := he 0 (by omega)
    simp only [List.getD_cons_zero] at h0
    subst h0
    simp only [lexB, if_true, List.getD_cons_succ] at h ⊢
    exact lexB_first a b K (by simpa using hl) (by simpa using hK) (fun j hj => by simpa using he (j + 1) (by omega)) h
  | [], _, _, _, hK, _, _ => by simp at hK
  | _ :: _, [], _, hl, _, _, _ => by simp at hl
theorem getD_ext {a b : List Int} (hl : a.length = b.length) (h : ∀ j, j < a.length → a.getD j 0 = b.getD j 0) : a = b := by
  apply List.ext_getElem hl
  intro j h1 h2
  have := h j h1
  rwa [List.getD_eq_getElem?_getD, List.getD_eq_getElem?_getD, List.getElem?_eq_getElem h1, List.getElem?_eq_getElem h2] at this
def envB (i : Nat) : Env := [(2, .c (.ptr 0 0)), (3, .c (.ptr 1 0)), (5, .c (.int .i64 i))]
def envB2 (i k : Nat) : Env := [(2, .c (.ptr 0 0)), (3, .c (.ptr 1 0)), (5, .c (.int .i64 i)), (6, .c (.int .i64 k))]
theorem c_spec_l2Before (a b : List Int) (ha : a.length = 24) (hb : b.length = 24) : fnI pr np 95 [.agg (a.map (C.int .i64)), .agg (b.map (C.int .i64))] [] = some (.c (.bool (lexB a b)), []) := by
  obtain ⟨K, hK1, hK2, hK3⟩ := first_exit (fun k => decide (a.getD k 0 ≠ b.getD k 0)) 24
  have ga : ∀ i k : Nat, i < 6 → k < 4 → ((a.map (C.int .i64)).drop (i * 4 + k)).take 1 = [C.int .i64 (a.getD (i * 4 + k) 0)] := fun i k hi hk => drop_take1 (by omega)
  have gb : ∀ i k : Nat, i < 6 → k < 4 → ((b.map (C.int .i64)).drop (i * 4 + k)).take 1 = [C.int .i64 (b.getD (i * 4 + k) 0)] := fun i k hi hk => drop_take1 (by omega)
  have hsame : ∀ j, j < K → a.getD j 0 = b.getD j 0 := fun j hj => by simpa using hK3 j hj
  have hlex : lexB a b = if K < 24 then decide (a.getD K 0 < b.getD K 0) else false := by
    by_cases hk : K < 24
    · rw [if_pos hk]
      refine lexB_first a b K (ha.trans hb.symm) (by omega) hsame ?_
      rcases hK2 with h | h
      · omega
      · exact of_decide_eq_true h
    · rw [if_neg hk]
      have : a = b := getD_ext (ha.trans hb.symm) fun j hj => hsame j (by omega)
      rw [this, lexB_irr]
  rw [fb (fn := a95) rfl rfl]
  generalize lexB a b = X at hlex ⊢
  obtain ⟨I, hI⟩ : ∃ I, I = K / 4 := ⟨_, rfl⟩
  obtain ⟨J, hJ⟩ : ∃ J, J = K % 4 := ⟨_, rfl⟩
  have e1 : I * 4 + J = K := by omega
  have hm : J < 4 := by omega
  have hm' : (J : Int) < 4 := by omega
  simp [a95, ha, hb]
  rw [loop_to (fun i => (envB i, [Blk.cells (a.map (C.int .i64)) true, Blk.cells (b.map (C.int .i64)) true])) I]
  · by_cases hk : K < 24
    · have hd : a.getD K 0 ≠ b.getD K 0 := by
        rcases hK2 with h | h
        · omega
        · exact of_decide_eq_true h
      have hi : I < 6 := by omega
      have hi' : (I : Int) < 6 := by omega
      simp [envB, hi, hi']
      rw [loop_to (fun k => (envB2 I k, [Blk.cells (a.map (C.int .i64)) true, Blk.cells (b.map (C.int .i64)) true])) J]
      · have g1 := ga I J hi (by omega)
        have g2 := gb I J hi (by omega)
        have b1 : I * 4 + J + 1 ≤ 24 := by omega
        rw [e1] at g1 g2 b1
        have hd2 : (a.getD K 0 == b.getD K 0) = false := beq_eq_false_iff_ne.2 hd
        rw [if_pos hk] at hlex
        generalize a.getD K 0 = x at *
        generalize b.getD K 0 = y at *
        simp [envB2, hi', hm', g1, g2, b1, e1, ha, hb, hk, hd, hd2, hlex]
      · simp [envB2, sub]
      · intro k hk2
        have g1 := ga I k hi (by omega)
        have g2 := gb I k hi (by omega)
        have b1 : I * 4 + k + 1 ≤ 24 := by omega
        have hs := hsame (I * 4 + k) (by omega)
        have hm : (k : Int) < 4 := by omega
        have wk := wrapS (k := k) (by omega)
        rw [hs] at g1
        generalize b.getD (I * 4 + k) 0 = y at *
        simp [envB2, hi', hm, g1, g2, b1, ha, hb, wk, sub]
    · have : I = 6 := by omega
      subst this
      rw [if_neg hk] at hlex
      simp [envB, hk, hlex]
  · simp [envB, sub]
  · intro i hi
    have hi6 : i < 6 := by omega
    have hi' : (i : Int) < 6 := by omega
    have wi := wrapS (k := i) (by omega)
    simp [envB, hi']
    rw [loop_to (fun k => (envB2 i k, [Blk.cells (a.map (C.int .i64)) true, Blk.cells (b.map (C.int .i64)) true])) 4]
    · simp [envB2, wi, sub]
    · simp [envB2, sub]
    · intro k hk
      have hk' : (k : Int) < 4 := by omega
      have g1 := ga i k hi6 (by omega)
      have g2 := gb i k hi6 (by omega)
      have b1 : i * 4 + k + 1 ≤ 24 := by omega
      have hs := hsame (i * 4 + k) (by omega)
      have wk := wrapS (k := k) (by omega)
      rw [hs] at g1
      generalize b.getD (i * 4 + k) 0 = y at *
      simp [envB2, hi', hk', g1, g2, b1, ha, hb, wk, sub]
end Go.Proofs.Ytafphbegpjjolaa.AM

/- Contract: a rack is put to its place among others. -/
namespace Go.Proofs.Ytafphbegpjjolaa.AM
open Go
set_option maxRecDepth 1000000
set_option linter.unusedSimpArgs false
set_option linter.unusedVariables false
/-- a list of racks as cells -/
def flatR (l : List (List Int)) : List C := l.flatten.map (C.int .i64)
def All24 (l : List (List Int)) : Prop := ∀ r ∈ l, r.length = 24
theorem flat24 : ∀ {l : List (List Int)}, All24 l → l.flatten.length = l.length * 24
  | [], _ => rfl
  | r :: l, h => by
    have h1 := h r (by simp)
    have h2 := flat24 (l := l) fun x hx => h x (by simp [hx])
    simp only [List.flatten_cons, List.length_append, List.length_cons]
    omega
theorem flatR_len {l : List (List Int)} (h : All24 l) : (flatR l).length = l.length * 24 := by unfold flatR; rw [List.length_map, flat24 h]
@[simp] theorem flatR_ids (l : List (List Int)) : cids (flatR l) = [] := cids_ints _ _
@[simp] theorem flatR_cmp (g : Nat → Nat) (l : List (List Int)) : cmp g (flatR l) = flatR l := cmp_ints _ _ _
@[simp] theorem noDead_flatR (l : List (List Int)) : noDead (flatR l) = true := noDead_ints _ _
theorem flatR_nil : flatR [] = [] := rfl
theorem flatR_app (a b : List (List Int)) : flatR (a ++ b) = flatR a ++ flatR b := by simp [flatR]
theorem flatR_one (r : List Int) : flatR [r] = r.map (C.int .i64) := by simp [flatR]
theorem flatR_cut : ∀ {l : List (List Int)} (k : Nat), All24 l → (flatR l).take (k * 24) = flatR (l.take k) ∧ (flatR l).drop (k * 24) = flatR (l.drop k)
  | l, 0, _ => by simp [flatR]
  | [], k + 1, _ => by simp [flatR]
  | r :: l, k + 1, h => by
    have h1 : (r.map (C.int .i64)).length = 24 := by simpa using h r (by simp)
    obtain ⟨i1, i2⟩ := flatR_cut (l := l) k fun x hx => h x (by simp [hx])
    have e : flatR (r :: l) = r.map (C.int .i64) ++ flatR l := by simp [flatR]
    have e2 : flatR (r :: l.take k) = r.map (C.int .i64) ++ flatR (l.take k) := by simp [flatR]
    have hk : (k + 1) * 24 = 24 + k * 24 := by omega
    rw [List.take_succ_cons, List.drop_succ_cons, e, e2, hk]
    constructor
    · rw [List.take_append, h1, List.take_of_length_le (by omega), Nat.add_sub_cancel_left, i1]
    · rw [List.drop_append, h1, List.drop_eq_nil_of_le (by omega), Nat.add_sub_cancel_left, i2, List.nil_append]
theorem flatR_get {l : List (List Int)} (h : All24 l) {k : Nat} (hk : k < l.length) : ((flatR l).drop (k * 24)).take 24 = (l[k]'hk).map (C.int .i64) := by
  rw [(flatR_cut k h).2, List.drop_eq_getElem_cons hk]
  have e : flatR (l[k] :: l.drop (k + 1)) = l[k].map (C.int .i64) ++ flatR (l.drop (k + 1)) := by unfold flatR; rw [List.flatten_cons, List.map_append]
  rw [e]
  have h1 : (l[k].map (C.int .i64)).length = 24 := by simpa using h _ (List.getElem_mem hk)
  rw [List.take_append, h1, Nat.sub_self, List.take_of_length_le (by omega)]
  simp
def putV (r : List Int) (l : List (List Int)) : V × Heap := if l[placeX r l]? = some r then (.c (.sl 0 0 l.length 24), [.cells (flatR l) true]) else (.c (.sl 1 0 (l.length + 1) 24), [.cells (flatR l) true, .cells (flatR (putX r l)) true])
theorem c_spec_l5Put (l : List (List Int)) (hl : All24 l) (hn : l.length ≤ 2000) (r : List Int) (hr : r.length = 24) : fnI pr np 76 [.c (.sl 0 0 l.length 24), .agg (r.map (C.int .i64))] [.cells (flatR l) true] = some (putV r l) := by
  obtain ⟨K, hK⟩ : ∃ K, K = placeX r l := ⟨_, rfl⟩
  have hKl := placeX_le r l
  have hlt := placeX_lt r l
  have hat := placeX_at r l
  have hlen := flatR_len hl
  have h24 := take24 hr
  have hput := putX_eq r l
  unfold putV
  rw [hput]
  rw [← hK] at hKl hlt hat ⊢
  have hq : ∀ (x : List Int) (H : HF) (base : Nat), x.length = 24 → callA (fnI pr np) 95 [.agg (x.map (C.int .i64)), .agg (r.map (C.int .i64))] H base = some (.c (.bool (lexB x r)), [], []) := fun x H base hx => callA_pure (c_spec_l2Before x r hx hr) (by simp) (by simp) H base
  rw [fb (fn := a76) rfl rfl]
  simp [a76, hr]
  rw [loop_to (fun k => ([(0, V.c (C.sl 0 0 l.length 24)), (3, V.c (C.ptr 1 0)), (5, V.c (C.int .i64 k))], [Blk.cells (flatR l) true, Blk.cells (r.map (C.int .i64)) true])) K]
  · skip
    obtain ⟨t1, t2⟩ := flatR_cut K hl
    have hc : l.length - K + K = l.length := by omega
    have t3 : ((flatR l).drop (K * 24)).take ((l.length - K) * 24) = flatR (l.drop K) := by
      rw [t2, List.take_of_length_le]
      rw [flatR_len fun y hy => hl y (List.mem_of_mem_drop hy), List.length_drop]
      exact Nat.le_refl _
    have n1 : K * 24 + (l.length - K) * 24 ≤ l.length * 24 := by omega
    have n2 : K * 24 ≤ l.length * 24 := by omega
    have n3 : K + 1 + (l.length - K) = l.length + 1 := by omega
    have n4 : K ≤ 68719476736 := by omega
    have n5 : K + 1 ≤ 68719476736 := by omega
    have n6 : l.length + 1 ≤ 68719476736 := by omega
    have l1 : (flatR (l.take K)).length = K * 24 := by rw [flatR_len fun y hy => hl y (List.mem_of_mem_take hy), List.length_take]; omega
    have k1 : (flatR (l.take K)).take (K * 24) = flatR (l.take K) := List.take_of_length_le (by omega)
    have k2 : (flatR (l.take K) ++ r.map (C.int .i64)).take ((K + 1) * 24) = flatR (l.take K) ++ r.map (C.int .i64) := List.take_of_length_le (by simp [l1, hr]; omega)
    have n7 : (K + 1) * 24 ≤ K * 24 + 24 := by omega
    have hfin : flatR (l.take K) ++ (r.map (C.int .i64) ++ flatR (l.drop K)) = flatR (l.take K ++ r :: l.drop K) := by
      rw [flatR_app]
      congr 1
      have := flatR_app [r] (l.drop K)
      rw [flatR_one] at this
      exact this.symm
    by_cases hk : K < l.length
    · have hg := flatR_get hl hk
      have hx24 := hl _ (List.getElem_mem hk)
      have hb := hat hk
      have b1 : K * 24 + 24 ≤ l.length * 24 := by omega
      have hge : l[K]? = some (l[K]'hk) := List.getElem?_eq_getElem hk
      have hdq := fun H base => hq (l[K]'hk) H base hx24
      rw [hb] at hdq
      rw [hge]
      generalize hX : l[K]'hk = x at *
      have c1 := conf24 x hx24
      have c2 := conf24 r hr
      have c3 := ints_inj x r
      by_cases he : x = r
      · subst he
        simp [hk, hg, hx24, hr, h24, hlen, b1, hdq, c1, sub]
      · simp [hk, hg, hx24, hr, h24, hlen, b1, hdq, c1, c2, c3, he, sub, t1, t3, n1, n2, n3, n4, n5, n6, n7, l1, k1, k2, hKl, setAt_all, hfin, madeA, stillE, idOf]
    · have hKe : K = l.length := by omega
      have hge : l[K]? = none := List.getElem?_eq_none (by omega)
      rw [hge]
      simp [hk, hr, h24, hlen, sub, t1, t3, n1, n2, n3, n4, n5, n6, n7, l1, k1, k2, hKl, setAt_all, hfin, madeA, stillE, idOf]
  · simp [sub]
  · intro k hk
    have hkl : k < l.length := by omega
    have hg := flatR_get hl hkl
    have hx24 := hl _ (List.getElem_mem hkl)
    have b1 : k * 24 + 24 ≤ l.length * 24 := by omega
    have hdq := fun H base => hq (l[k]'hkl) H base hx24
    rw [hlt k hkl hk] at hdq
    have wk := wrapS (k := k) (by omega)
    generalize hX : l[k]'hkl = x at *
    simp [hkl, hg, hx24, hr, h24, hlen, b1, hdq, wk, sub]
end Go.Proofs.Ytafphbegpjjolaa.AM

/- Contract: the reference's racks at which a play can be; the law. -/
namespace Go.Proofs.Ytafphbegpjjolaa.AM
open Go
set_option maxRecDepth 1000000
set_option linter.unusedSimpArgs false
set_option linter.unusedVariables false
theorem Row.all24 {l : List (List Int)} (h : Row l) : All24 l := fun r hr => (h.ok r hr).len
theorem call_put_old {l : List (List Int)} {r : List Int} (hl : All24 l) (hn : l.length ≤ 2000) (hr : r.length = 24) (hp : l[placeX r l]? = some r) (i : Nat) (H : HF) (base : Nat) (hb : (H i == some (.cells (flatR l) true)) = true) :
    callA (fnI pr np) 76 [.c (.sl i 0 l.length 24), .agg (r.map (C.int .i64))] H base = some (.c (.sl i 0 l.length 24), [], [(i, .cells (flatR l) true)]) := by
  have hb : H i = some (.cells (flatR l) true) := by simpa using hb
  have hF := c_spec_l5Put l hl hn r hr
  unfold putV at hF
  rw [if_pos hp] at hF
  have := callA_one (x := .c (.sl i 0 l.length 24)) hb (by simp) (by simp) (show [V.agg (r.map (C.int .i64))].flatMap V.ids = [] by simp) (by simp) hF base
  rw [this]
  simp
theorem call_put_new {l : List (List Int)} {r : List Int} (hl : All24 l) (hn : l.length ≤ 2000) (hr : r.length = 24) (hp : ¬ l[placeX r l]? = some r) (i : Nat) (H : HF) (base : Nat) (hb : (H i == some (.cells (flatR l) true)) = true) :
    callA (fnI pr np) 76 [.c (.sl i 0 l.length 24), .agg (r.map (C.int .i64))] H base = some (.c (.sl base 0 (l.length + 1) 24), [.cells (flatR (putX r l)) true], [(i, .cells (flatR l) true)]) := by
  have hb : H i = some (.cells (flatR l) true) := by simpa using hb
  have hF := c_spec_l5Put l hl hn r hr
  unfold putV at hF
  rw [if_neg hp] at hF
  have := callA_one (x := .c (.sl i 0 l.length 24)) hb (by simp) (by simp) (show [V.agg (r.map (C.int .i64))].flatMap V.ids = [] by simp) (by simp) hF base
  rw [this]
  simp
theorem putX_old {l : List (List Int)} {r : List Int} (hp : l[placeX r l]? = some r) : putX r l = l := by rw [putX_eq, if_pos hp]
theorem putX_new {l : List (List Int)} {r : List Int} (hp : ¬ l[placeX r l]? = some r) : (putX r l).length = l.length + 1 := by
  rw [putX_eq, if_neg hp]
  have := placeX_le r l
  simp
  omega
def foldX (ys acc : List (List Int)) : List (List Int) := ys.foldl (fun acc y => putX y acc) acc
def upX (all : List (List Int)) (k : Nat) : List (List Int) := foldX ((all.take k).flatMap nexts) []
theorem upX_succ {all : List (List Int)} {k : Nat} (hk : k < all.length) : upX all (k + 1) = foldX (nexts (all[k]'hk)) (upX all k) := by
  unfold upX foldX
  rw [List.take_succ_eq_append_getElem hk, List.flatMap_append, List.foldl_append]
  simp
theorem upX_all (all : List (List Int)) : upX all all.length = stepX all := by unfold upX stepX foldX; rw [List.take_length]
theorem upX_row {all : List (List Int)} (h : Row all) (k : Nat) : Row (upX all k) := by
  refine fold_row _ _ Row.nil fun y hy => ?_
  obtain ⟨x, hx, hy⟩ := List.mem_flatMap.1 hy
  exact nexts_ok (h.ok x (List.mem_of_mem_take hx)) y hy
theorem upX_len {all : List (List Int)} (h : all.length ≤ 36) (k : Nat) : (upX all k).length ≤ 1296 := by
  have h1 := fold_len ((all.take k).flatMap nexts) []
  have h2 := flat_len36 (all.take k)
  have h3 : (all.take k).length ≤ 36 := by rw [List.length_take]; omega
  unfold upX foldX
  simp only [List.length_nil] at h1
  omega
theorem foldX_succ {x : List Int} {acc : List (List Int)} {j : Nat} (h : j < (usefulL x).length) : foldX (poursX x (j + 1)) acc = putX (pourR x ((usefulL x)[j]'h).1 ((usefulL x)[j]'h).2) (foldX (poursX x j) acc) := by
  rw [poursX_succ h]
  unfold foldX
  rw [List.foldl_append]
  rfl
theorem endsX_36 (r : List Int) {i : Nat} (hi : i ≤ 1) : (endsX r i).length ≤ 36 := by
  have h1 : (endsX r 1).length ≤ 36 := by have := stepX_len (endsX r 0); simpa [endsX] using this
  have : i = 0 ∨ i = 1 := by omega
  rcases this with rfl | rfl
  · simp [endsX]
  · exact h1
set_option maxHeartbeats 1000000 in
theorem c_spec_l9Ends (r : List Int) (h : RackOK r) (n : Nat) (hn : n ≤ 2) : fnI pr np 44 [.agg (r.map (C.int .i64)), .c (.int .i64 n)] [] = some (.c (.sl 0 0 (endsX r n).length 24), [.cells (flatR (endsX r n)) true]) := by
  have hr := h.len
  have h24 := take24 hr
  rw [fb (fn := a44) rfl rfl]
  simp [a44, hr, h24, setAt_all]
  rw [loop_to (fun i => ([(1, V.c (C.int .i64 n)), (5, V.c (C.sl 0 0 (endsX r i).length 24)), (6, V.c (C.int .i64 i))], [Blk.cells (flatR (endsX r i)) true])) n]
  · simp [sub]
  · simp [sub, endsX, flatR_one]
  · intro i hi
    have hrow := endsX_row h i
    have hl36 := endsX_36 r (i := i) (by omega)
    have wi := wrapS (k := i) (by omega)
    have hnext : endsX r (i + 1) = upX (endsX r i) (endsX r i).length := (upX_all _).symm
    rw [hnext]
    generalize endsX r i = all at *
    have hlen := flatR_len hrow.all24
    simp [hi]
    rw [loop_to (fun k => ([(1, V.c (C.int .i64 n)), (5, V.c (C.sl 0 0 all.length 24)), (6, V.c (C.int .i64 i)), (7, V.c (C.sl 1 0 (upX all k).length 24)), (8, V.c (C.int .i64 k))], [Blk.cells (flatR all) true, Blk.cells (flatR (upX all k)) true])) all.length]
    · simp [wi, sub]
    · simp [sub, upX, foldX, flatR_nil]
    · intro k hk
      have hx := hrow.ok _ (List.getElem_mem hk)
      have hg := flatR_get hrow.all24 hk
      have b1 : k * 24 + 24 ≤ all.length * 24 := by omega
      have wk := wrapS (k := k) (by omega)
      have hup := upX_succ hk
      have hBrow := upX_row hrow k
      have hBlen := upX_len hl36 k
      rw [hup]
      generalize upX all k = B at *
      generalize all[k]'hk = x at *
      have hxr := hx.len
      have hx24 := take24 hxr
      have hm := callA_new (c_spec_l9Moves x hx) (by simp)
      cases he : endB x with
      | true =>
        have hz : (movesL x).length = 0 := by simpa [endB_moves] using he
        have hnx : foldX (nexts x) B = putX x B := by simp [nexts, he, foldX]
        rw [hnx]
        by_cases hp : B[placeX x B]? = some x
        · have hc := call_put_old hBrow.all24 (by omega) hxr hp
          have e1 := putX_old hp
          rw [e1]
          simp [hk, hg, hlen, b1, hx24, hxr, hm, hz, hc, wk, sub]
          rw [loop_to (fun _ => ([(1, V.c (C.int .i64 n)), (5, V.c (C.sl 0 0 all.length 24)), (6, V.c (C.int .i64 i)), (7, V.c (C.sl 1 0 B.length 24)), (8, V.c (C.int .i64 k)), (9, V.c (C.sl 2 0 0 2)), (10, V.c (C.int .i64 0))], [Blk.cells (flatR all) true, Blk.cells (flatR B) true, Blk.cells (flatC (movesL x)) true])) 0]
          · simp [wk, sub]
          · simp [sub]
          · intro j hj
            omega
        · have hc := call_put_new hBrow.all24 (by omega) hxr hp
          have e1 := putX_new hp
          simp [hk, hg, hlen, b1, hx24, hxr, hm, hz, hc, wk, sub, e1]
          rw [loop_to (fun _ => ([(1, V.c (C.int .i64 n)), (5, V.c (C.sl 0 0 all.length 24)), (6, V.c (C.int .i64 i)), (7, V.c (C.sl 1 0 (B.length + 1) 24)), (8, V.c (C.int .i64 k)), (9, V.c (C.sl 2 0 0 2)), (10, V.c (C.int .i64 0))], [Blk.cells (flatR all) true, Blk.cells (flatR (putX x B)) true, Blk.cells (flatC (movesL x)) true])) 0]
          · simp [wk, sub]
          · simp [sub]
          · intro j hj
            omega
      | false =>
        obtain ⟨hmu, hpos, _⟩ := moves_of x he
        have hz : ¬ (usefulL x).length = 0 := by omega
        have hz' : (((usefulL x).length : Int) == 0) = false := beq_eq_false_iff_ne.2 (by omega)
        have hl30 := usefulL_len30 x
        have hnx : nexts x = poursX x (usefulL x).length := by simp [nexts, he, poursX]
        rw [hnx]
        rw [hmu] at hm
        simp [hk, hg, hlen, b1, hx24, hxr, hm, hz, hz', wk, sub]
        rw [loop_to (fun j => ([(1, V.c (C.int .i64 n)), (5, V.c (C.sl 0 0 all.length 24)), (6, V.c (C.int .i64 i)), (7, V.c (C.sl 1 0 (foldX (poursX x j) B).length 24)), (8, V.c (C.int .i64 k)), (9, V.c (C.sl 2 0 (usefulL x).length 2)), (10, V.c (C.int .i64 j))], [Blk.cells (flatR all) true, Blk.cells (flatR (foldX (poursX x j) B)) true, Blk.cells (flatC (usefulL x)) true])) (usefulL x).length]
        · simp [wk, sub]
        · simp [sub, poursX, foldX]
        · intro j hj
          obtain ⟨hi1, hj1, hpk⟩ := useful_pour hx (List.getElem_mem hj)
          have hq := callA_pure (c_spec_l2Pour x hx hi1 hj1) (by simp) (by simp)
          have hsucc := foldX_succ (acc := B) hj
          have hDrow : Row (foldX (poursX x j) B) := by
            refine fold_row _ _ hBrow fun y hy => ?_
            obtain ⟨p, hp, rfl⟩ := List.mem_map.1 hy
            obtain ⟨_, _, h3⟩ := useful_pour hx (List.mem_of_mem_take hp)
            exact h3
          have hDlen : (foldX (poursX x j) B).length ≤ 2000 := by
            have h1 := fold_len (poursX x j) B
            have h2 : (poursX x j).length ≤ 30 := by unfold poursX; rw [List.length_map, List.length_take]; omega
            unfold foldX
            omega
          rw [hsucc]
          obtain ⟨g1, g2⟩ := flatC_take1 (usefulL x) [] hj
          rw [List.append_nil] at g1 g2
          have b2 : j * 2 + 1 ≤ (usefulL x).length * 2 := by omega
          have b3 : j * 2 + 1 + 1 ≤ (usefulL x).length * 2 := by omega
          have wj := wrapS (k := j) (by omega)
          have hpl := hpk.len
          have hp24 := take24 hpl
          generalize foldX (poursX x j) B = D at *
          generalize pourR x ((usefulL x)[j]'hj).1 ((usefulL x)[j]'hj).2 = y at *
          by_cases hp : D[placeX y D]? = some y
          · have hc := call_put_old hDrow.all24 hDlen hpl hp
            have e1 := putX_old hp
            rw [e1]
            simp [hk, hj, hg, hlen, b1, b2, b3, g1, g2, hx24, hxr, hq, hpl, hp24, hc, wj, setAt_all, sub]
          · have hc := call_put_new hDrow.all24 hDlen hpl hp
            have e1 := putX_new hp
            simp [hk, hj, hg, hlen, b1, b2, b3, g1, g2, hx24, hxr, hq, hpl, hp24, hc, wj, setAt_all, sub, e1]
end Go.Proofs.Ytafphbegpjjolaa.AM
