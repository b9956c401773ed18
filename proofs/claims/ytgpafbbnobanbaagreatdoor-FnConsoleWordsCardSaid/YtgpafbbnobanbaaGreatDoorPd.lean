import Derived.Test.YtgpafbbnobanbaaGreatDoorPc
/- Sorted racks; the search of forms is a search by levels. -/
namespace Go.Proofs.YtgpafbbnobanbaaGreatDoor.AM
open Go
set_option maxRecDepth 1000000
set_option linter.unusedSimpArgs false
set_option linter.unusedVariables false
theorem sortTo_iff (r : List Int) : ∀ (d : Nat) (seen : List Int) (i : Nat), sortTo r seen i d = true ↔ (∀ k, i ≤ k → k < i + d → (runsOf (tubeAt r k)).length ≤ 1 ∧ ∀ p, runsOf (tubeAt r k) = [p] → p.1 ∉ seen) ∧ ∀ k k', i ≤ k → k < k' → k' < i + d → ∀ p p', runsOf (tubeAt r k) = [p] → runsOf (tubeAt r k') = [p'] → p.1 ≠ p'.1
  | 0, seen, i => by
    simp only [sortTo, true_iff]
    exact ⟨fun k a b => by omega, fun k k' a b c => by omega⟩
  | d + 1, seen, i => by
    unfold sortTo
    split
    · rename_i e
      rw [sortTo_iff r d seen (i + 1)]
      constructor
      · rintro ⟨h1, h2⟩
        refine ⟨fun k a b => ?_, fun k k' a b c p p' ep ep' => ?_⟩
        · by_cases hk : k = i
          · subst hk; rw [e]; exact ⟨by simp, fun p hp => by simp at hp⟩
          · exact h1 k (by omega) (by omega)
        · by_cases hk : k = i
          · subst hk; rw [e] at ep; simp at ep
          · exact h2 k k' (by omega) b (by omega) p p' ep ep'
      · rintro ⟨h1, h2⟩
        exact ⟨fun k a b => h1 k (by omega) (by omega), fun k k' a b c => h2 k k' (by omega) b (by omega)⟩
    · rename_i q e
      rw [Bool.and_eq_true, sortTo_iff r d (seen ++ [q.1]) (i + 1)]
      simp only [Bool.not_eq_true', decide_eq_false_iff_not]
      constructor
      · rintro ⟨h0, h1, h2⟩
        refine ⟨fun k a b => ?_, fun k k' a b c p p' ep ep' => ?_⟩
        · by_cases hk : k = i
          · subst hk; rw [e]; exact ⟨by simp, fun p hp => by simp at hp; subst hp; exact h0⟩
          · obtain ⟨x, y⟩ := h1 k (by omega) (by omega)
            exact ⟨x, fun p hp hm => y p hp (List.mem_append_left _ hm)⟩
        · by_cases hk : k = i
          · subst hk
            rw [e] at ep; simp at ep; subst ep
            intro eq
            exact (h1 k' (by omega) (by omega)).2 p' ep' (by rw [← eq]; simp)
          · exact h2 k k' (by omega) b (by omega) p p' ep ep'
      · rintro ⟨h1, h2⟩
        refine ⟨(h1 i (by omega) (by omega)).2 q e, fun k a b => ?_, fun k k' a b c => h2 k k' (by omega) b (by omega)⟩
        obtain ⟨x, y⟩ := h1 k (by omega) (by omega)
        refine ⟨x, fun p hp hm => ?_⟩
        rcases List.mem_append.1 hm with hm | hm
        · exact y p hp hm
        · simp only [List.mem_singleton] at hm
          exact h2 i k (by omega) (by omega) (by omega) q p e hp hm.symm
    · rename_i a b l e
      simp only [Bool.false_eq_true, false_iff, not_and]
      intro h1
      have := (h1 i (by omega) (by omega)).1
      rw [e] at this
      simp at this
theorem absT_len (t : List Int) : (absT t).length = (runsOf t).length := by simp [absT]
theorem absT_one {t : List Int} {p : Int × Int} (h : runsOf t = [p]) : absT t = [(p.1.toNat, p.2.toNat)] := by simp [absT, h]
theorem fin_eq {r : List Int} (h : RackOK r) : sortP r = Way.sortedB (absR r) := by
  have key : sortP r = true ↔ Way.sortedB (absR r) = true := by
    unfold sortP
    rw [sortTo_iff, Way.sorted_iff]
    have one : ∀ k, (runsOf (tubeAt r k)).length ≤ 1 → (runsOf (tubeAt r k) = [] ∧ absT (tubeAt r k) = []) ∨ ∃ p, runsOf (tubeAt r k) = [p] ∧ absT (tubeAt r k) = [(p.1.toNat, p.2.toNat)] := by
      intro k hk
      cases e : runsOf (tubeAt r k) with
      | nil => exact .inl ⟨rfl, by simp [absT, e]⟩
      | cons p l =>
        rw [e] at hk
        simp only [List.length_cons] at hk
        have : l = [] := List.length_eq_zero_iff.1 (by omega)
        subst this
        exact .inr ⟨p, rfl, absT_one e⟩
    constructor
    · rintro ⟨h1, h2⟩ i hi
      have hl : ∀ k, k < 6 → (runsOf (tubeAt r k)).length ≤ 1 := fun k hk => (h1 k (by omega) (by omega)).1
      refine ⟨by show (absT (tubeAt r i)).length ≤ 1; rw [absT_len]; exact hl i hi, fun j hj => ?_⟩
      by_cases hij : i = j
      · exact .inl hij
      · right
        show (match absT (tubeAt r i), absT (tubeAt r j) with | (c, _) :: _, (d, _) :: _ => decide (c ≠ d) | _, _ => true) = true
        rcases one i (hl i hi) with ⟨_, e⟩ | ⟨p, e1, e⟩
        · rw [e]
        · rcases one j (hl j hj) with ⟨_, e'⟩ | ⟨p', e1', e'⟩
          · rw [e, e']
          · rw [e, e']
            simp only [decide_eq_true_eq]
            obtain ⟨c, hc, hc1, _⟩ := run_col (h.t4 hi) (h.tv hi) (p := p) (by rw [e1]; simp)
            obtain ⟨d, hd, hd1, _⟩ := run_col (h.t4 hj) (h.tv hj) (p := p') (by rw [e1']; simp)
            have ne : p.1 ≠ p'.1 := by
              rcases Nat.lt_or_ge i j with hlt | hge
              · exact h2 i j (by omega) hlt (by omega) p p' e1 e1'
              · exact fun x => h2 j i (by omega) (by omega) (by omega) p' p e1' e1 x.symm
            omega
    · intro hs
      have hl : ∀ k, k < 6 → (runsOf (tubeAt r k)).length ≤ 1 := fun k hk => by
        have : (absT (tubeAt r k)).length ≤ 1 := (hs k hk).1
        rwa [absT_len] at this
      refine ⟨fun k _ hk => ⟨hl k (by omega), fun p _ hm => by simp at hm⟩, fun k k' _ hkk hk' p p' e e' eq => ?_⟩
      rcases (hs k (by omega)).2 k' (by omega) with x | x
      · omega
      · have a1 : absR r k = [(p.1.toNat, p.2.toNat)] := absT_one e
        have a2 : absR r k' = [(p'.1.toNat, p'.2.toNat)] := absT_one e'
        rw [a1, a2, eq] at x
        simp at x
  cases a : sortP r with
  | true => rw [key.1 a]
  | false =>
    cases b : Way.sortedB (absR r) with
    | true => rw [key.2 b] at a; cases a
    | false => rfl
/-- Racks that can be sorted have at most four layers of a color. -/
theorem reach_lay : ∀ (m : Nat) (X : Way.Rack), (∀ k, k < 6 → Way.size (X k) ≤ 4) → (∀ k, k < 6 → Way.good (X k)) → Way.Reach m X → ∀ c, Way.tot (Way.lay c) X ≤ 4
  | 0, X, hs, hg, h, c => by
    have h : Way.sortedB X = true := h
    rw [Way.sorted_iff] at h
    have lay0 : ∀ t, Way.cnt c t = 0 → Way.lay c t = 0 := by
      intro t ht
      have hn := Way.cnt_no ht
      induction t with
      | nil => rfl
      | cons y t ih =>
        obtain ⟨d, n⟩ := y
        have : d ≠ c := hn (d, n) (List.mem_cons_self ..)
        simp only [Way.lay, if_neg this]
        simp only [Way.cnt, if_neg this] at ht
        have := ih (by omega) (Way.no_tail hn)
        omega
    have laysz : ∀ t, Way.good t → Way.lay c t ≤ Way.size t := by
      intro t
      induction t with
      | nil => intro _; exact Nat.le_refl _
      | cons y t ih =>
        obtain ⟨d, n⟩ := y
        intro g
        have := ih (Way.good_tail g)
        simp only [Way.lay, Way.size]
        split <;> omega
    by_cases e : ∃ k, k < 6 ∧ 0 < Way.lay c (X k)
    · obtain ⟨k, hk, hp⟩ := e
      have other : ∀ j, j < 6 → j ≠ k → Way.lay c (X j) = 0 := by
        intro j hj hjk
        rcases Nat.eq_zero_or_pos (Way.lay c (X j)) with h0 | h0
        · exact h0
        · exfalso
          have single : ∀ i, i < 6 → 0 < Way.lay c (X i) → ∃ n, X i = [(c, n)] := by
            intro i hi hp
            have hl := (h i hi).1
            cases ex : X i with
            | nil => rw [ex] at hp; simp [Way.lay] at hp
            | cons y t =>
              rw [ex] at hl hp
              simp only [List.length_cons] at hl
              have : t = [] := List.length_eq_zero_iff.1 (by omega)
              subst this
              obtain ⟨d, n⟩ := y
              simp only [Way.lay] at hp
              by_cases hd : d = c
              · subst hd; exact ⟨n, rfl⟩
              · rw [if_neg hd] at hp; omega
          obtain ⟨n1, e1⟩ := single k hk hp
          obtain ⟨n2, e2⟩ := single j hj h0
          rcases (h k hk).2 j hj with x | x
          · exact hjk x.symm
          · rw [e1, e2] at x; simp at x
      have : Way.tot (Way.lay c) X = Way.lay c (X k) := Way.sum6_only hk other
      rw [this]
      exact Nat.le_trans (laysz _ (hg k hk)) (hs k hk)
    · have : Way.tot (Way.lay c) X = Way.sum6 fun _ => 0 := Way.sum6_congr fun k hk => by
        rcases Nat.eq_zero_or_pos (Way.lay c (X k)) with h0 | h0
        · exact h0
        · exact (e ⟨k, hk, h0⟩).elim
      rw [this]; decide
  | m + 1, X, hs, hg, h, c => by
    obtain ⟨i, j, Y, hi, hj, e, hY⟩ := h
    have l := Way.pour_lay c hi hj e
    rw [← l]
    have keep : (∀ k, k < 6 → Way.size (Y k) ≤ 4) ∧ ∀ k, k < 6 → Way.good (Y k) := by
      obtain ⟨hij, p⟩ := Way.pour_of e
      have gi := hg i hi
      have gj := hg j hj
      have zi := hs i hi
      have zj := hs j hj
      have cons : ∀ (r : Nat × Nat) (t : Way.Tube), (1 ≤ r.2 ∧ 1 ≤ r.1 ∧ r.1 ≤ 5) → Way.good t → Way.good (r :: t) := by
        intro r t hr ht x hx
        rcases List.mem_cons.1 hx with rfl | hx
        · exact hr
        · exact ht x hx
      cases p with
      | E d n A ei ej hA hZ =>
        subst hZ
        rw [ei] at gi zi
        simp only [Way.size] at zi
        exact ⟨Way.upd_all (P := fun t => Way.size t ≤ 4) (Way.upd_all (P := fun t => Way.size t ≤ 4) hs (by omega)) (by simp only [Way.size]; omega), Way.upd_all (P := Way.good) (Way.upd_all (P := Way.good) hg (Way.good_tail gi)) (cons _ _ (gi (d, n) (List.mem_cons_self ..)) fun x hx => by cases hx)⟩
      | M d n p A B ei ej h1 h2 hZ =>
        subst hZ
        rw [ei] at gi zi
        rw [ej] at gj
        simp only [Way.size] at zi
        have g0 := gi (d, n) (List.mem_cons_self ..)
        have g1 : 1 ≤ n := g0.1
        exact ⟨Way.upd_all (P := fun t => Way.size t ≤ 4) (Way.upd_all (P := fun t => Way.size t ≤ 4) hs (by omega)) (by simp only [Way.size]; omega), Way.upd_all (P := Way.good) (Way.upd_all (P := Way.good) hg (Way.good_tail gi)) (cons _ _ ⟨by simp only; omega, g0.2⟩ (Way.good_tail gj))⟩
      | P d n p s A B ei ej hs' h1 h2 hZ =>
        subst hZ
        rw [ei] at gi zi
        rw [ej] at gj
        simp only [Way.size] at zi
        have g0 := gi (d, n + s) (List.mem_cons_self ..)
        exact ⟨Way.upd_all (P := fun t => Way.size t ≤ 4) (Way.upd_all (P := fun t => Way.size t ≤ 4) hs (by simp only [Way.size]; omega)) (by simp only [Way.size]; omega), Way.upd_all (P := Way.good) (Way.upd_all (P := Way.good) hg (cons _ _ ⟨h2, g0.2⟩ (Way.good_tail gi))) (cons _ _ ⟨by simp only; omega, g0.2⟩ (Way.good_tail gj))⟩
    exact reach_lay m Y keep.1 keep.2 hY c
theorem abs_good {r : List Int} (h : RackOK r) : (∀ k, k < 6 → Way.size (absR r k) ≤ 4) ∧ ∀ k, k < 6 → Way.good (absR r k) := by
  refine ⟨fun k hk => ?_, fun k hk => ?_⟩
  · cases e : absT (tubeAt r k) with
    | nil => show Way.size (absT (tubeAt r k)) ≤ 4; rw [e]; exact Nat.zero_le _
    | cons x A =>
      obtain ⟨c, n⟩ := x
      have t := absT_cons h hk e
      show Way.size (absT (tubeAt r k)) ≤ 4
      rw [e, t.l]; exact t.l4
  · cases e : absT (tubeAt r k) with
    | nil => show Way.good (absT (tubeAt r k)); rw [e]; intro x hx; cases hx
    | cons x A =>
      obtain ⟨c, n⟩ := x
      show Way.good (absT (tubeAt r k))
      rw [e]; exact (absT_cons h hk e).g
theorem kid_ok {r c : List Int} (h : RackOK r) (hc : c ∈ kidsL r) : RackOK c := by
  obtain ⟨i, j, hi, hj, hu, e⟩ := mem_kids.1 hc
  rw [e]
  exact formL_ok (h.pour hi hj (usable_ne hu))
/-- The search of forms. -/
def srch : Way.Srch (List Int) where
  abs := absR
  kids := kidsL
  norm := formL
  good := RackOK
  fin := sortP
  kid_good := fun r hr c hc => kid_ok hr hc
  sum := fun r hr m => K_kids hr m
  fin_eq := fun r hr => fin_eq hr
  norm_good := fun r hr => formL_ok hr
  norm_K := fun r hr m => K_formL hr m
  norm_kids := fun r hr c hc => kids_form hr hc
  small := fun r hr m hz c hc => by
    obtain ⟨i, j, hi, hj, hu, ec⟩ := mem_kids.1 hc
    have hij := usable_ne hu
    rw [ec, K_formL (hr.pour hi hj hij)]
    have e : Way.pourR (absR r) i j = some (absR (pourR r i j)) := by rw [link_pour hr hi hj, if_pos hu]
    rcases Nat.eq_zero_or_pos (Way.K m (absR (pourR r i j))) with h0 | h0
    · rw [h0]; exact Nat.two_pow_pos 64
    · have hR := (Way.K_pos m _).1 h0
      obtain ⟨g1, g2⟩ := abs_good hr
      have ly := reach_lay (m + 1) (absR r) g1 g2 ⟨i, j, _, hi, hj, e, hR⟩
      have ok : Way.Ok (absR r) := ⟨g1, g2, ly⟩
      refine Way.child_small ok (fun ⟨k, hk, h⟩ => ?_) hi hj e
      have := hz k hk
      have := (Way.K_pos k _).2 h
      omega
end Go.Proofs.YtgpafbbnobanbaaGreatDoor.AM
/- Contracts: a search begins. -/
namespace Go.Proofs.YtgpafbbnobanbaaGreatDoor.AM
open Go
set_option maxRecDepth 1000000
set_option linter.unusedSimpArgs false
set_option linter.unusedVariables false
@[simp] theorem okCells_map (i : Nat) : okCells (.c (.map i)) = true := rfl
@[simp] theorem ids_map (i : Nat) : (C.map i).ids = [i] := rfl
@[simp] theorem mp_map (g : Nat → Nat) (i : Nat) : (C.map i).mp g = .map (g i) := rfl
@[simp] theorem idOf_map (i : Nat) : idOf (.c (.map i)) = some i := rfl
@[simp] theorem idOf_ptr (i o : Nat) : idOf (.c (.ptr i o)) = some i := rfl
abbrev LvL := Way.Lv (List Int)
def rackC (r : List Int) : List C := r.map (C.int .i64)
def lvC (lv : LvL) : List (List C × C) := lv.map fun p => (rackC p.1, C.int .i64 p.2)
def racksC (l : List (List Int)) : List C := l.flatMap rackC
theorem keyI_small {n : Int} (h : 0 ≤ n ∧ n ≤ 5) : keyI (.int .i64 n) = true := by simp [keyI]; omega
theorem keyC_rack {r : List Int} (h : RackOK r) : keyC (rackC r) = true := by
  have hl := h.len
  simp only [keyC, Bool.and_eq_true, decide_eq_true_eq]
  refine ⟨by simp [rackC, hl], List.all_eq_true.2 fun c hc => ?_⟩
  obtain ⟨x, hx, rfl⟩ := List.mem_map.1 hc
  obtain ⟨j, hj, rfl⟩ := List.getElem_of_mem hx
  have hc := rack_cell h.len h.val (show j / 4 < 6 by omega) (show j % 4 < 4 by omega)
  rw [show j / 4 * 4 + j % 4 = j by omega] at hc
  unfold cellAt at hc
  rw [List.getD_eq_getElem?_getD, List.getElem?_eq_getElem hj] at hc
  exact keyI_small hc
theorem rackC_inj {x y : List Int} (h : rackC x = rackC y) : x = y := cells24_inj h
structure LvOK (lv : LvL) : Prop where
  ok : ∀ p, p ∈ lv → RackOK p.1
  nd : (lv.map (·.1)).Nodup
theorem mapK_lv {lv : LvL} (h : LvOK lv) : mapK (lvC lv) = true := by
  simp only [mapK, Bool.and_eq_true, decide_eq_true_eq]
  constructor
  · rw [List.all_eq_true]
    intro p hp
    obtain ⟨q, hq, rfl⟩ := List.mem_map.1 hp
    exact keyC_rack (h.ok q hq)
  · have e : (lvC lv).map (·.1) = (lv.map (·.1)).map rackC := by simp [lvC, List.map_map, Function.comp_def]
    rw [e]
    exact List.Pairwise.map rackC (fun a b hne he => hne (rackC_inj he)) h.nd
theorem findK_none {lv : LvL} {c : List Int} (h : Way.knows lv c = false) : findK (rackC c) (lvC lv) = none := by
  induction lv with
  | nil => rfl
  | cons p lv ih =>
    simp only [Way.knows, List.any_cons, Bool.or_eq_false_iff, decide_eq_false_iff_not] at h
    have hne : ¬ rackC p.1 = rackC c := fun e => h.1 (rackC_inj e)
    show findK (rackC c) ((rackC p.1, C.int .i64 p.2) :: lvC lv) = none
    simp only [findK, if_neg hne]
    exact ih h.2
theorem findK_some {lv : LvL} {c : List Int} (h : Way.knows lv c = true) : ∃ l, (c, l) ∈ lv ∧ findK (rackC c) (lvC lv) = some (C.int .i64 (l : Nat)) := by
  induction lv with
  | nil => cases h
  | cons p lv ih =>
    show ∃ l, (c, l) ∈ p :: lv ∧ findK (rackC c) ((rackC p.1, C.int .i64 p.2) :: lvC lv) = _
    by_cases e : rackC p.1 = rackC c
    · have := rackC_inj e
      refine ⟨p.2, ?_, by simp only [findK, if_pos e]⟩
      rw [← this]; exact List.mem_cons_self ..
    · have hne : ¬ p.1 = c := fun x => e (by rw [x])
      simp only [Way.knows, List.any_cons, Bool.or_eq_true, decide_eq_true_eq] at h
      obtain ⟨l, h1, h2⟩ := ih (h.resolve_left hne)
      exact ⟨l, List.mem_cons_of_mem _ h1, by simp only [findK, if_neg e]; exact h2⟩
theorem setK_lv {lv : LvL} {c : List Int} {d : Nat} (h : Way.knows lv c = false) : setK (rackC c) (C.int .i64 d) (lvC lv) = lvC (lv ++ [(c, d)]) := by
  rw [setK_new (findK_none h)]; simp [lvC]
@[simp] theorem lv_ids (lv : LvL) : (Blk.map (lvC lv)).ids = [] := by
  simp only [Blk.ids, lvC, List.flatMap_map]
  induction lv with
  | nil => rfl
  | cons p lv ih => simp [C.ids, ih]
@[simp] theorem lv_mp (g : Nat → Nat) (lv : LvL) : (Blk.map (lvC lv)).mp g = .map (lvC lv) := by
  simp only [Blk.mp, lvC, List.map_map]
  congr 1
theorem lvC_len (lv : LvL) : (lvC lv).length = lv.length := by simp [lvC]
/-- The heap of a search. -/
def sH (lv : LvL) (last : List (List Int)) (d : Nat) : Heap := [.cells [.map 1, .sl 2 0 last.length 24, .int .i64 d] true, .map (lvC lv), .cells (racksC last) true]
set_option maxHeartbeats 4000000 in
theorem c_searchFrom (r : List Int) (h : RackOK r) : fnI pr np 67 [.agg (rackC r)] [] = some (.c (.ptr 0 0), sH [(formL r, 0)] [formL r] 0) := by
  have hr := h.len
  have hf := formL_ok h
  have hl := hf.len
  have h24 := take24 hr
  have h24' := take24 hl
  have hc := callA_pure (c_formOf r hr) (by simp) (by simp)
  have hk : keyC ((formL r).map (C.int .i64)) = true := keyC_rack hf
  have hm : mapK [] = true := rfl
  rw [fb (fn := a67) rfl rfl rfl]
  simp [a67, rackC, hr, hl, hc, h24, h24', setAt_all, hk, hm, sH, racksC, lvC, setK, rackC, Blk.ids, Blk.mp]
end Go.Proofs.YtgpafbbnobanbaaGreatDoor.AM
/- Contracts: one step of a search. -/
namespace Go.Proofs.YtgpafbbnobanbaaGreatDoor.AM
open Go
set_option maxRecDepth 1000000
set_option linter.unusedSimpArgs false
set_option linter.unusedVariables false
theorem racksC_len {l : List (List Int)} (h : ∀ x, x ∈ l → RackOK x) : (racksC l).length = l.length * 24 := by
  induction l with
  | nil => rfl
  | cons a l ih =>
    have := ih fun x hx => h x (List.mem_cons_of_mem _ hx)
    have ha := (h a (List.mem_cons_self ..)).len
    simp only [racksC, List.flatMap_cons, List.length_append, List.length_cons] at this ⊢
    simp [rackC, ha, this]; omega
theorem racksC_app (l m : List (List Int)) : racksC (l ++ m) = racksC l ++ racksC m := by simp [racksC]
@[simp] theorem racksC_ids (l : List (List Int)) : cids (racksC l) = [] := by
  induction l with
  | nil => rfl
  | cons a l ih =>
    have : racksC (a :: l) = rackC a ++ racksC l := by simp [racksC]
    rw [this, cids_app, ih, rackC, cids_ints]; rfl
@[simp] theorem racksC_mp (g : Nat → Nat) (l : List (List Int)) : cmp g (racksC l) = racksC l := cmp_pure (racksC_ids l)
theorem racksC_get {l : List (List Int)} (h : ∀ x, x ∈ l → RackOK x) {k : Nat} (hk : k < l.length) : ((racksC l).drop (k * 24)).take 24 = rackC (l[k]'hk) := by
  induction l generalizing k with
  | nil => simp at hk
  | cons a l ih =>
    have ha := (h a (List.mem_cons_self ..)).len
    have e : racksC (a :: l) = rackC a ++ racksC l := by simp [racksC]
    have la : (rackC a).length = 24 := by simp [rackC, ha]
    rw [e]
    cases k with
    | zero => simp [List.take_append, la]
    | succ k =>
      have : (k + 1) * 24 = 24 + k * 24 := by omega
      rw [this, ← List.drop_drop, List.drop_left' la]
      exact ih (fun x hx => h x (List.mem_cons_of_mem _ hx)) (by simpa using hk)
/-- What is added keeps its shape. -/
structure SOK (s : LvL × List (List Int)) : Prop where
  lv : LvOK s.1
  nx : ∀ x, x ∈ s.2 → RackOK x
theorem add_ok {s : LvL × List (List Int)} (h : SOK s) {c : List Int} (hc : RackOK c) (d : Nat) : SOK (Way.add d s c) ∧ (Way.add d s c).2.length ≤ s.2.length + 1 := by
  unfold Way.add
  by_cases k : Way.knows s.1 c = true
  · rw [if_pos k]; exact ⟨h, by omega⟩
  · rw [if_neg k]
    refine ⟨⟨⟨fun p hp => ?_, ?_⟩, fun x hx => ?_⟩, by simp⟩
    · rcases List.mem_append.1 hp with hp | hp
      · exact h.lv.ok p hp
      · simp only [List.mem_singleton] at hp; subst hp; exact hc
    · rw [List.map_append, List.nodup_append]
      refine ⟨h.lv.nd, by simp, fun a ha b hb => ?_⟩
      simp only [List.map_cons, List.map_nil, List.mem_singleton] at hb
      subst hb
      rintro rfl
      obtain ⟨p, hp, rfl⟩ := List.mem_map.1 ha
      exact k (Way.knows_iff.2 ⟨p.2, hp⟩)
    · rcases List.mem_append.1 hx with hx | hx
      · exact h.nx x hx
      · simp only [List.mem_singleton] at hx; subst hx; exact hc
theorem addAll_ok (d : Nat) : ∀ (cs : List (List Int)) (s : LvL × List (List Int)), SOK s → (∀ c, c ∈ cs → RackOK c) → SOK (Way.addAll d s cs) ∧ (Way.addAll d s cs).2.length ≤ s.2.length + cs.length
  | [], s, h, _ => ⟨h, Nat.le_refl _⟩
  | c :: cs, s, h, hc => by
    obtain ⟨a, b⟩ := add_ok h (hc c (List.mem_cons_self ..)) d
    obtain ⟨a2, b2⟩ := addAll_ok d cs _ a fun x hx => hc x (List.mem_cons_of_mem _ hx)
    exact ⟨a2, by simp only [List.length_cons]; show (Way.addAll d (Way.add d s c) cs).2.length ≤ _; omega⟩
theorem kidsL_len (r : List Int) : (kidsL r).length = (usefulL r).length := by simp [kidsL]
theorem expand_ok (d : Nat) : ∀ (rs : List (List Int)) (s : LvL × List (List Int)), SOK s → (∀ r, r ∈ rs → RackOK r) → SOK (Way.expand srch d s rs) ∧ (Way.expand srch d s rs).2.length ≤ s.2.length + rs.length * 36
  | [], s, h, _ => ⟨h, Nat.le_add_right _ _⟩
  | r :: rs, s, h, hr => by
    have h1 := hr r (List.mem_cons_self ..)
    obtain ⟨a, b⟩ := addAll_ok d (kidsL r) s h fun c hc => kid_ok h1 hc
    have l36 := usefulL_len r
    rw [kidsL_len] at b
    obtain ⟨a2, b2⟩ := expand_ok d rs _ a fun x hx => hr x (List.mem_cons_of_mem _ hx)
    exact ⟨a2, by simp only [List.length_cons]; show (Way.expand srch d (Way.addAll d s (kidsL r)) rs).2.length ≤ _; omega⟩
theorem expand_take (d : Nat) (s : LvL × List (List Int)) (rs : List (List Int)) {i : Nat} (hi : i < rs.length) : Way.expand srch d s (rs.take (i + 1)) = Way.addAll d (Way.expand srch d s (rs.take i)) (kidsL (rs[i]'hi)) := by
  unfold Way.expand
  rw [List.take_succ_eq_append_getElem hi, List.foldl_append]
  rfl
theorem addAll_take (d : Nat) (s : LvL × List (List Int)) (cs : List (List Int)) {i : Nat} (hi : i < cs.length) : Way.addAll d s (cs.take (i + 1)) = Way.add d (Way.addAll d s (cs.take i)) (cs[i]'hi) := by
  unfold Way.addAll
  rw [List.take_succ_eq_append_getElem hi, List.foldl_append]
  rfl
end Go.Proofs.YtgpafbbnobanbaaGreatDoor.AM
/- Contracts: one step of a search. -/
namespace Go.Proofs.YtgpafbbnobanbaaGreatDoor.AM
open Go
set_option maxRecDepth 1000000
set_option linter.unusedSimpArgs false
set_option linter.unusedVariables false
/-- The heap of a search behind a step: the last forms of before lie in it yet. -/
def sH2 (lv : LvL) (old last : List (List Int)) (d : Nat) : Heap := [.cells [.map 1, .sl 3 0 last.length 24, .int .i64 d] true, .map (lvC lv), .cells (racksC old) true, .cells (racksC last) true]
set_option maxHeartbeats 4000000 in
theorem c_step (lv : LvL) (last : List (List Int)) (d : Nat) (ok : LvOK lv) (hl : ∀ x, x ∈ last → RackOK x) (hd : d < 1000000) (hn : last.length < 1000000) :
    fnI pr np 129 [.c (.ptr 0 0)] (sH lv last d) = some (.c (.bool (decide ((Way.expand srch (d + 1) (lv, []) last).1.length ≤ 600))), sH2 (Way.expand srch (d + 1) (lv, []) last).1 last (Way.expand srch (d + 1) (lv, []) last).2 (d + 1)) := by
  have wd := wrapS (k := d) (by omega)
  have hlen := racksC_len hl
  rw [fb (fn := a129) rfl rfl rfl]
  simp [a129, sH, wd]
  have hT := fun i => expand_ok (d + 1) (last.take i) (lv, []) ⟨ok, fun x hx => by cases hx⟩ fun r hr => hl r (List.mem_of_mem_take hr)
  have r0 : racksC [] = [] := rfl
  rw [loop_to (fun i => ([(0, V.c (C.ptr 0 0)), (3, V.c (C.sl 3 0 (Way.expand srch (d + 1) (lv, []) (last.take i)).2.length 24)), (23, V.c (C.sl 2 0 last.length 24)), (24, V.c (C.int .i64 last.length)), (25, V.c (C.int .i64 i))], [Blk.cells [.map 1, .sl 2 0 last.length 24, .int .i64 ((d : Int) + 1)] true, Blk.map (lvC (Way.expand srch (d + 1) (lv, []) (last.take i)).1), Blk.cells (racksC last) true, Blk.cells (racksC (Way.expand srch (d + 1) (lv, []) (last.take i)).2) true])) last.length]
  · have e6 : ∀ n : Nat, decide ((n : Int) ≤ 600) = decide (n ≤ 600) := fun n => by by_cases h : n ≤ 600 <;> simp [h] <;> omega
    simp [List.take_length, lvC_len, sH2, e6]
  · simp [Way.expand, r0]
  · intro i hi
    have hi' : (i : Int) < (last.length : Int) := by omega
    have wi := wrapS (k := i) (by omega)
    have hli : i * 24 + 24 ≤ last.length * 24 := by omega
    have hg := racksC_get hl hi
    have hr := hl _ (List.getElem_mem hi)
    have hrl := hr.len
    have e1 := expand_take (d + 1) (lv, []) last hi
    obtain ⟨hT1, hT2⟩ := hT i
    rw [e1]
    have hT3 : (Way.expand srch (d + 1) (lv, []) (last.take i)).2.length ≤ 36000000 := by
      have : (last.take i).length ≤ last.length := by simp; omega
      have : ((lv, ([] : List (List Int))).2.length) = 0 := rfl
      omega
    generalize Way.expand srch (d + 1) (lv, []) (last.take i) = st at *
    generalize last[i] = r at *
    have hu := callA_new (c_impl_useful r hr) (by simp)
    have r24 : (rackC r).length = 24 := by simp [rackC, hrl]
    have h24 := take24 hrl
    simp [hi, hi', hli, hlen, hg, hrl, rackC, hu, setAt_all, h24]
    have hI := fun k => addAll_ok (d + 1) ((kidsL r).take k) st hT1 fun c hc => kid_ok hr (List.mem_of_mem_take hc)
    have l36 := usefulL_len r
    have hkl := kidsL_len r
    rw [loop_to (fun k => ([(0, V.c (C.ptr 0 0)), (3, V.c (C.sl 3 0 (Way.addAll (d + 1) st ((kidsL r).take k)).2.length 24)), (5, V.c (C.ptr 4 0)), (23, V.c (C.sl 2 0 last.length 24)), (24, V.c (C.int .i64 last.length)), (25, V.c (C.int .i64 i)), (30, V.c (C.sl 5 0 (usefulL r).length 2)), (31, V.c (C.int .i64 (usefulL r).length)), (32, V.c (C.int .i64 k))], [Blk.cells [.map 1, .sl 2 0 last.length 24, .int .i64 ((d : Int) + 1)] true, Blk.map (lvC (Way.addAll (d + 1) st ((kidsL r).take k)).1), Blk.cells (racksC last) true, Blk.cells (racksC (Way.addAll (d + 1) st ((kidsL r).take k)).2) true, Blk.cells (r.map (C.int .i64)) true, Blk.cells (flatC (usefulL r) ++ padC r) true])) (usefulL r).length]
    · have e7 : (kidsL r).take (usefulL r).length = kidsL r := by rw [← hkl, List.take_length]
      simp [e7, wi]
    · have pid : cids (padC r) = [] := cids_rep _ _ _
      simp [Way.addAll, pid]
    · intro k hk
      have hk' : (k : Int) < ((usefulL r).length : Int) := by omega
      have wk := wrapS (k := k) (by omega)
      have hkk : k < (kidsL r).length := by omega
      have e2 := addAll_take (d + 1) st (kidsL r) hkk
      rw [e2]
      obtain ⟨hI1, hI2⟩ := hI k
      have hI3 : (Way.addAll (d + 1) st ((kidsL r).take k)).2.length ≤ 36001000 := by
        have : ((kidsL r).take k).length ≤ (kidsL r).length := by simp; omega
        omega
      have hp := flatC_get (usefulL r) (padC r) k hk
      have hm := List.getElem_mem hk
      have hkid : (kidsL r)[k]'hkk = formL (pourR r ((usefulL r)[k]'hk).1 ((usefulL r)[k]'hk).2) := by simp [kidsL]
      rw [hkid]
      generalize Way.addAll (d + 1) st ((kidsL r).take k) = T at *
      generalize (usefulL r)[k] = p at *
      obtain ⟨x, y⟩ := p
      obtain ⟨hx, hy, hxy⟩ := mem_useful.1 hm
      have hq := hr.pour hx hy (usable_ne hxy)
      have hql := hq.len
      have hf := formL_ok hq
      have hfl := hf.len
      have cp := callA_pure (c_impl_pour r hr hx hy) (by simp) (by simp)
      have cf := callA_pure (c_formOf (pourR r x y) hql) (by simp) (by simp)
      have mk := mapK_lv hI1.lv
      have hkl2 : k * 2 + 2 ≤ (usefulL r).length * 2 + (padC r).length := by omega
      have pid : cids (padC r) = [] := cids_rep _ _ _
      have ql24 := take24 hql
      have fl24 := take24 hfl
      generalize formL (pourR r x y) = F at *
      generalize pourR r x y = q at *
      have kc : keyC (F.map (C.int .i64)) = true := keyC_rack hf
      cases hkn : Way.knows T.1 F with
      | true =>
        obtain ⟨l, _, hf2⟩ := findK_some hkn
        have hf3 : findK (F.map (C.int .i64)) (lvC T.1) = some (C.int .i64 l) := hf2
        have ha : Way.add (d + 1) T F = T := by unfold Way.add; rw [if_pos hkn]
        rw [ha]
        simp [hk, hk', wk, hp, hrl, hql, hfl, h24, ql24, fl24, cp, cf, kc, mk, hf3, setAt_all, hkl2, pid]
      | false =>
        have hf2 := findK_none hkn
        have hf3 : findK (F.map (C.int .i64)) (lvC T.1) = none := hf2
        have ha : Way.add (d + 1) T F = (T.1 ++ [(F, d + 1)], T.2 ++ [F]) := by unfold Way.add; rw [if_neg (by simp [hkn])]
        rw [ha]
        have hs2 := setK_lv (d := d + 1) hkn
        have hs3 : setK (F.map (C.int .i64)) (C.int .i64 ((d : Int) + 1)) (lvC T.1) = lvC (T.1 ++ [(F, d + 1)]) := hs2
        have rT := racksC_len hI1.nx
        have hlT : T.2.length ≤ 68719476735 := by omega
        have rtk : (racksC T.2).take (T.2.length * 24) = racksC T.2 := by rw [← rT, List.take_length]
        have rF : racksC [F] = F.map (C.int .i64) := by simp [racksC, rackC]
        simp [hk, hk', wk, hp, hrl, hql, hfl, h24, ql24, fl24, cp, cf, kc, mk, hf3, hs3, setAt_all, hkl2, pid, rT, hlT, racksC_app, rF, rtk]
end Go.Proofs.YtgpafbbnobanbaaGreatDoor.AM
/- Contracts: is one of the last racks sorted? -/
namespace Go.Proofs.YtgpafbbnobanbaaGreatDoor.AM
open Go
set_option maxRecDepth 1000000
set_option linter.unusedSimpArgs false
set_option linter.unusedVariables false
def firstS : List (List Int) → Int → Int
  | [], _ => -1
  | r :: l, i => if sortP r then i else firstS l (i + 1)
theorem firstS_case : ∀ (l : List (List Int)) (i : Nat), (firstS l i = -1 ∧ ∀ r, r ∈ l → sortP r = false) ∨ ∃ k, ∃ hk : k < l.length, firstS l i = ((i + k : Nat) : Int) ∧ sortP (l[k]'hk) = true ∧ ∀ j (hj : j < k), sortP (l[j]'(by omega)) = false
  | [], i => .inl ⟨rfl, fun r h => by cases h⟩
  | r :: l, i => by
    unfold firstS
    cases e : sortP r with
    | true => exact .inr ⟨0, by simp, by simp, e, fun j hj => by omega⟩
    | false =>
      rcases firstS_case l (i + 1) with ⟨h1, h2⟩ | ⟨k, hk, h1, h2, h3⟩
      · left
        refine ⟨by simpa using h1, fun x hx => ?_⟩
        rcases List.mem_cons.1 hx with rfl | hx
        · exact e
        · exact h2 x hx
      · refine .inr ⟨k + 1, by simpa using hk, ?_, by simpa using h2, fun j hj => ?_⟩
        · simp only [Bool.false_eq_true, if_false]
          have : ((i : Int) + 1) = ((i + 1 : Nat) : Int) := by omega
          rw [this, h1]; congr 1; omega
        · cases j with
          | zero => exact e
          | succ j => exact h3 j (by omega)
theorem firstS_any (l : List (List Int)) (i : Nat) : decide (firstS l i ≥ 0) = l.any sortP := by
  rcases firstS_case l i with ⟨h1, h2⟩ | ⟨k, hk, h1, h2, h3⟩
  · rw [h1]
    cases e : l.any sortP with
    | false => rfl
    | true =>
      obtain ⟨r, hr, h⟩ := List.any_eq_true.1 e
      rw [h2 r hr] at h; cases h
  · rw [h1]
    have : l.any sortP = true := List.any_eq_true.2 ⟨_, List.getElem_mem hk, h2⟩
    rw [this]
    simp only [ge_iff_le, decide_eq_true_eq]; omega
set_option maxHeartbeats 1000000 in
theorem c_indexRacks (l : List (List Int)) (hl : ∀ x, x ∈ l → RackOK x) (hn : l.length < 1000000) : fnI pr np 173 [.c (.sl 0 0 l.length 24), .c (.fn 69 [])] [.cells (racksC l) true] = some (.c (.int .i64 (firstS l 0)), [.cells (racksC l) true]) := by
  rw [fb (fn := a173) rfl rfl rfl]
  simp [a173]
  have hlen := racksC_len hl
  have hg := fun i (hi : i < l.length) => racksC_get hl hi
  have hle : ∀ i, i < l.length → i * 24 + 24 ≤ l.length * 24 := fun i hi => by omega
  have hcall := fun i (hi : i < l.length) => callA_pure (c_impl_isSorted _ (hl _ (List.getElem_mem hi))) (by simp) (by simp)
  rcases firstS_case l 0 with ⟨h1, h2⟩ | ⟨k, hk, h1, h2, h3⟩
  · have h1 : firstS l (0 : Int) = -1 := h1
    rw [h1, loop_to (fun i => ([(0, V.c (C.sl 0 0 l.length 24)), (1, V.c (C.fn 69 [])), (7, V.c (C.int .i64 l.length)), (8, V.c (C.int .i64 i))], [Blk.cells (racksC l) true])) l.length]
    · simp
    · simp
    · intro i hi
      have hf := h2 _ (List.getElem_mem hi)
      have hc := hcall i hi
      rw [hf] at hc
      have wi := wrapS (k := i) (by omega)
      have hr := (hl _ (List.getElem_mem hi)).len
      have gi := hg i hi
      generalize l[i] = r at *
      simp [hi, gi, rackC, hle i hi, hlen, hc, wi, hr]
  · rw [Nat.zero_add] at h1
    have h1 : firstS l (0 : Int) = (k : Int) := h1
    rw [h1, loop_to (fun i => ([(0, V.c (C.sl 0 0 l.length 24)), (1, V.c (C.fn 69 [])), (7, V.c (C.int .i64 l.length)), (8, V.c (C.int .i64 i))], [Blk.cells (racksC l) true])) k]
    · have hc := hcall k hk
      rw [h2] at hc
      have hr := (hl _ (List.getElem_mem hk)).len
      have gi := hg k hk
      generalize l[k] = r at *
      simp [hk, gi, rackC, hle k hk, hlen, hc, hr]
    · simp
    · intro i hi
      have hil : i < l.length := by omega
      have hf := h3 i hi
      have hc := hcall i hil
      rw [hf] at hc
      have wi := wrapS (k := i) (by omega)
      have hr := (hl _ (List.getElem_mem hil)).len
      have gi := hg i hil
      generalize l[i] = r at *
      simp [hil, gi, rackC, hle i hil, hlen, hc, wi, hr]
/-- a call with a slice of a block that names no other, and a value -/
theorem callA_sl {F : Fns} {f : Nat} {x : V} {i o n w : Nat} {H : HF} {b : Blk} {v : V} (hb : H i = some b) (hx : x.ids = []) (hbi : b.ids = []) (hF : F f [.c (.sl 0 o n w), x] [b] = some (v, [b])) (hv : v.ids = []) (base : Nat) : callA F f [.c (.sl i o n w), x] H base = some (v, [], [(i, b)]) := by
  have hr : reach H 64 ([V.c (.sl i o n w), x].flatMap V.ids) [] = [i] := by
    simp [hx, reach, idsAt, hb, hbi]
  have hbm : ∀ g, b.mp g = b := fun g => Blk.mp_below (by simp [hbi])
  unfold callA
  simp only [hr]
  have hc : closed [i] H = true := by simp [closed, hb, idsAt, hbi, inL]
  have hl : inL [i] ([V.c (.sl i o n w), x].flatMap V.ids) = true := by simp [inL, hx]
  rw [if_pos ⟨hc, hl⟩]
  have hs : sub [i] H = [b] := by simp [sub, hb, hbm]
  have ha : [V.c (.sl i o n w), x].map (V.mp (pos [i])) = [.c (.sl 0 o n w), x] := by simp [V.mp_pure hx, pos]
  rw [hs, ha, hF]
  simp [V.mp_pure hv, hbm]
theorem c_anyRacks (l : List (List Int)) (hl : ∀ x, x ∈ l → RackOK x) (hn : l.length < 1000000) : fnI pr np 128 [.c (.sl 0 0 l.length 24), .c (.fn 69 [])] [.cells (racksC l) true] = some (.c (.bool (l.any sortP)), [.cells (racksC l) true]) := by
  have h1 := fun base => callA_sl (F := fnI pr np) (H := lkp [.cells (racksC l) true]) (i := 0) (b := .cells (racksC l) true) rfl (by simp) (by simp) (c_indexRacks l hl hn) (by simp) base
  have ha := firstS_any l 0
  have ha : decide (firstS l (0 : Int) ≥ 0) = l.any sortP := ha
  rw [fb (fn := a128) rfl rfl rfl]
  simp [a128, h1, ← ha]
end Go.Proofs.YtgpafbbnobanbaaGreatDoor.AM
/- Contracts: a search goes on until a sorted form is found. -/
namespace Go.Proofs.YtgpafbbnobanbaaGreatDoor.AM
open Go
set_option maxRecDepth 1000000
set_option linter.unusedSimpArgs false
set_option linter.unusedVariables false
/-- Levels and last forms behind k steps. -/
noncomputable def lvs (f : List Int) : Nat → LvL × List (List Int)
  | 0 => ([(f, 0)], [f])
  | k + 1 => Way.expand srch (k + 1) ((lvs f k).1, []) (lvs f k).2
noncomputable def goesOn (f : List Int) (k : Nat) : Bool := !(lvs f k).2.any sortP && !decide ((lvs f k).2.length = 0) && decide ((lvs f (k + 1)).1.length ≤ 600)
theorem add_len (d : Nat) (s : LvL × List (List Int)) (c : List Int) : (Way.add d s c).1.length + s.2.length = s.1.length + (Way.add d s c).2.length := by
  unfold Way.add
  split
  · rfl
  · simp; omega
theorem addAll_len (d : Nat) : ∀ (cs : List (List Int)) (s : LvL × List (List Int)), (Way.addAll d s cs).1.length + s.2.length = s.1.length + (Way.addAll d s cs).2.length
  | [], s => rfl
  | c :: cs, s => by
    have h1 := add_len d s c
    have h2 := addAll_len d cs (Way.add d s c)
    show (Way.addAll d (Way.add d s c) cs).1.length + _ = _ + (Way.addAll d (Way.add d s c) cs).2.length
    omega
theorem expand_len (d : Nat) : ∀ (rs : List (List Int)) (s : LvL × List (List Int)), (Way.expand srch d s rs).1.length + s.2.length = s.1.length + (Way.expand srch d s rs).2.length
  | [], s => rfl
  | r :: rs, s => by
    have h1 := addAll_len d (kidsL r) s
    have h2 := expand_len d rs (Way.addAll d s (kidsL r))
    show (Way.expand srch d (Way.addAll d s (kidsL r)) rs).1.length + _ = _ + (Way.expand srch d (Way.addAll d s (kidsL r)) rs).2.length
    omega
theorem lvs_len (f : List Int) (k : Nat) : (lvs f (k + 1)).1.length = (lvs f k).1.length + (lvs f (k + 1)).2.length := by
  have := expand_len (k + 1) (lvs f k).2 ((lvs f k).1, [])
  simp only [List.length_nil, Nat.add_zero] at this
  exact this
theorem lvs_ok {f : List Int} (hf : RackOK f) : ∀ k, SOK (lvs f k)
  | 0 => ⟨⟨fun p hp => by simp only [lvs, List.mem_singleton] at hp; subst hp; exact hf, by simp [lvs]⟩, fun x hx => by simp only [lvs, List.mem_singleton] at hx; subst hx; exact hf⟩
  | k + 1 => by
    have h := lvs_ok hf k
    exact (expand_ok (k + 1) (lvs f k).2 ((lvs f k).1, []) ⟨h.lv, fun x hx => by cases hx⟩ h.nx).1
theorem lvs_small {f : List Int} {k : Nat} (h : ∀ j, j < k → goesOn f j = true) : (lvs f k).1.length ≤ 600 ∧ (lvs f k).2.length ≤ 600 := by
  cases k with
  | zero => simp [lvs]
  | succ k =>
    have := h k (by omega)
    simp only [goesOn, Bool.and_eq_true, decide_eq_true_eq] at this
    have h2 := lvs_len f k
    omega
theorem lvs_grow (f : List Int) : ∀ n, (∀ k, k < n → goesOn f k = true) → n ≤ (lvs f n).1.length ∧ ((lvs f n).2.length ≠ 0 → n + 1 ≤ (lvs f n).1.length)
  | 0, _ => by simp [lvs]
  | n + 1, h => by
    have h1 := lvs_grow f n fun k hk => h k (by omega)
    have h2 := h n (by omega)
    simp only [goesOn, Bool.and_eq_true, Bool.not_eq_true', decide_eq_true_eq, decide_eq_false_iff_not] at h2
    have h3 := h1.2 h2.1.2
    have h4 := lvs_len f n
    omega
theorem first_false (g : Nat → Bool) : ∀ N, (∀ k, k < N → g k = true) ∨ ∃ n, n < N ∧ (∀ k, k < n → g k = true) ∧ g n = false
  | 0 => .inl fun k hk => by omega
  | N + 1 => by
    rcases first_false g N with h | ⟨n, h1, h2⟩
    · cases e : g N with
      | true =>
        refine .inl fun k hk => ?_
        rcases Nat.lt_or_ge k N with x | x
        · exact h k x
        · rw [show k = N by omega]; exact e
      | false => exact .inr ⟨N, by omega, h, e⟩
    · exact .inr ⟨n, by omega, h2⟩
/-- The search ends. -/
theorem goes_end (f : List Int) : ∃ n, n ≤ 600 ∧ (∀ k, k < n → goesOn f k = true) ∧ goesOn f n = false := by
  rcases first_false (goesOn f) 601 with h | ⟨n, h1, h2⟩
  · exfalso
    have h1 := (lvs_grow f 601 h).1
    have h2 := (lvs_small (f := f) (k := 601) h).1
    omega
  · exact ⟨n, by omega, h2⟩
/-- The heap behind k steps. -/
def hS (L : Nat → LvL × List (List Int)) : Nat → Heap
  | 0 => sH (L 0).1 (L 0).2 0
  | k + 1 => sH2 (L (k + 1)).1 (L 0).2 (L (k + 1)).2 (k + 1)
set_option maxHeartbeats 4000000 in
/-- What until tells, and where it stops. -/
theorem c_untilL (L : Nat → LvL × List (List Int)) (n : Nat) (hn : n ≤ 600) (hL : ∀ k, Way.expand srch (k + 1) ((L k).1, []) (L k).2 = L (k + 1)) (hT : ∀ k, SOK (L k)) (sm : ∀ k, k ≤ n → (L k).2.length ≤ 600)
    (hg : ∀ k, k < n → (L k).2.any sortP = false ∧ (L k).2.length ≠ 0 ∧ (L (k + 1)).1.length ≤ 600) (A B : Bool) (hA : (L n).2.any sortP = A) (hB : decide ((L n).2.length = 0) = B) (he : A = false → B = false → ¬ (L (n + 1)).1.length ≤ 600) :
    fnI pr np 68 [.c (.ptr 0 0), .c (.fn 69 [])] (hS L 0) = some (.tup [.c (.bool A), .c (.bool (A || B))], hS L (if (A || B) = true then n else n + 1)) := by
  have hm : (hS L 0).length = 3 := rfl
  rw [fb (fn := a68) rfl rfl rfl]
  simp [a68, hm]
  have st := fun k (hk : k ≤ n) => c_step (L k).1 (L k).2 k (hT k).lv (hT k).nx (by omega) (by have := sm k hk; omega)
  simp only [hL] at st
  have an := fun k (hk : k ≤ n) => c_anyRacks (L k).2 (hT k).nx (by have := sm k hk; omega)
  have cA0 := fun (base : Nat) => callA_sl (F := fnI pr np) (H := lkp (hS L 0)) (i := 2) (b := .cells (racksC (L 0).2) true) rfl (by simp) (by simp) (an 0 (by omega)) (by simp) base
  have cA1 := fun k (hk : k + 1 ≤ n) (base : Nat) => callA_sl (F := fnI pr np) (H := lkp (hS L (k + 1))) (i := 3) (b := .cells (racksC (L (k + 1)).2) true) rfl (by simp) (by simp) (an (k + 1) hk) (by simp) base
  have cS0 := fun (base : Nat) => callA_gen (F := fnI pr np) (f := 129) (args := [.c (.ptr 0 0)]) (H := lkp (hS L 0)) (L := [0, 1, 2]) (by simp [hS, sH, reach, idsAt]) (by simp [hS, sH, closed, inL, idsAt]) (show sub [0, 1, 2] (lkp (hS L 0)) = sH (L 0).1 (L 0).2 0 by simp [hS, sH, sub, pos]) (by simp [pos]) (st 0 (by omega)) (by simp [sH2]) base
  have cS1 := fun k (hk : k + 1 ≤ n) (base : Nat) => callA_gen (F := fnI pr np) (f := 129) (args := [.c (.ptr 0 0)]) (H := lkp (hS L (k + 1))) (L := [0, 1, 3]) (by simp [hS, sH2, reach, idsAt]) (by simp [hS, sH2, closed, inL, idsAt]) (show sub [0, 1, 3] (lkp (hS L (k + 1))) = sH (L (k + 1)).1 (L (k + 1)).2 (k + 1) by simp [hS, sH, sH2, sub, pos]) (by simp [pos]) (st (k + 1) hk) (by simp [sH2]) base
  simp [hS, sH, sH2, back] at cA0 cA1 cS0 cS1
  rw [loop_to (fun k => ([(0, V.c (C.ptr 0 0)), (1, V.c (C.fn 69 []))], hS L k)) n]
  · cases n with
    | zero =>
      rw [hA] at cA0
      cases A with
      | true => simp [hS, sH, sH2, cA0]
      | false =>
        cases B with
        | true =>
          have b : (L 0).2 = [] := by simpa using hB
          rw [b] at cA0
          simp at cA0
          simp [hS, sH, sH2, cA0, b]
        | false =>
          have b : (L 0).2 ≠ [] := by simpa using hB
          have c : ¬ (L 1).1.length ≤ 600 := he rfl rfl
          simp [hS, sH, sH2, cA0, b, cS0, c]
    | succ n =>
      have cA := cA1 n (by omega)
      have cS := cS1 n (by omega)
      rw [hA] at cA
      cases A with
      | true => simp [hS, sH, sH2, cA]
      | false =>
        cases B with
        | true =>
          have b : (L (n + 1)).2 = [] := by simpa using hB
          rw [b] at cA
          simp at cA
          simp [hS, sH, sH2, cA, b]
        | false =>
          have b : (L (n + 1)).2 ≠ [] := by simpa using hB
          have c : ¬ (L (n + 1 + 1)).1.length ≤ 600 := he rfl rfl
          simp [hS, sH, sH2, cA, b, cS, c]
  · simp [hS, sH]
  · intro k hk
    obtain ⟨h1, h2, h3⟩ := hg k hk
    cases k with
    | zero =>
      rw [h1] at cA0
      simp [hS, sH, sH2, cA0, cS0, h2, h3]
    | succ k =>
      have cA := cA1 k (by omega)
      have cS := cS1 k (by omega)
      rw [h1] at cA
      simp [hS, sH, sH2, cA, cS, h2, h3]
end Go.Proofs.YtgpafbbnobanbaaGreatDoor.AM
/- Contracts: the search for shortest ways. -/
namespace Go.Proofs.YtgpafbbnobanbaaGreatDoor.AM
open Go
set_option maxRecDepth 1000000
set_option linter.unusedSimpArgs false
set_option linter.unusedVariables false
/-- Where the search from a form stops, and what it has found. -/
noncomputable def stopN (f : List Int) : Nat := Classical.choose (goes_end f)
noncomputable def stopA (f : List Int) : Bool := (lvs f (stopN f)).2.any sortP
noncomputable def stopB (f : List Int) : Bool := decide ((lvs f (stopN f)).2.length = 0)
noncomputable def stopM (f : List Int) : Nat := if (stopA f || stopB f) = true then stopN f else stopN f + 1
theorem stop_le (f : List Int) : stopN f ≤ 600 := (Classical.choose_spec (goes_end f)).1
theorem stop_on (f : List Int) {k : Nat} (h : k < stopN f) : (lvs f k).2.any sortP = false ∧ (lvs f k).2.length ≠ 0 ∧ (lvs f (k + 1)).1.length ≤ 600 := by
  have := (Classical.choose_spec (goes_end f)).2.1 k h
  simp only [goesOn, Bool.and_eq_true, Bool.not_eq_true', decide_eq_true_eq, decide_eq_false_iff_not] at this
  exact ⟨this.1.1, this.1.2, this.2⟩
theorem stop_at (f : List Int) : stopA f = false → stopB f = false → ¬ (lvs f (stopN f + 1)).1.length ≤ 600 := by
  intro a b
  have := (Classical.choose_spec (goes_end f)).2.2
  unfold stopA at a
  unfold stopB at b
  have e : Classical.choose (goes_end f) = stopN f := rfl
  rw [e] at this
  simp only [goesOn, a, b, Bool.not_false, Bool.true_and, decide_eq_false_iff_not] at this
  exact this
theorem stop_small (f : List Int) {k : Nat} (h : k ≤ stopN f) : (lvs f k).1.length ≤ 600 ∧ (lvs f k).2.length ≤ 600 := lvs_small fun j hj => (Classical.choose_spec (goes_end f)).2.1 j (by show j < stopN f; omega)
theorem c_until {f : List Int} (hf : RackOK f) : fnI pr np 68 [.c (.ptr 0 0), .c (.fn 69 [])] (hS (lvs f) 0) = some (.tup [.c (.bool (stopA f)), .c (.bool (stopA f || stopB f))], hS (lvs f) (stopM f)) :=
  c_untilL (lvs f) (stopN f) (stop_le f) (fun k => rfl) (lvs_ok hf) (fun k hk => (stop_small f hk).2) (fun k hk => stop_on f hk) (stopA f) (stopB f) rfl rfl (stop_at f)
/-- What is counted: 64 bits. -/
abbrev LvI := List (List Int × Int)
def wsC (ws : LvI) : List (List C × C) := ws.map fun p => (rackC p.1, C.int .i64 p.2)
@[simp] theorem wsC_ids (ws : LvI) : (Blk.map (wsC ws)).ids = [] := by
  simp only [Blk.ids, wsC, List.flatMap_map]
  induction ws with
  | nil => rfl
  | cons p ws ih => simp [C.ids, ih]
@[simp] theorem wsC_mp (g : Nat → Nat) (ws : LvI) : (Blk.map (wsC ws)).mp g = .map (wsC ws) := by
  simp only [Blk.mp, wsC, List.map_map]
  congr 1
/-- The heap of a search for shortest ways. -/
def stH (lv : LvL) (last : List (List Int)) (d : Nat) (ws : LvI) : Heap := [.cells [.ptr 1 0, .map 2] true, .cells [.map 3, .sl 4 0 last.length 24, .int .i64 d] true, .map (wsC ws), .map (lvC lv), .cells (racksC last) true]
set_option maxHeartbeats 4000000 in
theorem c_sortingL (r : List Int) (h : RackOK r) (L : Nat → LvL × List (List Int)) (M : Nat) (A B : Bool) (h0 : sH [(formL r, 0)] [formL r] 0 = hS L 0) (hu : fnI pr np 68 [.c (.ptr 0 0), .c (.fn 69 [])] (hS L 0) = some (.tup [.c (.bool A), .c (.bool (A || B))], hS L M)) :
    fnI pr np 28 [.agg (rackC r)] [] = some (.tup [.c (.ptr 0 0), .c (.bool A)], stH (L M).1 (L M).2 M []) := by
  have hr := h.len
  have h24 := take24 hr
  have ci := c_impl_IsRack r hr
  rw [h.val] at ci
  have hi := callA_pure ci (by simp) (by simp)
  have hs := c_searchFrom r h
  rw [h0] at hs
  have cs := callA_new hs (by simp [rackC])
  have cu := fun (base : Nat) => callA_gen (F := fnI pr np) (f := 68) (args := [.c (.ptr 1 0), .c (.fn 69 [])]) (H := lkp (.cells (rackC r) true :: (hS L 0).map (Blk.mp (back [] 1)))) (L := [1, 2, 3]) (by simp [hS, sH, reach, idsAt]) (by simp [hS, sH, closed, inL, idsAt]) (show sub [1, 2, 3] (lkp (.cells (rackC r) true :: (hS L 0).map (Blk.mp (back [] 1)))) = hS L 0 by simp [hS, sH, sub, pos]) (by simp [pos]) hu (by cases M <;> simp [hS, sH, sH2]) base
  have l0 : wsC [] = [] := rfl
  have l1 : (Blk.map []).ids = [] := rfl
  have l2 : ∀ g, (Blk.map []).mp g = .map [] := fun _ => rfl
  rw [fb (fn := a28) rfl rfl rfl]
  cases M with
  | zero =>
    simp [hS, sH, sH2, back, rackC] at cs cu hi
    cases A <;> simp [a28, rackC, hr, hi, cs, h24, cu, stH, l0, l1, l2]
  | succ m =>
    simp [hS, sH, sH2, back, rackC] at cs cu hi
    cases A <;> simp [a28, rackC, hr, hi, cs, h24, cu, stH, l0, l1, l2]
theorem c_sorting (r : List Int) (h : RackOK r) : fnI pr np 28 [.agg (rackC r)] [] = some (.tup [.c (.ptr 0 0), .c (.bool (stopA (formL r)))], stH (lvs (formL r) (stopM (formL r))).1 (lvs (formL r) (stopM (formL r))).2 (stopM (formL r)) []) :=
  c_sortingL r h (lvs (formL r)) (stopM (formL r)) (stopA (formL r)) (stopB (formL r)) rfl (c_until (formL_ok h))
end Go.Proofs.YtgpafbbnobanbaaGreatDoor.AM
/- Counting ways: what is remembered (plain). -/
namespace Go.Proofs.YtgpafbbnobanbaaGreatDoor.AM
open Go
set_option maxRecDepth 1000000
set_option linter.unusedSimpArgs false
set_option linter.unusedVariables false
/-- a number in 64 bits -/
def w64 (n : Nat) : Int := IntKind.i64.wrap (n : Int)
theorem wrap_eq (n : Int) : IntKind.i64.wrap n = (n + 9223372036854775808) % 18446744073709551616 - 9223372036854775808 := by
  simp [IntKind.wrap, IntKind.bits, IntKind.signed]
  split <;> omega
theorem w64_add (a b : Nat) : IntKind.i64.wrap (w64 a + w64 b) = w64 (a + b) := by
  unfold w64
  rw [wrap_eq, wrap_eq, wrap_eq, wrap_eq]
  omega
theorem w64_zero (a : Nat) : w64 a = 0 ↔ a % 2 ^ 64 = 0 := by
  unfold w64
  rw [wrap_eq]
  omega
@[simp] theorem w64_0 : w64 0 = 0 := by decide
@[simp] theorem w64_1 : w64 1 = 1 := by decide
/-- What is remembered is right, and of a level that lies before the end. -/
structure Memo (lv : LvL) (d : Nat) (ws : LvI) : Prop where
  ok : ∀ p, p ∈ ws → RackOK p.1 ∧ ∃ l, (p.1, l) ∈ lv ∧ l < d ∧ p.2 = w64 (Way.K (d - l) (absR p.1))
  nd : (ws.map (·.1)).Nodup
def knowsW (ws : LvI) (c : List Int) : Bool := ws.any fun p => decide (p.1 = c)
theorem mapK_ws {lv : LvL} {d : Nat} {ws : LvI} (h : Memo lv d ws) : mapK (wsC ws) = true := by
  simp only [mapK, Bool.and_eq_true, decide_eq_true_eq]
  constructor
  · rw [List.all_eq_true]
    intro p hp
    obtain ⟨q, hq, rfl⟩ := List.mem_map.1 hp
    exact keyC_rack (h.ok q hq).1
  · have e : (wsC ws).map (·.1) = (ws.map (·.1)).map rackC := by simp [wsC, List.map_map, Function.comp_def]
    rw [e]
    exact List.Pairwise.map rackC (fun a b hne he => hne (rackC_inj he)) h.nd
theorem findW_none {ws : LvI} {c : List Int} (h : knowsW ws c = false) : findK (rackC c) (wsC ws) = none := by
  induction ws with
  | nil => rfl
  | cons p ws ih =>
    simp only [knowsW, List.any_cons, Bool.or_eq_false_iff, decide_eq_false_iff_not] at h
    have hne : ¬ rackC p.1 = rackC c := fun e => h.1 (rackC_inj e)
    show findK (rackC c) ((rackC p.1, C.int .i64 p.2) :: wsC ws) = none
    simp only [findK, if_neg hne]
    exact ih h.2
theorem findW_some {ws : LvI} {c : List Int} (h : knowsW ws c = true) : ∃ v, (c, v) ∈ ws ∧ findK (rackC c) (wsC ws) = some (C.int .i64 v) := by
  induction ws with
  | nil => cases h
  | cons p ws ih =>
    show ∃ v, (c, v) ∈ p :: ws ∧ findK (rackC c) ((rackC p.1, C.int .i64 p.2) :: wsC ws) = _
    by_cases e : rackC p.1 = rackC c
    · have := rackC_inj e
      refine ⟨p.2, ?_, by simp only [findK, if_pos e]⟩
      rw [← this]; exact List.mem_cons_self ..
    · have hne : ¬ p.1 = c := fun x => e (by rw [x])
      simp only [knowsW, List.any_cons, Bool.or_eq_true, decide_eq_true_eq] at h
      obtain ⟨v, h1, h2⟩ := ih (h.resolve_left hne)
      exact ⟨v, List.mem_cons_of_mem _ h1, by simp only [findK, if_neg e]; exact h2⟩
theorem setW {ws : LvI} {c : List Int} {v : Int} (h : knowsW ws c = false) : setK (rackC c) (C.int .i64 v) (wsC ws) = wsC (ws ++ [(c, v)]) := by
  rw [setK_new (findW_none h)]; simp [wsC]
theorem knowsW_iff {ws : LvI} {c : List Int} : knowsW ws c = true ↔ ∃ v, (c, v) ∈ ws := by
  simp only [knowsW, List.any_eq_true, decide_eq_true_eq]
  constructor
  · rintro ⟨⟨a, l⟩, h, rfl⟩; exact ⟨l, h⟩
  · rintro ⟨l, h⟩; exact ⟨(c, l), h, rfl⟩
theorem memo_add {lv : LvL} {d : Nat} {ws : LvI} (h : Memo lv d ws) {c : List Int} {n : Nat} (hc : RackOK c) (hl : (c, n) ∈ lv) (hn : n < d) (hk : knowsW ws c = false) : Memo lv d (ws ++ [(c, w64 (Way.K (d - n) (absR c)))]) := by
  refine ⟨fun p hp => ?_, ?_⟩
  · rcases List.mem_append.1 hp with hp | hp
    · exact h.ok p hp
    · simp only [List.mem_singleton] at hp; subst hp
      exact ⟨hc, n, hl, hn, rfl⟩
  · rw [List.map_append, List.nodup_append]
    refine ⟨h.nd, by simp, fun a ha b hb => ?_⟩
    simp only [List.map_cons, List.map_nil, List.mem_singleton] at hb
    subst hb
    rintro rfl
    obtain ⟨p, hp, rfl⟩ := List.mem_map.1 ha
    have := knowsW_iff.2 ⟨p.2, hp⟩
    rw [this] at hk; cases hk
/-- What is new in a memory is of a level from n on. -/
def From (lv : LvL) (n : Nat) (ws ws' : LvI) : Prop := ∀ p, p ∈ ws' → p ∈ ws ∨ ∃ l, (p.1, l) ∈ lv ∧ n ≤ l
theorem From.refl (lv : LvL) (n : Nat) (ws : LvI) : From lv n ws ws := fun p hp => .inl hp
theorem From.trans {lv : LvL} {n : Nat} {a b c : LvI} (h1 : From lv n a b) (h2 : From lv n b c) : From lv n a c := fun p hp => (h2 p hp).elim (h1 p) .inr
theorem From.le {lv : LvL} {n m : Nat} {a b : LvI} (h1 : From lv n a b) (h : m ≤ n) : From lv m a b := fun p hp => (h1 p hp).elim .inl fun ⟨l, x, y⟩ => .inr ⟨l, x, by omega⟩
theorem From.no {lv : LvL} {n m : Nat} {a b : LvI} {c : List Int} (nd : (lv.map (·.1)).Nodup) (h1 : From lv m a b) (hl : (c, n) ∈ lv) (hn : n < m) (hk : knowsW a c = false) : knowsW b c = false := by
  cases e : knowsW b c with
  | false => rfl
  | true =>
    obtain ⟨v, hv⟩ := knowsW_iff.1 e
    rcases h1 _ hv with h | ⟨l, h, h2⟩
    · rw [knowsW_iff.2 ⟨v, h⟩] at hk; cases hk
    · have := Way.one_level nd hl h; omega
theorem From.add {lv : LvL} {n : Nat} {a b : LvI} {c : List Int} {v : Int} (h : From lv n a b) (hl : (c, n) ∈ lv) : From lv n a (b ++ [(c, v)]) := fun p hp => by
  rcases List.mem_append.1 hp with hp | hp
  · exact h p hp
  · simp only [List.mem_singleton] at hp; subst hp; exact .inr ⟨n, hl, Nat.le_refl _⟩
/-- a loop whose states have a part that is only told -/
theorem loop_st {W : Type} {P : Prog} {Q : Prim} {m : Nat} {a : ACode} {live : List Nat} {e : Env} {h : Heap} {X : Option (Ex × Env × Heap)} (hX : exI P Q m (.loop a live) e h = X) (S : Nat → W → Env × Heap) (n : Nat) (w0 : W) (I : Nat → W → Prop) (h0 : gcE m live e h = some (S 0 w0)) (i0 : I 0 w0) (hs : ∀ k, k < n → ∀ w, I k w → ∃ w', I (k + 1) w' ∧ turnK m live (exI P Q m a (S k w).1 (S k w).2) = some (S (k + 1) w')) : ∃ w, I n w ∧ X = loopK P Q m a live (exI P Q m a (S n w).1 (S n w).2) := by
  subst hX
  have key : ∀ d k, k + d = n → ∀ w, I k w → ∃ w', I n w' ∧ loopG P Q m a live (some (S k w)) = loopK P Q m a live (exI P Q m a (S n w').1 (S n w').2) := by
    intro d
    induction d with
    | zero => intro k hk w hI; rw [Nat.add_zero] at hk; subst hk; exact ⟨w, hI, rfl⟩
    | succ d ih =>
      intro k hk w hI
      obtain ⟨w1, hI1, h1⟩ := hs k (by omega) w hI
      obtain ⟨w', hI', h2⟩ := ih (k + 1) (by omega) w1 hI1
      refine ⟨w', hI', ?_⟩
      rw [← h2]
      show loopK P Q m a live (exI P Q m a (S k w).1 (S k w).2) = _
      unfold turnK at h1
      split at h1
      · rename_i e1 hh he
        rw [he]
        show exI P Q m (.loop a live) e1 hh = _
        rw [exI_loop', h1]
      · cases h1
  rw [exI_loop', h0]
  exact key n 0 (by omega) w0 i0
end Go.Proofs.YtgpafbbnobanbaaGreatDoor.AM
/- Contracts: the view of a rack. -/
namespace Go.Proofs.YtgpafbbnobanbaaGreatDoor.AM
open Go
set_option maxRecDepth 1000000
set_option linter.unusedSimpArgs false
set_option linter.unusedVariables false
theorem setAt_left {A B xs : List C} {i : Nat} (h : i + xs.length ≤ A.length) : setAt (A ++ B) i xs = setAt A i xs ++ B := by
  rw [setAt_put _ _ _ (by simp; omega), setAt_put _ _ _ h, List.take_append_of_le_length (by omega), List.drop_append_of_le_length h]
  simp
theorem setAt_right {A B xs : List C} {n i : Nat} (ha : A.length = n) (h : i + xs.length ≤ B.length) : setAt (A ++ B) (n + i) xs = A ++ setAt B i xs := by
  subst ha
  rw [setAt_put _ _ _ (by simp; omega), setAt_put _ _ _ h]
  have e1 : (A ++ B).take (A.length + i) = A ++ B.take i := by rw [List.take_append, List.take_of_length_le (by omega)]; simp
  have e2 : (A ++ B).drop (A.length + i + xs.length) = B.drop (i + xs.length) := by rw [Nat.add_assoc, ← List.drop_drop, List.drop_left' rfl]
  rw [e1, e2]
  simp
abbrev iC (l : List Int) : List C := l.map (C.int .i64)
/-- What is seen: tops, numbers of layers, counts. -/
structure Vw where
  T : List Int
  M : List Int
  K : List Int
def Vw.cs (v : Vw) : List C := iC v.T ++ (iC v.M ++ iC v.K)
structure VOK (v : Vw) : Prop where
  t6 : v.T.length = 6
  m6 : v.M.length = 6
  k6 : v.K.length = 6
  tr : ∀ i, i < 6 → 0 ≤ v.T.getD i 0 ∧ v.T.getD i 0 ≤ 5
  mr : ∀ i, i < 6 → 0 ≤ v.M.getD i 0 ∧ v.M.getD i 0 ≤ 4
theorem VOK.len {v : Vw} (h : VOK v) : v.cs.length = 18 := by simp [Vw.cs, h.t6, h.m6, h.k6]
theorem VOK.takeT {v : Vw} (h : VOK v) : v.cs.take 6 = iC v.T := List.take_left' (by simp [h.t6])
theorem VOK.dropT {v : Vw} (h : VOK v) : v.cs.drop 6 = iC v.M ++ iC v.K := List.drop_left' (by simp [h.t6])
theorem VOK.dropM {v : Vw} (h : VOK v) : v.cs.drop 12 = iC v.K := by
  rw [show 12 = 6 + 6 from rfl, ← List.drop_drop, h.dropT]; exact List.drop_left' (by simp [h.m6])
theorem VOK.takeM {v : Vw} (h : VOK v) : (v.cs.drop 6).take 6 = iC v.M := by rw [h.dropT]; exact List.take_left' (by simp [h.m6])
theorem VOK.takeK {v : Vw} (h : VOK v) : (v.cs.drop 12).take 6 = iC v.K := by rw [h.dropM]; exact List.take_of_length_le (by simp [h.k6])
theorem VOK.getT {v : Vw} (h : VOK v) {i : Nat} (hi : i < 6) : (v.cs.drop i).take 1 = [C.int .i64 (v.T.getD i 0)] := by
  have : (v.cs.drop i).take 1 = ((v.cs.take 6).drop i).take 1 := by
    rw [List.drop_take, List.take_take, Nat.min_eq_left (by omega)]
  rw [this, h.takeT]
  exact take1 (by rw [h.t6]; exact hi)
theorem VOK.getM {v : Vw} (h : VOK v) {i : Nat} (hi : i < 6) : (v.cs.drop (6 + i)).take 1 = [C.int .i64 (v.M.getD i 0)] := by
  have : (v.cs.drop (6 + i)).take 1 = (((v.cs.drop 6).take 6).drop i).take 1 := by
    rw [List.drop_take, List.take_take, Nat.min_eq_left (by omega), List.drop_drop]
  rw [this, h.takeM]
  exact take1 (by rw [h.m6]; exact hi)
theorem VOK.setT {v : Vw} (h : VOK v) {i : Nat} (hi : i < 6) (x : Int) : setAt v.cs i [C.int .i64 x] = (Vw.cs ⟨v.T.set i x, v.M, v.K⟩) := by
  unfold Vw.cs
  rw [setAt_left (by simp [h.t6]; omega), setAt_one]
theorem VOK.setM {v : Vw} (h : VOK v) {i : Nat} (hi : i < 6) (x : Int) : setAt v.cs (6 + i) [C.int .i64 x] = (Vw.cs ⟨v.T, v.M.set i x, v.K⟩) := by
  unfold Vw.cs
  rw [setAt_right (by simp [h.t6]) (by simp [h.m6]; omega), setAt_left (by simp [h.m6]; omega), setAt_one]
theorem VOK.setK {v : Vw} (h : VOK v) {l : List Int} (hl : l.length = 6) : setAt v.cs 12 (iC l) = (Vw.cs ⟨v.T, v.M, l⟩) := by
  unfold Vw.cs
  rw [show 12 = 6 + (6 + 0) from rfl, setAt_right (by simp [h.t6]) (by simp [h.m6, h.k6, hl]), setAt_right (by simp [h.m6]) (by simp [h.k6, hl]), setAt_all _ _ (by simp [hl, h.k6])]
theorem VOK.set0 {v : Vw} (h : VOK v) (x : Int) : setAt v.cs 12 [C.int .i64 x] = (Vw.cs ⟨v.T, v.M, v.K.set 0 x⟩) := by
  unfold Vw.cs
  rw [show 12 = 6 + (6 + 0) from rfl, setAt_right (by simp [h.t6]) (by simp [h.m6, h.k6]), setAt_right (by simp [h.m6]) (by simp [h.k6]), setAt_one]
theorem getD_set {l : List Int} {i j : Nat} {x : Int} (hi : i < l.length) : (l.set i x).getD j 0 = if i = j then x else l.getD j 0 := by
  rw [List.getD_eq_getElem?_getD, List.getD_eq_getElem?_getD, List.getElem?_set]
  split
  · rename_i e; subst e; simp [hi]
  · rfl
theorem VOK.okT {v : Vw} (h : VOK v) {i : Nat} (hi : i < 6) {x : Int} (hx : 0 ≤ x ∧ x ≤ 5) : VOK ⟨v.T.set i x, v.M, v.K⟩ := ⟨by simp [h.t6], h.m6, h.k6, fun j hj => by
  show 0 ≤ (v.T.set i x).getD j 0 ∧ (v.T.set i x).getD j 0 ≤ 5
  rw [getD_set (by rw [h.t6]; exact hi)]; split
  · exact hx
  · exact h.tr j hj, h.mr⟩
theorem VOK.okM {v : Vw} (h : VOK v) {i : Nat} (hi : i < 6) {x : Int} (hx : 0 ≤ x ∧ x ≤ 4) : VOK ⟨v.T, v.M.set i x, v.K⟩ := ⟨h.t6, by simp [h.m6], h.k6, h.tr, fun j hj => by
  show 0 ≤ (v.M.set i x).getD j 0 ∧ (v.M.set i x).getD j 0 ≤ 4
  rw [getD_set (by rw [h.m6]; exact hi)]; split
  · exact hx
  · exact h.mr j hj⟩
theorem VOK.okK {v : Vw} (h : VOK v) {l : List Int} (hl : l.length = 6) : VOK ⟨v.T, v.M, l⟩ := ⟨h.t6, h.m6, hl, h.tr, h.mr⟩
@[simp] theorem vw_ids (v : Vw) : cids v.cs = [] := by simp [Vw.cs, cids_app]
@[simp] theorem vw_dead (v : Vw) : noDead v.cs = true := by simp [Vw.cs, noDead_app2]
@[simp] theorem vw_mp (g : Nat → Nat) (v : Vw) : cmp g v.cs = v.cs := cmp_pure (vw_ids v)
theorem vw_zero : VOK ⟨List.replicate 6 0, List.replicate 6 0, List.replicate 6 0⟩ := ⟨rfl, rfl, rfl, fun i hi => by
  rcases Way.six hi with rfl | rfl | rfl | rfl | rfl | rfl <;> decide, fun i hi => by
  rcases Way.six hi with rfl | rfl | rfl | rfl | rfl | rfl <;> decide⟩
end Go.Proofs.YtgpafbbnobanbaaGreatDoor.AM
/- Contracts: viewOf, the hidden layers of a view. -/
namespace Go.Proofs.YtgpafbbnobanbaaGreatDoor.AM
open Go
set_option maxRecDepth 1000000
set_option linter.unusedSimpArgs false
set_option linter.unusedVariables false
theorem top_range {r : List Int} (h : RackOK r) {i : Nat} (hi : i < 6) : 0 ≤ (topOf (tubeAt r i)).1 ∧ (topOf (tubeAt r i)).1 ≤ 5 := ⟨(h.top hi).c0, (h.top hi).c5⟩
/-- a tube has a top where it has layers -/
def Sg (v : Vw) : Prop := ∀ i, i < 6 → (0 < v.T.getD i 0 ↔ 0 < v.M.getD i 0)
theorem sg_zero : Sg ⟨List.replicate 6 0, List.replicate 6 0, List.replicate 6 0⟩ := fun i hi => by
  rcases Way.six hi with rfl | rfl | rfl | rfl | rfl | rfl <;> decide
theorem sg_set {v : Vw} (h : VOK v) (hs : Sg v) {k : Nat} (hk : k < 6) {x y : Int} (hxy : 0 < x ↔ 0 < y) : Sg ⟨v.T.set k x, v.M.set k y, v.K⟩ := fun i hi => by
  show 0 < (v.T.set k x).getD i 0 ↔ 0 < (v.M.set k y).getD i 0
  rw [getD_set (by rw [h.t6]; exact hk), getD_set (by rw [h.m6]; exact hk)]
  split
  · exact hxy
  · exact hs i hi
theorem lay_pos {r : List Int} (h : RackOK r) {i : Nat} (hi : i < 6) : 0 < (topOf (tubeAt r i)).1 ↔ 0 < (layN (tubeAt r i) : Int) := by
  have t := h.top hi
  have a := t.c0
  have b := t.cl
  omega
theorem lay_range {r : List Int} (h : RackOK r) {i : Nat} (hi : i < 6) : (0 : Int) ≤ (layN (tubeAt r i) : Int) ∧ (layN (tubeAt r i) : Int) ≤ 4 := by
  have := (h.top hi).l4
  omega
set_option maxHeartbeats 4000000 in
theorem c_viewOf (r : List Int) (h : RackOK r) : ∃ v : Vw, VOK v ∧ Sg v ∧ fnI pr np 31 [.agg (r.map (C.int .i64))] [] = some (.agg v.cs, []) := by
  have hr := h.len
  have h24 := take24 hr
  have hz : List.replicate 18 (C.int .i64 0) = Vw.cs ⟨List.replicate 6 0, List.replicate 6 0, List.replicate 6 0⟩ := by decide
  have cc := callA_pure (c_impl_countColors r hr h.val) (by simp) (by simp)
  have bl : (bumps r [0, 0, 0, 0, 0, 0] 0 24).length = 6 := (small_bumps r 24 _ 0 0 zeros6).1
  rw [fb (fn := a31) rfl rfl rfl]
  simp [a31, hr, h24]
  generalize hX : exI pr np _ (.loop _ _) _ _ = X
  obtain ⟨w, hw, hXe⟩ := loop_st hX (fun k (w : Vw) => ([(1, V.c (C.ptr 0 0)), (2, V.c (C.ptr 1 0)), (3, V.c (C.ptr 2 0)), (7, V.agg (r.map (C.int .i64))), (8, V.c (C.int .i64 k))], [Blk.cells (r.map (C.int .i64)) true, Blk.cells (List.replicate 18 (C.int .i64 0)) true, Blk.cells w.cs true])) 6 ⟨List.replicate 6 0, List.replicate 6 0, List.replicate 6 0⟩ (fun _ w => VOK w ∧ Sg w) (by rw [← hz]; simp [sub]) ⟨vw_zero, sg_zero⟩ (by
    intro k hk w ⟨hw, hsg⟩
    have hsg2 := sg_set hw hsg hk (lay_pos h hk)
    have hk' : (k : Int) < 6 := by omega
    have wk := wrapS (k := k) (by omega)
    have ti := cells_tube r k
    have t4 := h.t4 hk
    have tt : ((tubeAt r k).map (C.int .i64)).take 4 = (tubeAt r k).map (C.int .i64) := List.take_of_length_le (by simp [t4])
    have ct := callA_pure (c_impl_top _ t4 (h.tv hk)) (by simp) (by simp)
    have cl := callA_pure (c_lay _ t4) (by simp) (by simp)
    have rt := top_range h hk
    have rl := lay_range h hk
    have li : k * 4 + 4 ≤ 24 := by omega
    have hl := hw.len
    have h1 := hw.okT hk rt
    have h2 := h1.okM hk rl
    have s1 := hw.setT hk (topOf (tubeAt r k)).1
    have s2 := h1.setM hk (layN (tubeAt r k))
    have l1 := h1.len
    have l2 := h2.len
    have k17 : k ≤ 17 := by omega
    have k18 : 6 + k ≤ 17 := by omega
    dsimp only at l2
    refine ⟨_, ⟨h2, hsg2⟩, ?_⟩
    clear hsg2
    generalize tubeAt r k = t at *
    simp [hk, hk', wk, hr, ti, t4, tt, ct, cl, li, hl, s1, s2, l1, l2, k17, k18, setAt_all, sub])
  refine ⟨⟨w.T, w.M, (bumps r [0, 0, 0, 0, 0, 0] 0 24).set 0 0⟩, hw.1.okK (by simp [bl]), fun i hi => hw.2 i hi, ?_⟩
  have hw := hw.1
  have h1 := hw.okK bl
  have s1 := hw.setK bl
  have s2 := h1.set0 0
  have l0 := hw.len
  have l1 := h1.len
  have l2 := (hw.okK (l := (bumps r [0, 0, 0, 0, 0, 0] 0 24).set 0 0) (by simp [bl])).len
  have t2 : (Vw.cs ⟨w.T, w.M, (bumps r [0, 0, 0, 0, 0, 0] 0 24).set 0 0⟩).take 18 = Vw.cs ⟨w.T, w.M, (bumps r [0, 0, 0, 0, 0, 0] 0 24).set 0 0⟩ := List.take_of_length_le (by omega)
  rw [hXe]
  generalize bumps r [0, 0, 0, 0, 0, 0] 0 24 = b at *
  simp [hr, h24, cc, bl, s1, s2, l0, l1, l2, t2, setAt_all]
end Go.Proofs.YtgpafbbnobanbaaGreatDoor.AM
/- Contracts: hidden layers, is a view valid. -/
namespace Go.Proofs.YtgpafbbnobanbaaGreatDoor.AM
open Go
set_option maxRecDepth 1000000
set_option linter.unusedSimpArgs false
set_option linter.unusedVariables false
abbrev z6C : List C := [.int .i64 0, .int .i64 0, .int .i64 0, .int .i64 0, .int .i64 0, .int .i64 0]
theorem iC_set (l : List Int) (n : Nat) (x : Int) : (iC l).set n (C.int .i64 x) = iC (l.set n x) := by simp [iC]
theorem VOK.tag {v : Vw} (h : VOK v) {i : Nat} (hi : i < 6) : ∃ c : Nat, v.T.getD i 0 = (c : Int) ∧ c ≤ 5 := ⟨(v.T.getD i 0).toNat, by have := h.tr i hi; omega, by have := h.tr i hi; omega⟩
theorem VOK.many {v : Vw} (h : VOK v) {i : Nat} (hi : i < 6) : ∃ c : Nat, v.M.getD i 0 = (c : Int) ∧ c ≤ 4 := ⟨(v.M.getD i 0).toNat, by have := h.mr i hi; omega, by have := h.mr i hi; omega⟩
set_option maxHeartbeats 4000000 in
theorem c_hidden {v : Vw} (h : VOK v) : ∃ l : List Int, l.length = 6 ∧ fnI pr np 75 [.agg v.cs] [] = some (.agg (iC l), []) := by
  have hl := h.len
  have c18 : v.cs.take 18 = v.cs := List.take_of_length_le (by omega)
  have tK := h.takeK
  have tT := h.takeT
  have k6 := h.k6
  have t6 := h.t6
  rw [fb (fn := a75) rfl rfl rfl]
  simp [a75, hl, c18, tK, tT, k6, t6, setAt_all]
  generalize hX : exI pr np _ (.loop _ _) _ _ = X
  obtain ⟨w, hw, hXe⟩ := loop_st hX (fun k (w : List Int) => ([(2, V.c (C.ptr 0 0)), (3, V.c (C.ptr 1 0)), (9, V.agg (iC v.T)), (10, V.c (C.int .i64 k))], [Blk.cells z6C true, Blk.cells (iC w) true])) 6 v.K (fun _ w => w.length = 6) (by simp [sub]) k6 (by
    intro k hk w hw
    have hk' : (k : Int) < 6 := by omega
    have wk := wrapS (k := k) (by omega)
    have g := drop_take1 (c := v.T) (j := k) (by omega)
    obtain ⟨c, hc, c5⟩ := h.tag hk
    rw [hc] at g
    by_cases h0 : 0 < c
    · have h0' : (0 : Int) < (c : Int) := by omega
      have c6 : (c : Int) < 6 := by omega
      have c6' : c < 6 := by omega
      have c7 : c + 1 ≤ 6 := by omega
      have g2 := drop_take1 (c := w) (j := c) (by omega)
      refine ⟨w.set c (IntKind.i64.wrap (w.getD c 0 - 1)), by simp [hw], ?_⟩
      generalize w.getD c 0 = x at *
      simp [-List.map_set, iC_set, hk, hk', wk, g, g2, h0, h0', c5, c6, c6', c7, hw, t6, sub]
    · have : c = 0 := by omega
      subst this
      refine ⟨w, hw, ?_⟩
      simp at g
      simp [hk, hk', wk, g, hw, t6, sub])
  have w6 : (iC w).take 6 = iC w := List.take_of_length_le (by simp [hw])
  refine ⟨w, hw, ?_⟩
  rw [hXe]
  simp [w6, hw, setAt_all, sub]
/-- a call with a slice of a block that names no other, and values -/
theorem callA_s {F : Fns} {f : Nat} {rest : List V} {i o n w : Nat} {H : HF} {b : Blk} {v : V} (hb : (H i == some b) = true) (hx : rest.flatMap V.ids = []) (hbi : b.ids = []) (hF : F f (.c (.sl 0 o n w) :: rest) [b] = some (v, [b])) (hv : v.ids = []) (base : Nat) : callA F f (.c (.sl i o n w) :: rest) H base = some (v, [], [(i, b)]) := by
  have hb : H i = some b := by simpa using hb
  have hbm : ∀ g, b.mp g = b := fun g => Blk.mp_below (by simp [hbi])
  have hr : ∀ x ∈ rest, x.ids = [] := fun x h => by
    cases e : x.ids with
    | nil => rfl
    | cons a l => exact absurd (List.mem_flatMap.2 ⟨x, h, by rw [e]; exact List.mem_cons_self ..⟩ : a ∈ rest.flatMap V.ids) (by rw [hx]; exact List.not_mem_nil)
  have hm : ∀ g, rest.map (V.mp g) = rest := fun g => by
    conv => rhs; rw [← List.map_id rest]
    exact List.map_congr_left fun x h => V.mp_pure (hr x h)
  have h := callA_gen (F := F) (f := f) (args := .c (.sl i o n w) :: rest) (H := H) (L := [i]) (by simp [hx, reach, idsAt, hb, hbi]) (by simp [closed, hb, idsAt, hbi, inL, hx]) (show sub [i] H = [b] by simp [sub, hb, hbm]) (show _ = .c (.sl 0 o n w) :: rest by simp [pos, hm]) hF (by simp) base
  rw [h]
  simp [V.mp_pure hv, hbm]
theorem c_sum (cs : List Int) (off n : Nat) (hl : off + n ≤ cs.length) (hn : n ≤ 1000) (o : Bool) : ∃ z : Int, fnI pr np 79 [.c (.sl 0 off n 1)] [.cells (iC cs) o] = some (.c (.int .i64 z), [.cells (iC cs) o]) := by
  rw [fb (fn := a79) rfl rfl rfl]
  simp [a79]
  generalize hX : exI pr np _ (.loop _ _) _ _ = X
  obtain ⟨w, hw, hXe⟩ := loop_st hX (fun k (w : Int) => ([(3, V.c (C.int .i64 w)), (6, V.c (C.sl 0 off n 1)), (7, V.c (C.int .i64 n)), (8, V.c (C.int .i64 k))], [Blk.cells (iC cs) o])) n 0 (fun _ w => True) (by simp [sub]) trivial (by
    intro k hk w hw
    have g := drop_take1 (c := cs) (j := off + k) (by omega)
    have wk := wrapS (k := k) (by omega)
    have hk' : (k : Int) < (n : Int) := by omega
    have b1 : off + k + 1 ≤ cs.length := by omega
    refine ⟨IntKind.i64.wrap (w + cs.getD (off + k) 0), trivial, ?_⟩
    generalize cs.getD (off + k) 0 = x at *
    simp [hk, hk', g, wk, b1, sub])
  refine ⟨w, ?_⟩
  rw [hXe]
  simp [sub]
theorem isP_v1 : IsP 77 fun x => decide (0 ≤ x) && decide (x ≤ 24) := by
  intro x
  have h := callA_pure (c_impl_within x 0 24) (by simp) (by simp)
  rw [fb (fn := a77) rfl rfl rfl]
  simp [a77, h]
theorem isP_v2 : IsP 78 fun x => decide (0 ≤ x) := by
  intro x
  rw [fb (fn := a78) rfl rfl rfl]
  simp [a78]
def Vw.l (v : Vw) : List Int := v.T ++ (v.M ++ v.K)
theorem Vw.l_cs (v : Vw) : v.cs = iC v.l := by simp [Vw.cs, Vw.l]
theorem VOK.lLen {v : Vw} (h : VOK v) : v.l.length = 18 := by simp [Vw.l, h.t6, h.m6, h.k6]
set_option maxHeartbeats 8000000 in
theorem c_IsView {v : Vw} (h : VOK v) (hs : ∀ i, i < 6 → (0 < v.T.getD i 0 ↔ 0 < v.M.getD i 0)) : ∃ b : Bool, fnI pr np 32 [.agg v.cs] [] = some (.c (.bool b), []) := by
  have hl := h.len
  have ll := h.lLen
  have c18 : v.cs.take 18 = v.cs := List.take_of_length_le (by omega)
  have tT := h.takeT
  have t6 := h.t6
  obtain ⟨own, hown, ho⟩ := c_hidden h
  have co := callA_pure ho (by simp) (by simp)
  have a1 := c_impl_areAll_int isP_v1 v.l 12 6 (by omega) (by omega) true
  have a2 := c_impl_areAll_int isP_v2 own 0 6 (by omega) (by omega) true
  obtain ⟨z1, s1⟩ := c_sum v.l 12 6 (by omega) (by omega) true
  obtain ⟨z2, s2⟩ := c_sum v.l 6 6 (by omega) (by omega) true
  generalize (((v.l.drop 12).take 6).all fun x => decide (0 ≤ x) && decide (x ≤ 24)) = q1 at *
  generalize (((own.drop 0).take 6).all fun x => decide (0 ≤ x)) = q2 at *
  have e : v.l.map (C.int .i64) = v.cs := v.l_cs.symm
  have e' : iC v.l = v.cs := v.l_cs.symm
  rw [e] at a1
  rw [e'] at s1 s2
  have a1 := fun (i : Nat) (H : HF) hb base => callA_s (H := H) (i := i) hb (by simp) (by simp) a1 (by simp) base
  have a2 := fun (i : Nat) (H : HF) hb base => callA_s (H := H) (i := i) hb (by simp) (by simp) a2 (by simp) base
  have s1 := fun (i : Nat) (H : HF) hb base => callA_s (rest := []) (H := H) (i := i) hb rfl (by simp) s1 (by simp) base
  have s2 := fun (i : Nat) (H : HF) hb base => callA_s (rest := []) (H := H) (i := i) hb rfl (by simp) s2 (by simp) base
  have o6 : (iC own).take 6 = iC own := List.take_of_length_le (by simp [hown])
  have g0 : (v.cs.drop 12).take 1 = [C.int .i64 (v.K.getD 0 0)] := by rw [h.dropM]; exact drop_take1 (c := v.K) (j := 0) (by rw [h.k6]; omega)
  generalize v.K.getD 0 0 = x0 at *
  refine ⟨(x0 == 0) && (q1 && (q2 && (z1 == z2))), ?_⟩
  rw [fb (fn := a32) rfl rfl rfl]
  simp [a32, hl, c18, tT, t6]
  rw [loop_to (fun k => ([(1, V.c (C.ptr 0 0)), (7, V.agg (iC v.T)), (8, V.c (C.int .i64 k))], [Blk.cells v.cs true])) 6]
  · by_cases h0 : x0 = 0
    · subst h0
      cases q1 with
      | false => simp [hl, ll, c18, co, hown, o6, g0, a1, setAt_all, sub]
      | true =>
        cases q2 with
        | false => simp [hl, ll, c18, co, hown, o6, g0, a1, a2, setAt_all, sub]
        | true => simp [hl, ll, c18, co, hown, o6, g0, a1, a2, s1, s2, setAt_all, sub]
    · have h0b : (x0 == 0) = false := by simpa using h0
      simp [hl, ll, c18, co, hown, o6, g0, h0, h0b, setAt_all, sub]
  · simp [sub]
  · intro k hk
    have hk' : (k : Int) < 6 := by omega
    have wk := wrapS (k := k) (by omega)
    have g := drop_take1 (c := v.T) (j := k) (by omega)
    have g2 := h.getM hk
    obtain ⟨c, hc, c5⟩ := h.tag hk
    obtain ⟨d, hd, d4⟩ := h.many hk
    have hcd := hs k hk
    rw [hc, hd] at hcd
    rw [hc] at g
    rw [hd] at g2
    have w1 := callA_pure (c_impl_within c 0 5) (by simp) (by simp)
    have w2 := callA_pure (c_impl_within d 0 4) (by simp) (by simp)
    have e1 : (c : Int) ≤ 5 := by omega
    have e2 : (d : Int) ≤ 4 := by omega
    simp [e1, e2] at w1 w2
    have hkl : 6 + k + 1 ≤ 18 := by omega
    have hkl2 : 6 + k < 18 := by omega
    by_cases h0 : 0 < c
    · have h1 : 0 < d := by omega
      simp [hk, hk', wk, g, g2, w1, w2, h0, h1, hl, t6, hkl, hkl2, sub]
    · have h1 : ¬ 0 < d := by omega
      have h0 : c = 0 := by omega
      have h1 : d = 0 := by omega
      subst h0; subst h1
      simp at w1 w2 g g2
      simp [hk, hk', wk, g, g2, w1, w2, hl, t6, hkl, hkl2, sub]
end Go.Proofs.YtgpafbbnobanbaaGreatDoor.AM
/- A loop that ends at one of its turns. -/
namespace Go.Proofs.YtgpafbbnobanbaaGreatDoor.AM
open Go
set_option maxRecDepth 1000000
theorem loop_exit {P : Prog} {Q : Prim} {m : Nat} {a : ACode} {live : List Nat} {e : Env} {h : Heap} {X : Option (Ex × Env × Heap)} (hX : exI P Q m (.loop a live) e h = X) (I : Nat → Env × Heap → Prop) (n : Nat) (R : Ex × Env × Heap → Prop) (h0 : ∃ st, gcE m live e h = some st ∧ I 0 st)
    (hs : ∀ k, k ≤ n → ∀ st, I k st → (k < n ∧ ∃ st', turnK m live (exI P Q m a st.1 st.2) = some st' ∧ I (k + 1) st') ∨ ∃ r, loopK P Q m a live (exI P Q m a st.1 st.2) = some r ∧ R r) : ∃ r, X = some r ∧ R r := by
  subst hX
  have key : ∀ d k, k + d = n → ∀ st, I k st → ∃ r, loopG P Q m a live (some st) = some r ∧ R r := by
    intro d
    induction d with
    | zero =>
      intro k hk st hI
      rcases hs k (by omega) st hI with ⟨h1, _⟩ | h1
      · omega
      · exact h1
    | succ d ih =>
      intro k hk st hI
      rcases hs k (by omega) st hI with ⟨_, st', h1, hI'⟩ | h1
      · obtain ⟨r, hr, hR⟩ := ih (k + 1) (by omega) st' hI'
        refine ⟨r, ?_, hR⟩
        rw [← hr]
        show loopK P Q m a live (exI P Q m a st.1 st.2) = _
        unfold turnK at h1
        split at h1
        · rename_i e1 h2 he
          rw [he]
          show exI P Q m (.loop a live) e1 h2 = _
          rw [exI_loop', h1]
        · cases h1
      · exact h1
  obtain ⟨st, hg, hI⟩ := h0
  rw [exI_loop', hg]
  exact key n 0 (by omega) st hI
end Go.Proofs.YtgpafbbnobanbaaGreatDoor.AM
/- Contracts: the tops that a tube can have, pours that are certain. -/
namespace Go.Proofs.YtgpafbbnobanbaaGreatDoor.AM
open Go
set_option maxRecDepth 1000000
set_option linter.unusedSimpArgs false
set_option linter.unusedVariables false
abbrev z5C : List C := [.int .i64 0, .int .i64 0, .int .i64 0, .int .i64 0, .int .i64 0]
theorem c_tops1 (b m : Nat) (hb : b ≤ 10) (hm : m ≤ 4) (x : Int) : ∃ z : Int, fnI pr np 133 [.c (.int .i64 b), .c (.ptr 0 0), .c (.ptr 1 0)] [.cells [.int .i64 m] true, .cells [.int .i64 x] true] = some (.c (.int .i64 z), [.cells [.int .i64 m] true, .cells [.int .i64 x] true]) := by
  have wm : IntKind.i64.wrap ((m : Int) - 1) = (m : Int) - 1 := wrapI (by omega) (by omega)
  rw [fb (fn := a133) rfl rfl rfl]
  simp [a133]
  generalize hX : exI pr np _ (.loop _ _) _ _ = X
  obtain ⟨w, hw, hXe⟩ := loop_st hX (fun k (w : Int) => ([(1, V.c (C.ptr 0 0)), (2, V.c (C.ptr 1 0)), (5, V.c (C.int .i64 w)), (6, V.c (C.int .i64 ((b + k : Nat) : Int)))], [Blk.cells [.int .i64 m] true, Blk.cells [.int .i64 x] true])) (m - 1 - b) 1 (fun _ w => True) (by simp [sub]) trivial (by
    intro k hk w hw
    have hk' : ((b + k : Nat) : Int) < (m : Int) - 1 := by omega
    have wk := wrapS (k := b + k) (by omega)
    refine ⟨IntKind.i64.wrap (w * IntKind.i64.wrap (x - ((b + k : Nat) : Int))), trivial, ?_⟩
    rw [← Nat.add_assoc]
    generalize b + k = j at *
    simp [hk', wk, wm, sub])
  have he : ¬ ((b + (m - 1 - b) : Nat) : Int) < (m : Int) - 1 := by omega
  refine ⟨w, ?_⟩
  rw [hXe]
  generalize b + (m - 1 - b) = j at *
  simp [he, wm, sub]
set_option maxHeartbeats 8000000 in
theorem c_tops {v : Vw} (h : VOK v) {i : Nat} (hi : i < 6) : ∃ (l : List Int) (z : Int), l.length = 5 ∧ fnI pr np 80 [.agg v.cs, .c (.int .i64 i)] [] = some (.tup [.agg (iC l), .c (.int .i64 z)], []) := by
  have hl := h.len
  have c18 : v.cs.take 18 = v.cs := List.take_of_length_le (by omega)
  obtain ⟨own, hown, ho⟩ := c_hidden h
  have co := callA_pure ho (by simp) (by simp)
  have o6 : (iC own).take 6 = iC own := List.take_of_length_le (by simp [hown])
  obtain ⟨z1, s1⟩ := c_sum own 0 6 (by omega) (by omega) true
  have s1 := fun (i : Nat) (H : HF) hb base => callA_s (rest := []) (H := H) (i := i) hb rfl (by simp) s1 (by simp) base
  have g := h.getT hi
  have g2 := h.getM hi
  obtain ⟨c, hc, c5⟩ := h.tag hi
  obtain ⟨m, hm, m4⟩ := h.many hi
  rw [hc] at g
  rw [hm] at g2
  have g3 := drop_take1 (c := own) (j := c) (by omega)
  generalize own.getD c 0 = y at *
  have i1 : i + 1 ≤ 18 := by omega
  have i2 : 6 + i + 1 ≤ 18 := by omega
  have i3 : i < 18 := by omega
  have i4 : 6 + i < 18 := by omega
  have c6 : c < 6 := by omega
  have c6' : (c : Int) < 6 := by omega
  have c7 : c + 1 ≤ 6 := by omega
  have ii : (i : Int) < 6 := by omega
  have cl := fun (b : Nat) (hb : b ≤ 10) => c_tops1 b m hb m4 z1
  have hcl : ∀ (b : Nat), b ≤ 10 → ∃ z : Int, ∀ (A B : Blk) (base : Nat), callA (fnI pr np) 133 [.c (.int .i64 b), .c (.ptr 2 0), .c (.ptr 1 0)] (lkp [A, .cells [.int .i64 z1] true, .cells [.int .i64 m] true, B]) base = some (.c (.int .i64 z), [], [(2, .cells [.int .i64 m] true), (1, .cells [.int .i64 z1] true)]) := fun b hb => by
    obtain ⟨z, hz⟩ := c_tops1 b m hb m4 z1
    refine ⟨z, fun A B base => ?_⟩
    have hc := callA_gen (F := fnI pr np) (f := 133) (args := [.c (.int .i64 b), .c (.ptr 2 0), .c (.ptr 1 0)]) (H := lkp [A, .cells [.int .i64 z1] true, .cells [.int .i64 m] true, B]) (L := [2, 1]) (by simp [reach, idsAt]) (by simp [closed, inL, idsAt]) (by simp [sub]) (by simp [pos]) hz (by simp) base
    rw [hc]
    simp
  obtain ⟨z0, hz0⟩ := hcl 0 (by omega)
  rw [fb (fn := a80) rfl rfl rfl]
  simp [a80, hl, c18, co, hown, o6, s1, g, g2, g3, i1, i2, i3, i4, c6, c6', c7, ii, hi, setAt_all, sub]
  generalize hX : exI pr np _ (.loop _ _) _ _ = X
  obtain ⟨w, hw, hXe⟩ := loop_st hX (fun k (w : Int × List Int) => ([(4, V.c (C.ptr 0 0)), (7, V.c (C.ptr 1 0)), (8, V.c (C.int .i64 y)), (9, V.c (C.ptr 2 0)), (10, V.c (C.fn 133 [(2, 0), (1, 0)])), (11, V.c (C.ptr 3 0)), (12, V.c (C.int .i64 w.1)), (13, V.c (C.int .i64 ((k + 1 : Nat) : Int)))], [Blk.cells z5C true, Blk.cells [.int .i64 z1] true, Blk.cells [.int .i64 m] true, Blk.cells (iC w.2) true])) m (1, [0, 0, 0, 0, 0]) (fun _ w => w.2.length = 5) (by simp [sub]) rfl (by
    intro k hk w hw
    obtain ⟨ways, out⟩ := w
    simp only at hw
    obtain ⟨z, hz⟩ := hcl (k + 1) (by omega)
    have hk' : ((k + 1 : Nat) : Int) ≤ (m : Int) := by omega
    have wk := wrapS (k := k + 1) (by omega)
    have w0 : IntKind.i64.wrap (((k + 1 : Nat) : Int) - 1) = (k : Int) := by rw [wrapI (by omega) (by omega)]; omega
    have k5 : ((k + 1 : Nat) : Int) < 5 := by omega
    have k5' : k + 1 < 5 := by omega
    have k6 : k + 1 + 1 ≤ 5 := by omega
    by_cases hm1 : k + 1 < m
    · have hm2 : ((k + 1 : Nat) : Int) < (m : Int) := by omega
      refine ⟨(IntKind.i64.wrap (ways * (if IntKind.i64.wrap (y - (k : Int)) < 0 then 0 else IntKind.i64.wrap (y - (k : Int)))), out.set (k + 1) (IntKind.i64.wrap (IntKind.i64.wrap (ways * IntKind.i64.wrap (IntKind.i64.wrap (z1 - (k : Int)) - IntKind.i64.wrap (y - (k : Int)))) * z))), by simp [hw], ?_⟩
      generalize k + 1 = j at *
      simp [-List.map_set, iC_set, hz, hk', wk, w0, k5, k5', k6, hm1, hm2, hw, sub]
    · have hm2 : ¬ ((k + 1 : Nat) : Int) < (m : Int) := by omega
      refine ⟨(IntKind.i64.wrap (ways * (if IntKind.i64.wrap (y - (k : Int)) < 0 then 0 else IntKind.i64.wrap (y - (k : Int)))), out.set (k + 1) ways), by simp [hw], ?_⟩
      generalize k + 1 = j at *
      simp [-List.map_set, iC_set, hz, hk', wk, w0, k5, k5', k6, hm1, hm2, hw, sub])
  have he : ¬ ((m + 1 : Nat) : Int) ≤ (m : Int) := by omega
  obtain ⟨ways, out⟩ := w
  simp only at hw
  have o5 : (iC out).take 5 = iC out := List.take_of_length_le (by simp [hw])
  refine ⟨out, hw, z0, ?_⟩
  rw [hXe]
  generalize m + 1 = j at *
  simp at hz0
  simp [he, hz0, hw, o5, setAt_all, sub]
set_option maxHeartbeats 4000000 in
theorem c_canPourV {v : Vw} (h : VOK v) {i j : Nat} (hi : i < 6) (hj : j < 6) : ∃ b : Bool, fnI pr np 33 [.agg v.cs, .c (.int .i64 i), .c (.int .i64 j)] [] = some (.c (.bool b), []) := by
  have hl := h.len
  have c18 : v.cs.take 18 = v.cs := List.take_of_length_le (by omega)
  have g := h.getT hi
  have g2 := h.getT hj
  have g3 := h.getM hj
  generalize v.T.getD i 0 = a at *
  generalize v.T.getD j 0 = b at *
  generalize v.M.getD j 0 = c at *
  have i1 : i + 1 ≤ 18 := by omega
  have i2 : 6 + j + 1 ≤ 18 := by omega
  have i3 : j + 1 ≤ 18 := by omega
  have i4 : i ≤ 17 := by omega
  have i5 : 6 + j ≤ 17 := by omega
  have i6 : j ≤ 17 := by omega
  have ii : (i : Int) < 6 := by omega
  have jj : (j : Int) < 6 := by omega
  refine ⟨((i : Int) != (j : Int)) && (decide (0 < a) && (decide (c < 4) && ((b == 0) || (b == a)))), ?_⟩
  rw [fb (fn := a33) rfl rfl rfl]
  by_cases h1 : (i : Int) = (j : Int)
  · simp [a33, hl, c18, h1, sub]
  · have h1b : ((i : Int) != (j : Int)) = true := bne_iff_ne.2 h1
    by_cases h2 : 0 < a
    · by_cases h3 : c < 4
      · by_cases h4 : b = 0
        · subst h4
          simp [a33, hl, c18, h1, h1b, h2, h3, g, g2, g3, i1, i2, i3, i4, i5, i6, ii, jj, hi, hj, sub]
        · have h4b : (b == 0) = false := by simpa using h4
          simp [a33, hl, c18, h1, h1b, h2, h3, h4, h4b, g, g2, g3, i1, i2, i3, i4, i5, i6, ii, jj, hi, hj, sub]
      · simp [a33, hl, c18, h1, h1b, h2, h3, g, g2, g3, i1, i2, i3, i4, i5, i6, ii, jj, hi, hj, sub]
    · simp [a33, hl, c18, h1, h1b, h2, g, g2, g3, i1, i2, i3, i4, i5, i6, ii, jj, hi, hj, sub]
set_option maxHeartbeats 8000000 in
theorem c_isCertain {v : Vw} (h : VOK v) {i j : Nat} (hi : i < 6) (hj : j < 6) : ∃ b : Bool, fnI pr np 34 [.agg v.cs, .c (.int .i64 i), .c (.int .i64 j)] [] = some (.c (.bool b), []) := by
  have hl := h.len
  have c18 : v.cs.take 18 = v.cs := List.take_of_length_le (by omega)
  obtain ⟨l, z, l5, ht⟩ := c_tops h hi
  have ct := callA_pure ht (by simp) (by simp)
  have g3 := h.getM hj
  have t5 : (iC l).take 5 = iC l := List.take_of_length_le (by simp [l5])
  generalize v.M.getD j 0 = c at *
  have i2 : 6 + j + 1 ≤ 18 := by omega
  have i5 : 6 + j ≤ 17 := by omega
  have jj : (j : Int) < 6 := by omega
  have key : ∃ r, fnI pr np 34 [.agg v.cs, .c (.int .i64 i), .c (.int .i64 j)] [] = some r ∧ ∃ b : Bool, r = (.c (.bool b), []) := by
    rw [fb (fn := a34) rfl rfl rfl]
    simp [-List.map_set, a34, hl, c18, ct, l5, t5, setAt_all, sub]
    generalize hX : exI pr np _ (.loop _ _) _ _ = X
    have hlp := loop_exit hX (fun k st => ∃ mv : Int, st = ([(2, V.c (C.int .i64 j)), (3, V.c (C.ptr 0 0)), (9, V.c (C.int .i64 mv)), (19, V.agg (iC l)), (20, V.c (C.int .i64 k))], [Blk.cells v.cs true])) 5 (fun r => (∃ mv : Int, r = (.exit 0, [(2, V.c (C.int .i64 j)), (3, V.c (C.ptr 0 0)), (9, V.c (C.int .i64 mv)), (19, V.agg (iC l)), (20, V.c (C.int .i64 5)), (21, V.c (C.bool false))], [Blk.cells v.cs true])) ∨ r = (.ret, [(6, V.c (C.bool false))], [Blk.cells v.cs true])) ⟨([(2, V.c (C.int .i64 j)), (3, V.c (C.ptr 0 0)), (9, V.c (C.int .i64 0)), (19, V.agg (iC l)), (20, V.c (C.int .i64 0))], [Blk.cells v.cs true]), by simp [sub], 0, by simp⟩ ?_
    · obtain ⟨r, rfl, ⟨mv, rfl⟩ | rfl⟩ := hlp
      · simp [sub]
        exact ⟨_, _, ⟨rfl, rfl⟩, .inr ⟨rfl, rfl⟩⟩
      · simp [sub]
        exact ⟨_, _, ⟨rfl, rfl⟩, .inl ⟨rfl, rfl⟩⟩
    · rintro k hk st ⟨mv, rfl⟩
      by_cases hk5 : k = 5
      · subst hk5
        exact .inr ⟨_, by simp [sub], .inl ⟨mv, rfl⟩⟩
      · have hk4 : k < 5 := by omega
        have hk' : (k : Int) < 5 := by omega
        have wk := wrapS (k := k) (by omega)
        have g := drop_take1 (c := l) (j := k) (by omega)
        generalize l.getD k 0 = n at *
        by_cases hn : n = 0
        · subst hn
          exact .inl ⟨hk4, _, by simp [hk4, hk', wk, g, l5, sub], mv, rfl⟩
        · have hnb : (n == 0) = false := by simpa using hn
          have hnw : ∃ nw : Int, (if IntKind.i64.wrap (4 - c) < (k : Int) then IntKind.i64.wrap (4 - c) else (k : Int)) = nw := ⟨_, rfl⟩
          obtain ⟨nw, hnw⟩ := hnw
          by_cases h1 : 0 < mv
          · by_cases h2 : nw = mv
            · subst h2
              exact .inl ⟨hk4, _, by simp [hk4, hk', wk, g, hn, hnb, hl, g3, jj, hj, i2, i5, hnw, h1, l5, sub], nw, rfl⟩
            · have h2b : (nw != mv) = true := bne_iff_ne.2 h2
              exact .inr ⟨_, by simp [hk4, hk', wk, g, hn, hnb, hl, g3, jj, hj, i2, i5, hnw, h1, h2, h2b, l5, sub], .inr rfl⟩
          · exact .inl ⟨hk4, _, by simp [hk4, hk', wk, g, hn, hnb, hl, g3, jj, hj, i2, i5, hnw, h1, l5, sub], nw, rfl⟩
  obtain ⟨r, h1, b, h2⟩ := key
  exact ⟨b, by rw [h1, h2]⟩
end Go.Proofs.YtgpafbbnobanbaaGreatDoor.AM
/- Contracts: counting ways. -/
namespace Go.Proofs.YtgpafbbnobanbaaGreatDoor.AM
open Go
set_option maxRecDepth 1000000
set_option linter.unusedSimpArgs false
set_option linter.unusedVariables false
theorem lvOK_of {root : List Int} {lv : LvL} {last : List (List Int)} {d : Nat} (hI : Way.Inv srch root lv last d) : LvOK lv := ⟨fun p hp => (hI.ok p.1 p.2 hp).1, hI.nd⟩
set_option maxHeartbeats 4000000 in
theorem c_count {root : List Int} {lv : LvL} {last : List (List Int)} {d : Nat} (hI : Way.Inv srch root lv last d) (hd : d ≤ 1000) : ∀ (m : Nat) (r : List Int) (n : Nat) (ws : LvI), RackOK r → n ≤ d → d - n ≤ m → Memo lv d ws →
    ∃ ws', Memo lv d ws' ∧ From lv n ws ws' ∧ fnI pr np 71 [.c (.ptr 0 0), .agg (r.map (C.int .i64)), .c (.int .i64 n)] (stH lv last d ws) = some (.c (.int .i64 (w64 (Way.cntL srch lv d (formL r) n))), stH lv last d ws') := by
  intro m
  induction m using Nat.strongRecOn with
  | _ m ih =>
    intro r n ws hr hn hm hw
    have hrl := hr.len
    have h24 := take24 hrl
    have hc := formL_ok hr
    have hcl := hc.len
    have c24 := take24 hcl
    have cf := callA_pure (c_formOf r hrl) (by simp) (by simp)
    generalize formL r = c at *
    have ml := mapK_lv (lvOK_of hI)
    have kc : keyC (c.map (C.int .i64)) = true := keyC_rack hc
    rw [fb (fn := a71) rfl rfl rfl]
    cases k1 : Way.knows lv c with
    | false =>
      have f1 : findK (c.map (C.int .i64)) (lvC lv) = none := findK_none k1
      have e0 : Way.cntL srch lv d c n = 0 := by
        unfold Way.cntL
        rw [if_neg]
        intro hm
        rw [Way.knows_iff.2 ⟨n, hm⟩] at k1; cases k1
      refine ⟨ws, hw, From.refl lv _ ws, ?_⟩
      rw [e0]
      simp [a71, stH, hrl, hcl, h24, c24, cf, ml, kc, f1, setAt_all]
    | true =>
      obtain ⟨l, hl, f1⟩ := findK_some k1
      have f1 : findK (c.map (C.int .i64)) (lvC lv) = some (C.int .i64 l) := f1
      by_cases hln : l = n
      · subst hln
        have ec : Way.cntL srch lv d c l = Way.K (d - l) (absR c) := by unfold Way.cntL; rw [if_pos hl]; rfl
        rw [ec]
        by_cases hld : l = d
        · subst hld
          have cs := callA_pure (c_impl_isSorted c hc) (by simp) (by simp)
          have ek : Way.K (l - l) (absR c) = if sortP c then 1 else 0 := by
            rw [Nat.sub_self]; simp [Way.K, fin_eq hc]
          rw [ek]
          refine ⟨ws, hw, From.refl lv _ ws, ?_⟩
          cases hs : sortP c <;> rw [hs] at cs <;>
          simp [a71, stH, hrl, hcl, h24, c24, cf, ml, kc, f1, setAt_all, cs]
        · have hld' : ¬ (l : Int) = (d : Int) := by omega
          have mw := mapK_ws hw
          cases k2 : knowsW ws c with
          | true =>
            obtain ⟨v, hv, f2⟩ := findW_some k2
            have f2 : findK (c.map (C.int .i64)) (wsC ws) = some (C.int .i64 v) := f2
            obtain ⟨_, l', hl', hl'd, ev⟩ := hw.ok _ hv
            have := Way.one_level hI.nd hl hl'
            subst this
            rw [← ev]
            refine ⟨ws, hw, From.refl lv _ ws, ?_⟩
            simp [a71, stH, hrl, hcl, h24, c24, cf, ml, kc, f1, setAt_all, hld', mw, f2]
          | false =>
            have f2 : findK (c.map (C.int .i64)) (wsC ws) = none := findW_none k2
            have hld2 : l < d := by omega
            have ec2 : Way.K (d - l) (absR c) = ((kidsL c).map fun x => Way.cntL srch lv d x (l + 1)).sum := by
              rw [← ec]; exact Way.cnt_sum srch hI hl hld2
            have hu := callA_new (c_impl_useful c hc) (by simp)
            have ih2 := fun k (hk : k < (usefulL c).length) ws hw => ih (m - 1) (by omega) (pourR c ((usefulL c)[k]'hk).1 ((usefulL c)[k]'hk).2) (l + 1) ws (by
              obtain ⟨hx, hy, hxy⟩ := mem_useful.1 (List.getElem_mem hk)
              exact hc.pour hx hy (usable_ne hxy)) (by omega) (by omega) hw
            have wl := wrapS (k := l) (by omega)
            have l36 := usefulL_len c
            have hkl := kidsL_len c
            obtain ⟨g, hg⟩ : ∃ g : Nat → Int, ∀ k, g k = w64 (((kidsL c).take k).map fun x => Way.cntL srch lv d x (l + 1)).sum := ⟨_, fun k => rfl⟩
            have g0 : g 0 = 0 := by rw [hg]; simp
            have gn : g (usefulL c).length = w64 (Way.K (d - l) (absR c)) := by rw [hg, ec2, ← hkl, List.take_length]
            have gs : ∀ k (hk : k < (usefulL c).length), IntKind.i64.wrap (g k + w64 (Way.cntL srch lv d (formL (pourR c ((usefulL c)[k]'hk).1 ((usefulL c)[k]'hk).2)) (l + 1))) = g (k + 1) := by
              intro k hk
              have hkk : k < (kidsL c).length := by omega
              have hkid : (kidsL c)[k]'hkk = formL (pourR c ((usefulL c)[k]'hk).1 ((usefulL c)[k]'hk).2) := by simp [kidsL]
              rw [hg, hg, w64_add, List.take_succ_eq_append_getElem hkk, List.map_append, List.sum_append, hkid]
              simp
            rw [← gn]
            have pid : cids (padC c) = [] := cids_rep _ _ _
            simp [a71, stH, hrl, hcl, h24, c24, cf, ml, kc, f1, setAt_all, hld', mw, f2, hu]
            generalize hX : exI pr np _ (.loop _ _) _ _ = X
            have hl2 := loop_st hX (fun k (w : LvI) => ([(0, V.c (C.ptr 0 0)), (2, V.c (C.int .i64 l)), (7, V.c (C.ptr 5 0)), (12, V.c (C.int .i64 (g k))), (61, V.c (C.sl 6 0 (usefulL c).length 2)), (62, V.c (C.int .i64 (usefulL c).length)), (63, V.c (C.int .i64 k))], stH lv last d w ++ [Blk.cells (c.map (C.int .i64)) true, Blk.cells (flatC (usefulL c) ++ padC c) true])) (usefulL c).length ws (fun k w => Memo lv d w ∧ From lv (l + 1) ws w) ?_ ⟨hw, From.refl lv _ ws⟩ ?_
            · obtain ⟨w, ⟨hw1, hw2⟩, hXe⟩ := hl2
              have hkn := From.no hI.nd hw2 hl (Nat.lt_succ_self l) k2
              have hs2 : setK (c.map (C.int .i64)) (C.int .i64 (g (usefulL c).length)) (wsC w) = wsC (w ++ [(c, g (usefulL c).length)]) := setW hkn
              have mw2 := mapK_ws hw1
              refine ⟨w ++ [(c, g (usefulL c).length)], by rw [gn]; exact memo_add hw1 hc hl hld2 hkn, (hw2.le (Nat.le_succ l)).add hl, ?_⟩
              rw [hXe]
              simp [stH, hcl, c24, kc, mw2, hs2]
            · simp [stH, g0, sub, pid]
            · intro k hk w ⟨hw1, hw2⟩
              obtain ⟨w', h1, h2, h3⟩ := ih2 k hk w hw1
              refine ⟨w', ⟨h1, hw2.trans h2⟩, ?_⟩
              have gk := gs k hk
              have hp := flatC_get (usefulL c) (padC c) k hk
              have hkl2 : k * 2 + 2 ≤ (usefulL c).length * 2 + (padC c).length := by omega
              obtain ⟨hx, hy, hxy⟩ := mem_useful.1 (show ((usefulL c)[k].1, (usefulL c)[k].2) ∈ usefulL c from List.getElem_mem hk)
              generalize (usefulL c)[k] = p at *
              obtain ⟨x, y⟩ := p
              have hx : x < 6 := hx
              have hy : y < 6 := hy
              have hq := hc.pour hx hy (usable_ne hxy)
              have hql := hq.len
              have ql24 := take24 hql
              have cp := callA_pure (c_impl_pour c hc hx hy) (by simp) (by simp)
              simp only at h3 gk
              generalize Way.cntL srch lv d (formL (pourR c x y)) (l + 1) = cn at *
              generalize pourR c x y = q at *
              have cc := fun (G : Heap) (base : Nat) => callA_gen (F := fnI pr np) (f := 71) (args := [.c (.ptr 0 0), .agg (q.map (C.int .i64)), .c (.int .i64 ((l + 1 : Nat) : Int))]) (H := lkp (stH lv last d w ++ G)) (L := [0, 1, 2, 3, 4]) (by simp [stH, reach, idsAt]) (by simp [stH, closed, inL, idsAt]) (show sub [0, 1, 2, 3, 4] (lkp (stH lv last d w ++ G)) = stH lv last d w by simp [stH, sub, pos]) (show _ = [.c (.ptr 0 0), .agg (q.map (C.int .i64)), .c (.int .i64 ((l + 1 : Nat) : Int))] by simp [pos]) h3 (by simp [stH]) base
              simp [stH, back] at cc
              have wk := wrapS (k := k) (by omega)
              simp [stH, hk, hkl2, hp, hcl, hql, c24, ql24, cp, cc, setAt_all, pid, wl, wk, gk, sub]
      · have hln' : ¬ (l : Int) = (n : Int) := by omega
        have e0 : Way.cntL srch lv d c n = 0 := by
          unfold Way.cntL
          rw [if_neg]
          intro hm
          exact hln (Way.one_level hI.nd hl hm)
        rw [e0]
        refine ⟨ws, hw, From.refl lv _ ws, ?_⟩
        simp [a71, stH, hrl, hcl, h24, c24, cf, ml, kc, f1, setAt_all, hln']
end Go.Proofs.YtgpafbbnobanbaaGreatDoor.AM
/- Contracts: deleting from a list of pairs by a test that may write into what it has captured. -/
namespace Go.Proofs.YtgpafbbnobanbaaGreatDoor.AM
open Go
set_option maxRecDepth 1000000
set_option linter.unusedSimpArgs false
set_option linter.unusedVariables false
/-- a call that takes all of the first blocks, in their order -/
theorem callA_all {F : Fns} {f : Nat} {args : List V} {h G h' : Heap} {v : V} (hr : reach (lkp (h ++ G)) 64 (args.flatMap V.ids) [] = upto h.length) (hin : ∀ i ∈ args.flatMap V.ids, i < h.length) (hw : wfH h.length h = true) (hF : F f args h = some (v, h')) (hl : h'.length = h.length) (hw' : wfH h.length h' = true) (hv : ∀ i ∈ v.ids, i < h.length) (base : Nat) :
    callA F f args (lkp (h ++ G)) base = some (v, [], (upto h.length).zip h') := by
  have hw2 : wfH h.length ((h ++ G).take h.length) = true := by rw [take_len h G h.length rfl]; exact hw
  have hc : closed (upto h.length) (lkp (h ++ G)) = true := closed_upto (by simp) hw2
  have hsub : sub (upto h.length) (lkp (h ++ G)) = h := by rw [sub_upto (by simp) hw2, take_len h G h.length rfl]
  have hargs : args.map (V.mp (pos (upto h.length))) = args := by
    have : ∀ a ∈ args, a.mp (pos (upto h.length)) = a := by
      intro a ha
      refine V.mp_below fun i hi => pos_upto ?_
      exact hin i (List.mem_flatMap.2 ⟨a, ha, hi⟩)
    exact (List.map_congr_left this).trans (by simp)
  have hin2 : inL (upto h.length) (args.flatMap V.ids) = true := by
    rw [inL, List.all_eq_true]
    exact fun i hi => by simpa using mem_upto.2 (hin i hi)
  rw [callA_gen hr (by rw [hc, hin2]; rfl) hsub hargs hF (by rw [upto_length]; omega)]
  have e1 : v.mp (back (upto h.length) base) = v := V.mp_below fun i hi => back_upto (hv i hi)
  have e2 : (h'.drop (upto h.length).length).map (Blk.mp (back (upto h.length) base)) = [] := by
    rw [List.drop_of_length_le (by rw [upto_length]; omega)]; rfl
  have e3 : (h'.take (upto h.length).length).map (Blk.mp (back (upto h.length) base)) = h' := by
    rw [List.take_of_length_le (by rw [upto_length]; omega)]
    have : ∀ b ∈ h', Blk.mp (back (upto h.length) base) b = b := by
      intro b hb0
      refine Blk.mp_below fun i hi => back_upto ?_
      have := List.all_eq_true.1 hw' b hb0
      simpa using List.all_eq_true.1 this i hi
    exact (List.map_congr_left this).trans (by simp)
  rw [e1, e2, e3]
/-- a test by a function with captured places that may write: what it answers, how its places change -/
structure DelW (W : Type) (g : Nat) (caps : List (Nat × Nat)) (b : Nat) (B : W → Heap) (I : W → Prop) (d : Nat × Nat → Bool) (l : List (Nat × Nat)) : Prop where
  nb : ∀ w, (B w).length = b
  ids : (caps.all fun q => decide (q.1 < b + 1)) = true
  wf0 : ∀ w, wfH (b + 1) (B w) = true
  rch : ∀ w X G, Blk.ids X = [] → reach (lkp (X :: (B w ++ G))) 64 (0 :: caps.map (·.1)) [] = upto (b + 1)
  call : ∀ p ∈ l, ∀ w, I w → ∃ w', I w' ∧ ∀ (X : Blk) (G : Heap) (base : Nat), X.ids = [] → ∃ us, callA (fnI pr np) g (V.agg [C.int .i64 p.1, C.int .i64 p.2] :: caps.map fun q => V.c (C.ptr q.1 q.2)) (lkp (X :: (B w ++ G))) base = some (.c (.bool (d p)), [], us) ∧ ups us (X :: (B w ++ G)) = X :: (B w' ++ G)
section
variable {W : Type} {g : Nat} {caps : List (Nat × Nat)} {b : Nat} {B : W → Heap} {I : W → Prop} {d : Nat × Nat → Bool} {l : List (Nat × Nat)}
theorem DelW.wf1 (h : DelW W g caps b B I d l) (w : W) {X : Blk} (hx : X.ids = []) : wfH (b + 1) (X :: B w) = true := by
  have := h.wf0 w
  unfold wfH at this ⊢
  rw [List.all_cons, this, hx]; rfl
theorem DelW.wf (h : DelW W g caps b B I d l) (w : W) {X : Blk} (hx : X.ids = []) (G : Heap) : wfH (b + 1) ((X :: (B w ++ G)).take (b + 1)) = true := by
  have e : (X :: (B w ++ G)).take (b + 1) = X :: B w := by
    rw [List.take_succ_cons, ← h.nb w]; simp
  rw [e]; exact h.wf1 w hx
theorem DelW.gc (h : DelW W g caps b B I d l) (w : W) {live : List Nat} {e : Env} {X : Blk} (hx : X.ids = []) (G : Heap) (he : (live.all fun t => (get e t).ids.all fun i => decide (i < b + 1)) = true) : gcE (b + 1) live e (X :: (B w ++ G)) = some (restrict e live, X :: B w) := by
  rw [gcE_old' he (by simp [h.nb w]) (h.wf w hx G), List.take_succ_cons, ← h.nb w]
  simp
theorem DelW.cut (h : DelW W g caps b B I d l) (w : W) {v : V} {X : Blk} (hx : X.ids = []) (G : Heap) (hv : (v.ids.all fun i => decide (i < b + 1)) = true) : AM.cut (b + 1) v (X :: (B w ++ G)) = some (v, X :: B w) := by
  rw [cut_old' (by rw [hv, h.wf w hx G]; simp [h.nb w]), List.take_succ_cons, ← h.nb w]
  simp
theorem DelW.capsAll (h : DelW W g caps b B I d l) : ((caps.map (·.1)).all fun i => decide (i < b + 1)) = true := by
  have := h.ids
  simpa using this
end
set_option maxHeartbeats 2000000 in
theorem c_IndexW {W : Type} {g : Nat} {caps : List (Nat × Nat)} {b : Nat} {B : W → Heap} {I : W → Prop} {d : Nat × Nat → Bool} {l : List (Nat × Nat)} (hd : DelW W g caps b B I d l) (z : List C) (hz : cids z = []) (hn : l.length < 1000000) (own : Bool) (w0 : W) (i0 : I w0) :
    ∃ w, I w ∧ fnI pr np 124 [.c (.sl 0 0 l.length 2), .c (.fn g caps)] (.cells (flatC l ++ z) own :: B w0) = some (.c (.int .i64 (firstD d l 0)), .cells (flatC l ++ z) own :: B w) := by
  have hx : (Blk.cells (flatC l ++ z) own).ids = [] := by simp [hz]
  have hgc := fun w live e he => hd.gc w (live := live) (e := e) hx [] he
  have hcut := fun w v hv => hd.cut w (v := v) hx [] hv
  simp only [List.append_nil] at hgc hcut
  have hcaps := hd.ids
  have hnb := hd.nb
  have hturn : ∀ i (hi : i < l.length) w, I w → ∃ w' us, I w' ∧ callA (fnI pr np) g (V.agg [C.int .i64 (l[i]'hi).1, C.int .i64 (l[i]'hi).2] :: caps.map fun q => V.c (C.ptr q.1 q.2)) (lkp (.cells (flatC l ++ z) own :: B w)) (b + 1) = some (.c (.bool (d (l[i]'hi))), [], us) ∧ ups us (.cells (flatC l ++ z) own :: B w) = .cells (flatC l ++ z) own :: B w' := by
    intro i hi w hw
    obtain ⟨w', h1, h2⟩ := hd.call (l[i]'hi) (List.getElem_mem hi) w hw
    obtain ⟨us, h3, h4⟩ := h2 (.cells (flatC l ++ z) own) [] (b + 1) hx
    rw [List.append_nil] at h3 h4
    rw [List.append_nil] at h4
    exact ⟨w', us, h1, h3, h4⟩
  rw [fb (fn := a124) rfl rfl rfl]
  simp [a124, -gcE, -cut, hnb]
  have hgcap := hd.capsAll
  have hti : ∀ i, (hi : i < l.length) → ((flatC l ++ z).drop (i * 2)).take 2 = [C.int .i64 (l[i]'hi).1, C.int .i64 (l[i]'hi).2] := fun i hi => flatC_get l z i hi
  have hle : ∀ i, i < l.length → i * 2 + 2 ≤ l.length * 2 + z.length := fun i hi => by omega
  generalize hX : exI pr np _ (.loop _ _) _ _ = X
  rcases firstD_case d l 0 with ⟨h1, h2⟩ | ⟨k, hk, h1, h2, h3⟩
  · have h1 : firstD d l (0 : Int) = -1 := h1
    rw [h1]
    obtain ⟨w, hw, hXe⟩ := loop_st hX (fun i (w : W) => ([(0, V.c (C.sl 0 0 l.length 2)), (1, V.c (C.fn g caps)), (7, V.c (C.int .i64 l.length)), (8, V.c (C.int .i64 i))], (.cells (flatC l ++ z) own :: B w))) l.length w0 (fun _ w => I w) (by rw [hgc _ _ _ (by simp [hgcap])]; simp) i0 (by
      intro i hi w hw
      obtain ⟨w', us, hw', hc, hu⟩ := hturn i hi w hw
      rw [h2 _ (List.getElem_mem hi)] at hc
      have wi := wrapS (k := i) (by omega)
      refine ⟨w', hw', ?_⟩
      simp [-gcE, -cut, hnb, hi, hti i hi, hle i hi, hc, hu, wi]
      rw [hgc _ _ _ (by simp [hgcap])]; simp)
    refine ⟨w, hw, ?_⟩
    rw [hXe]
    simp [-gcE, -cut, hnb]
    exact hcut _ _ (by simp)
  · rw [Nat.zero_add] at h1
    have h1 : firstD d l (0 : Int) = (k : Int) := h1
    rw [h1]
    obtain ⟨w, hw, hXe⟩ := loop_st hX (fun i (w : W) => ([(0, V.c (C.sl 0 0 l.length 2)), (1, V.c (C.fn g caps)), (7, V.c (C.int .i64 l.length)), (8, V.c (C.int .i64 i))], (.cells (flatC l ++ z) own :: B w))) k w0 (fun _ w => I w) (by rw [hgc _ _ _ (by simp [hgcap])]; simp) i0 (by
      intro i hi w hw
      have hil : i < l.length := by omega
      obtain ⟨w', us, hw', hc, hu⟩ := hturn i hil w hw
      rw [h3 _ (by
        have : l[i]'hil = (l.take k)[i]'(by simp; omega) := by simp
        rw [this]; exact List.getElem_mem _)] at hc
      have wi := wrapS (k := i) (by omega)
      refine ⟨w', hw', ?_⟩
      simp [-gcE, -cut, hnb, hil, hti i hil, hle i hil, hc, hu, wi]
      rw [hgc _ _ _ (by simp [hgcap])]; simp)
    obtain ⟨w', us, hw', hc, hu⟩ := hturn k hk w hw
    rw [h2] at hc
    refine ⟨w', hw', ?_⟩
    rw [hXe]
    simp [-gcE, -cut, hnb, hk, hti k hk, hle k hk, hc, hu]
    exact hcut _ _ (by simp)
set_option maxHeartbeats 4000000 in
theorem c_DeleteW {W : Type} {g : Nat} {caps : List (Nat × Nat)} {b : Nat} {B : W → Heap} {I : W → Prop} {d : Nat × Nat → Bool} {l : List (Nat × Nat)} (hd : DelW W g caps b B I d l) (z : List C) (hz : cids z = []) (hn : l.length < 1000000) (w0 : W) (i0 : I w0) :
    ∃ w, I w ∧ fnI pr np 63 [.c (.sl 0 0 l.length 2), .c (.fn g caps)] (.cells (flatC l ++ z) true :: B w0) =
      some (.c (.sl 0 0 (l.filter fun p => !d p).length 2), .cells (flatC (l.filter fun p => !d p) ++ (List.replicate ((l.length - (l.filter fun p => !d p).length) * 2) (.int .i64 0) ++ z)) true :: B w) := by
  have hx : ∀ l : List (Nat × Nat), (Blk.cells (flatC l ++ z) true).ids = [] := fun l => by simp [hz]
  have hgcap := hd.capsAll
  have hnb := hd.nb
  obtain ⟨w1, hw1, hi1⟩ := c_IndexW hd z hz hn true w0 i0
  have hidx := fun G base => callA_all (F := fnI pr np) (f := 124) (args := [.c (.sl 0 0 l.length 2), .c (.fn g caps)]) (h := .cells (flatC l ++ z) true :: B w0) (G := G) (by
      have := hd.rch w0 (.cells (flatC l ++ z) true) G (hx l)
      rw [List.length_cons, hnb, ← this]; simp) (by
      intro i hi
      rw [List.length_cons, hnb]
      simp at hi
      rcases hi with rfl | ⟨q, h1⟩
      · omega
      · simpa using List.all_eq_true.1 hd.ids _ h1) (by rw [List.length_cons, hnb]; exact hd.wf1 w0 (hx l)) hi1 (by simp [hnb]) (by rw [List.length_cons, hnb]; exact hd.wf1 w1 (hx l)) (by simp) base
  have hups := fun G => ups_front (.cells (flatC l ++ z) true :: B w1) (.cells (flatC l ++ z) true :: B w0) G (by simp [hnb])
  simp only [List.cons_append, List.length_cons, hnb] at hidx hups
  rw [fb (fn := a63) rfl rfl rfl]
  simp [a63, -gcE, -cut, -upto, hidx, hups, hnb]
  rcases firstD_case d l 0 with ⟨h1, h2⟩ | ⟨k, hk, h1, h2, h3⟩
  · have h1 : firstD d l (0 : Int) = -1 := h1
    have hf : (l.filter fun p => !d p) = l := List.filter_eq_self.2 fun p hp => by simp [h2 p hp]
    refine ⟨w1, hw1, ?_⟩
    simp [h1, hf, hnb, -gcE, -cut, -upto]
    exact hd.cut w1 (hx l) _ (by simp)
  · rw [Nat.zero_add] at h1
    have h1 : firstD d l (0 : Int) = (k : Int) := h1
    have hk1 : ((k : Int) == -1) = false := beq_eq_false_iff_ne.2 (by omega)
    have wk := wrapS (k := k) (by omega)
    simp [h1, hk1, wk, hnb, -gcE, -cut, -upto]
    obtain ⟨f1, f2⟩ := cur_first d l k (by omega) h3
    have f3 : curF d l (k + 1) = l := by rw [curF_succ d l hk, if_pos h2, f1]
    have f4 : keepN d l (k + 1) = l.take k := by rw [keepN_succ d l hk, if_pos h2, f2, List.append_nil]
    have f5 : (keepN d l (k + 1)).length = k := by rw [f4, List.length_take]; omega
    generalize hX : exI pr np _ (.loop _ _) _ _ = X
    obtain ⟨w, hw, hXe⟩ := loop_st hX (fun j' (w : W) => ([(0, V.c (C.sl 0 0 l.length 2)), (1, V.c (C.fn g caps)), (5, V.c (C.int .i64 (keepN d l (k + 1 + j')).length)), (6, V.c (C.int .i64 ((k + 1 + j' : Nat) : Int)))], (.cells (flatC (curF d l (k + 1 + j')) ++ z) true :: B w))) (l.length - (k + 1)) w1 (fun _ w => I w) (by
      have := hd.gc w1 (live := [0, 1, 5, 6]) (e := [(0, V.c (C.sl 0 0 l.length 2)), (1, V.c (C.fn g caps)), (5, V.c (C.int .i64 k)), (6, V.c (C.int .i64 ((k + 1 : Nat) : Int)))]) (hx l) [Blk.cells [] true] (by simp [hgcap])
      simp only [Nat.add_zero, f3, f5]
      simpa [-gcE, -cut, -upto] using this) hw1 (by
      intro j' hj1 w hw
      generalize hje : k + 1 + j' = j
      have hje2 : k + 1 + (j' + 1) = j + 1 := by omega
      rw [hje2]
      have hj : j < l.length := by omega
      have hj' : (j : Int) < (l.length : Int) := by omega
      have oc := cur_ok d l j (by omega)
      have hkl := keepN_le d l j
      have hcl := oc.len
      have hcj : (curF d l j)[j]'(by omega) = l[j]'hj := by
        have := congrArg (·[0]?) oc.rest
        simp only [List.getElem?_drop, Nat.add_zero] at this
        rw [List.getElem?_eq_getElem (by omega), List.getElem?_eq_getElem hj] at this
        exact Option.some.inj this
      have hg := flatC_get (curF d l j) z j (by omega)
      rw [hcj] at hg
      have wj := wrapS (k := j) (by omega)
      have wi := wrapS (k := (keepN d l j).length) (by omega)
      have b1 : j * 2 + 2 ≤ (curF d l j).length * 2 + z.length := by omega
      have b2 : (keepN d l j).length * 2 + 2 ≤ (curF d l j).length * 2 + z.length := by omega
      have b3 : (keepN d l j).length < l.length := by omega
      have b3' : ((keepN d l j).length : Int) < (l.length : Int) := by omega
      have hset : ∀ (w : W) (Y Y' : Blk), (B w ++ [Y]).set b Y' = B w ++ [Y'] := fun w Y Y' => by rw [← hnb w]; simp
      have hget : ∀ (w : W) (Y : Blk), (B w ++ [Y])[b]? = some Y := fun w Y => by rw [← hnb w]; simp
      have hfs := flatC_set (curF d l j) (keepN d l j).length (l[j]'hj) z (by omega)
      have hks := keepN_succ d l hj
      have hcs := curF_succ d l hj
      obtain ⟨w', hw', hcc⟩ := hd.call (l[j]'hj) (List.getElem_mem hj) w hw
      obtain ⟨us, hc, hu⟩ := hcc (.cells (flatC (curF d l j) ++ z) true) [Blk.cells [C.int .i64 (l[j]'hj).1, C.int .i64 (l[j]'hj).2] true] (b + 1 + 1) (by simp [hz])
      refine ⟨w', hw', ?_⟩
      cases hq : d (l[j]'hj) with
      | true =>
        rw [hq] at hc hks hcs
        simp only [if_true, List.append_nil] at hks hcs
        simp [-gcE, -cut, -upto, hj, hj', hg, wj, b1, hset, hget, hnb, hc, hu, hks, hcs]
        refine (hd.gc w' (hx _) _ (by simp [hgcap])).trans ?_
        simp [hks, hcs]
      | false =>
        rw [hq] at hc hks hcs
        simp only [Bool.false_eq_true, if_false] at hks hcs
        have hkl1 : (keepN d l (j + 1)).length = (keepN d l j).length + 1 := by rw [hks]; simp
        simp [-gcE, -cut, -upto, hj, hj', hg, wj, wi, b1, b2, b3, b3', hset, hget, hnb, hc, hu, hkl1, hcs, hfs]
        refine (hd.gc w' (hx _) _ (by simp [hgcap])).trans ?_
        simp [hkl1, hcs])
    refine ⟨w, hw, ?_⟩
    rw [hXe]
    have hend : k + 1 + (l.length - (k + 1)) = l.length := by omega
    simp only [hend]
    have oc := cur_ok d l l.length (Nat.le_refl _)
    have hkl := keepN_le d l l.length
    have hz1 := flatC_zero (curF d l l.length) (keepN d l l.length).length z (by rw [oc.len]; omega)
    rw [oc.len, oc.kept] at hz1
    have hir := inst_rep2 (C.int .i64 0) (l.length - (keepN d l l.length).length) 0
    have hcl := flatC_len (curF d l l.length)
    rw [oc.len] at hcl
    have hfil := keepN_all d l
    rw [hfil] at hz1 hir hkl
    generalize (l.filter fun p => !d p) = R at hz1 hir hkl hfil ⊢
    have b1 : (R.length : Int) ≤ (l.length : Int) := by omega
    have b2 : R.length * 2 + (l.length - R.length) * 2 ≤ l.length * 2 + z.length := by omega
    simp [-gcE, -cut, -upto, -rep, -inst, hfil, hir, hcl, oc.len, b1, b2, hkl, hz1, noDead_rep, hnb]
    have hfin := hd.cut w (v := .c (.sl 0 0 R.length 2)) (X := .cells (flatC R ++ (List.replicate ((l.length - R.length) * 2) (C.int .i64 0) ++ z)) true) (by simp [hz]) [] (by simp)
    rwa [List.append_nil] at hfin
end Go.Proofs.YtgpafbbnobanbaaGreatDoor.AM
/- Contracts: the pours with which a shortest way goes on. -/
namespace Go.Proofs.YtgpafbbnobanbaaGreatDoor.AM
open Go
set_option maxRecDepth 1000000
set_option linter.unusedSimpArgs false
set_option linter.unusedVariables false
/-- Does no shortest way go on (for 64 bits) behind a pour? -/
noncomputable def deadB (lv : LvL) (d : Nat) (r : List Int) (n : Nat) (p : Nat × Nat) : Bool := decide (w64 (Way.cntL srch lv d (formL (pourR r p.1 p.2)) (n + 1)) = 0)
def b1H (lv : LvL) (last : List (List Int)) (d : Nat) (r : List Int) (n : Nat) (ws : LvI) : Heap := [.cells (r.map (C.int .i64)) true, .cells [.ptr 3 0] true, .cells [.int .i64 n] true, .cells [.ptr 4 0, .map 5] true, .cells [.map 6, .sl 7 0 last.length 24, .int .i64 d] true, .map (wsC ws), .map (lvC lv), .cells (racksC last) true]
def b2H (lv : LvL) (last : List (List Int)) (d : Nat) (r : List Int) (n : Nat) (ws : LvI) : Heap := [.cells (r.map (C.int .i64)) true, .cells [.ptr 4 0] true, .cells [.int .i64 n] true, .cells [.ptr 5 0, .map 6] true, .cells [.map 7, .sl 8 0 last.length 24, .int .i64 d] true, .map (wsC ws), .map (lvC lv), .cells (racksC last) true]
set_option maxHeartbeats 4000000 in
theorem c_best1 {root : List Int} {lv : LvL} {last : List (List Int)} {d : Nat} (hI : Way.Inv srch root lv last d) (hd : d ≤ 1000) (r : List Int) (hr : RackOK r) (n : Nat) (hn : n < d) (p : Nat × Nat) (hp : p ∈ usefulL r) (ws : LvI) (hw : Memo lv d ws) :
    ∃ ws', Memo lv d ws' ∧ fnI pr np 70 [.agg [.int .i64 p.1, .int .i64 p.2], .c (.ptr 0 0), .c (.ptr 1 0), .c (.ptr 2 0)] (b1H lv last d r n ws) = some (.c (.bool (deadB lv d r n p)), b1H lv last d r n ws') := by
  obtain ⟨x, y⟩ := p
  obtain ⟨hx, hy, hxy⟩ := mem_useful.1 hp
  have hq := hr.pour hx hy (usable_ne hxy)
  have hrl := hr.len
  have h24 := take24 hrl
  have hql := hq.len
  have ql24 := take24 hql
  have cp := callA_pure (c_impl_pour r hr hx hy) (by simp) (by simp)
  obtain ⟨ws', h1, h2, h3⟩ := c_count hI hd d (pourR r x y) (n + 1) ws hq (by omega) (by omega) hw
  refine ⟨ws', h1, ?_⟩
  unfold deadB
  simp only at h3 ⊢
  generalize w64 (Way.cntL srch lv d (formL (pourR r x y)) (n + 1)) = cn at *
  generalize pourR r x y = q at *
  have wn := wrapS (k := n) (by omega)
  have cc := fun (G : Heap) (base : Nat) => callA_gen (F := fnI pr np) (f := 71) (args := [.c (.ptr 3 0), .agg (q.map (C.int .i64)), .c (.int .i64 ((n + 1 : Nat) : Int))]) (H := lkp (b1H lv last d r n ws ++ G)) (L := [3, 4, 5, 6, 7]) (by simp [b1H, reach, idsAt]) (by simp [b1H, closed, inL, idsAt]) (show sub [3, 4, 5, 6, 7] (lkp (b1H lv last d r n ws ++ G)) = stH lv last d ws by simp [b1H, stH, sub, pos]) (show _ = [.c (.ptr 0 0), .agg (q.map (C.int .i64)), .c (.int .i64 ((n + 1 : Nat) : Int))] by simp [pos]) h3 (by simp [stH]) base
  simp [b1H, stH, back] at cc
  rw [fb (fn := a70) rfl rfl rfl]
  simp [a70, b1H, hrl, h24, hql, ql24, cp, cc, setAt_all, wn]
  rfl
theorem b2_del {root : List Int} {lv : LvL} {last : List (List Int)} {d : Nat} (hI : Way.Inv srch root lv last d) (hd : d ≤ 1000) (r : List Int) (hr : RackOK r) (n : Nat) (hn : n < d) : DelW LvI 70 [(1, 0), (2, 0), (3, 0)] 8 (b2H lv last d r n) (Memo lv d) (deadB lv d r n) (usefulL r) where
  nb := fun w => rfl
  ids := rfl
  wf0 := fun w => by simp [wfH, b2H]
  rch := fun w X G hX => by simp [b2H, reach, idsAt, hX]
  call := fun p hp w hw => by
    obtain ⟨w', h1, h2⟩ := c_best1 hI hd r hr n hn p hp w hw
    refine ⟨w', h1, fun X G base hX => ?_⟩
    have cc := callA_gen (F := fnI pr np) (f := 70) (args := [.agg [.int .i64 p.1, .int .i64 p.2], .c (.ptr 1 0), .c (.ptr 2 0), .c (.ptr 3 0)]) (H := lkp (X :: (b2H lv last d r n w ++ G))) (L := [1, 2, 3, 4, 5, 6, 7, 8]) (by simp [b2H, reach, idsAt]) (by simp [b2H, closed, inL, idsAt]) (show sub [1, 2, 3, 4, 5, 6, 7, 8] (lkp (X :: (b2H lv last d r n w ++ G))) = b1H lv last d r n w by simp [b1H, b2H, sub, pos]) (show _ = [.agg [.int .i64 p.1, .int .i64 p.2], .c (.ptr 0 0), .c (.ptr 1 0), .c (.ptr 2 0)] by simp [pos]) h2 (by simp [b1H]) base
    simp [b1H, b2H, back] at cc
    exact ⟨_, cc, by simp [b2H]⟩
set_option maxHeartbeats 4000000 in
theorem c_best {root : List Int} {lv : LvL} {last : List (List Int)} {d : Nat} (hI : Way.Inv srch root lv last d) (hd : d ≤ 1000) (r : List Int) (hr : RackOK r) (n : Nat) (hn : n < d) (ws : LvI) (hw : Memo lv d ws) :
    ∃ ws', Memo lv d ws' ∧ ∃ z, cids z = [] ∧ fnI pr np 29 [.c (.ptr 0 0), .agg (r.map (C.int .i64)), .c (.int .i64 n)] (stH lv last d ws) = some (.c (.sl 5 0 ((usefulL r).filter fun p => !deadB lv d r n p).length 2), stH lv last d ws' ++ [.cells (flatC ((usefulL r).filter fun p => !deadB lv d r n p) ++ z) true]) := by
  have hrl := hr.len
  have h24 := take24 hrl
  have hu := callA_new (c_impl_useful r hr) (by simp)
  have l36 := usefulL_len r
  have pid : cids (padC r) = [] := cids_rep _ _ _
  obtain ⟨w, h1, h2⟩ := c_DeleteW (b2_del hI hd r hr n hn) (padC r) pid (by omega) ws hw
  generalize ((usefulL r).filter fun p => !deadB lv d r n p) = R at *
  obtain ⟨z, hz, h2⟩ : ∃ z, cids z = [] ∧ fnI pr np 63 [.c (.sl 0 0 (usefulL r).length 2), .c (.fn 70 [(1, 0), (2, 0), (3, 0)])] (.cells (flatC (usefulL r) ++ padC r) true :: b2H lv last d r n ws) = some (.c (.sl 0 0 R.length 2), .cells (flatC R ++ z) true :: b2H lv last d r n w) := ⟨_, by rw [cids_app, pid, List.append_nil]; exact cids_rep _ _ _, h2⟩
  refine ⟨w, h1, z, hz, ?_⟩
  have cc := fun (G : Heap) (base : Nat) => callA_gen (F := fnI pr np) (f := 63) (args := [.c (.sl 9 0 (usefulL r).length 2), .c (.fn 70 [(6, 0), (5, 0), (7, 0)])]) (H := lkp (stH lv last d ws ++ (.cells [.ptr 0 0] true :: .cells (r.map (C.int .i64)) true :: .cells [.int .i64 n] true :: .cells [] true :: .cells (flatC (usefulL r) ++ padC r) true :: G))) (L := [9, 6, 5, 7, 0, 1, 2, 3, 4]) (by simp [stH, reach, idsAt, pid]) (by simp [stH, closed, inL, idsAt, pid]) (show sub [9, 6, 5, 7, 0, 1, 2, 3, 4] (lkp (stH lv last d ws ++ (.cells [.ptr 0 0] true :: .cells (r.map (C.int .i64)) true :: .cells [.int .i64 n] true :: .cells [] true :: .cells (flatC (usefulL r) ++ padC r) true :: G))) = .cells (flatC (usefulL r) ++ padC r) true :: b2H lv last d r n ws by simp [b2H, stH, sub, pos, pid]) (show _ = [.c (.sl 0 0 (usefulL r).length 2), .c (.fn 70 [(1, 0), (2, 0), (3, 0)])] by simp [pos]) h2 (by simp [b2H]) base
  have hzm : ∀ g, cmp g z = z := fun g => cmp_pure hz
  simp [b2H, stH, back, pid, hz, hzm] at cc
  have hnd : ¬ (n : Int) = (d : Int) := by omega
  rw [fb (fn := a29) rfl rfl rfl]
  simp [a29, stH, hrl, h24, hu, pid, cc, hnd, hz, hzm]
end Go.Proofs.YtgpafbbnobanbaaGreatDoor.AM
/- Contracts: the first shortest way, the number of its pours. -/
namespace Go.Proofs.YtgpafbbnobanbaaGreatDoor.AM
open Go
set_option maxRecDepth 1000000
set_option linter.unusedSimpArgs false
set_option linter.unusedVariables false
theorem lvs_inv {f : List Int} (hf : RackOK f) : ∀ k, k ≤ stopN f → Way.Inv srch f (lvs f k).1 (lvs f k).2 k
  | 0, _ => Way.inv_start srch hf
  | k + 1, h => by
    have h1 := lvs_inv hf k (by omega)
    have h2 := (stop_on f (k := k) (by omega)).1
    refine Way.inv_step srch h1 fun x hx => ?_
    cases e : srch.fin x with
    | false => rfl
    | true =>
      have : (lvs f k).2.any sortP = true := List.any_eq_true.2 ⟨x, hx, e⟩
      rw [this] at h2; cases h2
theorem srch_norm (r : List Int) : srch.norm r = formL r := by dsimp only [srch]
theorem srch_abs (r : List Int) : srch.abs r = absR r := by dsimp only [srch]
theorem srch_kids (r : List Int) : srch.kids r = kidsL r := by dsimp only [srch]
theorem srch_good (r : List Int) : srch.good r = RackOK r := by dsimp only [srch]
theorem srch_fin (r : List Int) : srch.fin r = sortP r := by dsimp only [srch]
theorem bestF {lv : LvL} {last : List (List Int)} {d : Nat} {r : List Int} (hI : Way.Inv srch (formL r) lv last d) (ok : RackOK r) (hd : 0 < d) {x : List Int} (hx : x ∈ last) (hs : sortP x = true) : ∃ c, c ∈ kidsL r ∧ Way.cntL srch lv d c (0 + 1) % 2 ^ 64 ≠ 0 := by
  have h := Way.best_first srch hI (by rw [srch_good]; exact ok) (srch_norm r) hd hx (by rw [srch_fin]; exact hs)
  rw [srch_kids] at h
  obtain ⟨c, h1, h2, _⟩ := h
  exact ⟨c, h1, h2⟩
theorem bestS {root : List Int} {lv : LvL} {last : List (List Int)} {d n : Nat} {r : List Int} (hI : Way.Inv srch root lv last d) (ok : RackOK r) (hf : (formL r, n) ∈ lv) (hn : n < d) (hK : Way.K (d - n) (absR r) % 2 ^ 64 ≠ 0) : ∃ c, c ∈ kidsL r ∧ Way.cntL srch lv d c (n + 1) % 2 ^ 64 ≠ 0 := by
  have h := Way.best_some srch hI (r := r) (by rw [srch_good]; exact ok) (by rw [srch_norm]; exact hf) hn (by rw [srch_abs]; exact hK)
  rw [srch_kids] at h
  obtain ⟨c, h1, h2, _⟩ := h
  exact ⟨c, h1, h2⟩
/-- What a way has come to: a rack whose form is at level n, from which a number of ways goes on that is not 0 for 64 bits. -/
structure Goes (r : List Int) (lv : LvL) (d n : Nat) (R : List Int) : Prop where
  ok : RackOK R
  lvl : (formL R, n) ∈ lv
  go : (n = 0 ∧ R = r) ∨ Way.K (d - n) (absR R) % 2 ^ 64 ≠ 0
theorem goes_kid {r : List Int} {lv : LvL} {last : List (List Int)} {d n : Nat} {R : List Int} (hI : Way.Inv srch (formL r) lv last d) (hs : ∃ x, x ∈ last ∧ sortP x = true) (h : Goes r lv d n R) (hn : n < d) : ∃ p, p ∈ (usefulL R).filter fun p => !deadB lv d R n p := by
  have key : ∃ c, c ∈ kidsL R ∧ Way.cntL srch lv d c (n + 1) % 2 ^ 64 ≠ 0 := by
    rcases h.go with ⟨h0, hR⟩ | h0
    · subst h0
      subst hR
      obtain ⟨x, hx, hsx⟩ := hs
      exact bestF hI h.ok hn hx hsx
    · exact bestS hI h.ok h.lvl hn h0
  obtain ⟨c, hc, h2⟩ := key
  obtain ⟨p, hp, rfl⟩ := List.mem_map.1 hc
  refine ⟨p, List.mem_filter.2 ⟨hp, ?_⟩⟩
  simp only [deadB, Bool.not_eq_true', decide_eq_false_iff_not]
  rw [w64_zero]; exact h2
theorem goes_next {r : List Int} {lv : LvL} {d n : Nat} {R : List Int} (h : Goes r lv d n R) {p : Nat × Nat} (hp : p ∈ (usefulL R).filter fun p => !deadB lv d R n p) : Goes r lv d (n + 1) (pourR R p.1 p.2) := by
  obtain ⟨h1, h2⟩ := List.mem_filter.1 hp
  obtain ⟨hx, hy, hxy⟩ := mem_useful.1 (show (p.1, p.2) ∈ usefulL R from h1)
  have hq := h.ok.pour hx hy (usable_ne hxy)
  simp only [deadB, Bool.not_eq_true', decide_eq_false_iff_not] at h2
  rw [w64_zero] at h2
  unfold Way.cntL at h2
  split at h2
  · rename_i hm
    refine ⟨hq, hm, .inr ?_⟩
    have e : Way.K (d - (n + 1)) (absR (formL (pourR R p.1 p.2))) = Way.K (d - (n + 1)) (absR (pourR R p.1 p.2)) := K_formL hq _
    rw [← e, ← srch_abs]; exact h2
  · simp at h2
theorem c_fewest (r : List Int) (h : RackOK r) : fnI pr np 11 [.agg (r.map (C.int .i64))] [] = some (.tup [.c (.int .i64 (if stopA (formL r) then (stopM (formL r) : Int) else 0)), .c (.bool (stopA (formL r)))], []) := by
  have hr := h.len
  have h24 := take24 hr
  have cs := callA_new (c_sorting r h) (by simp [rackC])
  rw [fb (fn := a11) rfl rfl rfl]
  generalize stopA (formL r) = A at *
  generalize (lvs (formL r) (stopM (formL r))) = L at *
  generalize stopM (formL r) = M at *
  simp [stH, back, rackC] at cs
  cases A <;> simp [a11, hr, h24, cs]
end Go.Proofs.YtgpafbbnobanbaaGreatDoor.AM
/- Contracts: the first shortest way. -/
namespace Go.Proofs.YtgpafbbnobanbaaGreatDoor.AM
open Go
set_option maxRecDepth 1000000
set_option linter.unusedSimpArgs false
set_option linter.unusedVariables false
/-- What FirstWay holds at the head of its loop. -/
structure FW where
  R : List Int
  ws : LvI
  out : List (Nat × Nat)
def fwH (lv : LvL) (last : List (List Int)) (d : Nat) (w : FW) : Heap := [.cells (w.R.map (C.int .i64)) true, .cells [.ptr 3 0, .map 4] true, .cells (flatC w.out) true, .cells [.map 5, .sl 6 0 last.length 24, .int .i64 d] true, .map (wsC w.ws), .map (lvC lv), .cells (racksC last) true]
def pairsOK (l : List (Nat × Nat)) : Prop := ∀ p, p ∈ l → p.1 < 6 ∧ p.2 < 6
theorem pairs_nil : pairsOK [] := by intro p hp; cases hp
theorem memo_nil (lv : LvL) (d : Nat) : Memo lv d [] := ⟨fun p hp => absurd hp (List.not_mem_nil), by simp⟩
structure FWI (r : List Int) (lv : LvL) (d n : Nat) (w : FW) : Prop where
  go : Goes r lv d n w.R
  mem : Memo lv d w.ws
  len : w.out.length = n
  ok : pairsOK w.out
set_option maxHeartbeats 4000000 in
theorem c_firstL (r : List Int) (h : RackOK r) (lv : LvL) (last : List (List Int)) (d : Nat) (A : Bool) (hs : fnI pr np 28 [.agg (rackC r)] [] = some (.tup [.c (.ptr 0 0), .c (.bool A)], stH lv last d [])) (hd : d ≤ 1000) (hI : A = true → Way.Inv srch (formL r) lv last d) (hx : A = true → ∃ x, x ∈ last ∧ sortP x = true) :
    ∃ out, pairsOK out ∧ out.length ≤ 1000 ∧ fnI pr np 12 [.agg (r.map (C.int .i64))] [] = some (.tup [.c (.sl 0 0 out.length 2), .c (.bool A)], [.cells (flatC out) true]) := by
  have hr := h.len
  have h24 := take24 hr
  have cs := callA_new hs (by simp [rackC])
  simp [stH, back, rackC] at cs
  rw [fb (fn := a12) rfl rfl rfl]
  have f0 : flatC [] = [] := rfl
  cases A with
  | false =>
    refine ⟨[], pairs_nil, by simp, ?_⟩
    simp [a12, hr, h24, cs, f0]
  | true =>
    have hI := hI rfl
    have hx := hx rfl
    simp [a12, hr, h24, cs]
    generalize hX : exI pr np _ (.loop _ _) _ _ = X
    have hl := loop_st hX (fun k (w : FW) => ([(1, V.c (C.ptr 0 0)), (4, V.c (C.ptr 1 0)), (6, V.c (C.sl 2 0 w.out.length 2)), (22, V.c (C.int .i64 d)), (23, V.c (C.int .i64 k))], fwH lv last d w)) d ⟨r, [], []⟩ (FWI r lv d) ?_ ⟨⟨h, hI.rt, .inl ⟨rfl, rfl⟩⟩, memo_nil lv d, rfl, pairs_nil⟩ ?_
    · obtain ⟨w, hw, hXe⟩ := hl
      refine ⟨w.out, hw.ok, by rw [hw.len]; exact hd, ?_⟩
      rw [hXe]
      simp [fwH]
    · simp [fwH, f0, sub]
    · intro k hk w hw
      obtain ⟨ws', hw1, z, hz, hb⟩ := c_best hI hd w.R hw.go.ok k hk w.ws hw.mem
      obtain ⟨p0, hp0⟩ := goes_kid hI hx hw.go hk
      have hnx := fun p hp => goes_next (p := p) hw.go hp
      have hsub : ∀ p, p ∈ (usefulL w.R).filter (fun p => !deadB lv d w.R k p) → p.1 < 6 ∧ p.2 < 6 := fun p hp => by
        obtain ⟨a, b, _⟩ := mem_useful.1 (show (p.1, p.2) ∈ usefulL w.R from (List.mem_filter.1 hp).1)
        exact ⟨a, b⟩
      generalize ((usefulL w.R).filter fun p => !deadB lv d w.R k p) = L at *
      cases L with
      | nil => cases hp0
      | cons p L =>
        have hm : p ∈ p :: L := List.mem_cons_self ..
        have hn := hnx p hm
        obtain ⟨hx6, hy6⟩ := hsub p hm
        obtain ⟨R, ws, out⟩ := w
        obtain ⟨hgo, hmem, hlen, hok⟩ := hw
        simp only at *
        have hRl := hgo.ok.len
        have R24 := take24 hRl
        have cp := callA_pure (c_impl_pour R hgo.ok hx6 hy6) (by simp) (by simp)
        have hql := hn.ok.len
        refine ⟨⟨pourR R p.1 p.2, ws', out ++ [p]⟩, ⟨hn, hw1, by simp [hlen], fun q hq => ?_⟩, ?_⟩
        · rcases List.mem_append.1 hq with hq | hq
          · exact hok q hq
          · simp only [List.mem_singleton] at hq; subst hq; exact ⟨hx6, hy6⟩
        · have ql24 := take24 hql
          clear hnx hsub hn hp0 hx hI hgo hmem
          generalize pourR R p.1 p.2 = q at *
          obtain ⟨x, y⟩ := p
          simp only at *
          have hfc : flatC ((x, y) :: L) = C.int .i64 x :: C.int .i64 y :: flatC L := rfl
          have hzm : ∀ g, cmp g z = z := fun g => cmp_pure hz
          have cb := fun (G : Heap) (base : Nat) => callA_gen (F := fnI pr np) (f := 29) (args := [.c (.ptr 1 0), .agg (R.map (C.int .i64)), .c (.int .i64 k)]) (H := lkp (fwH lv last d ⟨R, ws, out⟩ ++ G)) (L := [1, 3, 4, 5, 6]) (by simp [fwH, reach, idsAt]) (by simp [fwH, closed, inL, idsAt]) (show sub [1, 3, 4, 5, 6] (lkp (fwH lv last d ⟨R, ws, out⟩ ++ G)) = stH lv last d ws by simp [stH, fwH, sub, pos]) (show _ = [.c (.ptr 0 0), .agg (R.map (C.int .i64)), .c (.int .i64 k)] by simp [pos]) hb (by simp [stH]) base
          simp [fwH, stH, back, hz, hzm, hfc] at cb
          have wk := wrapS (k := k) (by omega)
          have hfl : (flatC out).take (out.length * 2) = flatC out := List.take_of_length_le (by rw [flatC_len]; omega)
          have hlb : out.length ≤ 68719476735 := by omega
          have hfo : flatC (out ++ [(x, y)]) = flatC out ++ [C.int .i64 x, C.int .i64 y] := by simp [flatC, flatI]
          simp [fwH, hk, hRl, R24, hql, ql24, cb, cp, setAt_all, wk, hz, hzm, hfc, hfl, hlb, hfo, sub]
theorem stopM_pos {f : List Int} (h : stopA f = true) : stopM f = stopN f := by unfold stopM; rw [h]; rfl
theorem stopM_le (f : List Int) : stopM f ≤ 1000 := by
  have := stop_le f
  unfold stopM; split <;> omega
theorem stop_has {f : List Int} (h : stopA f = true) : ∃ x, x ∈ (lvs f (stopM f)).2 ∧ sortP x = true := by
  rw [stopM_pos h]
  unfold stopA at h
  exact List.any_eq_true.1 h
theorem c_first (r : List Int) (h : RackOK r) : ∃ out, pairsOK out ∧ out.length ≤ 1000 ∧ fnI pr np 12 [.agg (r.map (C.int .i64))] [] = some (.tup [.c (.sl 0 0 out.length 2), .c (.bool (stopA (formL r)))], [.cells (flatC out) true]) :=
  c_firstL r h _ _ _ _ (c_sorting r h) (stopM_le _) (fun ha => by
    have := lvs_inv (formL_ok h) (stopN (formL r)) (Nat.le_refl _)
    rw [stopM_pos ha]; exact this) fun ha => stop_has ha
end Go.Proofs.YtgpafbbnobanbaaGreatDoor.AM
/- Contracts: pours that are certain, the view of a rack. -/
namespace Go.Proofs.YtgpafbbnobanbaaGreatDoor.AM
open Go
set_option maxRecDepth 1000000
set_option linter.unusedSimpArgs false
set_option linter.unusedVariables false
theorem pairs_app {l : List (Nat × Nat)} (h : pairsOK l) {x y : Nat} (hx : x < 6) (hy : y < 6) : pairsOK (l ++ [(x, y)]) := fun p hp => by
  rcases List.mem_append.1 hp with hp | hp
  · exact h p hp
  · simp only [List.mem_singleton] at hp; subst hp; exact ⟨hx, hy⟩
set_option maxHeartbeats 8000000 in
theorem c_certain {v : Vw} (h : VOK v) (hs : Sg v) : ∃ (b : Bool) (out : List (Nat × Nat)), pairsOK out ∧ out.length ≤ 36 ∧ fnI pr np 14 [.agg v.cs] [] = some (.tup [.c (.sl 0 0 out.length 2), .c (.bool b)], [.cells (flatC out) true]) := by
  have hl := h.len
  have c18 : v.cs.take 18 = v.cs := List.take_of_length_le (by omega)
  have f0 : flatC [] = [] := rfl
  obtain ⟨b, hb⟩ := c_IsView h hs
  have cb := callA_pure hb (by simp) (by simp)
  rw [fb (fn := a14) rfl rfl rfl]
  cases b with
  | false =>
    refine ⟨false, [], pairs_nil, by simp, ?_⟩
    simp [a14, hl, c18, cb, f0, sub]
  | true =>
    refine ⟨true, ?_⟩
    simp [a14, hl, c18, cb]
    generalize hX : exI pr np _ (.loop _ _) _ _ = X
    obtain ⟨w, hw, hXe⟩ := loop_st hX (fun i (o : List (Nat × Nat)) => ([(1, V.c (C.ptr 0 0)), (4, V.c (C.sl 1 0 o.length 2)), (10, V.c (C.int .i64 i))], [Blk.cells v.cs true, Blk.cells (flatC o) true])) 6 [] (fun i o => pairsOK o ∧ o.length ≤ 6 * i) (by simp [f0, sub]) ⟨pairs_nil, by simp⟩ (by
      intro i hi o ⟨ho, hol⟩
      have hi' : (i : Int) < 6 := by omega
      have wi := wrapS (k := i) (by omega)
      simp [hi, hi']
      generalize hY : exI pr np _ (.loop _ _) _ _ = Y
      obtain ⟨w, ⟨hw1, hw2⟩, hYe⟩ := loop_st hY (fun j (o : List (Nat × Nat)) => ([(1, V.c (C.ptr 0 0)), (4, V.c (C.sl 1 0 o.length 2)), (5, V.c (C.int .i64 i)), (10, V.c (C.int .i64 i)), (13, V.c (C.int .i64 j))], [Blk.cells v.cs true, Blk.cells (flatC o) true])) 6 o (fun j o => pairsOK o ∧ o.length ≤ 6 * i + j) (by simp [sub]) ⟨ho, hol⟩ (by
        intro j hj o ⟨ho, hol⟩
        have hj' : (j : Int) < 6 := by omega
        have wj := wrapS (k := j) (by omega)
        obtain ⟨q1, h1⟩ := c_canPourV h hi hj
        obtain ⟨q2, h2⟩ := c_isCertain h hi hj
        have k1 := callA_pure h1 (by simp) (by simp)
        have k2 := callA_pure h2 (by simp) (by simp)
        have hroom : o.length + 1 ≤ 68719476736 := by omega
        have htk := flatC_take' o
        cases q1 with
        | false => exact ⟨o, ⟨ho, by omega⟩, by simp [hj, hj', hl, c18, k1, wj, sub]⟩
        | true =>
          cases q2 with
          | false => exact ⟨o, ⟨ho, by omega⟩, by simp [hj, hj', hl, c18, k1, k2, wj, sub]⟩
          | true => exact ⟨o ++ [(i, j)], ⟨pairs_app ho hi hj, by simp; omega⟩, by simp [hj, hj', hl, c18, k1, k2, wj, hroom, htk, flatC_app, flatC_one, sub]⟩)
      refine ⟨w, ⟨hw1, by omega⟩, ?_⟩
      rw [hYe]
      simp [wi, sub])
    obtain ⟨hw1, hw2⟩ := hw
    refine ⟨w, hw1, by omega, ?_⟩
    rw [hXe]
    simp [sub]
/-- the view of a rack, as ViewOf tells it -/
theorem c_ViewOf (r : List Int) (h : RackOK r) {v : Vw} (hv : VOK v) (hf : fnI pr np 31 [.agg (r.map (C.int .i64))] [] = some (.agg v.cs, [])) : fnI pr np 13 [.agg (r.map (C.int .i64))] [] = some (.tup [.agg v.cs, .c (.bool true)], []) := by
  have hr := h.len
  have h24 := take24 hr
  have hl := hv.len
  have c18 : v.cs.take 18 = v.cs := List.take_of_length_le (by omega)
  have h1 := callA_pure (show fnI pr np 25 [.agg (r.map (C.int .i64))] [] = some (.c (.bool true), []) by have := c_impl_IsRack r hr; rwa [h.val] at this) (by simp) (by simp)
  have h2 := callA_pure hf (by simp) (by simp)
  rw [fb (fn := a13) rfl rfl rfl]
  simp [a13, hr, h24, h1, h2, hl, c18, setAt_all, sub]
end Go.Proofs.YtgpafbbnobanbaaGreatDoor.AM
