import Derived.Test.YtafphbegpjjolaaMapL
/- Contract: the loops over a map and over the pours (the program's function with maps). -/
namespace Go.Proofs.Ytafphbegpjjolaa.AM
open Go
set_option maxRecDepth 1000000
set_option linter.unusedSimpArgs false
set_option linter.unusedVariables false
def seenX (last : List (List Int)) (seen : List Nat) : List (List Int) := seen.flatMap fun k => nexts (last.getD k [])
theorem seenX_app {last : List (List Int)} {seen : List Nat} {k : Nat} (hk : k < last.length) : seenX last (seen ++ [k]) = seenX last seen ++ nexts (last[k]'hk) := by
  simp [seenX, List.flatMap_append, List.getElem?_eq_getElem hk]
theorem seenX_all {last : List (List Int)} {seen : List Nat} (h1 : ∀ k ∈ seen, k < last.length) (h2 : ∀ k, k < last.length → k ∈ seen) (y : List Int) : y ∈ seenX last seen ↔ ∃ x ∈ last, y ∈ nexts x := by
  unfold seenX
  rw [List.mem_flatMap]
  constructor
  · rintro ⟨k, hk, hy⟩
    have hl := h1 k hk
    rw [List.getD_eq_getElem?_getD, List.getElem?_eq_getElem hl] at hy
    exact ⟨_, List.getElem_mem hl, hy⟩
  · rintro ⟨x, hx, hy⟩
    obtain ⟨k, hk, rfl⟩ := List.getElem_of_mem hx
    refine ⟨k, h2 k hk, ?_⟩
    rw [List.getD_eq_getElem?_getD, List.getElem?_eq_getElem hk]
    exact hy
def leftN (n : Nat) (seen : List Nat) : Nat := ((List.range n).filter fun k => !decide (k ∈ seen)).length
theorem leftN_lt {n k : Nat} {seen : List Nat} (hk : k < n) (hs : k ∉ seen) : leftN n (seen ++ [k]) < leftN n seen := by
  unfold leftN
  refine filter_lt _ _ (fun x hx => ?_) k ?_ ?_ _ (List.mem_range.2 hk)
  · simp only [List.mem_append, List.mem_singleton, not_or, Bool.not_eq_true', decide_eq_false_iff_not] at hx ⊢
    exact hx.1
  · simpa using hs
  · simp
theorem mid (n k : Int) (last : List (List Int)) (hlast : ∀ r ∈ last, RackOK r) {Q : Ex → XS → Prop}
    (hQ : ∀ ks seen, ks.Nodup → (∀ y, y ∈ ks ↔ ∃ x ∈ last, y ∈ nexts x) → Q (.exit 2) ⟨[(7, .c (.map 0)), (20, .c (.int .i64 n)), (21, .c (.int .i64 k)), (24, .c (.map 1)), (25, .c (.ptr 2 0)), (27, .c (.bool false))], [.dead, .dead, .dead], [(0, .map ks), (1, .map last), (2, .iter 1 last.length seen)]⟩)
    {live : List Nat} {s : XS} (hg : Gc live s ⟨[(7, .c (.map 0)), (20, .c (.int .i64 n)), (21, .c (.int .i64 k)), (24, .c (.map 1)), (25, .c (.ptr 2 0))], [.dead, .dead, .dead], [(0, .map []), (1, .map last), (2, .iter 1 last.length [])]⟩) : exW pr np (.loop xL1) s Q := by
  refine W_loop (fun s => ∃ seen ks, (∀ k ∈ seen, k < last.length) ∧ Has ks (seenX last seen) ∧ s = ⟨[(7, .c (.map 0)), (20, .c (.int .i64 n)), (21, .c (.int .i64 k)), (24, .c (.map 1)), (25, .c (.ptr 2 0))], [.dead, .dead, .dead], [(0, .map ks), (1, .map last), (2, .iter 1 last.length seen)]⟩)
    (fun s => match mget s.M 2 with | some (.iter _ n seen) => leftN n seen | _ => 0) hg ⟨[], [], by simp, Has.nil, rfl⟩ ?_
  rintro s ⟨seen, ks, hseen, hh, rfl⟩
  simp [xL1]
  refine ⟨2, 1, seen, last, rfl, rfl, rfl, fun i hi hns => ?_, fun hall => ?_⟩
  · simp
    refine ⟨2, 1, seen, last, i, hi, rfl, rfl, rfl, ?_⟩
    have hx := hlast _ (List.getElem_mem hi)
    have hnext := seenX_app (seen := seen) hi
    have hseen' : ∀ j ∈ seen ++ [i], j < last.length := by
      intro j hj
      rcases List.mem_append.1 hj with hj | hj
      · exact hseen j hj
      · simp at hj; omega
    have hlt := leftN_lt hi hns
    generalize last[i]'hi = x at hx hnext ⊢
    have hr := hx.len
    have h24 := take24 hr
    have hend := callA_pure (c_impl_isEnd x hx) (by simp) (by simp)
    have hm := callA_new (c_impl_useful x hx) (by simp)
    cases he : endB x with
    | true =>
      rw [he] at hend
      simp [hr, h24, hend, setAt_all, setAt, sub]
      refine ⟨0, ks, x, rfl, rfl, hx, rfl, ?_⟩
      simp
      unfold turnX
      refine ⟨[7, 20, 21, 24, 25], ⟨_, _, [(0, .map (insK x ks)), (1, .map last), (2, .iter 1 last.length (seen ++ [i]))]⟩, Gc.of ?_ ?_, ⟨seen ++ [i], ?_, insK x ks, ?_, rfl⟩, ?_⟩
      · simp [sub]
      · simp [sub, mget, MO.mp, MO.ids]
      · exact hseen'
      · rw [hnext, show nexts x = [x] by simp [nexts, he]]
        exact hh.ins _
      · simpa [mget] using hlt
    | false =>
      rw [he] at hend
      simp [hr, h24, hend, hm, setAt_all, setAt, sub]
      refine inner (live := [7, 8, 20, 21, 24, 25, 35, 36, 37]) hx n k last (seen ++ [i]) hh (fun ks' hh' => ?_) (Gc.of ?_ ?_)
      · simp
        unfold turnX
        refine ⟨[7, 20, 21, 24, 25], ⟨_, _, [(0, .map ks'), (1, .map last), (2, .iter 1 last.length (seen ++ [i]))]⟩, Gc.of ?_ ?_, ⟨seen ++ [i], ?_, ks', ?_, rfl⟩, ?_⟩
        · simp [own, sub]
        · simp [own, sub, mget, MO.mp, MO.ids]
        · exact hseen'
        · rw [hnext, show nexts x = poursX x (usefulL x).length by simp [nexts, he, poursX]]
          exact hh'
        · simpa [mget] using hlt
      · simp [own, sub]
      · simp [own, sub, mget, MO.mp, MO.ids]
  · have hfin := hQ ks seen hh.1 fun y => (hh.2 y).trans (seenX_all hseen hall y)
    simpa using hfin
end Go.Proofs.Ytafphbegpjjolaa.AM
