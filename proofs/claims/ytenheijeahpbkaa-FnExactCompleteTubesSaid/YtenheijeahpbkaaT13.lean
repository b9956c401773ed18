import Derived.Test.YtenheijeahpbkaaT12
namespace Go.Proofs.Ytenheijeahpbkaa.AM
open Go
set_option maxRecDepth 1000000
set_option linter.unusedSimpArgs false
set_option linter.unusedVariables false
theorem runs_both (t : List Int) (ht : t.length = 4) (h : tubeP t = true) : fnI pr np 76 [.agg (t.map (C.int .i64))] [] = some (runsV t) ∧ fnI pr np 88 [.agg (t.map (C.int .i64))] [] = some (runsV t) := by
  obtain ⟨a, b, c, d, rfl⟩ := len4 ht
  rw [tube_eq] at h
  simp at h
  by_cases ha : 0 < a
  · by_cases hb : 0 < b
    · by_cases hc : 0 < c
      · by_cases hd : 0 < d
        · exact ⟨r76_4 a b c d ha hb hc hd, r88_4 a b c d ha hb hc hd⟩
        · have : d = 0 := by omega
          subst this
          exact ⟨r76_3 a b c ha hb hc, r88_3 a b c ha hb hc⟩
      · have h1 : c = 0 := by omega
        have h2 : d = 0 := by omega
        subst h1; subst h2
        exact ⟨r76_2 a b ha hb, r88_2 a b ha hb⟩
    · have h0 : b = 0 := by omega
      have h1 : c = 0 := by omega
      have h2 : d = 0 := by omega
      subst h0; subst h1; subst h2
      exact ⟨r76_1 a ha, r88_1 a ha⟩
  · have h3 : a = 0 := by omega
    have h0 : b = 0 := by omega
    have h1 : c = 0 := by omega
    have h2 : d = 0 := by omega
    subst h3; subst h0; subst h1; subst h2
    exact ⟨r76_0, r88_0⟩
theorem runsOf_len : ∀ t : List Int, (runsOf t).length ≤ t.length
  | [] => Nat.le_refl _
  | x :: r => by
    have := runsOf_len r
    unfold runsOf
    split
    · simp
    · split
      · simp
      · rename_i y n l hl
        rw [hl] at this
        split
        · simp at this ⊢; omega
        · simp at this ⊢; omega
def tubeAt (r : List Int) (i : Nat) : List Int := (r.drop (i * 4)).take 4
theorem tubeAt_len {r : List Int} (hr : r.length = 24) {i : Nat} (hi : i < 6) : (tubeAt r i).length = 4 := by
  unfold tubeAt; simp; omega
theorem tubesFrom_mem (r : List Int) : ∀ (d i j : Nat), i ≤ j → j < i + d → tubeAt r j ∈ tubesFrom r i d
  | 0, i, j, h1, h2 => by omega
  | d + 1, i, j, h1, h2 => by
    unfold tubesFrom
    by_cases hij : j = i
    · subst hij; exact List.mem_cons_self
    · exact List.mem_cons_of_mem _ (tubesFrom_mem r d (i + 1) j (by omega) (by omega))
theorem rackP_tube {r : List Int} (h : rackP r = true) {i : Nat} (hi : i < 6) : tubeP (tubeAt r i) = true :=
  List.all_eq_true.1 h _ (tubesFrom_mem r 6 0 i (Nat.zero_le _) (by omega))
/-- how many runs the tubes from i on have -/
def runsFrom (r : List Int) (i : Nat) : Nat → Nat
  | 0 => 0
  | d + 1 => (runsOf (tubeAt r i)).length + runsFrom r (i + 1) d
theorem c56 (r : List Int) (hr : r.length = 24) (hv : rackP r = true) : fnI pr np 56 [.agg (r.map (C.int .i64))] [] = some (.c (.int .i64 (runsFrom r 0 6)), []) := by
  rw [fb (fn := a56) rfl rfl]
  simp [a56, hr]
  generalize hL : (ACode.loop _ _) = L
  generalize hR : (ACode.seq _ ACode.ret) = R
  have key : ∀ (d i A : Nat) (g : Heap), i + d = 6 → A ≤ 4 * i → leaveK 0 [RV.t 2] (seqK pr np 0 R (blockK 0 (exI pr np 0 L [(1, V.c (C.ptr 0 0)), (3, V.c (C.int .i64 A)), (4, V.c (C.int .i64 i))] (Blk.cells (r.map (C.int .i64)) true :: g)))) = some (V.c (C.int .i64 ((A + runsFrom r i d : Nat) : Int)), []) := by
    intro d
    induction d with
    | zero =>
      intro i A g hi hA
      have hi : i = 6 := by omega
      subst hi
      rw [← hL, exI_loop', gcE_one (by simp) (by simp [envIds])]
      simp [runsFrom, ← hR, pos]
    | succ d ih =>
      intro i A g hin hA
      have hi : i < 6 := by omega
      have hi' : (i : Int) < 6 := by omega
      have ht4 := tubeAt_len hr hi
      have hlen : i * 4 + 4 ≤ 24 := by omega
      have hrl := runsOf_len (tubeAt r i)
      have hcall := callA_new (runs_both _ ht4 (rackP_tube hv hi)).1 (by simp)
      have hm : ((r.map (C.int .i64)).drop (i * 4)).take 4 = (tubeAt r i).map (C.int .i64) := by simp [tubeAt]
      have hw : IntKind.i64.wrap ((i : Int) + 1) = ((i + 1 : Nat) : Int) := by rw [wrapI (by omega) (by omega)]; rfl
      have hw2 : IntKind.i64.wrap ((A : Int) + ((runsOf (tubeAt r i)).length : Int)) = ((A + (runsOf (tubeAt r i)).length : Nat) : Int) := by rw [wrapI (by omega) (by omega)]; simp
      have ih := fun g => ih (i + 1) (A + (runsOf (tubeAt r i)).length) g (by omega) (by omega)
      rw [← hL, exI_loop', gcE_one (by simp) (by simp [envIds])]
      simp [pos, hi, hi', hr, hlen, hm, hcall, hw, hw2, runsV, back]
      rw [hL]
      refine (ih _).trans ?_
      simp [runsFrom, Nat.add_assoc]
  exact (key 6 0 0 [] rfl (by omega)).trans (by simp)
theorem c77 (r : List Int) (hr : r.length = 24) (hv : rackP r = true) : fnI pr np 77 [.agg (r.map (C.int .i64))] [] = some (.c (.int .i64 (runsFrom r 0 6)), []) := by
  have h24 : (r.map (C.int .i64)).take 24 = r.map (C.int .i64) := List.take_of_length_le (by simp; omega)
  rw [fb (fn := a77) rfl rfl]
  simp [a77, hr, h24]
  generalize hL : (ACode.loop _ _) = L
  generalize hR : (ACode.seq _ ACode.ret) = R
  have key : ∀ (d i A : Nat) (g : Heap), i + d = 6 → A ≤ 4 * i → leaveK 0 [RV.t 2] (seqK pr np 0 R (blockK 0 (exI pr np 0 L [(3, V.c (C.int .i64 A)), (7, V.agg (r.map (C.int .i64))), (8, V.c (C.int .i64 i))] g))) = some (V.c (C.int .i64 ((A + runsFrom r i d : Nat) : Int)), []) := by
    intro d
    induction d with
    | zero =>
      intro i A g hi hA
      have hi : i = 6 := by omega
      subst hi
      rw [← hL, exI_loop', gcE_old' (by simp) (by simp) (by simp [wfH])]
      simp [runsFrom, ← hR]
    | succ d ih =>
      intro i A g hin hA
      have hi : i < 6 := by omega
      have hi' : (i : Int) < 6 := by omega
      have ht4 := tubeAt_len hr hi
      have hlen : i * 4 + 4 ≤ 24 := by omega
      have hrl := runsOf_len (tubeAt r i)
      obtain ⟨a, b, c, e, ht⟩ := len4 ht4
      have hcall := callA_new (runs_both _ ht4 (rackP_tube hv hi)).2 (by simp)
      have hm : ((r.map (C.int .i64)).drop (i * 4)).take 4 = [C.int .i64 a, C.int .i64 b, C.int .i64 c, C.int .i64 e] := by
        have : ((r.map (C.int .i64)).drop (i * 4)).take 4 = (tubeAt r i).map (C.int .i64) := by simp [tubeAt]
        rw [this, ht]; rfl
      rw [ht] at hcall
      simp only [List.map_cons, List.map_nil] at hcall
      have hw : IntKind.i64.wrap ((i : Int) + 1) = ((i + 1 : Nat) : Int) := by rw [wrapI (by omega) (by omega)]; rfl
      have hw2 : IntKind.i64.wrap ((A : Int) + ((runsOf [a, b, c, e]).length : Int)) = ((A + (runsOf (tubeAt r i)).length : Nat) : Int) := by rw [← ht, wrapI (by omega) (by omega)]; simp
      have ih := fun g => ih (i + 1) (A + (runsOf (tubeAt r i)).length) g (by omega) (by omega)
      rw [← hL, exI_loop', gcE_old' (by simp) (by simp) (by simp [wfH])]
      simp [hi, hi', hr, hlen, hm, hcall, hw, hw2, runsV, back]
      rw [hL]
      refine (ih _).trans ?_
      simp [runsFrom, Nat.add_assoc]
  exact (key 6 0 0 _ rfl (by omega)).trans (by simp)
end Go.Proofs.Ytenheijeahpbkaa.AM
