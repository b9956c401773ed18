import Derived.Test.YtoaidbmkfdpagaaBarP
/- Plain laws of bars: a pour is poured back, a layer put is taken. -/
namespace Go.Proofs.Ytoaidbmkfdpagaa.AM
open Go
set_option maxRecDepth 1000000
set_option linter.unusedSimpArgs false
set_option linter.unusedVariables false
theorem doO_some {r : List Int} {m n k a b c : Int} {s : List Int} {x : Int} (h : doO r m n k a b c = some (s, x)) : barOK r m n = true ∧ ∃ d, svO r k a b c = some (s, d) ∧ x = m + d ∧ barOK s x (n + 1) = true := by
  unfold doO at h
  split at h
  · rename_i hb
    cases hs : svO r k a b c with
    | none => rw [hs] at h; cases h
    | some p =>
      obtain ⟨s1, d⟩ := p
      rw [hs] at h
      simp only at h
      split at h
      · rename_i hb2
        injection h with h
        injection h with h1 h2
        subst h1 h2
        exact ⟨hb, d, rfl, rfl, hb2⟩
      · cases h
  · cases h
theorem barOK_rack {r : List Int} {m n : Int} (h : barOK r m n = true) : okRack r = true := by
  unfold barOK at h
  simp only [Bool.and_eq_true] at h
  exact h.1.1
theorem barOK_of {r : List Int} {m n : Int} (h : okRack r = true) (h1 : 0 ≤ m ∧ m ≤ 9999) (h2 : 0 ≤ n ∧ n ≤ 1000) : barOK r m n = true := by
  unfold barOK
  rw [h]
  simp
  omega
theorem doO_back {r : List Int} (hr : r.length = 24) {m n a b c : Int} {s : List Int} {x : Int} (h : doO r m n 1 a b c = some (s, x)) (hn : n + 1 ≠ 1000) : doO s x (n + 1) 5 a b (x - m) = some (r, m) := by
  obtain ⟨hb, d, hs, hx, hb2⟩ := doO_some h
  have hq := barOK_rack hb
  have hk := rackOK hr hq
  obtain ⟨i1, i2⟩ := barOK_range hb
  obtain ⟨j1, j2⟩ := barOK_range hb2
  unfold svO at hs
  by_cases hc : c = 0
  · rw [if_pos ⟨rfl, hc⟩] at hs
    by_cases hp : pB r a b = true
    · rw [if_pos hp] at hs
      injection hs with hs
      injection hs with h1 h2
      have e1 : s = pourR r a.toNat b.toNat := by rw [← h1]; unfold pR; rw [if_pos hp]
      have e2 : d = (pourN r a.toNat b.toNat : Int) := by rw [← h2]; unfold pN; rw [if_pos hp]
      obtain ⟨b1, b2⟩ := back_of_pour hk hp
      have e3 : x - m = (pourN r a.toNat b.toNat : Int) := by omega
      rw [e3]
      unfold doO
      rw [if_pos hb2]
      have hsv : svO s 5 a b (pourN r a.toNat b.toNat : Int) = some (r, -(pourN r a.toNat b.toNat : Int)) := by
        unfold svO
        rw [if_neg (by omega), if_neg (by omega), if_neg (by omega), if_neg (by omega), if_pos rfl, e1, if_pos b1]
        unfold pbR
        rw [if_pos b1, b2]
      rw [hsv]
      simp only
      have hb3 : barOK r (x + -(pourN r a.toNat b.toNat : Int)) (n + 1 + 1) = true := barOK_of hq (by omega) (by omega)
      rw [if_pos hb3]
      congr 2
      omega
    · rw [if_neg hp] at hs; cases hs
  · rw [if_neg (fun e => hc e.2), if_neg (by omega), if_neg (by omega), if_neg (by omega), if_neg (by omega)] at hs
    cases hs
theorem doO_take {r : List Int} (hr : r.length = 24) {m n a b c : Int} {s : List Int} {x : Int} (h : doO r m n 2 a b c = some (s, x)) (hn : n + 1 ≠ 1000) : doO s x (n + 1) 3 a 0 0 = some (r, x) := by
  obtain ⟨hb, d, hs, hx, hb2⟩ := doO_some h
  have hq := barOK_rack hb
  have hk := rackOK hr hq
  obtain ⟨i1, i2⟩ := barOK_range hb
  obtain ⟨j1, j2⟩ := barOK_range hb2
  unfold svO at hs
  rw [if_neg (by omega)] at hs
  by_cases hc : c = 0
  · rw [if_pos ⟨rfl, hc⟩] at hs
    by_cases hp : ptB r a b = true
    · rw [if_pos hp] at hs
      injection hs with hs
      injection hs with h1 h2
      have hq2 := barOK_rack hb2
      rw [← h1] at hq2
      obtain ⟨b1, b2⟩ := take_of_put hk hp hq2
      unfold doO
      rw [if_pos hb2]
      have hsv : svO s 3 a 0 0 = some (r, 0) := by
        unfold svO
        rw [if_neg (by omega), if_neg (by omega), if_pos ⟨rfl, rfl, rfl⟩, ← h1, if_pos b1, b2]
      rw [hsv]
      simp only
      have hb3 : barOK r (x + 0) (n + 1 + 1) = true := barOK_of hq (by omega) (by omega)
      rw [if_pos hb3]
      congr 2
      omega
    · rw [if_neg hp] at hs; cases hs
  · rw [if_neg (fun e => hc e.2), if_neg (by omega), if_neg (by omega), if_neg (by omega)] at hs
    cases hs
/-- what the law needs of serves in a row -/
theorem svs_form (s0 : St) (hr : s0.r.length = 24) (l : List Four) : ∃ (s : List Int) (x y i : Int) (q : Bool), s.length = 24 ∧ (q = true → barOK s x y = true) ∧ svsV s0 l = .tup [.agg (barC s x y), .c (.int .i64 i), .c (.bool q)] := by
  unfold svsV
  cases hq : barOK s0.r s0.m s0.n with
  | false => exact ⟨List.replicate 24 0, 0, 0, 0, false, by simp, (fun h => nomatch h), by rw [barC_zero]; rfl⟩
  | true =>
    have hK3 := (stop_end s0 l).choose_spec.2.2
    have hok := srvTo_ok hr hq (stopK s0 l) hK3
    exact ⟨_, _, _, _, true, hok.1, (fun _ => hok.2), rfl⟩
end Go.Proofs.Ytoaidbmkfdpagaa.AM
