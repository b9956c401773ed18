import Derived.Test.YtgkmdnngbbgboaaDoorLogF
import Derived.Test.YtgkmdnngbbgboaaDoorBarN
/- Law: valid consoles. -/
namespace Go.Proofs.YtgkmdnngbbgboaaDoor.AM
open Go
set_option maxRecDepth 1000000
set_option linter.unusedSimpArgs false
set_option linter.unusedVariables false
/-- a bar's cells and a log's -/
abbrev conV (L : List C) (d p : Tx) (c : Int) : V := .agg (L ++ [.str d, .str p, .int .i64 c])
structure Bar26 (L : List C) : Prop where
  len : L.length = 26
  ids : cids L = []
  dead : noDead L = true
theorem bar26 {x : List Int} (hx : x.length = 26) : Bar26 (x.map (C.int .i64)) := ⟨by simp [hx], cids_ints _ _, noDead_ints _ _⟩
theorem con_take {L : List C} (h : L.length = 26) (T : List C) : (L ++ T).take 26 = L := by rw [← h]; exact List.take_left
theorem con_drop {L : List C} (h : L.length = 26) (T : List C) : (L ++ T).drop 26 = T := by rw [← h]; exact List.drop_left
theorem con_cmp (g : Nat → Nat) {L : List C} (h : cids L = []) : cmp g L = L := by
  have e : (Blk.cells L true).mp g = Blk.cells L true := Blk.mp_below (by simp [h])
  injection e
theorem con_set {L Z : List C} (hL : L.length = 26) (hZ : Z.length = 29) (a b c : C) : (((setAt Z 0 L).set 26 a).set 27 b).set 28 c = L ++ [a, b, c] := by
  apply List.ext_getElem?
  intro i
  have hg := setAt_get L Z 0 i (by omega)
  simp only [List.getElem?_set, List.length_set, setAt_length, hZ, hg]
  by_cases h : i < 26
  · rw [List.getElem?_append_left (by omega)]
    have h1 : ¬ 28 = i := by omega
    have h2 : ¬ 27 = i := by omega
    have h3 : ¬ 26 = i := by omega
    simp [h1, h2, h3, hL, h]
  · rw [List.getElem?_append_right (by omega), hL]
    have : i = 26 ∨ i = 27 ∨ i = 28 ∨ 29 ≤ i := by omega
    rcases this with rfl | rfl | rfl | h4
    · simp
    · simp
    · simp
    · have h1 : ¬ 28 = i := by omega
      have h2 : ¬ 27 = i := by omega
      have h3 : ¬ 26 = i := by omega
      have h5 : ¬ (0 ≤ i ∧ i < 0 + 26) := by omega
      rw [if_neg h1, if_neg h2, if_neg h3, if_neg h5, List.getElem?_eq_none (by omega), List.getElem?_eq_none (by simp; omega)]
theorem set_full {xs cs : List C} (h : xs.length = cs.length) : setAt cs 0 xs = xs := by
  apply List.ext_getElem?
  intro i
  rw [setAt_get xs cs 0 i (by omega)]
  by_cases hi : i < xs.length
  · rw [if_pos ⟨Nat.zero_le _, by omega⟩]; rfl
  · rw [if_neg (by omega), List.getElem?_eq_none (by omega), List.getElem?_eq_none (by omega)]
theorem cids_append (L M : List C) : cids (L ++ M) = cids L ++ cids M := by
  induction L with
  | nil => rfl
  | cons x L ih => simp [cids, ih]
theorem cmp_append (g : Nat → Nat) (L M : List C) : cmp g (L ++ M) = cmp g L ++ cmp g M := by rw [cmp_eq, cmp_eq, cmp_eq, List.map_append]
theorem noDead_append : ∀ (L M : List C), noDead L = true → noDead M = true → noDead (L ++ M) = true
  | [], M, _, h => h
  | x :: L, M, h, h2 => by
    cases x <;> first | (exact noDead_append L M h h2) | (cases h)
theorem c_laws_szConsole {L : List C} (hL : Bar26 L) (d p : Tx) (c : Int) (hd : d.length ≤ 9223372036854775807) (hp : p.length ≤ 9223372036854775807) : fnI pr np 33 [conV L d p c, .c (.int .i64 1048576)] [] = some (.c (.int .i64 (if (d.length : Int) + p.length ≤ 1048576 then 1048576 - (d.length : Int) - (p.length : Int) else -1)), []) := by
  have h1 := callA_pure (c_laws_szLog d p c hd hp 1048576 (by decide) (by decide)) (by simp) (by simp)
  have hn := noDead_append L [.str d, .str p, .int .i64 c] hL.dead rfl
  rw [fb (fn := a33) rfl rfl rfl]
  by_cases h : (d.length : Int) + p.length ≤ 1048576
  · rw [if_pos h] at h1
    have n1 : ¬ 1048576 - (d.length : Int) - (p.length : Int) < 0 := by omega
    simp [a33, h, h1, n1, hn, hL.len, hL.ids, con_take hL.len, con_drop hL.len, con_cmp _ hL.ids, cids_append, cmp_append, sub]
  · rw [if_neg h] at h1
    simp [a33, h, h1, hn, hL.len, hL.ids, con_take hL.len, con_drop hL.len, con_cmp _ hL.ids, cids_append, cmp_append, sub]
theorem c_laws_toConsole {L : List C} (hL : Bar26 L) (hb : fnI pr np 51 [.agg L] [] = some (.agg L, [])) (d p : Tx) (c : Int) : fnI pr np 35 [conV L d p c] [] = some (conV L d p c, []) := by
  have h1 := callA_pure (c_laws_toLog d p c) (by simp) (by simp)
  unfold logV at h1
  have h2 := callA_pure hb (by simp [hL.ids]) (by simp [hL.ids])
  have hn := noDead_append L [.str d, .str p, .int .i64 c] hL.dead rfl
  have ht : L.take 26 = L := List.take_of_length_le (by rw [hL.len]; exact Nat.le_refl _)
  rw [fb (fn := a35) rfl rfl rfl]
  have hfull : (L ++ [C.str d, C.str p, C.int .i64 c]).take 29 = L ++ [C.str d, C.str p, C.int .i64 c] := List.take_of_length_le (by simp [hL.len])
  simp [a35, logV, h1, h2, hn, ht, hfull, con_set hL.len, set_full, setAt_length, hL.dead, hL.len, hL.ids, con_take hL.len, con_drop hL.len, con_cmp _ hL.ids, cids_append, cmp_append, setAt, sub]
theorem c_spec_IsValidConsole {L : List C} (hL : Bar26 L) {q : Bool} (hb : fnI pr np 50 [.agg L] [] = some (.c (.bool q), [])) (d p : Tx) (c : Int) (hd : d.length < 40000000) (hp : p.length < 40000000) : fnI pr np 34 [conV L d p c] [] = some (.c (.bool (q && validS d p c)), []) := by
  have h1 := callA_pure (c_spec_l12Valid d p c hd hp) (by simp) (by simp)
  have h2 := callA_pure hb (by simp [hL.ids]) (by simp)
  have hn := noDead_append L [.str d, .str p, .int .i64 c] hL.dead rfl
  have ht : L.take 26 = L := List.take_of_length_le (by rw [hL.len]; exact Nat.le_refl _)
  rw [fb (fn := a34) rfl rfl rfl]
  cases q <;> simp [a34, h1, h2, hn, ht, hL.dead, hL.len, hL.ids, con_take hL.len, con_drop hL.len, con_cmp _ hL.ids, cids_append, cmp_append, sub]
theorem c_impl_IsValidConsole {L : List C} (hL : Bar26 L) {q : Bool} (hb : fnI pr np 52 [.agg L] [] = some (.c (.bool q), [])) (d p : Tx) (c : Int) (hd : d.length < 40000000) (hp : p.length < 40000000) : fnI pr np 36 [conV L d p c] [] = some (.c (.bool (q && validS d p c)), []) := by
  have h1 := callA_pure (c_impl_IsValidLog d p c hd hp) (by simp) (by simp)
  have h2 := callA_pure hb (by simp [hL.ids]) (by simp)
  have hn := noDead_append L [.str d, .str p, .int .i64 c] hL.dead rfl
  have ht : L.take 26 = L := List.take_of_length_le (by rw [hL.len]; exact Nat.le_refl _)
  rw [fb (fn := a36) rfl rfl rfl]
  cases q <;> simp [a36, h1, h2, hn, ht, hL.dead, hL.len, hL.ids, con_take hL.len, con_drop hL.len, con_cmp _ hL.ids, cids_append, cmp_append, sub]
theorem split26 {x : List Int} (hx : x.length = 26) : ∃ (r : List Int) (m n : Int), r.length = 24 ∧ x = r ++ [m, n] := by
  refine ⟨x.take 24, x.getD 24 0, x.getD 25 0, by simp [hx], ?_⟩
  have h1 : x.drop 24 = [x.getD 24 0, x.getD 25 0] := by
    rw [List.drop_eq_getElem_cons (by omega), List.drop_eq_getElem_cons (by omega), List.drop_of_length_le (by omega)]
    simp [List.getD_eq_getElem?_getD, hx]
  rw [← h1, List.take_append_drop]
theorem c_laws_FnExactIsValidConsole (x : List Int) (d p : Tx) (c : Int) (hx : x.length = 26) (hd : d.length ≤ 9223372036854775807) (hp : p.length ≤ 9223372036854775807) : fnI pr np 10 [.agg (x.map (C.int .i64) ++ [.str d, .str p, .int .i64 c])] [] = some (.c (.bool true), []) := by
  have hL := bar26 hx
  obtain ⟨r, m, n, hr, rfl⟩ := split26 hx
  have e : (r ++ [m, n]).map (C.int .i64) = r.map (C.int .i64) ++ [C.int .i64 m, C.int .i64 n] := by simp
  have b1 := Bar.c_laws_toBar r hr m n
  have b2 := Bar.c_spec_l12Good r hr m n
  have b3 := Bar.c_impl_IsBar r hr m n
  unfold Bar.barC at b1
  rw [← e] at b1 b2 b3
  rw [Bar.rack_eq r hr] at b3
  generalize (!Bar.anyFrom (Bar.rowBad r) 0 6 && (decide (0 ≤ m) && decide (m ≤ 9999)) && (decide (0 ≤ n) && decide (n ≤ 1000))) = q at *
  generalize (r ++ [m, n]).map (C.int .i64) = L at *
  have h0 := callA_pure (c_laws_szConsole hL d p c hd hp) (by simp [cids_append, hL.ids]) (by simp)
  have h1 := callA_pure (c_laws_toConsole hL b1 d p c) (by simp [cids_append, hL.ids]) (by simp [cids_append, hL.ids])
  have hn := noDead_append L [.str d, .str p, .int .i64 c] hL.dead rfl
  have ht : (L ++ [C.str d, C.str p, C.int .i64 c]).take 29 = L ++ [C.str d, C.str p, C.int .i64 c] := List.take_of_length_le (by simp [hL.len])
  rw [fb (fn := a10) rfl rfl rfl]
  by_cases h : (d.length : Int) + p.length ≤ 1048576
  · rw [if_pos h] at h0
    have n1 : ¬ 1048576 - (d.length : Int) - (p.length : Int) < 0 := by omega
    have h2 := callA_pure (c_spec_IsValidConsole hL b2 d p c (by omega) (by omega)) (by simp [cids_append, hL.ids]) (by simp)
    have h3 := callA_pure (c_impl_IsValidConsole hL b3 d p c (by omega) (by omega)) (by simp [cids_append, hL.ids]) (by simp)
    generalize (q && validS d p c) = qq at *
    simp [a10, h0, h1, h2, h3, n1, hn, ht, hL.len, hL.ids, cids_append, sub]
  · rw [if_neg h] at h0
    simp [a10, h0, hn, ht, hL.len, hL.ids, cids_append, sub]
end Go.Proofs.YtgkmdnngbbgboaaDoor.AM
