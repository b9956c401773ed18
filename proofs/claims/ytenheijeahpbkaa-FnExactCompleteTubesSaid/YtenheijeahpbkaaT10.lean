import Derived.Test.YtenheijeahpbkaaT9
namespace Go.Proofs.Ytenheijeahpbkaa.AM
open Go
set_option maxRecDepth 100000
set_option linter.unusedSimpArgs false
theorem setAt_all (cs xs : List C) (h : (xs.length == cs.length) = true) : setAt cs 0 xs = xs := by
  have h : xs.length = cs.length := by simpa using h
  apply List.ext_getElem?
  intro j
  rw [setAt_get xs cs 0 j (by omega)]
  by_cases hj : j < xs.length
  · rw [if_pos (by omega)]; rfl
  · rw [if_neg (by omega), List.getElem?_eq_none (by omega), List.getElem?_eq_none (by omega)]
theorem newBar_eq (r : List Int) (hr : r.length = 24) : ∃ s : List Int, s.length = 24 ∧ newBar r = .tup [.agg (barC s 0 0), .c (.bool (okRack r))] := by
  unfold newBar
  cases okRack r with
  | true => exact ⟨r, hr, by simp⟩
  | false => exact ⟨List.replicate 24 0, by simp, by rw [barC_zero]; simp⟩
theorem noDead_bar (r : List Int) (m n : Int) : noDead (barC r m n) = true := by
  have : barC r m n = (r ++ [m, n]).map (C.int .i64) := by simp [barC]
  rw [this, noDead_ints]
theorem c4 (r : List Int) (hr : r.length = 24) : fnI pr np 4 [.agg (r.map (C.int .i64))] [] = some (.c (.bool true), []) := by
  obtain ⟨s, hs, hnb⟩ := newBar_eq r hr
  have hids := barC_ids s 0 0
  have h13 := c13 r hr
  have h15 := c15 r hr
  rw [hnb] at h13 h15
  have hc13 := callA_pure h13 (by simp) (by simp [hids])
  have hc15 := callA_pure h15 (by simp) (by simp [hids])
  have hc14 := callA_pure (c14 r hr) (by simp) (by simp)
  have hc16 := callA_pure (c16 s hs 0 0) (by simp [hids]) (by simp)
  have h24 : (r.map (C.int .i64)).take 24 = r.map (C.int .i64) := List.take_of_length_le (by simp; omega)
  obtain ⟨h0, _, _, _, h26⟩ := barC_parts s hs 0 0
  have hnd := noDead_bar s 0 0
  rw [fb (fn := a4) rfl rfl]
  simp [a4, hr, h24, hc14, hc13, hc15, hc16, h0, h26, hnd, setAt_all]
/-- a console's cells -/
def conC (r : List Int) (m n : Int) : List C := barC r m n ++ [.str [], .str [], .int .i64 0]
theorem conC_ids (r : List Int) (m n : Int) : cids (conC r m n) = [] := by
  have : ∀ (a b : List C), cids (a ++ b) = cids a ++ cids b := by
    intro a b
    induction a with
    | nil => rfl
    | cons c a ih => simp [cids, ih]
  unfold conC
  rw [this, barC_ids]
  rfl
theorem noDead_app : ∀ (a b : List C), noDead a = true → noDead b = true → noDead (a ++ b) = true
  | [], _, _, h => h
  | c :: a, b, h, h2 => by cases c <;> simp_all [noDead, noDead_app a b]
theorem conC_parts (r : List Int) (hr : r.length = 24) (m n : Int) : (conC r m n).length = 29 ∧ (conC r m n).take 26 = barC r m n ∧ (conC r m n).drop 26 = [C.str [], C.str [], C.int .i64 0] ∧ (conC r m n).take 29 = conC r m n ∧ noDead (conC r m n) = true := by
  have hl : (barC r m n).length = 26 := by simp [barC, hr]
  refine ⟨by simp [conC, hl], ?_, ?_, List.take_of_length_le (by simp [conC, hl]), noDead_app _ _ (noDead_bar r m n) rfl⟩
  · unfold conC; rw [List.take_append_of_le_length (by omega), List.take_of_length_le (by omega)]
  · unfold conC; rw [List.drop_append_of_le_length (by omega), List.drop_of_length_le (by omega)]; rfl
theorem c41 : fnI pr np 41 [.agg [.str [], .str [], .int .i64 0], .agg [.str [], .str [], .int .i64 0]] [] = some (.c (.bool true), []) := (fnI_iff pr np).2 ⟨10, by kernel_rfl⟩
theorem c19 (r : List Int) (hr : r.length = 24) (m n : Int) : fnI pr np 19 [.agg (conC r m n), .agg (conC r m n)] [] = some (.c (.bool true), []) := by
  have hc := callA_pure (c16 r hr m n) (by simp [barC_ids]) (by simp)
  have hc41 := callA_pure c41 (by simp) (by simp)
  obtain ⟨h0, h1, h2, h3, h4⟩ := conC_parts r hr m n
  rw [fb (fn := a19) rfl rfl]
  simp [a19, hc, hc41, h0, h1, h2, h3, h4]
def okBar (r : List Int) (m n : Int) : Bool := okRack r && (decide (0 ≤ m) && decide (m ≤ 9999)) && (decide (0 ≤ n) && decide (n ≤ 1000))
def newCon (r : List Int) (m n : Int) : V := .tup [.agg (if okBar r m n then conC r m n else conC (List.replicate 24 0) 0 0), .c (.bool (okBar r m n))]
theorem newCon_eq (r : List Int) (hr : r.length = 24) (m n : Int) : ∃ (s : List Int) (x y : Int), s.length = 24 ∧ newCon r m n = .tup [.agg (conC s x y), .c (.bool (okBar r m n))] := by
  unfold newCon
  cases okBar r m n with
  | true => exact ⟨r, m, n, hr, by simp⟩
  | false => exact ⟨List.replicate 24 0, 0, 0, by simp, by simp⟩
theorem len26 (r : List Int) (hr : r.length = 24) (m n : Int) : ∃ x0 x1 x2 x3 x4 x5 x6 x7 x8 x9 x10 x11 x12 x13 x14 x15 x16 x17 x18 x19 x20 x21 x22 x23, r = [x0, x1, x2, x3, x4, x5, x6, x7, x8, x9, x10, x11, x12, x13, x14, x15, x16, x17, x18, x19, x20, x21, x22, x23] := len24 hr
theorem c17 (r : List Int) (hr : r.length = 24) (m n : Int) : fnI pr np 17 [.agg (barC r m n)] [] = some (newCon r m n, []) := by
  have h35 := c35 r hr m n
  rw [show (!anyFrom (rowBad r) 0 6 && (decide (0 ≤ m) && decide (m ≤ 9999)) && (decide (0 ≤ n) && decide (n ≤ 1000))) = okBar r m n from rfl, show r.map (C.int .i64) ++ [C.int .i64 m, C.int .i64 n] = barC r m n from rfl] at h35
  have hc := callA_pure h35 (by simp [barC_ids]) (by simp)
  unfold newCon
  generalize okBar r m n = q at hc ⊢
  obtain ⟨x0, x1, x2, x3, x4, x5, x6, x7, x8, x9, x10, x11, x12, x13, x14, x15, x16, x17, x18, x19, x20, x21, x22, x23, rfl⟩ := len24 hr
  simp only [barC, List.map_cons, List.map_nil, List.cons_append, List.nil_append] at hc
  rw [fb (fn := a17) rfl rfl]
  cases q <;> simp [a17, hc, barC, conC]
theorem c18 (r : List Int) (hr : r.length = 24) (m n : Int) : fnI pr np 18 [.agg (barC r m n)] [] = some (newCon r m n, []) := by
  have h12 := c12 r hr m n
  rw [rack_eq r hr, show (!anyFrom (rowBad r) 0 6 && (decide (0 ≤ m) && decide (m ≤ 9999)) && (decide (0 ≤ n) && decide (n ≤ 1000))) = okBar r m n from rfl, show r.map (C.int .i64) ++ [C.int .i64 m, C.int .i64 n] = barC r m n from rfl] at h12
  have hc := callA_pure h12 (by simp [barC_ids]) (by simp)
  unfold newCon
  generalize okBar r m n = q at hc ⊢
  obtain ⟨x0, x1, x2, x3, x4, x5, x6, x7, x8, x9, x10, x11, x12, x13, x14, x15, x16, x17, x18, x19, x20, x21, x22, x23, rfl⟩ := len24 hr
  simp only [barC, List.map_cons, List.map_nil, List.cons_append, List.nil_append] at hc
  rw [fb (fn := a18) rfl rfl]
  cases q <;> simp [a18, hc, barC, conC]
theorem c5 (r : List Int) (hr : r.length = 24) (m n : Int) : fnI pr np 5 [.agg (barC r m n)] [] = some (.c (.bool true), []) := by
  obtain ⟨s, x, y, hs, hnc⟩ := newCon_eq r hr m n
  have hids := conC_ids s x y
  have hidr := barC_ids r m n
  have h17 := c17 r hr m n
  have h18 := c18 r hr m n
  rw [hnc] at h17 h18
  have hc17 := callA_pure h17 (by simp [hidr]) (by simp [hids])
  have hc18 := callA_pure h18 (by simp [hidr]) (by simp [hids])
  have hc11 := callA_pure (c11 r hr m n) (by simp [hidr]) (by simp [hidr])
  have hc19 := callA_pure (c19 s hs x y) (by simp [hids]) (by simp)
  obtain ⟨h0, _, _, _, h26⟩ := barC_parts r hr m n
  obtain ⟨k0, _, _, k29, knd⟩ := conC_parts s hs x y
  rw [fb (fn := a5) rfl rfl]
  simp [a5, h0, h26, hc11, hc17, hc18, hc19, k0, k29, knd, setAt_all]
end Go.Proofs.Ytenheijeahpbkaa.AM
