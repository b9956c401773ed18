import Derived.Test.YtoaidbmkfdpagaaDealB
/- Plain laws of deals: those in which each tube has one color are not more than all, and fewer where a tube has two layers and there are two colors; sums of fractions. -/
namespace Go.Proofs.Ytoaidbmkfdpagaa.AM
open Go
set_option maxRecDepth 1000000
set_option linter.unusedSimpArgs false
set_option linter.unusedVariables false
/-! ### in how many orders: factorials -/
def fct : Nat → Nat
  | 0 => 1
  | n + 1 => (n + 1) * fct n
theorem fct_pos : ∀ n, 0 < fct n
  | 0 => Nat.one_pos
  | n + 1 => Nat.mul_pos (Nat.succ_pos n) (fct_pos n)
theorem waysIn_eq (a p : Nat) : ∀ i, waysIn a p i = a * ch (p + i) i
  | 0 => by rw [ch_zero, Nat.mul_one]; rfl
  | i + 1 => by
    have ih := waysIn_eq a p i
    have h := ch_mul (p + i) i
    show waysIn a p i * (p + i + 1) / (i + 1) = _
    rw [ih]
    refine Nat.div_eq_of_eq_mul_left (by omega) ?_
    calc a * ch (p + i) i * (p + i + 1) = a * ((p + i + 1) * ch (p + i) i) := by ac_rfl
      _ = a * ((i + 1) * ch (p + i + 1) (i + 1)) := by rw [h]
      _ = a * ch (p + (i + 1)) (i + 1) * (i + 1) := by rw [show p + (i + 1) = p + i + 1 by omega]; ac_rfl
theorem ch_fct (p : Nat) : ∀ i, ch (p + i) i * (fct p * fct i) = fct (p + i)
  | 0 => by rw [ch_zero]; simp [fct]
  | i + 1 => by
    have ih := ch_fct p i
    have h := ch_mul (p + i) i
    rw [show p + (i + 1) = p + i + 1 by omega]
    show ch (p + i + 1) (i + 1) * (fct p * ((i + 1) * fct i)) = (p + i + 1) * fct (p + i)
    calc ch (p + i + 1) (i + 1) * (fct p * ((i + 1) * fct i)) = ((i + 1) * ch (p + i + 1) (i + 1)) * (fct p * fct i) := by ac_rfl
      _ = (p + i + 1) * ch (p + i) i * (fct p * fct i) := by rw [h]
      _ = (p + i + 1) * (ch (p + i) i * (fct p * fct i)) := by ac_rfl
      _ = _ := by rw [ih]
def facTo (c : List Nat) : Nat → Nat
  | 0 => 1
  | k + 1 => facTo c k * fct (c.getD k 0)
theorem facTo_pos (c : List Nat) : ∀ k, 0 < facTo c k
  | 0 => Nat.one_pos
  | k + 1 => Nat.mul_pos (facTo_pos c k) (fct_pos _)
theorem ways_fct (c : List Nat) : ∀ j, (waysTo c j).1 * facTo c j = fct (waysTo c j).2
  | 0 => rfl
  | j + 1 => by
    have ih := ways_fct c j
    show waysIn (waysTo c j).1 (waysTo c j).2 (c.getD j 0) * (facTo c j * fct (c.getD j 0)) = fct ((waysTo c j).2 + c.getD j 0)
    rw [waysIn_eq, ← ch_fct, ← ih]
    ac_rfl
theorem getD_set {c : List Nat} {j : Nat} (hj : j < c.length) (x k : Nat) : (c.set j x).getD k 0 = if k = j then x else c.getD k 0 := by
  rw [List.getD_eq_getElem?_getD, List.getElem?_set, List.getD_eq_getElem?_getD]
  by_cases h : k = j
  · subst h
    rw [if_pos rfl, if_pos rfl, if_pos hj]
    rfl
  · rw [if_neg (fun e => h e.symm), if_neg h]
theorem facTo_set {c : List Nat} {j : Nat} (hj : j < c.length) (x : Nat) : ∀ k, facTo (c.set j x) k * (if j < k then fct (c.getD j 0) else 1) = facTo c k * (if j < k then fct x else 1)
  | 0 => by simp [facTo]
  | k + 1 => by
    have ih := facTo_set hj x k
    simp only [facTo]
    rw [getD_set hj]
    by_cases h : k = j
    · subst h
      rw [if_neg (Nat.lt_irrefl k), if_neg (Nat.lt_irrefl k), Nat.mul_one, Nat.mul_one] at ih
      rw [if_pos rfl, if_pos (Nat.lt_succ_self k), if_pos (Nat.lt_succ_self k), ih]
      ac_rfl
    · have e : (j < k + 1) = (j < k) := by apply propext; omega
      simp only [e, if_neg h]
      calc facTo (c.set j x) k * fct (c.getD k 0) * (if j < k then fct (c.getD j 0) else 1) = facTo (c.set j x) k * (if j < k then fct (c.getD j 0) else 1) * fct (c.getD k 0) := by ac_rfl
        _ = facTo c k * (if j < k then fct x else 1) * fct (c.getD k 0) := by rw [ih]
        _ = _ := by ac_rfl
def tot (c : List Nat) : Nat := (waysTo c 6).2
def S6 (f : Nat → Nat) : Nat := f 0 + f 1 + f 2 + f 3 + f 4 + f 5
theorem tot_S6 (c : List Nat) : tot c = S6 (fun j => c.getD j 0) := by
  show (0 + c.getD 0 0 + c.getD 1 0 + c.getD 2 0 + c.getD 3 0 + c.getD 4 0 + c.getD 5 0) = _
  simp only [S6]
  omega
theorem six_cases {j : Nat} (h : j < 6) : j = 0 ∨ j = 1 ∨ j = 2 ∨ j = 3 ∨ j = 4 ∨ j = 5 := by omega
theorem S6_le {f g : Nat → Nat} (h : ∀ j, j < 6 → f j ≤ g j) : S6 f ≤ S6 g := by
  have := h 0 (by omega); have := h 1 (by omega); have := h 2 (by omega); have := h 3 (by omega); have := h 4 (by omega); have := h 5 (by omega)
  unfold S6; omega
theorem S6_lt {f g : Nat → Nat} (h : ∀ j, j < 6 → f j ≤ g j) {j : Nat} (hj : j < 6) (hl : f j < g j) : S6 f < S6 g := by
  have := h 0 (by omega); have := h 1 (by omega); have := h 2 (by omega); have := h 3 (by omega); have := h 4 (by omega); have := h 5 (by omega)
  unfold S6
  rcases six_cases hj with rfl | rfl | rfl | rfl | rfl | rfl <;> omega
theorem S6_one {f : Nat → Nat} {j : Nat} (hj : j < 6) : f j ≤ S6 f := by
  unfold S6
  rcases six_cases hj with rfl | rfl | rfl | rfl | rfl | rfl <;> omega
theorem S6_two {f : Nat → Nat} {a b : Nat} (ha : a < 6) (hb : b < 6) (hab : a ≠ b) : f a + f b ≤ S6 f := by
  unfold S6
  rcases six_cases ha with rfl | rfl | rfl | rfl | rfl | rfl <;> rcases six_cases hb with rfl | rfl | rfl | rfl | rfl | rfl <;> omega
theorem S6_third {f : Nat → Nat} {a b : Nat} (ha : a < 6) (hb : b < 6) (hab : a ≠ b) (fa : f a = 1) (fb : f b = 1) (h : 3 ≤ S6 f) : ∃ d, d < 6 ∧ d ≠ a ∧ d ≠ b ∧ 1 ≤ f d := by
  apply Classical.byContradiction
  intro hn
  have hz : ∀ d, d < 6 → d ≠ a → d ≠ b → f d = 0 := by
    intro d h1 h2 h3
    apply Classical.byContradiction
    intro h4
    exact hn ⟨d, h1, h2, h3, by omega⟩
  have z0 := hz 0 (by omega); have z1 := hz 1 (by omega); have z2 := hz 2 (by omega); have z3 := hz 3 (by omega); have z4 := hz 4 (by omega); have z5 := hz 5 (by omega)
  unfold S6 at h
  rcases six_cases ha with rfl | rfl | rfl | rfl | rfl | rfl <;> rcases six_cases hb with rfl | rfl | rfl | rfl | rfl | rfl <;> first | (exact absurd rfl hab) | (simp at z0 z1 z2 z3 z4 z5; omega)
theorem S6_mul (f : Nat → Nat) (x : Nat) : S6 f * x = S6 (fun j => f j * x) := by
  unfold S6
  simp only [Nat.add_mul]
theorem S6_congr {f g : Nat → Nat} (h : ∀ j, j < 6 → f j = g j) : S6 f = S6 g := by
  unfold S6
  rw [h 0 (by omega), h 1 (by omega), h 2 (by omega), h 3 (by omega), h 4 (by omega), h 5 (by omega)]
/-- counts with m less of one color -/
def dn (c : List Nat) (m j : Nat) : List Nat := c.set j (c.getD j 0 - m)
theorem dn_len (c : List Nat) (m j : Nat) : (dn c m j).length = c.length := by simp [dn]
theorem dn_get {c : List Nat} (hc : c.length = 6) {j : Nat} (hj : j < 6) (m k : Nat) : (dn c m j).getD k 0 = if k = j then c.getD j 0 - m else c.getD k 0 := getD_set (by omega) _ _
theorem dn_dn {c : List Nat} (hc : c.length = 6) {j : Nat} (hj : j < 6) (m n : Nat) : dn (dn c m j) n j = dn c (m + n) j := by
  have e : (dn c m j).getD j 0 = c.getD j 0 - m := by rw [dn_get hc hj, if_pos rfl]
  unfold dn at e ⊢
  rw [e, List.set_set, Nat.sub_sub]
theorem tot_dn {c : List Nat} (hc : c.length = 6) {j : Nat} (hj : j < 6) {m : Nat} (hm : m ≤ c.getD j 0) : tot (dn c m j) + m = tot c := by
  rw [tot_S6, tot_S6]
  have hg := fun k => dn_get hc hj m k
  simp only [S6, hg]
  rcases six_cases hj with rfl | rfl | rfl | rfl | rfl | rfl <;> simp at hm ⊢ <;> omega
/-- ways behind m layers of one color -/
def tm (m : Nat) (c : List Nat) (j : Nat) : Nat := if m ≤ c.getD j 0 then ways (dn c m j) else 0
theorem tm_fct {c : List Nat} (hc : c.length = 6) {t : Nat} (ht : tot c = t + 1) {j : Nat} (hj : j < 6) : tm 1 c j * facTo c 6 = c.getD j 0 * fct t := by
  unfold tm
  by_cases h : 1 ≤ c.getD j 0
  · rw [if_pos h]
    have htd := tot_dn hc hj h
    have hd : tot (dn c 1 j) = t := by omega
    have hf := facTo_set (c := c) (j := j) (by omega) (c.getD j 0 - 1) 6
    rw [if_pos hj, if_pos hj] at hf
    have hw : ways (dn c 1 j) * facTo (dn c 1 j) 6 = fct t := by rw [← hd]; exact ways_fct _ 6
    have e1 : facTo (dn c 1 j) 6 = facTo (c.set j (c.getD j 0 - 1)) 6 := rfl
    rw [e1] at hw
    have e2 : fct (c.getD j 0) = c.getD j 0 * fct (c.getD j 0 - 1) := by
      obtain ⟨x, hx⟩ : ∃ x, c.getD j 0 = x + 1 := ⟨c.getD j 0 - 1, by omega⟩
      rw [hx]
      rfl
    rw [e2] at hf
    have e3 : facTo c 6 = c.getD j 0 * facTo (c.set j (c.getD j 0 - 1)) 6 := by
      apply Nat.eq_of_mul_eq_mul_right (fct_pos (c.getD j 0 - 1))
      rw [← hf]
      ac_rfl
    rw [e3, ← hw]
    ac_rfl
  · rw [if_neg h, show c.getD j 0 = 0 by omega]
    simp
theorem ways_step {c : List Nat} (hc : c.length = 6) (h : 0 < tot c) : ways c = S6 (tm 1 c) := by
  obtain ⟨t, ht⟩ : ∃ t, tot c = t + 1 := ⟨tot c - 1, by omega⟩
  apply Nat.eq_of_mul_eq_mul_right (facTo_pos c 6)
  have h1 : ways c * facTo c 6 = fct (t + 1) := by rw [← ht]; exact ways_fct c 6
  rw [h1, S6_mul, S6_congr (fun j hj => tm_fct hc ht hj), ← S6_mul, ← tot_S6, ht]
  rfl
theorem tot_pos_of {c : List Nat} {j : Nat} (hj : j < 6) (h : 1 ≤ c.getD j 0) : 0 < tot c := by
  rw [tot_S6]
  exact Nat.lt_of_lt_of_le h (S6_one (f := fun j => c.getD j 0) hj)
theorem tm1_le {c : List Nat} (hc : c.length = 6) {j : Nat} (hj : j < 6) : tm 1 c j ≤ ways c := by
  by_cases h : 1 ≤ c.getD j 0
  · rw [ways_step hc (tot_pos_of hj h)]
    exact S6_one hj
  · unfold tm
    rw [if_neg h]
    exact Nat.zero_le _
theorem tm_mono {c : List Nat} (hc : c.length = 6) {j : Nat} (hj : j < 6) (m : Nat) : tm (m + 1) c j ≤ tm m c j := by
  by_cases h : m + 1 ≤ c.getD j 0
  · have h1 := tm1_le (c := dn c m j) (by rw [dn_len]; exact hc) hj
    have e : tm 1 (dn c m j) j = tm (m + 1) c j := by
      unfold tm
      rw [dn_get hc hj, if_pos rfl, dn_dn hc hj, if_pos h, if_pos (by omega)]
    rw [e] at h1
    have e2 : tm m c j = ways (dn c m j) := by unfold tm; rw [if_pos (by omega)]
    rw [e2]
    exact h1
  · have e : tm (m + 1) c j = 0 := by unfold tm; rw [if_neg h]
    rw [e]
    exact Nat.zero_le _
theorem tm_anti {c : List Nat} (hc : c.length = 6) {j : Nat} (hj : j < 6) (m : Nat) : ∀ d, tm (m + d) c j ≤ tm m c j
  | 0 => Nat.le_refl _
  | d + 1 => Nat.le_trans (tm_mono hc hj (m + d)) (tm_anti hc hj m d)
theorem S_le {c : List Nat} (hc : c.length = 6) {m : Nat} (hm : 1 ≤ m) : S6 (tm m c) ≤ ways c := by
  by_cases h : 0 < tot c
  · rw [ways_step hc h]
    refine S6_le fun j hj => ?_
    have := tm_anti hc hj 1 (m - 1)
    rwa [show 1 + (m - 1) = m by omega] at this
  · have : ∀ j, j < 6 → tm m c j = 0 := by
      intro j hj
      have h1 := S6_one (f := fun j => c.getD j 0) hj
      rw [← tot_S6] at h1
      have h2 : c.getD j 0 = 0 := by omega
      unfold tm
      rw [h2, if_neg (by omega)]
    rw [S6_congr (g := fun _ => 0) this]
    exact Nat.zero_le _
theorem plainN_S6 (m : Nat) (ms c : List Nat) (h : m ≠ 0) : plainN (m :: ms) c = S6 (fun j => if m ≤ c.getD j 0 then plainN ms (dn c m j) else 0) := by
  rw [plainN_cons m ms c h]
  unfold plainTo S6 dn
  simp [List.range_succ]
  try omega
theorem plain_le_ways : ∀ (ms c : List Nat), c.length = 6 → plainN ms c ≤ ways c
  | [], c, _ => by simp only [plainN]; exact ways_pos c
  | m :: ms, c, hc => by
    by_cases h : m = 0
    · rw [plainN, if_pos h]
      exact plain_le_ways ms c hc
    · rw [plainN_S6 m ms c h]
      refine Nat.le_trans (S6_le (g := tm m c) fun j hj => ?_) (S_le hc (by omega))
      unfold tm
      split
      · exact plain_le_ways ms _ (by rw [dn_len]; exact hc)
      · exact Nat.le_refl _
theorem tm_two_lt {c : List Nat} (hc : c.length = 6) {a b : Nat} (ha : a < 6) (hb : b < 6) (hab : a ≠ b) (h1 : 1 ≤ c.getD a 0) (h2 : 1 ≤ c.getD b 0) : S6 (tm 2 c) < ways c := by
  rw [ways_step hc (tot_pos_of ha h1)]
  refine S6_lt (fun j hj => tm_mono hc hj 1) ha ?_
  have hd : (dn c 1 a).length = 6 := by rw [dn_len]; exact hc
  have e1 : tm 1 c a = ways (dn c 1 a) := by unfold tm; rw [if_pos h1]
  have gb : (dn c 1 a).getD b 0 = c.getD b 0 := by rw [dn_get hc ha, if_neg (Ne.symm hab)]
  have ga : (dn c 1 a).getD a 0 = c.getD a 0 - 1 := by rw [dn_get hc ha, if_pos rfl]
  rw [e1, ways_step hd (tot_pos_of hb (by omega))]
  have h3 := S6_two (f := tm 1 (dn c 1 a)) ha hb hab
  have h4 : 1 ≤ tm 1 (dn c 1 a) b := by unfold tm; rw [if_pos (by omega)]; exact ways_pos _
  have h5 : tm 2 c a ≤ tm 1 (dn c 1 a) a := by
    unfold tm
    rw [ga, dn_dn hc ha]
    by_cases h : 2 ≤ c.getD a 0
    · rw [if_pos h, if_pos (by omega)]; exact Nat.le_refl _
    · rw [if_neg h]; exact Nat.zero_le _
  omega
theorem mem_le_sum {x : Nat} : ∀ {l : List Nat}, x ∈ l → x ≤ l.sum
  | y :: l, h => by
    rw [List.sum_cons]
    rcases List.mem_cons.1 h with rfl | h
    · omega
    · have := mem_le_sum h; omega
theorem plain_lt : ∀ (ms c : List Nat), c.length = 6 → ms.sum = tot c → (∃ m, m ∈ ms ∧ 2 ≤ m) → (∃ a b, a < 6 ∧ b < 6 ∧ a ≠ b ∧ 1 ≤ c.getD a 0 ∧ 1 ≤ c.getD b 0) → plainN ms c < ways c
  | [], c, _, _, h, _ => by obtain ⟨m, hm, _⟩ := h; cases hm
  | m :: ms, c, hc, hs, h, hab => by
    rw [List.sum_cons] at hs
    by_cases h0 : m = 0
    · rw [plainN, if_pos h0]
      refine plain_lt ms c hc (by omega) ?_ hab
      obtain ⟨x, hx, h2⟩ := h
      rcases List.mem_cons.1 hx with e | hx
      · omega
      · exact ⟨x, hx, h2⟩
    · rw [plainN_S6 m ms c h0]
      obtain ⟨a, b, ha, hb, hne, h1, h2⟩ := hab
      have hle : ∀ j, j < 6 → (if m ≤ c.getD j 0 then plainN ms (dn c m j) else 0) ≤ tm m c j := by
        intro j hj
        unfold tm
        split
        · exact plain_le_ways ms _ (by rw [dn_len]; exact hc)
        · exact Nat.le_refl _
      by_cases hm2 : 2 ≤ m
      · refine Nat.lt_of_le_of_lt (S6_le hle) ?_
        refine Nat.lt_of_le_of_lt (S6_le (g := tm 2 c) fun j hj => ?_) (tm_two_lt hc ha hb hne h1 h2)
        have := tm_anti hc hj 2 (m - 2)
        rwa [show 2 + (m - 2) = m by omega] at this
      · have hm1 : m = 1 := by omega
        subst hm1
        have hms : ∃ x, x ∈ ms ∧ 2 ≤ x := by
          obtain ⟨x, hx, h2⟩ := h
          rcases List.mem_cons.1 hx with e | hx
          · omega
          · exact ⟨x, hx, h2⟩
        have hsum : 2 ≤ ms.sum := by
          obtain ⟨x, hx, h2⟩ := hms
          exact Nat.le_trans h2 (mem_le_sum hx)
        rw [ways_step hc (tot_pos_of ha h1)]
        -- a color of which one layer less leaves two colors
        have hj : ∃ j, j < 6 ∧ 1 ≤ c.getD j 0 ∧ ∃ a b, a < 6 ∧ b < 6 ∧ a ≠ b ∧ 1 ≤ (dn c 1 j).getD a 0 ∧ 1 ≤ (dn c 1 j).getD b 0 := by
          by_cases ca : 2 ≤ c.getD a 0
          · refine ⟨a, ha, h1, a, b, ha, hb, hne, ?_, ?_⟩
            · rw [dn_get hc ha, if_pos rfl]; omega
            · rw [dn_get hc ha, if_neg (Ne.symm hne)]; exact h2
          · by_cases cb : 2 ≤ c.getD b 0
            · refine ⟨b, hb, h2, a, b, ha, hb, hne, ?_, ?_⟩
              · rw [dn_get hc hb, if_neg hne]; exact h1
              · rw [dn_get hc hb, if_pos rfl]; omega
            · obtain ⟨d, hd, da, db, h3⟩ := S6_third (f := fun j => c.getD j 0) ha hb hne (by omega) (by omega) (by rw [← tot_S6]; omega)
              refine ⟨d, hd, h3, a, b, ha, hb, hne, ?_, ?_⟩
              · rw [dn_get hc hd, if_neg (Ne.symm da)]; exact h1
              · rw [dn_get hc hd, if_neg (Ne.symm db)]; exact h2
        obtain ⟨j, hj6, hcj, hab2⟩ := hj
        refine S6_lt hle hj6 ?_
        have htd := tot_dn hc hj6 hcj
        have := plain_lt ms (dn c 1 j) (by rw [dn_len]; exact hc) (by omega) hms hab2
        unfold tm
        rw [if_pos hcj, if_pos hcj]
        exact this
/-! ### fractions -/
theorem cutF_coprime {a b : Nat} (hb : 0 < b) : Nat.Coprime (cutF a b).1 (cutF a b).2 := Nat.coprime_div_gcd_div_gcd (Nat.gcd_pos_of_pos_right a hb)
theorem frac_unique {a b c d : Nat} (hb : 0 < b) (hd : 0 < d) (h1 : Nat.Coprime a b) (h2 : Nat.Coprime c d) (h : a * d = c * b) : a = c ∧ b = d := by
  have h3 : b ∣ d := Nat.Coprime.dvd_of_dvd_mul_left (Nat.Coprime.symm h1) ⟨c, by rw [h, Nat.mul_comm]⟩
  have h4 : d ∣ b := Nat.Coprime.dvd_of_dvd_mul_left (Nat.Coprime.symm h2) ⟨a, by rw [← h, Nat.mul_comm]⟩
  have e : b = d := Nat.dvd_antisymm h3 h4
  subst e
  exact ⟨Nat.eq_of_mul_eq_mul_right hb h, rfl⟩
theorem cutF_eq {a b c d : Nat} (hb : 0 < b) (hd : 0 < d) (h : a * d = c * b) : cutF a b = cutF c d := by
  have r1 := cutF_ratio a b
  have r2 := cutF_ratio c d
  have p1 := cutF_pos (a := a) hb
  have p2 := cutF_pos (a := c) hd
  have key : (cutF a b).1 * (cutF c d).2 = (cutF c d).1 * (cutF a b).2 := by
    apply Nat.eq_of_mul_eq_mul_right (Nat.mul_pos hb hd)
    calc (cutF a b).1 * (cutF c d).2 * (b * d) = ((cutF a b).1 * b) * ((cutF c d).2 * d) := by ac_rfl
      _ = (a * (cutF a b).2) * ((cutF c d).2 * d) := by rw [r1]
      _ = (a * d) * ((cutF a b).2 * (cutF c d).2) := by ac_rfl
      _ = (c * b) * ((cutF a b).2 * (cutF c d).2) := by rw [h]
      _ = (c * (cutF c d).2) * ((cutF a b).2 * b) := by ac_rfl
      _ = ((cutF c d).1 * d) * ((cutF a b).2 * b) := by rw [r2]
      _ = (cutF c d).1 * (cutF a b).2 * (b * d) := by ac_rfl
  obtain ⟨e1, e2⟩ := frac_unique p1 p2 (cutF_coprime hb) (cutF_coprime hd) key
  exact Prod.ext e1 e2
theorem cutF_one {a : Nat} (h : 0 < a) : cutF a a = (1, 1) := by
  unfold cutF
  rw [Nat.gcd_self, Nat.div_self h]
theorem cutF_zero {a : Nat} (h : 0 < a) : cutF 0 a = (0, 1) := by
  unfold cutF
  rw [Nat.gcd_zero_left, Nat.div_self h, Nat.zero_div]
theorem cutF_small {a b : Nat} (hb : 0 < b) (h : a ≤ b) : (cutF a b).1 ≤ (cutF a b).2 := Nat.div_le_div_right h
theorem cutF_is_one {a b : Nat} (hb : 0 < b) (h : cutF a b = (1, 1)) : a = b := by
  have := cutF_ratio a b
  rw [h] at this
  simp at this
  omega
/-- a sum of fractions over their least common denominator -/
def vSumF (x y : Nat × Nat) : Nat × Nat := cutF (x.1 * (y.2 / Nat.gcd x.2 y.2) + y.1 * (x.2 / Nat.gcd x.2 y.2)) (x.2 / Nat.gcd x.2 y.2 * y.2)
theorem vSumF_eq {x y : Nat × Nat} {a b n : Nat} (hn : 0 < n) (hx : x = cutF a n) (hy : y = cutF b n) : vSumF x y = cutF (a + b) n := by
  have px : 0 < x.2 := by rw [hx]; exact cutF_pos hn
  have py : 0 < y.2 := by rw [hy]; exact cutF_pos hn
  have rx : x.1 * n = a * x.2 := by rw [hx]; exact cutF_ratio a n
  have ry : y.1 * n = b * y.2 := by rw [hy]; exact cutF_ratio b n
  unfold vSumF
  have hg : 0 < Nat.gcd x.2 y.2 := Nat.gcd_pos_of_pos_left _ px
  obtain ⟨u, hu⟩ := Nat.gcd_dvd_left x.2 y.2
  obtain ⟨v, hv⟩ := Nat.gcd_dvd_right x.2 y.2
  have eu : x.2 / Nat.gcd x.2 y.2 = u := by
    have := Nat.mul_div_cancel_left u hg
    rw [← hu] at this; exact this
  have ev : y.2 / Nat.gcd x.2 y.2 = v := by
    have := Nat.mul_div_cancel_left v hg
    rw [← hv] at this; exact this
  rw [eu, ev]
  have pu : 0 < u := by
    rcases Nat.eq_zero_or_pos u with h | h
    · rw [h] at hu; simp at hu; omega
    · exact h
  refine cutF_eq (Nat.mul_pos pu py) hn ?_
  generalize Nat.gcd x.2 y.2 = g at *
  have e1 : x.1 * v * n = a * (u * y.2) := by
    calc x.1 * v * n = (x.1 * n) * v := by ac_rfl
      _ = a * x.2 * v := by rw [rx]
      _ = a * (g * u) * v := by rw [← hu]
      _ = a * (u * (g * v)) := by ac_rfl
      _ = a * (u * y.2) := by rw [← hv]
  have e2 : y.1 * u * n = b * (u * y.2) := by
    calc y.1 * u * n = (y.1 * n) * u := by ac_rfl
      _ = b * y.2 * u := by rw [ry]
      _ = b * (u * y.2) := by ac_rfl
  rw [Nat.add_mul, e1, e2, ← Nat.add_mul]
end Go.Proofs.Ytoaidbmkfdpagaa.AM
