import Derived.Test.YtgpafbbnobanbaaGreatDoorPb
/- Kinds of tubes behind pours, weights of colors, sums. -/
namespace Go.Proofs.YtgpafbbnobanbaaGreatDoor.Way
set_option linter.unusedSimpArgs false
set_option linter.unusedVariables false
theorem good_tail {r : Nat × Nat} {t : Tube} (h : good (r :: t)) : good t := fun x hx => h x (List.mem_cons_of_mem _ hx)
theorem good_head {c n : Nat} {t : Tube} (h : good ((c, n) :: t)) : 1 ≤ n ∧ 1 ≤ c ∧ c ≤ 5 := h (c, n) (List.mem_cons_self ..)
/-- The kind of a tube by its number of runs. -/
theorem ty_len {t : Tube} (h : t.length ≤ 4) : (t.length = 0 ∧ ty t = 0) ∨ (t.length = 1 ∧ (size t = 4 ∧ ty t = 2 ∨ size t ≠ 4 ∧ ty t = 1)) ∨ (t.length = 2 ∧ (size t = 4 ∧ ty t = 4 ∨ size t ≠ 4 ∧ ty t = 3)) ∨ (t.length = 3 ∧ (size t = 4 ∧ ty t = 6 ∨ size t ≠ 4 ∧ ty t = 5)) ∨ (t.length = 4 ∧ ty t = 7) := by
  have : t.length = 0 ∨ t.length = 1 ∨ t.length = 2 ∨ t.length = 3 ∨ t.length = 4 := by omega
  by_cases hz : size t = 4 <;> rcases this with e | e | e | e | e <;> simp [ty, e, hz]
theorem dec_eqs : dec 0 = 0 ∧ dec 1 = 0 ∧ dec 2 = 0 ∧ dec 3 = 1 ∧ dec 4 = 1 ∧ dec 5 = 3 ∧ dec 6 = 3 ∧ dec 7 = 5 := ⟨rfl, rfl, rfl, rfl, rfl, rfl, rfl, rfl⟩
theorem ty_dec {c n : Nat} {A : Tube} (g : good ((c, n) :: A)) (h : size ((c, n) :: A) ≤ 4) : ty A = dec (ty ((c, n) :: A)) := by
  have l := len_size g
  have l2 := len_size (good_tail g)
  have hn := (good_head g).1
  have a := ty_len (t := (c, n) :: A) (by omega)
  have b := ty_len (t := A) (by simp only [List.length_cons] at l; omega)
  simp only [size, List.length_cons] at l h a
  obtain ⟨d0, d1, d2, d3, d4, d5, d6, d7⟩ := dec_eqs
  have : ty ((c, n) :: A) = 0 ∨ ty ((c, n) :: A) = 1 ∨ ty ((c, n) :: A) = 2 ∨ ty ((c, n) :: A) = 3 ∨ ty ((c, n) :: A) = 4 ∨ ty ((c, n) :: A) = 5 ∨ ty ((c, n) :: A) = 6 ∨ ty ((c, n) :: A) = 7 := eight (ty_lt _)
  rcases this with e | e | e | e | e | e | e | e <;> rw [e] at a ⊢ <;> omega
theorem ty_one {c n : Nat} (h : n < 4) : ty [(c, n)] = 1 := by
  have : n ≠ 4 := by omega
  simp [ty, size, this]
theorem ty_nil : ty [] = 0 := rfl
theorem ty_open {c p : Nat} {B : Tube} (g : good ((c, p) :: B)) (h : p + size B < 4) : (ty ((c, p) :: B) = 1 ∧ B.length = 0) ∨ (ty ((c, p) :: B) = 3 ∧ B.length = 1) ∨ (ty ((c, p) :: B) = 5 ∧ B.length = 2) := by
  have l := len_size g
  have a := ty_len (t := (c, p) :: B) (by simp only [size] at l; omega)
  simp only [size, List.length_cons] at l a
  omega
theorem ty_more {c p p' : Nat} {B : Tube} (g : good ((c, p) :: B)) (h : p + size B < 4) (h2 : p' + size B ≤ 4) : (p' + size B = 4 ∧ ty ((c, p') :: B) = ty ((c, p) :: B) + 1) ∨ (p' + size B ≠ 4 ∧ ty ((c, p') :: B) = ty ((c, p) :: B)) := by
  have l := len_size g
  have a := ty_open g h
  have b := ty_len (t := (c, p') :: B) (by simp only [size, List.length_cons] at l ⊢; omega)
  simp only [size, List.length_cons] at l b
  omega
theorem nf_eqs : nf 1 = 1 ∧ nf 2 = 1 ∧ nf 3 = 3 ∧ nf 4 = 3 ∧ nf 5 = 5 ∧ nf 6 = 5 := ⟨rfl, rfl, rfl, rfl, rfl, rfl⟩
theorem ty_less {c : Nat} {A : Tube} (g : good ((c, 2) :: A)) (h : size A ≤ 2) : ty ((c, 1) :: A) = nf (ty ((c, 2) :: A)) ∧ (ty ((c, 2) :: A) = 1 ∨ ty ((c, 2) :: A) = 2 ∨ ty ((c, 2) :: A) = 3 ∨ ty ((c, 2) :: A) = 4 ∨ ty ((c, 2) :: A) = 5 ∨ ty ((c, 2) :: A) = 6) := by
  have l := len_size (good_tail g)
  have a := ty_len (t := (c, 2) :: A) (by simp only [List.length_cons]; omega)
  have b := ty_len (t := (c, 1) :: A) (by simp only [List.length_cons]; omega)
  simp only [size, List.length_cons] at l a b
  obtain ⟨n1, n2, n3, n4, n5, n6⟩ := nf_eqs
  have : ty ((c, 2) :: A) = 1 ∨ ty ((c, 2) :: A) = 2 ∨ ty ((c, 2) :: A) = 3 ∨ ty ((c, 2) :: A) = 4 ∨ ty ((c, 2) :: A) = 5 ∨ ty ((c, 2) :: A) = 6 := by omega
  refine ⟨?_, this⟩
  rcases this with e | e | e | e | e | e <;> rw [e] at a ⊢ <;> omega
def r (Y : Rack) (c : Nat) : Nat := tot (cnt c) Y
def hh : Nat → Nat
  | 0 => 1 | 1 => 1 | 2 => 1 | 3 => 2 | _ => 6
def HH (Y : Rack) : Nat := hh (r Y 1) * hh (r Y 2) * hh (r Y 3) * hh (r Y 4) * hh (r Y 5)
theorem five {c : Nat} (h : 1 ≤ c ∧ c ≤ 5) : c = 1 ∨ c = 2 ∨ c = 3 ∨ c = 4 ∨ c = 5 := by omega
theorem hh_succ {n : Nat} (h : 1 ≤ n) (h2 : n ≤ 3) : hh (n + 1) = n * hh n := by
  have : n = 1 ∨ n = 2 ∨ n = 3 := by omega
  rcases this with rfl | rfl | rfl <;> rfl
theorem HH_same {Y Z : Rack} (h : ∀ c, r Z c = r Y c) : HH Z = HH Y := by simp only [HH, h]
theorem HH_less {Y Z : Rack} {c : Nat} (hc : 1 ≤ c ∧ c ≤ 5) (h1 : r Y c = r Z c + 1) (h2 : 1 ≤ r Z c) (h3 : r Z c ≤ 3) (h : ∀ d, d ≠ c → r Z d = r Y d) : HH Y = r Z c * HH Z := by
  have e := hh_succ h2 h3
  rw [← h1] at e
  rcases five hc with rfl | rfl | rfl | rfl | rfl
  · simp only [HH, e, h 2 (by decide), h 3 (by decide), h 4 (by decide), h 5 (by decide)]; ac_rfl
  · simp only [HH, e, h 1 (by decide), h 3 (by decide), h 4 (by decide), h 5 (by decide)]; ac_rfl
  · simp only [HH, e, h 1 (by decide), h 2 (by decide), h 4 (by decide), h 5 (by decide)]; ac_rfl
  · simp only [HH, e, h 1 (by decide), h 2 (by decide), h 3 (by decide), h 5 (by decide)]; ac_rfl
  · simp only [HH, e, h 1 (by decide), h 2 (by decide), h 3 (by decide), h 4 (by decide)]; ac_rfl
def sum5 (f : Nat → Nat) : Nat := f 1 + f 2 + f 3 + f 4 + f 5
theorem sum5_le {f g : Nat → Nat} (h : ∀ c, 1 ≤ c ∧ c ≤ 5 → f c ≤ g c) : sum5 f ≤ sum5 g := by
  have h1 := h 1 (by omega); have h2 := h 2 (by omega); have h3 := h 3 (by omega); have h4 := h 4 (by omega); have h5 := h 5 (by omega)
  simp only [sum5]; omega
theorem sum5_change {f g : Nat → Nat} {c : Nat} (hc : 1 ≤ c ∧ c ≤ 5) (h : ∀ d, 1 ≤ d ∧ d ≤ 5 → d ≠ c → f d = g d) : sum5 f + g c = sum5 g + f c := by
  have h1 := h 1 (by omega); have h2 := h 2 (by omega); have h3 := h 3 (by omega); have h4 := h 4 (by omega); have h5 := h 5 (by omega)
  rcases five hc with rfl | rfl | rfl | rfl | rfl <;> simp only [sum5] <;> simp at h1 h2 h3 h4 h5 <;> omega
theorem sum56 (f : Nat → Nat → Nat) : (sum6 fun i => sum5 fun c => f i c) = sum5 fun c => sum6 fun i => f i c := by
  simp only [sum6, sum5]; omega
theorem sum6_add (f g : Nat → Nat) : (sum6 fun i => f i + g i) = sum6 f + sum6 g := by simp only [sum6]; omega
theorem sum6_mul (a : Nat) (f : Nat → Nat) : (sum6 fun i => a * f i) = a * sum6 f := by simp only [sum6, Nat.mul_add]
theorem sum6_mul' (a : Nat) (f : Nat → Nat) : (sum6 fun i => f i * a) = sum6 f * a := by simp only [sum6, Nat.add_mul]
theorem sum6_point {v : Nat} (hv : v < 6) : (sum6 fun i => if v = i then 1 else 0) = 1 := by
  rcases six hv with rfl | rfl | rfl | rfl | rfl | rfl <;> rfl
theorem sum6_only {f : Nat → Nat} {v : Nat} (hv : v < 6) (h : ∀ i, i < 6 → i ≠ v → f i = 0) : sum6 f = f v := by
  have h0 := h 0 (by omega); have h1 := h 1 (by omega); have h2 := h 2 (by omega); have h3 := h 3 (by omega); have h4 := h 4 (by omega); have h5 := h 5 (by omega)
  rcases six hv with rfl | rfl | rfl | rfl | rfl | rfl <;> simp only [sum6] <;> simp at h0 h1 h2 h3 h4 h5 <;> omega
def b1 (b : Bool) : Nat := cond b 1 0
def F (pd : Nat → Bool) : Nat := sum5 fun c => b1 (pd c)
def fq (Y : Rack) (pd : Nat → Bool) (c : Nat) : Nat := if pd c = false ∧ 3 ≤ r Y c ∧ 4 ≤ tot (lay c) Y then 1 else 0
def FQ (Y : Rack) (pd : Nat → Bool) : Nat := sum5 (fq Y pd)
/-- Marks of places told by colors. -/
def marks (pd : Nat → Bool) (v : Nat → Nat) (i : Nat) : Nat := sum5 fun c => if pd c = true ∧ v c = i then 1 else 0
theorem marks_sum {pd : Nat → Bool} {v : Nat → Nat} (h : ∀ c, pd c = true → v c < 6) : sum6 (marks pd v) = F pd := by
  show (sum6 fun i => sum5 fun c => if pd c = true ∧ v c = i then 1 else 0) = _
  rw [sum56]
  show sum5 _ = sum5 _
  have key : ∀ c, (sum6 fun i => if pd c = true ∧ v c = i then 1 else 0) = b1 (pd c) := by
    intro c
    by_cases e : pd c = true
    · simp only [e, true_and]
      exact sum6_point (h c e)
    · have e' : pd c = false := by simpa using e
      simp [e', b1, sum6]
  simp only [key]
theorem marks_pos {pd : Nat → Bool} {v : Nat → Nat} {i : Nat} (h : 0 < marks pd v i) : ∃ c, 1 ≤ c ∧ c ≤ 5 ∧ pd c = true ∧ v c = i := by
  simp only [marks, sum5] at h
  by_cases h1 : pd 1 = true ∧ v 1 = i
  · exact ⟨1, by omega, by omega, h1.1, h1.2⟩
  by_cases h2 : pd 2 = true ∧ v 2 = i
  · exact ⟨2, by omega, by omega, h2.1, h2.2⟩
  by_cases h3 : pd 3 = true ∧ v 3 = i
  · exact ⟨3, by omega, by omega, h3.1, h3.2⟩
  by_cases h4 : pd 4 = true ∧ v 4 = i
  · exact ⟨4, by omega, by omega, h4.1, h4.2⟩
  by_cases h5 : pd 5 = true ∧ v 5 = i
  · exact ⟨5, by omega, by omega, h5.1, h5.2⟩
  simp [h1, h2, h3, h4, h5] at h
theorem marks_le {pd : Nat → Bool} {v : Nat → Nat} {i : Nat} (h : ∀ c d, pd c = true → pd d = true → v c = i → v d = i → c = d) : marks pd v i ≤ 1 := by
  by_cases e : ∃ c, 1 ≤ c ∧ c ≤ 5 ∧ pd c = true ∧ v c = i
  · obtain ⟨c, a, b, p, q⟩ := e
    have := sum5_le (f := fun d => if pd d = true ∧ v d = i then 1 else 0) (g := fun d => if d = c then 1 else 0) fun d hd => by
      by_cases k : pd d = true ∧ v d = i
      · simp only [k, and_self, if_true]
        rw [if_pos (h d c k.1 p k.2 q)]; omega
      · simp only [if_neg k]; omega
    refine Nat.le_trans this ?_
    rcases five ⟨a, b⟩ with rfl | rfl | rfl | rfl | rfl <;> simp [sum5]
  · rcases Nat.eq_zero_or_pos (marks pd v i) with k | k
    · omega
    · exact (e (marks_pos k)).elim
/-- The first run of a tube has a color. -/
def tp (c : Nat) (t : Tube) : Nat := match t with
  | [] => 0
  | (d, _) :: _ => if d = c then 1 else 0
theorem tp_cnt (c : Nat) (t : Tube) : tp c t ≤ cnt c t := by
  cases t with
  | nil => exact Nat.le_refl _
  | cons x t => obtain ⟨d, n⟩ := x; simp only [tp, cnt]; omega
/-- Tubes with the color of a tube on top: fewer than its runs. -/
theorem tops_lt {Y : Rack} {c p j : Nat} {B : Tube} (hj : j < 6) (ej : Y j = (c, p) :: B) : (sum6 fun i => if i = j then 0 else tp c (Y i)) + 1 ≤ r Y c := by
  have a : (sum6 fun i => (if i = j then 0 else tp c (Y i)) + if j = i then 1 else 0) ≤ r Y c := by
    refine sum6_le (g := fun i => cnt c (Y i)) fun i hi => ?_
    by_cases e : i = j
    · subst e
      have := tp_cnt c (Y i)
      simp only [ej, tp, if_true] at this ⊢
      omega
    · have := tp_cnt c (Y i)
      simp only [if_neg e, if_neg (Ne.symm e)]; omega
  rw [sum6_add, sum6_point hj] at a
  exact a
theorem three_le {f : Nat → Nat} {i j k : Nat} (hi : i < 6) (hj : j < 6) (hk : k < 6) (hij : i ≠ j) (hik : i ≠ k) (hjk : j ≠ k) : f i + f j + f k ≤ sum6 f := by
  have a : (sum6 fun x => (if i = x then 1 else 0) * f x + (if j = x then 1 else 0) * f x + (if k = x then 1 else 0) * f x) ≤ sum6 f := by
    refine sum6_le fun x hx => ?_
    by_cases e1 : i = x
    · subst e1; simp [Ne.symm hij, Ne.symm hik]
    · by_cases e2 : j = x
      · subst e2; simp [e1, Ne.symm hjk]
      · by_cases e3 : k = x
        · subst e3; simp [e1, e2]
        · simp [e1, e2, e3]
  have b : ∀ v, v < 6 → (sum6 fun x => (if v = x then 1 else 0) * f x) = f v := by
    intro v hv
    rw [sum6_only hv fun i _ h => by simp [Ne.symm h]]; simp
  rw [sum6_add, sum6_add, b i hi, b j hj, b k hk] at a
  exact a
end Go.Proofs.YtgpafbbnobanbaaGreatDoor.Way
/- The rack behind each pour of a shortest way, with its bound. -/
namespace Go.Proofs.YtgpafbbnobanbaaGreatDoor.Way
set_option linter.unusedSimpArgs false
set_option linter.unusedVariables false
def Hyp (L m : Nat) : Prop := ∀ (Z : Rack) (pd : Nat → Bool) (q : Nat), Ok Z → (∀ k, k < m → ¬ Reach k Z) → (∀ c, pd c = true → (1 ≤ c ∧ c ≤ 5) ∧ ∃ u v, PendAt m Z c u v) → FQ Z pd ≤ q → q ≤ 5 → tot size Z = L → K m Z ≤ HH Z * W L (key Z q (F pd))
structure St (L m : Nat) (Y : Rack) (pd : Nat → Bool) (q : Nat) (uu vv : Nat → Nat) : Prop where
  o : Ok Y
  mn : ∀ k, k ≤ m → ¬ Reach k Y
  pc : ∀ c, pd c = true → 1 ≤ c ∧ c ≤ 5
  pa : ∀ c, pd c = true → PendAt (m + 1) Y c (uu c) (vv c)
  fq : FQ Y pd ≤ q
  q5 : q ≤ 5
  ln : tot size Y = L
variable {L m q : Nat} {Y : Rack} {pd : Nat → Bool} {uu vv : Nat → Nat}
theorem St.at_u (s : St L m Y pd q uu vv) {c : Nat} (h : pd c = true) : uu c < 6 ∧ ∃ A, Y (uu c) = (c, 1) :: A ∧ size A ≤ 2 := by
  obtain ⟨S, hu, hv, huv, h1, hsu, hsv, e, _⟩ := s.pa c h
  exact ⟨hu, S (uu c), by rw [e]; exact Way.at_u huv, hsu⟩
theorem St.at_v (s : St L m Y pd q uu vv) {c : Nat} (h : pd c = true) : vv c < 6 ∧ ∃ B, Y (vv c) = (c, 2) :: B ∧ size B = 2 := by
  obtain ⟨S, hu, hv, huv, h1, hsu, hsv, e, _⟩ := s.pa c h
  exact ⟨hv, S (vv c), by rw [e]; exact Way.at_v huv, hsv⟩
theorem St.marks_u (s : St L m Y pd q uu vv) (i : Nat) : marks pd uu i ≤ 1 := by
  refine marks_le fun c d hc hd e1 e2 => ?_
  obtain ⟨_, A, a1, _⟩ := s.at_u hc
  obtain ⟨_, B, b1, _⟩ := s.at_u hd
  rw [e1] at a1
  rw [e2, a1] at b1
  injection b1 with x _
  injection x
theorem St.marks_v (s : St L m Y pd q uu vv) (i : Nat) : marks pd vv i ≤ 1 := by
  refine marks_le fun c d hc hd e1 e2 => ?_
  obtain ⟨_, A, a1, _⟩ := s.at_v hc
  obtain ⟨_, B, b1, _⟩ := s.at_v hd
  rw [e1] at a1
  rw [e2, a1] at b1
  injection b1 with x _
  injection x
theorem St.type_u (s : St L m Y pd q uu vv) {i : Nat} (hi : i < 6) (h : 0 < marks pd uu i) : ty (Y i) = 1 ∨ ty (Y i) = 3 ∨ ty (Y i) = 5 := by
  obtain ⟨c, _, _, hc, rfl⟩ := marks_pos h
  obtain ⟨_, A, e, hA⟩ := s.at_u hc
  have g := s.o.ps _ hi
  rw [e] at g ⊢
  have := ty_open g (by omega)
  omega
theorem St.type_v (s : St L m Y pd q uu vv) {i : Nat} (hi : i < 6) (h : 0 < marks pd vv i) : ty (Y i) = 4 ∨ ty (Y i) = 6 := by
  obtain ⟨c, _, _, hc, rfl⟩ := marks_pos h
  obtain ⟨_, B, e, hB⟩ := s.at_v hc
  have g := s.o.ps _ hi
  rw [e] at g ⊢
  have l := len_size (good_tail g)
  have a := ty_len (t := (c, 2) :: B) (by simp only [List.length_cons]; omega)
  simp only [size, List.length_cons] at a
  have : B.length ≠ 0 := by
    intro h0
    rw [List.length_eq_zero_iff] at h0
    subst h0
    simp [size] at hB
  omega
theorem St.F_u (s : St L m Y pd q uu vv) : F pd ≤ ct Y 1 + ct Y 3 + ct Y 5 := by
  rw [← marks_sum (pd := pd) (v := uu) fun c hc => (s.at_u hc).1]
  have : (sum6 fun i => ind 1 (Y i) + ind 3 (Y i) + ind 5 (Y i)) = ct Y 1 + ct Y 3 + ct Y 5 := by rw [sum6_add, sum6_add]; rfl
  rw [← this]
  refine sum6_le fun i hi => ?_
  have a := s.marks_u i
  rcases Nat.eq_zero_or_pos (marks pd uu i) with h | h
  · omega
  · simp only [ind]
    rcases s.type_u hi h with e | e | e <;> simp only [e] <;> simp <;> omega
theorem St.F_v (s : St L m Y pd q uu vv) : F pd ≤ ct Y 4 + ct Y 6 := by
  rw [← marks_sum (pd := pd) (v := vv) fun c hc => (s.at_v hc).1]
  have : (sum6 fun i => ind 4 (Y i) + ind 6 (Y i)) = ct Y 4 + ct Y 6 := by rw [sum6_add]; rfl
  rw [← this]
  refine sum6_le fun i hi => ?_
  have a := s.marks_v i
  rcases Nat.eq_zero_or_pos (marks pd vv i) with h | h
  · omega
  · simp only [ind]
    rcases s.type_v hi h with e | e <;> simp only [e] <;> simp <;> omega
theorem St.F3 (s : St L m Y pd q uu vv) : F pd < 4 := by
  have := s.F_u
  have := s.F_v
  have := ct_six Y
  omega
theorem St.q8 (s : St L m Y pd q uu vv) : q < 8 := by have := s.q5; omega
theorem feas_of (o : Ok Y) (hL : tot size Y = L) (hq : q < 8) {f : Nat} (hf : f < 4) (h1 : f ≤ ct Y 1 + ct Y 3 + ct Y 5) (h2 : f ≤ ct Y 4 + ct Y 6) : feas L (key Y q f) = true := by
  have six := ct_six Y
  have a1 : tot (fun t => size t + (fun x => if x = 1 ∨ x = 3 ∨ x = 5 then 1 else 0) (ty t)) Y ≤ tot (fun t => (fun x => if x = 0 then 0 else 4) (ty t)) Y := by
    refine sum6_le fun k hk => ?_
    have g := o.ps k hk
    have z := o.sz k hk
    have l := len_size g
    have a := ty_len (t := Y k) (by omega)
    show size (Y k) + (if ty (Y k) = 1 ∨ ty (Y k) = 3 ∨ ty (Y k) = 5 then 1 else 0) ≤ if ty (Y k) = 0 then 0 else 4
    generalize ty (Y k) = x at *
    rcases a with ⟨e, rfl⟩ | ⟨e, ⟨e2, rfl⟩ | ⟨e2, rfl⟩⟩ | ⟨e, ⟨e2, rfl⟩ | ⟨e2, rfl⟩⟩ | ⟨e, ⟨e2, rfl⟩ | ⟨e2, rfl⟩⟩ | ⟨e, rfl⟩ <;> simp <;> try omega
    rw [List.length_eq_zero_iff] at e; simp [e, size]
  have a2 : tot (fun t => (fun x => if x = 0 then 0 else 4) (ty t)) Y ≤ tot (fun t => size t + (fun x => if x = 1 then 3 else if x = 3 then 2 else if x = 5 then 1 else 0) (ty t)) Y := by
    refine sum6_le fun k hk => ?_
    have g := o.ps k hk
    have z := o.sz k hk
    have l := len_size g
    have a := ty_len (t := Y k) (by omega)
    show (if ty (Y k) = 0 then 0 else 4) ≤ size (Y k) + (if ty (Y k) = 1 then 3 else if ty (Y k) = 3 then 2 else if ty (Y k) = 5 then 1 else 0)
    generalize ty (Y k) = x at *
    rcases a with ⟨e, rfl⟩ | ⟨e, ⟨e2, rfl⟩ | ⟨e2, rfl⟩⟩ | ⟨e, ⟨e2, rfl⟩ | ⟨e2, rfl⟩⟩ | ⟨e, ⟨e2, rfl⟩ | ⟨e2, rfl⟩⟩ | ⟨e, rfl⟩ <;> simp <;> omega
  have b1 : tot (fun t => size t + (fun x => if x = 1 ∨ x = 3 ∨ x = 5 then 1 else 0) (ty t)) Y = tot size Y + tot (fun t => (fun x => if x = 1 ∨ x = 3 ∨ x = 5 then 1 else 0) (ty t)) Y := sum6_add _ _
  have b2 : tot (fun t => size t + (fun x => if x = 1 then 3 else if x = 3 then 2 else if x = 5 then 1 else 0) (ty t)) Y = tot size Y + tot (fun t => (fun x => if x = 1 then 3 else if x = 3 then 2 else if x = 5 then 1 else 0) (ty t)) Y := sum6_add _ _
  have c1 := tot_types (fun x => if x = 1 ∨ x = 3 ∨ x = 5 then 1 else 0) Y
  have c2 := tot_types (fun x => if x = 1 then 3 else if x = 3 then 2 else if x = 5 then 1 else 0) Y
  have c3 := tot_types (fun x => if x = 0 then 0 else 4) Y
  rw [b1, c1, c3] at a1
  rw [b2, c2, c3] at a2
  simp at a1 a2
  rw [hL] at a1 a2
  have k0 := dg_0 (Y := Y) (q := q) (f := f) hq hf
  have e1 : nfull (key Y q f) = ct Y 1 + (ct Y 3 + ct Y 5) := by
    show dg 256 _ + (dg 16384 _ + dg 1048576 _) = _
    rw [dg_1 hq hf, dg_3 hq hf, dg_5 hq hf]
  have e2 : mid (key Y q f) = ct Y 4 + ct Y 6 := by
    show dg 131072 _ + dg 8388608 _ = _
    rw [dg_4 hq hf, dg_6 hq hf]
  have e3 : free L (key Y q f) = 4 * (6 - ct Y 0) - L := by
    show 4 * (6 - dg 32 _) - L = _
    rw [k0]
  have e4 : capa (key Y q f) = 3 * ct Y 1 + (2 * ct Y 3 + ct Y 5) := by
    show 3 * dg 256 _ + (2 * dg 16384 _ + dg 1048576 _) = _
    rw [dg_1 hq hf, dg_3 hq hf, dg_5 hq hf]
  have e5 : Nat.mod (key Y q f) 4 = f := md_f hq hf
  unfold feas
  rw [e1, e2, e3, e4, e5, k0]
  simp only [Bool.and_eq_true, ble_iff]
  have e6 : Nat.mul 4 (Nat.sub 6 (ct Y 0)) = 4 * (6 - ct Y 0) := rfl
  rw [e6]
  refine ⟨⟨?_, ?_⟩, ?_, ?_, ?_⟩ <;> omega
theorem St.min (s : St L m Y pd q uu vv) {i j : Nat} {Z : Rack} (hi : i < 6) (hj : j < 6) (e : pourR Y i j = some Z) : ∀ k, k < m → ¬ Reach k Z := fun k hk h => s.mn (k + 1) (by omega) ⟨i, j, Z, hi, hj, e, h⟩
theorem St.persist (s : St L m Y pd q uu vv) {i j : Nat} {Z : Rack} (hi : i < 6) (hj : j < 6) (e : pourR Y i j = some Z) (hZ : Reach m Z) {c n d : Nat} {A : Tube} (ei : Y i = (c, n) :: A) (hd : pd d = true) (h : d ≠ c ∨ Y j = []) : ∃ u v, PendAt m Z d u v := by
  rcases pend_step (s.pa d hd) hi hj e hZ with ⟨_, ⟨⟨u', h1⟩, _⟩ | ⟨h1, h2, h3, A', D, eu, ej, _⟩⟩
  · exact ⟨u', vv d, h1⟩
  · exfalso
    subst h1
    rcases h with h | h
    · rw [ei] at eu
      injection eu with x _
      injection x with x _
      exact h x.symm
    · rw [ej] at h; cases h
theorem FQ_le {Y Z : Rack} {pd : Nat → Bool} (h : ∀ c, r Z c ≤ r Y c) (hl : ∀ c, tot (lay c) Z = tot (lay c) Y) : FQ Z pd ≤ FQ Y pd := by
  refine sum5_le fun c _ => ?_
  have := h c
  simp only [Way.fq, hl c]
  by_cases k : pd c = false ∧ 3 ≤ r Z c ∧ 4 ≤ tot (lay c) Y
  · rw [if_pos k, if_pos ⟨k.1, by omega, k.2.2⟩]; omega
  · rw [if_neg k]; omega
theorem cnt_cons (c d n : Nat) (t : Tube) : cnt c ((d, n) :: t) = (if d = c then 1 else 0) + cnt c t := rfl
theorem St.kE (hy : Hyp L m) (s : St L m Y pd q uu vv) {i j : Nat} {Z : Rack} (hi : i < 6) (hj : j < 6) (e : pourR Y i j = some Z) (hZ : Reach m Z) (ej : Y j = []) : K m Z ≤ HH Y * W L (key Z q (F pd)) ∧ ∀ c, pd c = true → i ≠ vv c := by
  have hl := fun d => pour_lay d hi hj e
  obtain ⟨hij, p⟩ := pour_of e
  cases p with
  | M c n p A B _ e2 => rw [ej] at e2; cases e2
  | P c n p s A B _ e2 => rw [ej] at e2; cases e2
  | E c n A ei _ hA eZ =>
    have hr : ∀ d, r Z d = r Y d := by
      intro d
      have := tot_pour (φ := cnt d) (Y := Y) (s := A) (t := [(c, n)]) hi hj hij
      rw [ei, ej, ← eZ] at this
      simp only [cnt_cons, cnt] at this
      show tot (cnt d) Z = tot (cnt d) Y
      omega
    refine ⟨?_, fun c hc => (pend_step (s.pa c hc) hi hj e hZ).1⟩
    rw [← HH_same hr]
    exact hy Z pd q (ok_pour hi hj s.o e) (s.min hi hj e) (fun d hd => ⟨s.pc d hd, s.persist hi hj e hZ ei hd (.inr ej)⟩) (Nat.le_trans (FQ_le (fun d => by rw [hr d]; omega) hl) s.fq) s.q5 (by rw [pour_size hi hj e]; exact s.ln)
theorem St.kM (hy : Hyp L m) (s : St L m Y pd q uu vv) {i j : Nat} {Z : Rack} (hi : i < 6) (hj : j < 6) (hij : i ≠ j) (e : pourR Y i j = some Z) (hZ : Reach m Z) {c n p : Nat} {A B : Tube} (ei : Y i = (c, n) :: A) (ej : Y j = (c, p) :: B) (eZ : Z = upd (upd Y i A) j ((c, p + n) :: B)) (hc : pd c = false) : K m Z ≤ HH Z * W L (key Z q (F pd)) ∧ r Y c = r Z c + 1 ∧ ∀ d, d ≠ c → r Z d = r Y d := by
  have hl := fun d => pour_lay d hi hj e
  have hr : ∀ d, r Z d + (if d = c then 1 else 0) = r Y d := by
    intro d
    have := tot_pour (φ := cnt d) (Y := Y) (s := A) (t := (c, p + n) :: B) hi hj hij
    rw [ei, ej, ← eZ] at this
    simp only [cnt_cons] at this
    show tot (cnt d) Z + _ = tot (cnt d) Y
    by_cases k : c = d
    · subst k; simp at this ⊢; omega
    · simp [k, Ne.symm k] at this ⊢; omega
  refine ⟨hy Z pd q (ok_pour hi hj s.o e) (s.min hi hj e) (fun d hd => ⟨s.pc d hd, s.persist hi hj e hZ ei hd (.inl fun k => by subst k; rw [hc] at hd; cases hd)⟩) (Nat.le_trans (FQ_le (fun d => by have := hr d; omega) hl) s.fq) s.q5 (by rw [pour_size hi hj e]; exact s.ln), ?_, ?_⟩
  · have := hr c; simp at this; omega
  · intro d hd
    have := hr d
    rw [if_neg hd] at this; omega
def flip (pd : Nat → Bool) (c : Nat) (b : Bool) : Nat → Bool := fun d => if d = c then b else pd d
theorem F_flip {pd : Nat → Bool} {c : Nat} (hc : 1 ≤ c ∧ c ≤ 5) (b : Bool) : F (flip pd c b) + b1 (pd c) = F pd + b1 b := by
  have := sum5_change (f := fun d => b1 (flip pd c b d)) (g := fun d => b1 (pd d)) hc fun d _ hd => by simp [flip, hd]
  have e : b1 (flip pd c b c) = b1 b := by simp [flip]
  rw [← e]; exact this
theorem St.kL (hy : Hyp L m) (s : St L m Y pd q uu vv) {i j : Nat} {Z : Rack} (hi : i < 6) (hj : j < 6) (hij : i ≠ j) (e : pourR Y i j = some Z) (hZ : Reach m Z) {c : Nat} {A B : Tube} (ei : Y i = (c, 1) :: A) (ej : Y j = (c, 1) :: B) (eZ : Z = upd (upd Y i A) j ((c, 2) :: B)) (hc : pd c = true) : 1 ≤ F pd ∧ 2 * K m Z ≤ HH Y * W L (key Z q (F pd - 1)) := by
  have hl := fun d => pour_lay d hi hj e
  have hc5 := s.pc c hc
  have hr : ∀ d, r Z d + (if d = c then 1 else 0) = r Y d := by
    intro d
    have := tot_pour (φ := cnt d) (Y := Y) (s := A) (t := (c, 2) :: B) hi hj hij
    rw [ei, ej, ← eZ] at this
    simp only [cnt_cons] at this
    show tot (cnt d) Z + _ = tot (cnt d) Y
    by_cases k : c = d
    · subst k; simp at this ⊢; omega
    · simp [k, Ne.symm k] at this ⊢; omega
  have hr3 : r Y c = 3 := by
    obtain ⟨S, hu, hv, huv, h1, _, _, eY, _⟩ := s.pa c hc
    have a := tot_upd (f := cnt c) (S := S) (i := uu c) (t := (c, 1) :: S (uu c)) hu
    have b := tot_upd (f := cnt c) (S := put S (uu c) (c, 1)) (i := vv c) (t := (c, 2) :: put S (uu c) (c, 1) (vv c)) hv
    have e1 : tot (cnt c) Y = tot (cnt c) (upd (put S (uu c) (c, 1)) (vv c) ((c, 2) :: put S (uu c) (c, 1) (vv c))) := by rw [eY]; rfl
    have e2 : tot (cnt c) (put S (uu c) (c, 1)) = tot (cnt c) (upd S (uu c) ((c, 1) :: S (uu c))) := rfl
    simp only [cnt_cons, if_true] at a b
    have := h1.1
    show tot (cnt c) Y = 3
    omega
  have hF := F_flip (pd := pd) hc5 false
  rw [hc] at hF
  simp only [b1, cond_true, cond_false] at hF
  have hF1 : F (flip pd c false) = F pd - 1 := by omega
  have hz := hr c
  rw [if_pos rfl] at hz
  have hHH := HH_less (Y := Y) (Z := Z) hc5 (by omega) (by omega) (by omega) fun d hd => by have := hr d; rw [if_neg hd] at this; omega
  rw [show r Z c = 2 by omega] at hHH
  have := hy Z (flip pd c false) q (ok_pour hi hj s.o e) (s.min hi hj e) (fun d hd => by
    have hdc : d ≠ c := by intro k; subst k; simp [flip] at hd
    have hd' : pd d = true := by simpa [flip, hdc] using hd
    exact ⟨s.pc d hd', s.persist hi hj e hZ ei hd' (.inl hdc)⟩) (by
    refine Nat.le_trans (sum5_le (g := Way.fq Y pd) fun d _ => ?_) s.fq
    simp only [Way.fq, hl d]
    by_cases k : d = c
    · subst k
      have : ¬ (3 ≤ r Z d) := by omega
      simp [this]
    · have := hr d
      rw [if_neg k] at this
      have e3 : flip pd c false d = pd d := by simp [flip, k]
      rw [e3, show r Z d = r Y d by omega]
      exact Nat.le_refl _) s.q5 (by rw [pour_size hi hj e]; exact s.ln)
  rw [hF1] at this
  refine ⟨by omega, ?_⟩
  rw [hHH, Nat.mul_assoc]
  omega
theorem St.kP (hy : Hyp L m) (s : St L m Y pd q uu vv) {i j : Nat} {Z : Rack} (hi : i < 6) (hj : j < 6) (hij : i ≠ j) (e : pourR Y i j = some Z) (hZ : Reach m Z) {c n p t : Nat} {A B : Tube} (ei : Y i = (c, n + t) :: A) (ej : Y j = (c, p) :: B) (hs : p + size B + t = 4) (h1 : 1 ≤ t) (h2 : 1 ≤ n) (eZ : Z = upd (upd Y i ((c, n) :: A)) j ((c, p + t) :: B)) (hc : pd c = false) : n = 1 ∧ t = 1 ∧ p = 1 ∧ size B = 2 ∧ r Y c = 3 ∧ 1 ≤ q ∧ K m Z ≤ HH Y * W L (key Z (q - 1) (F pd + 1)) := by
  have hl := fun d => pour_lay d hi hj e
  have hnl : ¬ Le m Y := fun ⟨k, a, b⟩ => s.mn k a b
  obtain ⟨rfl, rfl, rfl, hB, hP, hr3, hl4⟩ := part_step s.o hi hj hij hnl hZ ei ej hs h1 h2 eZ
  have hc5 : 1 ≤ c ∧ c ≤ 5 := (s.o.ps i hi (c, 1 + 1) (by rw [ei]; exact List.mem_cons_self ..)).2
  have hr : ∀ d, r Z d = r Y d := by
    intro d
    have := tot_pour (φ := cnt d) (Y := Y) (s := (c, 1) :: A) (t := (c, 1 + 1) :: B) hi hj hij
    rw [ei, ej, ← eZ] at this
    simp only [cnt_cons] at this
    show tot (cnt d) Z = tot (cnt d) Y
    omega
  have hF := F_flip (pd := pd) hc5 true
  rw [hc] at hF
  simp only [b1, cond_true, cond_false] at hF
  have hF1 : F (flip pd c true) = F pd + 1 := by omega
  have hfq : FQ Z (flip pd c true) + 1 = FQ Y pd := by
    have a := sum5_change (f := Way.fq Z (flip pd c true)) (g := Way.fq Y pd) hc5 fun d _ hd => by simp [Way.fq, flip, hd, hr d, hl d]
    have b : Way.fq Z (flip pd c true) c = 0 := by simp [Way.fq, flip]
    have d : Way.fq Y pd c = 1 := by
      have h3 : r Y c = 3 := hr3
      simp [Way.fq, hc, h3, hl4]
    rw [b, d] at a
    exact a
  have hq := s.fq
  have := hy Z (flip pd c true) (q - 1) (ok_pour hi hj s.o e) (s.min hi hj e) (fun d hd => by
    by_cases k : d = c
    · subst k; exact ⟨hc5, i, j, hP⟩
    · have hd' : pd d = true := by simpa [flip, k] using hd
      exact ⟨s.pc d hd', s.persist hi hj e hZ ei hd' (.inl k)⟩) (by omega) (by have := s.q5; omega) (by rw [pour_size hi hj e]; exact s.ln)
  rw [hF1, HH_same hr] at this
  exact ⟨rfl, rfl, rfl, hB, hr3, by omega, this⟩
end Go.Proofs.YtgpafbbnobanbaaGreatDoor.Way
/- The number of shortest ways is bounded by the table: one step. -/
namespace Go.Proofs.YtgpafbbnobanbaaGreatDoor.Way
set_option linter.unusedSimpArgs false
set_option linter.unusedVariables false
def xx (m : Nat) (Y : Rack) (i j : Nat) : Nat := match pourR Y i j with
  | none => 0
  | some Z => K m Z
theorem xx_cases (m : Nat) (Y : Rack) (i j : Nat) : xx m Y i j = 0 ∨ ∃ Z, pourR Y i j = some Z ∧ Reach m Z ∧ xx m Y i j = K m Z := by
  unfold xx
  cases e : pourR Y i j with
  | none => exact .inl rfl
  | some Z =>
    rcases Nat.eq_zero_or_pos (K m Z) with h | h
    · exact .inl h
    · exact .inr ⟨Z, rfl, (K_pos m Z).1 h, rfl⟩
theorem ty_pos {x : Nat × Nat} {t : Tube} : ty (x :: t) ≠ 0 := by
  unfold ty
  rw [if_neg (by simp)]
  split
  · omega
  · simp only [List.length_cons]; omega
theorem ind_nil : ind 0 [] = 1 := rfl
theorem ind_cons {x : Nat × Nat} {t : Tube} : ind 0 (x :: t) = 0 := if_neg ty_pos
theorem ind0_le (t : Tube) : ind 0 t ≤ 1 := by unfold ind; split <;> omega
variable {L m q : Nat} {Y : Rack} {pd : Nat → Bool} {uu vv : Nat → Nat}
def evr (g : Nat → Nat) (p a : Nat) : Nat := if 3 ≤ a then g (eA p (wt a) (wt (dec a))) else 0
theorem eSum_eq (g : Nat → Nat) (hq : q < 8) {f : Nat} (hf : f < 4) : eSum g (key Y q f) = tot (fun t => evr g (key Y q f) (ty t)) Y := by
  rw [tot_types]
  unfold eSum
  simp only [gmul_eq, dg_3 hq hf, dg_4 hq hf, dg_5 hq hf, dg_6 hq hf, dg_7 hq hf, evr]
  simp only [Nat.add_eq, wt, dec]
  simp
  simp only [Nat.mul_comm]
  omega
theorem step_E (hy : Hyp L m) (s : St L m Y pd q uu vv) {g : Nat → Nat} (hg : ∀ k, mu k < mu (key Y q (F pd)) → g k = W L k) {j : Nat} (hj : j < 6) (ej : Y j = []) : (sum6 fun i => xx m Y i j) ≤ HH Y * (eSum g (key Y q (F pd)) - F pd * eMin g (key Y q (F pd))) := by
  have hq := s.q8
  have hf := s.F3
  have main : (sum6 fun i => xx m Y i j + HH Y * (marks pd vv i * eMin g (key Y q (F pd)))) ≤ sum6 fun i => HH Y * evr g (key Y q (F pd)) (ty (Y i)) := by
    refine sum6_le fun i hi => ?_
    have hm := s.marks_v i
    have left : xx m Y i j = 0 → xx m Y i j + HH Y * (marks pd vv i * eMin g (key Y q (F pd))) ≤ HH Y * evr g (key Y q (F pd)) (ty (Y i)) := by
      intro h0
      rw [h0, Nat.zero_add]
      refine Nat.mul_le_mul_left _ ?_
      rcases Nat.eq_zero_or_pos (marks pd vv i) with h | h
      · rw [h, Nat.zero_mul]; exact Nat.zero_le _
      · rw [show marks pd vv i = 1 by omega, Nat.one_mul]
        have c4 : ∀ a, ty (Y i) = a → 0 < ct Y a := by
          intro a e
          have := tot_get (f := ind a) (S := Y) hi
          have e1 : ind a (Y i) = 1 := if_pos e
          show 0 < tot (ind a) Y
          omega
        rcases s.type_v hi h with e | e
        · rw [e]
          exact mn_v (by rw [dg_4 hq hf]; exact c4 4 e)
        · rw [e]
          exact Nat.le_trans (mn_r _ _ _) (mn_v (by rw [dg_6 hq hf]; exact c4 6 e))
    rcases xx_cases m Y i j with h0 | ⟨Z, e, hZ, ex⟩
    · exact left h0
    · obtain ⟨hk, hv⟩ := s.kE hy hi hj e hZ ej
      have hm0 : marks pd vv i = 0 := by
        rcases Nat.eq_zero_or_pos (marks pd vv i) with h | h
        · exact h
        · obtain ⟨c, _, _, hc, e2⟩ := marks_pos h
          exact (hv c hc e2.symm).elim
      rw [hm0, Nat.zero_mul, Nat.mul_zero, Nat.add_zero, ex]
      refine Nat.le_trans hk (Nat.mul_le_mul_left _ ?_)
      have oZ := ok_pour hi hj s.o e
      obtain ⟨hij, p⟩ := pour_of e
      cases p with
      | M c n p A B _ e2 => rw [ej] at e2; cases e2
      | P c n p s A B _ e2 => rw [ej] at e2; cases e2
      | E c n A ei _ hA eZ =>
        have gd := s.o.ps i hi
        have sz := s.o.sz i hi
        rw [ei] at gd sz
        have td := ty_dec gd sz
        obtain ⟨y, A', rfl⟩ : ∃ y A', A = y :: A' := by
          cases A with
          | nil => exact (hA rfl).elim
          | cons y A' => exact ⟨y, A', rfl⟩
        have hn : n < 4 := by
          have := (good_head (c := y.1) (n := y.2) (good_tail gd)).1
          simp only [size] at sz; omega
        have t3 : 3 ≤ ty (Y i) := by
          rw [ei]
          rcases eight (ty_lt ((c, n) :: y :: A')) with e | e | e | e | e | e | e | e <;> rw [e] at td ⊢ <;> first | omega | exact absurd td ty_pos
        have kp := key_pour (q := q) (f := F pd) (q' := q) (f' := F pd) hi hj hij eZ
        rw [ej, ei, td, ty_one hn, ty_nil, ← ei] at kp
        have kk : key Z q (F pd) = eA (key Y q (F pd)) (wt (ty (Y i))) (wt (dec (ty (Y i)))) := by
          show _ = key Y q (F pd) + (wt (dec (ty (Y i))) + 256) - (wt (ty (Y i)) + 32)
          have w1 : wt 1 = 256 := rfl
          have w0 : wt 0 = 32 := rfl
          omega
        have hmu : mu (key Z q (F pd)) < mu (key Y q (F pd)) := by
          rw [mu_key oZ hq hf, mu_key s.o hq hf]
          have l := tot_pour (φ := List.length) (Y := Y) (s := y :: A') (t := [(c, n)]) hi hj hij
          have z := ct_pour (Y := Y) 0 hi hj hij eZ
          rw [ei, ej, ← eZ] at l
          rw [ei, ej, ind_nil, ind_cons, ind_cons, ind_cons] at z
          simp only [List.length_cons, List.length_nil] at l
          omega
        unfold evr
        rw [if_pos t3, ← kk, hg _ hmu]
        exact Nat.le_refl _
  have e1 : (sum6 fun i => xx m Y i j + HH Y * (marks pd vv i * eMin g (key Y q (F pd)))) = (sum6 fun i => xx m Y i j) + HH Y * (F pd * eMin g (key Y q (F pd))) := by
    rw [sum6_add, sum6_mul, sum6_mul', show sum6 (fun i => marks pd vv i) = F pd from marks_sum (pd := pd) fun c hc => (s.at_v hc).1]
  have e2 : (sum6 fun i => HH Y * evr g (key Y q (F pd)) (ty (Y i))) = HH Y * eSum g (key Y q (F pd)) := by
    rw [sum6_mul, eSum_eq g hq hf]; rfl
  rw [e1, e2] at main
  rw [Nat.mul_sub]
  omega
/-- What a target that is not full is worth. -/
def val (g : Nat → Nat) (p b : Nat) : Nat := if b = 1 then v1 g p else if b = 3 then v3 g p 16384 131072 else if b = 5 then v3 g p 1048576 8388608 else 0
theorem val_cm {g : Nat → Nat} {p b : Nat} (h : b = 1 ∨ b = 3 ∨ b = 5) : 2 * cm g p (wt b) (wt (b + 1)) ≤ val g p b := by
  rcases h with rfl | rfl | rfl
  · exact Nat.le_refl _
  · exact mx_l _ _
  · exact mx_l _ _
theorem val_bp {g : Nat → Nat} {p b : Nat} (h : b = 3 ∨ b = 5) : cm g p (wt b) (wt (b + 1)) + 2 * bp g p (wt b) (wt (b + 1)) ≤ val g p b := by
  rcases h with rfl | rfl
  · exact Nat.le_trans (mx_l _ _) (mx_r _ _)
  · exact Nat.le_trans (mx_l _ _) (mx_r _ _)
theorem val_mf {g : Nat → Nat} {p b : Nat} (h : b = 3 ∨ b = 5) : mf g p (wt b) (wt (b + 1)) ≤ val g p b := by
  rcases h with rfl | rfl
  · exact Nat.le_trans (mx_r _ _) (mx_r _ _)
  · exact Nat.le_trans (mx_r _ _) (mx_r _ _)
theorem vSum_eq (g : Nat → Nat) (hq : q < 8) {f : Nat} (hf : f < 4) : vSum g (key Y q f) = tot (fun t => val g (key Y q f) (ty t)) Y := by
  rw [tot_types]
  unfold vSum
  simp only [gmul_eq, dg_1 hq hf, dg_3 hq hf, dg_5 hq hf, val]
  simp only [Nat.add_eq]
  simp
  simp only [Nat.mul_comm]
  omega
theorem vMin_le {g : Nat → Nat} (hq : q < 8) {f : Nat} (hf : f < 4) {j : Nat} (hj : j < 6) (h : ty (Y j) = 1 ∨ ty (Y j) = 3 ∨ ty (Y j) = 5) : vMin g (key Y q f) ≤ val g (key Y q f) (ty (Y j)) := by
  have c4 : ∀ a, ty (Y j) = a → 0 < ct Y a := by
    intro a e
    have := tot_get (f := ind a) (S := Y) hj
    have e1 : ind a (Y j) = 1 := if_pos e
    show 0 < tot (ind a) Y
    omega
  rcases h with e | e | e
  · rw [e]; exact mn_v (by rw [dg_1 hq hf]; exact c4 1 e)
  · rw [e]; exact Nat.le_trans (mn_r _ _ _) (mn_v (by rw [dg_3 hq hf]; exact c4 3 e))
  · rw [e]; exact Nat.le_trans (mn_r _ _ _) (Nat.le_trans (mn_r _ _ _) (mn_v (by rw [dg_5 hq hf]; exact c4 5 e)))
theorem r_le (o : Ok Y) (c : Nat) : r Y c ≤ 4 := Nat.le_trans (sum6_le fun k hk => lay_cnt fun x hx => (o.ps k hk x hx).1) (o.ly c)
/-- A full pour onto a target. -/
theorem St.tM (hy : Hyp L m) (s : St L m Y pd q uu vv) {g : Nat → Nat} (hg : ∀ k, mu k < mu (key Y q (F pd)) → g k = W L k) {i j : Nat} {Z : Rack} (hi : i < 6) (hj : j < 6) (hij : i ≠ j) (e : pourR Y i j = some Z) (hZ : Reach m Z) {c n p : Nat} {A B : Tube} (ei : Y i = (c, n) :: A) (ej : Y j = (c, p) :: B) (h1 : p + size B < 4) (h2 : p + size B + n ≤ 4) (eZ : Z = upd (upd Y i A) j ((c, p + n) :: B)) (hc : pd c = false) : (r Y c - 1) * K m Z ≤ HH Y * cm g (key Y q (F pd)) (wt (ty (Y j))) (wt (ty (Y j) + 1)) := by
  have hq := s.q8
  have hf := s.F3
  have oZ := ok_pour hi hj s.o e
  obtain ⟨hk, hrc, hrd⟩ := s.kM hy hi hj hij e hZ ei ej eZ hc
  have gi := s.o.ps i hi
  have si := s.o.sz i hi
  have gj := s.o.ps j hj
  rw [ei] at gi si
  rw [ej] at gj
  have td := ty_dec gi si
  have tm := ty_more (p' := p + n) gj h1 (by omega)
  have hpn := (good_head gi).1
  have hpp := (good_head gj).1
  have h2r : 2 ≤ r Y c := by
    have := two_le (f := fun k => cnt c (Y k)) hi hj hij
    simp only [ei, ej, cnt_cons, if_true] at this
    show 2 ≤ sum6 fun k => cnt c (Y k)
    omega
  have hH := HH_less (Y := Y) (Z := Z) (good_head gi).2 hrc (by omega) (by have := r_le s.o c; omega) hrd
  have ha : ty (Y i) = 1 ∨ ty (Y i) = 3 ∨ ty (Y i) = 4 ∨ ty (Y i) = 5 ∨ ty (Y i) = 6 ∨ ty (Y i) = 7 := by
    have h0 : ty (Y i) ≠ 0 := by rw [ei]; exact ty_pos
    have h2 : ty (Y i) ≠ 2 := by
      intro h
      have a := ty_len (t := (c, n) :: A) (by have := len_size gi; omega)
      rw [ei] at h
      simp only [size, List.length_cons] at a
      have hA0 : A.length = 0 := by omega
      rw [List.length_eq_zero_iff] at hA0
      subst hA0
      simp only [size] at a
      have ly := s.o.ly c
      have := two_le (f := fun k => lay c (Y k)) hi hj hij
      simp only [ei, ej, lay, if_true] at this
      have : tot (lay c) Y = sum6 fun k => lay c (Y k) := rfl
      omega
    have := eight (ty_lt (Y i))
    omega
  have kp := key_pour (q := q) (f := F pd) (q' := q) (f' := F pd) hi hj hij eZ
  rw [td] at kp
  have hp := has_pos (Y := Y) hq hf hi hj hij
  have cl := cm_le (ih := g) (p := key Y q (F pd)) (b := wt (ty (Y j))) (g := wt (ty (Y j) + 1)) ha hp
  have hmu : mu (key Z q (F pd)) < mu (key Y q (F pd)) := by
    rw [mu_key oZ hq hf, mu_key s.o hq hf]
    have l := tot_pour (φ := List.length) (Y := Y) (s := A) (t := (c, p + n) :: B) hi hj hij
    have z := ct_pour (Y := Y) 0 hi hj hij eZ
    rw [ei, ej, ← eZ] at l
    rw [ei, ej, ind_cons, ind_cons, ind_cons] at z
    have := ind0_le A
    simp only [List.length_cons] at l
    omega
  have hW : W L (key Z q (F pd)) ≤ cm g (key Y q (F pd)) (wt (ty (Y j))) (wt (ty (Y j) + 1)) := by
    rw [← hg _ hmu]
    rw [← ei] at kp
    rw [← ej] at tm
    rcases tm with ⟨_, t⟩ | ⟨_, t⟩
    · rw [t] at kp
      have kk : key Z q (F pd) = mv (key Y q (F pd)) (wt (dec (ty (Y i))) + wt (ty (Y j) + 1)) (wt (ty (Y i)) + wt (ty (Y j))) := by
        show _ = key Y q (F pd) + _ - _
        omega
      rw [kk]; exact cl.2
    · rw [t] at kp
      have kk : key Z q (F pd) = mv (key Y q (F pd)) (wt (dec (ty (Y i))) + wt (ty (Y j))) (wt (ty (Y i)) + wt (ty (Y j))) := by
        show _ = key Y q (F pd) + _ - _
        omega
      rw [kk]; exact cl.1
  rw [hH, show r Y c - 1 = r Z c by omega, Nat.mul_assoc]
  exact Nat.mul_le_mul_left _ (Nat.le_trans hk (Nat.mul_le_mul_left _ hW))
/-- A pour of a part onto a target. -/
theorem St.tP (hy : Hyp L m) (s : St L m Y pd q uu vv) {g : Nat → Nat} (hg : ∀ k, mu k < mu (key Y q (F pd)) → g k = W L k) {i j : Nat} {Z : Rack} (hi : i < 6) (hj : j < 6) (hij : i ≠ j) (e : pourR Y i j = some Z) (hZ : Reach m Z) {c n p t : Nat} {A B : Tube} (ei : Y i = (c, n + t) :: A) (ej : Y j = (c, p) :: B) (hs : p + size B + t = 4) (h1 : 1 ≤ t) (h2 : 1 ≤ n) (eZ : Z = upd (upd Y i ((c, n) :: A)) j ((c, p + t) :: B)) (hc : pd c = false) : n + t = 2 ∧ r Y c = 3 ∧ (ty (Y j) = 3 ∨ ty (Y j) = 5) ∧ K m Z ≤ HH Y * bp g (key Y q (F pd)) (wt (ty (Y j))) (wt (ty (Y j) + 1)) := by
  have hq := s.q8
  have hf := s.F3
  have oZ := ok_pour hi hj s.o e
  obtain ⟨rfl, rfl, rfl, hB, hr3, hq1, hk⟩ := s.kP hy hi hj hij e hZ ei ej hs h1 h2 eZ hc
  have gi := s.o.ps i hi
  have si := s.o.sz i hi
  have gj := s.o.ps j hj
  rw [ei] at gi si
  rw [ej] at gj
  have hA : size A ≤ 2 := by simp only [size] at si; omega
  have tl := ty_less gi hA
  have tm := ty_more (p' := 1 + 1) gj (by omega) (by omega)
  have to := ty_open gj (by omega)
  have tj : ty (Y j) = 3 ∨ ty (Y j) = 5 := by
    rw [ej]
    rcases to with ⟨_, h⟩ | ⟨h, _⟩ | ⟨h, _⟩
    · rw [List.length_eq_zero_iff] at h; subst h; simp [size] at hB
    · exact .inl h
    · exact .inr h
  have hFF : F pd + 1 < 4 := by
    have : marks pd uu j = 0 := by
      rcases Nat.eq_zero_or_pos (marks pd uu j) with h | h
      · exact h
      · obtain ⟨d, _, _, hd, e3⟩ := marks_pos h
        obtain ⟨_, A', a1, a2⟩ := s.at_u hd
        rw [e3, ej] at a1
        injection a1 with x y
        injection x with x _
        subst x
        rw [hc] at hd; cases hd
    have hv0 : marks pd vv j = 0 := by
      rcases Nat.eq_zero_or_pos (marks pd vv j) with h | h
      · exact h
      · have := s.type_v hj h
        omega
    have su := marks_sum (pd := pd) (v := uu) fun c hc => (s.at_u hc).1
    have sv := marks_sum (pd := pd) (v := vv) fun c hc => (s.at_v hc).1
    have tot1 : sum6 (fun i => marks pd uu i + marks pd vv i + if j = i then 1 else 0) ≤ sum6 fun _ => 1 := by
      refine sum6_le fun i hi => ?_
      have mu1 := s.marks_u i
      have mv1 := s.marks_v i
      by_cases k2 : j = i
      · subst k2; rw [this, hv0]; simp
      · simp only [if_neg k2]
        rcases Nat.eq_zero_or_pos (marks pd uu i) with k3 | k3
        · omega
        · rcases Nat.eq_zero_or_pos (marks pd vv i) with k4 | k4
          · omega
          · have := s.type_u hi k3
            have := s.type_v hi k4
            omega
    rw [sum6_add, sum6_add, sum6_point hj] at tot1
    have e6 : (sum6 fun _ => 1) = 6 := rfl
    have e7 : sum6 (fun i => marks pd uu i) = F pd := su
    have e8 : sum6 (fun i => marks pd vv i) = F pd := sv
    omega
  have kp := key_pour (q := q) (f := F pd) (q' := q - 1) (f' := F pd + 1) hi hj hij eZ
  rw [tl.1] at kp
  have hp := has_pos (Y := Y) hq hf hi hj hij
  have cl := bp_le (ih := g) (p := key Y q (F pd)) (b := wt (ty (Y j))) (g := wt (ty (Y j) + 1)) (a := ty (Y i)) (by rw [dg_q hq hf]; omega) (by rw [md_f hq hf]; omega) (by rw [ei]; exact tl.2) hp
  have hmu : mu (key Z (q - 1) (F pd + 1)) < mu (key Y q (F pd)) := by
    rw [mu_key oZ (by omega) hFF, mu_key s.o hq hf]
    have l := tot_pour (φ := List.length) (Y := Y) (s := (c, 1) :: A) (t := (c, 1 + 1) :: B) hi hj hij
    have z := ct_pour (Y := Y) 0 hi hj hij eZ
    rw [ei, ej, ← eZ] at l
    rw [ei, ej, ind_cons, ind_cons, ind_cons, ind_cons] at z
    simp only [List.length_cons] at l
    omega
  refine ⟨rfl, hr3, tj, Nat.le_trans hk (Nat.mul_le_mul_left _ ?_)⟩
  rw [← hg _ hmu]
  rw [← ei] at kp
  have t : ty ((c, 1 + 1) :: B) = ty (Y j) + 1 := by
    rw [ej]; omega
  rw [t] at kp
  have kk : key Z (q - 1) (F pd + 1) = mv (key Y q (F pd)) (wt (nf (ty (Y i))) + wt (ty (Y j) + 1) + 1) (wt (ty (Y i)) + wt (ty (Y j)) + 4) := by
    show _ = key Y q (F pd) + _ - _
    omega
  rw [kk]; exact cl
/-- The last part of a color. -/
theorem St.tL (hy : Hyp L m) (s : St L m Y pd q uu vv) {g : Nat → Nat} (hg : ∀ k, mu k < mu (key Y q (F pd)) → g k = W L k) {i j : Nat} {Z : Rack} (hi : i < 6) (hj : j < 6) (hij : i ≠ j) (e : pourR Y i j = some Z) (hZ : Reach m Z) {c : Nat} {A B : Tube} (ei : Y i = (c, 1) :: A) (hA : size A ≤ 2) (ej : Y j = (c, 1) :: B) (hB : size B = 2) (eZ : Z = upd (upd Y i A) j ((c, 2) :: B)) (hc : pd c = true) : 2 * K m Z ≤ HH Y * val g (key Y q (F pd)) (ty (Y j)) := by
  have hq := s.q8
  have hf := s.F3
  have oZ := ok_pour hi hj s.o e
  obtain ⟨hF1, hk⟩ := s.kL hy hi hj hij e hZ ei ej eZ hc
  have gi := s.o.ps i hi
  have si := s.o.sz i hi
  have gj := s.o.ps j hj
  rw [ei] at gi si
  rw [ej] at gj
  have td := ty_dec gi si
  have ti := ty_open gi (by omega)
  have tm := ty_more (p' := 2) gj (by omega) (by omega)
  have to := ty_open gj (by omega)
  have tj : ty (Y j) = 3 ∨ ty (Y j) = 5 := by
    rw [ej]
    rcases to with ⟨_, h⟩ | ⟨h, _⟩ | ⟨h, _⟩
    · rw [List.length_eq_zero_iff] at h; subst h; simp [size] at hB
    · exact .inl h
    · exact .inr h
  have kp := key_pour (q := q) (f := F pd) (q' := q) (f' := F pd - 1) hi hj hij eZ
  rw [td] at kp
  have hp := has_pos (Y := Y) hq hf hi hj hij
  have cl := mf_le (ih := g) (p := key Y q (F pd)) (b := wt (ty (Y j))) (g := wt (ty (Y j) + 1)) (a := ty (Y i)) (by rw [md_f hq hf]; omega) (by rw [ei]; omega) hp
  have hmu : mu (key Z q (F pd - 1)) < mu (key Y q (F pd)) := by
    rw [mu_key oZ hq (by omega), mu_key s.o hq hf]
    have l := tot_pour (φ := List.length) (Y := Y) (s := A) (t := (c, 2) :: B) hi hj hij
    have z := ct_pour (Y := Y) 0 hi hj hij eZ
    rw [ei, ej, ← eZ] at l
    rw [ei, ej, ind_cons, ind_cons, ind_cons] at z
    have := ind0_le A
    simp only [List.length_cons] at l
    omega
  refine Nat.le_trans hk (Nat.mul_le_mul_left _ (Nat.le_trans ?_ (val_mf tj)))
  rw [← hg _ hmu]
  rw [← ei] at kp
  have t : ty ((c, 2) :: B) = ty (Y j) + 1 := by
    rw [ej]; omega
  rw [t] at kp
  have kk : key Z q (F pd - 1) = mv (key Y q (F pd)) (wt (dec (ty (Y i))) + wt (ty (Y j) + 1)) (wt (ty (Y i)) + wt (ty (Y j)) + 1) := by
    show _ = key Y q (F pd) + _ - _
    omega
  rw [kk]; exact cl
end Go.Proofs.YtgpafbbnobanbaaGreatDoor.Way
/- The number of shortest ways is bounded by the table. -/
namespace Go.Proofs.YtgpafbbnobanbaaGreatDoor.Way
set_option linter.unusedSimpArgs false
set_option linter.unusedVariables false
variable {L m q : Nat} {Y : Rack} {pd : Nat → Bool} {uu vv : Nat → Nat}
theorem St.mark_top (s : St L m Y pd q uu vv) {j c p : Nat} {B : Tube} (ej : Y j = (c, p) :: B) (h : 0 < marks pd uu j) : pd c = true ∧ uu c = j := by
  obtain ⟨d, _, _, hd, e⟩ := marks_pos h
  obtain ⟨_, A, a, _⟩ := s.at_u hd
  rw [e, ej] at a
  injection a with x _
  injection x with x _
  subst x
  exact ⟨hd, e⟩
theorem step_T (hy : Hyp L m) (s : St L m Y pd q uu vv) {g : Nat → Nat} (hg : ∀ k, mu k < mu (key Y q (F pd)) → g k = W L k) {j c p : Nat} {B : Tube} (hj : j < 6) (ej : Y j = (c, p) :: B) (h1 : p + size B < 4) : 2 * (sum6 fun i => xx m Y i j) + HH Y * (marks pd uu j * vMin g (key Y q (F pd))) ≤ HH Y * val g (key Y q (F pd)) (ty (Y j)) := by
  have hq := s.q8
  have hf := s.F3
  have gj := s.o.ps j hj
  rw [ej] at gj
  have to := ty_open gj h1
  have tj : ty (Y j) = 1 ∨ ty (Y j) = 3 ∨ ty (Y j) = 5 := by rw [ej]; omega
  have hm := s.marks_u j
  have ne : Y j ≠ [] := by rw [ej]; simp
  cases hc : pd c with
  | true =>
    by_cases hju : j = uu c
    · have z : ∀ i, i < 6 → xx m Y i j = 0 := by
        intro i hi
        rcases xx_cases m Y i j with h0 | ⟨Z, e, hZ, ex⟩
        · exact h0
        · exfalso
          rcases pend_step (s.pa c hc) hi hj e hZ with ⟨_, ⟨_, h3⟩ | ⟨_, h3, _⟩⟩
          · obtain ⟨hij, pp⟩ := pour_of e
            cases pp with
            | E c' n A ei e2 => exact ne e2
            | M c' n p' A B' ei e2 =>
              rw [ej] at e2; injection e2 with x _; injection x with x _; subst x
              exact ne (h3 _ _ ei)
            | P c' n p' t A B' ei e2 =>
              rw [ej] at e2; injection e2 with x _; injection x with x _; subst x
              exact ne (h3 _ _ ei)
          · exact h3 hju
      have z2 : (sum6 fun i => xx m Y i j) = 0 := by rw [sum6_congr z]; rfl
      rw [z2, Nat.mul_zero, Nat.zero_add]
      refine Nat.mul_le_mul_left _ (Nat.le_trans ?_ (vMin_le hq hf hj tj))
      have := Nat.mul_le_mul_right (vMin g (key Y q (F pd))) hm
      rw [Nat.one_mul] at this
      exact this
    · have hm0 : marks pd uu j = 0 := by
        rcases Nat.eq_zero_or_pos (marks pd uu j) with h | h
        · exact h
        · exact (hju (s.mark_top ej h).2.symm).elim
      obtain ⟨hu, A0, eu, hA0⟩ := s.at_u hc
      have z : ∀ i, i < 6 → i ≠ uu c → xx m Y i j = 0 := by
        intro i hi hiu
        rcases xx_cases m Y i j with h0 | ⟨Z, e, hZ, ex⟩
        · exact h0
        · exfalso
          rcases pend_step (s.pa c hc) hi hj e hZ with ⟨_, ⟨_, h3⟩ | ⟨h3, _⟩⟩
          · obtain ⟨hij, pp⟩ := pour_of e
            cases pp with
            | E c' n A ei e2 => exact ne e2
            | M c' n p' A B' ei e2 =>
              rw [ej] at e2; injection e2 with x _; injection x with x _; subst x
              exact ne (h3 _ _ ei)
            | P c' n p' t A B' ei e2 =>
              rw [ej] at e2; injection e2 with x _; injection x with x _; subst x
              exact ne (h3 _ _ ei)
          · exact hiu h3
      rw [sum6_only hu z, hm0, Nat.zero_mul, Nat.mul_zero, Nat.add_zero]
      rcases xx_cases m Y (uu c) j with h0 | ⟨Z, e, hZ, ex⟩
      · rw [h0]; exact Nat.zero_le _
      · rw [ex]
        rcases pend_step (s.pa c hc) hu hj e hZ with ⟨_, ⟨_, h3⟩ | ⟨_, _, _, A, D, e1, e2, hD, eZ⟩⟩
        · exact (ne (h3 _ _ eu)).elim
        · rw [eu] at e1
          injection e1 with _ x
          subst x
          exact s.tL hy hg hu hj (fun k => hju k.symm) e hZ eu hA0 e2 hD eZ hc
  | false =>
    have hm0 : marks pd uu j = 0 := by
      rcases Nat.eq_zero_or_pos (marks pd uu j) with h | h
      · exact h
      · have := (s.mark_top ej h).1
        rw [hc] at this; cases this
    rw [hm0, Nat.zero_mul, Nat.mul_zero, Nat.add_zero]
    have lt := tops_lt hj ej
    -- a full pour
    have full : ∀ i, i < 6 → ∀ Z n A, pourR Y i j = some Z → Reach m Z → Y i = (c, n) :: A → p + size B + n ≤ 4 → Z = upd (upd Y i A) j ((c, p + n) :: B) → (r Y c - 1) * K m Z ≤ HH Y * cm g (key Y q (F pd)) (wt (ty (Y j))) (wt (ty (Y j) + 1)) := by
      intro i hi Z n A e hZ ei h2 eZ
      exact s.tM hy hg hi hj (pour_of e).1 e hZ ei ej h1 h2 eZ hc
    by_cases hP : ∃ i0 Z n t A, i0 < 6 ∧ pourR Y i0 j = some Z ∧ Reach m Z ∧ Y i0 = (c, n + t) :: A ∧ p + size B + t = 4 ∧ 1 ≤ t ∧ 1 ≤ n ∧ Z = upd (upd Y i0 ((c, n) :: A)) j ((c, p + t) :: B)
    · obtain ⟨i0, Z0, n0, t0, A0, hi0, e0, hZ0, ei0, hs0, ht0, hn0, eZ0⟩ := hP
      have hij0 := (pour_of e0).1
      obtain ⟨h20, hr3, tj3, hk0⟩ := s.tP hy hg hi0 hj hij0 e0 hZ0 ei0 ej hs0 ht0 hn0 eZ0 hc
      have main : ∀ i, i < 6 → 2 * xx m Y i j ≤ (2 * (HH Y * bp g (key Y q (F pd)) (wt (ty (Y j))) (wt (ty (Y j) + 1)))) * (if i0 = i then 1 else 0) + (if i = j ∨ i = i0 then 0 else tp c (Y i)) * (HH Y * cm g (key Y q (F pd)) (wt (ty (Y j))) (wt (ty (Y j) + 1))) := by
        intro i hi
        rcases xx_cases m Y i j with h0 | ⟨Z, e, hZ, ex⟩
        · rw [h0]; exact Nat.zero_le _
        · have hij := (pour_of e).1
          rw [ex]
          by_cases k : i0 = i
          · subst k
            rw [e0] at e
            injection e with e
            subst e
            simp
            exact Nat.mul_le_mul_left 2 hk0
          · have k' : ¬ (i = j ∨ i = i0) := by intro h; rcases h with h | h; exact hij h; exact k h.symm
            rw [if_neg k, if_neg k', Nat.mul_zero, Nat.zero_add]
            cases (pour_of e).2 with
            | E c' n A ei e2 => exact (ne e2).elim
            | M c' n p' A B' ei e2 g1 g2 eZ =>
              rw [ej] at e2; injection e2 with x y; injection x with x x2; subst x x2 y
              have := full i hi Z n A e hZ ei g2 eZ
              rw [hr3] at this
              rw [ei]; simp only [tp, if_true, Nat.one_mul]
              exact this
            | P c' n p' t A B' ei e2 g1 g2 g3 eZ =>
              exfalso
              rw [ej] at e2; injection e2 with x y; injection x with x x2; subst x x2 y
              have a := s.tP hy hg hi hj hij e hZ ei ej g1 g2 g3 eZ hc
              have := three_le (f := fun k => lay c (Y k)) hi hi0 hj (Ne.symm k) hij hij0
              have hpp := (good_head gj).1
              simp only [ei, ei0, ej, lay, if_true] at this
              have ly := s.o.ly c
              have : tot (lay c) Y = sum6 fun k => lay c (Y k) := rfl
              omega
      have e1 : (sum6 fun i => if i = j then 0 else tp c (Y i)) = (sum6 fun i => if i = j ∨ i = i0 then 0 else tp c (Y i)) + 1 := by
        rw [← sum6_point hi0, ← sum6_add]
        refine sum6_congr fun i hi => ?_
        by_cases k : i = j
        · subst k; simp [hij0]
        · by_cases k2 : i = i0
          · subst k2; simp [k, ei0, tp]
          · simp [k, k2, Ne.symm k2]
      have e2 : (sum6 fun i => if i = j ∨ i = i0 then 0 else tp c (Y i)) ≤ 1 := by omega
      have sm := sum6_le main
      rw [sum6_mul, sum6_add, sum6_mul, sum6_mul', sum6_point hi0, Nat.mul_one] at sm
      refine Nat.le_trans sm (Nat.le_trans ?_ (Nat.mul_le_mul_left _ (val_bp tj3)))
      have := Nat.mul_le_mul_right (HH Y * cm g (key Y q (F pd)) (wt (ty (Y j))) (wt (ty (Y j) + 1))) e2
      rw [Nat.mul_add, Nat.mul_left_comm]
      omega
    · have main : ∀ i, i < 6 → (r Y c - 1) * xx m Y i j ≤ (if i = j then 0 else tp c (Y i)) * (HH Y * cm g (key Y q (F pd)) (wt (ty (Y j))) (wt (ty (Y j) + 1))) ∧ (xx m Y i j = 0 ∨ 1 ≤ if i = j then 0 else tp c (Y i)) := by
        intro i hi
        rcases xx_cases m Y i j with h0 | ⟨Z, e, hZ, ex⟩
        · rw [h0]; exact ⟨Nat.zero_le _, .inl rfl⟩
        · have hij := (pour_of e).1
          rw [ex, if_neg hij]
          cases (pour_of e).2 with
          | E c' n A ei e2 => exact (ne e2).elim
          | M c' n p' A B' ei e2 g1 g2 eZ =>
            rw [ej] at e2; injection e2 with x y; injection x with x x2; subst x x2 y
            have := full i hi Z n A e hZ ei g2 eZ
            rw [ei]; simp only [tp, if_true, Nat.one_mul]
            exact ⟨this, .inr (Nat.le_refl _)⟩
          | P c' n p' t A B' ei e2 g1 g2 g3 eZ =>
            exfalso
            rw [ej] at e2; injection e2 with x y; injection x with x x2; subst x x2 y
            exact hP ⟨i, Z, n, t, A, hi, e, hZ, ei, g1, g2, g3, eZ⟩
      have sm := sum6_le fun i hi => (main i hi).1
      rw [sum6_mul, sum6_mul'] at sm
      have X : (sum6 fun i => xx m Y i j) ≤ HH Y * cm g (key Y q (F pd)) (wt (ty (Y j))) (wt (ty (Y j) + 1)) := by
        rcases Nat.eq_zero_or_pos (r Y c - 1) with h0 | h0
        · have z : ∀ i, i < 6 → xx m Y i j = 0 := by
            intro i hi
            rcases (main i hi).2 with h | h
            · exact h
            · exfalso
              have : (sum6 fun i => if i = j then 0 else tp c (Y i)) = 0 := by omega
              have h3 := sum6_pos (f := fun i => if i = j then 0 else tp c (Y i))
              have := h3.2 ⟨i, hi, h⟩
              omega
          have z2 : (sum6 fun i => xx m Y i j) = 0 := by rw [sum6_congr z]; rfl
          rw [z2]; exact Nat.zero_le _
        · refine Nat.le_of_mul_le_mul_left (Nat.le_trans sm ?_) h0
          exact Nat.mul_le_mul_right _ (by omega)
      refine Nat.le_trans (Nat.mul_le_mul_left 2 X) (Nat.le_trans ?_ (Nat.mul_le_mul_left _ (val_cm tj)))
      rw [Nat.mul_left_comm]
      exact Nat.le_refl _
theorem step_main (hy : Hyp L m) (s : St L m Y pd q uu vv) : K (m + 1) Y ≤ HH Y * W L (key Y q (F pd)) := by
  have hq := s.q8
  have hf := s.F3
  have hmu : 0 < mu (key Y q (F pd)) := by
    rw [mu_key s.o hq hf]
    have a := len_types (Y := Y) fun k hk => ⟨s.o.sz k hk, s.o.ps k hk⟩
    have b := ct_six Y
    omega
  obtain ⟨g, eW, hg⟩ := W_eq (L := L) hmu
  have fe := feas_of s.o s.ln hq hf s.F_u s.F_v
  have each : ∀ j, j < 6 → 2 * (sum6 fun i => xx m Y i j) + HH Y * (marks pd uu j * vMin g (key Y q (F pd))) ≤ HH Y * val g (key Y q (F pd)) (ty (Y j)) + ind 0 (Y j) * (2 * (HH Y * (eSum g (key Y q (F pd)) - F pd * eMin g (key Y q (F pd))))) := by
    intro j hj
    have nm : ty (Y j) ≠ 1 → ty (Y j) ≠ 3 → ty (Y j) ≠ 5 → marks pd uu j = 0 := by
      intro a b c
      rcases Nat.eq_zero_or_pos (marks pd uu j) with h | h
      · exact h
      · have := s.type_u hj h; omega
    cases ej : Y j with
    | nil =>
      have t0 : ty (Y j) = 0 := by rw [ej]; rfl
      rw [nm (by omega) (by omega) (by omega), ind_nil, Nat.zero_mul, Nat.mul_zero, Nat.add_zero, Nat.one_mul]
      have := step_E hy s hg hj ej
      omega
    | cons x B =>
      obtain ⟨c, p⟩ := x
      by_cases h : p + size B < 4
      · have := step_T hy s hg hj ej h
        rw [ej] at this
        omega
      · have z : ∀ i, i < 6 → xx m Y i j = 0 := by
          intro i hi
          rcases xx_cases m Y i j with h0 | ⟨Z, e, hZ, ex⟩
          · exact h0
          · exfalso
            cases (pour_of e).2 with
            | E c' n A ei e2 => rw [ej] at e2; cases e2
            | M c' n p' A B' ei e2 g1 g2 eZ =>
              rw [ej] at e2; injection e2 with x y; injection x with x x2; subst x2 y; omega
            | P c' n p' t A B' ei e2 g1 g2 g3 eZ =>
              rw [ej] at e2; injection e2 with x y; injection x with x x2; subst x2 y; omega
        have z2 : (sum6 fun i => xx m Y i j) = 0 := by rw [sum6_congr z]; rfl
        have hm0 : marks pd uu j = 0 := by
          rcases Nat.eq_zero_or_pos (marks pd uu j) with h0 | h0
          · exact h0
          · obtain ⟨d, _, _, hd, e3⟩ := marks_pos h0
            obtain ⟨_, A, a1, a2⟩ := s.at_u hd
            rw [e3, ej] at a1
            injection a1 with x y
            injection x with x x2
            subst x2 y
            omega
        rw [z2, hm0]; simp
  have sm := sum6_le each
  have e1 : (sum6 fun j => 2 * (sum6 fun i => xx m Y i j) + HH Y * (marks pd uu j * vMin g (key Y q (F pd)))) = 2 * K (m + 1) Y + HH Y * (F pd * vMin g (key Y q (F pd))) := by
    rw [sum6_add, sum6_mul, sum6_mul, sum6_mul', ← sum6_swap, show sum6 (fun i => marks pd uu i) = F pd from marks_sum (pd := pd) fun c hc => (s.at_u hc).1]
    rfl
  have e2 : (sum6 fun j => HH Y * val g (key Y q (F pd)) (ty (Y j)) + ind 0 (Y j) * (2 * (HH Y * (eSum g (key Y q (F pd)) - F pd * eMin g (key Y q (F pd)))))) = HH Y * vSum g (key Y q (F pd)) + ct Y 0 * (2 * (HH Y * (eSum g (key Y q (F pd)) - F pd * eMin g (key Y q (F pd))))) := by
    rw [sum6_add, sum6_mul, sum6_mul', vSum_eq g hq hf]
    rfl
  rw [e1, e2] at sm
  have eR : W L (key Y q (F pd)) = (cond (Nat.beq (Nat.div (key Y q (F pd)) 16384) 0) 1 0) + (ct Y 0 * (eSum g (key Y q (F pd)) - F pd * eMin g (key Y q (F pd))) + half (vSum g (key Y q (F pd)) - F pd * vMin g (key Y q (F pd)))) := by
    rw [eW]
    unfold rhs
    rw [fe, dg_0 hq hf, show Nat.mod (key Y q (F pd)) 4 = F pd from md_f hq hf, gmul_eq, gmul_eq, gmul_eq]
    rfl
  rw [eR]
  generalize eSum g (key Y q (F pd)) - F pd * eMin g (key Y q (F pd)) = X at *
  generalize vMin g (key Y q (F pd)) = v at *
  generalize vSum g (key Y q (F pd)) = V at *
  have hh := half_le (V - F pd * v)
  generalize cond (Nat.beq (Nat.div (key Y q (F pd)) 16384) 0) 1 0 = o at *
  have h3 := Nat.mul_le_mul_left (HH Y) hh
  have h5 : HH Y * (2 * half (V - F pd * v)) = 2 * (HH Y * half (V - F pd * v)) := Nat.mul_left_comm _ _ _
  rw [Nat.mul_sub, h5] at h3
  have h4 : ct Y 0 * (2 * (HH Y * X)) = 2 * (HH Y * (ct Y 0 * X)) := by
    rw [Nat.mul_left_comm (ct Y 0) 2, Nat.mul_left_comm (ct Y 0) (HH Y)]
  rw [h4] at sm
  rw [Nat.mul_add, Nat.mul_add]
  omega
theorem hh_pos (n : Nat) : 1 ≤ hh n := by
  unfold hh; split <;> omega
theorem HH_pos (Y : Rack) : 1 ≤ HH Y := by
  unfold HH
  exact Nat.mul_pos (Nat.mul_pos (Nat.mul_pos (Nat.mul_pos (hh_pos _) (hh_pos _)) (hh_pos _)) (hh_pos _)) (hh_pos _)
theorem F_none : F (fun _ => false) = 0 := rfl
theorem hyp_zero (L : Nat) : Hyp L 0 := by
  intro Y pd q o _ hp hq hq5 hL
  cases hs : sortedB Y with
  | false => simp [K, hs]
  | true =>
    have np : ∀ c, pd c = false := by
      intro c
      cases h : pd c with
      | false => rfl
      | true =>
        exfalso
        obtain ⟨_, u, v, S, hu, hv, huv, _, _, _, e, _⟩ := hp c h
        rw [e] at hs
        exact sorted_tops hs hu hv huv (at_u huv) (at_v huv)
    have F0 : F pd = 0 := by simp [F, sum5, np, b1]
    rw [F0]
    have hq8 : q < 8 := by omega
    have hmu : 0 < mu (key Y q 0) := by
      rw [mu_key o hq8 (by omega)]
      have a := len_types (Y := Y) fun k hk => ⟨o.sz k hk, o.ps k hk⟩
      have b := ct_six Y
      omega
    obtain ⟨g, eW, _⟩ := W_eq (L := L) hmu
    have fe := feas_of (f := 0) o hL hq8 (by omega) (Nat.zero_le _) (Nat.zero_le _)
    have len1 : ∀ k, k < 6 → (Y k).length ≤ 1 := by
      intro k hk
      simp only [sortedB, List.all_eq_true, List.mem_range, Bool.and_eq_true, decide_eq_true_eq] at hs
      exact (hs k hk).1
    have z : ∀ a, 3 ≤ a → ct Y a = 0 := by
      intro a ha
      have : ct Y a ≤ sum6 fun _ => 0 := by
        refine sum6_le (f := fun k => ind a (Y k)) fun k hk => ?_
        have l := len1 k hk
        have t := ty_len (t := Y k) (by omega)
        simp only [ind]
        rw [if_neg (by omega)]; exact Nat.le_refl _
      have e0 : (sum6 fun _ => 0) = 0 := rfl
      omega
    have six := ct_six Y
    have k0 : Nat.beq (Nat.div (key Y q 0) 16384) 0 = true := by
      have : key Y q 0 < 16384 := by
        rw [key_eq, z 3 (by omega), z 4 (by omega), z 5 (by omega), z 6 (by omega), z 7 (by omega)]
        omega
      have e : Nat.div (key Y q 0) 16384 = 0 := Nat.div_eq_of_lt this
      rw [e]; rfl
    have : 1 ≤ W L (key Y q 0) := by
      rw [eW]
      unfold rhs
      rw [fe, k0]
      show 1 ≤ 1 + _
      omega
    simp only [K, hs, if_true]
    exact Nat.mul_pos (HH_pos Y) this
theorem hyp_all (L : Nat) : ∀ m, Hyp L m
  | 0 => hyp_zero L
  | m + 1 => by
    intro Y pd q o hm hp hq hq5 hL
    have h : ∀ c, ∃ u v, pd c = true → PendAt (m + 1) Y c u v := by
      intro c
      by_cases k : pd c = true
      · obtain ⟨_, u, v, h⟩ := hp c k
        exact ⟨u, v, fun _ => h⟩
      · exact ⟨0, 0, fun h => (k h).elim⟩
    obtain ⟨uu, h⟩ := Classical.skolem.1 h
    obtain ⟨vv, h⟩ := Classical.skolem.1 h
    exact step_main (hyp_all L m) (uu := uu) (vv := vv) ⟨o, fun k hk => hm k (by omega), fun c hc => (hp c hc).1, fun c hc => h c hc, hq, hq5, hL⟩
/-- Colors and layers. -/
theorem lay_size : ∀ {t : Tube}, good t → lay 1 t + lay 2 t + lay 3 t + lay 4 t + lay 5 t = size t
  | [], _ => rfl
  | (c, n) :: t, h => by
    have a := h (c, n) (List.mem_cons_self ..)
    have := lay_size (t := t) (good_tail h)
    have c5 : c = 1 ∨ c = 2 ∨ c = 3 ∨ c = 4 ∨ c = 5 := five a.2
    simp only [lay, size]
    rcases c5 with rfl | rfl | rfl | rfl | rfl <;> simp <;> omega
theorem lay_all (o : Ok Y) : tot (lay 1) Y + tot (lay 2) Y + tot (lay 3) Y + tot (lay 4) Y + tot (lay 5) Y = tot size Y := by
  have : tot (fun t => lay 1 t + lay 2 t + lay 3 t + lay 4 t + lay 5 t) Y = tot size Y := sum6_congr fun k hk => lay_size (o.ps k hk)
  rw [← this]
  simp only [tot, sum6]; omega
theorem L20 (o : Ok Y) : tot size Y ≤ 20 := by
  have a := lay_all o
  have h1 := o.ly 1; have h2 := o.ly 2; have h3 := o.ly 3; have h4 := o.ly 4; have h5 := o.ly 5
  omega
/-- The bound for a rack. -/
theorem ways_le (o : Ok Y) (hm : ∀ k, k < m → ¬ Reach k Y) : K m Y ≤ HH Y * W (tot size Y) (key Y (tot size Y / 4) 0) := by
  have l20 := L20 o
  have := hyp_all (tot size Y) m Y (fun _ => false) (tot size Y / 4) o hm (fun c hc => by cases hc) (by
    have a := lay_all o
    have f1 : ∀ c, fq Y (fun _ => false) c * 4 ≤ tot (lay c) Y := by
      intro c
      unfold fq
      split
      · omega
      · omega
    have g1 := f1 1; have g2 := f1 2; have g3 := f1 3; have g4 := f1 4; have g5 := f1 5
    simp only [FQ, sum5]
    omega) (by omega) rfl
  rw [F_none] at this
  exact this
end Go.Proofs.YtgpafbbnobanbaaGreatDoor.Way
/- The table's numbers, computed by the kernel: what is reached behind a first pour is below 2^64. -/
namespace Go.Proofs.YtgpafbbnobanbaaGreatDoor.Way
set_option linter.unusedSimpArgs false
set_option linter.unusedVariables false
set_option maxRecDepth 1000000
def hm (L : Nat) : Nat := Nat.mul (Nat.pow 6 (Nat.div L 4)) (cond (Nat.beq (Nat.mod L 4) 3) 2 1)
def lim (L p : Nat) : Bool := Nat.ble (Nat.succ (Nat.mul (hm L) (W L p))) 18446744073709551616
def limA (L p wa wd : Nat) : Bool := Nat.rec true (fun _ _ => Nat.rec true (fun _ _ => lim L (eA p wa wd)) (dg wa p)) (dg 32 p)
def chk1 (L p : Nat) : Bool := cond (Nat.ble (rk p) L) (and (cond (Nat.ble L (rk p)) true (lim L p)) (and (limA L p 16384 256) (and (limA L p 131072 256) (and (limA L p 1048576 16384) (and (limA L p 8388608 16384) (limA L p 67108864 1048576)))))) true
def force (f : Nat → Bool) (n : Nat) : Bool := Nat.rec (f 0) (fun j _ => f (Nat.succ j)) n
/-- All ways to give n tubes of a kind, and the rest of other kinds. -/
def upto (f : Nat → Bool) (n : Nat) : Bool := Nat.rec (f 0) (fun j ih => and ih (f (Nat.succ j))) n
def allW : List Nat → Nat → Nat → (Nat → Bool) → Bool
  | [], left, acc, f => cond (Nat.beq left 0) (force f acc) true
  | w :: ws, left, acc, f => upto (fun n => allW ws (Nat.sub left n) (Nat.add acc (Nat.mul n w)) f) left
def chk (L : Nat) : Bool := allW [32, 256, 2048, 16384, 131072, 1048576, 8388608, 67108864] 6 (Nat.mul 4 (Nat.div L 4)) (chk1 L)
theorem upto_get {f : Nat → Bool} : ∀ {n : Nat}, upto f n = true → ∀ k, k ≤ n → f k = true
  | 0, h, k, hk => by have : k = 0 := by omega
                      subst this; exact h
  | n + 1, h, k, hk => by
    have h' : (upto f n && f (n + 1)) = true := h
    rw [Bool.and_eq_true] at h'
    by_cases e : k = n + 1
    · subst e; exact h'.2
    · exact upto_get h'.1 k (by omega)
theorem force_eq (f : Nat → Bool) (n : Nat) : force f n = f n := by cases n <;> rfl
theorem all_cons {w left acc : Nat} {ws : List Nat} {f : Nat → Bool} (h : allW (w :: ws) left acc f = true) (n : Nat) (hn : n ≤ left) : allW ws (left - n) (acc + n * w) f = true := upto_get (f := fun n => allW ws (Nat.sub left n) (Nat.add acc (Nat.mul n w)) f) h n hn
theorem chk_get {L : Nat} (h : chk L = true) {c0 c1 c2 c3 c4 c5 c6 c7 : Nat} (hs : c0 + c1 + c2 + c3 + c4 + c5 + c6 + c7 = 6) : chk1 L (32 * c0 + 256 * c1 + 2048 * c2 + 16384 * c3 + 131072 * c4 + 1048576 * c5 + 8388608 * c6 + 67108864 * c7 + 4 * (L / 4)) = true := by
  have h0 := all_cons h c0 (by omega)
  have h1 := all_cons h0 c1 (by omega)
  have h2 := all_cons h1 c2 (by omega)
  have h3 := all_cons h2 c3 (by omega)
  have h4 := all_cons h3 c4 (by omega)
  have h5 := all_cons h4 c5 (by omega)
  have h6 := all_cons h5 c6 (by omega)
  have h7 := all_cons h6 c7 (by omega)
  have e : (Nat.beq (6 - c0 - c1 - c2 - c3 - c4 - c5 - c6 - c7) 0) = true := by
    rw [show 6 - c0 - c1 - c2 - c3 - c4 - c5 - c6 - c7 = 0 by omega]; rfl
  have h8 : cond (Nat.beq (6 - c0 - c1 - c2 - c3 - c4 - c5 - c6 - c7) 0) (force (chk1 L) (4 * (L / 4) + c0 * 32 + c1 * 256 + c2 * 2048 + c3 * 16384 + c4 * 131072 + c5 * 1048576 + c6 * 8388608 + c7 * 67108864)) true = true := h7
  rw [e, cond_true, force_eq] at h8
  rw [show 32 * c0 + 256 * c1 + 2048 * c2 + 16384 * c3 + 131072 * c4 + 1048576 * c5 + 8388608 * c6 + 67108864 * c7 + 4 * (L / 4) = 4 * (L / 4) + c0 * 32 + c1 * 256 + c2 * 2048 + c3 * 16384 + c4 * 131072 + c5 * 1048576 + c6 * 8388608 + c7 * 67108864 by omega]
  exact h8
theorem chkA : chk 0 = true ∧ chk 1 = true ∧ chk 2 = true ∧ chk 3 = true ∧ chk 4 = true ∧ chk 5 = true ∧ chk 6 = true ∧ chk 7 = true ∧ chk 8 = true ∧ chk 9 = true := by decide +kernel
theorem chkB : chk 10 = true ∧ chk 11 = true ∧ chk 12 = true ∧ chk 13 = true := by decide +kernel
theorem chk14 : chk 14 = true := by decide +kernel
theorem chk15 : chk 15 = true := by decide +kernel
theorem chk16 : chk 16 = true := by decide +kernel
theorem chk17 : chk 17 = true := by decide +kernel
theorem chk18 : chk 18 = true := by decide +kernel
theorem chk19 : chk 19 = true := by decide +kernel
theorem chk20 : chk 20 = true := by decide +kernel
end Go.Proofs.YtgpafbbnobanbaaGreatDoor.Way
/- Behind a first pour of a shortest way there are fewer than 2^64 shortest ways. -/
namespace Go.Proofs.YtgpafbbnobanbaaGreatDoor.Way
set_option linter.unusedSimpArgs false
set_option linter.unusedVariables false
set_option maxRecDepth 1000000
theorem chk_all {L : Nat} (h : L ≤ 20) : chk L = true := by
  have : L = 0 ∨ L = 1 ∨ L = 2 ∨ L = 3 ∨ L = 4 ∨ L = 5 ∨ L = 6 ∨ L = 7 ∨ L = 8 ∨ L = 9 ∨ L = 10 ∨ L = 11 ∨ L = 12 ∨ L = 13 ∨ L = 14 ∨ L = 15 ∨ L = 16 ∨ L = 17 ∨ L = 18 ∨ L = 19 ∨ L = 20 := by omega
  obtain ⟨a0, a1, a2, a3, a4, a5, a6, a7, a8, a9⟩ := chkA
  obtain ⟨b0, b1, b2, b3⟩ := chkB
  rcases this with e | e | e | e | e | e | e | e | e | e | e | e | e | e | e | e | e | e | e | e | e <;> subst e
  · exact a0
  · exact a1
  · exact a2
  · exact a3
  · exact a4
  · exact a5
  · exact a6
  · exact a7
  · exact a8
  · exact a9
  · exact b0
  · exact b1
  · exact b2
  · exact b3
  · exact chk14
  · exact chk15
  · exact chk16
  · exact chk17
  · exact chk18
  · exact chk19
  · exact chk20
theorem hh_mono {a b : Nat} (h : a ≤ b) : hh a ≤ hh b := by
  have big : ∀ n, 4 ≤ n → hh n = 6 := fun n h => by obtain ⟨k, rfl⟩ : ∃ k, n = k + 4 := ⟨n - 4, by omega⟩; rfl
  have ca : a = 0 ∨ a = 1 ∨ a = 2 ∨ a = 3 ∨ 4 ≤ a := by omega
  have cb : b = 0 ∨ b = 1 ∨ b = 2 ∨ b = 3 ∨ 4 ≤ b := by omega
  have e0 : hh 0 = 1 := rfl
  have e1 : hh 1 = 1 := rfl
  have e2 : hh 2 = 1 := rfl
  have e3 : hh 3 = 2 := rfl
  have ba := big a
  have bb := big b
  rcases ca with rfl | rfl | rfl | rfl | ca <;> rcases cb with rfl | rfl | rfl | rfl | cb <;> omega
theorem hm_all : ∀ a, a < 5 → ∀ b, b < 5 → ∀ c, c < 5 → ∀ d, d < 5 → ∀ e, e < 5 → hh a * hh b * hh c * hh d * hh e ≤ hm (a + b + c + d + e) := by decide +kernel
theorem HH_le {Y : Rack} (o : Ok Y) : HH Y ≤ hm (tot size Y) := by
  have a := lay_all o
  have r1 : ∀ c, r Y c ≤ tot (lay c) Y := fun c => sum6_le fun k hk => lay_cnt fun x hx => (o.ps k hk x hx).1
  have h1 := o.ly 1; have h2 := o.ly 2; have h3 := o.ly 3; have h4 := o.ly 4; have h5 := o.ly 5
  have := hm_all (tot (lay 1) Y) (by omega) (tot (lay 2) Y) (by omega) (tot (lay 3) Y) (by omega) (tot (lay 4) Y) (by omega) (tot (lay 5) Y) (by omega)
  rw [a] at this
  refine Nat.le_trans ?_ this
  unfold HH
  exact Nat.mul_le_mul (Nat.mul_le_mul (Nat.mul_le_mul (Nat.mul_le_mul (hh_mono (r1 1)) (hh_mono (r1 2))) (hh_mono (r1 3))) (hh_mono (r1 4))) (hh_mono (r1 5))
theorem chk_key {Y : Rack} (o : Ok Y) : chk1 (tot size Y) (key Y (tot size Y / 4) 0) = true := by
  rw [key_eq, Nat.add_zero]
  exact chk_get (chk_all (L20 o)) (ct_six Y)
theorem lim_lt2 {a b x : Nat} (h : Nat.ble (Nat.succ (Nat.mul a b)) 18446744073709551616 = true) (hx : x ≤ a * b) : x < 2 ^ 64 := by
  have h2 := Nat.le_of_ble_eq_true h
  have e2 : (2 : Nat) ^ 64 = 18446744073709551616 := by decide
  rw [e2]
  have h4 : a * b < 18446744073709551616 := h2
  exact Nat.lt_of_le_of_lt hx h4
theorem lim_lt {L p x : Nat} (h : lim L p = true) (hx : x ≤ hm L * W L p) : x < 2 ^ 64 := by
  unfold lim at h
  exact lim_lt2 (a := hm L) (b := W L p) h hx
theorem limA_get {L p wa wd : Nat} (h : limA L p wa wd = true) (h0 : 0 < dg 32 p) (h1 : 0 < dg wa p) : lim L (eA p wa wd) = true := by
  unfold limA at h
  generalize dg 32 p = x at *
  generalize dg wa p = y at *
  cases x with
  | zero => omega
  | succ x => cases y with
    | zero => omega
    | succ y => exact h
theorem rk_key {Y : Rack} (o : Ok Y) {q f : Nat} (hq : q < 8) (hf : f < 4) : rk (key Y q f) = tot List.length Y := by
  have l := len_types (Y := Y) fun k hk => ⟨o.sz k hk, o.ps k hk⟩
  show ((dg 256 _ + dg 2048 _) + (2 * (dg 16384 _ + dg 131072 _) + (3 * (dg 1048576 _ + dg 8388608 _) + 4 * dg 67108864 _))) = _
  rw [dg_1 hq hf, dg_2 hq hf, dg_3 hq hf, dg_4 hq hf, dg_5 hq hf, dg_6 hq hf, dg_7 hq hf]
  omega
theorem child_small {m i j : Nat} {Y Z : Rack} (o : Ok Y) (hmin : ¬ Le m Y) (hi : i < 6) (hj : j < 6) (e : pourR Y i j = some Z) : K m Z < 2 ^ 64 := by
  have oZ := ok_pour hi hj o e
  have hs := pour_size hi hj e
  have zmin : ∀ k, k < m → ¬ Reach k Z := fun k hk h => hmin ⟨k + 1, by omega, i, j, Z, hi, hj, e, h⟩
  have b := ways_le oZ zmin
  have hq : tot size Y / 4 < 8 := by have := L20 o; omega
  have hH := HH_le oZ
  rw [hs] at b hH
  have ck := chk_key o
  have ckZ := chk_key oZ
  rw [hs] at ckZ
  have lenY : tot List.length Y ≤ tot size Y := sum6_le fun k hk => len_size (o.ps k hk)
  have lenZ : tot List.length Z ≤ tot size Z := sum6_le fun k hk => len_size (oZ.ps k hk)
  have fromZ : tot List.length Z < tot size Y → K m Z < 2 ^ 64 := by
    intro h
    unfold chk1 at ckZ
    rw [rk_key oZ hq (by omega), show Nat.ble (tot List.length Z) (tot size Y) = true from ble_iff.2 (by omega), show Nat.ble (tot size Y) (tot List.length Z) = false from by rw [Bool.eq_false_iff]; intro h2; have := ble_iff.1 h2; omega] at ckZ
    simp only [cond_true, cond_false] at ckZ
    have c1 : lim (tot size Y) (key Z (tot size Y / 4) 0) = true := by
      cases h3 : lim (tot size Y) (key Z (tot size Y / 4) 0) with
      | true => rfl
      | false => rw [h3] at ckZ; exact ckZ
    exact lim_lt c1 (Nat.le_trans b (Nat.mul_le_mul_right _ hH))
  obtain ⟨hij, p⟩ := pour_of e
  cases p with
  | E c n A ei ej hA eZ =>
    have gd := o.ps i hi
    have sz := o.sz i hi
    rw [ei] at gd sz
    have td := ty_dec gd sz
    obtain ⟨y, A', rfl⟩ : ∃ y A', A = y :: A' := by
      cases A with
      | nil => exact (hA rfl).elim
      | cons y A' => exact ⟨y, A', rfl⟩
    have hn : n < 4 := by
      have := (good_head (c := y.1) (n := y.2) (good_tail gd)).1
      simp only [size] at sz; omega
    have t3 : ty (Y i) = 3 ∨ ty (Y i) = 4 ∨ ty (Y i) = 5 ∨ ty (Y i) = 6 ∨ ty (Y i) = 7 := by
      rw [ei]
      rcases eight (ty_lt ((c, n) :: y :: A')) with e | e | e | e | e | e | e | e <;> rw [e] at td ⊢ <;> first | omega | exact absurd td ty_pos
    have kp := key_pour (q := tot size Y / 4) (f := 0) (q' := tot size Y / 4) (f' := 0) hi hj hij eZ
    rw [ej, ei, td, ty_one hn, ty_nil, ← ei] at kp
    have kk : key Z (tot size Y / 4) 0 = eA (key Y (tot size Y / 4) 0) (wt (ty (Y i))) (wt (dec (ty (Y i)))) := by
      show _ = key Y (tot size Y / 4) 0 + (wt (dec (ty (Y i))) + 256) - (wt (ty (Y i)) + 32)
      have w1 : wt 1 = 256 := rfl
      have w0 : wt 0 = 32 := rfl
      omega
    unfold chk1 at ck
    rw [rk_key o hq (by omega), show Nat.ble (tot List.length Y) (tot size Y) = true from ble_iff.2 lenY] at ck
    simp only [cond_true] at ck
    have ck' : (cond (Nat.ble (tot size Y) (tot List.length Y)) true (lim (tot size Y) (key Y (tot size Y / 4) 0)) && (limA (tot size Y) (key Y (tot size Y / 4) 0) 16384 256 && (limA (tot size Y) (key Y (tot size Y / 4) 0) 131072 256 && (limA (tot size Y) (key Y (tot size Y / 4) 0) 1048576 16384 && (limA (tot size Y) (key Y (tot size Y / 4) 0) 8388608 16384 && limA (tot size Y) (key Y (tot size Y / 4) 0) 67108864 1048576))))) = true := ck
    simp only [Bool.and_eq_true] at ck'
    obtain ⟨_, k3, k4, k5, k6, k7⟩ := ck'
    have p0 : 0 < dg 32 (key Y (tot size Y / 4) 0) := by
      rw [dg_0 hq (by omega)]
      have := tot_get (f := ind 0) (S := Y) hj
      rw [ej, ind_nil] at this
      show 0 < tot (ind 0) Y; omega
    have pa : 0 < dg (wt (ty (Y i))) (key Y (tot size Y / 4) 0) := by
      rw [dg_wt hq (by omega) (ty_lt _)]
      have := tot_get (f := ind (ty (Y i))) (S := Y) hi
      have e1 : ind (ty (Y i)) (Y i) = 1 := if_pos rfl
      show 0 < tot (ind (ty (Y i))) Y; omega
    have lz : lim (tot size Y) (key Z (tot size Y / 4) 0) = true := by
      rw [kk]
      rcases t3 with t | t | t | t | t <;> rw [t] at pa ⊢
      · exact limA_get k3 p0 pa
      · exact limA_get k4 p0 pa
      · exact limA_get k5 p0 pa
      · exact limA_get k6 p0 pa
      · exact limA_get k7 p0 pa
    exact lim_lt lz (Nat.le_trans b (Nat.mul_le_mul_right _ hH))
  | M c n p A B ei ej h1 h2 eZ =>
    refine fromZ ?_
    have l := tot_pour (φ := List.length) (Y := Y) (s := A) (t := (c, p + n) :: B) hi hj hij
    rw [ei, ej, ← eZ] at l
    simp only [List.length_cons] at l
    omega
  | P c n p t A B ei ej hs2 h1 h2 eZ =>
    refine fromZ ?_
    have l := tot_pour (φ := List.length) (Y := Y) (s := (c, n) :: A) (t := (c, p + t) :: B) hi hj hij
    rw [ei, ej, ← eZ] at l
    simp only [List.length_cons] at l
    have lt : tot List.length Y < tot size Y := by
      have x : tot (fun t => List.length t) Y + 1 ≤ tot size Y := by
        have y : (sum6 fun k => (Y k).length + if i = k then 1 else 0) ≤ sum6 fun k => size (Y k) := by
          refine sum6_le fun k hk => ?_
          by_cases hik : i = k
          · subst hik
            have g := o.ps i hi
            have := len_size (good_tail (r := (c, n + t)) (t := A) (by rw [← ei]; exact g))
            rw [ei]; simp only [List.length_cons, size, if_true]; omega
          · have := len_size (o.ps k hk)
            simp only [if_neg hik]; omega
        rw [sum6_add, sum6_point hi] at y
        exact y
      exact x
    omega
end Go.Proofs.YtgpafbbnobanbaaGreatDoor.Way
/- Ways of racks whose tubes are exchanged. -/
namespace Go.Proofs.YtgpafbbnobanbaaGreatDoor.Way
set_option linter.unusedSimpArgs false
set_option linter.unusedVariables false
def tr (a b k : Nat) : Nat := if k = a then b else if k = b then a else k
def swapR (X : Rack) (a b : Nat) : Rack := fun k => X (tr a b k)
theorem tr_tr (a b k : Nat) : tr a b (tr a b k) = k := by
  unfold tr
  by_cases h1 : k = a
  · subst h1; by_cases h2 : b = k
    · simp [h2]
    · simp [h2]
  · by_cases h2 : k = b
    · subst h2; simp [h1]
    · simp [h1, h2]
theorem tr_inj {a b i j : Nat} (h : tr a b i = tr a b j) : i = j := by
  have := congrArg (tr a b) h
  rwa [tr_tr, tr_tr] at this
theorem tr_lt {a b k : Nat} (ha : a < 6) (hb : b < 6) (hk : k < 6) : tr a b k < 6 := by
  unfold tr; split
  · exact hb
  · split
    · exact ha
    · exact hk
theorem upd_tr {X : Rack} {a b i : Nat} {t : Tube} : upd (swapR X a b) i t = swapR (upd X (tr a b i) t) a b := by
  funext k
  simp only [upd, swapR]
  by_cases h : k = i
  · subst h; simp
  · rw [if_neg h, if_neg fun e => h (tr_inj e)]
theorem pour_tr {X : Rack} {a b i j : Nat} : pourR (swapR X a b) i j = (pourR X (tr a b i) (tr a b j)).map fun Y => swapR Y a b := by
  have key : ∀ s t, upd (upd (swapR X a b) i s) j t = swapR (upd (upd X (tr a b i) s) (tr a b j) t) a b := by
    intro s t; rw [upd_tr, upd_tr]
  unfold pourR
  by_cases h : i = j
  · subst h; simp
  · rw [if_neg h, if_neg fun e => h (tr_inj e)]
    show (match X (tr a b i) with
      | [] => none
      | (c, n) :: A => _) = _
    cases ei : X (tr a b i) with
    | nil => rfl
    | cons x A =>
      obtain ⟨c, n⟩ := x
      simp only
      show (match X (tr a b j) with
        | [] => _
        | (d, p) :: B => _) = _
      have sj : swapR X a b j = X (tr a b j) := rfl
      cases ej : X (tr a b j) with
      | nil => by_cases hA : A = [] <;> simp [hA, key]
      | cons y B =>
        obtain ⟨d, p⟩ := y
        simp only [sj, ej]
        by_cases h1 : c = d ∧ p + size B < 4
        · by_cases h2 : p + size B + n ≤ 4 <;> simp [size, h1, h2, key]
        · simp only [size, if_neg h1, Option.map_none]
theorem sum6_tr {a b : Nat} (ha : a < 6) (hb : b < 6) (f : Nat → Nat) : (sum6 fun i => f (tr a b i)) = sum6 f := by
  rcases six ha with rfl | rfl | rfl | rfl | rfl | rfl <;> rcases six hb with rfl | rfl | rfl | rfl | rfl | rfl <;> simp [sum6, tr] <;> omega
theorem sorted_iff (X : Rack) : sortedB X = true ↔ ∀ i, i < 6 → (X i).length ≤ 1 ∧ ∀ j, j < 6 → i = j ∨ (match X i, X j with | (c, _) :: _, (d, _) :: _ => decide (c ≠ d) | _, _ => true) = true := by
  simp only [sortedB, List.all_eq_true, List.mem_range, Bool.and_eq_true, Bool.or_eq_true, decide_eq_true_eq]
  exact Iff.rfl
theorem sorted_tr {X : Rack} {a b : Nat} (ha : a < 6) (hb : b < 6) : sortedB (swapR X a b) = sortedB X := by
  have one : ∀ X : Rack, sortedB X = true → sortedB (swapR X a b) = true := by
    intro X h
    rw [sorted_iff] at h ⊢
    intro i hi
    obtain ⟨h1, h2⟩ := h _ (tr_lt ha hb hi)
    refine ⟨h1, fun j hj => ?_⟩
    rcases h2 _ (tr_lt ha hb hj) with h3 | h3
    · exact .inl (tr_inj h3)
    · exact .inr h3
  have back : swapR (swapR X a b) a b = X := by funext k; simp only [swapR, tr_tr]
  cases h : sortedB X with
  | true => exact one X h
  | false =>
    cases h2 : sortedB (swapR X a b) with
    | false => rfl
    | true =>
      have := one _ h2
      rw [back, h] at this
      cases this
theorem K_tr {a b : Nat} (ha : a < 6) (hb : b < 6) : ∀ (m : Nat) (X : Rack), K m (swapR X a b) = K m X
  | 0, X => by simp only [K, sorted_tr ha hb]
  | m + 1, X => by
    have e : ∀ i j, xx m (swapR X a b) i j = xx m X (tr a b i) (tr a b j) := by
      intro i j
      unfold xx
      rw [pour_tr]
      cases pourR X (tr a b i) (tr a b j) with
      | none => rfl
      | some Y => exact K_tr ha hb m Y
    show (sum6 fun i => sum6 fun j => xx m (swapR X a b) i j) = sum6 fun i => sum6 fun j => xx m X i j
    simp only [e]
    rw [sum6_tr ha hb fun i => sum6 fun j => xx m X i (tr a b j)]
    exact sum6_congr fun i _ => sum6_tr ha hb fun j => xx m X i j
end Go.Proofs.YtgpafbbnobanbaaGreatDoor.Way
/- A search by levels, told by its kids alone: levels are distances, counts are numbers of ways, a first way goes on. -/
namespace Go.Proofs.YtgpafbbnobanbaaGreatDoor.Way
set_option linter.unusedSimpArgs false
set_option linter.unusedVariables false
set_option linter.unusedSectionVars false
/-- What is searched: states with their racks, and what is behind their pours. -/
structure Srch (α : Type) where
  abs : α → Rack
  kids : α → List α
  norm : α → α
  good : α → Prop
  fin : α → Bool
  kid_good : ∀ r, good r → ∀ c, c ∈ kids r → good c
  sum : ∀ r, good r → ∀ m, K (m + 1) (abs r) = ((kids r).map fun c => K m (abs c)).sum
  fin_eq : ∀ r, good r → fin r = sortedB (abs r)
  norm_good : ∀ r, good r → good (norm r)
  norm_K : ∀ r, good r → ∀ m, K m (abs (norm r)) = K m (abs r)
  norm_kids : ∀ r, good r → ∀ c, c ∈ kids r → c ∈ kids (norm r)
  small : ∀ r, good r → ∀ m, (∀ k, k ≤ m → K k (abs r) = 0) → ∀ c, c ∈ kids r → K m (abs c) < 2 ^ 64
variable {α : Type} [DecidableEq α] (S : Srch α)
abbrev Lv (α : Type) := List (α × Nat)
def knows (lv : Lv α) (c : α) : Bool := lv.any fun p => decide (p.1 = c)
def add (d : Nat) (s : Lv α × List α) (c : α) : Lv α × List α := if knows s.1 c then s else (s.1 ++ [(c, d)], s.2 ++ [c])
def addAll (d : Nat) (s : Lv α × List α) (cs : List α) : Lv α × List α := cs.foldl (add d) s
def expand (S : Srch α) (d : Nat) (s : Lv α × List α) (last : List α) : Lv α × List α := last.foldl (fun s r => addAll d s (S.kids r)) s
theorem knows_iff {lv : Lv α} {c : α} : knows lv c = true ↔ ∃ l, (c, l) ∈ lv := by
  simp only [knows, List.any_eq_true, decide_eq_true_eq]
  constructor
  · rintro ⟨⟨a, l⟩, h, rfl⟩; exact ⟨l, h⟩
  · rintro ⟨l, h⟩; exact ⟨(c, l), h, rfl⟩
theorem sum_zero_of : ∀ {l : List Nat}, l.sum = 0 → ∀ x, x ∈ l → x = 0
  | [], _, x, h => by cases h
  | a :: l, hs, x, h => by
    simp only [List.sum_cons] at hs
    rcases List.mem_cons.1 h with rfl | h
    · omega
    · exact sum_zero_of (by omega) x h
theorem sum_pos_of : ∀ {l : List Nat}, 0 < l.sum → ∃ x, x ∈ l ∧ 0 < x
  | [], h => by simp at h
  | a :: l, h => by
    simp only [List.sum_cons] at h
    rcases Nat.eq_zero_or_pos a with h0 | h0
    · obtain ⟨x, hx, h2⟩ := sum_pos_of (l := l) (by omega)
      exact ⟨x, List.mem_cons_of_mem _ hx, h2⟩
    · exact ⟨a, List.mem_cons_self .., h0⟩
/-- The state of a search at a depth: levels, the last forms; pend: those of the last forms that have not been looked at. -/
structure Inv (root : α) (lv : Lv α) (last : List α) (d : Nat) : Prop where
  rt : (root, 0) ∈ lv
  ok : ∀ f l, (f, l) ∈ lv → S.good f ∧ l ≤ d ∧ ∀ m, 0 < K m (S.abs f) → 0 < K (l + m) (S.abs root)
  kd : ∀ f l, (f, l) ∈ lv → l < d → ∀ c, c ∈ S.kids f → ∃ l', l' ≤ l + 1 ∧ (c, l') ∈ lv
  la : ∀ f, f ∈ last ↔ (f, d) ∈ lv
  ns : ∀ f l, (f, l) ∈ lv → l < d → S.fin f = false
  nd : (lv.map (·.1)).Nodup
theorem one_level {lv : Lv α} (h : (lv.map (·.1)).Nodup) {f : α} {a b : Nat} (ha : (f, a) ∈ lv) (hb : (f, b) ∈ lv) : a = b := by
  induction lv with
  | nil => cases ha
  | cons x lv ih =>
    simp only [List.map_cons, List.nodup_cons] at h
    rcases List.mem_cons.1 ha with ea | ha' <;> rcases List.mem_cons.1 hb with eb | hb'
    · rw [← ea] at eb; injection eb with _ e; exact e.symm
    · exact (h.1 (List.mem_map.2 ⟨(f, b), hb', by rw [← ea]⟩)).elim
    · exact (h.1 (List.mem_map.2 ⟨(f, a), ha', by rw [← eb]⟩)).elim
    · exact ih h.2 ha' hb'
/-- While the last forms of depth d are looked at: what is known so far, of depth d + 1. -/
structure Mid (root : α) (lv0 : Lv α) (d : Nat) (lv : Lv α) (next : List α) : Prop where
  sub : ∀ p, p ∈ lv0 → p ∈ lv
  nw : ∀ f l, (f, l) ∈ lv → (f, l) ∈ lv0 ∨ (l = d + 1 ∧ f ∈ next)
  nx : ∀ f, f ∈ next → (f, d + 1) ∈ lv
  ok : ∀ f l, (f, l) ∈ lv → S.good f ∧ l ≤ d + 1 ∧ ∀ m, 0 < K m (S.abs f) → 0 < K (l + m) (S.abs root)
  nd : (lv.map (·.1)).Nodup
theorem mid_add {root : α} {lv0 lv : Lv α} {d : Nat} {next : List α} {r c : α} (h : Mid S root lv0 d lv next) (hr : (r, d) ∈ lv0) (gr : S.good r) (hc : c ∈ S.kids r) (rr : ∀ m, 0 < K m (S.abs r) → 0 < K (d + m) (S.abs root)) : Mid S root lv0 d (add (d + 1) (lv, next) c).1 (add (d + 1) (lv, next) c).2 ∧ ∃ l, (c, l) ∈ (add (d + 1) (lv, next) c).1 := by
  unfold add
  by_cases k : knows lv c = true
  · rw [if_pos k]; exact ⟨h, knows_iff.1 k⟩
  · rw [if_neg k]
    have gc := S.kid_good r gr c hc
    refine ⟨⟨fun p hp => List.mem_append_left _ (h.sub p hp), fun f l hf => ?_, fun f hf => ?_, fun f l hf => ?_, ?_⟩, d + 1, by simp⟩
    · rcases List.mem_append.1 hf with hf | hf
      · rcases h.nw f l hf with h1 | ⟨h1, h2⟩
        · exact .inl h1
        · exact .inr ⟨h1, List.mem_append_left _ h2⟩
      · simp only [List.mem_singleton, Prod.mk.injEq] at hf
        exact .inr ⟨hf.2, by rw [hf.1]; simp⟩
    · rcases List.mem_append.1 hf with hf | hf
      · exact List.mem_append_left _ (h.nx f hf)
      · simp only [List.mem_singleton] at hf
        subst hf; simp
    · rcases List.mem_append.1 hf with hf | hf
      · exact h.ok f l hf
      · simp only [List.mem_singleton, Prod.mk.injEq] at hf
        obtain ⟨rfl, rfl⟩ := hf
        refine ⟨gc, Nat.le_refl _, fun m hm => ?_⟩
        have : 0 < K (m + 1) (S.abs r) := by
          rw [S.sum r gr m]
          rcases Nat.eq_zero_or_pos ((S.kids r).map fun c => K m (S.abs c)).sum with h0 | h0
          · have := sum_zero_of h0 _ (List.mem_map.2 ⟨f, hc, rfl⟩)
            omega
          · exact h0
        have := rr (m + 1) this
        rw [show d + 1 + m = d + (m + 1) by omega]
        exact this
    · rw [List.map_append, List.nodup_append]
      refine ⟨h.nd, by simp, fun a ha b hb => ?_⟩
      simp only [List.map_cons, List.map_nil, List.mem_singleton] at hb
      subst hb
      rintro rfl
      obtain ⟨p, hp, rfl⟩ := List.mem_map.1 ha
      exact k (knows_iff.2 ⟨p.2, hp⟩)
theorem mid_addAll {root : α} {lv0 : Lv α} {d : Nat} {r : α} (hr : (r, d) ∈ lv0) (gr : S.good r) (rr : ∀ m, 0 < K m (S.abs r) → 0 < K (d + m) (S.abs root)) : ∀ (cs : List α) (lv : Lv α) (next : List α), (∀ c, c ∈ cs → c ∈ S.kids r) → Mid S root lv0 d lv next → Mid S root lv0 d (addAll (d + 1) (lv, next) cs).1 (addAll (d + 1) (lv, next) cs).2 ∧ (∀ p, p ∈ lv → p ∈ (addAll (d + 1) (lv, next) cs).1) ∧ ∀ c, c ∈ cs → ∃ l, (c, l) ∈ (addAll (d + 1) (lv, next) cs).1
  | [], lv, next, _, h => ⟨h, fun p hp => hp, fun c hc => by cases hc⟩
  | c :: cs, lv, next, hk, h => by
    obtain ⟨h1, l, hl⟩ := mid_add S h hr gr (hk c (List.mem_cons_self ..)) rr
    obtain ⟨h2, h3, h4⟩ := mid_addAll hr gr rr cs _ _ (fun x hx => hk x (List.mem_cons_of_mem _ hx)) h1
    have sub : ∀ p, p ∈ lv → p ∈ (add (d + 1) (lv, next) c).1 := by
      intro p hp
      unfold add; split
      · exact hp
      · exact List.mem_append_left _ hp
    refine ⟨h2, fun p hp => h3 p (sub p hp), fun x hx => ?_⟩
    rcases List.mem_cons.1 hx with rfl | hx
    · exact ⟨l, h3 _ hl⟩
    · exact h4 x hx
theorem mid_expand {root : α} {lv0 : Lv α} {d : Nat} : ∀ (rs : List α) (lv : Lv α) (next : List α), (∀ r, r ∈ rs → (r, d) ∈ lv0 ∧ S.good r ∧ ∀ m, 0 < K m (S.abs r) → 0 < K (d + m) (S.abs root)) → Mid S root lv0 d lv next → Mid S root lv0 d (expand S (d + 1) (lv, next) rs).1 (expand S (d + 1) (lv, next) rs).2 ∧ (∀ p, p ∈ lv → p ∈ (expand S (d + 1) (lv, next) rs).1) ∧ ∀ r, r ∈ rs → ∀ c, c ∈ S.kids r → ∃ l, (c, l) ∈ (expand S (d + 1) (lv, next) rs).1
  | [], lv, next, _, h => ⟨h, fun p hp => hp, fun c hc => by cases hc⟩
  | r :: rs, lv, next, hk, h => by
    obtain ⟨a1, a2, a3⟩ := hk r (List.mem_cons_self ..)
    obtain ⟨h1, h2, h3⟩ := mid_addAll S a1 a2 a3 (S.kids r) lv next (fun c hc => hc) h
    obtain ⟨h4, h5, h6⟩ := mid_expand rs _ _ (fun x hx => hk x (List.mem_cons_of_mem _ hx)) h1
    refine ⟨h4, fun p hp => h5 p (h2 p hp), fun x hx c hc => ?_⟩
    rcases List.mem_cons.1 hx with rfl | hx
    · obtain ⟨l, hl⟩ := h3 c hc
      exact ⟨l, h5 _ hl⟩
    · exact h6 x hx c hc
theorem inv_step {root : α} {lv : Lv α} {last : List α} {d : Nat} (h : Inv S root lv last d) (hn : ∀ f, f ∈ last → S.fin f = false) : Inv S root (expand S (d + 1) (lv, []) last).1 (expand S (d + 1) (lv, []) last).2 (d + 1) := by
  have m0 : Mid S root lv d lv [] := ⟨fun p hp => hp, fun f l hf => .inl hf, fun f hf => (by cases hf), fun f l hf => ⟨(h.ok f l hf).1, by have := (h.ok f l hf).2.1; omega, (h.ok f l hf).2.2⟩, h.nd⟩
  obtain ⟨m1, m2, m3⟩ := mid_expand S last lv [] (fun r hr => ⟨(h.la r).1 hr, (h.ok r d ((h.la r).1 hr)).1, (h.ok r d ((h.la r).1 hr)).2.2⟩) m0
  refine ⟨m2 _ h.rt, m1.ok, fun f l hf hl c hc => ?_, fun f => ⟨m1.nx f, fun hf => ?_⟩, fun f l hf hl => ?_, m1.nd⟩
  · rcases m1.nw f l hf with h1 | ⟨h1, _⟩
    · rcases Nat.lt_or_ge l d with h2 | h2
      · obtain ⟨l', h3, h4⟩ := h.kd f l h1 h2 c hc
        exact ⟨l', h3, m2 _ h4⟩
      · have : l = d := by omega
        subst this
        obtain ⟨l', hl'⟩ := m3 f ((h.la f).2 h1) c hc
        exact ⟨l', (m1.ok c l' hl').2.1, hl'⟩
    · omega
  · rcases m1.nw f (d + 1) hf with h1 | ⟨_, h1⟩
    · have := (h.ok f _ h1).2.1; omega
    · exact h1
  · rcases m1.nw f l hf with h1 | ⟨h1, _⟩
    · rcases Nat.lt_or_ge l d with h2 | h2
      · exact h.ns f l h1 h2
      · have : l = d := by omega
        subst this
        exact hn f ((h.la f).2 h1)
    · omega
theorem inv_start {root : α} (g : S.good root) : Inv S root [(root, 0)] [root] 0 := by
  refine ⟨by simp, fun f l hf => ?_, fun f l hf hl => by omega, fun f => by simp, fun f l hf hl => by omega, by simp⟩
  simp only [List.mem_singleton, Prod.mk.injEq] at hf
  obtain ⟨rfl, rfl⟩ := hf
  exact ⟨g, Nat.le_refl _, fun m hm => by rw [Nat.zero_add]; exact hm⟩
/-- No shorter way than by levels. -/
theorem inv_far {root : α} {lv : Lv α} {last : List α} {d : Nat} (h : Inv S root lv last d) : ∀ (k : Nat) (f : α) (l : Nat), (f, l) ∈ lv → l + k < d → K k (S.abs f) = 0
  | 0, f, l, hf, hl => by
    have g := (h.ok f l hf).1
    have := h.ns f l hf (by omega)
    rw [S.fin_eq f g] at this
    simp [K, this]
  | k + 1, f, l, hf, hl => by
    have g := (h.ok f l hf).1
    rw [S.sum f g k]
    rcases Nat.eq_zero_or_pos ((S.kids f).map fun c => K k (S.abs c)).sum with h0 | h0
    · exact h0
    · obtain ⟨x, hx, hp⟩ := sum_pos_of h0
      obtain ⟨c, hc, rfl⟩ := List.mem_map.1 hx
      obtain ⟨l', h1, h2⟩ := h.kd f l hf (by omega) c hc
      have := inv_far h k c l' h2 (by omega)
      omega
/-- What count tells: the number of ways that are left, for a form of the level. -/
def cntL (lv : Lv α) (d : Nat) (c : α) (n : Nat) : Nat := if (c, n) ∈ lv then K (d - n) (S.abs c) else 0
theorem cnt_kid {root : α} {lv : Lv α} {last : List α} {d : Nat} (h : Inv S root lv last d) {f : α} {n : Nat} (hf : (f, n) ∈ lv) (hn : n < d) {c : α} (hc : c ∈ S.kids f) : cntL S lv d c (n + 1) = K (d - (n + 1)) (S.abs c) := by
  unfold cntL
  obtain ⟨l', h1, h2⟩ := h.kd f n hf hn c hc
  by_cases e : l' = n + 1
  · subst e; rw [if_pos h2]
  · have : (c, n + 1) ∉ lv := fun h3 => e (one_level h.nd h2 h3)
    rw [if_neg this, inv_far S h (d - (n + 1)) c l' h2 (by omega)]
theorem cnt_sum {root : α} {lv : Lv α} {last : List α} {d : Nat} (h : Inv S root lv last d) {f : α} {n : Nat} (hf : (f, n) ∈ lv) (hn : n < d) : cntL S lv d f n = ((S.kids f).map fun c => cntL S lv d c (n + 1)).sum := by
  have g := (h.ok f n hf).1
  have e : cntL S lv d f n = K (d - (n + 1) + 1) (S.abs f) := by
    unfold cntL; rw [if_pos hf, show d - (n + 1) + 1 = d - n by omega]
  rw [e, S.sum f g]
  congr 1
  refine List.map_congr_left fun c hc => ?_
  exact (cnt_kid S h hf hn hc).symm
/-- A state (not a form itself) whose form is at a level goes on, if its number is not 0 for 64 bits. -/
theorem best_some {root : α} {lv : Lv α} {last : List α} {d : Nat} (h : Inv S root lv last d) {r : α} {n : Nat} (gr : S.good r) (hf : (S.norm r, n) ∈ lv) (hn : n < d) (hK : K (d - n) (S.abs r) % 2 ^ 64 ≠ 0) : ∃ c, c ∈ S.kids r ∧ cntL S lv d c (n + 1) % 2 ^ 64 ≠ 0 ∧ (c, n + 1) ∈ lv := by
  have e : K (d - n) (S.abs r) = ((S.kids r).map fun c => cntL S lv d c (n + 1)).sum := by
    rw [show d - n = d - (n + 1) + 1 by omega, S.sum r gr]
    congr 1
    refine List.map_congr_left fun c hc => ?_
    exact (cnt_kid S h hf hn (S.norm_kids r gr c hc)).symm
  have key : ∀ (l : List α), ((l.map fun c => cntL S lv d c (n + 1)).sum) % 2 ^ 64 ≠ 0 → ∃ c, c ∈ l ∧ cntL S lv d c (n + 1) % 2 ^ 64 ≠ 0 := by
    intro l
    induction l with
    | nil => intro h; simp at h
    | cons a l ih =>
      intro h
      by_cases h0 : cntL S lv d a (n + 1) % 2 ^ 64 = 0
      · simp only [List.map_cons, List.sum_cons] at h
        rw [Nat.add_mod, h0, Nat.zero_add, Nat.mod_mod] at h
        obtain ⟨c, hc, h2⟩ := ih h
        exact ⟨c, List.mem_cons_of_mem _ hc, h2⟩
      · exact ⟨a, List.mem_cons_self .., h0⟩
  rw [e] at hK
  obtain ⟨c, hc, h2⟩ := key _ hK
  refine ⟨c, hc, h2, ?_⟩
  unfold cntL at h2
  split at h2
  · assumption
  · simp at h2
/-- From the start there is a pour behind which the number is not 0 for 64 bits. -/
theorem best_first {root : α} {lv : Lv α} {last : List α} {d : Nat} (h : Inv S root lv last d) {r : α} (gr : S.good r) (e : S.norm r = root) (hd : 0 < d) {f : α} (hf : f ∈ last) (hs : S.fin f = true) : ∃ c, c ∈ S.kids r ∧ cntL S lv d c 1 % 2 ^ 64 ≠ 0 ∧ (c, 1) ∈ lv := by
  have h1 := h.ok f d ((h.la f).1 hf)
  have hK : 0 < K d (S.abs root) := by
    have := h1.2.2 0 (by
      have := S.fin_eq f h1.1
      rw [hs] at this
      simp [K, ← this])
    rw [Nat.add_zero] at this
    exact this
  have hKr : ∀ m, K m (S.abs r) = K m (S.abs root) := fun m => by rw [← e, S.norm_K r gr]
  rw [← hKr, show d = d - 1 + 1 by omega, S.sum r gr] at hK
  obtain ⟨x, hx, hp⟩ := sum_pos_of hK
  obtain ⟨c, hc, rfl⟩ := List.mem_map.1 hx
  have far : ∀ k, k ≤ d - 1 → K k (S.abs r) = 0 := fun k hk => by
    rw [hKr]; exact inv_far S h k root 0 h.rt (by omega)
  have sm := S.small r gr (d - 1) far c hc
  have hc2 : c ∈ S.kids root := by rw [← e]; exact S.norm_kids r gr c hc
  have ck := cnt_kid S h h.rt hd hc2
  refine ⟨c, hc, ?_, ?_⟩
  · rw [show (1 : Nat) = 0 + 1 from rfl, ck, Nat.mod_eq_of_lt (by simpa using sm)]
    simpa using Nat.pos_iff_ne_zero.1 hp
  · have hp' : 0 < cntL S lv d c (0 + 1) := by rw [ck]; simpa using hp
    unfold cntL at hp'
    split at hp'
    · assumption
    · omega
end Go.Proofs.YtgpafbbnobanbaaGreatDoor.Way
/- Racks of cells and racks of runs: a pour is a pour, sorted is sorted. Plain laws. -/
namespace Go.Proofs.YtgpafbbnobanbaaGreatDoor.AM
open Go
set_option maxRecDepth 1000000
set_option linter.unusedSimpArgs false
set_option linter.unusedVariables false
def absT (t : List Int) : Way.Tube := ((runsOf t).map fun p => (p.1.toNat, p.2.toNat)).reverse
def absR (r : List Int) : Way.Rack := fun k => absT (tubeAt r k)
def lkTop (t : List Int) : Bool := match absT t with
  | [] => decide (layN t = 0) && decide ((topOf t).1 = 0) && decide ((runsOf t).length = 0)
  | (c, n) :: A => decide ((topOf t).1 = (c : Int)) && decide ((topOf t).2 = (n : Int)) && decide (Way.size ((c, n) :: A) = layN t) && decide (layN t ≤ 4) && (((c, n) :: A).all fun p => decide (1 ≤ p.2) && decide (1 ≤ p.1) && decide (p.1 ≤ 5)) && decide ((runsOf t).length = A.length + 1)
theorem lkTop_all : allT lkTop = true := by kernel_rfl
def lkTake (t : List Int) : Bool := match absT t with
  | [] => true
  | (c, n) :: A => (List.range 5).all fun m => decide (m = 0) || decide (n < m) || decide (absT (takeGo (layN t) m t) = if m = n then A else (c, n - m) :: A)
theorem lkTake_all : allT lkTake = true := by kernel_rfl
def lkPut (t : List Int) : Bool := (List.range 5).all fun m => decide (m = 0) || decide (4 - layN t < m) || ([1, 2, 3, 4, 5] : List Nat).all fun c => match absT t with
  | [] => decide (absT (putGo (layN t) (c : Int) m t) = [(c, m)])
  | (d, p) :: B => !(decide (d = c)) || decide (absT (putGo (layN t) (c : Int) m t) = (c, p + m) :: B)
theorem lkPut_all : allT lkPut = true := by kernel_rfl
theorem absT_nil {r : List Int} (h : RackOK r) {i : Nat} (hi : i < 6) (e : absT (tubeAt r i) = []) : layN (tubeAt r i) = 0 ∧ (topOf (tubeAt r i)).1 = 0 ∧ (runsOf (tubeAt r i)).length = 0 := by
  have f := tubes_all lkTop_all (h.t4 hi) (h.tv hi)
  unfold lkTop at f
  rw [e] at f
  simp only [Bool.and_eq_true, decide_eq_true_eq] at f
  exact ⟨f.1.1, f.1.2, f.2⟩
structure TopAt (t : List Int) (c n : Nat) (A : Way.Tube) : Prop where
  tc : (topOf t).1 = (c : Int)
  tn : (topOf t).2 = (n : Int)
  l : Way.size ((c, n) :: A) = layN t
  l4 : layN t ≤ 4
  g : Way.good ((c, n) :: A)
  k : (runsOf t).length = A.length + 1
theorem absT_cons {r : List Int} (h : RackOK r) {i : Nat} (hi : i < 6) {c n : Nat} {A : Way.Tube} (e : absT (tubeAt r i) = (c, n) :: A) : TopAt (tubeAt r i) c n A := by
  have f := tubes_all lkTop_all (h.t4 hi) (h.tv hi)
  unfold lkTop at f
  rw [e] at f
  simp only [Bool.and_eq_true, decide_eq_true_eq] at f
  obtain ⟨⟨⟨⟨⟨a, b⟩, c⟩, d⟩, g⟩, k⟩ := f
  refine ⟨a, b, c, d, fun x hx => ?_, k⟩
  have := List.all_eq_true.1 g x hx
  simp only [Bool.and_eq_true, decide_eq_true_eq] at this
  exact ⟨this.1.1, this.1.2, this.2⟩
theorem absT_take {r : List Int} (h : RackOK r) {i : Nat} (hi : i < 6) {c n : Nat} {A : Way.Tube} (e : absT (tubeAt r i) = (c, n) :: A) {m : Nat} (h1 : 1 ≤ m) (h2 : m ≤ n) : absT (takeGo (layN (tubeAt r i)) m (tubeAt r i)) = if m = n then A else (c, n - m) :: A := by
  have t := absT_cons h hi e
  have f := tubes_all lkTake_all (h.t4 hi) (h.tv hi)
  unfold lkTake at f
  rw [e] at f
  have hn : n ≤ 4 := by have a := t.l; have b := t.l4; simp only [Way.size] at a; omega
  have := List.all_eq_true.1 f m (List.mem_range.2 (by omega))
  simp only [Bool.or_eq_true, decide_eq_true_eq] at this
  rcases this with (h3 | h3) | h3
  · omega
  · omega
  · exact h3
theorem absT_put {r : List Int} (h : RackOK r) {i : Nat} (hi : i < 6) {c m : Nat} (hc : 1 ≤ c ∧ c ≤ 5) (h1 : 1 ≤ m) (h2 : layN (tubeAt r i) + m ≤ 4) : (absT (tubeAt r i) = [] → absT (putGo (layN (tubeAt r i)) (c : Int) m (tubeAt r i)) = [(c, m)]) ∧ ∀ p B, absT (tubeAt r i) = (c, p) :: B → absT (putGo (layN (tubeAt r i)) (c : Int) m (tubeAt r i)) = (c, p + m) :: B := by
  have f := tubes_all lkPut_all (h.t4 hi) (h.tv hi)
  unfold lkPut at f
  have := List.all_eq_true.1 f m (List.mem_range.2 (by omega))
  simp only [Bool.or_eq_true, decide_eq_true_eq] at this
  have g : (([1, 2, 3, 4, 5] : List Nat).all fun c => match absT (tubeAt r i) with
      | [] => decide (absT (putGo (layN (tubeAt r i)) (c : Int) m (tubeAt r i)) = [(c, m)])
      | (d, p) :: B => !(decide (d = c)) || decide (absT (putGo (layN (tubeAt r i)) (c : Int) m (tubeAt r i)) = (c, p + m) :: B)) = true := by
    rcases this with (h3 | h3) | h3
    · omega
    · omega
    · exact h3
  have hcm : c ∈ ([1, 2, 3, 4, 5] : List Nat) := by
    have : c = 1 ∨ c = 2 ∨ c = 3 ∨ c = 4 ∨ c = 5 := by omega
    rcases this with e | e | e | e | e <;> rw [e] <;> simp
  have k := List.all_eq_true.1 g c hcm
  refine ⟨fun e => ?_, fun p B e => ?_⟩
  · rw [e] at k; simpa using k
  · rw [e] at k; simpa using k
/-- Behind a pour: the two tubes. -/
theorem pour_tubes {r : List Int} (h : RackOK r) {i j : Nat} (hi : i < 6) (hj : j < 6) (hij : i ≠ j) (k : Nat) : tubeAt (pourR r i j) k = if k = i then takeGo (layN (tubeAt r i)) (pourN r i j) (tubeAt r i) else if k = j then putGo (layN (tubeAt r j)) (topOf (tubeAt r i)).1 (pourN r i j) (tubeAt r j) else tubeAt r k := by
  have oi := h.top hi
  have hni : pourN r i j ≤ layN (tubeAt r i) := by have := oi.nl; unfold pourN; omega
  have n3 : layN (tubeAt r j) + pourN r i j ≤ 4 := by
    have := (h.top hj).l4
    unfold pourN; omega
  unfold pourR
  exact tube_pourGo hij oi.l4 (pourN r i j) r hni n3 k
def usable (r : List Int) (i j : Nat) : Bool := canP r i j && !idleP r i j
/-- A pour of cells is a pour of runs. -/
theorem link_pour {r : List Int} (h : RackOK r) {i j : Nat} (hi : i < 6) (hj : j < 6) : Way.pourR (absR r) i j = if usable r i j = true then some (absR (pourR r i j)) else none := by
  by_cases hij : i = j
  · subst hij
    simp [usable, canP, Way.pourR]
  have upd2 : ∀ s t, (∀ k, absT (tubeAt (pourR r i j) k) = if k = i then s else if k = j then t else absT (tubeAt r k)) → absR (pourR r i j) = Way.upd (Way.upd (absR r) i s) j t := by
    intro s t hk
    funext k
    show absT (tubeAt (pourR r i j) k) = _
    rw [hk k]
    simp only [Way.upd, absR]
    by_cases a : k = i
    · subst a; simp [hij]
    · by_cases b : k = j
      · subst b; simp [a]
      · simp [a, b]
  cases ei : absT (tubeAt r i) with
  | nil =>
    obtain ⟨_, e2, _⟩ := absT_nil h hi ei
    have : usable r i j = false := by simp [usable, canP, e2]
    rw [this]
    have ei' : absR r i = [] := ei
    unfold Way.pourR
    rw [if_neg hij, ei']
    rfl
  | cons x A =>
    obtain ⟨c, n⟩ := x
    have ti := absT_cons h hi ei
    have ei' : absR r i = (c, n) :: A := ei
    have gc := ti.g (c, n) (List.mem_cons_self ..)
    have gc1 : 1 ≤ n := gc.1
    have gc2 : 1 ≤ c ∧ c ≤ 5 := gc.2
    have hsz : n + Way.size A = layN (tubeAt r i) := ti.l
    have l4 := ti.l4
    have top0 : (0 : Int) < (topOf (tubeAt r i)).1 := by rw [ti.tc]; omega
    cases ej : absT (tubeAt r j) with
    | nil =>
      obtain ⟨j1, j2, j3⟩ := absT_nil h hj ej
      have ej' : absR r j = [] := ej
      have can : canP r i j = true := by simp [canP, hij, top0, j1, j2]
      by_cases hA : A = []
      · have : usable r i j = false := by simp [usable, can, idleP, ti.k, hA, j1]
        rw [this]
        unfold Way.pourR
        rw [if_neg hij, ei', ej']
        simp [hA]
      · have hA1 : 1 ≤ Way.size A := by
          have := Way.len_size (Way.good_tail ti.g)
          have : A.length ≠ 0 := fun e => hA (List.length_eq_zero_iff.1 e)
          omega
        have : usable r i j = true := by
          have : A.length ≠ 0 := fun e => hA (List.length_eq_zero_iff.1 e)
          simp [usable, can, idleP, ti.k, this]
        rw [this, if_pos rfl, Way.pour_E hij ei' ej' hA]
        have hN : pourN r i j = n := by unfold pourN; rw [ti.tn, j1]; omega
        congr 1
        symm
        refine upd2 _ _ fun k => ?_
        rw [pour_tubes h hi hj hij k, hN]
        by_cases a : k = i
        · rw [if_pos a, if_pos a, absT_take h hi ei gc1 (Nat.le_refl _), if_pos rfl]
        · rw [if_neg a, if_neg a]
          by_cases b : k = j
          · rw [if_pos b, if_pos b, ti.tc]
            exact (absT_put h hj gc2 gc1 (by omega)).1 ej
          · rw [if_neg b, if_neg b]
    | cons y B =>
      obtain ⟨d, p⟩ := y
      have tj := absT_cons h hj ej
      have ej' : absR r j = (d, p) :: B := ej
      have hszj : p + Way.size B = layN (tubeAt r j) := tj.l
      have gd := tj.g (d, p) (List.mem_cons_self ..)
      have gd1 : 1 ≤ p := gd.1
      have gd2 : 1 ≤ d := gd.2.1
      have lj0 : ¬ layN (tubeAt r j) = 0 := by omega
      by_cases hcd : c = d ∧ p + Way.size B < 4
      · obtain ⟨rfl, hlt⟩ := hcd
        have can : canP r i j = true := by
          have : layN (tubeAt r j) < 4 := by omega
          simp [canP, hij, top0, this, ti.tc, tj.tc]; omega
        have : usable r i j = true := by simp [usable, can, idleP, lj0]
        rw [this, if_pos rfl]
        by_cases hfit : p + Way.size B + n ≤ 4
        · rw [Way.pour_M hij ei' ej' hlt hfit]
          have hN : pourN r i j = n := by unfold pourN; rw [ti.tn]; omega
          congr 1
          symm
          refine upd2 _ _ fun k => ?_
          rw [pour_tubes h hi hj hij k, hN]
          by_cases a : k = i
          · rw [if_pos a, if_pos a, absT_take h hi ei gc1 (Nat.le_refl _), if_pos rfl]
          · rw [if_neg a, if_neg a]
            by_cases b : k = j
            · rw [if_pos b, if_pos b, ti.tc]
              exact (absT_put h hj gc2 gc1 (by omega)).2 p B ej
            · rw [if_neg b, if_neg b]
        · rw [Way.pour_P hij ei' ej' hlt (by omega)]
          have hN : pourN r i j = 4 - (p + Way.size B) := by unfold pourN; rw [ti.tn]; omega
          congr 1
          symm
          refine upd2 _ _ fun k => ?_
          rw [pour_tubes h hi hj hij k, hN]
          by_cases a : k = i
          · rw [if_pos a, if_pos a, absT_take h hi ei (by omega) (by omega), if_neg (by omega)]
          · rw [if_neg a, if_neg a]
            by_cases b : k = j
            · rw [if_pos b, if_pos b, ti.tc]
              exact (absT_put h hj gc2 (by omega) (by omega)).2 p B ej
            · rw [if_neg b, if_neg b]
      · have : usable r i j = false := by
          have : canP r i j = false := by
            cases hcan : canP r i j with
            | false => rfl
            | true =>
              exfalso
              simp only [canP, Bool.and_eq_true, Bool.or_eq_true, Bool.not_eq_true', decide_eq_true_eq, decide_eq_false_iff_not, ti.tc, tj.tc] at hcan
              obtain ⟨⟨⟨_, _⟩, h3⟩, h4⟩ := hcan
              exact hcd ⟨by omega, by omega⟩
          simp [usable, this]
        rw [this]
        unfold Way.pourR
        rw [if_neg hij, ei', ej']
        simp only [if_neg hcd]
        rfl
end Go.Proofs.YtgpafbbnobanbaaGreatDoor.AM
/- The form of a rack: plain laws. -/
namespace Go.Proofs.YtgpafbbnobanbaaGreatDoor.AM
open Go
set_option maxRecDepth 1000000
set_option linter.unusedSimpArgs false
set_option linter.unusedVariables false
theorem tubeAt_get {r : List Int} {k x : Nat} (hx : x < 4) : (tubeAt r k)[x]? = r[k * 4 + x]? := by
  simp [tubeAt, List.getElem?_take, hx, List.getElem?_drop]
theorem tubeAt_layT {r t : List Int} (hr : r.length = 24) {i : Nat} (hi : i < 6) (ht : t.length = 4) (k : Nat) : tubeAt (layT r i t) k = if k = i then t else tubeAt r k := by
  have l1 : (r.take (i * 4)).length = i * 4 := by simp [hr]; omega
  have l2 : (r.take (i * 4) ++ t).length = i * 4 + 4 := by simp [hr, ht]; omega
  apply List.ext_getElem?
  intro x
  rcases Nat.lt_or_ge x 4 with hx | hx
  · rw [tubeAt_get hx]
    unfold layT
    by_cases hk : k = i
    · subst hk
      rw [if_pos rfl, List.getElem?_append_left (by rw [l2]; omega), List.getElem?_append_right (by rw [l1]; omega), l1]
      congr 1; omega
    · rw [if_neg hk, tubeAt_get hx]
      rcases Nat.lt_or_ge k i with h | h
      · rw [List.getElem?_append_left (by rw [l2]; omega), List.getElem?_append_left (by rw [l1]; omega), List.getElem?_take, if_pos (by omega)]
      · rw [List.getElem?_append_right (by rw [l2]; omega), l2, List.getElem?_drop]
        congr 1; omega
  · have e1 : (tubeAt (layT r i t) k).length ≤ 4 := by simp [tubeAt]; omega
    have e2 : (if k = i then t else tubeAt r k).length ≤ 4 := by
      split
      · omega
      · simp [tubeAt]; omega
    rw [List.getElem?_eq_none (by omega), List.getElem?_eq_none (by omega)]
theorem tubeAt_swapT {r : List Int} (hr : r.length = 24) {j : Nat} (hj : j + 1 < 6) (k : Nat) : tubeAt (swapT r j) k = tubeAt r (Way.tr j (j + 1) k) := by
  have q1 := tubeAt_len hr hj
  have q2 := tubeAt_len hr (i := j) (by omega)
  unfold swapT
  rw [tubeAt_layT (layT_len hr hj q2) (by omega) q1, tubeAt_layT hr hj q2]
  unfold Way.tr
  by_cases a : k = j
  · rw [if_pos a, if_pos a]
  · rw [if_neg a, if_neg a]
    by_cases b : k = j + 1
    · rw [if_pos b, if_pos b]
    · rw [if_neg b, if_neg b]
theorem swapT_ok {r : List Int} (h : RackOK r) {j : Nat} (hj : j + 1 < 6) : RackOK (swapT r j) :=
  ⟨swapT_len h.len hj, rackP_iff.2 fun k hk => by rw [tubeAt_swapT h.len hj]; exact h.tv (Way.tr_lt (by omega) hj hk)⟩
theorem absR_swapT {r : List Int} (hr : r.length = 24) {j : Nat} (hj : j + 1 < 6) : absR (swapT r j) = Way.swapR (absR r) j (j + 1) := by
  funext k
  show absT (tubeAt (swapT r j) k) = absT (tubeAt r (Way.tr j (j + 1) k))
  rw [tubeAt_swapT hr hj]
/-- What swaps of neighbours keep, the form keeps. -/
theorem form_keep {P : List Int → Prop} (hs : ∀ r, RackOK r → ∀ j, j + 1 < 6 → P r → P (swapT r j)) {r : List Int} (h : RackOK r) (hp : P r) : RackOK (formL r) ∧ P (formL r) := by
  have sink : ∀ (j : Nat) (r : List Int), j < 6 → RackOK r → P r → RackOK (sinkT j r) ∧ P (sinkT j r) := by
    intro j
    induction j with
    | zero => intro r _ h hp; exact ⟨h, hp⟩
    | succ j ih =>
      intro r hj h hp
      unfold sinkT; split
      · exact ih _ (by omega) (swapT_ok h hj) (hs r h j hj hp)
      · exact ⟨h, hp⟩
  have all : ∀ n, n ≤ 5 → RackOK (sortTo5 n r) ∧ P (sortTo5 n r) := by
    intro n
    induction n with
    | zero => intro _; exact ⟨h, hp⟩
    | succ n ih => intro hn; exact sink (n + 1) _ (by omega) (ih (by omega)).1 (ih (by omega)).2
  exact all 5 (Nat.le_refl _)
theorem formL_ok {r : List Int} (h : RackOK r) : RackOK (formL r) := (form_keep (P := fun _ => True) (fun _ _ _ _ _ => trivial) h trivial).1
theorem K_formL {r : List Int} (h : RackOK r) (m : Nat) : Way.K m (absR (formL r)) = Way.K m (absR r) :=
  (form_keep (P := fun x => Way.K m (absR x) = Way.K m (absR r)) (fun x hx j hj hp => by rw [absR_swapT hx.len hj, Way.K_tr (by omega) hj]; exact hp) h rfl).2
def tubesL (r : List Int) : List (List Int) := [tubeAt r 0, tubeAt r 1, tubeAt r 2, tubeAt r 3, tubeAt r 4, tubeAt r 5]
theorem rack_tubes {r : List Int} (hr : r.length = 24) : r = (tubesL r).flatten := by
  simp only [tubesL, tubeAt]
  apply List.ext_getElem?
  intro k
  have : ∀ (n : Nat), r = r.take n ++ r.drop n := fun n => (List.take_append_drop n r).symm
  have e : ([List.take 4 (List.drop (0 * 4) r), List.take 4 (List.drop (1 * 4) r), List.take 4 (List.drop (2 * 4) r), List.take 4 (List.drop (3 * 4) r), List.take 4 (List.drop (4 * 4) r), List.take 4 (List.drop (5 * 4) r)] : List (List Int)).flatten = r := by
    simp only [List.flatten_cons, List.flatten_nil, List.append_nil]
    have s : ∀ n, n + 4 ≤ 24 → List.take 4 (List.drop n r) ++ List.drop (n + 4) r = List.drop n r := by
      intro n _
      rw [show List.drop (n + 4) r = List.drop 4 (List.drop n r) by rw [List.drop_drop]]
      exact List.take_append_drop 4 _
    have e5 : List.take 4 (List.drop (5 * 4) r) = List.drop 20 r := List.take_of_length_le (by simp [hr])
    rw [e5]
    have t4 := s 16 (by omega); have t3 := s 12 (by omega); have t2 := s 8 (by omega); have t1 := s 4 (by omega); have t0 := s 0 (by omega)
    simp only [Nat.zero_mul, Nat.one_mul, Nat.reduceMul, Nat.reduceAdd] at *
    rw [t4, t3, t2, t1, t0]
    rfl
  rw [e]
theorem tubesL_swap {r : List Int} (hr : r.length = 24) {j : Nat} (hj : j + 1 < 6) : (tubesL (swapT r j)).Perm (tubesL r) := by
  unfold tubesL
  rw [tubeAt_swapT hr hj, tubeAt_swapT hr hj, tubeAt_swapT hr hj, tubeAt_swapT hr hj, tubeAt_swapT hr hj, tubeAt_swapT hr hj]
  have : j = 0 ∨ j = 1 ∨ j = 2 ∨ j = 3 ∨ j = 4 := by omega
  rcases this with rfl | rfl | rfl | rfl | rfl <;> simp [Way.tr]
  · exact List.Perm.swap _ _ _
  · exact List.Perm.swap _ _ _
  · exact List.Perm.swap _ _ _
  · exact List.Perm.swap _ _ _
  · exact List.Perm.swap _ _ _
theorem tubesL_form {r : List Int} (h : RackOK r) : (tubesL (formL r)).Perm (tubesL r) :=
  (form_keep (P := fun x => (tubesL x).Perm (tubesL r)) (fun x hx j hj hp => (tubesL_swap hx.len hj).trans hp) h (List.Perm.refl _)).2
end Go.Proofs.YtgpafbbnobanbaaGreatDoor.AM
/- The form of a rack is one for all orders of its tubes; the search of forms: plain laws. -/
namespace Go.Proofs.YtgpafbbnobanbaaGreatDoor.AM
open Go
set_option maxRecDepth 1000000
set_option linter.unusedSimpArgs false
set_option linter.unusedVariables false
def codeT : List Int → Int
  | [a, b, c, d] => a * 512 + b * 64 + c * 8 + d
  | _ => 0
def cell5 (t : List Int) : Bool := t.all fun x => decide (0 ≤ x) && decide (x ≤ 5)
theorem cell5_all : allT cell5 = true := by kernel_rfl
theorem tube_cell5 {r : List Int} (h : RackOK r) {i : Nat} (hi : i < 6) : ∃ a b c d : Int, tubeAt r i = [a, b, c, d] ∧ (0 ≤ a ∧ a ≤ 5) ∧ (0 ≤ b ∧ b ≤ 5) ∧ (0 ≤ c ∧ c ≤ 5) ∧ 0 ≤ d ∧ d ≤ 5 := by
  have f := tubes_all cell5_all (h.t4 hi) (h.tv hi)
  obtain ⟨a, b, c, d, e⟩ := len4 (h.t4 hi)
  rw [e] at f
  simp [cell5] at f
  exact ⟨a, b, c, d, e, f.1, f.2.1, f.2.2.1, f.2.2.2⟩
theorem cmp_code {r s : List Int} (hr : RackOK r) (hs : RackOK s) {i j : Nat} (hi : i < 6) (hj : j < 6) : cmpT (tubeAt r i) (tubeAt s j) < 0 ↔ codeT (tubeAt r i) < codeT (tubeAt s j) := by
  obtain ⟨a, b, c, d, e, ha, hb, hc, hd⟩ := tube_cell5 hr hi
  obtain ⟨a', b', c', d', e', ha', hb', hc', hd'⟩ := tube_cell5 hs hj
  rw [e, e']
  simp only [cmpT, cmpI, codeT]
  by_cases a1 : a < a'
  · simp [a1]; omega
  by_cases a2 : a' < a
  · simp [a1, a2]; omega
  by_cases b1 : b < b'
  · simp [a1, a2, b1]; omega
  by_cases b2 : b' < b
  · simp [a1, a2, b1, b2]; omega
  by_cases c1 : c < c'
  · simp [a1, a2, b1, b2, c1]; omega
  by_cases c2 : c' < c
  · simp [a1, a2, b1, b2, c1, c2]; omega
  by_cases d1 : d < d'
  · simp [a1, a2, b1, b2, c1, c2, d1]; omega
  by_cases d2 : d' < d
  · simp [a1, a2, b1, b2, c1, c2, d1, d2]; omega
  · simp [a1, a2, b1, b2, c1, c2, d1, d2]; omega
theorem code_inj {r s : List Int} (hr : RackOK r) (hs : RackOK s) {i j : Nat} (hi : i < 6) (hj : j < 6) (h : codeT (tubeAt r i) = codeT (tubeAt s j)) : tubeAt r i = tubeAt s j := by
  obtain ⟨a, b, c, d, e, ha, hb, hc, hd⟩ := tube_cell5 hr hi
  obtain ⟨a', b', c', d', e', ha', hb', hc', hd'⟩ := tube_cell5 hs hj
  rw [e, e'] at h ⊢
  simp only [codeT] at h
  have h1 : a = a' := by omega
  have h2 : b = b' := by omega
  have h3 : c = c' := by omega
  have h4 : d = d' := by omega
  rw [h1, h2, h3, h4]
def cd (r : List Int) (k : Nat) : Int := codeT (tubeAt r k)
theorem sink_sorted : ∀ (j N : Nat) (r : List Int), RackOK r → j ≤ N → N < 6 → (∀ a b, a ≤ b → b ≤ N → a ≠ j → b ≠ j → cd r a ≤ cd r b) → (∀ b, j < b → b ≤ N → cd r j ≤ cd r b) → ∀ a b, a ≤ b → b ≤ N → cd (sinkT j r) a ≤ cd (sinkT j r) b
  | 0, N, r, hr, hj, hN, h1, h2, a, b, hab, hb => by
    show cd r a ≤ cd r b
    rcases Nat.eq_zero_or_pos a with ha | ha
    · subst ha
      rcases Nat.eq_zero_or_pos b with hb0 | hb0
      · subst hb0; omega
      · exact h2 b hb0 hb
    · exact h1 a b hab hb (by omega) (by omega)
  | j + 1, N, r, hr, hj, hN, h1, h2, a, b, hab, hb => by
    unfold sinkT
    have cc := cmp_code hr hr (i := j + 1) (j := j) (by omega) (by omega)
    by_cases h : cmpT (tubeAt r (j + 1)) (tubeAt r j) < 0
    · rw [if_pos h]
      have hlt : cd r (j + 1) < cd r j := cc.1 h
      have sw : ∀ k, cd (swapT r j) k = cd r (Way.tr j (j + 1) k) := fun k => by unfold cd; rw [tubeAt_swapT hr.len (by omega)]
      have sj : cd (swapT r j) j = cd r (j + 1) := by rw [sw]; simp [Way.tr]
      have sj1 : cd (swapT r j) (j + 1) = cd r j := by rw [sw]; simp [Way.tr]
      have so : ∀ k, k ≠ j → k ≠ j + 1 → cd (swapT r j) k = cd r k := fun k k1 k2 => by rw [sw]; simp [Way.tr, k1, k2]
      refine sink_sorted j N (swapT r j) (swapT_ok hr (by omega)) (by omega) hN (fun a b hab hb ha1 hb1 => ?_) (fun b hb1 hb => ?_) a b hab hb
      · by_cases a2 : a = j + 1
        · by_cases b2 : b = j + 1
          · rw [a2, b2]; omega
          · rw [a2, sj1, so b hb1 b2]
            exact h1 j b (by omega) hb (by omega) (by omega)
        · by_cases b2 : b = j + 1
          · rw [b2, sj1, so a ha1 a2]
            exact h1 a j (by omega) (by omega) (by omega) (by omega)
          · rw [so a ha1 a2, so b hb1 b2]
            exact h1 a b hab hb a2 b2
      · by_cases b2 : b = j + 1
        · rw [b2, sj, sj1]; omega
        · rw [sj, so b (by omega) b2]
          exact h2 b (by omega) hb
    · rw [if_neg h]
      have hge : cd r j ≤ cd r (j + 1) := by
        have : ¬ cd r (j + 1) < cd r j := fun x => h (cc.2 x)
        omega
      by_cases a2 : a = j + 1
      · by_cases b2 : b = j + 1
        · rw [a2, b2]; omega
        · rw [a2]; exact h2 b (by omega) hb
      · by_cases b2 : b = j + 1
        · rw [b2]
          have := h1 a j (by omega) (by omega) (by omega) (by omega)
          omega
        · exact h1 a b hab hb a2 b2
theorem sortTo5_sorted {r : List Int} (h : RackOK r) : ∀ n, n ≤ 5 → RackOK (sortTo5 n r) ∧ ∀ a b, a ≤ b → b ≤ n → cd (sortTo5 n r) a ≤ cd (sortTo5 n r) b
  | 0, _ => ⟨h, fun a b hab hb => by have h1 : a = 0 := by omega
                                     have h2 : b = 0 := by omega
                                     subst h1; subst h2; omega⟩
  | n + 1, hn => by
    obtain ⟨h1, h2⟩ := sortTo5_sorted h n (by omega)
    have sink : ∀ (j : Nat) (r : List Int), j < 6 → RackOK r → RackOK (sinkT j r) := by
      intro j
      induction j with
      | zero => intro r _ h; exact h
      | succ j ih =>
        intro r hj h
        unfold sinkT; split
        · exact ih _ (by omega) (swapT_ok h hj)
        · exact h
    refine ⟨sink (n + 1) _ (by omega) h1, ?_⟩
    exact sink_sorted (n + 1) (n + 1) _ h1 (Nat.le_refl _) (by omega) (fun a b hab hb ha1 hb1 => h2 a b hab (by omega)) (fun b hb1 hb => by omega)
theorem form_pairwise {r : List Int} (h : RackOK r) : (tubesL (formL r)).Pairwise fun x y => codeT x ≤ codeT y := by
  have s := (sortTo5_sorted h 5 (Nat.le_refl _)).2
  have g : ∀ a b, a ≤ b → b ≤ 5 → codeT (tubeAt (formL r) a) ≤ codeT (tubeAt (formL r) b) := s
  simp only [tubesL, List.pairwise_cons, List.mem_cons, List.not_mem_nil, or_false, forall_eq_or_imp, forall_eq, List.Pairwise.nil, and_true, false_imp_iff, implies_true]
  exact ⟨⟨g 0 1 (by omega) (by omega), g 0 2 (by omega) (by omega), g 0 3 (by omega) (by omega), g 0 4 (by omega) (by omega), g 0 5 (by omega) (by omega)⟩, ⟨g 1 2 (by omega) (by omega), g 1 3 (by omega) (by omega), g 1 4 (by omega) (by omega), g 1 5 (by omega) (by omega)⟩, ⟨g 2 3 (by omega) (by omega), g 2 4 (by omega) (by omega), g 2 5 (by omega) (by omega)⟩, ⟨g 3 4 (by omega) (by omega), g 3 5 (by omega) (by omega)⟩, g 4 5 (by omega) (by omega)⟩
theorem mem_tubesL {r t : List Int} (h : t ∈ tubesL r) : ∃ i, i < 6 ∧ t = tubeAt r i := by
  simp only [tubesL, List.mem_cons, List.not_mem_nil, or_false] at h
  rcases h with h | h | h | h | h | h
  · exact ⟨0, by omega, h⟩
  · exact ⟨1, by omega, h⟩
  · exact ⟨2, by omega, h⟩
  · exact ⟨3, by omega, h⟩
  · exact ⟨4, by omega, h⟩
  · exact ⟨5, by omega, h⟩
/-- Racks with the same tubes have the same form. -/
theorem form_eq {r s : List Int} (hr : RackOK r) (hs : RackOK s) (h : (tubesL r).Perm (tubesL s)) : formL r = formL s := by
  have p : (tubesL (formL r)).Perm (tubesL (formL s)) := (tubesL_form hr).trans (h.trans (tubesL_form hs).symm)
  have e := List.Perm.eq_of_pairwise (le := fun x y => codeT x ≤ codeT y) (fun a b ha hb h1 h2 => by
    obtain ⟨i, hi, rfl⟩ := mem_tubesL ha
    obtain ⟨j, hj, rfl⟩ := mem_tubesL hb
    exact code_inj (formL_ok hr) (formL_ok hs) hi hj (Int.le_antisymm h1 h2)) (form_pairwise hr) (form_pairwise hs) p
  exact ((rack_tubes (formL_ok hr).len).trans (congrArg List.flatten e)).trans (rack_tubes (formL_ok hs).len).symm
/-- What is behind the useful pours of a rack. -/
def kidsL (r : List Int) : List (List Int) := (usefulL r).map fun p => formL (pourR r p.1 p.2)
theorem mem_useful {r : List Int} {i j : Nat} : (i, j) ∈ usefulL r ↔ i < 6 ∧ j < 6 ∧ usable r i j = true := by
  unfold usefulL poursL poursTo usable
  simp only [List.mem_filter, List.mem_map, List.mem_range, Bool.and_eq_true]
  constructor
  · rintro ⟨⟨⟨q, hq, e⟩, h1⟩, h2⟩
    simp only [pairAt, Prod.mk.injEq] at e
    exact ⟨by omega, by omega, h1, h2⟩
  · rintro ⟨hi, hj, h1, h2⟩
    refine ⟨⟨⟨i * 6 + j, by omega, ?_⟩, h1⟩, h2⟩
    simp only [pairAt, Prod.mk.injEq]
    omega
theorem mem_kids {r c : List Int} : c ∈ kidsL r ↔ ∃ i j, i < 6 ∧ j < 6 ∧ usable r i j = true ∧ c = formL (pourR r i j) := by
  unfold kidsL
  simp only [List.mem_map, Prod.exists]
  constructor
  · rintro ⟨i, j, h, e⟩
    obtain ⟨a, b, d⟩ := mem_useful.1 h
    exact ⟨i, j, a, b, d, e.symm⟩
  · rintro ⟨i, j, a, b, d, e⟩
    exact ⟨i, j, mem_useful.2 ⟨a, b, d⟩, e.symm⟩
theorem usable_ne {r : List Int} {i j : Nat} (h : usable r i j = true) : i ≠ j := by
  intro e; subst e
  simp [usable, canP] at h
end Go.Proofs.YtgpafbbnobanbaaGreatDoor.AM
/- The search of forms as a search by levels: plain laws. -/
namespace Go.Proofs.YtgpafbbnobanbaaGreatDoor.AM
open Go
set_option maxRecDepth 1000000
set_option linter.unusedSimpArgs false
set_option linter.unusedVariables false
theorem perm_tr {x y : List Int} {j : Nat} (hj : j + 1 < 6) (h : ∀ k, tubeAt y k = tubeAt x (Way.tr j (j + 1) k)) : (tubesL y).Perm (tubesL x) := by
  unfold tubesL
  rw [h 0, h 1, h 2, h 3, h 4, h 5]
  have : j = 0 ∨ j = 1 ∨ j = 2 ∨ j = 3 ∨ j = 4 := by omega
  rcases this with rfl | rfl | rfl | rfl | rfl <;> simp [Way.tr]
  · exact List.Perm.swap _ _ _
  · exact List.Perm.swap _ _ _
  · exact List.Perm.swap _ _ _
  · exact List.Perm.swap _ _ _
  · exact List.Perm.swap _ _ _
theorem kids_swap {r c : List Int} (h : RackOK r) {q : Nat} (hq : q + 1 < 6) (hc : c ∈ kidsL r) : c ∈ kidsL (swapT r q) := by
  obtain ⟨i, j, hi, hj, hu, e⟩ := mem_kids.1 hc
  have hij := usable_ne hu
  have hi' := Way.tr_lt (show q < 6 by omega) hq hi
  have hj' := Way.tr_lt (show q < 6 by omega) hq hj
  have ti : tubeAt (swapT r q) (Way.tr q (q + 1) i) = tubeAt r i := by rw [tubeAt_swapT h.len hq, Way.tr_tr]
  have tj : tubeAt (swapT r q) (Way.tr q (q + 1) j) = tubeAt r j := by rw [tubeAt_swapT h.len hq, Way.tr_tr]
  have hij' : Way.tr q (q + 1) i ≠ Way.tr q (q + 1) j := fun x => hij (Way.tr_inj x)
  have hs := swapT_ok h hq
  refine mem_kids.2 ⟨_, _, hi', hj', ?_, ?_⟩
  · unfold usable canP idleP at hu ⊢
    rw [ti, tj]
    rw [decide_eq_false hij] at hu
    rw [decide_eq_false hij']
    exact hu
  · rw [e]
    refine form_eq (h.pour hi hj hij) (hs.pour hi' hj' hij') (List.Perm.symm (perm_tr hq fun k => ?_))
    have pN : pourN (swapT r q) (Way.tr q (q + 1) i) (Way.tr q (q + 1) j) = pourN r i j := by unfold pourN; rw [ti, tj]
    rw [pour_tubes hs hi' hj' hij' k, pour_tubes h hi hj hij, ti, tj, pN]
    by_cases a : k = Way.tr q (q + 1) i
    · rw [if_pos a, if_pos (show Way.tr q (q + 1) k = i by rw [a, Way.tr_tr])]
    · rw [if_neg a, if_neg (show ¬ Way.tr q (q + 1) k = i from fun x => a (by rw [← x, Way.tr_tr]))]
      by_cases b : k = Way.tr q (q + 1) j
      · rw [if_pos b, if_pos (show Way.tr q (q + 1) k = j by rw [b, Way.tr_tr])]
      · rw [if_neg b, if_neg (show ¬ Way.tr q (q + 1) k = j from fun x => b (by rw [← x, Way.tr_tr])), tubeAt_swapT h.len hq]
theorem kids_form {r c : List Int} (h : RackOK r) (hc : c ∈ kidsL r) : c ∈ kidsL (formL r) :=
  (form_keep (P := fun x => c ∈ kidsL x) (fun x hx j hj hp => kids_swap hx hj hp) h hc).2
theorem sum_filter {α : Type} (p : α → Bool) (g : α → Nat) : ∀ (l : List α), ((l.filter p).map g).sum = (l.map fun x => if p x = true then g x else 0).sum
  | [] => rfl
  | a :: l => by
    by_cases h : p a = true
    · simp [List.filter_cons, h, sum_filter p g l]
    · simp [List.filter_cons, h, sum_filter p g l]
theorem pairs36 : (List.range 36).map pairAt = [(0, 0), (0, 1), (0, 2), (0, 3), (0, 4), (0, 5), (1, 0), (1, 1), (1, 2), (1, 3), (1, 4), (1, 5), (2, 0), (2, 1), (2, 2), (2, 3), (2, 4), (2, 5), (3, 0), (3, 1), (3, 2), (3, 3), (3, 4), (3, 5), (4, 0), (4, 1), (4, 2), (4, 3), (4, 4), (4, 5), (5, 0), (5, 1), (5, 2), (5, 3), (5, 4), (5, 5)] := by decide
theorem sum_useful (r : List Int) (g : Nat × Nat → Nat) : ((usefulL r).map g).sum = Way.sum6 fun i => Way.sum6 fun j => if usable r i j = true then g (i, j) else 0 := by
  unfold usefulL poursL poursTo
  rw [sum_filter, sum_filter, pairs36]
  have e : ∀ i j : Nat, (if canP r (i, j).1 (i, j).2 = true then (if (!idleP r (i, j).1 (i, j).2) = true then g (i, j) else 0) else 0) = if usable r i j = true then g (i, j) else 0 := by
    intro i j
    unfold usable
    by_cases a : canP r i j = true
    · by_cases b : idleP r i j = true <;> simp [a, b]
    · simp [a]
  simp only [List.map_cons, List.map_nil, List.sum_cons, List.sum_nil, e, Way.sum6]
  omega
theorem K_kids {r : List Int} (h : RackOK r) (m : Nat) : Way.K (m + 1) (absR r) = ((kidsL r).map fun c => Way.K m (absR c)).sum := by
  unfold kidsL
  rw [List.map_map]
  have e1 : ((usefulL r).map ((fun c => Way.K m (absR c)) ∘ fun p => formL (pourR r p.1 p.2))) = (usefulL r).map fun p => Way.K m (absR (pourR r p.1 p.2)) := by
    refine List.map_congr_left fun p hp => ?_
    obtain ⟨i, j⟩ := p
    obtain ⟨hi, hj, hu⟩ := mem_useful.1 hp
    exact K_formL (h.pour hi hj (usable_ne hu)) m
  rw [e1, sum_useful]
  show (Way.sum6 fun i => Way.sum6 fun j => Way.xx m (absR r) i j) = _
  refine Way.sum6_congr fun i hi => Way.sum6_congr fun j hj => ?_
  unfold Way.xx
  rw [link_pour h hi hj]
  by_cases a : usable r i j = true
  · rw [if_pos a, if_pos a]
  · rw [if_neg a, if_neg a]
end Go.Proofs.YtgpafbbnobanbaaGreatDoor.AM
