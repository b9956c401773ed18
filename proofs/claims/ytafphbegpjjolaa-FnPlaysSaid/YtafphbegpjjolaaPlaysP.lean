import Derived.Test.YtafphbegpjjolaaBotsP
import Derived.Test.YtafphbegpjjolaaBestCh
/- Plain laws of plays: chances are at most 1 together and grow with pours, means of runs are at most the runs; the best first pour. -/
namespace Go.Proofs.Ytafphbegpjjolaa.AM
open Go
set_option maxRecDepth 1000000
set_option linter.unusedSimpArgs false
set_option linter.unusedVariables false
/-- a fraction is A / D -/
structure Sc (x : Nat × Nat) (A D : Nat) : Prop where
  pos : 0 < x.2
  eq : x.1 * D = A * x.2
theorem Sc.cut {a b A D : Nat} (hb : 0 < b) (h : a * D = A * b) : Sc (cutF a b) A D := by
  refine ⟨cutF_pos hb, ?_⟩
  have hr := cutF_ratio a b
  have : (cutF a b).1 * D * b = A * (cutF a b).2 * b := by
    calc (cutF a b).1 * D * b = (cutF a b).1 * b * D := by ac_rfl
      _ = a * (cutF a b).2 * D := by rw [hr]
      _ = (a * D) * (cutF a b).2 := by ac_rfl
      _ = (A * b) * (cutF a b).2 := by rw [h]
      _ = A * (cutF a b).2 * b := by ac_rfl
  exact Nat.eq_of_mul_eq_mul_right hb this
theorem Sc.plus {x y : Nat × Nat} {A B D : Nat} (hx : Sc x A D) (hy : Sc y B D) : Sc (plusF x y) (A + B) D := by
  refine Sc.cut (Nat.mul_pos hx.pos hy.pos) ?_
  calc (x.1 * y.2 + y.1 * x.2) * D = (x.1 * D) * y.2 + (y.1 * D) * x.2 := by rw [Nat.add_mul]; ac_rfl
    _ = (A * x.2) * y.2 + (B * y.2) * x.2 := by rw [hx.eq, hy.eq]
    _ = (A + B) * (x.2 * y.2) := by rw [Nat.add_mul]; ac_rfl
theorem Sc.scale {x : Nat × Nat} {A D : Nat} (h : Sc x A D) (k : Nat) : Sc x (A * k) (D * k) := by
  refine ⟨h.pos, ?_⟩
  calc x.1 * (D * k) = (x.1 * D) * k := by ac_rfl
    _ = (A * x.2) * k := by rw [h.eq]
    _ = A * k * x.2 := by ac_rfl
theorem Sc.le {x y : Nat × Nat} {A B D : Nat} (hD : 0 < D) (hx : Sc x A D) (hy : Sc y B D) (h : A ≤ B) : x.1 * y.2 ≤ y.1 * x.2 := by
  have : x.1 * y.2 * D ≤ y.1 * x.2 * D := by
    calc x.1 * y.2 * D = (x.1 * D) * y.2 := by ac_rfl
      _ = (A * x.2) * y.2 := by rw [hx.eq]
      _ = A * (x.2 * y.2) := by ac_rfl
      _ ≤ B * (x.2 * y.2) := Nat.mul_le_mul_right _ h
      _ = (B * y.2) * x.2 := by ac_rfl
      _ = (y.1 * D) * x.2 := by rw [hy.eq]
      _ = y.1 * x.2 * D := by ac_rfl
  exact Nat.le_of_mul_le_mul_right this hD
/-- a mean, times a power of lcm30 -/
def sumL (f : Nat × Nat → Nat) : List (Nat × Nat) → Nat
  | [] => 0
  | p :: l => f p + sumL f l
def scal (w : List Int → Nat) : Nat → List Int → Nat
  | 0, r => w r
  | n + 1, r => if endB r = true then w r * lcm30 ^ (n + 1) else sumL (fun p => scal w n (pourR r p.1 p.2)) (usefulL r) * (lcm30 / (usefulL r).length)
theorem sumL_snoc (f : Nat × Nat → Nat) (l : List (Nat × Nat)) (p : Nat × Nat) : sumL f (l ++ [p]) = sumL f l + f p := by
  induction l with
  | nil => simp [sumL]
  | cons q l ih => simp only [List.cons_append, sumL, ih]; omega
theorem sumL_le {f g : Nat × Nat → Nat} : ∀ {l : List (Nat × Nat)}, (∀ p ∈ l, f p ≤ g p) → sumL f l ≤ sumL g l
  | [], _ => Nat.le_refl _
  | p :: l, h => by
    have h1 := h p (by simp)
    have h2 := sumL_le (l := l) fun q hq => h q (by simp [hq])
    simp only [sumL]; omega
theorem sumL_const {f : Nat × Nat → Nat} {c : Nat} : ∀ {l : List (Nat × Nat)}, (∀ p ∈ l, f p ≤ c) → sumL f l ≤ l.length * c
  | [], _ => by simp [sumL]
  | p :: l, h => by
    have h1 := h p (by simp)
    have h2 := sumL_const (l := l) fun q hq => h q (by simp [hq])
    simp only [sumL, List.length_cons, Nat.succ_mul]; omega
theorem sumL_add (f g : Nat × Nat → Nat) : ∀ l : List (Nat × Nat), sumL f l + sumL g l = sumL (fun p => f p + g p) l
  | [] => rfl
  | p :: l => by have := sumL_add f g l; simp only [sumL]; omega
theorem sumL_mul (f : Nat × Nat → Nat) (k : Nat) : ∀ l : List (Nat × Nat), sumL f l * k = sumL (fun p => f p * k) l
  | [] => by simp [sumL]
  | p :: l => by have := sumL_mul f k l; simp only [sumL, Nat.add_mul, this]
theorem meanTo_sc {m : Nat × Nat → Nat × Nat} {S : Nat × Nat → Nat} {D L : Nat} (hL : 0 < L) (hdv : L ∣ lcm30) : ∀ (k : Nat) (l : List (Nat × Nat)), l.length = k → (∀ p ∈ l, Sc (m p) (S p) D) → Sc (meanTo m L l) (sumL S l * (lcm30 / L)) (D * lcm30)
  | 0, l, hl, _ => by
    have : l = [] := List.eq_nil_of_length_eq_zero hl
    subst this
    exact ⟨by simp [meanTo], by simp [meanTo, sumL]⟩
  | k + 1, l, hl, h => by
    obtain ⟨a, p, rfl⟩ : ∃ a p, l = a ++ [p] := ⟨l.dropLast, l.getLast (by intro e; subst e; simp at hl), (List.dropLast_concat_getLast _).symm⟩
    have ih := meanTo_sc (m := m) (S := S) (D := D) hL hdv k a (by simpa using hl) fun q hq => h q (by simp [hq])
    have hp := h p (by simp)
    have hc : Sc (cutF (m p).1 ((m p).2 * L)) (S p * (lcm30 / L)) (D * lcm30) := by
      refine Sc.cut (Nat.mul_pos hp.pos hL) ?_
      have hd : lcm30 / L * L = lcm30 := Nat.div_mul_cancel hdv
      calc (m p).1 * (D * lcm30) = ((m p).1 * D) * (lcm30 / L * L) := by rw [hd]; ac_rfl
        _ = (S p * (m p).2) * (lcm30 / L * L) := by rw [hp.eq]
        _ = S p * (lcm30 / L) * ((m p).2 * L) := by ac_rfl
    rw [meanTo_snoc, sumL_snoc, Nat.add_mul]
    exact ih.plus hc
theorem mean_sc (w : List Int → Nat) : ∀ (n : Nat) (r : List Int), Sc (meanV w endB n r) (scal w n r) (lcm30 ^ n)
  | 0, r => ⟨by simp [meanV], by simp [meanV, scal]⟩
  | n + 1, r => by
    cases he : endB r with
    | true =>
      have e1 : meanV w endB (n + 1) r = (w r, 1) := by simp [meanV, he]
      have e2 : scal w (n + 1) r = w r * lcm30 ^ (n + 1) := by simp [scal, he]
      rw [e1, e2]
      exact ⟨by simp, by simp⟩
    | false =>
      have e1 : meanV w endB (n + 1) r = meanTo (fun p => meanV w endB n (pourR r p.1 p.2)) (usefulL r).length (usefulL r) := by simp [meanV, he]
      have e2 : scal w (n + 1) r = sumL (fun p => scal w n (pourR r p.1 p.2)) (usefulL r) * (lcm30 / (usefulL r).length) := by simp [scal, he]
      rw [e1, e2, Nat.pow_succ]
      have hl := endB_useful r he
      exact meanTo_sc hl (lcm30_dvd _ hl (usefulL_len30 r)) _ _ rfl fun p _ => mean_sc w n _
theorem lcm_pos (n : Nat) : 0 < lcm30 ^ n := Nat.pow_pos (by decide)
theorem div_len {r : List Int} (he : endB r = false) : lcm30 / (usefulL r).length * (usefulL r).length = lcm30 := Nat.div_mul_cancel (lcm30_dvd _ (endB_useful r he) (usefulL_len30 r))
/-- a weight that no useful pour lets grow: its mean is at most its value -/
theorem scal_le {w : List Int → Nat} (hw : ∀ r, RackOK r → ∀ p ∈ usefulL r, w (pourR r p.1 p.2) ≤ w r) : ∀ (n : Nat) (r : List Int), RackOK r → scal w n r ≤ w r * lcm30 ^ n
  | 0, r, _ => by simp [scal]
  | n + 1, r, h => by
    cases he : endB r with
    | true => simp [scal, he]
    | false =>
      have e2 : scal w (n + 1) r = sumL (fun p => scal w n (pourR r p.1 p.2)) (usefulL r) * (lcm30 / (usefulL r).length) := by simp [scal, he]
      rw [e2]
      have h1 : sumL (fun p => scal w n (pourR r p.1 p.2)) (usefulL r) ≤ (usefulL r).length * (w r * lcm30 ^ n) := by
        refine sumL_const fun p hp => ?_
        obtain ⟨_, _, hq⟩ := useful_pour h hp
        exact Nat.le_trans (scal_le hw n _ hq) (Nat.mul_le_mul_right _ (hw r h p hp))
      have hd := div_len he
      calc sumL (fun p => scal w n (pourR r p.1 p.2)) (usefulL r) * (lcm30 / (usefulL r).length) ≤ (usefulL r).length * (w r * lcm30 ^ n) * (lcm30 / (usefulL r).length) := Nat.mul_le_mul_right _ h1
        _ = (lcm30 / (usefulL r).length * (usefulL r).length) * (w r * lcm30 ^ n) := by ac_rfl
        _ = w r * lcm30 ^ (n + 1) := by rw [hd, Nat.pow_succ]; ac_rfl
theorem w12_le (r : List Int) : w1 r + w2 r ≤ 1 := by
  unfold w1 w2 stuckP
  cases sortP r <;> simp
  split <;> omega
theorem scal_sum : ∀ (n : Nat) (r : List Int), scal w1 n r + scal w2 n r ≤ lcm30 ^ n
  | 0, r => by have := w12_le r; simpa [scal] using this
  | n + 1, r => by
    cases he : endB r with
    | true =>
      have := Nat.mul_le_mul_right (lcm30 ^ (n + 1)) (w12_le r)
      simp only [scal, he, if_true]
      rw [Nat.add_mul] at this
      omega
    | false =>
      have e1 : scal w1 (n + 1) r = sumL (fun p => scal w1 n (pourR r p.1 p.2)) (usefulL r) * (lcm30 / (usefulL r).length) := by simp [scal, he]
      have e2 : scal w2 (n + 1) r = sumL (fun p => scal w2 n (pourR r p.1 p.2)) (usefulL r) * (lcm30 / (usefulL r).length) := by simp [scal, he]
      rw [e1, e2, ← Nat.add_mul, sumL_add]
      have h1 : sumL (fun p => scal w1 n (pourR r p.1 p.2) + scal w2 n (pourR r p.1 p.2)) (usefulL r) ≤ (usefulL r).length * lcm30 ^ n := sumL_const fun p _ => scal_sum n _
      have hd := div_len he
      refine Nat.le_trans (Nat.mul_le_mul_right _ h1) (Nat.le_of_eq ?_)
      calc (usefulL r).length * lcm30 ^ n * (lcm30 / (usefulL r).length) = (lcm30 / (usefulL r).length * (usefulL r).length) * lcm30 ^ n := by ac_rfl
        _ = lcm30 ^ (n + 1) := by rw [hd, Nat.pow_succ]; ac_rfl
/-- a weight of ends alone: its mean grows with pours -/
theorem scal_grow {w : List Int → Nat} (hw : ∀ r, endB r = false → w r = 0) : ∀ (n : Nat) (r : List Int), scal w n r * lcm30 ≤ scal w (n + 1) r
  | 0, r => by
    cases he : endB r with
    | true => simp [scal, he]
    | false => simp [scal, hw r he]
  | n + 1, r => by
    cases he : endB r with
    | true =>
      simp only [scal, he, if_true]
      refine Nat.le_of_eq ?_
      rw [Nat.pow_succ _ (n + 1)]
      ac_rfl
    | false =>
      have e1 : scal w (n + 1) r = sumL (fun p => scal w n (pourR r p.1 p.2)) (usefulL r) * (lcm30 / (usefulL r).length) := by simp [scal, he]
      have e2 : scal w (n + 1 + 1) r = sumL (fun p => scal w (n + 1) (pourR r p.1 p.2)) (usefulL r) * (lcm30 / (usefulL r).length) := by rw [scal, if_neg (by simp [he])]
      rw [e1, e2]
      calc sumL (fun p => scal w n (pourR r p.1 p.2)) (usefulL r) * (lcm30 / (usefulL r).length) * lcm30 = (sumL (fun p => scal w n (pourR r p.1 p.2)) (usefulL r) * lcm30) * (lcm30 / (usefulL r).length) := by ac_rfl
        _ = sumL (fun p => scal w n (pourR r p.1 p.2) * lcm30) (usefulL r) * (lcm30 / (usefulL r).length) := by rw [sumL_mul]
        _ ≤ sumL (fun p => scal w (n + 1) (pourR r p.1 p.2)) (usefulL r) * (lcm30 / (usefulL r).length) := Nat.mul_le_mul_right _ (sumL_le fun p _ => scal_grow hw n _)
theorem w1_end (r : List Int) (h : endB r = false) : w1 r = 0 := by
  have := (moves_of r h).2.2
  simp [w1, this]
theorem w2_end (r : List Int) (h : endB r = false) : w2 r = 0 := by
  obtain ⟨_, h1, h2⟩ := moves_of r h
  have : ¬ (usefulL r).length = 0 := by omega
  simp [w2, stuckP, this]
theorem runsFrom_to2 (r : List Int) : runsFrom r 0 6 = (runsOf (tubeAt r 0)).length + (runsOf (tubeAt r 1)).length + (runsOf (tubeAt r 2)).length + (runsOf (tubeAt r 3)).length + (runsOf (tubeAt r 4)).length + (runsOf (tubeAt r 5)).length := by
  simp only [runsFrom, Nat.zero_add, Nat.reduceAdd]; omega
theorem runs_pour {r : List Int} (h : RackOK r) {p : Nat × Nat} (hp : p ∈ usefulL r) : w3 (pourR r p.1 p.2) ≤ w3 r := by
  obtain ⟨i, j⟩ := p
  obtain ⟨hi, hj, hc⟩ := mem_usefulL hp
  have hi : i < 6 := hi
  have hj : j < 6 := hj
  have hc : canP r i j = true := hc
  show w3 (pourR r i j) ≤ w3 r
  have hb := pour_b h hi hj hc
  have hij := canP_ne hc
  have oi := h.top hi
  have oj := h.top hj
  have hsum : (runsOf (tubeAt (pourR r i j) i)).length + (runsOf (tubeAt (pourR r i j) j)).length ≤ (runsOf (tubeAt r i)).length + (runsOf (tubeAt r j)).length := by
    have h1 := hb.i1
    have h2 := hb.j1
    by_cases h0 : layN (tubeAt r j) = 0
    · rw [if_pos h0] at h2
      have h3 := (hb.jr h0).1
      have h4 : (pourN r i j : Int) = (topOf (tubeAt r i)).2 := by
        unfold pourN
        have := oi.nl; have := oi.l4; have := oi.n0
        rw [h0]
        omega
      rw [if_pos h4] at h1
      omega
    · rw [if_neg h0] at h2
      split at h1 <;> omega
  unfold w3
  rw [runsFrom_to2, runsFrom_to2]
  have ho := hb.other
  have o0 := ho 0; have o1 := ho 1; have o2 := ho 2; have o3 := ho 3; have o4 := ho 4; have o5 := ho 5
  have ii : i = 0 ∨ i = 1 ∨ i = 2 ∨ i = 3 ∨ i = 4 ∨ i = 5 := by omega
  have jj : j = 0 ∨ j = 1 ∨ j = 2 ∨ j = 3 ∨ j = 4 ∨ j = 5 := by omega
  generalize tubeAt (pourR r i j) = T at *
  rcases ii with rfl | rfl | rfl | rfl | rfl | rfl <;> rcases jj with rfl | rfl | rfl | rfl | rfl | rfl <;> simp at hij o0 o1 o2 o3 o4 o5 <;> (try simp only [o0, o1, o2, o3, o4, o5]) <;> omega
end Go.Proofs.Ytafphbegpjjolaa.AM
