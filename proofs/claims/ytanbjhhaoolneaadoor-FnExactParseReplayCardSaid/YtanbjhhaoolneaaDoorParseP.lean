import Derived.Test.YtanbjhhaoolneaaDoorSplP
import Derived.Test.YtanbjhhaoolneaaDoorRacks
/- Texts of racks and of pours: what they say; plain laws, no program in sight. -/
namespace Go.Proofs.YtanbjhhaoolneaaDoor.AM
open Go
set_option maxRecDepth 1000000
set_option linter.unusedSimpArgs false
set_option linter.unusedVariables false
/-- a text joined at a byte -/
def joinC (c : UInt8) : List (List UInt8) → List UInt8
  | [] => []
  | [x] => x
  | x :: y :: r => x ++ c :: joinC c (y :: r)
theorem joinC_cons (c b : UInt8) (x : List UInt8) (r : List (List UInt8)) : joinC c ((b :: x) :: r) = b :: joinC c (x :: r) := by
  cases r <;> rfl
theorem joinC_splC (c : UInt8) : ∀ s : List UInt8, joinC c (splC c s) = s
  | [] => rfl
  | b :: s => by
    have ih := joinC_splC c s
    obtain ⟨x, r, hx⟩ : ∃ x r, splC c s = x :: r := by
      cases hc : splC c s with
      | nil => exact absurd hc (splC_ne c s)
      | cons x r => exact ⟨x, r, rfl⟩
    by_cases h : b = c
    · subst h
      have e : splC b (b :: s) = [] :: splC b s := by simp [splC]
      rw [e, hx]
      rw [hx] at ih
      show [] ++ b :: joinC b (x :: r) = b :: s
      rw [ih]
      rfl
    · rw [splC_cons h s x r hx, joinC_cons]
      rw [hx] at ih
      rw [ih]
def sgn (x : Nat) : Int := if x = 46 then 0 else if 97 ≤ x ∧ x ≤ 101 then (x : Int) - 96 else -1
def sgB (b : UInt8) : Int := sgn b.toNat
def goodP (p : List UInt8) : Bool := decide (p.length = 4) && p.all (fun b => decide (0 ≤ sgB b))
def goodS (s : List UInt8) : Bool := decide ((splC 47 s).length = 6) && (splC 47 s).all goodP
def rackS (s : List UInt8) : List Int := (splC 47 s).flatten.map sgB
def goodT (s : List UInt8) : Bool := decide (s.length = 29) && (List.range 29).all fun i => if i % 5 = 4 then s.getD i 0 == 47 else decide (0 ≤ sgB (s.getD i 0))
def rackT (s : List UInt8) : List Int := (List.range 24).map fun j => sgB (s.getD (j / 4 * 5 + j % 4) 0)
theorem sg47 : sgB 47 = -1 := by decide
theorem sg_ne {b : UInt8} (h : 0 ≤ sgB b) : ¬ b = 47 := by
  intro e
  subst e
  rw [sg47] at h
  omega
theorem split29 : ∀ s : List UInt8, s.length = 29 → ∃ a0 a1 a2 a3 a4 b0 b1 b2 b3 b4 c0 c1 c2 c3 c4 d0 d1 d2 d3 d4 e0 e1 e2 e3 e4 f0 f1 f2 f3, s = [a0, a1, a2, a3, a4, b0, b1, b2, b3, b4, c0, c1, c2, c3, c4, d0, d1, d2, d3, d4, e0, e1, e2, e3, e4, f0, f1, f2, f3]
  | [a0, a1, a2, a3, a4, b0, b1, b2, b3, b4, c0, c1, c2, c3, c4, d0, d1, d2, d3, d4, e0, e1, e2, e3, e4, f0, f1, f2, f3], _ => ⟨_, _, _, _, _, _, _, _, _, _, _, _, _, _, _, _, _, _, _, _, _, _, _, _, _, _, _, _, _, rfl⟩
theorem split4 : ∀ s : List UInt8, s.length = 4 → ∃ a b c d, s = [a, b, c, d]
  | [a, b, c, d], _ => ⟨_, _, _, _, rfl⟩
theorem good_TS {s : List UInt8} (h : goodT s = true) : goodS s = true ∧ rackS s = rackT s := by
  unfold goodT at h
  simp only [Bool.and_eq_true, decide_eq_true_eq] at h
  obtain ⟨hl, h⟩ := h
  obtain ⟨a0, a1, a2, a3, a4, b0, b1, b2, b3, b4, c0, c1, c2, c3, c4, d0, d1, d2, d3, d4, e0, e1, e2, e3, e4, f0, f1, f2, f3, rfl⟩ := split29 s hl
  simp [List.range, List.range.loop] at h
  obtain ⟨ha0, ha1, ha2, ha3, rfl, hb0, hb1, hb2, hb3, rfl, hc0, hc1, hc2, hc3, rfl, hd0, hd1, hd2, hd3, rfl, he0, he1, he2, he3, rfl, hf0, hf1, hf2, hf3⟩ := h
  simp [goodS, rackS, rackT, splC, goodP, List.range, List.range.loop, ha0, ha1, ha2, ha3, hb0, hb1, hb2, hb3, hc0, hc1, hc2, hc3, hd0, hd1, hd2, hd3, he0, he1, he2, he3, hf0, hf1, hf2, hf3, sg_ne]
theorem good_ST {s : List UInt8} (h : goodS s = true) : goodT s = true := by
  unfold goodS at h
  simp only [Bool.and_eq_true, decide_eq_true_eq] at h
  obtain ⟨hl, h⟩ := h
  have hj := joinC_splC 47 s
  generalize splC 47 s = P at *
  match P, hl, h, hj with
  | [p0, p1, p2, p3, p4, p5], _, h, hj =>
    simp only [List.all_cons, List.all_nil, Bool.and_true, Bool.and_eq_true, goodP, decide_eq_true_eq] at h
    obtain ⟨⟨l0, g0⟩, ⟨l1, g1⟩, ⟨l2, g2⟩, ⟨l3, g3⟩, ⟨l4, g4⟩, ⟨l5, g5⟩⟩ := h
    obtain ⟨_, _, _, _, rfl⟩ := split4 p0 l0
    obtain ⟨_, _, _, _, rfl⟩ := split4 p1 l1
    obtain ⟨_, _, _, _, rfl⟩ := split4 p2 l2
    obtain ⟨_, _, _, _, rfl⟩ := split4 p3 l3
    obtain ⟨_, _, _, _, rfl⟩ := split4 p4 l4
    obtain ⟨_, _, _, _, rfl⟩ := split4 p5 l5
    simp [joinC] at hj
    subst hj
    simp at g0 g1 g2 g3 g4 g5
    simp [goodT, List.range, List.range.loop, g0, g1, g2, g3, g4, g5]
theorem good_eq (s : List UInt8) : goodS s = goodT s := by
  cases hT : goodT s with
  | true => exact (good_TS hT).1
  | false =>
    cases hS : goodS s with
    | false => rfl
    | true => rw [good_ST hS] at hT; cases hT
def okS (s : List UInt8) : Bool := goodS s && okRack (rackS s)
theorem good_len {s : List UInt8} (h : goodS s = true) : (rackS s).length = 24 := by
  rw [(good_TS (good_ST h)).2]
  simp [rackT]
/-- what a text of a rack says -/
def rkS (s : List UInt8) : List Int := if okS s = true then rackS s else List.replicate 24 0
theorem rkS_len (s : List UInt8) : (rkS s).length = 24 := by
  unfold rkS
  split
  · rename_i h
    unfold okS at h
    simp only [Bool.and_eq_true] at h
    exact good_len h.1
  · simp
/-! ### a replay -/
def num (b : UInt8) : Int := (b.toNat : Int) - 48
def two (w : List UInt8) : Bool := decide (w.length = 2)
def pz (w : List UInt8) : Int × Int := (num (w.getD 0 0), num (w.getD 1 0))
def dig (w : List UInt8) : Bool := two w && decide (48 ≤ (w.getD 0 0).toNat ∧ (w.getD 0 0).toNat ≤ 53) && decide (48 ≤ (w.getD 1 0).toNat ∧ (w.getD 1 0).toNat ≤ 53)
def headW (s : List UInt8) : List UInt8 := (splC 32 s).headD []
def tailW (s : List UInt8) : List (List UInt8) := (splC 32 s).tail
def repI (s : List UInt8) : Bool := okS (headW s) && decide ((splC 32 s).length ≤ 61) && (tailW s).all two && repB (rkS (headW s)) ((tailW s).map pz)
def repS (s : List UInt8) : Bool := decide (s.length ≤ 209) && okS (headW s) && (tailW s).all dig && repB (rkS (headW s)) ((tailW s).map pz)
theorem joinC_len (c : UInt8) : ∀ (x : List UInt8) (r : List (List UInt8)), (∀ y ∈ r, y.length = 2) → (joinC c (x :: r)).length = x.length + 3 * r.length
  | x, [], _ => by simp [joinC]
  | x, y :: r, h => by
    have h1 := h y (by simp)
    have ih := joinC_len c y r fun z hz => h z (by simp [hz])
    show (x ++ c :: joinC c (y :: r)).length = _
    simp only [List.length_append, List.length_cons, ih]
    omega
theorem headW_tailW (s : List UInt8) : splC 32 s = headW s :: tailW s := by
  unfold headW tailW
  cases hc : splC 32 s with
  | nil => exact absurd hc (splC_ne 32 s)
  | cons x r => rfl
theorem okS_len {s : List UInt8} (h : okS s = true) : s.length = 29 := by
  unfold okS at h
  simp only [Bool.and_eq_true] at h
  have := good_ST h.1
  unfold goodT at this
  simp only [Bool.and_eq_true, decide_eq_true_eq] at this
  exact this.1
end Go.Proofs.YtanbjhhaoolneaaDoor.AM
