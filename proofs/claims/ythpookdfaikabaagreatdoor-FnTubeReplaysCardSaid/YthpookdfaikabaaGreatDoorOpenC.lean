import Derived.Test.YthpookdfaikabaaGreatDoorAmE
/- Arguments: structs of ints and texts, texts, bools. -/
namespace Go.Proofs.YthpookdfaikabaaGreatDoor.AM
open Go Go.ChangeShapes Go.WideShapes Go.RowKit Go.WideElems
set_option maxRecDepth 1000000
set_option linter.unusedSimpArgs false
set_option linter.unusedVariables false
inductive PKd where
  | int
  | str
  deriving DecidableEq
def ckT (P : Program) (t : TypeId) : Option PKd := match P.underlying t with
  | some (.int k) => if k = .i64 then some .int else none
  | some .string => some .str
  | _ => none
theorem ckT_int {P : Program} {t : TypeId} (h : ckT P t = some .int) : P.underlying t = some (.int .i64) := by
  unfold ckT at h
  split at h
  · rename_i k hk
    split at h
    · rename_i e; rw [hk, e]
    · cases h
  · cases h
  · cases h
theorem ckT_str {P : Program} {t : TypeId} (h : ckT P t = some .str) : P.underlying t = some .string := by
  unfold ckT at h
  split at h
  · split at h <;> cases h
  · assumption
  · cases h
def ckOK (k : PKd) (c : C) : Prop := match k with
  | .int => ∃ z : Int, c = .int .i64 z ∧ -9223372036854775808 ≤ z ∧ z < 9223372036854775808
  | .str => ∃ s : List UInt8, c = .str s ∧ s.length ≤ 9223372036854775807
theorem open_cell {P : Program} {W : World} {base : Nat} {u : TypeId} {v : Value} {k : PKd} (hk : ckT P u = some k) (h : Cell.okWide P W .any base u v) : ∃ c, ckOK k c ∧ ∀ φ, VRc φ c v := by
  cases k with
  | int =>
    have hu := ckT_int hk
    simp only [Cell.okWide, hu, Cell.ok] at h
    cases v with
    | int k x =>
      obtain ⟨rfl, hx⟩ := h
      simp [IntKind.has, IntKind.min, IntKind.max, IntKind.bits, IntKind.signed] at hx
      exact ⟨.int .i64 x, ⟨x, rfl, by omega, by omega⟩, fun _ => rfl⟩
    | _ => exact h.elim
  | str =>
    have hu := ckT_str hk
    simp only [Cell.okWide, hu, Cell.ok] at h
    cases v with
    | string s =>
      have h : (s.size : Int) ≤ 9223372036854775807 := h
      have e : s.data.toList.length = s.size := rfl
      exact ⟨.str s.data.toList, ⟨_, rfl, by omega⟩, fun _ => rfl⟩
    | _ => exact h.elim
theorem open_list : ∀ (ks : List PKd) (vs : List Value), ks.length = vs.length → (∀ (i : Nat) k v, ks[i]? = some k → vs[i]? = some v → ∃ c, ckOK k c ∧ ∀ φ, VRc φ c v) → ∃ cs, All2 ckOK ks cs ∧ ∀ φ, All2 (VRc φ) cs vs
  | [], [], _, _ => ⟨[], trivial, fun _ => trivial⟩
  | k :: ks, v :: vs, hl, h => by
    obtain ⟨c, h1, h2⟩ := h 0 k v rfl rfl
    obtain ⟨cs, h3, h4⟩ := open_list ks vs (by simpa using hl) fun i k v hk hv => h (i + 1) k v hk hv
    exact ⟨c :: cs, ⟨h1, h3⟩, fun φ => ⟨h2 φ, h4 φ⟩⟩
  | [], _ :: _, hl, _ => by cases hl
  | _ :: _, [], hl, _ => by cases hl
def kindsL (P : Program) : List TypeId → Option (List PKd)
  | [] => some []
  | t :: ts => (ckT P t).bind fun k => (kindsL P ts).map (k :: ·)
theorem kindsL_at {P : Program} : ∀ {ts : List TypeId} {ks : List PKd}, kindsL P ts = some ks → ts.length = ks.length ∧ ∀ (i : Nat) u, ts[i]? = some u → ∃ k, ks[i]? = some k ∧ ckT P u = some k
  | [], ks, h => by
    injection h with h; subst h
    exact ⟨rfl, fun i u hu => by simp at hu⟩
  | t :: ts, ks, h => by
    unfold kindsL at h
    obtain ⟨k, hk, h⟩ := Option.bind_eq_some_iff.1 h
    obtain ⟨ks', hks, h⟩ := Option.map_eq_some_iff.1 h
    subst h
    obtain ⟨h1, h2⟩ := kindsL_at hks
    refine ⟨by simp [h1], fun i u hu => ?_⟩
    cases i with
    | zero =>
      have : t = u := by simpa using hu
      subst this
      exact ⟨k, rfl, hk⟩
    | succ i => exact h2 i u (by simpa using hu)
def plainC (P : Program) (t : TypeId) (ks : List PKd) : Bool := (aggT P t == some true) && (P.cellsOf t == ks.length) && (match P.cellTypes P.depth t with | some ts => decide (kindsL P ts = some ks) | none => false)
theorem open_cells {P : Program} {W : World} {base : Nat} {t : TypeId} {ks : List PKd} {v : Value} (hp : plainC P t ks = true) (h : Value.okWide P W .any base t v) : ∃ (cs : List C) (vs : List Value), v = .agg vs.toArray ∧ All2 ckOK ks cs ∧ ∀ φ, All2 (VRc φ) cs vs := by
  simp only [plainC, Bool.and_eq_true, beq_iff_eq] at hp
  obtain ⟨⟨h1, h2⟩, h3⟩ := hp
  have hagg : ∃ cs, v = .agg cs ∧ cs.size = P.cellsOf t ∧ Row.okWide P W .any base t cs := by
    unfold Value.okWide at h
    unfold aggT at h1
    split at h
    · exact h
    · exact h
    · rename_i ha hb
      split at h1
      · exact absurd ‹_› (ha _)
      · exact absurd ‹_› (hb _ _)
      · cases h1
      · cases h1
  obtain ⟨cs, rfl, hsz, ts, hts, _, hcell⟩ := hagg
  rw [hts] at h3
  have h3 : kindsL P ts = some ks := of_decide_eq_true h3
  obtain ⟨hlen, hat⟩ := kindsL_at h3
  obtain ⟨xs, hx1, hx2⟩ := open_list ks cs.toList (by have : cs.toList.length = cs.size := Array.length_toList; omega) fun i k v hk hv => by
    have hi : i < ks.length := (List.getElem?_eq_some_iff.1 hk).1
    obtain ⟨u, hu, hok⟩ := hcell i v (by simpa using hv)
    rw [Nat.mod_eq_of_lt (by omega)] at hu
    obtain ⟨k', hk', hc⟩ := hat i u hu
    rw [hk] at hk'
    injection hk' with hk'
    subst hk'
    exact open_cell hc hok
  exact ⟨xs, cs.toList, by simp, hx1, hx2⟩
theorem open_one {P : Program} {W : World} {base : Nat} {t : TypeId} {k : PKd} {v : Value} (hp : (decide (ckT P t = some k)) = true) (h : Value.okWide P W .any base t v) : ∃ c, ckOK k c ∧ ∀ φ, VRc φ c v := by
  have hk : ckT P t = some k := of_decide_eq_true hp
  have h2 : Cell.okWide P W .any base t v := by
    unfold Value.okWide at h
    cases k with
    | int => rw [ckT_int hk] at h; exact h
    | str => rw [ckT_str hk] at h; exact h
  exact open_cell hk h2
def boolT (P : Program) (t : TypeId) : Bool := match P.underlying t with | some .bool => true | _ => false
theorem open_boolT {P : Program} {W : World} {base : Nat} {t : TypeId} {v : Value} (hp : boolT P t = true) (h : Value.okWide P W .any base t v) : ∃ b, v = .bool b := by
  have hk : P.underlying t = some .bool := by
    unfold boolT at hp
    split at hp
    · assumption
    · cases hp
  unfold Value.okWide at h
  rw [hk] at h
  have h : Cell.okWide P W .any base t v := h
  simp only [Cell.okWide, hk, Cell.ok] at h
  cases v with
  | bool b => exact ⟨b, rfl⟩
  | _ => exact h.elim
theorem all2_app {α β : Type} {R : α → β → Prop} : ∀ {l1 l2 : List α} {cs : List β}, All2 R (l1 ++ l2) cs → ∃ xs ys, cs = xs ++ ys ∧ All2 R l1 xs ∧ All2 R l2 ys
  | [], l2, cs, h => ⟨[], cs, rfl, trivial, h⟩
  | a :: l1, l2, c :: cs, h => by
    obtain ⟨xs, ys, rfl, h1, h2⟩ := all2_app h.2
    exact ⟨c :: xs, ys, rfl, ⟨h.1, h1⟩, h2⟩
  | _ :: _, _, [], h => h.elim
theorem ckOK_ints : ∀ {n : Nat} {xs : List C}, All2 ckOK (List.replicate n .int) xs → ∃ l : List Int, xs = l.map (C.int .i64) ∧ l.length = n ∧ ∀ x ∈ l, -9223372036854775808 ≤ x ∧ x < 9223372036854775808
  | 0, [], _ => ⟨[], rfl, rfl, by simp⟩
  | 0, _ :: _, h => h.elim
  | n + 1, [], h => h.elim
  | n + 1, c :: xs, h => by
    obtain ⟨⟨z, rfl, hz⟩, h2⟩ := h
    obtain ⟨l, rfl, hl, hr⟩ := ckOK_ints h2
    exact ⟨z :: l, rfl, by simp [hl], by simpa using ⟨hz, hr⟩⟩
theorem all2_2 {α β : Type} {R : α → β → Prop} {a0 a1 : α} {cs : List β} (h : All2 R [a0, a1] cs) : ∃ c0 c1, cs = [c0, c1] ∧ R a0 c0 ∧ R a1 c1 := by
  match cs, h with
  | [c0, c1], ⟨h0, h1, _⟩ => exact ⟨c0, c1, rfl, h0, h1⟩
theorem all2_3 {α β : Type} {R : α → β → Prop} {a0 a1 a2 : α} {cs : List β} (h : All2 R [a0, a1, a2] cs) : ∃ c0 c1 c2, cs = [c0, c1, c2] ∧ R a0 c0 ∧ R a1 c1 ∧ R a2 c2 := by
  match cs, h with
  | [c0, c1, c2], ⟨h0, h1, h2, _⟩ => exact ⟨c0, c1, c2, rfl, h0, h1, h2⟩
end Go.Proofs.YthpookdfaikabaaGreatDoor.AM
