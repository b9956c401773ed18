import Derived.Test.YtanbjhhaoolneaaDoorAmE
import Derived.Lib.SplitLaws
import Derived.Lib.IndexLaws
/- A text cut at a byte: plain laws, no program in sight. -/
namespace Go.Proofs.YtanbjhhaoolneaaDoor.AM
open Go
set_option maxRecDepth 1000000
set_option linter.unusedSimpArgs false
set_option linter.unusedVariables false
theorem splC_ne (c : UInt8) : ∀ s : List UInt8, splC c s ≠ []
  | [] => by simp [splC]
  | b :: s => by
    unfold splC
    split
    · simp
    · split <;> simp
theorem splC_cons {c b : UInt8} (h : ¬ b = c) (s x : List UInt8) (r : List (List UInt8)) (hs : splC c s = x :: r) : splC c (b :: s) = (b :: x) :: r := by
  unfold splC
  rw [if_neg h, hs]
theorem splC_len (c : UInt8) : ∀ s : List UInt8, (splC c s).length = s.count c + 1
  | [] => rfl
  | b :: s => by
    have ih := splC_len c s
    by_cases h : b = c
    · subst h
      simp [splC, ih]
    · obtain ⟨x, r, hx⟩ : ∃ x r, splC c s = x :: r := by
        cases hc : splC c s with
        | nil => exact absurd hc (splC_ne c s)
        | cons x r => exact ⟨x, r, rfl⟩
      rw [splC_cons h s x r hx, List.count_cons_of_ne (by simpa using h)]
      rw [hx] at ih
      simpa using ih
theorem splitK_splC (c : UInt8) : ∀ s : List UInt8, Lib.splitK [c] 0 (s.count c) s = splC c s
  | [] => rfl
  | b :: s => by
    have ih := splitK_splC c s
    by_cases h : b = c
    · subst h
      rw [List.count_cons_self]
      unfold Lib.splitK
      have hi : Lib.index (b :: s) [b] = 0 := by rw [Lib.index_one]; simp [Lib.indexByte]
      rw [hi]
      simp [splC, ih]
    · rw [List.count_cons_of_ne (by simpa using h)]
      by_cases h0 : s.count c = 0
      · rw [h0] at ih ⊢
        have hs : splC c s = [s] := by rw [← ih]; rfl
        rw [splC_cons h s s [] hs]
        rfl
      · obtain ⟨k, hk⟩ : ∃ k, s.count c = k + 1 := ⟨s.count c - 1, by omega⟩
        rw [hk] at ih ⊢
        have hne : ¬ Lib.indexByte s c = -1 := by
          intro e
          have hm : c ∈ s := List.count_pos_iff.1 (by omega)
          obtain ⟨j, hj⟩ := List.getElem?_of_mem hm
          exact Lib.indexByte_none e j hj
        have hge := Lib.indexByte_ge s c
        obtain ⟨i, hi⟩ : ∃ i : Nat, Lib.indexByte s c = (i : Int) := ⟨(Lib.indexByte s c).toNat, by omega⟩
        have h1 : Lib.index s [c] = (i : Int) := by rw [Lib.index_one, hi]
        have h2 : Lib.index (b :: s) [c] = ((i + 1 : Nat) : Int) := by
          rw [Lib.index_one]
          unfold Lib.indexByte
          have hb : (b == c) = false := by simpa using h
          rw [hb, hi]
          have : ((i : Int) == -1) = false := beq_eq_false_iff_ne.2 (by omega)
          simp [this]
        unfold Lib.splitK at ih ⊢
        have m1 : ((i : Int) == -1) = false := beq_eq_false_iff_ne.2 (by omega)
        have m2 : (((i + 1 : Nat) : Int) == -1) = false := beq_eq_false_iff_ne.2 (by omega)
        rw [h1, m1] at ih
        rw [h2, m2]
        simp only [Bool.false_eq_true, if_false, Int.toNat_natCast, Nat.add_zero, List.length_cons, List.length_nil] at ih ⊢
        rw [splC_cons h s _ _ ih.symm]
        rfl
theorem splC_lib (c : UInt8) (s : List UInt8) : (Lib.splitB ⟨#[c]⟩ 0 (Lib.countB ⟨s.toArray⟩ ⟨#[c]⟩) ⟨s.toArray⟩).map (fun x => x.data.toList) = splC c s := by
  have h := Lib.splitB_data ⟨#[c]⟩ 0 (Lib.countB ⟨s.toArray⟩ ⟨#[c]⟩) ⟨s.toArray⟩
  have e : Lib.countB ⟨s.toArray⟩ ⟨#[c]⟩ = s.count c := Lib.count_one c s
  rw [e] at h ⊢
  rw [h]
  exact splitK_splC c s
theorem countB_len (c : UInt8) (s : List UInt8) : Lib.countB ⟨s.toArray⟩ ⟨#[c]⟩ + 1 = (splC c s).length := by
  rw [splC_len]
  have e : Lib.countB ⟨s.toArray⟩ ⟨#[c]⟩ = s.count c := Lib.count_one c s
  rw [e]
/-- the cells of the pieces -/
theorem splC_cells (φ : Phi) (c : UInt8) (s : List UInt8) : All2 (VRc φ) ((splC c s).map C.str) ((Lib.splitB ⟨#[c]⟩ 0 (Lib.countB ⟨s.toArray⟩ ⟨#[c]⟩) ⟨s.toArray⟩).map Value.string) := by
  rw [← splC_lib c s]
  generalize Lib.splitB ⟨#[c]⟩ 0 (Lib.countB ⟨s.toArray⟩ ⟨#[c]⟩) ⟨s.toArray⟩ = l
  induction l with
  | nil => trivial
  | cons x l ih => exact ⟨rfl, ih⟩
/-- what the library's function leaves -/
theorem split_ok {φ : Phi} {h : Heap} {w : World} (hh : HeapOK φ (lkp h) w) (c : UInt8) (s : List UInt8) (hs : s.length < 4294967281) (t : TypeId) :
    ∃ φ', (∀ i, i < h.length → φ' i = φ i) ∧ VR φ' (.c (.sl h.length 0 (splC c s).length 1)) (.slice (some ⟨w.heap.size, 0, none⟩) (Lib.countB ⟨s.toArray⟩ ⟨#[c]⟩ + 1) (Lib.countB ⟨s.toArray⟩ ⟨#[c]⟩ + 1)) ∧
      Mv φ (lkp h) w φ' (lkp (h ++ [.cells ((splC c s).map C.str) true])) (w.alloc (.cells ((Lib.splitB ⟨#[c]⟩ 0 (Lib.countB ⟨s.toArray⟩ ⟨#[c]⟩) ⟨s.toArray⟩).map Value.string).toArray t)) := by
  have hlen : ((Lib.splitB ⟨#[c]⟩ 0 (Lib.countB ⟨s.toArray⟩ ⟨#[c]⟩) ⟨s.toArray⟩).map Value.string).length = (splC c s).length := by
    have := (splC_cells φ c s).length
    simpa using this.symm
  have hnew := New.row (φ := φ) (w := w) (n := h.length) (cs := (splC c s).map C.str) (bs := []) (cur := ((Lib.splitB ⟨#[c]⟩ 0 (Lib.countB ⟨s.toArray⟩ ⟨#[c]⟩) ⟨s.toArray⟩).map Value.string).toArray) (e := t) (own := true)
    (fun φ' _ => ⟨_, rfl, by
      have e : (((Lib.splitB ⟨#[c]⟩ 0 (Lib.countB ⟨s.toArray⟩ ⟨#[c]⟩) ⟨s.toArray⟩).map Value.string).toArray.toList.take ((splC c s).map C.str).length) = (Lib.splitB ⟨#[c]⟩ 0 (Lib.countB ⟨s.toArray⟩ ⟨#[c]⟩) ⟨s.toArray⟩).map Value.string := by
        rw [List.take_of_length_le]
        simp only [List.length_map]
        have := hlen
        simp only [List.length_map] at this
        simp
        omega
      rw [e]
      exact splC_cells φ' c s⟩) w (Fr.refl _ _)
  have hout := hnew.out hh (hh.free _)
  have hlk : lkp (h ++ [.cells ((splC c s).map C.str) true]) = updH (lkp h) h.length [.cells ((splC c s).map C.str) true] [] := by
    have := lkp_step (h := h) (ns := [.cells ((splC c s).map C.str) true]) (us := []) (by simp)
    simpa [ups] using this
  refine ⟨_, fun i hi => hnew.old i (.inl hi), ?_, by rw [hlk]; exact hout.mv⟩
  refine .inr ⟨⟨w.heap.size, 0, ((Lib.splitB ⟨#[c]⟩ 0 (Lib.countB ⟨s.toArray⟩ ⟨#[c]⟩) ⟨s.toArray⟩).map Value.string).toArray.size⟩, Lib.countB ⟨s.toArray⟩ ⟨#[c]⟩ + 1, ?_, ?_, ?_, ?_, ?_⟩
  · unfold Phi.at; simp
  · rw [countB_len]
  · rw [countB_len]; exact Nat.le_refl _
  · rw [countB_len, splC_len]
    have := List.count_le_length (a := c) (l := s)
    have : maxLen = 9223372036854775807 := rfl
    omega
  · simp only [List.size_toArray, hlen, countB_len]
    omega
end Go.Proofs.YtanbjhhaoolneaaDoor.AM
