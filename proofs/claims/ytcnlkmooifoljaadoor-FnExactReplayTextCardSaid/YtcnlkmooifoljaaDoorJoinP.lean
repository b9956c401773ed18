import Derived.Test.YtcnlkmooifoljaaDoorAmE
/- The arguments of strings.Join: a slice of texts in the world. -/
namespace Go.Proofs.YtcnlkmooifoljaaDoor.AM
open Go
set_option maxRecDepth 1000000
theorem all_get {P : C → Bool} {l : List C} (h : l.all P = true) {j : Nat} {c : C} (hj : l[j]? = some c) : P c = true := List.all_eq_true.1 h c (List.mem_of_getElem? hj)
theorem join_args {φ : Phi} {h : Heap} {w : World} (hh : HeapOK φ (lkp h) w) {i o n : Nat} {cs : List C} {own : Bool} {v : Value} (hb : h[i]? = some (.cells cs own)) (hl : o + n ≤ cs.length) (hs : ((cs.drop o).take n).all isStrC = true) (hv : VR φ (.c (.sl i o n 1)) v) :
    (n = 0 ∧ ∃ a, v = .slice a 0 0) ∨ ∃ bk off c, v = .slice (some ⟨bk, off, none⟩) n c ∧ n ≤ c ∧ bk < w.heap.size ∧ ∀ (j : Nat) x, (((cs.drop o).take n).map fun c => (⟨(strC c).toArray⟩ : ByteArray))[j]? = some x → w.cell? ⟨bk, off + j, none⟩ = some (.string x) := by
  rcases hv with ⟨h0, a, ha⟩ | ⟨p, cap, hp, hv, hn, hc, ht⟩
  · exact .inl ⟨h0, a, ha⟩
  · right
    have hi : lkp h i = some (.cells cs own) := hb
    obtain ⟨cur, e, fr, h1, h2, h3, h4, h5⟩ := hh.blk i _ p hi hp
    refine ⟨p.b, p.o + o, cap, hv, hn, (Array.getElem?_eq_some_iff.1 h1).1, fun j x hx => ?_⟩
    rw [List.getElem?_map] at hx
    obtain ⟨c, hc1, hc2⟩ := Option.map_eq_some_iff.1 hx
    have hst := all_get hs hc1
    rw [List.getElem?_take] at hc1
    split at hc1
    · rw [List.getElem?_drop] at hc1
      obtain ⟨v1, hv1, hv2⟩ := h4 (o + j) c hc1
      unfold World.cell?
      simp only
      rw [h1]
      simp only [Option.isSome_none, Bool.false_eq_true, if_false]
      rw [Nat.add_assoc, hv1]
      cases c with
      | str s =>
        have hv2 : v1 = .string ⟨s.toArray⟩ := hv2
        rw [hv2, ← hc2]
        rfl
      | _ => cases hst
    · cases hc1
end Go.Proofs.YtcnlkmooifoljaaDoor.AM
