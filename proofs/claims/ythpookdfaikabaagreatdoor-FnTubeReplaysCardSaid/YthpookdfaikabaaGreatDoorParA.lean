import Derived.Test.YthpookdfaikabaaGreatDoorAmE
import Derived.Lib.SplitLaws
import Derived.Lib.IndexLaws
import Derived.Test.YthpookdfaikabaaGreatDoorRepA
/- Cells that hold texts. -/
namespace Go.Proofs.YthpookdfaikabaaGreatDoor.AM
open Go
set_option maxRecDepth 1000000
set_option linter.unusedSimpArgs false
def strs (O : List (List UInt8)) : List C := O.map C.str
@[simp] theorem strs_len (O : List (List UInt8)) : (strs O).length = O.length := by simp [strs]
@[simp] theorem strs_ids (O : List (List UInt8)) : cids (strs O) = [] := by
  induction O with
  | nil => rfl
  | cons x O ih => simp only [strs, List.map_cons, cids] at ih ⊢; rw [ih]; rfl
@[simp] theorem strs_cmp (g : Nat → Nat) (O : List (List UInt8)) : cmp g (strs O) = strs O := cmp_pure (strs_ids O)
@[simp] theorem strs_dead (O : List (List UInt8)) : noDead (strs O) = true := by
  induction O with
  | nil => rfl
  | cons x O ih => simp only [strs, List.map_cons, noDead] at ih ⊢; exact ih
theorem strs_app (A B : List (List UInt8)) : strs (A ++ B) = strs A ++ strs B := by simp [strs]
theorem strs_get {P : List (List UInt8)} {k : Nat} (hk : k < P.length) : ((strs P).drop k).take 1 = [C.str (P.getD k [])] := by
  unfold strs
  rw [List.drop_eq_getElem_cons (by simpa using hk)]
  simp [List.getD_eq_getElem?_getD, List.getElem?_eq_getElem hk]
theorem strs_take (O : List (List UInt8)) : (strs O).take O.length = strs O := List.take_of_length_le (by simp)
theorem strs_isStr (O : List (List UInt8)) : (strs O).all isStrC = true := by
  unfold strs
  rw [List.all_map]
  exact List.all_eq_true.2 fun _ _ => rfl
theorem strs_strC (O : List (List UInt8)) : (strs O).map strC = O := by
  unfold strs
  rw [List.map_map]
  conv => rhs; rw [← List.map_id O]
  rfl
end Go.Proofs.YthpookdfaikabaaGreatDoor.AM

/- A text cut at a byte: plain laws, no program in sight. -/
namespace Go.Proofs.YthpookdfaikabaaGreatDoor.AM
open Go
set_option maxRecDepth 1000000
set_option linter.unusedSimpArgs false
set_option linter.unusedVariables false
theorem splC_ne (c : UInt8) : ∀ s : List UInt8, splC c s ≠ []
  | [] => by simp [splC]
  | b :: s => by
    unfold splC
    split
    · simp
    · split <;> simp
theorem splC_cons {c b : UInt8} (h : ¬ b = c) (s x : List UInt8) (r : List (List UInt8)) (hs : splC c s = x :: r) : splC c (b :: s) = (b :: x) :: r := by
  unfold splC
  rw [if_neg h, hs]
theorem splC_len (c : UInt8) : ∀ s : List UInt8, (splC c s).length = s.count c + 1
  | [] => rfl
  | b :: s => by
    have ih := splC_len c s
    by_cases h : b = c
    · subst h
      simp [splC, ih]
    · obtain ⟨x, r, hx⟩ : ∃ x r, splC c s = x :: r := by
        cases hc : splC c s with
        | nil => exact absurd hc (splC_ne c s)
        | cons x r => exact ⟨x, r, rfl⟩
      rw [splC_cons h s x r hx, List.count_cons_of_ne (by simpa using h)]
      rw [hx] at ih
      simpa using ih
theorem splitK_splC (c : UInt8) : ∀ s : List UInt8, Lib.splitK [c] 0 (s.count c) s = splC c s
  | [] => rfl
  | b :: s => by
    have ih := splitK_splC c s
    by_cases h : b = c
    · subst h
      rw [List.count_cons_self]
      unfold Lib.splitK
      have hi : Lib.index (b :: s) [b] = 0 := by rw [Lib.index_one]; simp [Lib.indexByte]
      rw [hi]
      simp [splC, ih]
    · rw [List.count_cons_of_ne (by simpa using h)]
      by_cases h0 : s.count c = 0
      · rw [h0] at ih ⊢
        have hs : splC c s = [s] := by rw [← ih]; rfl
        rw [splC_cons h s s [] hs]
        rfl
      · obtain ⟨k, hk⟩ : ∃ k, s.count c = k + 1 := ⟨s.count c - 1, by omega⟩
        rw [hk] at ih ⊢
        have hne : ¬ Lib.indexByte s c = -1 := by
          intro e
          have hm : c ∈ s := List.count_pos_iff.1 (by omega)
          obtain ⟨j, hj⟩ := List.getElem?_of_mem hm
          exact Lib.indexByte_none e j hj
        have hge := Lib.indexByte_ge s c
        obtain ⟨i, hi⟩ : ∃ i : Nat, Lib.indexByte s c = (i : Int) := ⟨(Lib.indexByte s c).toNat, by omega⟩
        have h1 : Lib.index s [c] = (i : Int) := by rw [Lib.index_one, hi]
        have h2 : Lib.index (b :: s) [c] = ((i + 1 : Nat) : Int) := by
          rw [Lib.index_one]
          unfold Lib.indexByte
          have hb : (b == c) = false := by simpa using h
          rw [hb, hi]
          have : ((i : Int) == -1) = false := beq_eq_false_iff_ne.2 (by omega)
          simp [this]
        unfold Lib.splitK at ih ⊢
        have m1 : ((i : Int) == -1) = false := beq_eq_false_iff_ne.2 (by omega)
        have m2 : (((i + 1 : Nat) : Int) == -1) = false := beq_eq_false_iff_ne.2 (by omega)
        rw [h1, m1] at ih
        rw [h2, m2]
        simp only [Bool.false_eq_true, if_false, Int.toNat_natCast, Nat.add_zero, List.length_cons, List.length_nil] at ih ⊢
        rw [splC_cons h s _ _ ih.symm]
        rfl
theorem splC_lib (c : UInt8) (s : List UInt8) : (Lib.splitB ⟨#[c]⟩ 0 (Lib.countB ⟨s.toArray⟩ ⟨#[c]⟩) ⟨s.toArray⟩).map (fun x => x.data.toList) = splC c s := by
  have h := Lib.splitB_data ⟨#[c]⟩ 0 (Lib.countB ⟨s.toArray⟩ ⟨#[c]⟩) ⟨s.toArray⟩
  have e : Lib.countB ⟨s.toArray⟩ ⟨#[c]⟩ = s.count c := Lib.count_one c s
  rw [e] at h ⊢
  rw [h]
  exact splitK_splC c s
theorem countB_len (c : UInt8) (s : List UInt8) : Lib.countB ⟨s.toArray⟩ ⟨#[c]⟩ + 1 = (splC c s).length := by
  rw [splC_len]
  have e : Lib.countB ⟨s.toArray⟩ ⟨#[c]⟩ = s.count c := Lib.count_one c s
  rw [e]
/-- the cells of the pieces -/
theorem splC_cells (φ : Phi) (c : UInt8) (s : List UInt8) : All2 (VRc φ) ((splC c s).map C.str) ((Lib.splitB ⟨#[c]⟩ 0 (Lib.countB ⟨s.toArray⟩ ⟨#[c]⟩) ⟨s.toArray⟩).map Value.string) := by
  rw [← splC_lib c s]
  generalize Lib.splitB ⟨#[c]⟩ 0 (Lib.countB ⟨s.toArray⟩ ⟨#[c]⟩) ⟨s.toArray⟩ = l
  induction l with
  | nil => trivial
  | cons x l ih => exact ⟨rfl, ih⟩
/-- what the library's function leaves -/
theorem split_ok {φ : Phi} {h : Heap} {w : World} (hh : HeapOK φ (lkp h) w) (c : UInt8) (s : List UInt8) (hs : s.length < 4294967281) (t : TypeId) :
    ∃ φ', (∀ i, i < h.length → φ' i = φ i) ∧ VR φ' (.c (.sl h.length 0 (splC c s).length 1)) (.slice (some ⟨w.heap.size, 0, none⟩) (Lib.countB ⟨s.toArray⟩ ⟨#[c]⟩ + 1) (Lib.countB ⟨s.toArray⟩ ⟨#[c]⟩ + 1)) ∧
      Mv φ (lkp h) w φ' (lkp (h ++ [.cells ((splC c s).map C.str) true])) (w.alloc (.cells ((Lib.splitB ⟨#[c]⟩ 0 (Lib.countB ⟨s.toArray⟩ ⟨#[c]⟩) ⟨s.toArray⟩).map Value.string).toArray t)) := by
  have hlen : ((Lib.splitB ⟨#[c]⟩ 0 (Lib.countB ⟨s.toArray⟩ ⟨#[c]⟩) ⟨s.toArray⟩).map Value.string).length = (splC c s).length := by
    have := (splC_cells φ c s).length
    simpa using this.symm
  have hnew := New.row (φ := φ) (w := w) (n := h.length) (cs := (splC c s).map C.str) (bs := []) (cur := ((Lib.splitB ⟨#[c]⟩ 0 (Lib.countB ⟨s.toArray⟩ ⟨#[c]⟩) ⟨s.toArray⟩).map Value.string).toArray) (e := t) (own := true)
    (fun φ' _ => ⟨_, rfl, by
      have e : (((Lib.splitB ⟨#[c]⟩ 0 (Lib.countB ⟨s.toArray⟩ ⟨#[c]⟩) ⟨s.toArray⟩).map Value.string).toArray.toList.take ((splC c s).map C.str).length) = (Lib.splitB ⟨#[c]⟩ 0 (Lib.countB ⟨s.toArray⟩ ⟨#[c]⟩) ⟨s.toArray⟩).map Value.string := by
        rw [List.take_of_length_le]
        simp only [List.length_map]
        have := hlen
        simp only [List.length_map] at this
        simp
        omega
      rw [e]
      exact splC_cells φ' c s⟩) w (Fr.refl _ _)
  have hout := hnew.out hh (hh.free _)
  have hlk : lkp (h ++ [.cells ((splC c s).map C.str) true]) = updH (lkp h) h.length [.cells ((splC c s).map C.str) true] [] := by
    have := lkp_step (h := h) (ns := [.cells ((splC c s).map C.str) true]) (us := []) (by simp)
    simpa [ups] using this
  refine ⟨_, fun i hi => hnew.old i (.inl hi), ?_, by rw [hlk]; exact hout.mv⟩
  refine .inr ⟨⟨w.heap.size, 0, ((Lib.splitB ⟨#[c]⟩ 0 (Lib.countB ⟨s.toArray⟩ ⟨#[c]⟩) ⟨s.toArray⟩).map Value.string).toArray.size⟩, Lib.countB ⟨s.toArray⟩ ⟨#[c]⟩ + 1, ?_, ?_, ?_, ?_, ?_⟩
  · unfold Phi.at; simp
  · rw [countB_len]
  · rw [countB_len]; exact Nat.le_refl _
  · rw [countB_len, splC_len]
    have := List.count_le_length (a := c) (l := s)
    have : maxLen = 9223372036854775807 := rfl
    omega
  · simp only [List.size_toArray, hlen, countB_len]
    omega
end Go.Proofs.YthpookdfaikabaaGreatDoor.AM

/- The arguments of strings.Join: a slice of texts in the world. -/
namespace Go.Proofs.YthpookdfaikabaaGreatDoor.AM
open Go
set_option maxRecDepth 1000000
theorem all_get {P : C → Bool} {l : List C} (h : l.all P = true) {j : Nat} {c : C} (hj : l[j]? = some c) : P c = true := List.all_eq_true.1 h c (List.mem_of_getElem? hj)
theorem join_args {φ : Phi} {h : Heap} {w : World} (hh : HeapOK φ (lkp h) w) {i o n : Nat} {cs : List C} {own : Bool} {v : Value} (hb : h[i]? = some (.cells cs own)) (hl : o + n ≤ cs.length) (hs : ((cs.drop o).take n).all isStrC = true) (hv : VR φ (.c (.sl i o n 1)) v) :
    (n = 0 ∧ ∃ a, v = .slice a 0 0) ∨ ∃ bk off c, v = .slice (some ⟨bk, off, none⟩) n c ∧ n ≤ c ∧ bk < w.heap.size ∧ ∀ (j : Nat) x, (((cs.drop o).take n).map fun c => (⟨(strC c).toArray⟩ : ByteArray))[j]? = some x → w.cell? ⟨bk, off + j, none⟩ = some (.string x) := by
  rcases hv with ⟨h0, a, ha⟩ | ⟨p, cap, hp, hv, hn, hc, ht⟩
  · exact .inl ⟨h0, a, ha⟩
  · right
    have hi : lkp h i = some (.cells cs own) := hb
    obtain ⟨cur, e, fr, h1, h2, h3, h4, h5⟩ := hh.blk i _ p hi hp
    refine ⟨p.b, p.o + o, cap, hv, hn, (Array.getElem?_eq_some_iff.1 h1).1, fun j x hx => ?_⟩
    rw [List.getElem?_map] at hx
    obtain ⟨c, hc1, hc2⟩ := Option.map_eq_some_iff.1 hx
    have hst := all_get hs hc1
    rw [List.getElem?_take] at hc1
    split at hc1
    · rw [List.getElem?_drop] at hc1
      obtain ⟨v1, hv1, hv2⟩ := h4 (o + j) c hc1
      unfold World.cell?
      simp only
      rw [h1]
      simp only [Option.isSome_none, Bool.false_eq_true, if_false]
      rw [Nat.add_assoc, hv1]
      cases c with
      | str s =>
        have hv2 : v1 = .string ⟨s.toArray⟩ := hv2
        rw [hv2, ← hc2]
        rfl
      | _ => cases hst
    · cases hc1
end Go.Proofs.YthpookdfaikabaaGreatDoor.AM

/- Texts of racks and of pours: what they say; plain laws, no program in sight. -/
namespace Go.Proofs.YthpookdfaikabaaGreatDoor.AM
open Go
set_option maxRecDepth 1000000
set_option linter.unusedSimpArgs false
set_option linter.unusedVariables false
/-- a text joined at a byte -/
def joinC (c : UInt8) : List (List UInt8) → List UInt8
  | [] => []
  | [x] => x
  | x :: y :: r => x ++ c :: joinC c (y :: r)
theorem joinC_cons (c b : UInt8) (x : List UInt8) (r : List (List UInt8)) : joinC c ((b :: x) :: r) = b :: joinC c (x :: r) := by
  cases r <;> rfl
theorem joinC_splC (c : UInt8) : ∀ s : List UInt8, joinC c (splC c s) = s
  | [] => rfl
  | b :: s => by
    have ih := joinC_splC c s
    obtain ⟨x, r, hx⟩ : ∃ x r, splC c s = x :: r := by
      cases hc : splC c s with
      | nil => exact absurd hc (splC_ne c s)
      | cons x r => exact ⟨x, r, rfl⟩
    by_cases h : b = c
    · subst h
      have e : splC b (b :: s) = [] :: splC b s := by simp [splC]
      rw [e, hx]
      rw [hx] at ih
      show [] ++ b :: joinC b (x :: r) = b :: s
      rw [ih]
      rfl
    · rw [splC_cons h s x r hx, joinC_cons]
      rw [hx] at ih
      rw [ih]
def sgn (x : Nat) : Int := if x = 46 then 0 else if 97 ≤ x ∧ x ≤ 101 then (x : Int) - 96 else -1
def sgB (b : UInt8) : Int := sgn b.toNat
def goodW (p : List UInt8) : Bool := decide (p.length = 4) && p.all (fun b => decide (0 ≤ sgB b))
def goodS (s : List UInt8) : Bool := decide ((splC 47 s).length = 6) && (splC 47 s).all goodW
def rackS (s : List UInt8) : List Int := (splC 47 s).flatten.map sgB
def goodT (s : List UInt8) : Bool := decide (s.length = 29) && (List.range 29).all fun i => if i % 5 = 4 then s.getD i 0 == 47 else decide (0 ≤ sgB (s.getD i 0))
def rackT (s : List UInt8) : List Int := (List.range 24).map fun j => sgB (s.getD (j / 4 * 5 + j % 4) 0)
theorem sg47 : sgB 47 = -1 := by decide
theorem sg_ne {b : UInt8} (h : 0 ≤ sgB b) : ¬ b = 47 := by
  intro e
  subst e
  rw [sg47] at h
  omega
theorem split29 : ∀ s : List UInt8, s.length = 29 → ∃ a0 a1 a2 a3 a4 b0 b1 b2 b3 b4 c0 c1 c2 c3 c4 d0 d1 d2 d3 d4 e0 e1 e2 e3 e4 f0 f1 f2 f3, s = [a0, a1, a2, a3, a4, b0, b1, b2, b3, b4, c0, c1, c2, c3, c4, d0, d1, d2, d3, d4, e0, e1, e2, e3, e4, f0, f1, f2, f3]
  | [a0, a1, a2, a3, a4, b0, b1, b2, b3, b4, c0, c1, c2, c3, c4, d0, d1, d2, d3, d4, e0, e1, e2, e3, e4, f0, f1, f2, f3], _ => ⟨_, _, _, _, _, _, _, _, _, _, _, _, _, _, _, _, _, _, _, _, _, _, _, _, _, _, _, _, _, rfl⟩
theorem split4 : ∀ s : List UInt8, s.length = 4 → ∃ a b c d, s = [a, b, c, d]
  | [a, b, c, d], _ => ⟨_, _, _, _, rfl⟩
theorem good_TS {s : List UInt8} (h : goodT s = true) : goodS s = true ∧ rackS s = rackT s := by
  unfold goodT at h
  simp only [Bool.and_eq_true, decide_eq_true_eq] at h
  obtain ⟨hl, h⟩ := h
  obtain ⟨a0, a1, a2, a3, a4, b0, b1, b2, b3, b4, c0, c1, c2, c3, c4, d0, d1, d2, d3, d4, e0, e1, e2, e3, e4, f0, f1, f2, f3, rfl⟩ := split29 s hl
  simp [List.range, List.range.loop] at h
  obtain ⟨ha0, ha1, ha2, ha3, rfl, hb0, hb1, hb2, hb3, rfl, hc0, hc1, hc2, hc3, rfl, hd0, hd1, hd2, hd3, rfl, he0, he1, he2, he3, rfl, hf0, hf1, hf2, hf3⟩ := h
  simp [goodS, rackS, rackT, splC, goodW, List.range, List.range.loop, ha0, ha1, ha2, ha3, hb0, hb1, hb2, hb3, hc0, hc1, hc2, hc3, hd0, hd1, hd2, hd3, he0, he1, he2, he3, hf0, hf1, hf2, hf3, sg_ne]
theorem good_ST {s : List UInt8} (h : goodS s = true) : goodT s = true := by
  unfold goodS at h
  simp only [Bool.and_eq_true, decide_eq_true_eq] at h
  obtain ⟨hl, h⟩ := h
  have hj := joinC_splC 47 s
  generalize splC 47 s = P at *
  match P, hl, h, hj with
  | [p0, p1, p2, p3, p4, p5], _, h, hj =>
    simp only [List.all_cons, List.all_nil, Bool.and_true, Bool.and_eq_true, goodW, decide_eq_true_eq] at h
    obtain ⟨⟨l0, g0⟩, ⟨l1, g1⟩, ⟨l2, g2⟩, ⟨l3, g3⟩, ⟨l4, g4⟩, ⟨l5, g5⟩⟩ := h
    obtain ⟨_, _, _, _, rfl⟩ := split4 p0 l0
    obtain ⟨_, _, _, _, rfl⟩ := split4 p1 l1
    obtain ⟨_, _, _, _, rfl⟩ := split4 p2 l2
    obtain ⟨_, _, _, _, rfl⟩ := split4 p3 l3
    obtain ⟨_, _, _, _, rfl⟩ := split4 p4 l4
    obtain ⟨_, _, _, _, rfl⟩ := split4 p5 l5
    simp [joinC] at hj
    subst hj
    simp at g0 g1 g2 g3 g4 g5
    simp [goodT, List.range, List.range.loop, g0, g1, g2, g3, g4, g5]
theorem good_eq (s : List UInt8) : goodS s = goodT s := by
  cases hT : goodT s with
  | true => exact (good_TS hT).1
  | false =>
    cases hS : goodS s with
    | false => rfl
    | true => rw [good_ST hS] at hT; cases hT
def okS (s : List UInt8) : Bool := goodS s && okRack (rackS s)
theorem good_len {s : List UInt8} (h : goodS s = true) : (rackS s).length = 24 := by
  rw [(good_TS (good_ST h)).2]
  simp [rackT]
/-- what a text of a rack says -/
def rkS (s : List UInt8) : List Int := if okS s = true then rackS s else List.replicate 24 0
theorem rkS_len (s : List UInt8) : (rkS s).length = 24 := by
  unfold rkS
  split
  · rename_i h
    unfold okS at h
    simp only [Bool.and_eq_true] at h
    exact good_len h.1
  · simp
/-! ### a replay -/
def num (b : UInt8) : Int := (b.toNat : Int) - 48
def two (w : List UInt8) : Bool := decide (w.length = 2)
def pz (w : List UInt8) : Int × Int := (num (w.getD 0 0), num (w.getD 1 0))
def dig (w : List UInt8) : Bool := two w && decide (48 ≤ (w.getD 0 0).toNat ∧ (w.getD 0 0).toNat ≤ 53) && decide (48 ≤ (w.getD 1 0).toNat ∧ (w.getD 1 0).toNat ≤ 53)
def headW (s : List UInt8) : List UInt8 := (splC 32 s).headD []
def tailW (s : List UInt8) : List (List UInt8) := (splC 32 s).tail
def repI (s : List UInt8) : Bool := okS (headW s) && decide ((splC 32 s).length ≤ 61) && (tailW s).all two && repB (rkS (headW s)) ((tailW s).map pz)
def repS (s : List UInt8) : Bool := decide (s.length ≤ 209) && okS (headW s) && (tailW s).all dig && repB (rkS (headW s)) ((tailW s).map pz)
theorem joinC_len (c : UInt8) : ∀ (x : List UInt8) (r : List (List UInt8)), (∀ y ∈ r, y.length = 2) → (joinC c (x :: r)).length = x.length + 3 * r.length
  | x, [], _ => by simp [joinC]
  | x, y :: r, h => by
    have h1 := h y (by simp)
    have ih := joinC_len c y r fun z hz => h z (by simp [hz])
    show (x ++ c :: joinC c (y :: r)).length = _
    simp only [List.length_append, List.length_cons, ih]
    omega
theorem headW_tailW (s : List UInt8) : splC 32 s = headW s :: tailW s := by
  unfold headW tailW
  cases hc : splC 32 s with
  | nil => exact absurd hc (splC_ne 32 s)
  | cons x r => rfl
theorem okS_len {s : List UInt8} (h : okS s = true) : s.length = 29 := by
  unfold okS at h
  simp only [Bool.and_eq_true] at h
  have := good_ST h.1
  unfold goodT at this
  simp only [Bool.and_eq_true, decide_eq_true_eq] at this
  exact this.1
end Go.Proofs.YthpookdfaikabaaGreatDoor.AM

