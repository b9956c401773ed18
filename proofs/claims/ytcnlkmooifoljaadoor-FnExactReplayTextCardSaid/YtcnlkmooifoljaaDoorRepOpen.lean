import Derived.Test.YtcnlkmooifoljaaDoorRepDefs
import Derived.Test.YtcnlkmooifoljaaDoorAmE
/- Arguments with pours in a slice: a list of pours, a replay. -/
namespace Go.Proofs.YtcnlkmooifoljaaDoor.AM
open Go Go.ChangeShapes Go.WideShapes Go.RowKit Go.WideElems Go.Deep
set_option maxRecDepth 1000000
theorem pairs_of : ∀ (len : Nat) (xs : List Int), xs.length = len * 2 → ∃ l : List (Int × Int), l.length = len ∧ flatZ l = xs
  | 0, xs, h => ⟨[], rfl, (List.eq_nil_of_length_eq_zero (by omega)).symm⟩
  | n + 1, [], h => by simp at h
  | n + 1, [_], h => by simp at h; omega
  | n + 1, a :: b :: xs, h => by
    obtain ⟨l, hl, hf⟩ := pairs_of n xs (by simp at h; omega)
    exact ⟨(a, b) :: l, by simp [hl], by rw [← hf]; rfl⟩
/-- the types that a replay is made of: 24 ints, a slice of pairs of ints -/
def repT (P : Program) (t : TypeId) : Option (Field × Field) := match P.underlying t with
  | some (.struct fs) => match fs.toList with
    | [f0, f1] => some (f0, f1)
    | _ => none
  | _ => none
def repOK (P : Program) (t : TypeId) : Bool := match repT P t with
  | none => false
  | some (f0, f1) => (aggT P t == some true) && (P.cellsOf t == 25) && (f1.offset == 24) && (P.cellsOf f1.type == 1) && (match P.cellTypes P.depth t with | some ts => (ts.take 24).all (fun u => intK P u == some .i64) && (ts.length == 25) | none => false) &&
    (match slEl P f1.type with | some e => (match arEl P e with | some (n, it) => (n == 2) && (intK P it == some .i64) && (P.cellsOf e == 2) && (P.cellsOf it == 1) | none => false) | none => false)
theorem open_replay {H : Type} {enc : TypeId × Value → H} {P : Program} {W : World} {base : Nat} {t : TypeId} {v : Value} {d : DataW H} {p : List MemPlace} (hp : repOK P t = true) (hw : Value.okWide P W .any base t v) (hD : DataW.Trod enc P W 0 (fun _ => true) true t v d p) (htab : TabIn W := by exact fun _ _ h => by cases h) :
    ∃ (r : List Int) (l : List (Int × Int)) (u : Value) (φ : Phi), r.length = 24 ∧ l.length ≤ maxLen ∧ v = .agg (r.map (Value.int .i64) ++ [u]).toArray ∧ HeapOK φ (lkp [.cells (cZ l) false]) W ∧ VRc φ (.sl 0 0 l.length 2) u := by
  unfold repOK at hp
  split at hp
  · cases hp
  · rename_i f0 f1 hf
    have hstr : P.underlying t = some (.struct #[f0, f1]) := by
      unfold repT at hf
      split at hf
      · rename_i fs hfs
        split at hf
        · rename_i g0 g1 hg
          injection hf with hf
          injection hf with e0 e1
          subst e0; subst e1
          rw [hfs]
          congr 2
          exact Array.ext' hg
        · cases hf
      · cases hf
    simp only [Bool.and_eq_true, beq_iff_eq] at hp
    obtain ⟨⟨⟨⟨⟨h1, h2⟩, h3⟩, h4⟩, h5⟩, h6⟩ := hp
    have hagg : ∃ cs, v = .agg cs ∧ cs.size = P.cellsOf t ∧ Row.okWide P W .any base t cs := by
      unfold Value.okWide at hw
      rw [hstr] at hw
      exact hw
    obtain ⟨cs, rfl, hsz, ts, hts, _, hcell⟩ := hagg
    rw [hts] at h5
    simp only [Bool.and_eq_true, beq_iff_eq] at h5
    obtain ⟨h5, h5l⟩ := h5
    rw [h2] at hsz
    have hall : ∀ (i : Nat), i < 24 → ∃ x : Int, cs[i]? = some (Value.int .i64 x) := by
      intro i hi
      obtain ⟨u, hu, hok⟩ := hcell i (cs[i]'(by omega)) (Array.getElem?_eq_getElem _)
      have hu' : (ts.take 24)[i]? = some u := by rw [h5l, Nat.mod_eq_of_lt (by omega)] at hu; rw [List.getElem?_take, if_pos hi]; exact hu
      have := List.all_eq_true.1 h5 u (List.mem_of_getElem? hu')
      have hk : P.underlying u = some (.int .i64) := intK_ok (by simpa using this)
      simp only [Cell.okWide, hk, Cell.ok] at hok
      rw [Array.getElem?_eq_getElem (by omega)]
      cases hv : cs[i]'(by omega) with
      | int k x =>
        rw [hv] at hok
        obtain ⟨rfl, hx⟩ := hok
        exact ⟨x, rfl⟩
      | _ => rw [hv] at hok; exact hok.elim
    have hall' : ∀ i : Nat, ∃ x : Int, i < 24 → cs[i]? = some (Value.int .i64 x) := fun i => by
      by_cases hi : i < 24
      · obtain ⟨x, hx⟩ := hall i hi; exact ⟨x, fun _ => hx⟩
      · exact ⟨0, fun h => absurd h hi⟩
    obtain ⟨g, hg⟩ := Classical.axiomOfChoice hall'
    have hcs : cs.toList = ((List.range 24).map g).map (Value.int .i64) ++ [cs[24]'(by omega)] := by
      apply List.ext_getElem?
      intro i
      by_cases hi : i < 24
      · rw [List.getElem?_append_left (by simpa using hi)]
        have := hg i hi
        simp [hi] at this ⊢
        exact this
      · by_cases hi2 : i = 24
        · subst hi2
          rw [List.getElem?_append_right (by simp)]
          simp
        · rw [List.getElem?_eq_none (by simp; omega), List.getElem?_eq_none (by simp; omega)]
    obtain ⟨fuel, hDD⟩ := hD
    have hDD : DataW.trod enc P W 0 (fun _ => true) true fuel t cs.toList = some (d, p) := hDD
    obtain ⟨y0, y1, n, _, _, _, hy1⟩ := trod_struct2 hstr hDD
    rw [h3, h4, hcs, List.drop_append_of_le_length (by simp), List.drop_of_length_le (by simp)] at hy1
    split at h6
    · rename_i e he
      split at h6
      · rename_i m it hm
        simp only [Bool.and_eq_true, beq_iff_eq] at h6
        obtain ⟨⟨⟨rfl, h7⟩, h8⟩, h9⟩ := h6
        obtain ⟨u, xs, len, φ, hu, hxs, hlen, _, hheap, hvr⟩ := open_intRows (slEl_ok he) (arEl_ok hm) (intK_ok h7) h8 h9 (by decide) hy1 htab
        obtain ⟨l, hl, hfl⟩ := pairs_of len xs hxs
        refine ⟨(List.range 24).map g, l, u, φ, by simp, by omega, ?_, by unfold cZ; rw [hfl]; exact hheap, by rw [hl]; exact hvr⟩
        congr 1
        apply Array.ext'
        rw [hcs]
        simp at hu
        rw [hu]
      · cases h6
    · cases h6
theorem VR_rep {φ : Phi} {r : List Int} {n : Nat} {u : Value} (h : VRc φ (.sl 0 0 n 2) u) : VR φ (repV r 0 n) (.agg (r.map (Value.int .i64) ++ [u]).toArray) := ⟨_, rfl, (ints_ok φ r).append ⟨h, trivial⟩⟩
/-- a slice of pairs of ints -/
def pairsOK (P : Program) (t : TypeId) : Bool := match slEl P t with
  | some e => (match arEl P e with | some (n, it) => (n == 2) && (intK P it == some .i64) && (P.cellsOf e == 2) && (P.cellsOf it == 1) | none => false)
  | none => false
theorem open_pairs {H : Type} {enc : TypeId × Value → H} {P : Program} {W : World} {base : Nat} {t : TypeId} {v : Value} {d : DataW H} {p : List MemPlace} (hp : pairsOK P t = true) (hw : Value.okWide P W .any base t v) (hD : DataW.Trod enc P W 0 (fun _ => true) true t v d p) (htab : TabIn W := by exact fun _ _ h => by cases h) :
    ∃ (l : List (Int × Int)) (φ : Phi), l.length ≤ maxLen ∧ HeapOK φ (lkp [.cells (cZ l) false]) W ∧ VRc φ (.sl 0 0 l.length 2) v := by
  unfold pairsOK at hp
  split at hp
  · rename_i e he
    split at hp
    · rename_i m it hm
      simp only [Bool.and_eq_true, beq_iff_eq] at hp
      obtain ⟨⟨⟨rfl, h7⟩, h8⟩, h9⟩ := hp
      have hk := slEl_ok he
      obtain ⟨fuel, hDD⟩ := hD
      obtain ⟨u, xs, len, φ, hu, hxs, hlen, _, hheap, hvr⟩ := open_intRows hk (arEl_ok hm) (intK_ok h7) h8 h9 (by decide) hDD htab
      have hvu : v = u := by
        have hw : Cell.okWide P W .any base t v := by
          unfold Value.okWide at hw
          rw [hk] at hw
          exact hw
        cases v with
        | agg cs => simp [Cell.okWide, hk, Cell.ok] at hw
        | _ => first | (simp [Value.cells] at hu; exact hu) | (simp [Cell.okWide, hk, Cell.ok] at hw)
      subst hvu
      obtain ⟨l, hl, hfl⟩ := pairs_of len xs hxs
      exact ⟨l, φ, by omega, by unfold cZ; rw [hfl]; exact hheap, by rw [hl]; exact hvr⟩
    · cases hp
  · cases hp
end Go.Proofs.YtcnlkmooifoljaaDoor.AM
