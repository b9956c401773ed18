/- The program's IsValidRecord returns what the reference's returns, for all arguments. No condition beside the statement's own. -/
import Derived.Test.YtpjakffgjccpgaaRec
import Derived.Test.YtpjakffgjccpgaaSeat
import Derived.Test.YtpjakffgjccpgaaAmE
namespace Go.Proofs.Ytpjakffgjccpgaa
open Go Go.ChangeShapes Go.WideShapes Go.RowKit Go.WideElems
set_option maxRecDepth 100000
def AM.strT (P : Program) (t : TypeId) : Bool := match P.underlying t with | some .string => true | _ => false
theorem AM.strT_ok {P : Program} {t : TypeId} (h : AM.strT P t = true) : P.underlying t = some .string := by
  unfold AM.strT at h
  split at h
  · assumption
  · cases h
/-- an argument that is a struct of two strings -/
def AM.plainStrs (P : Program) (t : TypeId) : Bool := (AM.aggT P t == some true) && (P.cellsOf t == 2) && (match P.cellTypes P.depth t with | some [u, v] => AM.strT P u && AM.strT P v | _ => false)
theorem AM.str_cell {P : Program} {W : World} {base : Nat} {u : TypeId} {v : Value} (hk : P.underlying u = some .string) (h : Cell.okWide P W .any base u v) : ∃ s : List UInt8, v = .string ⟨s.toArray⟩ ∧ s.length ≤ 9223372036854775807 := by
  cases v with
  | string s =>
    simp only [Cell.okWide, hk, Cell.ok] at h
    have h : (s.size : Int) ≤ 9223372036854775807 := h
    refine ⟨s.data.toList, rfl, ?_⟩
    have e : s.data.toList.length = s.size := rfl
    omega
  | _ => simp [Cell.okWide, hk, Cell.ok] at h
theorem AM.open_strs {P : Program} {W : World} {base : Nat} {t : TypeId} {v : Value} (hp : AM.plainStrs P t = true) (h : Value.okWide P W .any base t v) : ∃ a b : List UInt8, v = .agg #[.string ⟨a.toArray⟩, .string ⟨b.toArray⟩] ∧ a.length ≤ 9223372036854775807 ∧ b.length ≤ 9223372036854775807 := by
  simp only [AM.plainStrs, Bool.and_eq_true, beq_iff_eq] at hp
  obtain ⟨⟨h1, h2⟩, h3⟩ := hp
  have hagg : ∃ cs, v = .agg cs ∧ cs.size = P.cellsOf t ∧ Row.okWide P W .any base t cs := by
    unfold Value.okWide at h
    unfold AM.aggT at h1
    split at h
    · exact h
    · exact h
    · rename_i ha hb
      split at h1
      · exact absurd ‹_› (ha _)
      · exact absurd ‹_› (hb _ _)
      · cases h1
      · cases h1
  obtain ⟨cs, rfl, hsz, ts, hts, _, hcell⟩ := hagg
  rw [hts] at h3
  rw [h2] at hsz
  split at h3
  · rename_i u w hc
    injection hc with hc
    subst hc
    simp only [Bool.and_eq_true] at h3
    have hx0 : cs[0]? = some cs[0] := Array.getElem?_eq_getElem (by omega)
    have hx1 : cs[1]? = some cs[1] := Array.getElem?_eq_getElem (by omega)
    obtain ⟨u0, e0, k0⟩ := hcell 0 _ hx0
    obtain ⟨u1, e1, k1⟩ := hcell 1 _ hx1
    simp at e0 e1
    subst e0; subst e1
    obtain ⟨a, ea, la⟩ := AM.str_cell (AM.strT_ok h3.1) k0
    obtain ⟨b, eb, lb⟩ := AM.str_cell (AM.strT_ok h3.2) k1
    refine ⟨a, b, ?_, la, lb⟩
    congr 1
    apply Array.ext
    · simpa using hsz
    · intro i hi hi'
      have hi2 : i < 2 := by omega
      have : i = 0 ∨ i = 1 := by omega
      rcases this with rfl | rfl
      · exact ea
      · exact eb
  · cases h3
theorem isValidRecord_lifted (os : Os) (started : os.Started) (H : Type) (enc : TypeId × Value → H) :
    ReturnsInHanded {} Try.checked os 3 .any (Rows.fnExactIsValidRecordSpec.pre6 enc Try.prog Try.f3 Rows.fnExactIsValidRecordRow.domain Rows.fnExactIsValidRecordRow.apart) (Rows.fnExactIsValidRecordSpec.post enc Try.prog Try.f3 Rows.fnExactIsValidRecordRow.apart Rows.fnExactIsValidRecordRow.fresh Rows.fnExactIsValidRecordRow.handsOn Rows.fnExactIsValidRecordRow.again) := by
  refine returnsInHanded_of_change (C := Try.checked) Try.own started (by kernel_rfl) Try.func3
    (ChangeSpec.witness6 (enc := enc) (C := Try.checked) false ⟨#[], #[.agg (Array.replicate 2 (.string ⟨#[]⟩))], []⟩ 12 (by kernel_rfl) (by kernel_rfl) (by kernel_rfl) (by kernel_rfl)) ?_
  intro W base args ds gs before hval0 hW _ _
  have hval : ∀ (j : Nat) t v, Try.f3.params[j]? = some t → args[j]? = some v → Value.okWide Try.prog W .any base t v := hval0
  obtain ⟨p, q, hA, hV, _⟩ := id hW
  have hA : DataW.TrodAll enc Try.prog W 0 (fun _ => true) true [23] args.toList ds p := hA
  obtain ⟨rfl, rfl⟩ := trodVars_none hV
  obtain ⟨v0, d0, rfl, rfl, _⟩ := trodAll_one hA
  obtain ⟨a, b, rfl, la, lb⟩ := AM.open_strs (by kernel_rfl) (hval 0 23 v0 rfl rfl)
  have hargs : AM.All2 (AM.VR AM.noPhi) [AM.recV a b] [Value.agg #[.string ⟨a.toArray⟩, .string ⟨b.toArray⟩]] := ⟨⟨_, rfl, rfl, rfl, trivial⟩, trivial⟩
  have hcalls := AM.law_val AM.fnOK (fn := Try.f3) (vs := #[Value.agg #[.string ⟨a.toArray⟩, .string ⟨b.toArray⟩]]) (w := W) Try.func3 (by kernel_rfl) rfl hargs (AM.c_laws_FnExactIsValidRecord a b la lb)
  refine hcalls.mono fun e W' ⟨he, hfr⟩ => ⟨_, he, ?_⟩
  exact AM.law_post Try.laid (fun t ht => by
    have ht : t ∈ [23] := ht
    simp at ht
    subst ht
    exact ⟨by kernel_rfl, of_decide_eq_true (by kernel_rfl)⟩) rfl hW rfl (bt := 4) (by kernel_rfl) rfl rfl rfl hfr
theorem isValidRecord_closed : joinedFacts Try.prog 3 Try.f3 Rows.fnExactIsValidRecordSpec Rows.fnExactIsValidRecordRow = true := by
  unfold joinedFacts
  rw [Try.laid, Try.rowed, Try.heard, Try.enter, Try.lifts, Try.made]
  kernel_rfl
theorem isValidRecord_holds : Rows.FnExactIsValidRecordSaid :=
  OpenClaim.holds_of_wide 3 Try.f3 rfl rfl rfl rfl rfl rfl rfl ⟨rfl, rfl, rfl, rfl, rfl⟩ rfl rfl rfl rfl rfl (by kernel_rfl) Try.func3 isValidRecord_closed
    (of_decide_eq_true (by kernel_rfl)) (by unfold Func.isWrapper; first | (rw [if_pos (by decide +kernel)]; kernel_rfl) | (rw [if_neg (by decide +kernel)]; exact ⟨rfl, rfl⟩))
    (fun os started H enc _ => isValidRecord_lifted os started H enc)
end Go.Proofs.Ytpjakffgjccpgaa
