/- The program's DoServes returns what the reference's returns, for all arguments that the statement lets in. No condition beside the statement's own. -/
import Derived.Test.YtllabonhgkocfaaServes
import Derived.Test.YtllabonhgkocfaaRowsOpen
import Derived.Test.YtllabonhgkocfaaSeat
import Derived.Test.YtllabonhgkocfaaAmE
namespace Go.Proofs.Ytllabonhgkocfaa
open Go Go.ChangeShapes Go.WideShapes Go.RowKit Go.WideElems
set_option maxRecDepth 100000
theorem doServes_holds_lifted (os : Os) (started : os.Started) (H : Type) (enc : TypeId × Value → H) :
    ReturnsInHanded {} Try.checked os 12 .any (Rows.fnExactDoServesSpec.pre6 enc Try.prog Try.f12 Rows.fnExactDoServesRow.domain Rows.fnExactDoServesRow.apart) (Rows.fnExactDoServesSpec.post enc Try.prog Try.f12 Rows.fnExactDoServesRow.apart Rows.fnExactDoServesRow.fresh Rows.fnExactDoServesRow.handsOn Rows.fnExactDoServesRow.again) := by
  refine returnsInHanded_of_change (C := Try.checked) Try.own started (by kernel_rfl) Try.func12
    (ChangeSpec.witness6 (enc := enc) (C := Try.checked) false ⟨#[], #[.agg (Array.replicate 26 (.int .i64 0)), .slice none 0 0], []⟩ 12 (by kernel_rfl) (by kernel_rfl) (by kernel_rfl) (by kernel_rfl)) ?_
  intro W base args ds gs before hval0 hW _ _
  have hval : ∀ (j : Nat) t v, Try.f12.params[j]? = some t → args[j]? = some v → Value.okWide Try.prog W .any base t v := hval0
  obtain ⟨p, q, hA, hV, _⟩ := id hW
  have hA : DataW.TrodAll enc Try.prog W 0 (fun _ => true) true [80, 92] args.toList ds p := hA
  obtain ⟨rfl, rfl⟩ := trodVars_none hV
  obtain ⟨v0, v1, d0, d1, p0, p1, rfl, rfl, rfl, hD0, hD1⟩ := trodAll_two hA
  obtain ⟨x0, h0, rfl, _⟩ := AM.open_ints (n := 26) (by kernel_rfl) (hval 0 80 v0 rfl rfl)
  obtain ⟨l, φ, hl, hheap, hu⟩ := AM.open_fours (by kernel_rfl) (hval 1 92 v1 rfl rfl) hD1
  have hargs : AM.All2 (AM.VR φ) [.agg (x0.map (AM.C.int .i64)), .c (.sl 0 0 l.length 4)] [Value.agg (x0.map (Value.int .i64)).toArray, v1] := ⟨AM.VR_ints _ _, hu, trivial⟩
  have hcalls := AM.law_heap AM.fnOK (fn := Try.f12) (vs := #[Value.agg (x0.map (Value.int .i64)).toArray, v1]) (w := W) Try.func12 (by kernel_rfl) rfl hheap (by intro b hb; simp at hb; subst hb; rfl) hargs (AM.c_laws_FnExactDoServes x0 h0 l (Nat.le_trans hl (by decide)))
  refine hcalls.mono fun e W' ⟨he, hfr⟩ => ⟨_, he, ?_⟩
  exact AM.law_post Try.laid (fun t ht => by
    have ht : t ∈ [80, 92] := ht
    simp at ht
    rcases ht with rfl | rfl <;> exact ⟨by kernel_rfl, of_decide_eq_true (by kernel_rfl)⟩) rfl hW rfl (bt := 4) (by kernel_rfl) rfl rfl rfl hfr
theorem doServes_holds_closed : joinedFacts Try.prog 12 Try.f12 Rows.fnExactDoServesSpec Rows.fnExactDoServesRow = true := by
  unfold joinedFacts
  rw [Try.laid, Try.rowed, Try.heard, Try.enter, Try.lifts, Try.made]
  kernel_rfl
theorem doServes_holds : Rows.FnExactDoServesSaid :=
  OpenClaim.holds_of_wide 12 Try.f12 rfl rfl rfl rfl rfl rfl rfl ⟨rfl, rfl, rfl, rfl, rfl⟩ rfl rfl rfl rfl rfl (by kernel_rfl) Try.func12 doServes_holds_closed
    (of_decide_eq_true (by kernel_rfl)) (by unfold Func.isWrapper; first | (rw [if_pos (by decide +kernel)]; kernel_rfl) | (rw [if_neg (by decide +kernel)]; exact ⟨rfl, rfl⟩))
    (fun os started H enc _ => doServes_holds_lifted os started H enc)
end Go.Proofs.Ytllabonhgkocfaa
