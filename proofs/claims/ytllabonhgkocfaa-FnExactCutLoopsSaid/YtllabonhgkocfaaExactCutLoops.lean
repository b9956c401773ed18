/- The program's CutLoops returns what the reference's returns, for all arguments that the statement lets in. No condition beside the statement's own. -/
import Derived.Test.YtllabonhgkocfaaCutL
import Derived.Test.YtllabonhgkocfaaRepOpen
import Derived.Test.YtllabonhgkocfaaSeat
import Derived.Test.YtllabonhgkocfaaAmE
namespace Go.Proofs.Ytllabonhgkocfaa
open Go Go.ChangeShapes Go.WideShapes Go.RowKit Go.WideElems
set_option maxRecDepth 100000
theorem cutLoops_holds_lifted (os : Os) (started : os.Started) (H : Type) (enc : TypeId × Value → H) :
    ReturnsInHanded {} Try.checked os 8 .any (Rows.fnExactCutLoopsSpec.pre6 enc Try.prog Try.f8 Rows.fnExactCutLoopsRow.domain Rows.fnExactCutLoopsRow.apart) (Rows.fnExactCutLoopsSpec.post enc Try.prog Try.f8 Rows.fnExactCutLoopsRow.apart Rows.fnExactCutLoopsRow.fresh Rows.fnExactCutLoopsRow.handsOn Rows.fnExactCutLoopsRow.again) := by
  refine returnsInHanded_of_change (C := Try.checked) Try.own started (by kernel_rfl) Try.func8
    (ChangeSpec.witness6 (enc := enc) (C := Try.checked) false ⟨#[], #[.agg ((Array.replicate 24 (.int .i64 0)).push (.slice none 0 0))], []⟩ 12 (by kernel_rfl) (by kernel_rfl) (by kernel_rfl) (by kernel_rfl)) ?_
  intro W base args ds gs before hval0 hW _ _
  have hval : ∀ (j : Nat) t v, Try.f8.params[j]? = some t → args[j]? = some v → Value.okWide Try.prog W .any base t v := hval0
  obtain ⟨p, q, hA, hV, _⟩ := id hW
  have hA : DataW.TrodAll enc Try.prog W 0 (fun _ => true) true [35] args.toList ds p := hA
  obtain ⟨rfl, rfl⟩ := trodVars_none hV
  obtain ⟨v0, d0, rfl, rfl, hD0⟩ := trodAll_one hA
  obtain ⟨r, l, u, φ, hr, hl, rfl, hheap, hu⟩ := AM.open_replay (by kernel_rfl) (hval 0 35 v0 rfl rfl) hD0
  have hargs : AM.All2 (AM.VR φ) [AM.repV r 0 l.length] [Value.agg (r.map (Value.int .i64) ++ [u]).toArray] := ⟨AM.VR_rep hu, trivial⟩
  have hcalls := AM.law_heap AM.fnOK (fn := Try.f8) (vs := #[Value.agg (r.map (Value.int .i64) ++ [u]).toArray]) (w := W) Try.func8 (by kernel_rfl) rfl hheap (by intro b hb; simp at hb; subst hb; rfl) hargs (AM.c_laws_FnExactCutLoops r hr l (Nat.le_trans hl (by decide)))
  refine hcalls.mono fun e W' ⟨he, hfr⟩ => ⟨_, he, ?_⟩
  exact AM.law_post Try.laid (fun t ht => by
    have ht : t ∈ [35] := ht
    simp at ht
    subst ht
    exact ⟨by kernel_rfl, of_decide_eq_true (by kernel_rfl)⟩) rfl hW rfl (bt := 4) (by kernel_rfl) rfl rfl rfl hfr
theorem cutLoops_holds_closed : joinedFacts Try.prog 8 Try.f8 Rows.fnExactCutLoopsSpec Rows.fnExactCutLoopsRow = true := by
  unfold joinedFacts
  rw [Try.laid, Try.rowed, Try.heard, Try.enter, Try.lifts, Try.made]
  kernel_rfl
theorem cutLoops_holds : Rows.FnExactCutLoopsSaid :=
  OpenClaim.holds_of_wide 8 Try.f8 rfl rfl rfl rfl rfl rfl rfl ⟨rfl, rfl, rfl, rfl, rfl⟩ rfl rfl rfl rfl rfl (by kernel_rfl) Try.func8 cutLoops_holds_closed
    (of_decide_eq_true (by kernel_rfl)) (by unfold Func.isWrapper; first | (rw [if_pos (by decide +kernel)]; kernel_rfl) | (rw [if_neg (by decide +kernel)]; exact ⟨rfl, rfl⟩))
    (fun os started H enc _ => cutLoops_holds_lifted os started H enc)
end Go.Proofs.Ytllabonhgkocfaa
