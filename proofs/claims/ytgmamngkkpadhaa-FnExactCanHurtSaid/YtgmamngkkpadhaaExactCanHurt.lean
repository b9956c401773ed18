/- The program's CanHurt returns what the reference's returns, for all arguments that the statement lets in. No condition beside the statement's own. -/
import Derived.Test.YtgmamngkkpadhaaHurt
import Derived.Test.YtgmamngkkpadhaaSeat
import Derived.Test.YtgmamngkkpadhaaAmE
namespace Go.Proofs.Ytgmamngkkpadhaa
open Go Go.ChangeShapes Go.WideShapes Go.RowKit Go.WideElems
set_option maxRecDepth 100000
theorem canHurt_holds_lifted (os : Os) (started : os.Started) (H : Type) (enc : TypeId × Value → H) :
    ReturnsInHanded {} Try.checked os 13 .any (Rows.fnExactCanHurtSpec.pre6 enc Try.prog Try.f13 Rows.fnExactCanHurtRow.domain Rows.fnExactCanHurtRow.apart) (Rows.fnExactCanHurtSpec.post enc Try.prog Try.f13 Rows.fnExactCanHurtRow.apart Rows.fnExactCanHurtRow.fresh Rows.fnExactCanHurtRow.handsOn Rows.fnExactCanHurtRow.again) := by
  refine returnsInHanded_of_change (C := Try.checked) Try.own started (by kernel_rfl) Try.func13
    (ChangeSpec.witness6 (enc := enc) (C := Try.checked) false ⟨#[], #[.agg (Array.replicate 24 (.int .i64 0))], []⟩ 12 (by kernel_rfl) (by kernel_rfl) (by kernel_rfl) (by kernel_rfl)) ?_
  intro W base args ds gs before hval0 hW _ _
  have hval : ∀ (j : Nat) t v, Try.f13.params[j]? = some t → args[j]? = some v → Value.okWide Try.prog W .any base t v := hval0
  obtain ⟨p, q, hA, hV, _⟩ := id hW
  have hA : DataW.TrodAll enc Try.prog W 0 (fun _ => true) true [32] args.toList ds p := hA
  obtain ⟨rfl, rfl⟩ := trodVars_none hV
  obtain ⟨v0, d0, rfl, rfl, _⟩ := trodAll_one hA
  obtain ⟨x0, h0, rfl, _⟩ := AM.open_ints (n := 24) (by kernel_rfl) (hval 0 32 v0 rfl rfl)
  have hargs : AM.All2 (AM.VR AM.noPhi) [.agg (x0.map (AM.C.int .i64))] [Value.agg (x0.map (Value.int .i64)).toArray] := ⟨AM.VR_ints _ _, trivial⟩
  have hcalls := AM.law_val AM.fnOK (fn := Try.f13) (vs := #[Value.agg (x0.map (Value.int .i64)).toArray]) (w := W) Try.func13 (by kernel_rfl) rfl hargs (AM.c_laws_FnExactCanHurt x0 h0)
  refine hcalls.mono fun e W' ⟨he, hfr⟩ => ⟨_, he, ?_⟩
  exact AM.law_post Try.laid (fun t ht => by
    have ht : t ∈ [32] := ht
    simp at ht
    subst ht
    exact ⟨by kernel_rfl, of_decide_eq_true (by kernel_rfl)⟩) rfl hW rfl (bt := 4) (by kernel_rfl) rfl rfl rfl hfr
theorem canHurt_holds_closed : joinedFacts Try.prog 13 Try.f13 Rows.fnExactCanHurtSpec Rows.fnExactCanHurtRow = true := by
  unfold joinedFacts
  rw [Try.laid, Try.rowed, Try.heard, Try.enter, Try.lifts, Try.made]
  kernel_rfl
theorem canHurt_holds : Rows.FnExactCanHurtSaid :=
  OpenClaim.holds_of_wide 13 Try.f13 rfl rfl rfl rfl rfl rfl rfl ⟨rfl, rfl, rfl, rfl, rfl⟩ rfl rfl rfl rfl rfl (by kernel_rfl) Try.func13 canHurt_holds_closed
    (of_decide_eq_true (by kernel_rfl)) (by unfold Func.isWrapper; first | (rw [if_pos (by decide +kernel)]; kernel_rfl) | (rw [if_neg (by decide +kernel)]; exact ⟨rfl, rfl⟩))
    (fun os started H enc _ => canHurt_holds_lifted os started H enc)
end Go.Proofs.Ytgmamngkkpadhaa
