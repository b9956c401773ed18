import Derived.Test.YtenheijeahpbkaaT24
import Derived.Test.YtenheijeahpbkaaSeat
namespace Go.Proofs.Ytenheijeahpbkaa
open Go Go.ChangeShapes Go.WideShapes Go.RowKit Go.WideElems
set_option maxRecDepth 100000
theorem completeTubes_lifted (os : Os) (started : os.Started) (H : Type) (enc : TypeId × Value → H) :
    ReturnsInHanded {} Try.checked os 7 .any (Rows.fnExactCompleteTubesSpec.pre6 enc Try.prog Try.f7 Rows.fnExactCompleteTubesRow.domain Rows.fnExactCompleteTubesRow.apart) (Rows.fnExactCompleteTubesSpec.post enc Try.prog Try.f7 Rows.fnExactCompleteTubesRow.apart Rows.fnExactCompleteTubesRow.fresh Rows.fnExactCompleteTubesRow.handsOn Rows.fnExactCompleteTubesRow.again) := by
  refine returnsInHanded_of_change (C := Try.checked) Try.own started (by kernel_rfl) Try.func7
    (ChangeSpec.witness6 (enc := enc) (C := Try.checked) false ⟨#[], #[.agg (Array.replicate 24 (.int .i64 0))], []⟩ 12 (by kernel_rfl) (by kernel_rfl) (by kernel_rfl) (by kernel_rfl)) ?_
  intro W base args ds gs before hval0 hW _ _
  have hval : ∀ (j : Nat) t v, Try.f7.params[j]? = some t → args[j]? = some v → Value.okWide Try.prog W .any base t v := hval0
  obtain ⟨p, q, hA, hV, _⟩ := id hW
  have hA : DataW.TrodAll enc Try.prog W 0 (fun _ => true) true [25] args.toList ds p := hA
  obtain ⟨rfl, rfl⟩ := trodVars_none hV
  obtain ⟨v, d, rfl, rfl, _⟩ := trodAll_one hA
  obtain ⟨r, hr, rfl, _⟩ := AM.open_ints (n := 24) (by kernel_rfl) (hval 0 25 v rfl rfl)
  have hargs : AM.All2 (AM.VR AM.noPhi) [.agg (r.map (AM.C.int .i64))] [Value.agg (r.map (Value.int .i64)).toArray] := ⟨AM.VR_ints _ _, trivial⟩
  have hcalls := AM.law_val AM.fnOK (fn := Try.f7) (vs := #[Value.agg (r.map (Value.int .i64)).toArray]) (w := W) Try.func7 (by kernel_rfl) rfl hargs (AM.c7 r hr)
  refine hcalls.mono fun e W' ⟨he, hfr⟩ => ⟨_, he, ?_⟩
  exact AM.law_post Try.laid (fun t ht => by
    have ht : t ∈ [25] := ht
    simp at ht
    subst ht
    exact ⟨by kernel_rfl, of_decide_eq_true (by kernel_rfl)⟩) rfl hW rfl (bt := 4) (by kernel_rfl) rfl rfl rfl hfr
theorem completeTubes_holds : Rows.FnExactCompleteTubesSaid :=
  OpenClaim.holds_of_wide 7 Try.f7 rfl rfl rfl rfl rfl rfl rfl ⟨rfl, rfl, rfl, rfl, rfl⟩ rfl rfl rfl rfl rfl (by kernel_rfl) Try.func7 (by kernel_rfl)
    (of_decide_eq_true (by kernel_rfl)) (by unfold Func.isWrapper; first | (rw [if_pos (by decide +kernel)]; kernel_rfl) | (rw [if_neg (by decide +kernel)]; exact ⟨rfl, rfl⟩))
    (fun os started H enc _ => completeTubes_lifted os started H enc)
end Go.Proofs.Ytenheijeahpbkaa
