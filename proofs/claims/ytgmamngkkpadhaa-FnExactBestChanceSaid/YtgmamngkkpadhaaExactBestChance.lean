/- The program's BestChance returns what the reference's returns, for all arguments that the statement lets in. No condition beside the statement's own. -/
import Derived.Test.YtgmamngkkpadhaaBestCh
import Derived.Test.YtgmamngkkpadhaaSeat
import Derived.Test.YtgmamngkkpadhaaAmE
namespace Go.Proofs.Ytgmamngkkpadhaa
open Go Go.ChangeShapes Go.WideShapes Go.RowKit Go.WideElems
set_option maxRecDepth 100000
theorem bestChance_holds_lifted (os : Os) (started : os.Started) (H : Type) (enc : TypeId × Value → H) :
    ReturnsInHanded {} Try.checked os 26 .any (Rows.fnExactBestChanceSpec.pre6 enc Try.prog Try.f26 Rows.fnExactBestChanceRow.domain Rows.fnExactBestChanceRow.apart) (Rows.fnExactBestChanceSpec.post enc Try.prog Try.f26 Rows.fnExactBestChanceRow.apart Rows.fnExactBestChanceRow.fresh Rows.fnExactBestChanceRow.handsOn Rows.fnExactBestChanceRow.again) := by
  refine returnsInHanded_of_change (C := Try.checked) Try.own started (by kernel_rfl) Try.func26
    (ChangeSpec.witness6 (enc := enc) (C := Try.checked) false ⟨#[], #[.agg (Array.replicate 24 (.int .i64 0)), .int .i64 0], []⟩ 12 (by kernel_rfl) (by kernel_rfl) (by kernel_rfl) (by kernel_rfl)) ?_
  intro W base args ds gs before hval0 hW _ _
  have hval : ∀ (j : Nat) t v, Try.f26.params[j]? = some t → args[j]? = some v → Value.okWide Try.prog W .any base t v := hval0
  obtain ⟨p, q, hA, hV, _⟩ := id hW
  have hA : DataW.TrodAll enc Try.prog W 0 (fun _ => true) true [32, 3] args.toList ds p := hA
  obtain ⟨rfl, rfl⟩ := trodVars_none hV
  obtain ⟨v0, v1, d0, d1, p0, p1, rfl, rfl, _, _, _⟩ := trodAll_two hA
  obtain ⟨x0, h0, rfl, _⟩ := AM.open_ints (n := 24) (by kernel_rfl) (hval 0 32 v0 rfl rfl)
  obtain ⟨x1, rfl, h1⟩ := AM.open_int (by kernel_rfl) (hval 1 3 v1 rfl rfl)
  have hargs : AM.All2 (AM.VR AM.noPhi) [.agg (x0.map (AM.C.int .i64)), .c (.int .i64 x1)] [Value.agg (x0.map (Value.int .i64)).toArray, Value.int .i64 x1] := ⟨AM.VR_ints _ _, rfl, trivial⟩
  have hcalls := AM.law_val AM.fnOK (fn := Try.f26) (vs := #[Value.agg (x0.map (Value.int .i64)).toArray, Value.int .i64 x1]) (w := W) Try.func26 (by kernel_rfl) rfl hargs (AM.c_laws_FnExactBestChance x0 h0 x1 h1)
  refine hcalls.mono fun e W' ⟨he, hfr⟩ => ⟨_, he, ?_⟩
  exact AM.law_post Try.laid (fun t ht => by
    have ht : t ∈ [32, 3] := ht
    simp at ht
    rcases ht with rfl | rfl <;> exact ⟨by kernel_rfl, of_decide_eq_true (by kernel_rfl)⟩) rfl hW rfl (bt := 4) (by kernel_rfl) rfl rfl rfl hfr
theorem bestChance_holds_closed : joinedFacts Try.prog 26 Try.f26 Rows.fnExactBestChanceSpec Rows.fnExactBestChanceRow = true := by
  unfold joinedFacts
  rw [Try.laid, Try.rowed, Try.heard, Try.enter, Try.lifts, Try.made]
  kernel_rfl
theorem bestChance_holds : Rows.FnExactBestChanceSaid :=
  OpenClaim.holds_of_wide 26 Try.f26 rfl rfl rfl rfl rfl rfl rfl ⟨rfl, rfl, rfl, rfl, rfl⟩ rfl rfl rfl rfl rfl (by kernel_rfl) Try.func26 bestChance_holds_closed
    (of_decide_eq_true (by kernel_rfl)) (by unfold Func.isWrapper; first | (rw [if_pos (by decide +kernel)]; kernel_rfl) | (rw [if_neg (by decide +kernel)]; exact ⟨rfl, rfl⟩))
    (fun os started H enc _ => bestChance_holds_lifted os started H enc)
end Go.Proofs.Ytgmamngkkpadhaa
