/- The program's CountEnds returns what the reference's returns, for all arguments that the statement lets in. No condition beside the statement's own. -/
import Derived.Test.YtafphbegpjjolaaEndsLaw
import Derived.Test.YtafphbegpjjolaaSeat
import Derived.Test.YtafphbegpjjolaaAmE
namespace Go.Proofs.Ytafphbegpjjolaa
open Go Go.ChangeShapes Go.WideShapes Go.RowKit Go.WideElems
set_option maxRecDepth 100000
theorem countEnds_holds_lifted (os : Os) (started : os.Started) (H : Type) (enc : TypeId × Value → H) :
    ReturnsInHanded {} Try.checked os 4 .any (Rows.fnExactCountEndsSpec.pre6 enc Try.prog Try.f4 Rows.fnExactCountEndsRow.domain Rows.fnExactCountEndsRow.apart) (Rows.fnExactCountEndsSpec.post enc Try.prog Try.f4 Rows.fnExactCountEndsRow.apart Rows.fnExactCountEndsRow.fresh Rows.fnExactCountEndsRow.handsOn Rows.fnExactCountEndsRow.again) := by
  refine returnsInHanded_of_change (C := Try.checked) Try.own started (by kernel_rfl) Try.func4
    (ChangeSpec.witness6 (enc := enc) (C := Try.checked) false ⟨#[], #[.agg (Array.replicate 24 (.int .i64 0)), .int .i64 0], []⟩ 12 (by kernel_rfl) (by kernel_rfl) (by kernel_rfl) (by kernel_rfl)) ?_
  intro W base args ds gs before hval0 hW _ _
  have hval : ∀ (j : Nat) t v, Try.f4.params[j]? = some t → args[j]? = some v → Value.okWide Try.prog W .any base t v := hval0
  obtain ⟨p, q, hA, hV, _⟩ := id hW
  have hA : DataW.TrodAll enc Try.prog W 0 (fun _ => true) true [49, 3] args.toList ds p := hA
  obtain ⟨rfl, rfl⟩ := trodVars_none hV
  obtain ⟨v0, v1, d0, d1, p0, p1, rfl, rfl, _, _, _⟩ := trodAll_two hA
  obtain ⟨x0, h0, rfl, _⟩ := AM.open_ints (n := 24) (by kernel_rfl) (hval 0 49 v0 rfl rfl)
  obtain ⟨x1, rfl, h1⟩ := AM.open_int (by kernel_rfl) (hval 1 3 v1 rfl rfl)
  have hargs : AM.All2 (AM.VR AM.noPhi) [.agg (x0.map (AM.C.int .i64)), .c (.int .i64 x1)] [Value.agg (x0.map (Value.int .i64)).toArray, Value.int .i64 x1] := ⟨AM.VR_ints _ _, rfl, trivial⟩
  have hcalls := AM.law_val AM.fnOKq (fn := Try.f4) (vs := #[Value.agg (x0.map (Value.int .i64)).toArray, Value.int .i64 x1]) (w := W) Try.func4 (by kernel_rfl) rfl hargs (AM.c_laws_FnExactCountEnds x0 h0 x1 h1)
  refine hcalls.mono fun e W' ⟨he, hfr⟩ => ⟨_, he, ?_⟩
  exact AM.law_post Try.laid (fun t ht => by
    have ht : t ∈ [49, 3] := ht
    simp at ht
    rcases ht with rfl | rfl <;> exact ⟨by kernel_rfl, of_decide_eq_true (by kernel_rfl)⟩) rfl hW rfl (bt := 4) (by kernel_rfl) rfl rfl rfl hfr
theorem countEnds_holds_closed : joinedFacts Try.prog 4 Try.f4 Rows.fnExactCountEndsSpec Rows.fnExactCountEndsRow = true := by
  unfold joinedFacts
  rw [Try.laid, Try.rowed, Try.heard, Try.enter, Try.lifts, Try.made]
  kernel_rfl
theorem countEnds_holds : Rows.FnExactCountEndsSaid :=
  OpenClaim.holds_of_wide 4 Try.f4 rfl rfl rfl rfl rfl rfl rfl ⟨rfl, rfl, rfl, rfl, rfl⟩ rfl rfl rfl rfl rfl (by kernel_rfl) Try.func4 countEnds_holds_closed
    (of_decide_eq_true (by kernel_rfl)) (by unfold Func.isWrapper; first | (rw [if_pos (by decide +kernel)]; kernel_rfl) | (rw [if_neg (by decide +kernel)]; exact ⟨rfl, rfl⟩))
    (fun os started H enc _ => countEnds_holds_lifted os started H enc)
end Go.Proofs.Ytafphbegpjjolaa
