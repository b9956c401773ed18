/- The program's DealSame returns what the reference's returns, for all arguments that the statement lets in. No condition beside the statement's own. -/
import Derived.Test.YtllabonhgkocfaaDealB
import Derived.Test.YtllabonhgkocfaaSeat
import Derived.Test.YtllabonhgkocfaaAmE
namespace Go.Proofs.Ytllabonhgkocfaa
open Go Go.ChangeShapes Go.WideShapes Go.RowKit Go.WideElems
set_option maxRecDepth 100000
theorem dealSame_holds_lifted (os : Os) (started : os.Started) (H : Type) (enc : TypeId × Value → H) :
    ReturnsInHanded {} Try.checked os 3 .any (Rows.fnExactDealSameSpec.pre6 enc Try.prog Try.f3 Rows.fnExactDealSameRow.domain Rows.fnExactDealSameRow.apart) (Rows.fnExactDealSameSpec.post enc Try.prog Try.f3 Rows.fnExactDealSameRow.apart Rows.fnExactDealSameRow.fresh Rows.fnExactDealSameRow.handsOn Rows.fnExactDealSameRow.again) := by
  refine returnsInHanded_of_change (C := Try.checked) Try.own started (by kernel_rfl) Try.func3
    (ChangeSpec.witness6 (enc := enc) (C := Try.checked) false ⟨#[], #[.agg (Array.replicate 6 (.int .i64 0)), .agg (Array.replicate 6 (.int .i64 0))], []⟩ 12 (by kernel_rfl) (by kernel_rfl) (by kernel_rfl) (by kernel_rfl)) ?_
  intro W base args ds gs before hval0 hW _ _
  have hval : ∀ (j : Nat) t v, Try.f3.params[j]? = some t → args[j]? = some v → Value.okWide Try.prog W .any base t v := hval0
  obtain ⟨p, q, hA, hV, _⟩ := id hW
  have hA : DataW.TrodAll enc Try.prog W 0 (fun _ => true) true [22, 22] args.toList ds p := hA
  obtain ⟨rfl, rfl⟩ := trodVars_none hV
  obtain ⟨v0, v1, d0, d1, p0, p1, rfl, rfl, _, _, _⟩ := trodAll_two hA
  obtain ⟨x0, h0, rfl, _⟩ := AM.open_ints (n := 6) (by kernel_rfl) (hval 0 22 v0 rfl rfl)
  obtain ⟨x1, h1, rfl, _⟩ := AM.open_ints (n := 6) (by kernel_rfl) (hval 1 22 v1 rfl rfl)
  have hargs : AM.All2 (AM.VR AM.noPhi) [.agg (x0.map (AM.C.int .i64)), .agg (x1.map (AM.C.int .i64))] [Value.agg (x0.map (Value.int .i64)).toArray, Value.agg (x1.map (Value.int .i64)).toArray] := ⟨AM.VR_ints _ _, AM.VR_ints _ _, trivial⟩
  have hcalls := AM.law_val AM.fnOK (fn := Try.f3) (vs := #[Value.agg (x0.map (Value.int .i64)).toArray, Value.agg (x1.map (Value.int .i64)).toArray]) (w := W) Try.func3 (by kernel_rfl) rfl hargs (AM.c_laws_FnExactDealSame x0 h0 x1 h1)
  refine hcalls.mono fun e W' ⟨he, hfr⟩ => ⟨_, he, ?_⟩
  exact AM.law_post Try.laid (fun t ht => by
    have ht : t ∈ [22, 22] := ht
    simp at ht
    rcases ht with rfl <;> exact ⟨by kernel_rfl, of_decide_eq_true (by kernel_rfl)⟩) rfl hW rfl (bt := 4) (by kernel_rfl) rfl rfl rfl hfr
theorem dealSame_holds_closed : joinedFacts Try.prog 3 Try.f3 Rows.fnExactDealSameSpec Rows.fnExactDealSameRow = true := by
  unfold joinedFacts
  rw [Try.laid, Try.rowed, Try.heard, Try.enter, Try.lifts, Try.made]
  kernel_rfl
theorem dealSame_holds : Rows.FnExactDealSameSaid :=
  OpenClaim.holds_of_wide 3 Try.f3 rfl rfl rfl rfl rfl rfl rfl ⟨rfl, rfl, rfl, rfl, rfl⟩ rfl rfl rfl rfl rfl (by kernel_rfl) Try.func3 dealSame_holds_closed
    (of_decide_eq_true (by kernel_rfl)) (by unfold Func.isWrapper; first | (rw [if_pos (by decide +kernel)]; kernel_rfl) | (rw [if_neg (by decide +kernel)]; exact ⟨rfl, rfl⟩))
    (fun os started H enc _ => dealSame_holds_lifted os started H enc)
end Go.Proofs.Ytllabonhgkocfaa
