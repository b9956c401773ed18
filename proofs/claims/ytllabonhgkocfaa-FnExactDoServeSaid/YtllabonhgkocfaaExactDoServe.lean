/- The program's DoServe returns what the reference's returns, for all arguments that the statement lets in. No condition beside the statement's own. -/
import Derived.Test.YtllabonhgkocfaaServeS
import Derived.Test.YtllabonhgkocfaaSeat
import Derived.Test.YtllabonhgkocfaaAmE
namespace Go.Proofs.Ytllabonhgkocfaa
open Go Go.ChangeShapes Go.WideShapes Go.RowKit Go.WideElems
set_option maxRecDepth 100000
theorem doServe_holds_lifted (os : Os) (started : os.Started) (H : Type) (enc : TypeId × Value → H) :
    ReturnsInHanded {} Try.checked os 11 .any (Rows.fnExactDoServeSpec.pre6 enc Try.prog Try.f11 Rows.fnExactDoServeRow.domain Rows.fnExactDoServeRow.apart) (Rows.fnExactDoServeSpec.post enc Try.prog Try.f11 Rows.fnExactDoServeRow.apart Rows.fnExactDoServeRow.fresh Rows.fnExactDoServeRow.handsOn Rows.fnExactDoServeRow.again) := by
  refine returnsInHanded_of_change (C := Try.checked) Try.own started (by kernel_rfl) Try.func11
    (ChangeSpec.witness6 (enc := enc) (C := Try.checked) false ⟨#[], #[.agg (Array.replicate 26 (.int .i64 0)), .agg (Array.replicate 4 (.int .i64 0))], []⟩ 12 (by kernel_rfl) (by kernel_rfl) (by kernel_rfl) (by kernel_rfl)) ?_
  intro W base args ds gs before hval0 hW _ _
  have hval : ∀ (j : Nat) t v, Try.f11.params[j]? = some t → args[j]? = some v → Value.okWide Try.prog W .any base t v := hval0
  obtain ⟨p, q, hA, hV, _⟩ := id hW
  have hA : DataW.TrodAll enc Try.prog W 0 (fun _ => true) true [80, 82] args.toList ds p := hA
  obtain ⟨rfl, rfl⟩ := trodVars_none hV
  obtain ⟨v0, v1, d0, d1, p0, p1, rfl, rfl, _, _, _⟩ := trodAll_two hA
  obtain ⟨x0, h0, rfl, _⟩ := AM.open_ints (n := 26) (by kernel_rfl) (hval 0 80 v0 rfl rfl)
  obtain ⟨x1, h1, rfl, _⟩ := AM.open_ints (n := 4) (by kernel_rfl) (hval 1 82 v1 rfl rfl)
  have hargs : AM.All2 (AM.VR AM.noPhi) [.agg (x0.map (AM.C.int .i64)), .agg (x1.map (AM.C.int .i64))] [Value.agg (x0.map (Value.int .i64)).toArray, Value.agg (x1.map (Value.int .i64)).toArray] := ⟨AM.VR_ints _ _, AM.VR_ints _ _, trivial⟩
  have hcalls := AM.law_val AM.fnOK (fn := Try.f11) (vs := #[Value.agg (x0.map (Value.int .i64)).toArray, Value.agg (x1.map (Value.int .i64)).toArray]) (w := W) Try.func11 (by kernel_rfl) rfl hargs (AM.c_laws_FnExactDoServe x0 h0 x1 h1)
  refine hcalls.mono fun e W' ⟨he, hfr⟩ => ⟨_, he, ?_⟩
  exact AM.law_post Try.laid (fun t ht => by
    have ht : t ∈ [80, 82] := ht
    simp at ht
    rcases ht with rfl | rfl <;> exact ⟨by kernel_rfl, of_decide_eq_true (by kernel_rfl)⟩) rfl hW rfl (bt := 4) (by kernel_rfl) rfl rfl rfl hfr
theorem doServe_holds_closed : joinedFacts Try.prog 11 Try.f11 Rows.fnExactDoServeSpec Rows.fnExactDoServeRow = true := by
  unfold joinedFacts
  rw [Try.laid, Try.rowed, Try.heard, Try.enter, Try.lifts, Try.made]
  kernel_rfl
theorem doServe_holds : Rows.FnExactDoServeSaid :=
  OpenClaim.holds_of_wide 11 Try.f11 rfl rfl rfl rfl rfl rfl rfl ⟨rfl, rfl, rfl, rfl, rfl⟩ rfl rfl rfl rfl rfl (by kernel_rfl) Try.func11 doServe_holds_closed
    (of_decide_eq_true (by kernel_rfl)) (by unfold Func.isWrapper; first | (rw [if_pos (by decide +kernel)]; kernel_rfl) | (rw [if_neg (by decide +kernel)]; exact ⟨rfl, rfl⟩))
    (fun os started H enc _ => doServe_holds_lifted os started H enc)
end Go.Proofs.Ytllabonhgkocfaa
