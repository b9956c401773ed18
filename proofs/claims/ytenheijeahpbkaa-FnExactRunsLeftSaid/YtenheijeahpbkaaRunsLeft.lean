import Derived.Test.YtenheijeahpbkaaT16
import Derived.Test.YtenheijeahpbkaaSeat
namespace Go.Proofs.Ytenheijeahpbkaa
open Go Go.ChangeShapes Go.WideShapes Go.RowKit Go.WideElems
set_option maxRecDepth 100000
theorem runsLeft_lifted (os : Os) (started : os.Started) (H : Type) (enc : TypeId × Value → H) :
    ReturnsInHanded {} Try.checked os 9 .any (Rows.fnExactRunsLeftSpec.pre6 enc Try.prog Try.f9 Rows.fnExactRunsLeftRow.domain Rows.fnExactRunsLeftRow.apart) (Rows.fnExactRunsLeftSpec.post enc Try.prog Try.f9 Rows.fnExactRunsLeftRow.apart Rows.fnExactRunsLeftRow.fresh Rows.fnExactRunsLeftRow.handsOn Rows.fnExactRunsLeftRow.again) := by
  refine returnsInHanded_of_change (C := Try.checked) Try.own started (by kernel_rfl) Try.func9
    (ChangeSpec.witness6 (enc := enc) (C := Try.checked) false ⟨#[], #[.agg (Array.replicate 26 (.int .i64 0))], []⟩ 12 (by kernel_rfl) (by kernel_rfl) (by kernel_rfl) (by kernel_rfl)) ?_
  intro W base args ds gs before hval0 hW _ _
  have hval : ∀ (j : Nat) t v, Try.f9.params[j]? = some t → args[j]? = some v → Value.okWide Try.prog W .any base t v := hval0
  obtain ⟨p, q, hA, hV, _⟩ := id hW
  have hA : DataW.TrodAll enc Try.prog W 0 (fun _ => true) true [27] args.toList ds p := hA
  obtain ⟨rfl, rfl⟩ := trodVars_none hV
  obtain ⟨v, d, rfl, rfl, _⟩ := trodAll_one hA
  obtain ⟨l, hl, rfl, _⟩ := AM.open_ints (n := 26) (by kernel_rfl) (hval 0 27 v rfl rfl)
  obtain ⟨r, m, n, rfl, hr⟩ := AM.bar_split hl
  have hargs : AM.All2 (AM.VR AM.noPhi) [.agg (AM.barC r m n)] [Value.agg ((r ++ [m, n]).map (Value.int .i64)).toArray] := by
    refine ⟨?_, trivial⟩
    have : AM.barC r m n = (r ++ [m, n]).map (AM.C.int .i64) := by simp [AM.barC]
    rw [this]
    exact AM.VR_ints _ _
  have hcalls := AM.law_val AM.fnOK (fn := Try.f9) (vs := #[Value.agg ((r ++ [m, n]).map (Value.int .i64)).toArray]) (w := W) Try.func9 (by kernel_rfl) rfl hargs (AM.c9 r hr m n)
  refine hcalls.mono fun e W' ⟨he, hfr⟩ => ⟨_, he, ?_⟩
  exact AM.law_post Try.laid (fun t ht => by
    have ht : t ∈ [27] := ht
    simp at ht
    subst ht
    exact ⟨by kernel_rfl, of_decide_eq_true (by kernel_rfl)⟩) rfl hW rfl (bt := 4) (by kernel_rfl) rfl rfl rfl hfr
theorem runsLeft_holds : Rows.FnExactRunsLeftSaid :=
  OpenClaim.holds_of_wide 9 Try.f9 rfl rfl rfl rfl rfl rfl rfl ⟨rfl, rfl, rfl, rfl, rfl⟩ rfl rfl rfl rfl rfl (by kernel_rfl) Try.func9 (by kernel_rfl)
    (of_decide_eq_true (by kernel_rfl)) (by unfold Func.isWrapper; first | (rw [if_pos (by decide +kernel)]; kernel_rfl) | (rw [if_neg (by decide +kernel)]; exact ⟨rfl, rfl⟩))
    (fun os started H enc _ => runsLeft_lifted os started H enc)
end Go.Proofs.Ytenheijeahpbkaa
