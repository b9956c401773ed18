/- The program's AddPour returns what the reference's returns, for all arguments that the statement lets in. No condition beside the statement's own. -/
import Derived.Test.YtllabonhgkocfaaAdd
import Derived.Test.YtllabonhgkocfaaRepOpen
import Derived.Test.YtllabonhgkocfaaSeat
import Derived.Test.YtllabonhgkocfaaAmE
namespace Go.Proofs.Ytllabonhgkocfaa
open Go Go.ChangeShapes Go.WideShapes Go.RowKit Go.WideElems
set_option maxRecDepth 100000
theorem addPour_holds_lifted (os : Os) (started : os.Started) (H : Type) (enc : TypeId × Value → H) :
    ReturnsInHanded {} Try.checked os 5 .any (Rows.fnExactAddPourSpec.pre6 enc Try.prog Try.f5 Rows.fnExactAddPourRow.domain Rows.fnExactAddPourRow.apart) (Rows.fnExactAddPourSpec.post enc Try.prog Try.f5 Rows.fnExactAddPourRow.apart Rows.fnExactAddPourRow.fresh Rows.fnExactAddPourRow.handsOn Rows.fnExactAddPourRow.again) := by
  refine returnsInHanded_of_change (C := Try.checked) Try.own started (by kernel_rfl) Try.func5
    (ChangeSpec.witness6 (enc := enc) (C := Try.checked) false ⟨#[], #[.agg ((Array.replicate 24 (.int .i64 0)).push (.slice none 0 0)), .agg (Array.replicate 2 (.int .i64 0))], []⟩ 12 (by kernel_rfl) (by kernel_rfl) (by kernel_rfl) (by kernel_rfl)) ?_
  intro W base args ds gs before hval0 hW _ _
  have hval : ∀ (j : Nat) t v, Try.f5.params[j]? = some t → args[j]? = some v → Value.okWide Try.prog W .any base t v := hval0
  obtain ⟨p, q, hA, hV, _⟩ := id hW
  have hA : DataW.TrodAll enc Try.prog W 0 (fun _ => true) true [35, 23] args.toList ds p := hA
  obtain ⟨rfl, rfl⟩ := trodVars_none hV
  obtain ⟨v0, v1, d0, d1, p0, p1, rfl, rfl, rfl, hD0, hD1⟩ := trodAll_two hA
  obtain ⟨r, l, u, φ, hr, hl, rfl, hheap, hu⟩ := AM.open_replay (by kernel_rfl) (hval 0 35 v0 rfl rfl) hD0
  obtain ⟨x1, h1, rfl, _⟩ := AM.open_ints (n := 2) (by kernel_rfl) (hval 1 23 v1 rfl rfl)
  have hargs : AM.All2 (AM.VR φ) [AM.repV r 0 l.length, .agg (x1.map (AM.C.int .i64))] [Value.agg (r.map (Value.int .i64) ++ [u]).toArray, Value.agg (x1.map (Value.int .i64)).toArray] := ⟨AM.VR_rep hu, AM.VR_ints _ _, trivial⟩
  have hcalls := AM.law_heap AM.fnOK (fn := Try.f5) (vs := #[Value.agg (r.map (Value.int .i64) ++ [u]).toArray, Value.agg (x1.map (Value.int .i64)).toArray]) (w := W) Try.func5 (by kernel_rfl) rfl hheap (by intro b hb; simp at hb; subst hb; rfl) hargs (AM.c_laws_FnExactAddPour r hr l (Nat.le_trans hl (by decide)) x1 h1)
  refine hcalls.mono fun e W' ⟨he, hfr⟩ => ⟨_, he, ?_⟩
  exact AM.law_post Try.laid (fun t ht => by
    have ht : t ∈ [35, 23] := ht
    simp at ht
    rcases ht with rfl | rfl <;> exact ⟨by kernel_rfl, of_decide_eq_true (by kernel_rfl)⟩) rfl hW rfl (bt := 4) (by kernel_rfl) rfl rfl rfl hfr
theorem addPour_holds_closed : joinedFacts Try.prog 5 Try.f5 Rows.fnExactAddPourSpec Rows.fnExactAddPourRow = true := by
  unfold joinedFacts
  rw [Try.laid, Try.rowed, Try.heard, Try.enter, Try.lifts, Try.made]
  kernel_rfl
theorem addPour_holds : Rows.FnExactAddPourSaid :=
  OpenClaim.holds_of_wide 5 Try.f5 rfl rfl rfl rfl rfl rfl rfl ⟨rfl, rfl, rfl, rfl, rfl⟩ rfl rfl rfl rfl rfl (by kernel_rfl) Try.func5 addPour_holds_closed
    (of_decide_eq_true (by kernel_rfl)) (by unfold Func.isWrapper; first | (rw [if_pos (by decide +kernel)]; kernel_rfl) | (rw [if_neg (by decide +kernel)]; exact ⟨rfl, rfl⟩))
    (fun os started H enc _ => addPour_holds_lifted os started H enc)
end Go.Proofs.Ytllabonhgkocfaa
