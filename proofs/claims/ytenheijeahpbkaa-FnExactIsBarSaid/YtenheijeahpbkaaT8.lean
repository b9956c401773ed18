import Derived.Test.YtenheijeahpbkaaT7
import Derived.Test.YtenheijeahpbkaaAmLaw
import Derived.Test.YtenheijeahpbkaaRows
namespace Go.Proofs.Ytenheijeahpbkaa
open Go Go.ChangeShapes Go.WideShapes Go.RowKit Go.WideElems
set_option maxRecDepth 100000
theorem Try.own : ownKnob Try.prog.godebug = none := by kernel_rfl
theorem AM.primOK : AM.PrimOK Try.prog AM.np := fun f q h => by cases h
theorem AM.fnOK : AM.FnOK Try.prog (AM.fnI AM.pr AM.np) := AM.fnI_ok AM.mixed AM.pr_ok AM.primOK
theorem Try.laid : laidOutB Try.prog = true := by kernel_rfl
theorem isBar_lifted (os : Os) (started : os.Started) (H : Type) (enc : TypeId × Value → H) :
    ReturnsInHanded {} Try.checked os 3 .any (Rows.fnExactIsBarSpec.pre6 enc Try.prog Try.f3 Rows.fnExactIsBarRow.domain Rows.fnExactIsBarRow.apart) (Rows.fnExactIsBarSpec.post enc Try.prog Try.f3 Rows.fnExactIsBarRow.apart Rows.fnExactIsBarRow.fresh Rows.fnExactIsBarRow.handsOn Rows.fnExactIsBarRow.again) := by
  refine returnsInHanded_of_change (C := Try.checked) Try.own started (by kernel_rfl) Try.func3
    (ChangeSpec.witness6 (enc := enc) (C := Try.checked) false ⟨#[], #[.agg (Array.replicate 26 (.int .i64 0))], []⟩ 12 (by kernel_rfl) (by kernel_rfl) (by kernel_rfl) (by kernel_rfl)) ?_
  intro W base args ds gs before hval0 hW _ _
  have hval : ∀ (j : Nat) t v, Try.f3.params[j]? = some t → args[j]? = some v → Value.okWide Try.prog W .any base t v := hval0
  obtain ⟨p, q, hA, hV, _⟩ := id hW
  have hA : DataW.TrodAll enc Try.prog W 0 (fun _ => true) true [27] args.toList ds p := hA
  obtain ⟨v, d, rfl, rfl, _⟩ := trodAll_one hA
  obtain ⟨rfl, rfl⟩ := trodVars_none hV
  obtain ⟨l, hl, rfl, _⟩ := AM.open_ints (n := 26) (by kernel_rfl) (hval 0 27 v rfl rfl)
  have hsplit : ∃ r m n, l = r ++ [m, n] ∧ r.length = 24 := by
    refine ⟨l.take 24, l.getD 24 0, l.getD 25 0, ?_, by simp; omega⟩
    have h1 : l.drop 24 = [l.getD 24 0, l.getD 25 0] := by
      rw [List.drop_eq_getElem_cons (by omega), List.drop_eq_getElem_cons (by omega), List.drop_of_length_le (by omega)]
      simp [List.getD_eq_getElem?_getD, List.getElem?_eq_getElem (show 24 < l.length by omega), List.getElem?_eq_getElem (show 25 < l.length by omega)]
    rw [← h1, List.take_append_drop]
  obtain ⟨r, m, n, rfl, hr⟩ := hsplit
  have hargs : AM.All2 (AM.VR AM.noPhi) [.agg (AM.barC r m n)] [Value.agg ((r ++ [m, n]).map (Value.int .i64)).toArray] := by
    refine ⟨?_, trivial⟩
    have : AM.barC r m n = (r ++ [m, n]).map (AM.C.int .i64) := by simp [AM.barC]
    rw [this]
    exact AM.VR_ints _ _
  have hcalls := AM.law_val AM.fnOK (fn := Try.f3) (vs := #[Value.agg ((r ++ [m, n]).map (Value.int .i64)).toArray]) (w := W) Try.func3 (by kernel_rfl) rfl hargs (AM.c3 r hr m n)
  refine hcalls.mono fun e W' ⟨he, hfr⟩ => ⟨_, he, ?_⟩
  exact AM.law_post Try.laid (fun t ht => by
    have ht : t ∈ [27] := ht
    simp at ht; subst ht
    exact ⟨by kernel_rfl, of_decide_eq_true (by kernel_rfl)⟩) rfl hW rfl (bt := 4) (by kernel_rfl) rfl rfl rfl hfr
theorem isBar_holds : Rows.FnExactIsBarSaid :=
  OpenClaim.holds_of_wide 3 Try.f3 rfl rfl rfl rfl rfl rfl rfl ⟨rfl, rfl, rfl, rfl, rfl⟩ rfl rfl rfl rfl rfl (by kernel_rfl) Try.func3 (by kernel_rfl)
    (of_decide_eq_true (by kernel_rfl)) (by unfold Func.isWrapper; first | (rw [if_pos (by decide +kernel)]; kernel_rfl) | (rw [if_neg (by decide +kernel)]; exact ⟨rfl, rfl⟩))
    (fun os started H enc _ => isBar_lifted os started H enc)
end Go.Proofs.Ytenheijeahpbkaa
