/- The program's FnPlays returns what the reference's returns, for all arguments that the statement lets in. No condition beside the statement's own. -/
import Derived.Test.YtafphbegpjjolaaPlaysD
import Derived.Test.YtafphbegpjjolaaRowsOpen
import Derived.Test.YtafphbegpjjolaaSeat
import Derived.Test.YtafphbegpjjolaaAmE
namespace Go.Proofs.Ytafphbegpjjolaa
open Go Go.ChangeShapes Go.WideShapes Go.RowKit Go.WideElems
set_option maxRecDepth 100000
theorem plays_holds_lifted (os : Os) (started : os.Started) (H : Type) (enc : TypeId × Value → H) :
    ReturnsInHanded {} Try.checked os 3 .any (Rows.fnPlaysSpec.pre6 enc Try.prog Try.f3 Rows.fnPlaysRow.domain Rows.fnPlaysRow.apart) (Rows.fnPlaysSpec.post enc Try.prog Try.f3 Rows.fnPlaysRow.apart Rows.fnPlaysRow.fresh Rows.fnPlaysRow.handsOn Rows.fnPlaysRow.again) := by
  refine returnsInHanded_of_change (C := Try.checked) Try.own started (by kernel_rfl) Try.func3
    (ChangeSpec.witness6 (enc := enc) (C := Try.checked) false ⟨#[], #[.slice none 0 0], []⟩ 12 (by kernel_rfl) (by kernel_rfl) (by kernel_rfl) (by kernel_rfl)) ?_
  intro W base args ds gs before hval0 hW _ _
  have hval : ∀ (j : Nat) t v, Try.f3.params[j]? = some t → args[j]? = some v → Value.okWide Try.prog W .any base t v := hval0
  obtain ⟨p, q, hA, hV, _⟩ := id hW
  have hA : DataW.TrodAll enc Try.prog W 0 (fun _ => true) true [22] args.toList ds p := hA
  obtain ⟨rfl, rfl⟩ := trodVars_none hV
  obtain ⟨v0, d0, rfl, rfl, hD0⟩ := trodAll_one hA
  obtain ⟨l, φ, hl, hrg, hheap, hu⟩ := AM.open_bytes (by kernel_rfl) (hval 0 22 v0 rfl rfl) hD0
  have hargs : AM.All2 (AM.VR φ) [.c (.sl 0 0 l.length 1)] [v0] := ⟨hu, trivial⟩
  have hcalls := AM.law_heap AM.fnOKq (fn := Try.f3) (vs := #[v0]) (w := W) Try.func3 (by kernel_rfl) rfl hheap (by intro b hb; simp at hb; subst hb; rfl) hargs (AM.c_laws_FnPlays l (Nat.le_trans hl (by decide)) hrg)
  refine hcalls.mono fun e W' ⟨he, hfr⟩ => ⟨_, he, ?_⟩
  exact AM.law_post Try.laid (fun t ht => by
    have ht : t ∈ [22] := ht
    simp at ht
    subst ht
    exact ⟨by kernel_rfl, of_decide_eq_true (by kernel_rfl)⟩) rfl hW rfl (bt := 4) (by kernel_rfl) rfl rfl rfl hfr
theorem plays_holds_closed : joinedFacts Try.prog 3 Try.f3 Rows.fnPlaysSpec Rows.fnPlaysRow = true := by
  unfold joinedFacts
  rw [Try.laid, Try.rowed, Try.heard, Try.enter, Try.lifts, Try.made]
  kernel_rfl
theorem plays_holds : Rows.FnPlaysSaid :=
  OpenClaim.holds_of_wide 3 Try.f3 rfl rfl rfl rfl rfl rfl rfl ⟨rfl, rfl, rfl, rfl, rfl⟩ rfl rfl rfl rfl rfl (by kernel_rfl) Try.func3 plays_holds_closed
    (of_decide_eq_true (by kernel_rfl)) (by unfold Func.isWrapper; first | (rw [if_pos (by decide +kernel)]; kernel_rfl) | (rw [if_neg (by decide +kernel)]; exact ⟨rfl, rfl⟩))
    (fun os started H enc _ => plays_holds_lifted os started H enc)
end Go.Proofs.Ytafphbegpjjolaa
