/- The program's FnCrashes returns what the reference's returns, for all arguments (the card: the listed table is tied to the program's text). No condition beside the statement's own. -/
import Derived.Test.YtahfeigilhjgpaaDoorLogR
import Derived.Test.YtahfeigilhjgpaaDoorSeat
import Derived.Test.YtahfeigilhjgpaaDoorSeatL
import Derived.Test.YtahfeigilhjgpaaDoorOpenC
import Derived.Test.YtahfeigilhjgpaaDoorTie
import Derived.Test.YtahfeigilhjgpaaDoorCards
import Derived.Test.YtahfeigilhjgpaaDoorRowsOpen
import Derived.SevenTiedAt
namespace Go.Proofs.YtahfeigilhjgpaaDoor
open Go Go.ChangeShapes Go.WideShapes Go.RowKit Go.WideElems
set_option maxRecDepth 100000
theorem crashes_holds_lifted (os : Os) (started : os.Started) (H : Type) (enc : TypeId × Value → H) :
    ReturnsInHanded {} Tryd.checked os 6 .any (fun w args => (Rows.fnCrashesSpec.pre enc Tryd.prog Tryd.f6 [] false w args ∧ laidMetH Tryd.prog laidL w) ∧ sizedMet enc Tryd.prog Tryd.f6 (OpenSpec.ofChange Rows.fnCrashesSpec) false w args) (Rows.fnCrashesSpec.post enc Tryd.prog Tryd.f6 Rows.fnCrashesRow.apart Rows.fnCrashesRow.fresh Rows.fnCrashesRow.handsOn Rows.fnCrashesRow.again) := by
  refine returnsInHanded_of_change_and (C := Tryd.checked) (X := fun w _ => laidMetH Tryd.prog laidL w) (fun _ _ _ hh h => h.of_heap hh) Tryd.own started (by kernel_rfl) Tryd.func6
    (ChangeSpec.witness_shaped (enc := enc) (C := Tryd.checked) (os := os) (X := fun w _ => laidMetH Tryd.prog laidL w) false (World.doorLaid Tryd.prog 34 os) #[.slice none 0 0] 12 rfl (World.shaped_of_RefB (by kernel_rfl) (by kernel_rfl)) (by kernel_rfl) (by kernel_rfl) (by kernel_rfl) (door_met os _)) ?_
  intro W base args ds gs before hval0 hW _ _ hL _
  have hval : ∀ (j : Nat) t v, Tryd.f6.params[j]? = some t → args[j]? = some v → Value.okWide Tryd.prog W .any base t v := hval0
  have htab := AM.tab_in (tab_of_laid hL)
  obtain ⟨p, q, hA, hV, _⟩ := id hW
  have hA : DataW.TrodAll enc Tryd.prog W 0 (fun _ => true) true [42] args.toList ds p := hA
  obtain ⟨rfl, rfl⟩ := trodVars_none hV
  obtain ⟨v0, d0, rfl, rfl, hD0⟩ := trodAll_one hA
  obtain ⟨l, φ, hl, hrg, hheap, hu⟩ := AM.open_bytes (by kernel_rfl) (hval 0 42 v0 rfl rfl) hD0 htab
  have hargs : AM.All2 (AM.VR φ) [.c (.sl 0 0 l.length 1)] [v0] := ⟨hu, trivial⟩
  have hcalls := AM.law_heap AM.fnOK (fn := Tryd.f6) (vs := #[v0]) (w := W) Tryd.func6 (by kernel_rfl) rfl hheap (by intro b hb; simp at hb; subst hb; rfl) hargs (AM.c_laws_FnCrashes l (Nat.le_trans hl (by decide)) hrg)
  refine hcalls.mono fun e W' ⟨he, hfr⟩ => ⟨_, he, ?_⟩
  exact AM.law_post Tryd.laid (fun t ht => by
    have ht : t ∈ [42] := ht
    simp at ht
    subst ht
    exact ⟨by kernel_rfl, of_decide_eq_true (by kernel_rfl)⟩) rfl hW rfl (bt := 4) (by kernel_rfl) rfl rfl rfl hfr
theorem crashes_holds_closed : joinedFacts Tryd.prog 6 Tryd.f6 Rows.fnCrashesSpec Rows.fnCrashesRow = true := by
  unfold joinedFacts
  rw [Tryd.laid, Tryd.rowed, Tryd.heard, Tryd.enter, Tryd.lifts, Tryd.made]
  kernel_rfl
theorem crashes_holds_row : Rows.FnCrashesSaid :=
  OpenClaim.holds_of_wide 6 Tryd.f6 rfl rfl rfl rfl rfl rfl rfl ⟨rfl, rfl, rfl, rfl, rfl⟩ rfl rfl rfl rfl rfl (by kernel_rfl) Tryd.func6 crashes_holds_closed
    (of_decide_eq_true (by kernel_rfl)) (by unfold Func.isWrapper; first | (rw [if_pos (by decide +kernel)]; kernel_rfl) | (rw [if_neg (by decide +kernel)]; exact ⟨rfl, rfl⟩))
    (fun os started H enc _ => crashes_holds_lifted os started H enc)
theorem crashes_holds : Rows.FnCrashesCardSaid :=
  Claim7.holds_tied_plain_at .later [] [.data, .data, .data] true (true, "96896a21f7f0301f29063d4562f10f5223d82748581c9a556a0978c015f2f443") false
    crashes_holds_row (fun _ h => by cases h) (by kernel_rfl) (fun _ h => by cases h) fnCrashes_row_tie rfl ⟨rfl, rfl⟩ (by kernel_rfl) rfl
    (fun f fn hf hfn => by
      have e1 : Tryd.prog.funcNamed "loop.example/g01215/laws.FnCrashes" = some 6 := by kernel_rfl
      have e2 : f = 6 := Option.some.inj (hf.symm.trans e1)
      subst e2
      have e3 : fn = Tryd.f6 := Option.some.inj (hfn.symm.trans Tryd.func6)
      subst e3
      exact ⟨by kernel_rfl, fun j t ht => by
        have hm : t ∈ [42] := by simpa using Array.mem_of_getElem? ht
        have hall : ([42].all fun u => !Tryd.prog.wantsStandIn u) = true := by kernel_rfl
        exact (show Tryd.prog.wantsStandIn t = false by simpa using List.all_eq_true.1 hall t hm)⟩)
    (by kernel_rfl)
end Go.Proofs.YtahfeigilhjgpaaDoor
