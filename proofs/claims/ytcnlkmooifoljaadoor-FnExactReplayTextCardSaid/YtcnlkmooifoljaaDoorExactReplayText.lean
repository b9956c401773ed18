/- The program's ReplayText returns what the reference's returns, for all arguments (the card: the listed table is tied to the program's text). No condition beside the statement's own. -/
import Derived.Test.YtcnlkmooifoljaaDoorTextC
import Derived.Test.YtcnlkmooifoljaaDoorSeat
import Derived.Test.YtcnlkmooifoljaaDoorSeatL
import Derived.Test.YtcnlkmooifoljaaDoorOpenC
import Derived.Test.YtcnlkmooifoljaaDoorTie
import Derived.Test.YtcnlkmooifoljaaDoorCards
import Derived.Test.YtcnlkmooifoljaaDoorRepOpen
import Derived.SevenTiedAt
namespace Go.Proofs.YtcnlkmooifoljaaDoor
open Go Go.ChangeShapes Go.WideShapes Go.RowKit Go.WideElems
set_option maxRecDepth 100000
theorem replayText_holds_lifted (os : Os) (started : os.Started) (H : Type) (enc : TypeId × Value → H) :
    ReturnsInHanded {} Tryd.checked os 3 .any (fun w args => (Rows.fnExactReplayTextSpec.pre enc Tryd.prog Tryd.f3 [] false w args ∧ laidMetH Tryd.prog laidL w) ∧ sizedMet enc Tryd.prog Tryd.f3 (OpenSpec.ofChange Rows.fnExactReplayTextSpec) false w args) (Rows.fnExactReplayTextSpec.post enc Tryd.prog Tryd.f3 Rows.fnExactReplayTextRow.apart Rows.fnExactReplayTextRow.fresh Rows.fnExactReplayTextRow.handsOn Rows.fnExactReplayTextRow.again) := by
  refine returnsInHanded_of_change_and (C := Tryd.checked) (X := fun w _ => laidMetH Tryd.prog laidL w) (fun _ _ _ hh h => h.of_heap hh) Tryd.own started (by kernel_rfl) Tryd.func3
    (ChangeSpec.witness_shaped (enc := enc) (C := Tryd.checked) (os := os) (X := fun w _ => laidMetH Tryd.prog laidL w) false (World.doorLaid Tryd.prog 24 os) #[.agg ((Array.replicate 24 (.int .i64 0)).push (.slice none 0 0))] 12 rfl (World.shaped_of_RefB (by kernel_rfl) (by kernel_rfl)) (by kernel_rfl) (by kernel_rfl) (by kernel_rfl) (door_met os _)) ?_
  intro W base args ds gs before hval0 hW _ _ hL _
  have hval : ∀ (j : Nat) t v, Tryd.f3.params[j]? = some t → args[j]? = some v → Value.okWide Tryd.prog W .any base t v := hval0
  have htab := AM.tab_in (tab_of_laid hL)
  obtain ⟨p, q, hA, hV, _⟩ := id hW
  have hA : DataW.TrodAll enc Tryd.prog W 0 (fun _ => true) true [28] args.toList ds p := hA
  obtain ⟨rfl, rfl⟩ := trodVars_none hV
  obtain ⟨v0, d0, rfl, rfl, hD0⟩ := trodAll_one hA
  obtain ⟨r, l, u, φ, hr, hl, rfl, hheap, hu⟩ := AM.open_replay (by kernel_rfl) (hval 0 28 v0 rfl rfl) hD0 htab
  have hargs : AM.All2 (AM.VR φ) [AM.repV r 0 l.length] [Value.agg (r.map (Value.int .i64) ++ [u]).toArray] := ⟨AM.VR_rep hu, trivial⟩
  have hcalls := AM.law_heap AM.fnOK (fn := Tryd.f3) (vs := #[Value.agg (r.map (Value.int .i64) ++ [u]).toArray]) (w := W) Tryd.func3 (by kernel_rfl) rfl hheap (by intro b hb; simp at hb; subst hb; rfl) hargs (AM.c_laws_FnExactReplayText r hr l (Nat.le_trans hl (by decide)))
  refine hcalls.mono fun e W' ⟨he, hfr⟩ => ⟨_, he, ?_⟩
  exact AM.law_post Tryd.laid (fun t ht => by
    have ht : t ∈ [28] := ht
    simp at ht
    subst ht
    exact ⟨by kernel_rfl, of_decide_eq_true (by kernel_rfl)⟩) rfl hW rfl (bt := 4) (by kernel_rfl) rfl rfl rfl hfr
theorem replayText_holds_closed : joinedFacts Tryd.prog 3 Tryd.f3 Rows.fnExactReplayTextSpec Rows.fnExactReplayTextRow = true := by
  unfold joinedFacts
  rw [Tryd.laid, Tryd.rowed, Tryd.heard, Tryd.enter, Tryd.lifts, Tryd.made]
  kernel_rfl
theorem replayText_holds_row : Rows.FnExactReplayTextSaid :=
  OpenClaim.holds_of_wide 3 Tryd.f3 rfl rfl rfl rfl rfl rfl rfl ⟨rfl, rfl, rfl, rfl, rfl⟩ rfl rfl rfl rfl rfl (by kernel_rfl) Tryd.func3 replayText_holds_closed
    (of_decide_eq_true (by kernel_rfl)) (by unfold Func.isWrapper; first | (rw [if_pos (by decide +kernel)]; kernel_rfl) | (rw [if_neg (by decide +kernel)]; exact ⟨rfl, rfl⟩))
    (fun os started H enc _ => replayText_holds_lifted os started H enc)
theorem replayText_holds : Rows.FnExactReplayTextCardSaid :=
  Claim7.holds_tied_plain_at .later [] [.data, .data, .data] true (true, "ecb0b9f59ddceb76607095babfc012a764899dad0697d34d5be9574c012e2e6b") false
    replayText_holds_row (fun _ h => by cases h) (by kernel_rfl) (fun _ h => by cases h) fnExactReplayText_row_tie rfl ⟨rfl, rfl⟩ (by kernel_rfl) rfl
    (fun f fn hf hfn => by
      have e1 : Tryd.prog.funcNamed "loop.example/g01215/laws.FnExactReplayText" = some 3 := by kernel_rfl
      have e2 : f = 3 := Option.some.inj (hf.symm.trans e1)
      subst e2
      have e3 : fn = Tryd.f3 := Option.some.inj (hfn.symm.trans Tryd.func3)
      subst e3
      exact ⟨by kernel_rfl, fun j t ht => by
        have hm : t ∈ [28] := by simpa using Array.mem_of_getElem? ht
        have hall : ([28].all fun u => !Tryd.prog.wantsStandIn u) = true := by kernel_rfl
        exact (show Tryd.prog.wantsStandIn t = false by simpa using List.all_eq_true.1 hall t hm)⟩)
    (by kernel_rfl)
end Go.Proofs.YtcnlkmooifoljaaDoor
