/- The program's ParseReplay returns what the reference's returns, for all arguments (the card: the listed table is tied to the program's text). No condition beside the statement's own. -/
import Derived.Test.YtanbjhhaoolneaaDoorParseF
import Derived.Test.YtanbjhhaoolneaaDoorSeat
import Derived.Test.YtanbjhhaoolneaaDoorSeatL
import Derived.Test.YtanbjhhaoolneaaDoorOpenC
import Derived.Test.YtanbjhhaoolneaaDoorTie
import Derived.Test.YtanbjhhaoolneaaDoorCards
import Derived.SevenTiedAt
namespace Go.Proofs.YtanbjhhaoolneaaDoor
open Go Go.ChangeShapes Go.WideShapes Go.RowKit Go.WideElems
set_option maxRecDepth 100000
theorem parseReplay_holds_lifted (os : Os) (started : os.Started) (H : Type) (enc : TypeId × Value → H) :
    ReturnsInHanded {} Tryd.checked os 3 .any (fun w args => (Rows.fnExactParseReplaySpec.pre enc Tryd.prog Tryd.f3 [] false w args ∧ laidMetH Tryd.prog laidL w) ∧ sizedMet enc Tryd.prog Tryd.f3 (OpenSpec.ofChange Rows.fnExactParseReplaySpec) false w args) (Rows.fnExactParseReplaySpec.post enc Tryd.prog Tryd.f3 Rows.fnExactParseReplayRow.apart Rows.fnExactParseReplayRow.fresh Rows.fnExactParseReplayRow.handsOn Rows.fnExactParseReplayRow.again) := by
  refine returnsInHanded_of_change_and (C := Tryd.checked) (X := fun w _ => laidMetH Tryd.prog laidL w) (fun _ _ _ hh h => h.of_heap hh) Tryd.own started (by kernel_rfl) Tryd.func3
    (ChangeSpec.witness_shaped (enc := enc) (C := Tryd.checked) (os := os) (X := fun w _ => laidMetH Tryd.prog laidL w) false (World.laidAll Tryd.prog os laidL) #[.string ⟨#[]⟩] 12 (World.laidAll_os _ _ _) (World.shaped_of_ZipB (by kernel_rfl) (by kernel_rfl)) (by kernel_rfl) (by kernel_rfl) (by kernel_rfl) (door_met os _)) ?_
  intro W base args ds gs before hval0 hW _ _ hL _
  have hval : ∀ (j : Nat) t v, Tryd.f3.params[j]? = some t → args[j]? = some v → Value.okWide Tryd.prog W .any base t v := hval0
  obtain ⟨p, q, hA, hV, _⟩ := id hW
  have hA : DataW.TrodAll enc Tryd.prog W 0 (fun _ => true) true [9] args.toList ds p := hA
  obtain ⟨rfl, rfl⟩ := trodVars_none hV
  obtain ⟨v0, d0, rfl, rfl, hD0⟩ := trodAll_one hA
  obtain ⟨c0, k0, r0⟩ := AM.open_one (k := .str) (by kernel_rfl) (hval 0 9 v0 rfl rfl)
  obtain ⟨a0, rfl, b0⟩ := k0
  have hargs : AM.All2 (AM.VR AM.noPhi) [.c (.str a0)] [v0] := ⟨r0 AM.noPhi, trivial⟩
  have hcalls := AM.law_val AM.fnOK (fn := Tryd.f3) (vs := #[v0]) (w := W) Tryd.func3 (by kernel_rfl) rfl hargs (AM.c_laws_FnExactParseReplay a0 b0)
  refine hcalls.mono fun e W' ⟨he, hfr⟩ => ⟨_, he, ?_⟩
  exact AM.law_post Tryd.laid (fun t ht => by
    have ht : t ∈ [9] := ht
    simp at ht
    subst ht
    exact ⟨by kernel_rfl, of_decide_eq_true (by kernel_rfl)⟩) rfl hW rfl (bt := 4) (by kernel_rfl) rfl rfl rfl hfr
theorem parseReplay_holds_closed : joinedFacts Tryd.prog 3 Tryd.f3 Rows.fnExactParseReplaySpec Rows.fnExactParseReplayRow = true := by
  unfold joinedFacts
  rw [Tryd.laid, Tryd.rowed, Tryd.heard, Tryd.enter, Tryd.lifts, Tryd.made]
  kernel_rfl
theorem parseReplay_holds_row : Rows.FnExactParseReplaySaid :=
  OpenClaim.holds_of_wide 3 Tryd.f3 rfl rfl rfl rfl rfl rfl rfl ⟨rfl, rfl, rfl, rfl, rfl⟩ rfl rfl rfl rfl rfl (by kernel_rfl) Tryd.func3 parseReplay_holds_closed
    (of_decide_eq_true (by kernel_rfl)) (by unfold Func.isWrapper; first | (rw [if_pos (by decide +kernel)]; kernel_rfl) | (rw [if_neg (by decide +kernel)]; exact ⟨rfl, rfl⟩))
    (fun os started H enc _ => parseReplay_holds_lifted os started H enc)
theorem parseReplay_holds : Rows.FnExactParseReplayCardSaid :=
  Claim7.holds_tied_plain_at .later [] [.data, .pinned] true (true, "2aeac05db524321f1388a91bae67957885a7ef362d0459980f84fa4c2af3963c") false
    parseReplay_holds_row (fun _ h => by cases h) (by kernel_rfl) (fun _ h => by cases h) fnExactParseReplay_row_tie rfl ⟨rfl, rfl⟩ (by kernel_rfl) rfl
    (fun f fn hf hfn => by
      have e1 : Tryd.prog.funcNamed "loop.example/g01215/laws.FnExactParseReplay" = some 3 := by kernel_rfl
      have e2 : f = 3 := Option.some.inj (hf.symm.trans e1)
      subst e2
      have e3 : fn = Tryd.f3 := Option.some.inj (hfn.symm.trans Tryd.func3)
      subst e3
      exact ⟨by kernel_rfl, fun j t ht => by
        have hm : t ∈ [9] := by simpa using Array.mem_of_getElem? ht
        have hall : ([9].all fun u => !Tryd.prog.wantsStandIn u) = true := by kernel_rfl
        exact (show Tryd.prog.wantsStandIn t = false by simpa using List.all_eq_true.1 hall t hm)⟩)
    (by kernel_rfl)
end Go.Proofs.YtanbjhhaoolneaaDoor
