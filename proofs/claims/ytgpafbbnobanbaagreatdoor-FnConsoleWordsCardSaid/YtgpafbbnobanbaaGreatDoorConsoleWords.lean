/- The program's FnConsoleWords returns what the reference's returns, for all arguments (the card: the listed table is tied to the program's text). No condition beside the statement's own. -/
import Derived.Test.YtgpafbbnobanbaaGreatDoorPf
import Derived.Test.YtgpafbbnobanbaaGreatDoorSeat
import Derived.Test.YtgpafbbnobanbaaGreatDoorSeatL
import Derived.Test.YtgpafbbnobanbaaGreatDoorTie
import Derived.Test.YtgpafbbnobanbaaGreatDoorCards
import Derived.SevenTiedAt
namespace Go.Proofs.YtgpafbbnobanbaaGreatDoor
open Go Go.ChangeShapes Go.WideShapes Go.RowKit Go.WideElems
set_option maxRecDepth 100000
theorem consoleWords_holds_lifted (os : Os) (started : os.Started) (H : Type) (enc : TypeId × Value → H) :
    ReturnsInHanded {} Tryz.checked os 3 .any (fun w args => (Rows.fnConsoleWordsSpec.pre enc Tryz.prog Tryz.f3 [] false w args ∧ laidMetH Tryz.prog laidL w) ∧ sizedMet enc Tryz.prog Tryz.f3 (OpenSpec.ofChange Rows.fnConsoleWordsSpec) false w args) (Rows.fnConsoleWordsSpec.post enc Tryz.prog Tryz.f3 Rows.fnConsoleWordsRow.apart Rows.fnConsoleWordsRow.fresh Rows.fnConsoleWordsRow.handsOn Rows.fnConsoleWordsRow.again) := by
  refine returnsInHanded_of_change_and (C := Tryz.checked) (X := fun w _ => laidMetH Tryz.prog laidL w) (fun _ _ _ hh h => h.of_heap hh) Tryz.own started (by kernel_rfl) Tryz.func3
    (ChangeSpec.witness_shaped (enc := enc) (C := Tryz.checked) (os := os) (X := fun w _ => laidMetH Tryz.prog laidL w) false (World.laidAll Tryz.prog os laidL) #[.slice none 0 0] 12 (World.laidAll_os _ _ _) (World.shaped_of_ZipB (by kernel_rfl) (by kernel_rfl)) (by kernel_rfl) (by kernel_rfl) (by kernel_rfl) (door_met os _)) ?_
  intro W base args ds gs before hval0 hW _ _ hL _
  have hval : ∀ (j : Nat) t v, Tryz.f3.params[j]? = some t → args[j]? = some v → Value.okWide Tryz.prog W .any base t v := hval0
  have htab := AM.tab_in (tab_of_laid hL)
  obtain ⟨p, q, hA, hV, _⟩ := id hW
  have hA : DataW.TrodAll enc Tryz.prog W 0 (fun _ => true) true [22] args.toList ds p := hA
  obtain ⟨rfl, rfl⟩ := trodVars_none hV
  obtain ⟨v0, d0, rfl, rfl, hD0⟩ := trodAll_one hA
  obtain ⟨l, φ, hl, hrg, hheap, hu⟩ := AM.open_bytes (by kernel_rfl) (hval 0 22 v0 rfl rfl) hD0 htab
  have hargs : AM.All2 (AM.VR φ) [.c (.sl 0 0 l.length 1)] [v0] := ⟨hu, trivial⟩
  have hcalls := AM.law_heap AM.fnOK (fn := Tryz.f3) (vs := #[v0]) (w := W) Tryz.func3 (by kernel_rfl) rfl hheap (by intro b hb; simp at hb; subst hb; rfl) hargs (AM.c_laws_FnConsoleWords l (Nat.le_trans hl (by decide)) hrg)
  refine hcalls.mono fun e W' ⟨he, hfr⟩ => ⟨_, he, ?_⟩
  exact AM.law_post Tryz.laid (fun t ht => by
    have ht : t ∈ [22] := ht
    simp at ht
    subst ht
    exact ⟨by kernel_rfl, of_decide_eq_true (by kernel_rfl)⟩) rfl hW rfl (bt := 4) (by kernel_rfl) rfl rfl rfl hfr
theorem consoleWords_holds_closed : joinedFacts Tryz.prog 3 Tryz.f3 Rows.fnConsoleWordsSpec Rows.fnConsoleWordsRow = true := by
  unfold joinedFacts
  rw [Tryz.laid, Tryz.rowed, Tryz.heard, Tryz.enter, Tryz.lifts, Tryz.made]
  kernel_rfl
theorem consoleWords_holds_row : Rows.FnConsoleWordsSaid :=
  OpenClaim.holds_of_wide 3 Tryz.f3 rfl rfl rfl rfl rfl rfl rfl ⟨rfl, rfl, rfl, rfl, rfl⟩ rfl rfl rfl rfl rfl (by kernel_rfl) Tryz.func3 consoleWords_holds_closed
    (of_decide_eq_true (by kernel_rfl)) (by unfold Func.isWrapper; first | (rw [if_pos (by decide +kernel)]; kernel_rfl) | (rw [if_neg (by decide +kernel)]; exact ⟨rfl, rfl⟩))
    (fun os started H enc _ => consoleWords_holds_lifted os started H enc)
theorem consoleWords_holds : Rows.FnConsoleWordsCardSaid :=
  Claim7.holds_tied_plain_at .later [] [.data, .data, .data, .data, .sentinel, .sentinel, .pinned] true (true, "1e663efbdcd38056a634afdc2b992bab0ae83171ea7b3647d53a90c112827792") true
    consoleWords_holds_row (fun _ h => by cases h) (by kernel_rfl) (fun _ h => by cases h) fnConsoleWords_row_tie rfl ⟨rfl, rfl⟩ (by kernel_rfl) rfl
    (fun f fn hf hfn => by
      have e1 : Tryz.prog.funcNamed "loop.example/g01215/laws.FnConsoleWords" = some 3 := by kernel_rfl
      have e2 : f = 3 := Option.some.inj (hf.symm.trans e1)
      subst e2
      have e3 : fn = Tryz.f3 := Option.some.inj (hfn.symm.trans Tryz.func3)
      subst e3
      exact ⟨by kernel_rfl, fun j t ht => by
        have hm : t ∈ [22] := by simpa using Array.mem_of_getElem? ht
        have hall : ([22].all fun u => !Tryz.prog.wantsStandIn u) = true := by kernel_rfl
        exact (show Tryz.prog.wantsStandIn t = false by simpa using List.all_eq_true.1 hall t hm)⟩)
    (by kernel_rfl)
end Go.Proofs.YtgpafbbnobanbaaGreatDoor
