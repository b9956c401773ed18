/- The program's IsValidConsole returns what the reference's returns, for all arguments (the card: the listed table is tied to the program's text). No condition beside the statement's own. -/
import Derived.Test.YtgkmdnngbbgboaaDoorLogH
import Derived.Test.YtgkmdnngbbgboaaDoorSeat
import Derived.Test.YtgkmdnngbbgboaaDoorSeatL
import Derived.Test.YtgkmdnngbbgboaaDoorOpenC
import Derived.Test.YtgkmdnngbbgboaaDoorTie
import Derived.Test.YtgkmdnngbbgboaaDoorCards
import Derived.SevenTiedAt
namespace Go.Proofs.YtgkmdnngbbgboaaDoor
open Go Go.ChangeShapes Go.WideShapes Go.RowKit Go.WideElems
set_option maxRecDepth 100000
theorem isValidConsole_holds_lifted (os : Os) (started : os.Started) (H : Type) (enc : TypeId × Value → H) :
    ReturnsInHanded {} Tryd.checked os 10 .any (fun w args => (Rows.fnExactIsValidConsoleSpec.pre enc Tryd.prog Tryd.f10 [] false w args ∧ laidMetH Tryd.prog laidL w) ∧ sizedMet enc Tryd.prog Tryd.f10 (OpenSpec.ofChange Rows.fnExactIsValidConsoleSpec) false w args) (Rows.fnExactIsValidConsoleSpec.post enc Tryd.prog Tryd.f10 Rows.fnExactIsValidConsoleRow.apart Rows.fnExactIsValidConsoleRow.fresh Rows.fnExactIsValidConsoleRow.handsOn Rows.fnExactIsValidConsoleRow.again) := by
  refine returnsInHanded_of_change_and (C := Tryd.checked) (X := fun w _ => laidMetH Tryd.prog laidL w) (fun _ _ _ hh h => h.of_heap hh) Tryd.own started (by kernel_rfl) Tryd.func10
    (ChangeSpec.witness_shaped (enc := enc) (C := Tryd.checked) (os := os) (X := fun w _ => laidMetH Tryd.prog laidL w) false (World.doorLaid Tryd.prog 24 os) #[.agg #[.int .i64 0, .int .i64 0, .int .i64 0, .int .i64 0, .int .i64 0, .int .i64 0, .int .i64 0, .int .i64 0, .int .i64 0, .int .i64 0, .int .i64 0, .int .i64 0, .int .i64 0, .int .i64 0, .int .i64 0, .int .i64 0, .int .i64 0, .int .i64 0, .int .i64 0, .int .i64 0, .int .i64 0, .int .i64 0, .int .i64 0, .int .i64 0, .int .i64 0, .int .i64 0, .string ⟨#[]⟩, .string ⟨#[]⟩, .int .i64 0]] 12 rfl (World.shaped_of_RefB (by kernel_rfl) (by kernel_rfl)) (by kernel_rfl) (by kernel_rfl) (by kernel_rfl) (door_met os _)) ?_
  intro W base args ds gs before hval0 hW _ _ hL _
  have hval : ∀ (j : Nat) t v, Tryd.f10.params[j]? = some t → args[j]? = some v → Value.okWide Tryd.prog W .any base t v := hval0
  have htab := AM.tab_in (tab_of_laid hL)
  obtain ⟨p, q, hA, hV, _⟩ := id hW
  have hA : DataW.TrodAll enc Tryd.prog W 0 (fun _ => true) true [60] args.toList ds p := hA
  obtain ⟨rfl, rfl⟩ := trodVars_none hV
  obtain ⟨v0, d0, rfl, rfl, _⟩ := trodAll_one hA
  obtain ⟨c0, w0, rfl, k0, r0⟩ := AM.open_cells (ks := List.replicate 26 AM.PKd.int ++ [.str, .str, .int]) (by kernel_rfl) (hval 0 60 v0 rfl rfl)
  obtain ⟨y0, e0, rfl, j0, u0⟩ := AM.all2_app k0
  obtain ⟨x0, rfl, l0, _⟩ := AM.ckOK_ints j0
  obtain ⟨q0_0, q0_1, q0_2, rfl, ⟨a0_0, rfl, b0_0⟩, ⟨a0_1, rfl, b0_1⟩, ⟨a0_2, rfl, _⟩⟩ := AM.all2_3 u0
  have hargs : AM.All2 (AM.VR AM.noPhi) [.agg (x0.map (AM.C.int .i64) ++ [.str a0_0, .str a0_1, .int .i64 a0_2])] [Value.agg w0.toArray] := ⟨⟨_, rfl, r0 AM.noPhi⟩, trivial⟩
  have hcalls := AM.law_val AM.fnOK (fn := Tryd.f10) (vs := #[Value.agg w0.toArray]) (w := W) Tryd.func10 (by kernel_rfl) rfl hargs (AM.c_laws_FnExactIsValidConsole x0 a0_0 a0_1 a0_2 l0 b0_0 b0_1) htab
  refine hcalls.mono fun e W' ⟨he, hfr⟩ => ⟨_, he, ?_⟩
  exact AM.law_post Tryd.laid (fun t ht => by
    have ht : t ∈ [60] := ht
    simp at ht
    subst ht
    exact ⟨by kernel_rfl, of_decide_eq_true (by kernel_rfl)⟩) rfl hW rfl (bt := 4) (by kernel_rfl) rfl rfl rfl hfr
theorem isValidConsole_holds_closed : joinedFacts Tryd.prog 10 Tryd.f10 Rows.fnExactIsValidConsoleSpec Rows.fnExactIsValidConsoleRow = true := by
  unfold joinedFacts
  rw [Tryd.laid, Tryd.rowed, Tryd.heard, Tryd.enter, Tryd.lifts, Tryd.made]
  kernel_rfl
theorem isValidConsole_holds_row : Rows.FnExactIsValidConsoleSaid :=
  OpenClaim.holds_of_wide 10 Tryd.f10 rfl rfl rfl rfl rfl rfl rfl ⟨rfl, rfl, rfl, rfl, rfl⟩ rfl rfl rfl rfl rfl (by kernel_rfl) Tryd.func10 isValidConsole_holds_closed
    (of_decide_eq_true (by kernel_rfl)) (by unfold Func.isWrapper; first | (rw [if_pos (by decide +kernel)]; kernel_rfl) | (rw [if_neg (by decide +kernel)]; exact ⟨rfl, rfl⟩))
    (fun os started H enc _ => isValidConsole_holds_lifted os started H enc)
theorem isValidConsole_holds : Rows.FnExactIsValidConsoleCardSaid :=
  Claim7.holds_tied_plain_at .later [] [.data, .data, .data] true (true, "fc68e42c4499969aea5098b2aa07c730c8164e737b9241c7db611447c1f1d196") false
    isValidConsole_holds_row (fun _ h => by cases h) (by kernel_rfl) (fun _ h => by cases h) fnExactIsValidConsole_row_tie rfl ⟨rfl, rfl⟩ (by kernel_rfl) rfl
    (fun f fn hf hfn => by
      have e1 : Tryd.prog.funcNamed "loop.example/g01215/laws.FnExactIsValidConsole" = some 10 := by kernel_rfl
      have e2 : f = 10 := Option.some.inj (hf.symm.trans e1)
      subst e2
      have e3 : fn = Tryd.f10 := Option.some.inj (hfn.symm.trans Tryd.func10)
      subst e3
      exact ⟨by kernel_rfl, fun j t ht => by
        have hm : t ∈ [60] := by simpa using Array.mem_of_getElem? ht
        have hall : ([60].all fun u => !Tryd.prog.wantsStandIn u) = true := by kernel_rfl
        exact (show Tryd.prog.wantsStandIn t = false by simpa using List.all_eq_true.1 hall t hm)⟩)
    (by kernel_rfl)
end Go.Proofs.YtgkmdnngbbgboaaDoor
