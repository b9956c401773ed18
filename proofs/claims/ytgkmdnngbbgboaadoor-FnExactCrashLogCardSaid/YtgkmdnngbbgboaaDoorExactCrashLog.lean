/- The program's CrashLog returns what the reference's returns, for all arguments (the card: the listed table is tied to the program's text). No condition beside the statement's own. -/
import Derived.Test.YtgkmdnngbbgboaaDoorLogF
import Derived.Test.YtgkmdnngbbgboaaDoorSeat
import Derived.Test.YtgkmdnngbbgboaaDoorSeatL
import Derived.Test.YtgkmdnngbbgboaaDoorOpenC
import Derived.Test.YtgkmdnngbbgboaaDoorTie
import Derived.Test.YtgkmdnngbbgboaaDoorCards
import Derived.SevenTiedAt
namespace Go.Proofs.YtgkmdnngbbgboaaDoor
open Go Go.ChangeShapes Go.WideShapes Go.RowKit Go.WideElems
set_option maxRecDepth 100000
theorem crashLog_holds_lifted (os : Os) (started : os.Started) (H : Type) (enc : TypeId × Value → H) :
    ReturnsInHanded {} Tryd.checked os 6 .any (fun w args => (Rows.fnExactCrashLogSpec.pre enc Tryd.prog Tryd.f6 [] false w args ∧ laidMetH Tryd.prog laidL w) ∧ sizedMet enc Tryd.prog Tryd.f6 (OpenSpec.ofChange Rows.fnExactCrashLogSpec) false w args) (Rows.fnExactCrashLogSpec.post enc Tryd.prog Tryd.f6 Rows.fnExactCrashLogRow.apart Rows.fnExactCrashLogRow.fresh Rows.fnExactCrashLogRow.handsOn Rows.fnExactCrashLogRow.again) := by
  refine returnsInHanded_of_change_and (C := Tryd.checked) (X := fun w _ => laidMetH Tryd.prog laidL w) (fun _ _ _ hh h => h.of_heap hh) Tryd.own started (by kernel_rfl) Tryd.func6
    (ChangeSpec.witness_shaped (enc := enc) (C := Tryd.checked) (os := os) (X := fun w _ => laidMetH Tryd.prog laidL w) false (World.doorLaid Tryd.prog 24 os) #[.agg #[.string ⟨#[]⟩, .string ⟨#[]⟩, .int .i64 0], .int .i64 0, .bool false] 12 rfl (World.shaped_of_RefB (by kernel_rfl) (by kernel_rfl)) (by kernel_rfl) (by kernel_rfl) (by kernel_rfl) (door_met os _)) ?_
  intro W base args ds gs before hval0 hW _ _ hL _
  have hval : ∀ (j : Nat) t v, Tryd.f6.params[j]? = some t → args[j]? = some v → Value.okWide Tryd.prog W .any base t v := hval0
  have htab := AM.tab_in (tab_of_laid hL)
  obtain ⟨p, q, hA, hV, _⟩ := id hW
  have hA : DataW.TrodAll enc Tryd.prog W 0 (fun _ => true) true [36, 3, 4] args.toList ds p := hA
  obtain ⟨rfl, rfl⟩ := trodVars_none hV
  obtain ⟨v0, v1, v2, d0, d1, d2, p0, p1, p2, rfl, rfl, _, _, _, _⟩ := trodAll_three hA
  obtain ⟨c0, w0, rfl, k0, r0⟩ := AM.open_cells (ks := [.str, .str, .int]) (by kernel_rfl) (hval 0 36 v0 rfl rfl)
  obtain ⟨q0_0, q0_1, q0_2, rfl, ⟨a0_0, rfl, b0_0⟩, ⟨a0_1, rfl, b0_1⟩, ⟨a0_2, rfl, _⟩⟩ := AM.all2_3 k0
  obtain ⟨c1, k1, r1⟩ := AM.open_one (k := .int) (by kernel_rfl) (hval 1 3 v1 rfl rfl)
  obtain ⟨a1, rfl, _⟩ := k1
  obtain ⟨a2, rfl⟩ := AM.open_boolT (by kernel_rfl) (hval 2 4 v2 rfl rfl)
  have hargs : AM.All2 (AM.VR AM.noPhi) [.agg ([.str a0_0, .str a0_1, .int .i64 a0_2]), .c (.int .i64 a1), .c (.bool a2)] [Value.agg w0.toArray, v1, Value.bool a2] := ⟨⟨_, rfl, r0 AM.noPhi⟩, r1 AM.noPhi, rfl, trivial⟩
  have hcalls := AM.law_val AM.fnOK (fn := Tryd.f6) (vs := #[Value.agg w0.toArray, v1, Value.bool a2]) (w := W) Tryd.func6 (by kernel_rfl) rfl hargs (AM.c_laws_FnExactCrashLog a0_0 a0_1 a0_2 a1 a2 b0_0 b0_1) htab
  refine hcalls.mono fun e W' ⟨he, hfr⟩ => ⟨_, he, ?_⟩
  exact AM.law_post Tryd.laid (fun t ht => by
    have ht : t ∈ [36, 3, 4] := ht
    simp at ht
    rcases ht with rfl | rfl | rfl <;> exact ⟨by kernel_rfl, of_decide_eq_true (by kernel_rfl)⟩) rfl hW rfl (bt := 4) (by kernel_rfl) rfl rfl rfl hfr
theorem crashLog_holds_closed : joinedFacts Tryd.prog 6 Tryd.f6 Rows.fnExactCrashLogSpec Rows.fnExactCrashLogRow = true := by
  unfold joinedFacts
  rw [Tryd.laid, Tryd.rowed, Tryd.heard, Tryd.enter, Tryd.lifts, Tryd.made]
  kernel_rfl
theorem crashLog_holds_row : Rows.FnExactCrashLogSaid :=
  OpenClaim.holds_of_wide 6 Tryd.f6 rfl rfl rfl rfl rfl rfl rfl ⟨rfl, rfl, rfl, rfl, rfl⟩ rfl rfl rfl rfl rfl (by kernel_rfl) Tryd.func6 crashLog_holds_closed
    (of_decide_eq_true (by kernel_rfl)) (by unfold Func.isWrapper; first | (rw [if_pos (by decide +kernel)]; kernel_rfl) | (rw [if_neg (by decide +kernel)]; exact ⟨rfl, rfl⟩))
    (fun os started H enc _ => crashLog_holds_lifted os started H enc)
theorem crashLog_holds : Rows.FnExactCrashLogCardSaid :=
  Claim7.holds_tied_plain_at .later [] [.data, .data, .data] true (true, "fc68e42c4499969aea5098b2aa07c730c8164e737b9241c7db611447c1f1d196") false
    crashLog_holds_row (fun _ h => by cases h) (by kernel_rfl) (fun _ h => by cases h) fnExactCrashLog_row_tie rfl ⟨rfl, rfl⟩ (by kernel_rfl) rfl
    (fun f fn hf hfn => by
      have e1 : Tryd.prog.funcNamed "loop.example/g01215/laws.FnExactCrashLog" = some 6 := by kernel_rfl
      have e2 : f = 6 := Option.some.inj (hf.symm.trans e1)
      subst e2
      have e3 : fn = Tryd.f6 := Option.some.inj (hfn.symm.trans Tryd.func6)
      subst e3
      exact ⟨by kernel_rfl, fun j t ht => by
        have hm : t ∈ [36, 3, 4] := by simpa using Array.mem_of_getElem? ht
        have hall : ([36, 3, 4].all fun u => !Tryd.prog.wantsStandIn u) = true := by kernel_rfl
        exact (show Tryd.prog.wantsStandIn t = false by simpa using List.all_eq_true.1 hall t hm)⟩)
    (by kernel_rfl)
end Go.Proofs.YtgkmdnngbbgboaaDoor
