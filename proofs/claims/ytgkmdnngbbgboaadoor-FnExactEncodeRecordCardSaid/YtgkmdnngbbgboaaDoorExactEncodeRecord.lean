/- The program's EncodeRecord returns what the reference's returns, for all arguments (the card: the listed table is tied to the program's text). No condition beside the statement's own. -/
import Derived.Test.YtgkmdnngbbgboaaDoorLogA
import Derived.Test.YtgkmdnngbbgboaaDoorSeat
import Derived.Test.YtgkmdnngbbgboaaDoorSeatL
import Derived.Test.YtgkmdnngbbgboaaDoorOpenC
import Derived.Test.YtgkmdnngbbgboaaDoorTie
import Derived.Test.YtgkmdnngbbgboaaDoorCards
import Derived.SevenTiedAt
namespace Go.Proofs.YtgkmdnngbbgboaaDoor
open Go Go.ChangeShapes Go.WideShapes Go.RowKit Go.WideElems
set_option maxRecDepth 100000
theorem encodeRecord_holds_lifted (os : Os) (started : os.Started) (H : Type) (enc : TypeId × Value → H) :
    ReturnsInHanded {} Tryd.checked os 3 .any (fun w args => (Rows.fnExactEncodeRecordSpec.pre enc Tryd.prog Tryd.f3 [] false w args ∧ laidMetH Tryd.prog laidL w) ∧ sizedMet enc Tryd.prog Tryd.f3 (OpenSpec.ofChange Rows.fnExactEncodeRecordSpec) false w args) (Rows.fnExactEncodeRecordSpec.post enc Tryd.prog Tryd.f3 Rows.fnExactEncodeRecordRow.apart Rows.fnExactEncodeRecordRow.fresh Rows.fnExactEncodeRecordRow.handsOn Rows.fnExactEncodeRecordRow.again) := by
  refine returnsInHanded_of_change_and (C := Tryd.checked) (X := fun w _ => laidMetH Tryd.prog laidL w) (fun _ _ _ hh h => h.of_heap hh) Tryd.own started (by kernel_rfl) Tryd.func3
    (ChangeSpec.witness_shaped (enc := enc) (C := Tryd.checked) (os := os) (X := fun w _ => laidMetH Tryd.prog laidL w) false (World.doorLaid Tryd.prog 24 os) #[.int .i64 0, .agg #[.string ⟨#[]⟩, .string ⟨#[]⟩]] 12 rfl (World.shaped_of_RefB (by kernel_rfl) (by kernel_rfl)) (by kernel_rfl) (by kernel_rfl) (by kernel_rfl) (door_met os _)) ?_
  intro W base args ds gs before hval0 hW _ _ hL _
  have hval : ∀ (j : Nat) t v, Tryd.f3.params[j]? = some t → args[j]? = some v → Value.okWide Tryd.prog W .any base t v := hval0
  have htab := AM.tab_in (tab_of_laid hL)
  obtain ⟨p, q, hA, hV, _⟩ := id hW
  have hA : DataW.TrodAll enc Tryd.prog W 0 (fun _ => true) true [3, 23] args.toList ds p := hA
  obtain ⟨rfl, rfl⟩ := trodVars_none hV
  obtain ⟨v0, v1, d0, d1, p0, p1, rfl, rfl, _, _, _⟩ := trodAll_two hA
  obtain ⟨c0, k0, r0⟩ := AM.open_one (k := .int) (by kernel_rfl) (hval 0 3 v0 rfl rfl)
  obtain ⟨a0, rfl, _⟩ := k0
  obtain ⟨c1, w1, rfl, k1, r1⟩ := AM.open_cells (ks := [.str, .str]) (by kernel_rfl) (hval 1 23 v1 rfl rfl)
  obtain ⟨q1_0, q1_1, rfl, ⟨a1_0, rfl, b1_0⟩, ⟨a1_1, rfl, b1_1⟩⟩ := AM.all2_2 k1
  have hargs : AM.All2 (AM.VR AM.noPhi) [.c (.int .i64 a0), .agg ([.str a1_0, .str a1_1])] [v0, Value.agg w1.toArray] := ⟨r0 AM.noPhi, ⟨_, rfl, r1 AM.noPhi⟩, trivial⟩
  have hcalls := AM.law_val AM.fnOK (fn := Tryd.f3) (vs := #[v0, Value.agg w1.toArray]) (w := W) Tryd.func3 (by kernel_rfl) rfl hargs (AM.c_laws_FnExactEncodeRecord a0 a1_0 a1_1 b1_0 b1_1) htab
  refine hcalls.mono fun e W' ⟨he, hfr⟩ => ⟨_, he, ?_⟩
  exact AM.law_post Tryd.laid (fun t ht => by
    have ht : t ∈ [3, 23] := ht
    simp at ht
    rcases ht with rfl | rfl <;> exact ⟨by kernel_rfl, of_decide_eq_true (by kernel_rfl)⟩) rfl hW rfl (bt := 4) (by kernel_rfl) rfl rfl rfl hfr
theorem encodeRecord_holds_closed : joinedFacts Tryd.prog 3 Tryd.f3 Rows.fnExactEncodeRecordSpec Rows.fnExactEncodeRecordRow = true := by
  unfold joinedFacts
  rw [Tryd.laid, Tryd.rowed, Tryd.heard, Tryd.enter, Tryd.lifts, Tryd.made]
  kernel_rfl
theorem encodeRecord_holds_row : Rows.FnExactEncodeRecordSaid :=
  OpenClaim.holds_of_wide 3 Tryd.f3 rfl rfl rfl rfl rfl rfl rfl ⟨rfl, rfl, rfl, rfl, rfl⟩ rfl rfl rfl rfl rfl (by kernel_rfl) Tryd.func3 encodeRecord_holds_closed
    (of_decide_eq_true (by kernel_rfl)) (by unfold Func.isWrapper; first | (rw [if_pos (by decide +kernel)]; kernel_rfl) | (rw [if_neg (by decide +kernel)]; exact ⟨rfl, rfl⟩))
    (fun os started H enc _ => encodeRecord_holds_lifted os started H enc)
theorem encodeRecord_holds : Rows.FnExactEncodeRecordCardSaid :=
  Claim7.holds_tied_plain_at .later [] [.data, .data, .data] true (true, "fc68e42c4499969aea5098b2aa07c730c8164e737b9241c7db611447c1f1d196") false
    encodeRecord_holds_row (fun _ h => by cases h) (by kernel_rfl) (fun _ h => by cases h) fnExactEncodeRecord_row_tie rfl ⟨rfl, rfl⟩ (by kernel_rfl) rfl
    (fun f fn hf hfn => by
      have e1 : Tryd.prog.funcNamed "loop.example/g01215/laws.FnExactEncodeRecord" = some 3 := by kernel_rfl
      have e2 : f = 3 := Option.some.inj (hf.symm.trans e1)
      subst e2
      have e3 : fn = Tryd.f3 := Option.some.inj (hfn.symm.trans Tryd.func3)
      subst e3
      exact ⟨by kernel_rfl, fun j t ht => by
        have hm : t ∈ [3, 23] := by simpa using Array.mem_of_getElem? ht
        have hall : ([3, 23].all fun u => !Tryd.prog.wantsStandIn u) = true := by kernel_rfl
        exact (show Tryd.prog.wantsStandIn t = false by simpa using List.all_eq_true.1 hall t hm)⟩)
    (by kernel_rfl)
end Go.Proofs.YtgkmdnngbbgboaaDoor
