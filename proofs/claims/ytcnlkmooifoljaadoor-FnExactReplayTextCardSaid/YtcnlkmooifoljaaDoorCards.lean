/-
  DERIVED. GIVEN WITH THE SEED: THE CARDS: each row of YtcnlkmooifoljaaDoorRows.lean that lists a variable, with what it lists TIED to the program's text (the seventh form; the later family's looks); each row that meets fmt, with fmt's text TOLD by the authors' own Lean function (tested against real Go, not proved from fmt's source: count such statements apart). THE CARD IS WHAT COUNTS. Prove the row's statement (the work); the ties are given (YtcnlkmooifoljaaDoorTie.lean); close each card by the builder's one call (the guide's Derived/Test/ToyasCard.lean, 'card_holds'). Laid BY PROGRAM, IN A SANDBOX (cutbox-door.mjs). By AI agents, Wed Nov 11 2026. No macro, syntax, notation, axiom, sorry.
-/
import Derived.Test.YtcnlkmooifoljaaDoorRows
import GoSem.ClaimSeven
namespace Go.Proofs.YtcnlkmooifoljaaDoor
namespace Rows

/-- THE TIED CARD OF 'laws.FnExactReplayText'. -/
def fnExactReplayTextCard : Claim7 := { stood := { row := fnExactReplayTextRow, standIns := [], harness := (true, "ecb0b9f59ddceb76607095babfc012a764899dad0697d34d5be9574c012e2e6b"), looks := false }, kinds := [], alts := [], laidByText := true, laidKinds := [.data, .data, .data], laidTests := true, laidLooks := .later }
def FnExactReplayTextCardSaid : Prop := Claim7.holds Tryd.pinned (.plain (OpenSpec.ofChange fnExactReplayTextSpec)) fnExactReplayTextCard

/-- THE SECOND FORM's CARD OF 'laws.FnExactReplayText'. -/
def fnExactReplayTextUptoCard : Claim7 := { stood := { row := fnExactReplayTextUptoRow, standIns := [], harness := (true, "ecb0b9f59ddceb76607095babfc012a764899dad0697d34d5be9574c012e2e6b"), looks := false }, kinds := [], alts := [], laidByText := true, laidKinds := [.data, .data, .data], laidTests := true, laidLooks := .later }
def FnExactReplayTextUptoCardSaid : Prop := Claim7.holds Tryd.pinned (.plain (OpenSpec.upto fnExactReplayTextSpec)) fnExactReplayTextUptoCard
end Rows
end Go.Proofs.YtcnlkmooifoljaaDoor
