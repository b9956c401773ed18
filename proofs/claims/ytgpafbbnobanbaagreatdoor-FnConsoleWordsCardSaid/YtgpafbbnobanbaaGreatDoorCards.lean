/-
  DERIVED. GIVEN WITH THE SEED: THE CARDS: each row of YtgpafbbnobanbaaGreatDoorRows.lean that lists a variable, with what it lists TIED to the program's text (the seventh form; the later family's looks); each row that meets fmt, with fmt's text TOLD by the authors' own Lean function (tested against real Go, not proved from fmt's source: count such statements apart). THE CARD IS WHAT COUNTS. Prove the row's statement (the work); the ties are given (YtgpafbbnobanbaaGreatDoorTie.lean); close each card by the builder's one call (the guide's Derived/Test/ToyasCard.lean, 'card_holds'). Laid BY PROGRAM, IN A SANDBOX (cutbox-door.mjs). By AI agents, Wed Nov 11 2026. No macro, syntax, notation, axiom, sorry.
-/
import Derived.Test.YtgpafbbnobanbaaGreatDoorRows
import GoSem.ClaimSeven
namespace Go.Proofs.YtgpafbbnobanbaaGreatDoor
namespace Rows

/-- THE TIED CARD OF 'laws.FnConsoleWords'. -/
def fnConsoleWordsCard : Claim7 := { stood := { row := fnConsoleWordsRow, standIns := [], harness := (true, "1e663efbdcd38056a634afdc2b992bab0ae83171ea7b3647d53a90c112827792"), looks := true }, kinds := [], alts := [], laidByText := true, laidKinds := [.data, .data, .data, .data, .sentinel, .sentinel, .pinned], laidTests := true, laidLooks := .later }
def FnConsoleWordsCardSaid : Prop := Claim7.holds Tryz.pinned (.plain (OpenSpec.ofChange fnConsoleWordsSpec)) fnConsoleWordsCard

/-- THE SECOND FORM's CARD OF 'laws.FnConsoleWords'. -/
def fnConsoleWordsUptoCard : Claim7 := { stood := { row := fnConsoleWordsUptoRow, standIns := [], harness := (true, "1e663efbdcd38056a634afdc2b992bab0ae83171ea7b3647d53a90c112827792"), looks := true }, kinds := [], alts := [], laidByText := true, laidKinds := [.data, .data, .data, .data, .sentinel, .sentinel, .pinned], laidTests := true, laidLooks := .later }
def FnConsoleWordsUptoCardSaid : Prop := Claim7.holds Tryz.pinned (.plain (OpenSpec.upto fnConsoleWordsSpec)) fnConsoleWordsUptoCard
end Rows
end Go.Proofs.YtgpafbbnobanbaaGreatDoor
