/-
  DERIVED. GIVEN WITH THE SEED: THE CARDS: each row of YthpookdfaikabaaGreatDoorRows.lean that lists a variable, with what it lists TIED to the program's text (the seventh form; the later family's looks); each row that meets fmt, with fmt's text TOLD by the authors' own Lean function (tested against real Go, not proved from fmt's source: count such statements apart). THE CARD IS WHAT COUNTS. Prove the row's statement (the work); the ties are given (YthpookdfaikabaaGreatDoorTie.lean); close each card by the builder's one call (the guide's Derived/Test/ToyasCard.lean, 'card_holds'). Laid BY PROGRAM, IN A SANDBOX (cutbox-door.mjs). By AI agents, Wed Nov 11 2026. No macro, syntax, notation, axiom, sorry.
-/
import Derived.Test.YthpookdfaikabaaGreatDoorRows
import GoSem.ClaimSeven
namespace Go.Proofs.YthpookdfaikabaaGreatDoor
namespace Rows

/-- THE TIED CARD OF 'laws.FnTubeReplays'. -/
def fnTubeReplaysCard : Claim7 := { stood := { row := fnTubeReplaysRow, standIns := [], harness := (true, "4bff8e06aca2d0b29a6c149af3dcb25c9a1ce8b91b06a9c4eab127902ba3776a"), looks := false }, kinds := [], alts := [], laidByText := true, laidKinds := [.data, .data, .data, .data, .pinned], laidTests := true, laidLooks := .later }
def FnTubeReplaysCardSaid : Prop := Claim7.holds Tryz.pinned (.plain (OpenSpec.ofChange fnTubeReplaysSpec)) fnTubeReplaysCard

/-- THE SECOND FORM's CARD OF 'laws.FnTubeReplays'. -/
def fnTubeReplaysUptoCard : Claim7 := { stood := { row := fnTubeReplaysUptoRow, standIns := [], harness := (true, "4bff8e06aca2d0b29a6c149af3dcb25c9a1ce8b91b06a9c4eab127902ba3776a"), looks := false }, kinds := [], alts := [], laidByText := true, laidKinds := [.data, .data, .data, .data, .pinned], laidTests := true, laidLooks := .later }
def FnTubeReplaysUptoCardSaid : Prop := Claim7.holds Tryz.pinned (.plain (OpenSpec.upto fnTubeReplaysSpec)) fnTubeReplaysUptoCard
end Rows
end Go.Proofs.YthpookdfaikabaaGreatDoor
