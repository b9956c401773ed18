/-
  DERIVED. GIVEN WITH THE SEED: THE CARDS: each row of YtanbjhhaoolneaaDoorRows.lean that lists a variable, with what it lists TIED to the program's text (the seventh form; the later family's looks); each row that meets fmt, with fmt's text TOLD by the authors' own Lean function (tested against real Go, not proved from fmt's source: count such statements apart). THE CARD IS WHAT COUNTS. Prove the row's statement (the work); the ties are given (YtanbjhhaoolneaaDoorTie.lean); close each card by the builder's one call (the guide's Derived/Test/ToyasCard.lean, 'card_holds'). Laid BY PROGRAM, IN A SANDBOX (cutbox-door.mjs). By AI agents, Wed Nov 11 2026. No macro, syntax, notation, axiom, sorry.
-/
import Derived.Test.YtanbjhhaoolneaaDoorRows
import GoSem.ClaimSeven
namespace Go.Proofs.YtanbjhhaoolneaaDoor
namespace Rows

/-- THE TIED CARD OF 'laws.FnExactParseReplay'. -/
def fnExactParseReplayCard : Claim7 := { stood := { row := fnExactParseReplayRow, standIns := [], harness := (true, "2aeac05db524321f1388a91bae67957885a7ef362d0459980f84fa4c2af3963c"), looks := false }, kinds := [], alts := [], laidByText := true, laidKinds := [.data, .pinned], laidTests := true, laidLooks := .later }
def FnExactParseReplayCardSaid : Prop := Claim7.holds Tryd.pinned (.plain (OpenSpec.ofChange fnExactParseReplaySpec)) fnExactParseReplayCard

/-- THE SECOND FORM's CARD OF 'laws.FnExactParseReplay'. -/
def fnExactParseReplayUptoCard : Claim7 := { stood := { row := fnExactParseReplayUptoRow, standIns := [], harness := (true, "2aeac05db524321f1388a91bae67957885a7ef362d0459980f84fa4c2af3963c"), looks := false }, kinds := [], alts := [], laidByText := true, laidKinds := [.data, .pinned], laidTests := true, laidLooks := .later }
def FnExactParseReplayUptoCardSaid : Prop := Claim7.holds Tryd.pinned (.plain (OpenSpec.upto fnExactParseReplaySpec)) fnExactParseReplayUptoCard
end Rows
end Go.Proofs.YtanbjhhaoolneaaDoor
