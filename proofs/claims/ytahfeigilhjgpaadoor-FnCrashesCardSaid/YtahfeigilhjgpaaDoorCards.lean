/-
  DERIVED. GIVEN WITH THE SEED: THE CARDS: each row of YtahfeigilhjgpaaDoorRows.lean that lists a variable, with what it lists TIED to the program's text (the seventh form; the later family's looks); each row that meets fmt, with fmt's text TOLD by the authors' own Lean function (tested against real Go, not proved from fmt's source: count such statements apart). THE CARD IS WHAT COUNTS. Prove the row's statement (the work); the ties are given (YtahfeigilhjgpaaDoorTie.lean); close each card by the builder's one call (the guide's Derived/Test/ToyasCard.lean, 'card_holds'). Laid BY PROGRAM, IN A SANDBOX (cutbox-door.mjs). By AI agents, Wed Nov 11 2026. No macro, syntax, notation, axiom, sorry.
-/
import Derived.Test.YtahfeigilhjgpaaDoorRows
import GoSem.ClaimSeven
namespace Go.Proofs.YtahfeigilhjgpaaDoor
namespace Rows

/-- THE TIED CARD OF 'laws.FnExactParseReplay'. -/
def fnExactParseReplayCard : Claim7 := { stood := { row := fnExactParseReplayRow, standIns := [], harness := (true, "96896a21f7f0301f29063d4562f10f5223d82748581c9a556a0978c015f2f443"), looks := false }, kinds := [], alts := [], laidByText := true, laidKinds := [.data, .pinned], laidTests := true, laidLooks := .later }
def FnExactParseReplayCardSaid : Prop := Claim7.holds Tryd.pinned (.plain (OpenSpec.ofChange fnExactParseReplaySpec)) fnExactParseReplayCard

/-- THE TIED CARD OF 'laws.FnExactReplayText'. -/
def fnExactReplayTextCard : Claim7 := { stood := { row := fnExactReplayTextRow, standIns := [], harness := (true, "96896a21f7f0301f29063d4562f10f5223d82748581c9a556a0978c015f2f443"), looks := false }, kinds := [], alts := [], laidByText := true, laidKinds := [.data, .data, .data], laidTests := true, laidLooks := .later }
def FnExactReplayTextCardSaid : Prop := Claim7.holds Tryd.pinned (.plain (OpenSpec.ofChange fnExactReplayTextSpec)) fnExactReplayTextCard

/-- THE TIED CARD OF 'laws.FnLogs'. -/
def fnLogsCard : Claim7 := { stood := { row := fnLogsRow, standIns := [], harness := (true, "96896a21f7f0301f29063d4562f10f5223d82748581c9a556a0978c015f2f443"), looks := false }, kinds := [], alts := [], laidByText := true, laidKinds := [.data, .data, .data], laidTests := true, laidLooks := .later }
def FnLogsCardSaid : Prop := Claim7.holds Tryd.pinned (.plain (OpenSpec.ofChange fnLogsSpec)) fnLogsCard

/-- THE TIED CARD OF 'laws.FnCrashes'. -/
def fnCrashesCard : Claim7 := { stood := { row := fnCrashesRow, standIns := [], harness := (true, "96896a21f7f0301f29063d4562f10f5223d82748581c9a556a0978c015f2f443"), looks := false }, kinds := [], alts := [], laidByText := true, laidKinds := [.data, .data, .data], laidTests := true, laidLooks := .later }
def FnCrashesCardSaid : Prop := Claim7.holds Tryd.pinned (.plain (OpenSpec.ofChange fnCrashesSpec)) fnCrashesCard

/-- THE SECOND FORM's CARD OF 'laws.FnExactParseReplay'. -/
def fnExactParseReplayUptoCard : Claim7 := { stood := { row := fnExactParseReplayUptoRow, standIns := [], harness := (true, "96896a21f7f0301f29063d4562f10f5223d82748581c9a556a0978c015f2f443"), looks := false }, kinds := [], alts := [], laidByText := true, laidKinds := [.data, .pinned], laidTests := true, laidLooks := .later }
def FnExactParseReplayUptoCardSaid : Prop := Claim7.holds Tryd.pinned (.plain (OpenSpec.upto fnExactParseReplaySpec)) fnExactParseReplayUptoCard

/-- THE SECOND FORM's CARD OF 'laws.FnExactReplayText'. -/
def fnExactReplayTextUptoCard : Claim7 := { stood := { row := fnExactReplayTextUptoRow, standIns := [], harness := (true, "96896a21f7f0301f29063d4562f10f5223d82748581c9a556a0978c015f2f443"), looks := false }, kinds := [], alts := [], laidByText := true, laidKinds := [.data, .data, .data], laidTests := true, laidLooks := .later }
def FnExactReplayTextUptoCardSaid : Prop := Claim7.holds Tryd.pinned (.plain (OpenSpec.upto fnExactReplayTextSpec)) fnExactReplayTextUptoCard

/-- THE SECOND FORM's CARD OF 'laws.FnLogs'. -/
def fnLogsUptoCard : Claim7 := { stood := { row := fnLogsUptoRow, standIns := [], harness := (true, "96896a21f7f0301f29063d4562f10f5223d82748581c9a556a0978c015f2f443"), looks := false }, kinds := [], alts := [], laidByText := true, laidKinds := [.data, .data, .data], laidTests := true, laidLooks := .later }
def FnLogsUptoCardSaid : Prop := Claim7.holds Tryd.pinned (.plain (OpenSpec.upto fnLogsSpec)) fnLogsUptoCard

/-- THE SECOND FORM's CARD OF 'laws.FnCrashes'. -/
def fnCrashesUptoCard : Claim7 := { stood := { row := fnCrashesUptoRow, standIns := [], harness := (true, "96896a21f7f0301f29063d4562f10f5223d82748581c9a556a0978c015f2f443"), looks := false }, kinds := [], alts := [], laidByText := true, laidKinds := [.data, .data, .data], laidTests := true, laidLooks := .later }
def FnCrashesUptoCardSaid : Prop := Claim7.holds Tryd.pinned (.plain (OpenSpec.upto fnCrashesSpec)) fnCrashesUptoCard
end Rows
end Go.Proofs.YtahfeigilhjgpaaDoor
