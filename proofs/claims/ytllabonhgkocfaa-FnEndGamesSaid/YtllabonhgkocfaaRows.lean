/-
  No cell of these rows narrows 'for every input' (looked for: loops, veiled, ifaces, maps, wideKeys, modest, calm, conditions, laid).
  DERIVED. THE GIVEN ROWS OF THIS SEAT. 12 by the template 'for every input the law returns true; each argument reads behind the call as it read before'; 0 by the template 'total and deterministic' (their statements: YtllabonhgkocfaaTotals.lean).
  GIVEN WITH THE SEED: the statements are not yours to turn. If you find one false, say at which input.
  Laid BY PROGRAM, IN A SANDBOX (cutbox-rows.mjs): the forced cells as the released guide's own fill.sh prints them over the translation c4ffff63ad8c235a… (all of the seat's roots in one cut). By AI agents, Wed Nov 11 2026. No macro, syntax, notation, axiom, sorry.
-/
import Derived.Test.YtllabonhgkocfaaChecked
import GoSem.Claim
import GoSem.ClaimJoined
import GoSem.ClaimMapViews
import Derived.JoinedTies
import Derived.KernelRfl
namespace Go.Proofs.Ytllabonhgkocfaa
/- THE CELL 'sum', in the pinned program and in every row, IS THE sha256 OF THE DUMP (.gsa) THAT YtllabonhgkocfaaProg.lean LOADS. Nothing in Lean hashes anything: it is a label: what it is worth is what the hold of that sum in a sandbox is worth. -/
noncomputable def Try.pinned : Pinned := { name := "ytllabonhgkocfaa", sum := "c4ffff63ad8c235af3cdc8ad546ba84449440966aca948fa59a8c45df928b920", checked := Try.checked }
namespace Rows
def none {H : Type} : Left H := { results := [], args := [] }

/-- 'laws.FnExactDealSame': WHATEVER THE INPUT: true; the input reads as it did. -/
def fnExactDealSameSpec : ChangeSpec := { name := "fnExactDealSame", fn := fun _ => fun
  | [d1, d2] => { results := [.lit (.bool true)], args := [d1, d2] }
  | _ => none }
def fnExactDealSameRow : OpenClaim := { program := "ytllabonhgkocfaa", sum := "c4ffff63ad8c235af3cdc8ad546ba84449440966aca948fa59a8c45df928b920", func := "loop.example/g01215/laws.FnExactDealSame", spec := "fnExactDealSame", unfollowed := true, recurses := true, apart := false }
def FnExactDealSameSaid : Prop := fnExactDealSameRow.holds Try.pinned (OpenSpec.ofChange fnExactDealSameSpec)

/-- ITS FALSE NEIGHBOUR: 'it returns false'. Refute it at one input. -/
def fnExactDealSameWrong : ChangeSpec := { name := "fnExactDealSame", fn := fun _ => fun
  | [d1, d2] => { results := [.lit (.bool false)], args := [d1, d2] }
  | _ => none }
def FnExactDealSameWrongFalsely : Prop := fnExactDealSameRow.holds Try.pinned (OpenSpec.ofChange fnExactDealSameWrong)

/-- 'laws.FnExactCanSwap': WHATEVER THE INPUT: true; the input reads as it did. -/
def fnExactCanSwapSpec : ChangeSpec := { name := "fnExactCanSwap", fn := fun _ => fun
  | [d1, d2] => { results := [.lit (.bool true)], args := [d1, d2] }
  | _ => none }
def fnExactCanSwapRow : OpenClaim := { program := "ytllabonhgkocfaa", sum := "c4ffff63ad8c235af3cdc8ad546ba84449440966aca948fa59a8c45df928b920", func := "loop.example/g01215/laws.FnExactCanSwap", spec := "fnExactCanSwap", unfollowed := true, recurses := true, apart := false }
def FnExactCanSwapSaid : Prop := fnExactCanSwapRow.holds Try.pinned (OpenSpec.ofChange fnExactCanSwapSpec)

/-- ITS FALSE NEIGHBOUR: 'it returns false'. Refute it at one input. -/
def fnExactCanSwapWrong : ChangeSpec := { name := "fnExactCanSwap", fn := fun _ => fun
  | [d1, d2] => { results := [.lit (.bool false)], args := [d1, d2] }
  | _ => none }
def FnExactCanSwapWrongFalsely : Prop := fnExactCanSwapRow.holds Try.pinned (OpenSpec.ofChange fnExactCanSwapWrong)

/-- 'laws.FnExactAddPour': WHATEVER THE INPUT: true; the input reads as it did. -/
def fnExactAddPourSpec : ChangeSpec := { name := "fnExactAddPour", fn := fun _ => fun
  | [d1, d2] => { results := [.lit (.bool true)], args := [d1, d2] }
  | _ => none }
def fnExactAddPourRow : OpenClaim := { program := "ytllabonhgkocfaa", sum := "c4ffff63ad8c235af3cdc8ad546ba84449440966aca948fa59a8c45df928b920", func := "loop.example/g01215/laws.FnExactAddPour", spec := "fnExactAddPour", unfollowed := true, recurses := true, apart := false }
def FnExactAddPourSaid : Prop := fnExactAddPourRow.holds Try.pinned (OpenSpec.ofChange fnExactAddPourSpec)

/-- ITS FALSE NEIGHBOUR: 'it returns false'. Refute it at one input. -/
def fnExactAddPourWrong : ChangeSpec := { name := "fnExactAddPour", fn := fun _ => fun
  | [d1, d2] => { results := [.lit (.bool false)], args := [d1, d2] }
  | _ => none }
def FnExactAddPourWrongFalsely : Prop := fnExactAddPourRow.holds Try.pinned (OpenSpec.ofChange fnExactAddPourWrong)

/-- 'laws.FnExactUndoPours': WHATEVER THE INPUT: true; the input reads as it did. -/
def fnExactUndoPoursSpec : ChangeSpec := { name := "fnExactUndoPours", fn := fun _ => fun
  | [d1, d2] => { results := [.lit (.bool true)], args := [d1, d2] }
  | _ => none }
def fnExactUndoPoursRow : OpenClaim := { program := "ytllabonhgkocfaa", sum := "c4ffff63ad8c235af3cdc8ad546ba84449440966aca948fa59a8c45df928b920", func := "loop.example/g01215/laws.FnExactUndoPours", spec := "fnExactUndoPours", unfollowed := true, recurses := true, apart := false }
def FnExactUndoPoursSaid : Prop := fnExactUndoPoursRow.holds Try.pinned (OpenSpec.ofChange fnExactUndoPoursSpec)

/-- ITS FALSE NEIGHBOUR: 'it returns false'. Refute it at one input. -/
def fnExactUndoPoursWrong : ChangeSpec := { name := "fnExactUndoPours", fn := fun _ => fun
  | [d1, d2] => { results := [.lit (.bool false)], args := [d1, d2] }
  | _ => none }
def FnExactUndoPoursWrongFalsely : Prop := fnExactUndoPoursRow.holds Try.pinned (OpenSpec.ofChange fnExactUndoPoursWrong)

/-- 'laws.FnExactDropIdle': WHATEVER THE INPUT: true; the input reads as it did. -/
def fnExactDropIdleSpec : ChangeSpec := { name := "fnExactDropIdle", fn := fun _ => fun
  | [d] => { results := [.lit (.bool true)], args := [d] }
  | _ => none }
def fnExactDropIdleRow : OpenClaim := { program := "ytllabonhgkocfaa", sum := "c4ffff63ad8c235af3cdc8ad546ba84449440966aca948fa59a8c45df928b920", func := "loop.example/g01215/laws.FnExactDropIdle", spec := "fnExactDropIdle", unfollowed := true, recurses := true, apart := false }
def FnExactDropIdleSaid : Prop := fnExactDropIdleRow.holds Try.pinned (OpenSpec.ofChange fnExactDropIdleSpec)

/-- ITS FALSE NEIGHBOUR: 'it returns false'. Refute it at one input. -/
def fnExactDropIdleWrong : ChangeSpec := { name := "fnExactDropIdle", fn := fun _ => fun
  | [d] => { results := [.lit (.bool false)], args := [d] }
  | _ => none }
def FnExactDropIdleWrongFalsely : Prop := fnExactDropIdleRow.holds Try.pinned (OpenSpec.ofChange fnExactDropIdleWrong)

/-- 'laws.FnExactCutLoops': WHATEVER THE INPUT: true; the input reads as it did. -/
def fnExactCutLoopsSpec : ChangeSpec := { name := "fnExactCutLoops", fn := fun _ => fun
  | [d] => { results := [.lit (.bool true)], args := [d] }
  | _ => none }
def fnExactCutLoopsRow : OpenClaim := { program := "ytllabonhgkocfaa", sum := "c4ffff63ad8c235af3cdc8ad546ba84449440966aca948fa59a8c45df928b920", func := "loop.example/g01215/laws.FnExactCutLoops", spec := "fnExactCutLoops", unfollowed := true, recurses := true, apart := false }
def FnExactCutLoopsSaid : Prop := fnExactCutLoopsRow.holds Try.pinned (OpenSpec.ofChange fnExactCutLoopsSpec)

/-- ITS FALSE NEIGHBOUR: 'it returns false'. Refute it at one input. -/
def fnExactCutLoopsWrong : ChangeSpec := { name := "fnExactCutLoops", fn := fun _ => fun
  | [d] => { results := [.lit (.bool false)], args := [d] }
  | _ => none }
def FnExactCutLoopsWrongFalsely : Prop := fnExactCutLoopsRow.holds Try.pinned (OpenSpec.ofChange fnExactCutLoopsWrong)

/-- 'laws.FnDeals': WHATEVER THE INPUT: true; the input reads as it did. -/
def fnDealsSpec : ChangeSpec := { name := "fnDeals", fn := fun _ => fun
  | [d] => { results := [.lit (.bool true)], args := [d] }
  | _ => none }
def fnDealsRow : OpenClaim := { program := "ytllabonhgkocfaa", sum := "c4ffff63ad8c235af3cdc8ad546ba84449440966aca948fa59a8c45df928b920", func := "loop.example/g01215/laws.FnDeals", spec := "fnDeals", unfollowed := true, recurses := true, apart := false }
def FnDealsSaid : Prop := fnDealsRow.holds Try.pinned (OpenSpec.ofChange fnDealsSpec)

/-- ITS FALSE NEIGHBOUR: 'it returns false'. Refute it at one input. -/
def fnDealsWrong : ChangeSpec := { name := "fnDeals", fn := fun _ => fun
  | [d] => { results := [.lit (.bool false)], args := [d] }
  | _ => none }
def FnDealsWrongFalsely : Prop := fnDealsRow.holds Try.pinned (OpenSpec.ofChange fnDealsWrong)

/-- 'laws.FnEndGames': WHATEVER THE INPUT: true; the input reads as it did. -/
def fnEndGamesSpec : ChangeSpec := { name := "fnEndGames", fn := fun _ => fun
  | [d] => { results := [.lit (.bool true)], args := [d] }
  | _ => none }
def fnEndGamesRow : OpenClaim := { program := "ytllabonhgkocfaa", sum := "c4ffff63ad8c235af3cdc8ad546ba84449440966aca948fa59a8c45df928b920", func := "loop.example/g01215/laws.FnEndGames", spec := "fnEndGames", unfollowed := true, recurses := true, apart := false }
def FnEndGamesSaid : Prop := fnEndGamesRow.holds Try.pinned (OpenSpec.ofChange fnEndGamesSpec)

/-- ITS FALSE NEIGHBOUR: 'it returns false'. Refute it at one input. -/
def fnEndGamesWrong : ChangeSpec := { name := "fnEndGames", fn := fun _ => fun
  | [d] => { results := [.lit (.bool false)], args := [d] }
  | _ => none }
def FnEndGamesWrongFalsely : Prop := fnEndGamesRow.holds Try.pinned (OpenSpec.ofChange fnEndGamesWrong)

/-- 'laws.FnExactDoServe': WHATEVER THE INPUT: true; the input reads as it did. -/
def fnExactDoServeSpec : ChangeSpec := { name := "fnExactDoServe", fn := fun _ => fun
  | [d1, d2] => { results := [.lit (.bool true)], args := [d1, d2] }
  | _ => none }
def fnExactDoServeRow : OpenClaim := { program := "ytllabonhgkocfaa", sum := "c4ffff63ad8c235af3cdc8ad546ba84449440966aca948fa59a8c45df928b920", func := "loop.example/g01215/laws.FnExactDoServe", spec := "fnExactDoServe", unfollowed := true, recurses := true, apart := false }
def FnExactDoServeSaid : Prop := fnExactDoServeRow.holds Try.pinned (OpenSpec.ofChange fnExactDoServeSpec)

/-- ITS FALSE NEIGHBOUR: 'it returns false'. Refute it at one input. -/
def fnExactDoServeWrong : ChangeSpec := { name := "fnExactDoServe", fn := fun _ => fun
  | [d1, d2] => { results := [.lit (.bool false)], args := [d1, d2] }
  | _ => none }
def FnExactDoServeWrongFalsely : Prop := fnExactDoServeRow.holds Try.pinned (OpenSpec.ofChange fnExactDoServeWrong)

/-- 'laws.FnExactDoServes': WHATEVER THE INPUT: true; the input reads as it did. -/
def fnExactDoServesSpec : ChangeSpec := { name := "fnExactDoServes", fn := fun _ => fun
  | [d1, d2] => { results := [.lit (.bool true)], args := [d1, d2] }
  | _ => none }
def fnExactDoServesRow : OpenClaim := { program := "ytllabonhgkocfaa", sum := "c4ffff63ad8c235af3cdc8ad546ba84449440966aca948fa59a8c45df928b920", func := "loop.example/g01215/laws.FnExactDoServes", spec := "fnExactDoServes", unfollowed := true, recurses := true, apart := false }
def FnExactDoServesSaid : Prop := fnExactDoServesRow.holds Try.pinned (OpenSpec.ofChange fnExactDoServesSpec)

/-- ITS FALSE NEIGHBOUR: 'it returns false'. Refute it at one input. -/
def fnExactDoServesWrong : ChangeSpec := { name := "fnExactDoServes", fn := fun _ => fun
  | [d1, d2] => { results := [.lit (.bool false)], args := [d1, d2] }
  | _ => none }
def FnExactDoServesWrongFalsely : Prop := fnExactDoServesRow.holds Try.pinned (OpenSpec.ofChange fnExactDoServesWrong)

/-- 'laws.FnReplayCuts': WHATEVER THE INPUT: true; the input reads as it did. -/
def fnReplayCutsSpec : ChangeSpec := { name := "fnReplayCuts", fn := fun _ => fun
  | [d] => { results := [.lit (.bool true)], args := [d] }
  | _ => none }
def fnReplayCutsRow : OpenClaim := { program := "ytllabonhgkocfaa", sum := "c4ffff63ad8c235af3cdc8ad546ba84449440966aca948fa59a8c45df928b920", func := "loop.example/g01215/laws.FnReplayCuts", spec := "fnReplayCuts", unfollowed := true, recurses := true, apart := false }
def FnReplayCutsSaid : Prop := fnReplayCutsRow.holds Try.pinned (OpenSpec.ofChange fnReplayCutsSpec)

/-- ITS FALSE NEIGHBOUR: 'it returns false'. Refute it at one input. -/
def fnReplayCutsWrong : ChangeSpec := { name := "fnReplayCuts", fn := fun _ => fun
  | [d] => { results := [.lit (.bool false)], args := [d] }
  | _ => none }
def FnReplayCutsWrongFalsely : Prop := fnReplayCutsRow.holds Try.pinned (OpenSpec.ofChange fnReplayCutsWrong)

/-- 'laws.FnTubeGames': WHATEVER THE INPUT: true; the input reads as it did. -/
def fnTubeGamesSpec : ChangeSpec := { name := "fnTubeGames", fn := fun _ => fun
  | [d] => { results := [.lit (.bool true)], args := [d] }
  | _ => none }
def fnTubeGamesRow : OpenClaim := { program := "ytllabonhgkocfaa", sum := "c4ffff63ad8c235af3cdc8ad546ba84449440966aca948fa59a8c45df928b920", func := "loop.example/g01215/laws.FnTubeGames", spec := "fnTubeGames", unfollowed := true, recurses := true, apart := false }
def FnTubeGamesSaid : Prop := fnTubeGamesRow.holds Try.pinned (OpenSpec.ofChange fnTubeGamesSpec)

/-- ITS FALSE NEIGHBOUR: 'it returns false'. Refute it at one input. -/
def fnTubeGamesWrong : ChangeSpec := { name := "fnTubeGames", fn := fun _ => fun
  | [d] => { results := [.lit (.bool false)], args := [d] }
  | _ => none }
def FnTubeGamesWrongFalsely : Prop := fnTubeGamesRow.holds Try.pinned (OpenSpec.ofChange fnTubeGamesWrong)

/- THE SECOND FORM. 'bulk': how many values and letters a reading holds, each counted each time it is reached (what is shared counts as often as it is met; a slice's spare places count too). A statement '..UptoSaid' is the law's where the arguments, and the package variables that the reading takes, are together of bulk at most 1048576: NARROWER than '..Said'. Prove '..Said' where nothing that the law and all that it calls make is longer than what came in: it says more and counts as full. Else prove '..UptoSaid'. A law counts once. -/
mutual
def uptoBulk {H : Type} : DataW H → Nat
  | .lit (.string bytes) => bytes.length + 1
  | .lit _ => 1
  | .nil => 1
  | .ptr d => uptoBulk d + 1
  | .slice elems spare => uptoBulkAll elems + uptoBulkAll spare + 1
  | .agg parts => uptoBulkAll parts + 1
  | .iface _ d => uptoBulk d + 1
  | .map entries => uptoBulkEntries entries + 1
  | .held _ => 1
def uptoBulkAll {H : Type} : List (DataW H) → Nat
  | [] => 0
  | d :: r => uptoBulk d + uptoBulkAll r
def uptoBulkEntries {H : Type} : List (Lit × DataW H) → Nat
  | [] => 0
  | x :: r => uptoBulkEntry x + uptoBulkEntries r
def uptoBulkEntry {H : Type} : Lit × DataW H → Nat
  | (.string bytes, d) => bytes.length + uptoBulk d + 1
  | (_, d) => uptoBulk d + 1
 end
def uptoSmall : (H : Type) → List (DataW H) → Bool := fun _ ds => decide (uptoBulkAll ds ≤ 1048576)
def OpenSpec.upto (s : _root_.Go.ChangeSpec) : _root_.Go.OpenSpec := { _root_.Go.OpenSpec.ofChange s with cond := some uptoSmall }

/-- 'laws.FnExactDealSame', WHERE WHAT IT READS IS OF BULK AT MOST 1048576: true; the input reads as it did. -/
def fnExactDealSameUptoRow : OpenClaim := { program := "ytllabonhgkocfaa", sum := "c4ffff63ad8c235af3cdc8ad546ba84449440966aca948fa59a8c45df928b920", func := "loop.example/g01215/laws.FnExactDealSame", spec := "fnExactDealSame", unfollowed := true, recurses := true, apart := false, narrowed := true }
def FnExactDealSameUptoSaid : Prop := fnExactDealSameUptoRow.holds Try.pinned (OpenSpec.upto fnExactDealSameSpec)

/-- 'laws.FnExactCanSwap', WHERE WHAT IT READS IS OF BULK AT MOST 1048576: true; the input reads as it did. -/
def fnExactCanSwapUptoRow : OpenClaim := { program := "ytllabonhgkocfaa", sum := "c4ffff63ad8c235af3cdc8ad546ba84449440966aca948fa59a8c45df928b920", func := "loop.example/g01215/laws.FnExactCanSwap", spec := "fnExactCanSwap", unfollowed := true, recurses := true, apart := false, narrowed := true }
def FnExactCanSwapUptoSaid : Prop := fnExactCanSwapUptoRow.holds Try.pinned (OpenSpec.upto fnExactCanSwapSpec)

/-- 'laws.FnExactAddPour', WHERE WHAT IT READS IS OF BULK AT MOST 1048576: true; the input reads as it did. -/
def fnExactAddPourUptoRow : OpenClaim := { program := "ytllabonhgkocfaa", sum := "c4ffff63ad8c235af3cdc8ad546ba84449440966aca948fa59a8c45df928b920", func := "loop.example/g01215/laws.FnExactAddPour", spec := "fnExactAddPour", unfollowed := true, recurses := true, apart := false, narrowed := true }
def FnExactAddPourUptoSaid : Prop := fnExactAddPourUptoRow.holds Try.pinned (OpenSpec.upto fnExactAddPourSpec)

/-- 'laws.FnExactUndoPours', WHERE WHAT IT READS IS OF BULK AT MOST 1048576: true; the input reads as it did. -/
def fnExactUndoPoursUptoRow : OpenClaim := { program := "ytllabonhgkocfaa", sum := "c4ffff63ad8c235af3cdc8ad546ba84449440966aca948fa59a8c45df928b920", func := "loop.example/g01215/laws.FnExactUndoPours", spec := "fnExactUndoPours", unfollowed := true, recurses := true, apart := false, narrowed := true }
def FnExactUndoPoursUptoSaid : Prop := fnExactUndoPoursUptoRow.holds Try.pinned (OpenSpec.upto fnExactUndoPoursSpec)

/-- 'laws.FnExactDropIdle', WHERE WHAT IT READS IS OF BULK AT MOST 1048576: true; the input reads as it did. -/
def fnExactDropIdleUptoRow : OpenClaim := { program := "ytllabonhgkocfaa", sum := "c4ffff63ad8c235af3cdc8ad546ba84449440966aca948fa59a8c45df928b920", func := "loop.example/g01215/laws.FnExactDropIdle", spec := "fnExactDropIdle", unfollowed := true, recurses := true, apart := false, narrowed := true }
def FnExactDropIdleUptoSaid : Prop := fnExactDropIdleUptoRow.holds Try.pinned (OpenSpec.upto fnExactDropIdleSpec)

/-- 'laws.FnExactCutLoops', WHERE WHAT IT READS IS OF BULK AT MOST 1048576: true; the input reads as it did. -/
def fnExactCutLoopsUptoRow : OpenClaim := { program := "ytllabonhgkocfaa", sum := "c4ffff63ad8c235af3cdc8ad546ba84449440966aca948fa59a8c45df928b920", func := "loop.example/g01215/laws.FnExactCutLoops", spec := "fnExactCutLoops", unfollowed := true, recurses := true, apart := false, narrowed := true }
def FnExactCutLoopsUptoSaid : Prop := fnExactCutLoopsUptoRow.holds Try.pinned (OpenSpec.upto fnExactCutLoopsSpec)

/-- 'laws.FnDeals', WHERE WHAT IT READS IS OF BULK AT MOST 1048576: true; the input reads as it did. -/
def fnDealsUptoRow : OpenClaim := { program := "ytllabonhgkocfaa", sum := "c4ffff63ad8c235af3cdc8ad546ba84449440966aca948fa59a8c45df928b920", func := "loop.example/g01215/laws.FnDeals", spec := "fnDeals", unfollowed := true, recurses := true, apart := false, narrowed := true }
def FnDealsUptoSaid : Prop := fnDealsUptoRow.holds Try.pinned (OpenSpec.upto fnDealsSpec)

/-- 'laws.FnEndGames', WHERE WHAT IT READS IS OF BULK AT MOST 1048576: true; the input reads as it did. -/
def fnEndGamesUptoRow : OpenClaim := { program := "ytllabonhgkocfaa", sum := "c4ffff63ad8c235af3cdc8ad546ba84449440966aca948fa59a8c45df928b920", func := "loop.example/g01215/laws.FnEndGames", spec := "fnEndGames", unfollowed := true, recurses := true, apart := false, narrowed := true }
def FnEndGamesUptoSaid : Prop := fnEndGamesUptoRow.holds Try.pinned (OpenSpec.upto fnEndGamesSpec)

/-- 'laws.FnExactDoServe', WHERE WHAT IT READS IS OF BULK AT MOST 1048576: true; the input reads as it did. -/
def fnExactDoServeUptoRow : OpenClaim := { program := "ytllabonhgkocfaa", sum := "c4ffff63ad8c235af3cdc8ad546ba84449440966aca948fa59a8c45df928b920", func := "loop.example/g01215/laws.FnExactDoServe", spec := "fnExactDoServe", unfollowed := true, recurses := true, apart := false, narrowed := true }
def FnExactDoServeUptoSaid : Prop := fnExactDoServeUptoRow.holds Try.pinned (OpenSpec.upto fnExactDoServeSpec)

/-- 'laws.FnExactDoServes', WHERE WHAT IT READS IS OF BULK AT MOST 1048576: true; the input reads as it did. -/
def fnExactDoServesUptoRow : OpenClaim := { program := "ytllabonhgkocfaa", sum := "c4ffff63ad8c235af3cdc8ad546ba84449440966aca948fa59a8c45df928b920", func := "loop.example/g01215/laws.FnExactDoServes", spec := "fnExactDoServes", unfollowed := true, recurses := true, apart := false, narrowed := true }
def FnExactDoServesUptoSaid : Prop := fnExactDoServesUptoRow.holds Try.pinned (OpenSpec.upto fnExactDoServesSpec)

/-- 'laws.FnReplayCuts', WHERE WHAT IT READS IS OF BULK AT MOST 1048576: true; the input reads as it did. -/
def fnReplayCutsUptoRow : OpenClaim := { program := "ytllabonhgkocfaa", sum := "c4ffff63ad8c235af3cdc8ad546ba84449440966aca948fa59a8c45df928b920", func := "loop.example/g01215/laws.FnReplayCuts", spec := "fnReplayCuts", unfollowed := true, recurses := true, apart := false, narrowed := true }
def FnReplayCutsUptoSaid : Prop := fnReplayCutsUptoRow.holds Try.pinned (OpenSpec.upto fnReplayCutsSpec)

/-- 'laws.FnTubeGames', WHERE WHAT IT READS IS OF BULK AT MOST 1048576: true; the input reads as it did. -/
def fnTubeGamesUptoRow : OpenClaim := { program := "ytllabonhgkocfaa", sum := "c4ffff63ad8c235af3cdc8ad546ba84449440966aca948fa59a8c45df928b920", func := "loop.example/g01215/laws.FnTubeGames", spec := "fnTubeGames", unfollowed := true, recurses := true, apart := false, narrowed := true }
def FnTubeGamesUptoSaid : Prop := fnTubeGamesUptoRow.holds Try.pinned (OpenSpec.upto fnTubeGamesSpec)

end Rows
end Go.Proofs.Ytllabonhgkocfaa
