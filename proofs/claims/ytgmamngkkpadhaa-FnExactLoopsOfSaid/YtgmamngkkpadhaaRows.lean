/-
  No cell of these rows narrows 'for every input' (looked for: loops, veiled, ifaces, maps, wideKeys, modest, calm, conditions, laid).
  DERIVED. THE GIVEN ROWS OF THIS SEAT. 30 by the template 'for every input the law returns true; each argument reads behind the call as it read before'; 0 by the template 'total and deterministic' (their statements: YtgmamngkkpadhaaTotals.lean).
  GIVEN WITH THE SEED: the statements are not yours to turn. If you find one false, say at which input.
  Laid BY PROGRAM, IN A SANDBOX (cutbox-rows.mjs): the forced cells as the released guide's own fill.sh prints them over the translation 6594356ff037fb88… (all of the seat's roots in one cut). By AI agents, Wed Nov 11 2026. No macro, syntax, notation, axiom, sorry.
-/
import Derived.Test.YtgmamngkkpadhaaChecked
import GoSem.Claim
import GoSem.ClaimJoined
import GoSem.ClaimMapViews
import Derived.JoinedTies
import Derived.KernelRfl
namespace Go.Proofs.Ytgmamngkkpadhaa
/- THE CELL 'sum', in the pinned program and in every row, IS THE sha256 OF THE DUMP (.gsa) THAT YtgmamngkkpadhaaProg.lean LOADS. Nothing in Lean hashes anything: it is a label: what it is worth is what the hold of that sum in a sandbox is worth. -/
noncomputable def Try.pinned : Pinned := { name := "ytgmamngkkpadhaa", sum := "6594356ff037fb88b8fa0459a1609ad4f68ded208483ae46d56a8fc7152f49fc", checked := Try.checked }
namespace Rows
def none {H : Type} : Left H := { results := [], args := [] }

/-- 'laws.FnExactDealSame': WHATEVER THE INPUT: true; the input reads as it did. -/
def fnExactDealSameSpec : ChangeSpec := { name := "fnExactDealSame", fn := fun _ => fun
  | [d1, d2] => { results := [.lit (.bool true)], args := [d1, d2] }
  | _ => none }
def fnExactDealSameRow : OpenClaim := { program := "ytgmamngkkpadhaa", sum := "6594356ff037fb88b8fa0459a1609ad4f68ded208483ae46d56a8fc7152f49fc", func := "loop.example/g01215/laws.FnExactDealSame", spec := "fnExactDealSame", unfollowed := true, recurses := true, apart := false }
def FnExactDealSameSaid : Prop := fnExactDealSameRow.holds Try.pinned (OpenSpec.ofChange fnExactDealSameSpec)

/-- ITS FALSE NEIGHBOUR: 'it returns false'. Refute it at one input. -/
def fnExactDealSameWrong : ChangeSpec := { name := "fnExactDealSame", fn := fun _ => fun
  | [d1, d2] => { results := [.lit (.bool false)], args := [d1, d2] }
  | _ => none }
def FnExactDealSameWrongFalsely : Prop := fnExactDealSameRow.holds Try.pinned (OpenSpec.ofChange fnExactDealSameWrong)

/-- 'laws.FnExactIsLost': WHATEVER THE INPUT: true; the input reads as it did. -/
def fnExactIsLostSpec : ChangeSpec := { name := "fnExactIsLost", fn := fun _ => fun
  | [d] => { results := [.lit (.bool true)], args := [d] }
  | _ => none }
def fnExactIsLostRow : OpenClaim := { program := "ytgmamngkkpadhaa", sum := "6594356ff037fb88b8fa0459a1609ad4f68ded208483ae46d56a8fc7152f49fc", func := "loop.example/g01215/laws.FnExactIsLost", spec := "fnExactIsLost", unfollowed := true, recurses := true, apart := false }
def FnExactIsLostSaid : Prop := fnExactIsLostRow.holds Try.pinned (OpenSpec.ofChange fnExactIsLostSpec)

/-- ITS FALSE NEIGHBOUR: 'it returns false'. Refute it at one input. -/
def fnExactIsLostWrong : ChangeSpec := { name := "fnExactIsLost", fn := fun _ => fun
  | [d] => { results := [.lit (.bool false)], args := [d] }
  | _ => none }
def FnExactIsLostWrongFalsely : Prop := fnExactIsLostRow.holds Try.pinned (OpenSpec.ofChange fnExactIsLostWrong)

/-- 'laws.FnExactEndValue': WHATEVER THE INPUT: true; the input reads as it did. -/
def fnExactEndValueSpec : ChangeSpec := { name := "fnExactEndValue", fn := fun _ => fun
  | [d1, d2] => { results := [.lit (.bool true)], args := [d1, d2] }
  | _ => none }
def fnExactEndValueRow : OpenClaim := { program := "ytgmamngkkpadhaa", sum := "6594356ff037fb88b8fa0459a1609ad4f68ded208483ae46d56a8fc7152f49fc", func := "loop.example/g01215/laws.FnExactEndValue", spec := "fnExactEndValue", unfollowed := true, recurses := true, apart := false }
def FnExactEndValueSaid : Prop := fnExactEndValueRow.holds Try.pinned (OpenSpec.ofChange fnExactEndValueSpec)

/-- ITS FALSE NEIGHBOUR: 'it returns false'. Refute it at one input. -/
def fnExactEndValueWrong : ChangeSpec := { name := "fnExactEndValue", fn := fun _ => fun
  | [d1, d2] => { results := [.lit (.bool false)], args := [d1, d2] }
  | _ => none }
def FnExactEndValueWrongFalsely : Prop := fnExactEndValueRow.holds Try.pinned (OpenSpec.ofChange fnExactEndValueWrong)

/-- 'laws.FnExactCountReplies': WHATEVER THE INPUT: true; the input reads as it did. -/
def fnExactCountRepliesSpec : ChangeSpec := { name := "fnExactCountReplies", fn := fun _ => fun
  | [d] => { results := [.lit (.bool true)], args := [d] }
  | _ => none }
def fnExactCountRepliesRow : OpenClaim := { program := "ytgmamngkkpadhaa", sum := "6594356ff037fb88b8fa0459a1609ad4f68ded208483ae46d56a8fc7152f49fc", func := "loop.example/g01215/laws.FnExactCountReplies", spec := "fnExactCountReplies", unfollowed := true, recurses := true, apart := false }
def FnExactCountRepliesSaid : Prop := fnExactCountRepliesRow.holds Try.pinned (OpenSpec.ofChange fnExactCountRepliesSpec)

/-- ITS FALSE NEIGHBOUR: 'it returns false'. Refute it at one input. -/
def fnExactCountRepliesWrong : ChangeSpec := { name := "fnExactCountReplies", fn := fun _ => fun
  | [d] => { results := [.lit (.bool false)], args := [d] }
  | _ => none }
def FnExactCountRepliesWrongFalsely : Prop := fnExactCountRepliesRow.holds Try.pinned (OpenSpec.ofChange fnExactCountRepliesWrong)

/-- 'laws.FnExactIsReplay': WHATEVER THE INPUT: true; the input reads as it did. -/
def fnExactIsReplaySpec : ChangeSpec := { name := "fnExactIsReplay", fn := fun _ => fun
  | [d] => { results := [.lit (.bool true)], args := [d] }
  | _ => none }
def fnExactIsReplayRow : OpenClaim := { program := "ytgmamngkkpadhaa", sum := "6594356ff037fb88b8fa0459a1609ad4f68ded208483ae46d56a8fc7152f49fc", func := "loop.example/g01215/laws.FnExactIsReplay", spec := "fnExactIsReplay", unfollowed := true, recurses := true, apart := false }
def FnExactIsReplaySaid : Prop := fnExactIsReplayRow.holds Try.pinned (OpenSpec.ofChange fnExactIsReplaySpec)

/-- ITS FALSE NEIGHBOUR: 'it returns false'. Refute it at one input. -/
def fnExactIsReplayWrong : ChangeSpec := { name := "fnExactIsReplay", fn := fun _ => fun
  | [d] => { results := [.lit (.bool false)], args := [d] }
  | _ => none }
def FnExactIsReplayWrongFalsely : Prop := fnExactIsReplayRow.holds Try.pinned (OpenSpec.ofChange fnExactIsReplayWrong)

/-- 'laws.FnExactReplayRack': WHATEVER THE INPUT: true; the input reads as it did. -/
def fnExactReplayRackSpec : ChangeSpec := { name := "fnExactReplayRack", fn := fun _ => fun
  | [d1, d2] => { results := [.lit (.bool true)], args := [d1, d2] }
  | _ => none }
def fnExactReplayRackRow : OpenClaim := { program := "ytgmamngkkpadhaa", sum := "6594356ff037fb88b8fa0459a1609ad4f68ded208483ae46d56a8fc7152f49fc", func := "loop.example/g01215/laws.FnExactReplayRack", spec := "fnExactReplayRack", unfollowed := true, recurses := true, apart := false }
def FnExactReplayRackSaid : Prop := fnExactReplayRackRow.holds Try.pinned (OpenSpec.ofChange fnExactReplayRackSpec)

/-- ITS FALSE NEIGHBOUR: 'it returns false'. Refute it at one input. -/
def fnExactReplayRackWrong : ChangeSpec := { name := "fnExactReplayRack", fn := fun _ => fun
  | [d1, d2] => { results := [.lit (.bool false)], args := [d1, d2] }
  | _ => none }
def FnExactReplayRackWrongFalsely : Prop := fnExactReplayRackRow.holds Try.pinned (OpenSpec.ofChange fnExactReplayRackWrong)

/-- 'laws.FnExactPlayParty': WHATEVER THE INPUT: true; the input reads as it did. -/
def fnExactPlayPartySpec : ChangeSpec := { name := "fnExactPlayParty", fn := fun _ => fun
  | [d1, d2] => { results := [.lit (.bool true)], args := [d1, d2] }
  | _ => none }
def fnExactPlayPartyRow : OpenClaim := { program := "ytgmamngkkpadhaa", sum := "6594356ff037fb88b8fa0459a1609ad4f68ded208483ae46d56a8fc7152f49fc", func := "loop.example/g01215/laws.FnExactPlayParty", spec := "fnExactPlayParty", unfollowed := true, recurses := true, apart := false }
def FnExactPlayPartySaid : Prop := fnExactPlayPartyRow.holds Try.pinned (OpenSpec.ofChange fnExactPlayPartySpec)

/-- ITS FALSE NEIGHBOUR: 'it returns false'. Refute it at one input. -/
def fnExactPlayPartyWrong : ChangeSpec := { name := "fnExactPlayParty", fn := fun _ => fun
  | [d1, d2] => { results := [.lit (.bool false)], args := [d1, d2] }
  | _ => none }
def FnExactPlayPartyWrongFalsely : Prop := fnExactPlayPartyRow.holds Try.pinned (OpenSpec.ofChange fnExactPlayPartyWrong)

/-- 'laws.FnExactTubeValue': WHATEVER THE INPUT: true; the input reads as it did. -/
def fnExactTubeValueSpec : ChangeSpec := { name := "fnExactTubeValue", fn := fun _ => fun
  | [d1, d2] => { results := [.lit (.bool true)], args := [d1, d2] }
  | _ => none }
def fnExactTubeValueRow : OpenClaim := { program := "ytgmamngkkpadhaa", sum := "6594356ff037fb88b8fa0459a1609ad4f68ded208483ae46d56a8fc7152f49fc", func := "loop.example/g01215/laws.FnExactTubeValue", spec := "fnExactTubeValue", unfollowed := true, recurses := true, apart := false }
def FnExactTubeValueSaid : Prop := fnExactTubeValueRow.holds Try.pinned (OpenSpec.ofChange fnExactTubeValueSpec)

/-- ITS FALSE NEIGHBOUR: 'it returns false'. Refute it at one input. -/
def fnExactTubeValueWrong : ChangeSpec := { name := "fnExactTubeValue", fn := fun _ => fun
  | [d1, d2] => { results := [.lit (.bool false)], args := [d1, d2] }
  | _ => none }
def FnExactTubeValueWrongFalsely : Prop := fnExactTubeValueRow.holds Try.pinned (OpenSpec.ofChange fnExactTubeValueWrong)

/-- 'laws.FnExactMovedLayers': WHATEVER THE INPUT: true; the input reads as it did. -/
def fnExactMovedLayersSpec : ChangeSpec := { name := "fnExactMovedLayers", fn := fun _ => fun
  | [d] => { results := [.lit (.bool true)], args := [d] }
  | _ => none }
def fnExactMovedLayersRow : OpenClaim := { program := "ytgmamngkkpadhaa", sum := "6594356ff037fb88b8fa0459a1609ad4f68ded208483ae46d56a8fc7152f49fc", func := "loop.example/g01215/laws.FnExactMovedLayers", spec := "fnExactMovedLayers", unfollowed := true, recurses := true, apart := false }
def FnExactMovedLayersSaid : Prop := fnExactMovedLayersRow.holds Try.pinned (OpenSpec.ofChange fnExactMovedLayersSpec)

/-- ITS FALSE NEIGHBOUR: 'it returns false'. Refute it at one input. -/
def fnExactMovedLayersWrong : ChangeSpec := { name := "fnExactMovedLayers", fn := fun _ => fun
  | [d] => { results := [.lit (.bool false)], args := [d] }
  | _ => none }
def FnExactMovedLayersWrongFalsely : Prop := fnExactMovedLayersRow.holds Try.pinned (OpenSpec.ofChange fnExactMovedLayersWrong)

/-- 'laws.FnExactEndPours': WHATEVER THE INPUT: true; the input reads as it did. -/
def fnExactEndPoursSpec : ChangeSpec := { name := "fnExactEndPours", fn := fun _ => fun
  | [d1, d2] => { results := [.lit (.bool true)], args := [d1, d2] }
  | _ => none }
def fnExactEndPoursRow : OpenClaim := { program := "ytgmamngkkpadhaa", sum := "6594356ff037fb88b8fa0459a1609ad4f68ded208483ae46d56a8fc7152f49fc", func := "loop.example/g01215/laws.FnExactEndPours", spec := "fnExactEndPours", unfollowed := true, recurses := true, apart := false }
def FnExactEndPoursSaid : Prop := fnExactEndPoursRow.holds Try.pinned (OpenSpec.ofChange fnExactEndPoursSpec)

/-- ITS FALSE NEIGHBOUR: 'it returns false'. Refute it at one input. -/
def fnExactEndPoursWrong : ChangeSpec := { name := "fnExactEndPours", fn := fun _ => fun
  | [d1, d2] => { results := [.lit (.bool false)], args := [d1, d2] }
  | _ => none }
def FnExactEndPoursWrongFalsely : Prop := fnExactEndPoursRow.holds Try.pinned (OpenSpec.ofChange fnExactEndPoursWrong)

/-- 'laws.FnExactCanHurt': WHATEVER THE INPUT: true; the input reads as it did. -/
def fnExactCanHurtSpec : ChangeSpec := { name := "fnExactCanHurt", fn := fun _ => fun
  | [d] => { results := [.lit (.bool true)], args := [d] }
  | _ => none }
def fnExactCanHurtRow : OpenClaim := { program := "ytgmamngkkpadhaa", sum := "6594356ff037fb88b8fa0459a1609ad4f68ded208483ae46d56a8fc7152f49fc", func := "loop.example/g01215/laws.FnExactCanHurt", spec := "fnExactCanHurt", unfollowed := true, recurses := true, apart := false }
def FnExactCanHurtSaid : Prop := fnExactCanHurtRow.holds Try.pinned (OpenSpec.ofChange fnExactCanHurtSpec)

/-- ITS FALSE NEIGHBOUR: 'it returns false'. Refute it at one input. -/
def fnExactCanHurtWrong : ChangeSpec := { name := "fnExactCanHurt", fn := fun _ => fun
  | [d] => { results := [.lit (.bool false)], args := [d] }
  | _ => none }
def FnExactCanHurtWrongFalsely : Prop := fnExactCanHurtRow.holds Try.pinned (OpenSpec.ofChange fnExactCanHurtWrong)

/-- 'laws.FnExactCanSwap': WHATEVER THE INPUT: true; the input reads as it did. -/
def fnExactCanSwapSpec : ChangeSpec := { name := "fnExactCanSwap", fn := fun _ => fun
  | [d1, d2] => { results := [.lit (.bool true)], args := [d1, d2] }
  | _ => none }
def fnExactCanSwapRow : OpenClaim := { program := "ytgmamngkkpadhaa", sum := "6594356ff037fb88b8fa0459a1609ad4f68ded208483ae46d56a8fc7152f49fc", func := "loop.example/g01215/laws.FnExactCanSwap", spec := "fnExactCanSwap", unfollowed := true, recurses := true, apart := false }
def FnExactCanSwapSaid : Prop := fnExactCanSwapRow.holds Try.pinned (OpenSpec.ofChange fnExactCanSwapSpec)

/-- ITS FALSE NEIGHBOUR: 'it returns false'. Refute it at one input. -/
def fnExactCanSwapWrong : ChangeSpec := { name := "fnExactCanSwap", fn := fun _ => fun
  | [d1, d2] => { results := [.lit (.bool false)], args := [d1, d2] }
  | _ => none }
def FnExactCanSwapWrongFalsely : Prop := fnExactCanSwapRow.holds Try.pinned (OpenSpec.ofChange fnExactCanSwapWrong)

/-- 'laws.FnExactFirstBest': WHATEVER THE INPUT: true; the input reads as it did. -/
def fnExactFirstBestSpec : ChangeSpec := { name := "fnExactFirstBest", fn := fun _ => fun
  | [d1, d2] => { results := [.lit (.bool true)], args := [d1, d2] }
  | _ => none }
def fnExactFirstBestRow : OpenClaim := { program := "ytgmamngkkpadhaa", sum := "6594356ff037fb88b8fa0459a1609ad4f68ded208483ae46d56a8fc7152f49fc", func := "loop.example/g01215/laws.FnExactFirstBest", spec := "fnExactFirstBest", unfollowed := true, recurses := true, apart := false }
def FnExactFirstBestSaid : Prop := fnExactFirstBestRow.holds Try.pinned (OpenSpec.ofChange fnExactFirstBestSpec)

/-- ITS FALSE NEIGHBOUR: 'it returns false'. Refute it at one input. -/
def fnExactFirstBestWrong : ChangeSpec := { name := "fnExactFirstBest", fn := fun _ => fun
  | [d1, d2] => { results := [.lit (.bool false)], args := [d1, d2] }
  | _ => none }
def FnExactFirstBestWrongFalsely : Prop := fnExactFirstBestRow.holds Try.pinned (OpenSpec.ofChange fnExactFirstBestWrong)

/-- 'laws.FnExactLoopsOf': WHATEVER THE INPUT: true; the input reads as it did. -/
def fnExactLoopsOfSpec : ChangeSpec := { name := "fnExactLoopsOf", fn := fun _ => fun
  | [d] => { results := [.lit (.bool true)], args := [d] }
  | _ => none }
def fnExactLoopsOfRow : OpenClaim := { program := "ytgmamngkkpadhaa", sum := "6594356ff037fb88b8fa0459a1609ad4f68ded208483ae46d56a8fc7152f49fc", func := "loop.example/g01215/laws.FnExactLoopsOf", spec := "fnExactLoopsOf", unfollowed := true, recurses := true, apart := false }
def FnExactLoopsOfSaid : Prop := fnExactLoopsOfRow.holds Try.pinned (OpenSpec.ofChange fnExactLoopsOfSpec)

/-- ITS FALSE NEIGHBOUR: 'it returns false'. Refute it at one input. -/
def fnExactLoopsOfWrong : ChangeSpec := { name := "fnExactLoopsOf", fn := fun _ => fun
  | [d] => { results := [.lit (.bool false)], args := [d] }
  | _ => none }
def FnExactLoopsOfWrongFalsely : Prop := fnExactLoopsOfRow.holds Try.pinned (OpenSpec.ofChange fnExactLoopsOfWrong)

/-- 'laws.FnExactDoesSolve': WHATEVER THE INPUT: true; the input reads as it did. -/
def fnExactDoesSolveSpec : ChangeSpec := { name := "fnExactDoesSolve", fn := fun _ => fun
  | [d] => { results := [.lit (.bool true)], args := [d] }
  | _ => none }
def fnExactDoesSolveRow : OpenClaim := { program := "ytgmamngkkpadhaa", sum := "6594356ff037fb88b8fa0459a1609ad4f68ded208483ae46d56a8fc7152f49fc", func := "loop.example/g01215/laws.FnExactDoesSolve", spec := "fnExactDoesSolve", unfollowed := true, recurses := true, apart := false }
def FnExactDoesSolveSaid : Prop := fnExactDoesSolveRow.holds Try.pinned (OpenSpec.ofChange fnExactDoesSolveSpec)

/-- ITS FALSE NEIGHBOUR: 'it returns false'. Refute it at one input. -/
def fnExactDoesSolveWrong : ChangeSpec := { name := "fnExactDoesSolve", fn := fun _ => fun
  | [d] => { results := [.lit (.bool false)], args := [d] }
  | _ => none }
def FnExactDoesSolveWrongFalsely : Prop := fnExactDoesSolveRow.holds Try.pinned (OpenSpec.ofChange fnExactDoesSolveWrong)

/-- 'laws.FnExactTubePours': WHATEVER THE INPUT: true; the input reads as it did. -/
def fnExactTubePoursSpec : ChangeSpec := { name := "fnExactTubePours", fn := fun _ => fun
  | [d1, d2] => { results := [.lit (.bool true)], args := [d1, d2] }
  | _ => none }
def fnExactTubePoursRow : OpenClaim := { program := "ytgmamngkkpadhaa", sum := "6594356ff037fb88b8fa0459a1609ad4f68ded208483ae46d56a8fc7152f49fc", func := "loop.example/g01215/laws.FnExactTubePours", spec := "fnExactTubePours", unfollowed := true, recurses := true, apart := false }
def FnExactTubePoursSaid : Prop := fnExactTubePoursRow.holds Try.pinned (OpenSpec.ofChange fnExactTubePoursSpec)

/-- ITS FALSE NEIGHBOUR: 'it returns false'. Refute it at one input. -/
def fnExactTubePoursWrong : ChangeSpec := { name := "fnExactTubePours", fn := fun _ => fun
  | [d1, d2] => { results := [.lit (.bool false)], args := [d1, d2] }
  | _ => none }
def FnExactTubePoursWrongFalsely : Prop := fnExactTubePoursRow.holds Try.pinned (OpenSpec.ofChange fnExactTubePoursWrong)

/-- 'laws.FnExactAddPour': WHATEVER THE INPUT: true; the input reads as it did. -/
def fnExactAddPourSpec : ChangeSpec := { name := "fnExactAddPour", fn := fun _ => fun
  | [d1, d2] => { results := [.lit (.bool true)], args := [d1, d2] }
  | _ => none }
def fnExactAddPourRow : OpenClaim := { program := "ytgmamngkkpadhaa", sum := "6594356ff037fb88b8fa0459a1609ad4f68ded208483ae46d56a8fc7152f49fc", func := "loop.example/g01215/laws.FnExactAddPour", spec := "fnExactAddPour", unfollowed := true, recurses := true, apart := false }
def FnExactAddPourSaid : Prop := fnExactAddPourRow.holds Try.pinned (OpenSpec.ofChange fnExactAddPourSpec)

/-- ITS FALSE NEIGHBOUR: 'it returns false'. Refute it at one input. -/
def fnExactAddPourWrong : ChangeSpec := { name := "fnExactAddPour", fn := fun _ => fun
  | [d1, d2] => { results := [.lit (.bool false)], args := [d1, d2] }
  | _ => none }
def FnExactAddPourWrongFalsely : Prop := fnExactAddPourRow.holds Try.pinned (OpenSpec.ofChange fnExactAddPourWrong)

/-- 'laws.FnExactUndoPours': WHATEVER THE INPUT: true; the input reads as it did. -/
def fnExactUndoPoursSpec : ChangeSpec := { name := "fnExactUndoPours", fn := fun _ => fun
  | [d1, d2] => { results := [.lit (.bool true)], args := [d1, d2] }
  | _ => none }
def fnExactUndoPoursRow : OpenClaim := { program := "ytgmamngkkpadhaa", sum := "6594356ff037fb88b8fa0459a1609ad4f68ded208483ae46d56a8fc7152f49fc", func := "loop.example/g01215/laws.FnExactUndoPours", spec := "fnExactUndoPours", unfollowed := true, recurses := true, apart := false }
def FnExactUndoPoursSaid : Prop := fnExactUndoPoursRow.holds Try.pinned (OpenSpec.ofChange fnExactUndoPoursSpec)

/-- ITS FALSE NEIGHBOUR: 'it returns false'. Refute it at one input. -/
def fnExactUndoPoursWrong : ChangeSpec := { name := "fnExactUndoPours", fn := fun _ => fun
  | [d1, d2] => { results := [.lit (.bool false)], args := [d1, d2] }
  | _ => none }
def FnExactUndoPoursWrongFalsely : Prop := fnExactUndoPoursRow.holds Try.pinned (OpenSpec.ofChange fnExactUndoPoursWrong)

/-- 'laws.FnExactChanceStuckBy': WHATEVER THE INPUT: true; the input reads as it did. -/
def fnExactChanceStuckBySpec : ChangeSpec := { name := "fnExactChanceStuckBy", fn := fun _ => fun
  | [d1, d2] => { results := [.lit (.bool true)], args := [d1, d2] }
  | _ => none }
def fnExactChanceStuckByRow : OpenClaim := { program := "ytgmamngkkpadhaa", sum := "6594356ff037fb88b8fa0459a1609ad4f68ded208483ae46d56a8fc7152f49fc", func := "loop.example/g01215/laws.FnExactChanceStuckBy", spec := "fnExactChanceStuckBy", unfollowed := true, recurses := true, apart := false }
def FnExactChanceStuckBySaid : Prop := fnExactChanceStuckByRow.holds Try.pinned (OpenSpec.ofChange fnExactChanceStuckBySpec)

/-- ITS FALSE NEIGHBOUR: 'it returns false'. Refute it at one input. -/
def fnExactChanceStuckByWrong : ChangeSpec := { name := "fnExactChanceStuckBy", fn := fun _ => fun
  | [d1, d2] => { results := [.lit (.bool false)], args := [d1, d2] }
  | _ => none }
def FnExactChanceStuckByWrongFalsely : Prop := fnExactChanceStuckByRow.holds Try.pinned (OpenSpec.ofChange fnExactChanceStuckByWrong)

/-- 'laws.FnExactMeanRunsBehind': WHATEVER THE INPUT: true; the input reads as it did. -/
def fnExactMeanRunsBehindSpec : ChangeSpec := { name := "fnExactMeanRunsBehind", fn := fun _ => fun
  | [d1, d2] => { results := [.lit (.bool true)], args := [d1, d2] }
  | _ => none }
def fnExactMeanRunsBehindRow : OpenClaim := { program := "ytgmamngkkpadhaa", sum := "6594356ff037fb88b8fa0459a1609ad4f68ded208483ae46d56a8fc7152f49fc", func := "loop.example/g01215/laws.FnExactMeanRunsBehind", spec := "fnExactMeanRunsBehind", unfollowed := true, recurses := true, apart := false }
def FnExactMeanRunsBehindSaid : Prop := fnExactMeanRunsBehindRow.holds Try.pinned (OpenSpec.ofChange fnExactMeanRunsBehindSpec)

/-- ITS FALSE NEIGHBOUR: 'it returns false'. Refute it at one input. -/
def fnExactMeanRunsBehindWrong : ChangeSpec := { name := "fnExactMeanRunsBehind", fn := fun _ => fun
  | [d1, d2] => { results := [.lit (.bool false)], args := [d1, d2] }
  | _ => none }
def FnExactMeanRunsBehindWrongFalsely : Prop := fnExactMeanRunsBehindRow.holds Try.pinned (OpenSpec.ofChange fnExactMeanRunsBehindWrong)

/-- 'laws.FnExactChanceSortedBy': WHATEVER THE INPUT: true; the input reads as it did. -/
def fnExactChanceSortedBySpec : ChangeSpec := { name := "fnExactChanceSortedBy", fn := fun _ => fun
  | [d1, d2] => { results := [.lit (.bool true)], args := [d1, d2] }
  | _ => none }
def fnExactChanceSortedByRow : OpenClaim := { program := "ytgmamngkkpadhaa", sum := "6594356ff037fb88b8fa0459a1609ad4f68ded208483ae46d56a8fc7152f49fc", func := "loop.example/g01215/laws.FnExactChanceSortedBy", spec := "fnExactChanceSortedBy", unfollowed := true, recurses := true, apart := false }
def FnExactChanceSortedBySaid : Prop := fnExactChanceSortedByRow.holds Try.pinned (OpenSpec.ofChange fnExactChanceSortedBySpec)

/-- ITS FALSE NEIGHBOUR: 'it returns false'. Refute it at one input. -/
def fnExactChanceSortedByWrong : ChangeSpec := { name := "fnExactChanceSortedBy", fn := fun _ => fun
  | [d1, d2] => { results := [.lit (.bool false)], args := [d1, d2] }
  | _ => none }
def FnExactChanceSortedByWrongFalsely : Prop := fnExactChanceSortedByRow.holds Try.pinned (OpenSpec.ofChange fnExactChanceSortedByWrong)

/-- 'laws.FnExactDropIdle': WHATEVER THE INPUT: true; the input reads as it did. -/
def fnExactDropIdleSpec : ChangeSpec := { name := "fnExactDropIdle", fn := fun _ => fun
  | [d] => { results := [.lit (.bool true)], args := [d] }
  | _ => none }
def fnExactDropIdleRow : OpenClaim := { program := "ytgmamngkkpadhaa", sum := "6594356ff037fb88b8fa0459a1609ad4f68ded208483ae46d56a8fc7152f49fc", func := "loop.example/g01215/laws.FnExactDropIdle", spec := "fnExactDropIdle", unfollowed := true, recurses := true, apart := false }
def FnExactDropIdleSaid : Prop := fnExactDropIdleRow.holds Try.pinned (OpenSpec.ofChange fnExactDropIdleSpec)

/-- ITS FALSE NEIGHBOUR: 'it returns false'. Refute it at one input. -/
def fnExactDropIdleWrong : ChangeSpec := { name := "fnExactDropIdle", fn := fun _ => fun
  | [d] => { results := [.lit (.bool false)], args := [d] }
  | _ => none }
def FnExactDropIdleWrongFalsely : Prop := fnExactDropIdleRow.holds Try.pinned (OpenSpec.ofChange fnExactDropIdleWrong)

/-- 'laws.FnExactBestParty': WHATEVER THE INPUT: true; the input reads as it did. -/
def fnExactBestPartySpec : ChangeSpec := { name := "fnExactBestParty", fn := fun _ => fun
  | [d1, d2] => { results := [.lit (.bool true)], args := [d1, d2] }
  | _ => none }
def fnExactBestPartyRow : OpenClaim := { program := "ytgmamngkkpadhaa", sum := "6594356ff037fb88b8fa0459a1609ad4f68ded208483ae46d56a8fc7152f49fc", func := "loop.example/g01215/laws.FnExactBestParty", spec := "fnExactBestParty", unfollowed := true, recurses := true, apart := false }
def FnExactBestPartySaid : Prop := fnExactBestPartyRow.holds Try.pinned (OpenSpec.ofChange fnExactBestPartySpec)

/-- ITS FALSE NEIGHBOUR: 'it returns false'. Refute it at one input. -/
def fnExactBestPartyWrong : ChangeSpec := { name := "fnExactBestParty", fn := fun _ => fun
  | [d1, d2] => { results := [.lit (.bool false)], args := [d1, d2] }
  | _ => none }
def FnExactBestPartyWrongFalsely : Prop := fnExactBestPartyRow.holds Try.pinned (OpenSpec.ofChange fnExactBestPartyWrong)

/-- 'laws.FnExactBestChance': WHATEVER THE INPUT: true; the input reads as it did. -/
def fnExactBestChanceSpec : ChangeSpec := { name := "fnExactBestChance", fn := fun _ => fun
  | [d1, d2] => { results := [.lit (.bool true)], args := [d1, d2] }
  | _ => none }
def fnExactBestChanceRow : OpenClaim := { program := "ytgmamngkkpadhaa", sum := "6594356ff037fb88b8fa0459a1609ad4f68ded208483ae46d56a8fc7152f49fc", func := "loop.example/g01215/laws.FnExactBestChance", spec := "fnExactBestChance", unfollowed := true, recurses := true, apart := false }
def FnExactBestChanceSaid : Prop := fnExactBestChanceRow.holds Try.pinned (OpenSpec.ofChange fnExactBestChanceSpec)

/-- ITS FALSE NEIGHBOUR: 'it returns false'. Refute it at one input. -/
def fnExactBestChanceWrong : ChangeSpec := { name := "fnExactBestChance", fn := fun _ => fun
  | [d1, d2] => { results := [.lit (.bool false)], args := [d1, d2] }
  | _ => none }
def FnExactBestChanceWrongFalsely : Prop := fnExactBestChanceRow.holds Try.pinned (OpenSpec.ofChange fnExactBestChanceWrong)

/-- 'laws.FnExactCertifyReplay': WHATEVER THE INPUT: true; the input reads as it did. -/
def fnExactCertifyReplaySpec : ChangeSpec := { name := "fnExactCertifyReplay", fn := fun _ => fun
  | [d] => { results := [.lit (.bool true)], args := [d] }
  | _ => none }
def fnExactCertifyReplayRow : OpenClaim := { program := "ytgmamngkkpadhaa", sum := "6594356ff037fb88b8fa0459a1609ad4f68ded208483ae46d56a8fc7152f49fc", func := "loop.example/g01215/laws.FnExactCertifyReplay", spec := "fnExactCertifyReplay", unfollowed := true, recurses := true, apart := false }
def FnExactCertifyReplaySaid : Prop := fnExactCertifyReplayRow.holds Try.pinned (OpenSpec.ofChange fnExactCertifyReplaySpec)

/-- ITS FALSE NEIGHBOUR: 'it returns false'. Refute it at one input. -/
def fnExactCertifyReplayWrong : ChangeSpec := { name := "fnExactCertifyReplay", fn := fun _ => fun
  | [d] => { results := [.lit (.bool false)], args := [d] }
  | _ => none }
def FnExactCertifyReplayWrongFalsely : Prop := fnExactCertifyReplayRow.holds Try.pinned (OpenSpec.ofChange fnExactCertifyReplayWrong)

/-- 'laws.FnExactCutLoops': WHATEVER THE INPUT: true; the input reads as it did. -/
def fnExactCutLoopsSpec : ChangeSpec := { name := "fnExactCutLoops", fn := fun _ => fun
  | [d] => { results := [.lit (.bool true)], args := [d] }
  | _ => none }
def fnExactCutLoopsRow : OpenClaim := { program := "ytgmamngkkpadhaa", sum := "6594356ff037fb88b8fa0459a1609ad4f68ded208483ae46d56a8fc7152f49fc", func := "loop.example/g01215/laws.FnExactCutLoops", spec := "fnExactCutLoops", unfollowed := true, recurses := true, apart := false }
def FnExactCutLoopsSaid : Prop := fnExactCutLoopsRow.holds Try.pinned (OpenSpec.ofChange fnExactCutLoopsSpec)

/-- ITS FALSE NEIGHBOUR: 'it returns false'. Refute it at one input. -/
def fnExactCutLoopsWrong : ChangeSpec := { name := "fnExactCutLoops", fn := fun _ => fun
  | [d] => { results := [.lit (.bool false)], args := [d] }
  | _ => none }
def FnExactCutLoopsWrongFalsely : Prop := fnExactCutLoopsRow.holds Try.pinned (OpenSpec.ofChange fnExactCutLoopsWrong)

/-- 'laws.FnDeals': WHATEVER THE INPUT: true; the input reads as it did. -/
def fnDealsSpec : ChangeSpec := { name := "fnDeals", fn := fun _ => fun
  | [d] => { results := [.lit (.bool true)], args := [d] }
  | _ => none }
def fnDealsRow : OpenClaim := { program := "ytgmamngkkpadhaa", sum := "6594356ff037fb88b8fa0459a1609ad4f68ded208483ae46d56a8fc7152f49fc", func := "loop.example/g01215/laws.FnDeals", spec := "fnDeals", unfollowed := true, recurses := true, apart := false }
def FnDealsSaid : Prop := fnDealsRow.holds Try.pinned (OpenSpec.ofChange fnDealsSpec)

/-- ITS FALSE NEIGHBOUR: 'it returns false'. Refute it at one input. -/
def fnDealsWrong : ChangeSpec := { name := "fnDeals", fn := fun _ => fun
  | [d] => { results := [.lit (.bool false)], args := [d] }
  | _ => none }
def FnDealsWrongFalsely : Prop := fnDealsRow.holds Try.pinned (OpenSpec.ofChange fnDealsWrong)

/-- 'laws.FnEndGames': WHATEVER THE INPUT: true; the input reads as it did. -/
def fnEndGamesSpec : ChangeSpec := { name := "fnEndGames", fn := fun _ => fun
  | [d] => { results := [.lit (.bool true)], args := [d] }
  | _ => none }
def fnEndGamesRow : OpenClaim := { program := "ytgmamngkkpadhaa", sum := "6594356ff037fb88b8fa0459a1609ad4f68ded208483ae46d56a8fc7152f49fc", func := "loop.example/g01215/laws.FnEndGames", spec := "fnEndGames", unfollowed := true, recurses := true, apart := false }
def FnEndGamesSaid : Prop := fnEndGamesRow.holds Try.pinned (OpenSpec.ofChange fnEndGamesSpec)

/-- ITS FALSE NEIGHBOUR: 'it returns false'. Refute it at one input. -/
def fnEndGamesWrong : ChangeSpec := { name := "fnEndGames", fn := fun _ => fun
  | [d] => { results := [.lit (.bool false)], args := [d] }
  | _ => none }
def FnEndGamesWrongFalsely : Prop := fnEndGamesRow.holds Try.pinned (OpenSpec.ofChange fnEndGamesWrong)

/-- 'laws.FnReplayCuts': WHATEVER THE INPUT: true; the input reads as it did. -/
def fnReplayCutsSpec : ChangeSpec := { name := "fnReplayCuts", fn := fun _ => fun
  | [d] => { results := [.lit (.bool true)], args := [d] }
  | _ => none }
def fnReplayCutsRow : OpenClaim := { program := "ytgmamngkkpadhaa", sum := "6594356ff037fb88b8fa0459a1609ad4f68ded208483ae46d56a8fc7152f49fc", func := "loop.example/g01215/laws.FnReplayCuts", spec := "fnReplayCuts", unfollowed := true, recurses := true, apart := false }
def FnReplayCutsSaid : Prop := fnReplayCutsRow.holds Try.pinned (OpenSpec.ofChange fnReplayCutsSpec)

/-- ITS FALSE NEIGHBOUR: 'it returns false'. Refute it at one input. -/
def fnReplayCutsWrong : ChangeSpec := { name := "fnReplayCuts", fn := fun _ => fun
  | [d] => { results := [.lit (.bool false)], args := [d] }
  | _ => none }
def FnReplayCutsWrongFalsely : Prop := fnReplayCutsRow.holds Try.pinned (OpenSpec.ofChange fnReplayCutsWrong)

/-- 'laws.FnTubeGames': WHATEVER THE INPUT: true; the input reads as it did. -/
def fnTubeGamesSpec : ChangeSpec := { name := "fnTubeGames", fn := fun _ => fun
  | [d] => { results := [.lit (.bool true)], args := [d] }
  | _ => none }
def fnTubeGamesRow : OpenClaim := { program := "ytgmamngkkpadhaa", sum := "6594356ff037fb88b8fa0459a1609ad4f68ded208483ae46d56a8fc7152f49fc", func := "loop.example/g01215/laws.FnTubeGames", spec := "fnTubeGames", unfollowed := true, recurses := true, apart := false }
def FnTubeGamesSaid : Prop := fnTubeGamesRow.holds Try.pinned (OpenSpec.ofChange fnTubeGamesSpec)

/-- ITS FALSE NEIGHBOUR: 'it returns false'. Refute it at one input. -/
def fnTubeGamesWrong : ChangeSpec := { name := "fnTubeGames", fn := fun _ => fun
  | [d] => { results := [.lit (.bool false)], args := [d] }
  | _ => none }
def FnTubeGamesWrongFalsely : Prop := fnTubeGamesRow.holds Try.pinned (OpenSpec.ofChange fnTubeGamesWrong)

/- THE SECOND FORM. 'bulk': how many values and letters a reading holds, each counted each time it is reached (what is shared counts as often as it is met; a slice's spare places count too). A statement '..UptoSaid' is the law's where the arguments, and the package variables that the reading takes, are together of bulk at most 1048576: NARROWER than '..Said'. Prove '..Said' where nothing that the law and all that it calls make is longer than what came in: it says more and counts as full. Else prove '..UptoSaid'. A law counts once. -/
mutual
def uptoBulk {H : Type} : DataW H → Nat
  | .lit (.string bytes) => bytes.length + 1
  | .lit _ => 1
  | .nil => 1
  | .ptr d => uptoBulk d + 1
  | .slice elems spare => uptoBulkAll elems + uptoBulkAll spare + 1
  | .agg parts => uptoBulkAll parts + 1
  | .iface _ d => uptoBulk d + 1
  | .map entries => uptoBulkEntries entries + 1
  | .held _ => 1
def uptoBulkAll {H : Type} : List (DataW H) → Nat
  | [] => 0
  | d :: r => uptoBulk d + uptoBulkAll r
def uptoBulkEntries {H : Type} : List (Lit × DataW H) → Nat
  | [] => 0
  | x :: r => uptoBulkEntry x + uptoBulkEntries r
def uptoBulkEntry {H : Type} : Lit × DataW H → Nat
  | (.string bytes, d) => bytes.length + uptoBulk d + 1
  | (_, d) => uptoBulk d + 1
 end
def uptoSmall : (H : Type) → List (DataW H) → Bool := fun _ ds => decide (uptoBulkAll ds ≤ 1048576)
def OpenSpec.upto (s : _root_.Go.ChangeSpec) : _root_.Go.OpenSpec := { _root_.Go.OpenSpec.ofChange s with cond := some uptoSmall }

/-- 'laws.FnExactDealSame', WHERE WHAT IT READS IS OF BULK AT MOST 1048576: true; the input reads as it did. -/
def fnExactDealSameUptoRow : OpenClaim := { program := "ytgmamngkkpadhaa", sum := "6594356ff037fb88b8fa0459a1609ad4f68ded208483ae46d56a8fc7152f49fc", func := "loop.example/g01215/laws.FnExactDealSame", spec := "fnExactDealSame", unfollowed := true, recurses := true, apart := false, narrowed := true }
def FnExactDealSameUptoSaid : Prop := fnExactDealSameUptoRow.holds Try.pinned (OpenSpec.upto fnExactDealSameSpec)

/-- 'laws.FnExactIsLost', WHERE WHAT IT READS IS OF BULK AT MOST 1048576: true; the input reads as it did. -/
def fnExactIsLostUptoRow : OpenClaim := { program := "ytgmamngkkpadhaa", sum := "6594356ff037fb88b8fa0459a1609ad4f68ded208483ae46d56a8fc7152f49fc", func := "loop.example/g01215/laws.FnExactIsLost", spec := "fnExactIsLost", unfollowed := true, recurses := true, apart := false, narrowed := true }
def FnExactIsLostUptoSaid : Prop := fnExactIsLostUptoRow.holds Try.pinned (OpenSpec.upto fnExactIsLostSpec)

/-- 'laws.FnExactEndValue', WHERE WHAT IT READS IS OF BULK AT MOST 1048576: true; the input reads as it did. -/
def fnExactEndValueUptoRow : OpenClaim := { program := "ytgmamngkkpadhaa", sum := "6594356ff037fb88b8fa0459a1609ad4f68ded208483ae46d56a8fc7152f49fc", func := "loop.example/g01215/laws.FnExactEndValue", spec := "fnExactEndValue", unfollowed := true, recurses := true, apart := false, narrowed := true }
def FnExactEndValueUptoSaid : Prop := fnExactEndValueUptoRow.holds Try.pinned (OpenSpec.upto fnExactEndValueSpec)

/-- 'laws.FnExactCountReplies', WHERE WHAT IT READS IS OF BULK AT MOST 1048576: true; the input reads as it did. -/
def fnExactCountRepliesUptoRow : OpenClaim := { program := "ytgmamngkkpadhaa", sum := "6594356ff037fb88b8fa0459a1609ad4f68ded208483ae46d56a8fc7152f49fc", func := "loop.example/g01215/laws.FnExactCountReplies", spec := "fnExactCountReplies", unfollowed := true, recurses := true, apart := false, narrowed := true }
def FnExactCountRepliesUptoSaid : Prop := fnExactCountRepliesUptoRow.holds Try.pinned (OpenSpec.upto fnExactCountRepliesSpec)

/-- 'laws.FnExactIsReplay', WHERE WHAT IT READS IS OF BULK AT MOST 1048576: true; the input reads as it did. -/
def fnExactIsReplayUptoRow : OpenClaim := { program := "ytgmamngkkpadhaa", sum := "6594356ff037fb88b8fa0459a1609ad4f68ded208483ae46d56a8fc7152f49fc", func := "loop.example/g01215/laws.FnExactIsReplay", spec := "fnExactIsReplay", unfollowed := true, recurses := true, apart := false, narrowed := true }
def FnExactIsReplayUptoSaid : Prop := fnExactIsReplayUptoRow.holds Try.pinned (OpenSpec.upto fnExactIsReplaySpec)

/-- 'laws.FnExactReplayRack', WHERE WHAT IT READS IS OF BULK AT MOST 1048576: true; the input reads as it did. -/
def fnExactReplayRackUptoRow : OpenClaim := { program := "ytgmamngkkpadhaa", sum := "6594356ff037fb88b8fa0459a1609ad4f68ded208483ae46d56a8fc7152f49fc", func := "loop.example/g01215/laws.FnExactReplayRack", spec := "fnExactReplayRack", unfollowed := true, recurses := true, apart := false, narrowed := true }
def FnExactReplayRackUptoSaid : Prop := fnExactReplayRackUptoRow.holds Try.pinned (OpenSpec.upto fnExactReplayRackSpec)

/-- 'laws.FnExactPlayParty', WHERE WHAT IT READS IS OF BULK AT MOST 1048576: true; the input reads as it did. -/
def fnExactPlayPartyUptoRow : OpenClaim := { program := "ytgmamngkkpadhaa", sum := "6594356ff037fb88b8fa0459a1609ad4f68ded208483ae46d56a8fc7152f49fc", func := "loop.example/g01215/laws.FnExactPlayParty", spec := "fnExactPlayParty", unfollowed := true, recurses := true, apart := false, narrowed := true }
def FnExactPlayPartyUptoSaid : Prop := fnExactPlayPartyUptoRow.holds Try.pinned (OpenSpec.upto fnExactPlayPartySpec)

/-- 'laws.FnExactTubeValue', WHERE WHAT IT READS IS OF BULK AT MOST 1048576: true; the input reads as it did. -/
def fnExactTubeValueUptoRow : OpenClaim := { program := "ytgmamngkkpadhaa", sum := "6594356ff037fb88b8fa0459a1609ad4f68ded208483ae46d56a8fc7152f49fc", func := "loop.example/g01215/laws.FnExactTubeValue", spec := "fnExactTubeValue", unfollowed := true, recurses := true, apart := false, narrowed := true }
def FnExactTubeValueUptoSaid : Prop := fnExactTubeValueUptoRow.holds Try.pinned (OpenSpec.upto fnExactTubeValueSpec)

/-- 'laws.FnExactMovedLayers', WHERE WHAT IT READS IS OF BULK AT MOST 1048576: true; the input reads as it did. -/
def fnExactMovedLayersUptoRow : OpenClaim := { program := "ytgmamngkkpadhaa", sum := "6594356ff037fb88b8fa0459a1609ad4f68ded208483ae46d56a8fc7152f49fc", func := "loop.example/g01215/laws.FnExactMovedLayers", spec := "fnExactMovedLayers", unfollowed := true, recurses := true, apart := false, narrowed := true }
def FnExactMovedLayersUptoSaid : Prop := fnExactMovedLayersUptoRow.holds Try.pinned (OpenSpec.upto fnExactMovedLayersSpec)

/-- 'laws.FnExactEndPours', WHERE WHAT IT READS IS OF BULK AT MOST 1048576: true; the input reads as it did. -/
def fnExactEndPoursUptoRow : OpenClaim := { program := "ytgmamngkkpadhaa", sum := "6594356ff037fb88b8fa0459a1609ad4f68ded208483ae46d56a8fc7152f49fc", func := "loop.example/g01215/laws.FnExactEndPours", spec := "fnExactEndPours", unfollowed := true, recurses := true, apart := false, narrowed := true }
def FnExactEndPoursUptoSaid : Prop := fnExactEndPoursUptoRow.holds Try.pinned (OpenSpec.upto fnExactEndPoursSpec)

/-- 'laws.FnExactCanHurt', WHERE WHAT IT READS IS OF BULK AT MOST 1048576: true; the input reads as it did. -/
def fnExactCanHurtUptoRow : OpenClaim := { program := "ytgmamngkkpadhaa", sum := "6594356ff037fb88b8fa0459a1609ad4f68ded208483ae46d56a8fc7152f49fc", func := "loop.example/g01215/laws.FnExactCanHurt", spec := "fnExactCanHurt", unfollowed := true, recurses := true, apart := false, narrowed := true }
def FnExactCanHurtUptoSaid : Prop := fnExactCanHurtUptoRow.holds Try.pinned (OpenSpec.upto fnExactCanHurtSpec)

/-- 'laws.FnExactCanSwap', WHERE WHAT IT READS IS OF BULK AT MOST 1048576: true; the input reads as it did. -/
def fnExactCanSwapUptoRow : OpenClaim := { program := "ytgmamngkkpadhaa", sum := "6594356ff037fb88b8fa0459a1609ad4f68ded208483ae46d56a8fc7152f49fc", func := "loop.example/g01215/laws.FnExactCanSwap", spec := "fnExactCanSwap", unfollowed := true, recurses := true, apart := false, narrowed := true }
def FnExactCanSwapUptoSaid : Prop := fnExactCanSwapUptoRow.holds Try.pinned (OpenSpec.upto fnExactCanSwapSpec)

/-- 'laws.FnExactFirstBest', WHERE WHAT IT READS IS OF BULK AT MOST 1048576: true; the input reads as it did. -/
def fnExactFirstBestUptoRow : OpenClaim := { program := "ytgmamngkkpadhaa", sum := "6594356ff037fb88b8fa0459a1609ad4f68ded208483ae46d56a8fc7152f49fc", func := "loop.example/g01215/laws.FnExactFirstBest", spec := "fnExactFirstBest", unfollowed := true, recurses := true, apart := false, narrowed := true }
def FnExactFirstBestUptoSaid : Prop := fnExactFirstBestUptoRow.holds Try.pinned (OpenSpec.upto fnExactFirstBestSpec)

/-- 'laws.FnExactLoopsOf', WHERE WHAT IT READS IS OF BULK AT MOST 1048576: true; the input reads as it did. -/
def fnExactLoopsOfUptoRow : OpenClaim := { program := "ytgmamngkkpadhaa", sum := "6594356ff037fb88b8fa0459a1609ad4f68ded208483ae46d56a8fc7152f49fc", func := "loop.example/g01215/laws.FnExactLoopsOf", spec := "fnExactLoopsOf", unfollowed := true, recurses := true, apart := false, narrowed := true }
def FnExactLoopsOfUptoSaid : Prop := fnExactLoopsOfUptoRow.holds Try.pinned (OpenSpec.upto fnExactLoopsOfSpec)

/-- 'laws.FnExactDoesSolve', WHERE WHAT IT READS IS OF BULK AT MOST 1048576: true; the input reads as it did. -/
def fnExactDoesSolveUptoRow : OpenClaim := { program := "ytgmamngkkpadhaa", sum := "6594356ff037fb88b8fa0459a1609ad4f68ded208483ae46d56a8fc7152f49fc", func := "loop.example/g01215/laws.FnExactDoesSolve", spec := "fnExactDoesSolve", unfollowed := true, recurses := true, apart := false, narrowed := true }
def FnExactDoesSolveUptoSaid : Prop := fnExactDoesSolveUptoRow.holds Try.pinned (OpenSpec.upto fnExactDoesSolveSpec)

/-- 'laws.FnExactTubePours', WHERE WHAT IT READS IS OF BULK AT MOST 1048576: true; the input reads as it did. -/
def fnExactTubePoursUptoRow : OpenClaim := { program := "ytgmamngkkpadhaa", sum := "6594356ff037fb88b8fa0459a1609ad4f68ded208483ae46d56a8fc7152f49fc", func := "loop.example/g01215/laws.FnExactTubePours", spec := "fnExactTubePours", unfollowed := true, recurses := true, apart := false, narrowed := true }
def FnExactTubePoursUptoSaid : Prop := fnExactTubePoursUptoRow.holds Try.pinned (OpenSpec.upto fnExactTubePoursSpec)

/-- 'laws.FnExactAddPour', WHERE WHAT IT READS IS OF BULK AT MOST 1048576: true; the input reads as it did. -/
def fnExactAddPourUptoRow : OpenClaim := { program := "ytgmamngkkpadhaa", sum := "6594356ff037fb88b8fa0459a1609ad4f68ded208483ae46d56a8fc7152f49fc", func := "loop.example/g01215/laws.FnExactAddPour", spec := "fnExactAddPour", unfollowed := true, recurses := true, apart := false, narrowed := true }
def FnExactAddPourUptoSaid : Prop := fnExactAddPourUptoRow.holds Try.pinned (OpenSpec.upto fnExactAddPourSpec)

/-- 'laws.FnExactUndoPours', WHERE WHAT IT READS IS OF BULK AT MOST 1048576: true; the input reads as it did. -/
def fnExactUndoPoursUptoRow : OpenClaim := { program := "ytgmamngkkpadhaa", sum := "6594356ff037fb88b8fa0459a1609ad4f68ded208483ae46d56a8fc7152f49fc", func := "loop.example/g01215/laws.FnExactUndoPours", spec := "fnExactUndoPours", unfollowed := true, recurses := true, apart := false, narrowed := true }
def FnExactUndoPoursUptoSaid : Prop := fnExactUndoPoursUptoRow.holds Try.pinned (OpenSpec.upto fnExactUndoPoursSpec)

/-- 'laws.FnExactChanceStuckBy', WHERE WHAT IT READS IS OF BULK AT MOST 1048576: true; the input reads as it did. -/
def fnExactChanceStuckByUptoRow : OpenClaim := { program := "ytgmamngkkpadhaa", sum := "6594356ff037fb88b8fa0459a1609ad4f68ded208483ae46d56a8fc7152f49fc", func := "loop.example/g01215/laws.FnExactChanceStuckBy", spec := "fnExactChanceStuckBy", unfollowed := true, recurses := true, apart := false, narrowed := true }
def FnExactChanceStuckByUptoSaid : Prop := fnExactChanceStuckByUptoRow.holds Try.pinned (OpenSpec.upto fnExactChanceStuckBySpec)

/-- 'laws.FnExactMeanRunsBehind', WHERE WHAT IT READS IS OF BULK AT MOST 1048576: true; the input reads as it did. -/
def fnExactMeanRunsBehindUptoRow : OpenClaim := { program := "ytgmamngkkpadhaa", sum := "6594356ff037fb88b8fa0459a1609ad4f68ded208483ae46d56a8fc7152f49fc", func := "loop.example/g01215/laws.FnExactMeanRunsBehind", spec := "fnExactMeanRunsBehind", unfollowed := true, recurses := true, apart := false, narrowed := true }
def FnExactMeanRunsBehindUptoSaid : Prop := fnExactMeanRunsBehindUptoRow.holds Try.pinned (OpenSpec.upto fnExactMeanRunsBehindSpec)

/-- 'laws.FnExactChanceSortedBy', WHERE WHAT IT READS IS OF BULK AT MOST 1048576: true; the input reads as it did. -/
def fnExactChanceSortedByUptoRow : OpenClaim := { program := "ytgmamngkkpadhaa", sum := "6594356ff037fb88b8fa0459a1609ad4f68ded208483ae46d56a8fc7152f49fc", func := "loop.example/g01215/laws.FnExactChanceSortedBy", spec := "fnExactChanceSortedBy", unfollowed := true, recurses := true, apart := false, narrowed := true }
def FnExactChanceSortedByUptoSaid : Prop := fnExactChanceSortedByUptoRow.holds Try.pinned (OpenSpec.upto fnExactChanceSortedBySpec)

/-- 'laws.FnExactDropIdle', WHERE WHAT IT READS IS OF BULK AT MOST 1048576: true; the input reads as it did. -/
def fnExactDropIdleUptoRow : OpenClaim := { program := "ytgmamngkkpadhaa", sum := "6594356ff037fb88b8fa0459a1609ad4f68ded208483ae46d56a8fc7152f49fc", func := "loop.example/g01215/laws.FnExactDropIdle", spec := "fnExactDropIdle", unfollowed := true, recurses := true, apart := false, narrowed := true }
def FnExactDropIdleUptoSaid : Prop := fnExactDropIdleUptoRow.holds Try.pinned (OpenSpec.upto fnExactDropIdleSpec)

/-- 'laws.FnExactBestParty', WHERE WHAT IT READS IS OF BULK AT MOST 1048576: true; the input reads as it did. -/
def fnExactBestPartyUptoRow : OpenClaim := { program := "ytgmamngkkpadhaa", sum := "6594356ff037fb88b8fa0459a1609ad4f68ded208483ae46d56a8fc7152f49fc", func := "loop.example/g01215/laws.FnExactBestParty", spec := "fnExactBestParty", unfollowed := true, recurses := true, apart := false, narrowed := true }
def FnExactBestPartyUptoSaid : Prop := fnExactBestPartyUptoRow.holds Try.pinned (OpenSpec.upto fnExactBestPartySpec)

/-- 'laws.FnExactBestChance', WHERE WHAT IT READS IS OF BULK AT MOST 1048576: true; the input reads as it did. -/
def fnExactBestChanceUptoRow : OpenClaim := { program := "ytgmamngkkpadhaa", sum := "6594356ff037fb88b8fa0459a1609ad4f68ded208483ae46d56a8fc7152f49fc", func := "loop.example/g01215/laws.FnExactBestChance", spec := "fnExactBestChance", unfollowed := true, recurses := true, apart := false, narrowed := true }
def FnExactBestChanceUptoSaid : Prop := fnExactBestChanceUptoRow.holds Try.pinned (OpenSpec.upto fnExactBestChanceSpec)

/-- 'laws.FnExactCertifyReplay', WHERE WHAT IT READS IS OF BULK AT MOST 1048576: true; the input reads as it did. -/
def fnExactCertifyReplayUptoRow : OpenClaim := { program := "ytgmamngkkpadhaa", sum := "6594356ff037fb88b8fa0459a1609ad4f68ded208483ae46d56a8fc7152f49fc", func := "loop.example/g01215/laws.FnExactCertifyReplay", spec := "fnExactCertifyReplay", unfollowed := true, recurses := true, apart := false, narrowed := true }
def FnExactCertifyReplayUptoSaid : Prop := fnExactCertifyReplayUptoRow.holds Try.pinned (OpenSpec.upto fnExactCertifyReplaySpec)

/-- 'laws.FnExactCutLoops', WHERE WHAT IT READS IS OF BULK AT MOST 1048576: true; the input reads as it did. -/
def fnExactCutLoopsUptoRow : OpenClaim := { program := "ytgmamngkkpadhaa", sum := "6594356ff037fb88b8fa0459a1609ad4f68ded208483ae46d56a8fc7152f49fc", func := "loop.example/g01215/laws.FnExactCutLoops", spec := "fnExactCutLoops", unfollowed := true, recurses := true, apart := false, narrowed := true }
def FnExactCutLoopsUptoSaid : Prop := fnExactCutLoopsUptoRow.holds Try.pinned (OpenSpec.upto fnExactCutLoopsSpec)

/-- 'laws.FnDeals', WHERE WHAT IT READS IS OF BULK AT MOST 1048576: true; the input reads as it did. -/
def fnDealsUptoRow : OpenClaim := { program := "ytgmamngkkpadhaa", sum := "6594356ff037fb88b8fa0459a1609ad4f68ded208483ae46d56a8fc7152f49fc", func := "loop.example/g01215/laws.FnDeals", spec := "fnDeals", unfollowed := true, recurses := true, apart := false, narrowed := true }
def FnDealsUptoSaid : Prop := fnDealsUptoRow.holds Try.pinned (OpenSpec.upto fnDealsSpec)

/-- 'laws.FnEndGames', WHERE WHAT IT READS IS OF BULK AT MOST 1048576: true; the input reads as it did. -/
def fnEndGamesUptoRow : OpenClaim := { program := "ytgmamngkkpadhaa", sum := "6594356ff037fb88b8fa0459a1609ad4f68ded208483ae46d56a8fc7152f49fc", func := "loop.example/g01215/laws.FnEndGames", spec := "fnEndGames", unfollowed := true, recurses := true, apart := false, narrowed := true }
def FnEndGamesUptoSaid : Prop := fnEndGamesUptoRow.holds Try.pinned (OpenSpec.upto fnEndGamesSpec)

/-- 'laws.FnReplayCuts', WHERE WHAT IT READS IS OF BULK AT MOST 1048576: true; the input reads as it did. -/
def fnReplayCutsUptoRow : OpenClaim := { program := "ytgmamngkkpadhaa", sum := "6594356ff037fb88b8fa0459a1609ad4f68ded208483ae46d56a8fc7152f49fc", func := "loop.example/g01215/laws.FnReplayCuts", spec := "fnReplayCuts", unfollowed := true, recurses := true, apart := false, narrowed := true }
def FnReplayCutsUptoSaid : Prop := fnReplayCutsUptoRow.holds Try.pinned (OpenSpec.upto fnReplayCutsSpec)

/-- 'laws.FnTubeGames', WHERE WHAT IT READS IS OF BULK AT MOST 1048576: true; the input reads as it did. -/
def fnTubeGamesUptoRow : OpenClaim := { program := "ytgmamngkkpadhaa", sum := "6594356ff037fb88b8fa0459a1609ad4f68ded208483ae46d56a8fc7152f49fc", func := "loop.example/g01215/laws.FnTubeGames", spec := "fnTubeGames", unfollowed := true, recurses := true, apart := false, narrowed := true }
def FnTubeGamesUptoSaid : Prop := fnTubeGamesUptoRow.holds Try.pinned (OpenSpec.upto fnTubeGamesSpec)

end Rows
end Go.Proofs.Ytgmamngkkpadhaa
