/-
  No cell of these rows narrows 'for every input' (looked for: loops, veiled, ifaces, maps, wideKeys, modest, calm, conditions, laid).
  DERIVED. THE GIVEN ROWS OF THIS SEAT. 7 by the template 'for every input the law returns true; each argument reads behind the call as it read before'; 0 by the template 'total and deterministic' (their statements: YtenheijeahpbkaaTotals.lean).
  GIVEN WITH THE SEED: the statements are not yours to turn. If you find one false, say at which input.
  Laid BY PROGRAM, IN A SANDBOX (cutbox-rows.mjs): the forced cells as the released guide's own fill.sh prints them over the translation 3f1d4211b8d75e6a… (all of the seat's roots in one cut). By AI agents, Wed Nov 11 2026. No macro, syntax, notation, axiom, sorry.
-/
import Derived.Test.YtenheijeahpbkaaChecked
import GoSem.Claim
import GoSem.ClaimJoined
import GoSem.ClaimMapViews
import Derived.JoinedTies
import Derived.KernelRfl
namespace Go.Proofs.Ytenheijeahpbkaa
/- THE CELL 'sum', in the pinned program and in every row, IS THE sha256 OF THE DUMP (.gsa) THAT YtenheijeahpbkaaProg.lean LOADS. Nothing in Lean hashes anything: it is a label: what it is worth is what the hold of that sum in a sandbox is worth. -/
noncomputable def Try.pinned : Pinned := { name := "ytenheijeahpbkaa", sum := "3f1d4211b8d75e6ab1011b7596a5d77e3ca3991957f921b4e7f40950f5b5dd39", checked := Try.checked }
namespace Rows
def none {H : Type} : Left H := { results := [], args := [] }

/-- 'laws.FnExactIsBar': WHATEVER THE INPUT: true; the input reads as it did. -/
def fnExactIsBarSpec : ChangeSpec := { name := "fnExactIsBar", fn := fun _ => fun
  | [d] => { results := [.lit (.bool true)], args := [d] }
  | _ => none }
def fnExactIsBarRow : OpenClaim := { program := "ytenheijeahpbkaa", sum := "3f1d4211b8d75e6ab1011b7596a5d77e3ca3991957f921b4e7f40950f5b5dd39", func := "loop.example/g01215/laws.FnExactIsBar", spec := "fnExactIsBar", unfollowed := true, recurses := true, apart := false }
def FnExactIsBarSaid : Prop := fnExactIsBarRow.holds Try.pinned (OpenSpec.ofChange fnExactIsBarSpec)

/-- ITS FALSE NEIGHBOUR: 'it returns false'. Refute it at one input. -/
def fnExactIsBarWrong : ChangeSpec := { name := "fnExactIsBar", fn := fun _ => fun
  | [d] => { results := [.lit (.bool false)], args := [d] }
  | _ => none }
def FnExactIsBarWrongFalsely : Prop := fnExactIsBarRow.holds Try.pinned (OpenSpec.ofChange fnExactIsBarWrong)

/-- 'laws.FnExactNewBar': WHATEVER THE INPUT: true; the input reads as it did. -/
def fnExactNewBarSpec : ChangeSpec := { name := "fnExactNewBar", fn := fun _ => fun
  | [d] => { results := [.lit (.bool true)], args := [d] }
  | _ => none }
def fnExactNewBarRow : OpenClaim := { program := "ytenheijeahpbkaa", sum := "3f1d4211b8d75e6ab1011b7596a5d77e3ca3991957f921b4e7f40950f5b5dd39", func := "loop.example/g01215/laws.FnExactNewBar", spec := "fnExactNewBar", unfollowed := true, recurses := true, apart := false }
def FnExactNewBarSaid : Prop := fnExactNewBarRow.holds Try.pinned (OpenSpec.ofChange fnExactNewBarSpec)

/-- ITS FALSE NEIGHBOUR: 'it returns false'. Refute it at one input. -/
def fnExactNewBarWrong : ChangeSpec := { name := "fnExactNewBar", fn := fun _ => fun
  | [d] => { results := [.lit (.bool false)], args := [d] }
  | _ => none }
def FnExactNewBarWrongFalsely : Prop := fnExactNewBarRow.holds Try.pinned (OpenSpec.ofChange fnExactNewBarWrong)

/-- 'laws.FnExactNewConsole': WHATEVER THE INPUT: true; the input reads as it did. -/
def fnExactNewConsoleSpec : ChangeSpec := { name := "fnExactNewConsole", fn := fun _ => fun
  | [d] => { results := [.lit (.bool true)], args := [d] }
  | _ => none }
def fnExactNewConsoleRow : OpenClaim := { program := "ytenheijeahpbkaa", sum := "3f1d4211b8d75e6ab1011b7596a5d77e3ca3991957f921b4e7f40950f5b5dd39", func := "loop.example/g01215/laws.FnExactNewConsole", spec := "fnExactNewConsole", unfollowed := true, recurses := true, apart := false }
def FnExactNewConsoleSaid : Prop := fnExactNewConsoleRow.holds Try.pinned (OpenSpec.ofChange fnExactNewConsoleSpec)

/-- ITS FALSE NEIGHBOUR: 'it returns false'. Refute it at one input. -/
def fnExactNewConsoleWrong : ChangeSpec := { name := "fnExactNewConsole", fn := fun _ => fun
  | [d] => { results := [.lit (.bool false)], args := [d] }
  | _ => none }
def FnExactNewConsoleWrongFalsely : Prop := fnExactNewConsoleRow.holds Try.pinned (OpenSpec.ofChange fnExactNewConsoleWrong)

/-- 'laws.FnExactDealSame': WHATEVER THE INPUT: true; the input reads as it did. -/
def fnExactDealSameSpec : ChangeSpec := { name := "fnExactDealSame", fn := fun _ => fun
  | [d1, d2] => { results := [.lit (.bool true)], args := [d1, d2] }
  | _ => none }
def fnExactDealSameRow : OpenClaim := { program := "ytenheijeahpbkaa", sum := "3f1d4211b8d75e6ab1011b7596a5d77e3ca3991957f921b4e7f40950f5b5dd39", func := "loop.example/g01215/laws.FnExactDealSame", spec := "fnExactDealSame", unfollowed := true, recurses := true, apart := false }
def FnExactDealSameSaid : Prop := fnExactDealSameRow.holds Try.pinned (OpenSpec.ofChange fnExactDealSameSpec)

/-- ITS FALSE NEIGHBOUR: 'it returns false'. Refute it at one input. -/
def fnExactDealSameWrong : ChangeSpec := { name := "fnExactDealSame", fn := fun _ => fun
  | [d1, d2] => { results := [.lit (.bool false)], args := [d1, d2] }
  | _ => none }
def FnExactDealSameWrongFalsely : Prop := fnExactDealSameRow.holds Try.pinned (OpenSpec.ofChange fnExactDealSameWrong)

/-- 'laws.FnExactCompleteTubes': WHATEVER THE INPUT: true; the input reads as it did. -/
def fnExactCompleteTubesSpec : ChangeSpec := { name := "fnExactCompleteTubes", fn := fun _ => fun
  | [d] => { results := [.lit (.bool true)], args := [d] }
  | _ => none }
def fnExactCompleteTubesRow : OpenClaim := { program := "ytenheijeahpbkaa", sum := "3f1d4211b8d75e6ab1011b7596a5d77e3ca3991957f921b4e7f40950f5b5dd39", func := "loop.example/g01215/laws.FnExactCompleteTubes", spec := "fnExactCompleteTubes", unfollowed := true, recurses := true, apart := false }
def FnExactCompleteTubesSaid : Prop := fnExactCompleteTubesRow.holds Try.pinned (OpenSpec.ofChange fnExactCompleteTubesSpec)

/-- ITS FALSE NEIGHBOUR: 'it returns false'. Refute it at one input. -/
def fnExactCompleteTubesWrong : ChangeSpec := { name := "fnExactCompleteTubes", fn := fun _ => fun
  | [d] => { results := [.lit (.bool false)], args := [d] }
  | _ => none }
def FnExactCompleteTubesWrongFalsely : Prop := fnExactCompleteTubesRow.holds Try.pinned (OpenSpec.ofChange fnExactCompleteTubesWrong)

/-- 'laws.FnExactIsValidRecord': WHATEVER THE INPUT: true; the input reads as it did. -/
def fnExactIsValidRecordSpec : ChangeSpec := { name := "fnExactIsValidRecord", fn := fun _ => fun
  | [d] => { results := [.lit (.bool true)], args := [d] }
  | _ => none }
def fnExactIsValidRecordRow : OpenClaim := { program := "ytenheijeahpbkaa", sum := "3f1d4211b8d75e6ab1011b7596a5d77e3ca3991957f921b4e7f40950f5b5dd39", func := "loop.example/g01215/laws.FnExactIsValidRecord", spec := "fnExactIsValidRecord", inPlace := ["internal/bytealg.IndexByteString", "internal/bytealg.IndexString"], unfollowed := true, recurses := true, named := ["internal/bytealg.MaxLen"], apart := false }
def FnExactIsValidRecordSaid : Prop := fnExactIsValidRecordRow.holds Try.pinned (OpenSpec.ofChange fnExactIsValidRecordSpec)

/-- ITS FALSE NEIGHBOUR: 'it returns false'. Refute it at one input. -/
def fnExactIsValidRecordWrong : ChangeSpec := { name := "fnExactIsValidRecord", fn := fun _ => fun
  | [d] => { results := [.lit (.bool false)], args := [d] }
  | _ => none }
def FnExactIsValidRecordWrongFalsely : Prop := fnExactIsValidRecordRow.holds Try.pinned (OpenSpec.ofChange fnExactIsValidRecordWrong)

/-- 'laws.FnExactRunsLeft': WHATEVER THE INPUT: true; the input reads as it did. -/
def fnExactRunsLeftSpec : ChangeSpec := { name := "fnExactRunsLeft", fn := fun _ => fun
  | [d] => { results := [.lit (.bool true)], args := [d] }
  | _ => none }
def fnExactRunsLeftRow : OpenClaim := { program := "ytenheijeahpbkaa", sum := "3f1d4211b8d75e6ab1011b7596a5d77e3ca3991957f921b4e7f40950f5b5dd39", func := "loop.example/g01215/laws.FnExactRunsLeft", spec := "fnExactRunsLeft", unfollowed := true, recurses := true, apart := false }
def FnExactRunsLeftSaid : Prop := fnExactRunsLeftRow.holds Try.pinned (OpenSpec.ofChange fnExactRunsLeftSpec)

/-- ITS FALSE NEIGHBOUR: 'it returns false'. Refute it at one input. -/
def fnExactRunsLeftWrong : ChangeSpec := { name := "fnExactRunsLeft", fn := fun _ => fun
  | [d] => { results := [.lit (.bool false)], args := [d] }
  | _ => none }
def FnExactRunsLeftWrongFalsely : Prop := fnExactRunsLeftRow.holds Try.pinned (OpenSpec.ofChange fnExactRunsLeftWrong)

/- THE SECOND FORM. 'bulk': how many values and letters a reading holds, each counted each time it is reached (what is shared counts as often as it is met; a slice's spare places count too). A statement '..UptoSaid' is the law's where the arguments, and the package variables that the reading takes, are together of bulk at most 1048576: NARROWER than '..Said'. Prove '..Said' where nothing that the law and all that it calls make is longer than what came in: it says more and counts as full. Else prove '..UptoSaid'. A law counts once. -/
mutual
def uptoBulk {H : Type} : DataW H → Nat
  | .lit (.string bytes) => bytes.length + 1
  | .lit _ => 1
  | .nil => 1
  | .ptr d => uptoBulk d + 1
  | .slice elems spare => uptoBulkAll elems + uptoBulkAll spare + 1
  | .agg parts => uptoBulkAll parts + 1
  | .iface _ d => uptoBulk d + 1
  | .map entries => uptoBulkEntries entries + 1
  | .held _ => 1
def uptoBulkAll {H : Type} : List (DataW H) → Nat
  | [] => 0
  | d :: r => uptoBulk d + uptoBulkAll r
def uptoBulkEntries {H : Type} : List (Lit × DataW H) → Nat
  | [] => 0
  | x :: r => uptoBulkEntry x + uptoBulkEntries r
def uptoBulkEntry {H : Type} : Lit × DataW H → Nat
  | (.string bytes, d) => bytes.length + uptoBulk d + 1
  | (_, d) => uptoBulk d + 1
 end
def uptoSmall : (H : Type) → List (DataW H) → Bool := fun _ ds => decide (uptoBulkAll ds ≤ 1048576)
def OpenSpec.upto (s : _root_.Go.ChangeSpec) : _root_.Go.OpenSpec := { _root_.Go.OpenSpec.ofChange s with cond := some uptoSmall }

/-- 'laws.FnExactIsBar', WHERE WHAT IT READS IS OF BULK AT MOST 1048576: true; the input reads as it did. -/
def fnExactIsBarUptoRow : OpenClaim := { program := "ytenheijeahpbkaa", sum := "3f1d4211b8d75e6ab1011b7596a5d77e3ca3991957f921b4e7f40950f5b5dd39", func := "loop.example/g01215/laws.FnExactIsBar", spec := "fnExactIsBar", unfollowed := true, recurses := true, apart := false, narrowed := true }
def FnExactIsBarUptoSaid : Prop := fnExactIsBarUptoRow.holds Try.pinned (OpenSpec.upto fnExactIsBarSpec)

/-- 'laws.FnExactNewBar', WHERE WHAT IT READS IS OF BULK AT MOST 1048576: true; the input reads as it did. -/
def fnExactNewBarUptoRow : OpenClaim := { program := "ytenheijeahpbkaa", sum := "3f1d4211b8d75e6ab1011b7596a5d77e3ca3991957f921b4e7f40950f5b5dd39", func := "loop.example/g01215/laws.FnExactNewBar", spec := "fnExactNewBar", unfollowed := true, recurses := true, apart := false, narrowed := true }
def FnExactNewBarUptoSaid : Prop := fnExactNewBarUptoRow.holds Try.pinned (OpenSpec.upto fnExactNewBarSpec)

/-- 'laws.FnExactNewConsole', WHERE WHAT IT READS IS OF BULK AT MOST 1048576: true; the input reads as it did. -/
def fnExactNewConsoleUptoRow : OpenClaim := { program := "ytenheijeahpbkaa", sum := "3f1d4211b8d75e6ab1011b7596a5d77e3ca3991957f921b4e7f40950f5b5dd39", func := "loop.example/g01215/laws.FnExactNewConsole", spec := "fnExactNewConsole", unfollowed := true, recurses := true, apart := false, narrowed := true }
def FnExactNewConsoleUptoSaid : Prop := fnExactNewConsoleUptoRow.holds Try.pinned (OpenSpec.upto fnExactNewConsoleSpec)

/-- 'laws.FnExactDealSame', WHERE WHAT IT READS IS OF BULK AT MOST 1048576: true; the input reads as it did. -/
def fnExactDealSameUptoRow : OpenClaim := { program := "ytenheijeahpbkaa", sum := "3f1d4211b8d75e6ab1011b7596a5d77e3ca3991957f921b4e7f40950f5b5dd39", func := "loop.example/g01215/laws.FnExactDealSame", spec := "fnExactDealSame", unfollowed := true, recurses := true, apart := false, narrowed := true }
def FnExactDealSameUptoSaid : Prop := fnExactDealSameUptoRow.holds Try.pinned (OpenSpec.upto fnExactDealSameSpec)

/-- 'laws.FnExactCompleteTubes', WHERE WHAT IT READS IS OF BULK AT MOST 1048576: true; the input reads as it did. -/
def fnExactCompleteTubesUptoRow : OpenClaim := { program := "ytenheijeahpbkaa", sum := "3f1d4211b8d75e6ab1011b7596a5d77e3ca3991957f921b4e7f40950f5b5dd39", func := "loop.example/g01215/laws.FnExactCompleteTubes", spec := "fnExactCompleteTubes", unfollowed := true, recurses := true, apart := false, narrowed := true }
def FnExactCompleteTubesUptoSaid : Prop := fnExactCompleteTubesUptoRow.holds Try.pinned (OpenSpec.upto fnExactCompleteTubesSpec)

/-- 'laws.FnExactIsValidRecord', WHERE WHAT IT READS IS OF BULK AT MOST 1048576: true; the input reads as it did. -/
def fnExactIsValidRecordUptoRow : OpenClaim := { program := "ytenheijeahpbkaa", sum := "3f1d4211b8d75e6ab1011b7596a5d77e3ca3991957f921b4e7f40950f5b5dd39", func := "loop.example/g01215/laws.FnExactIsValidRecord", spec := "fnExactIsValidRecord", inPlace := ["internal/bytealg.IndexByteString", "internal/bytealg.IndexString"], unfollowed := true, recurses := true, named := ["internal/bytealg.MaxLen"], apart := false, narrowed := true }
def FnExactIsValidRecordUptoSaid : Prop := fnExactIsValidRecordUptoRow.holds Try.pinned (OpenSpec.upto fnExactIsValidRecordSpec)

/-- 'laws.FnExactRunsLeft', WHERE WHAT IT READS IS OF BULK AT MOST 1048576: true; the input reads as it did. -/
def fnExactRunsLeftUptoRow : OpenClaim := { program := "ytenheijeahpbkaa", sum := "3f1d4211b8d75e6ab1011b7596a5d77e3ca3991957f921b4e7f40950f5b5dd39", func := "loop.example/g01215/laws.FnExactRunsLeft", spec := "fnExactRunsLeft", unfollowed := true, recurses := true, apart := false, narrowed := true }
def FnExactRunsLeftUptoSaid : Prop := fnExactRunsLeftUptoRow.holds Try.pinned (OpenSpec.upto fnExactRunsLeftSpec)

end Rows
end Go.Proofs.Ytenheijeahpbkaa
