/- the functions' code in the abstract machine: printed by a program (wip/tools/genparts.py) out of the loaded program -/
import Derived.Test.YtgpafbbnobanbaaGreatDoorAmCodeA
import Derived.Test.YtgpafbbnobanbaaGreatDoorAmCodeB
namespace Go.Proofs.YtgpafbbnobanbaaGreatDoor.AM
open Go
set_option maxRecDepth 100000
def prOr (p q : Prog) : Prog := fun f => match p f with | some x => some x | none => q f
theorem prOr_ok {P : Program} {p q : Prog} (hp : ProgOK P p) (hq : ProgOK P q) : ProgOK P (prOr p q) := by
  intro f fn h
  unfold prOr at h
  split at h
  · rename_i x hx
    injection h with h
    subst h
    exact hp f _ hx
  · exact hq f fn h
def pr : Prog := prOr prA (prB)
theorem pr_ok : ProgOK Tryz.prog pr := prOr_ok prA_ok (prB_ok)
theorem mixed : Tryz.prog.follows .mixedOrders = true := by kernel_rfl
end Go.Proofs.YtgpafbbnobanbaaGreatDoor.AM
