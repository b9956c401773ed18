import Derived.Test.YtcnlkmooifoljaaDoorBaseD
/- Contracts: the game to the end. -/
namespace Go.Proofs.YtcnlkmooifoljaaDoor.AM
open Go
set_option maxRecDepth 1000000
set_option linter.unusedSimpArgs false
set_option linter.unusedVariables false
theorem flatC_take1 (l : List (Nat × Nat)) (z : List C) {k : Nat} (hk : k < l.length) : ((flatC l ++ z).drop (k * 2)).take 1 = [C.int .i64 (l[k]'hk).1] ∧ ((flatC l ++ z).drop (k * 2 + 1)).take 1 = [C.int .i64 (l[k]'hk).2] := by
  have hg := flatC_get l z k hk
  refine ⟨?_, ?_⟩
  · have := congrArg (List.take 1) hg
    simpa [List.take_take] using this
  · have := congrArg (List.drop 1) hg
    rw [List.drop_take, List.drop_drop] at this
    simpa using this
theorem useful_pour {r : List Int} (h : RackOK r) {p : Nat × Nat} (hp : p ∈ usefulL r) : p.1 < 6 ∧ p.2 < 6 ∧ RackOK (pourR r p.1 p.2) := by
  have hm := mem_usefulL hp
  exact ⟨hm.1, hm.2.1, h.pour hm.1 hm.2.1 (canP_ne hm.2.2)⟩
/-- a valid rack -/
theorem rackOK {r : List Int} (hr : r.length = 24) (h : okRack r = true) : RackOK r := ⟨hr, (rack_eq r hr).trans h⟩
theorem c_rack_spec (r : List Int) (hr : r.length = 24) : fnI pr np 28 [.agg (r.map (C.int .i64))] [] = some (.c (.bool (okRack r)), []) := c_spec_l2Rack r hr
theorem c_rack_impl (r : List Int) (hr : r.length = 24) : fnI pr np 32 [.agg (r.map (C.int .i64))] [] = some (.c (.bool (okRack r)), []) := by
  have := c_impl_IsRack r hr
  rwa [rack_eq r hr] at this
def inB (n a b : Int) : Bool := decide (a ≤ n) && decide (n ≤ b)
def endVV (r : List Int) (n : Int) : Int := if (okRack r && inB n 0 3) = true then endV n.toNat r else 0
def lostB (r : List Int) : Bool := okRack r && decide ((usefulL r).length = 0)
end Go.Proofs.YtcnlkmooifoljaaDoor.AM
