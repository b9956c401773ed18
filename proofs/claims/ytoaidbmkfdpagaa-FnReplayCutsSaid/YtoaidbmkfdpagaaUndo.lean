import Derived.Test.YtoaidbmkfdpagaaCut
/- Contracts: pours undone; the law's pattern for a replay that comes back. -/
namespace Go.Proofs.Ytoaidbmkfdpagaa.AM
open Go
set_option maxRecDepth 1000000
set_option linter.unusedSimpArgs false
set_option linter.unusedVariables false
def unB (r : List Int) (l : List (Int × Int)) (k : Int) : Bool := repB r l && inB k 0 l.length
def unL (r : List Int) (l : List (Int × Int)) (k : Int) : List (Int × Int) := if unB r l k = true then l.take (l.length - k.toNat) else []
def unR (r : List Int) (l : List (Int × Int)) (k : Int) : List Int := if unB r l k = true then r else List.replicate 24 0
theorem unR_len {r : List Int} (hr : r.length = 24) (l : List (Int × Int)) (k : Int) : (unR r l k).length = 24 := by
  unfold unR; split
  · exact hr
  · simp
theorem call_with1 {r : List Int} (hr : r.length = 24) {l : List (Int × Int)} {n0 k n off : Nat} (hoff : off = k * 2) (hk : k + n ≤ l.length) (hl : l.length ≤ 1048576) (o : Bool) (j i : Nat) (H : HF) (base : Nat) (hji : (j != i) = true) (hj : (H j == some (Blk.cells (cZ l) o)) = true) (hi : (H i == some (Blk.cells [.sl j off n 2] true)) = true) :
    callA (fnI pr np) 121 [.agg (r.map (C.int .i64) ++ [C.sl j 0 n0 2]), .c (.sl i 0 1 1)] H base = some (.agg (r.map (C.int .i64) ++ [C.sl base 0 n 2]), [.cells (cZ ((l.drop k).take n)) true], [(j, .cells (cZ l) o), (i, .cells [.sl j off n 2] true)]) := by
  subst hoff
  have hj : H j = some (Blk.cells (cZ l) o) := by simpa using hj
  have hi : H i = some (Blk.cells [.sl j (k * 2) n 2] true) := by simpa using hi
  have hji : j ≠ i := by simpa using hji
  have hij : ¬ i = j := fun e => hji e.symm
  have h := callA_gen (F := fnI pr np) (f := 121) (args := [.agg (r.map (C.int .i64) ++ [C.sl j 0 n0 2]), .c (.sl i 0 1 1)]) (H := H) (L := [j, i]) (by simp [reach, idsAt, hj, hi, hji, hij, cids_app]) (by simp [closed, hj, hi, idsAt, inL, cids_app]) (show sub [j, i] H = [.cells (cZ l) o, .cells [.sl 0 (k * 2) n 2] true] by simp [sub, hj, hi, pos]) (show _ = [repV r 0 n0, .c (.sl 1 0 1 1)] by simp [pos, repV, hji, cmp_app]) (c_impl_with1 r hr l n0 k n hk hl o) (by simp) base
  rw [h]
  simp [repV, back, cmp_app]
end Go.Proofs.Ytoaidbmkfdpagaa.AM
