import Derived.Test.YtoaidbmkfdpagaaDrawP
import Derived.Test.YtoaidbmkfdpagaaEndG
/- Calls with the cursor that leave blocks; arrays of 24 ints are compared (the same as in the texts of replays, under other names). -/
namespace Go.Proofs.Ytoaidbmkfdpagaa.AM
open Go
set_option maxRecDepth 1000000
set_option linter.unusedSimpArgs false
set_option linter.unusedVariables false
theorem confT_ints : ∀ (n : Nat) (x : List Int), x.length = n → conf (List.replicate n (.int .i64)) (x.map (C.int .i64)) = true
  | 0, [], _ => rfl
  | n + 1, a :: x, h => by
    have := confT_ints n x (by simpa using h)
    simp only [List.replicate_succ, List.map_cons, conf, conf1, this]
    rfl
  | 0, _ :: _, h => by simp at h
  | _ + 1, [], h => by simp at h
theorem confT24 (x : List Int) (h : x.length = 24) : conf [CK.int .i64, CK.int .i64, CK.int .i64, CK.int .i64, CK.int .i64, CK.int .i64, CK.int .i64, CK.int .i64, CK.int .i64, CK.int .i64, CK.int .i64, CK.int .i64, CK.int .i64, CK.int .i64, CK.int .i64, CK.int .i64, CK.int .i64, CK.int .i64, CK.int .i64, CK.int .i64, CK.int .i64, CK.int .i64, CK.int .i64, CK.int .i64] (x.map (C.int .i64)) = true := confT_ints 24 x h
/-- a call with the cursor that leaves one block more -/
theorem callT_curN {F : Fns} {f n p p' : Nat} {s s' : Int} {bs : List Int} {o : Bool} {rest : List V} {v : V} {ns : Heap} (hre : rest.flatMap V.ids = []) (hF : F f (.c (.ptr 0 0) :: rest) [curB 1 n p s, byB bs o] = some (v, curB 1 n p' s' :: byB bs o :: ns)) (i j : Nat) (H : HF) (base : Nat) (hij : (i != j) = true) (hi : (H i == some (curB j n p s)) = true) (hj : (H j == some (byB bs o)) = true) :
    callA F f (.c (.ptr i 0) :: rest) H base = some (v.mp (back [i, j] base), ns.map (Blk.mp (back [i, j] base)), [(i, curB j n p' s'), (j, byB bs o)]) := by
  have hi : H i = some (curB j n p s) := by simpa using hi
  have hj : H j = some (byB bs o) := by simpa using hj
  have hij : i ≠ j := by simpa using hij
  have hji : ¬ j = i := fun e => hij e.symm
  have h := callA_gen (F := F) (f := f) (args := .c (.ptr i 0) :: rest) (H := H) (L := [i, j]) (by simp [hre, reach, idsAt, hi, hj, hji]) (by simp [closed, hi, hj, idsAt, inL, hre]) (show sub [i, j] H = [curB 1 n p s, byB bs o] by simp [sub, hi, hj, pos, hij]) (show (V.c (.ptr i 0) :: rest).map (V.mp (pos [i, j])) = .c (.ptr 0 0) :: rest by rw [List.map_cons, mps_pure hre]; simp [pos]) hF (by simp) base
  rw [h]
  simp [back]
end Go.Proofs.Ytoaidbmkfdpagaa.AM
