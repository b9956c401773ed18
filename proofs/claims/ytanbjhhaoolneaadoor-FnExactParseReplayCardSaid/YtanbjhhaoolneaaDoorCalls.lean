import Derived.Test.YtanbjhhaoolneaaDoorRacks
/- Calls with slices of pairs. -/
namespace Go.Proofs.YtanbjhhaoolneaaDoor.AM
open Go
set_option maxRecDepth 1000000
set_option linter.unusedSimpArgs false
set_option linter.unusedVariables false
theorem call_sl {F : Fns} {f n : Nat} {rest : List V} {b : Blk} {v : V} {ns : Heap} (hre : rest.flatMap V.ids = []) (hbi : b.ids = []) (hF : F f (.c (.sl 0 0 n 2) :: rest) [b] = some (v, b :: ns)) (i : Nat) (H : HF) (base : Nat) (hb : (H i == some b) = true) :
    callA F f (.c (.sl i 0 n 2) :: rest) H base = some (v.mp (back [i] base), ns.map (Blk.mp (back [i] base)), [(i, b)]) := by
  have hb : H i = some b := by simpa using hb
  exact callA_one (x := .c (.sl i 0 n 2)) hb (by simp) (by simp) hre hbi hF base
theorem call_xsl {F : Fns} {f n : Nat} {x : V} {b : Blk} {v : V} {ns : Heap} (hx : x.ids = []) (hbi : b.ids = []) (hF : F f [x, .c (.sl 0 0 n 2)] [b] = some (v, b :: ns)) (i : Nat) (H : HF) (base : Nat) (hb : (H i == some b) = true) :
    callA F f [x, .c (.sl i 0 n 2)] H base = some (v.mp (back [i] base), ns.map (Blk.mp (back [i] base)), [(i, b)]) := by
  have hb : H i = some b := by simpa using hb
  have h := callA_gen (F := F) (f := f) (args := [x, .c (.sl i 0 n 2)]) (H := H) (L := [i]) (by simp [hx, reach, idsAt, hb, hbi]) (by simp [closed, hb, idsAt, hbi, inL, hx]) (show sub [i] H = [b] by simp [sub, hb, mp_ids hbi]) (show [x, V.c (.sl i 0 n 2)].map (V.mp (pos [i])) = [x, .c (.sl 0 0 n 2)] by simp [V.mp_pure hx, pos]) hF (by simp) base
  rw [h]
  simp [mp_ids hbi]
theorem call_sl2 {F : Fns} {f n n' : Nat} {b c : Blk} {v : V} (hbi : b.ids = []) (hci : c.ids = []) (hF : F f [.c (.sl 0 0 n 2), .c (.sl 1 0 n' 2)] [b, c] = some (v, [b, c])) (i j : Nat) (H : HF) (base : Nat) (hij : (i != j) = true) (hb : (H i == some b) = true) (hc : (H j == some c) = true) :
    callA F f [.c (.sl i 0 n 2), .c (.sl j 0 n' 2)] H base = some (v.mp (back [i, j] base), [], [(i, b), (j, c)]) := by
  have hb : H i = some b := by simpa using hb
  have hc : H j = some c := by simpa using hc
  have hij : i ≠ j := by simpa using hij
  have := callA_two (x := .c (.sl i 0 n 2)) (y := .c (.sl j 0 n' 2)) hij hb hc (by simp) (by simp) (by simp [pos]) (by simp [pos, hij]) hbi hci hF base
  exact this
end Go.Proofs.YtanbjhhaoolneaaDoor.AM
