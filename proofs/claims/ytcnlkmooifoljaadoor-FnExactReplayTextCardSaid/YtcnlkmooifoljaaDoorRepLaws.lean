import Derived.Test.YtcnlkmooifoljaaDoorRacks
/- Contracts: laws of replays. -/
namespace Go.Proofs.YtcnlkmooifoljaaDoor.AM
open Go
set_option maxRecDepth 1000000
set_option linter.unusedSimpArgs false
set_option linter.unusedVariables false
/-- a call with a replay (and values that name no block), wherever its pours lie -/
theorem call_rep {F : Fns} {f : Nat} {r : List Int} {n : Nat} {rest : List V} {b : Blk} {v : V} {ns : Heap} (hre : rest.flatMap V.ids = []) (hbi : b.ids = []) (hF : F f (repV r 0 n :: rest) [b] = some (v, b :: ns)) (i : Nat) (H : HF) (base : Nat) (hb : (H i == some b) = true) :
    callA F f (.agg (r.map (C.int .i64) ++ [C.sl i 0 n 2]) :: rest) H base = some (v.mp (back [i] base), ns.map (Blk.mp (back [i] base)), [(i, b)]) := by
  have hb : H i = some b := by simpa using hb
  exact callA_one (x := repV r i n) hb (by simp) (by rw [repV_mp]; simp) hre hbi hF base
theorem call_rep2 {F : Fns} {f : Nat} {r r' : List Int} {n n' : Nat} {b c : Blk} {v : V} (hbi : b.ids = []) (hci : c.ids = []) (hF : F f [repV r 0 n, repV r' 1 n'] [b, c] = some (v, [b, c])) (i j : Nat) (H : HF) (base : Nat) (hij : (i != j) = true) (hb : (H i == some b) = true) (hc : (H j == some c) = true) :
    callA F f [.agg (r.map (C.int .i64) ++ [C.sl i 0 n 2]), .agg (r'.map (C.int .i64) ++ [C.sl j 0 n' 2])] H base = some (v.mp (back [i, j] base), [], [(i, b), (j, c)]) := by
  have hb : H i = some b := by simpa using hb
  have hc : H j = some c := by simpa using hc
  have hij : i ≠ j := by simpa using hij
  have := callA_two (x := repV r i n) (y := repV r' j n') hij hb hc (by simp) (by simp) (by rw [repV_mp]; simp [pos]) (by rw [repV_mp]; simp [pos, hij]) hbi hci hF base
  exact this
/-- the answer of racks by cases -/
theorem racksV_t {r : List Int} {l : List (Int × Int)} {o : Bool} (h : repB r l = true) : racksV r l o = (.tup [.c (.sl 1 0 (l.length + 1) 24), .c (.bool true)], .cells (cZ l) o :: [.cells ((outI r l l.length).map (C.int .i64)) true]) := by unfold racksV; rw [if_pos h]
theorem racksV_f {r : List Int} {l : List (Int × Int)} {o : Bool} (h : repB r l = false) : racksV r l o = (.tup [.c (.sl 1 0 0 24), .c (.bool false)], .cells (cZ l) o :: [.cells [] true]) := by unfold racksV; rw [if_neg (by simp [h])]
theorem c_impl_IsReplay (r : List Int) (hr : r.length = 24) (l : List (Int × Int)) (o : Bool) : fnI pr np 14 [repV r 0 l.length] [.cells (cZ l) o] = some (.c (.bool (repB r l)), [.cells (cZ l) o]) := by
  have h0 := c_impl_racks r hr l o
  have t3 := repC_all hr (C.sl 0 0 l.length 2)
  rw [fb (fn := a14) rfl rfl rfl]
  cases hq : repB r l with
  | true =>
    rw [racksV_t hq] at h0
    have hc := call_rep (rest := []) rfl (by simp) h0
    simp [a14, repV, hr, t3, hc, sub]
  | false =>
    rw [racksV_f hq] at h0
    have hc := call_rep (rest := []) rfl (by simp) h0
    simp [a14, repV, hr, t3, hc, sub]
theorem c_spec_IsReplay (r : List Int) (hr : r.length = 24) (l : List (Int × Int)) (o : Bool) : fnI pr np 10 [repV r 0 l.length] [.cells (cZ l) o] = some (.c (.bool (repB r l)), [.cells (cZ l) o]) := by
  have h0 := c_spec_l11Racks r hr l o
  have t3 := repC_all hr (C.sl 0 0 l.length 2)
  rw [fb (fn := a10) rfl rfl rfl]
  cases hq : repB r l with
  | true =>
    rw [racksV_t hq] at h0
    have hc := call_rep (rest := []) rfl (by simp) h0
    simp [a10, repV, hr, t3, hc, sub]
  | false =>
    rw [racksV_f hq] at h0
    have hc := call_rep (rest := []) rfl (by simp) h0
    simp [a10, repV, hr, t3, hc, sub]
end Go.Proofs.YtcnlkmooifoljaaDoor.AM
