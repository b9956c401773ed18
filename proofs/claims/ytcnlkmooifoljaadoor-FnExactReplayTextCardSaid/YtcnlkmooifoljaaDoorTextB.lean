import Derived.Test.YtcnlkmooifoljaaDoorTextA
import Derived.Test.YtcnlkmooifoljaaDoorStrs
/- Contracts: the implementation's text of a rack. -/
namespace Go.Proofs.YtcnlkmooifoljaaDoor.AM
open Go
set_option maxRecDepth 1000000
set_option linter.unusedSimpArgs false
set_option linter.unusedVariables false
theorem c_join (O : List (List UInt8)) (sep : List UInt8) (o : Bool) (hn : O.length ≤ 1000) (hl : (Lib.join O sep).length ≤ 140737488355328) : fnI pr np 36 [.c (.sl 0 0 O.length 1), .c (.str sep)] [.cells (strs O) o] = some (.c (.str (Lib.join O sep)), [.cells (strs O) o]) := by
  refine (fnI_iff pr np).2 ⟨1, ?_⟩
  have e1 : ((strs O).drop 0).take O.length = strs O := strs_take O
  show (if 0 + O.length ≤ (strs O).length ∧ O.length ≤ 140737488355328 ∧ (((strs O).drop 0).take O.length).all isStrC = true ∧ (Lib.join ((((strs O).drop 0).take O.length).map strC) sep).length ≤ 140737488355328 then some (V.c (.str (Lib.join ((((strs O).drop 0).take O.length).map strC) sep)), [Blk.cells (strs O) o]) else none) = _
  rw [e1, strs_strC, if_pos ⟨by simp, by omega, strs_isStr O, hl⟩]
def parts (r : List Int) (i : Nat) : List (List UInt8) := (List.range i).map (tbT r)
theorem parts_len (r : List Int) (i : Nat) : (parts r i).length = i := by simp [parts]
theorem parts_succ (r : List Int) (i : Nat) : parts r (i + 1) = parts r i ++ [tbT r i] := by simp [parts, List.range_succ]
theorem parts_join (r : List Int) : Lib.join (parts r 6) [47] = preT r 6 := by
  simp [parts, preT, sepT, Lib.join, List.range, List.range.loop]
def pS (i : Nat) : C := .sl 0 0 i 1
def pH (r : List Int) (i : Nat) : Heap := [.cells (strs (parts r i)) true]
theorem callS_slz {F : Fns} {f n sz : Nat} {rest : List V} {b : Blk} {v : V} {ns : Heap} (hre : rest.flatMap V.ids = []) (hbi : b.ids = []) (hF : F f (.c (.sl 0 0 n sz) :: rest) [b] = some (v, b :: ns)) (i : Nat) (H : HF) (base : Nat) (hb : (H i == some b) = true) :
    callA F f (.c (.sl i 0 n sz) :: rest) H base = some (v.mp (back [i] base), ns.map (Blk.mp (back [i] base)), [(i, b)]) := by
  have hb : H i = some b := by simpa using hb
  exact callA_one (x := .c (.sl i 0 n sz)) hb (by simp) (by simp) hre hbi hF base
theorem c_impl_rackText (r : List Int) (h : RackOK r) : fnI pr np 24 [.agg (r.map (C.int .i64))] [] = some (.c (.str (preT r 6)), []) := by
  have hr := h.len
  have h24 := take24 hr
  rw [fb (fn := a24) rfl rfl rfl]
  simp [a24, hr, h24, sub]
  rw [loop_to (fun i => ([(3, V.c (pS i)), (10, V.agg (r.map (C.int .i64))), (11, V.c (C.int .i64 i))], pH r i)) 6]
  · have hj : (Lib.join (parts r 6) [47]).length ≤ 140737488355328 := by
      rw [parts_join]
      have := preT_len hr 6 (by omega)
      omega
    have hJ := c_join (parts r 6) [47] true (by rw [parts_len]; omega) hj
    rw [parts_len, parts_join] at hJ
    have hc := callS_slz (rest := [.c (.str [47])]) rfl (by simp) hJ
    simp [pS, pH, hc, sub]
  · simp [pS, pH, sub]
    rfl
  · intro i hi
    have hiI : (i : Int) < 6 := by omega
    have wi := wrapS (k := i) (by omega)
    have ht4 := tbT_len hr hi
    have htl := tubeAt_len hr hi
    have hrow : ((r.map (C.int .i64)).drop (i * 4)).take 4 = (tubeAt r i).map (C.int .i64) := by unfold tubeAt; rw [List.map_take, List.map_drop]
    have step : ∀ k, k < 4 → ∃ x, 0 ≤ x ∧ x ≤ 5 ∧ (((tubeAt r i).map (C.int .i64)).drop k).take 1 = [C.int .i64 x] ∧ (tbT r i).take (k + 1) = (tbT r i).take k ++ [chB x] := fun k hk => by
      have hc := tube_col (h.t4 hi) (h.tv hi) hk
      refine ⟨_, hc.1, hc.2, ?_, by rw [take_one _ (by omega), tbT_get hr hi hk]⟩
      rw [List.drop_eq_getElem_cons (by simp; omega)]
      simp [List.getD_eq_getElem?_getD, List.getElem?_eq_getElem (show k < (tubeAt r i).length by omega)]
    have inner : ∀ (k : Nat), k < 4 → ((tbT r i).take k).length + 1 ≤ 9223372036854775807 := fun k hk => by simp; omega
    have hend : (tbT r i).take 4 = tbT r i := List.take_of_length_le (by omega)
    have hroom : i + 1 ≤ 68719476736 := by omega
    have hi5 : i ≤ 5 := by omega
    have tk := strs_take (parts r i)
    rw [parts_len] at tk
    have e1 : strs (parts r i) ++ [C.str (tbT r i)] = strs (parts r (i + 1)) := by rw [parts_succ, strs_app]; rfl
    have pl := parts_len r i
    have t4 : ((tubeAt r i).map (C.int .i64)).take 4 = (tubeAt r i).map (C.int .i64) := List.take_of_length_le (by simp; omega)
    simp [hiI, hi, hi5, hr, hrow, htl, pS, pH, setAt_all, pl, sub]
    rw [loop_to (fun k => ([(3, V.c (C.sl 0 0 i 1)), (6, V.c (C.str ((tbT r i).take k))), (10, V.agg (r.map (C.int .i64))), (11, V.c (C.int .i64 i)), (14, V.agg ((tubeAt r i).map (C.int .i64))), (15, V.c (C.int .i64 k))], [Blk.cells (strs (parts r i)) true])) 4]
    · simp [hend, tk, e1, pl, hroom, wi, sub]
    · simp [htl, pl, t4, sub]
    · intro k hk
      obtain ⟨x, x0, x5, g, tk2⟩ := step k hk
      have hkI : (k : Int) < 4 := by omega
      have wk := wrapS (k := k) (by omega)
      have b1 := inner k hk
      have hct := callA_pure (c_impl_colorText ⟨x0, x5⟩) (by simp) (by simp)
      rw [tk2]
      have hk3 : k ≤ 3 := by omega
      generalize (tbT r i).take k = q at *
      simp [hkI, hk, hk3, htl, pl, g, hct, b1, wk, sub]
end Go.Proofs.YtcnlkmooifoljaaDoor.AM
