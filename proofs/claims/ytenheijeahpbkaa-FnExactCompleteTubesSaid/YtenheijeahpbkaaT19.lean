import Derived.Test.YtenheijeahpbkaaT18
namespace Go.Proofs.Ytenheijeahpbkaa.AM
open Go
set_option maxRecDepth 1000000
set_option linter.unusedSimpArgs false
set_option linter.unusedVariables false
/-- the complete tubes from i on -/
def fullsFrom (r : List Int) (i : Nat) : Nat → List Int
  | 0 => []
  | d + 1 => (if fullP (tubeAt r i) = true then [(i : Int)] else []) ++ fullsFrom r (i + 1) d
theorem c50 (r : List Int) (hr : r.length = 24) (hv : rackP r = true) : fnI pr np 50 [.agg (r.map (C.int .i64))] [] = some (.c (.sl 0 0 (fullsFrom r 0 6).length 1), [.cells ((fullsFrom r 0 6).map (C.int .i64)) true]) := by
  rw [fb (fn := a50) rfl rfl]
  simp [a50, hr]
  generalize hL1 : (ACode.loop _ _) = L1
  generalize hR : (ACode.seq _ ACode.ret) = R
  have key : ∀ (d i : Nat) (l : List Int) (e : Env) (h : Heap), i + d = 6 → l.length ≤ i → gcE 0 [1, 3, 4] e h = some ([(1, V.c (C.ptr 0 0)), (3, V.c (C.sl 1 0 l.length 1)), (4, V.c (C.int .i64 i))], [Blk.cells (r.map (C.int .i64)) true, Blk.cells (l.map (C.int .i64)) true]) → leaveK 0 [RV.t 2] (seqK pr np 0 R (blockK 0 (exI pr np 0 L1 e h))) = some (.c (.sl 0 0 (l ++ fullsFrom r i d).length 1), [.cells ((l ++ fullsFrom r i d).map (C.int .i64)) true]) := by
    intro d
    induction d with
    | zero =>
      intro i l e h hi hl hg
      have hi : i = 6 := by omega
      subst hi
      rw [← hL1, exI_loop', hg]
      simp [← hR, fullsFrom, cut, gcL, upto, reach, idsAt, closed, inL, sub, pos]
    | succ d ih =>
      intro i l e h hin hl hg
      have hi : i < 6 := by omega
      have hi' : (i : Int) < 6 := by omega
      have ht4 := tubeAt_len hr hi
      have htp := rackP_tube hv hi
      have hlen : i * 4 + 4 ≤ 24 := by omega
      have hcall := callA_pure (top_all _ ht4 htp) (by simp) (by simp)
      have hf := full_eq _ ht4 htp
      have hm : ((r.map (C.int .i64)).drop (i * 4)).take 4 = (tubeAt r i).map (C.int .i64) := by simp [tubeAt]
      have hw : IntKind.i64.wrap ((i : Int) + 1) = ((i + 1 : Nat) : Int) := by rw [wrapI (by omega) (by omega)]; rfl
      have hroom : l.length + 1 ≤ 68719476736 := by omega
      have hids : cids (l.map (C.int .i64) ++ [C.int .i64 (i : Int)]) = [] := by
        have : l.map (C.int .i64) ++ [C.int .i64 (i : Int)] = (l ++ [(i : Int)]).map (C.int .i64) := by simp
        rw [this, cids_ints]
      have hcmp : ∀ g, cmp g (l.map (C.int .i64) ++ [C.int .i64 (i : Int)]) = l.map (C.int .i64) ++ [C.int .i64 (i : Int)] := fun g => cmp_pure hids
      have htk : (l.map (C.int .i64)).take l.length = l.map (C.int .i64) := List.take_of_length_le (by simp)
      rw [← hL1, exI_loop', hg]
      by_cases hq : (topOf (tubeAt r i)).2 = 4
      · have hfp : fullP (tubeAt r i) = true := by rw [← hf]; simpa using hq
        simp [hi, hi', hr, hlen, hm, hcall, hq, hw, HOp.ev, appSrc, maxRoom, hroom, htk]
        rw [hL1]
        refine (ih (i + 1) (l ++ [(i : Int)]) _ _ (by omega) (by simp; omega) ?_).trans ?_
        · rw [gcE_told (L := [0, 3]) (by simp [gcL, upto, reach, idsAt, envIds, hids]) (by simp [closed, inL, idsAt, envIds, hids])]
          simp [sub, pos, hcmp]
        · simp [fullsFrom, hfp]
      · have hfp : fullP (tubeAt r i) = false := by rw [← hf]; simpa using hq
        simp [hi, hi', hr, hlen, hm, hcall, hq, hw]
        rw [hL1]
        refine (ih (i + 1) l _ _ (by omega) (by omega) ?_).trans ?_
        · rw [gcE_told (L := [0, 1]) (by simp [gcL, upto, reach, idsAt, envIds]) (by simp [closed, inL, idsAt, envIds])]
          simp [sub, pos]
        · simp [fullsFrom, hfp]
  refine (key 6 0 [] _ _ rfl (by simp) ?_).trans (by simp)
  rw [gcE_told (L := [0, 2]) (by simp [gcL, upto, reach, idsAt, envIds]) (by simp [closed, inL, idsAt, envIds])]
  simp [sub, pos]
end Go.Proofs.Ytenheijeahpbkaa.AM
