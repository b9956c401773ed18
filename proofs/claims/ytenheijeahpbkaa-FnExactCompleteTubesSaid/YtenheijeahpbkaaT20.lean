import Derived.Test.YtenheijeahpbkaaT19
namespace Go.Proofs.Ytenheijeahpbkaa.AM
open Go
set_option maxRecDepth 1000000
set_option linter.unusedSimpArgs false
set_option linter.unusedVariables false
theorem c51 (r : List Int) (hr : r.length = 24) (hv : rackP r = true) : fnI pr np 51 [.agg (r.map (C.int .i64))] [] = some (.c (.sl 0 0 (fullsFrom r 0 6).length 1), [.cells ((fullsFrom r 0 6).map (C.int .i64)) true]) := by
  have h24 : (r.map (C.int .i64)).take 24 = r.map (C.int .i64) := List.take_of_length_le (by simp; omega)
  rw [fb (fn := a51) rfl rfl]
  simp [a51, hr, h24]
  generalize hL1 : (ACode.loop _ _) = L1
  generalize hR : (ACode.seq _ ACode.ret) = R
  have key : ∀ (d i : Nat) (l : List Int) (e : Env) (h : Heap), i + d = 6 → l.length ≤ i → gcE 0 [3, 7, 8] e h = some ([(3, V.c (C.sl 0 0 l.length 1)), (7, V.agg (r.map (C.int .i64))), (8, V.c (C.int .i64 i))], [Blk.cells (l.map (C.int .i64)) true]) → leaveK 0 [RV.t 2] (seqK pr np 0 R (blockK 0 (exI pr np 0 L1 e h))) = some (.c (.sl 0 0 (l ++ fullsFrom r i d).length 1), [.cells ((l ++ fullsFrom r i d).map (C.int .i64)) true]) := by
    intro d
    induction d with
    | zero =>
      intro i l e h hi hl hg
      have hi : i = 6 := by omega
      subst hi
      rw [← hL1, exI_loop', hg]
      simp [← hR, fullsFrom, cut, gcL, upto, reach, idsAt, closed, inL, sub, pos]
    | succ d ih =>
      intro i l e h hin hl hg
      have hi : i < 6 := by omega
      have hi' : (i : Int) < 6 := by omega
      have ht4 := tubeAt_len hr hi
      have htp := rackP_tube hv hi
      have hcall := callA_pure (c70 _ ht4 htp) (by simp) (by simp)
      have hm : ((r.map (C.int .i64)).drop (i * 4)).take 4 = (tubeAt r i).map (C.int .i64) := by simp [tubeAt]
      have hsa : setAt [C.int .i64 0, C.int .i64 0, C.int .i64 0, C.int .i64 0] 0 ((tubeAt r i).map (C.int .i64)) = (tubeAt r i).map (C.int .i64) := setAt_all _ _ (by simp [ht4])
      have htt : ((tubeAt r i).map (C.int .i64)).take 4 = (tubeAt r i).map (C.int .i64) := List.take_of_length_le (by simp; omega)
      have hw : IntKind.i64.wrap ((i : Int) + 1) = ((i + 1 : Nat) : Int) := by rw [wrapI (by omega) (by omega)]; rfl
      have hroom : l.length + 1 ≤ 68719476736 := by omega
      have hids : cids (l.map (C.int .i64) ++ [C.int .i64 (i : Int)]) = [] := by
        have : l.map (C.int .i64) ++ [C.int .i64 (i : Int)] = (l ++ [(i : Int)]).map (C.int .i64) := by simp
        rw [this, cids_ints]
      have hcmp : ∀ g, cmp g (l.map (C.int .i64) ++ [C.int .i64 (i : Int)]) = l.map (C.int .i64) ++ [C.int .i64 (i : Int)] := fun g => cmp_pure hids
      have htk : (l.map (C.int .i64)).take l.length = l.map (C.int .i64) := List.take_of_length_le (by simp)
      rw [← hL1, exI_loop', hg]
      by_cases hfp : fullP (tubeAt r i) = true
      · simp [hi, hi', hr, hm, ht4, hsa, htt, hcall, hfp, hw, HOp.ev, appSrc, maxRoom, hroom, htk]
        rw [hL1]
        refine (ih (i + 1) (l ++ [(i : Int)]) _ _ (by omega) (by simp; omega) ?_).trans ?_
        · rw [gcE_told (L := [3]) (by simp [gcL, upto, reach, idsAt, envIds, hids]) (by simp [closed, inL, idsAt, envIds, hids])]
          simp [sub, pos, hcmp]
        · simp [fullsFrom, hfp]
      · have hfp : fullP (tubeAt r i) = false := by simpa using hfp
        simp [hi, hi', hr, hm, ht4, hsa, htt, hcall, hfp, hw]
        rw [hL1]
        refine (ih (i + 1) l _ _ (by omega) (by omega) ?_).trans ?_
        · rw [gcE_told (L := [0]) (by simp [gcL, upto, reach, idsAt, envIds]) (by simp [closed, inL, idsAt, envIds])]
          simp [sub, pos]
        · simp [fullsFrom, hfp]
  refine (key 6 0 [] _ _ rfl (by simp) ?_).trans (by simp)
  rw [gcE_told (L := [2]) (by simp [gcL, upto, reach, idsAt, envIds]) (by simp [closed, inL, idsAt, envIds])]
  simp [sub, pos]
end Go.Proofs.Ytenheijeahpbkaa.AM
