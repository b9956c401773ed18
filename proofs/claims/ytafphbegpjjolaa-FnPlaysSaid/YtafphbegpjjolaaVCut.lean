import Derived.Test.YtafphbegpjjolaaDraw
/- Contracts: is it big, and bytes are cut (as in the texts of logs). -/
namespace Go.Proofs.Ytafphbegpjjolaa.AM
open Go
set_option maxRecDepth 1000000
set_option linter.unusedSimpArgs false
set_option linter.unusedVariables false
theorem c_laws_vBig (bs : List Int) (o : Bool) (hn : bs.length ≤ 9223372036854775807) : fnI pr np 5 [.c (.sl 0 0 bs.length 1)] [byB bs o] = some (.c (.bool (decide (65536 < bs.length))), [byB bs o]) := by
  have e : decide ((65536 : Int) < (bs.length : Int)) = decide (65536 < bs.length) := by apply decide_eq_decide.2; omega
  rw [fb (fn := a5) rfl rfl]
  simp [a5, sub]
  omega
theorem bs_drop (bs : List Int) (k : Nat) : ((bs.map (C.int .u8)).drop k).take (bs.length - k) = (bs.drop k).map (C.int .u8) := by
  rw [← List.map_drop, List.take_of_length_le (by simp)]
theorem c_laws_vCut (bs : List Int) (hb : Bytes bs) (hn : bs.length ≤ 70000) (o : Bool) (n : Nat) (h3 : n ≤ 9) : ∃ bs' : List Int, Bytes bs' ∧ fnI pr np 18 [.c (.sl 0 0 bs.length 1), .c (.int .i64 n)] [byB bs o] = some (.c (.sl 1 0 bs'.length 1), [byB bs o, byB bs' true]) := by
  obtain ⟨k, hk, hkl, hc⟩ : ∃ k : Nat, k ≤ 9 ∧ k ≤ bs.length ∧ ((bs.length < n ∧ k = bs.length) ∨ (n ≤ bs.length ∧ k = n)) := by
    by_cases h : bs.length < n
    · exact ⟨bs.length, by omega, by omega, .inl ⟨h, rfl⟩⟩
    · exact ⟨n, by omega, by omega, .inr ⟨by omega, rfl⟩⟩
  refine ⟨bs.drop k ++ [(k : Int)], ⟨?_, ?_⟩, ?_⟩
  · intro x hx
    rcases List.mem_append.1 hx with hx | hx
    · exact hb.rg x (List.mem_of_mem_drop hx)
    · have : x = (k : Int) := by simpa using hx
      omega
  · simp
    omega
  · have wk : IntKind.u8.wrap (k : Int) = (k : Int) := by
      simp [IntKind.wrap, IntKind.bits, IntKind.signed]
      omega
    have hd := bs_drop bs k
    have hmd : (bs.map (C.int .u8)).drop k = (bs.drop k).map (C.int .u8) := List.map_drop.symm
    have b1 : k + (bs.length - k) ≤ bs.length := by omega
    have b2 : bs.length - k ≤ 68719476736 := by omega
    have b3 : bs.length - k + 1 ≤ 68719476736 := by omega
    have b4 : k + (bs.length - k) = bs.length := by omega
    have hdl : (bs.drop k).length = bs.length - k := by simp
    have htk : ((bs.drop k).map (C.int .u8)).take (bs.length - k) = (bs.drop k).map (C.int .u8) := List.take_of_length_le (by simp)
    have hkl' : (k : Int) ≤ (bs.length : Int) := by omega
    rw [fb (fn := a18) rfl rfl]
    unfold byB
    have hlen : (bs.drop k ++ [(k : Int)]).length = bs.length - k + 1 := by simp
    rw [List.map_append, hlen]
    generalize bs.drop k = ds at *
    rcases hc with ⟨h, rfl⟩ | ⟨h, rfl⟩
    · have h' : (bs.length : Int) < (n : Int) := by omega
      simp [a18, h, h', wk, hmd, b1, b2, b3, b4, hdl, htk, hkl, hkl', cids_app, cmp_app, sub]
      exact List.length_eq_zero_iff.1 (by omega)
    · have h' : ¬ (bs.length : Int) < (k : Int) := by omega
      have h2 : ¬ bs.length < k := by omega
      simp [a18, h, h', h2, wk, hmd, b1, b2, b3, b4, hdl, htk, hkl, hkl', cids_app, cmp_app, sub]
end Go.Proofs.Ytafphbegpjjolaa.AM
