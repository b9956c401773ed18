import Derived.Test.YtenheijeahpbkaaT6
namespace Go.Proofs.Ytenheijeahpbkaa.AM
open Go
set_option maxRecDepth 100000
set_option linter.unusedSimpArgs false
def barC (r : List Int) (m n : Int) : List C := r.map (C.int .i64) ++ [.int .i64 m, .int .i64 n]
theorem c11 (r : List Int) (hr : r.length = 24) (m n : Int) : fnI pr np 11 [.agg (barC r m n)] [] = some (.agg (barC r m n), []) := by
  obtain ⟨a0, a1, a2, a3, a4, a5, a6, a7, a8, a9, a10, a11, a12, a13, a14, a15, a16, a17, a18, a19, a20, a21, a22, a23, rfl⟩ := len24 hr
  exact (fnI_iff pr np).2 ⟨30, by kernel_rfl⟩
theorem barC_ids (r : List Int) (m n : Int) : cids (barC r m n) = [] := by
  have : barC r m n = (r ++ [m, n]).map (C.int .i64) := by simp [barC]
  rw [this, cids_ints]
theorem c3 (r : List Int) (hr : r.length = 24) (m n : Int) : fnI pr np 3 [.agg (barC r m n)] [] = some (.c (.bool true), []) := by
  have hids := barC_ids r m n
  have hc11 := callA_pure (c11 r hr m n) (by simp [hids]) (by simp [hids])
  have hb : r.map (C.int .i64) ++ [C.int .i64 m, C.int .i64 n] = barC r m n := rfl
  have h10 := c10 r hr m n
  have h12 := c12 r hr m n
  rw [hb] at h10 h12
  rw [rack_eq r hr] at h12
  have hc10 := callA_pure h10 (by simp [hids]) (by simp)
  have hc12 := callA_pure h12 (by simp [hids]) (by simp)
  generalize (!anyFrom (rowBad r) 0 6 && (decide (0 ≤ m) && decide (m ≤ 9999)) && (decide (0 ≤ n) && decide (n ≤ 1000))) = q at hc10 hc12
  have hlen : (barC r m n).length = 26 := by simp [barC, hr]
  have h26 : (barC r m n).take 26 = barC r m n := List.take_of_length_le (by omega)
  rw [fb (fn := a3) rfl rfl]
  simp [a3, hlen, h26, hc11, hc10, hc12]
end Go.Proofs.Ytenheijeahpbkaa.AM
