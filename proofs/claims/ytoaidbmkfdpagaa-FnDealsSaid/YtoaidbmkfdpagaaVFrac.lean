import Derived.Test.YtoaidbmkfdpagaaDealF
/- Contracts: fractions of the laws are added and compared. -/
namespace Go.Proofs.Ytoaidbmkfdpagaa.AM
open Go
set_option maxRecDepth 1000000
set_option linter.unusedSimpArgs false
set_option linter.unusedVariables false
/-! ### fractions -/
theorem c_laws_vLess (a b c d : Nat) (h1 : a * d < 9223372036854775808) (h2 : c * b < 9223372036854775808) : fnI pr np 28 [.agg [.int .i64 a, .int .i64 b], .agg [.int .i64 c, .int .i64 d]] [] = some (.c (.bool (decide (a * d < c * b))), []) := by
  have w1 : IntKind.i64.wrap ((a : Int) * (d : Int)) = ((a * d : Nat) : Int) := by rw [← Int.natCast_mul]; exact wrapN h1
  have w2 : IntKind.i64.wrap ((c : Int) * (b : Int)) = ((c * b : Nat) : Int) := by rw [← Int.natCast_mul]; exact wrapN h2
  have e : decide (((a * d : Nat) : Int) < ((c * b : Nat) : Int)) = decide (a * d < c * b) := by apply decide_eq_decide.2; omega
  generalize a * d = x at *
  generalize c * b = y at *
  rw [fb (fn := a28) rfl rfl]
  simp [a28, w1, w2, e]
set_option maxHeartbeats 4000000 in
theorem c_laws_vPlus (a b c d : Nat) (ha : a ≤ 1000) (hb : b ≤ 1000) (hc : c ≤ 1000) (hd : d ≤ 1000) (hb0 : 0 < b) (hd0 : 0 < d) : fnI pr np 27 [.agg [.int .i64 a, .int .i64 b], .agg [.int .i64 c, .int .i64 d]] [] = some (.agg [.int .i64 (vSumF (a, b) (c, d)).1, .int .i64 (vSumF (a, b) (c, d)).2], []) := by
  have hg : 0 < Nat.gcd b d := Nat.gcd_pos_of_pos_right b hd0
  have hq2 : 0 < b / Nat.gcd b d := Nat.div_pos (Nat.le_of_dvd hb0 (Nat.gcd_dvd_left b d)) hg
  have l1 : b / Nat.gcd b d ≤ 1000 := Nat.le_trans (Nat.div_le_self _ _) hb
  have l2 : d / Nat.gcd b d ≤ 1000 := Nat.le_trans (Nat.div_le_self _ _) hd
  have z1 : (d : Int).tdiv (Nat.gcd b d : Int) = ((d / Nat.gcd b d : Nat) : Int) := rfl
  have z2 : (b : Int).tdiv (Nat.gcd b d : Int) = ((b / Nat.gcd b d : Nat) : Int) := rfl
  have hS : vSumF (a, b) (c, d) = cutF (a * (d / Nat.gcd b d) + c * (b / Nat.gcd b d)) (b / Nat.gcd b d * d) := rfl
  rw [hS]
  rw [fb (fn := a27) rfl rfl]
  simp [a27]
  generalize hL : (ACode.loop _ [2, 3, 4, 5, 6]) = L
  have key : ∀ (y x : Nat) (e : Env) (h : Heap), gcE 0 [2, 3, 4, 5, 6] e h = some ([(2, V.c (C.ptr 0 0)), (3, V.c (C.ptr 1 0)), (4, V.c (C.ptr 2 0)), (5, V.c (C.int .i64 x)), (6, V.c (C.int .i64 y))], [Blk.cells [C.int .i64 a, C.int .i64 b] true, Blk.cells [C.int .i64 c, C.int .i64 d] true, Blk.cells [C.int .i64 0, C.int .i64 0] true]) →
      exI pr np 0 L e h = some (.exit 0, [(2, V.c (C.ptr 0 0)), (3, V.c (C.ptr 1 0)), (4, V.c (C.ptr 2 0)), (5, V.c (C.int .i64 (Nat.gcd x y))), (6, V.c (C.int .i64 0)), (14, V.c (C.bool false))], [Blk.cells [C.int .i64 a, C.int .i64 b] true, Blk.cells [C.int .i64 c, C.int .i64 d] true, Blk.cells [C.int .i64 0, C.int .i64 0] true]) := by
    intro y
    induction y using Nat.strongRecOn with
    | ind y ih =>
      intro x e h hg
      rw [← hL, exI_loop', hg]
      by_cases hy : y = 0
      · subst hy
        simp
      · have hy' : ¬ (y : Int) = 0 := by omega
        have hy2 : (0 : Int) < (y : Int) := by omega
        have hy3 : 0 < y := by omega
        have ht : (x : Int).tmod (y : Int) = ((x % y : Nat) : Int) := rfl
        have hlt : x % y < y := Nat.mod_lt _ (by omega)
        simp [hy, hy', hy2, hy3, ht, -Int.natCast_emod, sub]
        rw [hL]
        refine (ih (x % y) hlt y _ _ ?_).trans ?_
        · simp [sub]
        · rw [Nat.gcd_comm y, ← Nat.gcd_rec, Nat.gcd_comm]
  rw [key d b _ _ (by simp [sub])]
  clear key hL
  have hg' : ¬ ((Nat.gcd b d : Nat) : Int) = 0 := by omega
  generalize hgd : Nat.gcd b d = g at *
  have hgz : ¬ g = 0 := by omega
  generalize hq1 : d / g = q1 at *
  generalize hq2e : b / g = q2 at *
  have w1 : IntKind.i64.wrap (q1 : Int) = (q1 : Int) := wrapI (by omega) (by omega)
  have w2 : IntKind.i64.wrap (q2 : Int) = (q2 : Int) := wrapI (by omega) (by omega)
  have n1 : a * q1 ≤ 1000 * 1000 := Nat.mul_le_mul ha l2
  have n2 : c * q2 ≤ 1000 * 1000 := Nat.mul_le_mul hc l1
  have n3 : q2 * d ≤ 1000 * 1000 := Nat.mul_le_mul l1 hd
  have n4 : 0 < q2 * d := Nat.mul_pos hq2 hd0
  have w3 : IntKind.i64.wrap ((a : Int) * (q1 : Int)) = ((a * q1 : Nat) : Int) := by rw [← Int.natCast_mul]; exact wrapN (by omega)
  have w4 : IntKind.i64.wrap ((c : Int) * (q2 : Int)) = ((c * q2 : Nat) : Int) := by rw [← Int.natCast_mul]; exact wrapN (by omega)
  have w5 : IntKind.i64.wrap ((q2 : Int) * (d : Int)) = ((q2 * d : Nat) : Int) := by rw [← Int.natCast_mul]; exact wrapN (by omega)
  generalize a * q1 = p1 at *
  generalize c * q2 = p2 at *
  have w6 : IntKind.i64.wrap ((p1 : Int) + (p2 : Int)) = ((p1 + p2 : Nat) : Int) := (wrapI (by omega) (by omega)).trans (by omega)
  have n5 : p1 + p2 ≤ 2000000 := by omega
  generalize p1 + p2 = T at *
  generalize q2 * d = U at *
  simp [hg', hgz, z1, z2, w1, w2, w3, w4, w5, w6, sub]
  generalize hL : (ACode.loop _ [4, 5, 6, 7, 8]) = L
  have key : ∀ (y x : Nat) (e : Env) (h : Heap), gcE 0 [4, 5, 6, 7, 8] e h = some ([(4, V.c (C.ptr 0 0)), (5, V.c (C.int .i64 x)), (6, V.c (C.int .i64 y)), (7, V.c (C.int .i64 T)), (8, V.c (C.int .i64 U))], [Blk.cells [C.int .i64 0, C.int .i64 0] true]) →
      exI pr np 0 L e h = some (.exit 2, [(4, V.c (C.ptr 0 0)), (5, V.c (C.int .i64 (Nat.gcd x y))), (6, V.c (C.int .i64 0)), (7, V.c (C.int .i64 T)), (8, V.c (C.int .i64 U)), (44, V.c (C.bool false))], [Blk.cells [C.int .i64 0, C.int .i64 0] true]) := by
    intro y
    induction y using Nat.strongRecOn with
    | ind y ih =>
      intro x e h hg
      rw [← hL, exI_loop', hg]
      by_cases hy : y = 0
      · subst hy
        simp
      · have hy' : ¬ (y : Int) = 0 := by omega
        have hy2 : (0 : Int) < (y : Int) := by omega
        have hy3 : 0 < y := by omega
        have ht : (x : Int).tmod (y : Int) = ((x % y : Nat) : Int) := rfl
        have hlt : x % y < y := Nat.mod_lt _ (by omega)
        simp [hy, hy', hy2, hy3, ht, -Int.natCast_emod, sub]
        rw [hL]
        refine (ih (x % y) hlt y _ _ ?_).trans ?_
        · simp [sub]
        · rw [Nat.gcd_comm y, ← Nat.gcd_rec, Nat.gcd_comm]
  rw [key U T _ _ (by simp [sub])]
  clear key hL
  unfold cutF
  have hG : 0 < Nat.gcd T U := Nat.gcd_pos_of_pos_right T n4
  have hG' : ¬ ((Nat.gcd T U : Nat) : Int) = 0 := by omega
  have y1 : (T : Int).tdiv (Nat.gcd T U : Int) = ((T / Nat.gcd T U : Nat) : Int) := rfl
  have y2 : (U : Int).tdiv (Nat.gcd T U : Int) = ((U / Nat.gcd T U : Nat) : Int) := rfl
  have m1 : T / Nat.gcd T U ≤ T := Nat.div_le_self _ _
  have m2 : U / Nat.gcd T U ≤ U := Nat.div_le_self _ _
  generalize T / Nat.gcd T U = X at *
  generalize U / Nat.gcd T U = Y at *
  generalize Nat.gcd T U = G at *
  have hGz : ¬ G = 0 := by omega
  have u1 : IntKind.i64.wrap (X : Int) = (X : Int) := wrapI (by omega) (by omega)
  have u2 : IntKind.i64.wrap (Y : Int) = (Y : Int) := wrapI (by omega) (by omega)
  simp [hG', hGz, y1, y2, u1, u2, setAt, setAt_all, sub]
end Go.Proofs.Ytoaidbmkfdpagaa.AM
