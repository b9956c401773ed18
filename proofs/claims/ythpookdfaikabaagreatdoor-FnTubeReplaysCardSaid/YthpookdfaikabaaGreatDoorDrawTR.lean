import Derived.Test.YthpookdfaikabaaGreatDoorDrwB
import Derived.Test.YthpookdfaikabaaGreatDoorDrwA
import Derived.Test.YthpookdfaikabaaGreatDoorDrwB
import Derived.Test.YthpookdfaikabaaGreatDoorTxtA
/- Contracts: draws of replays with numbers and pours, and of texts. -/
namespace Go.Proofs.YthpookdfaikabaaGreatDoor.AM
open Go
set_option maxRecDepth 1000000
set_option linter.unusedSimpArgs false
set_option linter.unusedVariables false
theorem spoil_w2 {k : Nat} (h : k < 9) : ∃ w : UInt8, (([48, 49, 50, 32, 54, 97, 98, 47, 46] : List UInt8).drop k).take 1 = [w] ∧ 1 ≤ (([48, 49, 50, 32, 54, 97, 98, 47, 46] : List UInt8).drop k).length ∧ k ≤ 9 := by
  have : k = 0 ∨ k = 1 ∨ k = 2 ∨ k = 3 ∨ k = 4 ∨ k = 5 ∨ k = 6 ∨ k = 7 ∨ k = 8 := by omega
  rcases this with rfl | rfl | rfl | rfl | rfl | rfl | rfl | rfl | rfl <;> exact ⟨_, rfl, by decide, by decide⟩
set_option maxHeartbeats 4000000 in
theorem c_spoilt2 (bs : List Int) (hb : Bytes bs) (o : Bool) (p : Nat) (hp : p + 6 < 1000000000) (s : Int) (t : List UInt8) (ht : t.length ≤ 60000) : ∃ (x : List UInt8) (p' : Nat) (s' : Int), x.length ≤ t.length + 1 ∧ p' ≤ p + 6 ∧ fnI pr np 43 [.c (.ptr 0 0), .c (.str t), .c (.str [48, 49, 50, 32, 54, 97, 98, 47, 46])] [curB 1 bs.length p s, byB bs o] = some (.c (.str x), [curB 1 bs.length p' s', byB bs o]) := by
  by_cases h0 : t = []
  · subst h0
    refine ⟨[48], p, s, by decide, by omega, ?_⟩
    rw [fb (fn := a43) rfl rfl rfl]
    simp [a43, sub]
  · have hpos : 0 < t.length := List.length_pos_iff.2 h0
    obtain ⟨i, p1, s1, hi, hp1, hF1⟩ := c_pick bs hb o p (by omega) s t.length (by omega) (by omega)
    have k1 := call_cur (rest := [.c (.int .i64 t.length)]) rfl hF1 0 1
    obtain ⟨k, p2, s2, hk, hp2, hF2⟩ := c_pick bs hb o p1 (by omega) s1 9 (by decide) (by decide)
    have k2 := call_cur (rest := [.c (.int .i64 9)]) rfl hF2 0 1
    obtain ⟨m, p3, s3, hm, hp3, hF3⟩ := c_pick bs hb o p2 (by omega) s2 3 (by decide) (by decide)
    have k3 := call_cur (rest := [.c (.int .i64 3)]) rfl hF3 0 1
    obtain ⟨w, hw, hw1, hw5⟩ := spoil_w2 (k := k) (by omega)
    have hw1' : 1 ≤ 9 - k := by omega
    have hw2 : (1 : Int) ≤ ((9 - k : Nat) : Int) := by omega
    have hi' : i < t.length := by omega
    have hle : i ≤ t.length := by omega
    have hle1 : i + 1 ≤ t.length := by omega
    have hle' : (i : Int) ≤ (t.length : Int) := by omega
    have hle1' : (i : Int) + 1 ≤ (t.length : Int) := by omega
    have wi := wrapS (k := i) (by omega)
    have q1 : i ≤ 9223372036854775806 := by omega
    have q8 : t.length ≤ 9223372036854775807 := by omega
    have q2 : (0 : Int) ≤ (i : Int) + 1 := by omega
    have q3 : i + (1 + (t.length - i)) ≤ 9223372036854775807 := by omega
    have q4 : i + (1 + (t.length - (i + 1))) ≤ 9223372036854775807 := by omega
    have q5 : i + (t.length - (i + 1)) ≤ 9223372036854775807 := by omega
    have q6 : i + 1 + (t.length - i) ≤ 9223372036854775807 := by omega
    have q7 : i + 1 + (t.length - (i + 1)) ≤ 9223372036854775807 := by omega
    have tk : (t.take i).length = i := by rw [List.length_take]; omega
    by_cases m0 : (m : Int) = 0
    · have : m = 0 := by omega
      subst this
      refine ⟨t.take i ++ [w] ++ t.drop i, p3, s3, ?_, by omega, ?_⟩
      · simp; omega
      · rw [fb (fn := a43) rfl rfl rfl]
        simp [a43, h0, k1, k2, k3, hw, hw1, hw1', hw2, hw5, hle, hle', q1, q2, q3, q4, q5, q6, q7, q8, tk, sub]
    · by_cases m1 : (m : Int) = 1
      · have : m = 1 := by omega
        subst this
        refine ⟨t.take i ++ [w] ++ t.drop (i + 1), p3, s3, ?_, by omega, ?_⟩
        · simp; omega
        · rw [fb (fn := a43) rfl rfl rfl]
          simp [a43, h0, k1, k2, k3, hw, hw1, hw1', hw2, hw5, hle, hle', q1, q2, q3, q4, q5, q6, q7, q8, tk, hle1, hle1', wi, sub]
      · have m0' : ¬ m = 0 := by omega
        have m1' : ¬ m = 1 := by omega
        refine ⟨t.take i ++ t.drop (i + 1), p3, s3, ?_, by omega, ?_⟩
        · simp; omega
        · rw [fb (fn := a43) rfl rfl rfl]
          simp [a43, h0, k1, k2, k3, m0, m1, m0', m1', hw, hw1, hw1', hw2, hw5, hle, hle', q1, q2, q3, q4, q5, q6, q7, q8, tk, hle1, hle1', wi, sub]


theorem c_spec_DrawReplayRack (bs : List Int) (hb : Bytes bs) (o : Bool) : ∃ (R : List Int) (l : List (Int × Int)) (n : Int), R.length = 24 ∧ l.length ≤ 60 ∧ (-1 ≤ n ∧ n ≤ 61) ∧ fnI pr np 5 [.c (.sl 0 0 bs.length 1)] [byB bs o] = some (.tup [.agg (R.map (C.int .i64) ++ [C.sl 1 0 l.length 2]), .c (.int .i64 n)], [byB bs o, .cells (cZ l) true]) := by
  obtain ⟨n, p1, s1, hn, hp1, hG1⟩ := c_among bs hb o 0 (by omega) 0 [0, 1, 2, 3, 5, -1, 60, 61] (by decide) (by decide)
  have hn := lit_range (lo := -1) (hi := 61) (by decide) hn
  obtain ⟨R, l, p2, s2, hR, hl, hp2, hF⟩ := c_replay bs hb o p1 (by omega) s1
  have g1 := fun i j => call_among (by simp) hG1 i j 0
  have g2 := fun i => call_curN (rest := []) rfl hF i 0
  simp at g1
  refine ⟨R, l, n, hR, hl, hn, ?_⟩
  rw [fb (fn := a5) rfl rfl rfl]
  have hc : Blk.cells [C.sl 0 0 bs.length 1, C.int .i64 0, C.int .u64 0] true = curB 0 bs.length 0 0 := rfl
  have t3 := fun i n => repC_all hR (C.sl i 0 n 2)
  simp [a5, g1, g2, hc, hR, t3, z25_eq, z25_setAll hR, repV, back, sub, cids_app, cmp_app]
theorem c_spec_DrawUndoPours (bs : List Int) (hb : Bytes bs) (o : Bool) : ∃ (R : List Int) (l : List (Int × Int)) (n : Int), R.length = 24 ∧ l.length ≤ 60 ∧ (-1 ≤ n ∧ n ≤ 61) ∧ fnI pr np 12 [.c (.sl 0 0 bs.length 1)] [byB bs o] = some (.tup [.agg (R.map (C.int .i64) ++ [C.sl 1 0 l.length 2]), .c (.int .i64 n)], [byB bs o, .cells (cZ l) true]) := by
  obtain ⟨R, l, n, hR, hl, hn, hF⟩ := c_spec_DrawReplayRack bs hb o
  have g1 := call_slz (rest := []) rfl (by simp) hF 0
  refine ⟨R, l, n, hR, hl, hn, ?_⟩
  rw [fb (fn := a12) rfl rfl rfl]
  have t3 := fun i n => repC_all hR (C.sl i 0 n 2)
  simp [a12, g1, hR, t3, z25_eq, z25_setAll hR, repV, back, sub, cids_app, cmp_app]
theorem c_spec_DrawCanSwap (bs : List Int) (hb : Bytes bs) (o : Bool) : ∃ (R : List Int) (l : List (Int × Int)) (n : Int), R.length = 24 ∧ l.length ≤ 60 ∧ (-1 ≤ n ∧ n ≤ 61) ∧ fnI pr np 23 [.c (.sl 0 0 bs.length 1)] [byB bs o] = some (.tup [.agg (R.map (C.int .i64) ++ [C.sl 1 0 l.length 2]), .c (.int .i64 n)], [byB bs o, .cells (cZ l) true]) := by
  obtain ⟨R, l, n, hR, hl, hn, hF⟩ := c_spec_DrawReplayRack bs hb o
  have g1 := call_slz (rest := []) rfl (by simp) hF 0
  refine ⟨R, l, n, hR, hl, hn, ?_⟩
  rw [fb (fn := a23) rfl rfl rfl]
  have t3 := fun i n => repC_all hR (C.sl i 0 n 2)
  simp [a23, g1, hR, t3, z25_eq, z25_setAll hR, repV, back, sub, cids_app, cmp_app]
theorem c_spec_DrawAddPour (bs : List Int) (hb : Bytes bs) (o : Bool) : ∃ (R : List Int) (l : List (Int × Int)) (x y : Int), R.length = 24 ∧ l.length ≤ 60 ∧ fnI pr np 8 [.c (.sl 0 0 bs.length 1)] [byB bs o] = some (.tup [.agg (R.map (C.int .i64) ++ [C.sl 1 0 l.length 2]), .agg [.int .i64 x, .int .i64 y]], [byB bs o, .cells (cZ l) true]) := by
  obtain ⟨R, l, p1, s1, hR, hl, hp1, hF⟩ := c_replay bs hb o 0 (by omega) 0
  have g1 := fun i => call_curN (rest := []) rfl hF i 0
  have hc : Blk.cells [C.sl 0 0 bs.length 1, C.int .i64 0, C.int .u64 0] true = curB 0 bs.length 0 0 := rfl
  have t3 := fun i n => repC_all hR (C.sl i 0 n 2)
  have h0 := c_spec_l11Racks R hR l true
  rw [fb (fn := a8) rfl rfl rfl]
  cases hq : repB R l with
  | false =>
    rw [racksV_f hq] at h0
    have hr1 := call_rep (rest := []) rfl (by simp) h0
    refine ⟨R, l, 0, 1, hR, hl, ?_⟩
    simp [a8, g1, hr1, hc, hR, t3, z25_eq, z25_setAll hR, repV, back, setAt_all, setAt, sub, cids_app, cmp_app]
  | true =>
    rw [racksV_t hq] at h0
    have hr1 := call_rep (rest := []) rfl (by simp) h0
    have hfl := rackF_len hR l
    obtain ⟨x, y, p2, s2, hp2, hP⟩ := c_drawPour bs hb o p1 (by omega) s1 (rackF R l) hfl
    have g2 := fun i => call_cur (rest := [.agg ((rackF R l).map (C.int .i64))]) (by simp) hP i 0
    have hget := outC_get hR l l.length (j := l.length) (Nat.le_refl _)
    rw [List.take_length] at hget
    refine ⟨R, l, x, y, hR, hl, ?_⟩
    have w1 : IntKind.i64.wrap ((l.length : Int) + 1 - 1) = (l.length : Int) := by rw [wrapI (by omega) (by omega)]; omega
    have c0 : (l.length : Int) < (l.length : Int) + 1 := by omega
    have w0 : IntKind.i64.wrap (l.length : Int) = (l.length : Int) := wrapI (by omega) (by omega)
    have f1 := farE_one (ks := [8, 1000005]) (t := 5) (by decide) (by decide)
    have ol := outI_len hR l l.length
    have b1 : l.length * 24 + 24 ≤ (l.length + 1) * 24 := by omega
    have f24 := take24 hfl
    simp [-farE, a8, g1, g2, hr1, hc, hR, hget, c0, w0, w1, f1, ol, b1, hfl, f24, t3, stillE, madeA, idOf, z25_eq, z25_setAll hR, repV, back, setAt_all, setAt, sub, cids_app, cmp_app]
def draw0 : List UInt8 := [97, 98, 97, 46, 47, 98, 46, 46, 46, 47, 46, 46, 46, 46, 47, 46, 46, 46, 46, 47, 46, 46, 46, 46, 47, 46, 46, 46, 46, 32, 48, 50]
theorem c_spec_DrawParseReplay (bs : List Int) (hb : Bytes bs) (o : Bool) : ∃ (t : List UInt8), t.length ≤ 1000 ∧ fnI pr np 18 [.c (.sl 0 0 bs.length 1)] [byB bs o] = some (.c (.str t), [byB bs o]) := by
  obtain ⟨R, l, p1, s1, hR, hl, hp1, hF⟩ := c_replay bs hb o 0 (by omega) 0
  have g1 := fun i => call_curN (rest := []) rfl hF i 0
  have hc : Blk.cells [C.sl 0 0 bs.length 1, C.int .i64 0, C.int .u64 0] true = curB 0 bs.length 0 0 := rfl
  have t3 := fun i n => repC_all hR (C.sl i 0 n 2)
  have hi := call_rep (rest := []) rfl (by simp) (c_spec_IsReplay R hR l true)
  obtain ⟨q, p2, s2, hp2, hQ⟩ := c_one bs hb o p1 (by omega) s1 3 (by decide) (by decide)
  have g2 := fun i => call_cur (rest := [.c (.int .i64 3)]) rfl hQ i 0
  have key : ∀ t : List UInt8, t.length ≤ 999 → ∃ x : List UInt8, x.length ≤ 1000 ∧ ∃ p' s', fnI pr np 43 [.c (.ptr 0 0), .c (.str t), .c (.str [48, 49, 50, 32, 54, 97, 98, 47, 46])] [curB 1 bs.length p2 s2, byB bs o] = some (.c (.str x), [curB 1 bs.length p' s', byB bs o]) := fun t ht => by
    obtain ⟨x, p3, s3, hx, hp3, hS⟩ := c_spoilt2 bs hb o p2 (by omega) s2 t (by omega)
    exact ⟨x, by omega, p3, s3, hS⟩
  rw [fb (fn := a18) rfl rfl rfl]
  cases hq : repB R l with
  | false =>
    rw [hq] at hi
    cases q with
    | false =>
      refine ⟨draw0, by decide, ?_⟩
      simp [a18, g1, g2, hi, hc, hR, t3, draw0, z25_eq, z25_setAll hR, repV, back, setAt_all, setAt, sub, cids_app, cmp_app]
    | true =>
      obtain ⟨x, hx, p3, s3, hS⟩ := key draw0 (by decide)
      have g3 := fun i => call_cur (rest := [.c (.str draw0), .c (.str [48, 49, 50, 32, 54, 97, 98, 47, 46])]) rfl hS i 0
      unfold draw0 at g3
      refine ⟨x, hx, ?_⟩
      simp [a18, g1, g2, g3, hi, hc, hR, t3, z25_eq, z25_setAll hR, repV, back, setAt_all, setAt, sub, cids_app, cmp_app]
  | true =>
    rw [hq] at hi
    obtain ⟨h, hl60, _⟩ := repB_facts hR hq
    have hw := call_rep (rest := []) rfl (by simp) (c_spec_l11Write R h l hl60 (digs_of hR hq) true)
    have htl : (txR R l).length ≤ 999 := by
      have := txK_len hR l l.length (Nat.le_refl _)
      unfold txR
      omega
    cases q with
    | false =>
      refine ⟨txR R l, by omega, ?_⟩
      simp [a18, g1, g2, hi, hw, hc, hR, t3, z25_eq, z25_setAll hR, repV, back, setAt_all, setAt, sub, cids_app, cmp_app]
    | true =>
      obtain ⟨x, hx, p3, s3, hS⟩ := key (txR R l) htl
      have g3 := fun i => call_cur (rest := [.c (.str (txR R l)), .c (.str [48, 49, 50, 32, 54, 97, 98, 47, 46])]) rfl hS i 0
      refine ⟨x, hx, ?_⟩
      simp [a18, g1, g2, g3, hi, hw, hc, hR, t3, z25_eq, z25_setAll hR, repV, back, setAt_all, setAt, sub, cids_app, cmp_app]
end Go.Proofs.YthpookdfaikabaaGreatDoor.AM
