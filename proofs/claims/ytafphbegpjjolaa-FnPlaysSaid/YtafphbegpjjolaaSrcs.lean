import Derived.Test.YtafphbegpjjolaaBack
/- Contracts: all pours that can be poured back, in the reference. -/
namespace Go.Proofs.Ytafphbegpjjolaa.AM
open Go
set_option maxRecDepth 1000000
set_option linter.unusedSimpArgs false
set_option linter.unusedVariables false
def okQ (r : List Int) (n : Nat) : Bool := bkB r ((n / 24 : Nat) : Int) ((n / 4 % 6 : Nat) : Int) ((n % 4 + 1 : Nat) : Int)
def srcTo (r : List Int) : Nat → List (Int × Int × Int)
  | 0 => []
  | n + 1 => if okQ r n = true then srcTo r n ++ [(((n / 24 : Nat) : Int), ((n / 4 % 6 : Nat) : Int), ((n % 4 + 1 : Nat) : Int))] else srcTo r n
theorem srcTo_len (r : List Int) : ∀ n, (srcTo r n).length ≤ n
  | 0 => by simp [srcTo]
  | n + 1 => by
    have := srcTo_len r n
    rw [srcTo]
    split
    · simp; omega
    · omega
def triC (l : List (Int × Int × Int)) : List C := l.flatMap fun t => [C.int .i64 t.1, C.int .i64 t.2.1, C.int .i64 t.2.2]
@[simp] theorem triC_len (l : List (Int × Int × Int)) : (triC l).length = l.length * 3 := by
  induction l with
  | nil => rfl
  | cons t l ih => show (_ :: _ :: _ :: triC l).length = _; simp only [List.length_cons, ih]; omega
@[simp] theorem triC_ids (l : List (Int × Int × Int)) : cids (triC l) = [] := by
  induction l with
  | nil => rfl
  | cons t l ih => exact ih
theorem triC_app (a b : List (Int × Int × Int)) : triC (a ++ b) = triC a ++ triC b := by simp [triC]
@[simp] theorem triC_cmp (g : Nat → Nat) (l : List (Int × Int × Int)) : cmp g (triC l) = triC l := cmp_pure (triC_ids l)
theorem triC_get (l : List (Int × Int × Int)) {k : Nat} (hk : k < l.length) : ((triC l).drop (k * 3)).take 3 = [C.int .i64 (l[k]'hk).1, C.int .i64 (l[k]'hk).2.1, C.int .i64 (l[k]'hk).2.2] := by
  induction l generalizing k with
  | nil => simp at hk
  | cons t l ih =>
    cases k with
    | zero => rfl
    | succ k =>
      have hk' : k < l.length := by simpa using hk
      have e : (k + 1) * 3 = k * 3 + 1 + 1 + 1 := by omega
      rw [e]
      show ((_ :: _ :: _ :: triC l).drop (k * 3 + 1 + 1 + 1)).take 3 = _
      rw [List.drop_succ_cons, List.drop_succ_cons, List.drop_succ_cons, ih hk']
      rfl
set_option maxHeartbeats 8000000 in
theorem c_spec_l5Sources (r : List Int) (h : RackOK r) : ∃ l : List (Int × Int × Int), l.length ≤ 144 ∧ fnI pr np 57 [.agg (r.map (C.int .i64))] [] = some (.c (.sl 0 0 l.length 3), [.cells (triC l) true]) := by
  have hr := h.len
  have h24 := take24 hr
  refine ⟨srcTo r 144, srcTo_len r 144, ?_⟩
  rw [fb (fn := a57) rfl rfl]
  simp [a57, hr, h24]
  rw [loop_to (fun i => ([(1, V.c (C.ptr 0 0)), (3, V.c (C.sl 1 0 (srcTo r (i * 24)).length 3)), (4, V.c (C.int .i64 i))], [Blk.cells (r.map (C.int .i64)) true, Blk.cells (triC (srcTo r (i * 24))) true])) 6]
  · simp [sub]
  · simp [srcTo, triC, sub]
  · intro i hi
    have hi' : (i : Int) < 6 := by omega
    have wi := wrapS (k := i) (by omega)
    simp [hi, hi', hr, h24]
    rw [loop_to (fun j => ([(1, V.c (C.ptr 0 0)), (3, V.c (C.sl 1 0 (srcTo r (i * 24 + j * 4)).length 3)), (4, V.c (C.int .i64 i)), (5, V.c (C.int .i64 j))], [Blk.cells (r.map (C.int .i64)) true, Blk.cells (triC (srcTo r (i * 24 + j * 4))) true])) 6]
    · have e : (i + 1) * 24 = i * 24 + 24 := by omega
      simp [e, wi, sub]
    · simp [sub]
    · intro j hj
      have hj' : (j : Int) < 6 := by omega
      have wj := wrapS (k := j) (by omega)
      simp [hj, hj', hr, h24]
      rw [loop_to (fun k => ([(1, V.c (C.ptr 0 0)), (3, V.c (C.sl 1 0 (srcTo r (i * 24 + j * 4 + k)).length 3)), (4, V.c (C.int .i64 i)), (5, V.c (C.int .i64 j)), (6, V.c (C.int .i64 ((k + 1 : Nat) : Int)))], [Blk.cells (r.map (C.int .i64)) true, Blk.cells (triC (srcTo r (i * 24 + j * 4 + k))) true])) 4]
      · have e : i * 24 + (j + 1) * 4 = i * 24 + j * 4 + 4 := by omega
        simp [e, wj, sub]
      · simp [sub]
      · intro k hk
        have hk1 : (k : Int) + 1 ≤ 4 := by omega
        have wk : IntKind.i64.wrap ((k : Int) + 1 + 1) = (k : Int) + 1 + 1 := wrapI (by omega) (by omega)
        have hb := c_spec_l5Back r h i j ((k : Int) + 1)
        unfold bkW at hb
        have hb := callA_pure hb (by simp) (by simp)
        have hY := bkY_len hr (i : Int) (j : Int) ((k : Int) + 1)
        have y24 := take24 hY
        have hst : srcTo r (i * 24 + j * 4 + k + 1) = if bkB r i j ((k : Int) + 1) = true then srcTo r (i * 24 + j * 4 + k) ++ [((i : Int), (j : Int), (k : Int) + 1)] else srcTo r (i * 24 + j * 4 + k) := by
          rw [srcTo]
          unfold okQ
          rw [show (i * 24 + j * 4 + k) / 24 = i by omega, show (i * 24 + j * 4 + k) / 4 % 6 = j by omega, show (i * 24 + j * 4 + k) % 4 + 1 = k + 1 by omega]
          rfl
        have hl := srcTo_len r (i * 24 + j * 4 + k)
        rw [show i * 24 + j * 4 + (k + 1) = i * 24 + j * 4 + k + 1 by omega]
        generalize bkY r i j ((k : Int) + 1) = Y at *
        generalize bkB r i j ((k : Int) + 1) = q at *
        generalize srcTo r (i * 24 + j * 4 + k + 1) = L' at *
        generalize srcTo r (i * 24 + j * 4 + k) = L at *
        have htk : (triC L).take (L.length * 3) = triC L := List.take_of_length_le (by rw [triC_len]; exact Nat.le_refl _)
        cases q with
        | false =>
          simp at hst
          subst hst
          simp [hk1, wk, hb, hr, h24, hY, y24, setAt_all, setAt, sub]
        | true =>
          rw [if_pos rfl] at hst
          have hfl : triC L ++ [C.int .i64 i, C.int .i64 j, C.int .i64 ((k : Int) + 1)] = triC L' := by rw [hst, triC_app]; rfl
          have hln : L.length + 1 = L'.length := by rw [hst]; simp
          have hroom : L.length + 1 ≤ 68719476736 := by omega
          have hroom' : L'.length ≤ 68719476736 := by omega
          simp [hk1, wk, hb, hr, h24, hY, y24, htk, hfl, hln, hroom, hroom', setAt_all, setAt, sub]
end Go.Proofs.Ytafphbegpjjolaa.AM
