import Derived.Test.YtafphbegpjjolaaRacks
/- Contracts: pours of any rack at any places, layers put and taken, tubes exchanged. -/
namespace Go.Proofs.Ytafphbegpjjolaa.AM
open Go
set_option maxRecDepth 1000000
set_option linter.unusedSimpArgs false
set_option linter.unusedVariables false
theorem set_ints (r : List Int) (i : Nat) (c : Int) : (r.map (C.int .i64)).set i (C.int .i64 c) = (r.set i c).map (C.int .i64) := List.map_set.symm
theorem isP_place : IsP 87 placeB := c_impl_isPlace
theorem c_impl_isAt (r : List Int) (hr : r.length = 24) (xs : List Int) (hx : xs.length < 1000000) (o : Bool) : fnI pr np 53 [.agg (r.map (C.int .i64)), .c (.sl 0 0 xs.length 1)] [.cells (xs.map (C.int .i64)) o] = some (.c (.bool (okRack r && xs.all placeB)), [.cells (xs.map (C.int .i64)) o]) := by
  have h1 := callA_pure (c_rack_impl r hr) (by simp) (by simp)
  have h24 := take24 hr
  have h0 := c_impl_areAll_int isP_place xs 0 xs.length (by omega) hx o
  rw [show (xs.drop 0).take xs.length = xs by simp] at h0
  have hc := fun (G : Heap) (base : Nat) => callA_gen (F := fnI pr np) (f := 86) (args := [.c (.sl 0 0 xs.length 1), .c (.fn 87 [])]) (H := lkp (.cells (xs.map (C.int .i64)) o :: G)) (L := [0]) (by simp) (by simp) (by simp [sub]) (by simp) h0 (by simp) base
  rw [fb (fn := a53) rfl rfl]
  cases hq : okRack r with
  | false => rw [hq] at h1; simp [a53, hr, h24, h1, sub]
  | true => rw [hq] at h1; simp [a53, hr, h24, h1, hc, sub]
theorem call_isAt (r : List Int) (hr : r.length = 24) (xs : List Int) (hx : xs.length < 1000000) (i : Nat) (H : HF) (base : Nat) (hb : (H i == some (Blk.cells (xs.map (C.int .i64)) true)) = true) : callA (fnI pr np) 53 [.agg (r.map (C.int .i64)), .c (.sl i 0 xs.length 1)] H base = some (.c (.bool (okRack r && xs.all placeB)), [], [(i, .cells (xs.map (C.int .i64)) true)]) := by
  have hb : H i = some (Blk.cells (xs.map (C.int .i64)) true) := by simpa using hb
  have h := callA_gen (F := fnI pr np) (f := 53) (args := [.agg (r.map (C.int .i64)), .c (.sl i 0 xs.length 1)]) (H := H) (L := [i]) (by simp [reach, idsAt, hb]) (by simp [closed, hb, idsAt, inL]) (show sub [i] H = [.cells (xs.map (C.int .i64)) true] by simp [sub, hb]) (show _ = [.agg (r.map (C.int .i64)), .c (.sl 0 0 xs.length 1)] by simp [pos]) (c_impl_isAt r hr xs hx true) (by simp) base
  rw [h]
  simp
/-! ### pours -/
def pB (r : List Int) (i j : Int) : Bool := okRack r && (placeB i && placeB j) && canP r i.toNat j.toNat
def pR (r : List Int) (i j : Int) : List Int := if pB r i j = true then pourR r i.toNat j.toNat else List.replicate 24 0
def pN (r : List Int) (i j : Int) : Int := if pB r i j = true then (pourN r i.toNat j.toNat : Int) else 0
theorem pR_len {r : List Int} (hr : r.length = 24) (i j : Int) : (pR r i j).length = 24 := by
  unfold pR; split
  · exact pourR_len hr _ _
  · simp
def pV (r : List Int) (i j : Int) : V := .tup [.agg ((pR r i j).map (C.int .i64)), .c (.int .i64 (pN r i j)), .c (.bool (pB r i j))]
theorem c_impl_Pour (r : List Int) (hr : r.length = 24) (i j : Int) : fnI pr np 23 [.agg (r.map (C.int .i64)), .c (.int .i64 i), .c (.int .i64 j)] [] = some (pV r i j, []) := by
  have ha := call_isAt r hr [i, j] (by simp)
  have h24 := take24 hr
  rw [fb (fn := a23) rfl rfl]
  unfold pV pR pN pB
  cases hq : okRack r with
  | false => rw [hq] at ha; simp at ha; simp [a23, hr, h24, ha, setAt_all, sub]
  | true =>
    cases q1 : placeB i with
    | false => rw [hq] at ha; simp [q1] at ha; simp [a23, hr, h24, ha, setAt_all, sub]
    | true =>
      cases q2 : placeB j with
      | false => rw [hq] at ha; simp [q1, q2] at ha; simp [a23, hr, h24, ha, setAt_all, sub]
      | true =>
        obtain ⟨i', rfl, hi, ti⟩ := place_nat q1
        obtain ⟨j', rfl, hj, tj⟩ := place_nat q2
        have h := rackOK hr hq
        have hcp := callA_pure (c_impl_canPour _ h hi hj) (by simp) (by simp)
        have hp := callA_pure (c_impl_pour _ h hi hj) (by simp) (by simp)
        have hpl := pourR_len hr i' j'
        have hp24 := take24 hpl
        rw [hq] at ha
        simp [q1, q2] at ha
        cases hc : canP r i' j' with
        | false => rw [hc] at hcp; simp [a23, hr, h24, ha, hc, hcp, setAt_all, sub]
        | true => rw [hc] at hcp; simp [a23, hr, h24, ha, hc, hcp, hp, hpl, hp24, setAt_all, sub]
/-! ### one layer more -/
def colB (c : Int) : Bool := decide (1 ≤ c) && decide (c ≤ 5)
def ptB (r : List Int) (i c : Int) : Bool := okRack r && placeB i && colB c && !(layN (tubeAt r i.toNat) == 4)
def ptR (r : List Int) (i c : Int) : List Int := if ptB r i c = true then r.set (i.toNat * 4 + layN (tubeAt r i.toNat)) c else List.replicate 24 0
theorem ptR_len {r : List Int} (hr : r.length = 24) (i c : Int) : (ptR r i c).length = 24 := by
  unfold ptR; split
  · simp [hr]
  · simp
def ptV (r : List Int) (i c : Int) : V := .tup [.agg ((ptR r i c).map (C.int .i64)), .c (.bool (ptB r i c))]
/-! ### one layer less -/
def tkB (r : List Int) (i : Int) : Bool := okRack r && placeB i && !(layN (tubeAt r i.toNat) == 0)
def tkR (r : List Int) (i : Int) : List Int := if tkB r i = true then r.set (i.toNat * 4 + (layN (tubeAt r i.toNat) - 1)) 0 else List.replicate 24 0
def tkC (r : List Int) (i : Int) : Int := if tkB r i = true then r.getD (i.toNat * 4 + (layN (tubeAt r i.toNat) - 1)) 0 else 0
theorem tkR_len {r : List Int} (hr : r.length = 24) (i : Int) : (tkR r i).length = 24 := by
  unfold tkR; split
  · simp [hr]
  · simp
def tkV (r : List Int) (i : Int) : V := .tup [.agg ((tkR r i).map (C.int .i64)), .c (.int .i64 (tkC r i)), .c (.bool (tkB r i))]
/-! ### tubes exchanged -/
def setI : List Int → Nat → List Int → List Int
  | r, _, [] => r
  | r, n, x :: xs => setI (r.set n x) (n + 1) xs
theorem setI_len : ∀ (xs r : List Int) (n : Nat), (setI r n xs).length = r.length
  | [], r, n => rfl
  | x :: xs, r, n => by rw [setI, setI_len xs]; simp
theorem setAt_ints : ∀ (xs r : List Int) (n : Nat), setAt (r.map (C.int .i64)) n (xs.map (C.int .i64)) = (setI r n xs).map (C.int .i64)
  | [], r, n => rfl
  | x :: xs, r, n => by
    rw [List.map_cons, setAt, setI, ← List.map_set]
    exact setAt_ints xs _ _
def swB (r : List Int) (i j : Int) : Bool := okRack r && (placeB i && placeB j)
def swT (r : List Int) (i j : Nat) : List Int := setI (setI r (i * 4) (tubeAt r j)) (j * 4) (tubeAt r i)
def swR (r : List Int) (i j : Int) : List Int := if swB r i j = true then swT r i.toNat j.toNat else List.replicate 24 0
theorem swR_len {r : List Int} (hr : r.length = 24) (i j : Int) : (swR r i j).length = 24 := by
  unfold swR; split
  · unfold swT; rw [setI_len, setI_len, hr]
  · simp
def swV (r : List Int) (i j : Int) : V := .tup [.agg ((swR r i j).map (C.int .i64)), .c (.bool (swB r i j))]
end Go.Proofs.Ytafphbegpjjolaa.AM
