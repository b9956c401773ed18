import Derived.Test.YtoaidbmkfdpagaaRacks
/- Contracts: pours of any rack at any places, layers put and taken, tubes exchanged. -/
namespace Go.Proofs.Ytoaidbmkfdpagaa.AM
open Go
set_option maxRecDepth 1000000
set_option linter.unusedSimpArgs false
set_option linter.unusedVariables false
theorem set_ints (r : List Int) (i : Nat) (c : Int) : (r.map (C.int .i64)).set i (C.int .i64 c) = (r.set i c).map (C.int .i64) := List.map_set.symm
theorem isP_place : IsP 115 placeB := c_impl_isPlace
theorem c_impl_isAt (r : List Int) (hr : r.length = 24) (xs : List Int) (hx : xs.length < 1000000) (o : Bool) : fnI pr np 157 [.agg (r.map (C.int .i64)), .c (.sl 0 0 xs.length 1)] [.cells (xs.map (C.int .i64)) o] = some (.c (.bool (okRack r && xs.all placeB)), [.cells (xs.map (C.int .i64)) o]) := by
  have h1 := callA_pure (c_rack_impl r hr) (by simp) (by simp)
  have h24 := take24 hr
  have h0 := c_impl_areAll_int isP_place xs 0 xs.length (by omega) hx o
  rw [show (xs.drop 0).take xs.length = xs by simp] at h0
  have hc := fun (G : Heap) (base : Nat) => callA_gen (F := fnI pr np) (f := 190) (args := [.c (.sl 0 0 xs.length 1), .c (.fn 115 [])]) (H := lkp (.cells (xs.map (C.int .i64)) o :: G)) (L := [0]) (by simp) (by simp) (by simp [sub]) (by simp) h0 (by simp) base
  rw [fb (fn := a157) rfl rfl]
  cases hq : okRack r with
  | false => rw [hq] at h1; simp [a157, hr, h24, h1, sub]
  | true => rw [hq] at h1; simp [a157, hr, h24, h1, hc, sub]
theorem call_isAt (r : List Int) (hr : r.length = 24) (xs : List Int) (hx : xs.length < 1000000) (i : Nat) (H : HF) (base : Nat) (hb : (H i == some (Blk.cells (xs.map (C.int .i64)) true)) = true) : callA (fnI pr np) 157 [.agg (r.map (C.int .i64)), .c (.sl i 0 xs.length 1)] H base = some (.c (.bool (okRack r && xs.all placeB)), [], [(i, .cells (xs.map (C.int .i64)) true)]) := by
  have hb : H i = some (Blk.cells (xs.map (C.int .i64)) true) := by simpa using hb
  have h := callA_gen (F := fnI pr np) (f := 157) (args := [.agg (r.map (C.int .i64)), .c (.sl i 0 xs.length 1)]) (H := H) (L := [i]) (by simp [reach, idsAt, hb]) (by simp [closed, hb, idsAt, inL]) (show sub [i] H = [.cells (xs.map (C.int .i64)) true] by simp [sub, hb]) (show _ = [.agg (r.map (C.int .i64)), .c (.sl 0 0 xs.length 1)] by simp [pos]) (c_impl_isAt r hr xs hx true) (by simp) base
  rw [h]
  simp
/-! ### pours -/
def pB (r : List Int) (i j : Int) : Bool := okRack r && (placeB i && placeB j) && canP r i.toNat j.toNat
def pR (r : List Int) (i j : Int) : List Int := if pB r i j = true then pourR r i.toNat j.toNat else List.replicate 24 0
def pN (r : List Int) (i j : Int) : Int := if pB r i j = true then (pourN r i.toNat j.toNat : Int) else 0
theorem pR_len {r : List Int} (hr : r.length = 24) (i j : Int) : (pR r i j).length = 24 := by
  unfold pR; split
  · exact pourR_len hr _ _
  · simp
def pV (r : List Int) (i j : Int) : V := .tup [.agg ((pR r i j).map (C.int .i64)), .c (.int .i64 (pN r i j)), .c (.bool (pB r i j))]
theorem c_impl_Pour (r : List Int) (hr : r.length = 24) (i j : Int) : fnI pr np 63 [.agg (r.map (C.int .i64)), .c (.int .i64 i), .c (.int .i64 j)] [] = some (pV r i j, []) := by
  have ha := call_isAt r hr [i, j] (by simp)
  have h24 := take24 hr
  rw [fb (fn := a63) rfl rfl]
  unfold pV pR pN pB
  cases hq : okRack r with
  | false => rw [hq] at ha; simp at ha; simp [a63, hr, h24, ha, setAt_all, sub]
  | true =>
    cases q1 : placeB i with
    | false => rw [hq] at ha; simp [q1] at ha; simp [a63, hr, h24, ha, setAt_all, sub]
    | true =>
      cases q2 : placeB j with
      | false => rw [hq] at ha; simp [q1, q2] at ha; simp [a63, hr, h24, ha, setAt_all, sub]
      | true =>
        obtain ⟨i', rfl, hi, ti⟩ := place_nat q1
        obtain ⟨j', rfl, hj, tj⟩ := place_nat q2
        have h := rackOK hr hq
        have hcp := callA_pure (c_impl_canPour _ h hi hj) (by simp) (by simp)
        have hp := callA_pure (c_impl_pour _ h hi hj) (by simp) (by simp)
        have hpl := pourR_len hr i' j'
        have hp24 := take24 hpl
        rw [hq] at ha
        simp [q1, q2] at ha
        cases hc : canP r i' j' with
        | false => rw [hc] at hcp; simp [a63, hr, h24, ha, hc, hcp, setAt_all, sub]
        | true => rw [hc] at hcp; simp [a63, hr, h24, ha, hc, hcp, hp, hpl, hp24, setAt_all, sub]
theorem c_spec_Pour (r : List Int) (hr : r.length = 24) (i j : Int) : fnI pr np 240 [.agg (r.map (C.int .i64)), .c (.int .i64 i), .c (.int .i64 j)] [] = some (pV r i j, []) := by
  have h0 := callA_pure (c_rack_spec r hr) (by simp) (by simp)
  have h1 := callA_pure (c_spec_l2Place i) (by simp) (by simp)
  have h2 := callA_pure (c_spec_l2Place j) (by simp) (by simp)
  have h24 := take24 hr
  rw [fb (fn := a240) rfl rfl]
  unfold pV pR pN pB
  cases hq : okRack r with
  | false => rw [hq] at h0; simp [a240, hr, h24, h0, setAt_all, sub]
  | true =>
    rw [hq] at h0
    cases q1 : placeB i with
    | false => rw [q1] at h1; simp [a240, hr, h24, h0, h1, setAt_all, sub]
    | true =>
      rw [q1] at h1
      cases q2 : placeB j with
      | false => rw [q2] at h2; simp [a240, hr, h24, h0, h1, h2, setAt_all, sub]
      | true =>
        rw [q2] at h2
        obtain ⟨i', rfl, hi, ti⟩ := place_nat q1
        obtain ⟨j', rfl, hj, tj⟩ := place_nat q2
        have h := rackOK hr hq
        have hcp := callA_pure (c_spec_l2Can _ h hi hj) (by simp) (by simp)
        have hp := callA_pure (c_spec_l2Pour _ h hi hj) (by simp) (by simp)
        have hpl := pourR_len hr i' j'
        have hp24 := take24 hpl
        cases hc : canP r i' j' with
        | false => rw [hc] at hcp; simp [a240, hr, h24, h0, h1, h2, hc, hcp, setAt_all, sub]
        | true => rw [hc] at hcp; simp [a240, hr, h24, h0, h1, h2, hc, hcp, hp, hpl, hp24, setAt_all, sub]
/-! ### one layer more -/
def colB (c : Int) : Bool := decide (1 ≤ c) && decide (c ≤ 5)
def ptB (r : List Int) (i c : Int) : Bool := okRack r && placeB i && colB c && !(layN (tubeAt r i.toNat) == 4)
def ptR (r : List Int) (i c : Int) : List Int := if ptB r i c = true then r.set (i.toNat * 4 + layN (tubeAt r i.toNat)) c else List.replicate 24 0
theorem ptR_len {r : List Int} (hr : r.length = 24) (i c : Int) : (ptR r i c).length = 24 := by
  unfold ptR; split
  · simp [hr]
  · simp
def ptV (r : List Int) (i c : Int) : V := .tup [.agg ((ptR r i c).map (C.int .i64)), .c (.bool (ptB r i c))]
theorem c_impl_PutLayer (r : List Int) (hr : r.length = 24) (i c : Int) : fnI pr np 219 [.agg (r.map (C.int .i64)), .c (.int .i64 i), .c (.int .i64 c)] [] = some (ptV r i c, []) := by
  have ha := call_isAt r hr [i] (by simp)
  have hcol := callA_pure (c_impl_isColor c) (by simp) (by simp)
  rw [show (decide (1 ≤ c) && decide (c ≤ 5)) = colB c from rfl] at hcol
  have h24 := take24 hr
  rw [fb (fn := a219) rfl rfl]
  unfold ptV ptR ptB
  cases hq : okRack r with
  | false => rw [hq] at ha; simp at ha; simp [a219, hr, h24, ha, setAt_all, sub]
  | true =>
    cases q1 : placeB i with
    | false => rw [hq] at ha; simp [q1] at ha; simp [a219, hr, h24, ha, setAt_all, sub]
    | true =>
      obtain ⟨i', rfl, hi, ti⟩ := place_nat q1
      have h := rackOK hr hq
      rw [hq] at ha
      simp [q1] at ha
      cases qc : colB c with
      | false => rw [qc] at hcol; simp [a219, hr, h24, ha, hcol, setAt_all, sub]
      | true =>
        rw [qc] at hcol
        have hl := callA_pure (c_lay _ (h.t4 hi)) (by simp) (by simp)
        have tI := cells_tube r i'
        have l4 := (h.top hi).l4
        have li : i' * 4 + 4 ≤ 24 := by omega
        have hi' : (i' : Int) < 6 := by omega
        simp only [Int.toNat_natCast]
        generalize tubeAt r i' = A at *
        generalize layN A = f at *
        by_cases hf : f = 4
        · subst hf; simp [a219, hr, h24, ha, hcol, hl, tI, li, hi, hi', setAt_all, sub]
        · have hf' : ¬ (f : Int) = 4 := by omega
          have f4 : f < 4 := by omega
          have f4' : (f : Int) < 4 := by omega
          have b1 : i' * 4 + f + 1 ≤ 24 := by omega
          obtain ⟨R, hR⟩ : ∃ R, R = r.set (i' * 4 + f) c := ⟨_, rfl⟩
          have hRl : R.length = 24 := by rw [hR]; simp [hr]
          have hs := take24 hRl
          have hset := set_ints r (i' * 4 + f) c
          rw [← hR] at hset ⊢
          simp [a219, hr, h24, ha, hcol, hl, tI, li, hi, hi', hf, hf', f4, f4', b1, hs, hset, hRl, setAt_all, setAt, sub]
theorem c_spec_PutLayer (r : List Int) (hr : r.length = 24) (i c : Int) : fnI pr np 241 [.agg (r.map (C.int .i64)), .c (.int .i64 i), .c (.int .i64 c)] [] = some (ptV r i c, []) := by
  have h0 := callA_pure (c_rack_spec r hr) (by simp) (by simp)
  have h1 := callA_pure (c_spec_l2Place i) (by simp) (by simp)
  have hcol := callA_pure (c_spec_l1In c 1 5) (by simp) (by simp)
  rw [show (decide (1 ≤ c) && decide (c ≤ 5)) = colB c from rfl] at hcol
  have h24 := take24 hr
  rw [fb (fn := a241) rfl rfl]
  unfold ptV ptR ptB
  cases hq : okRack r with
  | false => rw [hq] at h0; simp [a241, hr, h24, h0, setAt_all, sub]
  | true =>
    rw [hq] at h0
    cases q1 : placeB i with
    | false => rw [q1] at h1; simp [a241, hr, h24, h0, h1, setAt_all, sub]
    | true =>
      rw [q1] at h1
      obtain ⟨i', rfl, hi, ti⟩ := place_nat q1
      have h := rackOK hr hq
      cases qc : colB c with
      | false => rw [qc] at hcol; simp [a241, hr, h24, h0, h1, hcol, setAt_all, sub]
      | true =>
        rw [qc] at hcol
        have hl := callA_pure (c_many _ (h.t4 hi) (h.tv hi)) (by simp) (by simp)
        have tI := cells_tube r i'
        have l4 := (h.top hi).l4
        have li : i' * 4 + 4 ≤ 24 := by omega
        have hi' : (i' : Int) < 6 := by omega
        simp only [Int.toNat_natCast]
        generalize tubeAt r i' = A at *
        generalize layN A = f at *
        by_cases hf : f = 4
        · subst hf; simp [a241, hr, h24, h0, h1, hcol, hl, tI, li, hi, hi', setAt_all, sub]
        · have hf' : ¬ (f : Int) = 4 := by omega
          have f4 : f < 4 := by omega
          have f4' : (f : Int) < 4 := by omega
          have b1 : i' * 4 + f + 1 ≤ 24 := by omega
          obtain ⟨R, hR⟩ : ∃ R, R = r.set (i' * 4 + f) c := ⟨_, rfl⟩
          have hRl : R.length = 24 := by rw [hR]; simp [hr]
          have hs := take24 hRl
          have hset := set_ints r (i' * 4 + f) c
          rw [← hR] at hset ⊢
          simp [a241, hr, h24, h0, h1, hcol, hl, tI, li, hi, hi', hf, hf', f4, f4', b1, hs, hset, hRl, setAt_all, setAt, sub]
/-! ### one layer less -/
def tkB (r : List Int) (i : Int) : Bool := okRack r && placeB i && !(layN (tubeAt r i.toNat) == 0)
def tkR (r : List Int) (i : Int) : List Int := if tkB r i = true then r.set (i.toNat * 4 + (layN (tubeAt r i.toNat) - 1)) 0 else List.replicate 24 0
def tkC (r : List Int) (i : Int) : Int := if tkB r i = true then r.getD (i.toNat * 4 + (layN (tubeAt r i.toNat) - 1)) 0 else 0
theorem tkR_len {r : List Int} (hr : r.length = 24) (i : Int) : (tkR r i).length = 24 := by
  unfold tkR; split
  · simp [hr]
  · simp
def tkV (r : List Int) (i : Int) : V := .tup [.agg ((tkR r i).map (C.int .i64)), .c (.int .i64 (tkC r i)), .c (.bool (tkB r i))]
theorem c_impl_TakeLayer (r : List Int) (hr : r.length = 24) (i : Int) : fnI pr np 220 [.agg (r.map (C.int .i64)), .c (.int .i64 i)] [] = some (tkV r i, []) := by
  have ha := call_isAt r hr [i] (by simp)
  have h24 := take24 hr
  rw [fb (fn := a220) rfl rfl]
  unfold tkV tkR tkC tkB
  cases hq : okRack r with
  | false => rw [hq] at ha; simp at ha; simp [a220, hr, h24, ha, setAt_all, sub]
  | true =>
    cases q1 : placeB i with
    | false => rw [hq] at ha; simp [q1] at ha; simp [a220, hr, h24, ha, setAt_all, sub]
    | true =>
      obtain ⟨i', rfl, hi, ti⟩ := place_nat q1
      have h := rackOK hr hq
      rw [hq] at ha
      simp [q1] at ha
      have hl := callA_pure (c_lay _ (h.t4 hi)) (by simp) (by simp)
      have tI := cells_tube r i'
      have l4 := (h.top hi).l4
      have li : i' * 4 + 4 ≤ 24 := by omega
      have hi' : (i' : Int) < 6 := by omega
      simp only [Int.toNat_natCast]
      generalize tubeAt r i' = A at *
      generalize layN A = f at *
      by_cases hf : f = 0
      · subst hf; simp [a220, hr, h24, ha, hl, tI, li, hi, hi', setAt_all, sub]
      · obtain ⟨g, rfl⟩ : ∃ g, f = g + 1 := ⟨f - 1, by omega⟩
        have hf' : ¬ (g : Int) + 1 = 0 := by omega
        have w : IntKind.i64.wrap (((g + 1 : Nat) : Int) - 1) = (g : Int) := by rw [wrapI (by omega) (by omega)]; omega
        have w' : IntKind.i64.wrap (g : Int) = (g : Int) := wrapI (by omega) (by omega)
        have f4 : g < 4 := by omega
        have f4' : (g : Int) < 4 := by omega
        have b1 : i' * 4 + g + 1 ≤ 24 := by omega
        have hg := drop_take1 (c := r) (j := i' * 4 + g) (by omega)
        obtain ⟨R, hR⟩ : ∃ R, R = r.set (i' * 4 + g) 0 := ⟨_, rfl⟩
        have hRl : R.length = 24 := by rw [hR]; simp [hr]
        have hs := take24 hRl
        have hset := set_ints r (i' * 4 + g) 0
        simp only [Nat.add_sub_cancel]
        rw [← hR] at hset ⊢
        simp [a220, hr, h24, ha, hl, tI, li, hi, hi', hf', w, w', f4, f4', b1, hg, hs, hset, hRl, setAt_all, setAt, sub]
theorem c_spec_TakeLayer (r : List Int) (hr : r.length = 24) (i : Int) : fnI pr np 242 [.agg (r.map (C.int .i64)), .c (.int .i64 i)] [] = some (tkV r i, []) := by
  have h0 := callA_pure (c_rack_spec r hr) (by simp) (by simp)
  have h1 := callA_pure (c_spec_l2Place i) (by simp) (by simp)
  have h24 := take24 hr
  rw [fb (fn := a242) rfl rfl]
  unfold tkV tkR tkC tkB
  cases hq : okRack r with
  | false => rw [hq] at h0; simp [a242, hr, h24, h0, setAt_all, sub]
  | true =>
    rw [hq] at h0
    cases q1 : placeB i with
    | false => rw [q1] at h1; simp [a242, hr, h24, h0, h1, setAt_all, sub]
    | true =>
      rw [q1] at h1
      obtain ⟨i', rfl, hi, ti⟩ := place_nat q1
      have h := rackOK hr hq
      have hl := callA_pure (c_many _ (h.t4 hi) (h.tv hi)) (by simp) (by simp)
      have tI := cells_tube r i'
      have l4 := (h.top hi).l4
      have li : i' * 4 + 4 ≤ 24 := by omega
      have hi' : (i' : Int) < 6 := by omega
      simp only [Int.toNat_natCast]
      generalize tubeAt r i' = A at *
      generalize layN A = f at *
      by_cases hf : f = 0
      · subst hf; simp [a242, hr, h24, h0, h1, hl, tI, li, hi, hi', setAt_all, sub]
      · obtain ⟨g, rfl⟩ : ∃ g, f = g + 1 := ⟨f - 1, by omega⟩
        have hf' : ¬ (g : Int) + 1 = 0 := by omega
        have w : IntKind.i64.wrap (((g + 1 : Nat) : Int) - 1) = (g : Int) := by rw [wrapI (by omega) (by omega)]; omega
        have w' : IntKind.i64.wrap (g : Int) = (g : Int) := wrapI (by omega) (by omega)
        have f4 : g < 4 := by omega
        have f4' : (g : Int) < 4 := by omega
        have b1 : i' * 4 + g + 1 ≤ 24 := by omega
        have hg := drop_take1 (c := r) (j := i' * 4 + g) (by omega)
        obtain ⟨R, hR⟩ : ∃ R, R = r.set (i' * 4 + g) 0 := ⟨_, rfl⟩
        have hRl : R.length = 24 := by rw [hR]; simp [hr]
        have hs := take24 hRl
        have hset := set_ints r (i' * 4 + g) 0
        simp only [Nat.add_sub_cancel]
        rw [← hR] at hset ⊢
        simp [a242, hr, h24, h0, h1, hl, tI, li, hi, hi', hf', w, w', f4, f4', b1, hg, hs, hset, hRl, setAt_all, setAt, sub]
/-! ### tubes exchanged -/
def setI : List Int → Nat → List Int → List Int
  | r, _, [] => r
  | r, n, x :: xs => setI (r.set n x) (n + 1) xs
theorem setI_len : ∀ (xs r : List Int) (n : Nat), (setI r n xs).length = r.length
  | [], r, n => rfl
  | x :: xs, r, n => by rw [setI, setI_len xs]; simp
theorem setAt_ints : ∀ (xs r : List Int) (n : Nat), setAt (r.map (C.int .i64)) n (xs.map (C.int .i64)) = (setI r n xs).map (C.int .i64)
  | [], r, n => rfl
  | x :: xs, r, n => by
    rw [List.map_cons, setAt, setI, ← List.map_set]
    exact setAt_ints xs _ _
def swB (r : List Int) (i j : Int) : Bool := okRack r && (placeB i && placeB j)
def swT (r : List Int) (i j : Nat) : List Int := setI (setI r (i * 4) (tubeAt r j)) (j * 4) (tubeAt r i)
def swR (r : List Int) (i j : Int) : List Int := if swB r i j = true then swT r i.toNat j.toNat else List.replicate 24 0
theorem swR_len {r : List Int} (hr : r.length = 24) (i j : Int) : (swR r i j).length = 24 := by
  unfold swR; split
  · unfold swT; rw [setI_len, setI_len, hr]
  · simp
def swV (r : List Int) (i j : Int) : V := .tup [.agg ((swR r i j).map (C.int .i64)), .c (.bool (swB r i j))]
theorem c_impl_SwapTubes (r : List Int) (hr : r.length = 24) (i j : Int) : fnI pr np 221 [.agg (r.map (C.int .i64)), .c (.int .i64 i), .c (.int .i64 j)] [] = some (swV r i j, []) := by
  have ha := call_isAt r hr [i, j] (by simp)
  have h24 := take24 hr
  rw [fb (fn := a221) rfl rfl]
  unfold swV swR swB
  cases hq : okRack r with
  | false => rw [hq] at ha; simp at ha; simp [a221, hr, h24, ha, setAt_all, sub]
  | true =>
    cases q1 : placeB i with
    | false => rw [hq] at ha; simp [q1] at ha; simp [a221, hr, h24, ha, setAt_all, sub]
    | true =>
      cases q2 : placeB j with
      | false => rw [hq] at ha; simp [q1, q2] at ha; simp [a221, hr, h24, ha, setAt_all, sub]
      | true =>
        obtain ⟨i', rfl, hi, ti⟩ := place_nat q1
        obtain ⟨j', rfl, hj, tj⟩ := place_nat q2
        have h := rackOK hr hq
        rw [hq] at ha
        simp [q1, q2] at ha
        have tI := cells_tube r i'
        have tJ := cells_tube r j'
        have li : i' * 4 + 4 ≤ 24 := by omega
        have lj : j' * 4 + 4 ≤ 24 := by omega
        have hi' : (i' : Int) < 6 := by omega
        have hj' : (j' : Int) < 6 := by omega
        have L1 := h.t4 hi
        have L2 := h.t4 hj
        have hs := take24 (r := swT r i' j') (by unfold swT; rw [setI_len, setI_len, hr])
        have q1 : ((tubeAt r i').map (C.int .i64)).take 4 = (tubeAt r i').map (C.int .i64) := List.take_of_length_le (by simp [L1])
        have q2 : ((tubeAt r j').map (C.int .i64)).take 4 = (tubeAt r j').map (C.int .i64) := List.take_of_length_le (by simp [L2])
        simp only [Int.toNat_natCast]
        unfold swT at hs ⊢
        generalize tubeAt r i' = A at *
        generalize tubeAt r j' = B at *
        simp [a221, hr, h24, ha, tI, tJ, li, lj, hi, hj, hi', hj', L1, L2, q1, q2, setAt_all, setAt_ints, setI_len, hs, idOf, stillE, madeA, sub]
theorem c_spec_SwapTubes (r : List Int) (hr : r.length = 24) (i j : Int) : fnI pr np 243 [.agg (r.map (C.int .i64)), .c (.int .i64 i), .c (.int .i64 j)] [] = some (swV r i j, []) := by
  have h0 := callA_pure (c_rack_spec r hr) (by simp) (by simp)
  have h1 := callA_pure (c_spec_l2Place i) (by simp) (by simp)
  have h2 := callA_pure (c_spec_l2Place j) (by simp) (by simp)
  have h24 := take24 hr
  rw [fb (fn := a243) rfl rfl]
  unfold swV swR swB
  cases hq : okRack r with
  | false => rw [hq] at h0; simp [a243, hr, h24, h0, setAt_all, sub]
  | true =>
    rw [hq] at h0
    cases q1 : placeB i with
    | false => rw [q1] at h1; simp [a243, hr, h24, h0, h1, setAt_all, sub]
    | true =>
      rw [q1] at h1
      cases q2 : placeB j with
      | false => rw [q2] at h2; simp [a243, hr, h24, h0, h1, h2, setAt_all, sub]
      | true =>
        rw [q2] at h2
        obtain ⟨i', rfl, hi, ti⟩ := place_nat q1
        obtain ⟨j', rfl, hj, tj⟩ := place_nat q2
        have h := rackOK hr hq
        have tI := cells_tube r i'
        have tJ := cells_tube r j'
        have li : i' * 4 + 4 ≤ 24 := by omega
        have lj : j' * 4 + 4 ≤ 24 := by omega
        have hi' : (i' : Int) < 6 := by omega
        have hj' : (j' : Int) < 6 := by omega
        have L1 := h.t4 hi
        have L2 := h.t4 hj
        have hs := take24 (r := swT r i' j') (by unfold swT; rw [setI_len, setI_len, hr])
        have q1 : ((tubeAt r i').map (C.int .i64)).take 4 = (tubeAt r i').map (C.int .i64) := List.take_of_length_le (by simp [L1])
        have q2 : ((tubeAt r j').map (C.int .i64)).take 4 = (tubeAt r j').map (C.int .i64) := List.take_of_length_le (by simp [L2])
        simp only [Int.toNat_natCast]
        unfold swT at hs ⊢
        generalize tubeAt r i' = A at *
        generalize tubeAt r j' = B at *
        simp [a243, hr, h24, h0, h1, h2, tI, tJ, li, lj, hi, hj, hi', hj', L1, L2, q1, q2, setAt_all, setAt_ints, setI_len, hs, idOf, stillE, madeA, sub]
end Go.Proofs.Ytoaidbmkfdpagaa.AM
