import Derived.Test.YtcnlkmooifoljaaDoorRepDefs
/- Contracts: the racks of a replay. -/
namespace Go.Proofs.YtcnlkmooifoljaaDoor.AM
open Go
set_option maxRecDepth 1000000
set_option linter.unusedSimpArgs false
set_option linter.unusedVariables false
def placeB (a : Int) : Bool := decide (0 ≤ a) && decide (a ≤ 5)
def canZ (r : List Int) (p : Int × Int) : Bool := placeB p.1 && placeB p.2 && canP r p.1.toNat p.2.toNat
def pourZ (r : List Int) (p : Int × Int) : List Int := pourR r p.1.toNat p.2.toNat
def rackF (r : List Int) (l : List (Int × Int)) : List Int := l.foldl pourZ r
def outI (r : List Int) (l : List (Int × Int)) (k : Nat) : List Int := (List.range (k + 1)).flatMap fun j => rackF r (l.take j)
def canAt (r : List Int) (l : List (Int × Int)) (k : Nat) : Bool := canZ (rackF r (l.take k)) (l.getD k (0, 0))
def allCan (r : List Int) (l : List (Int × Int)) : Bool := (List.range l.length).all (canAt r l)
/-- a valid replay -/
def repB (r : List Int) (l : List (Int × Int)) : Bool := okRack r && decide (l.length ≤ 60) && allCan r l
theorem pourZ_len {r : List Int} (hr : r.length = 24) (p : Int × Int) : (pourZ r p).length = 24 := pourR_len hr _ _
theorem rackF_len {r : List Int} (hr : r.length = 24) : ∀ (l : List (Int × Int)), (rackF r l).length = 24 := by
  intro l
  induction l generalizing r with
  | nil => exact hr
  | cons p l ih => exact ih (pourZ_len hr p)
theorem rackF_succ (r : List Int) {l : List (Int × Int)} {k : Nat} (hk : k < l.length) : rackF r (l.take (k + 1)) = pourZ (rackF r (l.take k)) (l[k]'hk) := by
  unfold rackF
  rw [take_snoc hk, List.foldl_append]
  rfl
theorem outI_zero (r : List Int) (l : List (Int × Int)) : outI r l 0 = r := by simp [outI, rackF]
theorem outI_succ (r : List Int) (l : List (Int × Int)) (k : Nat) : outI r l (k + 1) = outI r l k ++ rackF r (l.take (k + 1)) := by
  unfold outI
  rw [List.range_succ (n := k + 1), List.flatMap_append]
  simp
theorem outI_len {r : List Int} (hr : r.length = 24) (l : List (Int × Int)) : ∀ k, (outI r l k).length = (k + 1) * 24
  | 0 => by rw [outI_zero, hr]
  | k + 1 => by rw [outI_succ, List.length_append, outI_len hr l k, rackF_len hr]; omega
theorem outI_get {r : List Int} (hr : r.length = 24) (l : List (Int × Int)) : ∀ (k : Nat) {j : Nat}, j ≤ k → ((outI r l k).drop (j * 24)).take 24 = rackF r (l.take j)
  | 0, j, hj => by
    have : j = 0 := by omega
    subst this
    rw [outI_zero]
    simp [rackF, List.take_of_length_le (show r.length ≤ 24 by omega)]
  | k + 1, j, hj => by
    have hl := outI_len hr l k
    rw [outI_succ]
    by_cases h : j = k + 1
    · subst h
      rw [List.drop_append, hl, List.drop_of_length_le (by omega), Nat.sub_self]
      simp [List.take_of_length_le (show (rackF r (l.take (k + 1))).length ≤ 24 by rw [rackF_len hr]; omega)]
    · have hj' : j ≤ k := by omega
      rw [List.drop_append_of_le_length (by omega), List.take_append_of_le_length (by simp; omega)]
      exact outI_get hr l k hj'
theorem outC_get {r : List Int} (hr : r.length = 24) (l : List (Int × Int)) (k : Nat) {j : Nat} (hj : j ≤ k) : (((outI r l k).map (C.int .i64)).drop (j * 24)).take 24 = (rackF r (l.take j)).map (C.int .i64) := by
  rw [← outI_get hr l k hj, List.map_take, List.map_drop]
theorem canAt_eq (r : List Int) {l : List (Int × Int)} {k : Nat} (hk : k < l.length) : canAt r l k = canZ (rackF r (l.take k)) (l[k]'hk) := by
  unfold canAt
  rw [List.getD_eq_getElem?_getD, List.getElem?_eq_getElem hk]
  rfl
theorem canZ_facts {r : List Int} {p : Int × Int} (h : canZ r p = true) : ∃ i j : Nat, p.1 = (i : Int) ∧ p.2 = (j : Int) ∧ i < 6 ∧ j < 6 ∧ canP r i j = true ∧ p.1.toNat = i ∧ p.2.toNat = j := by
  simp only [canZ, placeB, Bool.and_eq_true, decide_eq_true_eq] at h
  exact ⟨p.1.toNat, p.2.toNat, by omega, by omega, by omega, by omega, h.2, rfl, rfl⟩
theorem rackF_ok {r : List Int} (h : RackOK r) (l : List (Int × Int)) : ∀ k, k ≤ l.length → (∀ j, j < k → canAt r l j = true) → RackOK (rackF r (l.take k))
  | 0, _, _ => by simpa [rackF] using h
  | k + 1, hk, hc => by
    have ih := rackF_ok h l k (by omega) fun j hj => hc j (by omega)
    have hck := hc k (by omega)
    rw [canAt_eq r (by omega)] at hck
    obtain ⟨i, j, _, _, hi, hj, hcan, e1, e2⟩ := canZ_facts hck
    rw [rackF_succ r (by omega)]
    unfold pourZ
    rw [e1, e2]
    exact ih.pour hi hj (canP_ne hcan)
theorem c_impl_isPlace (a : Int) : fnI pr np 47 [.c (.int .i64 a)] [] = some (.c (.bool (placeB a)), []) := by
  have hc := callA_pure (c_impl_within a 0 5) (by simp) (by simp)
  rw [fb (fn := a47) rfl rfl rfl]
  simp [a47, hc, placeB]
theorem c_spec_l2Place (a : Int) : fnI pr np 40 [.c (.int .i64 a)] [] = some (.c (.bool (placeB a)), []) := by
  have hc := callA_pure (c_spec_l1In a 0 5) (by simp) (by simp)
  rw [fb (fn := a40) rfl rfl rfl]
  simp [a40, hc, placeB]
theorem place_nat {a : Int} (h : placeB a = true) : ∃ i : Nat, a = (i : Int) ∧ i < 6 ∧ a.toNat = i := by
  simp only [placeB, Bool.and_eq_true, decide_eq_true_eq] at h
  exact ⟨a.toNat, by omega, by omega, rfl⟩
theorem c_impl_canPourPath (r : List Int) (h : RackOK r) (p : Int × Int) : fnI pr np 33 [.agg (r.map (C.int .i64)), .agg [.int .i64 p.1, .int .i64 p.2]] [] = some (.c (.bool (canZ r p)), []) := by
  have hr := h.len
  have h24 := take24 hr
  have h1 := callA_pure (c_impl_isPlace p.1) (by simp) (by simp)
  have h2 := callA_pure (c_impl_isPlace p.2) (by simp) (by simp)
  rw [fb (fn := a33) rfl rfl rfl]
  unfold canZ
  cases q1 : placeB p.1 with
  | false => rw [q1] at h1; simp [a33, hr, h24, h1]
  | true =>
    rw [q1] at h1
    cases q2 : placeB p.2 with
    | false => rw [q2] at h2; simp [a33, hr, h24, h1, h2]
    | true =>
      rw [q2] at h2
      obtain ⟨i, ei, hi, ti⟩ := place_nat q1
      obtain ⟨j, ej, hj, tj⟩ := place_nat q2
      have hc := callA_pure (c_impl_canPour r h hi hj) (by simp) (by simp)
      rw [ei] at h1; rw [ej] at h2
      simp [a33, hr, h24, h1, h2, ei, ej, hc]
theorem c_spec_l6Can (r : List Int) (h : RackOK r) (p : Int × Int) : fnI pr np 29 [.agg (r.map (C.int .i64)), .agg [.int .i64 p.1, .int .i64 p.2]] [] = some (.c (.bool (canZ r p)), []) := by
  have hr := h.len
  have h24 := take24 hr
  have h1 := callA_pure (c_spec_l2Place p.1) (by simp) (by simp)
  have h2 := callA_pure (c_spec_l2Place p.2) (by simp) (by simp)
  rw [fb (fn := a29) rfl rfl rfl]
  unfold canZ
  cases q1 : placeB p.1 with
  | false => rw [q1] at h1; simp [a29, hr, h24, h1]
  | true =>
    rw [q1] at h1
    cases q2 : placeB p.2 with
    | false => rw [q2] at h2; simp [a29, hr, h24, h1, h2]
    | true =>
      rw [q2] at h2
      obtain ⟨i, ei, hi, ti⟩ := place_nat q1
      obtain ⟨j, ej, hj, tj⟩ := place_nat q2
      have hc := callA_pure (c_spec_l2Can r h hi hj) (by simp) (by simp)
      rw [ei] at h1; rw [ej] at h2
      simp [a29, hr, h24, h1, h2, ei, ej, hc]
/-- the answer of racks: the racks behind each pour, or none -/
def racksV (r : List Int) (l : List (Int × Int)) (o : Bool) : V × Heap :=
  if repB r l = true then (.tup [.c (.sl 1 0 (l.length + 1) 24), .c (.bool true)], [.cells (cZ l) o, .cells ((outI r l l.length).map (C.int .i64)) true])
  else (.tup [.c (.sl 1 0 0 24), .c (.bool false)], [.cells (cZ l) o, .cells [] true])
theorem gt60 {n : Nat} (h : n ≤ 60) : ¬ (60 : Int) < (n : Int) := by omega
set_option maxHeartbeats 4000000 in
theorem c_impl_racks (r : List Int) (hr : r.length = 24) (l : List (Int × Int)) (o : Bool) : fnI pr np 23 [repV r 0 l.length] [.cells (cZ l) o] = some (racksV r l o) := by
  have h1 := callA_pure (c_rack_impl r hr) (by simp) (by simp)
  have t1 := repC_take hr (C.sl 0 0 l.length 2)
  have t2 := repC_drop hr (C.sl 0 0 l.length 2)
  rw [fb (fn := a23) rfl rfl rfl]
  unfold racksV repB repV
  cases hq : okRack r with
  | false => rw [hq] at h1; simp [a23, hr, t1, t2, h1, sub]
  | true =>
    rw [hq] at h1
    by_cases hl : l.length ≤ 60
    · have hl' := gt60 hl
      have h := rackOK hr hq
      have h24 := take24 hr
      obtain ⟨K, hK1, hK2, hK3⟩ := first_exit (fun k => !canAt r l k) l.length
      have hgood : ∀ j, j < K → canAt r l j = true := fun j hj => by simpa using hK3 j hj
      simp [a23, hr, t1, t2, h1, hl, hl', h24, setAt_all]
      rw [loop_to (fun k => ([(4, V.c (C.sl 1 0 (k + 1) 24)), (23, V.c (C.sl 0 0 l.length 2)), (24, V.c (C.int .i64 l.length)), (25, V.c (C.int .i64 k))], [Blk.cells (cZ l) o, Blk.cells ((outI r l k).map (C.int .i64)) true])) K]
      · by_cases hk : K < l.length
        · have hbad : canAt r l K = false := by
            rcases hK2 with e | e
            · omega
            · simpa using e
          have hall : allCan r l = false := by
            unfold allCan
            rw [List.all_eq_false]
            exact ⟨K, List.mem_range.2 hk, by simp [hbad]⟩
          have hro := rackF_ok h l K (by omega) hgood
          rw [canAt_eq r hk] at hbad
          have hc := callA_pure (c_impl_canPourPath _ hro (l[K]'hk)) (by simp) (by simp)
          rw [hbad] at hc
          have g := cZ_get l hk
          have g2 := outC_get hr l K (Nat.le_refl K)
          have hol := outI_len hr l K
          have b1 : K * 2 + 2 ≤ l.length * 2 := by omega
          have b2 : K * 24 + 24 ≤ (K + 1) * 24 := by omega
          have b3 : (K : Int) < (K : Int) + 1 := by omega
          simp [hk, hall, g, g2, hol, b1, b2, b3, hc, sub]
        · have hKe : K = l.length := by omega
          subst hKe
          have hall : allCan r l = true := by
            unfold allCan
            rw [List.all_eq_true]
            exact fun j hj => hgood j (by simpa using hj)
          simp [hall, sub]
      · simp [outI_zero, sub]
      · intro k hk
        have hkl : k < l.length := by omega
        have hro := rackF_ok h l k (by omega) fun j hj => hgood j (by omega)
        have hgk := hgood k hk
        rw [canAt_eq r hkl] at hgk
        have hc := callA_pure (c_impl_canPourPath _ hro (l[k]'hkl)) (by simp) (by simp)
        rw [hgk] at hc
        obtain ⟨i, j, ei, ej, hi, hj, hcan, ti, tj⟩ := canZ_facts hgk
        have hp := callA_pure (c_impl_pour _ hro hi hj) (by simp) (by simp)
        have hst : rackF r (l.take (k + 1)) = pourR (rackF r (l.take k)) i j := by rw [rackF_succ r hkl]; unfold pourZ; rw [ti, tj]
        have hos := outI_succ r l k
        rw [hst] at hos
        have g := cZ_get l hkl
        have g2 := outC_get hr l k (Nat.le_refl k)
        have hol := outI_len hr l k
        have b1 : k * 2 + 2 ≤ l.length * 2 := by omega
        have b2 : k * 24 + 24 ≤ (k + 1) * 24 := by omega
        have b3 : (k : Int) < (k : Int) + 1 := by omega
        have wk := wrapS (k := k) (by omega)
        have hpl := pourR_len (rackF_len hr (l.take k)) i j
        have hp24 := take24 hpl
        have htk : ((outI r l k).map (C.int .i64)).take ((k + 1) * 24) = (outI r l k).map (C.int .i64) := List.take_of_length_le (by simp [hol])
        have hroom : k + 1 + 1 ≤ 68719476736 := by omega
        rw [ei, ej] at g hc
        simp [hkl, g, g2, hol, b1, b2, b3, hc, hp, wk, hpl, hp24, htk, hroom, setAt_all, setAt, hos, sub]
    · have hl' : (60 : Int) < (l.length : Int) := by omega
      simp [a23, hr, t1, t2, h1, hl, hl', sub]
set_option maxHeartbeats 4000000 in
theorem c_spec_l11Racks (r : List Int) (hr : r.length = 24) (l : List (Int × Int)) (o : Bool) : fnI pr np 18 [repV r 0 l.length] [.cells (cZ l) o] = some (racksV r l o) := by
  have h1 := callA_pure (c_rack_spec r hr) (by simp) (by simp)
  have t1 := repC_take hr (C.sl 0 0 l.length 2)
  have t2 := repC_drop hr (C.sl 0 0 l.length 2)
  rw [fb (fn := a18) rfl rfl rfl]
  unfold racksV repB repV
  cases hq : okRack r with
  | false => rw [hq] at h1; simp [a18, hr, t1, t2, h1, sub]
  | true =>
    rw [hq] at h1
    by_cases hl : l.length ≤ 60
    · have hl' := gt60 hl
      have h := rackOK hr hq
      have h24 := take24 hr
      obtain ⟨K, hK1, hK2, hK3⟩ := first_exit (fun k => !canAt r l k) l.length
      have hgood : ∀ j, j < K → canAt r l j = true := fun j hj => by simpa using hK3 j hj
      simp [a18, hr, t1, t2, h1, hl, hl', h24, setAt_all]
      rw [loop_to (fun k => ([(1, V.c (C.ptr 1 0)), (4, V.c (C.sl 2 0 (k + 1) 24)), (5, V.c (C.int .i64 k))], [Blk.cells (cZ l) o, Blk.cells (r.map (C.int .i64) ++ [C.sl 0 0 l.length 2]) true, Blk.cells ((outI r l k).map (C.int .i64)) true])) K]
      · by_cases hk : K < l.length
        · have hbad : canAt r l K = false := by
            rcases hK2 with e | e
            · omega
            · simpa using e
          have hall : allCan r l = false := by
            unfold allCan
            rw [List.all_eq_false]
            exact ⟨K, List.mem_range.2 hk, by simp [hbad]⟩
          have hro := rackF_ok h l K (by omega) hgood
          rw [canAt_eq r hk] at hbad
          have hc := callA_pure (c_spec_l6Can _ hro (l[K]'hk)) (by simp) (by simp)
          rw [hbad] at hc
          have g := cZ_get l hk
          have g2 := outC_get hr l K (Nat.le_refl K)
          have hol := outI_len hr l K
          have b1 : K * 2 + 2 ≤ l.length * 2 := by omega
          have b2 : K * 24 + 24 ≤ (K + 1) * 24 := by omega
          have b3 : (K : Int) < (K : Int) + 1 := by omega
          simp [hk, hall, hr, t2, g, g2, hol, b1, b2, b3, hc, sub]
        · have hKe : K = l.length := by omega
          subst hKe
          have hall : allCan r l = true := by
            unfold allCan
            rw [List.all_eq_true]
            exact fun j hj => hgood j (by simpa using hj)
          simp [hall, hr, t2, sub]
      · simp [outI_zero, cids_app, cmp_app, sub]
      · intro k hk
        have hkl : k < l.length := by omega
        have hro := rackF_ok h l k (by omega) fun j hj => hgood j (by omega)
        have hgk := hgood k hk
        rw [canAt_eq r hkl] at hgk
        have hc := callA_pure (c_spec_l6Can _ hro (l[k]'hkl)) (by simp) (by simp)
        rw [hgk] at hc
        obtain ⟨i, j, ei, ej, hi, hj, hcan, ti, tj⟩ := canZ_facts hgk
        have hp := callA_pure (c_spec_l2Pour _ hro hi hj) (by simp) (by simp)
        have hst : rackF r (l.take (k + 1)) = pourR (rackF r (l.take k)) i j := by rw [rackF_succ r hkl]; unfold pourZ; rw [ti, tj]
        have hos := outI_succ r l k
        rw [hst] at hos
        have g := cZ_get l hkl
        obtain ⟨g3, g4⟩ := cZ_get1 l hkl
        have g2 := outC_get hr l k (Nat.le_refl k)
        have hol := outI_len hr l k
        have b1 : k * 2 + 2 ≤ l.length * 2 := by omega
        have b1' : k * 2 + 1 ≤ l.length * 2 := by omega
        have b2 : k * 24 + 24 ≤ (k + 1) * 24 := by omega
        have b3 : (k : Int) < (k : Int) + 1 := by omega
        have wk := wrapS (k := k) (by omega)
        have hpl := pourR_len (rackF_len hr (l.take k)) i j
        have hp24 := take24 hpl
        have htk : ((outI r l k).map (C.int .i64)).take ((k + 1) * 24) = (outI r l k).map (C.int .i64) := List.take_of_length_le (by simp [hol])
        have hroom : k + 1 + 1 ≤ 68719476736 := by omega
        rw [ei, ej] at g hc
        rw [ei] at g3
        rw [ej] at g4
        simp [hkl, hr, t2, g, g2, g3, g4, hol, b1, b1', b2, b3, hc, hp, wk, hpl, hp24, htk, hroom, setAt_all, setAt, hos, cids_app, cmp_app, sub]
    · have hl' : (60 : Int) < (l.length : Int) := by omega
      simp [a18, hr, t1, t2, h1, hl, hl', sub]
end Go.Proofs.YtcnlkmooifoljaaDoor.AM
