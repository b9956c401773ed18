import Derived.Test.YtgpafbbnobanbaaGreatDoorPa
/- Loops told by their states; rules for simp. -/
namespace Go.Proofs.YtgpafbbnobanbaaGreatDoor.AM
open Go
set_option maxRecDepth 1000000
set_option linter.unusedSimpArgs false
set_option linter.unusedVariables false
/-- one turn of a loop: behind the body, what lives at the next head -/
noncomputable def turnK (m : Nat) (live : List Nat) : R → Option (Env × Heap)
  | some (.norm, e, h) => gcE m live e h
  | _ => none
@[simp] theorem turnK_norm (m : Nat) (live : List Nat) (e : Env) (h : Heap) : turnK m live (some (.norm, e, h)) = gcE m live e h := rfl
@[simp] theorem turnK_ite (m : Nat) (live : List Nat) (c : Prop) [Decidable c] (x y : R) : turnK m live (if c then x else y) = if c then turnK m live x else turnK m live y := by split <;> rfl
theorem loop_from {P : Prog} {Q : Prim} {m : Nat} {a : ACode} {live : List Nat} (S : Nat → Env × Heap) : ∀ (n i : Nat), (∀ k, i ≤ k → k < i + n → turnK m live (exI P Q m a (S k).1 (S k).2) = some (S (k + 1))) → loopG P Q m a live (some (S i)) = loopK P Q m a live (exI P Q m a (S (i + n)).1 (S (i + n)).2)
  | 0, i, _ => rfl
  | n + 1, i, h => by
    have h0 := h i (Nat.le_refl _) (by omega)
    have ih := loop_from (P := P) (Q := Q) S n (i + 1) fun k h1 h2 => h k (by omega) (by omega)
    rw [show i + (n + 1) = i + 1 + n by omega, ← ih]
    show loopK P Q m a live (exI P Q m a (S i).1 (S i).2) = _
    unfold turnK at h0
    split at h0
    · rename_i e hh he
      rw [he]
      show exI P Q m (.loop a live) e hh = _
      rw [exI_loop', h0]
    · cases h0
/-- a loop comes to the state S n -/
theorem loop_to {P : Prog} {Q : Prim} {m : Nat} {a : ACode} {live : List Nat} {e : Env} {h : Heap} (S : Nat → Env × Heap) (n : Nat) (h0 : gcE m live e h = some (S 0)) (hs : ∀ k, k < n → turnK m live (exI P Q m a (S k).1 (S k).2) = some (S (k + 1))) : exI P Q m (.loop a live) e h = loopK P Q m a live (exI P Q m a (S n).1 (S n).2) := by
  rw [exI_loop', h0, loop_from S n 0 fun k _ hk => hs k (by omega)]
  rw [Nat.zero_add]
theorem loop_to' {P : Prog} {Q : Prim} {m : Nat} {a : ACode} {live : List Nat} {e : Env} {h : Heap} (S : Nat → Env × Heap) (i n : Nat) (h0 : gcE m live e h = some (S i)) (hs : ∀ k, i ≤ k → k < i + n → turnK m live (exI P Q m a (S k).1 (S k).2) = some (S (k + 1))) : exI P Q m (.loop a live) e h = loopK P Q m a live (exI P Q m a (S (i + n)).1 (S (i + n)).2) := by
  rw [exI_loop', h0, loop_from S n i hs]
theorem cids_app (a b : List C) : cids (a ++ b) = cids a ++ cids b := by
  induction a with
  | nil => rfl
  | cons c a ih => simp [cids, ih]
theorem cmp_app (g : Nat → Nat) (a b : List C) : cmp g (a ++ b) = cmp g a ++ cmp g b := by
  induction a with
  | nil => rfl
  | cons c a ih => simp [cmp, ih]
theorem noDead_app2 : ∀ (a b : List C), noDead (a ++ b) = (noDead a && noDead b)
  | [], _ => rfl
  | c :: a, b => by cases c <;> simp [noDead, noDead_app2 a b]
theorem noDead_flatC (l : List (Nat × Nat)) : noDead (flatC l) = true := noDead_ints _ _
theorem cmp_flatC (g : Nat → Nat) (l : List (Nat × Nat)) : cmp g (flatC l) = flatC l := cmp_ints _ _ _
theorem cids_rep (n : Nat) (k : IntKind) (x : Int) : cids (List.replicate n (C.int k x)) = [] := by
  have : List.replicate n (C.int k x) = (List.replicate n x).map (C.int k) := by simp
  rw [this, cids_ints]
theorem cmp_rep (g : Nat → Nat) (n : Nat) (k : IntKind) (x : Int) : cmp g (List.replicate n (C.int k x)) = List.replicate n (C.int k x) := cmp_pure (cids_rep n k x)
/-- the next number -/
theorem wrapS {k : Nat} (h : k < 1000000000) : IntKind.i64.wrap ((k : Int) + 1) = ((k + 1 : Nat) : Int) := by rw [wrapI (by omega) (by omega)]; rfl
theorem drop_take1 {c : List Int} {j : Nat} (h : j < c.length) : ((c.map (C.int .i64)).drop j).take 1 = [C.int .i64 (c.getD j 0)] := by
  rw [List.drop_eq_getElem_cons (by simpa using h)]
  simp [List.getD_eq_getElem?_getD, List.getElem?_eq_getElem h]
attribute [simp] gcE gcL upto reach idsAt closed inL sub envIds pos stillA HOp.ev appSrc maxRoom cut back cids_app cmp_app noDead_app2 noDead_flatC cmp_flatC flatC_ids cids_rep cmp_rep flatC_len
end Go.Proofs.YtgpafbbnobanbaaGreatDoor.AM

/- Contracts: greatest common divisors, fractions in lowest terms and their sums, for numbers that are not negative. -/
namespace Go.Proofs.YtgpafbbnobanbaaGreatDoor.AM
open Go
set_option maxRecDepth 1000000
set_option linter.unusedSimpArgs false
set_option linter.unusedVariables false
end Go.Proofs.YtgpafbbnobanbaaGreatDoor.AM

/- Contracts of the functions on one tube: each holds at all valid tubes, by computation. -/
namespace Go.Proofs.YtgpafbbnobanbaaGreatDoor.AM
open Go
set_option maxRecDepth 1000000
set_option linter.unusedSimpArgs false
set_option linter.unusedVariables false
def manyT (t : List Int) : Bool := match t with
  | [a, b, c, d] => decide (pos1 a + pos1 b + pos1 c + pos1 d = (layN t : Int))
  | _ => false
theorem manyT_all : allT manyT = true := by kernel_rfl
theorem c_many (t : List Int) (ht : t.length = 4) (hv : tubeP t = true) : fnI pr np 179 [.agg (t.map (C.int .i64))] [] = some (.c (.int .i64 (layN t)), []) := by
  have := tubes_all manyT_all ht hv
  obtain ⟨a, b, c, d, rfl⟩ := len4 ht
  simp only [manyT, decide_eq_true_eq] at this
  rw [← this]
  exact c_spec_l2Many a b c d
def pairC (l : List (Int × Int)) : List C := l.flatMap fun p => [C.int .i64 p.1, C.int .i64 p.2]
theorem pairC_len (l : List (Int × Int)) : (pairC l).length = l.length * 2 := by
  induction l with
  | nil => rfl
  | cons p l ih => simp [pairC] at ih ⊢; omega
theorem pairC_last (l : List (Int × Int)) (p : Int × Int) : ((pairC (l ++ [p])).drop (l.length * 2)).take 2 = [C.int .i64 p.1, C.int .i64 p.2] := by
  have : pairC (l ++ [p]) = pairC l ++ [C.int .i64 p.1, C.int .i64 p.2] := by simp [pairC]
  rw [this, List.drop_left' (pairC_len l)]
  rfl
theorem c_impl_top (t : List Int) (ht : t.length = 4) (hv : tubeP t = true) : fnI pr np 72 [.agg (t.map (C.int .i64))] [] = some (.tup [.c (.int .i64 (topOf t).1), .c (.int .i64 (topOf t).2)], []) := by
  have o := top_ok ht hv
  have hc := callA_new (runs_i t ht hv) (by simp)
  have ht4 : (t.map (C.int .i64)).take 4 = t.map (C.int .i64) := List.take_of_length_le (by simp; omega)
  have r1 := o.r1
  have r2 := o.r2
  have hn := runsOf_len t
  have hrc : runsC t = pairC (runsOf t) := rfl
  simp only [runsV, hrc] at hc
  rw [fb (fn := a72) rfl rfl rfl]
  rcases List.eq_nil_or_concat (runsOf t) with h0 | ⟨l, p, h1⟩
  · rw [h0] at r1 r2 hc
    simp at r1 r2
    simp [a72, ht, ht4, hc, pairC, r1, r2]
  · rw [h1] at r1 r2 hc hn
    simp at r1 r2 hn
    have hpl := pairC_len (l ++ [p])
    have hlast := pairC_last l p
    have hids : cids (pairC (l ++ [p])) = [] := by
      have : pairC (l ++ [p]) = ((l ++ [p]).flatMap fun q => [q.1, q.2]).map (C.int .i64) := by simp [pairC, List.map_flatMap]
      rw [this, cids_ints]
    have hcmp : ∀ g, cmp g (pairC (l ++ [p])) = pairC (l ++ [p]) := fun g => cmp_pure hids
    have hw : IntKind.i64.wrap (l.length : Int) = (l.length : Int) := wrapI (by omega) (by omega)
    have hlt : (l.length : Int) < (l.length : Int) + 1 := by omega
    have hle : l.length * 2 + 2 ≤ (l.length + 1) * 2 := by omega
    have hmin : min 2 ((l.length + 1) * 2 - l.length * 2) = 2 := by omega
    have hnz : ¬ ((l.length : Int) + 1 = 0) := by omega
    simp at hpl hc hids hcmp hlast
    simp [a72, ht, ht4, hc, hpl, hcmp, hids, hlast, hw, hnz, hlt, hle, hmin, r1, r2]
theorem c_lay (t : List Int) (ht : t.length = 4) : fnI pr np 73 [.agg (t.map (C.int .i64))] [] = some (.c (.int .i64 (layN t)), []) := by
  have := c_impl_layers t ht
  rwa [(lay_eq ht).1] at this
theorem c_spec_l1Least (a b : Int) : fnI pr np 211 [.c (.int .i64 a), .c (.int .i64 b)] [] = some (.c (.int .i64 (min a b)), []) := by
  rw [fb (fn := a211) rfl rfl rfl]
  by_cases h : a < b
  · have : min a b = a := by omega
    simp [a211, h, this]
  · have : min a b = b := by omega
    simp [a211, h, this]
/-- facts on a valid rack -/
structure RackOK (r : List Int) : Prop where
  len : r.length = 24
  val : rackP r = true
theorem RackOK.t4 {r : List Int} (h : RackOK r) {i : Nat} (hi : i < 6) : (tubeAt r i).length = 4 := tubeAt_len h.len hi
theorem RackOK.tv {r : List Int} (h : RackOK r) {i : Nat} (hi : i < 6) : tubeP (tubeAt r i) = true := rackP_tube h.val hi
theorem RackOK.top {r : List Int} (h : RackOK r) {i : Nat} (hi : i < 6) : TopOK (tubeAt r i) := top_ok (h.t4 hi) (h.tv hi)
theorem RackOK.pour {r : List Int} (h : RackOK r) {i j : Nat} (hi : i < 6) (hj : j < 6) (hij : i ≠ j) : RackOK (pourR r i j) := ⟨pourR_len h.len i j, rackP_pour h.len h.val hi hj hij⟩
theorem cells_tube (r : List Int) (i : Nat) : ((r.map (C.int .i64)).drop (i * 4)).take 4 = (tubeAt r i).map (C.int .i64) := by simp [tubeAt]
theorem take24 {r : List Int} (h : r.length = 24) : (r.map (C.int .i64)).take 24 = r.map (C.int .i64) := List.take_of_length_le (by simp; omega)
end Go.Proofs.YtgpafbbnobanbaaGreatDoor.AM

/- Contracts: whether one can pour, and what a pour leaves. -/
namespace Go.Proofs.YtgpafbbnobanbaaGreatDoor.AM
open Go
set_option maxRecDepth 1000000
set_option linter.unusedSimpArgs false
set_option linter.unusedVariables false
theorem c_spec_l2Can (r : List Int) (h : RackOK r) {i j : Nat} (hi : i < 6) (hj : j < 6) : fnI pr np 177 [.agg (r.map (C.int .i64)), .c (.int .i64 i), .c (.int .i64 j)] [] = some (.c (.bool (canP r i j)), []) := by
  have ci := callA_pure (top_all _ (h.t4 hi) (h.tv hi)) (by simp) (by simp)
  have cj := callA_pure (top_all _ (h.t4 hj) (h.tv hj)) (by simp) (by simp)
  have mj := callA_pure (c_many _ (h.t4 hj) (h.tv hj)) (by simp) (by simp)
  have ti := cells_tube r i
  have tj := cells_tube r j
  have hr := h.len
  have li : i * 4 + 4 ≤ 24 := by omega
  have lj : j * 4 + 4 ≤ 24 := by omega
  have oi := h.top hi
  have hi' : (i : Int) < 6 := by omega
  have hj' : (j : Int) < 6 := by omega
  have hc : (0 < (topOf (tubeAt r i)).2) ↔ (0 < (topOf (tubeAt r i)).1) := by
    have := oi.cn; have := oi.c0; have := oi.n0; omega
  have hle : ((layN (tubeAt r j) : Int) < 4) ↔ layN (tubeAt r j) < 4 := by omega
  rw [fb (fn := a177) rfl rfl rfl]
  unfold canP
  by_cases e1 : i = j
  · subst e1
    simp [a177, hr, li, hi, hi', ti, ci]
  · have e1' : ((i : Int) != j) = true := bne_iff_ne.2 (by omega)
    by_cases e2 : 0 < (topOf (tubeAt r i)).1
    · have e2' := hc.2 e2
      by_cases e3 : layN (tubeAt r j) < 4
      · have e3' := hle.2 e3
        by_cases e4 : (topOf (tubeAt r j)).1 = 0
        · simp [a177, hr, li, lj, hi, hj, hi', hj', ti, tj, ci, cj, mj, e1, e1', e2, e2', e3, e3', e4]
        · have e4' : ((topOf (tubeAt r j)).1 == 0) = false := by simpa using e4
          simp [a177, hr, li, lj, hi, hj, hi', hj', ti, tj, ci, cj, mj, e1, e1', e2, e2', e3, e3', e4, e4']
          rw [Bool.eq_iff_iff]
          simp
      · have e3' : ¬ (layN (tubeAt r j) : Int) < 4 := fun x => e3 (hle.1 x)
        simp [a177, hr, li, lj, hi, hj, hi', hj', ti, tj, ci, cj, mj, e1, e1', e2, e2', e3, e3']
    · have e2' : ¬ 0 < (topOf (tubeAt r i)).2 := fun x => e2 (hc.1 x)
      simp [a177, hr, li, lj, hi, hj, hi', hj', ti, tj, ci, cj, e1, e1', e2, e2']
theorem c_impl_canPour (r : List Int) (h : RackOK r) {i j : Nat} (hi : i < 6) (hj : j < 6) : fnI pr np 125 [.agg (r.map (C.int .i64)), .c (.int .i64 i), .c (.int .i64 j)] [] = some (.c (.bool (canP r i j)), []) := by
  have ci := callA_pure (c_impl_top _ (h.t4 hi) (h.tv hi)) (by simp) (by simp)
  have cj := callA_pure (c_impl_top _ (h.t4 hj) (h.tv hj)) (by simp) (by simp)
  have mj := callA_pure (c_lay _ (h.t4 hj)) (by simp) (by simp)
  have ti := cells_tube r i
  have tj := cells_tube r j
  have hr := h.len
  have li : i * 4 + 4 ≤ 24 := by omega
  have lj : j * 4 + 4 ≤ 24 := by omega
  have hi' : (i : Int) < 6 := by omega
  have hj' : (j : Int) < 6 := by omega
  have hle : ((layN (tubeAt r j) : Int) < 4) ↔ layN (tubeAt r j) < 4 := by omega
  rw [fb (fn := a125) rfl rfl rfl]
  unfold canP
  by_cases e1 : i = j
  · subst e1
    simp [a125, hr, li, hi, hi', ti, ci]
  · have e1' : ((i : Int) != j) = true := bne_iff_ne.2 (by omega)
    by_cases e2 : 0 < (topOf (tubeAt r i)).1
    · by_cases e3 : layN (tubeAt r j) < 4
      · have e3' := hle.2 e3
        by_cases e4 : (topOf (tubeAt r j)).1 = 0
        · simp [a125, hr, li, lj, hi, hj, hi', hj', ti, tj, ci, cj, mj, e1, e1', e2, e3, e3', e4]
        · have e4' : ((topOf (tubeAt r j)).1 == 0) = false := by simpa using e4
          simp [a125, hr, li, lj, hi, hj, hi', hj', ti, tj, ci, cj, mj, e1, e1', e2, e3, e3', e4, e4']
          rw [Bool.eq_iff_iff]
          simp
      · have e3' : ¬ (layN (tubeAt r j) : Int) < 4 := fun x => e3 (hle.1 x)
        simp [a125, hr, li, lj, hi, hj, hi', hj', ti, tj, ci, cj, mj, e1, e1', e2, e3, e3']
    · simp [a125, hr, li, lj, hi, hj, hi', hj', ti, tj, ci, cj, e1, e1', e2]
end Go.Proofs.YtgpafbbnobanbaaGreatDoor.AM

/- Contracts: the rack behind a pour. -/
namespace Go.Proofs.YtgpafbbnobanbaaGreatDoor.AM
open Go
set_option maxRecDepth 1000000
set_option linter.unusedSimpArgs false
set_option linter.unusedVariables false
theorem pourN_le {r : List Int} (h : RackOK r) {i j : Nat} (hi : i < 6) (hj : j < 6) : pourN r i j ≤ layN (tubeAt r i) ∧ layN (tubeAt r j) + pourN r i j ≤ 4 ∧ layN (tubeAt r i) ≤ 4 ∧ layN (tubeAt r j) ≤ 4 ∧ min (topOf (tubeAt r i)).2 (4 - (layN (tubeAt r j) : Int)) = (pourN r i j : Int) ∧ 0 ≤ (topOf (tubeAt r i)).2 ∧ (topOf (tubeAt r i)).2 ≤ 4 := by
  have oi := h.top hi
  have oj := h.top hj
  have := oi.nl; have := oi.n0; have := oi.l4; have := oj.l4
  unfold pourN
  omega
theorem c_spec_l2Pour (r : List Int) (h : RackOK r) {i j : Nat} (hi : i < 6) (hj : j < 6) : fnI pr np 178 [.agg (r.map (C.int .i64)), .c (.int .i64 i), .c (.int .i64 j)] [] = some (.tup [.agg ((pourR r i j).map (C.int .i64)), .c (.int .i64 (pourN r i j))], []) := by
  have ci := callA_pure (top_all _ (h.t4 hi) (h.tv hi)) (by simp) (by simp)
  have mi := callA_pure (c_many _ (h.t4 hi) (h.tv hi)) (by simp) (by simp)
  have mj := callA_pure (c_many _ (h.t4 hj) (h.tv hj)) (by simp) (by simp)
  have cl := callA_pure (c_spec_l1Least (topOf (tubeAt r i)).2 (4 - (layN (tubeAt r j) : Int))) (by simp) (by simp)
  have ti := cells_tube r i
  have tj := cells_tube r j
  have hr := h.len
  have li : i * 4 + 4 ≤ 24 := by omega
  have lj : j * 4 + 4 ≤ 24 := by omega
  have hi' : (i : Int) < 6 := by omega
  have hj' : (j : Int) < 6 := by omega
  obtain ⟨b1, b2, b3, b4, b5, b6, b7⟩ := pourN_le h hi hj
  rw [b5] at cl
  have hpr : pourR r i j = pourGo i j (layN (tubeAt r i)) (layN (tubeAt r j)) (topOf (tubeAt r i)).1 (pourN r i j) r := rfl
  rw [hpr]
  generalize tubeAt r i = A at *
  generalize tubeAt r j = B at *
  generalize pourN r i j = n at *
  generalize layN A = f at *
  generalize layN B = t at *
  generalize (topOf A).1 = c at *
  generalize (topOf A).2 = run at *
  have w0 : IntKind.i64.wrap (4 - (t : Int)) = 4 - (t : Int) := wrapI (by omega) (by omega)
  rw [fb (fn := a178) rfl rfl rfl]
  simp [a178, hr, li, lj, hi, hj, hi', hj', ti, tj, ci, mi, mj, cl, w0]
  rw [loop_to (fun k => ([(1, V.c (C.int .i64 i)), (2, V.c (C.int .i64 j)), (3, V.c (C.ptr 0 0)), (6, V.c (C.ptr 1 0)), (8, V.c (C.int .i64 c)), (10, V.c (C.int .i64 f)), (11, V.c (C.int .i64 t)), (12, V.c (C.int .i64 n)), (13, V.c (C.int .i64 k))], [Blk.cells ((pourGo i j f t c k r).map (C.int .i64)) true, Blk.cells (List.replicate 24 (C.int .i64 0)) true])) n]
  · have hl := pourGo_len i j f t c n r
    have htk : ((pourGo i j f t c n r).map (C.int .i64)).take 24 = (pourGo i j f t c n r).map (C.int .i64) := take24 (by omega)
    simp [hl, hr, htk, setAt_all]
  · simp [pourGo]
  · intro k hk
    have hl := pourGo_len i j f t c k r
    obtain ⟨u, hu⟩ : ∃ u : Nat, u = t + k := ⟨_, rfl⟩
    obtain ⟨v, hv⟩ : ∃ v : Nat, v = f - 1 - k := ⟨_, rfl⟩
    have w1 : IntKind.i64.wrap ((f : Int) - 1) = (f : Int) - 1 := wrapI (by omega) (by omega)
    have w2 : IntKind.i64.wrap ((f : Int) - 1 - (k : Int)) = (v : Int) := by rw [wrapI (by omega) (by omega)]; omega
    have w3 : IntKind.i64.wrap ((t : Int) + (k : Int)) = (u : Int) := by rw [wrapI (by omega) (by omega)]; omega
    have w4 := wrapS (k := k) (by omega)
    have hv4 : v < 4 := by omega
    have hu4 : u < 4 := by omega
    have hv4' : (v : Int) < 4 := by omega
    have hu4' : (u : Int) < 4 := by omega
    have lv : i * 4 + v + 1 ≤ 24 := by omega
    have lu : j * 4 + u + 1 ≤ 24 := by omega
    have hset : (((pourGo i j f t c k r).map (C.int .i64)).set (i * 4 + v) (C.int .i64 0)).set (j * 4 + u) (C.int .i64 c) = (pourGo i j f t c (k + 1) r).map (C.int .i64) := by simp [pourGo, pourStep, List.map_set, ← hu, ← hv]
    simp [hl, hr, hk, hi, hj, hi', hj', w1, w2, w3, w4, hv4, hu4, hv4', hu4', lv, lu, hset]
theorem c_impl_pour (r : List Int) (h : RackOK r) {i j : Nat} (hi : i < 6) (hj : j < 6) : fnI pr np 30 [.agg (r.map (C.int .i64)), .c (.int .i64 i), .c (.int .i64 j)] [] = some (.tup [.agg ((pourR r i j).map (C.int .i64)), .c (.int .i64 (pourN r i j))], []) := by
  have ci := callA_pure (c_impl_top _ (h.t4 hi) (h.tv hi)) (by simp) (by simp)
  have mi := callA_pure (c_lay _ (h.t4 hi)) (by simp) (by simp)
  have mj := callA_pure (c_lay _ (h.t4 hj)) (by simp) (by simp)
  have ti := cells_tube r i
  have tj := cells_tube r j
  have hr := h.len
  have li : i * 4 + 4 ≤ 24 := by omega
  have lj : j * 4 + 4 ≤ 24 := by omega
  have hi' : (i : Int) < 6 := by omega
  have hj' : (j : Int) < 6 := by omega
  obtain ⟨b1, b2, b3, b4, b5, b6, b7⟩ := pourN_le h hi hj
  have hpr : pourR r i j = pourGo i j (layN (tubeAt r i)) (layN (tubeAt r j)) (topOf (tubeAt r i)).1 (pourN r i j) r := rfl
  rw [hpr]
  generalize tubeAt r i = A at *
  generalize tubeAt r j = B at *
  generalize pourN r i j = n at *
  generalize layN A = f at *
  generalize layN B = t at *
  generalize (topOf A).1 = c at *
  generalize (topOf A).2 = run at *
  have w0 : IntKind.i64.wrap (4 - (t : Int)) = 4 - (t : Int) := wrapI (by omega) (by omega)
  have hmn : (if 4 - (t : Int) < run then 4 - (t : Int) else run) = (n : Int) := by split <;> omega
  rw [fb (fn := a30) rfl rfl rfl]
  simp [a30, hr, li, lj, hi, hj, hi', hj', ti, tj, ci, mi, mj, w0, hmn]
  rw [loop_to (fun k => ([(1, V.c (C.int .i64 i)), (2, V.c (C.int .i64 j)), (3, V.c (C.ptr 0 0)), (6, V.c (C.ptr 1 0)), (8, V.c (C.int .i64 c)), (9, V.c (C.int .i64 n)), (10, V.c (C.int .i64 f)), (11, V.c (C.int .i64 t)), (35, V.c (C.int .i64 n)), (36, V.c (C.int .i64 k))], [Blk.cells ((pourGo i j f t c k r).map (C.int .i64)) true, Blk.cells (List.replicate 24 (C.int .i64 0)) true])) n]
  · have hl := pourGo_len i j f t c n r
    have htk : ((pourGo i j f t c n r).map (C.int .i64)).take 24 = (pourGo i j f t c n r).map (C.int .i64) := take24 (by omega)
    simp [hl, hr, htk, setAt_all]
  · simp [pourGo]
  · intro k hk
    have hl := pourGo_len i j f t c k r
    obtain ⟨u, hu⟩ : ∃ u : Nat, u = t + k := ⟨_, rfl⟩
    obtain ⟨v, hv⟩ : ∃ v : Nat, v = f - 1 - k := ⟨_, rfl⟩
    have w1 : IntKind.i64.wrap ((f : Int) - 1) = (f : Int) - 1 := wrapI (by omega) (by omega)
    have w2 : IntKind.i64.wrap ((f : Int) - 1 - (k : Int)) = (v : Int) := by rw [wrapI (by omega) (by omega)]; omega
    have w3 : IntKind.i64.wrap ((t : Int) + (k : Int)) = (u : Int) := by rw [wrapI (by omega) (by omega)]; omega
    have w4 := wrapS (k := k) (by omega)
    have hv4 : v < 4 := by omega
    have hu4 : u < 4 := by omega
    have hv4' : (v : Int) < 4 := by omega
    have hu4' : (u : Int) < 4 := by omega
    have lv : i * 4 + v + 1 ≤ 24 := by omega
    have lu : j * 4 + u + 1 ≤ 24 := by omega
    have hset : (((pourGo i j f t c k r).map (C.int .i64)).set (i * 4 + v) (C.int .i64 0)).set (j * 4 + u) (C.int .i64 c) = (pourGo i j f t c (k + 1) r).map (C.int .i64) := by simp [pourGo, pourStep, List.map_set, ← hu, ← hv]
    simp [hl, hr, hk, hi, hj, hi', hj', w1, w2, w3, w4, hv4, hu4, hv4', hu4', lv, lu, hset]
end Go.Proofs.YtgpafbbnobanbaaGreatDoor.AM

/- Contracts: all pours of a rack. -/
namespace Go.Proofs.YtgpafbbnobanbaaGreatDoor.AM
open Go
set_option maxRecDepth 1000000
set_option linter.unusedSimpArgs false
set_option linter.unusedVariables false
theorem poursTo_zero (r : List Int) : poursTo r 0 = [] := rfl
theorem flatC_nil : flatC [] = [] := rfl
theorem poursTo_pos {r : List Int} {i j : Nat} (hj : j < 6) (h : canP r i j = true) : poursTo r (i * 6 + (j + 1)) = poursTo r (i * 6 + j) ++ [(i, j)] := by
  have e1 : (i * 6 + j) / 6 = i := by omega
  have e2 : (i * 6 + j) % 6 = j := by omega
  rw [← Nat.add_assoc, poursTo_succ]
  simp [pairAt, e1, e2, h]
theorem poursTo_neg {r : List Int} {i j : Nat} (hj : j < 6) (h : canP r i j = false) : poursTo r (i * 6 + (j + 1)) = poursTo r (i * 6 + j) := by
  have e1 : (i * 6 + j) / 6 = i := by omega
  have e2 : (i * 6 + j) % 6 = j := by omega
  rw [← Nat.add_assoc, poursTo_succ]
  simp [e1, e2, h]
theorem flatC_take' (l : List (Nat × Nat)) : (flatC l).take (l.length * 2) = flatC l := List.take_of_length_le (by simp [flatC_len])
set_option maxHeartbeats 2000000 in
theorem c_spec_l2Pours (r : List Int) (h : RackOK r) : fnI pr np 140 [.agg (r.map (C.int .i64))] [] = some (.c (.sl 0 0 (poursL r).length 2), [.cells (flatC (poursL r)) true]) := by
  have hr := h.len
  have h24 := take24 hr
  rw [fb (fn := a140) rfl rfl rfl]
  simp [a140, hr]
  rw [loop_to (fun i => ([(1, V.c (C.ptr 0 0)), (3, V.c (C.sl 1 0 (poursTo r (i * 6)).length 2)), (4, V.c (C.int .i64 i))], [Blk.cells (r.map (C.int .i64)) true, Blk.cells (flatC (poursTo r (i * 6))) true])) 6]
  · simp [poursL]
  · simp [poursTo_zero, flatC_nil]
  · intro i hi
    have hi' : (i : Int) < 6 := by omega
    have e6 : (i + 1) * 6 = i * 6 + 6 := by omega
    have wi := wrapS (k := i) (by omega)
    simp [hi, hi']
    rw [loop_to (fun j => ([(1, V.c (C.ptr 0 0)), (3, V.c (C.sl 1 0 (poursTo r (i * 6 + j)).length 2)), (4, V.c (C.int .i64 i)), (5, V.c (C.int .i64 j))], [Blk.cells (r.map (C.int .i64)) true, Blk.cells (flatC (poursTo r (i * 6 + j))) true])) 6]
    · simp [e6, wi]
    · simp
    · intro j hj
      have hj' : (j : Int) < 6 := by omega
      have wj := wrapS (k := j) (by omega)
      have hc := callA_pure (c_spec_l2Can r h hi hj) (by simp) (by simp)
      have hlen := poursTo_len r (i * 6 + j)
      have hroom : (poursTo r (i * 6 + j)).length + 1 ≤ 68719476736 := by omega
      have htk := flatC_take' (poursTo r (i * 6 + j))
      cases hq : canP r i j with
      | true =>
        rw [hq] at hc
        simp [hj, hj', hr, h24, hc, wj, hroom, htk, poursTo_pos hj hq, flatC_app, flatC_one]
      | false =>
        rw [hq] at hc
        simp [hj, hj', hr, h24, hc, wj, poursTo_neg hj hq]
set_option maxHeartbeats 2000000 in
theorem c_impl_pours (r : List Int) (h : RackOK r) : fnI pr np 64 [.agg (r.map (C.int .i64))] [] = some (.c (.sl 0 0 (poursL r).length 2), [.cells (flatC (poursL r)) true]) := by
  have hr := h.len
  have h24 := take24 hr
  rw [fb (fn := a64) rfl rfl rfl]
  simp [a64, hr]
  rw [loop_to (fun i => ([(1, V.c (C.ptr 0 0)), (3, V.c (C.sl 1 0 (poursTo r (i * 6)).length 2)), (6, V.c (C.int .i64 i))], [Blk.cells (r.map (C.int .i64)) true, Blk.cells (flatC (poursTo r (i * 6))) true])) 6]
  · simp [poursL]
  · simp [poursTo_zero, flatC_nil]
  · intro i hi
    have hi' : (i : Int) < 6 := by omega
    have e6 : (i + 1) * 6 = i * 6 + 6 := by omega
    have wi := wrapS (k := i) (by omega)
    simp [hi, hi']
    rw [loop_to (fun j => ([(1, V.c (C.ptr 0 0)), (3, V.c (C.sl 1 0 (poursTo r (i * 6 + j)).length 2)), (4, V.c (C.int .i64 i)), (6, V.c (C.int .i64 i)), (9, V.c (C.int .i64 j))], [Blk.cells (r.map (C.int .i64)) true, Blk.cells (flatC (poursTo r (i * 6 + j))) true])) 6]
    · simp [e6, wi]
    · simp
    · intro j hj
      have hj' : (j : Int) < 6 := by omega
      have wj := wrapS (k := j) (by omega)
      have hc := callA_pure (c_impl_canPour r h hi hj) (by simp) (by simp)
      have hlen := poursTo_len r (i * 6 + j)
      have hroom : (poursTo r (i * 6 + j)).length + 1 ≤ 68719476736 := by omega
      have htk := flatC_take' (poursTo r (i * 6 + j))
      cases hq : canP r i j with
      | true =>
        rw [hq] at hc
        simp [hj, hj', hr, h24, hc, wj, hroom, htk, poursTo_pos hj hq, flatC_app, flatC_one]
      | false =>
        rw [hq] at hc
        simp [hj, hj', hr, h24, hc, wj, poursTo_neg hj hq]
end Go.Proofs.YtgpafbbnobanbaaGreatDoor.AM

/- Contracts: idle pours; deleting from a list of pairs in place. -/
namespace Go.Proofs.YtgpafbbnobanbaaGreatDoor.AM
open Go
set_option maxRecDepth 1000000
set_option linter.unusedSimpArgs false
set_option linter.unusedVariables false
theorem c_impl_isIdle (r : List Int) (h : RackOK r) {i j : Nat} (hi : i < 6) (hj : j < 6) : fnI pr np 66 [.agg (r.map (C.int .i64)), .agg [.int .i64 i, .int .i64 j]] [] = some (.c (.bool (idleP r i j)), []) := by
  have ci := callA_new (runs_i _ (h.t4 hi) (h.tv hi)) (by simp)
  have mj := callA_pure (c_lay _ (h.t4 hj)) (by simp) (by simp)
  have ti := cells_tube r i
  have tj := cells_tube r j
  have hr := h.len
  have li : i * 4 + 4 ≤ 24 := by omega
  have lj : j * 4 + 4 ≤ 24 := by omega
  have hi' : (i : Int) < 6 := by omega
  have hj' : (j : Int) < 6 := by omega
  rw [fb (fn := a66) rfl rfl rfl]
  unfold idleP
  by_cases e1 : (runsOf (tubeAt r i)).length = 1
  · have e1' : ((runsOf (tubeAt r i)).length : Int) = 1 := by omega
    by_cases e2 : layN (tubeAt r j) = 0
    · simp [a66, hr, li, lj, hi, hj, hi', hj', ti, tj, ci, mj, runsV, e1, e1', e2]
    · have e2' : ((layN (tubeAt r j) : Int) == 0) = false := beq_eq_false_iff_ne.2 (by omega)
      simp [a66, hr, li, lj, hi, hj, hi', hj', ti, tj, ci, mj, runsV, e1, e1', e2, e2']
  · have e1' : (((runsOf (tubeAt r i)).length : Int) == 1) = false := beq_eq_false_iff_ne.2 (by omega)
    simp [a66, hr, li, lj, hi, hj, hi', hj', ti, tj, ci, runsV, e1, e1']
/-- a test by a function with captured places: what it answers, that it leaves the heap as it is -/
structure DelOK (g : Nat) (caps : List (Nat × Nat)) (B : Heap) (d : Nat × Nat → Bool) (l : List (Nat × Nat)) : Prop where
  ids : (caps.all fun q => decide (q.1 < B.length + 1)) = true
  full : caps.map (·.1) = (upto (B.length + 1)).drop 1
  free : (B.all fun b => b.ids == []) = true
  small : B.length < 50
  call : ∀ p ∈ l, ∀ (X : Blk) (G : Heap) (base : Nat), ∃ us, callA (fnI pr np) g (V.agg [C.int .i64 p.1, C.int .i64 p.2] :: caps.map fun q => V.c (C.ptr q.1 q.2)) (lkp (X :: (B ++ G))) base = some (.c (.bool (d p)), [], us) ∧ ups us (X :: (B ++ G)) = X :: (B ++ G)
section
variable {g : Nat} {caps : List (Nat × Nat)} {B : Heap} {d : Nat × Nat → Bool} {l : List (Nat × Nat)}
theorem DelOK.wf (h : DelOK g caps B d l) {X : Blk} (hx : X.ids = []) (G : Heap) : wfH (B.length + 1) ((X :: (B ++ G)).take (B.length + 1)) = true := by
  have e : (X :: (B ++ G)).take (B.length + 1) = X :: B := by simp
  rw [e]
  unfold wfH
  rw [List.all_eq_true]
  intro b hb
  have : b.ids = [] := by
    rcases List.mem_cons.1 hb with rfl | hb
    · exact hx
    · simpa using List.all_eq_true.1 h.free b hb
  simp [this]
theorem DelOK.gc (h : DelOK g caps B d l) {live : List Nat} {e : Env} {X : Blk} (hx : X.ids = []) (G : Heap) (he : (live.all fun t => (get e t).ids.all fun i => decide (i < B.length + 1)) = true) : gcE (B.length + 1) live e (X :: (B ++ G)) = some (restrict e live, X :: B) := by
  rw [gcE_old' he (by simp) (h.wf hx G)]
  simp
theorem DelOK.cut (h : DelOK g caps B d l) {v : V} {X : Blk} (hx : X.ids = []) (G : Heap) (hv : (v.ids.all fun i => decide (i < B.length + 1)) = true) : AM.cut (B.length + 1) v (X :: (B ++ G)) = some (v, X :: B) := by
  rw [cut_old' (by rw [hv, h.wf hx G]; simp)]
  simp
theorem DelOK.capsAll (h : DelOK g caps B d l) : ((caps.map (·.1)).all fun i => decide (i < B.length + 1)) = true := by
  have := h.ids
  simpa using this
end
theorem c_slices_IndexFunc_pairs {g : Nat} {caps : List (Nat × Nat)} {B : Heap} {d : Nat × Nat → Bool} {l : List (Nat × Nat)} (hd : DelOK g caps B d l) (z : List C) (hz : cids z = []) (hn : l.length < 1000000) (own : Bool) :
    fnI pr np 124 [.c (.sl 0 0 l.length 2), .c (.fn g caps)] (.cells (flatC l ++ z) own :: B) = some (.c (.int .i64 (firstD d l 0)), .cells (flatC l ++ z) own :: B) := by
  have hx : (Blk.cells (flatC l ++ z) own).ids = [] := by simp [hz]
  have hgc := fun live e he => hd.gc (live := live) (e := e) hx [] he
  have hcut := fun v hv => hd.cut (v := v) hx [] hv
  simp only [List.append_nil] at hgc hcut
  have hcaps := hd.ids
  have hturn : ∀ i (hi : i < l.length), d (l[i]'hi) = false → ∃ us, callA (fnI pr np) g (V.agg [C.int .i64 (l[i]'hi).1, C.int .i64 (l[i]'hi).2] :: caps.map fun q => V.c (C.ptr q.1 q.2)) (lkp (.cells (flatC l ++ z) own :: B)) (B.length + 1) = some (.c (.bool false), [], us) ∧ ups us (.cells (flatC l ++ z) own :: B) = .cells (flatC l ++ z) own :: B := by
    intro i hi hf
    have := hd.call (l[i]'hi) (List.getElem_mem hi) (.cells (flatC l ++ z) own) [] (B.length + 1)
    rwa [hf, List.append_nil] at this
  rw [fb (fn := a124) rfl rfl rfl]
  simp [a124, -gcE, -cut]
  have hgcap := hd.capsAll
  have hti : ∀ i, (hi : i < l.length) → ((flatC l ++ z).drop (i * 2)).take 2 = [C.int .i64 (l[i]'hi).1, C.int .i64 (l[i]'hi).2] := fun i hi => flatC_get l z i hi
  have hle : ∀ i, i < l.length → i * 2 + 2 ≤ l.length * 2 + z.length := fun i hi => by omega
  rcases firstD_case d l 0 with ⟨h1, h2⟩ | ⟨k, hk, h1, h2, h3⟩
  · have h1 : firstD d l (0 : Int) = -1 := h1
    rw [h1]
    rw [loop_to (fun i => ([(0, V.c (C.sl 0 0 l.length 2)), (1, V.c (C.fn g caps)), (7, V.c (C.int .i64 l.length)), (8, V.c (C.int .i64 i))], (.cells (flatC l ++ z) own :: B))) l.length]
    · simp [-gcE, -cut]
      exact hcut _ (by simp)
    · rw [hgc _ _ (by simp [hgcap])]; simp
    · intro i hi
      obtain ⟨us, hc, hu⟩ := hturn i hi (h2 _ (List.getElem_mem hi))
      have wi := wrapS (k := i) (by omega)
      simp [-gcE, -cut, hi, hti i hi, hle i hi, hc, hu, wi]
      rw [hgc _ _ (by simp [hgcap])]; simp
  · rw [Nat.zero_add] at h1
    have h1 : firstD d l (0 : Int) = (k : Int) := h1
    rw [h1]
    rw [loop_to (fun i => ([(0, V.c (C.sl 0 0 l.length 2)), (1, V.c (C.fn g caps)), (7, V.c (C.int .i64 l.length)), (8, V.c (C.int .i64 i))], (.cells (flatC l ++ z) own :: B))) k]
    · have hc0 := hd.call (l[k]'hk) (List.getElem_mem hk) (.cells (flatC l ++ z) own) [] (B.length + 1)
      rw [h2, List.append_nil] at hc0
      obtain ⟨us, hc, hu⟩ := hc0
      simp [-gcE, -cut, hk, hti k hk, hle k hk, hc, hu]
      exact hcut _ (by simp)
    · rw [hgc _ _ (by simp [hgcap])]; simp
    · intro i hi
      have hil : i < l.length := by omega
      obtain ⟨us, hc, hu⟩ := hturn i hil (h3 _ (by
        have : l[i]'hil = (l.take k)[i]'(by simp; omega) := by simp
        rw [this]; exact List.getElem_mem _))
      have wi := wrapS (k := i) (by omega)
      simp [-gcE, -cut, hil, hti i hil, hle i hil, hc, hu, wi]
      rw [hgc _ _ (by simp [hgcap])]; simp
theorem reach_free (H : HF) : ∀ (todo seen : List Nat) (n : Nat), (∀ i ∈ todo, idsAt H i = []) → (seen ++ todo).Nodup → todo.length < n → reach H n todo seen = seen ++ todo
  | [], seen, n + 1, _, _, _ => by simp [reach]
  | i :: todo, seen, n + 1, h, hn, hl => by
    have hi : i ∉ seen := by
      intro hm
      have := List.nodup_append.1 hn
      exact (this.2.2 i hm i (by simp)) rfl
    unfold reach
    rw [if_neg hi, h i (by simp), List.append_nil, reach_free H todo (seen ++ [i]) n (fun j hj => h j (by simp [hj])) (by simpa using hn) (by simpa using hl)]
    simp
theorem ups_zip : ∀ (k : Nat) (h' P h G : Heap), h'.length = h.length → P.length = k → ups (((List.range' k h.length)).zip h') (P ++ (h ++ G)) = P ++ (h' ++ G)
  | k, [], P, [], G, _, _ => by simp [ups]
  | k, b :: h', P, c :: h, G, hl, hP => by
    have ih := ups_zip (k + 1) h' (P ++ [b]) h G (by simpa using hl) (by simp [hP])
    simp only [List.length_cons, List.range'_succ, List.zip_cons_cons, ups]
    rw [List.set_append_right _ _ (by omega)]
    simp only [hP, Nat.sub_self, List.cons_append, List.set_cons_zero]
    simpa using ih
  | _, _ :: _, _, [], _, h, _ => by simp at h
  | _, [], _, _ :: _, _, h, _ => by simp at h
theorem upto_range' : ∀ n, upto n = List.range' 0 n
  | 0 => rfl
  | n + 1 => by rw [upto, upto_range' n, List.range'_concat]; simp
theorem ups_front (h' h G : Heap) (hl : h'.length = h.length) : ups ((upto h.length).zip h') (h ++ G) = h' ++ G := by
  have := ups_zip 0 h' [] h G hl rfl
  rw [upto_range']
  simpa using this
theorem back_upto {n base j : Nat} (h : j < n) : back (upto n) base j = j := by
  simp only [back, upto_length, h, if_true]
  have := upto_get n j h
  simp [List.getD_eq_getElem?_getD, this]
/-- a call that takes all of the first blocks, none of which leads to another -/
theorem callA_front {F : Fns} {f : Nat} {args : List V} {h G h' : Heap} {v : V} (hid : args.flatMap V.ids = upto h.length) (hb : (h.all fun b => b.ids == []) = true) (hs : h.length < 60) (hF : F f args h = some (v, h')) (hl : h'.length = h.length) (hb' : (h'.all fun b => b.ids == []) = true) (hv : ∀ i ∈ v.ids, i < h.length) (base : Nat) :
    callA F f args (lkp (h ++ G)) base = some (v, [], (upto h.length).zip h') := by
  have hw : wfH h.length ((h ++ G).take h.length) = true := by
    rw [take_len h G h.length rfl]
    unfold wfH
    rw [List.all_eq_true]
    intro b hb0
    have : b.ids = [] := by simpa using List.all_eq_true.1 hb b hb0
    simp [this]
  have hr : reach (lkp (h ++ G)) 64 (args.flatMap V.ids) [] = upto h.length := by
    rw [hid, reach_free]
    · simp
    · intro i hi
      have hi := mem_upto.1 hi
      have : lkp (h ++ G) i = some (h[i]'hi) := by
        simp only [lkp]
        rw [List.getElem?_append_left hi, List.getElem?_eq_getElem]
      simp only [idsAt, this]
      simpa using List.all_eq_true.1 hb _ (List.getElem_mem hi)
    · simpa using upto_nodup h.length
    · rw [upto_length]; omega
  have hc : closed (upto h.length) (lkp (h ++ G)) = true := closed_upto (by simp) hw
  have hsub : sub (upto h.length) (lkp (h ++ G)) = h := by rw [sub_upto (by simp) hw, take_len h G h.length rfl]
  have hargs : args.map (V.mp (pos (upto h.length))) = args := by
    have : ∀ a ∈ args, a.mp (pos (upto h.length)) = a := by
      intro a ha
      refine V.mp_below fun i hi => pos_upto ?_
      have : i ∈ args.flatMap V.ids := List.mem_flatMap.2 ⟨a, ha, hi⟩
      rw [hid] at this
      exact mem_upto.1 this
    exact (List.map_congr_left this).trans (by simp)
  have hin : inL (upto h.length) (args.flatMap V.ids) = true := by
    rw [hid, inL, List.all_eq_true]
    exact fun i hi => by simpa using hi
  rw [callA_gen hr (by rw [hc, hin]; rfl) hsub hargs hF (by rw [upto_length]; omega)]
  have e1 : v.mp (back (upto h.length) base) = v := V.mp_below fun i hi => back_upto (hv i hi)
  have e2 : (h'.drop (upto h.length).length).map (Blk.mp (back (upto h.length) base)) = [] := by
    rw [List.drop_of_length_le (by rw [upto_length]; omega)]; rfl
  have e3 : (h'.take (upto h.length).length).map (Blk.mp (back (upto h.length) base)) = h' := by
    rw [List.take_of_length_le (by rw [upto_length]; omega)]
    have : ∀ b ∈ h', Blk.mp (back (upto h.length) base) b = b := by
      intro b hb0
      have : b.ids = [] := by simpa using List.all_eq_true.1 hb' b hb0
      exact Blk.mp_below (by simp [this])
    exact (List.map_congr_left this).trans (by simp)
  rw [e1, e2, e3]
theorem upto_cons (n : Nat) : upto (n + 1) = 0 :: (upto (n + 1)).drop 1 := by
  rw [upto_range']
  simp [List.range'_succ]
theorem inst_rep2 (c : C) : ∀ (k m : Nat), (inst (rep k [Z.k c, Z.k c]) m).1 = List.replicate (k * 2) c
  | 0, m => rfl
  | k + 1, m => by
    have : (k + 1) * 2 = k * 2 + 1 + 1 := by omega
    rw [this, List.replicate_succ, List.replicate_succ, ← inst_rep2 c k m]
    simp [rep, inst]
theorem noDead_rep (n : Nat) (k : IntKind) (x : Int) : noDead (List.replicate n (C.int k x)) = true := by
  have : List.replicate n (C.int k x) = (List.replicate n x).map (C.int k) := by simp
  rw [this, noDead_ints]
set_option maxHeartbeats 2000000 in
theorem c_slices_DeleteFunc_pairs {g : Nat} {caps : List (Nat × Nat)} {B : Heap} {d : Nat × Nat → Bool} {l : List (Nat × Nat)} (hd : DelOK g caps B d l) (z : List C) (hz : cids z = []) (hn : l.length < 1000000) :
    fnI pr np 63 [.c (.sl 0 0 l.length 2), .c (.fn g caps)] (.cells (flatC l ++ z) true :: B) =
      some (.c (.sl 0 0 (l.filter fun p => !d p).length 2), .cells (flatC (l.filter fun p => !d p) ++ (List.replicate ((l.length - (l.filter fun p => !d p).length) * 2) (.int .i64 0) ++ z)) true :: B) := by
  have hx : ∀ l : List (Nat × Nat), (Blk.cells (flatC l ++ z) true).ids = [] := fun l => by simp [hz]
  have hgcap := hd.capsAll
  have hidx := fun G base => callA_front (F := fnI pr np) (f := 124) (args := [.c (.sl 0 0 l.length 2), .c (.fn g caps)]) (h := .cells (flatC l ++ z) true :: B) (G := G) (by
      rw [List.length_cons, upto_cons, ← hd.full]; simp) (by simp only [List.all_cons, hd.free, Bool.and_true]; rw [hx l]; rfl) (by have := hd.small; simp; omega) (c_slices_IndexFunc_pairs hd z hz hn true) rfl (by simp only [List.all_cons, hd.free, Bool.and_true]; rw [hx l]; rfl) (by simp) base
  have hups := fun G => ups_front (.cells (flatC l ++ z) true :: B) (.cells (flatC l ++ z) true :: B) G rfl
  simp only [List.cons_append, List.length_cons] at hidx hups
  rw [fb (fn := a63) rfl rfl rfl]
  simp [a63, -gcE, -cut, -upto, hidx, hups]
  rcases firstD_case d l 0 with ⟨h1, h2⟩ | ⟨k, hk, h1, h2, h3⟩
  · have h1 : firstD d l (0 : Int) = -1 := h1
    have hf : (l.filter fun p => !d p) = l := List.filter_eq_self.2 fun p hp => by simp [h2 p hp]
    simp [h1, hf, -gcE, -cut, -upto]
    exact hd.cut (hx l) _ (by simp)
  · rw [Nat.zero_add] at h1
    have h1 : firstD d l (0 : Int) = (k : Int) := h1
    have hk1 : ((k : Int) == -1) = false := beq_eq_false_iff_ne.2 (by omega)
    have wk := wrapS (k := k) (by omega)
    simp [h1, hk1, wk, -gcE, -cut, -upto]
    obtain ⟨f1, f2⟩ := cur_first d l k (by omega) h3
    have f3 : curF d l (k + 1) = l := by rw [curF_succ d l hk, if_pos h2, f1]
    have f4 : keepN d l (k + 1) = l.take k := by rw [keepN_succ d l hk, if_pos h2, f2, List.append_nil]
    have f5 : (keepN d l (k + 1)).length = k := by rw [f4, List.length_take]; omega
    rw [loop_to' (fun j => ([(0, V.c (C.sl 0 0 l.length 2)), (1, V.c (C.fn g caps)), (5, V.c (C.int .i64 (keepN d l j).length)), (6, V.c (C.int .i64 j))], (.cells (flatC (curF d l j) ++ z) true :: B))) (k + 1) (l.length - (k + 1))]
    · have hend : k + 1 + (l.length - (k + 1)) = l.length := by omega
      rw [hend]
      have oc := cur_ok d l l.length (Nat.le_refl _)
      have hkl := keepN_le d l l.length
      have hz1 := flatC_zero (curF d l l.length) (keepN d l l.length).length z (by rw [oc.len]; omega)
      rw [oc.len, oc.kept] at hz1
      have hir := inst_rep2 (C.int .i64 0) (l.length - (keepN d l l.length).length) 0
      have hcl := flatC_len (curF d l l.length)
      rw [oc.len] at hcl
      have hfil := keepN_all d l
      rw [hfil] at hz1 hir hkl
      generalize (l.filter fun p => !d p) = R at hz1 hir hkl hfil ⊢
      have b1 : (R.length : Int) ≤ (l.length : Int) := by omega
      have b2 : R.length * 2 + (l.length - R.length) * 2 ≤ l.length * 2 + z.length := by omega
      simp [-gcE, -cut, -upto, -rep, -inst, hfil, hir, hcl, oc.len, b1, b2, hkl, hz1, noDead_rep]
      have hfin := hd.cut (v := .c (.sl 0 0 R.length 2)) (X := .cells (flatC R ++ (List.replicate ((l.length - R.length) * 2) (C.int .i64 0) ++ z)) true) (by simp [hz]) [] (by simp)
      rwa [List.append_nil] at hfin
    · have := hd.gc (live := [0, 1, 5, 6]) (e := [(0, V.c (C.sl 0 0 l.length 2)), (1, V.c (C.fn g caps)), (5, V.c (C.int .i64 k)), (6, V.c (C.int .i64 ((k + 1 : Nat) : Int)))]) (hx l) [Blk.cells [] true] (by simp [hgcap])
      simp only [f3, f5]
      simpa [-gcE, -cut, -upto] using this
    · intro j hj1 hj2
      have hj : j < l.length := by omega
      have hj' : (j : Int) < (l.length : Int) := by omega
      have oc := cur_ok d l j (by omega)
      have hkl := keepN_le d l j
      have hcl := oc.len
      have hcj : (curF d l j)[j]'(by omega) = l[j]'hj := by
        have := congrArg (·[0]?) oc.rest
        simp only [List.getElem?_drop, Nat.add_zero] at this
        rw [List.getElem?_eq_getElem (by omega), List.getElem?_eq_getElem hj] at this
        exact Option.some.inj this
      have hg := flatC_get (curF d l j) z j (by omega)
      rw [hcj] at hg
      have wj := wrapS (k := j) (by omega)
      have wi := wrapS (k := (keepN d l j).length) (by omega)
      have b1 : j * 2 + 2 ≤ (curF d l j).length * 2 + z.length := by omega
      have b2 : (keepN d l j).length * 2 + 2 ≤ (curF d l j).length * 2 + z.length := by omega
      have b3 : (keepN d l j).length < l.length := by omega
      have b3' : ((keepN d l j).length : Int) < (l.length : Int) := by omega
      have hset : ∀ Y Y' : Blk, (B ++ [Y]).set B.length Y' = B ++ [Y'] := fun Y Y' => by simp
      have hfs := flatC_set (curF d l j) (keepN d l j).length (l[j]'hj) z (by omega)
      have hks := keepN_succ d l hj
      have hcs := curF_succ d l hj
      obtain ⟨us, hc, hu⟩ := hd.call (l[j]'hj) (List.getElem_mem hj) (.cells (flatC (curF d l j) ++ z) true) [Blk.cells [C.int .i64 (l[j]'hj).1, C.int .i64 (l[j]'hj).2] true] (B.length + 1 + 1)
      cases hq : d (l[j]'hj) with
      | true =>
        rw [hq] at hc hks hcs
        simp only [if_true, List.append_nil] at hks hcs
        simp [-gcE, -cut, -upto, hj, hj', hg, wj, b1, hset, hc, hu, hks, hcs]
        refine (hd.gc (hx _) _ (by simp [hgcap])).trans ?_
        simp [hks, hcs]
      | false =>
        rw [hq] at hc hks hcs
        simp only [Bool.false_eq_true, if_false] at hks hcs
        have hkl1 : (keepN d l (j + 1)).length = (keepN d l j).length + 1 := by rw [hks]; simp
        simp [-gcE, -cut, -upto, hj, hj', hg, wj, wi, b1, b2, b3, b3', hset, hc, hu, hkl1, hcs, hfs]
        refine (hd.gc (hx _) _ (by simp [hgcap])).trans ?_
        simp [hkl1, hcs]
end Go.Proofs.YtgpafbbnobanbaaGreatDoor.AM

/- Contracts: the pours that are not idle. -/
namespace Go.Proofs.YtgpafbbnobanbaaGreatDoor.AM
open Go
set_option maxRecDepth 1000000
set_option linter.unusedSimpArgs false
set_option linter.unusedVariables false
theorem c_impl_useful_1 (r : List Int) (h : RackOK r) {i j : Nat} (hi : i < 6) (hj : j < 6) : fnI pr np 65 [.agg [.int .i64 i, .int .i64 j], .c (.ptr 0 0)] [.cells (r.map (C.int .i64)) true] = some (.c (.bool (idleP r i j)), [.cells (r.map (C.int .i64)) true]) := by
  have hc := callA_pure (c_impl_isIdle r h hi hj) (by simp) (by simp)
  have hr := h.len
  have h24 := take24 hr
  rw [fb (fn := a65) rfl rfl rfl]
  simp [a65, hr, h24, hc]
theorem del_useful (r : List Int) (h : RackOK r) : DelOK 65 [(1, 0)] [.cells (r.map (C.int .i64)) true] (fun p => idleP r p.1 p.2) (poursL r) := by
  refine ⟨by simp, by simp [upto], by simp, by simp, fun p hp X G base => ?_⟩
  have hm := mem_poursL hp
  refine ⟨_, callA_at (F := fnI pr np) (f := 65) (x := .agg [.int .i64 p.1, .int .i64 p.2]) (i := 1) (b := .cells (r.map (C.int .i64)) true) (by simp) (by simp) (by simp) (c_impl_useful_1 r h hm.1 hm.2.1) (by simp) base, by simp⟩
/-- the cells behind the useful pours -/
def padC (r : List Int) : List C := List.replicate (((poursL r).length - (usefulL r).length) * 2) (.int .i64 0)
@[simp] theorem padC_ids (r : List Int) : cids (padC r) = [] := cids_rep _ _ _
@[simp] theorem padC_cmp (g : Nat → Nat) (r : List Int) : cmp g (padC r) = padC r := cmp_rep g _ _ _
theorem c_impl_useful (r : List Int) (h : RackOK r) : fnI pr np 27 [.agg (r.map (C.int .i64))] [] = some (.c (.sl 0 0 (usefulL r).length 2), [.cells (flatC (usefulL r) ++ padC r) true]) := by
  have hr := h.len
  have h24 := take24 hr
  have hp := callA_new (c_impl_pours r h) (by simp)
  have hdel := c_slices_DeleteFunc_pairs (del_useful r h) [] rfl (by have := poursTo_len r 36; unfold poursL; omega)
  simp only [List.append_nil] at hdel
  have hu : ((poursL r).filter fun p => !idleP r p.1 p.2) = usefulL r := rfl
  rw [hu] at hdel
  have hpad : List.replicate (((poursL r).length - (usefulL r).length) * 2) (C.int .i64 0) = padC r := rfl
  rw [hpad] at hdel
  have hc := fun base => callA_gen (F := fnI pr np) (f := 63) (args := [.c (.sl 2 0 (poursL r).length 2), .c (.fn 65 [(0, 0)])]) (H := lkp [.cells (r.map (C.int .i64)) true, .cells [] true, .cells (flatC (poursL r)) true]) (L := [2, 0]) (by simp) (by simp) (by simp [sub]) (by simp) hdel (by simp) base
  rw [fb (fn := a27) rfl rfl rfl]
  simp [a27, hr, h24, hp, hc]
end Go.Proofs.YtgpafbbnobanbaaGreatDoor.AM
/- Contracts: comparing ints and tubes. -/
namespace Go.Proofs.YtgpafbbnobanbaaGreatDoor.AM
open Go
set_option maxRecDepth 1000000
set_option linter.unusedSimpArgs false
set_option linter.unusedVariables false
def cmpI (a b : Int) : Int := if a < b then -1 else if b < a then 1 else 0
theorem c_isNaN (x : Int) : fnI pr np 247 [.c (.int .i64 x)] [] = some (.c (.bool false), []) := by
  rw [fb (fn := a247) rfl rfl rfl]
  simp [a247]
theorem c_cmpI (a b : Int) : fnI pr np 233 [.c (.int .i64 a), .c (.int .i64 b)] [] = some (.c (.int .i64 (cmpI a b)), []) := by
  have h1 := callA_pure (c_isNaN a) (by simp) (by simp)
  have h2 := callA_pure (c_isNaN b) (by simp) (by simp)
  rw [fb (fn := a233) rfl rfl rfl]
  unfold cmpI
  by_cases e1 : a < b
  · simp [a233, h1, h2, e1]
  · by_cases e2 : b < a
    · simp [a233, h1, h2, e1, e2]
    · simp [a233, h1, h2, e1, e2]
def cmpT : List Int → List Int → Int
  | a :: x, b :: y => if cmpI a b ≠ 0 then cmpI a b else cmpT x y
  | _, _ => 0
theorem c_cmpS (x y : List Int) (hx : x.length = 4) (hy : y.length = 4) : fnI pr np 205 [.c (.sl 0 0 4 1), .c (.sl 1 0 4 1)] [.cells (x.map (C.int .i64)) true, .cells (y.map (C.int .i64)) true] = some (.c (.int .i64 (cmpT x y)), [.cells (x.map (C.int .i64)) true, .cells (y.map (C.int .i64)) true]) := by
  obtain ⟨a, b, c, d, rfl⟩ := len4 hx
  obtain ⟨a', b', c', d', rfl⟩ := len4 hy
  have h1 := callA_pure (c_cmpI a a') (by simp) (by simp)
  have h2 := callA_pure (c_cmpI b b') (by simp) (by simp)
  have h3 := callA_pure (c_cmpI c c') (by simp) (by simp)
  have h4 := callA_pure (c_cmpI d d') (by simp) (by simp)
  have w1 : IntKind.i64.wrap (0 + 1) = 1 := rfl
  rw [fb (fn := a205) rfl rfl rfl]
  by_cases e1 : cmpI a a' = 0
  · by_cases e2 : cmpI b b' = 0
    · by_cases e3 : cmpI c c' = 0
      · by_cases e4 : cmpI d d' = 0
        · simp [a205, exI_loop', gcE_one, envIds, pos, IntKind.wrap, IntKind.bits, IntKind.signed, h1, h2, h3, h4, e1, e2, e3, e4, cmpT]
        · simp [a205, exI_loop', gcE_one, envIds, pos, IntKind.wrap, IntKind.bits, IntKind.signed, h1, h2, h3, h4, e1, e2, e3, e4, cmpT]
      · simp [a205, exI_loop', gcE_one, envIds, pos, IntKind.wrap, IntKind.bits, IntKind.signed, h1, h2, h3, e1, e2, e3, cmpT]
    · simp [a205, exI_loop', gcE_one, envIds, pos, IntKind.wrap, IntKind.bits, IntKind.signed, h1, h2, e1, e2, cmpT]
  · simp [a205, exI_loop', gcE_one, envIds, pos, IntKind.wrap, IntKind.bits, IntKind.signed, h1, e1, cmpT]
theorem c_cmpTubes (x y : List Int) (hx : x.length = 4) (hy : y.length = 4) : fnI pr np 172 [.agg (x.map (C.int .i64)), .agg (y.map (C.int .i64))] [] = some (.c (.int .i64 (cmpT x y)), []) := by
  have h1 := fun base => callA_front (F := fnI pr np) (f := 205) (args := [.c (.sl 0 0 4 1), .c (.sl 1 0 4 1)]) (h := [.cells (x.map (C.int .i64)) true, .cells (y.map (C.int .i64)) true]) (G := []) (by simp) (by simp) (by simp) (c_cmpS x y hx hy) (by simp) (by simp) (by simp) base
  simp only [List.append_nil] at h1
  rw [fb (fn := a172) rfl rfl rfl]
  simp [a172, hx, hy, h1]
end Go.Proofs.YtgpafbbnobanbaaGreatDoor.AM
/- Contracts: sorting the six tubes of a rack in place (insertion). -/
namespace Go.Proofs.YtgpafbbnobanbaaGreatDoor.AM
open Go
set_option maxRecDepth 1000000
set_option linter.unusedSimpArgs false
set_option linter.unusedVariables false
/-- a rack with other cells in a tube -/
def layT (r : List Int) (i : Nat) (t : List Int) : List Int := r.take (i * 4) ++ t ++ r.drop (i * 4 + 4)
def swapT (r : List Int) (j : Nat) : List Int := layT (layT r (j + 1) (tubeAt r j)) j (tubeAt r (j + 1))
/-- the turns of the inner loop: the tube at j goes down while it is below the one ahead -/
def sinkT : Nat → List Int → List Int
  | 0, r => r
  | j + 1, r => if cmpT (tubeAt r (j + 1)) (tubeAt r j) < 0 then sinkT j (swapT r j) else r
def sortTo5 : Nat → List Int → List Int
  | 0, r => r
  | n + 1, r => sinkT (n + 1) (sortTo5 n r)
def formL (r : List Int) : List Int := sortTo5 5 r
theorem layT_len {r : List Int} (hr : r.length = 24) {i : Nat} (hi : i < 6) {t : List Int} (ht : t.length = 4) : (layT r i t).length = 24 := by
  simp [layT, hr, ht]; omega
theorem swapT_len {r : List Int} (hr : r.length = 24) {j : Nat} (hj : j + 1 < 6) : (swapT r j).length = 24 :=
  layT_len (layT_len hr hj (tubeAt_len hr (by omega))) (by omega) (tubeAt_len hr hj)
theorem sinkT_len : ∀ (j : Nat) {r : List Int}, r.length = 24 → j < 6 → (sinkT j r).length = 24
  | 0, r, hr, _ => hr
  | j + 1, r, hr, hj => by
    unfold sinkT; split
    · exact sinkT_len j (swapT_len hr hj) (by omega)
    · exact hr
theorem sortTo5_len {r : List Int} (hr : r.length = 24) : ∀ n, n ≤ 5 → (sortTo5 n r).length = 24
  | 0, _ => hr
  | n + 1, h => sinkT_len _ (sortTo5_len hr n (by omega)) (by omega)
theorem setAt_put : ∀ (xs cs : List C) (o : Nat), o + xs.length ≤ cs.length → setAt cs o xs = cs.take o ++ xs ++ cs.drop (o + xs.length)
  | [], cs, o, h => by simp [setAt]
  | x :: xs, cs, o, h => by
    simp only [List.length_cons] at h
    rw [setAt, setAt_put xs (cs.set o x) (o + 1) (by simp; omega)]
    rw [List.drop_set_of_lt (by omega), List.length_cons, show o + 1 + xs.length = o + (xs.length + 1) by omega]
    congr 1
    rw [List.take_set]
    apply List.ext_getElem?
    intro k
    have e1 : (List.take o cs).length = o := by simp; omega
    have e2 : ((List.take (o + 1) cs).set o x).length = o + 1 := by simp; omega
    rcases Nat.lt_or_ge k o with h1 | h1
    · rw [List.getElem?_append_left (show k < ((List.take (o + 1) cs).set o x).length by rw [e2]; omega), List.getElem?_append_left (show k < (List.take o cs).length by rw [e1]; exact h1), List.getElem?_set_ne (by omega), List.getElem?_take, List.getElem?_take]
      simp [h1, show k < o + 1 by omega]
    · rcases Nat.lt_or_ge k (o + 1) with h2 | h2
      · have : k = o := by omega
        subst this
        rw [List.getElem?_append_left (show k < ((List.take (k + 1) cs).set k x).length by rw [e2]; omega), List.getElem?_append_right (show (List.take k cs).length ≤ k by rw [e1]; exact Nat.le_refl _), e1, List.getElem?_set_self (by rw [List.length_take]; omega), Nat.sub_self]
        rfl
      · rw [List.getElem?_append_right (show ((List.take (o + 1) cs).set o x).length ≤ k by rw [e2]; exact h2), List.getElem?_append_right (show (List.take o cs).length ≤ k by rw [e1]; exact h1)]
        rw [e1, e2, show k - o = (k - (o + 1)) + 1 by omega, List.getElem?_cons_succ]
theorem setAt_tube {r t : List Int} (hr : r.length = 24) {i : Nat} (hi : i < 6) (ht : t.length = 4) : setAt (r.map (C.int .i64)) (i * 4) (t.map (C.int .i64)) = (layT r i t).map (C.int .i64) := by
  rw [setAt_put _ _ _ (by simp [hr, ht]; omega)]
  simp [layT, ht, List.map_take, List.map_drop]
/-- the cells of a tube -/
theorem tube_cells {r : List Int} (hr : r.length = 24) {i : Nat} (hi : i < 6) : ((r.map (C.int .i64)).drop (i * 4)).take 4 = (tubeAt r i).map (C.int .i64) := by
  simp [tubeAt, List.map_take, List.map_drop]
/-- how often it goes down; the rack behind so many turns -/
def sinkK : Nat → List Int → Nat
  | 0, _ => 0
  | j + 1, r => if cmpT (tubeAt r (j + 1)) (tubeAt r j) < 0 then sinkK j (swapT r j) + 1 else 0
def sinkI (j : Nat) (r : List Int) : Nat → List Int
  | 0 => r
  | i + 1 => swapT (sinkI j r i) (j - i - 1)
theorem sinkK_le : ∀ (j : Nat) (r : List Int), sinkK j r ≤ j
  | 0, _ => Nat.le_refl _
  | j + 1, r => by
    unfold sinkK; split
    · have := sinkK_le j (swapT r j); omega
    · omega
theorem sinkI_shift (j : Nat) (r : List Int) : ∀ i, sinkI (j + 1) r (i + 1) = sinkI j (swapT r j) i
  | 0 => rfl
  | i + 1 => by
    show swapT (sinkI (j + 1) r (i + 1)) (j + 1 - (i + 1) - 1) = swapT (sinkI j (swapT r j) i) (j - i - 1)
    rw [sinkI_shift j r i, show j + 1 - (i + 1) - 1 = j - i - 1 by omega]
theorem sink_facts : ∀ (j : Nat) (r : List Int), sinkT j r = sinkI j r (sinkK j r) ∧ (∀ i, i < sinkK j r → cmpT (tubeAt (sinkI j r i) (j - i)) (tubeAt (sinkI j r i) (j - i - 1)) < 0) ∧ (j - sinkK j r = 0 ∨ ¬ cmpT (tubeAt (sinkI j r (sinkK j r)) (j - sinkK j r)) (tubeAt (sinkI j r (sinkK j r)) (j - sinkK j r - 1)) < 0)
  | 0, r => ⟨rfl, fun i hi => by simp [sinkK] at hi, .inl rfl⟩
  | j + 1, r => by
    by_cases h : cmpT (tubeAt r (j + 1)) (tubeAt r j) < 0
    · obtain ⟨a, b, c⟩ := sink_facts j (swapT r j)
      have e1 : sinkK (j + 1) r = sinkK j (swapT r j) + 1 := by simp [sinkK, h]
      have e2 : sinkT (j + 1) r = sinkT j (swapT r j) := by simp [sinkT, h]
      refine ⟨by rw [e1, e2, a, sinkI_shift], fun i hi => ?_, ?_⟩
      · cases i with
        | zero => exact h
        | succ i =>
          rw [sinkI_shift, show j + 1 - (i + 1) = j - i by omega]
          exact b i (by omega)
      · rw [e1, sinkI_shift, show j + 1 - (sinkK j (swapT r j) + 1) = j - sinkK j (swapT r j) by omega]
        exact c
    · have e1 : sinkK (j + 1) r = 0 := by simp [sinkK, h]
      have e2 : sinkT (j + 1) r = r := by simp [sinkT, h]
      rw [e1, e2]
      exact ⟨rfl, fun i hi => by omega, .inr h⟩
theorem sinkI_len {r : List Int} (hr : r.length = 24) {j : Nat} (hj : j < 6) : ∀ i, i ≤ j → (sinkI j r i).length = 24
  | 0, _ => hr
  | i + 1, h => swapT_len (sinkI_len hr hj i (by omega)) (by omega)
set_option maxHeartbeats 4000000 in
theorem c_insSort (r : List Int) (hr : r.length = 24) : fnI pr np 223 [.c (.sl 0 0 6 4), .c (.int .i64 0), .c (.int .i64 6), .c (.fn 172 [])] [.cells (r.map (C.int .i64)) true] = some (.tup [], [.cells ((formL r).map (C.int .i64)) true]) := by
  rw [fb (fn := a223) rfl rfl rfl]
  simp [a223, hr]
  rw [loop_to (fun n => ([(0, V.c (C.sl 0 0 6 4)), (1, V.c (C.int .i64 0)), (2, V.c (C.int .i64 6)), (3, V.c (C.fn 172 [])), (8, V.c (C.int .i64 ((n + 1 : Nat) : Int)))], [Blk.cells ((sortTo5 n r).map (C.int .i64)) true])) 5]
  · simp [formL]
  · simp [sortTo5]; rfl
  · intro n hn
    have hn' : ((n : Int) + 1) < 6 := by omega
    have wn : IntKind.i64.wrap ((n : Int) + 1 + 1) = (n : Int) + 1 + 1 := by rw [wrapI (by omega) (by omega)]
    simp [hn']
    have hR := sortTo5_len hr n (by omega)
    have hF := sink_facts (n + 1) (sortTo5 n r)
    have hK := sinkK_le (n + 1) (sortTo5 n r)
    have hL := fun i hi => sinkI_len hR (j := n + 1) (by omega) i hi
    have e5 : sortTo5 (n + 1) r = sinkT (n + 1) (sortTo5 n r) := rfl
    rw [e5]
    generalize sortTo5 n r = R at *
    obtain ⟨f1, f2, f3⟩ := hF
    rw [loop_to (fun i => ([(0, V.c (C.sl 0 0 6 4)), (1, V.c (C.int .i64 0)), (2, V.c (C.int .i64 6)), (3, V.c (C.fn 172 [])), (8, V.c (C.int .i64 ((n : Int) + 1))), (9, V.c (C.int .i64 ((n + 1 - i : Nat) : Int)))], [Blk.cells ((sinkI (n + 1) R i).map (C.int .i64)) true])) (sinkK (n + 1) R)]
    · obtain ⟨J, hJ⟩ : ∃ J, n + 1 - sinkK (n + 1) R = J := ⟨_, rfl⟩
      have gl := hL _ hK
      rw [f1]
      rw [hJ] at f3 ⊢
      generalize sinkI (n + 1) R (sinkK (n + 1) R) = Q at *
      cases J with
      | zero => simp [gl, wn]
      | succ J =>
        have g2 : ¬ cmpT (tubeAt Q (J + 1)) (tubeAt Q J) < 0 := by
          rcases f3 with f3 | f3
          · omega
          · exact f3
        have hJ6 : J + 1 < 6 := by omega
        have hc := callA_pure (c_cmpTubes (tubeAt Q (J + 1)) (tubeAt Q J) (tubeAt_len gl (by omega)) (tubeAt_len gl (by omega))) (by simp) (by simp)
        have w9 : IntKind.i64.wrap (J : Int) = (J : Int) := wrapI (by omega) (by omega)
        have p1 : (0 : Int) < (J : Int) + 1 := by omega
        have p2 : ((J : Int) + 1) < 6 := by omega
        have p3 : (J : Int) < 6 := by omega
        have p4 : (0 : Int) ≤ (J : Int) + 1 := by omega
        have tn : ((J : Int) + 1).toNat = J + 1 := by omega
        have c1 := tube_cells gl (i := J + 1) (by omega)
        have c2 := tube_cells gl (i := J) (by omega)
        have l1 : (J + 1) * 4 + 4 ≤ 24 := by omega
        have l2 : J * 4 + 4 ≤ 24 := by omega
        simp [gl, hc, w9, p1, p2, p3, p4, tn, c1, c2, l1, l2, g2, wn]
    · simp [sinkI]
    · intro i hi
      obtain ⟨J, hJ⟩ : ∃ J, n + 1 - i = J + 1 := ⟨n - i, by omega⟩
      have hJ6 : J + 1 < 6 := by omega
      have g2 := f2 i hi
      have gl := hL i (by omega)
      have eI : sinkI (n + 1) R (i + 1) = swapT (sinkI (n + 1) R i) J := by
        show swapT (sinkI (n + 1) R i) (n + 1 - i - 1) = _
        rw [show n + 1 - i - 1 = J by omega]
      rw [hJ, show J + 1 - 1 = J by omega] at g2
      rw [hJ, eI, show n + 1 - (i + 1) = J by omega]
      generalize sinkI (n + 1) R i = Q at *
      have hc := callA_pure (c_cmpTubes (tubeAt Q (J + 1)) (tubeAt Q J) (tubeAt_len gl (by omega)) (tubeAt_len gl (by omega))) (by simp) (by simp)
      have w9 : IntKind.i64.wrap (J : Int) = (J : Int) := wrapI (by omega) (by omega)
      have q1 := tubeAt_len gl (i := J + 1) (by omega)
      have q2 := tubeAt_len gl (i := J) (by omega)
      have s1 := setAt_tube gl (i := J + 1) (by omega) q2
      have gl2 := layT_len gl (i := J + 1) (by omega) q2
      have s2 := setAt_tube gl2 (i := J) (by omega) q1
      have p1 : (0 : Int) < (J : Int) + 1 := by omega
      have p2 : ((J : Int) + 1) < 6 := by omega
      have p3 : (J : Int) < 6 := by omega
      have p4 : (0 : Int) ≤ (J : Int) + 1 := by omega
      have tn : ((J : Int) + 1).toNat = J + 1 := by omega
      have c1 := tube_cells gl (i := J + 1) (by omega)
      have c2 := tube_cells gl (i := J) (by omega)
      have l1 : (J + 1) * 4 + 4 ≤ 24 := by omega
      have l2 : J * 4 + 4 ≤ 24 := by omega
      simp [gl, hc, w9, p1, p2, p3, p4, tn, c1, c2, l1, l2, g2, q1, q2, s1, gl2, s2, swapT]
end Go.Proofs.YtgpafbbnobanbaaGreatDoor.AM
/- Contracts: sorting by the library, the form of a rack. -/
namespace Go.Proofs.YtgpafbbnobanbaaGreatDoor.AM
open Go
set_option maxRecDepth 1000000
set_option linter.unusedSimpArgs false
set_option linter.unusedVariables false
theorem formL_len {r : List Int} (hr : r.length = 24) : (formL r).length = 24 := sortTo5_len hr 5 (by omega)
theorem c_bits6 : fnI pr np 204 [.c (.int .u64 6)] [] = some (.c (.int .i64 3), []) := (fnI_iff pr np).2 ⟨30, by kernel_rfl⟩
theorem c_pdq (r : List Int) (hr : r.length = 24) : fnI pr np 203 [.c (.sl 0 0 6 4), .c (.int .i64 0), .c (.int .i64 6), .c (.int .i64 3), .c (.fn 172 [])] [.cells (r.map (C.int .i64)) true] = some (.tup [], [.cells ((formL r).map (C.int .i64)) true]) := by
  have h1 := fun base => callA_front (F := fnI pr np) (f := 223) (args := [.c (.sl 0 0 6 4), .c (.int .i64 0), .c (.int .i64 6), .c (.fn 172 [])]) (h := [.cells (r.map (C.int .i64)) true]) (G := []) (by simp) (by simp) (by simp) (c_insSort r hr) (by simp) (by simp) (by simp) base
  simp only [List.append_nil] at h1
  rw [fb (fn := a203) rfl rfl rfl]
  simp [a203, exI_loop', gcE_one, hr, h1, IntKind.wrap, IntKind.bits, IntKind.signed]
theorem c_sortFunc (r : List Int) (hr : r.length = 24) : fnI pr np 171 [.c (.sl 0 0 6 4), .c (.fn 172 [])] [.cells (r.map (C.int .i64)) true] = some (.tup [], [.cells ((formL r).map (C.int .i64)) true]) := by
  have h0 := callA_pure c_bits6 (by simp) (by simp)
  have h1 := fun base => callA_front (F := fnI pr np) (f := 203) (args := [.c (.sl 0 0 6 4), .c (.int .i64 0), .c (.int .i64 6), .c (.int .i64 3), .c (.fn 172 [])]) (h := [.cells (r.map (C.int .i64)) true]) (G := []) (by simp) (by simp) (by simp) (c_pdq r hr) (by simp) (by simp) (by simp) base
  simp only [List.append_nil] at h1
  rw [fb (fn := a171) rfl rfl rfl]
  simp [a171, hr, h0, h1, IntKind.wrap, IntKind.bits, IntKind.signed]
theorem c_formOf (r : List Int) (hr : r.length = 24) : fnI pr np 127 [.agg (r.map (C.int .i64))] [] = some (.agg ((formL r).map (C.int .i64)), []) := by
  have h24 := take24 hr
  have hl := formL_len hr
  have h24' := take24 hl
  have h1 := fun (G : Heap) base => callA_front (F := fnI pr np) (f := 171) (args := [.c (.sl 0 0 6 4), .c (.fn 172 [])]) (h := [.cells (r.map (C.int .i64)) true]) (G := G) (by simp) (by simp) (by simp) (c_sortFunc r hr) (by simp) (by simp) (by simp) base
  simp only [List.cons_append, List.nil_append] at h1
  rw [fb (fn := a127) rfl rfl rfl]
  simp [a127, hr, hl, h1, h24, h24', setAt_all]
end Go.Proofs.YtgpafbbnobanbaaGreatDoor.AM
/- Contracts: the game to the end. -/
namespace Go.Proofs.YtgpafbbnobanbaaGreatDoor.AM
open Go
set_option maxRecDepth 1000000
set_option linter.unusedSimpArgs false
set_option linter.unusedVariables false
/-- a valid rack -/
theorem rackOK {r : List Int} (hr : r.length = 24) (h : okRack r = true) : RackOK r := ⟨hr, (rack_eq r hr).trans h⟩
theorem c_rack_spec (r : List Int) (hr : r.length = 24) : fnI pr np 45 [.agg (r.map (C.int .i64))] [] = some (.c (.bool (okRack r)), []) := c_spec_l2Rack r hr
def inB (n a b : Int) : Bool := decide (a ≤ n) && decide (n ≤ b)
end Go.Proofs.YtgpafbbnobanbaaGreatDoor.AM
/- Contracts: sorted racks. -/
namespace Go.Proofs.YtgpafbbnobanbaaGreatDoor.AM
open Go
set_option maxRecDepth 1000000
set_option linter.unusedSimpArgs false
set_option linter.unusedVariables false
/-- a sorted rack: tubes of one run at most, each of a color of its own -/
def sortTo (r : List Int) (seen : List Int) (i : Nat) : Nat → Bool
  | 0 => true
  | d + 1 => match runsOf (tubeAt r i) with
    | [] => sortTo r seen (i + 1) d
    | [p] => !decide (p.1 ∈ seen) && sortTo r (seen ++ [p.1]) (i + 1) d
    | _ :: _ :: _ => false
def sortP (r : List Int) : Bool := sortTo r [] 0 6
theorem runs_colT : allT (fun t => (runsOf t).all fun p => decide (1 ≤ p.1) && decide (p.1 ≤ 5)) = true := by kernel_rfl
theorem run_col {t : List Int} (ht : t.length = 4) (hv : tubeP t = true) {p : Int × Int} (hp : p ∈ runsOf t) : ∃ c : Nat, p.1 = (c : Int) ∧ 1 ≤ c ∧ c ≤ 5 := by
  have := List.all_eq_true.1 (tubes_all runs_colT ht hv) p hp
  simp only [Bool.and_eq_true, decide_eq_true_eq] at this
  exact ⟨p.1.toNat, by omega, by omega, by omega⟩
def seenB (s : List Int) : List C := [C.bool (decide (0 ∈ s)), C.bool (decide (1 ∈ s)), C.bool (decide (2 ∈ s)), C.bool (decide (3 ∈ s)), C.bool (decide (4 ∈ s)), C.bool (decide (5 ∈ s))]
@[simp] theorem seenB_len (s : List Int) : (seenB s).length = 6 := rfl
@[simp] theorem seenB_ids (s : List Int) : cids (seenB s) = [] := rfl
@[simp] theorem seenB_cmp (g : Nat → Nat) (s : List Int) : cmp g (seenB s) = seenB s := rfl
theorem seenB_get (s : List Int) {c : Nat} (hc : c ≤ 5) : ((seenB s).drop c).take 1 = [C.bool (decide ((c : Int) ∈ s))] := by
  have : c = 0 ∨ c = 1 ∨ c = 2 ∨ c = 3 ∨ c = 4 ∨ c = 5 := by omega
  rcases this with rfl | rfl | rfl | rfl | rfl | rfl <;> rfl
theorem seenB_set (s : List Int) {c : Nat} (hc : c ≤ 5) : (seenB s).set c (C.bool true) = seenB (s ++ [(c : Int)]) := by
  have : c = 0 ∨ c = 1 ∨ c = 2 ∨ c = 3 ∨ c = 4 ∨ c = 5 := by omega
  rcases this with rfl | rfl | rfl | rfl | rfl | rfl <;> simp [seenB]
theorem c_impl_isSorted (r : List Int) (h : RackOK r) : fnI pr np 69 [.agg (r.map (C.int .i64))] [] = some (.c (.bool (sortP r)), []) := by
  have hr := h.len
  have h24 := take24 hr
  have hs0 : [C.bool false, C.bool false, C.bool false, C.bool false, C.bool false, C.bool false] = seenB [] := rfl
  rw [fb (fn := a69) rfl rfl rfl]
  simp [a69, hr, h24]
  rw [hs0]
  generalize hL : (ACode.loop _ _) = L
  generalize hR : (ACode.seq _ ACode.ret) = R
  have key : ∀ (d i : Nat) (s : List Int) (e : Env) (g : Heap), i + d = 6 → gcE 0 [3, 8, 9] e g = some ([(3, V.c (C.ptr 0 0)), (8, V.agg (r.map (C.int .i64))), (9, V.c (C.int .i64 i))], [Blk.cells (seenB s) true]) → leaveK 0 [RV.t 2] (seqK pr np 0 R (blockK 0 (exI pr np 0 L e g))) = some (V.c (C.bool (sortTo r s i d)), []) := by
    intro d
    induction d with
    | zero =>
      intro i s e g hi hg
      have hi : i = 6 := by omega
      subst hi
      rw [← hL, exI_loop', hg]
      simp [sortTo, ← hR]
    | succ d ih =>
      intro i s e g hin hg
      have hi : i < 6 := by omega
      have hi' : (i : Int) < 6 := by omega
      have ht4 := h.t4 hi
      have htv := h.tv hi
      have hlen : i * 4 + 4 ≤ 24 := by omega
      have hcall := callA_new (runs_i _ ht4 htv) (by simp)
      have hm := cells_tube r i
      have hw := wrapS (k := i) (by omega)
      have htl : (tubeAt r i).length = 4 := ht4
      have ht44 : ((tubeAt r i).map (C.int .i64)).take 4 = (tubeAt r i).map (C.int .i64) := List.take_of_length_le (by simp; omega)
      rw [← hL, exI_loop', hg]
      cases hq : runsOf (tubeAt r i) with
      | nil =>
        have hst : sortTo r s i (d + 1) = sortTo r s (i + 1) d := by simp [sortTo, hq]
        simp [hi, hi', hr, hlen, hm, hcall, hw, runsV, runsC, hq, htl, ht44, setAt_all]
        rw [hL, hst]
        exact ih (i + 1) s _ _ (by omega) (by simp [sub])
      | cons p q =>
        cases q with
        | nil =>
          obtain ⟨c, hc, hc1, hc5⟩ := run_col ht4 htv (p := p) (by rw [hq]; simp)
          have hc6 : (c : Int) < 6 := by omega
          have hc6' : c < 6 := by omega
          have hst : sortTo r s i (d + 1) = (!decide ((c : Int) ∈ s) && sortTo r (s ++ [(c : Int)]) (i + 1) d) := by simp [sortTo, hq, hc]
          have hg := seenB_get s hc5
          have hset := seenB_set s hc5
          by_cases hps : (c : Int) ∈ s
          · rw [decide_eq_true hps] at hg
            simp [hi, hi', hr, hlen, hm, hcall, hw, runsV, runsC, hq, htl, ht44, setAt_all, hc, hc6, hc6', hc5, hg, hps, hst]
          · rw [decide_eq_false hps] at hg
            have hc61 : c + 1 ≤ 6 := by omega
            simp [hi, hi', hr, hlen, hm, hcall, hw, runsV, runsC, hq, htl, ht44, setAt_all, setAt, hc, hc6, hc6', hc61, hc5, hg, hps, hst, hset]
            rw [hL]
            exact ih (i + 1) (s ++ [(c : Int)]) _ _ (by omega) (by simp [sub])
        | cons p2 q =>
          have hst : sortTo r s i (d + 1) = false := by simp [sortTo, hq]
          have hgt : (1 : Int) < (q.length : Int) + 1 + 1 := by omega
          have hne : ¬ (q.length : Int) + 1 + 1 = 0 := by omega
          simp [hi, hi', hr, hlen, hm, hcall, hw, runsV, runsC, hq, htl, ht44, setAt_all, hst, hgt, hne]
  exact key 6 0 [] _ _ rfl (by simp [sub])
end Go.Proofs.YtgpafbbnobanbaaGreatDoor.AM
/- Racks by their runs, pours, and ways: plain definitions. -/
namespace Go.Proofs.YtgpafbbnobanbaaGreatDoor.Way
set_option linter.unusedSimpArgs false
set_option linter.unusedVariables false
abbrev Tube := List (Nat × Nat)
abbrev Rack := Nat → Tube
def size : Tube → Nat
  | [] => 0
  | (_, n) :: t => n + size t
def upd (X : Rack) (i : Nat) (t : Tube) : Rack := fun k => if k = i then t else X k
theorem upd_same (X : Rack) (i : Nat) (t : Tube) : upd X i t i = t := by simp [upd]
theorem upd_ne {X : Rack} {i k : Nat} {t : Tube} (h : k ≠ i) : upd X i t k = X k := by simp [upd, h]
theorem upd_comm {X : Rack} {i j : Nat} {s t : Tube} (h : i ≠ j) : upd (upd X i s) j t = upd (upd X j t) i s := by
  funext k; simp only [upd]; split <;> split <;> simp_all
theorem upd_upd {X : Rack} {i : Nat} {s t : Tube} : upd (upd X i s) i t = upd X i t := by
  funext k; simp only [upd]; split <;> simp_all
theorem upd_self {X : Rack} {i : Nat} {t : Tube} (h : X i = t) : upd X i t = X := by
  funext k; simp only [upd]; split <;> simp_all
/-- The rack behind a pour that is useful. -/
def pourR (X : Rack) (i j : Nat) : Option Rack :=
  if i = j then none else
  match X i with
  | [] => none
  | (c, n) :: A =>
    match X j with
    | [] => if A = [] then none else some (upd (upd X i A) j [(c, n)])
    | (d, p) :: B =>
      if c = d ∧ p + size B < 4 then
        if p + size B + n ≤ 4 then some (upd (upd X i A) j ((c, p + n) :: B))
        else some (upd (upd X i ((c, n - (4 - (p + size B))) :: A)) j ((c, p + (4 - (p + size B))) :: B))
      else none
def sortedB (X : Rack) : Bool := (List.range 6).all fun i => decide ((X i).length ≤ 1) && (List.range 6).all fun j => decide (i = j) || (match X i, X j with | (c, _) :: _, (d, _) :: _ => decide (c ≠ d) | _, _ => true)
def Reach : Nat → Rack → Prop
  | 0, X => sortedB X = true
  | m + 1, X => ∃ i j Y, i < 6 ∧ j < 6 ∧ pourR X i j = some Y ∧ Reach m Y
def Le (m : Nat) (X : Rack) : Prop := ∃ k, k ≤ m ∧ Reach k X
theorem Le.mono {m n : Nat} {X : Rack} (h : Le m X) (e : m ≤ n) : Le n X := by
  obtain ⟨k, a, b⟩ := h; exact ⟨k, by omega, b⟩
theorem Le.step {m i j : Nat} {X Y : Rack} (hi : i < 6) (hj : j < 6) (h : pourR X i j = some Y) (hy : Le m Y) : Le (m + 1) X := by
  obtain ⟨k, a, b⟩ := hy; exact ⟨k + 1, by omega, i, j, Y, hi, hj, h, b⟩
def sum6 (f : Nat → Nat) : Nat := f 0 + f 1 + f 2 + f 3 + f 4 + f 5
def K : Nat → Rack → Nat
  | 0, X => if sortedB X then 1 else 0
  | m + 1, X => sum6 fun i => sum6 fun j => match pourR X i j with
    | none => 0
    | some Y => K m Y
theorem six {i : Nat} (h : i < 6) : i = 0 ∨ i = 1 ∨ i = 2 ∨ i = 3 ∨ i = 4 ∨ i = 5 := by omega
theorem sum6_pos {f : Nat → Nat} : 0 < sum6 f ↔ ∃ i, i < 6 ∧ 0 < f i := by
  constructor
  · intro h
    simp only [sum6] at h
    rcases Nat.eq_zero_or_pos (f 0) with a | a
    · rcases Nat.eq_zero_or_pos (f 1) with b | b
      · rcases Nat.eq_zero_or_pos (f 2) with c | c
        · rcases Nat.eq_zero_or_pos (f 3) with d | d
          · rcases Nat.eq_zero_or_pos (f 4) with e | e
            · exact ⟨5, by omega, by omega⟩
            · exact ⟨4, by omega, e⟩
          · exact ⟨3, by omega, d⟩
        · exact ⟨2, by omega, c⟩
      · exact ⟨1, by omega, b⟩
    · exact ⟨0, by omega, a⟩
  · rintro ⟨i, hi, h⟩
    rcases six hi with rfl | rfl | rfl | rfl | rfl | rfl <;> simp only [sum6] <;> omega
theorem sum6_le {f g : Nat → Nat} (h : ∀ i, i < 6 → f i ≤ g i) : sum6 f ≤ sum6 g := by
  have h0 := h 0 (by omega); have h1 := h 1 (by omega); have h2 := h 2 (by omega)
  have h3 := h 3 (by omega); have h4 := h 4 (by omega); have h5 := h 5 (by omega)
  simp only [sum6]; omega
theorem sum6_congr {f g : Nat → Nat} (h : ∀ i, i < 6 → f i = g i) : sum6 f = sum6 g := by
  have h0 := h 0 (by omega); have h1 := h 1 (by omega); have h2 := h 2 (by omega)
  have h3 := h 3 (by omega); have h4 := h 4 (by omega); have h5 := h 5 (by omega)
  simp only [sum6, h0, h1, h2, h3, h4, h5]
theorem sum6_swap (f : Nat → Nat → Nat) : (sum6 fun i => sum6 fun j => f i j) = sum6 fun j => sum6 fun i => f i j := by
  simp only [sum6]; omega
theorem K_pos : ∀ (m : Nat) (X : Rack), 0 < K m X ↔ Reach m X
  | 0, X => by simp only [K, Reach]; split <;> simp_all
  | m + 1, X => by
    simp only [K, Reach]
    rw [sum6_pos]
    constructor
    · rintro ⟨i, hi, h⟩
      obtain ⟨j, hj, h⟩ := sum6_pos.1 h
      cases e : pourR X i j with
      | none => simp [e] at h
      | some Y => rw [e] at h; exact ⟨i, j, Y, hi, hj, e, (K_pos m Y).1 h⟩
    · rintro ⟨i, j, Y, hi, hj, e, h⟩
      exact ⟨i, hi, sum6_pos.2 ⟨j, hj, by rw [e]; exact (K_pos m Y).2 h⟩⟩
/-- A sorted rack has no color on two tubes. -/
theorem sorted_tops {X : Rack} (h : sortedB X = true) {u v c p q : Nat} {A B : Tube} (hu : u < 6) (hv : v < 6) (huv : u ≠ v) (eu : X u = (c, p) :: A) (ev : X v = (c, q) :: B) : False := by
  simp only [sortedB, List.all_eq_true, List.mem_range, Bool.and_eq_true, Bool.or_eq_true, decide_eq_true_eq] at h
  have := (h u hu).2 v hv
  simp [eu, ev, huv] at this
/-- A run put on a tube. -/
def put (S : Rack) (u : Nat) (r : Nat × Nat) : Rack := upd S u (r :: S u)
def no (c : Nat) (t : Tube) : Prop := ∀ r, r ∈ t → r.1 ≠ c
def cnt (c : Nat) : Tube → Nat
  | [] => 0
  | (d, _) :: t => (if d = c then 1 else 0) + cnt c t
def tot (f : Tube → Nat) (S : Rack) : Nat := sum6 fun i => f (S i)
theorem tot_upd {f : Tube → Nat} {S : Rack} {i : Nat} {t : Tube} (hi : i < 6) : tot f (upd S i t) + f (S i) = tot f S + f t := by
  rcases six hi with rfl | rfl | rfl | rfl | rfl | rfl <;> simp [tot, sum6, upd] <;> omega
theorem tot_get {f : Tube → Nat} {S : Rack} {i : Nat} (hi : i < 6) : f (S i) ≤ tot f S := by
  rcases six hi with rfl | rfl | rfl | rfl | rfl | rfl <;> simp only [tot, sum6] <;> omega
end Go.Proofs.YtgpafbbnobanbaaGreatDoor.Way
/- Pours on racks by their runs; racks that differ in the split of a color between two tops. -/
namespace Go.Proofs.YtgpafbbnobanbaaGreatDoor.Way
set_option linter.unusedSimpArgs false
set_option linter.unusedVariables false
theorem pour_inv {X Y : Rack} {i j : Nat} (h : pourR X i j = some Y) : i ≠ j ∧ ∃ c n A, X i = (c, n) :: A ∧ ((X j = [] ∧ A ≠ [] ∧ Y = upd (upd X i A) j [(c, n)]) ∨ (∃ p B, X j = (c, p) :: B ∧ p + size B < 4 ∧ p + size B + n ≤ 4 ∧ Y = upd (upd X i A) j ((c, p + n) :: B)) ∨ ∃ p B, X j = (c, p) :: B ∧ p + size B < 4 ∧ 4 < p + size B + n ∧ Y = upd (upd X i ((c, n - (4 - (p + size B))) :: A)) j ((c, p + (4 - (p + size B))) :: B)) := by
  unfold pourR at h
  by_cases hij : i = j
  · simp [hij] at h
  rw [if_neg hij] at h
  refine ⟨hij, ?_⟩
  cases e : X i with
  | nil => rw [e] at h; simp at h
  | cons r A =>
    obtain ⟨c, n⟩ := r
    rw [e] at h
    refine ⟨c, n, A, rfl, ?_⟩
    cases e2 : X j with
    | nil =>
      rw [e2] at h
      by_cases hA : A = []
      · simp [hA] at h
      · simp only [if_neg hA, Option.some.injEq] at h
        exact .inl ⟨rfl, hA, h.symm⟩
    | cons r B =>
      obtain ⟨d, p⟩ := r
      rw [e2] at h
      by_cases hc : c = d ∧ p + size B < 4
      · obtain ⟨rfl, h2⟩ := hc
        by_cases h3 : p + size B + n ≤ 4
        · simp only [h2, and_self, if_true, h3, Option.some.injEq] at h
          exact .inr (.inl ⟨p, B, rfl, h2, h3, h.symm⟩)
        · simp only [h2, and_self, if_true, h3, if_false, Option.some.injEq] at h
          exact .inr (.inr ⟨p, B, rfl, h2, by omega, h.symm⟩)
      · simp only [if_neg hc] at h
        cases h
theorem pour_E {X : Rack} {i j c n : Nat} {A : Tube} (hij : i ≠ j) (e : X i = (c, n) :: A) (e2 : X j = []) (hA : A ≠ []) : pourR X i j = some (upd (upd X i A) j [(c, n)]) := by
  unfold pourR; rw [if_neg hij, e, e2]; simp [hA]
theorem pour_M {X : Rack} {i j c n p : Nat} {A B : Tube} (hij : i ≠ j) (e : X i = (c, n) :: A) (e2 : X j = (c, p) :: B) (h : p + size B < 4) (h2 : p + size B + n ≤ 4) : pourR X i j = some (upd (upd X i A) j ((c, p + n) :: B)) := by
  unfold pourR; rw [if_neg hij, e, e2]; simp [h, h2]
theorem pour_P {X : Rack} {i j c n p : Nat} {A B : Tube} (hij : i ≠ j) (e : X i = (c, n) :: A) (e2 : X j = (c, p) :: B) (h : p + size B < 4) (h2 : 4 < p + size B + n) : pourR X i j = some (upd (upd X i ((c, n - (4 - (p + size B))) :: A)) j ((c, p + (4 - (p + size B))) :: B)) := by
  unfold pourR; rw [if_neg hij, e, e2]; simp [h, Nat.not_le.2 h2]
theorem put_ne {S : Rack} {u k : Nat} {r : Nat × Nat} (h : k ≠ u) : put S u r k = S k := upd_ne h
theorem put_same {S : Rack} {u : Nat} {r : Nat × Nat} : put S u r u = r :: S u := upd_same _ _ _
theorem put_comm {S : Rack} {u v : Nat} {a b : Nat × Nat} (h : u ≠ v) : put (put S u a) v b = put (put S v b) u a := by
  have e1 : put S u a v = S v := put_ne fun e => h e.symm
  have e2 : put S v b u = S u := put_ne h
  show upd (upd S u (a :: S u)) v (b :: put S u a v) = upd (upd S v (b :: S v)) u (a :: put S v b u)
  rw [e1, e2, upd_comm h]
theorem pour_put {S : Rack} {u i j : Nat} {r : Nat × Nat} (hi : i ≠ u) (hj : j ≠ u) : pourR (put S u r) i j = (pourR S i j).map fun T => put T u r := by
  have key : ∀ (s t : Tube), upd (upd (put S u r) i s) j t = put (upd (upd S i s) j t) u r := by
    intro s t
    funext k
    simp only [put, upd]
    by_cases a : k = u
    · subst a
      simp [Ne.symm hi, Ne.symm hj]
    · simp [a]
  unfold pourR
  rw [put_ne hi, put_ne hj]
  by_cases hij : i = j
  · simp [hij]
  simp only [if_neg hij]
  cases S i with
  | nil => rfl
  | cons x A =>
    obtain ⟨c, n⟩ := x
    cases S j with
    | nil => by_cases hA : A = [] <;> simp [hA, key]
    | cons y B =>
      obtain ⟨d, p⟩ := y
      by_cases h1 : c = d ∧ p + size B < 4
      · by_cases h2 : p + size B + n ≤ 4 <;> simp [h1, h2, key]
      · simp only [if_neg h1, Option.map_none]
/-- No tube has the color. -/
def none_ (c : Nat) (S : Rack) : Prop := ∀ k, k < 6 → no c (S k)
theorem no_tail {c : Nat} {r : Nat × Nat} {t : Tube} (h : no c (r :: t)) : no c t := fun x hx => h x (List.mem_cons_of_mem _ hx)
theorem none_upd {c i : Nat} {S : Rack} {t : Tube} (h : none_ c S) (ht : no c t) : none_ c (upd S i t) := by
  intro k hk
  simp only [upd]; split
  · exact ht
  · exact h k hk
theorem none_pour {c : Nat} {S T : Rack} {i j : Nat} (hi : i < 6) (hj : j < 6) (h : none_ c S) (e : pourR S i j = some T) : none_ c T := by
  obtain ⟨hij, d, n, A, ei, r⟩ := pour_inv e
  have hA : no c ((d, n) :: A) := ei ▸ h i hi
  have hd : d ≠ c := hA (d, n) (List.mem_cons_self ..)
  have hB := h j hj
  have cons : ∀ (m : Nat) (t : Tube), no c t → no c ((d, m) :: t) := by
    intro m t ht x hx
    rcases List.mem_cons.1 hx with rfl | hx
    · exact hd
    · exact ht x hx
  rcases r with ⟨e2, hne, rfl⟩ | ⟨p, B, e2, h1, h2, rfl⟩ | ⟨p, B, e2, h1, h2, rfl⟩
  · exact none_upd (none_upd h (no_tail hA)) (cons _ _ fun x hx => by cases hx)
  · rw [e2] at hB
    exact none_upd (none_upd h (no_tail hA)) (cons _ _ (no_tail hB))
  · rw [e2] at hB
    exact none_upd (none_upd h (cons _ _ (no_tail hA))) (cons _ _ (no_tail hB))
/-- The racks behind full pours, told by the racks without the two runs. -/
theorem out_E {S : Rack} {u v j : Nat} {a b : Nat × Nat} (huv : u ≠ v) (hju : j ≠ u) (hjv : j ≠ v) (e : S j = []) : upd (upd (put (put S u a) v b) u (S u)) j [a] = put (put S j a) v b := by
  funext k
  simp only [put, upd]
  by_cases k1 : k = j
  · subst k1; simp [hjv, hju, e]
  · by_cases k2 : k = v
    · subst k2; simp [k1, Ne.symm huv, Ne.symm hjv]
    · by_cases k3 : k = u
      · subst k3; simp [k1, k2]
      · simp [k1, k2, k3]
theorem out_M {S : Rack} {u v : Nat} {a b : Nat × Nat} {t : Tube} (huv : u ≠ v) : upd (upd (put (put S u a) v b) u (S u)) v t = upd S v t := by
  funext k
  simp only [put, upd]
  by_cases k2 : k = v
  · subst k2; simp
  · by_cases k3 : k = u
    · subst k3; simp [k2]
    · simp [k2, k3]
theorem out_P {S : Rack} {u v : Nat} {a b a' b' : Nat × Nat} (huv : u ≠ v) : upd (upd (put (put S u a) v b) u (a' :: S u)) v (b' :: S v) = put (put S u a') v b' := by
  funext k
  simp only [put, upd]
  by_cases k2 : k = v
  · subst k2; simp [Ne.symm huv]
  · by_cases k3 : k = u
    · subst k3; simp [k2]
    · simp [k2, k3]
theorem at_u {S : Rack} {u v : Nat} {a b : Nat × Nat} (huv : u ≠ v) : put (put S u a) v b u = a :: S u := by rw [put_ne huv, put_same]
theorem at_v {S : Rack} {u v : Nat} {a b : Nat × Nat} (huv : u ≠ v) : put (put S u a) v b v = b :: S v := by rw [put_same, put_ne (Ne.symm huv)]
theorem at_k {S : Rack} {u v k : Nat} {a b : Nat × Nat} (hu : k ≠ u) (hv : k ≠ v) : put (put S u a) v b k = S k := by rw [put_ne hv, put_ne hu]
theorem no_top {c d n : Nat} {t A : Tube} (h : no c t) (e : t = (d, n) :: A) : d ≠ c := by
  subst e; exact h (d, n) (List.mem_cons_self ..)
/-- With two runs of a color, both on tops, their split does not matter. -/
theorem rel2 : ∀ (m : Nat) (c : Nat) (S : Rack) (u v p q p' q' : Nat), u < 6 → v < 6 → u ≠ v → none_ c S → p + q = p' + q' → 1 ≤ p → 1 ≤ q → 1 ≤ p' → 1 ≤ q' → Reach m (put (put S u (c, p')) v (c, q')) → Le m (put (put S u (c, p)) v (c, q))
  | 0, c, S, u, v, p, q, p', q', hu, hv, huv, hS, hs, _, _, _, _, h => by
    exact (sorted_tops h hu hv huv (at_u huv) (at_v huv)).elim
  | m + 1, c, S, u, v, p, q, p', q', hu, hv, huv, hS, hs, h1, h2, h3, h4, h => by
    have ih := rel2 m
    -- a pour from the first of the two tubes
    have first : ∀ (u v p q p' q' : Nat), u < 6 → v < 6 → u ≠ v → p + q = p' + q' → 1 ≤ p → 1 ≤ q → 1 ≤ p' → 1 ≤ q' → ∀ (j : Nat) (Z : Rack), j < 6 → pourR (put (put S u (c, p')) v (c, q')) u j = some Z → Reach m Z → Le (m + 1) (put (put S u (c, p)) v (c, q)) := by
      intro u v p q p' q' hu hv huv hs h1 h2 h3 h4 j Z hj e hZ
      obtain ⟨hij, d, n, A, ei, r⟩ := pour_inv e
      rw [at_u huv] at ei
      injection ei with ei1 ei2
      injection ei1 with ei3 ei4
      subst ei2 ei3 ei4
      by_cases hjv : j = v
      · subst hjv
        rw [at_v huv] at r
        rcases r with ⟨e2, _⟩ | ⟨p0, B, e2, g1, g2, rfl⟩ | ⟨p0, B, e2, g1, g2, rfl⟩
        · cases e2
        · injection e2 with a1 a2
          injection a1 with _ a3
          subst a2 a3
          refine Le.step hu hj (pour_M (n := p) (p := q) huv (at_u huv) (at_v huv) (by omega) (by omega)) ⟨m, Nat.le_refl _, ?_⟩
          rw [out_M huv] at hZ ⊢
          rw [show q + p = q' + p' by omega]
          exact hZ
        · injection e2 with a1 a2
          injection a1 with _ a3
          subst a2 a3
          rw [out_P huv] at hZ
          exact (ih c S u j p q _ _ hu hj huv hS (by omega) h1 h2 (by omega) (by omega) hZ).mono (by omega)
      · have hju : j ≠ u := fun e => hij e.symm
        rw [at_k hju hjv] at r
        rcases r with ⟨e2, hA, rfl⟩ | ⟨p0, B, e2, _⟩ | ⟨p0, B, e2, _⟩
        · rw [out_E huv hju hjv e2] at hZ
          refine Le.step hu hj (pour_E (Ne.symm hju) (at_u huv) (by rw [at_k hju hjv]; exact e2) hA) ?_
          rw [out_E huv hju hjv e2]
          exact ih c S j v p q p' q' hj hv hjv hS hs h1 h2 h3 h4 hZ
        · exact (no_top (hS j hj) e2 rfl).elim
        · exact (no_top (hS j hj) e2 rfl).elim
    obtain ⟨i, j, Z, hi, hj, e, hZ⟩ := h
    by_cases hiu : i = u
    · subst hiu; exact first i v p q p' q' hu hv huv hs h1 h2 h3 h4 j Z hj e hZ
    by_cases hiv : i = v
    · subst hiv
      rw [put_comm huv] at e ⊢
      exact first i u q p q' p' hv hu (Ne.symm huv) (by omega) h2 h1 h4 h3 j Z hj e hZ
    by_cases hju : j = u
    · subst hju
      obtain ⟨_, d, n, A, ei, r⟩ := pour_inv e
      rw [at_u huv] at r
      rw [at_k hiu hiv] at ei
      rcases r with ⟨e2, _⟩ | ⟨p0, B, e2, _⟩ | ⟨p0, B, e2, _⟩
      · cases e2
      · injection e2 with a1 a2
        injection a1 with a3 _
        exact (no_top (hS i hi) ei a3.symm).elim
      · injection e2 with a1 a2
        injection a1 with a3 _
        exact (no_top (hS i hi) ei a3.symm).elim
    by_cases hjv : j = v
    · subst hjv
      obtain ⟨_, d, n, A, ei, r⟩ := pour_inv e
      rw [at_v huv] at r
      rw [at_k hiu hiv] at ei
      rcases r with ⟨e2, _⟩ | ⟨p0, B, e2, _⟩ | ⟨p0, B, e2, _⟩
      · cases e2
      · injection e2 with a1 a2
        injection a1 with a3 _
        exact (no_top (hS i hi) ei a3.symm).elim
      · injection e2 with a1 a2
        injection a1 with a3 _
        exact (no_top (hS i hi) ei a3.symm).elim
    rw [pour_put hiv hjv, pour_put hiu hju] at e
    cases eS : pourR S i j with
    | none => rw [eS] at e; cases e
    | some T =>
      rw [eS] at e
      simp only [Option.map_some, Option.some.injEq] at e
      subst e
      refine Le.step hi hj (Y := put (put T u (c, p)) v (c, q)) (by rw [pour_put hiv hjv, pour_put hiu hju, eS]; rfl) ?_
      exact ih c T u v p q p' q' hu hv huv (none_pour hi hj hS eS) hs h1 h2 h3 h4 hZ
end Go.Proofs.YtgpafbbnobanbaaGreatDoor.Way
/- Racks that differ in the split of a color of three runs. -/
namespace Go.Proofs.YtgpafbbnobanbaaGreatDoor.Way
set_option linter.unusedSimpArgs false
set_option linter.unusedVariables false
theorem cnt_no {c : Nat} : ∀ {t : Tube}, cnt c t = 0 → no c t
  | [], _ => fun x hx => by cases hx
  | (d, n) :: t, h => by
    simp only [cnt] at h
    have hd : d ≠ c := by intro e; simp [e] at h
    intro x hx
    rcases List.mem_cons.1 hx with rfl | hx
    · exact hd
    · exact cnt_no (t := t) (by omega) x hx
/-- Just one run of the color, of one layer. -/
def one (c : Nat) (S : Rack) : Prop := tot (cnt c) S = 1 ∧ ∀ k, k < 6 → ∀ r, r ∈ S k → r.1 = c → r.2 = 1
theorem tot_zero {c : Nat} {S : Rack} (h : tot (cnt c) S = 0) : none_ c S := by
  intro k hk
  have := tot_get (f := cnt c) (S := S) hk
  exact cnt_no (by omega)
theorem one_top {c n k : Nat} {S : Rack} {D : Tube} (h : one c S) (hk : k < 6) (e : S k = (c, n) :: D) : n = 1 ∧ none_ c (upd S k D) ∧ S = put (upd S k D) k (c, 1) := by
  have hn : n = 1 := h.2 k hk (c, n) (by rw [e]; exact List.mem_cons_self ..) rfl
  subst hn
  refine ⟨rfl, tot_zero ?_, ?_⟩
  · have a := tot_upd (f := cnt c) (S := S) (t := D) hk
    rw [h.1, e] at a
    simp only [cnt, if_true] at a
    omega
  · show S = upd (upd S k D) k ((c, 1) :: upd S k D k)
    rw [upd_same, upd_upd, upd_self e]
theorem one_pour {c : Nat} {S T : Rack} {i j : Nat} (hi : i < 6) (hj : j < 6) (h : one c S) (e : pourR S i j = some T) : one c T := by
  obtain ⟨hij, d, n, A, ei, r⟩ := pour_inv e
  have sz : ∀ (i : Nat) (t : Tube) (S : Rack), (∀ k, k < 6 → ∀ r, r ∈ S k → r.1 = c → r.2 = 1) → (∀ r, r ∈ t → r.1 = c → r.2 = 1) → ∀ k, k < 6 → ∀ r, r ∈ upd S i t k → r.1 = c → r.2 = 1 := by
    intro i t S a b k hk r
    simp only [upd]; split
    · exact b r
    · exact a k hk r
  have sA : ∀ r, r ∈ A → r.1 = c → r.2 = 1 := fun r hr => h.2 i hi r (by rw [ei]; exact List.mem_cons_of_mem _ hr)
  have a1 := fun t => tot_upd (f := cnt c) (S := S) (t := t) hi
  have a2 := fun s t => tot_upd (f := cnt c) (S := upd S i s) (t := t) hj
  have a3 : ∀ s, upd S i s j = S j := fun s => upd_ne (Ne.symm hij)
  by_cases hd : d = c
  · subst hd
    obtain ⟨rfl, hT, hS⟩ := one_top h hi ei
    have nj : no d (S j) := by
      have := hT j hj
      rw [upd_ne (Ne.symm hij)] at this
      exact this
    rcases r with ⟨e2, hne, rfl⟩ | ⟨p, B, e2, h1, h2, rfl⟩ | ⟨p, B, e2, h1, h2, rfl⟩
    · refine ⟨?_, sz _ _ _ (sz _ _ _ h.2 sA) ?_⟩
      · have b1 := a1 A
        have b2 := a2 A [(d, 1)]
        rw [a3, e2] at b2
        rw [h.1, ei] at b1
        simp only [cnt, if_true] at b1 b2
        omega
      · intro r hr _
        rcases List.mem_cons.1 hr with rfl | hr
        · rfl
        · cases hr
    · exact (no_top nj e2 rfl).elim
    · exact (no_top nj e2 rfl).elim
  · rcases r with ⟨e2, hne, rfl⟩ | ⟨p, B, e2, h1, h2, rfl⟩ | ⟨p, B, e2, h1, h2, rfl⟩
    · refine ⟨?_, sz _ _ _ (sz _ _ _ h.2 sA) ?_⟩
      · have b1 := a1 A
        have b2 := a2 A [(d, n)]
        rw [a3, e2] at b2
        rw [h.1, ei] at b1
        simp only [cnt, if_neg hd] at b1 b2
        omega
      · intro r hr hc
        rcases List.mem_cons.1 hr with rfl | hr
        · exact (hd hc).elim
        · cases hr
    · have sB : ∀ r, r ∈ B → r.1 = c → r.2 = 1 := fun r hr => h.2 j hj r (by rw [e2]; exact List.mem_cons_of_mem _ hr)
      refine ⟨?_, sz _ _ _ (sz _ _ _ h.2 sA) ?_⟩
      · have b1 := a1 A
        have b2 := a2 A ((d, p + n) :: B)
        rw [a3, e2] at b2
        rw [h.1, ei] at b1
        simp only [cnt, if_neg hd] at b1 b2
        omega
      · intro r hr hc
        rcases List.mem_cons.1 hr with rfl | hr
        · exact (hd hc).elim
        · exact sB r hr hc
    · have sB : ∀ r, r ∈ B → r.1 = c → r.2 = 1 := fun r hr => h.2 j hj r (by rw [e2]; exact List.mem_cons_of_mem _ hr)
      refine ⟨?_, sz _ _ _ (sz _ _ _ h.2 ?_) ?_⟩
      · have b1 := a1 ((d, n - (4 - (p + size B))) :: A)
        have b2 := a2 ((d, n - (4 - (p + size B))) :: A) ((d, p + (4 - (p + size B))) :: B)
        rw [a3, e2] at b2
        rw [h.1, ei] at b1
        simp only [cnt, if_neg hd] at b1 b2
        omega
      · intro r hr hc
        rcases List.mem_cons.1 hr with rfl | hr
        · exact (hd hc).elim
        · exact sA r hr hc
      · intro r hr hc
        rcases List.mem_cons.1 hr with rfl | hr
        · exact (hd hc).elim
        · exact sB r hr hc
/-- Two racks that differ in the split of a color: 2 and 1, or 1 and 2. -/
def two1 (c : Nat) (S : Rack) (u v : Nat) : Rack := put (put S u (c, 2)) v (c, 1)
def one2 (c : Nat) (S : Rack) (u v : Nat) : Rack := put (put S u (c, 1)) v (c, 2)
/-- The rack behind a full pour of a top onto the third run. -/
theorem out_W2 {T : Rack} {u v k a b w x : Nat} {c : Nat} (huv : u ≠ v) (hku : k ≠ u) (hkv : k ≠ v) : upd (upd (put (put (put T k (c, w)) u (c, a)) v (c, b)) u (T u)) k ((c, x) :: T k) = put (put T v (c, b)) k (c, x) := by
  funext y
  simp only [put, upd]
  by_cases k1 : y = k
  · subst k1; simp [hkv, hku]
  · by_cases k2 : y = v
    · subst k2; simp [k1, Ne.symm huv]
    · by_cases k3 : y = u
      · subst k3; simp [k1, k2]
      · simp [k1, k2, k3]
end Go.Proofs.YtgpafbbnobanbaaGreatDoor.Way
/- What a pour can be where a color of three runs is split in two ways. -/
namespace Go.Proofs.YtgpafbbnobanbaaGreatDoor.Way
set_option linter.unusedSimpArgs false
set_option linter.unusedVariables false
theorem pull {c u v j : Nat} {S : Rack} {B : Tube} (h : one c S) (hj : j < 6) (hju : j ≠ u) (hjv : j ≠ v) {p : Nat} (e : S j = (c, p) :: B) : p = 1 ∧ ∃ T, none_ c T ∧ S = put T j (c, 1) ∧ T j = B ∧ T = upd S j B := by
  obtain ⟨a, b, d⟩ := one_top h hj e
  exact ⟨a, upd S j B, b, d, upd_same _ _ _, rfl⟩
/-- The kinds of pours. -/
inductive Kind (c : Nat) (S : Rack) (u v i j : Nat) (Z : Rack) : Prop
  | far (T : Rack) (h1 : i ≠ u) (h2 : i ≠ v) (h3 : j ≠ u) (h4 : j ≠ v) (e : pourR S i j = some T) (hZ : Z = one2 c T u v) (hX : pourR (two1 c S u v) i j = some (two1 c T u v))
  | first (h1 : i = u) (h3 : j ≠ u) (h4 : j ≠ v) (e : S j = []) (hZ : Z = one2 c S j v) (hX : pourR (two1 c S u v) u j = some (two1 c S j v))
  | second (h1 : i = v) (h3 : j ≠ u) (h4 : j ≠ v) (e : S j = []) (hZ : Z = one2 c S u j) (hX : pourR (two1 c S u v) v j = some (two1 c S u j))
  | less (h : ∀ m, Reach m Z → Le (m + 1) (put (put S u (c, 2)) v (c, 1)))
  | last (D : Tube) (h1 : i = u) (h3 : j ≠ u) (h4 : j ≠ v) (e : S j = (c, 1) :: D) (hs : size D = 2) (hZ : Z = put (put (upd S j D) v (c, 2)) j (c, 2))
theorem kind {c : Nat} {S : Rack} {u v i j : Nat} {Z : Rack} (hu : u < 6) (hv : v < 6) (huv : u ≠ v) (h : one c S) (hs : size (S v) ≤ 2) (hi : i < 6) (hj : j < 6) (e : pourR (one2 c S u v) i j = some Z) : Kind c S u v i j Z := by
  by_cases hiu : i = u
  · subst hiu
    obtain ⟨hij, d, n, A, ei, r⟩ := pour_inv e
    rw [one2, at_u huv] at ei
    injection ei with ei1 ei2
    injection ei1 with ei3 ei4
    subst ei2 ei3 ei4
    by_cases hjv : j = v
    · subst hjv
      rw [one2, at_v huv] at r
      rcases r with ⟨e2, _⟩ | ⟨p0, B, e2, g1, g2, rfl⟩ | ⟨p0, B, e2, g1, g2, rfl⟩
      · cases e2
      · injection e2 with a1 a2
        injection a1 with _ a3
        subst a2 a3
        refine .less fun m hZ => Le.step hi hj (pour_M (n := 2) (p := 1) huv (at_u huv) (at_v huv) (by omega) (by omega)) ⟨m, Nat.le_refl _, ?_⟩
        rw [out_M huv] at hZ ⊢
        exact hZ
      · injection e2 with a1 a2
        injection a1 with _ a3
        subst a2 a3
        omega
    · have hju : j ≠ i := fun e => hij e.symm
      rw [one2, at_k hju hjv] at r
      rcases r with ⟨e2, hA, rfl⟩ | ⟨p0, B, e2, g1, g2, rfl⟩ | ⟨p0, B, e2, g1, g2, rfl⟩
      · refine .first rfl hju hjv e2 (by rw [out_E huv hju hjv e2]; rfl) ?_
        rw [two1, pour_E (Ne.symm hju) (at_u huv) (by rw [at_k hju hjv]; exact e2) hA, out_E huv hju hjv e2]; rfl
      · obtain ⟨rfl, T, hT, hS, hB, hT2⟩ := pull h hj hju hjv e2
        have hTi : T i = S i := by rw [hT2, upd_ne (Ne.symm hju)]
        by_cases hB2 : size B = 2
        · refine .last B rfl hju hjv e2 hB2 ?_
          rw [← hT2, ← hTi, ← hB]
          subst hS
          exact out_W2 huv hju hjv
        · refine .less fun m hZ => Le.step hi hj (pour_M (n := 2) (p := 1) (Ne.symm hju) (at_u huv) (by rw [at_k hju hjv]; exact e2) (by omega) (by omega)) ?_
          rw [← hTi, ← hB] at hZ ⊢
          subst hS
          rw [out_W2 huv hju hjv] at hZ ⊢
          exact rel2 m c T v j 1 3 2 2 hv hj (Ne.symm hjv) hT rfl (by omega) (by omega) (by omega) (by omega) hZ
      · obtain ⟨rfl, T, hT, hS, hB, hT2⟩ := pull h hj hju hjv e2
        omega
  by_cases hiv : i = v
  · subst hiv
    obtain ⟨hij, d, n, A, ei, r⟩ := pour_inv e
    rw [one2, at_v huv] at ei
    injection ei with ei1 ei2
    injection ei1 with ei3 ei4
    subst ei2 ei3 ei4
    by_cases hju : j = u
    · subst hju
      rw [one2, at_u huv] at r
      rcases r with ⟨e2, _⟩ | ⟨p0, B, e2, g1, g2, rfl⟩ | ⟨p0, B, e2, g1, g2, rfl⟩
      · cases e2
      · injection e2 with a1 a2
        injection a1 with _ a3
        subst a2 a3
        refine .less fun m hZ => Le.step hi hj (pour_M (n := 1) (p := 2) hij (at_v huv) (at_u huv) (by omega) (by omega)) ⟨m, Nat.le_refl _, ?_⟩
        rw [put_comm huv, out_M (Ne.symm huv)] at hZ ⊢
        exact hZ
      · injection e2 with a1 a2
        injection a1 with _ a3
        subst a2 a3
        have hs2 : size (S j) = 2 := by omega
        refine .less fun m hZ => ⟨m, by omega, ?_⟩
        rw [put_comm huv, out_P (Ne.symm huv), hs2] at hZ
        rw [put_comm huv]
        exact hZ
    · have hjv : j ≠ i := fun e => hij e.symm
      rw [one2, at_k hju hjv] at r
      rcases r with ⟨e2, hA, rfl⟩ | ⟨p0, B, e2, g1, g2, rfl⟩ | ⟨p0, B, e2, g1, g2, rfl⟩
      · refine .second rfl hju hjv e2 ?_ ?_
        · rw [put_comm huv, out_E (Ne.symm huv) hjv hju e2, put_comm hju]; rfl
        · rw [two1, put_comm huv, pour_E (Ne.symm hjv) (at_u (Ne.symm huv)) (by rw [at_k hjv hju]; exact e2) hA, out_E (Ne.symm huv) hjv hju e2, put_comm hju]; rfl
      · obtain ⟨rfl, T, hT, hS, hB, hT2⟩ := pull h hj hju hjv e2
        have hTi : T i = S i := by rw [hT2, upd_ne (Ne.symm hjv)]
        refine .less fun m hZ => Le.step hi hj (pour_M (n := 1) (p := 1) (Ne.symm hjv) (at_v huv) (by rw [at_k hju hjv]; exact e2) (by omega) (by omega)) ?_
        rw [← hTi, ← hB, put_comm huv] at hZ
        rw [← hTi, ← hB, put_comm huv]
        subst hS
        rw [out_W2 (Ne.symm huv) hjv hju] at hZ ⊢
        exact rel2 m c T u j 2 2 1 3 hu hj (Ne.symm hju) hT rfl (by omega) (by omega) (by omega) (by omega) hZ
      · obtain ⟨rfl, T, hT, hS, hB, hT2⟩ := pull h hj hju hjv e2
        have hB2 : size B = 2 := by omega
        refine .less fun m hZ => Le.step hu hj (pour_P (n := 2) (p := 1) (Ne.symm hju) (at_u huv) (by rw [at_k hju hjv]; exact e2) (by omega) (by omega)) ⟨m, Nat.le_refl _, ?_⟩
        rw [hB2] at hZ ⊢
        refine cast (congrArg (Reach m) ?_) hZ
        funext y
        simp only [put, upd]
        by_cases k1 : y = j
        · subst k1; simp [hju, hjv]
        · by_cases k2 : y = i
          · subst k2; simp [k1, Ne.symm huv]
          · by_cases k3 : y = u
            · subst k3; simp [k1, k2]
            · simp [k1, k2, k3]
  by_cases hju : j = u
  · subst hju
    obtain ⟨hij, d, n, A, ei, r⟩ := pour_inv e
    rw [one2, at_u huv] at r
    rw [one2, at_k hiu hiv] at ei
    rcases r with ⟨e2, _⟩ | ⟨p0, B, e2, g1, g2, rfl⟩ | ⟨p0, B, e2, g1, g2, rfl⟩
    · cases e2
    · injection e2 with a1 a2
      injection a1 with a3 a4
      subst a2 a3 a4
      have hn : n = 1 := (one_top h hi ei).1
      subst hn
      refine .less fun m hZ => Le.step hi hv (pour_M (n := 1) (p := 1) hiv (by rw [at_k hiu hiv]; exact ei) (at_v huv) (by omega) (by omega)) ⟨m, Nat.le_refl _, ?_⟩
      refine cast (congrArg (Reach m) ?_) hZ
      funext y
      simp only [one2, two1, put, upd]
      by_cases k1 : y = j
      · subst k1; simp [huv, hiu, Ne.symm hiu]
      · by_cases k2 : y = v
        · subst k2; simp [k1, hiv, Ne.symm hiv]
        · by_cases k3 : y = i
          · subst k3; simp [k1, k2]
          · simp [k1, k2, k3]
    · injection e2 with a1 a2
      injection a1 with a3 a4
      subst a2 a3 a4
      have hn : n = 1 := (one_top h hi ei).1
      omega
  by_cases hjv : j = v
  · subst hjv
    obtain ⟨hij, d, n, A, ei, r⟩ := pour_inv e
    rw [one2, at_v huv] at r
    rw [one2, at_k hiu hiv] at ei
    rcases r with ⟨e2, _⟩ | ⟨p0, B, e2, g1, g2, rfl⟩ | ⟨p0, B, e2, g1, g2, rfl⟩
    · cases e2
    · injection e2 with a1 a2
      injection a1 with a3 a4
      subst a2 a3 a4
      obtain ⟨hn, hT, hS⟩ := one_top h hi ei
      subst hn
      refine .less fun m hZ => Le.step hi hj (pour_M (n := 1) (p := 1) hij (by rw [at_k hiu hiv]; exact ei) (at_v huv) (by omega) (by omega)) ?_
      have e1 : ∀ a b x, upd (upd (put (put S u (c, a)) j (c, b)) i A) j ((c, x) :: S j) = put (put (upd S i A) u (c, a)) j (c, x) := by
        intro a b x
        funext y
        simp only [put, upd]
        by_cases k1 : y = j
        · subst k1; simp [huv, hiu, Ne.symm huv, Ne.symm hiu, Ne.symm hij]
        · by_cases k2 : y = u
          · subst k2; simp [k1, hiu, Ne.symm hiu]
          · by_cases k3 : y = i
            · subst k3; simp [k1, k2]
            · simp [k1, k2, k3]
      rw [e1] at hZ
      rw [e1]
      exact rel2 m c (upd S i A) u j 2 2 1 3 hu hj huv hT rfl (by omega) (by omega) (by omega) (by omega) hZ
    · injection e2 with a1 a2
      injection a1 with a3 a4
      subst a2 a3 a4
      have hn : n = 1 := (one_top h hi ei).1
      omega
  rw [one2, pour_put hiv hjv, pour_put hiu hju] at e
  cases eS : pourR S i j with
  | none => rw [eS] at e; cases e
  | some T =>
    rw [eS] at e
    simp only [Option.map_some, Option.some.injEq] at e
    exact .far T hiu hiv hju hjv eS e.symm (by rw [two1, pour_put hiv hjv, pour_put hiu hju, eS]; rfl)
/-- Where the tube that has two layers of the color is not full, the other split is not worse. -/
theorem rel3 : ∀ (m : Nat) (c : Nat) (S : Rack) (u v : Nat), u < 6 → v < 6 → u ≠ v → one c S → size (S v) ≤ 1 → Reach m (one2 c S u v) → Le m (two1 c S u v)
  | 0, c, S, u, v, hu, hv, huv, h, hs, hr => (sorted_tops hr hu hv huv (at_u huv) (at_v huv)).elim
  | m + 1, c, S, u, v, hu, hv, huv, h, hs, hr => by
    obtain ⟨i, j, Z, hi, hj, e, hZ⟩ := hr
    cases kind hu hv huv h (by omega) hi hj e with
    | far T h1 h2 h3 h4 eS hZ2 hX =>
      subst hZ2
      have e1 : T v = S v := by
        obtain ⟨hij, d, n, A, ei, r⟩ := pour_inv eS
        rcases r with ⟨_, _, rfl⟩ | ⟨p, B, _, _, _, rfl⟩ | ⟨p, B, _, _, _, rfl⟩ <;> rw [upd_ne (Ne.symm h4), upd_ne (Ne.symm h2)]
      exact Le.step hi hj hX (rel3 m c T u v hu hv huv (one_pour hi hj h eS) (by rw [e1]; exact hs) hZ)
    | first h1 h3 h4 e2 hZ2 hX =>
      subst h1 hZ2
      exact Le.step hi hj hX (rel3 m c S j v hj hv h4 h hs hZ)
    | second h1 h3 h4 e2 hZ2 hX =>
      subst h1 hZ2
      exact Le.step hi hj hX (rel3 m c S u j hu hj (Ne.symm h3) h (by rw [e2]; exact Nat.zero_le _) hZ)
    | less hl => rw [two1]; exact hl m hZ
    | last D h1 h3 h4 e2 hD hZ2 =>
      subst h1 hZ2
      obtain ⟨_, hT, hS⟩ := one_top h hj e2
      refine Le.step hi hv (pour_M (n := 2) (p := 1) huv (at_u huv) (at_v huv) (by omega) (by omega)) ?_
      rw [two1, out_M huv]
      have e1 : upd S v ((c, 1 + 2) :: S v) = put (put (upd S j D) v (c, 3)) j (c, 1) := by
        funext y
        simp only [put, upd]
        by_cases k1 : y = j
        · subst k1; simp [h3, h4, e2]
        · by_cases k2 : y = v
          · subst k2; simp [k1, Ne.symm h4]
          · simp [k1, k2]
      rw [e1]
      exact rel2 m c (upd S j D) v j 3 1 2 2 hv hj (Ne.symm h4) hT rfl (by omega) (by omega) (by omega) (by omega) hZ
end Go.Proofs.YtgpafbbnobanbaaGreatDoor.Way
/- What pours keep; colors in the split, step by step. -/
namespace Go.Proofs.YtgpafbbnobanbaaGreatDoor.Way
set_option linter.unusedSimpArgs false
set_option linter.unusedVariables false
def lay (c : Nat) : Tube → Nat
  | [] => 0
  | (d, n) :: t => (if d = c then n else 0) + lay c t
def good (t : Tube) : Prop := ∀ r, r ∈ t → 1 ≤ r.2 ∧ 1 ≤ r.1 ∧ r.1 ≤ 5
structure Ok (Y : Rack) : Prop where
  sz : ∀ k, k < 6 → size (Y k) ≤ 4
  ps : ∀ k, k < 6 → good (Y k)
  ly : ∀ c, tot (lay c) Y ≤ 4
theorem tot_pour {φ : Tube → Nat} {Y : Rack} {i j : Nat} {s t : Tube} (hi : i < 6) (hj : j < 6) (hij : i ≠ j) : tot φ (upd (upd Y i s) j t) + φ (Y i) + φ (Y j) = tot φ Y + φ s + φ t := by
  have a := tot_upd (f := φ) (S := Y) (t := s) hi
  have b := tot_upd (f := φ) (S := upd Y i s) (t := t) hj
  rw [upd_ne (Ne.symm hij)] at b
  omega
/-- What a pour does, with the sizes told. -/
inductive Pour (Y : Rack) (i j : Nat) (Z : Rack) : Prop
  | E (c n : Nat) (A : Tube) (ei : Y i = (c, n) :: A) (ej : Y j = []) (hA : A ≠ []) (hZ : Z = upd (upd Y i A) j [(c, n)])
  | M (c n p : Nat) (A B : Tube) (ei : Y i = (c, n) :: A) (ej : Y j = (c, p) :: B) (h : p + size B < 4) (h2 : p + size B + n ≤ 4) (hZ : Z = upd (upd Y i A) j ((c, p + n) :: B))
  | P (c n p s : Nat) (A B : Tube) (ei : Y i = (c, n + s) :: A) (ej : Y j = (c, p) :: B) (hs : p + size B + s = 4) (h1 : 1 ≤ s) (h2 : 1 ≤ n) (hZ : Z = upd (upd Y i ((c, n) :: A)) j ((c, p + s) :: B))
theorem pour_of {Y Z : Rack} {i j : Nat} (h : pourR Y i j = some Z) : i ≠ j ∧ Pour Y i j Z := by
  obtain ⟨hij, c, n, A, ei, r⟩ := pour_inv h
  refine ⟨hij, ?_⟩
  rcases r with ⟨e2, hne, rfl⟩ | ⟨p, B, e2, h1, h2, rfl⟩ | ⟨p, B, e2, h1, h2, rfl⟩
  · exact .E c n A ei e2 hne rfl
  · exact .M c n p A B ei e2 h1 h2 rfl
  · exact .P c (n - (4 - (p + size B))) p (4 - (p + size B)) A B (by rw [ei, show n - (4 - (p + size B)) + (4 - (p + size B)) = n by omega]) e2 (by omega) (by omega) (by omega) rfl
theorem pour_size {Y Z : Rack} {i j : Nat} (hi : i < 6) (hj : j < 6) (h : pourR Y i j = some Z) : tot size Z = tot size Y := by
  obtain ⟨hij, p⟩ := pour_of h
  cases p with
  | E c n A ei ej hA hZ => subst hZ; have := tot_pour (φ := size) (Y := Y) (s := A) (t := [(c, n)]) hi hj hij; rw [ei, ej] at this; simp only [size] at this; omega
  | M c n p A B ei ej h1 h2 hZ => subst hZ; have := tot_pour (φ := size) (Y := Y) (s := A) (t := (c, p + n) :: B) hi hj hij; rw [ei, ej] at this; simp only [size] at this; omega
  | P c n p s A B ei ej hs h1 h2 hZ => subst hZ; have := tot_pour (φ := size) (Y := Y) (s := (c, n) :: A) (t := (c, p + s) :: B) hi hj hij; rw [ei, ej] at this; simp only [size] at this; omega
theorem pour_lay {Y Z : Rack} {i j : Nat} (d : Nat) (hi : i < 6) (hj : j < 6) (h : pourR Y i j = some Z) : tot (lay d) Z = tot (lay d) Y := by
  obtain ⟨hij, p⟩ := pour_of h
  cases p with
  | E c n A ei ej hA hZ => subst hZ; have := tot_pour (φ := lay d) (Y := Y) (s := A) (t := [(c, n)]) hi hj hij; rw [ei, ej] at this; simp only [lay] at this; omega
  | M c n p A B ei ej h1 h2 hZ =>
    subst hZ; have := tot_pour (φ := lay d) (Y := Y) (s := A) (t := (c, p + n) :: B) hi hj hij; rw [ei, ej] at this; simp only [lay] at this
    by_cases hc : c = d
    · simp only [if_pos hc] at this; omega
    · simp only [if_neg hc] at this; omega
  | P c n p s A B ei ej hs h1 h2 hZ =>
    subst hZ; have := tot_pour (φ := lay d) (Y := Y) (s := (c, n) :: A) (t := (c, p + s) :: B) hi hj hij; rw [ei, ej] at this; simp only [lay] at this
    by_cases hc : c = d
    · simp only [if_pos hc] at this; omega
    · simp only [if_neg hc] at this; omega
theorem upd_all {P : Tube → Prop} {Y : Rack} {i : Nat} {t : Tube} (h : ∀ k, k < 6 → P (Y k)) (ht : P t) : ∀ k, k < 6 → P (upd Y i t k) := by
  intro k hk
  simp only [upd]; split
  · exact ht
  · exact h k hk
theorem ok_pour {Y Z : Rack} {i j : Nat} (hi : i < 6) (hj : j < 6) (o : Ok Y) (h : pourR Y i j = some Z) : Ok Z := by
  have hl := fun d => pour_lay d hi hj h
  obtain ⟨hij, p⟩ := pour_of h
  have hsi := o.sz i hi
  have hsj := o.sz j hj
  have hpi := o.ps i hi
  have hpj := o.ps j hj
  have cons : ∀ (r : Nat × Nat) (t : Tube), (1 ≤ r.2 ∧ 1 ≤ r.1 ∧ r.1 ≤ 5) → good t → good (r :: t) := by
    intro r t hr ht x hx
    rcases List.mem_cons.1 hx with rfl | hx
    · exact hr
    · exact ht x hx
  cases p with
  | E c n A ei ej hA hZ =>
    subst hZ
    rw [ei] at hpi hsi
    have h0 := hpi (c, n) (List.mem_cons_self ..)
    simp only [size] at hsi
    refine ⟨upd_all (P := fun t => size t ≤ 4) (upd_all (P := fun t => size t ≤ 4) o.sz (by omega)) (by simp only [size]; omega), upd_all (P := good) (upd_all (P := good) o.ps fun x hx => hpi x (List.mem_cons_of_mem _ hx)) (cons _ _ h0 fun x hx => by cases hx), fun d => by rw [hl d]; exact o.ly d⟩
  | M c n p A B ei ej h1 h2 hZ =>
    subst hZ
    rw [ei] at hpi hsi
    rw [ej] at hpj hsj
    have h0 := hpi (c, n) (List.mem_cons_self ..)
    simp only [size] at hsi
    refine ⟨upd_all (P := fun t => size t ≤ 4) (upd_all (P := fun t => size t ≤ 4) o.sz (by omega)) (by simp only [size]; omega), upd_all (P := good) (upd_all (P := good) o.ps fun x hx => hpi x (List.mem_cons_of_mem _ hx)) (cons _ _ ⟨by have := h0.1; simp only at this ⊢; omega, h0.2⟩ fun x hx => hpj x (List.mem_cons_of_mem _ hx)), fun d => by rw [hl d]; exact o.ly d⟩
  | P c n p s A B ei ej hs h1 h2 hZ =>
    subst hZ
    rw [ei] at hpi hsi
    rw [ej] at hpj hsj
    have h0 := hpi (c, n + s) (List.mem_cons_self ..)
    simp only [size] at hsi
    refine ⟨upd_all (P := fun t => size t ≤ 4) (upd_all (P := fun t => size t ≤ 4) o.sz (by simp only [size]; omega)) (by simp only [size]; omega), upd_all (P := good) (upd_all (P := good) o.ps (cons _ _ ⟨h2, h0.2⟩ fun x hx => hpi x (List.mem_cons_of_mem _ hx))) (cons _ _ ⟨by simp only; omega, h0.2⟩ fun x hx => hpj x (List.mem_cons_of_mem _ hx)), fun d => by rw [hl d]; exact o.ly d⟩
/-- A color whose third part is still to come. -/
def PendAt (m : Nat) (Y : Rack) (c u v : Nat) : Prop := ∃ S, u < 6 ∧ v < 6 ∧ u ≠ v ∧ one c S ∧ size (S u) ≤ 2 ∧ size (S v) = 2 ∧ Y = one2 c S u v ∧ ¬ Le m (two1 c S u v)
/-- The last part of a color. -/
def Last (Y : Rack) (c u v i j : Nat) (Z : Rack) : Prop := i = u ∧ j ≠ u ∧ j ≠ v ∧ ∃ A D, Y u = (c, 1) :: A ∧ Y j = (c, 1) :: D ∧ size D = 2 ∧ Z = upd (upd Y u A) j ((c, 2) :: D)
theorem pend_step {m c u v i j : Nat} {Y Z : Rack} (h : PendAt (m + 1) Y c u v) (hi : i < 6) (hj : j < 6) (e : pourR Y i j = some Z) (hZ : Reach m Z) : i ≠ v ∧ (((∃ u', PendAt m Z c u' v) ∧ ∀ n A, Y i = (c, n) :: A → Y j = []) ∨ Last Y c u v i j Z) := by
  obtain ⟨S, hu, hv, huv, h1, hsu, hsv, rfl, hX⟩ := h
  cases kind hu hv huv h1 (by omega) hi hj e with
  | far T a1 a2 a3 a4 eS hZ2 hX2 =>
    subst hZ2
    obtain ⟨hij, d, n, A, ei, r⟩ := pour_inv eS
    have ev : T v = S v := by
      rcases r with ⟨_, _, rfl⟩ | ⟨p, B, _, _, _, rfl⟩ | ⟨p, B, _, _, _, rfl⟩ <;> rw [upd_ne (Ne.symm a4), upd_ne (Ne.symm a2)]
    have eu : T u = S u := by
      rcases r with ⟨_, _, rfl⟩ | ⟨p, B, _, _, _, rfl⟩ | ⟨p, B, _, _, _, rfl⟩ <;> rw [upd_ne (Ne.symm a3), upd_ne (Ne.symm a1)]
    refine ⟨a2, .inl ⟨⟨u, T, hu, hv, huv, one_pour hi hj h1 eS, by rw [eu]; exact hsu, by rw [ev]; exact hsv, rfl, fun hl => hX (Le.step hi hj hX2 hl)⟩, ?_⟩⟩
    intro n' A' e2
    rw [one2, at_k a1 a2] at e2
    rw [one2, at_k a3 a4]
    obtain ⟨_, hT, _⟩ := one_top h1 hi e2
    have nj := hT j hj
    rw [upd_ne (Ne.symm hij)] at nj
    rw [ei] at e2
    injection e2 with b1 b2
    injection b1 with b3 b4
    subst b3
    rcases r with ⟨ej, _⟩ | ⟨p, B, ej, _⟩ | ⟨p, B, ej, _⟩
    · exact ej
    · exact (no_top nj ej rfl).elim
    · exact (no_top nj ej rfl).elim
  | first a1 a3 a4 e2 hZ2 hX2 =>
    subst a1 hZ2
    refine ⟨huv, .inl ⟨⟨j, S, hj, hv, a4, h1, by rw [e2]; exact Nat.zero_le _, hsv, rfl, fun hl => hX (Le.step hi hj hX2 hl)⟩, ?_⟩⟩
    intro n A _
    rw [one2, at_k a3 a4]; exact e2
  | second a1 a3 a4 e2 hZ2 hX2 =>
    subst a1 hZ2
    exact (hX (Le.step hi hj hX2 (rel3 m c S u j hu hj (Ne.symm a3) h1 (by rw [e2]; exact Nat.zero_le _) hZ))).elim
  | less hl => exact (hX (hl m hZ)).elim
  | last D a1 a3 a4 e2 hD hZ2 =>
    subst a1 hZ2
    refine ⟨huv, .inr ⟨rfl, a3, a4, S i, D, at_u huv, by rw [one2, at_k a3 a4]; exact e2, hD, ?_⟩⟩
    funext y
    simp only [one2, put, upd]
    by_cases k1 : y = j
    · subst k1; simp [a3, a4]
    · by_cases k2 : y = v
      · subst k2; simp [k1, Ne.symm a4, Ne.symm huv]
      · by_cases k3 : y = i
        · subst k3; simp [k1, k2]
        · simp [k1, k2, k3]
theorem lay_zero {c : Nat} : ∀ {t : Tube}, (∀ r, r ∈ t → 1 ≤ r.2) → lay c t = 0 → no c t
  | [], _, _ => fun x hx => by cases hx
  | (d, n) :: t, hp, h => by
    simp only [lay] at h
    have hn : 1 ≤ n := hp (d, n) (List.mem_cons_self ..)
    have hd : d ≠ c := by intro e; rw [if_pos e] at h; omega
    intro x hx
    rcases List.mem_cons.1 hx with rfl | hx
    · exact hd
    · exact lay_zero (t := t) (fun r hr => hp r (List.mem_cons_of_mem _ hr)) (by omega) x hx
theorem lay_cnt {c : Nat} : ∀ {t : Tube}, (∀ r, r ∈ t → 1 ≤ r.2) → cnt c t ≤ lay c t
  | [], _ => Nat.le_refl _
  | (d, n) :: t, hp => by
    have hn : 1 ≤ n := hp (d, n) (List.mem_cons_self ..)
    have := lay_cnt (c := c) (t := t) fun r hr => hp r (List.mem_cons_of_mem _ hr)
    simp only [lay, cnt]
    split <;> omega
theorem lay_mem {c : Nat} : ∀ {t : Tube} {r : Nat × Nat}, r ∈ t → r.1 = c → r.2 ≤ lay c t
  | (d, n) :: t, r, hr, e => by
    rcases List.mem_cons.1 hr with rfl | hr
    · simp only [lay]; simp only at e; rw [if_pos e]; omega
    · have := lay_mem (t := t) hr e
      simp only [lay]; omega
theorem cnt_pos_lay {c : Nat} : ∀ {t : Tube}, (∀ r, r ∈ t → 1 ≤ r.2) → 0 < lay c t → 0 < cnt c t
  | (d, n) :: t, hp, h => by
    simp only [lay, cnt] at h ⊢
    by_cases hd : d = c
    · rw [if_pos hd]; omega
    · rw [if_neg hd] at h ⊢
      have := cnt_pos_lay (c := c) (t := t) (fun r hr => hp r (List.mem_cons_of_mem _ hr)) (by omega)
      omega
/-- A pour that moves only a part, on a shortest way. -/
theorem part_step {m i j : Nat} {Y Z : Rack} (o : Ok Y) (hi : i < 6) (hj : j < 6) (hij : i ≠ j) (hY : ¬ Le m Y) (hZ : Reach m Z) {c n p s : Nat} {A B : Tube} (ei : Y i = (c, n + s) :: A) (ej : Y j = (c, p) :: B) (hs : p + size B + s = 4) (h1 : 1 ≤ s) (h2 : 1 ≤ n) (eZ : Z = upd (upd Y i ((c, n) :: A)) j ((c, p + s) :: B)) : n = 1 ∧ s = 1 ∧ p = 1 ∧ size B = 2 ∧ PendAt m Z c i j ∧ tot (cnt c) Y = 3 ∧ tot (lay c) Y = 4 := by
  have hp : 1 ≤ p := (o.ps j hj (c, p) (by rw [ej]; exact List.mem_cons_self ..)).1
  let S := upd (upd Y i A) j B
  have eSi : S i = A := by show upd (upd Y i A) j B i = A; rw [upd_ne hij, upd_same]
  have eSj : S j = B := upd_same _ _ _
  have key : ∀ a b, upd (upd Y i ((c, a) :: A)) j ((c, b) :: B) = put (put S i (c, a)) j (c, b) := by
    intro a b
    funext y
    simp only [S, put, upd]
    by_cases k1 : y = j
    · subst k1; simp [Ne.symm hij]
    · by_cases k2 : y = i
      · subst k2; simp [k1]
      · simp [k1, k2]
  have eY : Y = put (put S i (c, n + s)) j (c, p) := by
    rw [← key]
    funext y
    simp only [upd]
    by_cases k1 : y = j
    · subst k1; simp [ej]
    · by_cases k2 : y = i
      · subst k2; simp [k1, ei]
      · simp [k1, k2]
  have eZ2 : Z = put (put S i (c, n)) j (c, p + s) := by rw [eZ, key]
  have hl := tot_pour (φ := lay c) (Y := Y) (s := A) (t := B) hi hj hij
  rw [ei, ej] at hl
  simp only [lay, if_true] at hl
  have hly := o.ly c
  have hps : ∀ k, k < 6 → ∀ r, r ∈ S k → 1 ≤ r.2 := by
    refine upd_all (P := fun t => ∀ r, r ∈ t → 1 ≤ r.2) (upd_all (P := fun t => ∀ r, r ∈ t → 1 ≤ r.2) (fun k hk r hr => (o.ps k hk r hr).1) ?_) ?_
    · intro r hr; exact (o.ps i hi r (by rw [ei]; exact List.mem_cons_of_mem _ hr)).1
    · intro r hr; exact (o.ps j hj r (by rw [ej]; exact List.mem_cons_of_mem _ hr)).1
  have hS : tot (lay c) S ≤ 1 := by show tot (lay c) (upd (upd Y i A) j B) ≤ 1; omega
  rcases Nat.eq_zero_or_pos (tot (lay c) S) with h0 | h0
  · have hn : none_ c S := by
      intro k hk
      have := tot_get (f := lay c) (S := S) hk
      exact lay_zero (hps k hk) (by omega)
    have := rel2 m c S i j (n + s) p n (p + s) hi hj hij hn (by omega) (by omega) hp h2 (by omega) (eZ2 ▸ hZ)
    rw [← eY] at this
    exact (hY this).elim
  · have h3 : tot (lay c) S = 1 := by omega
    have h3' : tot (lay c) (upd (upd Y i A) j B) = 1 := h3
    have hn1 : n = 1 ∧ s = 1 ∧ p = 1 := by omega
    obtain ⟨rfl, rfl, rfl⟩ := hn1
    have hB : size B = 2 := by omega
    have hA : size A ≤ 2 := by
      have := o.sz i hi
      rw [ei] at this
      simp only [size] at this
      omega
    have hone : one c S := by
      constructor
      · have a : tot (cnt c) S ≤ tot (lay c) S := sum6_le fun k hk => lay_cnt (hps k hk)
        rcases Nat.eq_zero_or_pos (tot (cnt c) S) with b | b
        · exfalso
          obtain ⟨k, hk, hk2⟩ := sum6_pos.1 h0
          have := cnt_pos_lay (hps k hk) hk2
          have := tot_get (f := cnt c) (S := S) hk
          omega
        · omega
      · intro k hk r hr e
        have a := lay_mem hr e
        have b := tot_get (f := lay c) (S := S) hk
        have := hps k hk r hr
        omega
    refine ⟨rfl, rfl, rfl, hB, ⟨S, hi, hj, hij, hone, by rw [eSi]; exact hA, by rw [eSj]; exact hB, eZ2, ?_⟩, ?_, by omega⟩
    · rw [eY] at hY; exact hY
    · have hc := tot_pour (φ := cnt c) (Y := Y) (s := A) (t := B) hi hj hij
      rw [ei, ej] at hc
      simp only [cnt, if_true] at hc
      have h1 : tot (cnt c) (upd (upd Y i A) j B) = 1 := hone.1
      omega
end Go.Proofs.YtgpafbbnobanbaaGreatDoor.Way
/- A bound for numbers of ways, by what kinds of tubes a rack has: plain definitions that the kernel computes. -/
namespace Go.Proofs.YtgpafbbnobanbaaGreatDoor.Way
set_option linter.unusedSimpArgs false
set_option linter.unusedVariables false
def dg (w p : Nat) : Nat := Nat.mod (Nat.div p w) 8
def mx (a b : Nat) : Nat := cond (Nat.ble a b) b a
def gmul (n v : Nat) : Nat := Nat.rec 0 (fun _ _ => Nat.mul n v) n
def gmax (c : Nat) (v r : Nat) : Nat := Nat.rec r (fun _ _ => mx v r) c
def rk (p : Nat) : Nat := Nat.add (Nat.add (dg 256 p) (dg 2048 p)) (Nat.add (Nat.mul 2 (Nat.add (dg 16384 p) (dg 131072 p))) (Nat.add (Nat.mul 3 (Nat.add (dg 1048576 p) (dg 8388608 p))) (Nat.mul 4 (dg 67108864 p))))
def mu (p : Nat) : Nat := Nat.add (Nat.mul 8 (rk p)) (Nat.add (dg 32 p) (dg 4 p))
def mv (p add sub : Nat) : Nat := Nat.sub (Nat.add p add) sub
def nfull (p : Nat) : Nat := Nat.add (dg 256 p) (Nat.add (dg 16384 p) (dg 1048576 p))
def mid (p : Nat) : Nat := Nat.add (dg 131072 p) (dg 8388608 p)
def free (L p : Nat) : Nat := Nat.sub (Nat.mul 4 (Nat.sub 6 (dg 32 p))) L
def capa (p : Nat) : Nat := Nat.add (Nat.mul 3 (dg 256 p)) (Nat.add (Nat.mul 2 (dg 16384 p)) (dg 1048576 p))
def feas (L p : Nat) : Bool := and (and (Nat.ble L (Nat.mul 4 (Nat.sub 6 (dg 32 p)))) (Nat.ble (nfull p) (free L p))) (and (Nat.ble (free L p) (capa p)) (and (Nat.ble (Nat.mod p 4) (mid p)) (Nat.ble (Nat.mod p 4) (nfull p))))
def eA (p wa wd : Nat) : Nat := mv p (Nat.add wd 256) (Nat.add wa 32)
def eSum (ih : Nat → Nat) (p : Nat) : Nat :=
  Nat.add (gmul (dg 16384 p) (ih (eA p 16384 256))) (Nat.add (gmul (dg 131072 p) (ih (eA p 131072 256))) (Nat.add (gmul (dg 1048576 p) (ih (eA p 1048576 16384))) (Nat.add (gmul (dg 8388608 p) (ih (eA p 8388608 16384))) (gmul (dg 67108864 p) (ih (eA p 67108864 1048576))))))
def mn (c v r : Nat) : Nat := Nat.rec r (fun _ _ => cond (Nat.ble v r) v r) c
def big : Nat := 1000000000000000000000000
def eMin (ih : Nat → Nat) (p : Nat) : Nat := mn (dg 131072 p) (ih (eA p 131072 256)) (mn (dg 8388608 p) (ih (eA p 8388608 16384)) big)
def has (p w b : Nat) : Nat := cond (Nat.beq w b) (Nat.sub (dg w p) 1) (dg w p)
def cm1 (ih : Nat → Nat) (p b g wa wd r : Nat) : Nat := gmax (has p wa b) (mx (ih (mv p (Nat.add wd b) (Nat.add wa b))) (ih (mv p (Nat.add wd g) (Nat.add wa b)))) r
def cm (ih : Nat → Nat) (p b g : Nat) : Nat :=
  cm1 ih p b g 256 32 (cm1 ih p b g 16384 256 (cm1 ih p b g 131072 256 (cm1 ih p b g 1048576 16384 (cm1 ih p b g 8388608 16384 (cm1 ih p b g 67108864 1048576 0)))))
def bp1 (ih : Nat → Nat) (p b g wa wd r : Nat) : Nat := gmax (has p wa b) (ih (mv p (Nat.add (Nat.add wd g) 1) (Nat.add (Nat.add wa b) 4))) r
def bp (ih : Nat → Nat) (p b g : Nat) : Nat :=
  Nat.rec 0 (fun _ _ => bp1 ih p b g 256 256 (bp1 ih p b g 2048 256 (bp1 ih p b g 16384 16384 (bp1 ih p b g 131072 16384 (bp1 ih p b g 1048576 1048576 (bp1 ih p b g 8388608 1048576 0)))))) (cond (Nat.beq (Nat.mod p 4) 3) 0 (dg 4 p))
def mf1 (ih : Nat → Nat) (p b g wa wd r : Nat) : Nat := gmax (has p wa b) (ih (mv p (Nat.add wd g) (Nat.add (Nat.add wa b) 1))) r
def mf (ih : Nat → Nat) (p b g : Nat) : Nat :=
  Nat.rec 0 (fun _ _ => mf1 ih p b g 256 32 (mf1 ih p b g 16384 256 (mf1 ih p b g 1048576 16384 0))) (Nat.mod p 4)
def v1 (ih : Nat → Nat) (p : Nat) : Nat := Nat.mul 2 (cm ih p 256 2048)
def v3 (ih : Nat → Nat) (p b g : Nat) : Nat := mx (Nat.mul 2 (cm ih p b g)) (mx (Nat.add (cm ih p b g) (Nat.mul 2 (bp ih p b g))) (mf ih p b g))
def vSum (ih : Nat → Nat) (p : Nat) : Nat := Nat.add (gmul (dg 256 p) (v1 ih p)) (Nat.add (gmul (dg 16384 p) (v3 ih p 16384 131072)) (gmul (dg 1048576 p) (v3 ih p 1048576 8388608)))
def vMin (ih : Nat → Nat) (p : Nat) : Nat := mn (dg 256 p) (v1 ih p) (mn (dg 16384 p) (v3 ih p 16384 131072) (mn (dg 1048576 p) (v3 ih p 1048576 8388608) big))
def half (n : Nat) : Nat := Nat.div (Nat.add n 1) 2
def rhs (L : Nat) (ih : Nat → Nat) (p : Nat) : Nat :=
  cond (feas L p) (Nat.add (cond (Nat.beq (Nat.div p 16384) 0) 1 0) (Nat.add (gmul (dg 32 p) (Nat.sub (eSum ih p) (gmul (Nat.mod p 4) (eMin ih p)))) (half (Nat.sub (vSum ih p) (gmul (Nat.mod p 4) (vMin ih p)))))) 0
def look (g : Nat → Nat) (k : Nat) : Nat := Nat.rec (g 0) (fun j _ => g (Nat.succ j)) k
def WF (L : Nat) (n : Nat) : Nat → Nat := Nat.rec (fun _ => 0) (fun m ih p => cond (Nat.ble (mu p) m) (ih p) (rhs L (look ih) p)) n
def W (L p : Nat) : Nat := WF L (mu p) p
theorem ble_iff {a b : Nat} : Nat.ble a b = true ↔ a ≤ b := Iff.of_eq Nat.ble_eq
theorem look_eq (g : Nat → Nat) : look g = g := by
  funext k; cases k <;> rfl
theorem WF_W (L : Nat) : ∀ (n k : Nat), mu k ≤ n → WF L n k = W L k
  | 0, k, h => by
    have : mu k = 0 := by omega
    unfold W; rw [this]
  | n + 1, k, h => by
    by_cases e : mu k ≤ n
    · have : WF L (n + 1) k = cond (Nat.ble (mu k) n) (WF L n k) (rhs L (look (WF L n)) k) := rfl
      rw [this, show Nat.ble (mu k) n = true from ble_iff.2 e]
      exact WF_W L n k e
    · have : mu k = n + 1 := by omega
      unfold W; rw [this]
theorem W_eq {L p : Nat} (h : 0 < mu p) : ∃ g : Nat → Nat, W L p = rhs L g p ∧ ∀ k, mu k < mu p → g k = W L k := by
  obtain ⟨n, e⟩ : ∃ n, mu p = n + 1 := ⟨mu p - 1, by omega⟩
  refine ⟨WF L n, ?_, fun k hk => WF_W L n k (by omega)⟩
  unfold W
  rw [e]
  have : WF L (n + 1) p = cond (Nat.ble (mu p) n) (WF L n p) (rhs L (look (WF L n)) p) := rfl
  rw [this, show Nat.ble (mu p) n = false from by rw [Bool.eq_false_iff]; intro h; have := ble_iff.1 h; omega, look_eq]
  rfl
theorem mx_l (a b : Nat) : a ≤ mx a b := by
  unfold mx; cases h : Nat.ble a b
  · exact Nat.le_refl _
  · exact ble_iff.1 h
theorem mx_r (a b : Nat) : b ≤ mx a b := by
  unfold mx; cases h : Nat.ble a b
  · have : ¬ a ≤ b := fun e => by rw [ble_iff.2 e] at h; cases h
    show b ≤ a; omega
  · exact Nat.le_refl _
theorem gmul_eq (n v : Nat) : gmul n v = n * v := by
  cases n with
  | zero => show 0 = 0 * v; omega
  | succ n => rfl
theorem gmax_v {c v r : Nat} (h : 0 < c) : v ≤ gmax c v r := by
  cases c with
  | zero => omega
  | succ c => exact mx_l v r
theorem gmax_r (c v r : Nat) : r ≤ gmax c v r := by
  cases c with
  | zero => exact Nat.le_refl _
  | succ c => exact mx_r v r
theorem mn_v {c v r : Nat} (h : 0 < c) : mn c v r ≤ v := by
  cases c with
  | zero => omega
  | succ c =>
    show cond (Nat.ble v r) v r ≤ v
    cases e : Nat.ble v r
    · have : ¬ v ≤ r := fun x => by rw [ble_iff.2 x] at e; cases e
      show r ≤ v; omega
    · exact Nat.le_refl _
theorem mn_r (c v r : Nat) : mn c v r ≤ r := by
  cases c with
  | zero => exact Nat.le_refl _
  | succ c =>
    show cond (Nat.ble v r) v r ≤ r
    cases e : Nat.ble v r
    · exact Nat.le_refl _
    · exact ble_iff.1 e
theorem half_le (n : Nat) : n ≤ 2 * half n := by
  show n ≤ 2 * ((n + 1) / 2); omega
/-- Weights of the kinds of tubes in a key. -/
def wt : Nat → Nat
  | 0 => 32 | 1 => 256 | 2 => 2048 | 3 => 16384 | 4 => 131072 | 5 => 1048576 | 6 => 8388608 | _ => 67108864
/-- The kind of a tube without its top run, and with a smaller one. -/
def dec : Nat → Nat
  | 3 => 1 | 4 => 1 | 5 => 3 | 6 => 3 | 7 => 5 | _ => 0
def nf : Nat → Nat
  | 1 => 1 | 2 => 1 | 3 => 3 | 4 => 3 | 5 => 5 | 6 => 5 | _ => 7
theorem cm_le {ih : Nat → Nat} {p b g a : Nat} (ha : a = 1 ∨ a = 3 ∨ a = 4 ∨ a = 5 ∨ a = 6 ∨ a = 7) (h : 0 < has p (wt a) b) : ih (mv p (wt (dec a) + b) (wt a + b)) ≤ cm ih p b g ∧ ih (mv p (wt (dec a) + g) (wt a + b)) ≤ cm ih p b g := by
  have key : ∀ wa wd r, 0 < has p wa b → ih (mv p (wd + b) (wa + b)) ≤ cm1 ih p b g wa wd r ∧ ih (mv p (wd + g) (wa + b)) ≤ cm1 ih p b g wa wd r := by
    intro wa wd r h
    exact ⟨Nat.le_trans (mx_l _ _) (gmax_v h), Nat.le_trans (mx_r _ _) (gmax_v h)⟩
  have up : ∀ wa wd r, r ≤ cm1 ih p b g wa wd r := fun wa wd r => gmax_r _ _ _
  have t6 := key 67108864 1048576 0
  have t5 := key 8388608 16384 (cm1 ih p b g 67108864 1048576 0)
  have t4 := key 1048576 16384 (cm1 ih p b g 8388608 16384 (cm1 ih p b g 67108864 1048576 0))
  have t3 := key 131072 256 (cm1 ih p b g 1048576 16384 (cm1 ih p b g 8388608 16384 (cm1 ih p b g 67108864 1048576 0)))
  have t2 := key 16384 256 (cm1 ih p b g 131072 256 (cm1 ih p b g 1048576 16384 (cm1 ih p b g 8388608 16384 (cm1 ih p b g 67108864 1048576 0))))
  have t1 := key 256 32 (cm1 ih p b g 16384 256 (cm1 ih p b g 131072 256 (cm1 ih p b g 1048576 16384 (cm1 ih p b g 8388608 16384 (cm1 ih p b g 67108864 1048576 0)))))
  have u5 := up 8388608 16384 (cm1 ih p b g 67108864 1048576 0)
  have u4 := up 1048576 16384 (cm1 ih p b g 8388608 16384 (cm1 ih p b g 67108864 1048576 0))
  have u3 := up 131072 256 (cm1 ih p b g 1048576 16384 (cm1 ih p b g 8388608 16384 (cm1 ih p b g 67108864 1048576 0)))
  have u2 := up 16384 256 (cm1 ih p b g 131072 256 (cm1 ih p b g 1048576 16384 (cm1 ih p b g 8388608 16384 (cm1 ih p b g 67108864 1048576 0))))
  have u1 := up 256 32 (cm1 ih p b g 16384 256 (cm1 ih p b g 131072 256 (cm1 ih p b g 1048576 16384 (cm1 ih p b g 8388608 16384 (cm1 ih p b g 67108864 1048576 0)))))
  unfold cm
  rcases ha with rfl | rfl | rfl | rfl | rfl | rfl
  · have := t1 h; exact ⟨this.1, this.2⟩
  · have := t2 h; exact ⟨Nat.le_trans this.1 u1, Nat.le_trans this.2 u1⟩
  · have := t3 h; exact ⟨Nat.le_trans this.1 (Nat.le_trans u2 u1), Nat.le_trans this.2 (Nat.le_trans u2 u1)⟩
  · have := t4 h; exact ⟨Nat.le_trans this.1 (Nat.le_trans u3 (Nat.le_trans u2 u1)), Nat.le_trans this.2 (Nat.le_trans u3 (Nat.le_trans u2 u1))⟩
  · have := t5 h; exact ⟨Nat.le_trans this.1 (Nat.le_trans u4 (Nat.le_trans u3 (Nat.le_trans u2 u1))), Nat.le_trans this.2 (Nat.le_trans u4 (Nat.le_trans u3 (Nat.le_trans u2 u1)))⟩
  · have := t6 h; exact ⟨Nat.le_trans this.1 (Nat.le_trans u5 (Nat.le_trans u4 (Nat.le_trans u3 (Nat.le_trans u2 u1)))), Nat.le_trans this.2 (Nat.le_trans u5 (Nat.le_trans u4 (Nat.le_trans u3 (Nat.le_trans u2 u1))))⟩
theorem bp_le {ih : Nat → Nat} {p b g a : Nat} (hq : 0 < dg 4 p) (hf : p % 4 < 3) (ha : a = 1 ∨ a = 2 ∨ a = 3 ∨ a = 4 ∨ a = 5 ∨ a = 6) (h : 0 < has p (wt a) b) : ih (mv p (wt (nf a) + g + 1) (wt a + b + 4)) ≤ bp ih p b g := by
  have e : bp ih p b g = bp1 ih p b g 256 256 (bp1 ih p b g 2048 256 (bp1 ih p b g 16384 16384 (bp1 ih p b g 131072 16384 (bp1 ih p b g 1048576 1048576 (bp1 ih p b g 8388608 1048576 0))))) := by
    unfold bp
    rw [show Nat.beq (Nat.mod p 4) 3 = false from by rw [Bool.eq_false_iff]; intro h; have := Nat.eq_of_beq_eq_true h; have : p % 4 = 3 := this; omega, cond_false]
    generalize dg 4 p = x at *
    cases x with
    | zero => omega
    | succ x => rfl
  rw [e]
  have key : ∀ wa wd r, 0 < has p wa b → ih (mv p (wd + g + 1) (wa + b + 4)) ≤ bp1 ih p b g wa wd r := fun wa wd r h => gmax_v h
  have up : ∀ wa wd r, r ≤ bp1 ih p b g wa wd r := fun wa wd r => gmax_r _ _ _
  rcases ha with rfl | rfl | rfl | rfl | rfl | rfl
  · exact key _ _ _ h
  · exact Nat.le_trans (key _ _ _ h) (up _ _ _)
  · exact Nat.le_trans (Nat.le_trans (key _ _ _ h) (up _ _ _)) (up _ _ _)
  · exact Nat.le_trans (Nat.le_trans (Nat.le_trans (key _ _ _ h) (up _ _ _)) (up _ _ _)) (up _ _ _)
  · exact Nat.le_trans (Nat.le_trans (Nat.le_trans (Nat.le_trans (key _ _ _ h) (up _ _ _)) (up _ _ _)) (up _ _ _)) (up _ _ _)
  · exact Nat.le_trans (Nat.le_trans (Nat.le_trans (Nat.le_trans (Nat.le_trans (key _ _ _ h) (up _ _ _)) (up _ _ _)) (up _ _ _)) (up _ _ _)) (up _ _ _)
theorem mf_le {ih : Nat → Nat} {p b g a : Nat} (hf : 0 < p % 4) (ha : a = 1 ∨ a = 3 ∨ a = 5) (h : 0 < has p (wt a) b) : ih (mv p (wt (dec a) + g) (wt a + b + 1)) ≤ mf ih p b g := by
  have e : mf ih p b g = mf1 ih p b g 256 32 (mf1 ih p b g 16384 256 (mf1 ih p b g 1048576 16384 0)) := by
    unfold mf
    have : Nat.mod p 4 = p % 4 := rfl
    rw [this]
    generalize p % 4 = x at *
    cases x with
    | zero => omega
    | succ x => rfl
  rw [e]
  have key : ∀ wa wd r, 0 < has p wa b → ih (mv p (wd + g) (wa + b + 1)) ≤ mf1 ih p b g wa wd r := fun wa wd r h => gmax_v h
  have up : ∀ wa wd r, r ≤ mf1 ih p b g wa wd r := fun wa wd r => gmax_r _ _ _
  rcases ha with rfl | rfl | rfl
  · exact key _ _ _ h
  · exact Nat.le_trans (key _ _ _ h) (up _ _ _)
  · exact Nat.le_trans (Nat.le_trans (key _ _ _ h) (up _ _ _)) (up _ _ _)
end Go.Proofs.YtgpafbbnobanbaaGreatDoor.Way
/- Keys of racks: how many tubes of each kind they have. -/
namespace Go.Proofs.YtgpafbbnobanbaaGreatDoor.Way
set_option linter.unusedSimpArgs false
set_option linter.unusedVariables false
def ty (t : Tube) : Nat := if t.length = 0 then 0 else if 4 ≤ t.length then 7 else 2 * t.length - 1 + (if size t = 4 then 1 else 0)
theorem len_size : ∀ {t : Tube}, good t → t.length ≤ size t
  | [], _ => Nat.le_refl _
  | (c, n) :: t, h => by
    have a := (h (c, n) (List.mem_cons_self ..)).1
    have := len_size (t := t) fun x hx => h x (List.mem_cons_of_mem _ hx)
    simp only [List.length_cons, size] at *; omega
theorem ty_lt (t : Tube) : ty t < 8 := by
  unfold ty; split
  · omega
  · split
    · omega
    · split <;> omega
def ind (a : Nat) (t : Tube) : Nat := if ty t = a then 1 else 0
def ct (Y : Rack) (a : Nat) : Nat := tot (ind a) Y
theorem eight {n : Nat} (h : n < 8) : n = 0 ∨ n = 1 ∨ n = 2 ∨ n = 3 ∨ n = 4 ∨ n = 5 ∨ n = 6 ∨ n = 7 := by omega
theorem one_type (φ : Nat → Nat) (t : Tube) : φ (ty t) = φ 0 * ind 0 t + φ 1 * ind 1 t + φ 2 * ind 2 t + φ 3 * ind 3 t + φ 4 * ind 4 t + φ 5 * ind 5 t + φ 6 * ind 6 t + φ 7 * ind 7 t := by
  have h := ty_lt t
  simp only [ind]
  generalize ty t = x at *
  rcases eight h with rfl | rfl | rfl | rfl | rfl | rfl | rfl | rfl <;> simp
theorem tot_types (φ : Nat → Nat) (Y : Rack) : tot (fun t => φ (ty t)) Y = φ 0 * ct Y 0 + φ 1 * ct Y 1 + φ 2 * ct Y 2 + φ 3 * ct Y 3 + φ 4 * ct Y 4 + φ 5 * ct Y 5 + φ 6 * ct Y 6 + φ 7 * ct Y 7 := by
  simp only [tot, sum6, ct, one_type φ (Y 0), one_type φ (Y 1), one_type φ (Y 2), one_type φ (Y 3), one_type φ (Y 4), one_type φ (Y 5), Nat.mul_add]
  omega
theorem ct_six (Y : Rack) : ct Y 0 + ct Y 1 + ct Y 2 + ct Y 3 + ct Y 4 + ct Y 5 + ct Y 6 + ct Y 7 = 6 := by
  have := tot_types (fun _ => 1) Y
  simp only [tot, sum6, Nat.one_mul] at this
  omega
def key (Y : Rack) (q f : Nat) : Nat := tot (fun t => wt (ty t)) Y + 4 * q + f
theorem key_eq (Y : Rack) (q f : Nat) : key Y q f = 32 * ct Y 0 + 256 * ct Y 1 + 2048 * ct Y 2 + 16384 * ct Y 3 + 131072 * ct Y 4 + 1048576 * ct Y 5 + 8388608 * ct Y 6 + 67108864 * ct Y 7 + 4 * q + f := by
  unfold key; rw [tot_types]; rfl
theorem dg_of {w hi c lo p : Nat} (h : p = w * (8 * hi + c) + lo) (hc : c < 8) (hl : lo < w) : dg w p = c := by
  subst h
  show (w * (8 * hi + c) + lo) / w % 8 = c
  rw [Nat.mul_add_div (by omega), Nat.div_eq_of_lt hl]
  omega
theorem dg_0 {Y : Rack} {q f : Nat} (hq : q < 8) (hf : f < 4) : dg 32 (key Y q f) = ct Y 0 := by
  have h := ct_six Y
  exact dg_of (hi := 1 * ct Y 1 + 8 * ct Y 2 + 64 * ct Y 3 + 512 * ct Y 4 + 4096 * ct Y 5 + 32768 * ct Y 6 + 262144 * ct Y 7) (lo := 4 * q + f) (by rw [key_eq]; omega) (by omega) (by omega)
theorem dg_1 {Y : Rack} {q f : Nat} (hq : q < 8) (hf : f < 4) : dg 256 (key Y q f) = ct Y 1 := by
  have h := ct_six Y
  exact dg_of (hi := 1 * ct Y 2 + 8 * ct Y 3 + 64 * ct Y 4 + 512 * ct Y 5 + 4096 * ct Y 6 + 32768 * ct Y 7) (lo := 32 * ct Y 0 + 4 * q + f) (by rw [key_eq]; omega) (by omega) (by omega)
theorem dg_2 {Y : Rack} {q f : Nat} (hq : q < 8) (hf : f < 4) : dg 2048 (key Y q f) = ct Y 2 := by
  have h := ct_six Y
  exact dg_of (hi := 1 * ct Y 3 + 8 * ct Y 4 + 64 * ct Y 5 + 512 * ct Y 6 + 4096 * ct Y 7) (lo := 32 * ct Y 0 + 256 * ct Y 1 + 4 * q + f) (by rw [key_eq]; omega) (by omega) (by omega)
theorem dg_3 {Y : Rack} {q f : Nat} (hq : q < 8) (hf : f < 4) : dg 16384 (key Y q f) = ct Y 3 := by
  have h := ct_six Y
  exact dg_of (hi := 1 * ct Y 4 + 8 * ct Y 5 + 64 * ct Y 6 + 512 * ct Y 7) (lo := 32 * ct Y 0 + 256 * ct Y 1 + 2048 * ct Y 2 + 4 * q + f) (by rw [key_eq]; omega) (by omega) (by omega)
theorem dg_4 {Y : Rack} {q f : Nat} (hq : q < 8) (hf : f < 4) : dg 131072 (key Y q f) = ct Y 4 := by
  have h := ct_six Y
  exact dg_of (hi := 1 * ct Y 5 + 8 * ct Y 6 + 64 * ct Y 7) (lo := 32 * ct Y 0 + 256 * ct Y 1 + 2048 * ct Y 2 + 16384 * ct Y 3 + 4 * q + f) (by rw [key_eq]; omega) (by omega) (by omega)
theorem dg_5 {Y : Rack} {q f : Nat} (hq : q < 8) (hf : f < 4) : dg 1048576 (key Y q f) = ct Y 5 := by
  have h := ct_six Y
  exact dg_of (hi := 1 * ct Y 6 + 8 * ct Y 7) (lo := 32 * ct Y 0 + 256 * ct Y 1 + 2048 * ct Y 2 + 16384 * ct Y 3 + 131072 * ct Y 4 + 4 * q + f) (by rw [key_eq]; omega) (by omega) (by omega)
theorem dg_6 {Y : Rack} {q f : Nat} (hq : q < 8) (hf : f < 4) : dg 8388608 (key Y q f) = ct Y 6 := by
  have h := ct_six Y
  exact dg_of (hi := 1 * ct Y 7) (lo := 32 * ct Y 0 + 256 * ct Y 1 + 2048 * ct Y 2 + 16384 * ct Y 3 + 131072 * ct Y 4 + 1048576 * ct Y 5 + 4 * q + f) (by rw [key_eq]; omega) (by omega) (by omega)
theorem dg_7 {Y : Rack} {q f : Nat} (hq : q < 8) (hf : f < 4) : dg 67108864 (key Y q f) = ct Y 7 := by
  have h := ct_six Y
  exact dg_of (hi := 0) (lo := 32 * ct Y 0 + 256 * ct Y 1 + 2048 * ct Y 2 + 16384 * ct Y 3 + 131072 * ct Y 4 + 1048576 * ct Y 5 + 8388608 * ct Y 6 + 4 * q + f) (by rw [key_eq]; omega) (by omega) (by omega)
theorem dg_wt {Y : Rack} {q f a : Nat} (hq : q < 8) (hf : f < 4) (ha : a < 8) : dg (wt a) (key Y q f) = ct Y a := by
  rcases eight ha with rfl | rfl | rfl | rfl | rfl | rfl | rfl | rfl
  · exact dg_0 hq hf
  · exact dg_1 hq hf
  · exact dg_2 hq hf
  · exact dg_3 hq hf
  · exact dg_4 hq hf
  · exact dg_5 hq hf
  · exact dg_6 hq hf
  · exact dg_7 hq hf
theorem dg_q {Y : Rack} {q f : Nat} (hq : q < 8) (hf : f < 4) : dg 4 (key Y q f) = q := by
  have h := ct_six Y
  exact dg_of (hi := 1 * ct Y 0 + 8 * ct Y 1 + 64 * ct Y 2 + 512 * ct Y 3 + 4096 * ct Y 4 + 32768 * ct Y 5 + 262144 * ct Y 6 + 2097152 * ct Y 7) (lo := f) (by rw [key_eq]; omega) (by omega) (by omega)
theorem md_f {Y : Rack} {q f : Nat} (hq : q < 8) (hf : f < 4) : key Y q f % 4 = f := by
  rw [key_eq]; omega
theorem len_types {Y : Rack} (h : ∀ k, k < 6 → size (Y k) ≤ 4 ∧ good (Y k)) : tot List.length Y = ct Y 1 + ct Y 2 + 2 * (ct Y 3 + ct Y 4) + 3 * (ct Y 5 + ct Y 6) + 4 * ct Y 7 := by
  have e : tot List.length Y = tot (fun t => (fun x => (x + 1) / 2) (ty t)) Y := by
    refine sum6_congr fun k hk => ?_
    have := h k hk
    have l := len_size this.2
    show (Y k).length = (ty (Y k) + 1) / 2
    unfold ty; split
    · omega
    · split
      · omega
      · split <;> omega
  refine e.trans ((tot_types (fun x => (x + 1) / 2) Y).trans ?_)
  simp; omega
theorem mu_key {Y : Rack} (o : Ok Y) {q f : Nat} (hq : q < 8) (hf : f < 4) : mu (key Y q f) = 8 * tot List.length Y + ct Y 0 + q := by
  have l := len_types (Y := Y) fun k hk => ⟨o.sz k hk, o.ps k hk⟩
  show 8 * ((dg 256 _ + dg 2048 _) + (2 * (dg 16384 _ + dg 131072 _) + (3 * (dg 1048576 _ + dg 8388608 _) + 4 * dg 67108864 _))) + (dg 32 _ + dg 4 _) = _
  rw [dg_0 hq hf, dg_1 hq hf, dg_2 hq hf, dg_3 hq hf, dg_4 hq hf, dg_5 hq hf, dg_6 hq hf, dg_7 hq hf, dg_q hq hf]
  omega
/-- The key behind a pour. -/
theorem key_pour {Y Z : Rack} {i j q f q' f' : Nat} {s t : Tube} (hi : i < 6) (hj : j < 6) (hij : i ≠ j) (hZ : Z = upd (upd Y i s) j t) : key Z q' f' + wt (ty (Y i)) + wt (ty (Y j)) + 4 * q + f = key Y q f + wt (ty s) + wt (ty t) + 4 * q' + f' := by
  have := tot_pour (φ := fun t => wt (ty t)) (Y := Y) (s := s) (t := t) hi hj hij
  subst hZ
  unfold key
  omega
theorem ct_pour {Y Z : Rack} {i j : Nat} {s t : Tube} (a : Nat) (hi : i < 6) (hj : j < 6) (hij : i ≠ j) (hZ : Z = upd (upd Y i s) j t) : ct Z a + ind a (Y i) + ind a (Y j) = ct Y a + ind a s + ind a t := by
  subst hZ
  exact tot_pour hi hj hij
theorem two_le {f : Nat → Nat} {i j : Nat} (hi : i < 6) (hj : j < 6) (hij : i ≠ j) : f i + f j ≤ sum6 f := by
  rcases six hi with rfl | rfl | rfl | rfl | rfl | rfl <;> rcases six hj with rfl | rfl | rfl | rfl | rfl | rfl <;> simp only [sum6] <;> omega
/-- Another tube of the kind is there. -/
theorem has_pos {Y : Rack} {i j q f : Nat} (hq : q < 8) (hf : f < 4) (hi : i < 6) (hj : j < 6) (hij : i ≠ j) : 0 < has (key Y q f) (wt (ty (Y i))) (wt (ty (Y j))) := by
  have ai := ty_lt (Y i)
  have aj := ty_lt (Y j)
  have h2 := two_le (f := fun k => ind (ty (Y i)) (Y k)) hi hj hij
  have e1 : ind (ty (Y i)) (Y i) = 1 := if_pos rfl
  have e2 : sum6 (fun k => ind (ty (Y i)) (Y k)) = ct Y (ty (Y i)) := rfl
  simp only [e1, e2] at h2
  unfold has
  rw [dg_wt hq hf ai]
  by_cases e : ty (Y i) = ty (Y j)
  · have e3 : ind (ty (Y i)) (Y j) = 1 := if_pos e.symm
    rw [e3] at h2
    rw [e, show Nat.beq (wt (ty (Y j))) (wt (ty (Y j))) = true from Nat.beq_refl _]
    show 0 < ct Y (ty (Y j)) - 1
    rw [e] at h2; omega
  · have : wt (ty (Y i)) ≠ wt (ty (Y j)) := by
      intro h; apply e
      generalize ty (Y i) = x at *
      generalize ty (Y j) = y at *
      rcases eight ai with rfl | rfl | rfl | rfl | rfl | rfl | rfl | rfl <;> rcases eight aj with rfl | rfl | rfl | rfl | rfl | rfl | rfl | rfl <;> first | rfl | exact absurd h (by decide)
    rw [show Nat.beq (wt (ty (Y i))) (wt (ty (Y j))) = false from by rw [Bool.eq_false_iff]; intro h; exact this (Nat.eq_of_beq_eq_true h)]
    show 0 < ct Y (ty (Y i)); omega
end Go.Proofs.YtgpafbbnobanbaaGreatDoor.Way
