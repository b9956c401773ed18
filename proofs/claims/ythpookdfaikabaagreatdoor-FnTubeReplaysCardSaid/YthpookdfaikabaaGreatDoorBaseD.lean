import Derived.Test.YthpookdfaikabaaGreatDoorBaseC
/- Loops told by their states; rules for simp. -/
namespace Go.Proofs.YthpookdfaikabaaGreatDoor.AM
open Go
set_option maxRecDepth 1000000
set_option linter.unusedSimpArgs false
set_option linter.unusedVariables false
/-- one turn of a loop: behind the body, what lives at the next head -/
noncomputable def turnK (m : Nat) (live : List Nat) : R → Option (Env × Heap)
  | some (.norm, e, h) => gcE m live e h
  | _ => none
@[simp] theorem turnK_norm (m : Nat) (live : List Nat) (e : Env) (h : Heap) : turnK m live (some (.norm, e, h)) = gcE m live e h := rfl
@[simp] theorem turnK_ite (m : Nat) (live : List Nat) (c : Prop) [Decidable c] (x y : R) : turnK m live (if c then x else y) = if c then turnK m live x else turnK m live y := by split <;> rfl
theorem loop_from {P : Prog} {Q : Prim} {m : Nat} {a : ACode} {live : List Nat} (S : Nat → Env × Heap) : ∀ (n i : Nat), (∀ k, i ≤ k → k < i + n → turnK m live (exI P Q m a (S k).1 (S k).2) = some (S (k + 1))) → loopG P Q m a live (some (S i)) = loopK P Q m a live (exI P Q m a (S (i + n)).1 (S (i + n)).2)
  | 0, i, _ => rfl
  | n + 1, i, h => by
    have h0 := h i (Nat.le_refl _) (by omega)
    have ih := loop_from (P := P) (Q := Q) S n (i + 1) fun k h1 h2 => h k (by omega) (by omega)
    rw [show i + (n + 1) = i + 1 + n by omega, ← ih]
    show loopK P Q m a live (exI P Q m a (S i).1 (S i).2) = _
    unfold turnK at h0
    split at h0
    · rename_i e hh he
      rw [he]
      show exI P Q m (.loop a live) e hh = _
      rw [exI_loop', h0]
    · cases h0
/-- a loop comes to the state S n -/
theorem loop_to {P : Prog} {Q : Prim} {m : Nat} {a : ACode} {live : List Nat} {e : Env} {h : Heap} (S : Nat → Env × Heap) (n : Nat) (h0 : gcE m live e h = some (S 0)) (hs : ∀ k, k < n → turnK m live (exI P Q m a (S k).1 (S k).2) = some (S (k + 1))) : exI P Q m (.loop a live) e h = loopK P Q m a live (exI P Q m a (S n).1 (S n).2) := by
  rw [exI_loop', h0, loop_from S n 0 fun k _ hk => hs k (by omega)]
  rw [Nat.zero_add]
theorem loop_to' {P : Prog} {Q : Prim} {m : Nat} {a : ACode} {live : List Nat} {e : Env} {h : Heap} (S : Nat → Env × Heap) (i n : Nat) (h0 : gcE m live e h = some (S i)) (hs : ∀ k, i ≤ k → k < i + n → turnK m live (exI P Q m a (S k).1 (S k).2) = some (S (k + 1))) : exI P Q m (.loop a live) e h = loopK P Q m a live (exI P Q m a (S (i + n)).1 (S (i + n)).2) := by
  rw [exI_loop', h0, loop_from S n i hs]
theorem cids_app (a b : List C) : cids (a ++ b) = cids a ++ cids b := by
  induction a with
  | nil => rfl
  | cons c a ih => simp [cids, ih]
theorem cmp_app (g : Nat → Nat) (a b : List C) : cmp g (a ++ b) = cmp g a ++ cmp g b := by
  induction a with
  | nil => rfl
  | cons c a ih => simp [cmp, ih]
theorem noDead_app2 : ∀ (a b : List C), noDead (a ++ b) = (noDead a && noDead b)
  | [], _ => rfl
  | c :: a, b => by cases c <;> simp [noDead, noDead_app2 a b]
theorem noDead_flatC (l : List (Nat × Nat)) : noDead (flatC l) = true := noDead_ints _ _
theorem cmp_flatC (g : Nat → Nat) (l : List (Nat × Nat)) : cmp g (flatC l) = flatC l := cmp_ints _ _ _
theorem cids_rep (n : Nat) (k : IntKind) (x : Int) : cids (List.replicate n (C.int k x)) = [] := by
  have : List.replicate n (C.int k x) = (List.replicate n x).map (C.int k) := by simp
  rw [this, cids_ints]
theorem cmp_rep (g : Nat → Nat) (n : Nat) (k : IntKind) (x : Int) : cmp g (List.replicate n (C.int k x)) = List.replicate n (C.int k x) := cmp_pure (cids_rep n k x)
/-- the next number -/
theorem wrapS {k : Nat} (h : k < 1000000000) : IntKind.i64.wrap ((k : Int) + 1) = ((k + 1 : Nat) : Int) := by rw [wrapI (by omega) (by omega)]; rfl
theorem drop_take1 {c : List Int} {j : Nat} (h : j < c.length) : ((c.map (C.int .i64)).drop j).take 1 = [C.int .i64 (c.getD j 0)] := by
  rw [List.drop_eq_getElem_cons (by simpa using h)]
  simp [List.getD_eq_getElem?_getD, List.getElem?_eq_getElem h]
attribute [simp] gcE gcL upto reach idsAt closed inL sub envIds pos stillA HOp.ev appSrc maxRoom cut back cids_app cmp_app noDead_app2 noDead_flatC cmp_flatC flatC_ids cids_rep cmp_rep flatC_len
end Go.Proofs.YthpookdfaikabaaGreatDoor.AM

/- Contracts: greatest common divisors, fractions in lowest terms and their sums, for numbers that are not negative. -/
namespace Go.Proofs.YthpookdfaikabaaGreatDoor.AM
open Go
set_option maxRecDepth 1000000
set_option linter.unusedSimpArgs false
set_option linter.unusedVariables false
theorem c_spec_l1Most (a b : Int) : fnI pr np 100 [.c (.int .i64 a), .c (.int .i64 b)] [] = some (.c (.int .i64 (max a b)), []) := by
  rw [fb (fn := a100) rfl rfl rfl]
  by_cases h : b < a
  · have : max a b = a := by omega
    simp [a100, h, this]
  · have : max a b = b := by omega
    simp [a100, h, this]
end Go.Proofs.YthpookdfaikabaaGreatDoor.AM

/- Contracts of the functions on one tube: each holds at all valid tubes, by computation. -/
namespace Go.Proofs.YthpookdfaikabaaGreatDoor.AM
open Go
set_option maxRecDepth 1000000
set_option linter.unusedSimpArgs false
set_option linter.unusedVariables false
def manyT (t : List Int) : Bool := match t with
  | [a, b, c, d] => decide (pos1 a + pos1 b + pos1 c + pos1 d = (layN t : Int))
  | _ => false
theorem manyT_all : allT manyT = true := by kernel_rfl
theorem c_many (t : List Int) (ht : t.length = 4) (hv : tubeP t = true) : fnI pr np 73 [.agg (t.map (C.int .i64))] [] = some (.c (.int .i64 (layN t)), []) := by
  have := tubes_all manyT_all ht hv
  obtain ⟨a, b, c, d, rfl⟩ := len4 ht
  simp only [manyT, decide_eq_true_eq] at this
  rw [← this]
  exact c_spec_l2Many a b c d
def pairC (l : List (Int × Int)) : List C := l.flatMap fun p => [C.int .i64 p.1, C.int .i64 p.2]
theorem pairC_len (l : List (Int × Int)) : (pairC l).length = l.length * 2 := by
  induction l with
  | nil => rfl
  | cons p l ih => simp [pairC] at ih ⊢; omega
theorem pairC_last (l : List (Int × Int)) (p : Int × Int) : ((pairC (l ++ [p])).drop (l.length * 2)).take 2 = [C.int .i64 p.1, C.int .i64 p.2] := by
  have : pairC (l ++ [p]) = pairC l ++ [C.int .i64 p.1, C.int .i64 p.2] := by simp [pairC]
  rw [this, List.drop_left' (pairC_len l)]
  rfl
theorem c_impl_top (t : List Int) (ht : t.length = 4) (hv : tubeP t = true) : fnI pr np 78 [.agg (t.map (C.int .i64))] [] = some (.tup [.c (.int .i64 (topOf t).1), .c (.int .i64 (topOf t).2)], []) := by
  have o := top_ok ht hv
  have hc := callA_new (runs_i t ht hv) (by simp)
  have ht4 : (t.map (C.int .i64)).take 4 = t.map (C.int .i64) := List.take_of_length_le (by simp; omega)
  have r1 := o.r1
  have r2 := o.r2
  have hn := runsOf_len t
  have hrc : runsC t = pairC (runsOf t) := rfl
  simp only [runsV, hrc] at hc
  rw [fb (fn := a78) rfl rfl rfl]
  rcases List.eq_nil_or_concat (runsOf t) with h0 | ⟨l, p, h1⟩
  · rw [h0] at r1 r2 hc
    simp at r1 r2
    simp [a78, ht, ht4, hc, pairC, r1, r2]
  · rw [h1] at r1 r2 hc hn
    simp at r1 r2 hn
    have hpl := pairC_len (l ++ [p])
    have hlast := pairC_last l p
    have hids : cids (pairC (l ++ [p])) = [] := by
      have : pairC (l ++ [p]) = ((l ++ [p]).flatMap fun q => [q.1, q.2]).map (C.int .i64) := by simp [pairC, List.map_flatMap]
      rw [this, cids_ints]
    have hcmp : ∀ g, cmp g (pairC (l ++ [p])) = pairC (l ++ [p]) := fun g => cmp_pure hids
    have hw : IntKind.i64.wrap (l.length : Int) = (l.length : Int) := wrapI (by omega) (by omega)
    have hlt : (l.length : Int) < (l.length : Int) + 1 := by omega
    have hle : l.length * 2 + 2 ≤ (l.length + 1) * 2 := by omega
    have hmin : min 2 ((l.length + 1) * 2 - l.length * 2) = 2 := by omega
    have hnz : ¬ ((l.length : Int) + 1 = 0) := by omega
    simp at hpl hc hids hcmp hlast
    simp [a78, ht, ht4, hc, hpl, hcmp, hids, hlast, hw, hnz, hlt, hle, hmin, r1, r2]
theorem c_lay (t : List Int) (ht : t.length = 4) : fnI pr np 79 [.agg (t.map (C.int .i64))] [] = some (.c (.int .i64 (layN t)), []) := by
  have := c_impl_layers t ht
  rwa [(lay_eq ht).1] at this
theorem c_spec_l1Least (a b : Int) : fnI pr np 74 [.c (.int .i64 a), .c (.int .i64 b)] [] = some (.c (.int .i64 (min a b)), []) := by
  rw [fb (fn := a74) rfl rfl rfl]
  by_cases h : a < b
  · have : min a b = a := by omega
    simp [a74, h, this]
  · have : min a b = b := by omega
    simp [a74, h, this]
/-- facts on a valid rack -/
structure RackOK (r : List Int) : Prop where
  len : r.length = 24
  val : rackP r = true
theorem RackOK.t4 {r : List Int} (h : RackOK r) {i : Nat} (hi : i < 6) : (tubeAt r i).length = 4 := tubeAt_len h.len hi
theorem RackOK.tv {r : List Int} (h : RackOK r) {i : Nat} (hi : i < 6) : tubeP (tubeAt r i) = true := rackP_tube h.val hi
theorem RackOK.top {r : List Int} (h : RackOK r) {i : Nat} (hi : i < 6) : TopOK (tubeAt r i) := top_ok (h.t4 hi) (h.tv hi)
theorem RackOK.pour {r : List Int} (h : RackOK r) {i j : Nat} (hi : i < 6) (hj : j < 6) (hij : i ≠ j) : RackOK (pourR r i j) := ⟨pourR_len h.len i j, rackP_pour h.len h.val hi hj hij⟩
theorem cells_tube (r : List Int) (i : Nat) : ((r.map (C.int .i64)).drop (i * 4)).take 4 = (tubeAt r i).map (C.int .i64) := by simp [tubeAt]
theorem take24 {r : List Int} (h : r.length = 24) : (r.map (C.int .i64)).take 24 = r.map (C.int .i64) := List.take_of_length_le (by simp; omega)
end Go.Proofs.YthpookdfaikabaaGreatDoor.AM

/- Contracts: whether one can pour, and what a pour leaves. -/
namespace Go.Proofs.YthpookdfaikabaaGreatDoor.AM
open Go
set_option maxRecDepth 1000000
set_option linter.unusedSimpArgs false
set_option linter.unusedVariables false
theorem c_spec_l2Can (r : List Int) (h : RackOK r) {i j : Nat} (hi : i < 6) (hj : j < 6) : fnI pr np 64 [.agg (r.map (C.int .i64)), .c (.int .i64 i), .c (.int .i64 j)] [] = some (.c (.bool (canP r i j)), []) := by
  have ci := callA_pure (top_all _ (h.t4 hi) (h.tv hi)) (by simp) (by simp)
  have cj := callA_pure (top_all _ (h.t4 hj) (h.tv hj)) (by simp) (by simp)
  have mj := callA_pure (c_many _ (h.t4 hj) (h.tv hj)) (by simp) (by simp)
  have ti := cells_tube r i
  have tj := cells_tube r j
  have hr := h.len
  have li : i * 4 + 4 ≤ 24 := by omega
  have lj : j * 4 + 4 ≤ 24 := by omega
  have oi := h.top hi
  have hi' : (i : Int) < 6 := by omega
  have hj' : (j : Int) < 6 := by omega
  have hc : (0 < (topOf (tubeAt r i)).2) ↔ (0 < (topOf (tubeAt r i)).1) := by
    have := oi.cn; have := oi.c0; have := oi.n0; omega
  have hle : ((layN (tubeAt r j) : Int) < 4) ↔ layN (tubeAt r j) < 4 := by omega
  rw [fb (fn := a64) rfl rfl rfl]
  unfold canP
  by_cases e1 : i = j
  · subst e1
    simp [a64, hr, li, hi, hi', ti, ci]
  · have e1' : ((i : Int) != j) = true := bne_iff_ne.2 (by omega)
    by_cases e2 : 0 < (topOf (tubeAt r i)).1
    · have e2' := hc.2 e2
      by_cases e3 : layN (tubeAt r j) < 4
      · have e3' := hle.2 e3
        by_cases e4 : (topOf (tubeAt r j)).1 = 0
        · simp [a64, hr, li, lj, hi, hj, hi', hj', ti, tj, ci, cj, mj, e1, e1', e2, e2', e3, e3', e4]
        · have e4' : ((topOf (tubeAt r j)).1 == 0) = false := by simpa using e4
          simp [a64, hr, li, lj, hi, hj, hi', hj', ti, tj, ci, cj, mj, e1, e1', e2, e2', e3, e3', e4, e4']
          rw [Bool.eq_iff_iff]
          simp
      · have e3' : ¬ (layN (tubeAt r j) : Int) < 4 := fun x => e3 (hle.1 x)
        simp [a64, hr, li, lj, hi, hj, hi', hj', ti, tj, ci, cj, mj, e1, e1', e2, e2', e3, e3']
    · have e2' : ¬ 0 < (topOf (tubeAt r i)).2 := fun x => e2 (hc.1 x)
      simp [a64, hr, li, lj, hi, hj, hi', hj', ti, tj, ci, cj, e1, e1', e2, e2']
theorem c_impl_canPour (r : List Int) (h : RackOK r) {i j : Nat} (hi : i < 6) (hj : j < 6) : fnI pr np 53 [.agg (r.map (C.int .i64)), .c (.int .i64 i), .c (.int .i64 j)] [] = some (.c (.bool (canP r i j)), []) := by
  have ci := callA_pure (c_impl_top _ (h.t4 hi) (h.tv hi)) (by simp) (by simp)
  have cj := callA_pure (c_impl_top _ (h.t4 hj) (h.tv hj)) (by simp) (by simp)
  have mj := callA_pure (c_lay _ (h.t4 hj)) (by simp) (by simp)
  have ti := cells_tube r i
  have tj := cells_tube r j
  have hr := h.len
  have li : i * 4 + 4 ≤ 24 := by omega
  have lj : j * 4 + 4 ≤ 24 := by omega
  have hi' : (i : Int) < 6 := by omega
  have hj' : (j : Int) < 6 := by omega
  have hle : ((layN (tubeAt r j) : Int) < 4) ↔ layN (tubeAt r j) < 4 := by omega
  rw [fb (fn := a53) rfl rfl rfl]
  unfold canP
  by_cases e1 : i = j
  · subst e1
    simp [a53, hr, li, hi, hi', ti, ci]
  · have e1' : ((i : Int) != j) = true := bne_iff_ne.2 (by omega)
    by_cases e2 : 0 < (topOf (tubeAt r i)).1
    · by_cases e3 : layN (tubeAt r j) < 4
      · have e3' := hle.2 e3
        by_cases e4 : (topOf (tubeAt r j)).1 = 0
        · simp [a53, hr, li, lj, hi, hj, hi', hj', ti, tj, ci, cj, mj, e1, e1', e2, e3, e3', e4]
        · have e4' : ((topOf (tubeAt r j)).1 == 0) = false := by simpa using e4
          simp [a53, hr, li, lj, hi, hj, hi', hj', ti, tj, ci, cj, mj, e1, e1', e2, e3, e3', e4, e4']
          rw [Bool.eq_iff_iff]
          simp
      · have e3' : ¬ (layN (tubeAt r j) : Int) < 4 := fun x => e3 (hle.1 x)
        simp [a53, hr, li, lj, hi, hj, hi', hj', ti, tj, ci, cj, mj, e1, e1', e2, e3, e3']
    · simp [a53, hr, li, lj, hi, hj, hi', hj', ti, tj, ci, cj, e1, e1', e2]
end Go.Proofs.YthpookdfaikabaaGreatDoor.AM

/- Contracts: the rack behind a pour. -/
namespace Go.Proofs.YthpookdfaikabaaGreatDoor.AM
open Go
set_option maxRecDepth 1000000
set_option linter.unusedSimpArgs false
set_option linter.unusedVariables false
theorem pourN_le {r : List Int} (h : RackOK r) {i j : Nat} (hi : i < 6) (hj : j < 6) : pourN r i j ≤ layN (tubeAt r i) ∧ layN (tubeAt r j) + pourN r i j ≤ 4 ∧ layN (tubeAt r i) ≤ 4 ∧ layN (tubeAt r j) ≤ 4 ∧ min (topOf (tubeAt r i)).2 (4 - (layN (tubeAt r j) : Int)) = (pourN r i j : Int) ∧ 0 ≤ (topOf (tubeAt r i)).2 ∧ (topOf (tubeAt r i)).2 ≤ 4 := by
  have oi := h.top hi
  have oj := h.top hj
  have := oi.nl; have := oi.n0; have := oi.l4; have := oj.l4
  unfold pourN
  omega
theorem c_spec_l2Pour (r : List Int) (h : RackOK r) {i j : Nat} (hi : i < 6) (hj : j < 6) : fnI pr np 49 [.agg (r.map (C.int .i64)), .c (.int .i64 i), .c (.int .i64 j)] [] = some (.tup [.agg ((pourR r i j).map (C.int .i64)), .c (.int .i64 (pourN r i j))], []) := by
  have ci := callA_pure (top_all _ (h.t4 hi) (h.tv hi)) (by simp) (by simp)
  have mi := callA_pure (c_many _ (h.t4 hi) (h.tv hi)) (by simp) (by simp)
  have mj := callA_pure (c_many _ (h.t4 hj) (h.tv hj)) (by simp) (by simp)
  have cl := callA_pure (c_spec_l1Least (topOf (tubeAt r i)).2 (4 - (layN (tubeAt r j) : Int))) (by simp) (by simp)
  have ti := cells_tube r i
  have tj := cells_tube r j
  have hr := h.len
  have li : i * 4 + 4 ≤ 24 := by omega
  have lj : j * 4 + 4 ≤ 24 := by omega
  have hi' : (i : Int) < 6 := by omega
  have hj' : (j : Int) < 6 := by omega
  obtain ⟨b1, b2, b3, b4, b5, b6, b7⟩ := pourN_le h hi hj
  rw [b5] at cl
  have hpr : pourR r i j = pourGo i j (layN (tubeAt r i)) (layN (tubeAt r j)) (topOf (tubeAt r i)).1 (pourN r i j) r := rfl
  rw [hpr]
  generalize tubeAt r i = A at *
  generalize tubeAt r j = B at *
  generalize pourN r i j = n at *
  generalize layN A = f at *
  generalize layN B = t at *
  generalize (topOf A).1 = c at *
  generalize (topOf A).2 = run at *
  have w0 : IntKind.i64.wrap (4 - (t : Int)) = 4 - (t : Int) := wrapI (by omega) (by omega)
  rw [fb (fn := a49) rfl rfl rfl]
  simp [a49, hr, li, lj, hi, hj, hi', hj', ti, tj, ci, mi, mj, cl, w0]
  rw [loop_to (fun k => ([(1, V.c (C.int .i64 i)), (2, V.c (C.int .i64 j)), (3, V.c (C.ptr 0 0)), (6, V.c (C.ptr 1 0)), (8, V.c (C.int .i64 c)), (10, V.c (C.int .i64 f)), (11, V.c (C.int .i64 t)), (12, V.c (C.int .i64 n)), (13, V.c (C.int .i64 k))], [Blk.cells ((pourGo i j f t c k r).map (C.int .i64)) true, Blk.cells (List.replicate 24 (C.int .i64 0)) true])) n]
  · have hl := pourGo_len i j f t c n r
    have htk : ((pourGo i j f t c n r).map (C.int .i64)).take 24 = (pourGo i j f t c n r).map (C.int .i64) := take24 (by omega)
    simp [hl, hr, htk, setAt_all]
  · simp [pourGo]
  · intro k hk
    have hl := pourGo_len i j f t c k r
    obtain ⟨u, hu⟩ : ∃ u : Nat, u = t + k := ⟨_, rfl⟩
    obtain ⟨v, hv⟩ : ∃ v : Nat, v = f - 1 - k := ⟨_, rfl⟩
    have w1 : IntKind.i64.wrap ((f : Int) - 1) = (f : Int) - 1 := wrapI (by omega) (by omega)
    have w2 : IntKind.i64.wrap ((f : Int) - 1 - (k : Int)) = (v : Int) := by rw [wrapI (by omega) (by omega)]; omega
    have w3 : IntKind.i64.wrap ((t : Int) + (k : Int)) = (u : Int) := by rw [wrapI (by omega) (by omega)]; omega
    have w4 := wrapS (k := k) (by omega)
    have hv4 : v < 4 := by omega
    have hu4 : u < 4 := by omega
    have hv4' : (v : Int) < 4 := by omega
    have hu4' : (u : Int) < 4 := by omega
    have lv : i * 4 + v + 1 ≤ 24 := by omega
    have lu : j * 4 + u + 1 ≤ 24 := by omega
    have hset : (((pourGo i j f t c k r).map (C.int .i64)).set (i * 4 + v) (C.int .i64 0)).set (j * 4 + u) (C.int .i64 c) = (pourGo i j f t c (k + 1) r).map (C.int .i64) := by simp [pourGo, pourStep, List.map_set, ← hu, ← hv]
    simp [hl, hr, hk, hi, hj, hi', hj', w1, w2, w3, w4, hv4, hu4, hv4', hu4', lv, lu, hset]
theorem c_impl_pour (r : List Int) (h : RackOK r) {i j : Nat} (hi : i < 6) (hj : j < 6) : fnI pr np 54 [.agg (r.map (C.int .i64)), .c (.int .i64 i), .c (.int .i64 j)] [] = some (.tup [.agg ((pourR r i j).map (C.int .i64)), .c (.int .i64 (pourN r i j))], []) := by
  have ci := callA_pure (c_impl_top _ (h.t4 hi) (h.tv hi)) (by simp) (by simp)
  have mi := callA_pure (c_lay _ (h.t4 hi)) (by simp) (by simp)
  have mj := callA_pure (c_lay _ (h.t4 hj)) (by simp) (by simp)
  have ti := cells_tube r i
  have tj := cells_tube r j
  have hr := h.len
  have li : i * 4 + 4 ≤ 24 := by omega
  have lj : j * 4 + 4 ≤ 24 := by omega
  have hi' : (i : Int) < 6 := by omega
  have hj' : (j : Int) < 6 := by omega
  obtain ⟨b1, b2, b3, b4, b5, b6, b7⟩ := pourN_le h hi hj
  have hpr : pourR r i j = pourGo i j (layN (tubeAt r i)) (layN (tubeAt r j)) (topOf (tubeAt r i)).1 (pourN r i j) r := rfl
  rw [hpr]
  generalize tubeAt r i = A at *
  generalize tubeAt r j = B at *
  generalize pourN r i j = n at *
  generalize layN A = f at *
  generalize layN B = t at *
  generalize (topOf A).1 = c at *
  generalize (topOf A).2 = run at *
  have w0 : IntKind.i64.wrap (4 - (t : Int)) = 4 - (t : Int) := wrapI (by omega) (by omega)
  have hmn : (if 4 - (t : Int) < run then 4 - (t : Int) else run) = (n : Int) := by split <;> omega
  rw [fb (fn := a54) rfl rfl rfl]
  simp [a54, hr, li, lj, hi, hj, hi', hj', ti, tj, ci, mi, mj, w0, hmn]
  rw [loop_to (fun k => ([(1, V.c (C.int .i64 i)), (2, V.c (C.int .i64 j)), (3, V.c (C.ptr 0 0)), (6, V.c (C.ptr 1 0)), (8, V.c (C.int .i64 c)), (9, V.c (C.int .i64 n)), (10, V.c (C.int .i64 f)), (11, V.c (C.int .i64 t)), (35, V.c (C.int .i64 n)), (36, V.c (C.int .i64 k))], [Blk.cells ((pourGo i j f t c k r).map (C.int .i64)) true, Blk.cells (List.replicate 24 (C.int .i64 0)) true])) n]
  · have hl := pourGo_len i j f t c n r
    have htk : ((pourGo i j f t c n r).map (C.int .i64)).take 24 = (pourGo i j f t c n r).map (C.int .i64) := take24 (by omega)
    simp [hl, hr, htk, setAt_all]
  · simp [pourGo]
  · intro k hk
    have hl := pourGo_len i j f t c k r
    obtain ⟨u, hu⟩ : ∃ u : Nat, u = t + k := ⟨_, rfl⟩
    obtain ⟨v, hv⟩ : ∃ v : Nat, v = f - 1 - k := ⟨_, rfl⟩
    have w1 : IntKind.i64.wrap ((f : Int) - 1) = (f : Int) - 1 := wrapI (by omega) (by omega)
    have w2 : IntKind.i64.wrap ((f : Int) - 1 - (k : Int)) = (v : Int) := by rw [wrapI (by omega) (by omega)]; omega
    have w3 : IntKind.i64.wrap ((t : Int) + (k : Int)) = (u : Int) := by rw [wrapI (by omega) (by omega)]; omega
    have w4 := wrapS (k := k) (by omega)
    have hv4 : v < 4 := by omega
    have hu4 : u < 4 := by omega
    have hv4' : (v : Int) < 4 := by omega
    have hu4' : (u : Int) < 4 := by omega
    have lv : i * 4 + v + 1 ≤ 24 := by omega
    have lu : j * 4 + u + 1 ≤ 24 := by omega
    have hset : (((pourGo i j f t c k r).map (C.int .i64)).set (i * 4 + v) (C.int .i64 0)).set (j * 4 + u) (C.int .i64 c) = (pourGo i j f t c (k + 1) r).map (C.int .i64) := by simp [pourGo, pourStep, List.map_set, ← hu, ← hv]
    simp [hl, hr, hk, hi, hj, hi', hj', w1, w2, w3, w4, hv4, hu4, hv4', hu4', lv, lu, hset]
end Go.Proofs.YthpookdfaikabaaGreatDoor.AM

/- Contracts: all pours of a rack. -/
namespace Go.Proofs.YthpookdfaikabaaGreatDoor.AM
open Go
set_option maxRecDepth 1000000
set_option linter.unusedSimpArgs false
set_option linter.unusedVariables false
theorem poursTo_zero (r : List Int) : poursTo r 0 = [] := rfl
theorem flatC_nil : flatC [] = [] := rfl
theorem poursTo_pos {r : List Int} {i j : Nat} (hj : j < 6) (h : canP r i j = true) : poursTo r (i * 6 + (j + 1)) = poursTo r (i * 6 + j) ++ [(i, j)] := by
  have e1 : (i * 6 + j) / 6 = i := by omega
  have e2 : (i * 6 + j) % 6 = j := by omega
  rw [← Nat.add_assoc, poursTo_succ]
  simp [pairAt, e1, e2, h]
theorem poursTo_neg {r : List Int} {i j : Nat} (hj : j < 6) (h : canP r i j = false) : poursTo r (i * 6 + (j + 1)) = poursTo r (i * 6 + j) := by
  have e1 : (i * 6 + j) / 6 = i := by omega
  have e2 : (i * 6 + j) % 6 = j := by omega
  rw [← Nat.add_assoc, poursTo_succ]
  simp [e1, e2, h]
theorem flatC_take (l : List (Nat × Nat)) (z : List C) : (flatC l ++ z).take (l.length * 2) = flatC l := List.take_left' (flatC_len l)
theorem flatC_take' (l : List (Nat × Nat)) : (flatC l).take (l.length * 2) = flatC l := List.take_of_length_le (by simp [flatC_len])
set_option maxHeartbeats 2000000 in
theorem c_spec_l2Pours (r : List Int) (h : RackOK r) : fnI pr np 58 [.agg (r.map (C.int .i64))] [] = some (.c (.sl 0 0 (poursL r).length 2), [.cells (flatC (poursL r)) true]) := by
  have hr := h.len
  have h24 := take24 hr
  rw [fb (fn := a58) rfl rfl rfl]
  simp [a58, hr]
  rw [loop_to (fun i => ([(1, V.c (C.ptr 0 0)), (3, V.c (C.sl 1 0 (poursTo r (i * 6)).length 2)), (4, V.c (C.int .i64 i))], [Blk.cells (r.map (C.int .i64)) true, Blk.cells (flatC (poursTo r (i * 6))) true])) 6]
  · simp [poursL]
  · simp [poursTo_zero, flatC_nil]
  · intro i hi
    have hi' : (i : Int) < 6 := by omega
    have e6 : (i + 1) * 6 = i * 6 + 6 := by omega
    have wi := wrapS (k := i) (by omega)
    simp [hi, hi']
    rw [loop_to (fun j => ([(1, V.c (C.ptr 0 0)), (3, V.c (C.sl 1 0 (poursTo r (i * 6 + j)).length 2)), (4, V.c (C.int .i64 i)), (5, V.c (C.int .i64 j))], [Blk.cells (r.map (C.int .i64)) true, Blk.cells (flatC (poursTo r (i * 6 + j))) true])) 6]
    · simp [e6, wi]
    · simp
    · intro j hj
      have hj' : (j : Int) < 6 := by omega
      have wj := wrapS (k := j) (by omega)
      have hc := callA_pure (c_spec_l2Can r h hi hj) (by simp) (by simp)
      have hlen := poursTo_len r (i * 6 + j)
      have hroom : (poursTo r (i * 6 + j)).length + 1 ≤ 68719476736 := by omega
      have htk := flatC_take' (poursTo r (i * 6 + j))
      cases hq : canP r i j with
      | true =>
        rw [hq] at hc
        simp [hj, hj', hr, h24, hc, wj, hroom, htk, poursTo_pos hj hq, flatC_app, flatC_one]
      | false =>
        rw [hq] at hc
        simp [hj, hj', hr, h24, hc, wj, poursTo_neg hj hq]
end Go.Proofs.YthpookdfaikabaaGreatDoor.AM

/- Contracts: idle pours; deleting from a list of pairs in place. -/
namespace Go.Proofs.YthpookdfaikabaaGreatDoor.AM
open Go
set_option maxRecDepth 1000000
set_option linter.unusedSimpArgs false
set_option linter.unusedVariables false
/-- a test by a function with captured places: what it answers, that it leaves the heap as it is -/
structure DelOK (g : Nat) (caps : List (Nat × Nat)) (B : Heap) (d : Nat × Nat → Bool) (l : List (Nat × Nat)) : Prop where
  ids : (caps.all fun q => decide (q.1 < B.length + 1)) = true
  full : caps.map (·.1) = (upto (B.length + 1)).drop 1
  free : (B.all fun b => b.ids == []) = true
  small : B.length < 50
  call : ∀ p ∈ l, ∀ (X : Blk) (G : Heap) (base : Nat), ∃ us, callA (fnI pr np) g (V.agg [C.int .i64 p.1, C.int .i64 p.2] :: caps.map fun q => V.c (C.ptr q.1 q.2)) (lkp (X :: (B ++ G))) base = some (.c (.bool (d p)), [], us) ∧ ups us (X :: (B ++ G)) = X :: (B ++ G)
section
variable {g : Nat} {caps : List (Nat × Nat)} {B : Heap} {d : Nat × Nat → Bool} {l : List (Nat × Nat)}
theorem DelOK.wf (h : DelOK g caps B d l) {X : Blk} (hx : X.ids = []) (G : Heap) : wfH (B.length + 1) ((X :: (B ++ G)).take (B.length + 1)) = true := by
  have e : (X :: (B ++ G)).take (B.length + 1) = X :: B := by simp
  rw [e]
  unfold wfH
  rw [List.all_eq_true]
  intro b hb
  have : b.ids = [] := by
    rcases List.mem_cons.1 hb with rfl | hb
    · exact hx
    · simpa using List.all_eq_true.1 h.free b hb
  simp [this]
theorem DelOK.gc (h : DelOK g caps B d l) {live : List Nat} {e : Env} {X : Blk} (hx : X.ids = []) (G : Heap) (he : (live.all fun t => (get e t).ids.all fun i => decide (i < B.length + 1)) = true) : gcE (B.length + 1) live e (X :: (B ++ G)) = some (restrict e live, X :: B) := by
  rw [gcE_old' he (by simp) (h.wf hx G)]
  simp
theorem DelOK.cut (h : DelOK g caps B d l) {v : V} {X : Blk} (hx : X.ids = []) (G : Heap) (hv : (v.ids.all fun i => decide (i < B.length + 1)) = true) : AM.cut (B.length + 1) v (X :: (B ++ G)) = some (v, X :: B) := by
  rw [cut_old' (by rw [hv, h.wf hx G]; simp)]
  simp
theorem DelOK.capsAll (h : DelOK g caps B d l) : ((caps.map (·.1)).all fun i => decide (i < B.length + 1)) = true := by
  have := h.ids
  simpa using this
end
theorem reach_free (H : HF) : ∀ (todo seen : List Nat) (n : Nat), (∀ i ∈ todo, idsAt H i = []) → (seen ++ todo).Nodup → todo.length < n → reach H n todo seen = seen ++ todo
  | [], seen, n + 1, _, _, _ => by simp [reach]
  | i :: todo, seen, n + 1, h, hn, hl => by
    have hi : i ∉ seen := by
      intro hm
      have := List.nodup_append.1 hn
      exact (this.2.2 i hm i (by simp)) rfl
    unfold reach
    rw [if_neg hi, h i (by simp), List.append_nil, reach_free H todo (seen ++ [i]) n (fun j hj => h j (by simp [hj])) (by simpa using hn) (by simpa using hl)]
    simp
theorem ups_zip : ∀ (k : Nat) (h' P h G : Heap), h'.length = h.length → P.length = k → ups (((List.range' k h.length)).zip h') (P ++ (h ++ G)) = P ++ (h' ++ G)
  | k, [], P, [], G, _, _ => by simp [ups]
  | k, b :: h', P, c :: h, G, hl, hP => by
    have ih := ups_zip (k + 1) h' (P ++ [b]) h G (by simpa using hl) (by simp [hP])
    simp only [List.length_cons, List.range'_succ, List.zip_cons_cons, ups]
    rw [List.set_append_right _ _ (by omega)]
    simp only [hP, Nat.sub_self, List.cons_append, List.set_cons_zero]
    simpa using ih
  | _, _ :: _, _, [], _, h, _ => by simp at h
  | _, [], _, _ :: _, _, h, _ => by simp at h
theorem upto_range' : ∀ n, upto n = List.range' 0 n
  | 0 => rfl
  | n + 1 => by rw [upto, upto_range' n, List.range'_concat]; simp
theorem ups_front (h' h G : Heap) (hl : h'.length = h.length) : ups ((upto h.length).zip h') (h ++ G) = h' ++ G := by
  have := ups_zip 0 h' [] h G hl rfl
  rw [upto_range']
  simpa using this
theorem back_upto {n base j : Nat} (h : j < n) : back (upto n) base j = j := by
  simp only [back, upto_length, h, if_true]
  have := upto_get n j h
  simp [List.getD_eq_getElem?_getD, this]
/-- a call that takes all of the first blocks, none of which leads to another -/
theorem callA_front {F : Fns} {f : Nat} {args : List V} {h G h' : Heap} {v : V} (hid : args.flatMap V.ids = upto h.length) (hb : (h.all fun b => b.ids == []) = true) (hs : h.length < 60) (hF : F f args h = some (v, h')) (hl : h'.length = h.length) (hb' : (h'.all fun b => b.ids == []) = true) (hv : ∀ i ∈ v.ids, i < h.length) (base : Nat) :
    callA F f args (lkp (h ++ G)) base = some (v, [], (upto h.length).zip h') := by
  have hw : wfH h.length ((h ++ G).take h.length) = true := by
    rw [take_len h G h.length rfl]
    unfold wfH
    rw [List.all_eq_true]
    intro b hb0
    have : b.ids = [] := by simpa using List.all_eq_true.1 hb b hb0
    simp [this]
  have hr : reach (lkp (h ++ G)) 64 (args.flatMap V.ids) [] = upto h.length := by
    rw [hid, reach_free]
    · simp
    · intro i hi
      have hi := mem_upto.1 hi
      have : lkp (h ++ G) i = some (h[i]'hi) := by
        simp only [lkp]
        rw [List.getElem?_append_left hi, List.getElem?_eq_getElem]
      simp only [idsAt, this]
      simpa using List.all_eq_true.1 hb _ (List.getElem_mem hi)
    · simpa using upto_nodup h.length
    · rw [upto_length]; omega
  have hc : closed (upto h.length) (lkp (h ++ G)) = true := closed_upto (by simp) hw
  have hsub : sub (upto h.length) (lkp (h ++ G)) = h := by rw [sub_upto (by simp) hw, take_len h G h.length rfl]
  have hargs : args.map (V.mp (pos (upto h.length))) = args := by
    have : ∀ a ∈ args, a.mp (pos (upto h.length)) = a := by
      intro a ha
      refine V.mp_below fun i hi => pos_upto ?_
      have : i ∈ args.flatMap V.ids := List.mem_flatMap.2 ⟨a, ha, hi⟩
      rw [hid] at this
      exact mem_upto.1 this
    exact (List.map_congr_left this).trans (by simp)
  have hin : inL (upto h.length) (args.flatMap V.ids) = true := by
    rw [hid, inL, List.all_eq_true]
    exact fun i hi => by simpa using hi
  rw [callA_gen hr (by rw [hc, hin]; rfl) hsub hargs hF (by rw [upto_length]; omega)]
  have e1 : v.mp (back (upto h.length) base) = v := V.mp_below fun i hi => back_upto (hv i hi)
  have e2 : (h'.drop (upto h.length).length).map (Blk.mp (back (upto h.length) base)) = [] := by
    rw [List.drop_of_length_le (by rw [upto_length]; omega)]; rfl
  have e3 : (h'.take (upto h.length).length).map (Blk.mp (back (upto h.length) base)) = h' := by
    rw [List.take_of_length_le (by rw [upto_length]; omega)]
    have : ∀ b ∈ h', Blk.mp (back (upto h.length) base) b = b := by
      intro b hb0
      have : b.ids = [] := by simpa using List.all_eq_true.1 hb' b hb0
      exact Blk.mp_below (by simp [this])
    exact (List.map_congr_left this).trans (by simp)
  rw [e1, e2, e3]
theorem upto_cons (n : Nat) : upto (n + 1) = 0 :: (upto (n + 1)).drop 1 := by
  rw [upto_range']
  simp [List.range'_succ]
theorem inst_rep2 (c : C) : ∀ (k m : Nat), (inst (rep k [Z.k c, Z.k c]) m).1 = List.replicate (k * 2) c
  | 0, m => rfl
  | k + 1, m => by
    have : (k + 1) * 2 = k * 2 + 1 + 1 := by omega
    rw [this, List.replicate_succ, List.replicate_succ, ← inst_rep2 c k m]
    simp [rep, inst]
theorem noDead_rep (n : Nat) (k : IntKind) (x : Int) : noDead (List.replicate n (C.int k x)) = true := by
  have : List.replicate n (C.int k x) = (List.replicate n x).map (C.int k) := by simp
  rw [this, noDead_ints]
end Go.Proofs.YthpookdfaikabaaGreatDoor.AM

/- Contracts: the pours that are not idle. -/
namespace Go.Proofs.YthpookdfaikabaaGreatDoor.AM
open Go
set_option maxRecDepth 1000000
set_option linter.unusedSimpArgs false
set_option linter.unusedVariables false
/-- the cells behind the useful pours -/
def padC (r : List Int) : List C := List.replicate (((poursL r).length - (usefulL r).length) * 2) (.int .i64 0)
@[simp] theorem padC_ids (r : List Int) : cids (padC r) = [] := cids_rep _ _ _
@[simp] theorem padC_cmp (g : Nat → Nat) (r : List Int) : cmp g (padC r) = padC r := cmp_rep g _ _ _
def usefulTo (r : List Int) (k : Nat) : List (Nat × Nat) := ((poursL r).take k).filter fun p => !idleP r p.1 p.2
theorem usefulTo_zero (r : List Int) : usefulTo r 0 = [] := rfl
theorem usefulTo_all (r : List Int) : usefulTo r (poursL r).length = usefulL r := by unfold usefulTo; rw [List.take_length]; rfl
theorem usefulTo_len (r : List Int) (k : Nat) : (usefulTo r k).length ≤ k := Nat.le_trans (List.length_filter_le _ _) (by simp; omega)
theorem usefulTo_succ (r : List Int) {k : Nat} (hk : k < (poursL r).length) : usefulTo r (k + 1) = usefulTo r k ++ if idleP r ((poursL r)[k]'hk).1 ((poursL r)[k]'hk).2 = true then [] else [(poursL r)[k]'hk] := by
  unfold usefulTo
  rw [take_snoc hk, List.filter_append]
  congr 1
  by_cases hq : idleP r ((poursL r)[k]'hk).1 ((poursL r)[k]'hk).2 = true <;> simp [hq]
end Go.Proofs.YthpookdfaikabaaGreatDoor.AM

