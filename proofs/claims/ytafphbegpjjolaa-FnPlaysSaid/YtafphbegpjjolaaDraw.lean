import Derived.Test.YtafphbegpjjolaaRepDefs
/- Contracts: what the draws read out of bytes: some number in a range, with the cursor moved on. -/
namespace Go.Proofs.Ytafphbegpjjolaa.AM
open Go
set_option maxRecDepth 1000000
set_option linter.unusedSimpArgs false
set_option linter.unusedVariables false
/-- the test of a call that may write, where no far place is named: told at once (its unfolding makes proofs too deep for the kernel) -/
@[simp ↓ high] theorem farE_small {ks : List Nat} {e : Env} {us : List (Nat × Blk)} (h : (ks.all fun j => decide (j < 1000000)) = true) : farE ks e us = true := by
  unfold farE
  rw [List.all_eq_true]
  intro p _
  rw [List.all_eq_true] at h ⊢
  intro j hj
  rw [h j hj, Bool.true_or]
/-- one far place -/
theorem farE_one {ks : List Nat} {t : Nat} (h : (ks.all fun j => decide (j < 1000000) || decide (j = t + 1000000)) = true) (hm : (ks.contains (t + 1000000)) = true) (e : Env) (us : List (Nat × Blk)) : farE ks e us = us.all fun p => decide (idOf (get e t) ≠ some p.1) := by
  unfold farE
  congr 1
  funext p
  rw [Bool.eq_iff_iff, List.all_eq_true, decide_eq_true_eq]
  rw [List.all_eq_true] at h
  constructor
  · intro hx
    have := hx (t + 1000000) (by simpa using hm)
    rw [Nat.add_sub_cancel, decide_eq_false (show ¬ t + 1000000 < 1000000 by omega)] at this
    simpa using this
  · intro hx j hj
    have := h j hj
    simp only [Bool.or_eq_true, decide_eq_true_eq] at this ⊢
    rcases this with h1 | h1
    · exact .inl h1
    · right
      rw [h1, Nat.add_sub_cancel]
      exact hx
/-- a loop of unknown end: an invariant by turns, and what holds where it ends -/
theorem loop_exit {P : Prog} {Q : Prim} {m : Nat} {a : ACode} {live : List Nat} {e : Env} {h : Heap} {X : Option (Ex × Env × Heap)} (hX : exI P Q m (.loop a live) e h = X) (I : Nat → Env × Heap → Prop) (n : Nat) (R : Ex × Env × Heap → Prop) (h0 : ∃ st, gcE m live e h = some st ∧ I 0 st)
    (hs : ∀ k, k ≤ n → ∀ st, I k st → (k < n ∧ ∃ st', turnK m live (exI P Q m a st.1 st.2) = some st' ∧ I (k + 1) st') ∨ ∃ r, loopK P Q m a live (exI P Q m a st.1 st.2) = some r ∧ R r) : ∃ r, X = some r ∧ R r := by
  subst hX
  have key : ∀ d k, k + d = n → ∀ st, I k st → ∃ r, loopG P Q m a live (some st) = some r ∧ R r := by
    intro d
    induction d with
    | zero =>
      intro k hk st hI
      rcases hs k (by omega) st hI with ⟨h1, _⟩ | h1
      · omega
      · exact h1
    | succ d ih =>
      intro k hk st hI
      rcases hs k (by omega) st hI with ⟨_, st', h1, hI'⟩ | h1
      · obtain ⟨r, hr, hR⟩ := ih (k + 1) (by omega) st' hI'
        refine ⟨r, ?_, hR⟩
        rw [← hr]
        show loopK P Q m a live (exI P Q m a st.1 st.2) = _
        unfold turnK at h1
        split at h1
        · rename_i e1 h2 he
          rw [he]
          show exI P Q m (.loop a live) e1 h2 = _
          rw [exI_loop', h1]
        · cases h1
      · exact h1
  obtain ⟨st, hg, hI⟩ := h0
  rw [exI_loop', hg]
  exact key n 0 (by omega) st hI
/-- a cursor: the bytes lie in block j -/
def curB (j n p : Nat) (s : Int) : Blk := .cells [.sl j 0 n 1, .int .i64 p, .int .u64 s] true
def byB (bs : List Int) (o : Bool) : Blk := .cells (bs.map (C.int .u8)) o
structure Bytes (bs : List Int) : Prop where
  rg : ∀ x ∈ bs, 0 ≤ x ∧ x < 256
  len : bs.length ≤ 1000000000
@[simp] theorem byB_ids (bs : List Int) (o : Bool) : (byB bs o).ids = [] := by simp [byB]
@[simp] theorem curB_ids (j n p : Nat) (s : Int) : (curB j n p s).ids = [j] := rfl
@[simp] theorem byB_mp (g : Nat → Nat) (bs : List Int) (o : Bool) : (byB bs o).mp g = byB bs o := mp_ids (by simp) g
@[simp] theorem curB_mp (g : Nat → Nat) (j n p : Nat) (s : Int) : (curB j n p s).mp g = curB (g j) n p s := rfl
theorem by_take1 {bs : List Int} {j : Nat} (h : j < bs.length) : ((bs.map (C.int .u8)).drop j).take 1 = [C.int .u8 (bs.getD j 0)] := by
  rw [List.drop_eq_getElem_cons (by simpa using h)]
  simp [List.getD_eq_getElem?_getD, List.getElem?_eq_getElem h]
theorem and255 (a : Nat) : ∃ z : Nat, z ≤ 255 ∧ IntKind.i64.wrap (IntKind.u64.wrap ((a &&& 255 % 2 ^ IntKind.u64.bits : Nat) : Int)) = (z : Int) := by
  have h : (a &&& 255 % 2 ^ IntKind.u64.bits : Nat) ≤ 255 := Nat.le_trans Nat.and_le_right (by decide)
  refine ⟨_, h, ?_⟩
  generalize (a &&& 255 % 2 ^ IntKind.u64.bits : Nat) = z at *
  have e : IntKind.u64.wrap (z : Int) = (z : Int) := by
    simp [IntKind.wrap, IntKind.bits, IntKind.signed]
    omega
  rw [e]
  exact wrapI (by omega) (by omega)
theorem c_next (bs : List Int) (hb : Bytes bs) (o : Bool) (p : Nat) (hp : p < 1000000000) (s : Int) : ∃ (x : Nat) (s' : Int), x ≤ 255 ∧ fnI pr np 80 [.c (.ptr 0 0)] [curB 1 bs.length p s, byB bs o] = some (.c (.int .i64 x), [curB 1 bs.length (p + 1) s', byB bs o]) := by
  have hlen := hb.len
  have wp := wrapS (k := p) (by omega)
  rw [fb (fn := a80) rfl rfl]
  unfold curB byB
  by_cases h : p < bs.length
  · have g := by_take1 h
    have hm : bs.getD p 0 ∈ bs := by
      rw [List.getD_eq_getElem?_getD, List.getElem?_eq_getElem h]
      exact List.getElem_mem _
    obtain ⟨x1, x2⟩ := hb.rg _ hm
    generalize bs.getD p 0 = x at *
    obtain ⟨X, rfl⟩ : ∃ X : Nat, x = (X : Int) := ⟨x.toNat, by omega⟩
    have wx : IntKind.i64.wrap (X : Int) = (X : Int) := wrapI (by omega) (by omega)
    have b1 : p + 1 ≤ bs.length := by omega
    have hle : (p : Int) + 1 ≤ (bs.length : Int) := by omega
    refine ⟨X, IntKind.u64.wrap (IntKind.u64.wrap (IntKind.u64.wrap (s * 6364136223846793005) + IntKind.u64.wrap X) + 462197), by omega, ?_⟩
    simp [a80, h, g, wp, wx, b1, hle, setAt, stillE, madeA, idOf, sub]
  · by_cases h2 : p + 1 ≤ bs.length
    · omega
    · have hle : ¬ (p : Int) + 1 ≤ (bs.length : Int) := by omega
      have h' : ¬ (p : Int) < (bs.length : Int) := by omega
      obtain ⟨z, hz, hw⟩ := and255 (((IntKind.u64.wrap (IntKind.u64.wrap (IntKind.u64.wrap (s * 6364136223846793005) + IntKind.u64.wrap 0) + 462197)).fdiv (2 ^ min 40 IntKind.u64.bits) % 2 ^ IntKind.u64.bits).toNat)
      refine ⟨z, IntKind.u64.wrap (IntKind.u64.wrap (IntKind.u64.wrap (s * 6364136223846793005) + IntKind.u64.wrap 0) + 462197), hz, ?_⟩
      simp [a80, h, h', h2, wp, hle, setAt, stillE, madeA, idOf, binShift, binI, sub]
      exact hw
/-- a call with the cursor (and values that name no block), wherever it lies -/
theorem call_cur {F : Fns} {f n p p' : Nat} {s s' : Int} {bs : List Int} {o : Bool} {rest : List V} {v : V} (hre : rest.flatMap V.ids = []) (hF : F f (.c (.ptr 0 0) :: rest) [curB 1 n p s, byB bs o] = some (v, [curB 1 n p' s', byB bs o])) (i j : Nat) (H : HF) (base : Nat) (hij : (i != j) = true) (hi : (H i == some (curB j n p s)) = true) (hj : (H j == some (byB bs o)) = true) :
    callA F f (.c (.ptr i 0) :: rest) H base = some (v.mp (back [i, j] base), [], [(i, curB j n p' s'), (j, byB bs o)]) := by
  have hi : H i = some (curB j n p s) := by simpa using hi
  have hj : H j = some (byB bs o) := by simpa using hj
  have hij : i ≠ j := by simpa using hij
  have hji : ¬ j = i := fun e => hij e.symm
  have h := callA_gen (F := F) (f := f) (args := .c (.ptr i 0) :: rest) (H := H) (L := [i, j]) (by simp [hre, reach, idsAt, hi, hj, hji]) (by simp [closed, hi, hj, idsAt, inL, hre]) (show sub [i, j] H = [curB 1 n p s, byB bs o] by simp [sub, hi, hj, pos, hij]) (show (V.c (.ptr i 0) :: rest).map (V.mp (pos [i, j])) = .c (.ptr 0 0) :: rest by rw [List.map_cons, mps_pure hre]; simp [pos]) hF (by simp) base
  rw [h]
  simp [back]
theorem c_pick (bs : List Int) (hb : Bytes bs) (o : Bool) (p : Nat) (hp : p + 2 < 1000000000) (s : Int) (n : Int) (h0 : 0 ≤ n) (hn : n ≤ 60000) : ∃ (x p' : Nat) (s' : Int), ((x : Int) < n ∨ x = 0) ∧ p' ≤ p + 2 ∧ fnI pr np 49 [.c (.ptr 0 0), .c (.int .i64 n)] [curB 1 bs.length p s, byB bs o] = some (.c (.int .i64 x), [curB 1 bs.length p' s', byB bs o]) := by
  obtain ⟨N, rfl⟩ : ∃ N : Nat, n = (N : Int) := ⟨n.toNat, by omega⟩
  by_cases h1 : N ≤ 1
  · refine ⟨0, p, s, .inr rfl, by omega, ?_⟩
    rw [fb (fn := a49) rfl rfl]
    have h1' : (N : Int) ≤ 1 := by omega
    simp [a49, h1, h1', sub]
  · have h1' : ¬ (N : Int) ≤ 1 := by omega
    obtain ⟨x, s1, hx, hF⟩ := c_next bs hb o p (by omega) s
    have hc := call_cur (rest := []) rfl hF 0 1
    have hz : ¬ (N : Int) = 0 := by omega
    have hz2 : ¬ N = 0 := by omega
    by_cases h2 : 200 < N
    · have h2' : (200 : Int) < (N : Int) := by omega
      obtain ⟨y, s2, hy, hF2⟩ := c_next bs hb o (p + 1) (by omega) s1
      have hc2 := call_cur (rest := []) rfl hF2 0 1
      have w1 : IntKind.i64.wrap ((x : Int) * 256) = ((x * 256 : Nat) : Int) := (wrapI (by omega) (by omega)).trans (by omega)
      have w2 : IntKind.i64.wrap (((x * 256 : Nat) : Int) + (y : Int)) = ((x * 256 + y : Nat) : Int) := (wrapI (by omega) (by omega)).trans (by omega)
      have ht : ((x * 256 + y : Nat) : Int).tmod (N : Int) = (((x * 256 + y) % N : Nat) : Int) := rfl
      have hlt : (x * 256 + y) % N < N := Nat.mod_lt _ (by omega)
      have w3 : IntKind.i64.wrap (((x * 256 + y) % N : Nat) : Int) = (((x * 256 + y) % N : Nat) : Int) := wrapI (by omega) (by omega)
      refine ⟨(x * 256 + y) % N, p + 2, s2, .inl (by omega), by omega, ?_⟩
      rw [fb (fn := a49) rfl rfl]
      generalize (x * 256 + y) % N = z at *
      generalize x * 256 + y = u at *
      generalize x * 256 = t at *
      simp [a49, h1, h1', h2, h2', hz, hz2, hc, hc2, w1, w2, ht, w3, stillE, madeA, idOf, sub]
    · have h2' : ¬ (200 : Int) < (N : Int) := by omega
      have ht : (x : Int).tmod (N : Int) = ((x % N : Nat) : Int) := rfl
      have hlt : x % N < N := Nat.mod_lt _ (by omega)
      have w3 : IntKind.i64.wrap ((x % N : Nat) : Int) = ((x % N : Nat) : Int) := wrapI (by omega) (by omega)
      refine ⟨x % N, p + 1, s1, .inl (by omega), by omega, ?_⟩
      rw [fb (fn := a49) rfl rfl]
      generalize x % N = z at *
      simp [a49, h1, h1', h2, h2', hz, hz2, hc, ht, w3, stillE, madeA, idOf, sub]
theorem c_one (bs : List Int) (hb : Bytes bs) (o : Bool) (p : Nat) (hp : p + 2 < 1000000000) (s : Int) (n : Int) (h0 : 0 ≤ n) (hn : n ≤ 60000) : ∃ (q : Bool) (p' : Nat) (s' : Int), p' ≤ p + 2 ∧ fnI pr np 30 [.c (.ptr 0 0), .c (.int .i64 n)] [curB 1 bs.length p s, byB bs o] = some (.c (.bool q), [curB 1 bs.length p' s', byB bs o]) := by
  obtain ⟨x, p', s', _, hp', hF⟩ := c_pick bs hb o p hp s n h0 hn
  have hc := call_cur (rest := [.c (.int .i64 n)]) rfl hF 0 1
  refine ⟨(x : Int) == 0, p', s', hp', ?_⟩
  rw [fb (fn := a30) rfl rfl]
  simp [a30, hc, sub]
theorem c_among (bs : List Int) (hb : Bytes bs) (o : Bool) (p : Nat) (hp : p + 2 < 1000000000) (s : Int) (xs : List Int) (h0 : 0 < xs.length) (hn : xs.length ≤ 60000) : ∃ (x : Int) (p' : Nat) (s' : Int), x ∈ xs ∧ p' ≤ p + 2 ∧ fnI pr np 48 [.c (.ptr 0 0), .c (.sl 1 0 xs.length 1)] [curB 2 bs.length p s, .cells (xs.map (C.int .i64)) true, byB bs o] = some (.c (.int .i64 x), [curB 2 bs.length p' s', .cells (xs.map (C.int .i64)) true, byB bs o]) := by
  obtain ⟨x, p', s', hx, hp', hF⟩ := c_pick bs hb o p hp s xs.length (by omega) (by omega)
  have hc := call_cur (rest := [.c (.int .i64 xs.length)]) rfl hF 0 2
  have hxl : x < xs.length := by omega
  have g := drop_take1 hxl
  have hm : xs.getD x 0 ∈ xs := by
    rw [List.getD_eq_getElem?_getD, List.getElem?_eq_getElem hxl]
    exact List.getElem_mem _
  have b1 : x + 1 ≤ xs.length := by omega
  refine ⟨xs.getD x 0, p', s', hm, hp', ?_⟩
  rw [fb (fn := a48) rfl rfl]
  generalize xs.getD x 0 = y at *
  simp [a48, hc, hxl, g, b1, sub]
theorem call_among {F : Fns} {f n p p' m : Nat} {s s' : Int} {bs : List Int} {o : Bool} {b : Blk} {v : V} (hbi : b.ids = []) (hF : F f [.c (.ptr 0 0), .c (.sl 1 0 m 1)] [curB 2 n p s, b, byB bs o] = some (v, [curB 2 n p' s', b, byB bs o])) (i k j : Nat) (H : HF) (base : Nat) (hij : (i != j) = true) (hik : (i != k) = true) (hkj : (k != j) = true) (hi : (H i == some (curB j n p s)) = true) (hk : (H k == some b) = true) (hj : (H j == some (byB bs o)) = true) :
    callA F f [.c (.ptr i 0), .c (.sl k 0 m 1)] H base = some (v.mp (back [i, k, j] base), [], [(i, curB j n p' s'), (k, b), (j, byB bs o)]) := by
  have hi : H i = some (curB j n p s) := by simpa using hi
  have hj : H j = some (byB bs o) := by simpa using hj
  have hk : H k = some b := by simpa using hk
  have hij : i ≠ j := by simpa using hij
  have hik : i ≠ k := by simpa using hik
  have hkj : k ≠ j := by simpa using hkj
  have hji : ¬ j = i := fun e => hij e.symm
  have hki : ¬ k = i := fun e => hik e.symm
  have hjk : ¬ j = k := fun e => hkj e.symm
  have h := callA_gen (F := F) (f := f) (args := [.c (.ptr i 0), .c (.sl k 0 m 1)]) (H := H) (L := [i, k, j]) (by simp [reach, idsAt, hi, hj, hk, hbi, hji, hki, hjk, hik, hkj, hij]) (by simp [closed, hi, hj, hk, hbi, idsAt, inL]) (show sub [i, k, j] H = [curB 2 n p s, b, byB bs o] by simp [sub, hi, hj, hk, pos, hij, hik, hkj, mp_ids hbi]) (show _ = [.c (.ptr 0 0), .c (.sl 1 0 m 1)] by simp [pos, hik]) hF (by simp) base
  rw [h]
  simp [back, mp_ids hbi]
end Go.Proofs.Ytafphbegpjjolaa.AM
