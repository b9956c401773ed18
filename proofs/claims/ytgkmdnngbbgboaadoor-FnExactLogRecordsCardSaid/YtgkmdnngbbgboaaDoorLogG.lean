import Derived.Test.YtgkmdnngbbgboaaDoorLogF
/- Contracts and law: the records of a log. -/
namespace Go.Proofs.YtgkmdnngbbgboaaDoor.AM
open Go
set_option maxRecDepth 1000000
set_option linter.unusedSimpArgs false
set_option linter.unusedVariables false
theorem mp_ids {b : Blk} (h : b.ids = []) (g : Nat → Nat) : b.mp g = b := Blk.mp_below (by simp [h])
theorem callA_two {F : Fns} {f : Nat} {x x0 y y0 : V} {i j : Nat} (hij : i ≠ j) {H : HF} {b c : Blk} {v : V} {ns : Heap} (hb : H i = some b) (hc : H j = some c) (hx : x.ids = [i]) (hy : y.ids = [j]) (hx0 : x.mp (pos [i, j]) = x0) (hy0 : y.mp (pos [i, j]) = y0) (hbi : b.ids = []) (hci : c.ids = []) (hF : F f [x0, y0] [b, c] = some (v, b :: c :: ns)) (base : Nat) :
    callA F f [x, y] H base = some (v.mp (back [i, j] base), ns.map (Blk.mp (back [i, j] base)), [(i, b), (j, c)]) := by
  have hji : ¬ j = i := fun e => hij e.symm
  have hr : reach H 64 ([x, y].flatMap V.ids) [] = [i, j] := by simp [hx, hy, reach, idsAt, hb, hbi, hc, hci, hji]
  have h := callA_gen (F := F) (f := f) (args := [x, y]) (H := H) (L := [i, j]) hr (by simp [closed, hb, idsAt, hbi, hc, hci, inL, hx, hy]) (show sub [i, j] H = [b, c] by simp [sub, hb, hc, mp_ids hbi, mp_ids hci]) (show [x, y].map (V.mp (pos [i, j])) = [x0, y0] by rw [List.map_cons, List.map_cons, hx0, hy0]; rfl) hF (by simp) base
  rw [h]
  simp [mp_ids hbi, mp_ids hci]
theorem callA_oneW {F : Fns} {f : Nat} {x x0 : V} {rest : List V} {i : Nat} {H : HF} {b b' : Blk} {v : V} (hb : H i = some b) (hx : x.ids = [i]) (hx0 : x.mp (fun j => if i = j then 0 else 1) = x0) (hre : rest.flatMap V.ids = []) (hbi : b.ids = []) (hbi' : b'.ids = []) (hF : F f (x0 :: rest) [b] = some (v, [b'])) (base : Nat) :
    callA F f (x :: rest) H base = some (v.mp (back [i] base), [], [(i, b')]) := by
  have hr : reach H 64 ((x :: rest).flatMap V.ids) [] = [i] := by simp [hx, hre, reach, idsAt, hb, hbi]
  have hp : pos [i] = fun j => if i = j then 0 else 1 := by funext j; simp [pos]
  have hm : (x :: rest).map (V.mp (pos [i])) = x0 :: rest := by
    rw [List.map_cons, hp, hx0, mps_pure hre]
  have h := callA_gen (F := F) (f := f) (args := x :: rest) (H := H) (L := [i]) hr (by simp [closed, hb, idsAt, hbi, inL, hx, hre]) (show sub [i] H = [b] by simp [sub, hb, mp_ids hbi]) hm hF (by simp) base
  rw [h]
  simp [mp_ids hbi']
theorem call_slW {F : Fns} {f n : Nat} {rest : List V} {b b' : Blk} {v : V} (hre : rest.flatMap V.ids = []) (hbi : b.ids = []) (hbi' : b'.ids = []) (hF : F f (.c (.sl 0 0 n 2) :: rest) [b] = some (v, [b'])) (i : Nat) (H : HF) (base : Nat) (hb : (H i == some b) = true) :
    callA F f (.c (.sl i 0 n 2) :: rest) H base = some (v.mp (back [i] base), [], [(i, b')]) := by
  have hb : H i = some b := by simpa using hb
  exact callA_oneW (x := .c (.sl i 0 n 2)) hb (by simp) (by simp) hre hbi hbi' hF base
theorem call_sl2 {F : Fns} {f n n' : Nat} {b c : Blk} {v : V} (hbi : b.ids = []) (hci : c.ids = []) (hF : F f [.c (.sl 0 0 n 2), .c (.sl 1 0 n' 2)] [b, c] = some (v, [b, c])) (i j : Nat) (H : HF) (base : Nat) (hij : (i != j) = true) (hb : (H i == some b) = true) (hc : (H j == some c) = true) :
    callA F f [.c (.sl i 0 n 2), .c (.sl j 0 n' 2)] H base = some (v.mp (back [i, j] base), [], [(i, b), (j, c)]) := by
  have hb : H i = some b := by simpa using hb
  have hc : H j = some c := by simpa using hc
  have hij : i ≠ j := by simpa using hij
  have := callA_two (x := .c (.sl i 0 n 2)) (y := .c (.sl j 0 n' 2)) hij hb hc (by simp) (by simp) (by simp [pos]) (by simp [pos, hij]) hbi hci hF base
  exact this
theorem loop_exit {P : Prog} {Q : Prim} {m : Nat} {a : ACode} {live : List Nat} {e : Env} {h : Heap} {X : Option (Ex × Env × Heap)} (hX : exI P Q m (.loop a live) e h = X) (I : Nat → Env × Heap → Prop) (n : Nat) (R : Ex × Env × Heap → Prop) (h0 : ∃ st, gcE m live e h = some st ∧ I 0 st)
    (hs : ∀ k, k ≤ n → ∀ st, I k st → (k < n ∧ ∃ st', turnK m live (exI P Q m a st.1 st.2) = some st' ∧ I (k + 1) st') ∨ ∃ r, loopK P Q m a live (exI P Q m a st.1 st.2) = some r ∧ R r) : ∃ r, X = some r ∧ R r := by
  subst hX
  have key : ∀ d k, k + d = n → ∀ st, I k st → ∃ r, loopG P Q m a live (some st) = some r ∧ R r := by
    intro d
    induction d with
    | zero =>
      intro k hk st hI
      rcases hs k (by omega) st hI with ⟨h1, _⟩ | h1
      · omega
      · exact h1
    | succ d ih =>
      intro k hk st hI
      rcases hs k (by omega) st hI with ⟨_, st', h1, hI'⟩ | h1
      · obtain ⟨r, hr, hR⟩ := ih (k + 1) (by omega) st' hI'
        refine ⟨r, ?_, hR⟩
        rw [← hr]
        show loopK P Q m a live (exI P Q m a st.1 st.2) = _
        unfold turnK at h1
        split at h1
        · rename_i e1 h2 he
          rw [he]
          show exI P Q m (.loop a live) e1 h2 = _
          rw [exI_loop', h1]
        · cases h1
      · exact h1
  obtain ⟨st, hg, hI⟩ := h0
  rw [exI_loop', hg]
  exact key n 0 (by omega) st hI
/-! ### records told -/
noncomputable def recsV (d p : Tx) (c : Int) : List (Tx × Tx) := cond (validS d p c) (recsT (d ++ p) (cntT (d ++ p))) []
theorem recsV_len (d p : Tx) (c : Int) : (recsV d p c).length ≤ 60 := by
  unfold recsV
  cases validS d p c
  · simp
  · simp only [cond_true]; rw [recsT_len]; exact cntT_le _
theorem c_spec_LogRecords (d p : Tx) (c : Int) (hd : d.length < 40000000) (hp : p.length < 40000000) : fnI pr np 28 [logV d p c] [] = some (.tup [.c (.sl 0 0 (recsV d p c).length 2), .c (.bool (validS d p c))], [.cells (recC (recsV d p c)) true]) := by
  have h1 := callA_pure (c_spec_l12Valid d p c hd hp) (by simp) (by simp)
  have h2 := callA_new (c_spec_l12Open (d ++ p) (by simp; omega)) (by simp)
  have b1 : d.length + p.length ≤ 9223372036854775807 := by omega
  have hl := recsT_len (d ++ p) (cntT (d ++ p))
  rw [fb (fn := a28) rfl rfl rfl]
  unfold recsV
  generalize recsT (d ++ p) (cntT (d ++ p)) = R at *
  rw [← hl] at h2
  generalize endT (d ++ p) = e at *
  cases hv : validS d p c with
  | false => rw [hv] at h1; simp [a28, h1, recC_nil, sub]
  | true => rw [hv] at h1; simp [a28, h1, h2, b1, sub]
theorem c_impl_LogRecords (d p : Tx) (c : Int) (hd : d.length < 40000000) (hp : p.length < 40000000) : fnI pr np 29 [logV d p c] [] = some (.tup [.c (.sl 0 0 (recsV d p c).length 2), .c (.bool (validS d p c))], [.cells (recC (recsV d p c)) true]) := by
  obtain ⟨l, h1, hl⟩ := c_impl_records d p c hd hp
  have h1 := callA_new h1 (by simp)
  rw [fb (fn := a29) rfl rfl rfl]
  unfold recsV
  cases hv : validS d p c with
  | false => rw [hv] at h1; simp [a29, h1, recC_nil, sub]
  | true =>
    have hl := hl hv
    rw [hv] at h1
    simp only [cond_true]
    rw [← hl]
    simp [a29, h1, sub]
/-! ### marks -/
theorem mark_ex (k : Nat) (h0 : 0 < k) (hk : k < 1000000) : ∃ s : Tx, s.length ≤ 30 ∧ fnI pr np 49 [.c (.int .i64 k)] [] = some (.c (.str s), []) := by
  have k0 : ¬ (k : Int) ≤ 0 := by omega
  rw [fb (fn := a49) rfl rfl rfl]
  simp [a49, k0]
  have k0' : ¬ k = 0 := by omega
  simp [k0']
  generalize hX : exI pr np 0 (ACode.loop _ _) _ _ = X
  have hl := loop_exit hX (fun i st => ∃ (q : Nat) (s : Tx), q < 10 ^ (6 - i) ∧ s.length = i ∧ st = ([(0, V.c (C.int .i64 q)), (3, V.c (C.str s))], [])) 6 (fun r => ∃ (q : Nat) (s : Tx), s.length ≤ 6 ∧ r = (.exit 0, [(0, V.c (C.int .i64 q)), (3, V.c (C.str s)), (7, V.c (C.bool false))], [])) ⟨([(0, V.c (C.int .i64 k)), (3, V.c (C.str []))], []), by simp, k, [], by omega, rfl, rfl⟩ ?_
  · obtain ⟨r, rfl, q, s, hs, rfl⟩ := hl
    clear hX
    have b1 : 1 + s.length ≤ 9223372036854775807 := by omega
    have b2 : s.length + 1 ≤ 9223372036854775807 := by omega
    refine ⟨109 :: s, by simp; omega, ?_⟩
    simp [b1, b2]
  · intro i hi st hst
    obtain ⟨q, s, hq, hs, rfl⟩ := hst
    by_cases hq0 : q = 0
    · right
      subst hq0
      refine ⟨_, ?_, 0, s, by omega, rfl⟩
      simp
    · left
      have hi6 : i < 6 := by
        by_cases h : i < 6
        · exact h
        · have : i = 6 := by omega
          subst this
          simp at hq
          omega
      refine ⟨hi6, ?_⟩
      have hq1 : (0 : Int) < (q : Int) := by omega
      have hq2 : 0 < q := by omega
      have e2 : (q : Int).tmod 10 = ((q % 10 : Nat) : Int) := (Int.ofNat_tmod q 10).symm
      have hqb : q < 1000000 := Nat.lt_of_lt_of_le hq (Nat.le_trans (Nat.pow_le_pow_right (by decide) (show 6 - i ≤ 6 by omega)) (by decide))
      have hm : q % 10 < 10 := Nat.mod_lt _ (by decide)
      have w1 : IntKind.i64.wrap (48 + ((q % 10 : Nat) : Int)) = 48 + ((q % 10 : Nat) : Int) := wrapI (by omega) (by omega)
      have w2 : IntKind.u8.wrap (48 + ((q % 10 : Nat) : Int)) = 48 + ((q % 10 : Nat) : Int) := by
        simp only [IntKind.wrap, IntKind.bits, IntKind.signed]
        simp
        omega
      have w3 : IntKind.i64.wrap ((q : Int) / 10) = (q : Int) / 10 := wrapI (by omega) (by omega)
      have c1 : (0 : Int) ≤ 48 + ((q % 10 : Nat) : Int) := by omega
      have c2 : 48 + ((q % 10 : Nat) : Int) < 256 := by omega
      have b1 : 1 + s.length ≤ 9223372036854775807 := by omega
      have b2 : s.length + 1 ≤ 9223372036854775807 := by omega
      have hp : q / 10 < 10 ^ (6 - (i + 1)) := by
        have : 10 ^ (6 - i) = 10 ^ (6 - (i + 1)) * 10 := by rw [← Nat.pow_succ]; congr 1; omega
        rw [this] at hq
        exact Nat.div_lt_of_lt_mul (by omega)
      refine ⟨_, ?_, q / 10, UInt8.ofNat (48 + ((q % 10 : Nat) : Int)).toNat :: s, hp, by simp [hs], rfl⟩
      generalize q % 10 = m at *
      simp [hq1, hq2, e2, w1, w2, w3, c1, c2, b1, b2]
noncomputable def markF (k : Nat) : Tx := if h : 0 < k ∧ k < 1000000 then (mark_ex k h.1 h.2).choose else []
theorem c_laws_markText (k : Nat) (h0 : 0 < k) (hk : k < 1000000) : fnI pr np 49 [.c (.int .i64 k)] [] = some (.c (.str (markF k)), []) := by
  unfold markF
  rw [dif_pos ⟨h0, hk⟩]
  exact (mark_ex k h0 hk).choose_spec.2
noncomputable def mkL (l : List (Tx × Tx)) : Nat → List (Tx × Tx)
  | 0 => l
  | i + 1 => (mkL l i).set i (markF (i * 2 + 1), markF (i * 2 + 2))
theorem mkL_len (l : List (Tx × Tx)) : ∀ i, (mkL l i).length = l.length
  | 0 => rfl
  | i + 1 => by simp [mkL, mkL_len l i]
theorem mkL_get (l : List (Tx × Tx)) : ∀ (n i : Nat), i < n → n ≤ l.length → (mkL l n)[i]? = some (markF (i * 2 + 1), markF (i * 2 + 2))
  | 0, i, h, _ => absurd h (by omega)
  | n + 1, i, h, hn => by
    unfold mkL
    rw [List.getElem?_set]
    by_cases hi : n = i
    · subst hi
      rw [if_pos rfl, if_pos (by rw [mkL_len]; omega)]
    · rw [if_neg hi]
      exact mkL_get l n i (by omega) (by omega)
theorem recC_cons (x : Tx × Tx) (l : List (Tx × Tx)) : recC (x :: l) = C.str x.1 :: C.str x.2 :: recC l := rfl
theorem recC_set : ∀ (l : List (Tx × Tx)) (i : Nat) (x y : Tx), i < l.length → ((recC l).set (i * 2) (C.str x)).set (i * 2 + 1) (C.str y) = recC (l.set i (x, y))
  | [], i, x, y, h => absurd h (by simp)
  | a :: l, 0, x, y, _ => by rw [recC_cons]; rfl
  | a :: l, i + 1, x, y, h => by
    have ih := recC_set l i x y (by simpa using h)
    rw [List.set_cons_succ, recC_cons, recC_cons, ← ih, show (i + 1) * 2 = i * 2 + 1 + 1 by omega, List.set_cons_succ, List.set_cons_succ, List.set_cons_succ, List.set_cons_succ]
theorem recC_get : ∀ (l : List (Tx × Tx)) (i : Nat) (p : Tx × Tx), l[i]? = some p → ((recC l).drop (i * 2)).take 1 = [C.str p.1] ∧ ((recC l).drop (i * 2 + 1)).take 1 = [C.str p.2] ∧ ((recC l).drop (i * 2)).take 2 = [C.str p.1, C.str p.2]
  | [], i, p, h => by simp at h
  | a :: l, 0, p, h => by
    have : a = p := by simpa using h
    subst this
    rw [recC_cons]
    exact ⟨rfl, rfl, rfl⟩
  | a :: l, i + 1, p, h => by
    have ih := recC_get l i p (by simpa using h)
    rw [recC_cons, show (i + 1) * 2 = i * 2 + 1 + 1 by omega]
    exact ih
theorem setAt_one (cs : List C) (i : Nat) (x : C) : setAt cs i [x] = cs.set i x := by simp [setAt]
set_option maxHeartbeats 1000000 in
theorem c_laws_markLogRecordS (l : List (Tx × Tx)) (hn : l.length ≤ 60) : fnI pr np 31 [.c (.sl 0 0 l.length 2), .c (.int .i64 1)] [.cells (recC l) true] = some (.c (.int .i64 ((l.length * 2 + 1 : Nat) : Int)), [.cells (recC (mkL l l.length)) true]) := by
  rw [fb (fn := a31) rfl rfl rfl]
  simp [a31]
  rw [loop_to (fun i => ([(0, V.c (C.sl 0 0 l.length 2)), (1, V.c (C.int .i64 ((i * 2 + 1 : Nat) : Int))), (5, V.c (C.int .i64 i))], [Blk.cells (recC (mkL l i)) true])) l.length]
  · simp [sub]
  · simp [mkL, sub]
  · intro i hi
    have hi' : (i : Int) < (l.length : Int) := by omega
    have wi := wrapS (k := i) (by omega)
    have h1 := callA_pure (c_laws_markText (i * 2 + 1) (by omega) (by omega)) (by simp) (by simp)
    have h2 := callA_pure (c_laws_markText (i * 2 + 2) (by omega) (by omega)) (by simp) (by simp)
    have w1 : IntKind.i64.wrap ((i : Int) * 2 + 1 + 1) = (i : Int) * 2 + 2 := by rw [Int.add_assoc]; exact wrapI (by omega) (by omega)
    have w2 : IntKind.i64.wrap ((i : Int) * 2 + 2 + 1) = (i : Int) * 2 + 3 := by rw [Int.add_assoc]; exact wrapI (by omega) (by omega)
    have e1 : (((i + 1) * 2 + 1 : Nat) : Int) = (i : Int) * 2 + 3 := by omega
    have e2 : ((i * 2 + 1 : Nat) : Int) = (i : Int) * 2 + 1 := by omega
    have e3 : ((i * 2 + 2 : Nat) : Int) = (i : Int) * 2 + 2 := by omega
    have hlen := mkL_len l i
    have hs : mkL l (i + 1) = (mkL l i).set i (markF (i * 2 + 1), markF (i * 2 + 2)) := rfl
    have hset := recC_set (mkL l i) i (markF (i * 2 + 1)) (markF (i * 2 + 2)) (by omega)
    rw [← hs] at hset
    rw [e1]
    rw [e2] at h1
    rw [e3] at h2
    generalize markF (i * 2 + 1) = x at *
    generalize markF (i * 2 + 2) = y at *
    generalize mkL l i = M at *
    generalize mkL l (i + 1) = M' at *
    have b1 : i * 2 + 1 ≤ l.length * 2 := by omega
    have b2 : i * 2 + 1 + 1 ≤ l.length * 2 := by omega
    have b3 : i * 2 + 2 ≤ l.length * 2 := by omega
    simp [hi, hi', wi, h1, h2, w1, w2, hlen, hset, setAt_one, b1, b2, b3, sub]
set_option maxHeartbeats 1000000 in
theorem c_laws_heldLogRecordS (l : List (Tx × Tx)) (hn : l.length ≤ 60) : fnI pr np 32 [.c (.sl 0 0 l.length 2), .c (.int .i64 1)] [.cells (recC (mkL l l.length)) true] = some (.c (.int .i64 ((l.length * 2 + 1 : Nat) : Int)), [.cells (recC (mkL l l.length)) true]) := by
  have hlen := mkL_len l l.length
  have hget := fun i (hi : i < l.length) => mkL_get l l.length i hi (Nat.le_refl _)
  generalize mkL l l.length = M at *
  rw [fb (fn := a32) rfl rfl rfl]
  simp [a32]
  rw [loop_to (fun i => ([(0, V.c (C.sl 0 0 l.length 2)), (1, V.c (C.int .i64 ((i * 2 + 1 : Nat) : Int))), (5, V.c (C.int .i64 i))], [Blk.cells (recC M) true])) l.length]
  · simp [sub]
  · simp [sub]
  · intro i hi
    have hi' : (i : Int) < (l.length : Int) := by omega
    have wi := wrapS (k := i) (by omega)
    have h1 := callA_pure (c_laws_markText (i * 2 + 1) (by omega) (by omega)) (by simp) (by simp)
    have h2 := callA_pure (c_laws_markText (i * 2 + 2) (by omega) (by omega)) (by simp) (by simp)
    have w1 : IntKind.i64.wrap ((i : Int) * 2 + 1 + 1) = (i : Int) * 2 + 2 := by rw [Int.add_assoc]; exact wrapI (by omega) (by omega)
    have w2 : IntKind.i64.wrap ((i : Int) * 2 + 2 + 1) = (i : Int) * 2 + 3 := by rw [Int.add_assoc]; exact wrapI (by omega) (by omega)
    have e1 : (((i + 1) * 2 + 1 : Nat) : Int) = (i : Int) * 2 + 3 := by omega
    have e2 : ((i * 2 + 1 : Nat) : Int) = (i : Int) * 2 + 1 := by omega
    have e3 : ((i * 2 + 2 : Nat) : Int) = (i : Int) * 2 + 2 := by omega
    obtain ⟨g1, g2, _⟩ := recC_get M i _ (hget i hi)
    rw [e1]
    rw [e2] at h1
    rw [e3] at h2
    generalize markF (i * 2 + 1) = x at *
    generalize markF (i * 2 + 2) = y at *
    have b1 : i * 2 + 1 ≤ l.length * 2 := by omega
    have b2 : i * 2 + 1 + 1 ≤ l.length * 2 := by omega
    have b3 : i * 2 + 2 ≤ l.length * 2 := by omega
    simp [hi, hi', wi, h1, h2, w1, w2, hlen, g1, g2, b1, b2, b3, sub]
theorem c_laws_eqLogRecord (a b : Tx) : fnI pr np 48 [recV a b, recV a b] [] = some (.c (.bool true), []) := by
  rw [fb (fn := a48) rfl rfl rfl]
  unfold recV
  simp [a48, sub]
theorem c_laws_eqLogRecordS (l : List (Tx × Tx)) (hn : l.length ≤ 60) : fnI pr np 30 [.c (.sl 0 0 l.length 2), .c (.sl 1 0 l.length 2)] [.cells (recC l) true, .cells (recC l) true] = some (.c (.bool true), [.cells (recC l) true, .cells (recC l) true]) := by
  rw [fb (fn := a30) rfl rfl rfl]
  simp [a30]
  rw [loop_to (fun i => ([(0, V.c (C.sl 0 0 l.length 2)), (1, V.c (C.sl 1 0 l.length 2)), (5, V.c (C.int .i64 i))], [Blk.cells (recC l) true, Blk.cells (recC l) true])) l.length]
  · simp [sub]
  · simp [sub]
  · intro i hi
    have hi' : (i : Int) < (l.length : Int) := by omega
    have wi := wrapS (k := i) (by omega)
    obtain ⟨_, _, g⟩ := recC_get l i (l[i]'hi) (List.getElem?_eq_getElem hi)
    have h1 := callA_pure (c_laws_eqLogRecord (l[i]'hi).1 (l[i]'hi).2) (by simp [recV]) (by simp)
    unfold recV at h1
    have b3 : i * 2 + 2 ≤ l.length * 2 := by omega
    generalize l[i]'hi = q at *
    simp [hi, hi', wi, h1, g, b3, sub]
set_option maxHeartbeats 2000000 in
theorem c_laws_FnExactLogRecords (d p : Tx) (c : Int) (hd : d.length ≤ 9223372036854775807) (hp : p.length ≤ 9223372036854775807) : fnI pr np 9 [logV d p c] [] = some (.c (.bool true), []) := by
  have hsz := callA_pure (c_laws_szLog d p c hd hp 1048576 (by decide) (by decide)) (by simp) (by simp)
  have hto := callA_pure (c_laws_toLog d p c) (by simp) (by simp)
  rw [fb (fn := a9) rfl rfl rfl]
  by_cases h : (d.length : Int) + p.length ≤ 1048576
  · rw [if_pos h] at hsz
    have hneg : ¬ 1048576 - (d.length : Int) - (p.length : Int) < 0 := by omega
    have h1 := callA_new (c_spec_LogRecords d p c (by omega) (by omega)) (by simp)
    have h2 := callA_new (c_impl_LogRecords d p c (by omega) (by omega)) (by simp)
    have hlen := recsV_len d p c
    generalize recsV d p c = l at *
    generalize validS d p c = q at *
    have h3 := call_sl2 (by simp) (by simp) (c_laws_eqLogRecordS l hlen) 2 1
    have h4 := call_slW (rest := [.c (.int .i64 1)]) rfl (by simp) (by simp) (c_laws_markLogRecordS l hlen) 2
    have h5 := call_slW (rest := [.c (.int .i64 1)]) rfl (by simp) (by simp) (c_laws_heldLogRecordS l hlen) 2
    have h6 := call_sl2 (by simp) (by simp) (c_laws_eqLogRecordS l hlen) 3 1
    have n1 : ¬ ((l.length : Int) * 2 + 1) < 0 := by omega
    simp [a9, hsz, hneg, hto, h1, h2, h3, h4, h5, h6, n1, sub]
  · rw [if_neg h] at hsz
    simp [a9, hsz, sub]
end Go.Proofs.YtgkmdnngbbgboaaDoor.AM
