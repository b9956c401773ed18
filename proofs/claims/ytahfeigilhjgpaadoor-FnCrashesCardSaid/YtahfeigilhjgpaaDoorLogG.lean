import Derived.Test.YtahfeigilhjgpaaDoorLogF
/- Contracts and law: the records of a log. -/
namespace Go.Proofs.YtahfeigilhjgpaaDoor.AM
open Go
set_option maxRecDepth 1000000
set_option linter.unusedSimpArgs false
set_option linter.unusedVariables false
theorem mp_ids {b : Blk} (h : b.ids = []) (g : Nat → Nat) : b.mp g = b := Blk.mp_below (by simp [h])
theorem callA_two {F : Fns} {f : Nat} {x x0 y y0 : V} {i j : Nat} (hij : i ≠ j) {H : HF} {b c : Blk} {v : V} {ns : Heap} (hb : H i = some b) (hc : H j = some c) (hx : x.ids = [i]) (hy : y.ids = [j]) (hx0 : x.mp (pos [i, j]) = x0) (hy0 : y.mp (pos [i, j]) = y0) (hbi : b.ids = []) (hci : c.ids = []) (hF : F f [x0, y0] [b, c] = some (v, b :: c :: ns)) (base : Nat) :
    callA F f [x, y] H base = some (v.mp (back [i, j] base), ns.map (Blk.mp (back [i, j] base)), [(i, b), (j, c)]) := by
  have hji : ¬ j = i := fun e => hij e.symm
  have hr : reach H 64 ([x, y].flatMap V.ids) [] = [i, j] := by simp [hx, hy, reach, idsAt, hb, hbi, hc, hci, hji]
  have h := callA_gen (F := F) (f := f) (args := [x, y]) (H := H) (L := [i, j]) hr (by simp [closed, hb, idsAt, hbi, hc, hci, inL, hx, hy]) (show sub [i, j] H = [b, c] by simp [sub, hb, hc, mp_ids hbi, mp_ids hci]) (show [x, y].map (V.mp (pos [i, j])) = [x0, y0] by rw [List.map_cons, List.map_cons, hx0, hy0]; rfl) hF (by simp) base
  rw [h]
  simp [mp_ids hbi, mp_ids hci]
theorem callA_oneW {F : Fns} {f : Nat} {x x0 : V} {rest : List V} {i : Nat} {H : HF} {b b' : Blk} {v : V} (hb : H i = some b) (hx : x.ids = [i]) (hx0 : x.mp (fun j => if i = j then 0 else 1) = x0) (hre : rest.flatMap V.ids = []) (hbi : b.ids = []) (hbi' : b'.ids = []) (hF : F f (x0 :: rest) [b] = some (v, [b'])) (base : Nat) :
    callA F f (x :: rest) H base = some (v.mp (back [i] base), [], [(i, b')]) := by
  have hr : reach H 64 ((x :: rest).flatMap V.ids) [] = [i] := by simp [hx, hre, reach, idsAt, hb, hbi]
  have hp : pos [i] = fun j => if i = j then 0 else 1 := by funext j; simp [pos]
  have hm : (x :: rest).map (V.mp (pos [i])) = x0 :: rest := by
    rw [List.map_cons, hp, hx0, mps_pure hre]
  have h := callA_gen (F := F) (f := f) (args := x :: rest) (H := H) (L := [i]) hr (by simp [closed, hb, idsAt, hbi, inL, hx, hre]) (show sub [i] H = [b] by simp [sub, hb, mp_ids hbi]) hm hF (by simp) base
  rw [h]
  simp [mp_ids hbi']
theorem call_slW {F : Fns} {f n : Nat} {rest : List V} {b b' : Blk} {v : V} (hre : rest.flatMap V.ids = []) (hbi : b.ids = []) (hbi' : b'.ids = []) (hF : F f (.c (.sl 0 0 n 2) :: rest) [b] = some (v, [b'])) (i : Nat) (H : HF) (base : Nat) (hb : (H i == some b) = true) :
    callA F f (.c (.sl i 0 n 2) :: rest) H base = some (v.mp (back [i] base), [], [(i, b')]) := by
  have hb : H i = some b := by simpa using hb
  exact callA_oneW (x := .c (.sl i 0 n 2)) hb (by simp) (by simp) hre hbi hbi' hF base
theorem call_sl2 {F : Fns} {f n n' : Nat} {b c : Blk} {v : V} (hbi : b.ids = []) (hci : c.ids = []) (hF : F f [.c (.sl 0 0 n 2), .c (.sl 1 0 n' 2)] [b, c] = some (v, [b, c])) (i j : Nat) (H : HF) (base : Nat) (hij : (i != j) = true) (hb : (H i == some b) = true) (hc : (H j == some c) = true) :
    callA F f [.c (.sl i 0 n 2), .c (.sl j 0 n' 2)] H base = some (v.mp (back [i, j] base), [], [(i, b), (j, c)]) := by
  have hb : H i = some b := by simpa using hb
  have hc : H j = some c := by simpa using hc
  have hij : i ≠ j := by simpa using hij
  have := callA_two (x := .c (.sl i 0 n 2)) (y := .c (.sl j 0 n' 2)) hij hb hc (by simp) (by simp) (by simp [pos]) (by simp [pos, hij]) hbi hci hF base
  exact this
theorem loop_exit {P : Prog} {Q : Prim} {m : Nat} {a : ACode} {live : List Nat} {e : Env} {h : Heap} {X : Option (Ex × Env × Heap)} (hX : exI P Q m (.loop a live) e h = X) (I : Nat → Env × Heap → Prop) (n : Nat) (R : Ex × Env × Heap → Prop) (h0 : ∃ st, gcE m live e h = some st ∧ I 0 st)
    (hs : ∀ k, k ≤ n → ∀ st, I k st → (k < n ∧ ∃ st', turnK m live (exI P Q m a st.1 st.2) = some st' ∧ I (k + 1) st') ∨ ∃ r, loopK P Q m a live (exI P Q m a st.1 st.2) = some r ∧ R r) : ∃ r, X = some r ∧ R r := by
  subst hX
  have key : ∀ d k, k + d = n → ∀ st, I k st → ∃ r, loopG P Q m a live (some st) = some r ∧ R r := by
    intro d
    induction d with
    | zero =>
      intro k hk st hI
      rcases hs k (by omega) st hI with ⟨h1, _⟩ | h1
      · omega
      · exact h1
    | succ d ih =>
      intro k hk st hI
      rcases hs k (by omega) st hI with ⟨_, st', h1, hI'⟩ | h1
      · obtain ⟨r, hr, hR⟩ := ih (k + 1) (by omega) st' hI'
        refine ⟨r, ?_, hR⟩
        rw [← hr]
        show loopK P Q m a live (exI P Q m a st.1 st.2) = _
        unfold turnK at h1
        split at h1
        · rename_i e1 h2 he
          rw [he]
          show exI P Q m (.loop a live) e1 h2 = _
          rw [exI_loop', h1]
        · cases h1
      · exact h1
  obtain ⟨st, hg, hI⟩ := h0
  rw [exI_loop', hg]
  exact key n 0 (by omega) st hI
/-! ### records told -/
noncomputable def recsV (d p : Tx) (c : Int) : List (Tx × Tx) := cond (validS d p c) (recsT (d ++ p) (cntT (d ++ p))) []
theorem recsV_len (d p : Tx) (c : Int) : (recsV d p c).length ≤ 60 := by
  unfold recsV
  cases validS d p c
  · simp
  · simp only [cond_true]; rw [recsT_len]; exact cntT_le _
theorem c_spec_LogRecords (d p : Tx) (c : Int) (hd : d.length < 40000000) (hp : p.length < 40000000) : fnI pr np 33 [logV d p c] [] = some (.tup [.c (.sl 0 0 (recsV d p c).length 2), .c (.bool (validS d p c))], [.cells (recC (recsV d p c)) true]) := by
  have h1 := callA_pure (c_spec_l12Valid d p c hd hp) (by simp) (by simp)
  have h2 := callA_new (c_spec_l12Open (d ++ p) (by simp; omega)) (by simp)
  have b1 : d.length + p.length ≤ 9223372036854775807 := by omega
  have hl := recsT_len (d ++ p) (cntT (d ++ p))
  rw [fb (fn := a33) rfl rfl rfl]
  unfold recsV
  generalize recsT (d ++ p) (cntT (d ++ p)) = R at *
  rw [← hl] at h2
  generalize endT (d ++ p) = e at *
  cases hv : validS d p c with
  | false => rw [hv] at h1; simp [a33, h1, recC_nil, sub]
  | true => rw [hv] at h1; simp [a33, h1, h2, b1, sub]
theorem c_impl_LogRecords (d p : Tx) (c : Int) (hd : d.length < 40000000) (hp : p.length < 40000000) : fnI pr np 32 [logV d p c] [] = some (.tup [.c (.sl 0 0 (recsV d p c).length 2), .c (.bool (validS d p c))], [.cells (recC (recsV d p c)) true]) := by
  obtain ⟨l, h1, hl⟩ := c_impl_records d p c hd hp
  have h1 := callA_new h1 (by simp)
  rw [fb (fn := a32) rfl rfl rfl]
  unfold recsV
  cases hv : validS d p c with
  | false => rw [hv] at h1; simp [a32, h1, recC_nil, sub]
  | true =>
    have hl := hl hv
    rw [hv] at h1
    simp only [cond_true]
    rw [← hl]
    simp [a32, h1, sub]
theorem recC_cons (x : Tx × Tx) (l : List (Tx × Tx)) : recC (x :: l) = C.str x.1 :: C.str x.2 :: recC l := rfl
theorem recC_set : ∀ (l : List (Tx × Tx)) (i : Nat) (x y : Tx), i < l.length → ((recC l).set (i * 2) (C.str x)).set (i * 2 + 1) (C.str y) = recC (l.set i (x, y))
  | [], i, x, y, h => absurd h (by simp)
  | a :: l, 0, x, y, _ => by rw [recC_cons]; rfl
  | a :: l, i + 1, x, y, h => by
    have ih := recC_set l i x y (by simpa using h)
    rw [List.set_cons_succ, recC_cons, recC_cons, ← ih, show (i + 1) * 2 = i * 2 + 1 + 1 by omega, List.set_cons_succ, List.set_cons_succ, List.set_cons_succ, List.set_cons_succ]
theorem recC_get : ∀ (l : List (Tx × Tx)) (i : Nat) (p : Tx × Tx), l[i]? = some p → ((recC l).drop (i * 2)).take 1 = [C.str p.1] ∧ ((recC l).drop (i * 2 + 1)).take 1 = [C.str p.2] ∧ ((recC l).drop (i * 2)).take 2 = [C.str p.1, C.str p.2]
  | [], i, p, h => by simp at h
  | a :: l, 0, p, h => by
    have : a = p := by simpa using h
    subst this
    rw [recC_cons]
    exact ⟨rfl, rfl, rfl⟩
  | a :: l, i + 1, p, h => by
    have ih := recC_get l i p (by simpa using h)
    rw [recC_cons, show (i + 1) * 2 = i * 2 + 1 + 1 by omega]
    exact ih
theorem setAt_one (cs : List C) (i : Nat) (x : C) : setAt cs i [x] = cs.set i x := by simp [setAt]
end Go.Proofs.YtahfeigilhjgpaaDoor.AM
