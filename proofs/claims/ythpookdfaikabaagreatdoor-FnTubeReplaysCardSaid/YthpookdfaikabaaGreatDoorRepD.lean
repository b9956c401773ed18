import Derived.Test.YthpookdfaikabaaGreatDoorRepA
import Derived.Test.YthpookdfaikabaaGreatDoorRepB
import Derived.Test.YthpookdfaikabaaGreatDoorBaseD
/- Contracts: CountReplies; EndPours. -/
namespace Go.Proofs.YthpookdfaikabaaGreatDoor.AM
open Go
set_option maxRecDepth 1000000
set_option linter.unusedSimpArgs false
set_option linter.unusedVariables false
def repN (r : List Int) (p : Nat × Nat) : Int := ((usefulL (pourR r p.1 p.2)).length : Int)
def repTo (r : List Int) (k : Nat) : List Int := ((usefulL r).take k).map (repN r)
def repAll (r : List Int) : List Int := (usefulL r).map (repN r)
theorem repAll_len (r : List Int) : (repAll r).length = (usefulL r).length := by simp [repAll]
theorem repTo_all (r : List Int) : repTo r (usefulL r).length = repAll r := by unfold repTo repAll; rw [List.take_length]
theorem repTo_zero (r : List Int) : repTo r 0 = [] := rfl
def repL (r : List Int) : List Int := if okRack r = true then repAll r else []
theorem repTo_len (r : List Int) {k : Nat} (hk : k ≤ (usefulL r).length) : (repTo r k).length = k := by simp [repTo]; omega
theorem repTo_succ (r : List Int) {k : Nat} (hk : k < (usefulL r).length) : repTo r (k + 1) = repTo r k ++ [repN r ((usefulL r)[k]'hk)] := by
  unfold repTo; rw [take_snoc hk, List.map_append]; rfl
theorem repL_len (r : List Int) : (repL r).length ≤ 36 := by
  unfold repL
  split
  · rw [repAll_len]; exact usefulL_len r
  · simp
theorem ints_take (l : List Int) : (l.map (C.int .i64)).take l.length = l.map (C.int .i64) := List.take_of_length_le (by simp)
theorem ints_app (l : List Int) (x : Int) : l.map (C.int .i64) ++ [C.int .i64 x] = (l ++ [x]).map (C.int .i64) := by simp
theorem ints_app_ids (l : List Int) (x : Int) : cids (l.map (C.int .i64) ++ [C.int .i64 x]) = [] := by rw [ints_app, cids_ints]
def replyV (r : List Int) : V × Heap := (.tup [.c (.sl 0 0 (repL r).length 1), .c (.bool (okRack r))], [.cells ((repL r).map (C.int .i64)) true])
/-! ### the pours with the value of the game to the end -/
def endOut (n : Nat) (r : List Int) (k : Nat) : List (Nat × Nat) := ((usefulL r).take k).filter fun p => decide (endF n r p = endV (n + 1) r)
def endPad (n : Nat) (r : List Int) : List C := List.replicate (((usefulL r).length - (endOut n r (usefulL r).length).length) * 2) (C.int .i64 0) ++ padC r
theorem endOut_len (n : Nat) (r : List Int) (k : Nat) : (endOut n r k).length ≤ k := Nat.le_trans (List.length_filter_le _ _) (by simp; omega)
theorem endOut_succ (n : Nat) (r : List Int) {k : Nat} (hk : k < (usefulL r).length) : endOut n r (k + 1) = endOut n r k ++ if endF n r ((usefulL r)[k]'hk) = endV (n + 1) r then [(usefulL r)[k]'hk] else [] := by
  unfold endOut
  rw [take_snoc hk, List.filter_append]
  congr 1
  by_cases h : endF n r ((usefulL r)[k]'hk) = endV (n + 1) r <;> simp [h]
theorem endF_wrap (n : Nat) (r : List Int) (p : Nat × Nat) : IntKind.i64.wrap (-(endV n (pourR r p.1 p.2))) = endF n r p := by
  have := endV_range n (pourR r p.1 p.2)
  rw [wrapI (by omega) (by omega)]; rfl
def gameB (r : List Int) (n : Int) (a : Int) : Bool := okRack r && inB n a 3
def endPL (r : List Int) (n : Int) : List (Nat × Nat) := if gameB r n 1 = true then endOut (n.toNat - 1) r (usefulL r).length else []
def endPZ (r : List Int) (n : Int) : List C := if gameB r n 1 = true then endPad (n.toNat - 1) r else []
def pairV (l : List (Nat × Nat)) (z : List C) (q : Bool) : V × Heap := (.tup [.c (.sl 0 0 l.length 2), .c (.bool q)], [.cells (flatC l ++ z) true])
theorem endPad_ids (n : Nat) (r : List Int) : cids (endPad n r) = [] := by simp [endPad]
theorem endPad_cmp (g : Nat → Nat) (n : Nat) (r : List Int) : cmp g (endPad n r) = endPad n r := cmp_pure (endPad_ids n r)
end Go.Proofs.YthpookdfaikabaaGreatDoor.AM

/- Bottoms of tubes. -/
namespace Go.Proofs.YthpookdfaikabaaGreatDoor.AM
open Go
set_option maxRecDepth 1000000
set_option linter.unusedSimpArgs false
set_option linter.unusedVariables false
/-- the color at a tube's bottom -/
def botN (r : List Int) (i : Nat) : Nat := ((tubeAt r i).getD 0 0).toNat
def botCnt (r : List Int) (c : Nat) : Nat → Nat
  | 0 => 0
  | k + 1 => botCnt r c k + if botN r k = c then 1 else 0
def botC (r : List Int) (k : Nat) : List C := [C.int .i64 (botCnt r 0 k), C.int .i64 (botCnt r 1 k), C.int .i64 (botCnt r 2 k), C.int .i64 (botCnt r 3 k), C.int .i64 (botCnt r 4 k), C.int .i64 (botCnt r 5 k)]
@[simp] theorem botC_len (r : List Int) (k : Nat) : (botC r k).length = 6 := rfl
@[simp] theorem botC_ids (r : List Int) (k : Nat) : cids (botC r k) = [] := rfl
@[simp] theorem botC_dead (r : List Int) (k : Nat) : noDead (botC r k) = true := rfl
@[simp] theorem botC_cmp (g : Nat → Nat) (r : List Int) (k : Nat) : cmp g (botC r k) = botC r k := rfl
theorem botCnt_le (r : List Int) (c : Nat) : ∀ k, botCnt r c k ≤ k
  | 0 => Nat.le_refl _
  | k + 1 => by have := botCnt_le r c k; simp only [botCnt]; split <;> omega
theorem botC_get (r : List Int) (k : Nat) {c : Nat} (hc : c ≤ 5) : ((botC r k).drop c).take 1 = [C.int .i64 (botCnt r c k)] := by
  have : c = 0 ∨ c = 1 ∨ c = 2 ∨ c = 3 ∨ c = 4 ∨ c = 5 := by omega
  rcases this with rfl | rfl | rfl | rfl | rfl | rfl <;> rfl
theorem botC_set (r : List Int) (k : Nat) {c : Nat} (hc : c ≤ 5) (hb : botN r k = c) : (botC r k).set c (C.int .i64 ((botCnt r c k : Int) + 1)) = botC r (k + 1) := by
  have : c = 0 ∨ c = 1 ∨ c = 2 ∨ c = 3 ∨ c = 4 ∨ c = 5 := by omega
  rcases this with rfl | rfl | rfl | rfl | rfl | rfl <;> simp [botC, botCnt, hb]
theorem bot_colT : allT (fun t => decide (0 ≤ t.getD 0 0) && decide (t.getD 0 0 ≤ 5) && ((runsOf t).length == 0) == (t.getD 0 0 == 0)) = true := by kernel_rfl
theorem bot_facts {r : List Int} (h : RackOK r) {i : Nat} (hi : i < 6) : botN r i ≤ 5 ∧ ((tubeAt r i).map (C.int .i64)).take 1 = [C.int .i64 (botN r i)] ∧ ((runsOf (tubeAt r i)).length = 0 ↔ botN r i = 0) := by
  have := tubes_all bot_colT (h.t4 hi) (h.tv hi)
  simp only [Bool.and_eq_true, decide_eq_true_eq, beq_iff_eq] at this
  obtain ⟨⟨h1, h2⟩, h3⟩ := this
  obtain ⟨a, b, c, d, ht⟩ := len4 (h.t4 hi)
  unfold botN
  rw [ht] at h1 h2 h3 ⊢
  simp at h1 h2 h3 ⊢
  refine ⟨by omega, by omega, ?_⟩
  rw [Bool.eq_iff_iff] at h3
  simp at h3
  rw [h3]
  omega
theorem cell_bot {r : List Int} (h : RackOK r) {i : Nat} (hi : i < 6) : ((r.map (C.int .i64)).drop (i * 4)).take 1 = [C.int .i64 (botN r i)] := by
  have := (bot_facts h hi).2.1
  rw [← cells_tube, List.take_take] at this
  exact this
def bdTo (r : List Int) : Nat → Nat
  | 0 => 0
  | k + 1 => bdTo r k + ((runsOf (tubeAt r k)).length - 1)
end Go.Proofs.YthpookdfaikabaaGreatDoor.AM

/- Contracts: the bound of a rack; the certificate of a replay. -/
namespace Go.Proofs.YthpookdfaikabaaGreatDoor.AM
open Go
set_option maxRecDepth 1000000
set_option linter.unusedSimpArgs false
set_option linter.unusedVariables false
theorem c_spec_l6Bottoms (r : List Int) (h : RackOK r) : fnI pr np 99 [.agg (r.map (C.int .i64))] [] = some (.agg (botC r 6), []) := by
  have hr := h.len
  rw [fb (fn := a99) rfl rfl rfl]
  simp [a99, hr, setAt]
  rw [loop_to (fun k => ([(1, V.c (C.ptr 0 0)), (2, V.c (C.ptr 1 0)), (3, V.c (C.ptr 2 0)), (4, V.c (C.int .i64 k))], [Blk.cells (r.map (C.int .i64)) true, Blk.cells [C.int .i64 0, C.int .i64 0, C.int .i64 0, C.int .i64 0, C.int .i64 0, C.int .i64 0] true, Blk.cells (botC r k) true])) 6]
  · have : (botC r 6).take 6 = botC r 6 := rfl
    simp [this, setAt_all]
  · simp [botC, botCnt, sub]
  · intro k hk
    have hk' : (k : Int) < 6 := by omega
    obtain ⟨hb5, _, _⟩ := bot_facts h hk
    have g := cell_bot h hk
    have g2 := botC_get r k hb5
    have hs := botC_set r k hb5 rfl
    have hle := botCnt_le r (botN r k) k
    have wk := wrapS (k := k) (by omega)
    have wc := wrapS (k := botCnt r (botN r k) k) (by omega)
    have b1 : k * 4 + 1 ≤ 24 := by omega
    have b2 : (botN r k : Int) < 6 := by omega
    have b2' : botN r k < 6 := by omega
    have b3 : botN r k + 1 ≤ 6 := by omega
    generalize botN r k = c at *
    simp [hk, hk', hr, g, g2, wk, wc, b1, b2, b2', b3, hb5, hs, setAt, sub]
/-! ### boundaries -/
theorem bdTo_le {r : List Int} (h : RackOK r) : ∀ k, k ≤ 6 → bdTo r k ≤ 4 * k
  | 0, _ => Nat.le_refl _
  | k + 1, hk => by
    have := bdTo_le h k (by omega)
    have h1 := runsOf_len (tubeAt r k)
    have h2 := h.t4 (i := k) (by omega)
    simp only [bdTo]; omega
theorem bd_eq {r : List Int} (h : RackOK r) : bdTo r 6 + 6 = runsFrom r 0 6 + botCnt r 0 6 := by
  have f0 := (bot_facts h (i := 0) (by omega)).2.2
  have f1 := (bot_facts h (i := 1) (by omega)).2.2
  have f2 := (bot_facts h (i := 2) (by omega)).2.2
  have f3 := (bot_facts h (i := 3) (by omega)).2.2
  have f4 := (bot_facts h (i := 4) (by omega)).2.2
  have f5 := (bot_facts h (i := 5) (by omega)).2.2
  simp only [bdTo, runsFrom, botCnt]
  generalize (runsOf (tubeAt r 0)).length = n0 at *
  generalize (runsOf (tubeAt r 1)).length = n1 at *
  generalize (runsOf (tubeAt r 2)).length = n2 at *
  generalize (runsOf (tubeAt r 3)).length = n3 at *
  generalize (runsOf (tubeAt r 4)).length = n4 at *
  generalize (runsOf (tubeAt r 5)).length = n5 at *
  have key : ∀ n b : Nat, (n = 0 ↔ b = 0) → n - 1 + 1 = n + if b = 0 then 1 else 0 := by
    intro n b hh
    by_cases hb : b = 0
    · have := hh.2 hb; simp [hb, this]
    · have : n ≠ 0 := fun e => hb (hh.1 e)
      simp [hb]; omega
  have k0 := key _ _ f0
  have k1 := key _ _ f1
  have k2 := key _ _ f2
  have k3 := key _ _ f3
  have k4 := key _ _ f4
  have k5 := key _ _ f5
  omega
theorem c_spec_l6Boundaries (r : List Int) (h : RackOK r) : fnI pr np 98 [.agg (r.map (C.int .i64))] [] = some (.c (.int .i64 (bdTo r 6)), []) := by
  have hr := h.len
  have h24 := take24 hr
  have h1 := callA_pure (c_spec_l6Runs r hr h.val) (by simp) (by simp)
  have h2 := callA_pure (c_spec_l6Bottoms r h) (by simp) (by simp)
  have he := bd_eq h
  have hb := bdTo_le h 6 (by omega)
  have hc := botCnt_le r 0 6
  have g : (botC r 6).take 1 = [C.int .i64 (botCnt r 0 6)] := rfl
  have w1 : IntKind.i64.wrap ((runsFrom r 0 6 : Int) - 6) = (runsFrom r 0 6 : Int) - 6 := wrapI (by omega) (by omega)
  have w2 : IntKind.i64.wrap ((runsFrom r 0 6 : Int) - 6 + (botCnt r 0 6 : Int)) = (bdTo r 6 : Int) := by rw [wrapI (by omega) (by omega)]; omega
  rw [fb (fn := a98) rfl rfl rfl]
  simp [a98, hr, h24, h1, h2, g, w1, w2]
def exTo (r : List Int) : Nat → Nat
  | 0 => 0
  | k + 1 => exTo r k + (botCnt r (k + 1) 6 - 1)
theorem exTo_le (r : List Int) : ∀ k, exTo r k ≤ 6 * k
  | 0 => Nat.le_refl _
  | k + 1 => by have := exTo_le r k; have := botCnt_le r (k + 1) 6; simp only [exTo]; omega
def boundN (r : List Int) : Nat := bdTo r 6 + exTo r 5
theorem c_spec_l6Bound (r : List Int) (h : RackOK r) : fnI pr np 82 [.agg (r.map (C.int .i64))] [] = some (.c (.int .i64 (boundN r)), []) := by
  have hr := h.len
  have h24 := take24 hr
  have h1 := callA_pure (c_spec_l6Boundaries r h) (by simp) (by simp)
  have h2 := callA_pure (c_spec_l6Bottoms r h) (by simp) (by simp)
  have hbl := bdTo_le h 6 (by omega)
  rw [fb (fn := a82) rfl rfl rfl]
  simp [a82, hr, h24, h1, h2, setAt_all]
  rw [loop_to (fun k => ([(3, V.c (C.int .i64 ((bdTo r 6 + exTo r k : Nat) : Int))), (4, V.c (C.ptr 0 0)), (5, V.c (C.int .i64 ((k + 1 : Nat) : Int)))], [Blk.cells (botC r 6) true])) 5]
  · simp [boundN]
  · simp [exTo, sub]
  · intro k hk
    have hk' : (k : Int) + 1 ≤ 5 := by omega
    have hk'' : (k : Int) + 1 < 6 := by omega
    have hk3 : ((k : Int) + 1).toNat = k + 1 := by omega
    have hk4 : (0 : Int) ≤ (k : Int) + 1 := by omega
    have g := botC_get r 6 (c := k + 1) (by omega)
    have hc := botCnt_le r (k + 1) 6
    have he := exTo_le r k
    have wk := wrapS (k := k + 1) (by omega)
    have b1 : k + 1 + 1 ≤ 6 := by omega
    have hst : exTo r (k + 1) = exTo r k + (botCnt r (k + 1) 6 - 1) := rfl
    generalize botCnt r (k + 1) 6 = n at *
    have wn : IntKind.i64.wrap ((n : Int) - 1) = (n : Int) - 1 := wrapI (by omega) (by omega)
    have hmost := callA_pure (c_spec_l1Most 0 ((n : Int) - 1)) (by simp) (by simp)
    have hmx : max (0 : Int) ((n : Int) - 1) = ((n - 1 : Nat) : Int) := by omega
    rw [hmx] at hmost
    have w2 : IntKind.i64.wrap ((bdTo r 6 : Int) + (exTo r k : Int) + ((n - 1 : Nat) : Int)) = (bdTo r 6 : Int) + ((exTo r k : Int) + ((n - 1 : Nat) : Int)) := by rw [wrapI (by omega) (by omega)]; omega
    generalize n - 1 = q at *
    simp at wk
    simp [hk, hk', hk'', hk3, hk4, g, wk, b1, wn, hmost, w2, hst, sub]
/-! ### the certificate -/
def certV (r : List Int) (l : List (Int × Int)) : V := .tup [.c (.int .i64 (if solB r l = true then (l.length : Int) - (boundN r : Int) else 0)), .c (.bool (solB r l))]
theorem boundN_le {r : List Int} (h : RackOK r) : boundN r ≤ 54 := by
  have h1 := bdTo_le h 6 (by omega)
  have h2 := exTo_le r 5
  unfold boundN; omega
end Go.Proofs.YthpookdfaikabaaGreatDoor.AM

/- A loop that ends at one of its turns. -/
namespace Go.Proofs.YthpookdfaikabaaGreatDoor.AM
open Go
set_option maxRecDepth 1000000
theorem loop_exit {P : Prog} {Q : Prim} {m : Nat} {a : ACode} {live : List Nat} {e : Env} {h : Heap} {X : Option (Ex × Env × Heap)} (hX : exI P Q m (.loop a live) e h = X) (I : Nat → Env × Heap → Prop) (n : Nat) (R : Ex × Env × Heap → Prop) (h0 : ∃ st, gcE m live e h = some st ∧ I 0 st)
    (hs : ∀ k, k ≤ n → ∀ st, I k st → (k < n ∧ ∃ st', turnK m live (exI P Q m a st.1 st.2) = some st' ∧ I (k + 1) st') ∨ ∃ r, loopK P Q m a live (exI P Q m a st.1 st.2) = some r ∧ R r) : ∃ r, X = some r ∧ R r := by
  subst hX
  have key : ∀ d k, k + d = n → ∀ st, I k st → ∃ r, loopG P Q m a live (some st) = some r ∧ R r := by
    intro d
    induction d with
    | zero =>
      intro k hk st hI
      rcases hs k (by omega) st hI with ⟨h1, _⟩ | h1
      · omega
      · exact h1
    | succ d ih =>
      intro k hk st hI
      rcases hs k (by omega) st hI with ⟨_, st', h1, hI'⟩ | h1
      · obtain ⟨r, hr, hR⟩ := ih (k + 1) (by omega) st' hI'
        refine ⟨r, ?_, hR⟩
        rw [← hr]
        show loopK P Q m a live (exI P Q m a st.1 st.2) = _
        unfold turnK at h1
        split at h1
        · rename_i e1 h2 he
          rw [he]
          show exI P Q m (.loop a live) e1 h2 = _
          rw [exI_loop', h1]
        · cases h1
      · exact h1
  obtain ⟨st, hg, hI⟩ := h0
  rw [exI_loop', hg]
  exact key n 0 (by omega) st hI
end Go.Proofs.YthpookdfaikabaaGreatDoor.AM

/- Contracts: pours of any rack at any places, layers put and taken, tubes exchanged. -/
namespace Go.Proofs.YthpookdfaikabaaGreatDoor.AM
open Go
set_option maxRecDepth 1000000
set_option linter.unusedSimpArgs false
set_option linter.unusedVariables false
theorem set_ints (r : List Int) (i : Nat) (c : Int) : (r.map (C.int .i64)).set i (C.int .i64 c) = (r.set i c).map (C.int .i64) := List.map_set.symm
theorem isP_place : IsP 71 placeB := c_impl_isPlace
theorem c_impl_isAt (r : List Int) (hr : r.length = 24) (xs : List Int) (hx : xs.length < 1000000) (o : Bool) : fnI pr np 52 [.agg (r.map (C.int .i64)), .c (.sl 0 0 xs.length 1)] [.cells (xs.map (C.int .i64)) o] = some (.c (.bool (okRack r && xs.all placeB)), [.cells (xs.map (C.int .i64)) o]) := by
  have h1 := callA_pure (c_rack_impl r hr) (by simp) (by simp)
  have h24 := take24 hr
  have h0 := c_impl_areAll_int isP_place xs 0 xs.length (by omega) hx o
  rw [show (xs.drop 0).take xs.length = xs by simp] at h0
  have hc := fun (G : Heap) (base : Nat) => callA_gen (F := fnI pr np) (f := 77) (args := [.c (.sl 0 0 xs.length 1), .c (.fn 71 [])]) (H := lkp (.cells (xs.map (C.int .i64)) o :: G)) (L := [0]) (by simp) (by simp) (by simp [sub]) (by simp) h0 (by simp) base
  rw [fb (fn := a52) rfl rfl rfl]
  cases hq : okRack r with
  | false => rw [hq] at h1; simp [a52, hr, h24, h1, sub]
  | true => rw [hq] at h1; simp [a52, hr, h24, h1, hc, sub]
theorem call_isAt (r : List Int) (hr : r.length = 24) (xs : List Int) (hx : xs.length < 1000000) (i : Nat) (H : HF) (base : Nat) (hb : (H i == some (Blk.cells (xs.map (C.int .i64)) true)) = true) : callA (fnI pr np) 52 [.agg (r.map (C.int .i64)), .c (.sl i 0 xs.length 1)] H base = some (.c (.bool (okRack r && xs.all placeB)), [], [(i, .cells (xs.map (C.int .i64)) true)]) := by
  have hb : H i = some (Blk.cells (xs.map (C.int .i64)) true) := by simpa using hb
  have h := callA_gen (F := fnI pr np) (f := 52) (args := [.agg (r.map (C.int .i64)), .c (.sl i 0 xs.length 1)]) (H := H) (L := [i]) (by simp [reach, idsAt, hb]) (by simp [closed, hb, idsAt, inL]) (show sub [i] H = [.cells (xs.map (C.int .i64)) true] by simp [sub, hb]) (show _ = [.agg (r.map (C.int .i64)), .c (.sl 0 0 xs.length 1)] by simp [pos]) (c_impl_isAt r hr xs hx true) (by simp) base
  rw [h]
  simp
/-! ### pours -/
def pB (r : List Int) (i j : Int) : Bool := okRack r && (placeB i && placeB j) && canP r i.toNat j.toNat
def pR (r : List Int) (i j : Int) : List Int := if pB r i j = true then pourR r i.toNat j.toNat else List.replicate 24 0
def pN (r : List Int) (i j : Int) : Int := if pB r i j = true then (pourN r i.toNat j.toNat : Int) else 0
theorem pR_len {r : List Int} (hr : r.length = 24) (i j : Int) : (pR r i j).length = 24 := by
  unfold pR; split
  · exact pourR_len hr _ _
  · simp
def pV (r : List Int) (i j : Int) : V := .tup [.agg ((pR r i j).map (C.int .i64)), .c (.int .i64 (pN r i j)), .c (.bool (pB r i j))]
theorem c_impl_Pour (r : List Int) (hr : r.length = 24) (i j : Int) : fnI pr np 27 [.agg (r.map (C.int .i64)), .c (.int .i64 i), .c (.int .i64 j)] [] = some (pV r i j, []) := by
  have ha := call_isAt r hr [i, j] (by simp)
  have h24 := take24 hr
  rw [fb (fn := a27) rfl rfl rfl]
  unfold pV pR pN pB
  cases hq : okRack r with
  | false => rw [hq] at ha; simp at ha; simp [a27, hr, h24, ha, setAt_all, sub]
  | true =>
    cases q1 : placeB i with
    | false => rw [hq] at ha; simp [q1] at ha; simp [a27, hr, h24, ha, setAt_all, sub]
    | true =>
      cases q2 : placeB j with
      | false => rw [hq] at ha; simp [q1, q2] at ha; simp [a27, hr, h24, ha, setAt_all, sub]
      | true =>
        obtain ⟨i', rfl, hi, ti⟩ := place_nat q1
        obtain ⟨j', rfl, hj, tj⟩ := place_nat q2
        have h := rackOK hr hq
        have hcp := callA_pure (c_impl_canPour _ h hi hj) (by simp) (by simp)
        have hp := callA_pure (c_impl_pour _ h hi hj) (by simp) (by simp)
        have hpl := pourR_len hr i' j'
        have hp24 := take24 hpl
        rw [hq] at ha
        simp [q1, q2] at ha
        cases hc : canP r i' j' with
        | false => rw [hc] at hcp; simp [a27, hr, h24, ha, hc, hcp, setAt_all, sub]
        | true => rw [hc] at hcp; simp [a27, hr, h24, ha, hc, hcp, hp, hpl, hp24, setAt_all, sub]
/-! ### one layer more -/
def colB (c : Int) : Bool := decide (1 ≤ c) && decide (c ≤ 5)
def ptB (r : List Int) (i c : Int) : Bool := okRack r && placeB i && colB c && !(layN (tubeAt r i.toNat) == 4)
def ptR (r : List Int) (i c : Int) : List Int := if ptB r i c = true then r.set (i.toNat * 4 + layN (tubeAt r i.toNat)) c else List.replicate 24 0
theorem ptR_len {r : List Int} (hr : r.length = 24) (i c : Int) : (ptR r i c).length = 24 := by
  unfold ptR; split
  · simp [hr]
  · simp
def ptV (r : List Int) (i c : Int) : V := .tup [.agg ((ptR r i c).map (C.int .i64)), .c (.bool (ptB r i c))]
/-! ### one layer less -/
def tkB (r : List Int) (i : Int) : Bool := okRack r && placeB i && !(layN (tubeAt r i.toNat) == 0)
def tkR (r : List Int) (i : Int) : List Int := if tkB r i = true then r.set (i.toNat * 4 + (layN (tubeAt r i.toNat) - 1)) 0 else List.replicate 24 0
def tkC (r : List Int) (i : Int) : Int := if tkB r i = true then r.getD (i.toNat * 4 + (layN (tubeAt r i.toNat) - 1)) 0 else 0
theorem tkR_len {r : List Int} (hr : r.length = 24) (i : Int) : (tkR r i).length = 24 := by
  unfold tkR; split
  · simp [hr]
  · simp
def tkV (r : List Int) (i : Int) : V := .tup [.agg ((tkR r i).map (C.int .i64)), .c (.int .i64 (tkC r i)), .c (.bool (tkB r i))]
/-! ### tubes exchanged -/
def setI : List Int → Nat → List Int → List Int
  | r, _, [] => r
  | r, n, x :: xs => setI (r.set n x) (n + 1) xs
theorem setI_len : ∀ (xs r : List Int) (n : Nat), (setI r n xs).length = r.length
  | [], r, n => rfl
  | x :: xs, r, n => by rw [setI, setI_len xs]; simp
theorem setAt_ints : ∀ (xs r : List Int) (n : Nat), setAt (r.map (C.int .i64)) n (xs.map (C.int .i64)) = (setI r n xs).map (C.int .i64)
  | [], r, n => rfl
  | x :: xs, r, n => by
    rw [List.map_cons, setAt, setI, ← List.map_set]
    exact setAt_ints xs _ _
def swB (r : List Int) (i j : Int) : Bool := okRack r && (placeB i && placeB j)
def swT (r : List Int) (i j : Nat) : List Int := setI (setI r (i * 4) (tubeAt r j)) (j * 4) (tubeAt r i)
def swR (r : List Int) (i j : Int) : List Int := if swB r i j = true then swT r i.toNat j.toNat else List.replicate 24 0
theorem swR_len {r : List Int} (hr : r.length = 24) (i j : Int) : (swR r i j).length = 24 := by
  unfold swR; split
  · unfold swT; rw [setI_len, setI_len, hr]
  · simp
def swV (r : List Int) (i j : Int) : V := .tup [.agg ((swR r i j).map (C.int .i64)), .c (.bool (swB r i j))]
end Go.Proofs.YthpookdfaikabaaGreatDoor.AM

