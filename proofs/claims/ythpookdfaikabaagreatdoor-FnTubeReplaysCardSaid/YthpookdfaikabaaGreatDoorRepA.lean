import Derived.Test.YthpookdfaikabaaGreatDoorBaseD
import Derived.Test.YthpookdfaikabaaGreatDoorAmE
/- Contracts: the game to the end. -/
namespace Go.Proofs.YthpookdfaikabaaGreatDoor.AM
open Go
set_option maxRecDepth 1000000
set_option linter.unusedSimpArgs false
set_option linter.unusedVariables false
theorem flatC_take1 (l : List (Nat × Nat)) (z : List C) {k : Nat} (hk : k < l.length) : ((flatC l ++ z).drop (k * 2)).take 1 = [C.int .i64 (l[k]'hk).1] ∧ ((flatC l ++ z).drop (k * 2 + 1)).take 1 = [C.int .i64 (l[k]'hk).2] := by
  have hg := flatC_get l z k hk
  refine ⟨?_, ?_⟩
  · have := congrArg (List.take 1) hg
    simpa [List.take_take] using this
  · have := congrArg (List.drop 1) hg
    rw [List.drop_take, List.drop_drop] at this
    simpa using this
theorem useful_pour {r : List Int} (h : RackOK r) {p : Nat × Nat} (hp : p ∈ usefulL r) : p.1 < 6 ∧ p.2 < 6 ∧ RackOK (pourR r p.1 p.2) := by
  have hm := mem_usefulL hp
  exact ⟨hm.1, hm.2.1, h.pour hm.1 hm.2.1 (canP_ne hm.2.2)⟩
/-- a valid rack -/
theorem rackOK {r : List Int} (hr : r.length = 24) (h : okRack r = true) : RackOK r := ⟨hr, (rack_eq r hr).trans h⟩
theorem c_rack_spec (r : List Int) (hr : r.length = 24) : fnI pr np 57 [.agg (r.map (C.int .i64))] [] = some (.c (.bool (okRack r)), []) := c_spec_l2Rack r hr
theorem c_rack_impl (r : List Int) (hr : r.length = 24) : fnI pr np 50 [.agg (r.map (C.int .i64))] [] = some (.c (.bool (okRack r)), []) := by
  have := c_impl_IsRack r hr
  rwa [rack_eq r hr] at this
def inB (n a b : Int) : Bool := decide (a ≤ n) && decide (n ≤ b)
def endVV (r : List Int) (n : Int) : Int := if (okRack r && inB n 0 3) = true then endV n.toNat r else 0
def lostB (r : List Int) : Bool := okRack r && decide ((usefulL r).length = 0)
end Go.Proofs.YthpookdfaikabaaGreatDoor.AM

/- Contracts: what the laws ask of a list of pairs, of a list of ints: equal, marked, held. -/
namespace Go.Proofs.YthpookdfaikabaaGreatDoor.AM
open Go
set_option maxRecDepth 1000000
set_option linter.unusedSimpArgs false
set_option linter.unusedVariables false
theorem wz1 : IntKind.i64.wrap 1 = 1 := by decide
theorem wz2 : IntKind.i64.wrap 2 = 2 := by decide
/-- the mark of a cell -/
def mk1 (j : Nat) : Int := ((j + 1 : Nat) : Int)
def markC (n : Nat) : List C := (List.range n).map fun j => C.int .i64 (mk1 j)
theorem markC_ids (n : Nat) : cids (markC n) = [] := by
  have : markC n = ((List.range n).map mk1).map (C.int .i64) := by simp [markC]
  rw [this, cids_ints]
theorem markC_cmp (g : Nat → Nat) (n : Nat) : cmp g (markC n) = markC n := cmp_pure (markC_ids n)
theorem markC_len (n : Nat) : (markC n).length = n := by simp [markC]
theorem markC_succ (n : Nat) : markC (n + 1) = markC n ++ [C.int .i64 (mk1 n)] := by simp [markC, List.range_succ]
theorem mk1_wrap {j : Nat} (h : j < 1000000000) : IntKind.i64.wrap (mk1 j + 1) = mk1 (j + 1) := by
  unfold mk1; rw [wrapI (by omega) (by omega)]; omega
theorem mk1_pos (j : Nat) : ¬ mk1 j < 0 := by unfold mk1; omega
theorem markC_get {n j : Nat} (h : j < n) (z : List C) : ((markC n ++ z).drop j).take 1 = [C.int .i64 (mk1 j)] := by
  rw [List.drop_append_of_le_length (by rw [markC_len]; omega), List.drop_eq_getElem_cons (by rw [markC_len]; omega)]
  simp [markC]
theorem set_at (A B : List C) (x : C) {j : Nat} (hj : A.length = j) (hb : 0 < B.length) : (A ++ B).set j x = A ++ [x] ++ B.drop 1 := by
  rw [List.set_append_right _ _ (by omega), hj, Nat.sub_self]
  cases B with
  | nil => simp at hb
  | cons b B => simp
theorem mark_step (B : List C) (i : Nat) (hb : i < B.length) : (markC i ++ B.drop i).set i (C.int .i64 (mk1 i)) = markC (i + 1) ++ B.drop (i + 1) := by
  rw [set_at _ _ _ (markC_len i) (by simp; omega), markC_succ, List.drop_drop]
end Go.Proofs.YthpookdfaikabaaGreatDoor.AM

/- Contracts: sorted racks. -/
namespace Go.Proofs.YthpookdfaikabaaGreatDoor.AM
open Go
set_option maxRecDepth 1000000
set_option linter.unusedSimpArgs false
set_option linter.unusedVariables false
/-- a sorted rack: tubes of one run at most, each of a color of its own -/
def sortTo (r : List Int) (seen : List Int) (i : Nat) : Nat → Bool
  | 0 => true
  | d + 1 => match runsOf (tubeAt r i) with
    | [] => sortTo r seen (i + 1) d
    | [p] => !decide (p.1 ∈ seen) && sortTo r (seen ++ [p.1]) (i + 1) d
    | _ :: _ :: _ => false
def sortP (r : List Int) : Bool := sortTo r [] 0 6
theorem runs_colT : allT (fun t => (runsOf t).all fun p => decide (1 ≤ p.1) && decide (p.1 ≤ 5)) = true := by kernel_rfl
theorem run_col {t : List Int} (ht : t.length = 4) (hv : tubeP t = true) {p : Int × Int} (hp : p ∈ runsOf t) : ∃ c : Nat, p.1 = (c : Int) ∧ 1 ≤ c ∧ c ≤ 5 := by
  have := List.all_eq_true.1 (tubes_all runs_colT ht hv) p hp
  simp only [Bool.and_eq_true, decide_eq_true_eq] at this
  exact ⟨p.1.toNat, by omega, by omega, by omega⟩
def seenB (s : List Int) : List C := [C.bool (decide (0 ∈ s)), C.bool (decide (1 ∈ s)), C.bool (decide (2 ∈ s)), C.bool (decide (3 ∈ s)), C.bool (decide (4 ∈ s)), C.bool (decide (5 ∈ s))]
@[simp] theorem seenB_len (s : List Int) : (seenB s).length = 6 := rfl
@[simp] theorem seenB_ids (s : List Int) : cids (seenB s) = [] := rfl
@[simp] theorem seenB_cmp (g : Nat → Nat) (s : List Int) : cmp g (seenB s) = seenB s := rfl
theorem seenB_get (s : List Int) {c : Nat} (hc : c ≤ 5) : ((seenB s).drop c).take 1 = [C.bool (decide ((c : Int) ∈ s))] := by
  have : c = 0 ∨ c = 1 ∨ c = 2 ∨ c = 3 ∨ c = 4 ∨ c = 5 := by omega
  rcases this with rfl | rfl | rfl | rfl | rfl | rfl <;> rfl
theorem seenB_set (s : List Int) {c : Nat} (hc : c ≤ 5) : (seenB s).set c (C.bool true) = seenB (s ++ [(c : Int)]) := by
  have : c = 0 ∨ c = 1 ∨ c = 2 ∨ c = 3 ∨ c = 4 ∨ c = 5 := by omega
  rcases this with rfl | rfl | rfl | rfl | rfl | rfl <;> simp [seenB]
end Go.Proofs.YthpookdfaikabaaGreatDoor.AM

/- Replays: their cells, and what the laws ask of them: copied, counted, equal. -/
namespace Go.Proofs.YthpookdfaikabaaGreatDoor.AM
open Go
set_option maxRecDepth 1000000
set_option linter.unusedSimpArgs false
set_option linter.unusedVariables false
/-- pours of any ints, as cells -/
def flatZ (l : List (Int × Int)) : List Int := l.flatMap fun p => [p.1, p.2]
def cZ (l : List (Int × Int)) : List C := (flatZ l).map (C.int .i64)
theorem flatZ_len : ∀ l : List (Int × Int), (flatZ l).length = l.length * 2
  | [] => rfl
  | p :: l => by have := flatZ_len l; simp only [flatZ, List.flatMap_cons, List.length_append] at this ⊢; simp [this]; omega
@[simp] theorem cZ_len (l : List (Int × Int)) : (cZ l).length = l.length * 2 := by simp [cZ, flatZ_len]
@[simp] theorem cZ_ids (l : List (Int × Int)) : cids (cZ l) = [] := cids_ints _ _
@[simp] theorem cZ_cmp (g : Nat → Nat) (l : List (Int × Int)) : cmp g (cZ l) = cZ l := cmp_ints _ _ _
@[simp] theorem cZ_dead (l : List (Int × Int)) : noDead (cZ l) = true := noDead_ints _ _
theorem cZ_nil : cZ [] = [] := rfl
theorem cZ_cons (p : Int × Int) (l : List (Int × Int)) : cZ (p :: l) = C.int .i64 p.1 :: C.int .i64 p.2 :: cZ l := rfl
theorem cZ_app (a b : List (Int × Int)) : cZ (a ++ b) = cZ a ++ cZ b := by simp [cZ, flatZ]
theorem cZ_drop (l : List (Int × Int)) : ∀ k, (cZ l).drop (k * 2) = cZ (l.drop k) := by
  induction l with
  | nil => intro k; simp [cZ_nil]
  | cons p l ih =>
    intro k
    cases k with
    | zero => simp
    | succ k =>
      rw [cZ_cons, show (k + 1) * 2 = k * 2 + 1 + 1 by omega]
      simp only [List.drop_succ_cons, ih k]
theorem cZ_get (l : List (Int × Int)) {k : Nat} (hk : k < l.length) : ((cZ l).drop (k * 2)).take 2 = [C.int .i64 (l[k]'hk).1, C.int .i64 (l[k]'hk).2] := by
  rw [cZ_drop, List.drop_eq_getElem_cons hk, cZ_cons]
  rfl
theorem cZ_get1 (l : List (Int × Int)) {k : Nat} (hk : k < l.length) : ((cZ l).drop (k * 2)).take 1 = [C.int .i64 (l[k]'hk).1] ∧ ((cZ l).drop (k * 2 + 1)).take 1 = [C.int .i64 (l[k]'hk).2] := by
  refine ⟨?_, ?_⟩
  · rw [cZ_drop, List.drop_eq_getElem_cons hk, cZ_cons]; rfl
  · rw [← List.drop_drop, cZ_drop, List.drop_eq_getElem_cons hk, cZ_cons]; rfl
theorem cZ_take (l : List (Int × Int)) : (cZ l).take (l.length * 2) = cZ l := List.take_of_length_le (by simp)
/-- a replay as a value: its rack, its pours in block i -/
def repV (r : List Int) (i n : Nat) : V := .agg (r.map (C.int .i64) ++ [C.sl i 0 n 2])
theorem repC_take {r : List Int} (hr : r.length = 24) (c : C) : (r.map (C.int .i64) ++ [c]).take 24 = r.map (C.int .i64) := by
  rw [List.take_append_of_le_length (by simp; omega)]; exact take24 hr
theorem repC_drop {r : List Int} (hr : r.length = 24) (c : C) : (r.map (C.int .i64) ++ [c]).drop 24 = [c] := by
  rw [List.drop_append_of_le_length (by simp; omega), List.drop_of_length_le (by simp; omega)]; rfl
theorem repC_all {r : List Int} (hr : r.length = 24) (c : C) : (r.map (C.int .i64) ++ [c]).take 25 = r.map (C.int .i64) ++ [c] := List.take_of_length_le (by simp; omega)
theorem repC_set {r : List Int} (hr : r.length = 24) (c d : C) : (r.map (C.int .i64) ++ [c]).set 24 d = r.map (C.int .i64) ++ [d] := by
  rw [List.set_append_right _ _ (by simp; omega)]; simp [hr]
/-- the zero of a replay -/
def z25 (i : Nat) : List C := List.replicate 24 (C.int .i64 0) ++ [C.sl i 0 0 2]
theorem z25_eq (i : Nat) : [C.int .i64 0, C.int .i64 0, C.int .i64 0, C.int .i64 0, C.int .i64 0, C.int .i64 0, C.int .i64 0, C.int .i64 0, C.int .i64 0, C.int .i64 0, C.int .i64 0, C.int .i64 0, C.int .i64 0, C.int .i64 0, C.int .i64 0, C.int .i64 0, C.int .i64 0, C.int .i64 0, C.int .i64 0, C.int .i64 0, C.int .i64 0, C.int .i64 0, C.int .i64 0, C.int .i64 0, C.sl i 0 0 2] = z25 i := rfl
@[simp] theorem z25_len (i : Nat) : (z25 i).length = 25 := rfl
@[simp] theorem z25_ids (i : Nat) : cids (z25 i) = [i] := rfl
theorem setAt_front : ∀ (xs zs ys : List C) (A : List C), zs.length = xs.length → setAt (A ++ zs ++ ys) A.length xs = A ++ xs ++ ys
  | [], zs, ys, A, h => by
    have : zs = [] := List.eq_nil_of_length_eq_zero h
    subst this
    rfl
  | x :: xs, [], ys, A, h => by simp at h
  | x :: xs, z :: zs, ys, A, h => by
    have h' : zs.length = xs.length := by simpa using h
    have := setAt_front xs zs ys (A ++ [x]) h'
    simp only [setAt]
    have e : (A ++ z :: zs ++ ys).set A.length x = A ++ [x] ++ zs ++ ys := by
      rw [List.append_assoc, List.set_append_right _ _ (Nat.le_refl _), Nat.sub_self]
      simp
    rw [e]
    simpa using this
theorem z25_set {r : List Int} (hr : r.length = 24) (i : Nat) : setAt (z25 i) 0 (r.map (C.int .i64)) = r.map (C.int .i64) ++ [C.sl i 0 0 2] := by
  have := setAt_front (r.map (C.int .i64)) (List.replicate 24 (C.int .i64 0)) [C.sl i 0 0 2] [] (by simp [hr])
  simpa [z25] using this
theorem z25_setAll {r : List Int} (hr : r.length = 24) (i : Nat) (c : C) : setAt (z25 i) 0 (r.map (C.int .i64) ++ [c]) = r.map (C.int .i64) ++ [c] := setAt_all _ _ (by simp [hr])
/-! ### calls -/
theorem back_one {i base : Nat} : back [i] base 0 = i := rfl
theorem mp_ids {b : Blk} (h : b.ids = []) (g : Nat → Nat) : b.mp g = b := Blk.mp_below (by simp [h])
/-- a call with one value that names one block, and values that name none -/
theorem callA_one {F : Fns} {f : Nat} {x x0 : V} {rest : List V} {i : Nat} {H : HF} {b : Blk} {v : V} {ns : Heap} (hb : H i = some b) (hx : x.ids = [i]) (hx0 : x.mp (fun j => if i = j then 0 else 1) = x0) (hre : rest.flatMap V.ids = []) (hbi : b.ids = []) (hF : F f (x0 :: rest) [b] = some (v, b :: ns)) (base : Nat) :
    callA F f (x :: rest) H base = some (v.mp (back [i] base), ns.map (Blk.mp (back [i] base)), [(i, b)]) := by
  have hr : reach H 64 ((x :: rest).flatMap V.ids) [] = [i] := by simp [hx, hre, reach, idsAt, hb, hbi]
  have hp : pos [i] = fun j => if i = j then 0 else 1 := by funext j; simp [pos]
  have hm : (x :: rest).map (V.mp (pos [i])) = x0 :: rest := by
    rw [List.map_cons, hp, hx0, mps_pure hre]
  have h := callA_gen (F := F) (f := f) (args := x :: rest) (H := H) (L := [i]) hr (by simp [closed, hb, idsAt, hbi, inL, hx, hre]) (show sub [i] H = [b] by simp [sub, hb, mp_ids hbi]) hm hF (by simp) base
  rw [h]
  simp [mp_ids hbi]
/-- two values, each with a block of its own -/
theorem callA_two {F : Fns} {f : Nat} {x x0 y y0 : V} {i j : Nat} (hij : i ≠ j) {H : HF} {b c : Blk} {v : V} {ns : Heap} (hb : H i = some b) (hc : H j = some c) (hx : x.ids = [i]) (hy : y.ids = [j]) (hx0 : x.mp (pos [i, j]) = x0) (hy0 : y.mp (pos [i, j]) = y0) (hbi : b.ids = []) (hci : c.ids = []) (hF : F f [x0, y0] [b, c] = some (v, b :: c :: ns)) (base : Nat) :
    callA F f [x, y] H base = some (v.mp (back [i, j] base), ns.map (Blk.mp (back [i, j] base)), [(i, b), (j, c)]) := by
  have hji : ¬ j = i := fun e => hij e.symm
  have hr : reach H 64 ([x, y].flatMap V.ids) [] = [i, j] := by simp [hx, hy, reach, idsAt, hb, hbi, hc, hci, hji]
  have h := callA_gen (F := F) (f := f) (args := [x, y]) (H := H) (L := [i, j]) hr (by simp [closed, hb, idsAt, hbi, hc, hci, inL, hx, hy]) (show sub [i, j] H = [b, c] by simp [sub, hb, hc, mp_ids hbi, mp_ids hci]) (show [x, y].map (V.mp (pos [i, j])) = [x0, y0] by rw [List.map_cons, List.map_cons, hx0, hy0]; rfl) hF (by simp) base
  rw [h]
  simp [mp_ids hbi, mp_ids hci]
@[simp] theorem repV_ids (r : List Int) (i n : Nat) : (repV r i n).ids = [i] := by simp [repV, cids_app]
theorem repV_mp (g : Nat → Nat) (r : List Int) (i n : Nat) : (repV r i n).mp g = repV r (g i) n := by simp [repV, cmp_app]
theorem inst_two : ∀ (n m : Nat), inst (rep n [.k (C.int .i64 0), .k (C.int .i64 0)]) m = (List.replicate (n * 2) (C.int .i64 0), [])
  | 0, m => rfl
  | n + 1, m => by
    have := inst_two n m
    simp only [rep, List.cons_append, List.nil_append, inst, this]
    rw [show (n + 1) * 2 = n * 2 + 1 + 1 by omega]
    rfl
theorem copy_step (l : List (Int × Int)) {k : Nat} (hk : k < l.length) : (((cZ (l.take k) ++ List.replicate ((l.length - k) * 2) (C.int .i64 0)).set (k * 2) (C.int .i64 (l[k]'hk).1)).set (k * 2 + 1) (C.int .i64 (l[k]'hk).2)) = cZ (l.take (k + 1)) ++ List.replicate ((l.length - (k + 1)) * 2) (C.int .i64 0) := by
  have hlen : (cZ (l.take k)).length = k * 2 := by simp; omega
  rw [show (l.length - k) * 2 = (l.length - (k + 1)) * 2 + 1 + 1 by omega, List.replicate_succ, List.replicate_succ, take_snoc hk, cZ_app]
  rw [List.set_append_right _ _ (by omega), hlen, Nat.sub_self, List.set_cons_zero, List.set_append_right _ _ (by omega), hlen, show k * 2 + 1 - k * 2 = 1 by omega, List.set_cons_succ, List.set_cons_zero]
  simp [cZ_cons, cZ_nil]
end Go.Proofs.YthpookdfaikabaaGreatDoor.AM

/- Arguments with pours in a slice: a list of pours, a replay. -/
namespace Go.Proofs.YthpookdfaikabaaGreatDoor.AM
open Go Go.ChangeShapes Go.WideShapes Go.RowKit Go.WideElems Go.Deep
set_option maxRecDepth 1000000
theorem pairs_of : ∀ (len : Nat) (xs : List Int), xs.length = len * 2 → ∃ l : List (Int × Int), l.length = len ∧ flatZ l = xs
  | 0, xs, h => ⟨[], rfl, (List.eq_nil_of_length_eq_zero (by omega)).symm⟩
  | n + 1, [], h => by simp at h
  | n + 1, [_], h => by simp at h; omega
  | n + 1, a :: b :: xs, h => by
    obtain ⟨l, hl, hf⟩ := pairs_of n xs (by simp at h; omega)
    exact ⟨(a, b) :: l, by simp [hl], by rw [← hf]; rfl⟩
/-- the types that a replay is made of: 24 ints, a slice of pairs of ints -/
def repT (P : Program) (t : TypeId) : Option (Field × Field) := match P.underlying t with
  | some (.struct fs) => match fs.toList with
    | [f0, f1] => some (f0, f1)
    | _ => none
  | _ => none
def repOK (P : Program) (t : TypeId) : Bool := match repT P t with
  | none => false
  | some (f0, f1) => (aggT P t == some true) && (P.cellsOf t == 25) && (f1.offset == 24) && (P.cellsOf f1.type == 1) && (match P.cellTypes P.depth t with | some ts => (ts.take 24).all (fun u => intK P u == some .i64) && (ts.length == 25) | none => false) &&
    (match slEl P f1.type with | some e => (match arEl P e with | some (n, it) => (n == 2) && (intK P it == some .i64) && (P.cellsOf e == 2) && (P.cellsOf it == 1) | none => false) | none => false)
theorem open_replay {H : Type} {enc : TypeId × Value → H} {P : Program} {W : World} {base : Nat} {t : TypeId} {v : Value} {d : DataW H} {p : List MemPlace} (hp : repOK P t = true) (hw : Value.okWide P W .any base t v) (hD : DataW.Trod enc P W 0 (fun _ => true) true t v d p) (htab : TabIn W := by exact fun _ _ h => by cases h) :
    ∃ (r : List Int) (l : List (Int × Int)) (u : Value) (φ : Phi), r.length = 24 ∧ l.length ≤ maxLen ∧ v = .agg (r.map (Value.int .i64) ++ [u]).toArray ∧ HeapOK φ (lkp [.cells (cZ l) false]) W ∧ VRc φ (.sl 0 0 l.length 2) u := by
  unfold repOK at hp
  split at hp
  · cases hp
  · rename_i f0 f1 hf
    have hstr : P.underlying t = some (.struct #[f0, f1]) := by
      unfold repT at hf
      split at hf
      · rename_i fs hfs
        split at hf
        · rename_i g0 g1 hg
          injection hf with hf
          injection hf with e0 e1
          subst e0; subst e1
          rw [hfs]
          congr 2
          exact Array.ext' hg
        · cases hf
      · cases hf
    simp only [Bool.and_eq_true, beq_iff_eq] at hp
    obtain ⟨⟨⟨⟨⟨h1, h2⟩, h3⟩, h4⟩, h5⟩, h6⟩ := hp
    have hagg : ∃ cs, v = .agg cs ∧ cs.size = P.cellsOf t ∧ Row.okWide P W .any base t cs := by
      unfold Value.okWide at hw
      rw [hstr] at hw
      exact hw
    obtain ⟨cs, rfl, hsz, ts, hts, _, hcell⟩ := hagg
    rw [hts] at h5
    simp only [Bool.and_eq_true, beq_iff_eq] at h5
    obtain ⟨h5, h5l⟩ := h5
    rw [h2] at hsz
    have hall : ∀ (i : Nat), i < 24 → ∃ x : Int, cs[i]? = some (Value.int .i64 x) := by
      intro i hi
      obtain ⟨u, hu, hok⟩ := hcell i (cs[i]'(by omega)) (Array.getElem?_eq_getElem _)
      have hu' : (ts.take 24)[i]? = some u := by rw [h5l, Nat.mod_eq_of_lt (by omega)] at hu; rw [List.getElem?_take, if_pos hi]; exact hu
      have := List.all_eq_true.1 h5 u (List.mem_of_getElem? hu')
      have hk : P.underlying u = some (.int .i64) := intK_ok (by simpa using this)
      simp only [Cell.okWide, hk, Cell.ok] at hok
      rw [Array.getElem?_eq_getElem (by omega)]
      cases hv : cs[i]'(by omega) with
      | int k x =>
        rw [hv] at hok
        obtain ⟨rfl, hx⟩ := hok
        exact ⟨x, rfl⟩
      | _ => rw [hv] at hok; exact hok.elim
    have hall' : ∀ i : Nat, ∃ x : Int, i < 24 → cs[i]? = some (Value.int .i64 x) := fun i => by
      by_cases hi : i < 24
      · obtain ⟨x, hx⟩ := hall i hi; exact ⟨x, fun _ => hx⟩
      · exact ⟨0, fun h => absurd h hi⟩
    obtain ⟨g, hg⟩ := Classical.axiomOfChoice hall'
    have hcs : cs.toList = ((List.range 24).map g).map (Value.int .i64) ++ [cs[24]'(by omega)] := by
      apply List.ext_getElem?
      intro i
      by_cases hi : i < 24
      · rw [List.getElem?_append_left (by simpa using hi)]
        have := hg i hi
        simp [hi] at this ⊢
        exact this
      · by_cases hi2 : i = 24
        · subst hi2
          rw [List.getElem?_append_right (by simp)]
          simp
        · rw [List.getElem?_eq_none (by simp; omega), List.getElem?_eq_none (by simp; omega)]
    obtain ⟨fuel, hDD⟩ := hD
    have hDD : DataW.trod enc P W 0 (fun _ => true) true fuel t cs.toList = some (d, p) := hDD
    obtain ⟨y0, y1, n, _, _, _, hy1⟩ := trod_struct2 hstr hDD
    rw [h3, h4, hcs, List.drop_append_of_le_length (by simp), List.drop_of_length_le (by simp)] at hy1
    split at h6
    · rename_i e he
      split at h6
      · rename_i m it hm
        simp only [Bool.and_eq_true, beq_iff_eq] at h6
        obtain ⟨⟨⟨rfl, h7⟩, h8⟩, h9⟩ := h6
        obtain ⟨u, xs, len, φ, hu, hxs, hlen, _, hheap, hvr⟩ := open_intRows (slEl_ok he) (arEl_ok hm) (intK_ok h7) h8 h9 (by decide) hy1 htab
        obtain ⟨l, hl, hfl⟩ := pairs_of len xs hxs
        refine ⟨(List.range 24).map g, l, u, φ, by simp, by omega, ?_, by unfold cZ; rw [hfl]; exact hheap, by rw [hl]; exact hvr⟩
        congr 1
        apply Array.ext'
        rw [hcs]
        simp at hu
        rw [hu]
      · cases h6
    · cases h6
theorem VR_rep {φ : Phi} {r : List Int} {n : Nat} {u : Value} (h : VRc φ (.sl 0 0 n 2) u) : VR φ (repV r 0 n) (.agg (r.map (Value.int .i64) ++ [u]).toArray) := ⟨_, rfl, (ints_ok φ r).append ⟨h, trivial⟩⟩
/-- a slice of pairs of ints -/
def pairsOK (P : Program) (t : TypeId) : Bool := match slEl P t with
  | some e => (match arEl P e with | some (n, it) => (n == 2) && (intK P it == some .i64) && (P.cellsOf e == 2) && (P.cellsOf it == 1) | none => false)
  | none => false
theorem open_pairs {H : Type} {enc : TypeId × Value → H} {P : Program} {W : World} {base : Nat} {t : TypeId} {v : Value} {d : DataW H} {p : List MemPlace} (hp : pairsOK P t = true) (hw : Value.okWide P W .any base t v) (hD : DataW.Trod enc P W 0 (fun _ => true) true t v d p) (htab : TabIn W := by exact fun _ _ h => by cases h) :
    ∃ (l : List (Int × Int)) (φ : Phi), l.length ≤ maxLen ∧ HeapOK φ (lkp [.cells (cZ l) false]) W ∧ VRc φ (.sl 0 0 l.length 2) v := by
  unfold pairsOK at hp
  split at hp
  · rename_i e he
    split at hp
    · rename_i m it hm
      simp only [Bool.and_eq_true, beq_iff_eq] at hp
      obtain ⟨⟨⟨rfl, h7⟩, h8⟩, h9⟩ := hp
      have hk := slEl_ok he
      obtain ⟨fuel, hDD⟩ := hD
      obtain ⟨u, xs, len, φ, hu, hxs, hlen, _, hheap, hvr⟩ := open_intRows hk (arEl_ok hm) (intK_ok h7) h8 h9 (by decide) hDD htab
      have hvu : v = u := by
        have hw : Cell.okWide P W .any base t v := by
          unfold Value.okWide at hw
          rw [hk] at hw
          exact hw
        cases v with
        | agg cs => simp [Cell.okWide, hk, Cell.ok] at hw
        | _ => first | (simp [Value.cells] at hu; exact hu) | (simp [Cell.okWide, hk, Cell.ok] at hw)
      subst hvu
      obtain ⟨l, hl, hfl⟩ := pairs_of len xs hxs
      exact ⟨l, φ, by omega, by unfold cZ; rw [hfl]; exact hheap, by rw [hl]; exact hvr⟩
    · cases hp
  · cases hp
end Go.Proofs.YthpookdfaikabaaGreatDoor.AM

/- Contracts: the racks of a replay. -/
namespace Go.Proofs.YthpookdfaikabaaGreatDoor.AM
open Go
set_option maxRecDepth 1000000
set_option linter.unusedSimpArgs false
set_option linter.unusedVariables false
def placeB (a : Int) : Bool := decide (0 ≤ a) && decide (a ≤ 5)
def canZ (r : List Int) (p : Int × Int) : Bool := placeB p.1 && placeB p.2 && canP r p.1.toNat p.2.toNat
def pourZ (r : List Int) (p : Int × Int) : List Int := pourR r p.1.toNat p.2.toNat
def rackF (r : List Int) (l : List (Int × Int)) : List Int := l.foldl pourZ r
def outI (r : List Int) (l : List (Int × Int)) (k : Nat) : List Int := (List.range (k + 1)).flatMap fun j => rackF r (l.take j)
def canAt (r : List Int) (l : List (Int × Int)) (k : Nat) : Bool := canZ (rackF r (l.take k)) (l.getD k (0, 0))
def allCan (r : List Int) (l : List (Int × Int)) : Bool := (List.range l.length).all (canAt r l)
/-- a valid replay -/
def repB (r : List Int) (l : List (Int × Int)) : Bool := okRack r && decide (l.length ≤ 60) && allCan r l
theorem pourZ_len {r : List Int} (hr : r.length = 24) (p : Int × Int) : (pourZ r p).length = 24 := pourR_len hr _ _
theorem rackF_len {r : List Int} (hr : r.length = 24) : ∀ (l : List (Int × Int)), (rackF r l).length = 24 := by
  intro l
  induction l generalizing r with
  | nil => exact hr
  | cons p l ih => exact ih (pourZ_len hr p)
theorem rackF_succ (r : List Int) {l : List (Int × Int)} {k : Nat} (hk : k < l.length) : rackF r (l.take (k + 1)) = pourZ (rackF r (l.take k)) (l[k]'hk) := by
  unfold rackF
  rw [take_snoc hk, List.foldl_append]
  rfl
theorem outI_zero (r : List Int) (l : List (Int × Int)) : outI r l 0 = r := by simp [outI, rackF]
theorem outI_succ (r : List Int) (l : List (Int × Int)) (k : Nat) : outI r l (k + 1) = outI r l k ++ rackF r (l.take (k + 1)) := by
  unfold outI
  rw [List.range_succ (n := k + 1), List.flatMap_append]
  simp
theorem outI_len {r : List Int} (hr : r.length = 24) (l : List (Int × Int)) : ∀ k, (outI r l k).length = (k + 1) * 24
  | 0 => by rw [outI_zero, hr]
  | k + 1 => by rw [outI_succ, List.length_append, outI_len hr l k, rackF_len hr]; omega
theorem outI_get {r : List Int} (hr : r.length = 24) (l : List (Int × Int)) : ∀ (k : Nat) {j : Nat}, j ≤ k → ((outI r l k).drop (j * 24)).take 24 = rackF r (l.take j)
  | 0, j, hj => by
    have : j = 0 := by omega
    subst this
    rw [outI_zero]
    simp [rackF, List.take_of_length_le (show r.length ≤ 24 by omega)]
  | k + 1, j, hj => by
    have hl := outI_len hr l k
    rw [outI_succ]
    by_cases h : j = k + 1
    · subst h
      rw [List.drop_append, hl, List.drop_of_length_le (by omega), Nat.sub_self]
      simp [List.take_of_length_le (show (rackF r (l.take (k + 1))).length ≤ 24 by rw [rackF_len hr]; omega)]
    · have hj' : j ≤ k := by omega
      rw [List.drop_append_of_le_length (by omega), List.take_append_of_le_length (by simp; omega)]
      exact outI_get hr l k hj'
theorem outC_get {r : List Int} (hr : r.length = 24) (l : List (Int × Int)) (k : Nat) {j : Nat} (hj : j ≤ k) : (((outI r l k).map (C.int .i64)).drop (j * 24)).take 24 = (rackF r (l.take j)).map (C.int .i64) := by
  rw [← outI_get hr l k hj, List.map_take, List.map_drop]
theorem canAt_eq (r : List Int) {l : List (Int × Int)} {k : Nat} (hk : k < l.length) : canAt r l k = canZ (rackF r (l.take k)) (l[k]'hk) := by
  unfold canAt
  rw [List.getD_eq_getElem?_getD, List.getElem?_eq_getElem hk]
  rfl
theorem canZ_facts {r : List Int} {p : Int × Int} (h : canZ r p = true) : ∃ i j : Nat, p.1 = (i : Int) ∧ p.2 = (j : Int) ∧ i < 6 ∧ j < 6 ∧ canP r i j = true ∧ p.1.toNat = i ∧ p.2.toNat = j := by
  simp only [canZ, placeB, Bool.and_eq_true, decide_eq_true_eq] at h
  exact ⟨p.1.toNat, p.2.toNat, by omega, by omega, by omega, by omega, h.2, rfl, rfl⟩
theorem rackF_ok {r : List Int} (h : RackOK r) (l : List (Int × Int)) : ∀ k, k ≤ l.length → (∀ j, j < k → canAt r l j = true) → RackOK (rackF r (l.take k))
  | 0, _, _ => by simpa [rackF] using h
  | k + 1, hk, hc => by
    have ih := rackF_ok h l k (by omega) fun j hj => hc j (by omega)
    have hck := hc k (by omega)
    rw [canAt_eq r (by omega)] at hck
    obtain ⟨i, j, _, _, hi, hj, hcan, e1, e2⟩ := canZ_facts hck
    rw [rackF_succ r (by omega)]
    unfold pourZ
    rw [e1, e2]
    exact ih.pour hi hj (canP_ne hcan)
theorem c_impl_isPlace (a : Int) : fnI pr np 71 [.c (.int .i64 a)] [] = some (.c (.bool (placeB a)), []) := by
  have hc := callA_pure (c_impl_within a 0 5) (by simp) (by simp)
  rw [fb (fn := a71) rfl rfl rfl]
  simp [a71, hc, placeB]
theorem c_spec_l2Place (a : Int) : fnI pr np 63 [.c (.int .i64 a)] [] = some (.c (.bool (placeB a)), []) := by
  have hc := callA_pure (c_spec_l1In a 0 5) (by simp) (by simp)
  rw [fb (fn := a63) rfl rfl rfl]
  simp [a63, hc, placeB]
theorem place_nat {a : Int} (h : placeB a = true) : ∃ i : Nat, a = (i : Int) ∧ i < 6 ∧ a.toNat = i := by
  simp only [placeB, Bool.and_eq_true, decide_eq_true_eq] at h
  exact ⟨a.toNat, by omega, by omega, rfl⟩
theorem c_impl_canPourPath (r : List Int) (h : RackOK r) (p : Int × Int) : fnI pr np 61 [.agg (r.map (C.int .i64)), .agg [.int .i64 p.1, .int .i64 p.2]] [] = some (.c (.bool (canZ r p)), []) := by
  have hr := h.len
  have h24 := take24 hr
  have h1 := callA_pure (c_impl_isPlace p.1) (by simp) (by simp)
  have h2 := callA_pure (c_impl_isPlace p.2) (by simp) (by simp)
  rw [fb (fn := a61) rfl rfl rfl]
  unfold canZ
  cases q1 : placeB p.1 with
  | false => rw [q1] at h1; simp [a61, hr, h24, h1]
  | true =>
    rw [q1] at h1
    cases q2 : placeB p.2 with
    | false => rw [q2] at h2; simp [a61, hr, h24, h1, h2]
    | true =>
      rw [q2] at h2
      obtain ⟨i, ei, hi, ti⟩ := place_nat q1
      obtain ⟨j, ej, hj, tj⟩ := place_nat q2
      have hc := callA_pure (c_impl_canPour r h hi hj) (by simp) (by simp)
      rw [ei] at h1; rw [ej] at h2
      simp [a61, hr, h24, h1, h2, ei, ej, hc]
theorem c_spec_l6Can (r : List Int) (h : RackOK r) (p : Int × Int) : fnI pr np 36 [.agg (r.map (C.int .i64)), .agg [.int .i64 p.1, .int .i64 p.2]] [] = some (.c (.bool (canZ r p)), []) := by
  have hr := h.len
  have h24 := take24 hr
  have h1 := callA_pure (c_spec_l2Place p.1) (by simp) (by simp)
  have h2 := callA_pure (c_spec_l2Place p.2) (by simp) (by simp)
  rw [fb (fn := a36) rfl rfl rfl]
  unfold canZ
  cases q1 : placeB p.1 with
  | false => rw [q1] at h1; simp [a36, hr, h24, h1]
  | true =>
    rw [q1] at h1
    cases q2 : placeB p.2 with
    | false => rw [q2] at h2; simp [a36, hr, h24, h1, h2]
    | true =>
      rw [q2] at h2
      obtain ⟨i, ei, hi, ti⟩ := place_nat q1
      obtain ⟨j, ej, hj, tj⟩ := place_nat q2
      have hc := callA_pure (c_spec_l2Can r h hi hj) (by simp) (by simp)
      rw [ei] at h1; rw [ej] at h2
      simp [a36, hr, h24, h1, h2, ei, ej, hc]
/-- the answer of racks: the racks behind each pour, or none -/
def racksV (r : List Int) (l : List (Int × Int)) (o : Bool) : V × Heap :=
  if repB r l = true then (.tup [.c (.sl 1 0 (l.length + 1) 24), .c (.bool true)], [.cells (cZ l) o, .cells ((outI r l l.length).map (C.int .i64)) true])
  else (.tup [.c (.sl 1 0 0 24), .c (.bool false)], [.cells (cZ l) o, .cells [] true])
theorem gt60 {n : Nat} (h : n ≤ 60) : ¬ (60 : Int) < (n : Int) := by omega
set_option maxHeartbeats 4000000 in
theorem c_impl_racks (r : List Int) (hr : r.length = 24) (l : List (Int × Int)) (o : Bool) : fnI pr np 30 [repV r 0 l.length] [.cells (cZ l) o] = some (racksV r l o) := by
  have h1 := callA_pure (c_rack_impl r hr) (by simp) (by simp)
  have t1 := repC_take hr (C.sl 0 0 l.length 2)
  have t2 := repC_drop hr (C.sl 0 0 l.length 2)
  rw [fb (fn := a30) rfl rfl rfl]
  unfold racksV repB repV
  cases hq : okRack r with
  | false => rw [hq] at h1; simp [a30, hr, t1, t2, h1, sub]
  | true =>
    rw [hq] at h1
    by_cases hl : l.length ≤ 60
    · have hl' := gt60 hl
      have h := rackOK hr hq
      have h24 := take24 hr
      obtain ⟨K, hK1, hK2, hK3⟩ := first_exit (fun k => !canAt r l k) l.length
      have hgood : ∀ j, j < K → canAt r l j = true := fun j hj => by simpa using hK3 j hj
      simp [a30, hr, t1, t2, h1, hl, hl', h24, setAt_all]
      rw [loop_to (fun k => ([(4, V.c (C.sl 1 0 (k + 1) 24)), (23, V.c (C.sl 0 0 l.length 2)), (24, V.c (C.int .i64 l.length)), (25, V.c (C.int .i64 k))], [Blk.cells (cZ l) o, Blk.cells ((outI r l k).map (C.int .i64)) true])) K]
      · by_cases hk : K < l.length
        · have hbad : canAt r l K = false := by
            rcases hK2 with e | e
            · omega
            · simpa using e
          have hall : allCan r l = false := by
            unfold allCan
            rw [List.all_eq_false]
            exact ⟨K, List.mem_range.2 hk, by simp [hbad]⟩
          have hro := rackF_ok h l K (by omega) hgood
          rw [canAt_eq r hk] at hbad
          have hc := callA_pure (c_impl_canPourPath _ hro (l[K]'hk)) (by simp) (by simp)
          rw [hbad] at hc
          have g := cZ_get l hk
          have g2 := outC_get hr l K (Nat.le_refl K)
          have hol := outI_len hr l K
          have b1 : K * 2 + 2 ≤ l.length * 2 := by omega
          have b2 : K * 24 + 24 ≤ (K + 1) * 24 := by omega
          have b3 : (K : Int) < (K : Int) + 1 := by omega
          simp [hk, hall, g, g2, hol, b1, b2, b3, hc, sub]
        · have hKe : K = l.length := by omega
          subst hKe
          have hall : allCan r l = true := by
            unfold allCan
            rw [List.all_eq_true]
            exact fun j hj => hgood j (by simpa using hj)
          simp [hall, sub]
      · simp [outI_zero, sub]
      · intro k hk
        have hkl : k < l.length := by omega
        have hro := rackF_ok h l k (by omega) fun j hj => hgood j (by omega)
        have hgk := hgood k hk
        rw [canAt_eq r hkl] at hgk
        have hc := callA_pure (c_impl_canPourPath _ hro (l[k]'hkl)) (by simp) (by simp)
        rw [hgk] at hc
        obtain ⟨i, j, ei, ej, hi, hj, hcan, ti, tj⟩ := canZ_facts hgk
        have hp := callA_pure (c_impl_pour _ hro hi hj) (by simp) (by simp)
        have hst : rackF r (l.take (k + 1)) = pourR (rackF r (l.take k)) i j := by rw [rackF_succ r hkl]; unfold pourZ; rw [ti, tj]
        have hos := outI_succ r l k
        rw [hst] at hos
        have g := cZ_get l hkl
        have g2 := outC_get hr l k (Nat.le_refl k)
        have hol := outI_len hr l k
        have b1 : k * 2 + 2 ≤ l.length * 2 := by omega
        have b2 : k * 24 + 24 ≤ (k + 1) * 24 := by omega
        have b3 : (k : Int) < (k : Int) + 1 := by omega
        have wk := wrapS (k := k) (by omega)
        have hpl := pourR_len (rackF_len hr (l.take k)) i j
        have hp24 := take24 hpl
        have htk : ((outI r l k).map (C.int .i64)).take ((k + 1) * 24) = (outI r l k).map (C.int .i64) := List.take_of_length_le (by simp [hol])
        have hroom : k + 1 + 1 ≤ 68719476736 := by omega
        rw [ei, ej] at g hc
        simp [hkl, g, g2, hol, b1, b2, b3, hc, hp, wk, hpl, hp24, htk, hroom, setAt_all, setAt, hos, sub]
    · have hl' : (60 : Int) < (l.length : Int) := by omega
      simp [a30, hr, t1, t2, h1, hl, hl', sub]
set_option maxHeartbeats 4000000 in
theorem c_spec_l11Racks (r : List Int) (hr : r.length = 24) (l : List (Int × Int)) (o : Bool) : fnI pr np 32 [repV r 0 l.length] [.cells (cZ l) o] = some (racksV r l o) := by
  have h1 := callA_pure (c_rack_spec r hr) (by simp) (by simp)
  have t1 := repC_take hr (C.sl 0 0 l.length 2)
  have t2 := repC_drop hr (C.sl 0 0 l.length 2)
  rw [fb (fn := a32) rfl rfl rfl]
  unfold racksV repB repV
  cases hq : okRack r with
  | false => rw [hq] at h1; simp [a32, hr, t1, t2, h1, sub]
  | true =>
    rw [hq] at h1
    by_cases hl : l.length ≤ 60
    · have hl' := gt60 hl
      have h := rackOK hr hq
      have h24 := take24 hr
      obtain ⟨K, hK1, hK2, hK3⟩ := first_exit (fun k => !canAt r l k) l.length
      have hgood : ∀ j, j < K → canAt r l j = true := fun j hj => by simpa using hK3 j hj
      simp [a32, hr, t1, t2, h1, hl, hl', h24, setAt_all]
      rw [loop_to (fun k => ([(1, V.c (C.ptr 1 0)), (4, V.c (C.sl 2 0 (k + 1) 24)), (5, V.c (C.int .i64 k))], [Blk.cells (cZ l) o, Blk.cells (r.map (C.int .i64) ++ [C.sl 0 0 l.length 2]) true, Blk.cells ((outI r l k).map (C.int .i64)) true])) K]
      · by_cases hk : K < l.length
        · have hbad : canAt r l K = false := by
            rcases hK2 with e | e
            · omega
            · simpa using e
          have hall : allCan r l = false := by
            unfold allCan
            rw [List.all_eq_false]
            exact ⟨K, List.mem_range.2 hk, by simp [hbad]⟩
          have hro := rackF_ok h l K (by omega) hgood
          rw [canAt_eq r hk] at hbad
          have hc := callA_pure (c_spec_l6Can _ hro (l[K]'hk)) (by simp) (by simp)
          rw [hbad] at hc
          have g := cZ_get l hk
          have g2 := outC_get hr l K (Nat.le_refl K)
          have hol := outI_len hr l K
          have b1 : K * 2 + 2 ≤ l.length * 2 := by omega
          have b2 : K * 24 + 24 ≤ (K + 1) * 24 := by omega
          have b3 : (K : Int) < (K : Int) + 1 := by omega
          simp [hk, hall, hr, t2, g, g2, hol, b1, b2, b3, hc, sub]
        · have hKe : K = l.length := by omega
          subst hKe
          have hall : allCan r l = true := by
            unfold allCan
            rw [List.all_eq_true]
            exact fun j hj => hgood j (by simpa using hj)
          simp [hall, hr, t2, sub]
      · simp [outI_zero, cids_app, cmp_app, sub]
      · intro k hk
        have hkl : k < l.length := by omega
        have hro := rackF_ok h l k (by omega) fun j hj => hgood j (by omega)
        have hgk := hgood k hk
        rw [canAt_eq r hkl] at hgk
        have hc := callA_pure (c_spec_l6Can _ hro (l[k]'hkl)) (by simp) (by simp)
        rw [hgk] at hc
        obtain ⟨i, j, ei, ej, hi, hj, hcan, ti, tj⟩ := canZ_facts hgk
        have hp := callA_pure (c_spec_l2Pour _ hro hi hj) (by simp) (by simp)
        have hst : rackF r (l.take (k + 1)) = pourR (rackF r (l.take k)) i j := by rw [rackF_succ r hkl]; unfold pourZ; rw [ti, tj]
        have hos := outI_succ r l k
        rw [hst] at hos
        have g := cZ_get l hkl
        obtain ⟨g3, g4⟩ := cZ_get1 l hkl
        have g2 := outC_get hr l k (Nat.le_refl k)
        have hol := outI_len hr l k
        have b1 : k * 2 + 2 ≤ l.length * 2 := by omega
        have b1' : k * 2 + 1 ≤ l.length * 2 := by omega
        have b2 : k * 24 + 24 ≤ (k + 1) * 24 := by omega
        have b3 : (k : Int) < (k : Int) + 1 := by omega
        have wk := wrapS (k := k) (by omega)
        have hpl := pourR_len (rackF_len hr (l.take k)) i j
        have hp24 := take24 hpl
        have htk : ((outI r l k).map (C.int .i64)).take ((k + 1) * 24) = (outI r l k).map (C.int .i64) := List.take_of_length_le (by simp [hol])
        have hroom : k + 1 + 1 ≤ 68719476736 := by omega
        rw [ei, ej] at g hc
        rw [ei] at g3
        rw [ej] at g4
        simp [hkl, hr, t2, g, g2, g3, g4, hol, b1, b1', b2, b3, hc, hp, wk, hpl, hp24, htk, hroom, setAt_all, setAt, hos, cids_app, cmp_app, sub]
    · have hl' : (60 : Int) < (l.length : Int) := by omega
      simp [a32, hr, t1, t2, h1, hl, hl', sub]
end Go.Proofs.YthpookdfaikabaaGreatDoor.AM

/- Arrays of ints are compared; a pour moves at most four layers. -/
namespace Go.Proofs.YthpookdfaikabaaGreatDoor.AM
open Go
set_option maxRecDepth 1000000
set_option linter.unusedSimpArgs false
set_option linter.unusedVariables false
theorem conf_ints : ∀ (n : Nat) (x : List Int), x.length = n → conf (List.replicate n (.int .i64)) (x.map (C.int .i64)) = true
  | 0, [], _ => rfl
  | n + 1, a :: x, h => by
    have := conf_ints n x (by simpa using h)
    simp only [List.replicate_succ, List.map_cons, conf, conf1, this]
    rfl
  | 0, _ :: _, h => by simp at h
  | _ + 1, [], h => by simp at h
theorem conf24 (x : List Int) (h : x.length = 24) : conf [CK.int .i64, CK.int .i64, CK.int .i64, CK.int .i64, CK.int .i64, CK.int .i64, CK.int .i64, CK.int .i64, CK.int .i64, CK.int .i64, CK.int .i64, CK.int .i64, CK.int .i64, CK.int .i64, CK.int .i64, CK.int .i64, CK.int .i64, CK.int .i64, CK.int .i64, CK.int .i64, CK.int .i64, CK.int .i64, CK.int .i64, CK.int .i64] (x.map (C.int .i64)) = true := conf_ints 24 x h
theorem ints_inj (x y : List Int) : (x.map (C.int .i64) = y.map (C.int .i64)) = (x = y) := by
  apply propext
  constructor
  · intro h
    induction x generalizing y with
    | nil => cases y with
      | nil => rfl
      | cons b y => simp at h
    | cons a x ih => cases y with
      | nil => simp at h
      | cons b y =>
        simp only [List.map_cons, List.cons.injEq, C.int.injEq, true_and] at h
        rw [h.1, ih y h.2]
  · intro h; rw [h]
theorem pourN_le4 (r : List Int) (i j : Nat) : pourN r i j ≤ 4 := by unfold pourN; omega
end Go.Proofs.YthpookdfaikabaaGreatDoor.AM

