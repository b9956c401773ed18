import Derived.Test.YtahfeigilhjgpaaDoorAmCode
import Derived.Test.YtahfeigilhjgpaaDoorAmD
/- Contracts: records of logs (a seat with strings: np knows the library on texts). -/
namespace Go.Proofs.YtahfeigilhjgpaaDoor.AM
open Go
set_option maxRecDepth 1000000
set_option linter.unusedSimpArgs false
set_option linter.unusedVariables false
theorem fb {f : Nat} {fn : AFn} (hq : np f = none) (hp : pr f = some fn) {a : List V} (hl : a.length = fn.np) (h : Heap) : fnI pr np f a h = leaveK h.length fn.res (exI pr np h.length fn.body (enter a 0) h) := fnI_body' pr np hq hp hl h
theorem first_exit (p : Nat → Bool) : ∀ n, ∃ k, k ≤ n ∧ (k = n ∨ p k = true) ∧ ∀ j, j < k → p j = false
  | 0 => ⟨0, Nat.le_refl _, .inl rfl, fun j hj => absurd hj (by omega)⟩
  | n + 1 => by
    obtain ⟨k, hk, h1, h2⟩ := first_exit p n
    rcases h1 with h1 | h1
    · subst h1
      by_cases hp : p k = true
      · exact ⟨k, by omega, .inr hp, h2⟩
      · refine ⟨k + 1, by omega, .inl rfl, fun j hj => ?_⟩
        by_cases hjk : j = k
        · subst hjk; simpa using hp
        · exact h2 j (by omega)
    · exact ⟨k, by omega, .inr h1, h2⟩
/-- one turn of a loop: behind the body, what lives at the next head -/
noncomputable def turnK (m : Nat) (live : List Nat) : R → Option (Env × Heap)
  | some (.norm, e, h) => gcE m live e h
  | _ => none
@[simp] theorem turnK_norm (m : Nat) (live : List Nat) (e : Env) (h : Heap) : turnK m live (some (.norm, e, h)) = gcE m live e h := rfl
@[simp] theorem turnK_ite (m : Nat) (live : List Nat) (c : Prop) [Decidable c] (x y : R) : turnK m live (if c then x else y) = if c then turnK m live x else turnK m live y := by split <;> rfl
theorem loop_from {P : Prog} {Q : Prim} {m : Nat} {a : ACode} {live : List Nat} (S : Nat → Env × Heap) : ∀ (n i : Nat), (∀ k, i ≤ k → k < i + n → turnK m live (exI P Q m a (S k).1 (S k).2) = some (S (k + 1))) → loopG P Q m a live (some (S i)) = loopK P Q m a live (exI P Q m a (S (i + n)).1 (S (i + n)).2)
  | 0, i, _ => rfl
  | n + 1, i, h => by
    have h0 := h i (Nat.le_refl _) (by omega)
    have ih := loop_from (P := P) (Q := Q) S n (i + 1) fun k h1 h2 => h k (by omega) (by omega)
    rw [show i + (n + 1) = i + 1 + n by omega, ← ih]
    show loopK P Q m a live (exI P Q m a (S i).1 (S i).2) = _
    unfold turnK at h0
    split at h0
    · rename_i e hh he
      rw [he]
      show exI P Q m (.loop a live) e hh = _
      rw [exI_loop', h0]
    · cases h0
/-- a loop comes to the state S n -/
theorem loop_to {P : Prog} {Q : Prim} {m : Nat} {a : ACode} {live : List Nat} {e : Env} {h : Heap} (S : Nat → Env × Heap) (n : Nat) (h0 : gcE m live e h = some (S 0)) (hs : ∀ k, k < n → turnK m live (exI P Q m a (S k).1 (S k).2) = some (S (k + 1))) : exI P Q m (.loop a live) e h = loopK P Q m a live (exI P Q m a (S n).1 (S n).2) := by
  rw [exI_loop', h0, loop_from S n 0 fun k _ hk => hs k (by omega)]
  rw [Nat.zero_add]
theorem loop_to' {P : Prog} {Q : Prim} {m : Nat} {a : ACode} {live : List Nat} {e : Env} {h : Heap} (S : Nat → Env × Heap) (i n : Nat) (h0 : gcE m live e h = some (S i)) (hs : ∀ k, i ≤ k → k < i + n → turnK m live (exI P Q m a (S k).1 (S k).2) = some (S (k + 1))) : exI P Q m (.loop a live) e h = loopK P Q m a live (exI P Q m a (S (i + n)).1 (S (i + n)).2) := by
  rw [exI_loop', h0, loop_from S n i hs]
/-- the next number -/
theorem wrapS {k : Nat} (h : k < 1000000000) : IntKind.i64.wrap ((k : Int) + 1) = ((k + 1 : Nat) : Int) := by rw [wrapI (by omega) (by omega)]; rfl
attribute [simp] gcE gcL upto reach idsAt closed inL sub envIds pos stillA HOp.ev appSrc maxRoom cut back
/-! ### bytes -/
theorem bytesC_len (s : List UInt8) : (bytesC s).length = s.length := by simp [bytesC]
theorem bytesC_eq (s : List UInt8) : bytesC s = (s.map fun b => ((b.toNat : Nat) : Int)).map (C.int .u8) := by simp [bytesC]
theorem bytesC_ids (s : List UInt8) : cids (bytesC s) = [] := by rw [bytesC_eq]; exact cids_ints _ _
theorem bytesC_cmp (g : Nat → Nat) (s : List UInt8) : cmp g (bytesC s) = bytesC s := by rw [bytesC_eq]; exact cmp_ints _ _ _
theorem bytesC_dead (s : List UInt8) : noDead (bytesC s) = true := by rw [bytesC_eq]; exact noDead_ints _ _
attribute [simp] bytesC_len bytesC_ids bytesC_cmp bytesC_dead
theorem bytesC_get {s : List UInt8} {k : Nat} (hk : k < s.length) : ((bytesC s).drop k).take 1 = [C.int .u8 (s.getD k 0).toNat] := by
  unfold bytesC
  rw [List.drop_eq_getElem_cons (by simpa using hk)]
  simp [List.getD_eq_getElem?_getD, List.getElem?_eq_getElem hk]
theorem all_of {s : List UInt8} {p : UInt8 → Bool} {K : Nat} (hK : K = s.length) (h : ∀ j, j < K → p (s.getD j 0) = true) : s.all p = true := by
  rw [List.all_eq_true]
  intro x hx
  obtain ⟨j, hj, rfl⟩ := List.getElem_of_mem hx
  have := h j (by omega)
  rwa [List.getD_eq_getElem?_getD, List.getElem?_eq_getElem hj] at this
theorem all_ne {s : List UInt8} {p : UInt8 → Bool} {K : Nat} (hK : K < s.length) (h : p (s.getD K 0) = false) : s.all p = false := by
  rw [List.all_eq_false]
  refine ⟨s[K], List.getElem_mem _, ?_⟩
  rw [List.getD_eq_getElem?_getD, List.getElem?_eq_getElem hK] at h
  simpa using h
/-! ### the library -/
theorem c_contains (s : List UInt8) (c : UInt8) : fnI pr np 89 [.c (.str s), .c (.str [c])] [] = some (.c (.bool (decide (0 ≤ Lib.indexByte s c))), []) := (fnI_iff pr np).2 ⟨1, rfl⟩
theorem idx_mem (c : UInt8) : ∀ s : List UInt8, decide (0 ≤ Lib.indexByte s c) = s.any fun b => b == c
  | [] => by simp [Lib.indexByte]
  | b :: s => by
    have ih := idx_mem c s
    have hge := Lib.indexByte_ge s c
    rw [List.any_cons, ← ih, show Lib.indexByte (b :: s) c = (if (b == c) = true then 0 else if (Lib.indexByte s c == -1) = true then -1 else Lib.indexByte s c + 1) from rfl]
    cases hb : b == c with
    | true => simp
    | false =>
      by_cases h1 : Lib.indexByte s c = -1
      · simp [h1]
      · have h2 : 0 ≤ Lib.indexByte s c := by omega
        have h3 : (0 : Int) ≤ Lib.indexByte s c + 1 := by omega
        simp [h1, h2, h3]
theorem c_impl_within (a b c : Int) : fnI pr np 59 [.c (.int .i64 a), .c (.int .i64 b), .c (.int .i64 c)] [] = some (.c (.bool (decide (b ≤ a) && decide (a ≤ c))), []) := by
  rw [fb (fn := a59) rfl rfl rfl]
  by_cases h1 : b ≤ a <;> simp [a59, h1]
theorem c_spec_l1In (a b c : Int) : fnI pr np 43 [.c (.int .i64 a), .c (.int .i64 b), .c (.int .i64 c)] [] = some (.c (.bool (decide (b ≤ a) && decide (a ≤ c))), []) := by
  rw [fb (fn := a43) rfl rfl rfl]
  by_cases h1 : b ≤ a <;> simp [a43, h1]
def IsP (g : Nat) (p : UInt8 → Bool) : Prop := ∀ x : UInt8, fnI pr np g [.c (.int .u8 x.toNat)] [] = some (.c (.bool (p x)), [])
theorem c_areAll_1 {g : Nat} {p : UInt8 → Bool} (hg : IsP g p) (x : UInt8) : fnI pr np 117 [.c (.int .u8 x.toNat), .c (.ptr 0 0)] [.cells [.fn g []] true] = some (.c (.bool (!p x)), [.cells [.fn g []] true]) := by
  have h := callA_pure (hg x) (by simp) (by simp)
  rw [fb (fn := a117) rfl rfl rfl]
  simp [a117, h]
theorem c_indexFunc {g : Nat} {p : UInt8 → Bool} (hg : IsP g p) (s : List UInt8) (hn : s.length < 1000000000) (o : Bool) : ∃ i : Int, decide (0 ≤ i) = (!s.all p) ∧
    fnI pr np 147 [.c (.sl 0 0 s.length 1), .c (.fn 117 [(1, 0)])] [.cells (bytesC s) o, .cells [.fn g []] true] = some (.c (.int .i64 i), [.cells (bytesC s) o, .cells [.fn g []] true]) := by
  obtain ⟨K, hK1, hK2, hK3⟩ := first_exit (fun k => !p (s.getD k 0)) s.length
  have hgood : ∀ j, j < K → p (s.getD j 0) = true := fun j hj => by simpa using hK3 j hj
  have hcall := fun (x : UInt8) (base : Nat) => callA_at (F := fnI pr np) (f := 117) (x := .c (.int .u8 x.toNat)) (i := 1) (H := lkp [Blk.cells (bytesC s) o, Blk.cells [C.fn g []] true]) (b := .cells [.fn g []] true) rfl rfl rfl (c_areAll_1 hg x) rfl base
  refine ⟨if K < s.length then (K : Int) else -1, ?_, ?_⟩
  · by_cases hk : K < s.length
    · have := all_ne (p := p) hk (by simpa using hK2.resolve_left (by omega))
      have h2 : (0 : Int) ≤ (K : Int) := by omega
      rw [if_pos hk, this]; simp [h2]
    · have := all_of (p := p) (K := K) (by omega) hgood
      rw [if_neg hk, this]; rfl
  · rw [fb (fn := a147) rfl rfl rfl]
    simp [a147]
    rw [loop_to (fun k => ([(0, V.c (C.sl 0 0 s.length 1)), (1, V.c (C.fn 117 [(1, 0)])), (7, V.c (C.int .i64 s.length)), (8, V.c (C.int .i64 k))], [Blk.cells (bytesC s) o, Blk.cells [C.fn g []] true])) K]
    · by_cases hk : K < s.length
      · have hb : p (s.getD K 0) = false := by simpa using hK2.resolve_left (by omega)
        have g1 := bytesC_get hk
        have hc := hcall (s.getD K 0)
        rw [hb] at hc
        have b1 : K + 1 ≤ s.length := by omega
        generalize s.getD K 0 = x at *
        simp [hk, g1, hc, b1, sub]
      · simp [hk, sub]
    · simp [sub]
    · intro k hk
      have hkl : k < s.length := by omega
      have hb := hgood k hk
      have g1 := bytesC_get hkl
      have hc := hcall (s.getD k 0)
      rw [hb] at hc
      have b1 : k + 1 ≤ s.length := by omega
      have wk := wrapS (k := k) (by omega)
      generalize s.getD k 0 = x at *
      simp [hkl, g1, hc, b1, wk, sub]
theorem c_containsFunc {g : Nat} {p : UInt8 → Bool} (hg : IsP g p) (s : List UInt8) (hn : s.length < 1000000000) (o : Bool) :
    fnI pr np 116 [.c (.sl 0 0 s.length 1), .c (.fn 117 [(1, 0)])] [.cells (bytesC s) o, .cells [.fn g []] true] = some (.c (.bool (!s.all p)), [.cells (bytesC s) o, .cells [.fn g []] true]) := by
  obtain ⟨i, hi, h0⟩ := c_indexFunc hg s hn o
  have hc := fun base => callA_gen (F := fnI pr np) (f := 147) (args := [.c (.sl 0 0 s.length 1), .c (.fn 117 [(1, 0)])]) (H := lkp [.cells (bytesC s) o, .cells [.fn g []] true]) (L := [0, 1]) (by simp) (by simp) (by simp [sub]) (by simp) h0 (by simp) base
  rw [fb (fn := a116) rfl rfl rfl]
  rw [← hi]
  simp [a116, hc, sub]
theorem c_areAll {g : Nat} {p : UInt8 → Bool} (hg : IsP g p) (s : List UInt8) (hn : s.length < 1000000000) (o : Bool) :
    fnI pr np 96 [.c (.sl 0 0 s.length 1), .c (.fn g [])] [.cells (bytesC s) o] = some (.c (.bool (s.all p)), [.cells (bytesC s) o]) := by
  have hc := fun base => callA_gen (F := fnI pr np) (f := 116) (args := [.c (.sl 0 0 s.length 1), .c (.fn 117 [(1, 0)])]) (H := lkp [.cells (bytesC s) o, .cells [.fn g []] true]) (L := [0, 1]) (by simp) (by simp) (by simp [sub]) (by simp) (c_containsFunc hg s hn o) (by simp) base
  rw [fb (fn := a96) rfl rfl rfl]
  simp [a96, hc, sub]
/-! ### plain texts -/
def p32 (b : UInt8) : Bool := decide (32 ≤ b.toNat) && decide (b.toNat ≤ 126)
def plainT (s : List UInt8) : Bool := s.all p32 && !(s.any fun b => b == 35)
theorem isP_32 : IsP 97 p32 := by
  intro x
  rw [fb (fn := a97) rfl rfl rfl]
  unfold p32
  generalize x.toNat = n
  have e : ((n : Int) ≤ 126) = (n ≤ 126) := by apply propext; omega
  by_cases h : 32 ≤ n
  · have h' : (32 : Int) ≤ (n : Int) := by omega
    simp [a97, h, h', e]
  · have h' : ¬ (32 : Int) ≤ (n : Int) := by omega
    simp [a97, h, h']
theorem c_impl_isPlainText (s : List UInt8) (hn : s.length < 1000000000) : fnI pr np 69 [.c (.str s)] [] = some (.c (.bool (plainT s)), []) := by
  have hc := fun base => callA_gen (F := fnI pr np) (f := 96) (args := [.c (.sl 0 0 s.length 1), .c (.fn 97 [])]) (H := lkp [.cells (bytesC s) true]) (L := [0]) (by simp) (by simp) (by simp [sub]) (by simp) (c_areAll isP_32 s hn true) (by simp) base
  have hk := callA_pure (c_contains s 35) (by simp) (by simp)
  rw [idx_mem] at hk
  have hroom : s.length ≤ 68719476736 := by omega
  rw [fb (fn := a69) rfl rfl rfl]
  unfold plainT
  cases hq : s.all p32 with
  | false => rw [hq] at hc; simp [a69, hroom, hc, sub]
  | true =>
    rw [hq] at hc
    generalize (s.any fun b => b == 35) = q at *
    simp [a69, hroom, hc, hk, sub]
def cmdB (s : List UInt8) : Bool := (decide (1 ≤ (s.length : Int)) && decide ((s.length : Int) ≤ 160)) && plainT s && !(s.any fun b => b == 64)
theorem c_impl_isCommand (s : List UInt8) (hn : s.length < 1000000000) : fnI pr np 68 [.c (.str s)] [] = some (.c (.bool (cmdB s)), []) := by
  have h1 := callA_pure (c_impl_within s.length 1 160) (by simp) (by simp)
  have h2 := callA_pure (c_impl_isPlainText s hn) (by simp) (by simp)
  have hk := callA_pure (c_contains s 64) (by simp) (by simp)
  rw [idx_mem] at hk
  rw [fb (fn := a68) rfl rfl rfl]
  unfold cmdB
  generalize (decide (1 ≤ (s.length : Int)) && decide ((s.length : Int) ≤ 160)) = q1 at *
  generalize plainT s = q2 at *
  generalize (s.any fun b => b == 64) = q3 at *
  cases q1 with
  | false => simp [a68, h1, sub]
  | true =>
    cases q2 with
    | false => simp [a68, h1, h2, sub]
    | true => simp [a68, h1, h2, hk, sub]
def recV (a b : List UInt8) : V := .agg [.str a, .str b]
theorem c_impl_IsValidRecord (a b : List UInt8) (ha : a.length < 1000000000) (hb : b.length < 1000000000) : fnI pr np 26 [recV a b] [] = some (.c (.bool (cmdB a && decide ((b.length : Int) ≤ 250) && plainT b)), []) := by
  have h1 := callA_pure (c_impl_isCommand a ha) (by simp) (by simp)
  have h2 := callA_pure (c_impl_isPlainText b hb) (by simp) (by simp)
  rw [fb (fn := a26) rfl rfl rfl]
  unfold recV
  generalize cmdB a = q1 at *
  generalize plainT b = q2 at *
  cases q1 with
  | false => simp [a26, h1, sub]
  | true =>
    by_cases h : (b.length : Int) ≤ 250
    · simp [a26, h1, h2, h, sub]
    · simp [a26, h1, h2, h, sub]
/-! ### the reference -/
def okc (b : UInt8) : Bool := p32 b && !(b == 35)
theorem okc_eq (b : UInt8) : okc b = ((decide ((32 : Int) ≤ (b.toNat : Int)) && decide ((b.toNat : Int) ≤ 126)) && !((b.toNat : Int) == 35)) := by
  unfold okc p32
  have e1 : decide (32 ≤ b.toNat) = decide ((32 : Int) ≤ (b.toNat : Int)) := by
    apply decide_eq_decide.2; omega
  have e2 : decide (b.toNat ≤ 126) = decide ((b.toNat : Int) ≤ 126) := by
    apply decide_eq_decide.2; omega
  have e3 : (b == 35) = ((b.toNat : Int) == 35) := by
    rw [Bool.eq_iff_iff, beq_iff_eq, beq_iff_eq]
    constructor
    · intro h; rw [h]; rfl
    · intro h
      apply UInt8.toNat_inj.1
      have : b.toNat = 35 := by omega
      rw [this]; rfl
  rw [e1, e2, e3]
theorem getD_at {s : List UInt8} {k : Nat} (h : k < s.length) : s.getD k 0 = s[k]'h := by
  rw [List.getD_eq_getElem?_getD, List.getElem?_eq_getElem h]
  rfl
theorem wrap_byte (b : UInt8) : IntKind.i64.wrap (b.toNat : Int) = (b.toNat : Int) := by
  have := b.toNat_lt
  exact wrapI (by omega) (by omega)
theorem c_spec_l12Bytes (s : List UInt8) (hn : s.length < 1000000000) (m : Int) : fnI pr np 92 [.c (.str s), .c (.int .i64 m)] [] = some (.c (.bool (s.all okc && decide ((s.length : Int) ≤ m))), []) := by
  obtain ⟨K, hK1, hK2, hK3⟩ := first_exit (fun k => !okc (s.getD k 0)) s.length
  have hgood : ∀ j, j < K → okc (s.getD j 0) = true := fun j hj => by simpa using hK3 j hj
  rw [fb (fn := a92) rfl rfl rfl]
  simp [a92]
  rw [loop_to (fun k => ([(0, V.c (C.str s)), (1, V.c (C.int .i64 m)), (5, V.c (C.int .i64 k))], [])) K]
  · by_cases hk : K < s.length
    · have hb : okc (s.getD K 0) = false := by
        have := hK2.resolve_left (by omega)
        rwa [Bool.not_eq_true'] at this
      have hall := all_ne (p := okc) hk hb
      rw [getD_at hk, okc_eq] at hb
      have hin := callA_pure (c_spec_l1In (s[K]'hk).toNat 32 126) (by simp) (by simp)
      have wb := wrap_byte (s[K]'hk)
      have hk' : (K : Int) < (s.length : Int) := by omega
      rw [hall]
      cases hq : (decide ((32 : Int) ≤ ((s[K]'hk).toNat : Int)) && decide (((s[K]'hk).toNat : Int) ≤ 126)) with
      | false => rw [hq] at hin; simp [hk, hk', hin, wb]
      | true =>
        rw [hq] at hin hb
        have hx : (((s[K]'hk).toNat : Int) == 35) = true := by
          cases h : (((s[K]'hk).toNat : Int) == 35) with
          | true => rfl
          | false => rw [h] at hb; cases hb
        simp [hk, hk', hin, wb, hx]
    · have hall := all_of (p := okc) (K := K) (by omega) hgood
      have hk' : ¬ (K : Int) < (s.length : Int) := by omega
      rw [hall]
      simp [hk, hk']
  · simp
  · intro k hk
    have hkl : k < s.length := by omega
    have hkl' : (k : Int) < (s.length : Int) := by omega
    have hb := hgood k hk
    rw [getD_at hkl, okc_eq, Bool.and_eq_true] at hb
    have hin := callA_pure (c_spec_l1In (s[k]'hkl).toNat 32 126) (by simp) (by simp)
    have wb := wrap_byte (s[k]'hkl)
    have wk := wrapS (k := k) (by omega)
    obtain ⟨hb1, hb2⟩ := hb
    rw [hb1] at hin
    have hx : (((s[k]'hkl).toNat : Int) == 35) = false := by
      cases h : (((s[k]'hkl).toNat : Int) == 35) with
      | false => rfl
      | true => rw [h] at hb2; cases hb2
    simp [hkl, hkl', hin, wb, wk, hx]
theorem c_spec_l1Stands (s : List UInt8) (hn : s.length < 1000000000) (c : UInt8) : fnI pr np 93 [.c (.str s), .c (.int .u8 c.toNat)] [] = some (.c (.bool (s.any fun b => b == c)), []) := by
  obtain ⟨K, hK1, hK2, hK3⟩ := first_exit (fun k => s.getD k 0 == c) s.length
  have e0 : ∀ b : UInt8, (b == c) = ((b.toNat : Int) == (c.toNat : Int)) := fun b => by
    rw [Bool.eq_iff_iff, beq_iff_eq, beq_iff_eq]
    constructor
    · intro h; rw [h]
    · intro h; exact UInt8.toNat_inj.1 (by omega)
  have hany : (s.any fun b => b == c) = !(s.all fun b => !(b == c)) := by rw [List.all_eq_not_any_not]; simp
  rw [fb (fn := a93) rfl rfl rfl]
  simp [a93]
  rw [loop_to (fun k => ([(0, V.c (C.str s)), (1, V.c (C.int .u8 c.toNat)), (5, V.c (C.int .i64 k))], [])) K]
  · by_cases hk : K < s.length
    · have hb : (s.getD K 0 == c) = true := hK2.resolve_left (by omega)
      have hall := all_ne (p := fun b => !(b == c)) hk (by rw [hb]; rfl)
      rw [getD_at hk, e0] at hb
      have hk' : (K : Int) < (s.length : Int) := by omega
      have hb' : ((s[K]'hk).toNat : Int) = (c.toNat : Int) := by simpa using hb
      have hb2 : (s[K]'hk).toNat = c.toNat := by omega
      have hr : (s.any fun b => b == c) = true := by rw [hany, hall]; rfl
      rw [hr]
      simp [hk, hk', hb, hb', hb2]
    · have hall := all_of (s := s) (p := fun b => !(b == c)) (K := K) (by omega) (fun j hj => by have := hK3 j hj; rw [this]; rfl)
      have hk' : ¬ (K : Int) < (s.length : Int) := by omega
      have hr : (s.any fun b => b == c) = false := by rw [hany, hall]; rfl
      rw [hr]
      simp [hk, hk']
  · simp
  · intro k hk
    have hkl : k < s.length := by omega
    have hkl' : (k : Int) < (s.length : Int) := by omega
    have hb := hK3 k hk
    rw [getD_at hkl, e0] at hb
    have wk := wrapS (k := k) (by omega)
    have hb' : ¬ ((s[k]'hkl).toNat : Int) = (c.toNat : Int) := by simpa using hb
    simp [hkl, hkl', hb, hb', wk]
theorem plain_eq (s : List UInt8) : s.all okc = plainT s := by
  unfold plainT okc
  induction s with
  | nil => rfl
  | cons b s ih =>
    rw [List.all_cons, List.all_cons, List.any_cons, ih]
    cases p32 b <;> cases b == 35 <;> cases (s.all p32) <;> cases (s.any fun b => b == 35) <;> rfl
def recB (a b : List UInt8) : Bool := cmdB a && decide ((b.length : Int) ≤ 250) && plainT b
theorem c_spec_l12Record (a b : List UInt8) (ha : a.length < 1000000000) (hb : b.length < 1000000000) : fnI pr np 62 [recV a b] [] = some (.c (.bool (recB a b)), []) := by
  have h1 := callA_pure (c_spec_l12Bytes a ha 160) (by simp) (by simp)
  have h2 := callA_pure (show fnI pr np 93 [.c (.str a), .c (.int .u8 64)] [] = some (.c (.bool (a.any fun b => b == 64)), []) from c_spec_l1Stands a ha 64) (by simp) (by simp)
  have h3 := callA_pure (c_spec_l12Bytes b hb 250) (by simp) (by simp)
  rw [plain_eq] at h1 h3
  have hre : recB a b = ((!(a == [])) && (plainT a && decide ((a.length : Int) ≤ 160)) && !(a.any fun b => b == 64) && (plainT b && decide ((b.length : Int) ≤ 250))) := by
    unfold recB cmdB
    have e1 : decide (1 ≤ (a.length : Int)) = !(a == []) := by
      cases a with
      | nil => rfl
      | cons x a => simp; omega
    rw [e1]
    cases (!(a == [])) <;> cases plainT a <;> cases decide ((a.length : Int) ≤ 160) <;> cases (a.any fun b => b == 64) <;> cases plainT b <;> cases decide ((b.length : Int) ≤ 250) <;> rfl
  rw [hre]
  rw [fb (fn := a62) rfl rfl rfl]
  unfold recV
  generalize (plainT a && decide ((a.length : Int) ≤ 160)) = q1 at *
  generalize (plainT b && decide ((b.length : Int) ≤ 250)) = q3 at *
  generalize (a.any fun b => b == 64) = q2 at *
  by_cases h0 : a = []
  · subst h0
    simp [a62, sub]
  · have h0' : (a == []) = false := by simpa using h0
    rw [h0']
    cases q1 with
    | false => simp [a62, h0, h0', h1, sub]
    | true =>
      cases q2 with
      | true => simp [a62, h0, h0', h1, h2, sub]
      | false => simp [a62, h0, h0', h1, h2, h3, sub]
theorem c_spec_IsValidRecord (a b : List UInt8) (ha : a.length < 1000000000) (hb : b.length < 1000000000) : fnI pr np 27 [recV a b] [] = some (.c (.bool (recB a b)), []) := by
  have h := callA_pure (c_spec_l12Record a b ha hb) (by simp [recV]) (by simp)
  rw [fb (fn := a27) rfl rfl rfl]
  unfold recV at *
  simp [a27, h, sub]
end Go.Proofs.YtahfeigilhjgpaaDoor.AM
