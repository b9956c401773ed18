import Derived.Test.YtgpafbbnobanbaaGreatDoorPd
import Derived.Test.YtgpafbbnobanbaaGreatDoorAmE
/- Contracts: texts, records, checksums (seat with the search). -/
namespace Go.Proofs.YtgpafbbnobanbaaGreatDoor.AM
open Go
set_option maxRecDepth 1000000
set_option linter.unusedSimpArgs false
set_option linter.unusedVariables false
abbrev Tx := List UInt8
/-! ### bytes -/
theorem bytesC_len (s : List UInt8) : (bytesC s).length = s.length := by simp [bytesC]
theorem bytesC_eq (s : List UInt8) : bytesC s = (s.map fun b => ((b.toNat : Nat) : Int)).map (C.int .u8) := by simp [bytesC]
theorem bytesC_ids (s : List UInt8) : cids (bytesC s) = [] := by rw [bytesC_eq]; exact cids_ints _ _
theorem bytesC_cmp (g : Nat → Nat) (s : List UInt8) : cmp g (bytesC s) = bytesC s := by rw [bytesC_eq]; exact cmp_ints _ _ _
theorem bytesC_dead (s : List UInt8) : noDead (bytesC s) = true := by rw [bytesC_eq]; exact noDead_ints _ _
attribute [simp] bytesC_len bytesC_ids bytesC_cmp bytesC_dead
theorem bytesC_get {s : List UInt8} {k : Nat} (hk : k < s.length) : ((bytesC s).drop k).take 1 = [C.int .u8 (s.getD k 0).toNat] := by
  unfold bytesC
  rw [List.drop_eq_getElem_cons (by simpa using hk)]
  simp [List.getD_eq_getElem?_getD, List.getElem?_eq_getElem hk]
theorem all_of {s : List UInt8} {p : UInt8 → Bool} {K : Nat} (hK : K = s.length) (h : ∀ j, j < K → p (s.getD j 0) = true) : s.all p = true := by
  rw [List.all_eq_true]
  intro x hx
  obtain ⟨j, hj, rfl⟩ := List.getElem_of_mem hx
  have := h j (by omega)
  rwa [List.getD_eq_getElem?_getD, List.getElem?_eq_getElem hj] at this
theorem all_ne {s : List UInt8} {p : UInt8 → Bool} {K : Nat} (hK : K < s.length) (h : p (s.getD K 0) = false) : s.all p = false := by
  rw [List.all_eq_false]
  refine ⟨s[K], List.getElem_mem _, ?_⟩
  rw [List.getD_eq_getElem?_getD, List.getElem?_eq_getElem hK] at h
  simpa using h
/-! ### the library -/
theorem c_contains (s : List UInt8) (c : UInt8) : fnI pr np 49 [.c (.str s), .c (.str [c])] [] = some (.c (.bool (decide (0 ≤ Lib.indexByte s c))), []) := (fnI_iff pr np).2 ⟨1, rfl⟩
theorem idx_mem (c : UInt8) : ∀ s : List UInt8, decide (0 ≤ Lib.indexByte s c) = s.any fun b => b == c
  | [] => by simp [Lib.indexByte]
  | b :: s => by
    have ih := idx_mem c s
    have hge := Lib.indexByte_ge s c
    rw [List.any_cons, ← ih, show Lib.indexByte (b :: s) c = (if (b == c) = true then 0 else if (Lib.indexByte s c == -1) = true then -1 else Lib.indexByte s c + 1) from rfl]
    cases hb : b == c with
    | true => simp
    | false =>
      by_cases h1 : Lib.indexByte s c = -1
      · simp [h1]
      · have h2 : 0 ≤ Lib.indexByte s c := by omega
        have h3 : (0 : Int) ≤ Lib.indexByte s c + 1 := by omega
        simp [h1, h2, h3]
def IsPb (g : Nat) (p : UInt8 → Bool) : Prop := ∀ x : UInt8, fnI pr np g [.c (.int .u8 x.toNat)] [] = some (.c (.bool (p x)), [])
theorem c_areAllb_1 {g : Nat} {p : UInt8 → Bool} (hg : IsPb g p) (x : UInt8) : fnI pr np 145 [.c (.int .u8 x.toNat), .c (.ptr 0 0)] [.cells [.fn g []] true] = some (.c (.bool (!p x)), [.cells [.fn g []] true]) := by
  have h := callA_pure (hg x) (by simp) (by simp)
  rw [fb (fn := a145) rfl rfl rfl]
  simp [a145, h]
theorem c_indexFuncb {g : Nat} {p : UInt8 → Bool} (hg : IsPb g p) (s : List UInt8) (hn : s.length < 1000000000) (o : Bool) : ∃ i : Int, decide (0 ≤ i) = (!s.all p) ∧
    fnI pr np 183 [.c (.sl 0 0 s.length 1), .c (.fn 145 [(1, 0)])] [.cells (bytesC s) o, .cells [.fn g []] true] = some (.c (.int .i64 i), [.cells (bytesC s) o, .cells [.fn g []] true]) := by
  obtain ⟨K, hK1, hK2, hK3⟩ := first_exit (fun k => !p (s.getD k 0)) s.length
  have hgood : ∀ j, j < K → p (s.getD j 0) = true := fun j hj => by simpa using hK3 j hj
  have hcall := fun (x : UInt8) (base : Nat) => callA_at (F := fnI pr np) (f := 145) (x := .c (.int .u8 x.toNat)) (i := 1) (H := lkp [Blk.cells (bytesC s) o, Blk.cells [C.fn g []] true]) (b := .cells [.fn g []] true) rfl rfl rfl (c_areAllb_1 hg x) rfl base
  refine ⟨if K < s.length then (K : Int) else -1, ?_, ?_⟩
  · by_cases hk : K < s.length
    · have := all_ne (p := p) hk (by simpa using hK2.resolve_left (by omega))
      have h2 : (0 : Int) ≤ (K : Int) := by omega
      rw [if_pos hk, this]; simp [h2]
    · have := all_of (p := p) (K := K) (by omega) hgood
      rw [if_neg hk, this]; rfl
  · rw [fb (fn := a183) rfl rfl rfl]
    simp [a183]
    rw [loop_to (fun k => ([(0, V.c (C.sl 0 0 s.length 1)), (1, V.c (C.fn 145 [(1, 0)])), (7, V.c (C.int .i64 s.length)), (8, V.c (C.int .i64 k))], [Blk.cells (bytesC s) o, Blk.cells [C.fn g []] true])) K]
    · by_cases hk : K < s.length
      · have hb : p (s.getD K 0) = false := by simpa using hK2.resolve_left (by omega)
        have g1 := bytesC_get hk
        have hc := hcall (s.getD K 0)
        rw [hb] at hc
        have b1 : K + 1 ≤ s.length := by omega
        generalize s.getD K 0 = x at *
        simp [hk, g1, hc, b1, sub]
      · simp [hk, sub]
    · simp [sub]
    · intro k hk
      have hkl : k < s.length := by omega
      have hb := hgood k hk
      have g1 := bytesC_get hkl
      have hc := hcall (s.getD k 0)
      rw [hb] at hc
      have b1 : k + 1 ≤ s.length := by omega
      have wk := wrapS (k := k) (by omega)
      generalize s.getD k 0 = x at *
      simp [hkl, g1, hc, b1, wk, sub]
theorem c_containsFuncb {g : Nat} {p : UInt8 → Bool} (hg : IsPb g p) (s : List UInt8) (hn : s.length < 1000000000) (o : Bool) :
    fnI pr np 144 [.c (.sl 0 0 s.length 1), .c (.fn 145 [(1, 0)])] [.cells (bytesC s) o, .cells [.fn g []] true] = some (.c (.bool (!s.all p)), [.cells (bytesC s) o, .cells [.fn g []] true]) := by
  obtain ⟨i, hi, h0⟩ := c_indexFuncb hg s hn o
  have hc := fun base => callA_gen (F := fnI pr np) (f := 183) (args := [.c (.sl 0 0 s.length 1), .c (.fn 145 [(1, 0)])]) (H := lkp [.cells (bytesC s) o, .cells [.fn g []] true]) (L := [0, 1]) (by simp) (by simp) (by simp [sub]) (by simp) h0 (by simp) base
  rw [fb (fn := a144) rfl rfl rfl]
  rw [← hi]
  simp [a144, hc, sub]
theorem c_areAllb {g : Nat} {p : UInt8 → Bool} (hg : IsPb g p) (s : List UInt8) (hn : s.length < 1000000000) (o : Bool) :
    fnI pr np 93 [.c (.sl 0 0 s.length 1), .c (.fn g [])] [.cells (bytesC s) o] = some (.c (.bool (s.all p)), [.cells (bytesC s) o]) := by
  have hc := fun base => callA_gen (F := fnI pr np) (f := 144) (args := [.c (.sl 0 0 s.length 1), .c (.fn 145 [(1, 0)])]) (H := lkp [.cells (bytesC s) o, .cells [.fn g []] true]) (L := [0, 1]) (by simp) (by simp) (by simp [sub]) (by simp) (c_containsFuncb hg s hn o) (by simp) base
  rw [fb (fn := a93) rfl rfl rfl]
  simp [a93, hc, sub]
/-! ### plain texts -/
def p32 (b : UInt8) : Bool := decide (32 ≤ b.toNat) && decide (b.toNat ≤ 126)
def plainT (s : List UInt8) : Bool := s.all p32 && !(s.any fun b => b == 35)
theorem isPb_32 : IsPb 94 p32 := by
  intro x
  rw [fb (fn := a94) rfl rfl rfl]
  unfold p32
  generalize x.toNat = n
  have e : ((n : Int) ≤ 126) = (n ≤ 126) := by apply propext; omega
  by_cases h : 32 ≤ n
  · have h' : (32 : Int) ≤ (n : Int) := by omega
    simp [a94, h, h', e]
  · have h' : ¬ (32 : Int) ≤ (n : Int) := by omega
    simp [a94, h, h']
theorem c_impl_isPlainText (s : List UInt8) (hn : s.length < 1000000000) : fnI pr np 48 [.c (.str s)] [] = some (.c (.bool (plainT s)), []) := by
  have hc := fun base => callA_gen (F := fnI pr np) (f := 93) (args := [.c (.sl 0 0 s.length 1), .c (.fn 94 [])]) (H := lkp [.cells (bytesC s) true]) (L := [0]) (by simp) (by simp) (by simp [sub]) (by simp) (c_areAllb isPb_32 s hn true) (by simp) base
  have hk := callA_pure (c_contains s 35) (by simp) (by simp)
  rw [idx_mem] at hk
  have hroom : s.length ≤ 68719476736 := by omega
  rw [fb (fn := a48) rfl rfl rfl]
  unfold plainT
  cases hq : s.all p32 with
  | false => rw [hq] at hc; simp [a48, hroom, hc, sub]
  | true =>
    rw [hq] at hc
    generalize (s.any fun b => b == 35) = q at *
    simp [a48, hroom, hc, hk, sub]
def cmdB (s : List UInt8) : Bool := (decide (1 ≤ (s.length : Int)) && decide ((s.length : Int) ≤ 160)) && plainT s && !(s.any fun b => b == 64)
theorem c_impl_isCommand (s : List UInt8) (hn : s.length < 1000000000) : fnI pr np 22 [.c (.str s)] [] = some (.c (.bool (cmdB s)), []) := by
  have h1 := callA_pure (c_impl_within s.length 1 160) (by simp) (by simp)
  have h2 := callA_pure (c_impl_isPlainText s hn) (by simp) (by simp)
  have hk := callA_pure (c_contains s 64) (by simp) (by simp)
  rw [idx_mem] at hk
  rw [fb (fn := a22) rfl rfl rfl]
  unfold cmdB
  generalize (decide (1 ≤ (s.length : Int)) && decide ((s.length : Int) ≤ 160)) = q1 at *
  generalize plainT s = q2 at *
  generalize (s.any fun b => b == 64) = q3 at *
  cases q1 with
  | false => simp [a22, h1, sub]
  | true =>
    cases q2 with
    | false => simp [a22, h1, h2, sub]
    | true => simp [a22, h1, h2, hk, sub]
def recV (a b : List UInt8) : V := .agg [.str a, .str b]
theorem c_impl_IsValidRecord (a b : List UInt8) (ha : a.length < 1000000000) (hb : b.length < 1000000000) : fnI pr np 57 [recV a b] [] = some (.c (.bool (cmdB a && decide ((b.length : Int) ≤ 250) && plainT b)), []) := by
  have h1 := callA_pure (c_impl_isCommand a ha) (by simp) (by simp)
  have h2 := callA_pure (c_impl_isPlainText b hb) (by simp) (by simp)
  rw [fb (fn := a57) rfl rfl rfl]
  unfold recV
  generalize cmdB a = q1 at *
  generalize plainT b = q2 at *
  cases q1 with
  | false => simp [a57, h1, sub]
  | true =>
    by_cases h : (b.length : Int) ≤ 250
    · simp [a57, h1, h2, h, sub]
    · simp [a57, h1, h2, h, sub]
/-! ### checksums -/
theorem step_w {h : Nat} (hh : h < 999979) (c : UInt8) : ∃ h' : Nat, h' < 999979 ∧ IntKind.i64.wrap (41 * (h : Int)) = 41 * (h : Int) ∧ IntKind.i64.wrap (c.toNat : Int) = (c.toNat : Int) ∧ IntKind.i64.wrap (41 * (h : Int) + (c.toNat : Int)) = 41 * (h : Int) + (c.toNat : Int) ∧ IntKind.i64.wrap (41 * (h : Int) + (c.toNat : Int) + 1) = 41 * (h : Int) + (c.toNat : Int) + 1 ∧ (41 * (h : Int) + (c.toNat : Int) + 1).tmod 999979 = (h' : Int) := by
  have := c.toNat_lt
  refine ⟨(41 * h + c.toNat + 1) % 999979, Nat.mod_lt _ (by decide), wrapI (by omega) (by omega), wrapI (by omega) (by omega), wrapI (by omega) (by omega), wrapI (by omega) (by omega), ?_⟩
  have e : (41 * (h : Int) + (c.toNat : Int) + 1) = ((41 * h + c.toNat + 1 : Nat) : Int) := by omega
  rw [e]
  exact (Int.ofNat_tmod _ 999979).symm
theorem c_checksum (s : Tx) (hn : s.length < 1000000000) : ∃ n : Nat, n < 999979 ∧ fnI pr np 167 [.c (.str s)] [] = some (.c (.int .i64 n), []) := by
  have hroom : s.length ≤ 68719476736 := by omega
  rw [fb (fn := a167) rfl rfl rfl]
  simp [a167, hroom]
  generalize hX : exI pr np _ (.loop _ _) _ _ = X
  obtain ⟨w, hw, hXe⟩ := loop_st hX (fun k (w : Nat) => ([(3, V.c (C.int .i64 w)), (7, V.c (C.sl 0 0 s.length 1)), (8, V.c (C.int .i64 s.length)), (9, V.c (C.int .i64 k))], [Blk.cells (bytesC s) true])) s.length 7 (fun _ w => w < 999979) (by simp [sub]) (by decide) (by
    intro k hk w hw
    have hk' : (k : Int) < (s.length : Int) := by omega
    have wk := wrapS (k := k) (by omega)
    have g1 := bytesC_get hk
    have b1 : k + 1 ≤ s.length := by omega
    obtain ⟨h', hl, e1, e2, e3, e4, e5⟩ := step_w hw (s.getD k 0)
    refine ⟨h', hl, ?_⟩
    generalize s.getD k 0 = x at *
    simp [hk, hk', wk, e1, e2, e3, e4, e5, g1, b1, sub])
  refine ⟨w, hw, ?_⟩
  rw [hXe]
  simp [sub]
theorem dec_len (n : Nat) (h : n < 1000000) : (Lib.decDigits n).length ≤ 6 := by
  have key : ∀ (d n : Nat), n < 10 ^ (d + 1) → (Lib.decDigits n).length ≤ d + 1 := by
    intro d
    induction d with
    | zero => intro n h; rw [Lib.decDigits, dif_pos (by omega)]; simp
    | succ d ih =>
      intro n h
      rw [Lib.decDigits]
      split
      · simp
      · have := ih (n / 10) (by have : 10 ^ (d + 1 + 1) = 10 ^ (d + 1) * 10 := rfl; omega)
        simp; omega
  exact key 5 n h
theorem c_itoaN (n : Nat) (hn : n < 1000000000) : fnI pr np 82 [.c (.int .i64 n)] [] = some (.c (.str (Lib.decDigits n)), []) := by
  have h : (-9223372036854775808 : Int) ≤ (n : Int) ∧ (n : Int) ≤ 9223372036854775807 := by omega
  have e : Lib.itoa (n : Int) = Lib.decDigits n := by
    unfold Lib.itoa
    rw [if_neg (by omega)]
    rfl
  refine (fnI_iff pr np).2 ⟨1, ?_⟩
  rw [← e]
  show (if (-9223372036854775808 : Int) ≤ (n : Int) ∧ (n : Int) ≤ 9223372036854775807 then some (V.c (C.str (Lib.itoa (n : Int))), ([] : Heap)) else none) = _
  rw [if_pos h]
theorem c_append (s : Tx) (hn : s.length < 900000000) : ∃ (t : Tx) (b : Bool), t.length ≤ s.length + 7 ∧ fnI pr np 116 [.c (.str s)] [] = some (.tup [.c (.str t), .c (.bool b)], []) := by
  obtain ⟨n, hn1, hc⟩ := c_checksum s (by omega)
  have h0 := callA_pure (c_contains s 35) (by simp) (by simp)
  have h1 := callA_pure hc (by simp) (by simp)
  have h2 := callA_pure (c_itoaN n (by omega)) (by simp) (by simp)
  have b1 : s.length ≤ 9223372036854775806 := by omega
  have b2 := dec_len n (by omega)
  have b3 : s.length + 1 + (Lib.decDigits n).length ≤ 9223372036854775807 := by omega
  rw [fb (fn := a116) rfl rfl rfl]
  generalize Lib.decDigits n = q at *
  generalize decide (0 ≤ Lib.indexByte s 35) = z at *
  by_cases c1 : (4000 : Int) < (s.length : Int)
  · exact ⟨[], false, by simp, by simp [a116, c1]⟩
  · cases z with
    | true => exact ⟨[], false, by simp, by simp [a116, c1, h0]⟩
    | false =>
      by_cases c4 : (4000 : Int) < (s.length : Int) + 1 + (q.length : Int)
      · have c5 : (4000 : Int) < (s.length : Int) + ((q.length : Int) + 1) := by omega
        exact ⟨[], false, by simp, by simp [a116, c1, h0, h1, h2, b1, b3, c4, c5]⟩
      · have c5 : ¬ (4000 : Int) < (s.length : Int) + ((q.length : Int) + 1) := by omega
        have c6 : (s.length : Int) + ((q.length : Int) + 1) ≤ 4000 := by omega
        exact ⟨s ++ [35] ++ q, true, by simp; omega, by simp [a116, c1, h0, h1, h2, b1, b3, c4, c5, c6]⟩
theorem c_encode (a b : Tx) (ha : a.length < 200000000) (hb : b.length < 200000000) : ∃ (t : Tx) (q : Bool), t.length ≤ a.length + b.length + 30 ∧ fnI pr np 58 [.c (.int .i64 0), recV a b] [] = some (.tup [.c (.str t), .c (.bool q)], []) := by
  have h0 := callA_pure (c_impl_within 0 0 59) (by simp) (by simp)
  have h1 := callA_pure (c_impl_IsValidRecord a b (by omega) (by omega)) (by simp [recV]) (by simp)
  have h2 := callA_pure (c_itoaN 0 (by omega)) (by simp) (by simp)
  have hd : Lib.decDigits 0 = [48] := by rw [Lib.decDigits, dif_pos (by omega)]; rfl
  rw [hd] at h2
  obtain ⟨t, z, ht, hap⟩ := c_append ([48] ++ [32] ++ a ++ [64] ++ b) (by simp; omega)
  have h3 := callA_pure hap (by simp) (by simp)
  rw [fb (fn := a58) rfl rfl rfl]
  have hb8 : t.length ≤ 9223372036854775806 := by simp at ht; omega
  generalize (cmdB a && decide ((b.length : Int) ≤ 250) && plainT b) = q at *
  simp at h0 h3 ht h2
  have b2 : a.length + 1 + 1 ≤ 9223372036854775807 := by omega
  have b3 : a.length + 1 + 1 ≤ 9223372036854775806 := by omega
  have b5 : a.length + 1 + 1 + 1 + b.length ≤ 9223372036854775807 := by omega
  have b6 : a.length + 1 + 1 + 1 ≤ 9223372036854775807 := by omega
  have b7 : 2 + a.length ≤ 9223372036854775807 := by omega
  have b8 : 2 + a.length + 1 ≤ 9223372036854775807 := by omega
  have b9 : a.length + 1 + 1 + 1 + b.length ≤ 9223372036854775807 := by omega
  have b10 : 2 + a.length + 1 + b.length ≤ 9223372036854775807 := by omega
  have b11 : a.length + 2 + 1 + b.length ≤ 9223372036854775807 := by omega
  unfold recV at *
  cases q with
  | false => exact ⟨[], false, by simp, by simp [a58, h0, h1, sub]⟩
  | true => exact ⟨t ++ [10], z, by simp; omega, by simp [a58, h0, h1, h2, h3, hb8, b2, b3, b5, b6, b7, b8, b9, b10, b11, sub]⟩
end Go.Proofs.YtgpafbbnobanbaaGreatDoor.AM
/- Contracts: what the laws ask of a list of pairs, of a list of ints: equal, marked, held. -/
namespace Go.Proofs.YtgpafbbnobanbaaGreatDoor.AM
open Go
set_option maxRecDepth 1000000
set_option linter.unusedSimpArgs false
set_option linter.unusedVariables false
end Go.Proofs.YtgpafbbnobanbaaGreatDoor.AM
/- Replays: their cells, and what the laws ask of them: copied, counted, equal. -/
namespace Go.Proofs.YtgpafbbnobanbaaGreatDoor.AM
open Go
set_option maxRecDepth 1000000
set_option linter.unusedSimpArgs false
set_option linter.unusedVariables false
theorem setAt_front : ∀ (xs zs ys : List C) (A : List C), zs.length = xs.length → setAt (A ++ zs ++ ys) A.length xs = A ++ xs ++ ys
  | [], zs, ys, A, h => by
    have : zs = [] := List.eq_nil_of_length_eq_zero h
    subst this
    rfl
  | x :: xs, [], ys, A, h => by simp at h
  | x :: xs, z :: zs, ys, A, h => by
    have h' : zs.length = xs.length := by simpa using h
    have := setAt_front xs zs ys (A ++ [x]) h'
    simp only [setAt]
    have e : (A ++ z :: zs ++ ys).set A.length x = A ++ [x] ++ zs ++ ys := by
      rw [List.append_assoc, List.set_append_right _ _ (Nat.le_refl _), Nat.sub_self]
      simp
    rw [e]
    simpa using this
theorem mp_ids {b : Blk} (h : b.ids = []) (g : Nat → Nat) : b.mp g = b := Blk.mp_below (by simp [h])
/-- a call with one value that names one block, and values that name none -/
theorem callA_one {F : Fns} {f : Nat} {x x0 : V} {rest : List V} {i : Nat} {H : HF} {b : Blk} {v : V} {ns : Heap} (hb : H i = some b) (hx : x.ids = [i]) (hx0 : x.mp (fun j => if i = j then 0 else 1) = x0) (hre : rest.flatMap V.ids = []) (hbi : b.ids = []) (hF : F f (x0 :: rest) [b] = some (v, b :: ns)) (base : Nat) :
    callA F f (x :: rest) H base = some (v.mp (back [i] base), ns.map (Blk.mp (back [i] base)), [(i, b)]) := by
  have hr : reach H 64 ((x :: rest).flatMap V.ids) [] = [i] := by simp [hx, hre, reach, idsAt, hb, hbi]
  have hp : pos [i] = fun j => if i = j then 0 else 1 := by funext j; simp [pos]
  have hm : (x :: rest).map (V.mp (pos [i])) = x0 :: rest := by
    rw [List.map_cons, hp, hx0, mps_pure hre]
  have h := callA_gen (F := F) (f := f) (args := x :: rest) (H := H) (L := [i]) hr (by simp [closed, hb, idsAt, hbi, inL, hx, hre]) (show sub [i] H = [b] by simp [sub, hb, mp_ids hbi]) hm hF (by simp) base
  rw [h]
  simp [mp_ids hbi]
end Go.Proofs.YtgpafbbnobanbaaGreatDoor.AM
/- Contracts: the racks of a replay. -/
namespace Go.Proofs.YtgpafbbnobanbaaGreatDoor.AM
open Go
set_option maxRecDepth 1000000
set_option linter.unusedSimpArgs false
set_option linter.unusedVariables false
def placeB (a : Int) : Bool := decide (0 ≤ a) && decide (a ≤ 5)
theorem c_spec_l2Place (a : Int) : fnI pr np 176 [.c (.int .i64 a)] [] = some (.c (.bool (placeB a)), []) := by
  have hc := callA_pure (c_spec_l1In a 0 5) (by simp) (by simp)
  rw [fb (fn := a176) rfl rfl rfl]
  simp [a176, hc, placeB]
theorem place_nat {a : Int} (h : placeB a = true) : ∃ i : Nat, a = (i : Int) ∧ i < 6 ∧ a.toNat = i := by
  simp only [placeB, Bool.and_eq_true, decide_eq_true_eq] at h
  exact ⟨a.toNat, by omega, by omega, rfl⟩
end Go.Proofs.YtgpafbbnobanbaaGreatDoor.AM
/- The text of a rack and of a replay: plain laws. -/
namespace Go.Proofs.YtgpafbbnobanbaaGreatDoor.AM
open Go
set_option maxRecDepth 1000000
set_option linter.unusedSimpArgs false
set_option linter.unusedVariables false
/-- the sign of a layer; a digit -/
def chB (c : Int) : UInt8 := if c = 0 then 46 else UInt8.ofNat (96 + c.toNat)
def dgB (a : Int) : UInt8 := UInt8.ofNat (48 + a.toNat)
def tbT (r : List Int) (i : Nat) : List UInt8 := (tubeAt r i).map chB
def sepT (i : Nat) : List UInt8 := if i = 0 then [] else [47]
def preT (r : List Int) (i : Nat) : List UInt8 := (List.range i).flatMap fun j => sepT j ++ tbT r j
theorem preT_succ (r : List Int) (i : Nat) : preT r (i + 1) = preT r i ++ (sepT i ++ tbT r i) := by
  unfold preT
  rw [List.range_succ, List.flatMap_append]
  simp
theorem tbT_len {r : List Int} (hr : r.length = 24) {i : Nat} (hi : i < 6) : (tbT r i).length = 4 := by unfold tbT; rw [List.length_map, tubeAt_len hr hi]
theorem preT_len {r : List Int} (hr : r.length = 24) : ∀ i, i ≤ 6 → (preT r i).length ≤ i * 5
  | 0, _ => by simp [preT]
  | i + 1, h => by
    have ih := preT_len hr i (by omega)
    rw [preT_succ]
    simp only [List.length_append, tbT_len hr (i := i) (by omega)]
    have : (sepT i).length ≤ 1 := by unfold sepT; split <;> simp
    omega
theorem tube_col {t : List Int} (ht : t.length = 4) (h : tubeP t = true) {k : Nat} (hk : k < 4) : 0 ≤ t.getD k 0 ∧ t.getD k 0 ≤ 5 := by
  obtain ⟨a, b, c, d, rfl⟩ := len4 ht
  rw [tube_eq] at h
  simp at h
  match k, hk with
  | 0, _ => simp; omega
  | 1, _ => simp; omega
  | 2, _ => simp; omega
  | 3, _ => simp; omega
theorem six_of {x : Int} (h : 0 ≤ x ∧ x ≤ 5) : x = 0 ∨ x = 1 ∨ x = 2 ∨ x = 3 ∨ x = 4 ∨ x = 5 := by omega
theorem take_one (l : List UInt8) {k : Nat} (hk : k < l.length) : l.take (k + 1) = l.take k ++ [l.getD k 0] := by
  rw [List.take_add_one, List.getElem?_eq_getElem hk, List.getD_eq_getElem?_getD, List.getElem?_eq_getElem hk]
  rfl
theorem tbT_get {r : List Int} (hr : r.length = 24) {i k : Nat} (hi : i < 6) (hk : k < 4) : (tbT r i).getD k 0 = chB ((tubeAt r i).getD k 0) := by
  have h4 := tubeAt_len hr hi
  unfold tbT
  rw [List.getD_eq_getElem?_getD, List.getD_eq_getElem?_getD, List.getElem?_map, List.getElem?_eq_getElem (by omega)]
  rfl
end Go.Proofs.YtgpafbbnobanbaaGreatDoor.AM
/- The arguments of strings.Join: a slice of texts in the world. -/
namespace Go.Proofs.YtgpafbbnobanbaaGreatDoor.AM
open Go
set_option maxRecDepth 1000000
theorem all_get {P : C → Bool} {l : List C} (h : l.all P = true) {j : Nat} {c : C} (hj : l[j]? = some c) : P c = true := List.all_eq_true.1 h c (List.mem_of_getElem? hj)
theorem join_args {φ : Phi} {h : Heap} {w : World} (hh : HeapOK φ (lkp h) w) {i o n : Nat} {cs : List C} {own : Bool} {v : Value} (hb : h[i]? = some (.cells cs own)) (hl : o + n ≤ cs.length) (hs : ((cs.drop o).take n).all isStrC = true) (hv : VR φ (.c (.sl i o n 1)) v) :
    (n = 0 ∧ ∃ a, v = .slice a 0 0) ∨ ∃ bk off c, v = .slice (some ⟨bk, off, none⟩) n c ∧ n ≤ c ∧ bk < w.heap.size ∧ ∀ (j : Nat) x, (((cs.drop o).take n).map fun c => (⟨(strC c).toArray⟩ : ByteArray))[j]? = some x → w.cell? ⟨bk, off + j, none⟩ = some (.string x) := by
  rcases hv with ⟨h0, a, ha⟩ | ⟨p, cap, hp, hv, hn, hc, ht⟩
  · exact .inl ⟨h0, a, ha⟩
  · right
    have hi : lkp h i = some (.cells cs own) := hb
    obtain ⟨cur, e, fr, h1, h2, h3, h4, h5⟩ := hh.blk i _ p hi hp
    refine ⟨p.b, p.o + o, cap, hv, hn, (Array.getElem?_eq_some_iff.1 h1).1, fun j x hx => ?_⟩
    rw [List.getElem?_map] at hx
    obtain ⟨c, hc1, hc2⟩ := Option.map_eq_some_iff.1 hx
    have hst := all_get hs hc1
    rw [List.getElem?_take] at hc1
    split at hc1
    · rw [List.getElem?_drop] at hc1
      obtain ⟨v1, hv1, hv2⟩ := h4 (o + j) c hc1
      unfold World.cell?
      simp only
      rw [h1]
      simp only [Option.isSome_none, Bool.false_eq_true, if_false]
      rw [Nat.add_assoc, hv1]
      cases c with
      | str s =>
        have hv2 : v1 = .string ⟨s.toArray⟩ := hv2
        rw [hv2, ← hc2]
        rfl
      | _ => cases hst
    · cases hc1
end Go.Proofs.YtgpafbbnobanbaaGreatDoor.AM
/- Contracts: signs, digits, the reference's text of a rack. -/
namespace Go.Proofs.YtgpafbbnobanbaaGreatDoor.AM
open Go
set_option maxRecDepth 1000000
set_option linter.unusedSimpArgs false
set_option linter.unusedVariables false
theorem c_impl_colorText {c : Int} (h : 0 ≤ c ∧ c ≤ 5) : fnI pr np 61 [.c (.int .i64 c)] [] = some (.c (.str [chB c]), []) := by
  rcases six_of h with rfl | rfl | rfl | rfl | rfl | rfl
  all_goals exact (fnI_iff pr np).2 ⟨30, by kernel_rfl⟩
end Go.Proofs.YtgpafbbnobanbaaGreatDoor.AM
/- Cells that hold texts. -/
namespace Go.Proofs.YtgpafbbnobanbaaGreatDoor.AM
open Go
set_option maxRecDepth 1000000
set_option linter.unusedSimpArgs false
def strs (O : List (List UInt8)) : List C := O.map C.str
@[simp] theorem strs_len (O : List (List UInt8)) : (strs O).length = O.length := by simp [strs]
@[simp] theorem strs_ids (O : List (List UInt8)) : cids (strs O) = [] := by
  induction O with
  | nil => rfl
  | cons x O ih => simp only [strs, List.map_cons, cids] at ih ⊢; rw [ih]; rfl
@[simp] theorem strs_cmp (g : Nat → Nat) (O : List (List UInt8)) : cmp g (strs O) = strs O := cmp_pure (strs_ids O)
@[simp] theorem strs_dead (O : List (List UInt8)) : noDead (strs O) = true := by
  induction O with
  | nil => rfl
  | cons x O ih => simp only [strs, List.map_cons, noDead] at ih ⊢; exact ih
theorem strs_app (A B : List (List UInt8)) : strs (A ++ B) = strs A ++ strs B := by simp [strs]
theorem strs_get {P : List (List UInt8)} {k : Nat} (hk : k < P.length) : ((strs P).drop k).take 1 = [C.str (P.getD k [])] := by
  unfold strs
  rw [List.drop_eq_getElem_cons (by simpa using hk)]
  simp [List.getD_eq_getElem?_getD, List.getElem?_eq_getElem hk]
theorem strs_take (O : List (List UInt8)) : (strs O).take O.length = strs O := List.take_of_length_le (by simp)
theorem strs_isStr (O : List (List UInt8)) : (strs O).all isStrC = true := by
  unfold strs
  rw [List.all_map]
  exact List.all_eq_true.2 fun _ _ => rfl
theorem strs_strC (O : List (List UInt8)) : (strs O).map strC = O := by
  unfold strs
  rw [List.map_map]
  conv => rhs; rw [← List.map_id O]
  rfl
end Go.Proofs.YtgpafbbnobanbaaGreatDoor.AM
/- Contracts: the implementation's text of a rack. -/
namespace Go.Proofs.YtgpafbbnobanbaaGreatDoor.AM
open Go
set_option maxRecDepth 1000000
set_option linter.unusedSimpArgs false
set_option linter.unusedVariables false
theorem c_join (O : List (List UInt8)) (sep : List UInt8) (o : Bool) (hn : O.length ≤ 1000) (hl : (Lib.join O sep).length ≤ 140737488355328) : fnI pr np 62 [.c (.sl 0 0 O.length 1), .c (.str sep)] [.cells (strs O) o] = some (.c (.str (Lib.join O sep)), [.cells (strs O) o]) := by
  refine (fnI_iff pr np).2 ⟨1, ?_⟩
  have e1 : ((strs O).drop 0).take O.length = strs O := strs_take O
  show (if 0 + O.length ≤ (strs O).length ∧ O.length ≤ 140737488355328 ∧ (((strs O).drop 0).take O.length).all isStrC = true ∧ (Lib.join ((((strs O).drop 0).take O.length).map strC) sep).length ≤ 140737488355328 then some (V.c (.str (Lib.join ((((strs O).drop 0).take O.length).map strC) sep)), [Blk.cells (strs O) o]) else none) = _
  rw [e1, strs_strC, if_pos ⟨by simp, by omega, strs_isStr O, hl⟩]
def parts (r : List Int) (i : Nat) : List (List UInt8) := (List.range i).map (tbT r)
theorem parts_len (r : List Int) (i : Nat) : (parts r i).length = i := by simp [parts]
theorem parts_succ (r : List Int) (i : Nat) : parts r (i + 1) = parts r i ++ [tbT r i] := by simp [parts, List.range_succ]
theorem parts_join (r : List Int) : Lib.join (parts r 6) [47] = preT r 6 := by
  simp [parts, preT, sepT, Lib.join, List.range, List.range.loop]
def pS (i : Nat) : C := .sl 0 0 i 1
def pH (r : List Int) (i : Nat) : Heap := [.cells (strs (parts r i)) true]
theorem callS_slz {F : Fns} {f n sz : Nat} {rest : List V} {b : Blk} {v : V} {ns : Heap} (hre : rest.flatMap V.ids = []) (hbi : b.ids = []) (hF : F f (.c (.sl 0 0 n sz) :: rest) [b] = some (v, b :: ns)) (i : Nat) (H : HF) (base : Nat) (hb : (H i == some b) = true) :
    callA F f (.c (.sl i 0 n sz) :: rest) H base = some (v.mp (back [i] base), ns.map (Blk.mp (back [i] base)), [(i, b)]) := by
  have hb : H i = some b := by simpa using hb
  exact callA_one (x := .c (.sl i 0 n sz)) hb (by simp) (by simp) hre hbi hF base
theorem c_impl_rackText (r : List Int) (h : RackOK r) : fnI pr np 26 [.agg (r.map (C.int .i64))] [] = some (.c (.str (preT r 6)), []) := by
  have hr := h.len
  have h24 := take24 hr
  rw [fb (fn := a26) rfl rfl rfl]
  simp [a26, hr, h24, sub]
  rw [loop_to (fun i => ([(3, V.c (pS i)), (10, V.agg (r.map (C.int .i64))), (11, V.c (C.int .i64 i))], pH r i)) 6]
  · have hj : (Lib.join (parts r 6) [47]).length ≤ 140737488355328 := by
      rw [parts_join]
      have := preT_len hr 6 (by omega)
      omega
    have hJ := c_join (parts r 6) [47] true (by rw [parts_len]; omega) hj
    rw [parts_len, parts_join] at hJ
    have hc := callS_slz (rest := [.c (.str [47])]) rfl (by simp) hJ
    simp [pS, pH, hc, sub]
  · simp [pS, pH, sub]
    rfl
  · intro i hi
    have hiI : (i : Int) < 6 := by omega
    have wi := wrapS (k := i) (by omega)
    have ht4 := tbT_len hr hi
    have htl := tubeAt_len hr hi
    have hrow : ((r.map (C.int .i64)).drop (i * 4)).take 4 = (tubeAt r i).map (C.int .i64) := by unfold tubeAt; rw [List.map_take, List.map_drop]
    have step : ∀ k, k < 4 → ∃ x, 0 ≤ x ∧ x ≤ 5 ∧ (((tubeAt r i).map (C.int .i64)).drop k).take 1 = [C.int .i64 x] ∧ (tbT r i).take (k + 1) = (tbT r i).take k ++ [chB x] := fun k hk => by
      have hc := tube_col (h.t4 hi) (h.tv hi) hk
      refine ⟨_, hc.1, hc.2, ?_, by rw [take_one _ (by omega), tbT_get hr hi hk]⟩
      rw [List.drop_eq_getElem_cons (by simp; omega)]
      simp [List.getD_eq_getElem?_getD, List.getElem?_eq_getElem (show k < (tubeAt r i).length by omega)]
    have inner : ∀ (k : Nat), k < 4 → ((tbT r i).take k).length + 1 ≤ 9223372036854775807 := fun k hk => by simp; omega
    have hend : (tbT r i).take 4 = tbT r i := List.take_of_length_le (by omega)
    have hroom : i + 1 ≤ 68719476736 := by omega
    have hi5 : i ≤ 5 := by omega
    have tk := strs_take (parts r i)
    rw [parts_len] at tk
    have e1 : strs (parts r i) ++ [C.str (tbT r i)] = strs (parts r (i + 1)) := by rw [parts_succ, strs_app]; rfl
    have pl := parts_len r i
    have t4 : ((tubeAt r i).map (C.int .i64)).take 4 = (tubeAt r i).map (C.int .i64) := List.take_of_length_le (by simp; omega)
    simp [hiI, hi, hi5, hr, hrow, htl, pS, pH, setAt_all, pl, sub]
    rw [loop_to (fun k => ([(3, V.c (C.sl 0 0 i 1)), (6, V.c (C.str ((tbT r i).take k))), (10, V.agg (r.map (C.int .i64))), (11, V.c (C.int .i64 i)), (14, V.agg ((tubeAt r i).map (C.int .i64))), (15, V.c (C.int .i64 k))], [Blk.cells (strs (parts r i)) true])) 4]
    · simp [hend, tk, e1, pl, hroom, wi, sub]
    · simp [htl, pl, t4, sub]
    · intro k hk
      obtain ⟨x, x0, x5, g, tk2⟩ := step k hk
      have hkI : (k : Int) < 4 := by omega
      have wk := wrapS (k := k) (by omega)
      have b1 := inner k hk
      have hct := callA_pure (c_impl_colorText ⟨x0, x5⟩) (by simp) (by simp)
      rw [tk2]
      have hk3 : k ≤ 3 := by omega
      generalize (tbT r i).take k = q at *
      simp [hkI, hk, hk3, htl, pl, g, hct, b1, wk, sub]
end Go.Proofs.YtgpafbbnobanbaaGreatDoor.AM
/- Contracts: pours that are useful, the text of a rack, numbers and words. -/
namespace Go.Proofs.YtgpafbbnobanbaaGreatDoor.AM
open Go
set_option maxRecDepth 1000000
set_option linter.unusedSimpArgs false
set_option linter.unusedVariables false
theorem c_isRack1 {r : List Int} (h : RackOK r) : fnI pr np 25 [.agg (r.map (C.int .i64))] [] = some (.c (.bool true), []) := by
  have := c_impl_IsRack r h.len
  rwa [h.val] at this
theorem c_UsefulPours (r : List Int) (h : RackOK r) : fnI pr np 10 [.agg (r.map (C.int .i64))] [] = some (.tup [.c (.sl 0 0 (usefulL r).length 2), .c (.bool true)], [.cells (flatC (usefulL r) ++ padC r) true]) := by
  have hr := h.len
  have h24 := take24 hr
  have h1 := callA_pure (c_isRack1 h) (by simp) (by simp)
  have h2 := callA_new (c_impl_useful r h) (by simp)
  rw [fb (fn := a10) rfl rfl rfl]
  simp [a10, hr, h24, h1, h2, sub, cids_app, cmp_app]
theorem c_RackText (r : List Int) (h : RackOK r) : fnI pr np 9 [.agg (r.map (C.int .i64))] [] = some (.tup [.c (.str (preT r 6)), .c (.bool true)], []) := by
  have hr := h.len
  have h24 := take24 hr
  have h1 := callA_pure (c_isRack1 h) (by simp) (by simp)
  have h2 := callA_pure (c_impl_rackText r h) (by simp) (by simp)
  rw [fb (fn := a9) rfl rfl rfl]
  simp [a9, hr, h24, h1, h2, sub]
/-! ### numbers -/
theorem c_itoaZ (n : Int) (h : -9223372036854775808 ≤ n ∧ n ≤ 9223372036854775807) : fnI pr np 82 [.c (.int .i64 n)] [] = some (.c (.str (Lib.itoa n)), []) := by
  refine (fnI_iff pr np).2 ⟨1, ?_⟩
  show (if (-9223372036854775808 : Int) ≤ n ∧ n ≤ 9223372036854775807 then some (V.c (C.str (Lib.itoa n)), ([] : Heap)) else none) = _
  rw [if_pos h]
theorem c_FormatInt (n : Int) (h : -999999 ≤ n ∧ n ≤ 999999) : fnI pr np 37 [.c (.int .i64 n)] [] = some (.tup [.c (.str (Lib.itoa n)), .c (.bool true)], []) := by
  have h0 := callA_pure (c_impl_within n (-999999) 999999) (by simp) (by simp)
  have h1 := callA_pure (c_itoaZ n (by omega)) (by simp) (by simp)
  rw [fb (fn := a37) rfl rfl rfl]
  simp [h.1, h.2] at h0
  simp [a37, h0, h1, sub]
def wordT (n : Int) (ok : Bool) : List UInt8 := if ok = true then Lib.itoa n else [63]
theorem c_vWord (n : Int) (ok : Bool) (h : -999999 ≤ n ∧ n ≤ 999999) : fnI pr np 17 [.c (.int .i64 n), .c (.bool ok)] [] = some (.c (.str (wordT n ok)), []) := by
  have h1 := callA_pure (c_FormatInt n h) (by simp) (by simp)
  rw [fb (fn := a17) rfl rfl rfl]
  unfold wordT
  cases ok <;> simp [a17, h1, sub]
theorem c_number (n : Int) (ok : Bool) (h : -999999 ≤ n ∧ n ≤ 999999) : fnI pr np 103 [.c (.int .i64 n), .c (.bool ok)] [] = some (.c (.str (wordT n ok)), []) := by
  have h1 := callA_pure (c_itoaZ n (by omega)) (by simp) (by simp)
  rw [fb (fn := a103) rfl rfl rfl]
  unfold wordT
  cases ok <;> simp [a103, h1, sub]
/-! ### lists of pours as texts -/
def pT (p : Nat × Nat) : List UInt8 := [dgB p.1, 62, dgB p.2]
def noneT : List UInt8 := [110, 111, 110, 101]
def listT (L : List (List UInt8)) : List UInt8 := if L = [] then noneT else Lib.join L [32]
def pouredT (l : List (Nat × Nat)) (ok : Bool) : List UInt8 := if ok = true then listT (l.map pT) else [63]
theorem tail_pT (l : List (Nat × Nat)) : (Lib.joinTail [32] (l.map pT)).length = 4 * l.length := by
  induction l with
  | nil => rfl
  | cons p l ih =>
    unfold Lib.joinTail at ih ⊢
    rw [List.map_cons, List.map_cons, List.flatten_cons, List.length_append, ih]
    simp [pT]
    omega
theorem join_pT (l : List (Nat × Nat)) : (Lib.join (l.map pT) [32]).length ≤ 4 * l.length := by
  cases l with
  | nil => rw [List.map_nil, Lib.join_nil]; simp
  | cons p l =>
    rw [List.map_cons, Lib.join_cons, List.length_append, tail_pT]
    simp [pT]
    omega
theorem itoa_dg {a : Nat} (h : a < 6) : Lib.itoa (a : Int) = [dgB (a : Int)] := by
  unfold Lib.itoa dgB
  rw [if_neg (by omega), Int.toNat_natCast, Lib.decDigits_one (by omega)]
theorem dg_ne {a : Nat} (h : a < 6) : (dgB (a : Int) == 32) = false := by
  rcases Way.six h with rfl | rfl | rfl | rfl | rfl | rfl <;> decide
theorem pT_no {p : Nat × Nat} (h : p.1 < 6 ∧ p.2 < 6) : ((pT p).any fun b => b == 32) = false := by
  unfold pT
  simp [dg_ne h.1, dg_ne h.2]
theorem c_itoaD {a : Nat} (h : a < 6) : fnI pr np 82 [.c (.int .i64 a)] [] = some (.c (.str [dgB (a : Int)]), []) := by
  rw [← itoa_dg h]; exact c_itoaZ a (by omega)
theorem c_listed (L : List (List UInt8)) (hn : L.length ≤ 1000) (hj : (Lib.join L [32]).length ≤ 140737488355328) (o : Bool) : fnI pr np 112 [.c (.sl 0 0 L.length 1)] [.cells (strs L) o] = some (.c (.str (listT L)), [.cells (strs L) o]) := by
  have hJ := fun (i : Nat) (H : HF) hb base => callA_s (rest := [.c (.str [32])]) (H := H) (i := i) hb rfl (by simp) (c_join L [32] o hn hj) (by simp) base
  rw [fb (fn := a112) rfl rfl rfl]
  unfold listT
  cases L with
  | nil => simp [a112, noneT, sub]
  | cons x L =>
    generalize Lib.join (x :: L) [32] = J at *
    have hn0 : ¬ ((L.length : Int) + 1) = 0 := by omega
    have hn1 : (((L.length : Int) + 1) == 0) = false := by simpa using hn0
    simp at hJ
    simp [a112, hJ, hn0, hn1, sub]
theorem pairs_at {l : List (Nat × Nat)} (h : pairsOK l) {k : Nat} (hk : k < l.length) : (l[k]'hk).1 < 6 ∧ (l[k]'hk).2 < 6 := h _ (List.getElem_mem hk)
theorem take_pT {l : List (Nat × Nat)} {k : Nat} (hk : k < l.length) : strs ((l.take (k + 1)).map pT) = strs ((l.take k).map pT) ++ [C.str (pT (l[k]'hk))] := by
  rw [List.take_succ_eq_append_getElem hk, List.map_append, strs_app]; rfl
theorem strs_takeP {l : List (Nat × Nat)} {k : Nat} (hk : k ≤ l.length) : (strs ((l.take k).map pT)).take k = strs ((l.take k).map pT) := List.take_of_length_le (by simp; omega)
set_option maxHeartbeats 4000000 in
theorem c_poured (l : List (Nat × Nat)) (hl : pairsOK l) (hn : l.length ≤ 1000) (ok : Bool) (z : List C) (hz : cids z = []) (o : Bool) : fnI pr np 99 [.c (.sl 0 0 l.length 2), .c (.bool ok)] [.cells (flatC l ++ z) o] = some (.c (.str (pouredT l ok)), [.cells (flatC l ++ z) o]) := by
  have hzc : ∀ g, cmp g z = z := fun g => cmp_pure hz
  rw [fb (fn := a99) rfl rfl rfl]
  unfold pouredT
  cases ok with
  | false => simp [a99, hz, hzc, sub, cids_app, cmp_app]
  | true =>
    simp [a99, hz, hzc, sub, cids_app, cmp_app]
    rw [loop_to (fun k => ([(5, V.c (C.sl 1 0 k 1)), (10, V.c (C.sl 0 0 l.length 2)), (11, V.c (C.int .i64 l.length)), (12, V.c (C.int .i64 k))], [Blk.cells (flatC l ++ z) o, Blk.cells (strs ((l.take k).map pT)) true])) l.length]
    · have hJ := c_listed (l.map pT) (by simpa using hn) (by have := join_pT l; omega) true
      rw [List.length_map] at hJ
      have hJ := fun (i : Nat) (H : HF) hb base => callA_s (rest := []) (H := H) (i := i) hb rfl (by simp) hJ (by simp) base
      simp [hJ, hz, hzc, sub, cids_app, cmp_app]
    · simp [strs, hz, hzc, sub, cids_app, cmp_app]
    · intro k hk
      have hk' : (k : Int) < (l.length : Int) := by omega
      have wk := wrapS (k := k) (by omega)
      have g1 := flatC_get l z k hk
      have b3 : k * 2 + 2 ≤ l.length * 2 := by omega
      obtain ⟨h1, h2⟩ := pairs_at hl hk
      have i1 := callA_pure (c_itoaD h1) (by simp) (by simp)
      have i2 := callA_pure (c_itoaD h2) (by simp) (by simp)
      have hroom : k + 1 ≤ 68719476736 := by omega
      have tk := strs_takeP (l := l) (k := k) (by omega)
      have hmin : min k l.length = k := by omega
      rw [take_pT hk]
      have b4 : k * 2 + 2 ≤ l.length * 2 + z.length := by omega
      generalize l[k]'hk = p at *
      obtain ⟨a, b⟩ := p
      have hp : pT (a, b) = [dgB (a : Int), 62, dgB (b : Int)] := rfl
      simp only at *
      simp [-List.map_take, hp, b4, hk, hk', g1, b3, i1, i2, hroom, tk, wk, hz, hzc, hmin, setAt_all, sub, cids_app, cmp_app]
end Go.Proofs.YtgpafbbnobanbaaGreatDoor.AM
/- Contracts: the law's words, the console's words. -/
namespace Go.Proofs.YtgpafbbnobanbaaGreatDoor.AM
open Go
set_option maxRecDepth 1000000
set_option linter.unusedSimpArgs false
set_option linter.unusedVariables false
set_option maxHeartbeats 4000000 in
theorem c_JoinStrings (L : List (List UInt8)) (h0 : L ≠ []) (h3 : ∀ s, s ∈ L → s.length = 3 ∧ (s.any fun b => b == 32) = false) (hn : L.length ≤ 1000) (hj : (Lib.join L [32]).length ≤ 140737488355328) (o : Bool) : fnI pr np 36 [.c (.sl 0 0 L.length 1), .c (.str [32])] [.cells (strs L) o] = some (.tup [.c (.str (Lib.join L [32])), .c (.bool true)], [.cells (strs L) o]) := by
  have hJ := fun (i : Nat) (H : HF) hb base => callA_s (rest := [.c (.str [32])]) (H := H) (i := i) hb rfl (by simp) (c_join L [32] o hn hj) (by simp) base
  have hpos : 0 < L.length := List.length_pos_iff.2 h0
  have hne : ¬ (L.length : Int) = 0 := by omega
  have hneb : ((L.length : Int) == 0) = false := by simpa using hne
  have w0 : IntKind.i64.wrap ((L.length : Int) - 1) = (L.length : Int) - 1 := wrapI (by omega) (by omega)
  rw [fb (fn := a36) rfl rfl rfl]
  simp [a36, hne, hneb, h0, w0]
  rw [loop_to (fun k => ([(0, V.c (C.sl 0 0 L.length 1)), (1, V.c (C.str [32])), (6, V.c (C.int .i64 ((L.length : Int) - 1 + 3 * (k : Int)))), (20, V.c (C.sl 0 0 L.length 1)), (21, V.c (C.int .i64 L.length)), (22, V.c (C.int .i64 k))], [Blk.cells (strs L) o])) L.length]
  · simp [hJ, sub]
  · simp [sub]
  · intro k hk
    have hk' : (k : Int) < (L.length : Int) := by omega
    have wk := wrapS (k := k) (by omega)
    have g := strs_get hk
    have b1 : k + 1 ≤ L.length := by omega
    have hm : L.getD k [] ∈ L := by rw [List.getD_eq_getElem?_getD, List.getElem?_eq_getElem hk]; exact List.getElem_mem hk
    obtain ⟨l3, h32⟩ := h3 _ hm
    generalize L.getD k [] = x at *
    have hc := c_contains x 32
    rw [idx_mem, h32] at hc
    have hc := callA_pure hc (by simp) (by simp)
    have wz : IntKind.i64.wrap ((L.length : Int) - 1 + 3 * (k : Int) + 3) = (L.length : Int) - 1 + 3 * ((k + 1 : Nat) : Int) := by rw [wrapI (by omega) (by omega)]; omega
    have hs : ¬ 4000 < (L.length : Int) - 1 + 3 * ((k + 1 : Nat) : Int) := by omega
    have e3 : (3 * ((k + 1 : Nat) : Int)) = 3 * ((k : Int) + 1) := by omega
    rw [e3] at wz hs
    simp [hk, hk', g, b1, l3, hc, wz, hs, wk, sub]
theorem two_get {X : List C} {n : Nat} {a b : C} (h : (X.drop n).take 2 = [a, b]) : (X.drop n).take 1 = [a] ∧ (X.drop (n + 1)).take 1 = [b] := by
  have h1 : (X.drop n).take 1 = ((X.drop n).take 2).take 1 := by rw [List.take_take]; rfl
  have h2 : (X.drop (n + 1)).take 1 = ((X.drop n).take 2).drop 1 := by rw [List.drop_take, List.drop_drop]
  rw [h1, h2, h]; exact ⟨rfl, rfl⟩
set_option maxHeartbeats 4000000 in
theorem c_vPourText (l : List (Nat × Nat)) (hl : pairsOK l) (hn : l.length ≤ 1000) (ok : Bool) (z : List C) (hz : cids z = []) (o : Bool) : fnI pr np 16 [.c (.sl 0 0 l.length 2), .c (.bool ok)] [.cells (flatC l ++ z) o] = some (.c (.str (pouredT l ok)), [.cells (flatC l ++ z) o]) := by
  have hzc : ∀ g, cmp g z = z := fun g => cmp_pure hz
  rw [fb (fn := a16) rfl rfl rfl]
  unfold pouredT listT
  cases ok with
  | false => simp [a16, hz, hzc, sub, cids_app, cmp_app]
  | true =>
    simp [a16, hz, hzc, sub, cids_app, cmp_app]
    rw [loop_to (fun k => ([(0, V.c (C.sl 0 0 l.length 2)), (5, V.c (C.sl 1 0 k 1)), (6, V.c (C.int .i64 k))], [Blk.cells (flatC l ++ z) o, Blk.cells (strs ((l.take k).map pT)) true])) l.length]
    · cases hc : l with
      | nil => simp [noneT, strs, flatC, flatI, hz, hzc, sub, cids_app, cmp_app]
      | cons p l0 =>
        rw [← hc]
        have hnn : l.map pT ≠ [] := by rw [hc]; simp
        have hJ := c_JoinStrings (l.map pT) hnn (fun s hs => by
          obtain ⟨q, hq, rfl⟩ := List.mem_map.1 hs
          exact ⟨rfl, pT_no (hl q hq)⟩) (by simpa using hn) (by have := join_pT l; omega) true
        rw [List.length_map] at hJ
        have hJ := fun (i : Nat) (H : HF) hb base => callA_s (rest := [.c (.str [32])]) (H := H) (i := i) hb rfl (by simp) hJ (by simp) base
        have hpos : 0 < l.length := by rw [hc]; simp
        have hne : ¬ (l.length : Int) = 0 := by omega
        have hneb : ((l.length : Int) == 0) = false := by simpa using hne
        have hl0 : ¬ l = [] := by rw [hc]; simp
        clear hc
        generalize Lib.join (l.map pT) [32] = J at *
        simp [hJ, hne, hneb, hl0, hz, hzc, sub, cids_app, cmp_app]
    · simp [strs, hz, hzc, sub, cids_app, cmp_app]
    · intro k hk
      have hk' : (k : Int) < (l.length : Int) := by omega
      have wk := wrapS (k := k) (by omega)
      obtain ⟨g1, g2⟩ := two_get (flatC_get l z k hk)
      obtain ⟨h1, h2⟩ := pairs_at hl hk
      have b1 : k * 2 + 2 ≤ l.length * 2 + z.length := by omega
      have b2 : k * 2 + 1 ≤ l.length * 2 + z.length := by omega
      have b3 : k * 2 + 1 + 1 ≤ l.length * 2 + z.length := by omega
      have i1 := c_vWord (l[k]'hk).1 true (by omega)
      have i2 := c_vWord (l[k]'hk).2 true (by omega)
      rw [show wordT ((l[k]'hk).1 : Int) true = [dgB ((l[k]'hk).1 : Int)] from itoa_dg h1] at i1
      rw [show wordT ((l[k]'hk).2 : Int) true = [dgB ((l[k]'hk).2 : Int)] from itoa_dg h2] at i2
      have i1 := callA_pure i1 (by simp) (by simp)
      have i2 := callA_pure i2 (by simp) (by simp)
      have hroom : k + 1 ≤ 68719476736 := by omega
      have tk := strs_takeP (l := l) (k := k) (by omega)
      have hmin : min k l.length = k := by omega
      rw [take_pT hk]
      generalize l[k]'hk = p at *
      obtain ⟨a, b⟩ := p
      have hp : pT (a, b) = [dgB (a : Int), 62, dgB (b : Int)] := rfl
      simp only at *
      simp [-List.map_take, hp, hk, hk', g1, g2, b1, b2, b3, i1, i2, hroom, tk, wk, hz, hzc, hmin, setAt_all, sub, cids_app, cmp_app]
end Go.Proofs.YtgpafbbnobanbaaGreatDoor.AM
/- Contracts: pours of any rack at any places, layers put and taken, tubes exchanged. -/
namespace Go.Proofs.YtgpafbbnobanbaaGreatDoor.AM
open Go
set_option maxRecDepth 1000000
set_option linter.unusedSimpArgs false
set_option linter.unusedVariables false
theorem set_ints (r : List Int) (i : Nat) (c : Int) : (r.map (C.int .i64)).set i (C.int .i64 c) = (r.set i c).map (C.int .i64) := List.map_set.symm
/-! ### pours -/
def pB (r : List Int) (i j : Int) : Bool := okRack r && (placeB i && placeB j) && canP r i.toNat j.toNat
def pR (r : List Int) (i j : Int) : List Int := if pB r i j = true then pourR r i.toNat j.toNat else List.replicate 24 0
def pN (r : List Int) (i j : Int) : Int := if pB r i j = true then (pourN r i.toNat j.toNat : Int) else 0
theorem pR_len {r : List Int} (hr : r.length = 24) (i j : Int) : (pR r i j).length = 24 := by
  unfold pR; split
  · exact pourR_len hr _ _
  · simp
def pV (r : List Int) (i j : Int) : V := .tup [.agg ((pR r i j).map (C.int .i64)), .c (.int .i64 (pN r i j)), .c (.bool (pB r i j))]
theorem c_spec_Pour (r : List Int) (hr : r.length = 24) (i j : Int) : fnI pr np 135 [.agg (r.map (C.int .i64)), .c (.int .i64 i), .c (.int .i64 j)] [] = some (pV r i j, []) := by
  have h0 := callA_pure (c_rack_spec r hr) (by simp) (by simp)
  have h1 := callA_pure (c_spec_l2Place i) (by simp) (by simp)
  have h2 := callA_pure (c_spec_l2Place j) (by simp) (by simp)
  have h24 := take24 hr
  rw [fb (fn := a135) rfl rfl rfl]
  unfold pV pR pN pB
  cases hq : okRack r with
  | false => rw [hq] at h0; simp [a135, hr, h24, h0, setAt_all, sub]
  | true =>
    rw [hq] at h0
    cases q1 : placeB i with
    | false => rw [q1] at h1; simp [a135, hr, h24, h0, h1, setAt_all, sub]
    | true =>
      rw [q1] at h1
      cases q2 : placeB j with
      | false => rw [q2] at h2; simp [a135, hr, h24, h0, h1, h2, setAt_all, sub]
      | true =>
        rw [q2] at h2
        obtain ⟨i', rfl, hi, ti⟩ := place_nat q1
        obtain ⟨j', rfl, hj, tj⟩ := place_nat q2
        have h := rackOK hr hq
        have hcp := callA_pure (c_spec_l2Can _ h hi hj) (by simp) (by simp)
        have hp := callA_pure (c_spec_l2Pour _ h hi hj) (by simp) (by simp)
        have hpl := pourR_len hr i' j'
        have hp24 := take24 hpl
        cases hc : canP r i' j' with
        | false => rw [hc] at hcp; simp [a135, hr, h24, h0, h1, h2, hc, hcp, setAt_all, sub]
        | true => rw [hc] at hcp; simp [a135, hr, h24, h0, h1, h2, hc, hcp, hp, hpl, hp24, setAt_all, sub]
/-! ### one layer more -/
def colB (c : Int) : Bool := decide (1 ≤ c) && decide (c ≤ 5)
def ptB (r : List Int) (i c : Int) : Bool := okRack r && placeB i && colB c && !(layN (tubeAt r i.toNat) == 4)
def ptR (r : List Int) (i c : Int) : List Int := if ptB r i c = true then r.set (i.toNat * 4 + layN (tubeAt r i.toNat)) c else List.replicate 24 0
theorem ptR_len {r : List Int} (hr : r.length = 24) (i c : Int) : (ptR r i c).length = 24 := by
  unfold ptR; split
  · simp [hr]
  · simp
def ptV (r : List Int) (i c : Int) : V := .tup [.agg ((ptR r i c).map (C.int .i64)), .c (.bool (ptB r i c))]
theorem c_spec_PutLayer (r : List Int) (hr : r.length = 24) (i c : Int) : fnI pr np 136 [.agg (r.map (C.int .i64)), .c (.int .i64 i), .c (.int .i64 c)] [] = some (ptV r i c, []) := by
  have h0 := callA_pure (c_rack_spec r hr) (by simp) (by simp)
  have h1 := callA_pure (c_spec_l2Place i) (by simp) (by simp)
  have hcol := callA_pure (c_spec_l1In c 1 5) (by simp) (by simp)
  rw [show (decide (1 ≤ c) && decide (c ≤ 5)) = colB c from rfl] at hcol
  have h24 := take24 hr
  rw [fb (fn := a136) rfl rfl rfl]
  unfold ptV ptR ptB
  cases hq : okRack r with
  | false => rw [hq] at h0; simp [a136, hr, h24, h0, setAt_all, sub]
  | true =>
    rw [hq] at h0
    cases q1 : placeB i with
    | false => rw [q1] at h1; simp [a136, hr, h24, h0, h1, setAt_all, sub]
    | true =>
      rw [q1] at h1
      obtain ⟨i', rfl, hi, ti⟩ := place_nat q1
      have h := rackOK hr hq
      cases qc : colB c with
      | false => rw [qc] at hcol; simp [a136, hr, h24, h0, h1, hcol, setAt_all, sub]
      | true =>
        rw [qc] at hcol
        have hl := callA_pure (c_many _ (h.t4 hi) (h.tv hi)) (by simp) (by simp)
        have tI := cells_tube r i'
        have l4 := (h.top hi).l4
        have li : i' * 4 + 4 ≤ 24 := by omega
        have hi' : (i' : Int) < 6 := by omega
        simp only [Int.toNat_natCast]
        generalize tubeAt r i' = A at *
        generalize layN A = f at *
        by_cases hf : f = 4
        · subst hf; simp [a136, hr, h24, h0, h1, hcol, hl, tI, li, hi, hi', setAt_all, sub]
        · have hf' : ¬ (f : Int) = 4 := by omega
          have f4 : f < 4 := by omega
          have f4' : (f : Int) < 4 := by omega
          have b1 : i' * 4 + f + 1 ≤ 24 := by omega
          obtain ⟨R, hR⟩ : ∃ R, R = r.set (i' * 4 + f) c := ⟨_, rfl⟩
          have hRl : R.length = 24 := by rw [hR]; simp [hr]
          have hs := take24 hRl
          have hset := set_ints r (i' * 4 + f) c
          rw [← hR] at hset ⊢
          simp [a136, hr, h24, h0, h1, hcol, hl, tI, li, hi, hi', hf, hf', f4, f4', b1, hs, hset, hRl, setAt_all, setAt, sub]
/-! ### one layer less -/
def tkB (r : List Int) (i : Int) : Bool := okRack r && placeB i && !(layN (tubeAt r i.toNat) == 0)
def tkR (r : List Int) (i : Int) : List Int := if tkB r i = true then r.set (i.toNat * 4 + (layN (tubeAt r i.toNat) - 1)) 0 else List.replicate 24 0
def tkC (r : List Int) (i : Int) : Int := if tkB r i = true then r.getD (i.toNat * 4 + (layN (tubeAt r i.toNat) - 1)) 0 else 0
theorem tkR_len {r : List Int} (hr : r.length = 24) (i : Int) : (tkR r i).length = 24 := by
  unfold tkR; split
  · simp [hr]
  · simp
def tkV (r : List Int) (i : Int) : V := .tup [.agg ((tkR r i).map (C.int .i64)), .c (.int .i64 (tkC r i)), .c (.bool (tkB r i))]
theorem c_spec_TakeLayer (r : List Int) (hr : r.length = 24) (i : Int) : fnI pr np 137 [.agg (r.map (C.int .i64)), .c (.int .i64 i)] [] = some (tkV r i, []) := by
  have h0 := callA_pure (c_rack_spec r hr) (by simp) (by simp)
  have h1 := callA_pure (c_spec_l2Place i) (by simp) (by simp)
  have h24 := take24 hr
  rw [fb (fn := a137) rfl rfl rfl]
  unfold tkV tkR tkC tkB
  cases hq : okRack r with
  | false => rw [hq] at h0; simp [a137, hr, h24, h0, setAt_all, sub]
  | true =>
    rw [hq] at h0
    cases q1 : placeB i with
    | false => rw [q1] at h1; simp [a137, hr, h24, h0, h1, setAt_all, sub]
    | true =>
      rw [q1] at h1
      obtain ⟨i', rfl, hi, ti⟩ := place_nat q1
      have h := rackOK hr hq
      have hl := callA_pure (c_many _ (h.t4 hi) (h.tv hi)) (by simp) (by simp)
      have tI := cells_tube r i'
      have l4 := (h.top hi).l4
      have li : i' * 4 + 4 ≤ 24 := by omega
      have hi' : (i' : Int) < 6 := by omega
      simp only [Int.toNat_natCast]
      generalize tubeAt r i' = A at *
      generalize layN A = f at *
      by_cases hf : f = 0
      · subst hf; simp [a137, hr, h24, h0, h1, hl, tI, li, hi, hi', setAt_all, sub]
      · obtain ⟨g, rfl⟩ : ∃ g, f = g + 1 := ⟨f - 1, by omega⟩
        have hf' : ¬ (g : Int) + 1 = 0 := by omega
        have w : IntKind.i64.wrap (((g + 1 : Nat) : Int) - 1) = (g : Int) := by rw [wrapI (by omega) (by omega)]; omega
        have w' : IntKind.i64.wrap (g : Int) = (g : Int) := wrapI (by omega) (by omega)
        have f4 : g < 4 := by omega
        have f4' : (g : Int) < 4 := by omega
        have b1 : i' * 4 + g + 1 ≤ 24 := by omega
        have hg := drop_take1 (c := r) (j := i' * 4 + g) (by omega)
        obtain ⟨R, hR⟩ : ∃ R, R = r.set (i' * 4 + g) 0 := ⟨_, rfl⟩
        have hRl : R.length = 24 := by rw [hR]; simp [hr]
        have hs := take24 hRl
        have hset := set_ints r (i' * 4 + g) 0
        simp only [Nat.add_sub_cancel]
        rw [← hR] at hset ⊢
        simp [a137, hr, h24, h0, h1, hl, tI, li, hi, hi', hf', w, w', f4, f4', b1, hg, hs, hset, hRl, setAt_all, setAt, sub]
/-! ### tubes exchanged -/
def setI : List Int → Nat → List Int → List Int
  | r, _, [] => r
  | r, n, x :: xs => setI (r.set n x) (n + 1) xs
theorem setI_len : ∀ (xs r : List Int) (n : Nat), (setI r n xs).length = r.length
  | [], r, n => rfl
  | x :: xs, r, n => by rw [setI, setI_len xs]; simp
theorem setAt_ints : ∀ (xs r : List Int) (n : Nat), setAt (r.map (C.int .i64)) n (xs.map (C.int .i64)) = (setI r n xs).map (C.int .i64)
  | [], r, n => rfl
  | x :: xs, r, n => by
    rw [List.map_cons, setAt, setI, ← List.map_set]
    exact setAt_ints xs _ _
def swB (r : List Int) (i j : Int) : Bool := okRack r && (placeB i && placeB j)
def swT (r : List Int) (i j : Nat) : List Int := setI (setI r (i * 4) (tubeAt r j)) (j * 4) (tubeAt r i)
def swR (r : List Int) (i j : Int) : List Int := if swB r i j = true then swT r i.toNat j.toNat else List.replicate 24 0
theorem swR_len {r : List Int} (hr : r.length = 24) (i j : Int) : (swR r i j).length = 24 := by
  unfold swR; split
  · unfold swT; rw [setI_len, setI_len, hr]
  · simp
def swV (r : List Int) (i j : Int) : V := .tup [.agg ((swR r i j).map (C.int .i64)), .c (.bool (swB r i j))]
theorem c_spec_SwapTubes (r : List Int) (hr : r.length = 24) (i j : Int) : fnI pr np 138 [.agg (r.map (C.int .i64)), .c (.int .i64 i), .c (.int .i64 j)] [] = some (swV r i j, []) := by
  have h0 := callA_pure (c_rack_spec r hr) (by simp) (by simp)
  have h1 := callA_pure (c_spec_l2Place i) (by simp) (by simp)
  have h2 := callA_pure (c_spec_l2Place j) (by simp) (by simp)
  have h24 := take24 hr
  rw [fb (fn := a138) rfl rfl rfl]
  unfold swV swR swB
  cases hq : okRack r with
  | false => rw [hq] at h0; simp [a138, hr, h24, h0, setAt_all, sub]
  | true =>
    rw [hq] at h0
    cases q1 : placeB i with
    | false => rw [q1] at h1; simp [a138, hr, h24, h0, h1, setAt_all, sub]
    | true =>
      rw [q1] at h1
      cases q2 : placeB j with
      | false => rw [q2] at h2; simp [a138, hr, h24, h0, h1, h2, setAt_all, sub]
      | true =>
        rw [q2] at h2
        obtain ⟨i', rfl, hi, ti⟩ := place_nat q1
        obtain ⟨j', rfl, hj, tj⟩ := place_nat q2
        have h := rackOK hr hq
        have tI := cells_tube r i'
        have tJ := cells_tube r j'
        have li : i' * 4 + 4 ≤ 24 := by omega
        have lj : j' * 4 + 4 ≤ 24 := by omega
        have hi' : (i' : Int) < 6 := by omega
        have hj' : (j' : Int) < 6 := by omega
        have L1 := h.t4 hi
        have L2 := h.t4 hj
        have hs := take24 (r := swT r i' j') (by unfold swT; rw [setI_len, setI_len, hr])
        have q1 : ((tubeAt r i').map (C.int .i64)).take 4 = (tubeAt r i').map (C.int .i64) := List.take_of_length_le (by simp [L1])
        have q2 : ((tubeAt r j').map (C.int .i64)).take 4 = (tubeAt r j').map (C.int .i64) := List.take_of_length_le (by simp [L2])
        simp only [Int.toNat_natCast]
        unfold swT at hs ⊢
        generalize tubeAt r i' = A at *
        generalize tubeAt r j' = B at *
        simp [a138, hr, h24, h0, h1, h2, tI, tJ, li, lj, hi, hj, hi', hj', L1, L2, q1, q2, setAt_all, setAt_ints, setI_len, hs, idOf, stillE, madeA, sub]
end Go.Proofs.YtgpafbbnobanbaaGreatDoor.AM
/- Arrays of ints are compared; a pour moves at most four layers. -/
namespace Go.Proofs.YtgpafbbnobanbaaGreatDoor.AM
open Go
set_option maxRecDepth 1000000
set_option linter.unusedSimpArgs false
set_option linter.unusedVariables false
theorem conf_ints : ∀ (n : Nat) (x : List Int), x.length = n → conf (List.replicate n (.int .i64)) (x.map (C.int .i64)) = true
  | 0, [], _ => rfl
  | n + 1, a :: x, h => by
    have := conf_ints n x (by simpa using h)
    simp only [List.replicate_succ, List.map_cons, conf, conf1, this]
    rfl
  | 0, _ :: _, h => by simp at h
  | _ + 1, [], h => by simp at h
theorem conf24 (x : List Int) (h : x.length = 24) : conf [CK.int .i64, CK.int .i64, CK.int .i64, CK.int .i64, CK.int .i64, CK.int .i64, CK.int .i64, CK.int .i64, CK.int .i64, CK.int .i64, CK.int .i64, CK.int .i64, CK.int .i64, CK.int .i64, CK.int .i64, CK.int .i64, CK.int .i64, CK.int .i64, CK.int .i64, CK.int .i64, CK.int .i64, CK.int .i64, CK.int .i64, CK.int .i64] (x.map (C.int .i64)) = true := conf_ints 24 x h
theorem ints_inj (x y : List Int) : (x.map (C.int .i64) = y.map (C.int .i64)) = (x = y) := by
  apply propext
  constructor
  · intro h
    induction x generalizing y with
    | nil => cases y with
      | nil => rfl
      | cons b y => simp at h
    | cons a x ih => cases y with
      | nil => simp at h
      | cons b y =>
        simp only [List.map_cons, List.cons.injEq, C.int.injEq, true_and] at h
        rw [h.1, ih y h.2]
  · intro h; rw [h]
theorem pourN_le4 (r : List Int) (i j : Nat) : pourN r i j ≤ 4 := by unfold pourN; omega
end Go.Proofs.YtgpafbbnobanbaaGreatDoor.AM
/- Contracts: pours poured back. -/
namespace Go.Proofs.YtgpafbbnobanbaaGreatDoor.AM
open Go
set_option maxRecDepth 1000000
set_option linter.unusedSimpArgs false
set_option linter.unusedVariables false
theorem rackP_go {r : List Int} (hr : r.length = 24) (hv : rackP r = true) {i j : Nat} (hi : i < 6) (hj : j < 6) (hij : i ≠ j) {n : Nat} (h1 : n ≤ layN (tubeAt r i)) (h2 : layN (tubeAt r j) + n ≤ 4) {c : Int} (hc : 1 ≤ c ∧ c ≤ 5) : rackP (pourGo i j (layN (tubeAt r i)) (layN (tubeAt r j)) c n r) = true := by
  rw [rackP_iff]
  intro k hk
  have hti := rackP_tube hv hi
  have htj := rackP_tube hv hj
  have oi := top_ok (tubeAt_len hr hi) hti
  rw [tube_pourGo hij oi.l4 _ _ h1 h2]
  by_cases e1 : k = i
  · rw [if_pos e1]
    have := List.all_eq_true.1 (tubes_all takeT_all (tubeAt_len hr hi) hti) n (List.mem_range.2 (by have := oi.l4; omega))
    simp only [Bool.or_eq_true, decide_eq_true_eq] at this
    rcases this with h | h
    · omega
    · exact h
  · rw [if_neg e1]
    by_cases e2 : k = j
    · rw [if_pos e2]
      have := List.all_eq_true.1 (tubes_all putT_all (tubeAt_len hr hj) htj) n (List.mem_range.2 (by omega))
      simp only [Bool.or_eq_true, decide_eq_true_eq] at this
      rcases this with h | h
      · omega
      · refine List.all_eq_true.1 h _ ?_
        have : c = 1 ∨ c = 2 ∨ c = 3 ∨ c = 4 ∨ c = 5 := by omega
        rcases this with e | e | e | e | e <;> rw [e] <;> simp
    · rw [if_neg e2]
      exact rackP_tube hv hk
def bkT (r : List Int) (a b m : Nat) : List Int := pourGo b a (layN (tubeAt r b)) (layN (tubeAt r a)) (topOf (tubeAt r b)).1 m r
def bkM (r : List Int) (a b : Nat) : Int := min (topOf (tubeAt r b)).2 (4 - (layN (tubeAt r a) : Int))
/-- so far that the rack before is built -/
def bkC (r : List Int) (a b m : Int) : Bool := placeB a && placeB b && !(a == b) && inB m 1 (bkM r a.toNat b.toNat) && canP (bkT r a.toNat b.toNat m.toNat) a.toNat b.toNat
def bkE (r : List Int) (a b m : Int) : Bool := (pourR (bkT r a.toNat b.toNat m.toNat) a.toNat b.toNat == r) && ((pourN (bkT r a.toNat b.toNat m.toNat) a.toNat b.toNat : Int) == m)
def bkB (r : List Int) (a b m : Int) : Bool := bkC r a b m && bkE r a b m
def bkY (r : List Int) (a b m : Int) : List Int := if bkB r a b m = true then bkT r a.toNat b.toNat m.toNat else List.replicate 24 0
theorem bkT_len {r : List Int} (hr : r.length = 24) (a b m : Nat) : (bkT r a b m).length = 24 := by unfold bkT; rw [pourGo_len, hr]
theorem bkY_len {r : List Int} (hr : r.length = 24) (a b m : Int) : (bkY r a b m).length = 24 := by
  unfold bkY; split
  · exact bkT_len hr _ _ _
  · simp
theorem bk_ok {r : List Int} (h : RackOK r) {a b m : Nat} (ha : a < 6) (hb : b < 6) (hab : a ≠ b) (hm : inB (m : Int) 1 (bkM r a b) = true) : RackOK (bkT r a b m) := by
  have oa := h.top ha
  have ob := h.top hb
  simp only [inB, Bool.and_eq_true, decide_eq_true_eq] at hm
  unfold bkM at hm
  have := ob.nl; have := ob.cn; have := ob.c0; have := ob.c5; have := oa.l4
  refine ⟨bkT_len h.len _ _ _, rackP_go h.len h.val hb ha (fun e => hab e.symm) (by omega) (by omega) ⟨?_, by omega⟩⟩
  have : ¬ (topOf (tubeAt r b)).1 = 0 := by omega
  omega
def bkW (r : List Int) (a b m : Int) : V := .tup [.agg ((bkY r a b m).map (C.int .i64)), .c (.bool (bkB r a b m))]
set_option maxHeartbeats 8000000 in
theorem c_spec_l5Back (r : List Int) (h : RackOK r) (a b m : Int) : fnI pr np 180 [.agg (r.map (C.int .i64)), .agg [.int .i64 a, .int .i64 b, .int .i64 m]] [] = some (bkW r a b m, []) := by
  have hr := h.len
  have h24 := take24 hr
  have p1 := callA_pure (c_spec_l2Place a) (by simp) (by simp)
  have p2 := callA_pure (c_spec_l2Place b) (by simp) (by simp)
  rw [fb (fn := a180) rfl rfl rfl]
  unfold bkW bkY bkB bkC
  cases q1 : placeB a with
  | false => rw [q1] at p1; simp [a180, hr, h24, p1, setAt_all, sub]
  | true =>
    rw [q1] at p1
    cases q2 : placeB b with
    | false => rw [q2] at p2; simp [a180, hr, h24, p1, p2, setAt_all, sub]
    | true =>
      rw [q2] at p2
      obtain ⟨A, rfl, hA, tA⟩ := place_nat q1
      obtain ⟨B, rfl, hB, tB⟩ := place_nat q2
      simp only [Int.toNat_natCast]
      by_cases e : A = B
      · subst e
        simp [a180, hr, h24, p1, setAt_all, sub]
      · have e' : ¬ (A : Int) = (B : Int) := by omega
        have e2 : ((A : Int) == (B : Int)) = false := beq_eq_false_iff_ne.2 e'
        have cB := callA_pure (top_all _ (h.t4 hB) (h.tv hB)) (by simp) (by simp)
        have mA := callA_pure (c_many _ (h.t4 hA) (h.tv hA)) (by simp) (by simp)
        have mB := callA_pure (c_many _ (h.t4 hB) (h.tv hB)) (by simp) (by simp)
        have tI := cells_tube r A
        have tJ := cells_tube r B
        have li : A * 4 + 4 ≤ 24 := by omega
        have lj : B * 4 + 4 ≤ 24 := by omega
        have hA' : (A : Int) < 6 := by omega
        have hB' : (B : Int) < 6 := by omega
        have oa := h.top hA
        have ob := h.top hB
        have hin := callA_pure (c_spec_l1In m 1 (bkM r A B)) (by simp) (by simp)
        rw [show (decide ((1 : Int) ≤ m) && decide (m ≤ bkM r A B)) = inB m 1 (bkM r A B) from rfl] at hin
        have hmn := callA_pure (c_spec_l1Least (topOf (tubeAt r B)).2 (4 - (layN (tubeAt r A) : Int))) (by simp) (by simp)
        rw [show min (topOf (tubeAt r B)).2 (4 - (layN (tubeAt r A) : Int)) = bkM r A B from rfl] at hmn
        have w0 : IntKind.i64.wrap (4 - (layN (tubeAt r A) : Int)) = 4 - (layN (tubeAt r A) : Int) := by have := oa.l4; exact wrapI (by omega) (by omega)
        cases q3 : inB m 1 (bkM r A B) with
        | false =>
          rw [q3] at hin
          simp [a180, hr, h24, p1, p2, e, e', e2, tI, tJ, li, lj, hA, hB, hA', hB', cB, mA, mB, w0, hmn, hin, setAt_all, setAt, stillE, madeA, idOf, sub]
        | true =>
          rw [q3] at hin
          have hm1 : 1 ≤ m ∧ m ≤ bkM r A B := by simpa [inB] using q3
          obtain ⟨N, rfl⟩ : ∃ N : Nat, m = (N : Int) := ⟨m.toNat, by omega⟩
          have hbk := bk_ok h hA hB e q3
          have hbl := hbk.len
          have hb24 := take24 hbl
          have hcp := callA_pure (c_spec_l2Can _ hbk hA hB) (by simp) (by simp)
          have hp := callA_pure (c_spec_l2Pour _ hbk hA hB) (by simp) (by simp)
          have hpl := pourR_len hbl A B
          have hp24 := take24 hpl
          have c1 := conf24 _ hpl
          have c2 := conf24 _ hr
          have hNb : N ≤ layN (tubeAt r B) ∧ layN (tubeAt r A) + N ≤ 4 := by
            have := ob.nl; have := oa.l4; unfold bkM at hm1; omega
          have hb4 := ob.l4
          unfold bkE
          simp only [Int.toNat_natCast]
          have hT : bkT r A B N = pourGo B A (layN (tubeAt r B)) (layN (tubeAt r A)) (topOf (tubeAt r B)).1 N r := rfl
          simp [a180, hr, h24, p1, p2, e, e', e2, tI, tJ, li, lj, hA, hB, hA', hB', cB, mA, mB, w0, hmn, hin, setAt_all, setAt, stillE, madeA, idOf]
          clear cB mA mB w0 hmn
          generalize layN (tubeAt r A) = la at *
          generalize layN (tubeAt r B) = lb at *
          generalize (topOf (tubeAt r B)).1 = c at *
          rw [loop_to (fun k => ([(2, V.c (C.ptr 0 0)), (3, V.c (C.ptr 1 0)), (4, V.c (C.ptr 2 0)), (6, V.c (C.int .i64 c)), (8, V.c (C.int .i64 la)), (9, V.c (C.int .i64 lb)), (10, V.c (C.ptr 3 0)), (11, V.c (C.int .i64 k))], [Blk.cells (r.map (C.int .i64)) true, Blk.cells [C.int .i64 A, C.int .i64 B, C.int .i64 N] true, Blk.cells (List.replicate 24 (C.int .i64 0)) true, Blk.cells ((pourGo B A lb la c k r).map (C.int .i64)) true])) N]
          · rw [← hT]
            generalize bkT r A B N = T at *
            cases q4 : canP T A B with
            | false =>
              rw [q4] at hcp
              simp [hr, h24, hbl, hb24, hcp, setAt_all, sub]
            | true =>
              rw [q4] at hcp
              by_cases q5 : pourR T A B = r
              · by_cases q6 : (pourN T A B : Int) = (N : Int)
                · simp [hr, h24, hbl, hb24, hcp, hp, hpl, hp24, c1, c2, ints_inj, q5, q6, setAt_all, setAt, stillE, madeA, idOf, sub]
                · simp [hr, h24, hbl, hb24, hcp, hp, hpl, hp24, c1, c2, ints_inj, q5, q6, setAt_all, setAt, stillE, madeA, idOf, sub]
              · simp [hr, h24, hbl, hb24, hcp, hp, hpl, hp24, c1, c2, ints_inj, q5, setAt_all, setAt, stillE, madeA, idOf, sub]
          · simp [pourGo]
          · intro k hk
            have hl := pourGo_len B A lb la c k r
            obtain ⟨u, hu⟩ : ∃ u : Nat, u = la + k := ⟨_, rfl⟩
            obtain ⟨v, hv⟩ : ∃ v : Nat, v = lb - 1 - k := ⟨_, rfl⟩
            have w1 : IntKind.i64.wrap ((lb : Int) - 1) = (lb : Int) - 1 := wrapI (by omega) (by omega)
            have w2 : IntKind.i64.wrap ((lb : Int) - 1 - (k : Int)) = (v : Int) := (wrapI (by omega) (by omega)).trans (by omega)
            have w3 : IntKind.i64.wrap ((la : Int) + (k : Int)) = (u : Int) := (wrapI (by omega) (by omega)).trans (by omega)
            have w4 := wrapS (k := k) (by omega)
            have hv4 : v < 4 := by omega
            have hu4 : u < 4 := by omega
            have hv4' : (v : Int) < 4 := by omega
            have hu4' : (u : Int) < 4 := by omega
            have lv : B * 4 + v + 1 ≤ 24 := by omega
            have lu : A * 4 + u + 1 ≤ 24 := by omega
            have hset : (((pourGo B A lb la c k r).map (C.int .i64)).set (B * 4 + v) (C.int .i64 0)).set (A * 4 + u) (C.int .i64 c) = (pourGo B A lb la c (k + 1) r).map (C.int .i64) := by simp [pourGo, pourStep, List.map_set, ← hu, ← hv]
            simp [hl, hr, hk, hA, hB, hA', hB', w1, w2, w3, w4, hv4, hu4, hv4', hu4', lv, lu, hset]
/-! ### of any rack -/
def pbB (r : List Int) (a b m : Int) : Bool := okRack r && bkB r a b m
def pbR (r : List Int) (a b m : Int) : List Int := if pbB r a b m = true then bkT r a.toNat b.toNat m.toNat else List.replicate 24 0
theorem pbR_len {r : List Int} (hr : r.length = 24) (a b m : Int) : (pbR r a b m).length = 24 := by
  unfold pbR; split
  · exact bkT_len hr _ _ _
  · simp
def pbV (r : List Int) (a b m : Int) : V := .tup [.agg ((pbR r a b m).map (C.int .i64)), .c (.bool (pbB r a b m))]
theorem c_spec_PourBack (r : List Int) (hr : r.length = 24) (a b m : Int) : fnI pr np 139 [.agg (r.map (C.int .i64)), .agg [.int .i64 a, .int .i64 b, .int .i64 m]] [] = some (pbV r a b m, []) := by
  have h0 := callA_pure (c_rack_spec r hr) (by simp) (by simp)
  have h24 := take24 hr
  rw [fb (fn := a139) rfl rfl rfl]
  unfold pbV pbR pbB
  cases hq : okRack r with
  | false => rw [hq] at h0; simp [a139, hr, h24, h0, setAt_all, sub]
  | true =>
    rw [hq] at h0
    have hb := c_spec_l5Back r (rackOK hr hq) a b m
    unfold bkW at hb
    have hXl := bkY_len hr a b m
    have hX24 := take24 hXl
    have hYe : bkY r a b m = if bkB r a b m = true then bkT r a.toNat b.toNat m.toNat else List.replicate 24 0 := rfl
    simp only [Bool.true_and]
    rw [← hYe]
    have hb := callA_pure hb (by simp) (by simp)
    generalize bkY r a b m = Y at *
    generalize bkB r a b m = q at *
    simp [a139, hr, h24, h0, hb, hXl, hX24, setAt_all, setAt, sub]
end Go.Proofs.YtgpafbbnobanbaaGreatDoor.AM
/- Contracts: a bar is served; the law. -/
namespace Go.Proofs.YtgpafbbnobanbaaGreatDoor.AM
open Go
set_option maxRecDepth 1000000
set_option linter.unusedSimpArgs false
set_option linter.unusedVariables false
/-! ### a bar's cells -/
theorem barC_len {r : List Int} (hr : r.length = 24) (m n : Int) : (barC r m n).length = 26 := (barC_parts r hr m n).1
@[simp] theorem barC_id (r : List Int) (m n : Int) : cids (barC r m n) = [] := barC_ids r m n
@[simp] theorem barC_mp (g : Nat → Nat) (r : List Int) (m n : Int) : cmp g (barC r m n) = barC r m n := cmp_pure (barC_ids r m n)
@[simp] theorem barC_dead (r : List Int) (m n : Int) : noDead (barC r m n) = true := noDead_bar r m n
theorem barC_rack {r : List Int} (hr : r.length = 24) (m n : Int) : (barC r m n).take 24 = r.map (C.int .i64) := (barC_parts r hr m n).2.1
theorem barC_m {r : List Int} (hr : r.length = 24) (m n : Int) : ((barC r m n).drop 24).take 1 = [C.int .i64 m] := by rw [(barC_parts r hr m n).2.2.1]; rfl
theorem barC_n {r : List Int} (hr : r.length = 24) (m n : Int) : ((barC r m n).drop 25).take 1 = [C.int .i64 n] := by rw [(barC_parts r hr m n).2.2.2.1]; rfl
theorem barC_all {r : List Int} (hr : r.length = 24) (m n : Int) : (barC r m n).take 26 = barC r m n := (barC_parts r hr m n).2.2.2.2
theorem barC_set {r s : List Int} (hr : r.length = 24) (hs : s.length = 24) (m n : Int) : setAt (barC r m n) 0 (s.map (C.int .i64)) = barC s m n := by
  have := setAt_front (s.map (C.int .i64)) (r.map (C.int .i64)) [C.int .i64 m, C.int .i64 n] [] (by simp [hr, hs])
  simpa [barC] using this
theorem barC_setm {r : List Int} (hr : r.length = 24) (m n x : Int) : (barC r m n).set 24 (C.int .i64 x) = barC r x n := by
  unfold barC
  rw [List.set_append_right _ _ (by simp; omega)]
  simp [hr]
theorem barC_setn {r : List Int} (hr : r.length = 24) (m n x : Int) : (barC r m n).set 25 (C.int .i64 x) = barC r m x := by
  unfold barC
  rw [List.set_append_right _ _ (by simp; omega)]
  simp [hr]
def barOK (r : List Int) (m n : Int) : Bool := okRack r && (decide (0 ≤ m) && decide (m ≤ 9999)) && (decide (0 ≤ n) && decide (n ≤ 1000))
theorem c_bar_spec (r : List Int) (hr : r.length = 24) (m n : Int) : fnI pr np 20 [.agg (barC r m n)] [] = some (.c (.bool (barOK r m n)), []) := c_spec_l12Good r hr m n
/-! ### what a serve does -/
def svO (r : List Int) (k a b c : Int) : Option (List Int × Int) :=
  if k = 1 ∧ c = 0 then (if pB r a b = true then some (pR r a b, pN r a b) else none)
  else if k = 2 ∧ c = 0 then (if ptB r a b = true then some (ptR r a b, 0) else none)
  else if k = 3 ∧ b = 0 ∧ c = 0 then (if tkB r a = true then some (tkR r a, 0) else none)
  else if k = 4 ∧ c = 0 then (if swB r a b = true then some (swR r a b, 0) else none)
  else if k = 5 then (if pbB r a b c = true then some (pbR r a b c, -c) else none)
  else none
theorem pN_range (r : List Int) (a b : Int) : 0 ≤ pN r a b ∧ pN r a b ≤ 4 := by
  unfold pN
  split
  · have := pourN_le4 r a.toNat b.toNat
    omega
  · omega
theorem pb_range {r : List Int} {a b c : Int} (h : pbB r a b c = true) : 1 ≤ c ∧ c ≤ 4 := by
  unfold pbB bkB bkC at h
  simp only [Bool.and_eq_true] at h
  obtain ⟨_, ⟨⟨⟨_, h3⟩, _⟩, _⟩⟩ := h
  simp only [inB, Bool.and_eq_true, decide_eq_true_eq] at h3
  unfold bkM at h3
  omega
theorem svO_facts {r : List Int} (hr : r.length = 24) {k a b c : Int} {s : List Int} {d : Int} (h : svO r k a b c = some (s, d)) : s.length = 24 ∧ -4 ≤ d ∧ d ≤ 4 := by
  unfold svO at h
  split at h
  · split at h
    · injection h with h; injection h with h1 h2; subst h1; subst h2
      have := pN_range r a b
      exact ⟨pR_len hr a b, by omega, by omega⟩
    · cases h
  · split at h
    · split at h
      · injection h with h; injection h with h1 h2; subst h1; subst h2
        exact ⟨ptR_len hr a b, by omega, by omega⟩
      · cases h
    · split at h
      · split at h
        · injection h with h; injection h with h1 h2; subst h1; subst h2
          exact ⟨tkR_len hr a, by omega, by omega⟩
        · cases h
      · split at h
        · split at h
          · injection h with h; injection h with h1 h2; subst h1; subst h2
            exact ⟨swR_len hr a b, by omega, by omega⟩
          · cases h
        · split at h
          · split at h
            · rename_i hp
              injection h with h; injection h with h1 h2; subst h1; subst h2
              have := pb_range hp
              exact ⟨pbR_len hr a b c, by omega, by omega⟩
            · cases h
          · cases h
/-- a bar behind a serve, if it is valid -/
def doO (r : List Int) (m n k a b c : Int) : Option (List Int × Int) := if barOK r m n = true then (match svO r k a b c with | some (s, d) => if barOK s (m + d) (n + 1) = true then some (s, m + d) else none | none => none) else none
def doV (r : List Int) (m n k a b c : Int) : V := match doO r m n k a b c with
  | some (s, x) => .tup [.agg (barC s x (n + 1)), .c (.bool true)]
  | none => .tup [.agg (List.replicate 26 (C.int .i64 0)), .c (.bool false)]
theorem barOK_range {r : List Int} {m n : Int} (h : barOK r m n = true) : (0 ≤ m ∧ m ≤ 9999) ∧ (0 ≤ n ∧ n ≤ 1000) := by
  simp only [barOK, Bool.and_eq_true, decide_eq_true_eq] at h
  exact ⟨h.1.2, h.2⟩
end Go.Proofs.YtgpafbbnobanbaaGreatDoor.AM
/- Contracts: a word is told, executed, and logged. -/
namespace Go.Proofs.YtgpafbbnobanbaaGreatDoor.AM
open Go
set_option maxRecDepth 1000000
set_option linter.unusedSimpArgs false
set_option linter.unusedVariables false
theorem c_validLog0 : fnI pr np 47 [.agg [.str [], .str [], .int .i64 0]] [] = some (.c (.bool true), []) := (fnI_iff pr np).2 ⟨60, by kernel_rfl⟩
set_option maxHeartbeats 4000000 in
theorem c_append0 (w R : Tx) (hw : w.length < 100000000) (hR : R.length < 100000000) : ∃ (d p : Tx) (k c : Int), fnI pr np 24 [.agg [.str [], .str [], .int .i64 0], .agg [.str w, .str R]] [] = some (.tup [.agg [.str d, .str p, .int .i64 k], .c (.int .i64 c)], []) := by
  have h1 := callA_pure c_validLog0 (by simp) (by simp)
  have h2 := callA_pure (c_impl_IsValidRecord w R (by omega) (by omega)) (by simp [recV]) (by simp)
  obtain ⟨t, q, ht, he⟩ := c_encode w R (by omega) (by omega)
  have h3 := callA_pure he (by simp [recV]) (by simp)
  have b1 : t.length ≤ 9223372036854775807 := by omega
  have w1 : IntKind.i64.wrap 1 = 1 := by decide
  unfold recV at h2 h3
  generalize (cmdB w && decide ((R.length : Int) ≤ 250) && plainT R) = v at *
  cases v with
  | false =>
    refine ⟨[], [], 0, 1, ?_⟩
    rw [fb (fn := a24) rfl rfl rfl]
    simp [a24, h1, h2, setAt_all, setAt, sub]
  | true =>
    refine ⟨[], t, 1, 0, ?_⟩
    rw [fb (fn := a24) rfl rfl rfl]
    simp [a24, h1, h2, h3, b1, w1, setAt_all, setAt, sub]
def wRack : Tx := [114, 97, 99, 107]
def wUseful : Tx := [117, 115, 101, 102, 117, 108]
def wFewest : Tx := [102, 101, 119, 101, 115, 116]
def wWay : Tx := [119, 97, 121]
def wCertain : Tx := [99, 101, 114, 116, 97, 105, 110]
def wLeft : Tx := [108, 101, 102, 116]
/-- a word that the console knows to tell -/
structure WordOK (w : Tx) : Prop where
  cmd : cmdB w = true
  len : w.length < 100
  spl : fnI pr np 50 [.c (.str w), .c (.str [32])] [] = some (.c (.sl 0 0 1 1), [.cells [.str w] true])
  srv : fnI pr np 52 [.c (.str w), .c (.sl 0 0 0 1)] [.cells [] true] = some (.tup [.agg [.int .i64 0, .int .i64 0, .int .i64 0, .int .i64 0], .c (.bool false)], [.cells [] true])
theorem ok_rack : WordOK wRack := ⟨by decide, by decide, (fnI_iff pr np).2 ⟨1, by kernel_rfl⟩, (fnI_iff pr np).2 ⟨60, by kernel_rfl⟩⟩
theorem ok_useful : WordOK wUseful := ⟨by decide, by decide, (fnI_iff pr np).2 ⟨1, by kernel_rfl⟩, (fnI_iff pr np).2 ⟨60, by kernel_rfl⟩⟩
theorem ok_fewest : WordOK wFewest := ⟨by decide, by decide, (fnI_iff pr np).2 ⟨1, by kernel_rfl⟩, (fnI_iff pr np).2 ⟨60, by kernel_rfl⟩⟩
theorem ok_way : WordOK wWay := ⟨by decide, by decide, (fnI_iff pr np).2 ⟨1, by kernel_rfl⟩, (fnI_iff pr np).2 ⟨60, by kernel_rfl⟩⟩
theorem ok_certain : WordOK wCertain := ⟨by decide, by decide, (fnI_iff pr np).2 ⟨1, by kernel_rfl⟩, (fnI_iff pr np).2 ⟨60, by kernel_rfl⟩⟩
theorem ok_left : WordOK wLeft := ⟨by decide, by decide, (fnI_iff pr np).2 ⟨1, by kernel_rfl⟩, (fnI_iff pr np).2 ⟨60, by kernel_rfl⟩⟩
set_option maxHeartbeats 4000000 in
theorem c_execute {r : List Int} (hr : r.length = 24) (m n : Int) {w R : Tx} (hw : WordOK w) (hp : fnI pr np 55 [.agg (barC r m n), .c (.str w)] [] = some (.c (.str R), [])) : fnI pr np 23 [.agg (barC r m n), .c (.str w)] [] = some (.tup [.agg (barC r m n), .c (.str R)], []) := by
  obtain ⟨l26, _, _, _, t26⟩ := barC_parts r hr m n
  have h1 := callA_new hw.spl (by simp)
  have h2 := callA_pure hp (by simp) (by simp)
  have h3 := hw.srv
  rw [fb (fn := a23) rfl rfl rfl]
  simp [a23, l26, t26, h1, back, sub]
  rw [loop_to (fun k => ([(2, V.c (C.ptr 0 0)), (4, V.c (C.ptr 1 0)), (6, V.c (C.sl 2 0 1 1)), (7, V.c (C.sl 3 0 0 1)), (19, V.c (C.sl 2 1 0 1)), (20, V.c (C.int .i64 0)), (21, V.c (C.int .i64 k))], [Blk.cells (barC r m n) true, Blk.cells (List.replicate 26 (C.int .i64 0)) true, Blk.cells [.str w] true, Blk.cells [] true])) 0]
  · have h4 := fun base => callA_gen (F := fnI pr np) (f := 52) (args := [.c (.str w), .c (.sl 3 0 0 1)]) (H := lkp [Blk.cells (barC r m n) true, Blk.cells (List.replicate 26 (C.int .i64 0)) true, Blk.cells [.str w] true, Blk.cells [] true]) (L := [3]) (by simp [reach, idsAt]) (by simp [closed, inL, idsAt]) (by simp [sub]) (by simp [pos]) h3 (by simp) base
    simp at h4
    simp [l26, t26, h2, h4, setAt_all, sub]
  · simp [sub]
  · intro k hk
    omega
end Go.Proofs.YtgpafbbnobanbaaGreatDoor.AM
/- Contracts: the six words, told and executed. -/
namespace Go.Proofs.YtgpafbbnobanbaaGreatDoor.AM
open Go
set_option maxRecDepth 1000000
set_option linter.unusedSimpArgs false
set_option linter.unusedVariables false
set_option maxHeartbeats 4000000
theorem p_rack (r : List Int) (h : RackOK r) (m n : Int) : fnI pr np 55 [.agg (barC r m n), .c (.str wRack)] [] = some (.c (.str (preT r 6)), []) := by
  have hr := h.len
  have h24 := take24 hr
  obtain ⟨l26, t24, _, _, t26⟩ := barC_parts r hr m n
  have c1 := callA_pure (c_impl_rackText r h) (by simp) (by simp)
  rw [fb (fn := a55) rfl rfl rfl]
  simp [a55, wRack, hr, h24, l26, t24, t26, c1, setAt_all, sub]
theorem p_useful (r : List Int) (h : RackOK r) (m n : Int) (hl : pairsOK (usefulL r)) (hn : (usefulL r).length ≤ 1000) : fnI pr np 55 [.agg (barC r m n), .c (.str wUseful)] [] = some (.c (.str (pouredT (usefulL r) true)), []) := by
  have hr := h.len
  have h24 := take24 hr
  obtain ⟨l26, t24, _, _, t26⟩ := barC_parts r hr m n
  have c1 := callA_new (c_UsefulPours r h) (by simp)
  have c2 := fun (i : Nat) (H : HF) hb base => callA_s (rest := [.c (.bool true)]) (H := H) (i := i) hb rfl (by simp [cids_app]) (c_poured (usefulL r) hl hn true (padC r) (by simp) true) (by simp) base
  rw [fb (fn := a55) rfl rfl rfl]
  simp [a55, wUseful, hr, h24, l26, t24, t26, c1, c2, back, setAt_all, sub, cids_app, cmp_app]
theorem p_fewest (r : List Int) (h : RackOK r) (m n : Int) (k : Int) (q : Bool) (hk : -999999 ≤ k ∧ k ≤ 999999) (hf : fnI pr np 11 [.agg (r.map (C.int .i64))] [] = some (.tup [.c (.int .i64 k), .c (.bool q)], [])) : fnI pr np 55 [.agg (barC r m n), .c (.str wFewest)] [] = some (.c (.str (wordT k q)), []) := by
  have hr := h.len
  have h24 := take24 hr
  obtain ⟨l26, t24, _, _, t26⟩ := barC_parts r hr m n
  have c1 := callA_pure hf (by simp) (by simp)
  have c2 := callA_pure (c_number k q hk) (by simp) (by simp)
  rw [fb (fn := a55) rfl rfl rfl]
  simp [a55, wFewest, hr, h24, l26, t24, t26, c1, c2, setAt_all, sub]
theorem p_way (r : List Int) (h : RackOK r) (m n : Int) (l : List (Nat × Nat)) (q : Bool) (hl : pairsOK l) (hn : l.length ≤ 1000) (hf : fnI pr np 12 [.agg (r.map (C.int .i64))] [] = some (.tup [.c (.sl 0 0 l.length 2), .c (.bool q)], [.cells (flatC l) true])) : fnI pr np 55 [.agg (barC r m n), .c (.str wWay)] [] = some (.c (.str (pouredT l q)), []) := by
  have hr := h.len
  have h24 := take24 hr
  obtain ⟨l26, t24, _, _, t26⟩ := barC_parts r hr m n
  have c1 := callA_new hf (by simp)
  have c0 := c_poured l hl hn q [] rfl true
  rw [List.append_nil] at c0
  have c2 := fun (i : Nat) (H : HF) hb base => callA_s (rest := [.c (.bool q)]) (H := H) (i := i) hb rfl (by simp) c0 (by simp) base
  rw [fb (fn := a55) rfl rfl rfl]
  simp [a55, wWay, hr, h24, l26, t24, t26, c1, c2, back, setAt_all, sub]
theorem p_certain (r : List Int) (h : RackOK r) (m n : Int) {v : Vw} (hv : VOK v) (hw : fnI pr np 31 [.agg (r.map (C.int .i64))] [] = some (.agg v.cs, [])) (l : List (Nat × Nat)) (q : Bool) (hl : pairsOK l) (hn : l.length ≤ 1000) (hf : fnI pr np 14 [.agg v.cs] [] = some (.tup [.c (.sl 0 0 l.length 2), .c (.bool q)], [.cells (flatC l) true])) : fnI pr np 55 [.agg (barC r m n), .c (.str wCertain)] [] = some (.c (.str (pouredT l q)), []) := by
  have hr := h.len
  have h24 := take24 hr
  obtain ⟨l26, t24, _, _, t26⟩ := barC_parts r hr m n
  have c3 := callA_pure hw (by simp) (by simp)
  have c1 := callA_new hf (by simp)
  have c0 := c_poured l hl hn q [] rfl true
  rw [List.append_nil] at c0
  have c2 := fun (i : Nat) (H : HF) hb base => callA_s (rest := [.c (.bool q)]) (H := H) (i := i) hb rfl (by simp) c0 (by simp) base
  rw [fb (fn := a55) rfl rfl rfl]
  simp [a55, wCertain, hr, h24, l26, t24, t26, c1, c2, c3, back, setAt_all, sub]
theorem p_left (r : List Int) (h : RackOK r) (m n : Int) (k : Int) (q : Bool) (hk : -999999 ≤ k ∧ k ≤ 999999) (hf : fnI pr np 15 [.agg (barC r m n)] [] = some (.tup [.c (.int .i64 k), .c (.bool q)], [])) : fnI pr np 55 [.agg (barC r m n), .c (.str wLeft)] [] = some (.c (.str (wordT k q)), []) := by
  have hr := h.len
  have h24 := take24 hr
  obtain ⟨l26, t24, _, _, t26⟩ := barC_parts r hr m n
  have c1 := callA_pure hf (by simp) (by simp)
  have c2 := callA_pure (c_number k q hk) (by simp) (by simp)
  rw [fb (fn := a55) rfl rfl rfl]
  simp [a55, wLeft, hr, h24, l26, t24, t26, c1, c2, setAt_all, sub]
end Go.Proofs.YtgpafbbnobanbaaGreatDoor.AM
/- Contracts: a command of the console; what its words tell. -/
namespace Go.Proofs.YtgpafbbnobanbaaGreatDoor.AM
open Go
set_option maxRecDepth 1000000
set_option linter.unusedSimpArgs false
set_option linter.unusedVariables false
set_option maxHeartbeats 4000000
theorem okBar_is {r : List Int} (hr : r.length = 24) {m n : Int} (h : okBar r m n = true) : fnI pr np 19 [.agg (barC r m n)] [] = some (.c (.bool true), []) := by
  have h12 := c_impl_IsBar r hr m n
  rw [rack_eq r hr, show (!anyFrom (rowBad r) 0 6 && (decide (0 ≤ m) && decide (m ≤ 9999)) && (decide (0 ≤ n) && decide (n ≤ 1000))) = okBar r m n from rfl, show r.map (C.int .i64) ++ [C.int .i64 m, C.int .i64 n] = barC r m n from rfl, h] at h12
  exact h12
theorem c_validCon {r : List Int} (hr : r.length = 24) {m n : Int} (h : okBar r m n = true) : fnI pr np 21 [.agg (conC r m n)] [] = some (.c (.bool true), []) := by
  have c1 := callA_pure (okBar_is hr h) (by simp) (by simp)
  have c2 := callA_pure c_validLog0 (by simp) (by simp)
  obtain ⟨k0, k1, k2, k29, knd⟩ := conC_parts r hr m n
  rw [fb (fn := a21) rfl rfl rfl]
  simp [a21, c1, c2, k0, k1, k2, k29, knd, sub]
def logC (r : List Int) (m n : Int) (d p : Tx) (k : Int) : List C := barC r m n ++ [.str d, .str p, .int .i64 k]
theorem logC_ids (r : List Int) (m n : Int) (d p : Tx) (k : Int) : cids (logC r m n d p k) = [] := by simp [logC, cids_app]
theorem logC_len {r : List Int} (hr : r.length = 24) (m n : Int) (d p : Tx) (k : Int) : (logC r m n d p k).length = 29 := by simp [logC, (barC_parts r hr m n).1]
theorem con_build {r : List Int} (hr : r.length = 24) (m n : Int) (d p : Tx) (k : Int) (Z : List C) (hZ : Z.length = 29) : setAt (setAt Z 0 (barC r m n)) 26 [C.str d, C.str p, C.int .i64 k] = logC r m n d p k := by
  have l26 := (barC_parts r hr m n).1
  have e1 : setAt Z 0 (barC r m n) = barC r m n ++ Z.drop 26 := by
    rw [setAt_put _ _ _ (by omega)]
    simp [l26]
  rw [e1, show 26 = 26 + 0 from rfl, setAt_right l26 (by simp; omega), setAt_all _ _ (by simp; omega)]
  rfl
theorem con_len {r : List Int} (hr : r.length = 24) (m n : Int) (Z : List C) (hZ : Z.length = 29) : (setAt Z 0 (barC r m n)).length = 29 := by
  have l26 := (barC_parts r hr m n).1
  rw [setAt_put _ _ _ (by omega)]
  simp [l26, hZ]
set_option maxHeartbeats 8000000 in
theorem c_Execute {r : List Int} (hr : r.length = 24) {m n : Int} (h : okBar r m n = true) {w R : Tx} (hw : WordOK w) (hR : R.length < 100000000) (hp : fnI pr np 55 [.agg (barC r m n), .c (.str w)] [] = some (.c (.str R), [])) : ∃ (d p : Tx) (k : Int), fnI pr np 8 [.agg (conC r m n), .c (.str w)] [] = some (.tup [.agg (logC r m n d p k), .c (.str R)], []) := by
  have hwl := hw.len
  obtain ⟨d, p, k, c, ha⟩ := c_append0 w R (by omega) hR
  have c1 := callA_pure (c_validCon hr h) (by simp [conC_ids]) (by simp)
  have hc := c_impl_isCommand w (by omega)
  rw [hw.cmd] at hc
  have c2 := callA_pure hc (by simp) (by simp)
  have c3 := callA_pure (c_execute hr m n hw hp) (by simp) (by simp)
  have c4 := callA_pure ha (by simp) (by simp)
  obtain ⟨k0, k1, k2, k29, knd⟩ := conC_parts r hr m n
  obtain ⟨l26, t24, _, _, t26⟩ := barC_parts r hr m n
  have hids := conC_ids r m n
  have lids := logC_ids r m n d p k
  have llen := logC_len hr m n d p k
  have lall : (logC r m n d p k).take 29 = logC r m n d p k := List.take_of_length_le (by omega)
  have k28 : ((conC r m n).drop 28).take 1 = [C.int .i64 0] := by rw [show 28 = 26 + 2 from rfl, ← List.drop_drop, k2]; rfl
  have hb := con_build hr m n d p k
  have hbl := con_len hr m n
  have lnd : noDead (logC r m n d p k) = true := by simp [logC, noDead_app2, noDead]
  have lmp : ∀ g, cmp g (logC r m n d p k) = logC r m n d p k := fun g => cmp_pure lids
  refine ⟨d, p, k, ?_⟩
  rw [fb (fn := a8) rfl rfl rfl]
  simp [a8, c1, c2, c3, c4, k0, k1, k2, k29, k28, knd, l26, t24, t26, hids, lids, llen, lall, hb, hbl, lnd, lmp, setAt_all, sub]
end Go.Proofs.YtgpafbbnobanbaaGreatDoor.AM
/- Contracts: what the draws read out of bytes: some number in a range, with the cursor moved on. -/
namespace Go.Proofs.YtgpafbbnobanbaaGreatDoor.AM
open Go
set_option maxRecDepth 1000000
set_option linter.unusedSimpArgs false
set_option linter.unusedVariables false
/-- the test of a call that may write, where no far place is named: told at once (its unfolding makes proofs too deep for the kernel) -/
@[simp ↓ high] theorem farE_small {ks : List Nat} {e : Env} {us : List (Nat × Blk)} (h : (ks.all fun j => decide (j < 1000000)) = true) : farE ks e us = true := by
  unfold farE
  rw [List.all_eq_true]
  intro p _
  rw [List.all_eq_true] at h ⊢
  intro j hj
  rw [h j hj, Bool.true_or]
/-- one far place -/
theorem farE_one {ks : List Nat} {t : Nat} (h : (ks.all fun j => decide (j < 1000000) || decide (j = t + 1000000)) = true) (hm : (ks.contains (t + 1000000)) = true) (e : Env) (us : List (Nat × Blk)) : farE ks e us = us.all fun p => decide (idOf (get e t) ≠ some p.1) := by
  unfold farE
  congr 1
  funext p
  rw [Bool.eq_iff_iff, List.all_eq_true, decide_eq_true_eq]
  rw [List.all_eq_true] at h
  constructor
  · intro hx
    have := hx (t + 1000000) (by simpa using hm)
    rw [Nat.add_sub_cancel, decide_eq_false (show ¬ t + 1000000 < 1000000 by omega)] at this
    simpa using this
  · intro hx j hj
    have := h j hj
    simp only [Bool.or_eq_true, decide_eq_true_eq] at this ⊢
    rcases this with h1 | h1
    · exact .inl h1
    · right
      rw [h1, Nat.add_sub_cancel]
      exact hx
/-- a cursor: the bytes lie in block j -/
def curB (j n p : Nat) (s : Int) : Blk := .cells [.sl j 0 n 1, .int .i64 p, .int .u64 s] true
def byB (bs : List Int) (o : Bool) : Blk := .cells (bs.map (C.int .u8)) o
structure Bytes (bs : List Int) : Prop where
  rg : ∀ x ∈ bs, 0 ≤ x ∧ x < 256
  len : bs.length ≤ 1000000000
@[simp] theorem byB_ids (bs : List Int) (o : Bool) : (byB bs o).ids = [] := by simp [byB]
@[simp] theorem curB_ids (j n p : Nat) (s : Int) : (curB j n p s).ids = [j] := rfl
@[simp] theorem byB_mp (g : Nat → Nat) (bs : List Int) (o : Bool) : (byB bs o).mp g = byB bs o := mp_ids (by simp) g
@[simp] theorem curB_mp (g : Nat → Nat) (j n p : Nat) (s : Int) : (curB j n p s).mp g = curB (g j) n p s := rfl
theorem by_take1 {bs : List Int} {j : Nat} (h : j < bs.length) : ((bs.map (C.int .u8)).drop j).take 1 = [C.int .u8 (bs.getD j 0)] := by
  rw [List.drop_eq_getElem_cons (by simpa using h)]
  simp [List.getD_eq_getElem?_getD, List.getElem?_eq_getElem h]
theorem and255 (a : Nat) : ∃ z : Nat, z ≤ 255 ∧ IntKind.i64.wrap (IntKind.u64.wrap ((a &&& 255 % 2 ^ IntKind.u64.bits : Nat) : Int)) = (z : Int) := by
  have h : (a &&& 255 % 2 ^ IntKind.u64.bits : Nat) ≤ 255 := Nat.le_trans Nat.and_le_right (by decide)
  refine ⟨_, h, ?_⟩
  generalize (a &&& 255 % 2 ^ IntKind.u64.bits : Nat) = z at *
  have e : IntKind.u64.wrap (z : Int) = (z : Int) := by
    simp [IntKind.wrap, IntKind.bits, IntKind.signed]
    omega
  rw [e]
  exact wrapI (by omega) (by omega)
theorem c_next (bs : List Int) (hb : Bytes bs) (o : Bool) (p : Nat) (hp : p < 1000000000) (s : Int) : ∃ (x : Nat) (s' : Int), x ≤ 255 ∧ fnI pr np 85 [.c (.ptr 0 0)] [curB 1 bs.length p s, byB bs o] = some (.c (.int .i64 x), [curB 1 bs.length (p + 1) s', byB bs o]) := by
  have hlen := hb.len
  have wp := wrapS (k := p) (by omega)
  rw [fb (fn := a85) rfl rfl rfl]
  unfold curB byB
  by_cases h : p < bs.length
  · have g := by_take1 h
    have hm : bs.getD p 0 ∈ bs := by
      rw [List.getD_eq_getElem?_getD, List.getElem?_eq_getElem h]
      exact List.getElem_mem _
    obtain ⟨x1, x2⟩ := hb.rg _ hm
    generalize bs.getD p 0 = x at *
    obtain ⟨X, rfl⟩ : ∃ X : Nat, x = (X : Int) := ⟨x.toNat, by omega⟩
    have wx : IntKind.i64.wrap (X : Int) = (X : Int) := wrapI (by omega) (by omega)
    have b1 : p + 1 ≤ bs.length := by omega
    have hle : (p : Int) + 1 ≤ (bs.length : Int) := by omega
    refine ⟨X, IntKind.u64.wrap (IntKind.u64.wrap (IntKind.u64.wrap (s * 6364136223846793005) + IntKind.u64.wrap X) + 462197), by omega, ?_⟩
    simp [a85, h, g, wp, wx, b1, hle, setAt, stillE, madeA, idOf, sub]
  · by_cases h2 : p + 1 ≤ bs.length
    · omega
    · have hle : ¬ (p : Int) + 1 ≤ (bs.length : Int) := by omega
      have h' : ¬ (p : Int) < (bs.length : Int) := by omega
      obtain ⟨z, hz, hw⟩ := and255 (((IntKind.u64.wrap (IntKind.u64.wrap (IntKind.u64.wrap (s * 6364136223846793005) + IntKind.u64.wrap 0) + 462197)).fdiv (2 ^ min 40 IntKind.u64.bits) % 2 ^ IntKind.u64.bits).toNat)
      refine ⟨z, IntKind.u64.wrap (IntKind.u64.wrap (IntKind.u64.wrap (s * 6364136223846793005) + IntKind.u64.wrap 0) + 462197), hz, ?_⟩
      simp [a85, h, h', h2, wp, hle, setAt, stillE, madeA, idOf, binShift, binI, sub]
      exact hw
/-- a call with the cursor (and values that name no block), wherever it lies -/
theorem call_cur {F : Fns} {f n p p' : Nat} {s s' : Int} {bs : List Int} {o : Bool} {rest : List V} {v : V} (hre : rest.flatMap V.ids = []) (hF : F f (.c (.ptr 0 0) :: rest) [curB 1 n p s, byB bs o] = some (v, [curB 1 n p' s', byB bs o])) (i j : Nat) (H : HF) (base : Nat) (hij : (i != j) = true) (hi : (H i == some (curB j n p s)) = true) (hj : (H j == some (byB bs o)) = true) :
    callA F f (.c (.ptr i 0) :: rest) H base = some (v.mp (back [i, j] base), [], [(i, curB j n p' s'), (j, byB bs o)]) := by
  have hi : H i = some (curB j n p s) := by simpa using hi
  have hj : H j = some (byB bs o) := by simpa using hj
  have hij : i ≠ j := by simpa using hij
  have hji : ¬ j = i := fun e => hij e.symm
  have h := callA_gen (F := F) (f := f) (args := .c (.ptr i 0) :: rest) (H := H) (L := [i, j]) (by simp [hre, reach, idsAt, hi, hj, hji]) (by simp [closed, hi, hj, idsAt, inL, hre]) (show sub [i, j] H = [curB 1 n p s, byB bs o] by simp [sub, hi, hj, pos, hij]) (show (V.c (.ptr i 0) :: rest).map (V.mp (pos [i, j])) = .c (.ptr 0 0) :: rest by rw [List.map_cons, mps_pure hre]; simp [pos]) hF (by simp) base
  rw [h]
  simp [back]
theorem c_pick (bs : List Int) (hb : Bytes bs) (o : Bool) (p : Nat) (hp : p + 2 < 1000000000) (s : Int) (n : Int) (h0 : 0 ≤ n) (hn : n ≤ 60000) : ∃ (x p' : Nat) (s' : Int), ((x : Int) < n ∨ x = 0) ∧ p' ≤ p + 2 ∧ fnI pr np 40 [.c (.ptr 0 0), .c (.int .i64 n)] [curB 1 bs.length p s, byB bs o] = some (.c (.int .i64 x), [curB 1 bs.length p' s', byB bs o]) := by
  obtain ⟨N, rfl⟩ : ∃ N : Nat, n = (N : Int) := ⟨n.toNat, by omega⟩
  by_cases h1 : N ≤ 1
  · refine ⟨0, p, s, .inr rfl, by omega, ?_⟩
    rw [fb (fn := a40) rfl rfl rfl]
    have h1' : (N : Int) ≤ 1 := by omega
    simp [a40, h1, h1', sub]
  · have h1' : ¬ (N : Int) ≤ 1 := by omega
    obtain ⟨x, s1, hx, hF⟩ := c_next bs hb o p (by omega) s
    have hc := call_cur (rest := []) rfl hF 0 1
    have hz : ¬ (N : Int) = 0 := by omega
    have hz2 : ¬ N = 0 := by omega
    by_cases h2 : 200 < N
    · have h2' : (200 : Int) < (N : Int) := by omega
      obtain ⟨y, s2, hy, hF2⟩ := c_next bs hb o (p + 1) (by omega) s1
      have hc2 := call_cur (rest := []) rfl hF2 0 1
      have w1 : IntKind.i64.wrap ((x : Int) * 256) = ((x * 256 : Nat) : Int) := (wrapI (by omega) (by omega)).trans (by omega)
      have w2 : IntKind.i64.wrap (((x * 256 : Nat) : Int) + (y : Int)) = ((x * 256 + y : Nat) : Int) := (wrapI (by omega) (by omega)).trans (by omega)
      have ht : ((x * 256 + y : Nat) : Int).tmod (N : Int) = (((x * 256 + y) % N : Nat) : Int) := rfl
      have hlt : (x * 256 + y) % N < N := Nat.mod_lt _ (by omega)
      have w3 : IntKind.i64.wrap (((x * 256 + y) % N : Nat) : Int) = (((x * 256 + y) % N : Nat) : Int) := wrapI (by omega) (by omega)
      refine ⟨(x * 256 + y) % N, p + 2, s2, .inl (by omega), by omega, ?_⟩
      rw [fb (fn := a40) rfl rfl rfl]
      generalize (x * 256 + y) % N = z at *
      generalize x * 256 + y = u at *
      generalize x * 256 = t at *
      simp [a40, h1, h1', h2, h2', hz, hz2, hc, hc2, w1, w2, ht, w3, stillE, madeA, idOf, sub]
    · have h2' : ¬ (200 : Int) < (N : Int) := by omega
      have ht : (x : Int).tmod (N : Int) = ((x % N : Nat) : Int) := rfl
      have hlt : x % N < N := Nat.mod_lt _ (by omega)
      have w3 : IntKind.i64.wrap ((x % N : Nat) : Int) = ((x % N : Nat) : Int) := wrapI (by omega) (by omega)
      refine ⟨x % N, p + 1, s1, .inl (by omega), by omega, ?_⟩
      rw [fb (fn := a40) rfl rfl rfl]
      generalize x % N = z at *
      simp [a40, h1, h1', h2, h2', hz, hz2, hc, ht, w3, stillE, madeA, idOf, sub]
theorem c_one (bs : List Int) (hb : Bytes bs) (o : Bool) (p : Nat) (hp : p + 2 < 1000000000) (s : Int) (n : Int) (h0 : 0 ≤ n) (hn : n ≤ 60000) : ∃ (q : Bool) (p' : Nat) (s' : Int), p' ≤ p + 2 ∧ fnI pr np 84 [.c (.ptr 0 0), .c (.int .i64 n)] [curB 1 bs.length p s, byB bs o] = some (.c (.bool q), [curB 1 bs.length p' s', byB bs o]) := by
  obtain ⟨x, p', s', _, hp', hF⟩ := c_pick bs hb o p hp s n h0 hn
  have hc := call_cur (rest := [.c (.int .i64 n)]) rfl hF 0 1
  refine ⟨(x : Int) == 0, p', s', hp', ?_⟩
  rw [fb (fn := a84) rfl rfl rfl]
  simp [a84, hc, sub]
theorem c_among (bs : List Int) (hb : Bytes bs) (o : Bool) (p : Nat) (hp : p + 2 < 1000000000) (s : Int) (xs : List Int) (h0 : 0 < xs.length) (hn : xs.length ≤ 60000) : ∃ (x : Int) (p' : Nat) (s' : Int), x ∈ xs ∧ p' ≤ p + 2 ∧ fnI pr np 43 [.c (.ptr 0 0), .c (.sl 1 0 xs.length 1)] [curB 2 bs.length p s, .cells (xs.map (C.int .i64)) true, byB bs o] = some (.c (.int .i64 x), [curB 2 bs.length p' s', .cells (xs.map (C.int .i64)) true, byB bs o]) := by
  obtain ⟨x, p', s', hx, hp', hF⟩ := c_pick bs hb o p hp s xs.length (by omega) (by omega)
  have hc := call_cur (rest := [.c (.int .i64 xs.length)]) rfl hF 0 2
  have hxl : x < xs.length := by omega
  have g := drop_take1 hxl
  have hm : xs.getD x 0 ∈ xs := by
    rw [List.getD_eq_getElem?_getD, List.getElem?_eq_getElem hxl]
    exact List.getElem_mem _
  have b1 : x + 1 ≤ xs.length := by omega
  refine ⟨xs.getD x 0, p', s', hm, hp', ?_⟩
  rw [fb (fn := a43) rfl rfl rfl]
  generalize xs.getD x 0 = y at *
  simp [a43, hc, hxl, g, b1, sub]
theorem call_among {F : Fns} {f n p p' m : Nat} {s s' : Int} {bs : List Int} {o : Bool} {b : Blk} {v : V} (hbi : b.ids = []) (hF : F f [.c (.ptr 0 0), .c (.sl 1 0 m 1)] [curB 2 n p s, b, byB bs o] = some (v, [curB 2 n p' s', b, byB bs o])) (i k j : Nat) (H : HF) (base : Nat) (hij : (i != j) = true) (hik : (i != k) = true) (hkj : (k != j) = true) (hi : (H i == some (curB j n p s)) = true) (hk : (H k == some b) = true) (hj : (H j == some (byB bs o)) = true) :
    callA F f [.c (.ptr i 0), .c (.sl k 0 m 1)] H base = some (v.mp (back [i, k, j] base), [], [(i, curB j n p' s'), (k, b), (j, byB bs o)]) := by
  have hi : H i = some (curB j n p s) := by simpa using hi
  have hj : H j = some (byB bs o) := by simpa using hj
  have hk : H k = some b := by simpa using hk
  have hij : i ≠ j := by simpa using hij
  have hik : i ≠ k := by simpa using hik
  have hkj : k ≠ j := by simpa using hkj
  have hji : ¬ j = i := fun e => hij e.symm
  have hki : ¬ k = i := fun e => hik e.symm
  have hjk : ¬ j = k := fun e => hkj e.symm
  have h := callA_gen (F := F) (f := f) (args := [.c (.ptr i 0), .c (.sl k 0 m 1)]) (H := H) (L := [i, k, j]) (by simp [reach, idsAt, hi, hj, hk, hbi, hji, hki, hjk, hik, hkj, hij]) (by simp [closed, hi, hj, hk, hbi, idsAt, inL]) (show sub [i, k, j] H = [curB 2 n p s, b, byB bs o] by simp [sub, hi, hj, hk, pos, hij, hik, hkj, mp_ids hbi]) (show _ = [.c (.ptr 0 0), .c (.sl 1 0 m 1)] by simp [pos, hik]) hF (by simp) base
  rw [h]
  simp [back, mp_ids hbi]
end Go.Proofs.YtgpafbbnobanbaaGreatDoor.AM
/- Contracts: a rack is drawn. -/
namespace Go.Proofs.YtgpafbbnobanbaaGreatDoor.AM
open Go
set_option maxRecDepth 1000000
set_option linter.unusedSimpArgs false
set_option linter.unusedVariables false
/-- a value that lies in a list of literals lies between bounds -/
theorem lit_range {xs : List Int} {x lo hi : Int} (h : (xs.all fun y => decide (lo ≤ y) && decide (y ≤ hi)) = true) (hx : x ∈ xs) : lo ≤ x ∧ x ≤ hi := by
  have := List.all_eq_true.1 h x hx
  simpa using this
/-- one store of an int into a rack's cells -/
theorem put_one {r : List Int} (hr : r.length = 24) (i : Nat) (x : Int) : ∃ r' : List Int, r'.length = 24 ∧ (r.map (C.int .i64)).set i (C.int .i64 x) = r'.map (C.int .i64) := ⟨r.set i x, by simp [hr], set_ints r i x⟩
theorem put_four {r : List Int} (hr : r.length = 24) (i : Nat) (xs : List Int) : ∃ r' : List Int, r'.length = 24 ∧ setAt (r.map (C.int .i64)) i (xs.map (C.int .i64)) = r'.map (C.int .i64) := ⟨setI r i xs, by rw [setI_len, hr], setAt_ints xs r i⟩
/-- invariants: the filling of tubes, of one tube, the clearing of tubes, of one tube -/
def IvA (bs : List Int) (o : Bool) (c : Int) (T q k : Nat) (st : Env × Heap) : Prop := ∃ (R : List Int) (p' : Nat) (s' : Int), R.length = 24 ∧ p' ≤ q + 40 * k ∧ st = ([(0, V.c (C.ptr 0 0)), (2, V.c (C.ptr 2 0)), (3, V.c (C.ptr 3 0)), (4, V.c (C.int .i64 c)), (5, V.c (C.int .i64 T)), (6, V.c (C.int .i64 k))], [curB 1 bs.length p' s', byB bs o, Blk.cells (List.replicate 24 (C.int .i64 0)) true, Blk.cells (R.map (C.int .i64)) true])
def RsA (bs : List Int) (o : Bool) (c : Int) (T q : Nat) (r : Ex × Env × Heap) : Prop := ∃ (R : List Int) (p' : Nat) (s' i : Int), R.length = 24 ∧ p' ≤ q + 240 ∧ r = (.exit 0, [(0, V.c (C.ptr 0 0)), (2, V.c (C.ptr 2 0)), (3, V.c (C.ptr 3 0)), (4, V.c (C.int .i64 c)), (5, V.c (C.int .i64 T)), (6, V.c (C.int .i64 i)), (23, V.c (C.bool false))], [curB 1 bs.length p' s', byB bs o, Blk.cells (List.replicate 24 (C.int .i64 0)) true, Blk.cells (R.map (C.int .i64)) true])
def IvB (bs : List Int) (o : Bool) (c : Int) (T q i k : Nat) (st : Env × Heap) : Prop := ∃ (R : List Int) (p' : Nat) (s' : Int), R.length = 24 ∧ p' ≤ q + 6 * k ∧ st = ([(0, V.c (C.ptr 0 0)), (2, V.c (C.ptr 2 0)), (3, V.c (C.ptr 3 0)), (4, V.c (C.int .i64 c)), (5, V.c (C.int .i64 T)), (6, V.c (C.int .i64 i)), (7, V.c (C.int .i64 k))], [curB 1 bs.length p' s', byB bs o, Blk.cells (List.replicate 24 (C.int .i64 0)) true, Blk.cells (R.map (C.int .i64)) true])
def RsB (bs : List Int) (o : Bool) (c : Int) (T q i : Nat) (r : Ex × Env × Heap) : Prop := ∃ (R : List Int) (p' : Nat) (s' k : Int), R.length = 24 ∧ p' ≤ q + 36 ∧ r = (.exit 2, [(0, V.c (C.ptr 0 0)), (2, V.c (C.ptr 2 0)), (3, V.c (C.ptr 3 0)), (4, V.c (C.int .i64 c)), (5, V.c (C.int .i64 T)), (6, V.c (C.int .i64 i)), (7, V.c (C.int .i64 k)), (30, V.c (C.bool false))], [curB 1 bs.length p' s', byB bs o, Blk.cells (List.replicate 24 (C.int .i64 0)) true, Blk.cells (R.map (C.int .i64)) true, Blk.cells [C.int .i64 4, C.int .i64 3, C.int .i64 4, C.int .i64 2, C.int .i64 1, C.int .i64 0] true])
def IvC (bs : List Int) (o : Bool) (p3 : Nat) (s3 : Int) (k : Nat) (st : Env × Heap) : Prop := ∃ (R : List Int), R.length = 24 ∧ st = ([(0, V.c (C.ptr 0 0)), (2, V.c (C.ptr 2 0)), (3, V.c (C.ptr 3 0)), (8, V.c (C.int .i64 k))], [curB 1 bs.length p3 s3, byB bs o, Blk.cells (List.replicate 24 (C.int .i64 0)) true, Blk.cells (R.map (C.int .i64)) true])
def RsC (bs : List Int) (o : Bool) (p3 : Nat) (s3 : Int) (r : Ex × Env × Heap) : Prop := ∃ (R : List Int) (i : Int), R.length = 24 ∧ r = (.exit 4, [(0, V.c (C.ptr 0 0)), (2, V.c (C.ptr 2 0)), (3, V.c (C.ptr 3 0)), (8, V.c (C.int .i64 i)), (61, V.c (C.bool false))], [curB 1 bs.length p3 s3, byB bs o, Blk.cells (List.replicate 24 (C.int .i64 0)) true, Blk.cells (R.map (C.int .i64)) true])
def IvD (bs : List Int) (o : Bool) (p3 : Nat) (s3 : Int) (i k : Nat) (st : Env × Heap) : Prop := ∃ (R : List Int), R.length = 24 ∧ st = ([(0, V.c (C.ptr 0 0)), (2, V.c (C.ptr 2 0)), (3, V.c (C.ptr 3 0)), (8, V.c (C.int .i64 i)), (9, V.c (C.int .i64 ((k + 1 : Nat) : Int)))], [curB 1 bs.length p3 s3, byB bs o, Blk.cells (List.replicate 24 (C.int .i64 0)) true, Blk.cells (R.map (C.int .i64)) true])
def RsD (bs : List Int) (o : Bool) (p3 : Nat) (s3 : Int) (i : Nat) (r : Ex × Env × Heap) : Prop := ∃ (R : List Int) (k : Int), R.length = 24 ∧ r = (.exit 6, [(0, V.c (C.ptr 0 0)), (2, V.c (C.ptr 2 0)), (3, V.c (C.ptr 3 0)), (8, V.c (C.int .i64 i)), (9, V.c (C.int .i64 k)), (65, V.c (C.bool false))], [curB 1 bs.length p3 s3, byB bs o, Blk.cells (List.replicate 24 (C.int .i64 0)) true, Blk.cells (R.map (C.int .i64)) true])
/-- what a drawn rack is -/
def RkP (bs : List Int) (o : Bool) (p : Nat) (v : V) (h' : Heap) : Prop := ∃ (R : List Int) (p' : Nat) (s' : Int), R.length = 24 ∧ p' ≤ p + 400 ∧ v = .agg (R.map (C.int .i64)) ∧ h' = [curB 1 bs.length p' s', byB bs o]
set_option maxHeartbeats 16000000 in
theorem c_rack (bs : List Int) (hb : Bytes bs) (o : Bool) (p : Nat) (hp : p + 1000 < 1000000000) (s : Int) : ∃ (v : V) (h' : Heap), fnI pr np 83 [.c (.ptr 0 0)] [curB 1 bs.length p s, byB bs o] = some (v, h') ∧ RkP bs o p v h' := by
  obtain ⟨c, p1, s1, hc, hp1, hF1⟩ := c_among bs hb o p (by omega) s [2, 3, 2, 4, 5, 1] (by decide) (by decide)
  have hc := lit_range (lo := 1) (hi := 5) (by decide) hc
  obtain ⟨t, p2, s2, ht, hp2, hF2⟩ := c_among bs hb o p1 (by omega) s1 [3, 4, 2, 5, 6] (by decide) (by decide)
  have ht := lit_range (lo := 2) (hi := 6) (by decide) ht
  obtain ⟨T, rfl⟩ : ∃ T : Nat, t = (T : Int) := ⟨t.toNat, by omega⟩
  have k1 := call_among (by simp) hF1 0 3 1
  have k2 := call_among (by simp) hF2 0 4 1
  simp at k1 k2
  rw [fb (fn := a83) rfl rfl rfl]
  simp [a83, k1, k2, setAt_all]
  generalize hX : exI pr np 2 (ACode.loop _ _) _ _ = X
  have hl := loop_exit hX (IvA bs o c T p2) T (RsA bs o c T p2) ⟨([(0, V.c (C.ptr 0 0)), (2, V.c (C.ptr 2 0)), (3, V.c (C.ptr 3 0)), (4, V.c (C.int .i64 c)), (5, V.c (C.int .i64 T)), (6, V.c (C.int .i64 0))], [curB 1 bs.length p2 s2, byB bs o, Blk.cells (List.replicate 24 (C.int .i64 0)) true, Blk.cells ((List.replicate 24 0).map (C.int .i64)) true]), by simp, List.replicate 24 0, p2, s2, by simp, by omega, rfl⟩ ?_
  · obtain ⟨r, rfl, R, p3, s3, i, hR, hp3, rfl⟩ := hl
    clear hX
    simp
    generalize hX : exI pr np 2 (ACode.loop _ _) _ _ = X
    have hl := loop_exit hX (IvC bs o p3 s3) 6 (RsC bs o p3 s3) ⟨([(0, V.c (C.ptr 0 0)), (2, V.c (C.ptr 2 0)), (3, V.c (C.ptr 3 0)), (8, V.c (C.int .i64 0))], [curB 1 bs.length p3 s3, byB bs o, Blk.cells (List.replicate 24 (C.int .i64 0)) true, Blk.cells (R.map (C.int .i64)) true]), by simp, R, hR, rfl⟩ ?_
    · obtain ⟨r, rfl, R, i, hR, rfl⟩ := hl
      clear hX
      obtain ⟨q1, p4, s4, hp4, hG1⟩ := c_one bs hb o p3 (by omega) s3 3 (by decide) (by decide)
      have g1 := call_cur (rest := [.c (.int .i64 3)]) rfl hG1 0 1
      cases q1 with
      | false =>
        obtain ⟨z, pz, sz, hz, hpz, hGz⟩ := c_pick bs hb o p4 (by omega) s4 40 (by decide) (by decide)
        have gz := call_cur (rest := [.c (.int .i64 40)]) rfl hGz 0 1
        have r24 := take24 hR
        by_cases z0 : (z : Int) = 0
        · obtain ⟨x, px, sx, hx, hpx, hGx⟩ := c_pick bs hb o pz (by omega) sz 6 (by decide) (by decide)
          have gx := call_cur (rest := [.c (.int .i64 6)]) rfl hGx 0 1
          obtain ⟨y, py, sy, hy, hpy, hGy⟩ := c_pick bs hb o px (by omega) sx 4 (by decide) (by decide)
          have gy := call_cur (rest := [.c (.int .i64 4)]) rfl hGy 0 1
          obtain ⟨w, pw, sw, hw, hpw, hGw⟩ := c_among bs hb o py (by omega) sy [-1, 6, 4611686018427387904] (by decide) (by decide)
          have gw := call_among (by simp) hGw 0 4 1
          simp at gw
          have x6 : x < 6 := by omega
          have x6' : (x : Int) < 6 := by omega
          have y4 : y < 4 := by omega
          have y4' : (y : Int) < 4 := by omega
          have b1 : x * 4 + y + 1 ≤ 24 := by omega
          obtain ⟨R9, hR9, hset⟩ := put_one hR (x * 4 + y) w
          have r9 := take24 hR9
          have z0' : z = 0 := by omega
          subst z0'
          simp [g1, gz, gx, gy, gw, hR, hR9, x6, x6', y4, y4', b1, hset, r9, setAt_all, setAt, stillE, madeA, idOf]
          first | exact ⟨R9, pw, sw, hR9, by omega, rfl, rfl⟩ | exact ⟨_, _, ⟨rfl, rfl⟩, R9, pw, sw, hR9, by omega, rfl, rfl⟩ | exact ⟨_, _, rfl, R9, pw, sw, hR9, by omega, rfl, rfl⟩
        · by_cases z1 : (z : Int) = 1
          · obtain ⟨x, px, sx, hx, hpx, hGx⟩ := c_pick bs hb o pz (by omega) sz 6 (by decide) (by decide)
            have gx := call_cur (rest := [.c (.int .i64 6)]) rfl hGx 0 1
            have x6 : x < 6 := by omega
            have x6' : (x : Int) < 6 := by omega
            have b1 : x * 4 + 4 ≤ 24 := by omega
            obtain ⟨Ra, hRa, seta⟩ := put_one hR (x * 4) 0
            obtain ⟨Rb, hRb, setb⟩ := put_one hRa (x * 4 + 1) 1
            obtain ⟨Rc, hRc, setc⟩ := put_one hRb (x * 4 + 1 + 1) 0
            obtain ⟨R9, hR9, setd⟩ := put_one hRc (x * 4 + 1 + 1 + 1) 0
            have r9 := take24 hR9
            have z1' : z = 1 := by omega
            subst z1'
            simp [g1, gz, gx, hR, hR9, x6, x6', b1, seta, setb, setc, setd, r9, setAt_all, setAt, stillE, madeA, idOf]
            first | exact ⟨R9, px, sx, hR9, by omega, rfl, rfl⟩ | exact ⟨_, _, ⟨rfl, rfl⟩, R9, px, sx, hR9, by omega, rfl, rfl⟩ | exact ⟨_, _, rfl, R9, px, sx, hR9, by omega, rfl, rfl⟩
          · by_cases z2 : (z : Int) = 2
            · have z2' : z = 2 := by omega
              subst z2'
              simp [g1, gz, hR, r24, setAt_all, setAt, stillE, madeA, idOf]
              first | exact ⟨(List.replicate 24 0), pz, sz, (by simp), by omega, rfl, rfl⟩ | exact ⟨_, _, ⟨rfl, rfl⟩, (List.replicate 24 0), pz, sz, (by simp), by omega, rfl, rfl⟩ | exact ⟨_, _, rfl, (List.replicate 24 0), pz, sz, (by simp), by omega, rfl, rfl⟩
            · have y0 : ¬ z = 0 := by omega
              have y1 : ¬ z = 1 := by omega
              have y2 : ¬ z = 2 := by omega
              simp [g1, gz, hR, z0, z1, z2, y0, y1, y2, r24, setAt_all, setAt, stillE, madeA, idOf]
              first | exact ⟨R, pz, sz, hR, by omega, rfl, rfl⟩ | exact ⟨_, _, ⟨rfl, rfl⟩, R, pz, sz, hR, by omega, rfl, rfl⟩ | exact ⟨_, _, rfl, R, pz, sz, hR, by omega, rfl, rfl⟩
      | true =>
        obtain ⟨u, pu, su, hu, hpu, hGu⟩ := c_pick bs hb o p4 (by omega) s4 6 (by decide) (by decide)
        have gu := call_cur (rest := [.c (.int .i64 6)]) rfl hGu 0 1
        obtain ⟨v, pv, sv, hv, hpv, hGv⟩ := c_pick bs hb o pu (by omega) su 6 (by decide) (by decide)
        have gv := call_cur (rest := [.c (.int .i64 6)]) rfl hGv 0 1
        have u6 : u < 6 := by omega
        have u6' : (u : Int) < 6 := by omega
        have v6 : v < 6 := by omega
        have v6' : (v : Int) < 6 := by omega
        have bu : u * 4 + 4 ≤ 24 := by omega
        have bv : v * 4 + 4 ≤ 24 := by omega
        have tu := cells_tube R u
        have tv := cells_tube R v
        have lu := tubeAt_len hR u6
        have lv := tubeAt_len hR v6
        have qu : ((tubeAt R u).map (C.int .i64)).take 4 = (tubeAt R u).map (C.int .i64) := List.take_of_length_le (by simp [lu])
        have qv : ((tubeAt R v).map (C.int .i64)).take 4 = (tubeAt R v).map (C.int .i64) := List.take_of_length_le (by simp [lv])
        obtain ⟨R1, hR1, set1⟩ := put_four hR (u * 4) (tubeAt R v)
        obtain ⟨R2, hR2, set2⟩ := put_four hR1 (v * 4) (tubeAt R u)
        generalize tubeAt R u = tU at *
        generalize tubeAt R v = tV at *
        obtain ⟨z, pz, sz, hz, hpz, hGz⟩ := c_pick bs hb o pv (by omega) sv 40 (by decide) (by decide)
        have gz := call_cur (rest := [.c (.int .i64 40)]) rfl hGz 0 1
        have r24 := take24 hR2
        by_cases z0 : (z : Int) = 0
        · obtain ⟨x, px, sx, hx, hpx, hGx⟩ := c_pick bs hb o pz (by omega) sz 6 (by decide) (by decide)
          have gx := call_cur (rest := [.c (.int .i64 6)]) rfl hGx 0 1
          obtain ⟨y, py, sy, hy, hpy, hGy⟩ := c_pick bs hb o px (by omega) sx 4 (by decide) (by decide)
          have gy := call_cur (rest := [.c (.int .i64 4)]) rfl hGy 0 1
          obtain ⟨w, pw, sw, hw, hpw, hGw⟩ := c_among bs hb o py (by omega) sy [-1, 6, 4611686018427387904] (by decide) (by decide)
          have gw := call_among (by simp) hGw 0 6 1
          simp at gw
          have x6 : x < 6 := by omega
          have x6' : (x : Int) < 6 := by omega
          have y4 : y < 4 := by omega
          have y4' : (y : Int) < 4 := by omega
          have b1 : x * 4 + y + 1 ≤ 24 := by omega
          obtain ⟨R9, hR9, hset⟩ := put_one hR2 (x * 4 + y) w
          have r9 := take24 hR9
          have z0' : z = 0 := by omega
          subst z0'
          simp [g1, gz, gx, gy, gw, hR2, hR9, x6, x6', y4, y4', b1, hset, r9, setAt_all, setAt, stillE, madeA, idOf, gu, gv, u6, u6', v6, v6', bu, bv, tu, tv, lu, lv, qu, qv, set1, set2, hR, hR1]
          first | exact ⟨R9, pw, sw, hR9, by omega, rfl, rfl⟩ | exact ⟨_, _, ⟨rfl, rfl⟩, R9, pw, sw, hR9, by omega, rfl, rfl⟩ | exact ⟨_, _, rfl, R9, pw, sw, hR9, by omega, rfl, rfl⟩
        · by_cases z1 : (z : Int) = 1
          · obtain ⟨x, px, sx, hx, hpx, hGx⟩ := c_pick bs hb o pz (by omega) sz 6 (by decide) (by decide)
            have gx := call_cur (rest := [.c (.int .i64 6)]) rfl hGx 0 1
            have x6 : x < 6 := by omega
            have x6' : (x : Int) < 6 := by omega
            have b1 : x * 4 + 4 ≤ 24 := by omega
            obtain ⟨Ra, hRa, seta⟩ := put_one hR2 (x * 4) 0
            obtain ⟨Rb, hRb, setb⟩ := put_one hRa (x * 4 + 1) 1
            obtain ⟨Rc, hRc, setc⟩ := put_one hRb (x * 4 + 1 + 1) 0
            obtain ⟨R9, hR9, setd⟩ := put_one hRc (x * 4 + 1 + 1 + 1) 0
            have r9 := take24 hR9
            have z1' : z = 1 := by omega
            subst z1'
            simp [g1, gz, gx, hR2, hR9, x6, x6', b1, seta, setb, setc, setd, r9, setAt_all, setAt, stillE, madeA, idOf, gu, gv, u6, u6', v6, v6', bu, bv, tu, tv, lu, lv, qu, qv, set1, set2, hR, hR1]
            first | exact ⟨R9, px, sx, hR9, by omega, rfl, rfl⟩ | exact ⟨_, _, ⟨rfl, rfl⟩, R9, px, sx, hR9, by omega, rfl, rfl⟩ | exact ⟨_, _, rfl, R9, px, sx, hR9, by omega, rfl, rfl⟩
          · by_cases z2 : (z : Int) = 2
            · have z2' : z = 2 := by omega
              subst z2'
              simp [g1, gz, hR2, r24, setAt_all, setAt, stillE, madeA, idOf, gu, gv, u6, u6', v6, v6', bu, bv, tu, tv, lu, lv, qu, qv, set1, set2, hR, hR1]
              first | exact ⟨(List.replicate 24 0), pz, sz, (by simp), by omega, rfl, rfl⟩ | exact ⟨_, _, ⟨rfl, rfl⟩, (List.replicate 24 0), pz, sz, (by simp), by omega, rfl, rfl⟩ | exact ⟨_, _, rfl, (List.replicate 24 0), pz, sz, (by simp), by omega, rfl, rfl⟩
            · have y0 : ¬ z = 0 := by omega
              have y1 : ¬ z = 1 := by omega
              have y2 : ¬ z = 2 := by omega
              simp [g1, gz, hR2, z0, z1, z2, y0, y1, y2, r24, setAt_all, setAt, stillE, madeA, idOf, gu, gv, u6, u6', v6, v6', bu, bv, tu, tv, lu, lv, qu, qv, set1, set2, hR, hR1]
              first | exact ⟨R2, pz, sz, hR2, by omega, rfl, rfl⟩ | exact ⟨_, _, ⟨rfl, rfl⟩, R2, pz, sz, hR2, by omega, rfl, rfl⟩ | exact ⟨_, _, rfl, R2, pz, sz, hR2, by omega, rfl, rfl⟩
    · intro k hk st hst
      obtain ⟨R, hR, rfl⟩ := hst
      by_cases h6 : k < 6
      · left
        refine ⟨h6, ?_⟩
        have h6' : (k : Int) < 6 := by omega
        have wk := wrapS (k := k) (by omega)
        simp [h6, h6']
        generalize hX : exI pr np 2 (ACode.loop _ _) _ _ = X
        have hl := loop_exit hX (IvD bs o p3 s3 k) 3 (RsD bs o p3 s3 k) ⟨([(0, V.c (C.ptr 0 0)), (2, V.c (C.ptr 2 0)), (3, V.c (C.ptr 3 0)), (8, V.c (C.int .i64 k)), (9, V.c (C.int .i64 1))], [curB 1 bs.length p3 s3, byB bs o, Blk.cells (List.replicate 24 (C.int .i64 0)) true, Blk.cells (R.map (C.int .i64)) true]), by simp, R, hR, rfl⟩ ?_
        · obtain ⟨r, rfl, R, i, hR, rfl⟩ := hl
          clear hX
          simp [wk]
          first | exact ⟨R, hR, rfl⟩ | exact ⟨_, _, ⟨rfl, rfl⟩, R, hR, rfl⟩ | exact ⟨_, _, rfl, R, hR, rfl⟩
        · intro j hj st hst
          obtain ⟨R, hR, rfl⟩ := hst
          by_cases h3 : j < 3
          · left
            refine ⟨h3, ?_⟩
            have j1 : (j : Int) + 1 < 4 := by omega
            have j2 : (j : Int) < 4 := by omega
            have j3 : (0 : Int) ≤ (j : Int) + 1 := by omega
            have j4 : j + 1 < 4 := by omega
            have j5 : j < 4 := by omega
            have wj : IntKind.i64.wrap ((j : Int) + 1 + 1) = (j : Int) + 1 + 1 := wrapI (by omega) (by omega)
            have wj2 : IntKind.i64.wrap (j : Int) = (j : Int) := wrapI (by omega) (by omega)
            have g := drop_take1 (c := R) (j := k * 4 + j) (by omega)
            have b1 : k * 4 + j + 1 ≤ 24 := by omega
            have b2 : k * 4 + (j + 1) + 1 ≤ 24 := by omega
            obtain ⟨R', hR', hset⟩ := put_one hR (k * 4 + (j + 1)) 0
            by_cases h0 : R.getD (k * 4 + j) 0 = 0
            · rw [h0] at g
              simp [h6, h6', hR, j1, j2, j3, j4, j5, wj, wj2, g, b1, b2, hset, setAt]
              first | exact ⟨R', hR', rfl⟩ | exact ⟨_, _, ⟨rfl, rfl⟩, R', hR', rfl⟩ | exact ⟨_, _, rfl, R', hR', rfl⟩
            · generalize R.getD (k * 4 + j) 0 = x at *
              simp [h6, h6', hR, j1, j2, j3, j4, j5, wj, wj2, g, b1, b2, h0, setAt]
              first | exact ⟨R, hR, rfl⟩ | exact ⟨_, _, ⟨rfl, rfl⟩, R, hR, rfl⟩ | exact ⟨_, _, rfl, R, hR, rfl⟩
          · right
            have h3' : ¬ (j : Int) + 1 < 4 := by omega
            simp [h3, h3']
            exact ⟨R, _, hR, rfl⟩
      · right
        have h6' : ¬ (k : Int) < 6 := by omega
        simp [h6, h6']
        exact ⟨R, _, hR, rfl⟩
  · intro i hi st hst
    obtain ⟨R, p3, s3, hR, hp3, rfl⟩ := hst
    by_cases hT : i < T
    · left
      refine ⟨hT, ?_⟩
      have i6 : i < 6 := by omega
      have i6' : (i : Int) < 6 := by omega
      have wi := wrapS (k := i) (by omega)
      simp [hT]
      generalize hX : exI pr np 2 (ACode.loop _ _) _ _ = X
      have hl := loop_exit hX (IvB bs o c T p3 i) 5 (RsB bs o c T p3 i) ⟨([(0, V.c (C.ptr 0 0)), (2, V.c (C.ptr 2 0)), (3, V.c (C.ptr 3 0)), (4, V.c (C.int .i64 c)), (5, V.c (C.int .i64 T)), (6, V.c (C.int .i64 i)), (7, V.c (C.int .i64 0))], [curB 1 bs.length p3 s3, byB bs o, Blk.cells (List.replicate 24 (C.int .i64 0)) true, Blk.cells (R.map (C.int .i64)) true]), by simp, R, p3, s3, hR, by omega, rfl⟩ ?_
      · obtain ⟨r, rfl, R, p', s', k, hR, hp', rfl⟩ := hl
        clear hX
        simp [wi]
        first | exact ⟨R, p', s', hR, by omega, rfl⟩ | exact ⟨_, _, ⟨rfl, rfl⟩, R, p', s', hR, by omega, rfl⟩ | exact ⟨_, _, rfl, R, p', s', hR, by omega, rfl⟩
      · intro k hk st hst
        obtain ⟨R, p4, s4, hR, hp4, rfl⟩ := hst
        obtain ⟨x, p5, s5, hx, hp5, hG⟩ := c_among bs hb o p4 (by omega) s4 [4, 3, 4, 2, 1, 0] (by decide) (by decide)
        have hx := lit_range (lo := 0) (hi := 4) (by decide) hx
        have g1 := call_among (by simp) hG 0 4 1
        simp at g1
        by_cases hkx : (k : Int) < x
        · left
          have k5 : k < 5 := by omega
          have k4 : k < 4 := by omega
          have k4' : (k : Int) < 4 := by omega
          refine ⟨k5, ?_⟩
          obtain ⟨y, p6, s6, hy, hp6, hG2⟩ := c_pick bs hb o p5 (by omega) s5 c (by omega) (by omega)
          have g2 := call_cur (rest := [.c (.int .i64 c)]) rfl hG2 0 1
          have wk := wrapS (k := k) (by omega)
          have wy : IntKind.i64.wrap (1 + (y : Int)) = 1 + (y : Int) := wrapI (by omega) (by omega)
          obtain ⟨R', hR', hset⟩ := put_one hR (i * 4 + k) (1 + (y : Int))
          have b1 : i * 4 + k + 1 ≤ 24 := by omega
          by_cases hk0 : 0 < k
          · obtain ⟨q, p7, s7, hp7, hG3⟩ := c_one bs hb o p6 (by omega) s6 3 (by decide) (by decide)
            have g3 := call_cur (rest := [.c (.int .i64 3)]) rfl hG3 0 1
            have hk0' : (0 : Int) < (k : Int) := by omega
            obtain ⟨z, rfl⟩ : ∃ z, k = z + 1 := ⟨k - 1, by omega⟩
            have wz : IntKind.i64.wrap (z : Int) = (z : Int) := wrapI (by omega) (by omega)
            have z4 : z < 4 := by omega
            have z4' : (z : Int) < 4 := by omega
            have k4'' : (z : Int) + 1 < 4 := by omega
            have g := drop_take1 (c := R') (j := i * 4 + z) (by omega)
            have b2 : i * 4 + z + 1 ≤ 24 := by omega
            have hkx' : (z : Int) + 1 < x := by omega
            have z0 : (0 : Int) ≤ (z : Int) + 1 := by omega
            have z01 : (0 : Int) < (z : Int) + 1 := by omega
            have wk' : IntKind.i64.wrap ((z : Int) + 1 + 1) = (z : Int) + 1 + 1 := wrapI (by omega) (by omega)
            obtain ⟨R2, hR2, hset2⟩ := put_one hR' (i * 4 + (z + 1)) (R'.getD (i * 4 + z) 0)
            generalize R'.getD (i * 4 + z) 0 = w at *
            cases q with
            | true =>
              simp [hT, i6, i6', hR, hR', g1, g2, g3, hkx', k4, k4'', z0, z01, wz, z4, z4', wk', wy, b1, b2, g, hset, hset2, setAt, stillE, madeA, idOf]
              first | exact ⟨R2, p7, s7, hR2, by omega, rfl⟩ | exact ⟨_, _, ⟨rfl, rfl⟩, R2, p7, s7, hR2, by omega, rfl⟩ | exact ⟨_, _, rfl, R2, p7, s7, hR2, by omega, rfl⟩
            | false =>
              simp [hT, i6, i6', hR, hR', g1, g2, g3, hkx', k4, k4'', z0, z01, wz, z4, z4', wk', wy, b1, b2, g, hset, setAt, stillE, madeA, idOf]
              first | exact ⟨R', p7, s7, hR', by omega, rfl⟩ | exact ⟨_, _, ⟨rfl, rfl⟩, R', p7, s7, hR', by omega, rfl⟩ | exact ⟨_, _, rfl, R', p7, s7, hR', by omega, rfl⟩
          · have hk0 : k = 0 := by omega
            subst hk0
            have hkx' : 0 < x := by omega
            simp only [Nat.add_zero] at hset b1
            simp [hT, i6, i6', hR, hR', g1, g2, hkx', wy, b1, hset, setAt, stillE, madeA, idOf]
            first | exact ⟨R', p6, s6, hR', by omega, rfl⟩ | exact ⟨_, _, ⟨rfl, rfl⟩, R', p6, s6, hR', by omega, rfl⟩ | exact ⟨_, _, rfl, R', p6, s6, hR', by omega, rfl⟩
        · right
          simp [g1, hkx]
          exact ⟨R, p5, s5, _, hR, by omega, rfl⟩
    · right
      have hT' : ¬ (i : Int) < (T : Int) := by omega
      simp [hT, hT']
      exact ⟨R, p3, s3, _, hR, by omega, rfl⟩
end Go.Proofs.YtgpafbbnobanbaaGreatDoor.AM
