import Derived.Test.YtahfeigilhjgpaaDoorLogE
/- Contracts and laws: a crash; the records of a log. -/
namespace Go.Proofs.YtahfeigilhjgpaaDoor.AM
open Go
set_option maxRecDepth 1000000
set_option linter.unusedSimpArgs false
set_option linter.unusedVariables false
theorem all_bytes {f : C → Bool} (hf : ∀ x : UInt8, f (.int .u8 x.toNat) = true) (s : Tx) : (bytesC s).all f = true := by
  unfold bytesC
  rw [List.all_map, List.all_eq_true]
  intro x _
  exact hf x
theorem map_bytes {g : C → UInt8} (hg : ∀ x : UInt8, g (.int .u8 x.toNat) = x) (s : Tx) : (bytesC s).map g = s := by
  unfold bytesC
  rw [List.map_map]
  have : (g ∘ fun b : UInt8 => C.int .u8 b.toNat) = id := by funext x; exact hg x
  rw [this, List.map_id]
theorem bytesC_take (s : Tx) : (bytesC s).take s.length = bytesC s := List.take_of_length_le (by simp)
theorem lt256 (x : UInt8) : (x.toNat : Int) < 256 := by have := x.toNat_lt; omega
theorem neg255 (x : UInt8) : IntKind.u8.wrap (255 - (x.toNat : Int)) = ((255 - x : UInt8).toNat : Int) := by
  have h := x.toNat_lt
  have e : (255 - x : UInt8).toNat = 255 - x.toNat := by
    rw [UInt8.toNat_sub]
    have : (255 : UInt8).toNat = 255 := rfl
    rw [this]
    omega
  rw [e]
  simp only [IntKind.wrap, IntKind.bits, IntKind.signed]
  simp
  omega
def flipAt (t : Tx) (i : Nat) : Tx := t.set i (255 - t.getD i 0)
theorem flip_cells (t : Tx) (i : Nat) (x : UInt8) : (bytesC t).set i (C.int .u8 x.toNat) = bytesC (t.set i x) := by unfold bytesC; simp
theorem flip_len (t : Tx) (i : Nat) : (flipAt t i).length = t.length := by simp [flipAt]
def crashT (d p : Tx) (n : Nat) (torn : Bool) : Tx := d ++ cond (torn && decide (0 < n)) (flipAt (p.take n) (n - 1)) (p.take n)
theorem flip_app {d t : Tx} {n : Nat} (h : t.length = n) (h0 : 0 < n) : flipAt (d ++ t) (d.length + n - 1) = d ++ flipAt t (n - 1) := by
  unfold flipAt
  have e : d.length + n - 1 = d.length + (n - 1) := by omega
  have eg : (d ++ t).getD (d.length + (n - 1)) 0 = t.getD (n - 1) 0 := by
    rw [List.getD_eq_getElem?_getD, List.getD_eq_getElem?_getD, List.getElem?_append_right (by omega)]
    congr 2
    omega
  rw [e, eg, List.set_append_right _ _ (by omega)]
  congr 2
  omega
noncomputable def crashV (d p : Tx) (c keep : Int) (torn : Bool) : V := cond (validS d p c && (decide (0 ≤ keep) && decide (keep ≤ (p.length : Int)))) (.tup [.c (.str (crashT d p keep.toNat torn)), .c (.bool true)]) (.tup [.c (.str []), .c (.bool false)])
set_option maxHeartbeats 1000000 in
theorem c_spec_CrashLog (d p : Tx) (c keep : Int) (torn : Bool) (hd : d.length < 40000000) (hp : p.length < 40000000) : fnI pr np 37 [logV d p c, .c (.int .i64 keep), .c (.bool torn)] [] = some (crashV d p c keep torn, []) := by
  have h1 := callA_pure (c_spec_l12Valid d p c hd hp) (by simp) (by simp)
  have h2 := callA_pure (c_spec_l1In keep 0 (p.length : Int)) (by simp) (by simp)
  rw [fb (fn := a37) rfl rfl rfl]
  unfold crashV
  cases hv : validS d p c with
  | false => rw [hv] at h1; simp [a37, h1, sub]
  | true =>
    rw [hv] at h1
    by_cases c0 : 0 ≤ keep
    · by_cases c1 : keep ≤ (p.length : Int)
      · obtain ⟨n, rfl⟩ : ∃ n : Nat, keep = (n : Int) := ⟨keep.toNat, by omega⟩
        have en : ((n : Int)).toNat = n := by omega
        rw [decide_eq_true c0, decide_eq_true c1, en]
        rw [decide_eq_true c0, decide_eq_true c1] at h2
        simp only [Bool.and_self] at h2
        have c1n : n ≤ p.length := by omega
        have lt : (p.take n).length = n := by simp; omega
        have hroom : n ≤ 68719476736 := by omega
        have b1 : d.length + n ≤ 9223372036854775807 := by omega
        unfold crashT
        have htk := bytesC_take (p.take n)
        generalize hT : p.take n = T at *
        rw [lt] at htk
        by_cases c2 : 0 < n
        · have c2' : (0 : Int) < (n : Int) := by omega
          have w1 : IntKind.i64.wrap ((n : Int) - 1) = ((n - 1 : Nat) : Int) := by rw [show ((n - 1 : Nat) : Int) = (n : Int) - 1 by omega]; exact wrapI (by omega) (by omega)
          have g1 := bytesC_get (s := T) (k := n - 1) (by omega)
          have w2 := neg255 (T.getD (n - 1) 0)
          have fl := flip_cells T (n - 1) (255 - T.getD (n - 1) 0)
          have hfl : flipAt T (n - 1) = T.set (n - 1) (255 - T.getD (n - 1) 0) := rfl
          have htk2 := bytesC_take (flipAt T (n - 1))
          rw [flip_len, lt] at htk2
          have b2 : n - 1 + 1 ≤ n := by omega
          have b3 : n - 1 < n := by omega
          have b4 : ((n - 1 : Nat) : Int) < (n : Int) := by omega
          have lf : (flipAt T (n - 1)).length = n := by rw [flip_len, lt]
          rw [← hfl] at fl
          generalize flipAt T (n - 1) = T2 at *
          generalize T.getD (n - 1) 0 = x at *
          generalize hm : n - 1 = m at *
          cases torn with
          | false => simp [a37, h1, h2, lt, c0, c1, c1n, c2, c2', hT, hroom, htk, b1, all_bytes, map_bytes, lt256, lf, sub, -List.all_eq_true]
          | true => simp [a37, h1, h2, lt, c0, c1, c1n, c2, c2', hT, hroom, htk, b1, b2, b3, b4, w1, w2, g1, fl, setAt, htk2, all_bytes, map_bytes, lt256, lf, sub, -List.all_eq_true]
        · have c2' : ¬ (0 : Int) < (n : Int) := by omega
          cases torn with
          | false => simp [a37, h1, h2, lt, c0, c1, c1n, c2, c2', hT, hroom, htk, b1, all_bytes, map_bytes, lt256, sub, -List.all_eq_true]
          | true => simp [a37, h1, h2, lt, c0, c1, c1n, c2, c2', hT, hroom, htk, b1, all_bytes, map_bytes, lt256, sub, -List.all_eq_true]
      · rw [decide_eq_false c1] at h2 ⊢
        rw [Bool.and_false] at h2
        simp [a37, h1, h2, sub]
    · rw [decide_eq_false c0] at h2 ⊢
      rw [Bool.false_and] at h2
      simp [a37, h1, h2, sub]
set_option maxHeartbeats 1000000 in
theorem c_impl_CrashLog (d p : Tx) (c keep : Int) (torn : Bool) (hd : d.length < 40000000) (hp : p.length < 40000000) : fnI pr np 36 [logV d p c, .c (.int .i64 keep), .c (.bool torn)] [] = some (crashV d p c keep torn, []) := by
  have h1 := callA_pure (c_impl_IsValidLog d p c hd hp) (by simp) (by simp)
  have h2 := callA_pure (c_impl_within keep 0 (p.length : Int)) (by simp) (by simp)
  rw [fb (fn := a36) rfl rfl rfl]
  unfold crashV
  cases hv : validS d p c with
  | false => rw [hv] at h1; simp [a36, h1, sub]
  | true =>
    rw [hv] at h1
    by_cases c0 : 0 ≤ keep
    · by_cases c1 : keep ≤ (p.length : Int)
      · obtain ⟨n, rfl⟩ : ∃ n : Nat, keep = (n : Int) := ⟨keep.toNat, by omega⟩
        have en : ((n : Int)).toNat = n := by omega
        rw [decide_eq_true c0, decide_eq_true c1, en]
        rw [decide_eq_true c0, decide_eq_true c1] at h2
        simp only [Bool.and_self] at h2
        have c1n : n ≤ p.length := by omega
        have lt : (p.take n).length = n := by simp; omega
        unfold crashT
        generalize hT : p.take n = T at *
        have b1 : d.length + n ≤ 9223372036854775807 := by omega
        have lD : (d ++ T).length = d.length + n := by rw [List.length_append, lt]
        have hroom : d.length + n ≤ 68719476736 := by omega
        have htk := bytesC_take (d ++ T)
        rw [lD] at htk
        by_cases c2 : 0 < n
        · have c2' : (0 : Int) < (n : Int) := by omega
          have hfa := flip_app (d := d) lt c2
          have w1 : IntKind.i64.wrap ((d.length : Int) + (n : Int) - 1) = ((d.length + n - 1 : Nat) : Int) := by rw [show ((d.length + n - 1 : Nat) : Int) = (d.length : Int) + (n : Int) - 1 by omega]; exact wrapI (by omega) (by omega)
          have g1 := bytesC_get (s := d ++ T) (k := d.length + n - 1) (by omega)
          have w2 := neg255 ((d ++ T).getD (d.length + n - 1) 0)
          have fl := flip_cells (d ++ T) (d.length + n - 1) (255 - (d ++ T).getD (d.length + n - 1) 0)
          have hfl : flipAt (d ++ T) (d.length + n - 1) = (d ++ T).set (d.length + n - 1) (255 - (d ++ T).getD (d.length + n - 1) 0) := rfl
          have htk2 := bytesC_take (flipAt (d ++ T) (d.length + n - 1))
          rw [flip_len, lD] at htk2
          have b2 : d.length + n - 1 + 1 ≤ d.length + n := by omega
          have b3 : d.length + n - 1 < d.length + n := by omega
          have b4 : ((d.length + n - 1 : Nat) : Int) < (d.length : Int) + (n : Int) := by omega
          rw [← hfl, hfa] at fl
          rw [hfa] at htk2
          have lf : (flipAt T (n - 1)).length = n := by rw [flip_len, lt]
          generalize flipAt T (n - 1) = T2 at *
          generalize (d ++ T).getD (d.length + n - 1) 0 = x at *
          generalize hm : d.length + n - 1 = m at *
          cases torn with
          | false => simp [a36, h1, h2, lt, c0, c1, c1n, c2, c2', hT, hroom, htk, b1, all_bytes, map_bytes, lt256, sub, -List.all_eq_true]
          | true => simp [a36, h1, h2, lt, c0, c1, c1n, c2, c2', hT, hroom, htk, b1, b2, b3, b4, w1, w2, g1, fl, setAt, htk2, lf, all_bytes, map_bytes, lt256, sub, -List.all_eq_true]
        · have c2' : ¬ (0 : Int) < (n : Int) := by omega
          cases torn with
          | false => simp [a36, h1, h2, lt, c0, c1, c1n, c2, c2', hT, hroom, htk, b1, all_bytes, map_bytes, lt256, sub, -List.all_eq_true]
          | true => simp [a36, h1, h2, lt, c0, c1, c1n, c2, c2', hT, hroom, htk, b1, all_bytes, map_bytes, lt256, sub, -List.all_eq_true]
      · rw [decide_eq_false c1] at h2 ⊢
        rw [Bool.and_false] at h2
        simp [a36, h1, h2, sub]
    · rw [decide_eq_false c0] at h2 ⊢
      rw [Bool.false_and] at h2
      simp [a36, h1, h2, sub]
theorem crashV_form (d p : Tx) (c keep : Int) (torn : Bool) : ∃ (s : Tx) (q : Bool), crashV d p c keep torn = .tup [.c (.str s), .c (.bool q)] := by
  unfold crashV
  cases (validS d p c && (decide (0 ≤ keep) && decide (keep ≤ (p.length : Int))))
  · exact ⟨_, _, rfl⟩
  · exact ⟨_, _, rfl⟩
end Go.Proofs.YtahfeigilhjgpaaDoor.AM
