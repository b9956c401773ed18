import Derived.Test.YtahfeigilhjgpaaDoorDrawY
/- Contracts: texts drawn; what the laws of logs share. -/
namespace Go.Proofs.YtahfeigilhjgpaaDoor.AM
open Go
set_option maxRecDepth 1000000
set_option linter.unusedSimpArgs false
set_option linter.unusedVariables false
theorem cids_app (xs ys : List C) : cids (xs ++ ys) = cids xs ++ cids ys := by
  induction xs with
  | nil => rfl
  | cons x r ih => simp [cids, ih]
theorem cmp_app (g : Nat → Nat) (xs ys : List C) : cmp g (xs ++ ys) = cmp g xs ++ cmp g ys := by rw [cmp_eq, cmp_eq, cmp_eq, List.map_append]
theorem inst_zero8 : ∀ (n m : Nat), inst (rep n [.k (C.int .u8 0)]) m = (bytesC (List.replicate n 0), [])
  | 0, m => rfl
  | n + 1, m => by
    have := inst_zero8 n m
    simp only [rep, List.cons_append, List.nil_append, inst, this]
    rfl
theorem c_laws_vBig (bs : List Int) (o : Bool) (hn : bs.length ≤ 9223372036854775807) : fnI pr np 16 [.c (.sl 0 0 bs.length 1)] [byB bs o] = some (.c (.bool (decide (65536 < bs.length))), [byB bs o]) := by
  have e : decide ((65536 : Int) < (bs.length : Int)) = decide (65536 < bs.length) := by apply decide_eq_decide.2; omega
  rw [fb (fn := a16) rfl rfl rfl]
  simp [a16, sub]
  omega
theorem bs_drop (bs : List Int) (k : Nat) : ((bs.map (C.int .u8)).drop k).take (bs.length - k) = (bs.drop k).map (C.int .u8) := by
  rw [← List.map_drop, List.take_of_length_le (by simp)]
theorem c_laws_vCut (bs : List Int) (hb : Bytes bs) (hn : bs.length ≤ 70000) (o : Bool) (n : Nat) (h3 : n ≤ 9) : ∃ bs' : List Int, Bytes bs' ∧ fnI pr np 19 [.c (.sl 0 0 bs.length 1), .c (.int .i64 n)] [byB bs o] = some (.c (.sl 1 0 bs'.length 1), [byB bs o, byB bs' true]) := by
  obtain ⟨k, hk, hkl, hc⟩ : ∃ k : Nat, k ≤ 9 ∧ k ≤ bs.length ∧ ((bs.length < n ∧ k = bs.length) ∨ (n ≤ bs.length ∧ k = n)) := by
    by_cases h : bs.length < n
    · exact ⟨bs.length, by omega, by omega, .inl ⟨h, rfl⟩⟩
    · exact ⟨n, by omega, by omega, .inr ⟨by omega, rfl⟩⟩
  refine ⟨bs.drop k ++ [(k : Int)], ⟨?_, ?_⟩, ?_⟩
  · intro x hx
    rcases List.mem_append.1 hx with hx | hx
    · exact hb.rg x (List.mem_of_mem_drop hx)
    · have : x = (k : Int) := by simpa using hx
      omega
  · simp
    omega
  · have wk : IntKind.u8.wrap (k : Int) = (k : Int) := by
      simp [IntKind.wrap, IntKind.bits, IntKind.signed]
      omega
    have hd := bs_drop bs k
    have hmd : (bs.map (C.int .u8)).drop k = (bs.drop k).map (C.int .u8) := List.map_drop.symm
    have b1 : k + (bs.length - k) ≤ bs.length := by omega
    have b2 : bs.length - k ≤ 68719476736 := by omega
    have b3 : bs.length - k + 1 ≤ 68719476736 := by omega
    have b4 : k + (bs.length - k) = bs.length := by omega
    have hdl : (bs.drop k).length = bs.length - k := by simp
    have htk : ((bs.drop k).map (C.int .u8)).take (bs.length - k) = (bs.drop k).map (C.int .u8) := List.take_of_length_le (by simp)
    have hkl' : (k : Int) ≤ (bs.length : Int) := by omega
    rw [fb (fn := a19) rfl rfl rfl]
    unfold byB
    have hlen : (bs.drop k ++ [(k : Int)]).length = bs.length - k + 1 := by simp
    rw [List.map_append, hlen]
    generalize bs.drop k = ds at *
    rcases hc with ⟨h, rfl⟩ | ⟨h, rfl⟩
    · have h' : (bs.length : Int) < (n : Int) := by omega
      simp [a19, h, h', wk, hmd, b1, b2, b3, b4, hdl, htk, hkl, hkl', cids_app, cmp_app, sub]
      exact List.length_eq_zero_iff.1 (by omega)
    · have h' : ¬ (bs.length : Int) < (k : Int) := by omega
      have h2 : ¬ bs.length < k := by omega
      simp [a19, h, h', h2, wk, hmd, b1, b2, b3, b4, hdl, htk, hkl, hkl', cids_app, cmp_app, sub]
theorem take_get {l k : List (Tx × Tx)} {n i : Nat} (h : l.take n = k.take n) (hi : i < n) : l[i]? = k[i]? := by
  have := congrArg (fun x => x[i]?) h
  simpa [List.getElem?_take, hi] using this
theorem c_laws_vRecords (l k : List (Tx × Tx)) (n : Nat) (hl : n ≤ l.length) (hk : n ≤ k.length) (hn : n ≤ 1000) (h : l.take n = k.take n) : fnI pr np 34 [.c (.sl 0 0 n 2), .c (.sl 1 0 n 2)] [.cells (recC l) true, .cells (recC k) true] = some (.c (.bool true), [.cells (recC l) true, .cells (recC k) true]) := by
  rw [fb (fn := a34) rfl rfl rfl]
  simp [a34]
  rw [loop_to (fun i => ([(0, V.c (C.sl 0 0 n 2)), (1, V.c (C.sl 1 0 n 2)), (5, V.c (C.int .i64 i))], [Blk.cells (recC l) true, Blk.cells (recC k) true])) n]
  · simp [sub]
  · simp [sub]
  · intro i hi
    have hi' : (i : Int) < (n : Int) := by omega
    have wi := wrapS (k := i) (by omega)
    have hil : i < l.length := by omega
    have e1 : l[i]? = some (l[i]'hil) := List.getElem?_eq_getElem hil
    obtain ⟨_, _, g⟩ := recC_get l i (l[i]'hil) e1
    obtain ⟨_, _, g2⟩ := recC_get k i (l[i]'hil) ((take_get h hi).symm.trans e1)
    have b3 : i * 2 + 2 ≤ l.length * 2 := by omega
    have b4 : i * 2 + 2 ≤ k.length * 2 := by omega
    generalize l[i]'hil = q at *
    simp [hi, hi', wi, g, g2, b3, b4, conf, conf1, sub]
set_option maxHeartbeats 8000000 in
theorem c_DrawRecoverLog (bs : List Int) (hb : Bytes bs) (o : Bool) : ∃ (v : V), fnI pr np 38 [.c (.sl 0 0 bs.length 1)] [byB bs o] = some (v, [byB bs o]) ∧ ∃ (x : Tx), x.length ≤ 40000 ∧ v = .c (.str x) := by
  obtain ⟨v, h', hF, d, t, c, p1, s1, h1, h2, h3, hp1, rfl, rfl⟩ := c_log12 bs hb o 0 (by omega) 0
  have k1 := call_cur (rest := []) rfl hF 2 0
  have b1 : d.length + t.length ≤ 9223372036854775807 := by omega
  obtain ⟨m, p2, s2, hm, hp2, hF2⟩ := c_pick bs hb o p1 (by omega) s1 4 (by decide) (by decide)
  have k2 := call_cur (rest := [.c (.int .i64 4)]) rfl hF2 2 0
  obtain ⟨S, hS⟩ : ∃ S : Tx, S = d ++ t := ⟨_, rfl⟩
  have hSl : S.length ≤ 420 := by rw [hS]; simp; omega
  rw [fb (fn := a38) rfl rfl rfl]
  unfold logV curB at *
  by_cases m0 : (m : Int) = 0
  · have : m = 0 := by omega
    subst this
    obtain ⟨x, p3, s3, hx, hp3, hF3⟩ := c_spoilt bs hb o p2 (by omega) s2 S (by omega)
    have k3 := call_cur (rest := [.c (.str S), .c (.str [35, 64, 10, 48, 49])]) rfl hF3 2 0
    unfold curB at *
    obtain ⟨q, p8, s8, hp8, hF8⟩ := c_one bs hb o p3 (by omega) s3 40 (by decide) (by decide)
    have k8 := call_cur (rest := [.c (.int .i64 40)]) rfl hF8 2 0
    unfold curB at *
    cases q with
    | false =>
      refine ⟨_, ?_, x, by omega, rfl⟩
      simp [a38, k1, k2, b1, ← hS, k3, k8, setAt, stillE, madeA, idOf, sub]
    | true =>
      obtain ⟨y, p9, s9, hy, hp9, hF9⟩ := c_pick bs hb o p8 (by omega) s8 2 (by decide) (by decide)
      have k9 := call_cur (rest := [.c (.int .i64 2)]) rfl hF9 2 0
      obtain ⟨M, hM, hM6⟩ : ∃ M : Nat, M = 30000 + y ∧ M ≤ 30001 := ⟨_, rfl, by omega⟩
      have w9 : IntKind.i64.wrap (30000 + (y : Int)) = (M : Int) := (wrapI (by omega) (by omega)).trans (by omega)
      have hroom : M ≤ 68719476736 := by omega
      have hroom' : (M : Int) ≤ 68719476736 := by omega
      have hz : (List.replicate M (0 : UInt8)).length = M := by simp
      have htk := bytesC_take (List.replicate M (0 : UInt8))
      have hi := inst_zero8 M
      have hl9 : (List.replicate M (0 : UInt8)).length ≤ 40000 := by simp; omega
      have hlz : (bytesC (List.replicate M (0 : UInt8))).length = M := by simp
      rw [hz] at htk
      unfold curB at *
      generalize List.replicate M (0 : UInt8) = Zs at *
      refine ⟨_, ?_, Zs, hl9, rfl⟩
      simp [a38, k1, k2, b1, ← hS, k3, k8, k9, w9, hroom, hroom', hi, htk, hlz, hz, all_bytes, map_bytes, lt256, setAt, stillE, madeA, idOf, sub, -List.all_eq_true]
  · have m0' : ¬ m = 0 := by omega
    by_cases m1 : (m : Int) = 1
    · have : m = 1 := by omega
      subst this
      obtain ⟨i, p3, s3, hi, hp3, hF3⟩ := c_pick bs hb o p2 (by omega) s2 ((S.length : Int) + 1) (by omega) (by omega)
      have k3 := call_cur (rest := [.c (.int .i64 ((S.length : Int) + 1))]) rfl hF3 2 0
      have w3 : IntKind.i64.wrap ((S.length : Int) + 1) = (S.length : Int) + 1 := wrapI (by omega) (by omega)
      have hiS : i ≤ S.length := by omega
      have hiS' : (i : Int) ≤ (S.length : Int) := by omega
      have hxl : (S.take i).length ≤ 600 := by simp; omega
      unfold curB at *
      obtain ⟨q, p8, s8, hp8, hF8⟩ := c_one bs hb o p3 (by omega) s3 40 (by decide) (by decide)
      have k8 := call_cur (rest := [.c (.int .i64 40)]) rfl hF8 2 0
      unfold curB at *
      cases q with
      | false =>
        refine ⟨_, ?_, S.take i, by omega, rfl⟩
        simp [a38, k1, k2, b1, ← hS, k3, w3, hiS, hiS', k8, setAt, stillE, madeA, idOf, sub]
      | true =>
        obtain ⟨y, p9, s9, hy, hp9, hF9⟩ := c_pick bs hb o p8 (by omega) s8 2 (by decide) (by decide)
        have k9 := call_cur (rest := [.c (.int .i64 2)]) rfl hF9 2 0
        obtain ⟨M, hM, hM6⟩ : ∃ M : Nat, M = 30000 + y ∧ M ≤ 30001 := ⟨_, rfl, by omega⟩
        have w9 : IntKind.i64.wrap (30000 + (y : Int)) = (M : Int) := (wrapI (by omega) (by omega)).trans (by omega)
        have hroom : M ≤ 68719476736 := by omega
        have hroom' : (M : Int) ≤ 68719476736 := by omega
        have hz : (List.replicate M (0 : UInt8)).length = M := by simp
        have htk := bytesC_take (List.replicate M (0 : UInt8))
        have hi := inst_zero8 M
        have hl9 : (List.replicate M (0 : UInt8)).length ≤ 40000 := by simp; omega
        have hlz : (bytesC (List.replicate M (0 : UInt8))).length = M := by simp
        rw [hz] at htk
        unfold curB at *
        generalize List.replicate M (0 : UInt8) = Zs at *
        refine ⟨_, ?_, Zs, hl9, rfl⟩
        simp [a38, k1, k2, b1, ← hS, k3, w3, hiS, hiS', k8, k9, w9, hroom, hroom', hi, htk, hlz, hz, all_bytes, map_bytes, lt256, setAt, stillE, madeA, idOf, sub, -List.all_eq_true]
    · have m1' : ¬ m = 1 := by omega
      by_cases m2 : (m : Int) = 2
      · have : m = 2 := by omega
        subst this
        obtain ⟨i, p3, s3, hi, hp3, hF3⟩ := c_pick bs hb o p2 (by omega) s2 4 (by decide) (by decide)
        have k3 := call_cur (rest := [.c (.int .i64 4)]) rfl hF3 2 0
        obtain ⟨v, h', hF4, a, b, p4, s4, ha, hb2, hp4, rfl, rfl⟩ := c_logRecord bs hb o p3 (by omega) s3
        have k4 := call_cur (rest := []) rfl hF4 2 0
        have k5 := callA_pure (c_spec_l12Line i (by omega) a b (by omega) (by omega)) (by simp [recV]) (by simp)
        have t1 := textT_len i (by omega) a b
        have t2 := (sealT_len (textT i a b)).1
        have t3 : lineT i a b = sealT (textT i a b) := rfl
        obtain ⟨Ln, hLn⟩ : ∃ Ln : Tx, Ln = lineT i a b ++ [10] := ⟨_, rfl⟩
        have hLl : Ln.length ≤ 60 := by rw [hLn, t3]; simp; omega
        rw [← hLn] at k5
        have b2 : S.length + Ln.length ≤ 9223372036854775807 := by omega
        have hxl : (S ++ Ln).length ≤ 600 := by simp; omega
        unfold recV curB at *
        obtain ⟨q, p8, s8, hp8, hF8⟩ := c_one bs hb o p4 (by omega) s4 40 (by decide) (by decide)
        have k8 := call_cur (rest := [.c (.int .i64 40)]) rfl hF8 2 0
        unfold curB at *
        cases q with
        | false =>
          refine ⟨_, ?_, S ++ Ln, by omega, rfl⟩
          simp [a38, k1, k2, b1, ← hS, k3, k4, k5, b2, k8, setAt, stillE, madeA, idOf, sub]
        | true =>
          obtain ⟨y, p9, s9, hy, hp9, hF9⟩ := c_pick bs hb o p8 (by omega) s8 2 (by decide) (by decide)
          have k9 := call_cur (rest := [.c (.int .i64 2)]) rfl hF9 2 0
          obtain ⟨M, hM, hM6⟩ : ∃ M : Nat, M = 30000 + y ∧ M ≤ 30001 := ⟨_, rfl, by omega⟩
          have w9 : IntKind.i64.wrap (30000 + (y : Int)) = (M : Int) := (wrapI (by omega) (by omega)).trans (by omega)
          have hroom : M ≤ 68719476736 := by omega
          have hroom' : (M : Int) ≤ 68719476736 := by omega
          have hz : (List.replicate M (0 : UInt8)).length = M := by simp
          have htk := bytesC_take (List.replicate M (0 : UInt8))
          have hi := inst_zero8 M
          have hl9 : (List.replicate M (0 : UInt8)).length ≤ 40000 := by simp; omega
          have hlz : (bytesC (List.replicate M (0 : UInt8))).length = M := by simp
          rw [hz] at htk
          unfold curB at *
          generalize List.replicate M (0 : UInt8) = Zs at *
          refine ⟨_, ?_, Zs, hl9, rfl⟩
          simp [a38, k1, k2, b1, ← hS, k3, k4, k5, b2, k8, k9, w9, hroom, hroom', hi, htk, hlz, hz, all_bytes, map_bytes, lt256, setAt, stillE, madeA, idOf, sub, -List.all_eq_true]
      · have m2' : ¬ m = 2 := by omega
        obtain ⟨q, p8, s8, hp8, hF8⟩ := c_one bs hb o p2 (by omega) s2 40 (by decide) (by decide)
        have k8 := call_cur (rest := [.c (.int .i64 40)]) rfl hF8 2 0
        unfold curB at *
        cases q with
        | false =>
          refine ⟨_, ?_, S, by omega, rfl⟩
          simp [a38, k1, k2, b1, ← hS, m0, m0', m1, m1', m2, m2', k8, setAt, stillE, madeA, idOf, sub]
        | true =>
          obtain ⟨y, p9, s9, hy, hp9, hF9⟩ := c_pick bs hb o p8 (by omega) s8 2 (by decide) (by decide)
          have k9 := call_cur (rest := [.c (.int .i64 2)]) rfl hF9 2 0
          obtain ⟨M, hM, hM6⟩ : ∃ M : Nat, M = 30000 + y ∧ M ≤ 30001 := ⟨_, rfl, by omega⟩
          have w9 : IntKind.i64.wrap (30000 + (y : Int)) = (M : Int) := (wrapI (by omega) (by omega)).trans (by omega)
          have hroom : M ≤ 68719476736 := by omega
          have hroom' : (M : Int) ≤ 68719476736 := by omega
          have hz : (List.replicate M (0 : UInt8)).length = M := by simp
          have htk := bytesC_take (List.replicate M (0 : UInt8))
          have hi := inst_zero8 M
          have hl9 : (List.replicate M (0 : UInt8)).length ≤ 40000 := by simp; omega
          have hlz : (bytesC (List.replicate M (0 : UInt8))).length = M := by simp
          rw [hz] at htk
          unfold curB at *
          generalize List.replicate M (0 : UInt8) = Zs at *
          refine ⟨_, ?_, Zs, hl9, rfl⟩
          simp [a38, k1, k2, b1, ← hS, m0, m0', m1, m1', m2, m2', k8, k9, w9, hroom, hroom', hi, htk, hlz, hz, all_bytes, map_bytes, lt256, setAt, stillE, madeA, idOf, sub, -List.all_eq_true]
end Go.Proofs.YtahfeigilhjgpaaDoor.AM
