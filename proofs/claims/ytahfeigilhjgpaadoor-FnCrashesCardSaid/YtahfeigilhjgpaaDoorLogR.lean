import Derived.Test.YtahfeigilhjgpaaDoorLogQ
import Derived.Test.YtahfeigilhjgpaaDoorDrawZ
/- Law: crashes. -/
namespace Go.Proofs.YtahfeigilhjgpaaDoor.AM
open Go
set_option maxRecDepth 1000000
set_option linter.unusedSimpArgs false
set_option linter.unusedVariables false
theorem callA_one {F : Fns} {f : Nat} {x x0 : V} {rest : List V} {i : Nat} {H : HF} {b : Blk} {v : V} {ns : Heap} (hb : H i = some b) (hx : x.ids = [i]) (hx0 : x.mp (fun j => if i = j then 0 else 1) = x0) (hre : rest.flatMap V.ids = []) (hbi : b.ids = []) (hF : F f (x0 :: rest) [b] = some (v, b :: ns)) (base : Nat) :
    callA F f (x :: rest) H base = some (v.mp (back [i] base), ns.map (Blk.mp (back [i] base)), [(i, b)]) := by
  have hr : reach H 64 ((x :: rest).flatMap V.ids) [] = [i] := by simp [hx, hre, reach, idsAt, hb, hbi]
  have hp : pos [i] = fun j => if i = j then 0 else 1 := by funext j; simp [pos]
  have hm : (x :: rest).map (V.mp (pos [i])) = x0 :: rest := by
    rw [List.map_cons, hp, hx0, mps_pure hre]
  have h := callA_gen (F := F) (f := f) (args := x :: rest) (H := H) (L := [i]) hr (by simp [closed, hb, idsAt, hbi, inL, hx, hre]) (show sub [i] H = [b] by simp [sub, hb, mp_ids hbi]) hm hF (by simp) base
  rw [h]
  simp [mp_ids hbi]
theorem call_slz {F : Fns} {f n sz : Nat} {rest : List V} {b : Blk} {v : V} {ns : Heap} (hre : rest.flatMap V.ids = []) (hbi : b.ids = []) (hF : F f (.c (.sl 0 0 n sz) :: rest) [b] = some (v, b :: ns)) (i : Nat) (H : HF) (base : Nat) (hb : (H i == some b) = true) :
    callA F f (.c (.sl i 0 n sz) :: rest) H base = some (v.mp (back [i] base), ns.map (Blk.mp (back [i] base)), [(i, b)]) := by
  have hb : H i = some b := by simpa using hb
  exact callA_one (x := .c (.sl i 0 n sz)) hb (by simp) (by simp) hre hbi hF base
theorem crash_cases (d p : Tx) (c keep : Int) (torn : Bool) : crashV d p c keep torn = .tup [.c (.str []), .c (.bool false)] ∨ ∃ n : Nat, keep = (n : Int) ∧ n ≤ p.length ∧ validS d p c = true ∧ crashV d p c keep torn = .tup [.c (.str (crashT d p n torn)), .c (.bool true)] := by
  unfold crashV
  cases h : (validS d p c && (decide (0 ≤ keep) && decide (keep ≤ (p.length : Int)))) with
  | false => exact .inl rfl
  | true =>
    simp only [Bool.and_eq_true, decide_eq_true_eq] at h
    obtain ⟨h1, h2, h3⟩ := h
    exact .inr ⟨keep.toNat, by omega, by omega, h1, rfl⟩
theorem recov_small {s : Tx} (h : s.length ≤ 30000) : recovT s = .tup [.agg [.str (s.take (endT s)), .str [], .int .i64 (cntT s)], .c (.int .i64 (endT s)), .c (.bool true)] := by
  unfold recovT
  rw [if_pos h]
set_option maxHeartbeats 16000000 in
theorem c_laws_FnCrashes (bs : List Int) (hlen : bs.length ≤ 9223372036854775807) (hrg : ∀ x ∈ bs, 0 ≤ x ∧ x < 256) : fnI pr np 6 [.c (.sl 0 0 bs.length 1)] [byB bs false] = some (.c (.bool true), [byB bs false]) := by
  have hbig := call_slz (rest := []) rfl (by simp) (c_laws_vBig bs false hlen) 0
  rw [fb (fn := a6) rfl rfl rfl]
  by_cases hB : 65536 < bs.length
  · rw [decide_eq_true hB] at hbig
    simp [a6, hbig, sub]
  · rw [decide_eq_false hB] at hbig
    have hb : Bytes bs := ⟨hrg, by omega⟩
    obtain ⟨v, hD, d, t, c, k, q, hd, ht, hc0, hc1, rfl⟩ := c_DrawCrashLog bs hb false
    have kD := call_slz (rest := []) rfl (by simp) hD 0
    obtain ⟨bs1, hb1, hC⟩ := c_laws_vCut bs hb (by omega) false 1 (by decide)
    have kC := call_slz (rest := [.c (.int .i64 1)]) rfl (by simp) hC 0
    obtain ⟨v, hR, x, hx, rfl⟩ := c_DrawRecoverLog bs1 hb1 true
    have kR := call_slz (rest := []) rfl (by simp) hR 2
    obtain ⟨d', p', c', e', q', hf⟩ := recovT_form x
    have r1 := callA_pure ((c_spec_RecoverLog x (by omega)).trans (by rw [hf])) (by simp) (by simp)
    have r2 := callA_pure ((c_impl_RecoverLog x (by omega)).trans (by rw [hf])) (by simp) (by simp)
    rcases crash_cases d t c k q with h | ⟨n, rfl, hn, hv, h⟩
    · have k1 := callA_pure ((c_spec_CrashLog d t c k q (by omega) (by omega)).trans (by rw [h])) (by simp) (by simp)
      have k2 := callA_pure ((c_impl_CrashLog d t c k q (by omega) (by omega)).trans (by rw [h])) (by simp) (by simp)
      simp [a6, hbig, kD, kC, kR, r1, r2, k1, k2, conf, conf1, setAt, sub]
    · have k1 := callA_pure ((c_spec_CrashLog d t c n q (by omega) (by omega)).trans (by rw [h])) (by simp) (by simp)
      have k2 := callA_pure ((c_impl_CrashLog d t c n q (by omega) (by omega)).trans (by rw [h])) (by simp) (by simp)
      obtain ⟨f1, f2, f3, f4⟩ := crash_facts hv hn q
      have f4' : q = false → n = t.length → crashT d t n q = d ++ t := f4
      have hle := endT_le (crashT d t n q)
      generalize crashT d t n q = s at *
      obtain ⟨g1, g2, g3, g4, g5⟩ := back_facts hv f1 f3
      have k3 := callA_pure ((c_impl_RecoverLog s (by omega)).trans (by rw [recov_small f1])) (by simp) (by simp)
      have hl : (s.take (endT s)).length = endT s := by simp; omega
      have k4 := callA_pure (c_impl_IsValidLog (s.take (endT s)) [] (cntT s) (by omega) (by simp)) (by simp) (by simp)
      rw [g1] at k4
      have k5 := callA_new (c_impl_LogRecords d t c (by omega) (by omega)) (by simp)
      have k6 := callA_new (c_impl_LogRecords (s.take (endT s)) [] (cntT s) (by omega) (by simp)) (by simp)
      have hlr := recsV_len (s.take (endT s)) [] (cntT s)
      have k7 := call_sl2 (by simp) (by simp) (c_laws_vRecords (recsV (s.take (endT s)) [] (cntT s)) (recsV d t c) (recsV (s.take (endT s)) [] (cntT s)).length (by omega) g3 (by omega) (by rw [List.take_length, g4])) 7 6
      have f2' : ¬ (endT s : Int) < (d.length : Int) := by omega
      have f2'' : ¬ endT s < d.length := by omega
      have hlast : q = false → t.length ≤ n → (recsV (s.take (endT s)) [] (cntT s)).length = (recsV d t c).length := fun e1 e2 => g5 (f4' e1 (by omega))
      have g3' : ((recsV (s.take (endT s)) [] (cntT s)).length : Int) ≤ ((recsV d t c).length : Int) := by omega
      clear g2 g4 g5 f3 f4 f4'
      generalize recsV (s.take (endT s)) [] (cntT s) = rd at *
      generalize recsV d t c = al at *
      generalize s.take (endT s) = u at *
      cases q with
      | true => simp [a6, hbig, kD, kC, kR, r1, r2, k1, k2, k3, k4, k5, k6, k7, f2', f2'', hl, g3, g3', conf, conf1, setAt, sub]
      | false =>
        by_cases hnt : n < t.length
        · have hnt' : (n : Int) < (t.length : Int) := by omega
          simp [a6, hbig, kD, kC, kR, r1, r2, k1, k2, k3, k4, k5, k6, k7, f2', f2'', hl, g3, g3', hnt, hnt', conf, conf1, setAt, sub]
        · have hnt' : ¬ (n : Int) < (t.length : Int) := by omega
          have hq := hlast rfl (by omega)
          have hq' : ((rd.length : Int) == (al.length : Int)) = true := by simp; omega
          simp [a6, hbig, kD, kC, kR, r1, r2, k1, k2, k3, k4, k5, k6, k7, f2', f2'', hl, g3, g3', hnt, hnt', hq', conf, conf1, setAt, sub]
end Go.Proofs.YtahfeigilhjgpaaDoor.AM
