import Derived.Test.YtoaidbmkfdpagaaNear
import Derived.Test.YtoaidbmkfdpagaaReplies
/- Law: games to the end. -/
namespace Go.Proofs.Ytoaidbmkfdpagaa.AM
open Go
set_option maxRecDepth 1000000
set_option linter.unusedSimpArgs false
set_option linter.unusedVariables false
theorem place_of {i : Nat} (h : i < 6) : placeB (i : Int) = true := by
  unfold placeB
  simp
  omega
theorem pV_useful {r : List Int} (hq : okRack r = true) {p : Nat × Nat} (hp : p ∈ usefulL r) : pV r p.1 p.2 = .tup [.agg ((pourR r p.1 p.2).map (C.int .i64)), .c (.int .i64 (pourN r p.1 p.2 : Int)), .c (.bool true)] := by
  obtain ⟨h1, h2, h3⟩ := mem_usefulL hp
  have hb : pB r p.1 p.2 = true := by
    unfold pB
    rw [hq, place_of h1, place_of h2]
    simpa using h3
  unfold pV pR pN
  rw [hb]
  simp
theorem c_impl_UsefulPours (r : List Int) (h : RackOK r) : fnI pr np 64 [.agg (r.map (C.int .i64))] [] = some (.tup [.c (.sl 0 0 (usefulL r).length 2), .c (.bool true)], [.cells (flatC (usefulL r) ++ padC r) true]) := by
  have hr := h.len
  have h24 := take24 hr
  have hq : okRack r = true := (rack_eq r hr).symm.trans h.val
  have h1 := callA_pure (c_rack_impl r hr) (by simp) (by simp)
  rw [hq] at h1
  have h2 := callA_new (c_impl_useful r h) (by simp)
  rw [fb (fn := a64) rfl rfl]
  simp [a64, hr, h24, h1, h2, sub, cids_app, cmp_app]
theorem call_slz {F : Fns} {f n sz : Nat} {rest : List V} {b : Blk} {v : V} {ns : Heap} (hre : rest.flatMap V.ids = []) (hbi : b.ids = []) (hF : F f (.c (.sl 0 0 n sz) :: rest) [b] = some (v, b :: ns)) (i : Nat) (H : HF) (base : Nat) (hb : (H i == some b) = true) :
    callA F f (.c (.sl i 0 n sz) :: rest) H base = some (v.mp (back [i] base), ns.map (Blk.mp (back [i] base)), [(i, b)]) := by
  have hb : H i = some b := by simpa using hb
  exact callA_one (x := .c (.sl i 0 n sz)) hb (by simp) (by simp) hre hbi hF base
theorem call_slz2 {F : Fns} {f n n' sz : Nat} {b c : Blk} {v : V} (hbi : b.ids = []) (hci : c.ids = []) (hF : F f [.c (.sl 0 0 n sz), .c (.sl 1 0 n' sz)] [b, c] = some (v, [b, c])) (i j : Nat) (H : HF) (base : Nat) (hij : (i != j) = true) (hb : (H i == some b) = true) (hc : (H j == some c) = true) :
    callA F f [.c (.sl i 0 n sz), .c (.sl j 0 n' sz)] H base = some (v.mp (back [i, j] base), [], [(i, b), (j, c)]) := by
  have hb : H i = some b := by simpa using hb
  have hc : H j = some c := by simpa using hc
  have hij : i ≠ j := by simpa using hij
  have := callA_two (x := .c (.sl i 0 n sz)) (y := .c (.sl j 0 n' sz)) hij hb hc (by simp) (by simp) (by simp [pos]) (by simp [pos, hij]) hbi hci hF base
  exact this
theorem c_laws_rBig (bs : List Int) (o : Bool) (hn : bs.length ≤ 9223372036854775807) : fnI pr np 29 [.c (.sl 0 0 bs.length 1)] [byB bs o] = some (.c (.bool (decide (65536 < bs.length))), [byB bs o]) := by
  have e : decide ((65536 : Int) < (bs.length : Int)) = decide (65536 < bs.length) := by apply decide_eq_decide.2; omega
  rw [fb (fn := a29) rfl rfl]
  simp [a29, sub]
  omega
theorem c_laws_rPairs (l : List (Nat × Nat)) (hn : l.length < 1000000) (z z' : List C) (hz : cids z = []) (hz' : cids z' = []) : fnI pr np 37 [.c (.sl 0 0 l.length 2), .c (.sl 1 0 l.length 2)] [.cells (flatC l ++ z) true, .cells (flatC l ++ z') true] = some (.c (.bool true), [.cells (flatC l ++ z) true, .cells (flatC l ++ z') true]) := by
  have hzc : ∀ g, cmp g z = z := fun g => cmp_pure hz
  have hzc' : ∀ g, cmp g z' = z' := fun g => cmp_pure hz'
  rw [fb (fn := a37) rfl rfl]
  simp [a37]
  rw [loop_to (fun i => ([(0, V.c (C.sl 0 0 l.length 2)), (1, V.c (C.sl 1 0 l.length 2)), (5, V.c (C.int .i64 i))], [Blk.cells (flatC l ++ z) true, Blk.cells (flatC l ++ z') true])) l.length]
  · simp [sub, cids_app, cmp_app, hz, hz', hzc, hzc']
  · simp [sub, cids_app, cmp_app, hz, hz', hzc, hzc']
  · intro i hi
    have hi' : (i : Int) < (l.length : Int) := by omega
    have wi := wrapS (k := i) (by omega)
    have g1 := flatC_get l z i hi
    have g2 := flatC_get l z' i hi
    have b3 : i * 2 + 2 ≤ l.length * 2 := by omega
    have b4 : i * 2 + 2 ≤ l.length * 2 + z.length := by omega
    have b5 : i * 2 + 2 ≤ l.length * 2 + z'.length := by omega
    generalize l[i]'hi = q at *
    simp [hi, hi', wi, g1, g2, b3, b4, b5, flatC_len, sub, cids_app, cmp_app, hz, hz', hzc, hzc', conf, conf1]
theorem c_laws_rInts (l : List Int) (hn : l.length < 1000000) : fnI pr np 60 [.c (.sl 0 0 l.length 1), .c (.sl 1 0 l.length 1)] [.cells (l.map (C.int .i64)) true, .cells (l.map (C.int .i64)) true] = some (.c (.bool true), [.cells (l.map (C.int .i64)) true, .cells (l.map (C.int .i64)) true]) := by
  rw [fb (fn := a60) rfl rfl]
  simp [a60]
  rw [loop_to (fun i => ([(0, V.c (C.sl 0 0 l.length 1)), (1, V.c (C.sl 1 0 l.length 1)), (5, V.c (C.int .i64 i))], [Blk.cells (l.map (C.int .i64)) true, Blk.cells (l.map (C.int .i64)) true])) l.length]
  · simp [sub]
  · simp [sub]
  · intro i hi
    have hi' : (i : Int) < (l.length : Int) := by omega
    have wi := wrapS (k := i) (by omega)
    have g := drop_take1 hi
    have b3 : i + 1 ≤ l.length := by omega
    generalize l.getD i 0 = q at *
    simp [hi, hi', wi, g, b3, sub]
/-! ### plain laws -/
theorem endOut_all_nil {m : Nat} {r : List Int} : (usefulL r).length = 0 ↔ (endOut m r (usefulL r).length).length = 0 := by
  constructor
  · intro h
    have := endOut_len m r (usefulL r).length
    omega
  · intro h
    apply Classical.byContradiction
    intro hne
    have hpos : 0 < (usefulL r).length := by omega
    have hmem := List.getElem_mem hpos
    have hex : ∃ p ∈ usefulL r, endF m r p = endV (m + 1) r := by
      rcases bestOf_mem (endF m r) (usefulL r) (-1) with hb | ⟨p, hp, hb⟩
      · refine ⟨_, hmem, ?_⟩
        have h1 := bestOf_ge (endF m r) (usefulL r) (-1) _ hmem
        have h2 := endV_range m (pourR r ((usefulL r)[0]'hpos).1 ((usefulL r)[0]'hpos).2)
        have h3 : endF m r ((usefulL r)[0]'hpos) = -(endV m (pourR r ((usefulL r)[0]'hpos).1 ((usefulL r)[0]'hpos).2)) := rfl
        have h4 : endV (m + 1) r = bestOf (endF m r) (-1) (usefulL r) := rfl
        omega
      · exact ⟨p, hp, hb⟩
    obtain ⟨p, hp, he⟩ := hex
    have : p ∈ endOut m r (usefulL r).length := by
      unfold endOut
      rw [List.take_length]
      exact List.mem_filter.2 ⟨hp, by simpa using he⟩
    have := List.length_pos_of_mem this
    omega
theorem endOut_mem {m : Nat} {r : List Int} {p : Nat × Nat} (h : p ∈ endOut m r (usefulL r).length) : p ∈ usefulL r ∧ endF m r p = endV (m + 1) r := by
  unfold endOut at h
  rw [List.take_length] at h
  have := List.mem_filter.1 h
  exact ⟨this.1, by simpa using this.2⟩
theorem endV_lost {m : Nat} {r : List Int} (h : (usefulL r).length = 0) : endV (m + 1) r = -1 := by
  have : usefulL r = [] := List.length_eq_zero_iff.1 h
  show bestOf _ (-1) (usefulL r) = -1
  rw [this]
  rfl
end Go.Proofs.Ytoaidbmkfdpagaa.AM
