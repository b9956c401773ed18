import Derived.Test.YtafphbegpjjolaaMapM
/- Contract: the whole function with maps; the table in which it stands beside the others. -/
namespace Go.Proofs.Ytafphbegpjjolaa.AM
open Go
set_option maxRecDepth 1000000
set_option linter.unusedSimpArgs false
set_option linter.unusedVariables false
theorem outer {r : List Int} (h : RackOK r) (n : Nat) (hn : n ≤ 2) {Q : Ex → XS → Prop}
    (hQ : ∀ ks, ks.Nodup → (∀ y, y ∈ ks ↔ y ∈ endsX r n) → Q (.exit 0) ⟨[(6, .c (.map 0)), (20, .c (.int .i64 n)), (21, .c (.int .i64 n)), (22, .c (.bool false)), (24, .c .dead)], [.dead], [(0, .map ks)]⟩)
    {live : List Nat} {s : XS} (hg : Gc live s ⟨[(6, .c (.map 0)), (20, .c (.int .i64 n)), (21, .c (.int .i64 0))], [.dead], [(0, .map [r])]⟩) : exW pr np (.loop xL0) s Q := by
  refine W_loop (fun s => ∃ (k : Nat) (ks : List (List Int)), k ≤ n ∧ ks.Nodup ∧ (∀ y, y ∈ ks ↔ y ∈ endsX r k) ∧ s = ⟨[(6, .c (.map 0)), (20, .c (.int .i64 n)), (21, .c (.int .i64 (k : Nat)))], [.dead], [(0, .map ks)]⟩)
    (fun s => match AM.get s.e 21 with | .c (.int _ k) => n - k.toNat | _ => 0) hg ⟨0, [r], Nat.zero_le _, by simp, fun y => Iff.rfl, rfl⟩ ?_
  rintro s ⟨k, ks, hk, hnd, hmem, rfl⟩
  by_cases hkn : k = n
  · subst hkn
    have := hQ ks hnd hmem
    simpa [xL0] using this
  · have hlt : k < n := by omega
    have wk := wrapS (k := k) (by omega)
    have hlast : ∀ x ∈ ks, RackOK x := fun x hx => (endsX_row h k).ok x ((hmem x).1 hx)
    simp [xL0, hlt]
    refine ⟨0, ks, rfl, rfl, ?_⟩
    simp
    refine mid (live := [7, 20, 21, 24, 25]) (n : Int) (k : Int) ks hlast (fun ks' seen hnd' hmem' => ?_) (Gc.of ?_ ?_)
    · simp [wk]
      unfold turnX
      refine ⟨[6, 20, 21], ⟨_, _, [(0, .map ks')]⟩, Gc.of ?_ ?_, ⟨k + 1, by omega, ks', hnd', fun y => ?_, rfl⟩, ?_⟩
      · simp [sub]
      · simp [sub, mget, MO.mp, MO.ids]
      · rw [hmem' y]
        show _ ↔ y ∈ stepX (endsX r k)
        rw [mem_stepX]
        constructor
        · rintro ⟨x, hx, hy⟩
          exact ⟨x, (hmem x).1 hx, hy⟩
        · rintro ⟨x, hx, hy⟩
          exact ⟨x, (hmem x).2 hx, hy⟩
      · simp
        omega
    · simp [sub]
    · simp [sub, mget, MO.mp, MO.ids]
def endsN (r : List Int) (n : Int) : Nat := if playB r n 2 = true then (endsX r n.toNat).length else 0
def endsV (r : List Int) (n : Int) : V := .tup [.c (.int .i64 (endsN r n)), .c (.bool (playB r n 2))]
theorem whole (r : List Int) (hr : r.length = 24) (n : Int) : exW pr np xCode ⟨enter [.agg (r.map (C.int .i64)), .c (.int .i64 n)] 0, [], []⟩ (fun x s => (∀ i, x ≠ .exit i) ∧ leave 0 xRes s.e s.h = some (endsV r n, [])) := by
  have h24 := take24 hr
  have hp := callA_pure (c_impl_isPlay r hr n 2) (by simp) (by simp)
  cases hq : playB r n 2 with
  | false =>
    rw [hq] at hp
    simp [xCode, hr, h24, hp, xRes, endsV, endsN, hq, sub]
  | true =>
    rw [hq] at hp
    obtain ⟨h, h0, h2⟩ := playB_facts hr hq
    obtain ⟨m, rfl⟩ := Int.eq_ofNat_of_zero_le h0
    have hm : m ≤ 2 := by omega
    simp [xCode, hr, h24, hp]
    refine ⟨1, [], r, rfl, rfl, h, rfl, ?_⟩
    simp
    refine outer (live := [6, 20, 21]) h m hm (fun ks hnd hmem => ?_) (Gc.of ?_ ?_)
    · simp
      refine ⟨0, ks, rfl, rfl, ?_⟩
      have hlen := same_len (endsX_row h m) hnd hmem
      simp [xRes, endsV, endsN, hq, sub, hlen]
    · simp [sub]
    · simp [sub, mget, MO.mp, MO.ids, insK]
/-- the table with the function beside the others -/
def cellI : C → Int
  | .int _ n => n
  | _ => 0
def qEnds : List V → Heap → Option (V × Heap)
  | [.agg xs, .c (.int .i64 n)], [] => if xs.length = 24 ∧ (xs.map cellI).map (C.int .i64) = xs then some (endsV (xs.map cellI) n, []) else none
  | _, _ => none
def nq : Prim := fun f => if f = xFn then some qEnds else none
theorem np_ok : PrimOK Try.prog np := fun f q h => by simp [np] at h
theorem nq_ok : PrimOK Try.prog nq := by
  intro f q hq args h res h' hr φ w vs hh ha
  unfold nq at hq
  split at hq
  · rename_i e
    subst e
    injection hq with hq
    subst hq
    unfold qEnds at hr
    split at hr
    · rename_i xs n
      split at hr
      · rename_i hx
        injection hr with hr
        simp only [Prod.mk.injEq] at hr
        obtain ⟨rfl, rfl⟩ := hr
        obtain ⟨hl, he⟩ := hx
        generalize hy : xs.map cellI = r at *
        have hrl : r.length = 24 := by rw [← hy]; simpa using hl
        subst he
        have := fnX_ok mixed pr_ok np_ok key_facts xCode_ok (args := [.agg (r.map (C.int .i64)), .c (.int .i64 n)]) rfl (whole r hrl n) (fun x s h => h) hh ha
        rcases this with ⟨rv, w', h1, φ', h2, h3⟩ | ⟨h1, h2⟩
        · exact .inl ⟨rv, w', h1, φ', fun i hi => absurd hi (Nat.not_lt_zero _), h2, h3⟩
        · exact .inr ⟨h1, h2.mono fun e w' ⟨rv, he, φ', h2, h3⟩ => ⟨rv, he, φ', fun i hi => absurd hi (Nat.not_lt_zero _), h2, h3⟩⟩
      · cases hr
    · cases hr
  · cases hq
theorem np_none : ∀ f, np f = none := fun _ => rfl
/-- what the table without the function answers, the table with it answers -/
theorem up {f : Nat} {a : List V} {h : Heap} {r : V × Heap} (hr : fnI pr np f a h = some r) : fnI pr nq f a h = some r := by
  refine fnI_prim (fun f q hq => by simp [np] at hq) (fun f _ hf => ?_) f a h r hr
  unfold nq at hf
  split at hf
  · rename_i e
    subst e
    kernel_rfl
  · exact absurd rfl hf
theorem q_ends (r : List Int) (hr : r.length = 24) (n : Int) : fnI pr nq xFn [.agg (r.map (C.int .i64)), .c (.int .i64 n)] [] = some (endsV r n, []) := by
  have hc : (r.map (C.int .i64)).map cellI = r := by simp [Function.comp_def, cellI]
  refine (fnI_iff pr nq).2 ⟨0, ?_⟩
  simp only [fnN, fnOf, nq, if_true, qEnds, hc, List.length_map, hr, and_self]
theorem fq {fn : AFn} {f : Nat} (hq : nq f = none) (hp : pr f = some fn) {a : List V} (hl : a.length = fn.np) (h : Heap) : fnI pr nq f a h = leaveK h.length fn.res (exI pr nq h.length fn.body (enter a 0) h) := fnI_body' pr nq hq hp hl h
end Go.Proofs.Ytafphbegpjjolaa.AM
