import Derived.Test.YthpookdfaikabaaGreatDoorAmE
/- Arguments with slices of bytes, or of structs of four ints. -/
namespace Go.Proofs.YthpookdfaikabaaGreatDoor.AM
open Go Go.ChangeShapes Go.WideShapes Go.RowKit Go.WideElems Go.Deep
set_option maxRecDepth 1000000
set_option linter.unusedVariables false
/-- a slice of elements of n ints each, whatever their kind and make -/
theorem open_rows {H : Type} {enc : TypeId × Value → H} {P : Program} {W : World} {t e : TypeId} {n : Nat} {K : IntKind} {Rg : Int → Prop} {cs : List Value} {x : DataW H × List MemPlace} {fuel : Nat} (ht : P.underlying t = some (.slice e)) (hce : P.cellsOf e = n) (hn : 0 < n) (hint : ∀ {base : Nat} {spare : Nat → Bool} {held : Bool} {fuel : Nat} {cs : List Value} {x : DataW H × List MemPlace}, DataW.trod enc P W base spare held fuel e cs = some x → cs.length = n → ∀ {k : Nat}, k < n → ∃ z : Int, cs[k]? = some (.int K z) ∧ Rg z)
    (h : DataW.trod enc P W 0 (fun _ => true) true fuel t cs = some x) (htab : TabIn W := by exact fun _ _ h => by cases h) :
    ∃ (v : Value) (xs : List Int) (len : Nat) (φ : Phi), cs = [v] ∧ xs.length = len * n ∧ len ≤ maxLen ∧ (∀ x ∈ xs, Rg x) ∧ HeapOK φ (lkp [.cells (xs.map (C.int K)) false]) W ∧ VRc φ (.sl 0 0 len n) v := by
  rcases open_slice ht h with ⟨rfl, _⟩ | ⟨a, len, cap, m, k, D, Pl, rfl, hb, hl, hm, hmm, rfl, hx⟩
  · exact ⟨_, [], 0, noPhi, rfl, by simp, Nat.zero_le _, by simp, noPhi_heap _ W htab, .inl ⟨rfl, _, rfl⟩⟩
  · simp only [if_true] at hmm
    subst hmm
    by_cases hcap : m = 0
    · subst hcap
      have : len = 0 := by omega
      subst this
      exact ⟨_, [], 0, noPhi, rfl, by simp, Nat.zero_le _, by simp, noPhi_heap _ W htab, .inl ⟨rfl, _, rfl⟩⟩
    · have hcell : ∀ j, ∃ z : Int, j < m * n → W.cell? (a.add j) = some (.int K z) ∧ Rg z := by
        intro j
        by_cases hj : j < m * n
        · have hj1 : j / n < m := Nat.div_lt_of_lt_mul (by rw [Nat.mul_comm]; exact hj)
          have hj2 : j % n < n := Nat.mod_lt _ hn
          obtain ⟨cs', h1, h2⟩ := hx (j / n) hj1
          rw [hce] at h1
          obtain ⟨_, hlen, hc⟩ := World.cells?_some h1
          obtain ⟨z, hz, hr⟩ := hint h2 hlen hj2
          refine ⟨z, fun _ => ⟨?_, hr⟩⟩
          rw [← hz, ← hc _ hj2, addr_add]
          congr 2
          exact (Nat.div_add_mod' j n).symm
        · exact ⟨0, fun h => absurd h hj⟩
      obtain ⟨f, hf⟩ := Classical.axiomOfChoice hcell
      have hpos : 0 < m * n := Nat.mul_pos (by omega) hn
      have h0 := (hf 0 hpos).1
      have hfirst : ∃ cur ty fr, W.heap[a.block]? = some (.cells cur ty fr) ∧ a.spot = none := by
        have h0 : W.cell? a = some (.int K (f 0)) := by simpa [Addr.add] using h0
        unfold World.cell? at h0
        split at h0
        · rename_i c ty fr hc
          split at h0
          · cases h0
          · rename_i hs
            exact ⟨c, ty, fr, hc, by simpa using hs⟩
        · cases h0
      obtain ⟨cur, ty, fr, hheap, hspot⟩ := hfirst
      have ha : a = ⟨a.block, a.off, none⟩ := by cases a; simp_all
      have hcur : ∀ j, j < m * n → cur[a.off + j]? = some (.int K (f j)) := by
        intro j hj
        have := (hf j hj).1
        rw [ha, add_lit] at this
        simpa [World.cell?, hheap] using this
      have hsize : a.off + m * n ≤ cur.size := by
        have := hcur (m * n - 1) (by omega)
        have := (Array.getElem?_eq_some_iff.1 this).1
        omega
      have hln : len * n ≤ m * n := Nat.mul_le_mul_right _ hl
      refine ⟨_, (List.range (len * n)).map f, len, onePhi ⟨a.block, a.off, m * n⟩, rfl, by simp, by omega, ?_, ⟨⟨fun i b p hb hp => ?_, fun i j b c p q hb hc ho => ?_, fun i p hp => ?_⟩, htab, fun g cs _ ⟨i, b, p, hb, ho, hp, _⟩ => by cases i with | zero => (simp [lkp] at hb; subst hb; simp [Blk.own] at ho) | succ i => simp [lkp] at hb⟩, .inr ⟨⟨a.block, a.off, m * n⟩, m, rfl, by rw [Nat.add_zero, ← ha], hl, hm, by simp⟩⟩
      · intro x hx
        obtain ⟨j, hj, rfl⟩ := List.mem_map.1 hx
        exact (hf j (by have := List.mem_range.1 hj; omega)).2
      · cases i with
        | zero =>
          simp [lkp] at hb
          simp [onePhi] at hp
          subst hb; subst hp
          refine ⟨cur, ty, fr, hheap, hsize, by simpa using hln, fun j c hj => ?_, fun h => by cases h⟩
          have hjl : j < len * n := by have := (List.getElem?_eq_some_iff.1 hj).1; simpa using this
          rw [List.getElem?_eq_getElem (by simpa using hjl)] at hj
          simp only [List.getElem_map, List.getElem_range, Option.some.injEq] at hj
          subst hj
          exact ⟨_, hcur j (by omega), rfl⟩
        | succ i => simp [lkp] at hb
      · cases i with
        | zero => simp [lkp] at hb; subst hb; simp [Blk.own] at ho
        | succ i => simp [lkp] at hb
      · cases i with
        | zero => exact ⟨_, rfl⟩
        | succ i => simp [onePhi] at hp
/-- a slice of bytes -/
def bytesOK (P : Program) (t : TypeId) : Bool := match slEl P t with
  | some e => (intK P e == some .u8) && (P.cellsOf e == 1)
  | none => false
theorem open_bytes {H : Type} {enc : TypeId × Value → H} {P : Program} {W : World} {base : Nat} {t : TypeId} {v : Value} {d : DataW H} {p : List MemPlace} (hp : bytesOK P t = true) (hw : Value.okWide P W .any base t v) (hD : DataW.Trod enc P W 0 (fun _ => true) true t v d p) (htab : TabIn W := by exact fun _ _ h => by cases h) :
    ∃ (l : List Int) (φ : Phi), l.length ≤ maxLen ∧ (∀ x ∈ l, 0 ≤ x ∧ x < 256) ∧ HeapOK φ (lkp [.cells (l.map (C.int .u8)) false]) W ∧ VRc φ (.sl 0 0 l.length 1) v := by
  unfold bytesOK at hp
  split at hp
  · rename_i e he
    simp only [Bool.and_eq_true, beq_iff_eq] at hp
    obtain ⟨h1, h2⟩ := hp
    have hk := slEl_ok he
    obtain ⟨fuel, hDD⟩ := hD
    obtain ⟨u, xs, len, φ, hu, hxs, hlen, hrg, hheap, hvr⟩ := open_rows (K := .u8) (Rg := fun x => 0 ≤ x ∧ x < 256) hk h2 (by decide) (by
      intro base spare held fuel cs x h hl k hk0
      obtain ⟨z, hz, _, h3⟩ := DataW.trod_int (intK_ok h1) h
      subst hz
      have : k = 0 := by omega
      subst this
      refine ⟨z, rfl, ?_⟩
      simp [Lit.wf, IntKind.min, IntKind.max, IntKind.bits, IntKind.signed] at h3
      omega) hDD htab
    have hvu : v = u := by
      have hw : Cell.okWide P W .any base t v := by
        unfold Value.okWide at hw
        rw [hk] at hw
        exact hw
      cases v with
      | agg cs => simp [Cell.okWide, hk, Cell.ok] at hw
      | _ => first | (simp [Value.cells] at hu; exact hu) | (simp [Cell.okWide, hk, Cell.ok] at hw)
    subst hvu
    have e1 : xs.length = len := by omega
    exact ⟨xs, φ, by omega, hrg, hheap, by rw [e1]; exact hvr⟩
  · cases hp
/-- four ints -/
structure Four where
  k : Int
  a : Int
  b : Int
  c : Int
def flat4 (l : List Four) : List Int := l.flatMap fun q => [q.k, q.a, q.b, q.c]
theorem fours_of : ∀ (len : Nat) (xs : List Int), xs.length = len * 4 → ∃ l : List Four, l.length = len ∧ flat4 l = xs
  | 0, xs, h => ⟨[], rfl, (List.eq_nil_of_length_eq_zero (by omega)).symm⟩
  | n + 1, a :: b :: c :: d :: xs, h => by
    obtain ⟨l, hl, hf⟩ := fours_of n xs (by simp at h; omega)
    exact ⟨⟨a, b, c, d⟩ :: l, by simp [hl], by rw [← hf]; rfl⟩
  | n + 1, [], h => by simp at h
  | n + 1, [_], h => by simp at h; omega
  | n + 1, [_, _], h => by simp at h; omega
  | n + 1, [_, _, _], h => by simp at h; omega
def strT (P : Program) (t : TypeId) : Option (List Field) := match P.underlying t with
  | some (.struct fs) => some fs.toList
  | _ => none
def foursOK (P : Program) (t : TypeId) : Bool := match slEl P t with
  | some e => (P.cellsOf e == 4) && (match strT P e with
    | some [f0, f1, f2, f3] => (f0.offset == 0) && (f1.offset == 1) && (f2.offset == 2) && (f3.offset == 3) && [f0, f1, f2, f3].all fun f => (intK P f.type == some .i64) && (P.cellsOf f.type == 1)
    | _ => false)
  | none => false
theorem open_fours {H : Type} {enc : TypeId × Value → H} {P : Program} {W : World} {base : Nat} {t : TypeId} {v : Value} {d : DataW H} {p : List MemPlace} (hp : foursOK P t = true) (hw : Value.okWide P W .any base t v) (hD : DataW.Trod enc P W 0 (fun _ => true) true t v d p) (htab : TabIn W := by exact fun _ _ h => by cases h) :
    ∃ (l : List Four) (φ : Phi), l.length ≤ maxLen ∧ HeapOK φ (lkp [.cells ((flat4 l).map (C.int .i64)) false]) W ∧ VRc φ (.sl 0 0 l.length 4) v := by
  unfold foursOK at hp
  split at hp
  · rename_i e he
    simp only [Bool.and_eq_true, beq_iff_eq] at hp
    obtain ⟨h2, hp⟩ := hp
    split at hp
    · rename_i f0 f1 f2 f3 hf
      have hstr : P.underlying e = some (.struct #[f0, f1, f2, f3]) := by
        unfold strT at hf
        split at hf
        · rename_i fs hfs
          injection hf with hf
          rw [hfs]
          congr 2
          exact Array.ext' hf
        · cases hf
      simp only [Bool.and_eq_true, beq_iff_eq, List.all_cons, List.all_nil, and_true] at hp
      obtain ⟨⟨⟨⟨o0, o1⟩, o2⟩, o3⟩, ⟨a0, c0⟩, ⟨a1, c1⟩, ⟨a2, c2⟩, ⟨a3, c3⟩⟩ := hp
      have hk := slEl_ok he
      obtain ⟨fuel, hDD⟩ := hD
      obtain ⟨u, xs, len, φ, hu, hxs, hlen, _, hheap, hvr⟩ := open_rows (K := .i64) (Rg := fun _ => True) hk h2 (by decide) (by
        intro base spare held fuel cs x h hl k hk0
        obtain ⟨ys, m, _, _, hlen, hyl, hy⟩ := DataW.trod_struct hstr h
        have one : ∀ (i : Nat) (f : Field), (#[f0, f1, f2, f3] : Array Field)[i]? = some f → f.offset = i → intK P f.type = some .i64 → P.cellsOf f.type = 1 → i < 4 → ∃ z : Int, cs[i]? = some (.int .i64 z) := by
          intro i f hf ho hi hc hi4
          have := hy i f hf
          rw [ho, hc, List.getElem?_eq_getElem (by rw [hyl]; exact hi4)] at this
          obtain ⟨z, h1, _, _⟩ := DataW.trod_int (intK_ok hi) this
          refine ⟨z, ?_⟩
          rw [List.drop_eq_getElem_cons (by omega), List.take_succ_cons] at h1
          injection h1 with h1
          rw [List.getElem?_eq_getElem (by omega), h1]
        have : k = 0 ∨ k = 1 ∨ k = 2 ∨ k = 3 := by omega
        rcases this with rfl | rfl | rfl | rfl
        · obtain ⟨z, hz⟩ := one 0 f0 rfl o0 a0 c0 (by decide); exact ⟨z, hz, trivial⟩
        · obtain ⟨z, hz⟩ := one 1 f1 rfl o1 a1 c1 (by decide); exact ⟨z, hz, trivial⟩
        · obtain ⟨z, hz⟩ := one 2 f2 rfl o2 a2 c2 (by decide); exact ⟨z, hz, trivial⟩
        · obtain ⟨z, hz⟩ := one 3 f3 rfl o3 a3 c3 (by decide); exact ⟨z, hz, trivial⟩) hDD htab
      have hvu : v = u := by
        have hw : Cell.okWide P W .any base t v := by
          unfold Value.okWide at hw
          rw [hk] at hw
          exact hw
        cases v with
        | agg cs => simp [Cell.okWide, hk, Cell.ok] at hw
        | _ => first | (simp [Value.cells] at hu; exact hu) | (simp [Cell.okWide, hk, Cell.ok] at hw)
      subst hvu
      obtain ⟨l, hl, hfl⟩ := fours_of len xs hxs
      exact ⟨l, φ, by omega, by rw [hfl]; exact hheap, by rw [hl]; exact hvr⟩
    · cases hp
  · cases hp
end Go.Proofs.YthpookdfaikabaaGreatDoor.AM
