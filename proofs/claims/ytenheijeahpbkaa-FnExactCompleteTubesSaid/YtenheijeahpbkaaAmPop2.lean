/-
  The other operations that do not look at the heap: literals of structs, arrays and slices, min and max, equality of aggregates.
-/
import Derived.Test.YtenheijeahpbkaaAmPop
namespace Go.Proofs.Ytenheijeahpbkaa.AM
open Go

theorem mm_ok {P : Program} {w : World} {e : Env} {φ : Phi} {a : Act} (he : EnvOK φ e a) {isMax : Bool} {k : IntKind} : ∀ {xs : List Operand} {ys : List Opd} {m : Int} {c : C}, All2 (fun x y => okOpd x y = true) xs ys → mmL e isMax k m ys = some c →
    ((xs.map a.eval).foldlM (if isMax then Builtin.max2 else Builtin.min2) (.int k m)).run P w = .ok (match c with | .int _ n => .int k n | _ => .int k 0) w ∧ ∃ n, c = .int k n
  | [], [], m, c, _, h => by
    simp only [mmL, Option.some.injEq] at h
    subst h
    exact ⟨rfl, m, rfl⟩
  | x :: xs, y :: ys, m, c, hk, h => by
    have hx := opd_ok he hk.1
    simp only [mmL] at h
    split at h
    · rename_i k' b hm
      rw [hm] at hx
      have hx : a.eval x = .int k' b := hx
      split at h
      · rename_i hkk
        subst hkk
        obtain ⟨h1, h2⟩ := mm_ok (P := P) (w := w) he hk.2 h
        refine ⟨?_, h2⟩
        rw [← h1]
        simp only [List.map_cons, List.foldlM_cons, Sem.run_bind, hx]
        cases isMax <;> simp [Builtin.max2, Builtin.min2, mmI]
      · cases h
    · cases h
  | [], _ :: _, _, _, h, _ => h.elim
  | _ :: _, [], _, _, h, _ => h.elim
theorem pop_mnmx {P : Program} {isMax : Bool} {ts : Array TypeId} {xs : Array Operand} {ys : List Opd} (h : All2 (fun x y => okOpd x y = true) xs.toList ys) : PopOK P (.call { callee := .builtin (if isMax then .max else .min), args := xs, argTypes := ts }) (.mnmx isMax ys) := by
  refine PopOK.of_pure fun φ e a w n v bs o hop he hev => ?_
  simp only [POp.ev] at hev
  split at hev
  · cases hev
  · rename_i y ys
    obtain ⟨xs⟩ := xs
    cases xs with
    | nil => exact h.elim
    | cons x xs =>
      have hx := opd_ok he h.1
      split at hev
      · rename_i k m hm
        rw [hm] at hx
        have hx : a.eval x = .int k m := hx
        simp only [Option.map_eq_some_iff, Prod.mk.injEq] at hev
        obtain ⟨c, hc, rfl, rfl⟩ := hev
        obtain ⟨h1, n', rfl⟩ := mm_ok (P := P) (w := w) he h.2 hc
        refine ⟨rfl, .int k n', ?_, rfl⟩
        cases isMax
        · simp only [Bool.false_eq_true, if_false] at h1 hop
          simp [execOp, hop, resolve, invoke, builtin, Builtin.min_, hx, h1]
        · simp only [if_true] at h1 hop
          simp [execOp, hop, resolve, invoke, builtin, Builtin.max_, hx, h1]
      · cases hev

/-- the parts of a literal -/
def PartsOK (place : Nat → Option (Nat × Nat)) : List (Nat × Operand) → List (Nat × Nat × Opd) → Prop
  | [], [] => True
  | (i, x) :: ps, (o, n, y) :: qs => place i = some (o, n) ∧ okOpd x y = true ∧ PartsOK place ps qs
  | _, _ => False
theorem setAt_ok {φ : Phi} : ∀ {xs : List C} {us : List Value} (cs : List C) (cur : Array Value) (o : Nat), All2 (VRc φ) xs us → All2 (VRc φ) cs cur.toList →
    All2 (VRc φ) (setAt cs o xs) ((us.zipIdx.foldl (fun (s : Array Value) (p : Value × Nat) => s.setIfInBounds (o + p.2) p.1) cur).toList)
  | [], [], _, _, _, _, h => h
  | x :: xs, u :: us, cs, cur, o, hx, h => by
    have hstep : All2 (VRc φ) (cs.set o x) (cur.setIfInBounds o u).toList := by
      rw [Array.toList_setIfInBounds]; exact h.set hx.1 o
    have ih := setAt_ok (cs.set o x) (cur.setIfInBounds o u) (o + 1) hx.2 hstep
    have hz : ∀ (us : List Value) (k : Nat) (cur : Array Value), (us.zipIdx (k + 1)).foldl (fun (s : Array Value) (p : Value × Nat) => s.setIfInBounds (o + p.2) p.1) cur = (us.zipIdx k).foldl (fun (s : Array Value) (p : Value × Nat) => s.setIfInBounds (o + 1 + p.2) p.1) cur := by
      intro us
      induction us with
      | nil => intro k cur; rfl
      | cons v us ih =>
        intro k cur
        simp only [List.zipIdx_cons, List.foldl_cons]
        rw [ih (k + 1)]
        congr 2
        omega
    simp only [setAt, List.zipIdx_cons, List.foldl_cons, Nat.add_zero]
    rw [hz us 0]
    exact ih
  | [], _ :: _, _, _, _, h, _ => h.elim
  | _ :: _, [], _, _, _, h, _ => h.elim
theorem setAt_length : ∀ (xs : List C) (cs : List C) (o : Nat), (setAt cs o xs).length = cs.length
  | [], _, _ => rfl
  | x :: xs, cs, o => by simp [setAt, setAt_length xs]
theorem fill_ok {φ : Phi} {e : Env} {a : Act} (he : EnvOK φ e a) {place : Nat → Option (Nat × Nat)} : ∀ {ps : List (Nat × Operand)} {qs : List (Nat × Nat × Opd)} {cs cs' : List C} {cur : Array Value}, PartsOK place ps qs → fillAt e qs cs = some cs' → All2 (VRc φ) cs cur.toList →
    ∃ cur', Instr.fill place cur (ps.map fun p => (p.1, a.eval p.2)) = some cur' ∧ All2 (VRc φ) cs' cur'.toList
  | [], [], cs, cs', cur, _, h, hc => by
    simp only [fillAt, Option.some.injEq] at h
    subst h
    exact ⟨cur, rfl, hc⟩
  | (i, x) :: ps, (o, n, y) :: qs, cs, cs', cur, hp, h, hc => by
    obtain ⟨hpl, hxy, hps⟩ := hp
    simp only [fillAt] at h
    split at h
    · rename_i hcond
      obtain ⟨vs, hvs, ha⟩ := (opd_ok he hxy).cells hcond.2.2
      have hstep := setAt_ok cs cur o ha hc
      obtain ⟨cur', h1, h2⟩ := fill_ok he hps h hstep
      refine ⟨cur', ?_, h2⟩
      have hl := ha.length
      have hl2 := hc.length
      have hcs : (a.eval x).cells.size = n := by rw [hvs]; simp; omega
      have hsz : cur.size = cs.length := by rw [hl2]; simp
      simp only [List.map_cons, Instr.fill, hpl, hcs]
      rw [if_neg (by simp; omega)]
      have e1 : (a.eval x).cells.zipIdx.foldl (fun (s : Array Value) (p : Value × Nat) => s.setIfInBounds (o + p.2) p.1) cur = vs.zipIdx.foldl (fun (s : Array Value) (p : Value × Nat) => s.setIfInBounds (o + p.2) p.1) cur := by
        rw [hvs, ← Array.foldl_toList]; simp
      rw [← h1]
      congr 1
    · cases h
  | [], _ :: _, _, _, _, h, _, _ => h.elim
  | _ :: _, [], _, _, _, h, _, _ => h.elim

theorem run_places {P : Program} {w : World} (fs : Array Field) (h : ∀ f ∈ fs.toList, (szT P f.type).isSome = true) :
    (fs.mapM fun (f : Field) => do pure (f.offset, ← sizeOf f.type)).run P w = .ok (fs.map fun f => (f.offset, (szT P f.type).getD 0)) w := by
  have key : ∀ l : List Field, (∀ f ∈ l, (szT P f.type).isSome = true) → (l.mapM fun (f : Field) => do pure (f.offset, ← sizeOf f.type)).run P w = .ok (l.map fun f => (f.offset, (szT P f.type).getD 0)) w := by
    intro l hl
    induction l with
    | nil => rfl
    | cons f l ih =>
      obtain ⟨n, hn⟩ := Option.isSome_iff_exists.1 (hl f (by simp))
      have ih := ih fun g hg => hl g (by simp [hg])
      simp only [List.mapM_cons, Sem.run_bind, run_size hn, Result.andThen_ok, Sem.run_pure, ih, List.map_cons, hn, Option.getD_some]
  rw [Array.mapM_eq_mapM_toList]
  simp only [Sem.run_map, key fs.toList h, Result.andThen_ok]
  congr 1
  apply Array.ext'
  simp
theorem run_zero {P : Program} {w : World} {t : TypeId} {v : Value} (hz : ((P.info? t).bind (·.zero)) = some v) : (zeroValue t).run P w = .ok v w := by
  obtain ⟨i, hi, hz⟩ := Option.bind_eq_some_iff.1 hz
  simp [zeroValue, typeInfo, hi, hz]
theorem Phi.none_eq {φ : Phi} {n k : Nat} (h : ∀ j, j < k → φ (n + j) = Option.none) : φ.none n k = φ := by
  funext i
  unfold Phi.none
  split
  · rename_i hi
    have := h (i - n) (by omega)
    rw [show n + (i - n) = i by omega] at this
    exact this.symm
  · rfl
theorem pop_build {P : Program} {t : TypeId} {z : List Z} {v0 : Value} {ps : Array (Nat × Operand)} {qs : List (Nat × Nat × Opd)} {place : Nat → Option (Nat × Nat)} (hz : ((P.info? t).bind (·.zero)) = some v0) (hzs : okZs v0.cells.toList z = true)
    (hp : PartsOK place ps.toList qs)
    (hpl : (∃ fs, P.underlying t = some (.struct fs) ∧ (∀ f ∈ fs.toList, (szT P f.type).isSome = true) ∧ place = fun i => (fs.map fun f => (f.offset, (szT P f.type).getD 0))[i]?) ∨
      (∃ k el sz, P.underlying t = some (.array k el) ∧ szT P el = some sz ∧ place = fun i => some (i * sz, sz))) : PopOK P (.build t ps) (.build z qs) := by
  intro φ e a w n v bs o hop he hev hf
  simp only [POp.ev, Option.map_eq_some_iff, Prod.mk.injEq] at hev
  obtain ⟨cs, hc, rfl, rfl⟩ := hev
  obtain ⟨cur, h1, h2⟩ := fill_ok he hp hc (okZs_ok n hzs)
  refine ⟨.agg cur, w, φ.none n (inst z n).2.length, ?_, ?_, New.empties⟩
  · have hm : (ps.map fun (i, x) => (i, a.eval x)).toList = ps.toList.map fun p => (p.1, a.eval p.2) := by simp
    rcases hpl with ⟨fs, hu, hfs, rfl⟩ | ⟨k, el, sz, hu, hs, rfl⟩
    · simp only [execOp, hop, Instr.build, Sem.run_bind, run_zero hz, Result.andThen_ok, run_underlying hu, run_places fs hfs, hm, h1, Sem.run_pure]
    · simp only [execOp, hop, Instr.build, Sem.run_bind, run_zero hz, Result.andThen_ok, run_underlying hu, run_size hs, hm, h1, Sem.run_pure]
  · rw [Phi.none_eq hf]
    exact ⟨cur.toList, by simp, h2⟩
theorem rep_ok {φ : Phi} {vs : List Value} {z : List Z} (h : okZs vs z = true) : ∀ (k n : Nat), All2 (VRc φ) (inst (rep k z) n).1 (List.replicate k vs).flatten
  | 0, n => trivial
  | k + 1, n => by
    simp only [rep, List.replicate_succ, List.flatten_cons]
    have key : ∀ (z' : List Z) (vs' : List Value) (z : List Z) (n : Nat), okZs vs' z = true → (∀ n, All2 (VRc φ) (inst z' n).1 (List.replicate k vs).flatten) → All2 (VRc φ) (inst (z ++ z') n).1 (vs' ++ (List.replicate k vs).flatten) := by
      intro z' vs'
      induction vs' with
      | nil => intro z n hz h'; cases z with
        | nil => exact h' n
        | cons => simp [okZs] at hz
      | cons u us ih => intro z n hz h'; cases z with
        | nil => simp [okZs] at hz
        | cons x z =>
          cases x with
          | k c =>
            simp only [okZs, Bool.and_eq_true] at hz
            exact ⟨okC_ok hz.1, ih z n hz.2 h'⟩
          | sl s =>
            unfold okZs at hz
            split at hz
            · rename_i h1 _; cases h1
            · rename_i h1 h2; injection h2 with h2; cases h2
            · rename_i h1 h2
              injection h1 with h1 h1'; injection h2 with h2 h2'
              subst h1; subst h1'; subst h2'
              exact ⟨.inl ⟨rfl, none, rfl⟩, ih z (n + 1) hz h'⟩
            · cases hz
    exact key (rep k z) vs z n h fun n => rep_ok h k n
theorem zeros_list (zs : Array Value) (k sz : Nat) (h : zs.size = sz) : ((Array.range (k * sz)).map (zs[· % zs.size]!)).toList = (List.replicate k zs.toList).flatten := by
  induction k with
  | zero => simp
  | succ k ih =>
    rw [List.replicate_succ', List.flatten_append, ← ih]
    simp only [Array.toList_map, Array.toList_range, Nat.succ_mul, List.range_add, List.map_append, List.map_map]
    congr 1
    simp only [List.flatten_cons, List.flatten_nil, List.append_nil]
    apply List.ext_getElem
    · simp [h]
    · intro i h1 h2
      simp at h1
      simp only [List.getElem_map, List.getElem_range, Function.comp_apply]
      have e1 : (k * sz + i) % zs.size = i := by
        rw [h, Nat.add_comm, Nat.mul_comm, Nat.add_mul_mod_self_left]; exact Nat.mod_eq_of_lt (by omega)
      rw [e1, getElem!_pos zs i (by omega)]
      simp
theorem pop_mksl {P : Program} {t el : TypeId} {k sz : Nat} {z : List Z} {v0 : Value} {ps : Array (Nat × Operand)} {qs : List (Nat × Nat × Opd)} (ht : P.underlying t = some (.slice el)) (hs : szT P el = some sz) (hz : ((P.info? el).bind (·.zero)) = some v0) (hzs : okZs v0.cells.toList z = true)
    (hsz : v0.cells.size = sz) (hp : PartsOK (fun i => some (i * sz, sz)) ps.toList qs) (hlim : k * sz ≤ 2 ^ 24) (hk : k ≤ 2 ^ 24) : PopOK P (.buildSlice t k ps) (.mksl sz k z qs) := by
  intro φ e a w n v bs o hop he hev hf
  simp only [POp.ev] at hev
  split at hev
  · rename_i hln
    simp only [Option.map_eq_some_iff, Prod.mk.injEq] at hev
    obtain ⟨cs, hc, rfl, rfl⟩ := hev
    obtain ⟨cur0, hcur0⟩ : ∃ c : Array Value, c = (List.replicate k v0.cells.toList).flatten.toArray := ⟨_, rfl⟩
    have hreal : ∀ zr : Array Value, (k * sz = 0 ∨ zr = v0.cells) → ((Array.range (k * sz)).map fun x => zr[x % zr.size]!) = cur0 := by
      intro zr hzr
      apply Array.ext'
      rw [hcur0]
      rcases hzr with h0 | rfl
      · have : (List.replicate k v0.cells.toList).flatten.length = 0 := by simp [hsz, h0]
        rw [List.eq_nil_of_length_eq_zero this, h0]
        simp
      · exact zeros_list v0.cells k sz hsz
    obtain ⟨cur, h1, h2⟩ := fill_ok (cur := cur0) he hp hc (by rw [hcur0]; exact rep_ok hzs k (n + 1))
    have hcl : cs.length = k * sz := by
      have : ∀ (qs : List (Nat × Nat × Opd)) (cs cs' : List C), fillAt e qs cs = some cs' → cs'.length = cs.length := by
        intro qs
        induction qs with
        | nil => intro cs cs' h; simp only [fillAt, Option.some.injEq] at h; rw [h]
        | cons q qs ih =>
          intro cs cs' h
          simp only [fillAt] at h
          split at h
          · rw [ih _ _ h, setAt_length]
          · cases h
      rw [this _ _ _ hc, hln]
    have hcur : cur.size = k * sz := by have := h2.length; simp at this; omega
    have hle : Le φ (φ.at n ((inst (rep k z) (n + 1)).2.length + 1) ⟨w.heap.size, 0, cur.size⟩) := by
      intro i p hpi
      unfold Phi.at
      by_cases hi : n ≤ i ∧ i < n + ((inst (rep k z) (n + 1)).2.length + 1)
      · have := hf (i - n) (by simp; omega)
        rw [show n + (i - n) = i by omega, hpi] at this
        cases this
      · rw [if_neg (by omega), if_neg (by omega)]; exact hpi
    refine ⟨.slice (some ⟨w.heap.size, 0, none⟩) k k, w.alloc (.cells cur el), _, ?_, .inr ⟨⟨w.heap.size, 0, cur.size⟩, k, by simp [Phi.at], rfl, Nat.le_refl _, ?_, ?_⟩,
      New.row (cs := cs) (cur := cur) (fun φ' hφ => ⟨cur.toList, by rw [h2.length]; exact List.take_length, h2.mono fun i p hpi => ?_⟩) w (Fr.refl _ _)⟩
    · have hm : (ps.map fun (i, x) => (i, a.eval x)).toList = ps.toList.map fun p => (p.1, a.eval p.2) := by simp
      have hlim' : ¬ (k * sz > 2 ^ 24) := by omega
      by_cases h0 : k * sz = 0
      · have hr := hreal #[] (.inl h0)
        have hr0 : ∀ f : Nat → Value, (Array.range 0).map f = #[] := fun f => by apply Array.ext'; simp
        rw [h0, hr0] at hr
        subst hr
        simp only [execOp, hop, Instr.buildSlice, Sem.run_bind, run_underlying ht, Result.andThen_ok, run_size hs, h0, if_true, Sem.run_pure, hr0, hm, h1]
        simp [newRow]
      · have hr := hreal v0.cells (.inr rfl)
        simp only [execOp, hop, Instr.buildSlice, Sem.run_bind, run_underlying ht, Result.andThen_ok, run_size hs, hlim', h0, if_false, Sem.run_pure, run_zero hz, hr, hm, h1]
        simp [newRow]
    · unfold maxLen; omega
    · simp [hcur]
    · have := hle i p hpi
      by_cases hi : i < n ∨ n + ((inst (rep k z) (n + 1)).2.length + 1) ≤ i
      · rw [hφ i hi]; exact hpi
      · have := hf (i - n) (by simp; omega)
        rw [show n + (i - n) = i by omega, hpi] at this
        cases this
  · cases hev
end Go.Proofs.Ytenheijeahpbkaa.AM
