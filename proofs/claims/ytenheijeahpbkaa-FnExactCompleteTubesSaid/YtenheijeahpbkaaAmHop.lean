/-
  Operations that look at the heap: load, store, append, slices of arrays, strings and bytes; what an operation leaves.
-/
import Derived.Test.YtenheijeahpbkaaAmPop3
import Derived.Lib.FrozenHead
namespace Go.Proofs.Ytenheijeahpbkaa.AM
open Go

def updU : List (Nat × Blk) → HF → HF
  | [], H => H
  | p :: r, H => updU r fun i => if i = p.1 then some p.2 else H i
def updH (H : HF) (base : Nat) (ns : List Blk) (us : List (Nat × Blk)) : HF := fun i => if base ≤ i ∧ i < base + ns.length then ns[i - base]? else updU us H i
/-- what an operation leaves: the new places, the heap, what may have been written -/
structure OutOK (φ : Phi) (H : HF) (w : World) (base : Nat) (ns : List Blk) (us : List (Nat × Blk)) (φ' : Phi) (w' : World) : Prop where
  old : ∀ i, (i < base ∨ base + ns.length ≤ i) → φ' i = φ i
  mv : Mv φ H w φ' (updH H base ns us) w'
def Free (φ : Phi) (base k : Nat) : Prop := ∀ j, j < k → φ (base + j) = none
theorem le_of_old {φ φ' : Phi} {base k : Nat} (h : ∀ i, (i < base ∨ base + k ≤ i) → φ' i = φ i) (hf : Free φ base k) : Le φ φ' := by
  intro i p hp
  by_cases hi : i < base ∨ base + k ≤ i
  · rw [h i hi]; exact hp
  · have := hf (i - base) (by omega)
    rw [show base + (i - base) = i by omega, hp] at this
    cases this
theorem updH_nil (H : HF) (base : Nat) : updH H base [] [] = H := by
  funext i; unfold updH; rw [if_neg (by simp)]; rfl
theorem OutOK.same {φ : Phi} {H : HF} {w : World} (base : Nat) (h : HeapOK φ H w) : OutOK φ H w base [] [] φ w :=
  ⟨fun _ _ => rfl, by rw [updH_nil]; exact Mv.refl h⟩
theorem BlkOK.mono {φ φ' : Phi} {w w' : World} {p : Pl} {b : Blk} (h : BlkOK φ w p b) (hh : w'.heap[p.b]? = w.heap[p.b]?) (hl : Le φ φ') : BlkOK φ' w' p b := by
  have := h.mp (φ' := φ') (w' := w') (g := fun i => i) hh fun i _ p hp => hl i p hp
  cases b with
  | dead => trivial
  | cells cs own => simpa [Blk.mp, cmp_id] using this
  | map es =>
    obtain ⟨en, cl, h1, h2⟩ := h
    exact ⟨en, cl, hh.trans h1, h2.imp fun e _ m hr => ⟨hr.1, hr.2.mono hl⟩⟩
/-- new blocks alone -/
theorem New.out {φ φ' : Phi} {H : HF} {w w' : World} {base : Nat} {ns : List Blk} (h : HeapOK φ H w) (hn : New φ w base ns φ' w') (hf : Free φ base ns.length) : OutOK φ H w base ns [] φ' w' := by
  have hle := hn.le hf
  have hlook : ∀ i b, updH H base ns [] i = some b → (base ≤ i ∧ i < base + ns.length ∧ ns[i - base]? = some b) ∨ ((i < base ∨ base + ns.length ≤ i) ∧ H i = some b) := by
    intro i b hb
    unfold updH at hb
    split at hb
    · rename_i hi; exact .inl ⟨hi.1, hi.2, hb⟩
    · rename_i hi; exact .inr ⟨by omega, hb⟩
  have hold : ∀ i p b, (i < base ∨ base + ns.length ≤ i) → H i = some b → φ' i = some p → φ i = some p := fun i p b hi _ hp => by rw [← hn.old i hi]; exact hp
  have hkeep : ∀ k, k < w.heap.size → w'.heap[k]? = w.heap[k]? := fun k hk => hn.fr.block k hk fun h => h
  have hnew : ∀ i b p, base ≤ i → i < base + ns.length → ns[i - base]? = some b → φ' i = some p → BlkOK φ' w' p b ∧ w.heap.size ≤ p.b := by
    intro i b p h1 h2 hb hp
    exact hn.blk (i - base) b p hb (by rw [show base + (i - base) = i by omega]; exact hp)
  refine ⟨hn.old, ⟨fun i b p hb hp => ?_, fun i j b c p q hb hc ho hl hij hp hq => ?_, fun i p hp => ?_⟩, hn.fr.mono fun _ h => h.elim, fun k ⟨i, b, p, hb, ho, hp, hk⟩ => ?_, fun k ⟨i, b, p, hb, ho, hp, hk⟩ => ?_⟩
  · rcases hlook i b hb with ⟨h1, h2, h3⟩ | ⟨h1, h2⟩
    · exact (hnew i b p h1 h2 h3 hp).1
    · have hb0 := h.blk i b p h2 (hold i p b h1 h2 hp)
      cases hlv : b.live with
      | false => cases b <;> simp [Blk.live] at hlv; trivial
      | true => exact hb0.mono (hkeep p.b (hb0.lt hlv)) hle
  · rcases hlook i b hb with ⟨h1, h2, h3⟩ | ⟨h1, h2⟩ <;> rcases hlook j c hc with ⟨k1, k2, k3⟩ | ⟨k1, k2⟩
    · exact hn.sep (i - base) (j - base) p q (by omega) (by omega) (by omega) (by rw [show base + (i - base) = i by omega]; exact hp) (by rw [show base + (j - base) = j by omega]; exact hq)
    · have hp1 := (hnew i b p h1 h2 h3 hp).2
      have hq1 := (h.blk j c q k2 (hold j q c k1 k2 hq)).lt hl
      omega
    · have hq1 := (hnew j c q k1 k2 k3 hq).2
      have hp1 := (h.blk i b p h2 (hold i p b h1 h2 hp)).lt (Blk.live_of_own ho)
      omega
    · exact h.sep i j b c p q h2 k2 ho hl hij (hold i p b h1 h2 hp) (hold j q c k1 k2 hq)
  · by_cases hi : base ≤ i ∧ i < base + ns.length
    · refine ⟨ns[i - base]'(by omega), ?_⟩
      unfold updH
      rw [if_pos hi, List.getElem?_eq_getElem]
    · obtain ⟨b, hb⟩ := h.dom i p (by rw [← hn.old i (by omega)]; exact hp)
      exact ⟨b, by unfold updH; rw [if_neg hi]; exact hb⟩
  · rcases hlook i b hb with ⟨h1, h2, h3⟩ | ⟨h1, h2⟩
    · right; rw [← hk]; exact (hnew i b p h1 h2 h3 hp).2
    · left; exact ⟨i, b, p, h2, ho, hold i p b h1 h2 hp, hk⟩
  · rcases hlook i b hb with ⟨h1, h2, h3⟩ | ⟨h1, h2⟩
    · right; rw [← hk]; exact (hnew i b p h1 h2 h3 hp).2
    · left; exact ⟨i, b, p, h2, ho, hold i p b h1 h2 hp, hk⟩
theorem Le.of_old {φ φ' : Phi} {base k : Nat} (hf : Free φ base k) (h : ∀ i, (i < base ∨ base + k ≤ i) → φ' i = φ i) : Le φ φ' := le_of_old h hf

/-- what an operation of the model does: it yields a value, nothing, or enters a function that returns -/
def Does (P : Program) (op : Oper) (a : Act) (w : World) (R : Value → World → Prop) : Prop :=
  (∃ rv w', (execOp a.eval op).run P w = .ok (.value rv) w' ∧ R rv w') ∨ (∃ w', (execOp a.eval op).run P w = .ok .skip w' ∧ R Go.undef w') ∨
    (∃ f args, (execOp a.eval op).run P w = .ok (.enter f args) w ∧ Calls P f args w fun e w' => ∃ rv, e = .returned rv ∧ R rv w')
theorem Does.wp {P : Program} {op : Oper} {a : Act} {w : World} {R : Value → World → Prop} (h : Does P op a w R) {next : Act → World → Prop} {Q : Exit → Act → World → Prop} (hn : ∀ rv w', R rv w' → next (a.put op.dst rv) w') : op.wp P a w next Q := by
  unfold Oper.wp
  rcases h with ⟨rv, w', hr, h⟩ | ⟨w', hr, h⟩ | ⟨f, args, hr, h⟩
  · rw [hr]; exact hn rv w' h
  · rw [hr]; exact hn _ w' h
  · rw [hr]
    refine Calls.mono h fun e w' ⟨rv, he, h⟩ => ?_
    subst he
    exact hn rv w' h
theorem Does.mono {P : Program} {op : Oper} {a : Act} {w : World} {R R' : Value → World → Prop} (h : Does P op a w R) (hr : ∀ rv w', R rv w' → R' rv w') : Does P op a w R' := by
  rcases h with ⟨rv, w', h1, h⟩ | ⟨w', h1, h⟩ | ⟨f, args, h1, h⟩
  · exact .inl ⟨rv, w', h1, hr _ _ h⟩
  · exact .inr (.inl ⟨w', h1, hr _ _ h⟩)
  · exact .inr (.inr ⟨f, args, h1, h.mono fun e w' ⟨rv, he, h⟩ => ⟨rv, he, hr _ _ h⟩⟩)
def ROut (φ : Phi) (H : HF) (w : World) (base : Nat) (r : Out) (rv : Value) (w' : World) : Prop := ∃ φ', VR φ' r.1 rv ∧ OutOK φ H w base r.2.1 r.2.2 φ' w'
def HopOK (P : Program) (F : Fns) (o : Op) (q : HOp) : Prop :=
  ∀ (φ : Phi) (H : HF) (e : Env) (a : Act) (w : World) (base : Nat) (r : Out) (op : Oper), op.op = o → EnvOK φ e a → HeapOK φ H w → q.ev F e H base = some r → Free φ base r.2.1.length → (r.2.1 ≠ [] → H base = none) → Does P op a w (ROut φ H w base r)

/-- cells that are read -/
theorem read_ok {φ : Phi} {H : HF} {w : World} (h : HeapOK φ H w) {i o n : Nat} {cs : List C} {p : Pl} (hr : readB H i o n = some cs) (hp : φ i = some p) :
    ∃ vs : List Value, All2 (VRc φ) cs vs ∧ vs.length = n ∧ o + n ≤ p.tot ∧ ∀ j v, vs[j]? = some v → w.cell? ⟨p.b, p.o + o + j, none⟩ = some v := by
  unfold readB at hr
  split at hr
  · rename_i bs own hb
    split at hr
    · rename_i hl
      injection hr with hr
      obtain ⟨cur, e, fr, h1, h2, h3, h4, _⟩ := h.blk i _ p hb hp
      have hlen : cs.length = n := by rw [← hr]; simp; omega
      refine ⟨(cur.toList.drop (p.o + o)).take n, All2.of_get (by simp [hlen]; omega) fun j c hc => ?_, by simp; omega, by omega, fun j v hv => ?_⟩
      · have hjn : j < n := by have := (List.getElem?_eq_some_iff.1 hc).1; omega
        rw [← hr, List.getElem?_take, if_pos hjn, List.getElem?_drop] at hc
        obtain ⟨v, hv, hrv⟩ := h4 (o + j) c hc
        refine ⟨v, ?_, hrv⟩
        rw [List.getElem?_take, if_pos hjn, List.getElem?_drop]
        simpa [Nat.add_assoc] using hv
      · have hjn : j < n := by have := (List.getElem?_eq_some_iff.1 hv).1; simp at this; omega
        rw [List.getElem?_take, if_pos hjn, List.getElem?_drop] at hv
        simp only [World.cell?, h1]
        simpa using hv
    · cases hr
  · cases hr
theorem hop_load {P : Program} {F : Fns} {t : TypeId} {n : Nat} {agg : Bool} {x : Operand} {y : Opd} (h : okOpd x y = true) (hs : szT P t = some n) (hb : aggT P t = some agg) (h1 : agg = true ∨ n = 1) : HopOK P F (.load t x) (.load n agg y) := by
  intro φ H e a w base r op hop he hh hev hf h0
  have hx := opd_ok he h
  simp only [HOp.ev] at hev
  split at hev
  · rename_i i o hm
    rw [hm] at hx
    obtain ⟨p, hp, hv⟩ := hx
    simp only [Option.map_eq_some_iff] at hev
    obtain ⟨cs, hc, rfl⟩ := hev
    obtain ⟨vs, ha, hl, _, hcell⟩ := read_ok hh hc hp
    refine .inl ⟨if agg then .agg vs.toArray else vs.headD Go.undef, w, ?_, φ, ?_, OutOK.same base hh⟩
    · cases agg with
      | true =>
        have hlc := run_loadCells_list (P := P) w ⟨p.b, p.o + o, none⟩ vs fun j v hj => by rw [add_lit]; exact hcell j v hj
        rw [hl] at hlc
        simp [execOp, hop, hv, ptrV, Instr.loadAt, Instr.sureAddr, loadVar, run_aggT hb, run_size hs, hlc]
      | false =>
        have hn : n = 1 := by simpa using h1
        subst hn
        obtain ⟨v, rfl⟩ := List.length_eq_one_iff.1 hl
        have hc0 := hcell 0 v (by simp)
        simp only [Nat.add_zero] at hc0
        simp [execOp, hop, hv, ptrV, Instr.loadAt, Instr.sureAddr, loadVar, run_aggT hb, hc0]
    · exact mkV_ok ha (by rcases h1 with h1 | h1; exact .inl h1; right; rw [ha.length, hl, h1])
  · cases hev
theorem hop_slA {P : Program} {F : Fns} {t el : TypeId} {n sz : Nat} {x : Operand} {y : Opd} {lo hi : Option Operand} {lo' hi' : Option Opd} (h : okOpd x y = true) (hlo : okBnd lo lo' = true) (hhi : okBnd hi hi' = true) (ht : P.underlying t = some (.array n el)) (hs : szT P el = some sz) (hn : n ≤ maxLen) :
    HopOK P F (.slice t x lo hi none) (.slA n sz y lo' hi') := by
  intro φ H e a w base r op hop he hh hev hf h0
  have hx := opd_ok he h
  simp only [HOp.ev] at hev
  split at hev
  · rename_i i o hm
    rw [hm] at hx
    obtain ⟨p, hp, hv⟩ := hx
    split at hev
    · rename_i cs hc
      obtain ⟨h', h1, hev⟩ := Option.bind_eq_some_iff.1 hev
      obtain ⟨l, h2, rfl⟩ := Option.map_eq_some_iff.1 hev
      obtain ⟨vs, ha, hl, htot, hcell⟩ := read_ok hh hc hp
      obtain ⟨hrun, hle, hhn⟩ := run_bounds (P := P) (w := w) he hlo hhi (Nat.le_refl _) false h1 h2
      by_cases hnl : n = l
      · have hh' : h' = n := by omega
        subst hnl; subst hh'
        refine .inl ⟨.slice (some ⟨p.b, p.o + o, none⟩) 0 0, w, ?_, φ, .inl ⟨by omega, _, rfl⟩, OutOK.same base hh⟩
        simp [execOp, hop, hv, ptrV, Instr.sliceAt, run_underlying ht, Instr.sureAddr, hrun, run_size hs]
      · refine .inl ⟨.slice (some ⟨p.b, p.o + (o + l * sz), none⟩) (h' - l) (n - l), w, ?_, φ, .inr ⟨p, n - l, hp, rfl, by omega, by omega, ?_⟩, OutOK.same base hh⟩
        · simp [execOp, hop, hv, ptrV, Instr.sliceAt, run_underlying ht, Instr.sureAddr, hrun, run_size hs, hnl, add_lit, Nat.add_assoc]
        · have e1 : l * sz + (n - l) * sz = n * sz := by rw [← Nat.add_mul]; congr 1; omega
          omega
    · cases hev
  · cases hev

/-- cells written over others -/
def splice (cur : Array Value) (o : Nat) (vs : List Value) : Array Value := (cur.toList.take o ++ vs ++ cur.toList.drop (o + vs.length)).toArray
theorem splice_size {cur : Array Value} {o : Nat} {vs : List Value} (h : o + vs.length ≤ cur.size) : (splice cur o vs).size = cur.size := by
  simp [splice]; omega
theorem splice_get {cur : Array Value} {o : Nat} {vs : List Value} (h : o + vs.length ≤ cur.size) (j : Nat) : (splice cur o vs)[j]? = if o ≤ j ∧ j < o + vs.length then vs[j - o]? else cur[j]? := by
  have e0 : (splice cur o vs)[j]? = (cur.toList.take o ++ vs ++ cur.toList.drop (o + vs.length))[j]? := by simp [splice]
  have e1 : cur[j]? = cur.toList[j]? := by simp
  rw [e0, e1, List.append_assoc]
  have hlt : (cur.toList.take o).length = o := by simp; omega
  by_cases h1 : j < o
  · rw [List.getElem?_append_left (by omega), List.getElem?_take, if_pos h1, if_neg (by omega)]
  · rw [List.getElem?_append_right (by omega), hlt]
    by_cases h2 : j < o + vs.length
    · rw [List.getElem?_append_left (by omega), if_pos (by omega)]
    · rw [List.getElem?_append_right (by omega), if_neg (by omega), List.getElem?_drop]
      congr 1; omega
theorem run_storeCells_gen (P : Program) (g o : Nat) (t : TypeId) (fz : Nat × Nat) : ∀ (vs : List Value) (i : Nat) (cur : Array Value) (w : World), w.heap[g]? = some (.cells cur t fz) → (∀ j, j < vs.length → ¬ (fz.1 ≤ o + i + j ∧ o + i + j < fz.2)) → o + i + vs.length ≤ cur.size → (∀ v ∈ vs, v.oneCell' = true) →
    (storeCells ⟨g, o, none⟩ vs i).run P w = .ok () (w.setRow g (splice cur (o + i) vs))
  | [], i, cur, w, hg, _, _, _ => by
    simp only [storeCells, splice, List.append_nil, List.length_nil, Nat.add_zero, List.take_append_drop, Array.toArray_toList]
    rw [setRow_self w g cur t fz hg]
    rfl
  | v :: rest, i, cur, w, hg, hfz, hl, h1 => by
    have hi : o + i < cur.size := by simp at hl; omega
    have hadd : (⟨g, o, none⟩ : Addr).add i = ⟨g, o + i, none⟩ := add_lit _ _ _
    have hcell : w.cell? ⟨g, o + i, none⟩ = some cur[o + i] := by simp [World.cell?, hg, hi]
    have hfro : w.frozen? ⟨g, o + i, none⟩ = false := by
      obtain ⟨lo, hi'⟩ := fz
      have := hfz 0 (by simp)
      simp only [World.frozen?, hg, Bool.and_eq_false_iff, decide_eq_false_iff_not]
      simp only [Nat.add_zero] at this
      omega
    have hst : (store ((⟨g, o, none⟩ : Addr).add i) v).run P w = .ok () (w.setRow g (cur.setIfInBounds (o + i) v)) := by
      rw [hadd, run_store P w _ v _ (h1 v (by simp)), hcell]
      simp [hfro, setCell_eq_setRow w g (o + i) cur t fz v hg]
    have ih := run_storeCells_gen P g o t fz rest (i + 1) (cur.setIfInBounds (o + i) v) (w.setRow g (cur.setIfInBounds (o + i) v)) (setRow_heap w g cur _ t _ hg) (fun j hj => by have := hfz (j + 1) (by simp; omega); omega) (by simp at hl ⊢; omega) (fun x hx => h1 x (by simp [hx]))
    simp only [storeCells, Sem.run_bind, hst, Result.andThen_ok, ih, setRow_setRow]
    congr 2
    have e := list_seg_step cur.toList (o + i) v rest (by simp at hl ⊢; omega)
    unfold splice
    congr 1
    simpa [Array.toList_setIfInBounds, Nat.add_assoc] using e
theorem setAt_get : ∀ (xs cs : List C) (o j : Nat), o + xs.length ≤ cs.length → (setAt cs o xs)[j]? = if o ≤ j ∧ j < o + xs.length then xs[j - o]? else cs[j]?
  | [], cs, o, j, _ => by simp [setAt]; omega
  | x :: xs, cs, o, j, h => by
    simp only [List.length_cons] at h
    rw [setAt, setAt_get xs (cs.set o x) (o + 1) j (by simp; omega)]
    by_cases h1 : o + 1 ≤ j ∧ j < o + 1 + xs.length
    · rw [if_pos h1, if_pos (by simp; omega), show j - o = (j - (o + 1)) + 1 by omega, List.getElem?_cons_succ]
    · rw [if_neg h1]
      by_cases h2 : j = o
      · subst h2
        rw [if_pos (by simp), List.getElem?_set_self (by omega)]
        simp
      · rw [if_neg (by simp; omega), List.getElem?_set_ne (by omega)]
/-- one block's cells are others, in a row of its own -/
theorem OutOK.write {φ : Phi} {H : HF} {w : World} {i : Nat} {p : Pl} {cs cs' : List C} {cur cur' : Array Value} {t : TypeId} {fr : Nat × Nat} (base : Nat) (h : HeapOK φ H w) (hb : H i = some (.cells cs true)) (hp : φ i = some p) (hg : w.heap[p.b]? = some (.cells cur t fr)) (hsz : cur'.size = cur.size) (hl : cs'.length = cs.length)
    (hc : ∀ j c, cs'[j]? = some c → ∃ v, cur'[p.o + j]? = some v ∧ VRc φ c v) : OutOK φ H w base [] [(i, .cells cs' true)] φ (w.setRow p.b cur') := by
  obtain ⟨cur0, t0, fr0, k1, k2, k3, k4, k5⟩ := h.blk i _ p hb hp
  rw [hg] at k1
  injection k1 with k1
  injection k1 with k1a k1b k1c
  subst k1a; subst k1b; subst k1c
  have hlook : ∀ j b, updH H base [] [(i, .cells cs' true)] j = some b → (j = i ∧ b = .cells cs' true) ∨ (j ≠ i ∧ H j = some b) := by
    intro j b hj
    unfold updH at hj
    rw [if_neg (by simp)] at hj
    simp only [updU] at hj
    split at hj
    · rename_i he; injection hj with hj; exact .inl ⟨he, hj.symm⟩
    · rename_i he; exact .inr ⟨he, hj⟩
  have hother : ∀ k, k ≠ p.b → (w.setRow p.b cur').heap[k]? = w.heap[k]? := fun k hk => setRow_other w p.b k cur' hk
  refine ⟨fun _ _ => rfl, ⟨fun j b q hj hq => ?_, fun j k b c q r hj hk ho hlv hjk hq hr => ?_, fun j q hq => ?_⟩, ⟨rfl, rfl, rfl, by simp, fun k _ hS => hother k fun hk => hS ⟨i, _, p, hb, rfl, hp, hk.symm⟩⟩, fun k ⟨j, b, q, hj, ho, hq, hk⟩ => ?_, fun k ⟨j, b, q, hj, ho, hq, hk⟩ => ?_⟩
  · rcases hlook j b hj with ⟨rfl, rfl⟩ | ⟨hne, hj⟩
    · rw [hp] at hq; injection hq with hq; subst hq
      exact ⟨cur', t, fr, setRow_heap w p.b cur cur' t fr hg, by omega, by omega, hc, k5⟩
    · have hb0 := h.blk j b q hj hq
      cases hlv : b.live with
      | false => cases b <;> simp [Blk.live] at hlv; trivial
      | true =>
        have hne2 : p.b ≠ q.b := h.sep i j _ b p q hb hj rfl hlv (Ne.symm hne) hp hq
        exact hb0.mono (hother q.b (Ne.symm hne2)) (Le.refl _)
  · rcases hlook j b hj with ⟨rfl, rfl⟩ | ⟨hj1, hj2⟩ <;> rcases hlook k c hk with ⟨rfl, rfl⟩ | ⟨hk1, hk2⟩
    · exact absurd rfl hjk
    · exact h.sep j k _ c q r hb hk2 rfl hlv hjk hq hr
    · exact h.sep j k b _ q r hj2 hb ho rfl hjk hq hr
    · exact h.sep j k b c q r hj2 hk2 ho hlv hjk hq hr
  · obtain ⟨b, hb'⟩ := h.dom j q hq
    by_cases hji : j = i
    · exact ⟨.cells cs' true, by unfold updH; rw [if_neg (by simp)]; simp [updU, hji]⟩
    · exact ⟨b, by unfold updH; rw [if_neg (by simp)]; simp [updU, hji, hb']⟩
  · rcases hlook j b hj with ⟨rfl, rfl⟩ | ⟨hne, hj⟩
    · exact .inl ⟨j, _, q, hb, rfl, hq, hk⟩
    · exact .inl ⟨j, b, q, hj, ho, hq, hk⟩
  · rcases hlook j b hj with ⟨rfl, rfl⟩ | ⟨hne, hj⟩
    · exact .inl ⟨j, _, q, hb, rfl, hq, hk⟩
    · exact .inl ⟨j, b, q, hj, ho, hq, hk⟩
theorem hop_store {P : Program} {F : Fns} {t : TypeId} {n : Nat} {x z : Operand} {y u : Opd} (h : okOpd x y = true) (hz : okOpd z u = true) (hs : szT P t = some n) : HopOK P F (.store t x z) (.store n y u) := by
  intro φ H e a w base r op hop he hh hev hf h0
  have hx := opd_ok he h
  have hz := opd_ok he hz
  simp only [HOp.ev] at hev
  split at hev
  · rename_i i o hm
    rw [hm] at hx
    obtain ⟨p, hp, hv⟩ := hx
    split at hev
    · rename_i cs hb
      split at hev
      · rename_i hc
        obtain ⟨hol, hn, hok, hnd⟩ := hc
        injection hev with hev
        subst hev
        obtain ⟨vs, hvs, ha⟩ := hz.cells hok
        obtain ⟨cur, t0, fr, k1, k2, k3, k4, k5⟩ := hh.blk i _ p hb hp
        have hlv := ha.length
        have hvl : vs.length = n := by omega
        have hcs : (a.eval z).cells.size = n := by rw [hvs]; simp [hvl]
        have hfit : p.o + o + 0 + vs.length ≤ cur.size := by omega
        have hrun := run_storeCells_gen P p.b (p.o + o) t0 fr vs 0 cur w k1 (fun j hj => by have := k5 rfl (o + j) (by omega); rwa [← Nat.add_assoc] at this) hfit (ha.one hnd)
        refine .inr (.inl ⟨w.setRow p.b (splice cur (p.o + o + 0) vs), ?_, φ, rfl, ?_⟩)
        · simp only [execOp, hop, Sem.run_bind, Instr.storeAt, hv, ptrV, Instr.sureAddr, Sem.run_pure, Result.andThen_ok, storeVar, run_size hs]
          rw [if_neg (by simp [hcs])]
          rw [hvs]
          simp only [hrun, Result.andThen_ok]
        · refine OutOK.write base hh hb hp k1 (splice_size hfit) (setAt_length _ _ _) fun j c hj => ?_
          rw [setAt_get _ _ _ _ (by omega)] at hj
          rw [splice_get hfit]
          by_cases hjo : o ≤ j ∧ j < o + (u.ev e).cells.length
          · rw [if_pos hjo] at hj
            obtain ⟨v, hv', hr⟩ := ha.get hj
            refine ⟨v, ?_, hr⟩
            rw [if_pos (by omega), ← hv']
            congr 1; omega
          · rw [if_neg hjo] at hj
            obtain ⟨v, hv', hr⟩ := k4 j c hj
            refine ⟨v, ?_, hr⟩
            rw [if_neg (by omega)]
            exact hv'
      · cases hev
    · cases hev
  · cases hev
end Go.Proofs.Ytenheijeahpbkaa.AM
