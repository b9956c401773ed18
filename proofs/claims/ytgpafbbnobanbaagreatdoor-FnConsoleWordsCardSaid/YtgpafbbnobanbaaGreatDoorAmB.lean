import Derived.Test.YtgpafbbnobanbaaGreatDoorAmA
import Derived.Lib.FrozenHead
import Derived.Lib.ConvBytes
import Derived.Laws.BytesString
import Derived.DeepKeys5
/-
  Operations that look at the heap: load, store, append, slices of arrays, strings and bytes; what an operation leaves.
-/
namespace Go.Proofs.YtgpafbbnobanbaaGreatDoor.AM
open Go

def updU : List (Nat × Blk) → HF → HF
  | [], H => H
  | p :: r, H => updU r fun i => if i = p.1 then some p.2 else H i
def updH (H : HF) (base : Nat) (ns : List Blk) (us : List (Nat × Blk)) : HF := fun i => if base ≤ i ∧ i < base + ns.length then ns[i - base]? else updU us H i
/-- what an operation leaves: the new places, the heap, what may have been written -/
structure OutOK (φ : Phi) (H : HF) (w : World) (base : Nat) (ns : List Blk) (us : List (Nat × Blk)) (φ' : Phi) (w' : World) : Prop where
  old : ∀ i, (i < base ∨ base + ns.length ≤ i) → φ' i = φ i
  mv : Mv φ H w φ' (updH H base ns us) w'
def Free (φ : Phi) (base k : Nat) : Prop := ∀ j, j < k → φ (base + j) = none
theorem le_of_old {φ φ' : Phi} {base k : Nat} (h : ∀ i, (i < base ∨ base + k ≤ i) → φ' i = φ i) (hf : Free φ base k) : Le φ φ' := by
  intro i p hp
  by_cases hi : i < base ∨ base + k ≤ i
  · rw [h i hi]; exact hp
  · have := hf (i - base) (by omega)
    rw [show base + (i - base) = i by omega, hp] at this
    cases this
theorem updH_nil (H : HF) (base : Nat) : updH H base [] [] = H := by
  funext i; unfold updH; rw [if_neg (by simp)]; rfl
theorem OutOK.same {φ : Phi} {H : HF} {w : World} (base : Nat) (h : HeapOK φ H w) : OutOK φ H w base [] [] φ w :=
  ⟨fun _ _ => rfl, by rw [updH_nil]; exact Mv.refl h⟩
theorem BlkOK.mono {φ φ' : Phi} {w w' : World} {p : Pl} {b : Blk} (h : BlkOK φ w p b) (hh : w'.heap[p.b]? = w.heap[p.b]?) (hl : Le φ φ') : BlkOK φ' w' p b := by
  have := h.mp (φ' := φ') (w' := w') (g := fun i => i) hh fun i _ p hp => hl i p hp
  cases b with
  | dead => trivial
  | cells cs own => simpa [Blk.mp, cmp_id] using this
  | map es =>
    obtain ⟨en, cl, h1, h2⟩ := h
    exact ⟨en, cl, hh.trans h1, h2.imp fun e _ m hr => ⟨hr.1, hr.2.mono hl⟩⟩
/-- new blocks alone -/
theorem New.out {φ φ' : Phi} {H : HF} {w w' : World} {base : Nat} {ns : List Blk} (h : HeapOK φ H w) (hn : New φ w base ns φ' w') (hf : Free φ base ns.length) : OutOK φ H w base ns [] φ' w' := by
  have hle := hn.le hf
  have hlook : ∀ i b, updH H base ns [] i = some b → (base ≤ i ∧ i < base + ns.length ∧ ns[i - base]? = some b) ∨ ((i < base ∨ base + ns.length ≤ i) ∧ H i = some b) := by
    intro i b hb
    unfold updH at hb
    split at hb
    · rename_i hi; exact .inl ⟨hi.1, hi.2, hb⟩
    · rename_i hi; exact .inr ⟨by omega, hb⟩
  have hold : ∀ i p b, (i < base ∨ base + ns.length ≤ i) → H i = some b → φ' i = some p → φ i = some p := fun i p b hi _ hp => by rw [← hn.old i hi]; exact hp
  have hkeep : ∀ k, k < w.heap.size → w'.heap[k]? = w.heap[k]? := fun k hk => hn.fr.block k hk fun h => h
  have hnew : ∀ i b p, base ≤ i → i < base + ns.length → ns[i - base]? = some b → φ' i = some p → BlkOK φ' w' p b ∧ w.heap.size ≤ p.b := by
    intro i b p h1 h2 hb hp
    exact hn.blk (i - base) b p hb (by rw [show base + (i - base) = i by omega]; exact hp)
  refine ⟨hn.old, Mv.mk' h ⟨fun i b p hb hp => ?_, fun i j b c p q hb hc ho hl hij hp hq => ?_, fun i p hp => ?_⟩ (hn.fr.mono fun _ h => h.elim) (fun k ⟨i, b, p, hb, ho, hp, hk⟩ => ?_) (fun k ⟨i, b, p, hb, ho, hp, hk⟩ => ?_)⟩
  · rcases hlook i b hb with ⟨h1, h2, h3⟩ | ⟨h1, h2⟩
    · exact (hnew i b p h1 h2 h3 hp).1
    · have hb0 := h.blk i b p h2 (hold i p b h1 h2 hp)
      cases hlv : b.live with
      | false => cases b <;> simp [Blk.live] at hlv; trivial
      | true => exact hb0.mono (hkeep p.b (hb0.lt hlv)) hle
  · rcases hlook i b hb with ⟨h1, h2, h3⟩ | ⟨h1, h2⟩ <;> rcases hlook j c hc with ⟨k1, k2, k3⟩ | ⟨k1, k2⟩
    · exact hn.sep (i - base) (j - base) p q (by omega) (by omega) (by omega) (by rw [show base + (i - base) = i by omega]; exact hp) (by rw [show base + (j - base) = j by omega]; exact hq)
    · have hp1 := (hnew i b p h1 h2 h3 hp).2
      have hq1 := (h.blk j c q k2 (hold j q c k1 k2 hq)).lt hl
      omega
    · have hq1 := (hnew j c q k1 k2 k3 hq).2
      have hp1 := (h.blk i b p h2 (hold i p b h1 h2 hp)).lt (Blk.live_of_own ho)
      omega
    · exact h.sep i j b c p q h2 k2 ho hl hij (hold i p b h1 h2 hp) (hold j q c k1 k2 hq)
  · by_cases hi : base ≤ i ∧ i < base + ns.length
    · refine ⟨ns[i - base]'(by omega), ?_⟩
      unfold updH
      rw [if_pos hi, List.getElem?_eq_getElem]
    · obtain ⟨b, hb⟩ := h.dom i p (by rw [← hn.old i (by omega)]; exact hp)
      exact ⟨b, by unfold updH; rw [if_neg hi]; exact hb⟩
  · rcases hlook i b hb with ⟨h1, h2, h3⟩ | ⟨h1, h2⟩
    · right; rw [← hk]; exact (hnew i b p h1 h2 h3 hp).2
    · left; exact ⟨i, b, p, h2, ho, hold i p b h1 h2 hp, hk⟩
  · rcases hlook i b hb with ⟨h1, h2, h3⟩ | ⟨h1, h2⟩
    · right; rw [← hk]; exact (hnew i b p h1 h2 h3 hp).2
    · left; exact ⟨i, b, p, h2, ho, hold i p b h1 h2 hp, hk⟩
/-- what an operation of the model does: it yields a value, nothing, or enters a function that returns -/
def Does (P : Program) (op : Oper) (a : Act) (w : World) (R : Value → World → Prop) : Prop :=
  (∃ rv w', (execOp a.eval op).run P w = .ok (.value rv) w' ∧ R rv w') ∨ (∃ w', (execOp a.eval op).run P w = .ok .skip w' ∧ R Go.undef w') ∨
    (∃ f args, (execOp a.eval op).run P w = .ok (.enter f args) w ∧ Calls P f args w fun e w' => ∃ rv, e = .returned rv ∧ R rv w')
theorem Does.wp {P : Program} {op : Oper} {a : Act} {w : World} {R : Value → World → Prop} (h : Does P op a w R) {next : Act → World → Prop} {Q : Exit → Act → World → Prop} (hn : ∀ rv w', R rv w' → next (a.put op.dst rv) w') : op.wp P a w next Q := by
  unfold Oper.wp
  rcases h with ⟨rv, w', hr, h⟩ | ⟨w', hr, h⟩ | ⟨f, args, hr, h⟩
  · rw [hr]; exact hn rv w' h
  · rw [hr]; exact hn _ w' h
  · rw [hr]
    refine Calls.mono h fun e w' ⟨rv, he, h⟩ => ?_
    subst he
    exact hn rv w' h
theorem Does.mono {P : Program} {op : Oper} {a : Act} {w : World} {R R' : Value → World → Prop} (h : Does P op a w R) (hr : ∀ rv w', R rv w' → R' rv w') : Does P op a w R' := by
  rcases h with ⟨rv, w', h1, h⟩ | ⟨w', h1, h⟩ | ⟨f, args, h1, h⟩
  · exact .inl ⟨rv, w', h1, hr _ _ h⟩
  · exact .inr (.inl ⟨w', h1, hr _ _ h⟩)
  · exact .inr (.inr ⟨f, args, h1, h.mono fun e w' ⟨rv, he, h⟩ => ⟨rv, he, hr _ _ h⟩⟩)
def ROut (φ : Phi) (H : HF) (w : World) (base : Nat) (r : Out) (rv : Value) (w' : World) : Prop := ∃ φ', VR φ' r.1 rv ∧ OutOK φ H w base r.2.1 r.2.2 φ' w'
def HopOK (P : Program) (F : Fns) (o : Op) (q : HOp) : Prop :=
  ∀ (φ : Phi) (H : HF) (e : Env) (a : Act) (w : World) (base : Nat) (r : Out) (op : Oper), op.op = o → EnvOK φ e a → HeapOK φ H w → q.ev F e H base = some r → Free φ base r.2.1.length → (r.2.1 ≠ [] → H base = none) → Does P op a w (ROut φ H w base r)

/-- cells that are read -/
theorem read_ok {φ : Phi} {H : HF} {w : World} (h : HeapOK φ H w) {i o n : Nat} {cs : List C} {p : Pl} (hr : readB H i o n = some cs) (hp : φ i = some p) :
    ∃ vs : List Value, All2 (VRc φ) cs vs ∧ vs.length = n ∧ o + n ≤ p.tot ∧ ∀ j v, vs[j]? = some v → w.cell? ⟨p.b, p.o + o + j, none⟩ = some v := by
  unfold readB at hr
  split at hr
  · rename_i bs own hb
    split at hr
    · rename_i hl
      injection hr with hr
      obtain ⟨cur, e, fr, h1, h2, h3, h4, _⟩ := h.blk i _ p hb hp
      have hlen : cs.length = n := by rw [← hr]; simp; omega
      refine ⟨(cur.toList.drop (p.o + o)).take n, All2.of_get (by simp [hlen]; omega) fun j c hc => ?_, by simp; omega, by omega, fun j v hv => ?_⟩
      · have hjn : j < n := by have := (List.getElem?_eq_some_iff.1 hc).1; omega
        rw [← hr, List.getElem?_take, if_pos hjn, List.getElem?_drop] at hc
        obtain ⟨v, hv, hrv⟩ := h4 (o + j) c hc
        refine ⟨v, ?_, hrv⟩
        rw [List.getElem?_take, if_pos hjn, List.getElem?_drop]
        simpa [Nat.add_assoc] using hv
      · have hjn : j < n := by have := (List.getElem?_eq_some_iff.1 hv).1; simp at this; omega
        rw [List.getElem?_take, if_pos hjn, List.getElem?_drop] at hv
        simp only [World.cell?, h1]
        simpa using hv
    · cases hr
  · cases hr
theorem hop_load {P : Program} {F : Fns} {t : TypeId} {n : Nat} {agg : Bool} {x : Operand} {y : Opd} (h : okOpd x y = true) (hs : szT P t = some n) (hb : aggT P t = some agg) (h1 : agg = true ∨ n = 1) : HopOK P F (.load t x) (.load n agg y) := by
  intro φ H e a w base r op hop he hh hev hf h0
  have hx := opd_ok he h
  simp only [HOp.ev] at hev
  split at hev
  · rename_i i o hm
    rw [hm] at hx
    obtain ⟨p, hp, hv⟩ := hx
    simp only [Option.map_eq_some_iff] at hev
    obtain ⟨cs, hc, rfl⟩ := hev
    obtain ⟨vs, ha, hl, _, hcell⟩ := read_ok hh hc hp
    refine .inl ⟨if agg then .agg vs.toArray else vs.headD Go.undef, w, ?_, φ, ?_, OutOK.same base hh⟩
    · cases agg with
      | true =>
        have hlc := run_loadCells_list (P := P) w ⟨p.b, p.o + o, none⟩ vs fun j v hj => by rw [add_lit]; exact hcell j v hj
        rw [hl] at hlc
        simp [execOp, hop, hv, ptrV, Instr.loadAt, Instr.sureAddr, loadVar, run_aggT hb, run_size hs, hlc]
      | false =>
        have hn : n = 1 := by simpa using h1
        subst hn
        obtain ⟨v, rfl⟩ := List.length_eq_one_iff.1 hl
        have hc0 := hcell 0 v (by simp)
        simp only [Nat.add_zero] at hc0
        simp [execOp, hop, hv, ptrV, Instr.loadAt, Instr.sureAddr, loadVar, run_aggT hb, hc0]
    · exact mkV_ok ha (by rcases h1 with h1 | h1; exact .inl h1; right; rw [ha.length, hl, h1])
  · cases hev
theorem hop_slA {P : Program} {F : Fns} {t el : TypeId} {n sz : Nat} {x : Operand} {y : Opd} {lo hi : Option Operand} {lo' hi' : Option Opd} (h : okOpd x y = true) (hlo : okBnd lo lo' = true) (hhi : okBnd hi hi' = true) (ht : P.underlying t = some (.array n el)) (hs : szT P el = some sz) (hn : n ≤ maxLen) :
    HopOK P F (.slice t x lo hi none) (.slA n sz y lo' hi') := by
  intro φ H e a w base r op hop he hh hev hf h0
  have hx := opd_ok he h
  simp only [HOp.ev] at hev
  split at hev
  · rename_i i o hm
    rw [hm] at hx
    obtain ⟨p, hp, hv⟩ := hx
    split at hev
    · rename_i cs hc
      obtain ⟨h', h1, hev⟩ := Option.bind_eq_some_iff.1 hev
      obtain ⟨l, h2, rfl⟩ := Option.map_eq_some_iff.1 hev
      obtain ⟨vs, ha, hl, htot, hcell⟩ := read_ok hh hc hp
      obtain ⟨hrun, hle, hhn⟩ := run_bounds (P := P) (w := w) he hlo hhi (Nat.le_refl _) false h1 h2
      by_cases hnl : n = l
      · have hh' : h' = n := by omega
        subst hnl; subst hh'
        refine .inl ⟨.slice (some ⟨p.b, p.o + o, none⟩) 0 0, w, ?_, φ, .inl ⟨by omega, _, rfl⟩, OutOK.same base hh⟩
        simp [execOp, hop, hv, ptrV, Instr.sliceAt, run_underlying ht, Instr.sureAddr, hrun, run_size hs]
      · refine .inl ⟨.slice (some ⟨p.b, p.o + (o + l * sz), none⟩) (h' - l) (n - l), w, ?_, φ, .inr ⟨p, n - l, hp, rfl, by omega, by omega, ?_⟩, OutOK.same base hh⟩
        · simp [execOp, hop, hv, ptrV, Instr.sliceAt, run_underlying ht, Instr.sureAddr, hrun, run_size hs, hnl, add_lit, Nat.add_assoc]
        · have e1 : l * sz + (n - l) * sz = n * sz := by rw [← Nat.add_mul]; congr 1; omega
          omega
    · cases hev
  · cases hev

/-- cells written over others -/
def splice (cur : Array Value) (o : Nat) (vs : List Value) : Array Value := (cur.toList.take o ++ vs ++ cur.toList.drop (o + vs.length)).toArray
theorem splice_size {cur : Array Value} {o : Nat} {vs : List Value} (h : o + vs.length ≤ cur.size) : (splice cur o vs).size = cur.size := by
  simp [splice]; omega
theorem splice_get {cur : Array Value} {o : Nat} {vs : List Value} (h : o + vs.length ≤ cur.size) (j : Nat) : (splice cur o vs)[j]? = if o ≤ j ∧ j < o + vs.length then vs[j - o]? else cur[j]? := by
  have e0 : (splice cur o vs)[j]? = (cur.toList.take o ++ vs ++ cur.toList.drop (o + vs.length))[j]? := by simp [splice]
  have e1 : cur[j]? = cur.toList[j]? := by simp
  rw [e0, e1, List.append_assoc]
  have hlt : (cur.toList.take o).length = o := by simp; omega
  by_cases h1 : j < o
  · rw [List.getElem?_append_left (by omega), List.getElem?_take, if_pos h1, if_neg (by omega)]
  · rw [List.getElem?_append_right (by omega), hlt]
    by_cases h2 : j < o + vs.length
    · rw [List.getElem?_append_left (by omega), if_pos (by omega)]
    · rw [List.getElem?_append_right (by omega), if_neg (by omega), List.getElem?_drop]
      congr 1; omega
theorem run_storeCells_gen (P : Program) (g o : Nat) (t : TypeId) (fz : Nat × Nat) : ∀ (vs : List Value) (i : Nat) (cur : Array Value) (w : World), w.heap[g]? = some (.cells cur t fz) → (∀ j, j < vs.length → ¬ (fz.1 ≤ o + i + j ∧ o + i + j < fz.2)) → o + i + vs.length ≤ cur.size → (∀ v ∈ vs, v.oneCell' = true) →
    (storeCells ⟨g, o, none⟩ vs i).run P w = .ok () (w.setRow g (splice cur (o + i) vs))
  | [], i, cur, w, hg, _, _, _ => by
    simp only [storeCells, splice, List.append_nil, List.length_nil, Nat.add_zero, List.take_append_drop, Array.toArray_toList]
    rw [setRow_self w g cur t fz hg]
    rfl
  | v :: rest, i, cur, w, hg, hfz, hl, h1 => by
    have hi : o + i < cur.size := by simp at hl; omega
    have hadd : (⟨g, o, none⟩ : Addr).add i = ⟨g, o + i, none⟩ := add_lit _ _ _
    have hcell : w.cell? ⟨g, o + i, none⟩ = some cur[o + i] := by simp [World.cell?, hg, hi]
    have hfro : w.frozen? ⟨g, o + i, none⟩ = false := by
      obtain ⟨lo, hi'⟩ := fz
      have := hfz 0 (by simp)
      simp only [World.frozen?, hg, Bool.and_eq_false_iff, decide_eq_false_iff_not]
      simp only [Nat.add_zero] at this
      omega
    have hst : (store ((⟨g, o, none⟩ : Addr).add i) v).run P w = .ok () (w.setRow g (cur.setIfInBounds (o + i) v)) := by
      rw [hadd, run_store P w _ v _ (h1 v (by simp)), hcell]
      simp [hfro, setCell_eq_setRow w g (o + i) cur t fz v hg]
    have ih := run_storeCells_gen P g o t fz rest (i + 1) (cur.setIfInBounds (o + i) v) (w.setRow g (cur.setIfInBounds (o + i) v)) (setRow_heap w g cur _ t _ hg) (fun j hj => by have := hfz (j + 1) (by simp; omega); omega) (by simp at hl ⊢; omega) (fun x hx => h1 x (by simp [hx]))
    simp only [storeCells, Sem.run_bind, hst, Result.andThen_ok, ih, setRow_setRow]
    congr 2
    have e := list_seg_step cur.toList (o + i) v rest (by simp at hl ⊢; omega)
    unfold splice
    congr 1
    simpa [Array.toList_setIfInBounds, Nat.add_assoc] using e
theorem setAt_get : ∀ (xs cs : List C) (o j : Nat), o + xs.length ≤ cs.length → (setAt cs o xs)[j]? = if o ≤ j ∧ j < o + xs.length then xs[j - o]? else cs[j]?
  | [], cs, o, j, _ => by simp [setAt]; omega
  | x :: xs, cs, o, j, h => by
    simp only [List.length_cons] at h
    rw [setAt, setAt_get xs (cs.set o x) (o + 1) j (by simp; omega)]
    by_cases h1 : o + 1 ≤ j ∧ j < o + 1 + xs.length
    · rw [if_pos h1, if_pos (by simp; omega), show j - o = (j - (o + 1)) + 1 by omega, List.getElem?_cons_succ]
    · rw [if_neg h1]
      by_cases h2 : j = o
      · subst h2
        rw [if_pos (by simp), List.getElem?_set_self (by omega)]
        simp
      · rw [if_neg (by simp; omega), List.getElem?_set_ne (by omega)]
/-- one block's cells are others, in a row of its own -/
theorem OutOK.write {φ : Phi} {H : HF} {w : World} {i : Nat} {p : Pl} {cs cs' : List C} {cur cur' : Array Value} {t : TypeId} {fr : Nat × Nat} (base : Nat) (h : HeapOK φ H w) (hb : H i = some (.cells cs true)) (hp : φ i = some p) (hg : w.heap[p.b]? = some (.cells cur t fr)) (hsz : cur'.size = cur.size) (hl : cs'.length = cs.length)
    (hc : ∀ j c, cs'[j]? = some c → ∃ v, cur'[p.o + j]? = some v ∧ VRc φ c v) : OutOK φ H w base [] [(i, .cells cs' true)] φ (w.setRow p.b cur') := by
  obtain ⟨cur0, t0, fr0, k1, k2, k3, k4, k5⟩ := h.blk i _ p hb hp
  rw [hg] at k1
  injection k1 with k1
  injection k1 with k1a k1b k1c
  subst k1a; subst k1b; subst k1c
  have hlook : ∀ j b, updH H base [] [(i, .cells cs' true)] j = some b → (j = i ∧ b = .cells cs' true) ∨ (j ≠ i ∧ H j = some b) := by
    intro j b hj
    unfold updH at hj
    rw [if_neg (by simp)] at hj
    simp only [updU] at hj
    split at hj
    · rename_i he; injection hj with hj; exact .inl ⟨he, hj.symm⟩
    · rename_i he; exact .inr ⟨he, hj⟩
  have hother : ∀ k, k ≠ p.b → (w.setRow p.b cur').heap[k]? = w.heap[k]? := fun k hk => setRow_other w p.b k cur' hk
  refine ⟨fun _ _ => rfl, Mv.mk' h ⟨fun j b q hj hq => ?_, fun j k b c q r hj hk ho hlv hjk hq hr => ?_, fun j q hq => ?_⟩ ⟨rfl, rfl, rfl, by simp, fun k _ hS => hother k fun hk => hS ⟨i, _, p, hb, rfl, hp, hk.symm⟩⟩ (fun k ⟨j, b, q, hj, ho, hq, hk⟩ => ?_) (fun k ⟨j, b, q, hj, ho, hq, hk⟩ => ?_)⟩
  · rcases hlook j b hj with ⟨rfl, rfl⟩ | ⟨hne, hj⟩
    · rw [hp] at hq; injection hq with hq; subst hq
      exact ⟨cur', t, fr, setRow_heap w p.b cur cur' t fr hg, by omega, by omega, hc, k5⟩
    · have hb0 := h.blk j b q hj hq
      cases hlv : b.live with
      | false => cases b <;> simp [Blk.live] at hlv; trivial
      | true =>
        have hne2 : p.b ≠ q.b := h.sep i j _ b p q hb hj rfl hlv (Ne.symm hne) hp hq
        exact hb0.mono (hother q.b (Ne.symm hne2)) (Le.refl _)
  · rcases hlook j b hj with ⟨rfl, rfl⟩ | ⟨hj1, hj2⟩ <;> rcases hlook k c hk with ⟨rfl, rfl⟩ | ⟨hk1, hk2⟩
    · exact absurd rfl hjk
    · exact h.sep j k _ c q r hb hk2 rfl hlv hjk hq hr
    · exact h.sep j k b _ q r hj2 hb ho rfl hjk hq hr
    · exact h.sep j k b c q r hj2 hk2 ho hlv hjk hq hr
  · obtain ⟨b, hb'⟩ := h.dom j q hq
    by_cases hji : j = i
    · exact ⟨.cells cs' true, by unfold updH; rw [if_neg (by simp)]; simp [updU, hji]⟩
    · exact ⟨b, by unfold updH; rw [if_neg (by simp)]; simp [updU, hji, hb']⟩
  · rcases hlook j b hj with ⟨rfl, rfl⟩ | ⟨hne, hj⟩
    · exact .inl ⟨j, _, q, hb, rfl, hq, hk⟩
    · exact .inl ⟨j, b, q, hj, ho, hq, hk⟩
  · rcases hlook j b hj with ⟨rfl, rfl⟩ | ⟨hne, hj⟩
    · exact .inl ⟨j, _, q, hb, rfl, hq, hk⟩
    · exact .inl ⟨j, b, q, hj, ho, hq, hk⟩
theorem hop_store {P : Program} {F : Fns} {t : TypeId} {n : Nat} {x z : Operand} {y u : Opd} (h : okOpd x y = true) (hz : okOpd z u = true) (hs : szT P t = some n) : HopOK P F (.store t x z) (.store n y u) := by
  intro φ H e a w base r op hop he hh hev hf h0
  have hx := opd_ok he h
  have hz := opd_ok he hz
  simp only [HOp.ev] at hev
  split at hev
  · rename_i i o hm
    rw [hm] at hx
    obtain ⟨p, hp, hv⟩ := hx
    split at hev
    · rename_i cs hb
      split at hev
      · rename_i hc
        obtain ⟨hol, hn, hok, hnd⟩ := hc
        injection hev with hev
        subst hev
        obtain ⟨vs, hvs, ha⟩ := hz.cells hok
        obtain ⟨cur, t0, fr, k1, k2, k3, k4, k5⟩ := hh.blk i _ p hb hp
        have hlv := ha.length
        have hvl : vs.length = n := by omega
        have hcs : (a.eval z).cells.size = n := by rw [hvs]; simp [hvl]
        have hfit : p.o + o + 0 + vs.length ≤ cur.size := by omega
        have hrun := run_storeCells_gen P p.b (p.o + o) t0 fr vs 0 cur w k1 (fun j hj => by have := k5 rfl (o + j) (by omega); rwa [← Nat.add_assoc] at this) hfit (ha.one hnd)
        refine .inr (.inl ⟨w.setRow p.b (splice cur (p.o + o + 0) vs), ?_, φ, rfl, ?_⟩)
        · simp only [execOp, hop, Sem.run_bind, Instr.storeAt, hv, ptrV, Instr.sureAddr, Sem.run_pure, Result.andThen_ok, storeVar, run_size hs]
          rw [if_neg (by simp [hcs])]
          rw [hvs]
          simp only [hrun, Result.andThen_ok]
        · refine OutOK.write base hh hb hp k1 (splice_size hfit) (setAt_length _ _ _) fun j c hj => ?_
          rw [setAt_get _ _ _ _ (by omega)] at hj
          rw [splice_get hfit]
          by_cases hjo : o ≤ j ∧ j < o + (u.ev e).cells.length
          · rw [if_pos hjo] at hj
            obtain ⟨v, hv', hr⟩ := ha.get hj
            refine ⟨v, ?_, hr⟩
            rw [if_pos (by omega), ← hv']
            congr 1; omega
          · rw [if_neg hjo] at hj
            obtain ⟨v, hv', hr⟩ := k4 j c hj
            refine ⟨v, ?_, hr⟩
            rw [if_neg (by omega)]
            exact hv'
      · cases hev
    · cases hev
  · cases hev
/-- nothing is changed -/
theorem OutOK.same_upd {φ : Phi} {H : HF} {w : World} (base : Nat) (h : HeapOK φ H w) {i : Nat} {b : Blk} (hb : H i = some b) : OutOK φ H w base [] [(i, b)] φ w := by
  have : updH H base [] [(i, b)] = H := by
    funext j
    unfold updH
    rw [if_neg (by simp)]
    simp only [updU]
    split
    · rename_i e; rw [e, hb]
    · rfl
  exact ⟨fun _ _ => rfl, by rw [this]; exact Mv.refl h⟩
/-- clear of a slice -/
theorem hop_clr {P : Program} {F : Fns} {t el : TypeId} {sz : Nat} {v0 : Value} {z : List Z} {x : Operand} {y : Opd} (h : okOpd x y = true) (ht : P.underlying t = some (.slice el)) (hz : ((P.info? el).bind (·.zero)) = some v0) (hzs : okZs v0.cells.toList z = true) (hsz : v0.cells.size = sz) :
    HopOK P F (.call { callee := .builtin .clear, args := #[x], argTypes := #[t] }) (.clr sz z y) := by
  intro φ H e a w base r op hop he hh hev hf h0
  have hx := opd_ok he h
  obtain ⟨inf, hinf, hz⟩ := Option.bind_eq_some_iff.1 hz
  have hrunop : ∀ rv w', (Builtin.clear_ #[t] op.type #[a.eval x]).run P w = .ok rv w' → (execOp a.eval op).run P w = .ok (.value rv) w' := by
    intro rv w' h
    simp [execOp, hop, resolve, invoke, builtin, h]
  simp only [HOp.ev] at hev
  split at hev
  · rename_i i o ln sz' hm
    rw [hm] at hx
    split at hev
    · rename_i cs hb
      split at hev
      · rename_i hc
        obtain ⟨hss, hle, hnd⟩ := hc
        subst hss
        injection hev with hev
        subst hev
        have hzl : All2 (VRc φ) (inst (rep ln z) 0).1 (List.replicate ln v0.cells.toList).flatten := rep_ok hzs ln 0
        have hnone : ln = 0 → ∀ ad cap, a.eval x = .slice ad 0 cap → Does P op a w (ROut φ H w base (V.c .undef, [], [(i, Blk.cells (setAt cs o (inst (rep ln z) 0).1) true)])) := by
          intro hl ad cap hv
          subst hl
          refine .inl ⟨.tuple #[], w, hrunop _ _ ?_, φ, rfl, OutOK.same_upd base hh hb⟩
          rw [hv]
          cases ad <;> simp [Builtin.clear_, run_underlying ht]
        rcases hx with ⟨hl, ad, hv⟩ | ⟨p, cap, hp, hv, hcap, hcm, htot⟩
        · exact hnone hl ad 0 hv
        · by_cases hl0 : ln = 0
          · exact hnone hl0 (some ⟨p.b, p.o + o, none⟩) cap (by rw [hv, hl0])
          · obtain ⟨cur, t0, fr, k1, k2, k3, k4, k5⟩ := hh.blk i _ p hb hp
            obtain ⟨vs, hvs⟩ : ∃ vs, vs = (List.replicate ln v0.cells.toList).flatten := ⟨_, rfl⟩
            rw [← hvs] at hzl
            have hlen : vs.length = ln * sz := by rw [hvs]; simp [hsz]
            have hil : (inst (rep ln z) 0).1.length = ln * sz := by rw [hzl.length, hlen]
            have hfit : p.o + o + 0 + vs.length ≤ cur.size := by omega
            have hrun := run_storeCells_gen P p.b (p.o + o) t0 fr vs 0 cur w k1 (fun j hj => by have := k5 rfl (o + j) (by omega); rwa [← Nat.add_assoc] at this) hfit (hzl.one hnd)
            have hzc : (Builtin.zeroCells v0.cells ln).toList = vs := by
              rw [hvs]
              unfold Builtin.zeroCells
              have := zeros_list v0.cells ln sz hsz
              rw [hsz] at this ⊢
              exact this
            refine .inl ⟨.tuple #[], w.setRow p.b (splice cur (p.o + o + 0) vs), hrunop _ _ ?_, φ, rfl, ?_⟩
            · rw [hv]
              cases ln with
              | zero => exact absurd rfl hl0
              | succ k => simp [Builtin.clear_, run_underlying ht, zeroValue, typeInfo, hinf, hz, hzc, hrun]
            · refine OutOK.write base hh hb hp k1 (splice_size hfit) (setAt_length _ _ _) fun j c hj => ?_
              rw [setAt_get _ _ _ _ (by omega)] at hj
              rw [splice_get hfit]
              by_cases hjo : o ≤ j ∧ j < o + (inst (rep ln z) 0).1.length
              · rw [if_pos hjo] at hj
                obtain ⟨v, hv', hr⟩ := hzl.get hj
                refine ⟨v, ?_, hr⟩
                rw [if_pos (by omega), ← hv']
                congr 1; omega
              · rw [if_neg hjo] at hj
                obtain ⟨v, hv', hr⟩ := k4 j c hj
                refine ⟨v, ?_, hr⟩
                rw [if_neg (by omega)]
                exact hv'
      · cases hev
    · cases hev
  · rename_i hm
    rw [hm] at hx
    obtain ⟨ad, hv⟩ := hx
    injection hev with hev
    subst hev
    refine .inl ⟨.tuple #[], w, hrunop _ _ ?_, φ, rfl, OutOK.same base hh⟩
    rw [hv]
    cases ad <;> simp [Builtin.clear_, run_underlying ht]
  · cases hev
end Go.Proofs.YtgpafbbnobanbaaGreatDoor.AM

/-
  append, []byte(s), string(b).
-/
namespace Go.Proofs.YtgpafbbnobanbaaGreatDoor.AM
open Go

def kill (i : Nat) (H : HF) : HF := fun j => if j = i then some .dead else H j
theorem HeapOK.kill {φ : Phi} {H : HF} {w : World} (h : HeapOK φ H w) (i : Nat) : HeapOK φ (kill i H) w := by
  have hlook : ∀ j b, AM.kill i H j = some b → (j = i ∧ b = .dead) ∨ (j ≠ i ∧ H j = some b) := by
    intro j b hj
    unfold AM.kill at hj
    split at hj
    · rename_i he; injection hj with hj; exact .inl ⟨he, hj.symm⟩
    · rename_i he; exact .inr ⟨he, hj⟩
  refine ⟨⟨fun j b p hj hp => ?_, fun j k b c p q hj hk ho hl hjk hp hq => ?_, fun j p hp => ?_⟩, h.tab.1, fun g cs hg ⟨j, b, p, hb, ho, hp, hk⟩ => h.tab.2 g cs hg (by
    rcases hlook j b hb with ⟨_, rfl⟩ | ⟨_, hj⟩
    · simp [Blk.own] at ho
    · exact ⟨j, b, p, hj, ho, hp, hk⟩)⟩
  · rcases hlook j b hj with ⟨_, rfl⟩ | ⟨_, hj⟩
    · trivial
    · exact h.blk j b p hj hp
  · rcases hlook j b hj with ⟨_, rfl⟩ | ⟨_, hj⟩
    · simp [Blk.own] at ho
    · rcases hlook k c hk with ⟨_, rfl⟩ | ⟨_, hk⟩
      · simp [Blk.live] at hl
      · exact h.sep j k b c p q hj hk ho hl hjk hp hq
  · obtain ⟨b, hb⟩ := h.dom j p hp
    by_cases hji : j = i
    · exact ⟨.dead, by simp [AM.kill, hji]⟩
    · exact ⟨b, by simp [AM.kill, hji, hb]⟩
theorem OutOK.kill {φ φ' : Phi} {H : HF} {w w' : World} {base : Nat} {ns : List Blk} (h : OutOK φ H w base ns [] φ' w') {i : Nat} (hi : i < base ∨ base + ns.length ≤ i) : OutOK φ H w base ns [(i, .dead)] φ' w' := by
  have he : updH H base ns [(i, .dead)] = AM.kill i (updH H base ns []) := by
    funext j
    simp only [updH, AM.kill, updU]
    by_cases hj : base ≤ j ∧ j < base + ns.length
    · rw [if_pos hj, if_neg (by omega), if_pos hj]
    · rw [if_neg hj, if_neg hj]
  refine ⟨h.old, by rw [he]; exact h.mv.ok.kill i, h.mv.fr, fun k ⟨j, b, p, hb, ho, hp, hk⟩ => h.mv.own k ?_, fun k ⟨j, b, p, hb, ho, hp, hk⟩ => h.mv.lv k ?_⟩
  · rw [he] at hb
    unfold AM.kill at hb
    split at hb
    · injection hb with hb; subst hb; simp [Blk.own] at ho
    · exact ⟨j, b, p, hb, ho, hp, hk⟩
  · rw [he] at hb
    unfold AM.kill at hb
    split at hb
    · injection hb with hb; subst hb; simp [Blk.live] at ho
    · exact ⟨j, b, p, hb, ho, hp, hk⟩
/-- append in place: the new row takes the old one's place -/
theorem OutOK.inplace {φ : Phi} {H : HF} {w : World} {i base o : Nat} {p : Pl} {cs : List C} {cs' : List C} {cur cur' : Array Value} {t : TypeId} {fr : Nat × Nat} (h : HeapOK φ H w) (hb : H i = some (.cells cs true)) (hp : φ i = some p) (hg : w.heap[p.b]? = some (.cells cur t fr)) (hsz : cur'.size = cur.size)
    (hf : φ base = none) (h0 : H base = none) (hl : o + cs'.length ≤ p.tot) (hc : ∀ j c, cs'[j]? = some c → ∃ v, cur'[p.o + o + j]? = some v ∧ VRc φ c v) :
    OutOK φ H w base [.cells cs' true] [(i, .dead)] (fun j => if j = base then some ⟨p.b, p.o + o, p.tot - o⟩ else φ j) (w.setRow p.b cur') := by
  obtain ⟨cur0, t0, fr0, k1, k2, k3, k4, k5⟩ := h.blk i _ p hb hp
  rw [hg] at k1
  injection k1 with k1
  injection k1 with k1a k1b k1c
  subst k1a; subst k1b; subst k1c
  have hib : i ≠ base := fun e => by subst e; rw [hb] at h0; cases h0
  obtain ⟨φ', hφ'⟩ : ∃ φ' : Phi, φ' = fun j => if j = base then some ⟨p.b, p.o + o, p.tot - o⟩ else φ j := ⟨_, rfl⟩
  have hle : Le φ φ' := by
    intro j q hq
    rw [hφ']
    by_cases hj : j = base
    · subst hj; rw [hf] at hq; cases hq
    · simp [hj, hq]
  have hφo : ∀ j, j ≠ base → φ' j = φ j := fun j hj => by rw [hφ']; simp [hj]
  have hφb : φ' base = some ⟨p.b, p.o + o, p.tot - o⟩ := by rw [hφ']; simp
  rw [← hφ']
  have hlook : ∀ j b, updH H base [.cells cs' true] [(i, .dead)] j = some b → (j = base ∧ b = .cells cs' true) ∨ (j = i ∧ b = .dead) ∨ (j ≠ i ∧ j ≠ base ∧ H j = some b) := by
    intro j b hj
    unfold updH at hj
    by_cases hjb : j = base
    · subst hjb
      rw [if_pos (by simp)] at hj
      simp at hj
      exact .inl ⟨rfl, hj.symm⟩
    · rw [if_neg (by simp; omega)] at hj
      simp only [updU] at hj
      split at hj
      · rename_i he; injection hj with hj; exact .inr (.inl ⟨he, hj.symm⟩)
      · rename_i he; exact .inr (.inr ⟨he, hjb, hj⟩)
  have hother : ∀ k, k ≠ p.b → (w.setRow p.b cur').heap[k]? = w.heap[k]? := fun k hk => setRow_other w p.b k cur' hk
  refine ⟨fun j hj => hφo j (by simp at hj; omega), Mv.mk' h ⟨fun j b q hj hq => ?_, fun j k b c q r hj hk ho hlv hjk hq hr => ?_, fun j q hq => ?_⟩ ⟨rfl, rfl, rfl, by simp, fun k _ hS => hother k fun hk => hS ⟨i, _, p, hb, rfl, hp, hk.symm⟩⟩ (fun k ⟨j, b, q, hj, ho, hq, hk⟩ => ?_) (fun k ⟨j, b, q, hj, ho, hq, hk⟩ => ?_)⟩
  · rcases hlook j b hj with ⟨rfl, rfl⟩ | ⟨rfl, rfl⟩ | ⟨hj1, hj2, hj⟩
    · rw [hφb] at hq; injection hq with hq; subst hq
      refine ⟨cur', t, fr, setRow_heap w p.b cur cur' t fr hg, by simp only; omega, by simp only; omega, fun j c hj => ?_, fun _ j hj => ?_⟩
      · obtain ⟨v, hv, hr⟩ := hc j c hj
        exact ⟨v, hv, hr.mono hle⟩
      · have := k5 rfl (o + j) (by simp only at hj; omega)
        simp only
        rwa [← Nat.add_assoc] at this
    · trivial
    · rw [hφo j hj2] at hq
      have hb0 := h.blk j b q hj hq
      cases hlv : b.live with
      | false => cases b <;> simp [Blk.live] at hlv; trivial
      | true =>
        have hne2 : p.b ≠ q.b := h.sep i j _ b p q hb hj rfl hlv (Ne.symm hj1) hp hq
        exact hb0.mono (hother q.b (Ne.symm hne2)) hle
  · rcases hlook j b hj with ⟨e1, e2⟩ | ⟨e1, e2⟩ | ⟨hj1, hj2, hj3⟩
    · subst e2
      rw [e1, hφb] at hq; injection hq with hq; subst hq
      rcases hlook k c hk with ⟨f1, f2⟩ | ⟨f1, f2⟩ | ⟨hk1, hk2, hk3⟩
      · exact absurd (e1.trans f1.symm) hjk
      · subst f2; simp [Blk.live] at hlv
      · rw [hφo k hk2] at hr
        exact h.sep i k _ c p r hb hk3 rfl hlv (Ne.symm hk1) hp hr
    · subst e2; simp [Blk.own] at ho
    · rw [hφo j hj2] at hq
      rcases hlook k c hk with ⟨f1, f2⟩ | ⟨f1, f2⟩ | ⟨hk1, hk2, hk3⟩
      · rw [f1, hφb] at hr; injection hr with hr; subst hr
        exact h.sep j i b _ q p hj3 hb ho rfl hj1 hq hp
      · subst f2; simp [Blk.live] at hlv
      · rw [hφo k hk2] at hr
        exact h.sep j k b c q r hj3 hk3 ho hlv hjk hq hr
  · by_cases hjb : j = base
    · exact ⟨.cells cs' true, by unfold updH; rw [if_pos (by simp; omega)]; simp [hjb]⟩
    · rw [hφo j hjb] at hq
      obtain ⟨b, hb'⟩ := h.dom j q hq
      by_cases hji : j = i
      · exact ⟨.dead, by unfold updH; rw [if_neg (by simp; omega)]; simp [updU, hji]⟩
      · exact ⟨b, by unfold updH; rw [if_neg (by simp; omega)]; simp [updU, hji, hb']⟩
  · rcases hlook j b hj with ⟨rfl, rfl⟩ | ⟨rfl, rfl⟩ | ⟨hj1, hj2, hj⟩
    · rw [hφb] at hq; injection hq with hq; subst hq
      exact .inl ⟨i, _, p, hb, rfl, hp, hk⟩
    · simp [Blk.own] at ho
    · rw [hφo j hj2] at hq
      exact .inl ⟨j, b, q, hj, ho, hq, hk⟩
  · rcases hlook j b hj with ⟨rfl, rfl⟩ | ⟨rfl, rfl⟩ | ⟨hj1, hj2, hj⟩
    · rw [hφb] at hq; injection hq with hq; subst hq
      exact .inl ⟨i, _, p, hb, rfl, hp, hk⟩
    · simp [Blk.live] at ho
    · rw [hφo j hj2] at hq
      exact .inl ⟨j, b, q, hj, ho, hq, hk⟩
/-- what is appended: its cells are read, or there are none -/
theorem app_src {φ : Phi} {H : HF} {w : World} {sz : Nat} {b : V} {v : Value} {q : Nat × List C} (hh : HeapOK φ H w) (hv : VR φ b v)
    (hq : appSrc H sz b = some q) :
    ∃ ad cap vs, v = .slice ad q.1 cap ∧ All2 (VRc φ) q.2 vs ∧ vs.length = q.1 * sz ∧ (∀ u ∈ vs, u.oneCell' = true) ∧ (q.1 ≠ 0 → ∃ a, ad = some a ∧ ∀ j u, vs[j]? = some u → w.cell? (a.add j) = some u) := by
  cases b with
  | tup => cases hq
  | agg => cases hq
  | c x => cases x with
    | sl i o ln sz' =>
      simp only [appSrc] at hq
      split at hq
      · rename_i hs
        subst hs
        obtain ⟨cs, hc, hq⟩ := Option.bind_eq_some_iff.1 hq
        split at hq
        · rename_i hnd
          injection hq with hq
          subst hq
          rcases hv with ⟨h0, ad, hv⟩ | ⟨p, cap, hp, hv, _⟩
          · subst h0
            have hcs : cs = [] := by
              unfold readB at hc
              split at hc
              · split at hc
                · injection hc with hc; rw [← hc]; simp
                · cases hc
              · cases hc
            subst hcs
            exact ⟨ad, 0, [], hv, trivial, by simp, by simp, fun h => absurd rfl h⟩
          · obtain ⟨vs, ha, hl, _, hcell⟩ := read_ok hh hc hp
            exact ⟨_, cap, vs, hv, ha, hl, ha.one hnd, fun _ => ⟨_, rfl, fun j u hj => by rw [add_lit]; exact hcell j u hj⟩⟩
        · cases hq
      · cases hq
    | nsl =>
      injection hq with hq
      subst hq
      obtain ⟨ad, hv⟩ := hv
      exact ⟨ad, 0, [], hv, trivial, by simp, by simp, fun h => absurd rfl h⟩
    | _ => cases hq
/-- the model's append, told in one: enough room, or new memory -/
theorem run_app {P : Program} {w : World} {t ty el : TypeId} {inf : TypeInfo} {z : Value} (ht : P.underlying t = some (.slice el)) (hi : P.info? el = some inf) (hz : inf.zero = some z) (hzs : z.cells.size = inf.size) (hby : inf.bytes ≤ 2048)
    {ad ax : Option Addr} {ln cap m cx : Nat} {olds news : List Value} (hlo : olds.length = ln * inf.size) (holds : ln ≠ 0 → ∃ a, ad = some a ∧ ∀ j u, olds[j]? = some u → w.cell? (a.add j) = some u)
    (hln : news.length = m * inf.size) (hnews : m ≠ 0 → ∃ a, ax = some a ∧ ∀ j u, news[j]? = some u → w.cell? (a.add j) = some u) (hroom : ln + m ≤ maxRoom) (hgrow : cap < ln + m) :
    ∃ cur ncap, (Builtin.append_ #[t, t] ty #[.slice ad ln cap, .slice ax m cx]).run P w = .ok (.slice (some ⟨w.heap.size, 0, none⟩) (ln + m) ncap) (w.drew.alloc (.cells cur el)) ∧ ln + m ≤ ncap ∧ ncap ≤ maxLen ∧ cur.size = ncap * inf.size ∧ cur.toList.take ((ln + m) * inf.size) = olds ++ news := by
  have hmr : maxRoom = 68719476736 := rfl
  rw [hmr] at hroom
  have hn : ¬ (ln + m ≤ cap) := by omega
  have h63' : ¬ (9223372036854775807 < ((ln : Int) + (m : Int))) := by omega
  have h47 : (ln + m) * inf.bytes ≤ 140737488355328 := by
    have := Nat.mul_le_mul hroom hby
    omega
  have h48' : ¬ (281474976710656 < Builtin.nextslicecap (ln + m) cap * inf.bytes) := by have := growslice_fits hgrow h47; omega
  have hfo : (Builtin.firstCells inf.size ln (.slice ad ln cap)).run P w.drew = .ok olds.toArray w.drew := by
    by_cases h0 : ln = 0
    · subst h0
      have : olds = [] := List.eq_nil_of_length_eq_zero (by simpa using hlo)
      subst this
      cases ad with
      | none => exact run_firstCells_none w.drew inf.size 0 0 cap
      | some a => simp [Builtin.firstCells, loadCells, loadCellsFrom]
    · obtain ⟨a, rfl, hc⟩ := holds h0
      exact run_firstCells_some (P := P) w.drew inf.size ln a ln cap olds hlo (by simpa using hc)
  have hf : (Builtin.firstCells inf.size m (.slice ax m cx)).run P w.drew = .ok news.toArray w.drew := by
    by_cases h0 : m = 0
    · subst h0
      have : news = [] := List.eq_nil_of_length_eq_zero (by simpa using hln)
      subst this
      cases ax with
      | none => exact run_firstCells_none w.drew inf.size 0 0 cx
      | some a => simp [Builtin.firstCells, loadCells, loadCellsFrom]
    · obtain ⟨a, rfl, hc⟩ := hnews h0
      exact run_firstCells_some (P := P) w.drew inf.size m a m cx news hln (by simpa using hc)
  have hge := grownCap_ge w (ln + m) cap el
  have hcm : grownCap w (ln + m) cap el ≤ maxLen := grownCap_le_maxLen w (ln + m) cap el (by unfold maxLen; omega)
  refine ⟨olds.toArray ++ news.toArray ++ Builtin.zeroCells z.cells (grownCap w (ln + m) cap el - (ln + m)), grownCap w (ln + m) cap el, ?_, hge, hcm, ?_, ?_⟩
  · simp [Builtin.append_, run_underlying ht, sizeOf, typeInfo, zeroValue, hi, hz, Builtin.lenOf, hn, h63', h48', Question.forced, hf, hfo, newRow, grownCap]
    congr 2
    apply Array.ext'
    simp
  · simp only [Array.size_append, List.size_toArray, size_zeroCells, hzs, hlo, hln, ← Nat.add_mul]
    congr 1
    omega
  · simp only [Array.toList_append, List.append_assoc]
    rw [← List.append_assoc]
    have : (olds ++ news).length = (ln + m) * inf.size := by rw [List.length_append, hlo, hln, Nat.add_mul]
    rw [← this]
    exact List.take_left

theorem run_app0 {P : Program} {w : World} {t ty el : TypeId} {n : Nat} (ht : P.underlying t = some (.slice el)) (hs : szT P el = some n) {ad ax : Option Addr} {cx : Nat} :
    (Builtin.append_ #[t, t] ty #[.slice ad 0 0, .slice ax 0 cx]).run P w = .ok (.slice ad 0 0) w := by
  have hf : (Builtin.firstCells n 0 (.slice ax 0 cx)).run P w = .ok #[] w := by
    cases ax with
    | none => exact run_firstCells_none w n 0 0 cx
    | some a => simp [Builtin.firstCells, loadCells, loadCellsFrom]
  cases ad with
  | none => simp [Builtin.append_, run_underlying ht, run_size hs, Builtin.lenOf, hf]
  | some a => simp [Builtin.append_, run_underlying ht, run_size hs, Builtin.lenOf, hf, storeCells]
theorem run_app_room {P : Program} {w : World} {t ty el el' : TypeId} {n : Nat} (ht : P.underlying t = some (.slice el)) (hs : szT P el = some n) {g o ln cap m cx : Nat} {ax : Option Addr} {cur : Array Value} {fr : Nat × Nat} {news : List Value}
    (hg : w.heap[g]? = some (.cells cur el' fr)) (hfr : ∀ j, j < news.length → ¬ (fr.1 ≤ o + ln * n + j ∧ o + ln * n + j < fr.2)) (hfit : o + ln * n + news.length ≤ cur.size) (h1 : ∀ u ∈ news, u.oneCell' = true)
    (hln : news.length = m * n) (hnews : m ≠ 0 → ∃ a, ax = some a ∧ ∀ j u, news[j]? = some u → w.cell? (a.add j) = some u) (hroom : ln + m ≤ cap) :
    (Builtin.append_ #[t, t] ty #[.slice (some ⟨g, o, none⟩) ln cap, .slice ax m cx]).run P w = .ok (.slice (some ⟨g, o, none⟩) (ln + m) cap) (w.setRow g (splice cur (o + ln * n) news)) := by
  have hf : (Builtin.firstCells n m (.slice ax m cx)).run P w = .ok news.toArray w := by
    by_cases h0 : m = 0
    · subst h0
      have : news = [] := List.eq_nil_of_length_eq_zero (by simpa using hln)
      subst this
      cases ax with
      | none => exact run_firstCells_none w n 0 0 cx
      | some a => simp [Builtin.firstCells, loadCells, loadCellsFrom]
    · obtain ⟨a, rfl, hc⟩ := hnews h0
      exact run_firstCells_some (P := P) w n m a m cx news hln hc
  have hst := run_storeCells_gen P g (o + ln * n) el' fr news 0 cur w hg (by simpa using hfr) (by simpa using hfit) h1
  simp only [Nat.add_zero] at hst
  simp [Builtin.append_, run_underlying ht, run_size hs, Builtin.lenOf, hroom, hf, add_lit, hst]
theorem hop_app {P : Program} {F : Fns} {t el : TypeId} {inf : TypeInfo} {z : Value} {x y : Operand} {x' y' : Opd} (hx : okOpd x x' = true) (hy : okOpd y y' = true) (ht : P.underlying t = some (.slice el)) (hi : P.info? el = some inf) (hz : inf.zero = some z) (hzs : z.cells.size = inf.size) (hby : inf.bytes ≤ 2048) :
    HopOK P F (.call { callee := .builtin .append, args := #[x, y], argTypes := #[t, t] }) (.app inf.size x' y') := by
  intro φ H e a w base r op hop he hh hev hf h0
  have hx := opd_ok he hx
  have hy := opd_ok he hy
  have hs : szT P el = some inf.size := by simp [szT, hi]
  have hrunop : ∀ rv w', (Builtin.append_ #[t, t] op.type #[a.eval x, a.eval y]).run P w = .ok rv w' → (execOp a.eval op).run P w = .ok (.value rv) w' := by
    intro rv w' h
    simp [execOp, hop, resolve, invoke, builtin, h]
  simp only [HOp.ev] at hev
  obtain ⟨q, hq, hev⟩ := Option.bind_eq_some_iff.1 hev
  obtain ⟨ax, cx, news, hv, ha, hln, h1, hnews⟩ := app_src hh hy hq
  have hmr : maxRoom = 68719476736 := rfl
  /- new memory -/
  have grow : ∀ (ad : Option Addr) (ln cap : Nat) (olds : List Value) (cs : List C), a.eval x = .slice ad ln cap → All2 (VRc φ) cs olds → olds.length = ln * inf.size → (ln ≠ 0 → ∃ a, ad = some a ∧ ∀ j u, olds[j]? = some u → w.cell? (a.add j) = some u) → ln + q.1 ≤ maxRoom → cap < ln + q.1 → φ base = none →
      ∃ rv w', (execOp a.eval op).run P w = .ok (.value rv) w' ∧ ∃ φ', VRc φ' (.sl base 0 (ln + q.1) inf.size) rv ∧ OutOK φ H w base [.cells (cs ++ q.2) true] [] φ' w' := by
    intro ad ln cap olds cs hvx hao hlo holds hroom hgrow hfb
    obtain ⟨cur, ncap, hr, k1, k2, k3, k4⟩ := run_app (ty := op.type) (cx := cx) (w := w) ht hi hz hzs hby (ad := ad) (cap := cap) hlo holds hln hnews hroom hgrow
    refine ⟨_, _, hrunop _ _ (by rw [hvx, hv]; exact hr), φ.at base (0 + 1) ⟨w.drew.heap.size, 0, cur.size⟩, .inr ⟨⟨w.drew.heap.size, 0, cur.size⟩, ncap, by simp [Phi.at], by simp, k1, k2, by simp only; omega⟩, ?_⟩
    refine New.out hh (New.row (bs := []) (fun φ' hφ => ⟨olds ++ news, ?_, ?_⟩) w.drew (Fr.drew _ _)) (fun j hj => by simp at hj; subst hj; simpa using hfb)
    · rw [← k4]
      congr 1
      have e1 := hao.length
      have e2 := ha.length
      simp only [List.length_append, e1, e2, hlo, hln, Nat.add_mul]
    · refine (hao.append ha).mono fun i p hpi => ?_
      by_cases hi : i < base ∨ base + 1 ≤ i
      · rw [hφ i (by simpa using hi)]; exact hpi
      · rw [show i = base by omega, hfb] at hpi; cases hpi
  split at hev
  · rename_i i o ln sz' hm
    rw [hm] at hx
    split at hev
    · rename_i cs hb
      split at hev
      · rename_i hc
        obtain ⟨hsz, hol, hroom⟩ := hc
        injection hev with hev
        subst hev
        have hfb : φ base = none := by simpa using hf 0 (by simp)
        have h0 : H base = none := h0 (by simp)
        have hib : i ≠ base := fun e => by subst e; rw [hb] at h0; cases h0
        rcases hx with ⟨hl0, ad, hvx⟩ | ⟨p, cap, hp, hvx, hle, hcm, htot⟩
        · subst hl0
          by_cases hm0 : q.1 = 0
          · refine .inl ⟨.slice ad 0 0, w, hrunop _ _ (by rw [hvx, hv, hm0]; exact run_app0 ht hs), φ.none base 1, .inl ⟨by omega, ad, rfl⟩, OutOK.kill (New.out hh New.empties hf) (by simp; omega)⟩
          · obtain ⟨rv, w', hr, φ', h1, h2⟩ := grow ad 0 0 [] [] hvx trivial (by simp) (fun h => absurd rfl h) (by omega) (by omega) hfb
            refine .inl ⟨rv, w', hr, φ', h1, ?_⟩
            have e1 : (cs.drop o).take (0 * inf.size) = [] := by simp
            rw [e1]
            exact OutOK.kill h2 (by simp; omega)
        · subst hsz
          have hrd : readB H i o (ln * inf.size) = some ((cs.drop o).take (ln * inf.size)) := by simp [readB, hb, hol]
          obtain ⟨olds, hao, hlo, _, hcell⟩ := read_ok hh hrd hp
          by_cases hfit : ln + q.1 ≤ cap
          · obtain ⟨cur, t0, fr, k1, k2, k3, k4, k5⟩ := hh.blk i _ p hb hp
            have hmul : ln * inf.size + q.1 * inf.size ≤ cap * inf.size := by rw [← Nat.add_mul]; exact Nat.mul_le_mul_right _ hfit
            have hfit2 : p.o + o + ln * inf.size + news.length ≤ cur.size := by rw [hln]; omega
            have hr := run_app_room (P := P) (w := w) (ty := op.type) (cx := cx) ht hs (o := p.o + o) k1 (fun j hj => by have := k5 rfl (o + ln * inf.size + j) (by omega); rwa [← Nat.add_assoc, ← Nat.add_assoc] at this) hfit2 h1 hln hnews hfit
            refine .inl ⟨_, _, hrunop _ _ (by rw [hvx, hv]; exact hr), (fun j => if j = base then some ⟨p.b, p.o + o, p.tot - o⟩ else φ j), .inr ⟨⟨p.b, p.o + o, p.tot - o⟩, cap, by simp, rfl, hfit, hcm, by simp only; omega⟩, OutOK.inplace hh hb hp k1 (splice_size hfit2) hfb h0 ?_ fun j c hj => ?_⟩
            · have e1 := hao.length
              have e2 := ha.length
              simp only [List.length_append, e1, e2, hlo, hln]
              omega
            · rw [splice_get hfit2]
              have e1 := hao.length
              by_cases hj1 : j < ln * inf.size
              · rw [List.getElem?_append_left (by rw [e1, hlo]; exact hj1), List.getElem?_take, if_pos hj1, List.getElem?_drop] at hj
                obtain ⟨v, hv', hr⟩ := k4 (o + j) c hj
                refine ⟨v, ?_, hr⟩
                rw [if_neg (by omega), Nat.add_assoc]
                exact hv'
              · rw [List.getElem?_append_right (by rw [e1, hlo]; omega), e1, hlo] at hj
                obtain ⟨v, hv', hr⟩ := ha.get hj
                have hjl := (List.getElem?_eq_some_iff.1 hv').1
                refine ⟨v, ?_, hr⟩
                rw [if_pos (by omega), ← hv']
                congr 1; omega
          · obtain ⟨rv, w', hr, φ', h1, h2⟩ := grow _ ln cap olds _ hvx hao hlo (fun _ => ⟨_, rfl, fun j u hj => by rw [add_lit]; exact hcell j u hj⟩) hroom (by omega) hfb
            exact .inl ⟨rv, w', hr, φ', h1, OutOK.kill h2 (by simp; omega)⟩
      · cases hev
    · cases hev
  · rename_i hm
    rw [hm] at hx
    split at hev
    · rename_i hroom
      injection hev with hev
      subst hev
      obtain ⟨ad, hvx⟩ := hx
      have hfb : φ base = none := by simpa using hf 0 (by simp)
      by_cases hm0 : q.1 = 0
      · refine .inl ⟨.slice ad 0 0, w, hrunop _ _ (by rw [hvx, hv, hm0]; exact run_app0 ht hs), φ.none base 1, .inl ⟨hm0, ad, rfl⟩, New.out hh New.empties hf⟩
      · obtain ⟨rv, w', hr, φ', h1, h2⟩ := grow ad 0 0 [] [] hvx trivial (by simp) (fun h => absurd rfl h) (by omega) (by omega) hfb
        rw [Nat.zero_add] at h1
        exact .inl ⟨rv, w', hr, φ', h1, h2⟩
    · cases hev
  · cases hev
theorem bytes_ok {φ : Phi} (s : List UInt8) : All2 (VRc φ) (bytesC s) (s.map fun b => Value.int .u8 b.toNat) := by
  induction s with
  | nil => trivial
  | cons b s ih => exact ⟨rfl, ih⟩
theorem hop_s2b {P : Program} {F : Fns} {src dst el : TypeId} {x : Operand} {x' : Opd} (hx : okOpd x x' = true) (hu : (P.underlying src).isSome = true) (hd : P.underlying dst = some (.slice el)) (he' : P.underlying el = some (.int .u8)) :
    HopOK P F (.convert src dst x) (.s2b x') := by
  intro φ H e a w base r op hop he hh hev hf h0
  have hx := opd_ok he hx
  simp only [HOp.ev] at hev
  split at hev
  · rename_i s hm
    rw [hm] at hx
    have hv : a.eval x = .string ⟨s.toArray⟩ := hx
    split at hev
    · rename_i hl
      injection hev with hev
      subst hev
      have hmr : maxRoom = 68719476736 := rfl
      obtain ⟨u, hu⟩ := Option.isSome_iff_exists.1 hu
      have hr := Lib.run_convert_string_bytes (P := P) w src dst el ⟨s.toArray⟩ hu hd he'
      have hsz : (⟨s.toArray⟩ : ByteArray).size = s.length := by simp [ByteArray.size]
      rw [hsz] at hr
      have hge := grownCap_ge w s.length 0 el
      have hcm := grownCap_le_maxLen w s.length 0 el (by unfold maxLen; omega)
      have hbs : (Lib.bytesCells w el ⟨s.toArray⟩).size = grownCap w s.length 0 el := by
        simp [Lib.bytesCells, hsz]; omega
      have hfb : φ base = none := by simpa using hf 0 (by simp)
      have hold : ∀ k, k < w.heap.size → (Lib.bytesWorld w el ⟨s.toArray⟩).heap[k]? = w.heap[k]? := fun k hk => Lib.bytesWorld_at_old w el _ k hk
      have hle : Le φ (φ.at base (0 + 1) ⟨w.heap.size, 0, grownCap w s.length 0 el⟩) := by
        intro i p hpi
        unfold Phi.at
        by_cases hi : i = base
        · rw [hi, hfb] at hpi; cases hpi
        · rw [if_neg hi, if_neg (by omega)]; exact hpi
      refine .inl ⟨.slice (some ⟨w.heap.size, 0, none⟩) s.length (grownCap w s.length 0 el), Lib.bytesWorld w el ⟨s.toArray⟩, by simp only [execOp, hop, hv, Sem.run_bind, hr, Result.andThen_ok, Sem.run_pure], φ.at base (0 + 1) ⟨w.heap.size, 0, grownCap w s.length 0 el⟩, .inr ⟨⟨w.heap.size, 0, grownCap w s.length 0 el⟩, grownCap w s.length 0 el, by simp [Phi.at], by simp, hge, hcm, by simp⟩, ?_⟩
      refine New.out hh ⟨fun i hi => ?_, fun j b p hb hp => ?_, fun j k p q hjk hj hk hp hq => ?_, ⟨rfl, rfl, rfl, by rw [Lib.bytesWorld_size]; omega, fun k hk _ => hold k hk⟩⟩ hf
      · unfold Phi.at; simp at hi; rw [if_neg (by omega), if_neg (by omega)]
      · have hj0 : j = 0 := by have := (List.getElem?_eq_some_iff.1 hb).1; simpa using this
        subst hj0
        simp [Phi.at] at hb hp
        subst hb; subst hp
        refine ⟨⟨Lib.bytesCells w el ⟨s.toArray⟩, el, _, Lib.bytesWorld_at_new w el ⟨s.toArray⟩, by simp only [hbs]; omega, by simp only [bytesC, List.length_map]; omega, fun j c hj => ?_, fun _ j hj => ?_⟩, Nat.le_refl _⟩
        · have hjs : j < s.length := by have := (List.getElem?_eq_some_iff.1 hj).1; simpa [bytesC] using this
          obtain ⟨v, hv', hr⟩ := (bytes_ok (φ := φ.at base (0 + 1) ⟨w.heap.size, 0, grownCap w s.length 0 el⟩) s).get hj
          refine ⟨v, ?_, hr⟩
          rw [← hv']
          simp [Lib.bytesCells, Array.getElem?_append, hjs]
        · simp only [hbs] at hj ⊢; omega
      · simp at hj hk; omega
    · cases hev
  · cases hev

theorem push_list : ∀ (ns : List Int) (r : ByteArray), ns.foldl (fun r n => r.push (UInt8.ofNat n.toNat)) r = ⟨r.data ++ (ns.map fun n => UInt8.ofNat n.toNat).toArray⟩
  | [], r => by simp
  | n :: ns, r => by
    simp only [List.foldl_cons, push_list ns]
    apply ByteArray.ext
    simp [ByteArray.data_push]
theorem hop_b2s {P : Program} {F : Fns} {src dst el : TypeId} {x : Operand} {x' : Opd} (hx : okOpd x x' = true) (hs : P.underlying src = some (.slice el)) (he' : P.underlying el = some (.int .u8)) (hd : P.underlying dst = some .string) :
    HopOK P F (.convert src dst x) (.b2s x') := by
  intro φ H e a w base r op hop he hh hev hf h0
  have hx := opd_ok he hx
  have hrunop : ∀ u rv w', a.eval x = u → (∃ ad l c, u = .slice ad l c) → (Conv.bytesToString u).run P w = .ok rv w' → (execOp a.eval op).run P w = .ok (.value rv) w' := by
    intro u rv w' hu ⟨ad, l, c, hsl⟩ h
    subst hsl
    simp [execOp, hop, hu, convert, run_underlying hs, run_underlying hd, run_underlying he', h]
  simp only [HOp.ev] at hev
  split at hev
  · rename_i i o ln hm
    rw [hm] at hx
    obtain ⟨cs, hc, hev⟩ := Option.bind_eq_some_iff.1 hev
    split at hev
    · rename_i hall
      injection hev with hev
      subst hev
      rcases hx with ⟨h0, ad, hv⟩ | ⟨p, cap, hp, hv, _⟩
      · subst h0
        have hcs : cs = [] := by
          unfold readB at hc
          split at hc
          · split at hc
            · injection hc with hc; rw [← hc]; simp
            · cases hc
          · cases hc
        subst hcs
        refine .inl ⟨.string .empty, w, hrunop _ _ _ hv ⟨_, _, _, rfl⟩ ?_, φ, rfl, OutOK.same base hh⟩
        cases ad with
        | none => rfl
        | some ad => exact run_bytesToString (P := P) w ad 0 0 [] (by simp [loadCells, loadCellsFrom])
      · obtain ⟨vs, ha, hl, _, hcell⟩ := read_ok hh hc hp
        obtain ⟨ns, hns⟩ : ∃ ns : List Int, ns = cs.map fun c => match c with | .int _ n => n | _ => 0 := ⟨_, rfl⟩
        have hvs : vs = ns.map (Value.int .u8) := by
          rw [hns]
          clear hns hcell hl hc hf hev h0
          induction cs generalizing vs with
          | nil => cases vs with
            | nil => rfl
            | cons => exact ha.elim
          | cons c cs ih => cases vs with
            | nil => exact ha.elim
            | cons v vs =>
              simp only [List.all_cons, Bool.and_eq_true] at hall
              rw [ih hall.2 vs ha.2]
              simp only [List.map_cons]
              congr 1
              have h1 := hall.1
              split at h1
              · exact ha.1
              · cases h1
        have hload : (loadCells ⟨p.b, p.o + o, none⟩ ln).run P w = .ok (ns.map (Value.int .u8)).toArray w := by
          have := run_loadCells_list (P := P) w ⟨p.b, p.o + o, none⟩ vs fun j v hj => by rw [add_lit]; exact hcell j v hj
          rw [hl] at this
          rw [this, hvs]
        refine .inl ⟨_, w, hrunop _ _ _ hv ⟨_, _, _, rfl⟩ (run_bytesToString (P := P) w _ ln cap ns hload), φ, ?_, OutOK.same base hh⟩
        show _ = _
        rw [push_list]
        congr 1
        apply ByteArray.ext
        simp only [hns, List.map_map]
        show (#[] ++ _ : Array UInt8) = _
        rw [Array.empty_append]
        congr 1
        apply List.map_congr_left
        intro c hcm
        have := List.all_eq_true.1 hall c hcm
        split at this
        · rfl
        · cases this
    · cases hev
  · rename_i hm
    rw [hm] at hx
    injection hev with hev
    subst hev
    obtain ⟨ad, hv⟩ := hx
    refine .inl ⟨.string .empty, w, hrunop _ _ _ hv ⟨_, _, _, rfl⟩ ?_, φ, rfl, OutOK.same base hh⟩
    cases ad with
    | none => rfl
    | some ad => exact run_bytesToString (P := P) w ad 0 0 [] (by simp [loadCells, loadCellsFrom])
  · cases hev
end Go.Proofs.YtgpafbbnobanbaaGreatDoor.AM

/-
  Operations on maps whose keys are 24 ints and whose values are one int.
-/
namespace Go.Proofs.YtgpafbbnobanbaaGreatDoor.AM
open Go

/-- a type of keys: a struct of one field, six times four ints -/
def keyTy (P : Program) (k : TypeId) : Bool :=
  laidOutB P && decide (P.types.size + 2 ≤ 10000) && decide (3 ≤ P.types.size) && decide (k < P.types.size) && P.keyType k && P.cellsOf k == 24 &&
    (match P.underlying k with
    | some (.struct fs) => (match fs.toList with
      | [f] => (f.name != "_") && f.offset == 0 && P.cellsOf f.type == 24 && (match P.underlying f.type with
        | some (.array n t2) => n == 6 && P.cellsOf t2 == 4 && (match P.underlying t2 with
          | some (.array n t3) => n == 4 && P.cellsOf t3 == 1 && (match P.underlying t3 with
            | some (.int .i64) => true
            | _ => false)
          | _ => false)
        | _ => false)
      | _ => false)
    | _ => false)
structure KeyT (P : Program) (k : TypeId) : Prop where
  law : WideMaps.KeyLaw P k
  kt : P.keyType k = true
  sz : P.cellsOf k = 24
  big : 3 ≤ P.types.size
  sh : ∃ (f : Field) (t2 t3 : TypeId), P.underlying k = some (.struct #[f]) ∧ (f.name != "_") = true ∧ f.offset = 0 ∧ P.cellsOf f.type = 24 ∧ P.underlying f.type = some (.array 6 t2) ∧ P.cellsOf t2 = 4 ∧ P.underlying t2 = some (.array 4 t3) ∧ P.cellsOf t3 = 1 ∧ P.underlying t3 = some (.int .i64)
theorem keyTy_ok {P : Program} {k : TypeId} (h : keyTy P k = true) : KeyT P k := by
  unfold keyTy at h
  simp only [Bool.and_eq_true, decide_eq_true_eq, beq_iff_eq] at h
  obtain ⟨⟨⟨⟨⟨⟨h1, h2⟩, h3⟩, h4⟩, h5⟩, h6⟩, h⟩ := h
  split at h
  · rename_i fs hu
    split at h
    · rename_i f hf
      simp only [Bool.and_eq_true, beq_iff_eq] at h
      obtain ⟨⟨⟨a1, a2⟩, a3⟩, h⟩ := h
      split at h
      · rename_i n t2 ht2
        simp only [Bool.and_eq_true, beq_iff_eq] at h
        obtain ⟨⟨rfl, a4⟩, h⟩ := h
        split at h
        · rename_i n t3 ht3
          simp only [Bool.and_eq_true, beq_iff_eq] at h
          obtain ⟨⟨rfl, a5⟩, h⟩ := h
          split at h
          · rename_i ht
            have e : fs = #[f] := by apply Array.ext'; exact hf
            subst e
            exact ⟨deep_law_gate h1 h2 h4 h5 (by rw [hu]), h5, h6, h3, f, t2, t3, hu, a1, a2, a3, ht2, a4, ht3, a5, ht⟩
          · cases h
        · cases h
      · cases h
    · cases h
  · cases h
theorem mapM_some {α β : Type} {f : α → Option β} : ∀ (l : List α), (∀ x ∈ l, ∃ y, f x = some y) → ∃ r, l.mapM f = some r
  | [], _ => ⟨[], rfl⟩
  | a :: l, h => by
    obtain ⟨y, hy⟩ := h a (by simp)
    obtain ⟨r, hr⟩ := mapM_some l fun x hx => h x (by simp [hx])
    exact ⟨y :: r, by simp [List.mapM_cons, hy, hr]⟩
def keyV24 (r : List Int) : Value := .agg (r.map (Value.int .i64)).toArray
theorem keyLits24 {P : Program} {k : TypeId} (K : KeyT P k) {r : List Int} (hr : r.length = 24) (hv : ∀ x ∈ r, (Lit.int .i64 x).wf = true) (D : Nat) : ∃ ls, P.keyLits (D + 4) k (r.map (Value.int .i64)) = some ls := by
  obtain ⟨f, t2, t3, hk, hn, ho, s2, ht, s3, x_four, s4, x_int⟩ := K.sh
  have s1 := K.sz
  have one : ∀ (cs : List Value) (j : Nat), (∃ x : Int, cs[j]? = some (.int .i64 x) ∧ (Lit.int .i64 x).wf = true) → ∃ y, P.keyLits (D + 1) t3 ((cs.drop (j * 1)).take 1) = some y := by
    rintro cs j ⟨x, hx, hw⟩
    obtain ⟨hj, hx⟩ := List.getElem?_eq_some_iff.1 hx
    rw [Nat.mul_one, List.drop_eq_getElem_cons hj, hx]
    simp [Program.keyLits, x_int, hw]
  have get : ∀ j, j < 24 → ∃ x : Int, (r.map (Value.int .i64))[j]? = some (.int .i64 x) ∧ (Lit.int .i64 x).wf = true := by
    intro j hj
    refine ⟨r[j]'(by omega), ?_, hv _ (List.getElem_mem _)⟩
    rw [List.getElem?_map, List.getElem?_eq_getElem (by omega)]
    rfl
  have four : ∀ i, i < 6 → ∃ y, P.keyLits (D + 2) t2 (((r.map (Value.int .i64)).drop (i * 4)).take 4) = some y := by
    intro i hi
    have hl : ((((r.map (Value.int .i64)).drop (i * 4)).take 4)).length = 4 := by simp; omega
    obtain ⟨ys, hys⟩ := mapM_some (f := fun j => P.keyLits (D + 1) t3 ((((r.map (Value.int .i64)).drop (i * 4)).take 4).drop (j * 1) |>.take 1)) (List.range 4) fun j hj => by
      have hj := List.mem_range.1 hj
      refine one _ j ?_
      obtain ⟨x, hx, hw⟩ := get (i * 4 + j) (by omega)
      refine ⟨x, ?_, hw⟩
      rw [List.getElem?_take, if_pos hj, List.getElem?_drop]
      exact hx
    refine ⟨ys.flatten, ?_⟩
    unfold Program.keyLits
    simp only [x_four, s3, s4, hl, if_true]
    rw [hys]
    rfl
  have six : ∃ y, P.keyLits (D + 3) f.type (r.map (Value.int .i64)) = some y := by
    obtain ⟨ys, hys⟩ := mapM_some (f := fun i => P.keyLits (D + 2) t2 (((r.map (Value.int .i64)).drop (i * 4)).take 4)) (List.range 6) fun i hi => four i (List.mem_range.1 hi)
    refine ⟨ys.flatten, ?_⟩
    unfold Program.keyLits
    simp only [ht, s2, s3, List.length_map, hr, if_true]
    rw [hys]
    rfl
  obtain ⟨y, hy⟩ := six
  refine ⟨[y].flatten, ?_⟩
  unfold Program.keyLits
  have ht2 : ((r.map (Value.int .i64)).drop 0).take 24 = r.map (Value.int .i64) := by rw [List.drop_zero, List.take_of_length_le (by simp; omega)]
  have hall : (#[f] : Array Field).all (fun x => x.name != "_") = true := by simp [hn]
  simp only [hk, s1, List.length_map, hr, hall, and_self, if_true]
  simp only [List.mapM_cons, List.mapM_nil, ho, s2, ht2, hy]
  rfl
theorem keyOf24 {P : Program} {k : TypeId} (K : KeyT P k) {r : List Int} (hr : r.length = 24) (hv : ∀ x ∈ r, (Lit.int .i64 x).wf = true) : ∃ l, keyOf P k (keyV24 r) = some l := by
  obtain ⟨ls, hls⟩ := keyLits24 K hr hv (P.types.size - 3)
  obtain ⟨f, t2, t3, hk, _⟩ := K.sh
  have hsz : P.types.size - 3 + 4 = P.types.size + 1 := by have := K.big; omega
  rw [hsz] at hls
  refine ⟨.string (keyBytes ls), ?_⟩
  unfold keyOf
  simp only [hk, K.kt, Bool.true_and]
  have hf : (keyV24 r).formed P k = true := by
    simp [keyV24, Value.formed, hk, K.sz, hr]
  rw [if_pos hf]
  have hc : (keyV24 r).cells.toList = r.map (Value.int .i64) := rfl
  rw [hc, hls]
  rfl
/-- the ints of a key -/
theorem keyC_ints {cs : List C} (h : keyC cs = true) : ∃ r : List Int, cs = r.map (C.int .i64) ∧ r.length = 24 ∧ ∀ x ∈ r, (Lit.int .i64 x).wf = true := by
  simp only [keyC, Bool.and_eq_true, decide_eq_true_eq] at h
  obtain ⟨h1, h2⟩ := h
  have key : ∀ cs : List C, cs.all keyI = true → ∃ r : List Int, cs = r.map (C.int .i64) ∧ ∀ x ∈ r, (Lit.int .i64 x).wf = true := by
    intro cs
    induction cs with
    | nil => intro _; exact ⟨[], rfl, by simp⟩
    | cons c cs ih =>
      intro h
      simp only [List.all_cons, Bool.and_eq_true] at h
      obtain ⟨r, hr, hw⟩ := ih h.2
      have h1 := h.1
      unfold keyI at h1
      split at h1
      · rename_i n
        refine ⟨n :: r, by rw [hr]; rfl, fun x hx => ?_⟩
        rcases List.mem_cons.1 hx with rfl | hx
        · have m1 : IntKind.i64.min = -9223372036854775808 := rfl
          have m2 : IntKind.i64.max = 9223372036854775807 := rfl
          simp only [decide_eq_true_eq] at h1
          simp only [Lit.wf, m1, m2, Bool.and_eq_true, decide_eq_true_eq]
          omega
        · exact hw x hx
      · cases h1
  obtain ⟨r, hr, hw⟩ := key cs h2
  exact ⟨r, hr, by rw [hr] at h1; simpa using h1, hw⟩
theorem All2_vals {f : Phi} {r : List Int} {vs : List Value} (h : All2 (VRc f) (r.map (C.int .i64)) vs) : vs = r.map (Value.int .i64) := by
  induction r generalizing vs with
  | nil => cases vs with
    | nil => rfl
    | cons => exact h.elim
  | cons a r ih => cases vs with
    | nil => exact h.elim
    | cons v vs =>
      have h1 : v = .int .i64 a := h.1
      rw [h1, ih h.2]
      rfl
theorem vals24_inj {x y : List Int} (h : x.map (Value.int .i64) = y.map (Value.int .i64)) : x = y := by
  induction x generalizing y with
  | nil => cases y with
    | nil => rfl
    | cons => simp at h
  | cons a x ih => cases y with
    | nil => simp at h
    | cons b y =>
      simp only [List.map_cons, List.cons.injEq] at h
      obtain ⟨h1, h2⟩ := h
      injection h1 with _ h1
      rw [h1, ih h2]
theorem keyV24_inj {x y : List Int} (h : keyV24 x = keyV24 y) : x = y := by
  unfold keyV24 at h
  injection h with h
  exact vals24_inj (by simpa using h)
theorem cells24_inj {x y : List Int} (h : x.map (C.int .i64) = y.map (C.int .i64)) : x = y := by
  induction x generalizing y with
  | nil => cases y with
    | nil => rfl
    | cons => simp at h
  | cons a x ih => cases y with
    | nil => simp at h
    | cons b y =>
      simp only [List.map_cons, List.cons.injEq] at h
      obtain ⟨h1, h2⟩ := h
      injection h1 with _ h1
      rw [h1, ih h2]
/-- a value of 24 cells is an aggregate -/
theorem agg_of_cells {v : Value} {vs : List Value} (h : v.cells = vs.toArray) (hl : vs.length = 24) : v = .agg vs.toArray := by
  cases v <;> simp only [Value.cells] at h <;> first | (rw [h]) | (exfalso; have := congrArg Array.size h; simp [hl] at this)
abbrev EntR (φ : Phi) (e : List C × C) (m : MapEntry) : Prop := (∃ vs : List Value, m.key.cells = vs.toArray ∧ All2 (VRc fun _ => none) e.1 vs) ∧ VRc φ e.2 m.val
theorem entR_key {φ : Phi} {e : List C × C} {m : MapEntry} (h : EntR φ e m) (hk : keyC e.1 = true) : ∃ r, e.1 = r.map (C.int .i64) ∧ r.length = 24 ∧ (∀ x ∈ r, (Lit.int .i64 x).wf = true) ∧ m.key = keyV24 r := by
  obtain ⟨r, hr, hl, hw⟩ := keyC_ints hk
  obtain ⟨vs, h1, h2⟩ := h.1
  rw [hr] at h2
  have e1 := All2_vals h2
  subst e1
  exact ⟨r, hr, hl, hw, agg_of_cells h1 (by simp [hl])⟩
theorem ent_at {φ : Phi} : ∀ {es : List (List C × C)} {ms : List MapEntry}, All2 (EntR φ) es ms → ∀ {j : Nat} {m : MapEntry}, ms[j]? = some m → ∃ e, es[j]? = some e ∧ EntR φ e m
  | e :: es, m :: ms, h, j, x, hj => by
    cases j with
    | zero => simp at hj; subst hj; exact ⟨e, by simp, h.1⟩
    | succ j =>
      obtain ⟨e', h1, h2⟩ := ent_at h.2 (j := j) (by simpa using hj)
      exact ⟨e', by simpa using h1, h2⟩
  | [], [], _, j, x, hj => by simp at hj
  | [], _ :: _, h, _, _, _ => h.elim
  | _ :: _, [], h, _, _, _ => h.elim
/-- what the model finds is what the abstract machine finds -/
theorem find_ok {φ : Phi} {r : List Int} (hl : r.length = 24) : ∀ {es : List (List C × C)} {ms : List MapEntry}, All2 (EntR φ) es ms → (es.all fun p => keyC p.1) = true → (es.map (·.1)).Nodup →
    (findK (r.map (C.int .i64)) es = none ∧ ∀ m ∈ ms, m.key ≠ keyV24 r) ∨ ∃ c, findK (r.map (C.int .i64)) es = some c ∧ (∃ m ∈ ms, m.key = keyV24 r) ∧ ∀ (j : Nat) (m : MapEntry), ms[j]? = some m → m.key = keyV24 r → VRc φ c m.val
  | [], [], _, _, _ => .inl ⟨rfl, by simp⟩
  | e :: es, m :: ms, h, ha, hn => by
    simp only [List.all_cons, Bool.and_eq_true] at ha
    simp only [List.map_cons, List.nodup_cons] at hn
    obtain ⟨r', hr', hl', _, hm⟩ := entR_key h.1 ha.1
    by_cases k : e.1 = r.map (C.int .i64)
    · have : r' = r := cells24_inj (by rw [← hr', k])
      subst this
      refine .inr ⟨e.2, by simp [findK, k], ⟨m, by simp, hm⟩, fun j x hj hx => ?_⟩
      cases j with
      | zero => simp at hj; subst hj; exact h.1.2
      | succ j =>
        exfalso
        obtain ⟨e', h1, h2⟩ := ent_at h.2 (j := j) (by simpa using hj)
        have h3 := List.all_eq_true.1 ha.2 e' (List.mem_of_getElem? h1)
        obtain ⟨r2, hr2, _, _, hm2⟩ := entR_key h2 h3
        have : r2 = r' := keyV24_inj (by rw [← hm2, hx])
        subst this
        exact hn.1 (by rw [k, ← hr2]; exact List.mem_map.2 ⟨e', List.mem_of_getElem? h1, rfl⟩)
    · have hne : m.key ≠ keyV24 r := by
        rw [hm]; intro e2; exact k (by rw [hr', keyV24_inj e2])
      rcases find_ok hl h.2 ha.2 hn.2 with ⟨h1, h2⟩ | ⟨c, h1, ⟨y, hy, hy2⟩, h2⟩
      · refine .inl ⟨by simp [findK, k, h1], fun x hx => ?_⟩
        rcases List.mem_cons.1 hx with rfl | hx
        · exact hne
        · exact h2 x hx
      · refine .inr ⟨c, by simp [findK, k, h1], ⟨y, List.mem_cons_of_mem _ hy, hy2⟩, fun j x hj hx => ?_⟩
        cases j with
        | zero => simp at hj; subst hj; exact (hne hx).elim
        | succ j => exact h2 j x (by simpa using hj) hx
  | [], _ :: _, h, _, _ => h.elim
  | _ :: _, [], h, _, _ => h.elim
/-- where the key is there: its entry's value is another; where it is not: one more entry -/
theorem set_ok {φ : Phi} {r : List Int} {x : C} {v : Value} (hx : VRc φ x v) : ∀ {es : List (List C × C)} {ms : List MapEntry}, All2 (EntR φ) es ms → (es.all fun p => keyC p.1) = true → (es.map (·.1)).Nodup → ∀ {j : Nat} {m : MapEntry}, ms[j]? = some m → m.key = keyV24 r → ∀ (f : MapEntry → MapEntry), (∀ m : MapEntry, m.key = keyV24 r → (f m).key = keyV24 r ∧ (f m).val = v) →
    All2 (EntR φ) (setK (r.map (C.int .i64)) x es) (ms.modify j f)
  | e :: es, m :: ms, h, ha, hn, j, m0, hj, hk, f, hf => by
    simp only [List.all_cons, Bool.and_eq_true] at ha
    simp only [List.map_cons, List.nodup_cons] at hn
    obtain ⟨r', hr', hl', _, hm⟩ := entR_key h.1 ha.1
    cases j with
    | zero =>
      simp at hj; subst hj
      have : r' = r := keyV24_inj (by rw [← hm, hk])
      subst this
      obtain ⟨f1, f2⟩ := hf m hk
      simp only [setK, hr', if_true]
      refine ⟨⟨⟨r'.map (Value.int .i64), by rw [f1]; rfl, ?_⟩, by rw [f2]; exact hx⟩, h.2⟩
      obtain ⟨⟨vs, h1, h2⟩, _⟩ := h.1
      rw [hr'] at h2
      rw [← All2_vals h2]; exact h2
    | succ j =>
      have hj' : ms[j]? = some m0 := by simpa using hj
      have hne : e.1 ≠ r.map (C.int .i64) := by
        intro k
        obtain ⟨e', h1, h2⟩ := ent_at h.2 hj'
        have h3 := List.all_eq_true.1 ha.2 e' (List.mem_of_getElem? h1)
        obtain ⟨r2, hr2, _, _, hm2⟩ := entR_key h2 h3
        have : r2 = r := keyV24_inj (by rw [← hm2, hk])
        subst this
        exact hn.1 (by rw [k, ← hr2]; exact List.mem_map.2 ⟨e', List.mem_of_getElem? h1, rfl⟩)
      simp only [setK, if_neg hne, List.modify_succ_cons]
      exact ⟨h.1, set_ok hx h.2 ha.2 hn.2 hj' hk f hf⟩
  | [], [], _, _, _, j, m0, hj, _, _, _ => by simp at hj
  | [], _ :: _, h, _, _, _, _, _, _, _, _ => h.elim
  | _ :: _, [], h, _, _, _, _, _, _, _, _ => h.elim
theorem setK_new {k : List C} {x : C} : ∀ {es : List (List C × C)}, findK k es = none → setK k x es = es ++ [(k, x)]
  | [], _ => rfl
  | e :: es, h => by
    by_cases hk : e.1 = k
    · simp [findK, hk] at h
    · simp only [findK, if_neg hk] at h
      simp only [setK, if_neg hk, setK_new h, List.cons_append]
theorem All2.snoc {α β : Type} {R : α → β → Prop} : ∀ {x : List α} {y : List β}, All2 R x y → ∀ {a : α} {b : β}, R a b → All2 R (x ++ [a]) (y ++ [b])
  | [], [], _, _, _, h => ⟨h, trivial⟩
  | _ :: _, _ :: _, h, _, _, hab => ⟨h.1, All2.snoc h.2 hab⟩
  | [], _ :: _, h, _, _, _ => h.elim
  | _ :: _, [], h, _, _, _ => h.elim
theorem ints24_ok (φ : Phi) (r : List Int) : All2 (VRc φ) (r.map (C.int .i64)) (r.map (Value.int .i64)) := by
  induction r with
  | nil => trivial
  | cons a r ih => exact ⟨rfl, ih⟩
theorem map_val {φ : Phi} {i : Nat} {v : Value} (h : VR φ (.c (.map i)) v) : ∃ p, φ i = some p ∧ v = .map (some p.b) := by
  obtain ⟨p, h1, _, h3⟩ := h; exact ⟨p, h1, h3⟩
theorem key_val {φ : Phi} {r : List Int} {v : Value} (h : VR φ (.agg (r.map (C.int .i64))) v) : v = keyV24 r := by
  obtain ⟨vs, rfl, ha⟩ := h
  rw [All2_vals ha]; rfl
theorem hop_mnew {P : Program} {F : Fns} {t : TypeId} : HopOK P F (.makeMap t none) .mnew := by
  intro φ H e a w base r op hop he hh hev hf h0
  simp only [HOp.ev, Option.some.injEq] at hev
  subst hev
  have hfb : φ base = none := by simpa using hf 0 (by simp)
  have hr : (Instr.makeMap t none).run P w = .ok (.map (some w.heap.size)) (w.alloc (.map #[] 0)) := by simp [Instr.makeMap]
  refine .inl ⟨.map (some w.heap.size), w.alloc (.map #[] 0), by simp only [execOp, hop, Option.map_none, Sem.run_bind, hr, Result.andThen_ok, Sem.run_pure], φ.at base (0 + 1) ⟨w.heap.size, 0, 0⟩, ⟨⟨w.heap.size, 0, 0⟩, by simp [Phi.at], rfl, rfl⟩, ?_⟩
  refine New.out hh ⟨fun i hi => ?_, fun j b p hb hp => ?_, fun j k p q hjk hj hk hp hq => ?_, Fr.alloc _ _ _⟩ hf
  · unfold Phi.at; simp at hi; rw [if_neg (by omega), if_neg (by omega)]
  · have hj0 : j = 0 := by have := (List.getElem?_eq_some_iff.1 hb).1; simpa using this
    subst hj0
    simp [Phi.at] at hb hp
    subst hb; subst hp
    exact ⟨⟨#[], 0, by show (w.heap.push _)[w.heap.size]? = _; simp, trivial⟩, Nat.le_refl _⟩
  · simp at hj hk; omega
theorem mapK_split {es : List (List C × C)} (h : mapK es = true) : (es.all fun p => keyC p.1) = true ∧ (es.map (·.1)).Nodup := by
  simpa only [mapK, Bool.and_eq_true, decide_eq_true_eq] using h
theorem entries_keys {P : Program} {k : TypeId} (K : KeyT P k) {φ : Phi} : ∀ {es : List (List C × C)} {ms : List MapEntry}, All2 (EntR φ) es ms → (es.all fun p => keyC p.1) = true → ∀ m ∈ ms, ∃ l, keyOf P k m.key = some l
  | [], [], _, _, m, hm => by cases hm
  | e :: es, m0 :: ms, h, ha, m, hm => by
    simp only [List.all_cons, Bool.and_eq_true] at ha
    rcases List.mem_cons.1 hm with rfl | hm
    · obtain ⟨r, _, hl, hw, e2⟩ := entR_key h.1 ha.1
      rw [e2]; exact keyOf24 K hl hw
    · exact entries_keys K h.2 ha.2 m hm
  | [], _ :: _, h, _, _, _ => h.elim
  | _ :: _, [], h, _, _, _ => h.elim
theorem hop_mget {P : Program} {F : Fns} {t k el : TypeId} {x y : Operand} {x' y' : Opd} {z : C} {v0 : Value} {ok : Bool} (hx : okOpd x x' = true) (hy : okOpd y y' = true) (ht : P.underlying t = some (.map k el)) (K : KeyT P k) (hz : ((P.info? el).bind (·.zero)) = some v0) (hzc : ∀ φ : Phi, VRc φ z v0) : HopOK P F (.lookup t x y ok) (.mget z ok x' y') := by
  intro φ H e a w base r op hop he hh hev hf h0
  have hx := opd_ok he hx
  have hy := opd_ok he hy
  obtain ⟨inf, hinf, hz⟩ := Option.bind_eq_some_iff.1 hz
  simp only [HOp.ev] at hev
  split at hev
  · rename_i i cs hm hk
    rw [hm] at hx
    rw [hk] at hy
    split at hev
    · rename_i es hb
      split at hev
      · rename_i hc
        obtain ⟨hkc, hmk⟩ := hc
        obtain ⟨hall, hnd⟩ := mapK_split hmk
        injection hev with hev
        subst hev
        obtain ⟨p, hp, hv⟩ := map_val hx
        obtain ⟨r, rfl, hrl, hrw⟩ := keyC_ints hkc
        have hkv := key_val hy
        obtain ⟨en, cl, g1, g2⟩ := hh.blk i _ p hb hp
        obtain ⟨l, hl⟩ := keyOf24 K hrl hrw
        have hfind := K.law.find w hl en.toList (entries_keys K g2 hall)
        have main : ∀ c rv, VRc φ c rv → ∀ b, (Instr.lookup t (a.eval x) (a.eval y) ok).run P w = .ok (if ok then .tuple #[rv, .bool b] else rv) w → Does P op a w (ROut φ H w base (if ok then .tup [.c c, .c (.bool b)] else .c c, [], [])) := by
          intro c rv hc b hr
          refine .inl ⟨if ok then .tuple #[rv, .bool b] else rv, w, by simp only [execOp, hop, Sem.run_bind, hr, Result.andThen_ok, Sem.run_pure], φ, ?_, OutOK.same base hh⟩
          cases ok with
          | true => exact ⟨[rv, .bool b], rfl, hc, rfl, trivial⟩
          | false => exact hc
        rcases find_ok hrl g2 hall hnd with ⟨f1, f2⟩ | ⟨c, f1, ⟨m1, hm1, hm2⟩, f2⟩
        · rw [f1]
          rcases hfind with ⟨h1, _⟩ | ⟨j, e0, _, h2, h3⟩
          · refine main z v0 (hzc φ) false ?_
            rw [hv, hkv]
            cases ok <;> simp [Instr.lookup, run_underlying ht, MapKept.run_getObj_map g1, K.law.check w _ hl, h1, zeroValue, typeInfo, hinf, hz, Result.andThen]
          · exact (f2 e0 (List.mem_of_getElem? h2) h3).elim
        · rw [f1]
          rcases hfind with ⟨_, h2⟩ | ⟨j, e0, h1, h2, h3⟩
          · exact (h2 m1 hm1 hm2).elim
          · refine main c e0.val (f2 j e0 h2 h3) true ?_
            rw [hv, hkv]
            cases ok <;> simp [Instr.lookup, run_underlying ht, MapKept.run_getObj_map g1, K.law.check w _ hl, h1, Result.andThen]
      · cases hev
    · cases hev
  · cases hev
theorem hop_mlen {P : Program} {F : Fns} {t k el : TypeId} {x : Operand} {x' : Opd} (hx : okOpd x x' = true) (ht : P.underlying t = some (.map k el)) : HopOK P F (.call { callee := .builtin .len, args := #[x], argTypes := #[t] }) (.mlen x') := by
  intro φ H e a w base r op hop he hh hev hf h0
  have hx := opd_ok he hx
  simp only [HOp.ev] at hev
  split at hev
  · rename_i i hm
    rw [hm] at hx
    split at hev
    · rename_i es hb
      injection hev with hev
      subst hev
      obtain ⟨p, hp, hv⟩ := map_val hx
      obtain ⟨en, cl, g1, g2⟩ := hh.blk i _ p hb hp
      have hl : es.length = en.size := by rw [g2.length]; simp
      refine .inl ⟨.int .i64 es.length, w, ?_, φ, rfl, OutOK.same base hh⟩
      simp [execOp, hop, resolve, invoke, builtin, Builtin.len_, run_underlying ht, hv, MapKept.run_getObj_map g1, goInt, hl]
    · cases hev
  · cases hev
/-- one map's entries are others -/
theorem OutOK.writeM {φ : Phi} {H : HF} {w w' : World} {i : Nat} {p : Pl} {es es' : List (List C × C)} {en : Array MapEntry} {cl : Nat} (base : Nat) (h : HeapOK φ H w) (hb : H i = some (.map es)) (hp : φ i = some p) (hg : ∃ o, w.heap[p.b]? = some o) (hw : w'.heap = w.heap.setIfInBounds p.b (.map en cl)) (h1 : w'.os = w.os) (h2 : w'.tape = w.tape) (h3 : w'.output = w.output)
    (hc : All2 (EntR φ) es' en.toList) : OutOK φ H w base [] [(i, .map es')] φ w' := by
  have hlook : ∀ j b, updH H base [] [(i, .map es')] j = some b → (j = i ∧ b = .map es') ∨ (j ≠ i ∧ H j = some b) := by
    intro j b hj
    unfold updH at hj
    rw [if_neg (by simp)] at hj
    simp only [updU] at hj
    split at hj
    · rename_i he; injection hj with hj; exact .inl ⟨he, hj.symm⟩
    · rename_i he; exact .inr ⟨he, hj⟩
  have hother : ∀ k, k ≠ p.b → w'.heap[k]? = w.heap[k]? := fun k hk => by rw [hw, Array.getElem?_setIfInBounds_ne (Ne.symm hk)]
  have hself : w'.heap[p.b]? = some (.map en cl) := by
    obtain ⟨o, ho⟩ := hg
    have := (Array.getElem?_eq_some_iff.1 ho).1
    rw [hw, Array.getElem?_setIfInBounds_self_of_lt this]
  refine ⟨fun _ _ => rfl, Mv.mk' h ⟨fun j b q hj hq => ?_, fun j k b c q r hj hk ho hlv hjk hq hr => ?_, fun j q hq => ?_⟩ ⟨h1, h2, h3, by rw [hw]; simp, fun k _ hS => hother k fun hk => hS ⟨i, _, p, hb, rfl, hp, hk.symm⟩⟩ (fun k ⟨j, b, q, hj, ho, hq, hk⟩ => ?_) (fun k ⟨j, b, q, hj, ho, hq, hk⟩ => ?_)⟩
  · rcases hlook j b hj with ⟨rfl, rfl⟩ | ⟨hne, hj⟩
    · rw [hp] at hq; injection hq with hq; subst hq
      exact ⟨en, cl, hself, hc⟩
    · have hb0 := h.blk j b q hj hq
      cases hlv : b.live with
      | false => cases b <;> simp [Blk.live] at hlv; trivial
      | true =>
        have hne2 : p.b ≠ q.b := h.sep i j _ b p q hb hj rfl hlv (Ne.symm hne) hp hq
        exact hb0.mono (hother q.b (Ne.symm hne2)) (Le.refl _)
  · rcases hlook j b hj with ⟨rfl, rfl⟩ | ⟨hj1, hj2⟩ <;> rcases hlook k c hk with ⟨rfl, rfl⟩ | ⟨hk1, hk2⟩
    · exact absurd rfl hjk
    · exact h.sep j k _ c q r hb hk2 rfl hlv hjk hq hr
    · exact h.sep j k b _ q r hj2 hb ho rfl hjk hq hr
    · exact h.sep j k b c q r hj2 hk2 ho hlv hjk hq hr
  · obtain ⟨b, hb'⟩ := h.dom j q hq
    by_cases hji : j = i
    · exact ⟨.map es', by unfold updH; rw [if_neg (by simp)]; simp [updU, hji]⟩
    · exact ⟨b, by unfold updH; rw [if_neg (by simp)]; simp [updU, hji, hb']⟩
  · rcases hlook j b hj with ⟨rfl, rfl⟩ | ⟨hne, hj⟩
    · exact .inl ⟨j, _, q, hb, rfl, hq, hk⟩
    · exact .inl ⟨j, b, q, hj, ho, hq, hk⟩
  · rcases hlook j b hj with ⟨rfl, rfl⟩ | ⟨hne, hj⟩
    · exact .inl ⟨j, _, q, hb, rfl, hq, hk⟩
    · exact .inl ⟨j, b, q, hj, ho, hq, hk⟩
theorem hop_mset {P : Program} {F : Fns} {t k el : TypeId} {x y u : Operand} {x' y' u' : Opd} (hx : okOpd x x' = true) (hy : okOpd y y' = true) (hu : okOpd u u' = true) (ht : P.underlying t = some (.map k el)) (K : KeyT P k) : HopOK P F (.mapUpdate t x y u) (.mset x' y' u') := by
  intro φ H e a w base r op hop he hh hev hf h0
  have hx := opd_ok he hx
  have hy := opd_ok he hy
  have hu := opd_ok he hu
  simp only [HOp.ev] at hev
  split at hev
  · rename_i i cs kd n hm hk hn
    rw [hm] at hx
    rw [hk] at hy
    rw [hn] at hu
    split at hev
    · rename_i es hb
      split at hev
      · rename_i hc
        obtain ⟨hkc, hmk⟩ := hc
        obtain ⟨hall, hnd⟩ := mapK_split hmk
        injection hev with hev
        subst hev
        obtain ⟨p, hp, hv⟩ := map_val hx
        obtain ⟨r, rfl, hrl, hrw⟩ := keyC_ints hkc
        have hkv := key_val hy
        have huv : a.eval u = .int kd n := hu
        obtain ⟨en, cl, g1, g2⟩ := hh.blk i _ p hb hp
        obtain ⟨l, hl⟩ := keyOf24 K hrl hrw
        have hfind := K.law.find w hl en.toList (entries_keys K g2 hall)
        have hrv : ∀ f : Phi, VRc f (.int kd n) (.int kd n) := fun _ => rfl
        rcases hfind with ⟨h1, h2⟩ | ⟨j, e0, h1, h2, h3⟩
        · have fn : findK (r.map (C.int .i64)) es = none := by
            rcases find_ok hrl g2 hall hnd with ⟨f1, _⟩ | ⟨c, _, ⟨m1, hm1, hm2⟩, _⟩
            · exact f1
            · exact (h2 m1 hm1 hm2).elim
          refine .inr (.inl ⟨{ w with heap := w.heap.setIfInBounds p.b (.map (en.push { key := keyV24 r, val := .int kd n, born := cl }) (cl + 1)) }, ?_, φ, rfl, ?_⟩)
          · simp only [execOp, hop, Sem.run_bind]
            rw [hv, hkv, huv]
            simp [Instr.mapUpdate, run_underlying ht, MapKept.run_getObj_map g1, K.law.check w false hl, h1, MapKept.run_setObj_map _ g1, Result.andThen]
          · rw [setK_new fn]
            refine OutOK.writeM base hh hb hp ⟨_, g1⟩ rfl rfl rfl rfl ?_
            rw [Array.toList_push]
            exact All2.snoc g2 ⟨⟨r.map (Value.int .i64), rfl, ints24_ok _ r⟩, rfl⟩
        · have hj' : en[j]? = some e0 := by simpa using h2
          refine .inr (.inl ⟨{ w with heap := w.heap.setIfInBounds p.b (.map (en.modify j fun e => { e with key := keyV24 r, val := .int kd n }) cl) }, ?_, φ, rfl, ?_⟩)
          · simp only [execOp, hop, Sem.run_bind]
            rw [hv, hkv, huv]
            simp [Instr.mapUpdate, run_underlying ht, MapKept.run_getObj_map g1, K.law.check w false hl, h1, hj', h3, K.law.stays w hl, MapKept.run_setObj_map _ g1, Result.andThen]
          · refine OutOK.writeM base hh hb hp ⟨_, g1⟩ rfl rfl rfl rfl ?_
            rw [Array.toList_modify]
            exact set_ok (hrv φ) g2 hall hnd h2 h3 _ fun m _ => ⟨rfl, rfl⟩
      · cases hev
    · cases hev
  · cases hev
theorem hop_minsert {P : Program} {F : Fns} {t k el : TypeId} {x y u : Operand} {x' y' u' : Opd} (hx : okOpd x x' = true) (hy : okOpd y y' = true) (hu : okOpd u u' = true) (ht : P.underlying t = some (.map k el)) (K : KeyT P k) : HopOK P F (.insert t x y u) (.mset x' y' u') := by
  intro φ H e a w base r op hop he hh hev hf h0
  have h := hop_mset (F := F) hx hy hu ht K φ H e a w base r { op with op := .mapUpdate t x y u } rfl he hh hev hf h0
  have e1 : execOp a.eval { op with op := .mapUpdate t x y u } = execOp a.eval op := by simp only [execOp, hop]
  unfold Does at h ⊢
  rw [e1] at h
  exact h
end Go.Proofs.YtgpafbbnobanbaaGreatDoor.AM

/-
  A call: what is reached from its arguments goes into a heap of the callee's own, and comes back.
-/
namespace Go.Proofs.YtgpafbbnobanbaaGreatDoor.AM
open Go

/-- the model's call of a function: it is entered and returns, or its value is there at once -/
def Invokes (P : Program) (f : FuncId) (args : Array Value) (w : World) (R : Value → World → Prop) : Prop :=
  (∃ rv w', (callFunc f args).run P w = .ok (.value rv) w' ∧ R rv w') ∨ ((callFunc f args).run P w = .ok (.enter f args) w ∧ Calls P f args w fun e w' => ∃ rv, e = .returned rv ∧ R rv w')
/-- what an answer of the abstract machine says of the model -/
def FnOK (P : Program) (F : Fns) : Prop :=
  ∀ f args h res h', F f args h = some (res, h') → ∀ (φ : Phi) (w : World) (vs : List Value), HeapOK φ (lkp h) w → All2 (VR φ) args vs →
    Invokes P f vs.toArray w fun rv w' => ∃ φ', (∀ i, i < h.length → φ' i = φ i) ∧ VR φ' res rv ∧ Mv φ (lkp h) w φ' (lkp h') w'

theorem reach_nodup (H : HF) : ∀ (n : Nat) (todo seen : List Nat), seen.Nodup → (reach H n todo seen).Nodup
  | 0, _, _, h => h
  | _ + 1, [], _, h => h
  | n + 1, i :: todo, seen, h => by
    unfold reach
    split
    · exact reach_nodup H n todo seen h
    · rename_i hi
      exact reach_nodup H n _ _ (List.nodup_append.2 ⟨h, by simp, fun a ha b hb => by simp at hb; subst hb; exact fun e => hi (e ▸ ha)⟩)
theorem pos_get : ∀ {L : List Nat} {i : Nat}, i ∈ L → L[pos L i]? = some i
  | [], _, h => by simp at h
  | a :: L, i, h => by
    unfold pos
    split
    · rename_i e; subst e; simp
    · rename_i hne
      have : i ∈ L := by rcases List.mem_cons.1 h with e | e; exact absurd e.symm hne; exact e
      simpa using pos_get this
theorem pos_of_get : ∀ {L : List Nat} {i a : Nat}, L.Nodup → L[i]? = some a → pos L a = i
  | [], _, _, _, h => by simp at h
  | b :: L, 0, a, _, h => by simp at h; simp [pos, h]
  | b :: L, i + 1, a, hn, h => by
    have h1 : L[i]? = some a := by simpa using h
    have hne : b ≠ a := fun e => (List.nodup_cons.1 hn).1 (e ▸ List.mem_of_getElem? h1)
    simp [pos, hne, pos_of_get (List.nodup_cons.1 hn).2 h1]
theorem nodup_inj {L : List Nat} (hn : L.Nodup) {i j a : Nat} (h1 : L[i]? = some a) (h2 : L[j]? = some a) : i = j := (pos_of_get hn h1).symm.trans (pos_of_get hn h2)
theorem inL_mem {L is : List Nat} (h : inL L is = true) {i : Nat} (hi : i ∈ is) : i ∈ L := by
  have := List.all_eq_true.1 h i hi
  simpa using this
/-- the places of the callee's numbers -/
def Phi.sub (φ : Phi) (L : List Nat) : Phi := fun j => (L[j]?).bind φ
theorem keeps_sub {φ : Phi} {L is : List Nat} (h : inL L is = true) : Keeps φ (φ.sub L) (pos L) is := by
  intro i hi p hp
  unfold Phi.sub
  rw [pos_get (inL_mem h hi)]
  exact hp
theorem lkp_sub {L : List Nat} {H : HF} {j : Nat} {b : Blk} (h : lkp (sub L H) j = some b) : ∃ i, L[j]? = some i ∧ b = ((H i).getD .dead).mp (pos L) := by
  unfold lkp AM.sub at h
  rw [List.getElem?_map] at h
  obtain ⟨i, hi, hb⟩ := Option.map_eq_some_iff.1 h
  exact ⟨i, hi, hb.symm⟩
theorem closed_at {L : List Nat} {H : HF} (h : closed L H = true) {i : Nat} (hi : i ∈ L) : ∃ b, H i = some b ∧ inL L b.ids = true := by
  have := List.all_eq_true.1 h i hi
  simp only [Bool.and_eq_true] at this
  obtain ⟨b, hb⟩ := Option.isSome_iff_exists.1 this.1
  refine ⟨b, hb, ?_⟩
  have h2 := this.2
  unfold idsAt at h2
  rw [hb] at h2
  exact h2
theorem OS.sub {φ : Phi} {H : HF} {L : List Nat} (hc : closed L H = true) {k : Nat} (h : OS (φ.sub L) (lkp (AM.sub L H)) k) : ∃ i b p, i ∈ L ∧ H i = some b ∧ b.own = true ∧ φ i = some p ∧ p.b = k := by
  obtain ⟨j, b, p, hb, ho, hp, hk⟩ := h
  obtain ⟨i, hi, rfl⟩ := lkp_sub hb
  obtain ⟨c, hc1, _⟩ := closed_at hc (List.mem_of_getElem? hi)
  rw [hc1] at ho
  unfold Phi.sub at hp
  rw [hi] at hp
  exact ⟨i, c, p, List.mem_of_getElem? hi, hc1, by simpa [Blk.own_mp] using ho, hp, hk⟩
/-- the part of the heap that L names -/
theorem HeapOK.sub {φ : Phi} {H : HF} {w : World} {L : List Nat} (h : HeapOK φ H w) (hn : L.Nodup) (hc : closed L H = true) : HeapOK (φ.sub L) (lkp (AM.sub L H)) w := by
  have key : ∀ j b, lkp (AM.sub L H) j = some b → ∃ i c, L[j]? = some i ∧ H i = some c ∧ b = c.mp (pos L) ∧ inL L c.ids = true := by
    intro j b hb
    obtain ⟨i, hi, rfl⟩ := lkp_sub hb
    obtain ⟨c, hc1, hc2⟩ := closed_at hc (List.mem_of_getElem? hi)
    exact ⟨i, c, hi, hc1, by rw [hc1]; rfl, hc2⟩
  have hphi : ∀ j i p, L[j]? = some i → φ.sub L j = some p → φ i = some p := by
    intro j i p hi hp
    unfold Phi.sub at hp
    rw [hi] at hp
    exact hp
  refine ⟨⟨fun j b p hb hp => ?_, fun j k b c p q hb hc' ho hl hjk hp hq => ?_, fun j p hp => ?_⟩, h.tab.1, fun g cs hg hos => h.tab.2 g cs hg (by
    obtain ⟨i, b, p, _, hb, ho, hp, hk⟩ := OS.sub hc hos
    exact ⟨i, b, p, hb, ho, hp, hk⟩)⟩
  · obtain ⟨i, c, hi, hc1, rfl, hc2⟩ := key j b hb
    exact (h.blk i c p hc1 (hphi j i p hi hp)).mp rfl (keeps_sub hc2)
  · obtain ⟨i, b', hi, hb1, rfl, _⟩ := key j b hb
    obtain ⟨i', c', hi', hc1, rfl, _⟩ := key k c hc'
    refine h.sep i i' b' c' p q hb1 hc1 (by rwa [Blk.own_mp] at ho) (by rwa [Blk.live_mp] at hl) (fun e => hjk ?_) (hphi j i p hi hp) (hphi k i' q hi' hq)
    subst e
    exact nodup_inj hn hi hi'
  · unfold Phi.sub at hp
    obtain ⟨i, hi, hp⟩ := Option.bind_eq_some_iff.1 hp
    refine ⟨((H i).getD .dead).mp (pos L), ?_⟩
    unfold lkp AM.sub
    rw [List.getElem?_map, hi]
    rfl
theorem LS.sub {φ : Phi} {H : HF} {L : List Nat} (hc : closed L H = true) {k : Nat} (h : LS (φ.sub L) (lkp (AM.sub L H)) k) : ∃ i b p, i ∈ L ∧ H i = some b ∧ b.live = true ∧ φ i = some p ∧ p.b = k := by
  obtain ⟨j, b, p, hb, ho, hp, hk⟩ := h
  obtain ⟨i, hi, rfl⟩ := lkp_sub hb
  obtain ⟨c, hc1, _⟩ := closed_at hc (List.mem_of_getElem? hi)
  rw [hc1] at ho
  unfold Phi.sub at hp
  rw [hi] at hp
  exact ⟨i, c, p, List.mem_of_getElem? hi, hc1, by simpa [Blk.live_mp] using ho, hp, hk⟩
theorem updU_zip : ∀ (L : List Nat) (bs : List Blk) (H : HF) (i : Nat), L.Nodup → L.length = bs.length → updU (L.zip bs) H i = if i ∈ L then bs[pos L i]? else H i
  | [], [], H, i, _, _ => by simp [updU]
  | a :: L, b :: bs, H, i, hn, hl => by
    simp only [List.zip_cons_cons, updU]
    rw [updU_zip L bs _ i (List.nodup_cons.1 hn).2 (by simpa using hl)]
    by_cases hi : i ∈ L
    · have hne : a ≠ i := fun e => (List.nodup_cons.1 hn).1 (e ▸ hi)
      simp [hi, pos, hne]
    · by_cases ha : i = a
      · subst ha; simp [hi, pos]
      · simp [hi, ha]
  | [], _ :: _, _, _, _, h => by simp at h
  | _ :: _, [], _, _, _, h => by simp at h
theorem hop_callA {P : Program} {F : Fns} (hF : FnOK P F) {φ : Phi} {H : HF} {w : World} {f : Nat} {args : List V} {vs : List Value} {base : Nat} {r : Out} (hh : HeapOK φ H w) (ha : All2 (VR φ) args vs) (hev : callA F f args H base = some r) (hf : Free φ base r.2.1.length) :
    Invokes P f vs.toArray w (ROut φ H w base r) := by
  unfold callA at hev
  simp only at hev
  split at hev
  · rename_i hcl
    obtain ⟨L, hL⟩ : ∃ L, L = reach H 64 (args.flatMap V.ids) [] := ⟨_, rfl⟩
    rw [← hL] at hev hcl
    obtain ⟨hc, hin⟩ := hcl
    have hn : L.Nodup := by rw [hL]; exact reach_nodup H _ _ _ List.nodup_nil
    obtain ⟨rr, hrr, hev⟩ := Option.bind_eq_some_iff.1 hev
    obtain ⟨res, h'⟩ := rr
    split at hev
    · rename_i hlen
      simp only at hlen
      injection hev with hev
      subst hev
      have hhs := hh.sub hn hc
      have hargs : All2 (VR (φ.sub L)) (args.map (V.mp (pos L))) vs := ha.map_left _ fun v hv u hu => hu.mp (keeps_sub (by
        rw [inL, List.all_eq_true] at hin ⊢
        intro i hi
        exact hin i (List.mem_flatMap.2 ⟨v, hv, hi⟩)))
      have hsl : (AM.sub L H).length = L.length := by simp [AM.sub]
      have hinv := hF f _ _ res h' hrr (φ.sub L) w vs hhs hargs
      have main : ∀ rv w', (∃ φ', (∀ i, i < (AM.sub L H).length → φ' i = φ.sub L i) ∧ VR φ' res rv ∧ Mv (φ.sub L) (lkp (AM.sub L H)) w φ' (lkp h') w') →
          ROut φ H w base (res.mp (back L base), (h'.drop L.length).map (Blk.mp (back L base)), L.zip ((h'.take L.length).map (Blk.mp (back L base)))) rv w' := by
        rintro rv w' ⟨φ2, hold, hres, hmv⟩
        rw [hsl] at hold
        simp only [List.length_map, List.length_drop] at hf
        obtain ⟨k, hk⟩ : ∃ k, k = h'.length - L.length := ⟨_, rfl⟩
        rw [← hk] at hf
        obtain ⟨φ1, hφ1⟩ : ∃ φ1 : Phi, φ1 = fun i => if base ≤ i ∧ i < base + k then φ2 (L.length + (i - base)) else φ i := ⟨_, rfl⟩
        have hφo : ∀ i, (i < base ∨ base + k ≤ i) → φ1 i = φ i := fun i hi => by rw [hφ1]; simp only; rw [if_neg (by omega)]
        have hφn : ∀ i, base ≤ i → i < base + k → φ1 i = φ2 (L.length + (i - base)) := fun i h1 h2 => by rw [hφ1]; simp only; rw [if_pos ⟨h1, h2⟩]
        have hle : Le φ φ1 := le_of_old hφo hf
        have hout : ∀ i p, φ i = some p → i < base ∨ base + k ≤ i := by
          intro i p hp
          by_cases hi : i < base ∨ base + k ≤ i
          · exact hi
          · have := hf (i - base) (by omega)
            rw [show base + (i - base) = i by omega, hp] at this
            cases this
        have hkeep : ∀ is, Keeps φ2 φ1 (back L base) is := by
          intro is j _ p hp
          unfold back
          by_cases hj : j < L.length
          · rw [if_pos hj]
            rw [hold j hj] at hp
            unfold Phi.sub at hp
            rw [List.getElem?_eq_getElem hj] at hp
            have e1 : L.getD j 0 = L[j] := by rw [List.getD_eq_getElem?_getD, List.getElem?_eq_getElem hj]; rfl
            rw [e1]
            exact hle _ _ hp
          · rw [if_neg hj]
            obtain ⟨b, hb⟩ := hmv.ok.dom j p hp
            have hjl : j < h'.length := (List.getElem?_eq_some_iff.1 hb).1
            rw [hφn _ (by omega) (by omega)]
            rw [show L.length + (base + (j - L.length) - base) = j by omega]
            exact hp
        refine ⟨φ1, hres.mp (hkeep _), ?_⟩
        have hzl : L.length = ((h'.take L.length).map (Blk.mp (back L base))).length := by simp; omega
        /- what is at a number behind the call -/
        have hlook : ∀ i b, updH H base ((h'.drop L.length).map (Blk.mp (back L base))) (L.zip ((h'.take L.length).map (Blk.mp (back L base)))) i = some b →
            (∃ j c, lkp h' j = some c ∧ b = c.mp (back L base) ∧ i = back L base j ∧ ∀ p, φ1 i = some p → φ2 j = some p) ∨ (i ∉ L ∧ (i < base ∨ base + k ≤ i) ∧ H i = some b) := by
          intro i b hb
          unfold updH at hb
          simp only [List.length_map, List.length_drop, ← hk] at hb
          by_cases hi : base ≤ i ∧ i < base + k
          · rw [if_pos hi, List.getElem?_map, List.getElem?_drop] at hb
            obtain ⟨c, hc1, hc2⟩ := Option.map_eq_some_iff.1 hb
            refine .inl ⟨L.length + (i - base), c, hc1, hc2.symm, ?_, fun p hp => ?_⟩
            · unfold back; rw [if_neg (by omega)]; omega
            · rw [hφn i hi.1 hi.2] at hp; exact hp
          · rw [if_neg hi, updU_zip _ _ _ _ hn hzl] at hb
            by_cases hiL : i ∈ L
            · rw [if_pos hiL, List.getElem?_map] at hb
              obtain ⟨c, hc1, hc2⟩ := Option.map_eq_some_iff.1 hb
              have hpg := pos_get hiL
              have hpl := (List.getElem?_eq_some_iff.1 hpg).1
              rw [List.getElem?_take, if_pos hpl] at hc1
              refine .inl ⟨pos L i, c, hc1, hc2.symm, ?_, fun p hp => ?_⟩
              · unfold back; rw [if_pos hpl, List.getD_eq_getElem?_getD, hpg]; rfl
              · rw [hold _ hpl]
                unfold Phi.sub
                rw [hpg, hφo i (by omega)] at *
                exact hp
            · rw [if_neg hiL] at hb
              exact .inr ⟨hiL, by omega, hb⟩
        have hinj : ∀ j j' : Nat, j < h'.length → j' < h'.length → back L base j = back L base j' → (∃ p, φ2 j = some p) → (∃ p, φ2 j' = some p) → j = j' := by
          intro j j' hj hj' he ⟨p, hp⟩ ⟨q, hq⟩
          unfold back at he
          have inr : ∀ a, a < L.length → (∃ p, φ2 a = some p) → L.getD a 0 < base ∨ base + k ≤ L.getD a 0 := by
            intro a ha ⟨p, hp⟩
            rw [hold a ha] at hp
            unfold Phi.sub at hp
            rw [List.getElem?_eq_getElem ha] at hp
            have e1 : L.getD a 0 = L[a] := by rw [List.getD_eq_getElem?_getD, List.getElem?_eq_getElem ha]; rfl
            rw [e1]
            exact hout _ p hp
          by_cases h1 : j < L.length <;> by_cases h2 : j' < L.length
          · rw [if_pos h1, if_pos h2] at he
            rw [List.getD_eq_getElem?_getD, List.getD_eq_getElem?_getD, List.getElem?_eq_getElem h1, List.getElem?_eq_getElem h2] at he
            exact nodup_inj hn (List.getElem?_eq_getElem h1) (by rw [List.getElem?_eq_getElem h2]; simpa using he.symm)
          · rw [if_pos h1, if_neg h2] at he
            have := inr j h1 ⟨p, hp⟩
            omega
          · rw [if_neg h1, if_pos h2] at he
            have := inr j' h2 ⟨q, hq⟩
            omega
          · rw [if_neg h1, if_neg h2] at he
            omega
        have hfar : ∀ i b p, i ∉ L → H i = some b → φ i = some p → b.live = true → p.b < w.heap.size ∧ w'.heap[p.b]? = w.heap[p.b]? ∧ ¬ OS (φ.sub L) (lkp (AM.sub L H)) p.b := by
          intro i b p hiL hb hp hl
          have hlt := (hh.blk i b p hb hp).lt hl
          have hno : ¬ OS (φ.sub L) (lkp (AM.sub L H)) p.b := by
            intro hos
            obtain ⟨i0, b0, p0, hi0, hb0, ho0, hp0, he0⟩ := OS.sub hc hos
            exact hh.sep i0 i b0 b p0 p hb0 hb ho0 hl (fun e => hiL (e ▸ hi0)) hp0 hp he0
          exact ⟨hlt, hmv.fr.block _ hlt hno, hno⟩
        have hold1 : ∀ i p, (i < base ∨ base + k ≤ i) → φ1 i = some p → φ i = some p := fun i p hi hp => by rw [← hφo i hi]; exact hp
        refine ⟨fun i hi => hφo i (by simp only [List.length_map, List.length_drop, ← hk] at hi; exact hi), Mv.mk' hh ⟨fun i b p hb hp => ?_, fun i j b c p q hb hc' ho hl hij hp hq => ?_, fun i p hp => ?_⟩ ⟨hmv.fr.os, hmv.fr.tape, hmv.fr.output, hmv.fr.size, fun a ha hS => hmv.fr.block a ha fun hos => hS ?_⟩ (fun a ⟨i, b, p, hb, ho, hp, hka⟩ => ?_) (fun a ⟨i, b, p, hb, ho, hp, hka⟩ => ?_)⟩
        · rcases hlook i b hb with ⟨j, c, hc1, rfl, rfl, hp2⟩ | ⟨hiL, hi, hb⟩
          · exact (hmv.ok.blk j c p hc1 (hp2 p hp)).mp rfl (hkeep _)
          · have hp0 := hold1 i p hi hp
            cases hl : b.live with
            | false => cases b <;> simp [Blk.live] at hl; trivial
            | true => exact (hh.blk i b p hb hp0).mono (hfar i b p hiL hb hp0 hl).2.1 hle
        · rcases hlook i b hb with ⟨j1, c1, hc1, rfl, rfl, hp2⟩ | ⟨hiL, hi, hb1⟩ <;> rcases hlook j c hc' with ⟨j2, c2, hc2, rfl, rfl, hq2⟩ | ⟨hjL, hj, hb2⟩
          · exact hmv.ok.sep j1 j2 c1 c2 p q hc1 hc2 (by rwa [Blk.own_mp] at ho) (by rwa [Blk.live_mp] at hl) (fun e => hij (by rw [e])) (hp2 p hp) (hq2 q hq)
          · have hq0 := hold1 j q hj hq
            obtain ⟨f1, f2, f3⟩ := hfar j c q hjL hb2 hq0 hl
            have hos := hmv.own p.b ⟨j1, c1, p, hc1, by rwa [Blk.own_mp] at ho, hp2 p hp, rfl⟩
            intro e
            rcases hos with hos | hos
            · exact f3 (e ▸ hos)
            · omega
          · have hp0 := hold1 i p hi hp
            have hls := hmv.lv q.b ⟨j2, c2, q, hc2, by rwa [Blk.live_mp] at hl, hq2 q hq, rfl⟩
            intro e
            rcases hls with hls | hls
            · obtain ⟨i0, b0, p0, hi0, hb0, hl0, hp00, he0⟩ := LS.sub hc hls
              exact hh.sep i i0 b b0 p p0 hb1 hb0 ho hl0 (fun e => hiL (e ▸ hi0)) hp0 hp00 (e.trans he0.symm)
            · have := (hh.blk i b p hb1 hp0).lt (Blk.live_of_own ho)
              omega
          · exact hh.sep i j b c p q hb1 hb2 ho hl hij (hold1 i p hi hp) (hold1 j q hj hq)
        · by_cases hi : base ≤ i ∧ i < base + k
          · have hlt : i - base < h'.length - L.length := by omega
            refine ⟨(h'[L.length + (i - base)]'(by omega)).mp (back L base), ?_⟩
            unfold updH
            rw [if_pos (by simp only [List.length_map, List.length_drop]; omega), List.getElem?_map, List.getElem?_drop, List.getElem?_eq_getElem (by omega)]
            rfl
          · obtain ⟨b, hb⟩ := hh.dom i p (hold1 i p (by omega) hp)
            by_cases hiL : i ∈ L
            · have hpl := (List.getElem?_eq_some_iff.1 (pos_get hiL)).1
              refine ⟨(h'[pos L i]'(by omega)).mp (back L base), ?_⟩
              unfold updH
              rw [if_neg (by simp only [List.length_map, List.length_drop]; omega), updU_zip _ _ _ _ hn hzl, if_pos hiL, List.getElem?_map, List.getElem?_take, if_pos hpl, List.getElem?_eq_getElem (by omega)]
              rfl
            · exact ⟨b, by unfold updH; rw [if_neg (by simp only [List.length_map, List.length_drop]; omega), updU_zip _ _ _ _ hn hzl, if_neg hiL]; exact hb⟩
        · obtain ⟨i0, b0, p0, _, hb0, ho0, hp0, he0⟩ := OS.sub hc hos
          exact ⟨i0, b0, p0, hb0, ho0, hp0, he0⟩
        · rcases hlook i b hb with ⟨j, c, hc1, rfl, rfl, hp2⟩ | ⟨hiL, hi, hb⟩
          · rcases hmv.own a ⟨j, c, p, hc1, by rwa [Blk.own_mp] at ho, hp2 p hp, hka⟩ with hos | hos
            · obtain ⟨i0, b0, p0, _, hb0, ho0, hp0, he0⟩ := OS.sub hc hos
              exact .inl ⟨i0, b0, p0, hb0, ho0, hp0, he0⟩
            · exact .inr hos
          · exact .inl ⟨i, b, p, hb, ho, hold1 i p hi hp, hka⟩
        · rcases hlook i b hb with ⟨j, c, hc1, rfl, rfl, hp2⟩ | ⟨hiL, hi, hb⟩
          · rcases hmv.lv a ⟨j, c, p, hc1, by rwa [Blk.live_mp] at ho, hp2 p hp, hka⟩ with hos | hos
            · obtain ⟨i0, b0, p0, _, hb0, ho0, hp0, he0⟩ := LS.sub hc hos
              exact .inl ⟨i0, b0, p0, hb0, ho0, hp0, he0⟩
            · exact .inr hos
          · exact .inl ⟨i, b, p, hb, ho, hold1 i p hi hp, hka⟩
      rcases hinv with ⟨rv, w', hr, h⟩ | ⟨hr, h⟩
      · exact .inl ⟨rv, w', hr, main rv w' h⟩
      · exact .inr ⟨hr, h.mono fun e w' ⟨rv, he, h⟩ => ⟨rv, he, main rv w' h⟩⟩
    · cases hev
  · cases hev

theorem ops_ok {φ : Phi} {e : Env} {a : Act} (he : EnvOK φ e a) : ∀ {xs : List Operand} {ys : List Opd}, All2 (fun x y => okOpd x y = true) xs ys → All2 (VR φ) (ys.map (Opd.ev e)) (xs.map a.eval)
  | [], [], _ => trivial
  | _ :: _, _ :: _, h => ⟨opd_ok he h.1, ops_ok he h.2⟩
  | [], _ :: _, h => h.elim
  | _ :: _, [], h => h.elim
theorem ptrs_ok {φ : Phi} : ∀ {cs : List (Nat × Nat)} {vs : List Value}, All2 (PR φ) cs vs → All2 (VR φ) (cs.map fun p => V.c (.ptr p.1 p.2)) vs
  | [], [], _ => trivial
  | _ :: _, _ :: _, h => ⟨h.1, ptrs_ok h.2⟩
  | [], _ :: _, h => h.elim
  | _ :: _, [], h => h.elim
theorem hop_call {P : Program} {F : Fns} (hF : FnOK P F) {ts : Array TypeId} {f : Operand} {g : Opd} {xs : Array Operand} {ys : List Opd} (hf : okOpd f g = true) (h : All2 (fun x y => okOpd x y = true) xs.toList ys) : HopOK P F (.call { callee := .value f, args := xs, argTypes := ts }) (.call g ys) := by
  intro φ H e a w base r op hop he hh hev hfr h0
  have hf := opd_ok he hf
  simp only [HOp.ev] at hev
  split at hev
  · rename_i k caps hm
    rw [hm] at hf
    obtain ⟨cs, hv, hcs⟩ := hf
    have hargs : All2 (VR φ) (ys.map (Opd.ev e) ++ caps.map fun p => V.c (.ptr p.1 p.2)) (xs.toList.map a.eval ++ cs) := (ops_ok he h).append (ptrs_ok hcs)
    have hinv := hop_callA hF hh hargs hev hfr
    have he1 : (xs.map a.eval) ++ cs.toArray = (xs.toList.map a.eval ++ cs).toArray := by
      apply Array.ext'; simp
    have hrun : (execOp a.eval op).run P w = (callFunc k (xs.toList.map a.eval ++ cs).toArray).run P w := by
      rw [← he1]
      simp [execOp, hop, resolve, hv, Deferred.ofValue, invoke]
    rcases hinv with ⟨rv, w', hr, hR⟩ | ⟨hr, hR⟩
    · exact .inl ⟨rv, w', hrun.trans hr, hR⟩
    · exact .inr (.inr ⟨_, _, hrun.trans hr, hR⟩)
  · cases hev
end Go.Proofs.YtgpafbbnobanbaaGreatDoor.AM

/-
  Which code of the model a code of the abstract machine stands for: a test by computation, and what it gives.
-/
namespace Go.Proofs.YtgpafbbnobanbaaGreatDoor.AM
open Go

def okOpds : List Operand → List Opd → Bool
  | [], [] => true
  | x :: xs, y :: ys => okOpd x y && okOpds xs ys
  | _, _ => false
theorem okOpds_ok : ∀ {xs : List Operand} {ys : List Opd}, okOpds xs ys = true → All2 (fun x y => okOpd x y = true) xs ys
  | [], [], _ => trivial
  | _ :: _, _ :: _, h => by
    simp only [okOpds, Bool.and_eq_true] at h
    exact ⟨h.1, okOpds_ok h.2⟩
  | [], _ :: _, h => by simp [okOpds] at h
  | _ :: _, [], h => by simp [okOpds] at h
def zeroT (P : Program) (t : TypeId) : Option Value := (P.info? t).bind (·.zero)
def okZ (P : Program) (t : TypeId) (z : List Z) : Bool := match zeroT P t with | some v => okZs v.cells.toList z | none => false
/-- the place of a part in a literal of a type -/
def placeT (P : Program) (t : TypeId) : Option (Nat → Option (Nat × Nat)) :=
  match P.underlying t with
  | some (.struct fs) => if fs.toList.all fun f => (szT P f.type).isSome then some fun i => (fs.map fun f => (f.offset, (szT P f.type).getD 0))[i]? else none
  | some (.array _ el) => (szT P el).map fun sz => fun i => some (i * sz, sz)
  | _ => none
def okParts (place : Nat → Option (Nat × Nat)) : List (Nat × Operand) → List (Nat × Nat × Opd) → Bool
  | [], [] => true
  | (i, x) :: ps, (o, n, y) :: qs => (place i == some (o, n)) && okOpd x y && okParts place ps qs
  | _, _ => false
theorem okParts_ok {place : Nat → Option (Nat × Nat)} : ∀ {ps : List (Nat × Operand)} {qs : List (Nat × Nat × Opd)}, okParts place ps qs = true → PartsOK place ps qs
  | [], [], _ => trivial
  | (i, x) :: ps, (o, n, y) :: qs, h => by
    simp only [okParts, Bool.and_eq_true] at h
    exact ⟨by simpa using h.1.1, h.1.2, okParts_ok h.2⟩
  | [], _ :: _, h => by simp [okParts] at h
  | _ :: _, [], h => by simp [okParts] at h
def isNilC : Operand → Bool | .const (.slice none 0 0) => true | _ => false
def isZeroC : Operand → Bool | .const (.int .i64 0) => true | _ => false
def isNilI : Operand → Bool | .const .nilIface => true | _ => false
theorem isNilC_ok {x : Operand} (h : isNilC x = true) : x = .const (.slice none 0 0) := by unfold isNilC at h; split at h <;> first | rfl | cases h
theorem isZeroC_ok {x : Operand} (h : isZeroC x = true) : x = .const (.int .i64 0) := by unfold isZeroC at h; split at h <;> first | rfl | cases h
theorem isNilI_ok {x : Operand} (h : isNilI x = true) : x = .const .nilIface := by unfold isNilI at h; split at h <;> first | rfl | cases h
def eqOp (op : BinOp) (neg : Bool) : Bool := op == (if neg then BinOp.neq else BinOp.eql)
theorem eqOp_ok {op : BinOp} {neg : Bool} (h : eqOp op neg = true) : op = if neg then BinOp.neq else BinOp.eql := by simpa [eqOp] using h
def slEl (P : Program) (t : TypeId) : Option TypeId := match P.underlying t with | some (.slice el) => some el | _ => none
theorem slEl_ok {P : Program} {t el : TypeId} (h : slEl P t = some el) : P.underlying t = some (.slice el) := by
  unfold slEl at h; split at h <;> first | (injection h with h; subst h; assumption) | cases h
def arEl (P : Program) (t : TypeId) : Option (Nat × TypeId) := match P.underlying t with | some (.array n el) => some (n, el) | _ => none
theorem arEl_ok {P : Program} {t el : TypeId} {n : Nat} (h : arEl P t = some (n, el)) : P.underlying t = some (.array n el) := by
  unfold arEl at h; split at h <;> first | (injection h with h; injection h with h1 h2; subst h1; subst h2; assumption) | cases h
def stF (P : Program) (t : TypeId) (i : Nat) : Option Field := match P.underlying t with | some (.struct fs) => fs[i]? | _ => none
theorem stF_ok {P : Program} {t : TypeId} {i : Nat} {f : Field} (h : stF P t i = some f) : ∃ fs, P.underlying t = some (.struct fs) ∧ fs[i]? = some f := by
  unfold stF at h; split at h <;> first | exact ⟨_, by assumption, h⟩ | cases h
def isStr (P : Program) (t : TypeId) : Bool := match P.underlying t with | some .string => true | _ => false
theorem isStr_ok {P : Program} {t : TypeId} (h : isStr P t = true) : P.underlying t = some .string := by
  unfold isStr at h; split at h <;> first | assumption | cases h
def intK (P : Program) (t : TypeId) : Option IntKind := match P.underlying t with | some (.int k) => some k | _ => none
theorem intK_ok {P : Program} {t : TypeId} {k : IntKind} (h : intK P t = some k) : P.underlying t = some (.int k) := by
  unfold intK at h; split at h <;> first | (injection h with h; subst h; assumption) | cases h
def isBoolT (P : Program) (t : TypeId) : Bool := match P.underlying t with | some .bool => true | _ => false
theorem isBoolT_ok {P : Program} {t : TypeId} (h : isBoolT P t = true) : P.underlying t = some .bool := by
  unfold isBoolT at h; split at h <;> first | assumption | cases h
def isIfT (P : Program) (t : TypeId) : Bool := match P.underlying t with | some (.interface _) => true | _ => false
theorem isIfT_ok {P : Program} {t : TypeId} (h : isIfT P t = true) : ∃ ms, P.underlying t = some (.interface ms) := by
  unfold isIfT at h; split at h <;> first | exact ⟨_, by assumption⟩ | cases h

def okP (P : Program) (o : Op) (q : POp) : Bool :=
  match o, q with
  | .move x, .mv y | .assign x, .mv y => okOpd x y
  | .move x, .nilsl _ | .assign x, .nilsl _ => isNilC x
  | .pick c a b, .pick c' a' b' => okOpd c c' && okOpd a a' && okOpd b b'
  | .alloc t, .alloc z => okZ P t z
  | .box _ x, .box _ y => okOpd x y
  | .build t ps, .build z qs => okZ P t z && (match placeT P t with | some pl => okParts pl ps.toList qs | none => false)
  | .buildSlice t k ps, .mksl sz k' z qs => (k == k') && (match slEl P t with
      | some el => (szT P el == some sz) && okZ P el z && (match zeroT P el with | some v => v.cells.size == sz | none => false) && okParts (fun i => some (i * sz, sz)) ps.toList qs && decide (k * sz ≤ 16777216) && decide (k ≤ 16777216)
      | none => false)
  | .makeSlice t l c, .mkslice sz z l' c' => okOpd l l' && okOpd c c' && (match slEl P t with
      | some el => (szT P el == some sz) && okZ P el z && (match zeroT P el with | some v => v.cells.size == sz | none => false) && decide (P.bytesOf el ≤ 2048)
      | none => false)
  | .binOp op _ x y _, .bin op' x' y' => (op == op') && okOpd x x' && okOpd y y'
  | .binOp op t x y _, .eqv neg ks x' y' => eqOp op neg && okOpd x x' && okOpd y y' && (aggT P t == some true) && (tyKinds P 12 t == some ks) && (P.eqGuardType P.depth t == false)
  | .binOp op t x y _, .eqb neg x' y' => eqOp op neg && okOpd x x' && okOpd y y' && isBoolT P t
  | .binOp op t x y _, .iserr neg x' => eqOp op neg && okOpd x x' && isNilI y && isIfT P t
  | .unOp op _ x, .un op' y => (op == op') && okOpd x y
  | .convert s d x, .conv k y => okOpd x y && (P.underlying s).isSome && (intK P d == some k)
  | .makeFunc (.func f) first caps, .mkfn f' ys => (f == f') && first.isEmpty && okOpds caps.toList ys
  | .slice t x lo hi none, .slS sz y lo' hi' => okOpd x y && okBnd lo lo' && okBnd hi hi' && (match slEl P t with | some el => szT P el == some sz | none => false)
  | .slice t x lo hi none, .slStr y lo' hi' => okOpd x y && okBnd lo lo' && okBnd hi hi' && isStr P t
  | .slice t x none (some h) (some m), .sl0 _ y => okOpd x y && isZeroC h && isZeroC m && (match slEl P t with | some el => (szT P el).isSome | none => false)
  | .fieldAddr t x i, .fld off y => okOpd x y && (match stF P t i with | some f => (f.offset == off) && (match szT P f.type with | some m => m != 0 | none => false) | none => false)
  | .field t x i, .fldV off n agg y => okOpd x y && (match stF P t i with | some f => (f.offset == off) && (szT P f.type == some n) && (aggT P f.type == some agg) && (agg || n == 1) | none => false)
  | .indexAddr t x i, .ixA n sz x' i' => okOpd x x' && okOpd i i' && (match arEl P t with | some p => (p.1 == n) && (szT P p.2 == some sz) | none => false)
  | .indexAddr t x i, .ixS sz x' i' => okOpd x x' && okOpd i i' && (match slEl P t with | some el => szT P el == some sz | none => false)
  | .index t x i, .ixStr x' i' => okOpd x x' && okOpd i i' && isStr P t
  | .index t x i, .ixV n sz agg x' i' => okOpd x x' && okOpd i i' && (match arEl P t with | some p => (p.1 == n) && (szT P p.2 == some sz) && (aggT P p.2 == some agg) && (agg || sz == 1) | none => false)
  | .extract x i, .ext y i' => (i == i') && okOpd x y
  | .call { callee := .builtin .len, args := xs, argTypes := ts }, .len y => match xs.toList, ts.toList with
      | [x], [t] => okOpd x y && (slEl P t).isSome
      | _, _ => false
  | .call { callee := .builtin .len, args := xs, argTypes := ts }, .lenStr y => match xs.toList, ts.toList with
      | [x], [t] => okOpd x y && isStr P t
      | _, _ => false
  | .call { callee := .builtin .cap, args := xs, argTypes := ts }, .cap0 y => match xs.toList, ts.toList with
      | [x], [t] => okOpd x y && (slEl P t).isSome
      | _, _ => false
  | .call { callee := .builtin .append, args := xs, argTypes := ts }, .grow0 sz z x' y' => match xs.toList, ts.toList with
      | [x, y], [t, t'] => okOpd x x' && okOpd y y' && (intK P t' == some .i64) && (match slEl P t with
          | some el => okZ P el z && (match zeroT P el with | some v => v.cells.size == sz | none => false) && (szT P el == some sz) && decide (P.bytesOf el ≤ 2048)
          | none => false)
      | _, _ => false
  | .call { callee := .builtin .max, args := xs, .. }, .mnmx true ys => okOpds xs.toList ys
  | .call { callee := .builtin .min, args := xs, .. }, .mnmx false ys => okOpds xs.toList ys
  | .nilCheck x, .nn y => okOpd x y
  | _, .bad => true
  | _, _ => false

theorem zeroT_some {P : Program} {t : TypeId} {z : List Z} (h : okZ P t z = true) : ∃ v, ((P.info? t).bind (·.zero)) = some v ∧ okZs v.cells.toList z = true := by
  unfold okZ zeroT at h
  split at h
  · exact ⟨_, by assumption, h⟩
  · cases h
theorem pop_nn {P : Program} {x : Operand} {y : Opd} (h : okOpd x y = true) : PopOK P (.nilCheck x) (.nn y) := by
  refine PopOK.of_pure fun φ e a w n v bs op hop he hev => ?_
  have hx := opd_ok he h
  simp only [POp.ev] at hev
  split at hev
  · rename_i i o hm
    rw [hm] at hx
    obtain ⟨p, hp, hv⟩ := hx
    simp only [Option.some.injEq, Prod.mk.injEq] at hev
    obtain ⟨rfl, rfl⟩ := hev
    exact ⟨rfl, ptrV p o, by simp [execOp, hop, hv, ptrV], p, hp, rfl⟩
  · cases hev
theorem okP_ok {P : Program} {o : Op} {q : POp} (h : okP P o q = true) : PopOK P o q := by
  unfold okP at h
  split at h
  · exact pop_mv h (.inl rfl)
  · exact pop_mv h (.inr rfl)
  · rw [isNilC_ok h]; exact pop_nilsl (.inl rfl)
  · rw [isNilC_ok h]; exact pop_nilsl (.inr rfl)
  · simp only [Bool.and_eq_true] at h; exact pop_pick h.1.1 h.1.2 h.2
  · obtain ⟨v, h1, h2⟩ := zeroT_some h; exact pop_alloc h1 h2
  · exact pop_box h
  · simp only [Bool.and_eq_true] at h
    obtain ⟨v, h1, h2⟩ := zeroT_some h.1
    have h3 := h.2
    split at h3
    · rename_i pl hpl
      refine pop_build h1 h2 (okParts_ok h3) ?_
      unfold placeT at hpl
      split at hpl
      · rename_i fs hu
        split at hpl
        · rename_i hall
          injection hpl with hpl
          exact .inl ⟨fs, hu, fun f hf => List.all_eq_true.1 hall f hf, hpl.symm⟩
        · cases hpl
      · rename_i k el hu
        obtain ⟨sz, hs, hpl⟩ := Option.map_eq_some_iff.1 hpl
        exact .inr ⟨k, el, sz, hu, hs, hpl.symm⟩
      · cases hpl
    · cases h3
  · simp only [Bool.and_eq_true, beq_iff_eq] at h
    obtain ⟨rfl, h⟩ := h
    split at h
    · rename_i el hel
      simp only [Bool.and_eq_true, beq_iff_eq, decide_eq_true_eq] at h
      obtain ⟨⟨⟨⟨⟨h1, h2⟩, h3⟩, h4⟩, h5⟩, h6⟩ := h
      obtain ⟨v, hz, hzs⟩ := zeroT_some h2
      have hz' : zeroT P el = some v := hz
      rw [hz'] at h3
      exact pop_mksl (slEl_ok hel) h1 hz hzs (by simpa using h3) (okParts_ok h4) (by omega) (by omega)
    · cases h
  · simp only [Bool.and_eq_true] at h
    obtain ⟨⟨ha, hb⟩, h⟩ := h
    split at h
    · rename_i el hel
      simp only [Bool.and_eq_true, beq_iff_eq, decide_eq_true_eq] at h
      obtain ⟨⟨⟨h1, h2⟩, h3⟩, h4⟩ := h
      obtain ⟨v, hz, hzs⟩ := zeroT_some h2
      have hz' : zeroT P el = some v := hz
      rw [hz'] at h3
      exact pop_mkslice ha hb (slEl_ok hel) h1 hz hzs (by simpa using h3) h4
    · cases h
  · simp only [Bool.and_eq_true, beq_iff_eq] at h
    obtain ⟨⟨rfl, h1⟩, h2⟩ := h
    exact pop_bin h1 h2
  · simp only [Bool.and_eq_true, beq_iff_eq] at h
    obtain ⟨⟨⟨⟨⟨h0, h1⟩, h2⟩, h3⟩, h4⟩, h5⟩ := h
    exact pop_eqv h1 h2 h3 h4 (by omega) h5 (eqOp_ok h0)
  · simp only [Bool.and_eq_true] at h
    obtain ⟨⟨⟨h0, h1⟩, h2⟩, h3⟩ := h
    exact pop_eqb h1 h2 (isBoolT_ok h3) (eqOp_ok h0)
  · simp only [Bool.and_eq_true] at h
    obtain ⟨⟨⟨h0, h1⟩, h2⟩, h3⟩ := h
    obtain ⟨ms, hms⟩ := isIfT_ok h3
    exact pop_iserr h1 (isNilI_ok h2) hms (eqOp_ok h0)
  · simp only [Bool.and_eq_true, beq_iff_eq] at h
    obtain ⟨rfl, h1⟩ := h
    exact pop_un h1
  · simp only [Bool.and_eq_true, beq_iff_eq] at h
    exact pop_conv h.1.1 h.1.2 (intK_ok h.2)
  · rename_i first caps _ _
    simp only [Bool.and_eq_true, beq_iff_eq] at h
    obtain ⟨⟨rfl, h1⟩, h2⟩ := h
    have : first = #[] := by simpa using h1
    subst this
    exact pop_mkfn (okOpds_ok h2)
  · simp only [Bool.and_eq_true] at h
    obtain ⟨⟨⟨h1, h2⟩, h3⟩, h4⟩ := h
    split at h4
    · rename_i el hel; exact pop_slS h1 h2 h3 (slEl_ok hel) (by simpa using h4)
    · cases h4
  · simp only [Bool.and_eq_true] at h
    obtain ⟨⟨⟨h1, h2⟩, h3⟩, h4⟩ := h
    exact pop_slStr h1 h2 h3 (isStr_ok h4)
  · simp only [Bool.and_eq_true] at h
    obtain ⟨⟨⟨h1, h2⟩, h3⟩, h4⟩ := h
    split at h4
    · rename_i el hel
      obtain ⟨sz, hsz⟩ := Option.isSome_iff_exists.1 h4
      exact pop_sl0 h1 (isZeroC_ok h2) (isZeroC_ok h3) (slEl_ok hel) hsz
    · cases h4
  · simp only [Bool.and_eq_true] at h
    obtain ⟨h1, h⟩ := h
    split at h
    · rename_i f hf
      simp only [Bool.and_eq_true, beq_iff_eq] at h
      obtain ⟨rfl, h⟩ := h
      obtain ⟨fs, hu, hfs⟩ := stF_ok hf
      split at h
      · rename_i m hm; exact pop_fld h1 hu hfs hm (by simpa using h)
      · cases h
    · cases h
  · simp only [Bool.and_eq_true] at h
    obtain ⟨h1, h⟩ := h
    split at h
    · rename_i f hf
      simp only [Bool.and_eq_true, beq_iff_eq, Bool.or_eq_true] at h
      obtain ⟨⟨⟨rfl, h2⟩, h3⟩, h4⟩ := h
      obtain ⟨fs, hu, hfs⟩ := stF_ok hf
      exact pop_fldV h1 hu hfs h2 h3 h4
    · cases h
  · simp only [Bool.and_eq_true] at h
    obtain ⟨⟨h1, h2⟩, h⟩ := h
    split at h
    · rename_i p hp
      simp only [Bool.and_eq_true, beq_iff_eq] at h
      obtain ⟨rfl, h3⟩ := h
      exact pop_ixA h1 h2 (arEl_ok (n := p.1) (el := p.2) hp) h3
    · cases h
  · simp only [Bool.and_eq_true] at h
    obtain ⟨⟨h1, h2⟩, h⟩ := h
    split at h
    · rename_i el hel; exact pop_ixS h1 h2 (slEl_ok hel) (by simpa using h)
    · cases h
  · simp only [Bool.and_eq_true] at h
    exact pop_ixStr h.1.1 h.1.2 (isStr_ok h.2)
  · simp only [Bool.and_eq_true] at h
    obtain ⟨⟨h1, h2⟩, h⟩ := h
    split at h
    · rename_i p hp
      simp only [Bool.and_eq_true, beq_iff_eq, Bool.or_eq_true] at h
      obtain ⟨⟨⟨rfl, h3⟩, h4⟩, h5⟩ := h
      exact pop_ixV h1 h2 (arEl_ok (n := p.1) (el := p.2) hp) h3 h4 h5
    · cases h
  · simp only [Bool.and_eq_true, beq_iff_eq] at h
    obtain ⟨rfl, h1⟩ := h
    exact pop_ext h1
  · rename_i xs ts y
    obtain ⟨xs⟩ := xs
    obtain ⟨ts⟩ := ts
    split at h
    · rename_i x t hx ht
      simp only at hx ht
      subst hx; subst ht
      simp only [Bool.and_eq_true] at h
      obtain ⟨el, hel⟩ := Option.isSome_iff_exists.1 h.2
      exact pop_len h.1 (slEl_ok hel)
    · cases h
  · rename_i xs ts y
    obtain ⟨xs⟩ := xs
    obtain ⟨ts⟩ := ts
    split at h
    · rename_i x t hx ht
      simp only at hx ht
      subst hx; subst ht
      simp only [Bool.and_eq_true] at h
      exact pop_lenStr h.1 (isStr_ok h.2)
    · cases h
  · rename_i xs ts y
    obtain ⟨xs⟩ := xs
    obtain ⟨ts⟩ := ts
    split at h
    · rename_i x t hx ht
      simp only at hx ht
      subst hx; subst ht
      simp only [Bool.and_eq_true] at h
      obtain ⟨el, hel⟩ := Option.isSome_iff_exists.1 h.2
      exact pop_cap0 h.1 (slEl_ok hel)
    · cases h
  · rename_i xs ts sz z x' y'
    obtain ⟨xs⟩ := xs
    obtain ⟨ts⟩ := ts
    split at h
    · rename_i x y t t' hx ht
      simp only at hx ht
      subst hx; subst ht
      simp only [Bool.and_eq_true, beq_iff_eq] at h
      obtain ⟨⟨⟨h1, h2⟩, h3⟩, h⟩ := h
      split at h
      · rename_i el hel
        simp only [Bool.and_eq_true, beq_iff_eq, decide_eq_true_eq] at h
        obtain ⟨⟨⟨h4, h5⟩, h6⟩, h7⟩ := h
        obtain ⟨v, hz, hzs⟩ := zeroT_some h4
        have hz' : zeroT P el = some v := hz
        rw [hz'] at h5
        exact pop_grow0 h1 h2 (slEl_ok hel) (intK_ok h3) h6 hz hzs (by simpa using h5) h7
      · cases h
    · cases h
  · exact pop_mnmx (isMax := true) (okOpds_ok h)
  · exact pop_mnmx (isMax := false) (okOpds_ok h)
  · exact pop_nn h
  · intro φ e a w n v bs op hop he hev; simp [POp.ev] at hev
  · cases h
def okH (P : Program) (o : Op) (q : HOp) : Bool :=
  match o, q with
  | .load t x, .load n agg y => okOpd x y && (szT P t == some n) && (aggT P t == some agg) && (agg || n == 1)
  | .slice t x lo hi none, .slA n sz y lo' hi' => okOpd x y && okBnd lo lo' && okBnd hi hi' && (match arEl P t with | some p => (p.1 == n) && (szT P p.2 == some sz) && decide (n ≤ 16777216) | none => false)
  | .store t x z, .store n y u => okOpd x y && okOpd z u && (szT P t == some n)
  | .call { callee := .builtin .append, args := xs, argTypes := ts }, .app sz x' y' => match xs.toList, ts.toList with
      | [x, y], [t, t'] => (t == t') && okOpd x x' && okOpd y y' && (match slEl P t with
          | some el => (match P.info? el with
              | some inf => (inf.size == sz) && decide (inf.bytes ≤ 2048) && (match inf.zero with | some z => z.cells.size == sz | none => false)
              | none => false)
          | none => false)
      | _, _ => false
  | .call { callee := .builtin .clear, args := xs, argTypes := ts }, .clr sz z y => match xs.toList, ts.toList with
      | [x], [t] => okOpd x y && (match slEl P t with
          | some el => okZ P el z && (match zeroT P el with | some v => v.cells.size == sz | none => false)
          | none => false)
      | _, _ => false
  | .convert s d x, .s2b y => okOpd x y && (P.underlying s).isSome && (match slEl P d with | some el => intK P el == some .u8 | none => false)
  | .convert s d x, .b2s y => okOpd x y && isStr P d && (match slEl P s with | some el => intK P el == some .u8 | none => false)
  | .makeMap _ none, .mnew => true
  | .lookup t x y ok, .mget z ok' x' y' => (ok == ok') && okOpd x x' && okOpd y y' && (match P.underlying t with
      | some (.map k el) => keyTy P k && (match zeroT P el, z with | some (.int k0 n0), .int k1 n1 => (k0 == k1) && (n0 == n1) | _, _ => false)
      | _ => false)
  | .mapUpdate t x y u, .mset x' y' u' => okOpd x x' && okOpd y y' && okOpd u u' && (match P.underlying t with
      | some (.map k _) => keyTy P k
      | _ => false)
  | .insert t x y u, .mset x' y' u' => okOpd x x' && okOpd y y' && okOpd u u' && (match P.underlying t with
      | some (.map k _) => keyTy P k
      | _ => false)
  | .call { callee := .builtin .len, args := xs, argTypes := ts }, .mlen x' => match xs.toList, ts.toList with
      | [x], [t] => okOpd x x' && (match P.underlying t with | some (.map _ _) => true | _ => false)
      | _, _ => false
  | .call { callee := .value f, args := xs, .. }, .call g ys => okOpd f g && okOpds xs.toList ys
  | _, _ => false
theorem okH_ok {P : Program} {F : Fns} (hF : FnOK P F) {o : Op} {q : HOp} (h : okH P o q = true) : HopOK P F o q := by
  unfold okH at h
  split at h
  · simp only [Bool.and_eq_true, beq_iff_eq, Bool.or_eq_true] at h
    exact hop_load h.1.1.1 h.1.1.2 h.1.2 h.2
  · simp only [Bool.and_eq_true] at h
    obtain ⟨⟨⟨h1, h2⟩, h3⟩, h⟩ := h
    split at h
    · rename_i p hp
      simp only [Bool.and_eq_true, beq_iff_eq, decide_eq_true_eq] at h
      obtain ⟨⟨rfl, h4⟩, h5⟩ := h
      exact hop_slA h1 h2 h3 (arEl_ok (n := p.1) (el := p.2) hp) h4 (by unfold maxLen; omega)
    · cases h
  · simp only [Bool.and_eq_true, beq_iff_eq] at h
    exact hop_store h.1.1 h.1.2 h.2
  · rename_i xs ts sz x' y'
    obtain ⟨xs⟩ := xs
    obtain ⟨ts⟩ := ts
    split at h
    · rename_i x y t t' hx ht
      simp only at hx ht
      subst hx; subst ht
      simp only [Bool.and_eq_true, beq_iff_eq] at h
      obtain ⟨⟨⟨rfl, h1⟩, h2⟩, h⟩ := h
      split at h
      · rename_i el hel
        split at h
        · rename_i inf hinf
          simp only [Bool.and_eq_true, beq_iff_eq, decide_eq_true_eq] at h
          obtain ⟨⟨rfl, h3⟩, h4⟩ := h
          split at h4
          · rename_i z hz
            exact hop_app h1 h2 (slEl_ok hel) hinf hz (by simpa using h4) h3
          · cases h4
        · cases h
      · cases h
    · cases h
  · rename_i xs ts sz z y
    obtain ⟨xs⟩ := xs
    obtain ⟨ts⟩ := ts
    split at h
    · rename_i x t hx ht
      simp only at hx ht
      subst hx; subst ht
      simp only [Bool.and_eq_true] at h
      obtain ⟨h1, h⟩ := h
      split at h
      · rename_i el hel
        simp only [Bool.and_eq_true] at h
        obtain ⟨h2, h3⟩ := h
        obtain ⟨v, hz, hzs⟩ := zeroT_some h2
        have hz' : zeroT P el = some v := hz
        rw [hz'] at h3
        exact hop_clr h1 (slEl_ok hel) hz hzs (by simpa using h3)
      · cases h
    · cases h
  · simp only [Bool.and_eq_true] at h
    obtain ⟨⟨h1, h2⟩, h⟩ := h
    split at h
    · rename_i el hel; exact hop_s2b h1 h2 (slEl_ok hel) (intK_ok (by simpa using h))
    · cases h
  · simp only [Bool.and_eq_true] at h
    obtain ⟨⟨h1, h2⟩, h⟩ := h
    split at h
    · rename_i el hel; exact hop_b2s h1 (slEl_ok hel) (intK_ok (by simpa using h)) (isStr_ok h2)
    · cases h
  · exact hop_mnew
  · simp only [Bool.and_eq_true, beq_iff_eq] at h
    obtain ⟨⟨⟨rfl, h1⟩, h2⟩, h⟩ := h
    split at h
    · rename_i k el ht
      simp only [Bool.and_eq_true] at h
      obtain ⟨h3, h⟩ := h
      split at h
      · rename_i k0 n0 k1 n1 hz
        simp only [Bool.and_eq_true, beq_iff_eq] at h
        obtain ⟨rfl, rfl⟩ := h
        exact hop_mget h1 h2 ht (keyTy_ok h3) hz fun _ => rfl
      · cases h
    · cases h
  · simp only [Bool.and_eq_true] at h
    obtain ⟨⟨⟨h1, h2⟩, h3⟩, h⟩ := h
    split at h
    · rename_i k el ht
      exact hop_mset h1 h2 h3 ht (keyTy_ok h)
    · cases h
  · simp only [Bool.and_eq_true] at h
    obtain ⟨⟨⟨h1, h2⟩, h3⟩, h⟩ := h
    split at h
    · rename_i k el ht
      exact hop_minsert h1 h2 h3 ht (keyTy_ok h)
    · cases h
  · rename_i xs ts x'
    obtain ⟨xs⟩ := xs
    obtain ⟨ts⟩ := ts
    split at h
    · rename_i x t hx ht
      simp only at hx ht
      subst hx; subst ht
      simp only [Bool.and_eq_true] at h
      obtain ⟨h1, h⟩ := h
      split at h
      · rename_i k el hu; exact hop_mlen h1 hu
      · cases h
    · cases h
  · simp only [Bool.and_eq_true] at h
    exact hop_call hF h.1 (okOpds_ok h.2)
  · cases h
/-- an operation, whatever its kind -/
def okA (P : Program) (o : Op) : AOp → Bool
  | .p q => okP P o q
  | .h q => okH P o q
theorem okA_does {P : Program} {F : Fns} (hF : FnOK P F) {op : Oper} {q : AOp} (h : okA P op.op q = true) {φ : Phi} {H : HF} {e : Env} {a : Act} {w : World} {base : Nat} {r : Out} (he : EnvOK φ e a) (hh : HeapOK φ H w) (hev : q.ev F e H base = some r) (hf : Free φ base r.2.1.length) (h0 : r.2.1 ≠ [] → H base = none) :
    Does P op a w (ROut φ H w base r) := by
  cases q with
  | p q =>
    simp only [AOp.ev] at hev
    obtain ⟨s, hs, rfl⟩ := Option.map_eq_some_iff.1 hev
    obtain ⟨rv, w', φ', hr, hv, hn⟩ := okP_ok h φ e a w base s.1 s.2 op rfl he hs hf
    exact .inl ⟨rv, w', hr, φ', hv, New.out hh hn hf⟩
  | h q => exact okH_ok hF h φ H e a w base r op rfl he hh hev hf h0
end Go.Proofs.YtgpafbbnobanbaaGreatDoor.AM

