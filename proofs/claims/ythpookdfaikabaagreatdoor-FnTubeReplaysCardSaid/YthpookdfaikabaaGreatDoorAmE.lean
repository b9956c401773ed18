import Derived.Test.YthpookdfaikabaaGreatDoorAmD
import Derived.ProofKit
import Derived.Deep.Slices
import Derived.OpenShut
/-
  From the abstract machine's answer to a law's row.
-/
namespace Go.Proofs.YthpookdfaikabaaGreatDoor.AM
open Go Go.ChangeShapes Go.WideShapes Go.RowKit Go.WideElems

theorem fr_kept {w w' : World} (h : Fr (fun _ => False) w w') (may : MemPlace → Prop) : w.keptBut w' may := by
  refine ⟨h.os, h.output, fun i hi => ?_⟩
  rw [h.block i hi fun x => x]
  exact (World.keptBut_refl w may).2.2 i hi
theorem fr_same {w w' : World} (h : Fr (fun _ => False) w w') {p : MemPlace} (hp : p.block < w.heap.size) : w.sameAt w' p := by
  cases p with
  | cell b off =>
    have := h.block b hp fun x => x
    simp only [World.sameAt, World.cell?, this]
  | map b => exact h.block b hp fun x => x
theorem fr_frozen {w w' : World} (h : Fr (fun _ => False) w w') {b off : Nat} (hb : b < w.heap.size) : w'.frozen? ⟨b, off, none⟩ = w.frozen? ⟨b, off, none⟩ := by
  have := h.block b hb fun x => x
  simp only [World.frozen?, this]
section
variable {H : Type} {enc : TypeId × Value → H} {P : Program}
theorem trodAll_stays (hl : laidOutB P = true) {W W' : World} {sp' : Nat → Bool} : ∀ {ts : List TypeId} {vs : List Value} {ds : List (DataW H)} {ps : List MemPlace}, (∀ t ∈ ts, P.readableRec t = true ∧ t < P.types.size) → DataW.TrodAll enc P W 0 (fun _ => true) true ts vs ds ps → (∀ p ∈ ps, W.sameAt W' p) → (∀ p ∈ ps, sp' p.block = true) → DataW.TrodAll enc P W' 0 sp' true ts vs ds ps
  | [], _, _, _, _, h, _, _ => by
    obtain ⟨rfl, rfl, rfl⟩ := trodAll_nil h
    exact trodAll_mk0
  | t :: ts, _, _, _, ht, h, hs, hsp => by
    obtain ⟨v, vs, d, ds, p, q, rfl, rfl, rfl, h1, h2⟩ := trodAll_cons h
    obtain ⟨hr, hrow⟩ := ht t (by simp)
    exact ⟨p, q, Trod_stays hl hr hrow h1 (fun x hx => hs x (List.mem_append_left _ hx)) (fun x hx => hsp x (List.mem_append_left _ hx)), trodAll_stays hl (fun t h => ht t (by simp [h])) h2 (fun x hx => hs x (List.mem_append_right _ hx)) (fun x hx => hsp x (List.mem_append_right _ hx)), rfl⟩
/-- what a law's row asks behind the call -/
theorem law_post {f : Func} {s : ChangeSpec} {apart fresh handsOn again : Bool} {W W' : World} {args : Array Value} {ds gs : List (DataW H)} {before : List MemPlace} {bt : TypeId}
    (hl : laidOutB P = true) (ht : ∀ t ∈ f.params.toList, P.readableRec t = true ∧ t < P.types.size) (hv : s.vars = [])
    (hW : DataW.Whole enc P f.params.toList s.vars apart W args.toList ds gs before) (hrt : f.resultTypes = #[bt]) (hbt : P.underlying bt = some .bool)
    (hres : (s.fn H (ds ++ gs)).results = [.lit (.bool true)]) (hargs : (s.fn H (ds ++ gs)).args = ds) (hvars : (s.fn H (ds ++ gs)).vars = []) (hfr : Fr (fun _ => False) W W') :
    s.post enc P f apart fresh handsOn again W args (.bool true) W' := by
  have hlt := hW.lt
  have hW0 := hW
  obtain ⟨p, q, hA, hV, hb, hz, hn⟩ := hW
  rw [hv] at hV
  obtain ⟨rfl, rfl⟩ := trodVars_none hV
  simp only [List.append_nil] at hb hres hargs hvars
  subst hb
  have hone : ∀ (b : Nat) (sp : Nat → Bool) (hd : Bool), DataW.TrodAll enc P W' b sp hd f.resultTypes.toList ((Value.bool true).resultList f.resultTypes.size) (s.fn H (ds ++ [])).results [] := by
    intro b sp hd
    simp only [List.append_nil]
    rw [hres, hrt]
    exact trodAll_mk1 (shut_bool hbt true)
  have hback : ∀ sp : Nat → Bool, (∀ x ∈ before, sp x.block = true) → DataW.TrodAll enc P W' 0 sp true f.params.toList args.toList (s.fn H (ds ++ [])).args before := by
    intro sp hsp
    simp only [List.append_nil]
    rw [hargs]
    exact trodAll_stays hl ht hA (fun x hx => fr_same hfr (hlt x hx)) hsp
  have hnov : ∀ sp : Nat → Bool, DataW.TrodVars enc P W' sp s.vars (s.fn H (ds ++ [])).vars [] := by
    intro sp
    simp only [List.append_nil]
    rw [hv, hvars]
    rfl
  refine ⟨ds, [], before, [], before, [], hW0, hone _ _ _, hback _ (fun x hx => by simpa using hlt x hx), hnov _, fr_kept hfr _, fun _ => ?_⟩
  refine ⟨ok_one hrt rfl (okWide_bool_mk hbt true), _, _, ([] ++ before) ++ [], ⟨[] ++ before, [], trodAll_append (hback _ (fun _ _ => rfl)) (hone _ _ _), hnov _, rfl, ?_, ?_⟩, ?_⟩
  · intro b off hp
    have hp : MemPlace.cell b off ∈ before := by simpa using hp
    rw [fr_frozen (b := b) hfr (hlt _ hp)]
    exact hz b off hp
  · intro ha
    simpa using hn ha
  · intro x hx _
    simpa using hx
end
/-- a function with a body is entered -/
theorem invokes_calls {P : Program} {f : FuncId} {fn : Func} {c : Code} (hf : P.funcs[f]? = some fn) (hname : (fn.name == "runtime.NumGoroutine") = false) (hb : fn.body = some c) {args : Array Value} {w : World} {R : Value → World → Prop} (h : Invokes P f args w R) : Calls P f args w fun e w' => ∃ rv, e = .returned rv ∧ R rv w' := by
  rcases h with ⟨rv, w', h, _⟩ | ⟨_, h⟩
  · rw [Go.MuLone.run_callFunc_enter hf hname hb] at h
    cases h
  · exact h
/-- no place is known -/
def noPhi : Phi := fun _ => none
theorem heapOK_nil (w : World) (ht : TabIn w) : HeapOK noPhi (lkp []) w := ⟨⟨fun i b p h => by simp [lkp] at h, fun i j b c p q h => by simp [lkp] at h, fun i p h => by simp [noPhi] at h⟩, ht, fun g cs _ ⟨i, b, p, h, _⟩ => by simp [lkp] at h⟩
/-- a law whose arguments are values alone: the abstract machine's 'true' is the law's -/
theorem law_val {P : Program} {F : Fns} (hF : FnOK P F) {f : FuncId} {fn : Func} {c : Code} (hf : P.funcs[f]? = some fn) (hname : (fn.name == "runtime.NumGoroutine") = false) (hb : fn.body = some c) {args : List V} {vs : Array Value} {w : World} {h' : Heap} (ha : All2 (VR noPhi) args vs.toList) (hev : F f args [] = some (.c (.bool true), h')) (ht : TabIn w := by exact fun _ _ h => by cases h) :
    Calls P f vs w fun e w' => e = .returned (.bool true) ∧ Fr (fun _ => False) w w' := by
  have hinv := hF f args [] _ h' hev noPhi w vs.toList (heapOK_nil w ht) ha
  refine (invokes_calls hf hname hb hinv).mono fun e w' ⟨rv, he, φ', _, hv, hmv⟩ => ?_
  have hv : rv = .bool true := hv
  subst hv
  refine ⟨he, hmv.fr.mono fun k ⟨i, b, p, hb, _⟩ => ?_⟩
  simp [lkp] at hb
/-- an argument that is a struct or an array of ints -/
def plainInts (P : Program) (t : TypeId) (n : Nat) : Bool := (aggT P t == some true) && (P.cellsOf t == n) && (match P.cellTypes P.depth t with | some ts => ts.all (fun u => intK P u == some .i64) | none => false)
theorem open_ints {P : Program} {W : World} {base : Nat} {t : TypeId} {n : Nat} {v : Value} (hp : plainInts P t n = true) (h : Value.okWide P W .any base t v) : ∃ l : List Int, l.length = n ∧ v = .agg (l.map (Value.int .i64)).toArray ∧ ∀ x ∈ l, -9223372036854775808 ≤ x ∧ x < 9223372036854775808 := by
  simp only [plainInts, Bool.and_eq_true, beq_iff_eq] at hp
  obtain ⟨⟨h1, h2⟩, h3⟩ := hp
  have hagg : ∃ cs, v = .agg cs ∧ cs.size = P.cellsOf t ∧ Row.okWide P W .any base t cs := by
    unfold Value.okWide at h
    unfold aggT at h1
    split at h
    · exact h
    · exact h
    · rename_i ha hb
      split at h1
      · exact absurd ‹_› (ha _)
      · exact absurd ‹_› (hb _ _)
      · cases h1
      · cases h1
  obtain ⟨cs, rfl, hsz, ts, hts, _, hcell⟩ := hagg
  rw [hts] at h3
  simp only at h3
  have hall : ∀ (i : Nat) (v : Value), cs[i]? = some v → ∃ x : Int, v = Value.int .i64 x ∧ -9223372036854775808 ≤ x ∧ x < 9223372036854775808 := by
    intro i v hi
    obtain ⟨u, hu, hok⟩ := hcell i v hi
    have := List.all_eq_true.1 h3 u (List.mem_of_getElem? hu)
    have hk : P.underlying u = some (.int .i64) := intK_ok (by simpa using this)
    simp only [Cell.okWide, hk, Cell.ok] at hok
    cases v with
    | int k x =>
      obtain ⟨rfl, hx⟩ := hok
      refine ⟨x, rfl, ?_⟩
      simp [IntKind.has, IntKind.min, IntKind.max, IntKind.bits, IntKind.signed] at hx
      omega
    | _ => exact hok.elim
  have : ∀ (vs : List Value), (∀ v ∈ vs, ∃ x : Int, v = Value.int .i64 x ∧ -9223372036854775808 ≤ x ∧ x < 9223372036854775808) → ∃ l : List Int, vs = l.map (Value.int .i64) ∧ ∀ x ∈ l, -9223372036854775808 ≤ x ∧ x < 9223372036854775808 := by
    intro vs
    induction vs with
    | nil => intro _; exact ⟨[], rfl, by simp⟩
    | cons v vs ih =>
      intro h
      obtain ⟨x, rfl, hx⟩ := h v (by simp)
      obtain ⟨l, rfl, hl⟩ := ih fun v hv => h v (by simp [hv])
      exact ⟨x :: l, rfl, by simpa using ⟨hx, hl⟩⟩
  obtain ⟨l, hl, hr⟩ := this cs.toList fun v hv => by
    obtain ⟨i, hi⟩ := List.mem_iff_getElem?.1 hv
    exact hall i v (by simpa using hi)
  refine ⟨l, ?_, by rw [← hl], hr⟩
  have := congrArg List.length hl
  simp at this
  omega
theorem ints_ok (φ : Phi) : ∀ (l : List Int), All2 (VRc φ) (l.map (C.int .i64)) (l.map (Value.int .i64))
  | [] => trivial
  | _ :: l => ⟨rfl, ints_ok φ l⟩
theorem VR_ints (φ : Phi) (l : List Int) : VR φ (.agg (l.map (C.int .i64))) (.agg (l.map (Value.int .i64)).toArray) := ⟨_, rfl, ints_ok φ l⟩
end Go.Proofs.YthpookdfaikabaaGreatDoor.AM

/-
  From the abstract machine's answer to a law's row: arguments with a slice whose elements are arrays of ints.
-/
namespace Go.Proofs.YthpookdfaikabaaGreatDoor.AM
open Go Go.ChangeShapes Go.WideShapes Go.RowKit Go.WideElems Go.Deep

theorem addr_add (a : Addr) (x y : Nat) : (a.add x).add y = a.add (x + y) := by
  unfold Addr.add
  by_cases hx : x = 0
  · simp [hx]
  · by_cases hy : y = 0
    · simp [hy]
    · simp [hx, hy, Nat.add_assoc]
theorem int_cell {H : Type} {enc : TypeId × Value → H} {P : Program} {W : World} {it : TypeId} {n : Nat} {e : TypeId} {fuel : Nat} {cs : List Value} {x : DataW H × List MemPlace} (he : P.underlying e = some (.array n it)) (hi : P.underlying it = some (.int .i64)) (hci : P.cellsOf it = 1) {base : Nat} {spare : Nat → Bool} {held : Bool}
    (h : DataW.trod enc P W base spare held fuel e cs = some x) (hl : cs.length = n) {k : Nat} (hk : k < n) : ∃ z : Int, cs[k]? = some (.int .i64 z) ∧ -9223372036854775808 ≤ z ∧ z < 9223372036854775808 := by
  obtain ⟨xs, m, rfl, rfl, hlen, hxl, hx⟩ := DataW.trod_array he h
  have := hx k hk
  rw [hci, Nat.mul_one, List.getElem?_eq_getElem (by omega)] at this
  obtain ⟨z, h1, h2, h3⟩ := DataW.trod_int hi this
  refine ⟨z, ?_, ?_⟩
  · rw [List.drop_eq_getElem_cons (by omega), List.take_succ_cons] at h1
    injection h1 with h1
    rw [List.getElem?_eq_getElem (by omega), h1]
  · simp [Lit.wf, IntKind.min, IntKind.max, IntKind.bits, IntKind.signed] at h3
    omega
def onePhi (p : Pl) : Phi := fun i => if i = 0 then some p else none
theorem noPhi_heap (bs : Heap) (w : World) (ht : TabIn w := by exact fun _ _ h => by cases h) : HeapOK noPhi (lkp bs) w := ⟨⟨fun i b p h hp => by simp [noPhi] at hp, fun i j b c p q h _ _ _ _ hp => by simp [noPhi] at hp, fun i p h => by simp [noPhi] at h⟩, ht, fun g cs _ ⟨i, b, p, _, _, hp, _⟩ => by simp [noPhi] at hp⟩
/-- a slice of elements of n ints each -/
theorem open_intRows {H : Type} {enc : TypeId × Value → H} {P : Program} {W : World} {t e it : TypeId} {n : Nat} {cs : List Value} {x : DataW H × List MemPlace} {fuel : Nat} (ht : P.underlying t = some (.slice e)) (he : P.underlying e = some (.array n it)) (hi : P.underlying it = some (.int .i64)) (hce : P.cellsOf e = n) (hci : P.cellsOf it = 1) (hn : 0 < n)
    (h : DataW.trod enc P W 0 (fun _ => true) true fuel t cs = some x) (htab : TabIn W := by exact fun _ _ h => by cases h) :
    ∃ (v : Value) (xs : List Int) (len : Nat) (φ : Phi), cs = [v] ∧ xs.length = len * n ∧ len ≤ maxLen ∧ (∀ x ∈ xs, -9223372036854775808 ≤ x ∧ x < 9223372036854775808) ∧ HeapOK φ (lkp [.cells (xs.map (C.int .i64)) false]) W ∧ VRc φ (.sl 0 0 len n) v := by
  rcases open_slice ht h with ⟨rfl, _⟩ | ⟨a, len, cap, m, k, D, Pl, rfl, hb, hl, hm, hmm, rfl, hx⟩
  · exact ⟨_, [], 0, noPhi, rfl, by simp, Nat.zero_le _, by simp, noPhi_heap _ W htab, .inl ⟨rfl, _, rfl⟩⟩
  · simp only [if_true] at hmm
    subst hmm
    by_cases hcap : m = 0
    · subst hcap
      have : len = 0 := by omega
      subst this
      exact ⟨_, [], 0, noPhi, rfl, by simp, Nat.zero_le _, by simp, noPhi_heap _ W htab, .inl ⟨rfl, _, rfl⟩⟩
    · have hcell : ∀ j, ∃ z : Int, j < m * n → W.cell? (a.add j) = some (.int .i64 z) ∧ -9223372036854775808 ≤ z ∧ z < 9223372036854775808 := by
        intro j
        by_cases hj : j < m * n
        · have hj1 : j / n < m := Nat.div_lt_of_lt_mul (by rw [Nat.mul_comm]; exact hj)
          have hj2 : j % n < n := Nat.mod_lt _ hn
          obtain ⟨cs', h1, h2⟩ := hx (j / n) hj1
          rw [hce] at h1
          obtain ⟨_, hlen, hc⟩ := World.cells?_some h1
          obtain ⟨z, hz, hr⟩ := int_cell he hi hci h2 hlen hj2
          refine ⟨z, fun _ => ⟨?_, hr⟩⟩
          rw [← hz, ← hc _ hj2, addr_add]
          congr 2
          exact (Nat.div_add_mod' j n).symm
        · exact ⟨0, fun h => absurd h hj⟩
      obtain ⟨f, hf⟩ := Classical.axiomOfChoice hcell
      have hpos : 0 < m * n := Nat.mul_pos (by omega) hn
      have h0 := (hf 0 hpos).1
      have hfirst : ∃ cur ty fr, W.heap[a.block]? = some (.cells cur ty fr) ∧ a.spot = none := by
        have h0 : W.cell? a = some (.int .i64 (f 0)) := by simpa [Addr.add] using h0
        unfold World.cell? at h0
        split at h0
        · rename_i c ty fr hc
          split at h0
          · cases h0
          · rename_i hs
            exact ⟨c, ty, fr, hc, by simpa using hs⟩
        · cases h0
      obtain ⟨cur, ty, fr, hheap, hspot⟩ := hfirst
      have ha : a = ⟨a.block, a.off, none⟩ := by cases a; simp_all
      have hcur : ∀ j, j < m * n → cur[a.off + j]? = some (.int .i64 (f j)) := by
        intro j hj
        have := (hf j hj).1
        rw [ha, add_lit] at this
        simpa [World.cell?, hheap] using this
      have hsize : a.off + m * n ≤ cur.size := by
        have := hcur (m * n - 1) (by omega)
        have := (Array.getElem?_eq_some_iff.1 this).1
        omega
      have hln : len * n ≤ m * n := Nat.mul_le_mul_right _ hl
      refine ⟨_, (List.range (len * n)).map f, len, onePhi ⟨a.block, a.off, m * n⟩, rfl, by simp, by omega, ?_, ⟨⟨fun i b p hb hp => ?_, fun i j b c p q hb hc ho => ?_, fun i p hp => ?_⟩, htab, fun g cs _ ⟨i, b, p, hb, ho, hp, _⟩ => by cases i with | zero => (simp [lkp] at hb; subst hb; simp [Blk.own] at ho) | succ i => simp [lkp] at hb⟩, .inr ⟨⟨a.block, a.off, m * n⟩, m, rfl, by rw [Nat.add_zero, ← ha], hl, hm, by simp⟩⟩
      · intro x hx
        obtain ⟨j, hj, rfl⟩ := List.mem_map.1 hx
        exact (hf j (by have := List.mem_range.1 hj; omega)).2
      · cases i with
        | zero =>
          simp [lkp] at hb
          simp [onePhi] at hp
          subst hb; subst hp
          refine ⟨cur, ty, fr, hheap, hsize, by simpa using hln, fun j c hj => ?_, fun h => by cases h⟩
          have hjl : j < len * n := by have := (List.getElem?_eq_some_iff.1 hj).1; simpa using this
          rw [List.getElem?_eq_getElem (by simpa using hjl)] at hj
          simp only [List.getElem_map, List.getElem_range, Option.some.injEq] at hj
          subst hj
          exact ⟨_, hcur j (by omega), rfl⟩
        | succ i => simp [lkp] at hb
      · cases i with
        | zero => simp [lkp] at hb; subst hb; simp [Blk.own] at ho
        | succ i => simp [lkp] at hb
      · cases i with
        | zero => exact ⟨_, rfl⟩
        | succ i => simp [onePhi] at hp
/-- a law whose arguments lead to memory that the call does not write -/
theorem law_heap {P : Program} {F : Fns} (hF : FnOK P F) {f : FuncId} {fn : Func} {c : Code} (hf : P.funcs[f]? = some fn) (hname : (fn.name == "runtime.NumGoroutine") = false) (hb : fn.body = some c) {args : List V} {vs : Array Value} {w : World} {h h' : Heap} {φ : Phi} (hh : HeapOK φ (lkp h) w) (hno : ∀ b ∈ h, b.own = false) (ha : All2 (VR φ) args vs.toList) (hev : F f args h = some (.c (.bool true), h')) :
    Calls P f vs w fun e w' => e = .returned (.bool true) ∧ Fr (fun _ => False) w w' := by
  have hinv := hF f args h _ h' hev φ w vs.toList hh ha
  refine (invokes_calls hf hname hb hinv).mono fun e w' ⟨rv, he, φ', _, hv, hmv⟩ => ?_
  have hv : rv = .bool true := hv
  subst hv
  refine ⟨he, hmv.fr.mono fun k ⟨i, b, p, hb, ho, _⟩ => ?_⟩
  have := hno b (List.mem_of_getElem? hb)
  rw [this] at ho
  cases ho
/-- an argument that is an int -/
theorem open_int {P : Program} {W : World} {base : Nat} {t : TypeId} {v : Value} (hp : (intK P t == some .i64) = true) (h : Value.okWide P W .any base t v) : ∃ z : Int, v = .int .i64 z ∧ -9223372036854775808 ≤ z ∧ z < 9223372036854775808 := by
  have hk : P.underlying t = some (.int .i64) := intK_ok (by simpa using hp)
  have h : Cell.okWide P W .any base t v := by
    unfold Value.okWide at h
    rw [hk] at h
    exact h
  simp only [Cell.okWide, hk, Cell.ok] at h
  cases v with
  | int k x =>
    obtain ⟨rfl, hx⟩ := h
    refine ⟨x, rfl, ?_⟩
    simp [IntKind.has, IntKind.min, IntKind.max, IntKind.bits, IntKind.signed] at hx
    omega
  | _ => exact h.elim
end Go.Proofs.YthpookdfaikabaaGreatDoor.AM

