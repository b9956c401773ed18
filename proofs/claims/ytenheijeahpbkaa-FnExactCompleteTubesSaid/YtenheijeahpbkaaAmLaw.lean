/-
  From the abstract machine's answer to a law's row.
-/
import Derived.Test.YtenheijeahpbkaaAmFree
import Derived.ProofKit
namespace Go.Proofs.Ytenheijeahpbkaa.AM
open Go Go.ChangeShapes Go.WideShapes Go.RowKit Go.WideElems

theorem fr_kept {w w' : World} (h : Fr (fun _ => False) w w') (may : MemPlace → Prop) : w.keptBut w' may := by
  refine ⟨h.os, h.output, fun i hi => ?_⟩
  rw [h.block i hi fun x => x]
  exact (World.keptBut_refl w may).2.2 i hi
theorem fr_same {w w' : World} (h : Fr (fun _ => False) w w') {p : MemPlace} (hp : p.block < w.heap.size) : w.sameAt w' p := by
  cases p with
  | cell b off =>
    have := h.block b hp fun x => x
    simp only [World.sameAt, World.cell?, this]
  | map b => exact h.block b hp fun x => x
theorem fr_frozen {w w' : World} (h : Fr (fun _ => False) w w') {b off : Nat} (hb : b < w.heap.size) : w'.frozen? ⟨b, off, none⟩ = w.frozen? ⟨b, off, none⟩ := by
  have := h.block b hb fun x => x
  simp only [World.frozen?, this]
section
variable {H : Type} {enc : TypeId × Value → H} {P : Program}
theorem trodAll_stays (hl : laidOutB P = true) {W W' : World} {sp' : Nat → Bool} : ∀ {ts : List TypeId} {vs : List Value} {ds : List (DataW H)} {ps : List MemPlace}, (∀ t ∈ ts, P.readableRec t = true ∧ t < P.types.size) → DataW.TrodAll enc P W 0 (fun _ => true) true ts vs ds ps → (∀ p ∈ ps, W.sameAt W' p) → (∀ p ∈ ps, sp' p.block = true) → DataW.TrodAll enc P W' 0 sp' true ts vs ds ps
  | [], _, _, _, _, h, _, _ => by
    obtain ⟨rfl, rfl, rfl⟩ := trodAll_nil h
    exact trodAll_mk0
  | t :: ts, _, _, _, ht, h, hs, hsp => by
    obtain ⟨v, vs, d, ds, p, q, rfl, rfl, rfl, h1, h2⟩ := trodAll_cons h
    obtain ⟨hr, hrow⟩ := ht t (by simp)
    exact ⟨p, q, Trod_stays hl hr hrow h1 (fun x hx => hs x (List.mem_append_left _ hx)) (fun x hx => hsp x (List.mem_append_left _ hx)), trodAll_stays hl (fun t h => ht t (by simp [h])) h2 (fun x hx => hs x (List.mem_append_right _ hx)) (fun x hx => hsp x (List.mem_append_right _ hx)), rfl⟩
/-- what a law's row asks behind the call -/
theorem law_post {f : Func} {s : ChangeSpec} {apart fresh handsOn again : Bool} {W W' : World} {args : Array Value} {ds gs : List (DataW H)} {before : List MemPlace} {bt : TypeId}
    (hl : laidOutB P = true) (ht : ∀ t ∈ f.params.toList, P.readableRec t = true ∧ t < P.types.size) (hv : s.vars = [])
    (hW : DataW.Whole enc P f.params.toList s.vars apart W args.toList ds gs before) (hrt : f.resultTypes = #[bt]) (hbt : P.underlying bt = some .bool)
    (hres : (s.fn H (ds ++ gs)).results = [.lit (.bool true)]) (hargs : (s.fn H (ds ++ gs)).args = ds) (hvars : (s.fn H (ds ++ gs)).vars = []) (hfr : Fr (fun _ => False) W W') :
    s.post enc P f apart fresh handsOn again W args (.bool true) W' := by
  have hlt := hW.lt
  have hW0 := hW
  obtain ⟨p, q, hA, hV, hb, hz, hn⟩ := hW
  rw [hv] at hV
  obtain ⟨rfl, rfl⟩ := trodVars_none hV
  simp only [List.append_nil] at hb hres hargs hvars
  subst hb
  have hone : ∀ (b : Nat) (sp : Nat → Bool) (hd : Bool), DataW.TrodAll enc P W' b sp hd f.resultTypes.toList ((Value.bool true).resultList f.resultTypes.size) (s.fn H (ds ++ [])).results [] := by
    intro b sp hd
    simp only [List.append_nil]
    rw [hres, hrt]
    exact trodAll_mk1 (shut_bool hbt true)
  have hback : ∀ sp : Nat → Bool, (∀ x ∈ before, sp x.block = true) → DataW.TrodAll enc P W' 0 sp true f.params.toList args.toList (s.fn H (ds ++ [])).args before := by
    intro sp hsp
    simp only [List.append_nil]
    rw [hargs]
    exact trodAll_stays hl ht hA (fun x hx => fr_same hfr (hlt x hx)) hsp
  have hnov : ∀ sp : Nat → Bool, DataW.TrodVars enc P W' sp s.vars (s.fn H (ds ++ [])).vars [] := by
    intro sp
    simp only [List.append_nil]
    rw [hv, hvars]
    rfl
  refine ⟨ds, [], before, [], before, [], hW0, hone _ _ _, hback _ (fun x hx => by simpa using hlt x hx), hnov _, fr_kept hfr _, fun _ => ?_⟩
  refine ⟨ok_one hrt rfl (okWide_bool_mk hbt true), _, _, ([] ++ before) ++ [], ⟨[] ++ before, [], trodAll_append (hback _ (fun _ _ => rfl)) (hone _ _ _), hnov _, rfl, ?_, ?_⟩, ?_⟩
  · intro b off hp
    have hp : MemPlace.cell b off ∈ before := by simpa using hp
    rw [fr_frozen (b := b) hfr (hlt _ hp)]
    exact hz b off hp
  · intro ha
    simpa using hn ha
  · intro x hx _
    simpa using hx
end
/-- a function with a body is entered -/
theorem invokes_calls {P : Program} {f : FuncId} {fn : Func} {c : Code} (hf : P.funcs[f]? = some fn) (hname : (fn.name == "runtime.NumGoroutine") = false) (hb : fn.body = some c) {args : Array Value} {w : World} {R : Value → World → Prop} (h : Invokes P f args w R) : Calls P f args w fun e w' => ∃ rv, e = .returned rv ∧ R rv w' := by
  rcases h with ⟨rv, w', h, _⟩ | ⟨_, h⟩
  · rw [Go.MuLone.run_callFunc_enter hf hname hb] at h
    cases h
  · exact h
/-- no place is known -/
def noPhi : Phi := fun _ => none
theorem heapOK_nil (w : World) : HeapOK noPhi (lkp []) w := ⟨fun i b p h => by simp [lkp] at h, fun i j b c p q h => by simp [lkp] at h, fun i p h => by simp [noPhi] at h⟩
/-- a law whose arguments are values alone: the abstract machine's 'true' is the law's -/
theorem law_val {P : Program} {F : Fns} (hF : FnOK P F) {f : FuncId} {fn : Func} {c : Code} (hf : P.funcs[f]? = some fn) (hname : (fn.name == "runtime.NumGoroutine") = false) (hb : fn.body = some c) {args : List V} {vs : Array Value} {w : World} {h' : Heap} (ha : All2 (VR noPhi) args vs.toList) (hev : F f args [] = some (.c (.bool true), h')) :
    Calls P f vs w fun e w' => e = .returned (.bool true) ∧ Fr (fun _ => False) w w' := by
  have hinv := hF f args [] _ h' hev noPhi w vs.toList (heapOK_nil w) ha
  refine (invokes_calls hf hname hb hinv).mono fun e w' ⟨rv, he, φ', _, hv, hmv⟩ => ?_
  have hv : rv = .bool true := hv
  subst hv
  refine ⟨he, hmv.fr.mono fun k ⟨i, b, p, hb, _⟩ => ?_⟩
  simp [lkp] at hb
/-- an argument that is a struct or an array of ints -/
def plainInts (P : Program) (t : TypeId) (n : Nat) : Bool := (aggT P t == some true) && (P.cellsOf t == n) && (match P.cellTypes P.depth t with | some ts => ts.all (fun u => intK P u == some .i64) | none => false)
theorem open_ints {P : Program} {W : World} {base : Nat} {t : TypeId} {n : Nat} {v : Value} (hp : plainInts P t n = true) (h : Value.okWide P W .any base t v) : ∃ l : List Int, l.length = n ∧ v = .agg (l.map (Value.int .i64)).toArray ∧ ∀ x ∈ l, -9223372036854775808 ≤ x ∧ x < 9223372036854775808 := by
  simp only [plainInts, Bool.and_eq_true, beq_iff_eq] at hp
  obtain ⟨⟨h1, h2⟩, h3⟩ := hp
  have hagg : ∃ cs, v = .agg cs ∧ cs.size = P.cellsOf t ∧ Row.okWide P W .any base t cs := by
    unfold Value.okWide at h
    unfold aggT at h1
    split at h
    · exact h
    · exact h
    · rename_i ha hb
      split at h1
      · exact absurd ‹_› (ha _)
      · exact absurd ‹_› (hb _ _)
      · cases h1
      · cases h1
  obtain ⟨cs, rfl, hsz, ts, hts, _, hcell⟩ := hagg
  rw [hts] at h3
  simp only at h3
  have hall : ∀ (i : Nat) (v : Value), cs[i]? = some v → ∃ x : Int, v = Value.int .i64 x ∧ -9223372036854775808 ≤ x ∧ x < 9223372036854775808 := by
    intro i v hi
    obtain ⟨u, hu, hok⟩ := hcell i v hi
    have := List.all_eq_true.1 h3 u (List.mem_of_getElem? hu)
    have hk : P.underlying u = some (.int .i64) := intK_ok (by simpa using this)
    simp only [Cell.okWide, hk, Cell.ok] at hok
    cases v with
    | int k x =>
      obtain ⟨rfl, hx⟩ := hok
      refine ⟨x, rfl, ?_⟩
      simp [IntKind.has, IntKind.min, IntKind.max, IntKind.bits, IntKind.signed] at hx
      omega
    | _ => exact hok.elim
  have : ∀ (vs : List Value), (∀ v ∈ vs, ∃ x : Int, v = Value.int .i64 x ∧ -9223372036854775808 ≤ x ∧ x < 9223372036854775808) → ∃ l : List Int, vs = l.map (Value.int .i64) ∧ ∀ x ∈ l, -9223372036854775808 ≤ x ∧ x < 9223372036854775808 := by
    intro vs
    induction vs with
    | nil => intro _; exact ⟨[], rfl, by simp⟩
    | cons v vs ih =>
      intro h
      obtain ⟨x, rfl, hx⟩ := h v (by simp)
      obtain ⟨l, rfl, hl⟩ := ih fun v hv => h v (by simp [hv])
      exact ⟨x :: l, rfl, by simpa using ⟨hx, hl⟩⟩
  obtain ⟨l, hl, hr⟩ := this cs.toList fun v hv => by
    obtain ⟨i, hi⟩ := List.mem_iff_getElem?.1 hv
    exact hall i v (by simpa using hi)
  refine ⟨l, ?_, by rw [← hl], hr⟩
  have := congrArg List.length hl
  simp at this
  omega
theorem ints_ok (φ : Phi) : ∀ (l : List Int), All2 (VRc φ) (l.map (C.int .i64)) (l.map (Value.int .i64))
  | [] => trivial
  | _ :: l => ⟨rfl, ints_ok φ l⟩
theorem VR_ints (φ : Phi) (l : List Int) : VR φ (.agg (l.map (C.int .i64))) (.agg (l.map (Value.int .i64)).toArray) := ⟨_, rfl, ints_ok φ l⟩
end Go.Proofs.Ytenheijeahpbkaa.AM
