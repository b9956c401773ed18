import Derived.Test.YtgpafbbnobanbaaGreatDoorAmD
import Derived.ProofKit
import Derived.Deep.Slices
import Derived.OpenShut
/-
  From the abstract machine's answer to a law's row.
-/
namespace Go.Proofs.YtgpafbbnobanbaaGreatDoor.AM
open Go Go.ChangeShapes Go.WideShapes Go.RowKit Go.WideElems

theorem fr_kept {w w' : World} (h : Fr (fun _ => False) w w') (may : MemPlace → Prop) : w.keptBut w' may := by
  refine ⟨h.os, h.output, fun i hi => ?_⟩
  rw [h.block i hi fun x => x]
  exact (World.keptBut_refl w may).2.2 i hi
theorem fr_same {w w' : World} (h : Fr (fun _ => False) w w') {p : MemPlace} (hp : p.block < w.heap.size) : w.sameAt w' p := by
  cases p with
  | cell b off =>
    have := h.block b hp fun x => x
    simp only [World.sameAt, World.cell?, this]
  | map b => exact h.block b hp fun x => x
theorem fr_frozen {w w' : World} (h : Fr (fun _ => False) w w') {b off : Nat} (hb : b < w.heap.size) : w'.frozen? ⟨b, off, none⟩ = w.frozen? ⟨b, off, none⟩ := by
  have := h.block b hb fun x => x
  simp only [World.frozen?, this]
section
variable {H : Type} {enc : TypeId × Value → H} {P : Program}
theorem trodAll_stays (hl : laidOutB P = true) {W W' : World} {sp' : Nat → Bool} : ∀ {ts : List TypeId} {vs : List Value} {ds : List (DataW H)} {ps : List MemPlace}, (∀ t ∈ ts, P.readableRec t = true ∧ t < P.types.size) → DataW.TrodAll enc P W 0 (fun _ => true) true ts vs ds ps → (∀ p ∈ ps, W.sameAt W' p) → (∀ p ∈ ps, sp' p.block = true) → DataW.TrodAll enc P W' 0 sp' true ts vs ds ps
  | [], _, _, _, _, h, _, _ => by
    obtain ⟨rfl, rfl, rfl⟩ := trodAll_nil h
    exact trodAll_mk0
  | t :: ts, _, _, _, ht, h, hs, hsp => by
    obtain ⟨v, vs, d, ds, p, q, rfl, rfl, rfl, h1, h2⟩ := trodAll_cons h
    obtain ⟨hr, hrow⟩ := ht t (by simp)
    exact ⟨p, q, Trod_stays hl hr hrow h1 (fun x hx => hs x (List.mem_append_left _ hx)) (fun x hx => hsp x (List.mem_append_left _ hx)), trodAll_stays hl (fun t h => ht t (by simp [h])) h2 (fun x hx => hs x (List.mem_append_right _ hx)) (fun x hx => hsp x (List.mem_append_right _ hx)), rfl⟩
/-- what a law's row asks behind the call -/
theorem law_post {f : Func} {s : ChangeSpec} {apart fresh handsOn again : Bool} {W W' : World} {args : Array Value} {ds gs : List (DataW H)} {before : List MemPlace} {bt : TypeId}
    (hl : laidOutB P = true) (ht : ∀ t ∈ f.params.toList, P.readableRec t = true ∧ t < P.types.size) (hv : s.vars = [])
    (hW : DataW.Whole enc P f.params.toList s.vars apart W args.toList ds gs before) (hrt : f.resultTypes = #[bt]) (hbt : P.underlying bt = some .bool)
    (hres : (s.fn H (ds ++ gs)).results = [.lit (.bool true)]) (hargs : (s.fn H (ds ++ gs)).args = ds) (hvars : (s.fn H (ds ++ gs)).vars = []) (hfr : Fr (fun _ => False) W W') :
    s.post enc P f apart fresh handsOn again W args (.bool true) W' := by
  have hlt := hW.lt
  have hW0 := hW
  obtain ⟨p, q, hA, hV, hb, hz, hn⟩ := hW
  rw [hv] at hV
  obtain ⟨rfl, rfl⟩ := trodVars_none hV
  simp only [List.append_nil] at hb hres hargs hvars
  subst hb
  have hone : ∀ (b : Nat) (sp : Nat → Bool) (hd : Bool), DataW.TrodAll enc P W' b sp hd f.resultTypes.toList ((Value.bool true).resultList f.resultTypes.size) (s.fn H (ds ++ [])).results [] := by
    intro b sp hd
    simp only [List.append_nil]
    rw [hres, hrt]
    exact trodAll_mk1 (shut_bool hbt true)
  have hback : ∀ sp : Nat → Bool, (∀ x ∈ before, sp x.block = true) → DataW.TrodAll enc P W' 0 sp true f.params.toList args.toList (s.fn H (ds ++ [])).args before := by
    intro sp hsp
    simp only [List.append_nil]
    rw [hargs]
    exact trodAll_stays hl ht hA (fun x hx => fr_same hfr (hlt x hx)) hsp
  have hnov : ∀ sp : Nat → Bool, DataW.TrodVars enc P W' sp s.vars (s.fn H (ds ++ [])).vars [] := by
    intro sp
    simp only [List.append_nil]
    rw [hv, hvars]
    rfl
  refine ⟨ds, [], before, [], before, [], hW0, hone _ _ _, hback _ (fun x hx => by simpa using hlt x hx), hnov _, fr_kept hfr _, fun _ => ?_⟩
  refine ⟨ok_one hrt rfl (okWide_bool_mk hbt true), _, _, ([] ++ before) ++ [], ⟨[] ++ before, [], trodAll_append (hback _ (fun _ _ => rfl)) (hone _ _ _), hnov _, rfl, ?_, ?_⟩, ?_⟩
  · intro b off hp
    have hp : MemPlace.cell b off ∈ before := by simpa using hp
    rw [fr_frozen (b := b) hfr (hlt _ hp)]
    exact hz b off hp
  · intro ha
    simpa using hn ha
  · intro x hx _
    simpa using hx
end
/-- a function with a body is entered -/
theorem invokes_calls {P : Program} {f : FuncId} {fn : Func} {c : Code} (hf : P.funcs[f]? = some fn) (hname : (fn.name == "runtime.NumGoroutine") = false) (hb : fn.body = some c) {args : Array Value} {w : World} {R : Value → World → Prop} (h : Invokes P f args w R) : Calls P f args w fun e w' => ∃ rv, e = .returned rv ∧ R rv w' := by
  rcases h with ⟨rv, w', h, _⟩ | ⟨_, h⟩
  · rw [Go.MuLone.run_callFunc_enter hf hname hb] at h
    cases h
  · exact h
/-- no place is known -/
def noPhi : Phi := fun _ => none
end Go.Proofs.YtgpafbbnobanbaaGreatDoor.AM

/-
  From the abstract machine's answer to a law's row: arguments with a slice whose elements are arrays of ints.
-/
namespace Go.Proofs.YtgpafbbnobanbaaGreatDoor.AM
open Go Go.ChangeShapes Go.WideShapes Go.RowKit Go.WideElems Go.Deep

theorem addr_add (a : Addr) (x y : Nat) : (a.add x).add y = a.add (x + y) := by
  unfold Addr.add
  by_cases hx : x = 0
  · simp [hx]
  · by_cases hy : y = 0
    · simp [hy]
    · simp [hx, hy, Nat.add_assoc]
def onePhi (p : Pl) : Phi := fun i => if i = 0 then some p else none
theorem noPhi_heap (bs : Heap) (w : World) (ht : TabIn w := by exact fun _ _ h => by cases h) : HeapOK noPhi (lkp bs) w := ⟨⟨fun i b p h hp => by simp [noPhi] at hp, fun i j b c p q h _ _ _ _ hp => by simp [noPhi] at hp, fun i p h => by simp [noPhi] at h⟩, ht, fun g cs _ ⟨i, b, p, _, _, hp, _⟩ => by simp [noPhi] at hp⟩
/-- a law whose arguments lead to memory that the call does not write -/
theorem law_heap {P : Program} {F : Fns} (hF : FnOK P F) {f : FuncId} {fn : Func} {c : Code} (hf : P.funcs[f]? = some fn) (hname : (fn.name == "runtime.NumGoroutine") = false) (hb : fn.body = some c) {args : List V} {vs : Array Value} {w : World} {h h' : Heap} {φ : Phi} (hh : HeapOK φ (lkp h) w) (hno : ∀ b ∈ h, b.own = false) (ha : All2 (VR φ) args vs.toList) (hev : F f args h = some (.c (.bool true), h')) :
    Calls P f vs w fun e w' => e = .returned (.bool true) ∧ Fr (fun _ => False) w w' := by
  have hinv := hF f args h _ h' hev φ w vs.toList hh ha
  refine (invokes_calls hf hname hb hinv).mono fun e w' ⟨rv, he, φ', _, hv, hmv⟩ => ?_
  have hv : rv = .bool true := hv
  subst hv
  refine ⟨he, hmv.fr.mono fun k ⟨i, b, p, hb, ho, _⟩ => ?_⟩
  have := hno b (List.mem_of_getElem? hb)
  rw [this] at ho
  cases ho
end Go.Proofs.YtgpafbbnobanbaaGreatDoor.AM

