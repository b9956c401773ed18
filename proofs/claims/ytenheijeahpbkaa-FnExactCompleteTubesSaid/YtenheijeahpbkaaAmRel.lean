/-
  What the abstract machine's values and heaps say of the model's world: the relation, and its small laws.
-/
import Derived.Test.YtenheijeahpbkaaAmDefs
namespace Go.Proofs.Ytenheijeahpbkaa.AM
open Go

def All2 {α β : Type} (r : α → β → Prop) : List α → List β → Prop
  | [], [] => True
  | a :: x, b :: y => r a b ∧ All2 r x y
  | _, _ => False
section
variable {α β : Type} {r : α → β → Prop}
theorem All2.length {x : List α} {y : List β} (h : All2 r x y) : x.length = y.length := by
  induction x generalizing y with
  | nil => cases y with
    | nil => rfl
    | cons => exact h.elim
  | cons a x ih => cases y with
    | nil => exact h.elim
    | cons b y => simp [ih h.2]
theorem All2.get {x : List α} {y : List β} (h : All2 r x y) {i : Nat} {a : α} (ha : x[i]? = some a) : ∃ b, y[i]? = some b ∧ r a b := by
  induction x generalizing y i with
  | nil => simp at ha
  | cons a' x ih => cases y with
    | nil => exact h.elim
    | cons b y =>
      cases i with
      | zero => simp at ha; subst ha; exact ⟨b, by simp, h.1⟩
      | succ i => simpa using ih h.2 (by simpa using ha)
theorem All2.of_get {x : List α} {y : List β} (hl : x.length = y.length) (h : ∀ (i : Nat) (a : α), x[i]? = some a → ∃ b, y[i]? = some b ∧ r a b) : All2 r x y := by
  induction x generalizing y with
  | nil => cases y with
    | nil => trivial
    | cons => simp at hl
  | cons a x ih => cases y with
    | nil => simp at hl
    | cons b y =>
      refine ⟨?_, ih (by simpa using hl) fun i a' ha => ?_⟩
      · obtain ⟨b', hb, hr⟩ := h 0 a (by simp)
        simp at hb; subst hb; exact hr
      · obtain ⟨b', hb, hr⟩ := h (i + 1) a' (by simpa using ha)
        exact ⟨b', by simpa using hb, hr⟩
theorem All2.append {x x' : List α} {y y' : List β} (h : All2 r x y) (h' : All2 r x' y') : All2 r (x ++ x') (y ++ y') := by
  induction x generalizing y with
  | nil => cases y with
    | nil => exact h'
    | cons => exact h.elim
  | cons a x ih => cases y with
    | nil => exact h.elim
    | cons b y => exact ⟨h.1, ih h.2⟩
theorem All2.take {x : List α} {y : List β} (h : All2 r x y) (n : Nat) : All2 r (x.take n) (y.take n) := by
  induction n generalizing x y with
  | zero => trivial
  | succ n ih => cases x with
    | nil => cases y with
      | nil => trivial
      | cons => exact h.elim
    | cons a x => cases y with
      | nil => exact h.elim
      | cons b y => exact ⟨h.1, ih h.2⟩
theorem All2.drop {x : List α} {y : List β} (h : All2 r x y) (n : Nat) : All2 r (x.drop n) (y.drop n) := by
  induction n generalizing x y with
  | zero => exact h
  | succ n ih => cases x with
    | nil => cases y with
      | nil => trivial
      | cons => exact h.elim
    | cons a x => cases y with
      | nil => exact h.elim
      | cons b y => exact ih h.2
theorem All2.set {x : List α} {y : List β} (h : All2 r x y) {a : α} {b : β} (hab : r a b) (n : Nat) : All2 r (x.set n a) (y.set n b) := by
  induction n generalizing x y with
  | zero => cases x with
    | nil => cases y with
      | nil => trivial
      | cons => exact h.elim
    | cons a x => cases y with
      | nil => exact h.elim
      | cons b y => exact ⟨hab, h.2⟩
  | succ n ih => cases x with
    | nil => cases y with
      | nil => trivial
      | cons => exact h.elim
    | cons a x => cases y with
      | nil => exact h.elim
      | cons b y => exact ⟨h.1, ih h.2⟩
theorem All2.imp {r' : α → β → Prop} {x : List α} {y : List β} (h : All2 r x y) (f : ∀ a ∈ x, ∀ b, r a b → r' a b) : All2 r' x y := by
  induction x generalizing y with
  | nil => cases y with
    | nil => trivial
    | cons => exact h.elim
  | cons a x ih => cases y with
    | nil => exact h.elim
    | cons b y => exact ⟨f a (by simp) b h.1, ih h.2 fun a ha => f a (by simp [ha])⟩
theorem All2.map_left {γ : Type} {r' : γ → β → Prop} {x : List α} {y : List β} (g : α → γ) (h : All2 r x y) (f : ∀ a ∈ x, ∀ b, r a b → r' (g a) b) : All2 r' (x.map g) y := by
  induction x generalizing y with
  | nil => cases y with
    | nil => trivial
    | cons => exact h.elim
  | cons a x ih => cases y with
    | nil => exact h.elim
    | cons b y => exact ⟨f a (by simp) b h.1, ih h.2 fun a ha => f a (by simp [ha])⟩
end

/-- where a block of the abstract heap lies: its real block, the place of its first cell, and how many cells are its own from there on -/
structure Pl where
  b : Nat
  o : Nat
  tot : Nat
abbrev Phi := Nat → Option Pl
def ptrV (p : Pl) (off : Nat) : Value := .pointer (some ⟨p.b, p.o + off, none⟩)
def PR (φ : Phi) (c : Nat × Nat) (x : Value) : Prop := ∃ p, φ c.1 = some p ∧ x = ptrV p c.2
def VRc (φ : Phi) : C → Value → Prop
  | .dead, _ => True
  | .undef, v => v = Go.undef
  | .int k n, v => v = .int k n
  | .bool b, v => v = .bool b
  | .str s, v => v = .string ⟨s.toArray⟩
  | .ptr i o, v => PR φ (i, o) v
  | .sl i o n sz, v => (n = 0 ∧ ∃ a, v = .slice a 0 0) ∨ ∃ p cap, φ i = some p ∧ v = .slice (some ⟨p.b, p.o + o, none⟩) n cap ∧ n ≤ cap ∧ cap ≤ maxLen ∧ o + cap * sz ≤ p.tot
  | .nsl, v => ∃ a, v = .slice a 0 0
  | .fn f cs, v => ∃ vs : List Value, v = .func (.func f) #[] vs.toArray ∧ All2 (PR φ) cs vs
  | .map i, v => ∃ p, φ i = some p ∧ p.o = 0 ∧ v = .map (some p.b)
  | .err b, v => if b then ∃ t x, v = .iface t x else v = .nilIface
def VR1 (φ : Phi) : V1 → Value → Prop
  | .c x, v => VRc φ x v
  | .agg xs, v => ∃ vs : List Value, v = .agg vs.toArray ∧ All2 (VRc φ) xs vs
def VR (φ : Phi) : V → Value → Prop
  | .c x, v => VRc φ x v
  | .agg xs, v => ∃ vs : List Value, v = .agg vs.toArray ∧ All2 (VRc φ) xs vs
  | .tup xs, v => ∃ vs : List Value, v = .tuple vs.toArray ∧ All2 (VR1 φ) xs vs
theorem VR1.up {φ : Phi} {x : V1} {v : Value} : VR φ x.up v ↔ VR1 φ x v := by cases x <;> rfl

theorem mem_cids {xs : List C} {i : Nat} : i ∈ cids xs ↔ ∃ c ∈ xs, i ∈ c.ids := by
  induction xs with
  | nil => simp [cids]
  | cons c r ih => simp [cids, ih]
theorem cmp_eq (g : Nat → Nat) (xs : List C) : cmp g xs = xs.map (C.mp g) := by
  induction xs with
  | nil => rfl
  | cons c r ih => simp [cmp, ih]

/-- a renaming that keeps places -/
def Keeps (φ φ' : Phi) (g : Nat → Nat) (is : List Nat) : Prop := ∀ i ∈ is, ∀ p, φ i = some p → φ' (g i) = some p
theorem PR.mp {φ φ' : Phi} {g : Nat → Nat} {c : Nat × Nat} {v : Value} (h : PR φ c v) (hk : ∀ p, φ c.1 = some p → φ' (g c.1) = some p) : PR φ' (g c.1, c.2) v :=
  let ⟨p, hp, hv⟩ := h; ⟨p, hk p hp, hv⟩
theorem VRc.mp {φ φ' : Phi} {g : Nat → Nat} {c : C} {v : Value} (h : VRc φ c v) (hk : Keeps φ φ' g c.ids) : VRc φ' (c.mp g) v := by
  cases c with
  | ptr i o => exact PR.mp h (hk i (by simp [C.ids]))
  | sl i o n sz =>
    rcases h with h | ⟨p, cap, hp, r⟩
    · exact .inl h
    · exact .inr ⟨p, cap, hk i (by simp [C.ids]) p hp, r⟩
  | fn f cs =>
    obtain ⟨vs, hv, ha⟩ := h
    refine ⟨vs, hv, ha.map_left _ fun c hc v hr => PR.mp hr (hk c.1 ?_)⟩
    simp only [C.ids, List.mem_map]; exact ⟨c, hc, rfl⟩
  | map i => obtain ⟨p, hp, r⟩ := h; exact ⟨p, hk i (by simp [C.ids]) p hp, r⟩
  | _ => exact h
theorem All2_mp {φ φ' : Phi} {g : Nat → Nat} {xs : List C} {vs : List Value} (h : All2 (VRc φ) xs vs) (hk : Keeps φ φ' g (cids xs)) : All2 (VRc φ') (cmp g xs) vs := by
  rw [cmp_eq]
  exact h.map_left _ fun c hc v hr => hr.mp fun i hi => hk i (mem_cids.2 ⟨c, hc, hi⟩)
theorem VR1.mp {φ φ' : Phi} {g : Nat → Nat} {x : V1} {v : Value} (h : VR1 φ x v) (hk : Keeps φ φ' g x.ids) : VR1 φ' (x.mp g) v := by
  cases x with
  | c x => exact VRc.mp h hk
  | agg xs => obtain ⟨vs, hv, ha⟩ := h; exact ⟨vs, hv, All2_mp ha hk⟩
theorem VR.mp {φ φ' : Phi} {g : Nat → Nat} {x : V} {v : Value} (h : VR φ x v) (hk : Keeps φ φ' g x.ids) : VR φ' (x.mp g) v := by
  cases x with
  | c x => exact VRc.mp h hk
  | agg xs => obtain ⟨vs, hv, ha⟩ := h; exact ⟨vs, hv, All2_mp ha hk⟩
  | tup xs =>
    obtain ⟨vs, hv, ha⟩ := h
    exact ⟨vs, hv, ha.map_left _ fun c hc v hr => VR1.mp hr fun i hi => hk i (by simp only [V.ids, List.mem_flatMap]; exact ⟨c, hc, hi⟩)⟩
def Le (φ φ' : Phi) : Prop := ∀ i p, φ i = some p → φ' i = some p
theorem Le.refl (φ : Phi) : Le φ φ := fun _ _ h => h
theorem Le.trans {a b c : Phi} (h : Le a b) (k : Le b c) : Le a c := fun i p hp => k i p (h i p hp)
theorem C.mp_id (c : C) : c.mp (fun i => i) = c := by cases c <;> simp [C.mp]
theorem cmp_id (xs : List C) : cmp (fun i => i) xs = xs := by induction xs <;> simp_all [cmp, C.mp_id]
theorem V1.mp_id (x : V1) : x.mp (fun i => i) = x := by cases x <;> simp [V1.mp, C.mp_id, cmp_id]
theorem V.mp_id (x : V) : x.mp (fun i => i) = x := by
  cases x with
  | tup xs => simp only [V.mp]; congr 1; induction xs <;> simp_all [V1.mp_id]
  | _ => simp [V.mp, C.mp_id, cmp_id]
theorem VRc.mono {φ φ' : Phi} (hl : Le φ φ') {c : C} {v : Value} (h : VRc φ c v) : VRc φ' c v := by
  have := h.mp (φ' := φ') (g := fun i => i) fun i _ p hp => hl i p hp
  rwa [C.mp_id] at this
theorem VR1.mono {φ φ' : Phi} (hl : Le φ φ') {c : V1} {v : Value} (h : VR1 φ c v) : VR1 φ' c v := by
  have := h.mp (φ' := φ') (g := fun i => i) fun i _ p hp => hl i p hp
  rwa [V1.mp_id] at this
theorem VR.mono {φ φ' : Phi} (hl : Le φ φ') {c : V} {v : Value} (h : VR φ c v) : VR φ' c v := by
  have := h.mp (φ' := φ') (g := fun i => i) fun i _ p hp => hl i p hp
  rwa [V.mp_id] at this
theorem All2.mono {φ φ' : Phi} (hl : Le φ φ') {xs : List C} {vs : List Value} (h : All2 (VRc φ) xs vs) : All2 (VRc φ') xs vs :=
  h.imp fun _ _ _ hr => hr.mono hl
/-- the cells of a value -/
theorem VR.cells {φ : Phi} {x : V} {v : Value} (h : VR φ x v) (ht : okCells x = true) : ∃ vs : List Value, v.cells = vs.toArray ∧ All2 (VRc φ) x.cells vs := by
  cases x with
  | c x =>
    refine ⟨[v], ?_, h, trivial⟩
    cases x with
    | sl i o n sz => rcases h with ⟨_, a, hv⟩ | ⟨p, cap, _, hv, _⟩ <;> (rw [hv]; rfl)
    | dead => simp [okCells] at ht
    | undef => have hv : v = _ := h; rw [hv]; rfl
    | ptr i o => obtain ⟨p, _, hv⟩ := h; rw [hv]; rfl
    | nsl => obtain ⟨a, hv⟩ := h; rw [hv]; rfl
    | fn f cs => obtain ⟨a, hv, _⟩ := h; rw [hv]; rfl
    | map i => obtain ⟨p, _, _, hv⟩ := h; rw [hv]; rfl
    | err b => cases b with
      | true => obtain ⟨t, x, hv⟩ := h; rw [hv]; rfl
      | false => have hv : v = _ := h; rw [hv]; rfl
    | _ => have hv : v = _ := h; rw [hv]; rfl
  | agg xs => obtain ⟨vs, rfl, ha⟩ := h; exact ⟨vs, rfl, ha⟩
  | tup xs => simp [okCells] at ht
theorem VRc.one {φ : Phi} {c : C} {v : Value} (h : VRc φ c v) (h1 : noDead [c] = true) : v.oneCell' = true := by
  cases c with
  | sl i o n sz => rcases h with ⟨_, a, hv⟩ | ⟨p, cap, _, hv, _⟩ <;> (rw [hv]; rfl)
  | dead => simp [noDead] at h1
  | undef => simp [noDead] at h1
  | ptr i o => obtain ⟨p, _, hv⟩ := h; rw [hv]; rfl
  | nsl => obtain ⟨a, hv⟩ := h; rw [hv]; rfl
  | fn f cs => obtain ⟨a, hv, _⟩ := h; rw [hv]; rfl
  | map i => obtain ⟨p, _, _, hv⟩ := h; rw [hv]; rfl
  | err b => cases b with
    | true => obtain ⟨t, x, hv⟩ := h; rw [hv]; rfl
    | false => have hv : v = _ := h; rw [hv]; rfl
  | _ => have hv : v = _ := h; rw [hv]; rfl
theorem noDead_cons {c : C} {r : List C} (h : noDead (c :: r) = true) : noDead [c] = true ∧ noDead r = true := by
  cases c <;> simp_all [noDead]
theorem All2.one {φ : Phi} {xs : List C} {vs : List Value} (h : All2 (VRc φ) xs vs) (h1 : noDead xs = true) : ∀ v ∈ vs, v.oneCell' = true := by
  induction xs generalizing vs with
  | nil => cases vs with
    | nil => simp
    | cons => exact h.elim
  | cons c r ih => cases vs with
    | nil => exact h.elim
    | cons v vs =>
      obtain ⟨ha, hb⟩ := noDead_cons h1
      intro u hu
      rcases List.mem_cons.1 hu with rfl | hu
      · exact h.1.one ha
      · exact ih h.2 hb u hu

def Blk.own : Blk → Bool | .cells _ o => o | .dead => false | .map _ => true
def Blk.live : Blk → Bool | .dead => false | _ => true
theorem Blk.live_of_own {b : Blk} (h : b.own = true) : b.live = true := by cases b <;> simp_all [Blk.own, Blk.live]
theorem Blk.own_mp (b : Blk) (g : Nat → Nat) : (b.mp g).own = b.own := by cases b <;> rfl
theorem Blk.live_mp (b : Blk) (g : Nat → Nat) : (b.mp g).live = b.live := by cases b <;> rfl
def BlkOK (φ : Phi) (w : World) (p : Pl) : Blk → Prop
  | .cells cs own => ∃ cur e fr, w.heap[p.b]? = some (.cells cur e fr) ∧ p.o + p.tot ≤ cur.size ∧ cs.length ≤ p.tot ∧
      (∀ j c, cs[j]? = some c → ∃ v, cur[p.o + j]? = some v ∧ VRc φ c v) ∧ (own = true → ∀ j, j < p.tot → ¬ (fr.1 ≤ p.o + j ∧ p.o + j < fr.2))
  | .dead => True
  | .map es => ∃ entries clock, w.heap[p.b]? = some (.map entries clock) ∧ All2 (fun (e : List C × C) (m : MapEntry) => (∃ vs : List Value, m.key.cells = vs.toArray ∧ All2 (VRc fun _ => none) e.1 vs) ∧ VRc φ e.2 m.val) es entries.toList
structure HeapOK (φ : Phi) (H : HF) (w : World) : Prop where
  blk : ∀ i b p, H i = some b → φ i = some p → BlkOK φ w p b
  sep : ∀ i j b c p q, H i = some b → H j = some c → b.own = true → c.live = true → i ≠ j → φ i = some p → φ j = some q → p.b ≠ q.b
  dom : ∀ i p, φ i = some p → ∃ b, H i = some b
def OS (φ : Phi) (H : HF) (k : Nat) : Prop := ∃ i b p, H i = some b ∧ b.own = true ∧ φ i = some p ∧ p.b = k
def LS (φ : Phi) (H : HF) (k : Nat) : Prop := ∃ i b p, H i = some b ∧ b.live = true ∧ φ i = some p ∧ p.b = k
structure Fr (S : Nat → Prop) (w w' : World) : Prop where
  os : w'.os = w.os
  tape : w'.tape = w.tape
  output : w'.output = w.output
  size : w.heap.size ≤ w'.heap.size
  block : ∀ k, k < w.heap.size → ¬ S k → w'.heap[k]? = w.heap[k]?
theorem Fr.refl (S : Nat → Prop) (w : World) : Fr S w w := ⟨rfl, rfl, rfl, Nat.le_refl _, fun _ _ _ => rfl⟩
theorem Fr.trans {S S' : Nat → Prop} {a b c : World} (h : Fr S a b) (k : Fr S' b c) (hs : ∀ j, S' j → S j ∨ a.heap.size ≤ j) : Fr S a c :=
  ⟨k.os.trans h.os, k.tape.trans h.tape, k.output.trans h.output, Nat.le_trans h.size k.size, fun j hj hn => by
    rw [k.block j (Nat.lt_of_lt_of_le hj h.size) (fun hS => (hs j hS).elim hn (by omega)), h.block j hj hn]⟩
theorem Fr.mono {S S' : Nat → Prop} {w w' : World} (h : Fr S w w') (hs : ∀ k, S k → S' k) : Fr S' w w' :=
  ⟨h.os, h.tape, h.output, h.size, fun k hk hn => h.block k hk fun hS => hn (hs k hS)⟩
theorem Fr.drew (S : Nat → Prop) (w : World) : Fr S w w.drew := ⟨rfl, rfl, rfl, Nat.le_refl _, fun _ _ _ => rfl⟩
theorem Fr.alloc (S : Nat → Prop) (w : World) (o : Obj) : Fr S w (w.alloc o) :=
  ⟨rfl, rfl, rfl, by simp, fun k hk _ => Go.RowKit.Below.heap_alloc _ _ _ hk⟩
/-- from one state to a later one: what is there in the end, what may have been written -/
structure Mv (φ : Phi) (H : HF) (w : World) (φ' : Phi) (H' : HF) (w' : World) : Prop where
  ok : HeapOK φ' H' w'
  fr : Fr (OS φ H) w w'
  own : ∀ k, OS φ' H' k → OS φ H k ∨ w.heap.size ≤ k
  lv : ∀ k, LS φ' H' k → LS φ H k ∨ w.heap.size ≤ k
theorem Mv.refl {φ : Phi} {H : HF} {w : World} (h : HeapOK φ H w) : Mv φ H w φ H w := ⟨h, Fr.refl _ _, fun _ hk => .inl hk, fun _ hk => .inl hk⟩
theorem Mv.trans {φ φ' φ'' : Phi} {H H' H'' : HF} {w w' w'' : World} (h : Mv φ H w φ' H' w') (k : Mv φ' H' w' φ'' H'' w'') : Mv φ H w φ'' H'' w'' :=
  ⟨k.ok, h.fr.trans k.fr h.own, fun j hj => (k.own j hj).elim (h.own j) fun hj => .inr (Nat.le_trans h.fr.size hj), fun j hj => (k.lv j hj).elim (h.lv j) fun hj => .inr (Nat.le_trans h.fr.size hj)⟩
theorem BlkOK.lt {φ : Phi} {w : World} {p : Pl} {b : Blk} (h : BlkOK φ w p b) (hl : b.live = true) : p.b < w.heap.size := by
  cases b with
  | dead => cases hl
  | cells cs own => obtain ⟨cur, e, fr, hh, _⟩ := h; exact (Array.getElem?_eq_some_iff.1 hh).1
  | map es => obtain ⟨en, cl, hh, _⟩ := h; exact (Array.getElem?_eq_some_iff.1 hh).1
theorem BlkOK.mp {φ φ' : Phi} {w w' : World} {p : Pl} {b : Blk} {g : Nat → Nat} (h : BlkOK φ w p b) (hh : w'.heap[p.b]? = w.heap[p.b]?) (hk : Keeps φ φ' g b.ids) : BlkOK φ' w' p (b.mp g) := by
  cases b with
  | dead => trivial
  | cells cs own =>
    obtain ⟨cur, e, fr, h1, h2, h3, h4, h5⟩ := h
    refine ⟨cur, e, fr, hh.trans h1, h2, by simpa [cmp_eq] using h3, fun j c hc => ?_, h5⟩
    rw [cmp_eq, List.getElem?_map] at hc
    obtain ⟨c0, hc0, rfl⟩ := Option.map_eq_some_iff.1 hc
    obtain ⟨v, hv, hr⟩ := h4 j c0 hc0
    exact ⟨v, hv, hr.mp fun i hi => hk i (by simp only [Blk.ids]; exact mem_cids.2 ⟨c0, List.mem_of_getElem? hc0, hi⟩)⟩
  | map es =>
    obtain ⟨en, cl, h1, h2⟩ := h
    exact ⟨en, cl, hh.trans h1, h2.map_left _ fun e he m hr => ⟨hr.1, hr.2.mp fun i hi => hk i (by simp only [Blk.ids, List.mem_flatMap]; exact ⟨e, he, hi⟩)⟩⟩
end Go.Proofs.Ytenheijeahpbkaa.AM
