/-
  Operations that do not look at the heap: which operation of the model each of the abstract machine's stands for, and that it does the same.
-/
import Derived.Test.YtenheijeahpbkaaAmRel
namespace Go.Proofs.Ytenheijeahpbkaa.AM
open Go

def okC : Value → C → Bool
  | .bool b, .bool b' => b == b'
  | .int k n, .int k' n' => k == k' && n == n'
  | .string s, .str l => s.data.toList == l
  | .slice none 0 0, .nsl => true
  | .nilIface, .err false => true
  | .tuple vs, .undef => vs.isEmpty
  | _, _ => false
def okOpd : Operand → Opd → Bool
  | .tmp t, .t n => t == n
  | .func f, .f g => f == g
  | .const v, .k (.c c) => okC v c
  | _, _ => false
def EnvOK (φ : Phi) (e : Env) (a : Act) : Prop := ∀ t, VR φ (get e t) (a.tmps.getD t Go.undef)
theorem okC_ok {φ : Phi} {v : Value} {c : C} (h : okC v c = true) : VRc φ c v := by
  unfold okC at h
  split at h <;> simp_all [VRc, Go.undef]
  rw [← h]
theorem opd_ok {φ : Phi} {e : Env} {a : Act} (he : EnvOK φ e a) {x : Operand} {y : Opd} (h : okOpd x y = true) : VR φ (y.ev e) (a.eval x) := by
  unfold okOpd at h
  split at h
  · simp at h; subst h; exact he _
  · simp at h; subst h; exact ⟨[], rfl, trivial⟩
  · exact okC_ok h
  · cases h
def okZs : List Value → List Z → Bool
  | [], [] => true
  | v :: vs, .k c :: z => okC v c && okZs vs z
  | .slice none 0 0 :: vs, .sl _ :: z => okZs vs z
  | _, _ => false
theorem okZs_ok {φ : Phi} : ∀ {vs : List Value} {z : List Z} (n : Nat), okZs vs z = true → All2 (VRc φ) (inst z n).1 vs
  | [], [], _, _ => trivial
  | v :: vs, .k c :: z, n, h => by
    simp only [okZs, Bool.and_eq_true] at h
    exact ⟨okC_ok h.1, okZs_ok n h.2⟩
  | v :: vs, .sl s :: z, n, h => by
    unfold okZs at h
    split at h
    · rename_i h1 _; cases h1
    · rename_i h1 h2; injection h2 with h2; cases h2
    · rename_i h1 h2
      injection h1 with h1 h1'; injection h2 with h2 h2'
      subst h1; subst h1'; subst h2'
      exact ⟨.inl ⟨rfl, none, rfl⟩, okZs_ok (n + 1) h⟩
    · cases h
  | [], .k c :: z, _, h => by simp [okZs] at h
  | [], .sl s :: z, _, h => by simp [okZs] at h
  | v :: vs, [], _, h => by simp [okZs] at h

/-- what a list of new blocks, numbered from n on, says behind an operation -/
structure New (φ : Phi) (w : World) (n : Nat) (bs : List Blk) (φ' : Phi) (w' : World) : Prop where
  old : ∀ i, (i < n ∨ n + bs.length ≤ i) → φ' i = φ i
  blk : ∀ j b p, bs[j]? = some b → φ' (n + j) = some p → BlkOK φ' w' p b ∧ w.heap.size ≤ p.b
  sep : ∀ j k p q, j ≠ k → j < bs.length → k < bs.length → φ' (n + j) = some p → φ' (n + k) = some q → p.b ≠ q.b
  fr : Fr (fun _ => False) w w'
theorem New.nil (φ : Phi) (w : World) (n : Nat) : New φ w n [] φ w :=
  ⟨fun _ _ => rfl, fun j b p h => by simp at h, fun j k p q _ h => by simp at h, Fr.refl _ _⟩
theorem New.le {φ φ' : Phi} {w w' : World} {n : Nat} {bs : List Blk} (h : New φ w n bs φ' w') (hf : ∀ j, j < bs.length → φ (n + j) = none) : Le φ φ' := by
  intro i p hp
  by_cases hi : i < n ∨ n + bs.length ≤ i
  · rw [h.old i hi]; exact hp
  · have := hf (i - n) (by omega)
    rw [show n + (i - n) = i by omega, hp] at this
    cases this
/-- all new blocks but the first one are empty rows of no place -/
theorem inst_blocks : ∀ (z : List Z) (n j : Nat) (b : Blk), (inst z n).2[j]? = some b → b = .cells [] true
  | [], _, _, _, h => by simp [inst] at h
  | .k c :: z, n, j, b, h => inst_blocks z n j b h
  | .sl s :: z, n, 0, b, h => by simp [inst] at h; exact h.symm
  | .sl s :: z, n, j + 1, b, h => inst_blocks z (n + 1) j b (by simpa [inst] using h)
def Phi.at (φ : Phi) (n k : Nat) (p : Pl) : Phi := fun i => if i = n then some p else if n < i ∧ i < n + k then none else φ i
def Phi.none (φ : Phi) (n k : Nat) : Phi := fun i => if n ≤ i ∧ i < n + k then Option.none else φ i
/-- one new row of cells, and empty ones -/
theorem New.row {φ : Phi} {w : World} {n : Nat} {cs : List C} {bs : List Blk} {cur : Array Value} {e : TypeId} {own : Bool}
    (hc : ∀ φ' : Phi, (∀ i, (i < n ∨ n + (bs.length + 1) ≤ i) → φ' i = φ i) → ∃ vs, cur.toList.take cs.length = vs ∧ All2 (VRc φ') cs vs) (w1 : World) (hw1 : Fr (fun _ => False) w w1) :
    New φ w n (.cells cs own :: bs) (φ.at n (bs.length + 1) ⟨w1.heap.size, 0, cur.size⟩) (w1.alloc (.cells cur e)) := by
  have hold : ∀ i, (i < n ∨ n + (bs.length + 1) ≤ i) → (φ.at n (bs.length + 1) ⟨w1.heap.size, 0, cur.size⟩) i = φ i := by
    intro i hi
    unfold Phi.at
    rw [if_neg (by omega), if_neg (by omega)]
  refine ⟨fun i hi => hold i (by simpa using hi), fun j b p hb hp => ?_, fun j k p q hjk hj hk hp hq => ?_, hw1.trans (Fr.alloc (fun _ => False) _ _) fun _ (h : False) => h.elim⟩
  · unfold Phi.at at hp
    by_cases hj : j = 0
    · subst hj
      simp at hb hp
      subst hb; subst hp
      obtain ⟨vs, hv, ha⟩ := hc _ hold
      refine ⟨⟨cur, e, (0, 0), heap_alloc_new w1 _, by simp, ?_, fun j c hcj => ?_, fun _ j _ h => by simp at h⟩, hw1.size⟩
      · have := ha.length
        rw [← hv, List.length_take] at this
        simp at this ⊢; omega
      · obtain ⟨v, hvj, hr⟩ := ha.get hcj
        refine ⟨v, ?_, hr⟩
        rw [← hv, List.getElem?_take] at hvj
        split at hvj
        · simpa using hvj
        · cases hvj
    · rw [if_neg (by omega)] at hp
      have : j < bs.length + 1 := by
        have := (List.getElem?_eq_some_iff.1 hb).1
        simpa using this
      rw [if_pos (by omega)] at hp
      cases hp
  · unfold Phi.at at hp hq
    simp at hj hk
    by_cases h0 : j = 0
    · subst h0
      rw [if_neg (by omega), if_pos (by omega)] at hq; cases hq
    · rw [if_neg (by omega), if_pos (by omega)] at hp; cases hp
/-- new empty rows alone -/
theorem New.empties {φ : Phi} {w : World} {n : Nat} {bs : List Blk} : New φ w n bs (φ.none n bs.length) w := by
  refine ⟨fun i hi => ?_, fun j b p hb hp => ?_, fun j k p q hjk hj hk hp hq => ?_, Fr.refl _ _⟩
  · unfold Phi.none; rw [if_neg (by omega)]
  · have := (List.getElem?_eq_some_iff.1 hb).1
    unfold Phi.none at hp; rw [if_pos (by omega)] at hp; cases hp
  · unfold Phi.none at hp; rw [if_pos (by omega)] at hp; cases hp

/-! ### the operations -/
def szT (P : Program) (t : TypeId) : Option Nat := (P.info? t).map (·.size)
theorem run_size {P : Program} {t : TypeId} {n : Nat} (h : szT P t = some n) (w : World) : (sizeOf t).run P w = .ok n w := by
  unfold szT at h
  obtain ⟨i, hi, rfl⟩ := Option.map_eq_some_iff.1 h
  simp [sizeOf, typeInfo, hi]
def aggT (P : Program) (t : TypeId) : Option Bool := match P.underlying t with | some (.struct _) | some (.array _ _) => some true | some _ => some false | none => none
theorem run_aggT {P : Program} {t : TypeId} {b : Bool} (h : aggT P t = some b) (w : World) : (isAgg t).run P w = .ok b w := by
  unfold aggT at h
  split at h
  · rename_i d hd; injection h with h; subst h; simp [isAgg, run_underlying hd]
  · rename_i d hd; injection h with h; subst h; simp [isAgg, run_underlying hd]
  · rename_i d h1 h2 hd
    injection h with h; subst h
    simp only [isAgg, Sem.run_bind, run_underlying hd, Result.andThen_ok]
    cases d <;> first | rfl | (exfalso; first | exact h1 _ rfl | exact h2 _ _ rfl)
  · cases h
/-- what an operation without heap has to show -/
def PopOK (P : Program) (o : Op) (q : POp) : Prop :=
  ∀ (φ : Phi) (e : Env) (a : Act) (w : World) (n : Nat) (v : V) (bs : List Blk) (op : Oper), op.op = o → EnvOK φ e a → q.ev e n = some (v, bs) → (∀ j, j < bs.length → φ (n + j) = none) →
    ∃ rv w' φ', (execOp a.eval op).run P w = .ok (.value rv) w' ∧ VR φ' v rv ∧ New φ w n bs φ' w'
/-- the same where nothing is made -/
theorem PopOK.of_pure {P : Program} {o : Op} {q : POp} (h : ∀ (φ : Phi) (e : Env) (a : Act) (w : World) (n : Nat) (v : V) (bs : List Blk) (op : Oper), op.op = o → EnvOK φ e a → q.ev e n = some (v, bs) →
    bs = [] ∧ ∃ rv, (execOp a.eval op).run P w = .ok (.value rv) w ∧ VR φ v rv) : PopOK P o q := by
  intro φ e a w n v bs op ho he hev _
  obtain ⟨rfl, rv, hr, hv⟩ := h φ e a w n v bs op ho he hev
  exact ⟨rv, w, φ, hr, hv, New.nil _ _ _⟩

theorem pop_mv {P : Program} {x : Operand} {y : Opd} (h : okOpd x y = true) {o : Op} (ho : o = .move x ∨ o = .assign x) : PopOK P o (.mv y) := by
  refine PopOK.of_pure fun φ e a w n v bs op hop he hev => ?_
  simp only [POp.ev, Option.some.injEq, Prod.mk.injEq] at hev
  obtain ⟨rfl, rfl⟩ := hev
  refine ⟨rfl, a.eval x, ?_, opd_ok he h⟩
  rcases ho with rfl | rfl <;> simp [execOp, hop]
theorem pop_nilsl {P : Program} {sz : Nat} {o : Op} (ho : o = .move (.const (.slice none 0 0)) ∨ o = .assign (.const (.slice none 0 0))) : PopOK P o (.nilsl sz) := by
  intro φ e a w n v bs op hop he hev hf
  simp only [POp.ev, Option.some.injEq, Prod.mk.injEq] at hev
  obtain ⟨rfl, rfl⟩ := hev
  refine ⟨.slice none 0 0, w, _, ?_, .inl ⟨rfl, none, rfl⟩, New.empties⟩
  rcases ho with rfl | rfl <;> simp [execOp, hop, Act.eval]
theorem pop_pick {P : Program} {c x y : Operand} {c' x' y' : Opd} (hc : okOpd c c' = true) (hx : okOpd x x' = true) (hy : okOpd y y' = true) : PopOK P (.pick c x y) (.pick c' x' y') := by
  refine PopOK.of_pure fun φ e a w n v bs op hop he hev => ?_
  have h := opd_ok he hc
  simp only [POp.ev] at hev
  split at hev
  · rename_i t ht
    rw [ht] at h
    have h : a.eval c = .bool t := h
    simp only [Option.some.injEq, Prod.mk.injEq] at hev
    obtain ⟨rfl, rfl⟩ := hev
    refine ⟨rfl, if t then a.eval x else a.eval y, ?_, ?_⟩
    · simp [execOp, hop, h, asBool]
    · cases t
      · exact opd_ok he hy
      · exact opd_ok he hx
  · cases hev
theorem cells_size {v : Value} {xs : List Value} (h : v.cells = xs.toArray) : v.cells.toList = xs := by rw [h]
theorem pop_alloc {P : Program} {t : TypeId} {z : List Z} {v : Value} (hz : ((P.info? t).bind (·.zero)) = some v) (h : okZs v.cells.toList z = true) : PopOK P (.alloc t) (.alloc z) := by
  intro φ e a w n v' bs op hop he hev hf
  simp only [POp.ev, Option.some.injEq, Prod.mk.injEq] at hev
  obtain ⟨rfl, rfl⟩ := hev
  obtain ⟨i, hi, hz⟩ := Option.bind_eq_some_iff.1 hz
  refine ⟨.pointer (some ⟨w.heap.size, 0, none⟩), w.alloc (.cells v.cells t), φ.at n ((inst z (n + 1)).2.length + 1) ⟨w.heap.size, 0, v.cells.size⟩, ?_, ?_, ?_⟩
  · simp [execOp, hop, Instr.alloc, zeroValue, typeInfo, hi, hz, newVar, newRow]
  · exact ⟨⟨w.heap.size, 0, v.cells.size⟩, by simp [Phi.at], rfl⟩
  · refine New.row (fun φ' _ => ⟨v.cells.toList, ?_, okZs_ok (n + 1) h⟩) w (Fr.refl _ _)
    have := (okZs_ok (φ := φ) (n + 1) h).length
    rw [this]; exact List.take_length
theorem pop_box {P : Program} {t : TypeId} {x : Operand} {k : Nat} {y : Opd} (h : okOpd x y = true) : PopOK P (.box t x) (.box k y) := by
  intro φ e a w n v' bs op hop he hev hf
  simp only [POp.ev] at hev
  split at hev
  · rename_i hc
    simp only [Option.some.injEq, Prod.mk.injEq] at hev
    obtain ⟨rfl, rfl⟩ := hev
    obtain ⟨vs, hvs, ha⟩ := (opd_ok he h).cells hc.1
    refine ⟨.pointer (some ⟨w.heap.size, 0, none⟩), w.alloc (.cells (a.eval x).cells t), φ.at n (0 + 1) ⟨w.heap.size, 0, (a.eval x).cells.size⟩, ?_, ?_, ?_⟩
    · simp [execOp, hop, Instr.box, newVar, newRow]
    · exact ⟨⟨w.heap.size, 0, (a.eval x).cells.size⟩, by simp [Phi.at], rfl⟩
    · refine New.row (bs := []) (fun φ' hφ => ⟨vs, ?_, ha.mono fun i p hp => ?_⟩) w (Fr.refl _ _)
      · rw [ha.length, hvs]; simp
      · by_cases hi : i < n ∨ n + 1 ≤ i
        · rw [hφ i (by simpa using hi)]; exact hp
        · have := hf 0 (by simp)
          rw [show n + 0 = i by omega, hp] at this
          cases this
  · cases hev
theorem pop_un {P : Program} {t : TypeId} {op : UnOp} {x : Operand} {y : Opd} (h : okOpd x y = true) : PopOK P (.unOp op t x) (.un op y) := by
  refine PopOK.of_pure fun φ e a w n v bs o hop he hev => ?_
  have hx := opd_ok he h
  simp only [POp.ev, Option.map_eq_some_iff, Prod.mk.injEq] at hev
  obtain ⟨c, hc, rfl, rfl⟩ := hev
  unfold unV at hc
  split at hc
  · rename_i k m hm
    rw [hm] at hx
    have hx : a.eval x = .int k m := hx
    injection hc with hc; subst hc
    exact ⟨rfl, .int k (k.wrap (0 - m)), by simp [execOp, hop, hx, Op.unary, Op.intArith], rfl⟩
  · rename_i b hm
    rw [hm] at hx
    have hx : a.eval x = .bool b := hx
    injection hc with hc; subst hc
    exact ⟨rfl, .bool (!b), by simp [execOp, hop, hx, Op.unary], rfl⟩
  · cases hc
theorem pop_conv {P : Program} {s d : TypeId} {k : IntKind} {x : Operand} {y : Opd} (h : okOpd x y = true) (hs : (P.underlying s).isSome = true) (hd : P.underlying d = some (.int k)) : PopOK P (.convert s d x) (.conv k y) := by
  refine PopOK.of_pure fun φ e a w n v bs o hop he hev => ?_
  have hx := opd_ok he h
  simp only [POp.ev] at hev
  split at hev
  · rename_i k' m hm
    rw [hm] at hx
    have hx : a.eval x = .int k' m := hx
    simp only [Option.some.injEq, Prod.mk.injEq] at hev
    obtain ⟨rfl, rfl⟩ := hev
    obtain ⟨ds, hs⟩ := Option.isSome_iff_exists.1 hs
    exact ⟨rfl, .int k (k.wrap m), by simp [execOp, hop, hx, convert, run_underlying hs, run_underlying hd, Conv.intToInt], rfl⟩
  · cases hev
theorem pop_ext {P : Program} {x : Operand} {y : Opd} {i : Nat} (h : okOpd x y = true) : PopOK P (.extract x i) (.ext y i) := by
  refine PopOK.of_pure fun φ e a w n v bs o hop he hev => ?_
  have hx := opd_ok he h
  simp only [POp.ev] at hev
  split at hev
  · rename_i xs hm
    rw [hm] at hx
    obtain ⟨vs, hv, ha⟩ := hx
    simp only [Option.map_eq_some_iff, Prod.mk.injEq] at hev
    obtain ⟨u, hu, rfl, rfl⟩ := hev
    obtain ⟨r, hr, hru⟩ := ha.get hu
    refine ⟨rfl, r, ?_, VR1.up.2 hru⟩
    simp [execOp, hop, hv, Instr.extract, hr]
  · cases hev
theorem add_lit (b o n : Nat) : (⟨b, o, none⟩ : Addr).add n = ⟨b, o + n, none⟩ := by
  unfold Addr.add; split <;> simp_all
theorem pop_fld {P : Program} {t : TypeId} {fs : Array Field} {f : Field} {i : Nat} {m : Nat} {x : Operand} {y : Opd} (h : okOpd x y = true) (ht : P.underlying t = some (.struct fs)) (hf : fs[i]? = some f) (hz : szT P f.type = some m) (hm : m ≠ 0) :
    PopOK P (.fieldAddr t x i) (.fld f.offset y) := by
  refine PopOK.of_pure fun φ e a w n v bs o hop he hev => ?_
  have hx := opd_ok he h
  simp only [POp.ev] at hev
  split at hev
  · rename_i b k hm
    rw [hm] at hx
    obtain ⟨p, hp, hv⟩ := hx
    simp only [Option.some.injEq, Prod.mk.injEq] at hev
    obtain ⟨rfl, rfl⟩ := hev
    refine ⟨rfl, .pointer (some ⟨p.b, p.o + (k + f.offset), none⟩), ?_, p, hp, rfl⟩
    simp [execOp, hop, Instr.fieldAt, run_underlying ht, hf, hv, ptrV, Instr.sureAddr, fieldPlace, run_size hz, add_lit, Nat.add_assoc]
    omega
  · cases hev

theorem run_asInt {P : Program} {w : World} (k : IntKind) (n : Int) : (asIntOf (.int k n)).run P w = .ok (k, n) w := rfl
theorem pop_ixA {P : Program} {t el : TypeId} {m sz : Nat} {x i : Operand} {x' i' : Opd} (hx : okOpd x x' = true) (hi : okOpd i i' = true) (ht : P.underlying t = some (.array m el)) (hs : szT P el = some sz) :
    PopOK P (.indexAddr t x i) (.ixA m sz x' i') := by
  refine PopOK.of_pure fun φ e a w n v bs o hop he hev => ?_
  have hx := opd_ok he hx
  have hi := opd_ok he hi
  simp only [POp.ev] at hev
  split at hev
  · rename_i b k q j hb hj
    rw [hb] at hx; rw [hj] at hi
    obtain ⟨p, hp, hv⟩ := hx
    have hi : a.eval i = .int q j := hi
    split at hev
    · rename_i hc
      simp only [Option.some.injEq, Prod.mk.injEq] at hev
      obtain ⟨rfl, rfl⟩ := hev
      refine ⟨rfl, _, ?_, p, hp, rfl⟩
      simp [execOp, hop, Instr.indexAt, hi, hv, ptrV, asIntOf, run_underlying ht, Instr.sureAddr, hc, run_size hs, add_lit, Nat.add_assoc]
    · cases hev
  · cases hev
theorem pop_ixS {P : Program} {t el : TypeId} {sz : Nat} {x i : Operand} {x' i' : Opd} (hx : okOpd x x' = true) (hi : okOpd i i' = true) (ht : P.underlying t = some (.slice el)) (hs : szT P el = some sz) :
    PopOK P (.indexAddr t x i) (.ixS sz x' i') := by
  refine PopOK.of_pure fun φ e a w n v bs o hop he hev => ?_
  have hx := opd_ok he hx
  have hi := opd_ok he hi
  simp only [POp.ev] at hev
  split at hev
  · rename_i b k ln sz' q j hb hj
    rw [hb] at hx; rw [hj] at hi
    have hi : a.eval i = .int q j := hi
    split at hev
    · rename_i hc
      simp only [Option.some.injEq, Prod.mk.injEq] at hev
      obtain ⟨rfl, rfl⟩ := hev
      rcases hx with ⟨h0, _⟩ | ⟨p, cap, hp, hv, hle, _, _⟩
      · omega
      · refine ⟨rfl, _, ?_, p, hp, rfl⟩
        have hc1 := hc.2.1
        have hc2 := hc.2.2
        simp [execOp, hop, Instr.indexAt, hi, hv, ptrV, asIntOf, run_underlying ht, hc1, hc2, run_size hs, add_lit, Nat.add_assoc]
    · cases hev
  · cases hev
theorem run_bound {P : Program} {w : World} {e : Env} {φ : Phi} {a : Act} (he : EnvOK φ e a) {x : Operand} {y : Opd} (h : okOpd x y = true) {d lim m : Nat} (hb : bnd e (some y) d lim = some m) {k : Nat} (hk : lim ≤ k) (code : BoundsCode) :
    (Instr.sliceBound (a.eval x) k code).run P w = .ok m w ∧ m ≤ lim := by
  have hx := opd_ok he h
  simp only [bnd] at hb
  split at hb
  · rename_i q n hn
    rw [hn] at hx
    have hx : a.eval x = .int q n := hx
    split at hb
    · rename_i hc
      injection hb with hb
      subst hb
      refine ⟨?_, by omega⟩
      have h1 : n ≤ (k : Int) := by omega
      simp [Instr.sliceBound, hx, asIntOf, hc.1, h1]
    · cases hb
  · cases hb
def okBnd : Option Operand → Option Opd → Bool
  | none, none => true
  | some x, some y => okOpd x y
  | _, _ => false
/-- the three bounds of a slice expression with two: what the model reckons is what 'bnd' reckons -/
theorem run_bounds {P : Program} {w : World} {e : Env} {φ : Phi} {a : Act} (he : EnvOK φ e a) {lo hi : Option Operand} {lo' hi' : Option Opd} (hlo : okBnd lo lo' = true) (hhi : okBnd hi hi' = true) {ln cap h l : Nat} (hcap : ln ≤ cap) (isS : Bool)
    (h1 : bnd e hi' ln ln = some h) (h2 : bnd e lo' 0 h = some l) : (Instr.sliceBounds isS ln cap (lo.map a.eval) (hi.map a.eval) none).run P w = .ok (l, h, cap) w ∧ l ≤ h ∧ h ≤ ln := by
  have hh : h ≤ ln := by
    cases hi' with
    | none => simp [bnd] at h1; omega
    | some y => cases hi with
      | none => simp [okBnd] at hhi
      | some x => exact (run_bound (P := P) (w := w) he (x := x) (by simpa [okBnd] using hhi) h1 (Nat.le_refl _) .sliceB).2
  have hl : l ≤ h := by
    cases lo' with
    | none => simp [bnd] at h2; omega
    | some y => cases lo with
      | none => simp [okBnd] at hlo
      | some x => exact (run_bound (P := P) (w := w) he (x := x) (by simpa [okBnd] using hlo) h2 (Nat.le_refl _) .sliceB).2
  refine ⟨?_, hl, hh⟩
  cases hi' with
  | none =>
    cases hi with
    | some x => simp [okBnd] at hhi
    | none =>
      simp [bnd] at h1
      subst h1
      cases lo' with
      | none => cases lo with
        | some x => simp [okBnd] at hlo
        | none => simp [bnd] at h2; subst h2; simp [Instr.sliceBounds]
      | some y => cases lo with
        | none => simp [okBnd] at hlo
        | some x =>
          have hb := (run_bound (P := P) (w := w) he (x := x) (by simpa [okBnd] using hlo) h2 (Nat.le_refl _) .sliceB).1
          simp [Instr.sliceBounds, hb]
  | some y =>
    cases hi with
    | none => simp [okBnd] at hhi
    | some z =>
      have hb1 := fun code => (run_bound (P := P) (w := w) he (x := z) (by simpa [okBnd] using hhi) h1 hcap code).1
      cases lo' with
      | none => cases lo with
        | some x => simp [okBnd] at hlo
        | none => simp [bnd] at h2; subst h2; simp [Instr.sliceBounds, hb1]
      | some y => cases lo with
        | none => simp [okBnd] at hlo
        | some x =>
          have hb := (run_bound (P := P) (w := w) he (x := x) (by simpa [okBnd] using hlo) h2 (Nat.le_refl _) .sliceB).1
          simp [Instr.sliceBounds, hb, hb1]
theorem pop_slS {P : Program} {t el : TypeId} {sz : Nat} {x : Operand} {x' : Opd} {lo hi : Option Operand} {lo' hi' : Option Opd} (hx : okOpd x x' = true) (hlo : okBnd lo lo' = true) (hhi : okBnd hi hi' = true) (ht : P.underlying t = some (.slice el)) (hs : szT P el = some sz) :
    PopOK P (.slice t x lo hi none) (.slS sz x' lo' hi') := by
  refine PopOK.of_pure fun φ e a w n v bs o hop he hev => ?_
  have hx := opd_ok he hx
  simp only [POp.ev] at hev
  split at hev
  · rename_i b k ln sz' hb
    rw [hb] at hx
    split at hev
    · rename_i hc
      subst hc
      obtain ⟨h, h1, hev⟩ := Option.bind_eq_some_iff.1 hev
      simp only [Option.map_eq_some_iff, Prod.mk.injEq] at hev
      obtain ⟨l, h2, rfl, rfl⟩ := hev
      rcases hx with ⟨h0, ad, hv⟩ | ⟨p, cap, hp, hv, hle, hmx, htot⟩
      · subst h0
        obtain ⟨hrun, hl, hh⟩ := run_bounds (P := P) (w := w) he hlo hhi (Nat.le_refl 0) true h1 h2
        have : h = 0 := by omega
        subst this
        have : l = 0 := by omega
        subst this
        refine ⟨rfl, .slice ad 0 0, ?_, .inl ⟨rfl, ad, rfl⟩⟩
        simp [execOp, hop, Instr.sliceAt, Instr.slice, hv, run_underlying ht, hrun, run_size hs]
      · obtain ⟨hrun, hl, hh⟩ := run_bounds (P := P) (w := w) he hlo hhi hle true h1 h2
        by_cases hcl : cap = l
        · subst hcl
          refine ⟨rfl, .slice (some ⟨p.b, p.o + k, none⟩) 0 0, ?_, .inl ⟨by omega, _, rfl⟩⟩
          simp [execOp, hop, Instr.sliceAt, Instr.slice, hv, run_underlying ht, hrun, run_size hs]
          omega
        · refine ⟨rfl, .slice (some ⟨p.b, p.o + (k + l * sz), none⟩) (h - l) (cap - l), ?_, .inr ⟨p, cap - l, hp, rfl, by omega, by omega, ?_⟩⟩
          · simp [execOp, hop, Instr.sliceAt, Instr.slice, hv, run_underlying ht, hrun, run_size hs, hcl, add_lit, Nat.add_assoc]
          · have e1 : l * sz + (cap - l) * sz = cap * sz := by rw [← Nat.add_mul]; congr 1; omega
            omega
    · cases hev
  · rename_i hb
    rw [hb] at hx
    obtain ⟨ad, hv⟩ := hx
    obtain ⟨h, h1, hev⟩ := Option.bind_eq_some_iff.1 hev
    simp only [Option.map_eq_some_iff, Prod.mk.injEq] at hev
    obtain ⟨l, h2, rfl, rfl⟩ := hev
    obtain ⟨hrun, hl, hh⟩ := run_bounds (P := P) (w := w) he hlo hhi (Nat.le_refl 0) true h1 h2
    have : h = 0 := by omega
    subst this
    have : l = 0 := by omega
    subst this
    refine ⟨rfl, .slice ad 0 0, ?_, ad, rfl⟩
    simp [execOp, hop, Instr.sliceAt, Instr.slice, hv, run_underlying ht, hrun, run_size hs]
  · cases hev
theorem pop_sl0 {P : Program} {t el : TypeId} {sz sz' : Nat} {x z1 z2 : Operand} {x' : Opd} (hx : okOpd x x' = true) (hz1 : z1 = .const (.int .i64 0)) (hz2 : z2 = .const (.int .i64 0)) (ht : P.underlying t = some (.slice el)) (hs : szT P el = some sz') :
    PopOK P (.slice t x none (some z1) (some z2)) (.sl0 sz x') := by
  refine PopOK.of_pure fun φ e a w n v bs o hop he hev => ?_
  have hx := opd_ok he hx
  subst hz1; subst hz2
  have key : ∀ ad ln cap, a.eval x = .slice ad ln cap → (execOp a.eval o).run P w = .ok (.value (.slice ad 0 0)) w := by
    intro ad ln cap hv
    have e0 : a.eval (.const (.int .i64 0)) = .int .i64 0 := rfl
    simp [execOp, hop, Instr.sliceAt, Instr.slice, hv, run_underlying ht, Instr.sliceBounds, Instr.sliceBound, e0, asIntOf, run_size hs]
  simp only [POp.ev] at hev
  split at hev
  · rename_i hb
    rw [hb] at hx
    simp only [Option.some.injEq, Prod.mk.injEq] at hev
    obtain ⟨rfl, rfl⟩ := hev
    rcases hx with ⟨h0, ad, hv⟩ | ⟨p, cap, hp, hv, _⟩
    · exact ⟨rfl, _, key _ _ _ hv, _, rfl⟩
    · exact ⟨rfl, _, key _ _ _ hv, _, rfl⟩
  · rename_i hb
    rw [hb] at hx
    simp only [Option.some.injEq, Prod.mk.injEq] at hev
    obtain ⟨rfl, rfl⟩ := hev
    obtain ⟨ad, hv⟩ := hx
    exact ⟨rfl, _, key _ _ _ hv, _, rfl⟩
  · cases hev

theorem pop_slStr {P : Program} {t : TypeId} {x : Operand} {x' : Opd} {lo hi : Option Operand} {lo' hi' : Option Opd} (hx : okOpd x x' = true) (hlo : okBnd lo lo' = true) (hhi : okBnd hi hi' = true) (ht : P.underlying t = some .string) :
    PopOK P (.slice t x lo hi none) (.slStr x' lo' hi') := by
  refine PopOK.of_pure fun φ e a w n v bs o hop he hev => ?_
  have hx := opd_ok he hx
  simp only [POp.ev] at hev
  split at hev
  · rename_i s hb
    rw [hb] at hx
    have hv : a.eval x = .string ⟨s.toArray⟩ := hx
    obtain ⟨h, h1, hev⟩ := Option.bind_eq_some_iff.1 hev
    simp only [Option.map_eq_some_iff, Prod.mk.injEq] at hev
    obtain ⟨l, h2, rfl, rfl⟩ := hev
    obtain ⟨hrun, hl, hh⟩ := run_bounds (P := P) (w := w) he hlo hhi (Nat.le_refl _) false h1 h2
    refine ⟨rfl, .string ⟨((s.take h).drop l).toArray⟩, ?_, rfl⟩
    have hsz : (⟨s.toArray⟩ : ByteArray).size = s.length := by simp [ByteArray.size]
    have hex : (⟨s.toArray⟩ : ByteArray).extract l h = ⟨((s.take h).drop l).toArray⟩ := by
      apply ByteArray.ext
      rw [ByteArray.data_extract]
      apply Array.ext'
      simp [List.extract, List.drop_take]
    simp [execOp, hop, Instr.sliceAt, Instr.slice, hv, run_underlying ht, hsz, hrun, hex]
  · cases hev
theorem pop_ixStr {P : Program} {t : TypeId} {x i : Operand} {x' i' : Opd} (hx : okOpd x x' = true) (hi : okOpd i i' = true) (ht : P.underlying t = some .string) :
    PopOK P (.index t x i) (.ixStr x' i') := by
  refine PopOK.of_pure fun φ e a w n v bs o hop he hev => ?_
  have hx := opd_ok he hx
  have hi := opd_ok he hi
  simp only [POp.ev] at hev
  split at hev
  · rename_i s q j hb hj
    rw [hb] at hx; rw [hj] at hi
    have hv : a.eval x = .string ⟨s.toArray⟩ := hx
    have hi : a.eval i = .int q j := hi
    split at hev
    · rename_i hc
      simp only [Option.some.injEq, Prod.mk.injEq] at hev
      obtain ⟨rfl, rfl⟩ := hev
      refine ⟨rfl, _, ?_, rfl⟩
      have hlt : j.toNat < s.length := by omega
      have hg : (⟨s.toArray⟩ : ByteArray)[j.toNat]? = some (s[j.toNat]) := by
        rw [getElem?_pos _ _ (by simpa [ByteArray.size] using hlt)]
        rfl
      simp [execOp, hop, Instr.index, hi, hv, asIntOf, run_underlying ht, hc.1, hg, hlt]
    · cases hev
  · cases hev
theorem mkV_ok {φ : Phi} {cs : List C} {vs : List Value} (h : All2 (VRc φ) cs vs) {b : Bool} (hb : b = true ∨ cs.length = 1) : VR φ (mkV b cs) (if b then .agg vs.toArray else vs.headD Go.undef) := by
  cases b with
  | true => exact ⟨vs, rfl, h⟩
  | false =>
    cases cs with
    | nil => simp at hb
    | cons c r => cases vs with
      | nil => exact h.elim
      | cons v vs => exact h.1
/-- a part of a value -/
theorem run_part {P : Program} {w : World} {φ : Phi} {t : TypeId} {n off : Nat} {b : Bool} {xs : List C} {vs : List Value} (hs : szT P t = some n) (hb : aggT P t = some b) (h1 : b = true ∨ n = 1) (h : All2 (VRc φ) xs vs) (hl : off + n ≤ xs.length) :
    ∃ v, (part t vs.toArray off).run P w = .ok v w ∧ VR φ (mkV b ((xs.drop off).take n)) v := by
  have hv := mkV_ok (b := b) ((h.drop off).take n) (by rcases h1 with h1 | h1; exact .inl h1; right; simp; omega)
  refine ⟨_, ?_, hv⟩
  cases b with
  | true =>
    simp [part, run_aggT hb, run_size hs]
  | false =>
    have hn : n = 1 := by simpa using h1
    subst hn
    have hlv := h.length
    have hg : vs[off]? = some (vs[off]'(by omega)) := List.getElem?_eq_getElem (by omega)
    simp [part, run_aggT hb, hg]
    have hd : vs.drop off = vs[off]'(by omega) :: vs.drop (off + 1) := List.drop_eq_getElem_cons _
    simp only [hd]
    rfl
theorem pop_fldV {P : Program} {t : TypeId} {fs : Array Field} {f : Field} {i m : Nat} {b : Bool} {x : Operand} {y : Opd} (h : okOpd x y = true) (ht : P.underlying t = some (.struct fs)) (hf : fs[i]? = some f) (hs : szT P f.type = some m) (hb : aggT P f.type = some b) (h1 : b = true ∨ m = 1) :
    PopOK P (.field t x i) (.fldV f.offset m b y) := by
  refine PopOK.of_pure fun φ e a w n v bs o hop he hev => ?_
  have hx := opd_ok he h
  simp only [POp.ev] at hev
  split at hev
  · rename_i xs hm
    rw [hm] at hx
    obtain ⟨vs, hv, ha⟩ := hx
    split at hev
    · rename_i hl
      simp only [Option.some.injEq, Prod.mk.injEq] at hev
      obtain ⟨rfl, rfl⟩ := hev
      obtain ⟨r, hr, hrv⟩ := run_part (P := P) (w := w) hs hb h1 ha hl
      exact ⟨rfl, r, by simp [execOp, hop, Instr.field, run_underlying ht, hf, hv, asAgg, hr], hrv⟩
    · cases hev
  · cases hev
theorem pop_ixV {P : Program} {t el : TypeId} {k m : Nat} {b : Bool} {x i : Operand} {x' i' : Opd} (hx : okOpd x x' = true) (hi : okOpd i i' = true) (ht : P.underlying t = some (.array k el)) (hs : szT P el = some m) (hb : aggT P el = some b) (h1 : b = true ∨ m = 1) :
    PopOK P (.index t x i) (.ixV k m b x' i') := by
  refine PopOK.of_pure fun φ e a w n v bs o hop he hev => ?_
  have hx := opd_ok he hx
  have hi := opd_ok he hi
  simp only [POp.ev] at hev
  split at hev
  · rename_i xs q j hm hj
    rw [hm] at hx; rw [hj] at hi
    obtain ⟨vs, hv, ha⟩ := hx
    have hi : a.eval i = .int q j := hi
    split at hev
    · rename_i hc
      simp only [Option.some.injEq, Prod.mk.injEq] at hev
      obtain ⟨rfl, rfl⟩ := hev
      have hl : j.toNat * m + m ≤ xs.length := by
        rw [hc.2.2, ← Nat.succ_mul]; exact Nat.mul_le_mul_right _ (by omega)
      obtain ⟨r, hr, hrv⟩ := run_part (P := P) (w := w) hs hb h1 ha hl
      exact ⟨rfl, r, by simp [execOp, hop, Instr.index, run_underlying ht, hi, hv, asIntOf, hc.1, hc.2.1, run_size hs, hr], hrv⟩
    · cases hev
  · cases hev
theorem run_call1 {P : Program} {w : World} {a : Act} {o : Oper} {b : Builtin} {x : Operand} {t : TypeId} (hop : o.op = .call { callee := .builtin b, args := #[x], argTypes := #[t] }) :
    (execOp a.eval o).run P w = (builtin b #[t] o.type (#[x].map fun | .const _ => true | _ => false) #[a.eval x]).run P w := by
  simp [execOp, hop, resolve, invoke]
  rfl
theorem pop_len {P : Program} {t el : TypeId} {x : Operand} {y : Opd} (h : okOpd x y = true) (ht : P.underlying t = some (.slice el)) : PopOK P (.call { callee := .builtin .len, args := #[x], argTypes := #[t] }) (.len y) := by
  refine PopOK.of_pure fun φ e a w n v bs o hop he hev => ?_
  have hx := opd_ok he h
  simp only [POp.ev] at hev
  split at hev
  · rename_i i k ln sz hm
    rw [hm] at hx
    simp only [Option.some.injEq, Prod.mk.injEq] at hev
    obtain ⟨rfl, rfl⟩ := hev
    refine ⟨rfl, .int .i64 ln, ?_, rfl⟩
    rw [run_call1 hop]
    rcases hx with ⟨h0, ad, hv⟩ | ⟨p, cap, hp, hv, _⟩
    · subst h0
      simp [builtin, Builtin.len_, run_underlying ht, hv, goInt]
    · simp [builtin, Builtin.len_, run_underlying ht, hv, goInt]
  · rename_i hm
    rw [hm] at hx
    simp only [Option.some.injEq, Prod.mk.injEq] at hev
    obtain ⟨rfl, rfl⟩ := hev
    obtain ⟨ad, hv⟩ := hx
    refine ⟨rfl, .int .i64 0, ?_, rfl⟩
    rw [run_call1 hop]
    simp [builtin, Builtin.len_, run_underlying ht, hv, goInt]
  · cases hev
theorem pop_lenStr {P : Program} {t : TypeId} {x : Operand} {y : Opd} (h : okOpd x y = true) (ht : P.underlying t = some .string) : PopOK P (.call { callee := .builtin .len, args := #[x], argTypes := #[t] }) (.lenStr y) := by
  refine PopOK.of_pure fun φ e a w n v bs o hop he hev => ?_
  have hx := opd_ok he h
  simp only [POp.ev] at hev
  split at hev
  · rename_i s hm
    rw [hm] at hx
    have hv : a.eval x = .string ⟨s.toArray⟩ := hx
    simp only [Option.some.injEq, Prod.mk.injEq] at hev
    obtain ⟨rfl, rfl⟩ := hev
    refine ⟨rfl, .int .i64 s.length, ?_, rfl⟩
    rw [run_call1 hop]
    have hsz : (⟨s.toArray⟩ : ByteArray).size = s.length := by simp [ByteArray.size]
    simp [builtin, Builtin.len_, run_underlying ht, hv, goInt, hsz]
  · cases hev
theorem caps_ok {φ : Phi} {e : Env} {a : Act} (he : EnvOK φ e a) : ∀ {xs : List Operand} {ys : List Opd} {cs : List (Nat × Nat)}, All2 (fun x y => okOpd x y = true) xs ys → capsOf e ys = some cs → All2 (PR φ) cs (xs.map a.eval)
  | [], [], cs, _, h => by simp only [capsOf, Option.some.injEq] at h; subst h; trivial
  | x :: xs, y :: ys, cs, hk, h => by
    simp only [capsOf] at h
    have hx := opd_ok he hk.1
    split at h
    · rename_i i o hm
      rw [hm] at hx
      simp only [Option.map_eq_some_iff] at h
      obtain ⟨r, hr, rfl⟩ := h
      exact ⟨hx, caps_ok he hk.2 hr⟩
    · cases h
  | [], _ :: _, _, h, _ => h.elim
  | _ :: _, [], _, h, _ => h.elim
theorem pop_mkfn {P : Program} {f : Nat} {caps : Array Operand} {ys : List Opd} (h : All2 (fun x y => okOpd x y = true) caps.toList ys) : PopOK P (.makeFunc (.func f) #[] caps) (.mkfn f ys) := by
  refine PopOK.of_pure fun φ e a w n v bs o hop he hev => ?_
  simp only [POp.ev, Option.map_eq_some_iff, Prod.mk.injEq] at hev
  obtain ⟨cs, hc, rfl, rfl⟩ := hev
  refine ⟨rfl, .func (.func f) #[] (caps.map a.eval), by simp [execOp, hop, Instr.makeFunc], caps.toList.map a.eval, ?_, caps_ok he h hc⟩
  congr 1
  apply Array.ext'
  simp

theorem eqGuard_ok {P : Program} {w : World} {op : BinOp} {t : TypeId} {x y : Operand} {u v : Value} (hu : ∀ xs, u ≠ .agg xs) (hn : u ≠ .nilIface) : (eqGuard op t x y u v).run P w = .ok () w := by
  have key : ∀ (z : Sem Unit) (f : Array Value → Array Value → Sem Unit), (match u, v with | .nilIface, .nilIface => z | .agg a, .agg b => f a b | _, _ => pure ()).run P w = .ok () w := by
    intro z f
    split
    · exact absurd rfl hn
    · exact absurd rfl (hu _)
    · rfl
  cases op <;> first | rfl | exact key _ _
theorem pop_bin {P : Program} {t u : TypeId} {op : BinOp} {x y : Operand} {x' y' : Opd} (hx : okOpd x x' = true) (hy : okOpd y y' = true) :
    PopOK P (.binOp op t x y u) (.bin op x' y') := by
  refine PopOK.of_pure fun φ e a w n v bs o hop he hev => ?_
  have hx := opd_ok he hx
  have hy := opd_ok he hy
  simp only [POp.ev, Option.map_eq_some_iff, Prod.mk.injEq] at hev
  obtain ⟨c, hc, rfl, rfl⟩ := hev
  refine ⟨rfl, ?_⟩
  unfold binV at hc
  split at hc
  · rename_i k m k' m' hm hm'
    rw [hm] at hx; rw [hm'] at hy
    have hx : a.eval x = .int k m := hx
    have hy : a.eval y = .int k' m' := hy
    have hg : (eqGuard op t x y (.int k m) (.int k' m')).run P w = .ok () w := eqGuard_ok (fun _ => by simp) (by simp)
    split at hc
    · rename_i hs
      unfold binShift at hc
      split at hc
      · cases hc
      · rename_i hneg
        rcases hs with rfl | rfl
        · injection hc with hc; subst hc
          exact ⟨_, by simp [execOp, hop, hx, hy, hg, binOp, Op.shift, hneg], rfl⟩
        · injection hc with hc; subst hc
          exact ⟨_, by simp [execOp, hop, hx, hy, hg, binOp, Op.shift, hneg], rfl⟩
    · rename_i hs
      split at hc
      · rename_i hk
        subst hk
        cases op <;> simp only [binI, reduceCtorEq, Option.some.injEq] at hc <;> simp only [or_self, reduceCtorEq, not_false_eq_true] at hs
        all_goals first
          | (subst hc; exact ⟨_, by simp [execOp, hop, hx, hy, hg, binOp, Op.intArith, Op.intCmp, Op.intBits], rfl⟩)
          | (split at hc
             · cases hc
             · rename_i h0; injection hc with hc; subst hc; exact ⟨_, by simp [execOp, hop, hx, hy, hg, binOp, Op.intDiv, h0], rfl⟩)
      · cases hc
  · rename_i s s' hm hm'
    rw [hm] at hx; rw [hm'] at hy
    have hx : a.eval x = .string ⟨s.toArray⟩ := hx
    have hy : a.eval y = .string ⟨s'.toArray⟩ := hy
    have hg : (eqGuard op t x y (.string ⟨s.toArray⟩) (.string ⟨s'.toArray⟩)).run P w = .ok () w := eqGuard_ok (fun _ => by simp) (by simp)
    have e1 : (⟨s.toArray⟩ : ByteArray).toList = s := by rw [ByteArray.toList_eq]
    have e2 : (⟨s'.toArray⟩ : ByteArray).toList = s' := by rw [ByteArray.toList_eq]
    have z1 : (⟨s.toArray⟩ : ByteArray).size = s.length := by simp [ByteArray.size]
    have z2 : (⟨s'.toArray⟩ : ByteArray).size = s'.length := by simp [ByteArray.size]
    have hb : binOp op t (.string ⟨s.toArray⟩) (.string ⟨s'.toArray⟩) = Op.stringOp op ⟨s.toArray⟩ ⟨s'.toArray⟩ := by cases op <;> rfl
    have hrun : (execOp a.eval o).run P w = ((Op.stringOp op ⟨s.toArray⟩ ⟨s'.toArray⟩).run P w).andThen fun v w' => .ok (.value v) w' := by
      simp [execOp, hop, hx, hy, hg, hb]
    rw [hrun]
    have hadd : (⟨s.toArray⟩ : ByteArray) ++ ⟨s'.toArray⟩ = ⟨(s ++ s').toArray⟩ := by
      apply ByteArray.ext; simp
    cases op <;> simp only [binS, reduceCtorEq, Option.some.injEq] at hc
    case add =>
      split at hc
      · rename_i hl
        injection hc with hc; subst hc
        refine ⟨.string ⟨(s ++ s').toArray⟩, ?_, rfl⟩
        have hmax : IntKind.i64.max = 9223372036854775807 := by decide
        have hl' : ¬ (((s.length : Int) + (s'.length : Int)) > 9223372036854775807) := by omega
        simp only [Op.stringOp, z1, z2, hmax]
        rw [if_neg (by omega)]
        simp [hadd]
      · cases hc
    all_goals (subst hc; exact ⟨_, by simp [Op.stringOp, e1, e2], rfl⟩)
  · cases hc
theorem run_eqBool {P : Program} {w : World} {t : TypeId} (ht : P.underlying t = some .bool) (a b : Bool) : (Op.equal t (.bool a) (.bool b)).run P w = .ok (a == b) w := by
  have key : ∀ d, (Op.equalIn (d + 1) t (.bool a) (.bool b)).run P w = .ok (a == b) w := by
    intro d
    simp only [Op.equalIn, Sem.run_bind, run_underlying ht, Result.andThen_ok]
    rfl
  exact key 9999
theorem pop_eqb {P : Program} {t u : TypeId} {op : BinOp} {neg : Bool} {x y : Operand} {x' y' : Opd} (hx : okOpd x x' = true) (hy : okOpd y y' = true) (ht : P.underlying t = some .bool) (ho : op = if neg then .neq else .eql) :
    PopOK P (.binOp op t x y u) (.eqb neg x' y') := by
  refine PopOK.of_pure fun φ e a w n v bs o hop he hev => ?_
  have hx := opd_ok he hx
  have hy := opd_ok he hy
  simp only [POp.ev] at hev
  split at hev
  · rename_i b b' hm hm'
    rw [hm] at hx; rw [hm'] at hy
    have hx : a.eval x = .bool b := hx
    have hy : a.eval y = .bool b' := hy
    have hg : (eqGuard op t x y (.bool b) (.bool b')).run P w = .ok () w := eqGuard_ok (fun _ => by simp) (by simp)
    simp only [Option.some.injEq, Prod.mk.injEq] at hev
    obtain ⟨rfl, rfl⟩ := hev
    refine ⟨rfl, .bool (if neg then !(b == b') else b == b'), ?_, rfl⟩
    cases neg
    · simp only [if_false, Bool.false_eq_true] at ho ⊢
      subst ho
      have hb : binOp .eql t (.bool b) (.bool b') = (do pure (.bool (← Op.equal t (.bool b) (.bool b')))) := rfl
      simp only [execOp, hop, hx, hy, Sem.run_bind, hg, Result.andThen_ok, hb, run_eqBool ht, Sem.run_pure]
    · simp only [if_true] at ho ⊢
      subst ho
      have hb : binOp .neq t (.bool b) (.bool b') = (do pure (.bool (!(← Op.equal t (.bool b) (.bool b'))))) := rfl
      simp only [execOp, hop, hx, hy, Sem.run_bind, hg, Result.andThen_ok, hb, run_eqBool ht, Sem.run_pure]
  · cases hev
end Go.Proofs.Ytenheijeahpbkaa.AM
