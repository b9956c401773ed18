/-
  Which code of the model a code of the abstract machine stands for: a test by computation, and what it gives.
-/
import Derived.Test.YtenheijeahpbkaaAmCall
namespace Go.Proofs.Ytenheijeahpbkaa.AM
open Go

def okOpds : List Operand → List Opd → Bool
  | [], [] => true
  | x :: xs, y :: ys => okOpd x y && okOpds xs ys
  | _, _ => false
theorem okOpds_ok : ∀ {xs : List Operand} {ys : List Opd}, okOpds xs ys = true → All2 (fun x y => okOpd x y = true) xs ys
  | [], [], _ => trivial
  | _ :: _, _ :: _, h => by
    simp only [okOpds, Bool.and_eq_true] at h
    exact ⟨h.1, okOpds_ok h.2⟩
  | [], _ :: _, h => by simp [okOpds] at h
  | _ :: _, [], h => by simp [okOpds] at h
def zeroT (P : Program) (t : TypeId) : Option Value := (P.info? t).bind (·.zero)
def okZ (P : Program) (t : TypeId) (z : List Z) : Bool := match zeroT P t with | some v => okZs v.cells.toList z | none => false
/-- the place of a part in a literal of a type -/
def placeT (P : Program) (t : TypeId) : Option (Nat → Option (Nat × Nat)) :=
  match P.underlying t with
  | some (.struct fs) => if fs.toList.all fun f => (szT P f.type).isSome then some fun i => (fs.map fun f => (f.offset, (szT P f.type).getD 0))[i]? else none
  | some (.array _ el) => (szT P el).map fun sz => fun i => some (i * sz, sz)
  | _ => none
def okParts (place : Nat → Option (Nat × Nat)) : List (Nat × Operand) → List (Nat × Nat × Opd) → Bool
  | [], [] => true
  | (i, x) :: ps, (o, n, y) :: qs => (place i == some (o, n)) && okOpd x y && okParts place ps qs
  | _, _ => false
theorem okParts_ok {place : Nat → Option (Nat × Nat)} : ∀ {ps : List (Nat × Operand)} {qs : List (Nat × Nat × Opd)}, okParts place ps qs = true → PartsOK place ps qs
  | [], [], _ => trivial
  | (i, x) :: ps, (o, n, y) :: qs, h => by
    simp only [okParts, Bool.and_eq_true] at h
    exact ⟨by simpa using h.1.1, h.1.2, okParts_ok h.2⟩
  | [], _ :: _, h => by simp [okParts] at h
  | _ :: _, [], h => by simp [okParts] at h
def isNilC : Operand → Bool | .const (.slice none 0 0) => true | _ => false
def isZeroC : Operand → Bool | .const (.int .i64 0) => true | _ => false
def isNilI : Operand → Bool | .const .nilIface => true | _ => false
theorem isNilC_ok {x : Operand} (h : isNilC x = true) : x = .const (.slice none 0 0) := by unfold isNilC at h; split at h <;> first | rfl | cases h
theorem isZeroC_ok {x : Operand} (h : isZeroC x = true) : x = .const (.int .i64 0) := by unfold isZeroC at h; split at h <;> first | rfl | cases h
theorem isNilI_ok {x : Operand} (h : isNilI x = true) : x = .const .nilIface := by unfold isNilI at h; split at h <;> first | rfl | cases h
def eqOp (op : BinOp) (neg : Bool) : Bool := op == (if neg then BinOp.neq else BinOp.eql)
theorem eqOp_ok {op : BinOp} {neg : Bool} (h : eqOp op neg = true) : op = if neg then BinOp.neq else BinOp.eql := by simpa [eqOp] using h
def slEl (P : Program) (t : TypeId) : Option TypeId := match P.underlying t with | some (.slice el) => some el | _ => none
theorem slEl_ok {P : Program} {t el : TypeId} (h : slEl P t = some el) : P.underlying t = some (.slice el) := by
  unfold slEl at h; split at h <;> first | (injection h with h; subst h; assumption) | cases h
def arEl (P : Program) (t : TypeId) : Option (Nat × TypeId) := match P.underlying t with | some (.array n el) => some (n, el) | _ => none
theorem arEl_ok {P : Program} {t el : TypeId} {n : Nat} (h : arEl P t = some (n, el)) : P.underlying t = some (.array n el) := by
  unfold arEl at h; split at h <;> first | (injection h with h; injection h with h1 h2; subst h1; subst h2; assumption) | cases h
def stF (P : Program) (t : TypeId) (i : Nat) : Option Field := match P.underlying t with | some (.struct fs) => fs[i]? | _ => none
theorem stF_ok {P : Program} {t : TypeId} {i : Nat} {f : Field} (h : stF P t i = some f) : ∃ fs, P.underlying t = some (.struct fs) ∧ fs[i]? = some f := by
  unfold stF at h; split at h <;> first | exact ⟨_, by assumption, h⟩ | cases h
def isStr (P : Program) (t : TypeId) : Bool := match P.underlying t with | some .string => true | _ => false
theorem isStr_ok {P : Program} {t : TypeId} (h : isStr P t = true) : P.underlying t = some .string := by
  unfold isStr at h; split at h <;> first | assumption | cases h
def intK (P : Program) (t : TypeId) : Option IntKind := match P.underlying t with | some (.int k) => some k | _ => none
theorem intK_ok {P : Program} {t : TypeId} {k : IntKind} (h : intK P t = some k) : P.underlying t = some (.int k) := by
  unfold intK at h; split at h <;> first | (injection h with h; subst h; assumption) | cases h
def isBoolT (P : Program) (t : TypeId) : Bool := match P.underlying t with | some .bool => true | _ => false
theorem isBoolT_ok {P : Program} {t : TypeId} (h : isBoolT P t = true) : P.underlying t = some .bool := by
  unfold isBoolT at h; split at h <;> first | assumption | cases h
def isIfT (P : Program) (t : TypeId) : Bool := match P.underlying t with | some (.interface _) => true | _ => false
theorem isIfT_ok {P : Program} {t : TypeId} (h : isIfT P t = true) : ∃ ms, P.underlying t = some (.interface ms) := by
  unfold isIfT at h; split at h <;> first | exact ⟨_, by assumption⟩ | cases h

def okP (P : Program) (o : Op) (q : POp) : Bool :=
  match o, q with
  | .move x, .mv y | .assign x, .mv y => okOpd x y
  | .move x, .nilsl _ | .assign x, .nilsl _ => isNilC x
  | .pick c a b, .pick c' a' b' => okOpd c c' && okOpd a a' && okOpd b b'
  | .alloc t, .alloc z => okZ P t z
  | .box _ x, .box _ y => okOpd x y
  | .build t ps, .build z qs => okZ P t z && (match placeT P t with | some pl => okParts pl ps.toList qs | none => false)
  | .buildSlice t k ps, .mksl sz k' z qs => (k == k') && (match slEl P t with
      | some el => (szT P el == some sz) && okZ P el z && (match zeroT P el with | some v => v.cells.size == sz | none => false) && okParts (fun i => some (i * sz, sz)) ps.toList qs && decide (k * sz ≤ 16777216) && decide (k ≤ 16777216)
      | none => false)
  | .makeSlice t l c, .mkslice sz z l' c' => okOpd l l' && okOpd c c' && (match slEl P t with
      | some el => (szT P el == some sz) && okZ P el z && (match zeroT P el with | some v => v.cells.size == sz | none => false) && decide (P.bytesOf el ≤ 2048)
      | none => false)
  | .binOp op _ x y _, .bin op' x' y' => (op == op') && okOpd x x' && okOpd y y'
  | .binOp op t x y _, .eqv neg ks x' y' => eqOp op neg && okOpd x x' && okOpd y y' && (aggT P t == some true) && (tyKinds P 12 t == some ks) && (P.eqGuardType P.depth t == false)
  | .binOp op t x y _, .eqb neg x' y' => eqOp op neg && okOpd x x' && okOpd y y' && isBoolT P t
  | .binOp op t x y _, .iserr neg x' => eqOp op neg && okOpd x x' && isNilI y && isIfT P t
  | .unOp op _ x, .un op' y => (op == op') && okOpd x y
  | .convert s d x, .conv k y => okOpd x y && (P.underlying s).isSome && (intK P d == some k)
  | .makeFunc (.func f) first caps, .mkfn f' ys => (f == f') && first.isEmpty && okOpds caps.toList ys
  | .slice t x lo hi none, .slS sz y lo' hi' => okOpd x y && okBnd lo lo' && okBnd hi hi' && (match slEl P t with | some el => szT P el == some sz | none => false)
  | .slice t x lo hi none, .slStr y lo' hi' => okOpd x y && okBnd lo lo' && okBnd hi hi' && isStr P t
  | .slice t x none (some h) (some m), .sl0 _ y => okOpd x y && isZeroC h && isZeroC m && (match slEl P t with | some el => (szT P el).isSome | none => false)
  | .fieldAddr t x i, .fld off y => okOpd x y && (match stF P t i with | some f => (f.offset == off) && (match szT P f.type with | some m => m != 0 | none => false) | none => false)
  | .field t x i, .fldV off n agg y => okOpd x y && (match stF P t i with | some f => (f.offset == off) && (szT P f.type == some n) && (aggT P f.type == some agg) && (agg || n == 1) | none => false)
  | .indexAddr t x i, .ixA n sz x' i' => okOpd x x' && okOpd i i' && (match arEl P t with | some p => (p.1 == n) && (szT P p.2 == some sz) | none => false)
  | .indexAddr t x i, .ixS sz x' i' => okOpd x x' && okOpd i i' && (match slEl P t with | some el => szT P el == some sz | none => false)
  | .index t x i, .ixStr x' i' => okOpd x x' && okOpd i i' && isStr P t
  | .index t x i, .ixV n sz agg x' i' => okOpd x x' && okOpd i i' && (match arEl P t with | some p => (p.1 == n) && (szT P p.2 == some sz) && (aggT P p.2 == some agg) && (agg || sz == 1) | none => false)
  | .extract x i, .ext y i' => (i == i') && okOpd x y
  | .call { callee := .builtin .len, args := xs, argTypes := ts }, .len y => match xs.toList, ts.toList with
      | [x], [t] => okOpd x y && (slEl P t).isSome
      | _, _ => false
  | .call { callee := .builtin .len, args := xs, argTypes := ts }, .lenStr y => match xs.toList, ts.toList with
      | [x], [t] => okOpd x y && isStr P t
      | _, _ => false
  | .call { callee := .builtin .max, args := xs, .. }, .mnmx true ys => okOpds xs.toList ys
  | .call { callee := .builtin .min, args := xs, .. }, .mnmx false ys => okOpds xs.toList ys
  | .nilCheck x, .nn y => okOpd x y
  | _, _ => false

theorem zeroT_some {P : Program} {t : TypeId} {z : List Z} (h : okZ P t z = true) : ∃ v, ((P.info? t).bind (·.zero)) = some v ∧ okZs v.cells.toList z = true := by
  unfold okZ zeroT at h
  split at h
  · exact ⟨_, by assumption, h⟩
  · cases h
theorem pop_nn {P : Program} {x : Operand} {y : Opd} (h : okOpd x y = true) : PopOK P (.nilCheck x) (.nn y) := by
  refine PopOK.of_pure fun φ e a w n v bs op hop he hev => ?_
  have hx := opd_ok he h
  simp only [POp.ev] at hev
  split at hev
  · rename_i i o hm
    rw [hm] at hx
    obtain ⟨p, hp, hv⟩ := hx
    simp only [Option.some.injEq, Prod.mk.injEq] at hev
    obtain ⟨rfl, rfl⟩ := hev
    exact ⟨rfl, ptrV p o, by simp [execOp, hop, hv, ptrV], p, hp, rfl⟩
  · cases hev
theorem okP_ok {P : Program} {o : Op} {q : POp} (h : okP P o q = true) : PopOK P o q := by
  unfold okP at h
  split at h
  · exact pop_mv h (.inl rfl)
  · exact pop_mv h (.inr rfl)
  · rw [isNilC_ok h]; exact pop_nilsl (.inl rfl)
  · rw [isNilC_ok h]; exact pop_nilsl (.inr rfl)
  · simp only [Bool.and_eq_true] at h; exact pop_pick h.1.1 h.1.2 h.2
  · obtain ⟨v, h1, h2⟩ := zeroT_some h; exact pop_alloc h1 h2
  · exact pop_box h
  · simp only [Bool.and_eq_true] at h
    obtain ⟨v, h1, h2⟩ := zeroT_some h.1
    have h3 := h.2
    split at h3
    · rename_i pl hpl
      refine pop_build h1 h2 (okParts_ok h3) ?_
      unfold placeT at hpl
      split at hpl
      · rename_i fs hu
        split at hpl
        · rename_i hall
          injection hpl with hpl
          exact .inl ⟨fs, hu, fun f hf => List.all_eq_true.1 hall f hf, hpl.symm⟩
        · cases hpl
      · rename_i k el hu
        obtain ⟨sz, hs, hpl⟩ := Option.map_eq_some_iff.1 hpl
        exact .inr ⟨k, el, sz, hu, hs, hpl.symm⟩
      · cases hpl
    · cases h3
  · simp only [Bool.and_eq_true, beq_iff_eq] at h
    obtain ⟨rfl, h⟩ := h
    split at h
    · rename_i el hel
      simp only [Bool.and_eq_true, beq_iff_eq, decide_eq_true_eq] at h
      obtain ⟨⟨⟨⟨⟨h1, h2⟩, h3⟩, h4⟩, h5⟩, h6⟩ := h
      obtain ⟨v, hz, hzs⟩ := zeroT_some h2
      have hz' : zeroT P el = some v := hz
      rw [hz'] at h3
      exact pop_mksl (slEl_ok hel) h1 hz hzs (by simpa using h3) (okParts_ok h4) (by omega) (by omega)
    · cases h
  · simp only [Bool.and_eq_true] at h
    obtain ⟨⟨ha, hb⟩, h⟩ := h
    split at h
    · rename_i el hel
      simp only [Bool.and_eq_true, beq_iff_eq, decide_eq_true_eq] at h
      obtain ⟨⟨⟨h1, h2⟩, h3⟩, h4⟩ := h
      obtain ⟨v, hz, hzs⟩ := zeroT_some h2
      have hz' : zeroT P el = some v := hz
      rw [hz'] at h3
      exact pop_mkslice ha hb (slEl_ok hel) h1 hz hzs (by simpa using h3) h4
    · cases h
  · simp only [Bool.and_eq_true, beq_iff_eq] at h
    obtain ⟨⟨rfl, h1⟩, h2⟩ := h
    exact pop_bin h1 h2
  · simp only [Bool.and_eq_true, beq_iff_eq] at h
    obtain ⟨⟨⟨⟨⟨h0, h1⟩, h2⟩, h3⟩, h4⟩, h5⟩ := h
    exact pop_eqv h1 h2 h3 h4 (by omega) h5 (eqOp_ok h0)
  · simp only [Bool.and_eq_true] at h
    obtain ⟨⟨⟨h0, h1⟩, h2⟩, h3⟩ := h
    exact pop_eqb h1 h2 (isBoolT_ok h3) (eqOp_ok h0)
  · simp only [Bool.and_eq_true] at h
    obtain ⟨⟨⟨h0, h1⟩, h2⟩, h3⟩ := h
    obtain ⟨ms, hms⟩ := isIfT_ok h3
    exact pop_iserr h1 (isNilI_ok h2) hms (eqOp_ok h0)
  · simp only [Bool.and_eq_true, beq_iff_eq] at h
    obtain ⟨rfl, h1⟩ := h
    exact pop_un h1
  · simp only [Bool.and_eq_true, beq_iff_eq] at h
    exact pop_conv h.1.1 h.1.2 (intK_ok h.2)
  · rename_i first caps _ _
    simp only [Bool.and_eq_true, beq_iff_eq] at h
    obtain ⟨⟨rfl, h1⟩, h2⟩ := h
    have : first = #[] := by simpa using h1
    subst this
    exact pop_mkfn (okOpds_ok h2)
  · simp only [Bool.and_eq_true] at h
    obtain ⟨⟨⟨h1, h2⟩, h3⟩, h4⟩ := h
    split at h4
    · rename_i el hel; exact pop_slS h1 h2 h3 (slEl_ok hel) (by simpa using h4)
    · cases h4
  · simp only [Bool.and_eq_true] at h
    obtain ⟨⟨⟨h1, h2⟩, h3⟩, h4⟩ := h
    exact pop_slStr h1 h2 h3 (isStr_ok h4)
  · simp only [Bool.and_eq_true] at h
    obtain ⟨⟨⟨h1, h2⟩, h3⟩, h4⟩ := h
    split at h4
    · rename_i el hel
      obtain ⟨sz, hsz⟩ := Option.isSome_iff_exists.1 h4
      exact pop_sl0 h1 (isZeroC_ok h2) (isZeroC_ok h3) (slEl_ok hel) hsz
    · cases h4
  · simp only [Bool.and_eq_true] at h
    obtain ⟨h1, h⟩ := h
    split at h
    · rename_i f hf
      simp only [Bool.and_eq_true, beq_iff_eq] at h
      obtain ⟨rfl, h⟩ := h
      obtain ⟨fs, hu, hfs⟩ := stF_ok hf
      split at h
      · rename_i m hm; exact pop_fld h1 hu hfs hm (by simpa using h)
      · cases h
    · cases h
  · simp only [Bool.and_eq_true] at h
    obtain ⟨h1, h⟩ := h
    split at h
    · rename_i f hf
      simp only [Bool.and_eq_true, beq_iff_eq, Bool.or_eq_true] at h
      obtain ⟨⟨⟨rfl, h2⟩, h3⟩, h4⟩ := h
      obtain ⟨fs, hu, hfs⟩ := stF_ok hf
      exact pop_fldV h1 hu hfs h2 h3 h4
    · cases h
  · simp only [Bool.and_eq_true] at h
    obtain ⟨⟨h1, h2⟩, h⟩ := h
    split at h
    · rename_i p hp
      simp only [Bool.and_eq_true, beq_iff_eq] at h
      obtain ⟨rfl, h3⟩ := h
      exact pop_ixA h1 h2 (arEl_ok (n := p.1) (el := p.2) hp) h3
    · cases h
  · simp only [Bool.and_eq_true] at h
    obtain ⟨⟨h1, h2⟩, h⟩ := h
    split at h
    · rename_i el hel; exact pop_ixS h1 h2 (slEl_ok hel) (by simpa using h)
    · cases h
  · simp only [Bool.and_eq_true] at h
    exact pop_ixStr h.1.1 h.1.2 (isStr_ok h.2)
  · simp only [Bool.and_eq_true] at h
    obtain ⟨⟨h1, h2⟩, h⟩ := h
    split at h
    · rename_i p hp
      simp only [Bool.and_eq_true, beq_iff_eq, Bool.or_eq_true] at h
      obtain ⟨⟨⟨rfl, h3⟩, h4⟩, h5⟩ := h
      exact pop_ixV h1 h2 (arEl_ok (n := p.1) (el := p.2) hp) h3 h4 h5
    · cases h
  · simp only [Bool.and_eq_true, beq_iff_eq] at h
    obtain ⟨rfl, h1⟩ := h
    exact pop_ext h1
  · rename_i xs ts y
    obtain ⟨xs⟩ := xs
    obtain ⟨ts⟩ := ts
    split at h
    · rename_i x t hx ht
      simp only at hx ht
      subst hx; subst ht
      simp only [Bool.and_eq_true] at h
      obtain ⟨el, hel⟩ := Option.isSome_iff_exists.1 h.2
      exact pop_len h.1 (slEl_ok hel)
    · cases h
  · rename_i xs ts y
    obtain ⟨xs⟩ := xs
    obtain ⟨ts⟩ := ts
    split at h
    · rename_i x t hx ht
      simp only at hx ht
      subst hx; subst ht
      simp only [Bool.and_eq_true] at h
      exact pop_lenStr h.1 (isStr_ok h.2)
    · cases h
  · exact pop_mnmx (isMax := true) (okOpds_ok h)
  · exact pop_mnmx (isMax := false) (okOpds_ok h)
  · exact pop_nn h
  · cases h
def okH (P : Program) (o : Op) (q : HOp) : Bool :=
  match o, q with
  | .load t x, .load n agg y => okOpd x y && (szT P t == some n) && (aggT P t == some agg) && (agg || n == 1)
  | .slice t x lo hi none, .slA n sz y lo' hi' => okOpd x y && okBnd lo lo' && okBnd hi hi' && (match arEl P t with | some p => (p.1 == n) && (szT P p.2 == some sz) && decide (n ≤ 16777216) | none => false)
  | .store t x z, .store n y u => okOpd x y && okOpd z u && (szT P t == some n)
  | .call { callee := .builtin .append, args := xs, argTypes := ts }, .app sz x' y' => match xs.toList, ts.toList with
      | [x, y], [t, t'] => (t == t') && okOpd x x' && okOpd y y' && (match slEl P t with
          | some el => (match P.info? el with
              | some inf => (inf.size == sz) && decide (inf.bytes ≤ 2048) && (match inf.zero with | some z => z.cells.size == sz | none => false)
              | none => false)
          | none => false)
      | _, _ => false
  | .convert s d x, .s2b y => okOpd x y && (P.underlying s).isSome && (match slEl P d with | some el => intK P el == some .u8 | none => false)
  | .convert s d x, .b2s y => okOpd x y && isStr P d && (match slEl P s with | some el => intK P el == some .u8 | none => false)
  | .call { callee := .value f, args := xs, .. }, .call g ys => okOpd f g && okOpds xs.toList ys
  | _, _ => false
theorem okH_ok {P : Program} {F : Fns} (hF : FnOK P F) {o : Op} {q : HOp} (h : okH P o q = true) : HopOK P F o q := by
  unfold okH at h
  split at h
  · simp only [Bool.and_eq_true, beq_iff_eq, Bool.or_eq_true] at h
    exact hop_load h.1.1.1 h.1.1.2 h.1.2 h.2
  · simp only [Bool.and_eq_true] at h
    obtain ⟨⟨⟨h1, h2⟩, h3⟩, h⟩ := h
    split at h
    · rename_i p hp
      simp only [Bool.and_eq_true, beq_iff_eq, decide_eq_true_eq] at h
      obtain ⟨⟨rfl, h4⟩, h5⟩ := h
      exact hop_slA h1 h2 h3 (arEl_ok (n := p.1) (el := p.2) hp) h4 (by unfold maxLen; omega)
    · cases h
  · simp only [Bool.and_eq_true, beq_iff_eq] at h
    exact hop_store h.1.1 h.1.2 h.2
  · rename_i xs ts sz x' y'
    obtain ⟨xs⟩ := xs
    obtain ⟨ts⟩ := ts
    split at h
    · rename_i x y t t' hx ht
      simp only at hx ht
      subst hx; subst ht
      simp only [Bool.and_eq_true, beq_iff_eq] at h
      obtain ⟨⟨⟨rfl, h1⟩, h2⟩, h⟩ := h
      split at h
      · rename_i el hel
        split at h
        · rename_i inf hinf
          simp only [Bool.and_eq_true, beq_iff_eq, decide_eq_true_eq] at h
          obtain ⟨⟨rfl, h3⟩, h4⟩ := h
          split at h4
          · rename_i z hz
            exact hop_app h1 h2 (slEl_ok hel) hinf hz (by simpa using h4) h3
          · cases h4
        · cases h
      · cases h
    · cases h
  · simp only [Bool.and_eq_true] at h
    obtain ⟨⟨h1, h2⟩, h⟩ := h
    split at h
    · rename_i el hel; exact hop_s2b h1 h2 (slEl_ok hel) (intK_ok (by simpa using h))
    · cases h
  · simp only [Bool.and_eq_true] at h
    obtain ⟨⟨h1, h2⟩, h⟩ := h
    split at h
    · rename_i el hel; exact hop_b2s h1 (slEl_ok hel) (intK_ok (by simpa using h)) (isStr_ok h2)
    · cases h
  · simp only [Bool.and_eq_true] at h
    exact hop_call hF h.1 (okOpds_ok h.2)
  · cases h
/-- an operation, whatever its kind -/
def okA (P : Program) (o : Op) : AOp → Bool
  | .p q => okP P o q
  | .h q => okH P o q
theorem okA_does {P : Program} {F : Fns} (hF : FnOK P F) {op : Oper} {q : AOp} (h : okA P op.op q = true) {φ : Phi} {H : HF} {e : Env} {a : Act} {w : World} {base : Nat} {r : Out} (he : EnvOK φ e a) (hh : HeapOK φ H w) (hev : q.ev F e H base = some r) (hf : Free φ base r.2.1.length) (h0 : r.2.1 ≠ [] → H base = none) :
    Does P op a w (ROut φ H w base r) := by
  cases q with
  | p q =>
    simp only [AOp.ev] at hev
    obtain ⟨s, hs, rfl⟩ := Option.map_eq_some_iff.1 hev
    obtain ⟨rv, w', φ', hr, hv, hn⟩ := okP_ok h φ e a w base s.1 s.2 op rfl he hs hf
    exact .inl ⟨rv, w', hr, φ', hv, New.out hh hn hf⟩
  | h q => exact okH_ok hF h φ H e a w base r op rfl he hh hev hf h0
end Go.Proofs.Ytenheijeahpbkaa.AM
