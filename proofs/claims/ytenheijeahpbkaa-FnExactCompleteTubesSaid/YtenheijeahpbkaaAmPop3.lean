/-
  Equality of structs and arrays of plain cells; make of a slice; the test of an error against nil.
-/
import Derived.Test.YtenheijeahpbkaaAmPop2
import Derived.ChangeKeysEq
namespace Go.Proofs.Ytenheijeahpbkaa.AM
open Go

/-- the kinds of a plain type's cells -/
def fieldKinds (P : Program) (rec : TypeId → Option (List CK)) : Nat → List Field → Option (List CK)
  | _, [] => some []
  | off, f :: fs => if f.name ≠ "_" ∧ f.offset = off then (rec f.type).bind fun ks => if szT P f.type = some ks.length then (fieldKinds P rec (off + ks.length) fs).map (ks ++ ·) else none else none
def tyKinds (P : Program) : Nat → TypeId → Option (List CK)
  | 0, _ => none
  | d + 1, t => match P.underlying t with
    | some .bool => some [.bool]
    | some (.int k) => some [.int k]
    | some .string => some [.str]
    | some (.array n e) => (tyKinds P d e).bind fun ks => if szT P e = some ks.length then some (List.replicate n ks).flatten else none
    | some (.struct fs) => if P.stoodInHeld t = false then fieldKinds P (tyKinds P d) 0 fs.toList else none
    | _ => none
def cval : C → Value
  | .int k n => .int k n
  | .bool b => .bool b
  | .str s => .string ⟨s.toArray⟩
  | _ => .nilIface
theorem conf_val {φ : Phi} : ∀ {ks : List CK} {xs : List C} {vs : List Value}, conf ks xs = true → All2 (VRc φ) xs vs → vs = xs.map cval
  | [], [], [], _, _ => rfl
  | k :: ks, x :: xs, v :: vs, h, ha => by
    simp only [conf, Bool.and_eq_true] at h
    have := conf_val h.2 ha.2
    subst this
    have hv := ha.1
    unfold conf1 at h
    split at h
    · rw [show v = _ from hv]; rfl
    · rw [show v = _ from hv]; rfl
    · rw [show v = _ from hv]; rfl
    · cases h.1
  | [], _ :: _, _, h, _ => by simp [conf] at h
  | _ :: _, [], _, h, _ => by simp [conf] at h
  | _, [], _ :: _, _, ha => ha.elim
  | _, _ :: _, [], _, ha => ha.elim
theorem conf_length : ∀ {ks : List CK} {xs : List C}, conf ks xs = true → xs.length = ks.length
  | [], [], _ => rfl
  | k :: ks, x :: xs, h => by simp only [conf, Bool.and_eq_true] at h; simp [conf_length h.2]
  | [], _ :: _, h => by simp [conf] at h
  | _ :: _, [], h => by simp [conf] at h
theorem conf_append : ∀ {ks ks' : List CK} {xs : List C}, conf (ks ++ ks') xs = true → conf ks (xs.take ks.length) = true ∧ conf ks' (xs.drop ks.length) = true
  | [], ks', xs, h => ⟨by simp [conf], by simpa using h⟩
  | k :: ks, ks', [], h => by simp [conf] at h
  | k :: ks, ks', x :: xs, h => by
    simp only [List.cons_append, conf, Bool.and_eq_true] at h
    obtain ⟨h1, h2⟩ := conf_append h.2
    simp only [List.length_cons, List.take_succ_cons, List.drop_succ_cons, conf, Bool.and_eq_true]
    exact ⟨⟨h.1, h1⟩, h2⟩
/-- a value of a type, out of its cells -/
def form (agg : Bool) (xs : List C) : Value := if agg then .agg (xs.map cval).toArray else (xs.map cval).headD .nilIface
theorem run_part_form {P : Program} {w : World} {t : TypeId} {n off : Nat} {b : Bool} {xs : List C} (hs : szT P t = some n) (hb : aggT P t = some b) (h1 : b = true ∨ n = 1) (hl : off + n ≤ xs.length) :
    (part t (xs.map cval).toArray off).run P w = .ok (form b ((xs.drop off).take n)) w := by
  cases b with
  | true => simp [part, run_aggT hb, run_size hs, form]
  | false =>
    have hn : n = 1 := by simpa using h1
    subst hn
    have hg : (xs.map cval)[off]? = some (cval (xs[off]'(by omega))) := by rw [List.getElem?_map, List.getElem?_eq_getElem (by omega)]; rfl
    have hd : xs.drop off = xs[off]'(by omega) :: xs.drop (off + 1) := List.drop_eq_getElem_cons _
    have hg' : ((xs.map cval).toArray)[off]? = some (cval (xs[off]'(by omega))) := by rw [List.getElem?_toArray]; exact hg
    simp only [part, Sem.run_bind, run_aggT hb, Result.andThen_ok, Bool.false_eq_true, if_false, hg', Sem.run_pure, form, hd]
    rfl
/-- equality of all values of a type comes to that of their cells -/
def EqOK (P : Program) (t : TypeId) (ks : List CK) (d : Nat) : Prop :=
  ∃ b, aggT P t = some b ∧ (b = true ∨ ks.length = 1) ∧ ∀ (w : World) (D : Nat), d ≤ D → ∀ xs ys, conf ks xs = true → conf ks ys = true → (Op.equalIn D t (form b xs) (form b ys)).run P w = .ok (decide (xs = ys)) w
theorem eqItems_ok {P : Program} {w : World} {e : TypeId} {ks : List CK} {d D : Nat} (hs : szT P e = some ks.length) (he : EqOK P e ks d) (hD : d ≤ D) (xs ys : List C) : ∀ (n k : Nat), k * ks.length ≤ xs.length → k * ks.length ≤ ys.length → conf (List.replicate n ks).flatten (xs.drop (k * ks.length)) = true → conf (List.replicate n ks).flatten (ys.drop (k * ks.length)) = true →
    (Op.eqItems D e ks.length (xs.map cval).toArray (ys.map cval).toArray (List.range' k n)).run P w = .ok (decide (xs.drop (k * ks.length) = ys.drop (k * ks.length))) w
  | 0, k, _, _, hx, hy => by
    have h1 := conf_length hx
    have h2 := conf_length hy
    simp only [List.replicate_zero, List.flatten_nil, List.length_nil] at h1 h2
    simp [Op.eqItems, List.eq_nil_of_length_eq_zero h1, List.eq_nil_of_length_eq_zero h2]
  | n + 1, k, hkx, hky, hx, hy => by
    obtain ⟨b, hb, h1, heq⟩ := he
    have hlx := conf_length hx
    have hly := conf_length hy
    simp only [List.replicate_succ, List.flatten_cons, List.length_append] at hlx hly
    simp only [List.replicate_succ, List.flatten_cons] at hx hy
    obtain ⟨hx1, hx2⟩ := conf_append hx
    obtain ⟨hy1, hy2⟩ := conf_append hy
    rw [List.drop_drop, show k * ks.length + ks.length = (k + 1) * ks.length by rw [Nat.succ_mul]] at hx2 hy2
    have ih := eqItems_ok (w := w) hs ⟨b, hb, h1, heq⟩ hD xs ys n (k + 1) (by rw [List.length_drop] at hlx; rw [Nat.succ_mul]; omega) (by rw [List.length_drop] at hly; rw [Nat.succ_mul]; omega) hx2 hy2
    have p1 := run_part_form (P := P) (w := w) (xs := xs) (off := k * ks.length) hs hb h1 (by rw [List.length_drop] at hlx; omega)
    have p2 := run_part_form (P := P) (w := w) (xs := ys) (off := k * ks.length) hs hb h1 (by rw [List.length_drop] at hly; omega)
    have he1 := heq w D hD _ _ hx1 hy1
    simp only [List.range'_succ, Op.eqItems, Sem.run_bind, p1, p2, he1, Result.andThen_ok, Sem.run_ite, Sem.run_pure, ih]
    have hxs : xs.drop (k * ks.length) = (xs.drop (k * ks.length)).take ks.length ++ xs.drop ((k + 1) * ks.length) := by
      rw [Nat.succ_mul, ← List.drop_drop, List.take_append_drop]
    have hys : ys.drop (k * ks.length) = (ys.drop (k * ks.length)).take ks.length ++ ys.drop ((k + 1) * ks.length) := by
      rw [Nat.succ_mul, ← List.drop_drop, List.take_append_drop]
    have hl1 := conf_length hx1
    have hl2 := conf_length hy1
    by_cases h : (xs.drop (k * ks.length)).take ks.length = (ys.drop (k * ks.length)).take ks.length
    · simp only [h, decide_true, Bool.not_true, Bool.false_eq_true, if_false]
      congr 1
      apply Bool.eq_iff_iff.2
      simp only [decide_eq_true_eq]
      constructor
      · intro h2; rw [hxs, hys, h, h2]
      · intro h2
        rw [hxs, hys] at h2
        exact (List.append_inj h2 (by rw [hl1, hl2])).2
    · simp only [h, decide_false, Bool.not_false, if_true]
      congr 1
      symm
      simp only [decide_eq_false_iff_not]
      intro h2
      rw [hxs, hys] at h2
      exact h (List.append_inj h2 (by rw [hl1, hl2])).1
theorem eqFields_ok {P : Program} {w : World} {d D : Nat} {rec : TypeId → Option (List CK)} (hrec : ∀ t ks, rec t = some ks → EqOK P t ks d) (hD : d ≤ D) (xs ys : List C) : ∀ (fs : List Field) (off : Nat) (ks : List CK), off ≤ xs.length → off ≤ ys.length → fieldKinds P rec off fs = some ks → conf ks (xs.drop off) = true → conf ks (ys.drop off) = true →
    (Op.eqFields D (xs.map cval).toArray (ys.map cval).toArray fs).run P w = .ok (decide (xs.drop off = ys.drop off)) w
  | [], off, ks, _, _, hk, hx, hy => by
    simp only [fieldKinds, Option.some.injEq] at hk
    subst hk
    have h1 := conf_length hx
    have h2 := conf_length hy
    simp only [List.length_nil] at h1 h2
    simp only [Op.eqFields, Sem.run_pure, List.eq_nil_of_length_eq_zero h1, List.eq_nil_of_length_eq_zero h2, decide_true]
  | f :: fs, off, ks, hox, hoy, hk, hx, hy => by
    simp only [fieldKinds] at hk
    split at hk
    · rename_i hn
      obtain ⟨k1, hk1, hk⟩ := Option.bind_eq_some_iff.1 hk
      split at hk
      · rename_i hs
        obtain ⟨k2, hk2, rfl⟩ := Option.map_eq_some_iff.1 hk
        obtain ⟨b, hb, h1, heq⟩ := hrec _ _ hk1
        have hlx := conf_length hx
        have hly := conf_length hy
        simp only [List.length_append] at hlx hly
        obtain ⟨hx1, hx2⟩ := conf_append hx
        obtain ⟨hy1, hy2⟩ := conf_append hy
        rw [List.drop_drop] at hx2 hy2
        have ih := eqFields_ok (w := w) hrec hD xs ys fs (off + k1.length) k2 (by rw [List.length_drop] at hlx; omega) (by rw [List.length_drop] at hly; omega) hk2 hx2 hy2
        have p1 := run_part_form (P := P) (w := w) (xs := xs) (off := off) hs hb h1 (by rw [List.length_drop] at hlx; omega)
        have p2 := run_part_form (P := P) (w := w) (xs := ys) (off := off) hs hb h1 (by rw [List.length_drop] at hly; omega)
        have he1 := heq w D hD _ _ hx1 hy1
        have ho : f.offset = off := hn.2
        rw [← ho] at p1 p2
        simp only [Op.eqFields, hn.1, ne_eq, not_false_eq_true, if_true, Sem.run_bind, p1, p2, Result.andThen_ok]
        rw [ho, he1]
        simp only [Result.andThen_ok, Sem.run_ite, Sem.run_pure, ih]
        have hxs : xs.drop off = (xs.drop off).take k1.length ++ xs.drop (off + k1.length) := by
          rw [← List.drop_drop, List.take_append_drop]
        have hys : ys.drop off = (ys.drop off).take k1.length ++ ys.drop (off + k1.length) := by
          rw [← List.drop_drop, List.take_append_drop]
        have hl1 := conf_length hx1
        have hl2 := conf_length hy1
        by_cases h : (xs.drop off).take k1.length = (ys.drop off).take k1.length
        · simp only [h, decide_true, Bool.not_true, Bool.false_eq_true, if_false]
          congr 1
          apply Bool.eq_iff_iff.2
          simp only [decide_eq_true_eq]
          constructor
          · intro h2; rw [hxs, hys, h, h2]
          · intro h2
            rw [hxs, hys] at h2
            exact (List.append_inj h2 (by rw [hl1, hl2])).2
        · simp only [h, decide_false, Bool.not_false, if_true]
          congr 1
          symm
          simp only [decide_eq_false_iff_not]
          intro h2
          rw [hxs, hys] at h2
          exact h (List.append_inj h2 (by rw [hl1, hl2])).1
      · cases hk
    · cases hk
theorem eq_ok {P : Program} : ∀ (d : Nat) (t : TypeId) (ks : List CK), tyKinds P d t = some ks → EqOK P t ks d
  | 0, _, _, h => by simp [tyKinds] at h
  | d + 1, t, ks, h => by
    simp only [tyKinds] at h
    have pos : ∀ D, d + 1 ≤ D → ∃ D', D = D' + 1 ∧ d ≤ D' := fun D hD => ⟨D - 1, by omega, by omega⟩
    split at h
    · rename_i hu
      injection h with h; subst h
      refine ⟨false, by simp [aggT, hu], .inr rfl, fun w D hD xs ys hx hy => ?_⟩
      obtain ⟨D, rfl, _⟩ := pos D hD
      obtain ⟨x, rfl⟩ : ∃ x, xs = [x] := List.length_eq_one_iff.1 (conf_length hx)
      obtain ⟨y, rfl⟩ : ∃ x, ys = [x] := List.length_eq_one_iff.1 (conf_length hy)
      cases x <;> simp [conf, conf1] at hx
      cases y <;> simp [conf, conf1] at hy
      simp [form, cval, Op.equalIn, run_underlying hu]
      apply Bool.eq_iff_iff.2
      simp
    · rename_i k hu
      injection h with h; subst h
      refine ⟨false, by simp [aggT, hu], .inr rfl, fun w D hD xs ys hx hy => ?_⟩
      obtain ⟨D, rfl, _⟩ := pos D hD
      obtain ⟨x, rfl⟩ : ∃ x, xs = [x] := List.length_eq_one_iff.1 (conf_length hx)
      obtain ⟨y, rfl⟩ : ∃ x, ys = [x] := List.length_eq_one_iff.1 (conf_length hy)
      cases x <;> simp [conf, conf1] at hx
      cases y <;> simp [conf, conf1] at hy
      subst hx; subst hy
      simp [form, cval, Op.equalIn, run_underlying hu]
      apply Bool.eq_iff_iff.2
      simp
    · rename_i hu
      injection h with h; subst h
      refine ⟨false, by simp [aggT, hu], .inr rfl, fun w D hD xs ys hx hy => ?_⟩
      obtain ⟨D, rfl, _⟩ := pos D hD
      obtain ⟨x, rfl⟩ : ∃ x, xs = [x] := List.length_eq_one_iff.1 (conf_length hx)
      obtain ⟨y, rfl⟩ : ∃ x, ys = [x] := List.length_eq_one_iff.1 (conf_length hy)
      cases x <;> simp [conf, conf1] at hx
      cases y <;> simp [conf, conf1] at hy
      rename_i s1 _ s2 _
      simp only [form, cval, Op.equalIn, Sem.run_bind, run_underlying hu, Result.andThen_ok, Bool.false_eq_true, if_false, List.map_cons, List.map_nil, List.headD_cons, Sem.run_pure, beq_toListBytes, ByteArray.toList_eq]
      congr 1
      apply Bool.eq_iff_iff.2
      simp
    · rename_i n e hu
      obtain ⟨k1, hk1, h⟩ := Option.bind_eq_some_iff.1 h
      split at h
      · rename_i hs
        injection h with h; subst h
        have he := eq_ok d e k1 hk1
        refine ⟨true, by simp [aggT, hu], .inl rfl, fun w D hD xs ys hx hy => ?_⟩
        obtain ⟨D, rfl, hD'⟩ := pos D hD
        obtain ⟨i, hi, hil⟩ := Option.map_eq_some_iff.1 hs
        have hc : P.cellsOf e = k1.length := by simp [Program.cellsOf, hi, hil]
        simp only [form, if_true]
        rw [run_equalIn_array w D _ _ hu hi, hc, List.range_eq_range']
        have := eqItems_ok (w := w) hs he hD' xs ys n 0 (by simp) (by simp) (by simpa using hx) (by simpa using hy)
        simpa using this
      · cases h
    · rename_i fs hu
      split at h
      · rename_i hp
        refine ⟨true, by simp [aggT, hu], .inl rfl, fun w D hD xs ys hx hy => ?_⟩
        obtain ⟨D, rfl, hD'⟩ := pos D hD
        simp only [form, if_true]
        have hfs : P.fieldsOf t = fs := by simp [Program.fieldsOf, hu]
        rw [run_equalIn_agg w D t _ _ (by rw [hfs]; exact hu) hp, hfs]
        have := eqFields_ok (w := w) (fun t ks h => eq_ok d t ks h) hD' xs ys fs.toList 0 ks (by simp) (by simp) h (by simpa using hx) (by simpa using hy)
        simpa using this
      · cases h
    · cases h
theorem pop_eqv {P : Program} {t u : TypeId} {op : BinOp} {neg : Bool} {d : Nat} {ks : List CK} {x y : Operand} {x' y' : Opd} (hx : okOpd x x' = true) (hy : okOpd y y' = true) (ht : aggT P t = some true) (hk : tyKinds P d t = some ks) (hd : d ≤ 10000) (hg : P.eqGuardType P.depth t = false)
    (ho : op = if neg then .neq else .eql) : PopOK P (.binOp op t x y u) (.eqv neg ks x' y') := by
  refine PopOK.of_pure fun φ e a w n v bs o hop he hev => ?_
  have hx := opd_ok he hx
  have hy := opd_ok he hy
  simp only [POp.ev] at hev
  split at hev
  · rename_i xs ys hm hm'
    rw [hm] at hx; rw [hm'] at hy
    obtain ⟨vs, hv, ha⟩ := hx
    obtain ⟨us, hu, hb⟩ := hy
    split at hev
    · rename_i hc
      simp only [Option.some.injEq, Prod.mk.injEq] at hev
      obtain ⟨rfl, rfl⟩ := hev
      have e1 := conf_val hc.1 ha
      have e2 := conf_val hc.2 hb
      subst e1; subst e2
      obtain ⟨b, hb', _, heq⟩ := eq_ok d t ks hk
      rw [ht] at hb'; injection hb' with hb'; subst hb'
      have hrun := heq w 10000 hd xs ys hc.1 hc.2
      simp only [form, if_true] at hrun
      refine ⟨rfl, .bool (if neg then !(decide (xs = ys)) else decide (xs = ys)), ?_, rfl⟩
      cases neg
      · simp only [Bool.false_eq_true, if_false] at ho ⊢
        subst ho
        simp only [execOp, hop, hv, hu, Sem.run_bind, run_eqGuard_agg w .eql t x y _ _ hg, Result.andThen_ok, run_eql_struct, hrun, Sem.run_pure]
      · simp only [if_true] at ho ⊢
        subst ho
        simp only [execOp, hop, hv, hu, Sem.run_bind, run_eqGuard_agg w .neq t x y _ _ hg, Result.andThen_ok, run_neq_struct, hrun, Sem.run_pure]
    · cases hev
  · cases hev

theorem pop_iserr {P : Program} {t u : TypeId} {op : BinOp} {neg : Bool} {x y : Operand} {x' : Opd} (hx : okOpd x x' = true) (hy : y = .const .nilIface) {ms : Array (String × TypeId)} (ht : P.underlying t = some (.interface ms)) (ho : op = if neg then .neq else .eql) : PopOK P (.binOp op t x y u) (.iserr neg x') := by
  refine PopOK.of_pure fun φ e a w n v bs o hop he hev => ?_
  have hx := opd_ok he hx
  subst hy
  have e0 : a.eval (.const .nilIface) = .nilIface := rfl
  simp only [POp.ev] at hev
  split at hev
  · rename_i b hm
    rw [hm] at hx
    simp only [Option.some.injEq, Prod.mk.injEq] at hev
    obtain ⟨rfl, rfl⟩ := hev
    refine ⟨rfl, .bool (if neg then b else !b), ?_, rfl⟩
    have eqr : ∀ d, (Op.equalIn (d + 1) t (a.eval x) .nilIface).run P w = .ok (!b) w := by
      intro d
      cases b with
      | true =>
        obtain ⟨t', v, hv⟩ := hx
        simp [hv, Op.equalIn, run_underlying ht]
      | false =>
        have hv : a.eval x = .nilIface := hx
        simp [hv, Op.equalIn, run_underlying ht]
    have eqr := eqr 9999
    have gd : (eqGuard op t x (.const .nilIface) (a.eval x) .nilIface).run P w = .ok () w := by
      cases b with
      | true =>
        obtain ⟨t', v, hv⟩ := hx
        rw [hv]
        exact eqGuard_ok (fun _ => by simp) (by simp)
      | false =>
        have hv : a.eval x = .nilIface := hx
        rw [hv]
        cases neg <;> (simp only [Bool.false_eq_true, if_false, if_true] at ho; subst ho; simp [eqGuard])
    have hb : ∀ z : Value, (∃ t' v, z = .iface t' v) ∨ z = .nilIface → binOp op t z .nilIface = if neg then (do pure (.bool (!(← Op.equal t z .nilIface)))) else (do pure (.bool (← Op.equal t z .nilIface))) := by
      intro z hz
      cases neg <;> (simp only [Bool.false_eq_true, if_false, if_true] at ho ⊢; subst ho; rcases hz with ⟨t', v, rfl⟩ | rfl <;> rfl)
    have hz : (∃ t' v, a.eval x = .iface t' v) ∨ a.eval x = .nilIface := by
      cases b with
      | true => exact .inl hx
      | false => exact .inr hx
    have he2 : (Op.equal t (a.eval x) .nilIface).run P w = .ok (!b) w := eqr
    simp only [execOp, hop, e0, Sem.run_bind, gd, Result.andThen_ok, hb _ hz]
    cases neg <;> simp [he2]
  · cases hev
theorem inst_plain {z : List Z} (h : (inst z 0).2 = []) : ∀ n, (inst z n).2 = [] ∧ (inst z n).1 = (inst z 0).1 := by
  induction z with
  | nil => intro n; exact ⟨rfl, rfl⟩
  | cons x z ih =>
    cases x with
    | k c =>
      intro n
      obtain ⟨h1, h2⟩ := ih (by simpa [inst] using h) n
      exact ⟨by simpa [inst] using h1, by simp [inst, h2]⟩
    | sl s => simp [inst] at h
theorem pop_mkslice {P : Program} {t el : TypeId} {sz : Nat} {z : List Z} {v0 : Value} {l c : Operand} {l' c' : Opd} (hl : okOpd l l' = true) (hc : okOpd c c' = true) (ht : P.underlying t = some (.slice el)) (hs : szT P el = some sz) (hz : ((P.info? el).bind (·.zero)) = some v0) (hzs : okZs v0.cells.toList z = true) (hsz : v0.cells.size = sz)
    (hby : P.bytesOf el ≤ 2048) : PopOK P (.makeSlice t l c) (.mkslice sz z l' c') := by
  intro φ e a w n v bs o hop he hev hf
  have hl := opd_ok he hl
  have hc := opd_ok he hc
  simp only [POp.ev] at hev
  split at hev
  · rename_i ln cp h1 h2
    rw [h1] at hl; rw [h2] at hc
    have hl : a.eval l = .int .i64 ln := hl
    have hc : a.eval c = .int .i64 cp := hc
    split at hev
    · rename_i hcond
      obtain ⟨hln0, hlc, hcm, hzl, hzp⟩ := hcond
      simp only [Option.some.injEq, Prod.mk.injEq] at hev
      obtain ⟨rfl, rfl⟩ := hev
      obtain ⟨i, hi, hil⟩ := Option.map_eq_some_iff.1 hs
      have hbi : i.bytes ≤ 2048 := by simpa [Program.bytesOf, hi] using hby
      have hmr : (maxRoom : Int) = 68719476736 := rfl
      rw [hmr] at hcm
      have hw1 : IntKind.i64.wrap ln = ln := by unfold IntKind.wrap; simp [IntKind.bits, IntKind.signed]; omega
      have hw2 : IntKind.i64.wrap cp = cp := by unfold IntKind.wrap; simp [IntKind.bits, IntKind.signed]; omega
      have hmul : (i.bytes : Int) * cp ≤ 281474976710656 := by
        have : (i.bytes : Int) * cp ≤ 2048 * cp := Int.mul_le_mul_of_nonneg_right (by omega) (by omega)
        omega
      obtain ⟨cur, hcur⟩ : ∃ c : Array Value, c = (List.replicate cp.toNat v0.cells.toList).flatten.toArray := ⟨_, rfl⟩
      have hreal : ∀ zr : Array Value, (cp.toNat * sz = 0 ∨ zr = v0.cells) → ((Array.range (cp.toNat * sz)).map fun x => zr[x % zr.size]!) = cur := by
        intro zr hzr
        apply Array.ext'
        rw [hcur]
        rcases hzr with h0 | rfl
        · have : (List.replicate cp.toNat v0.cells.toList).flatten.length = 0 := by simp [hsz, h0]
          rw [List.eq_nil_of_length_eq_zero this, h0]
          simp
        · exact zeros_list v0.cells cp.toNat sz hsz
      have hcs : cur.size = cp.toNat * sz := by rw [hcur]; simp [hsz]
      have hlen : (inst (rep ln.toNat z) n).1.length = ln.toNat * sz := by
        rw [(rep_ok (φ := φ) hzs ln.toNat n).length]; simp [hsz]
      refine ⟨.slice (some ⟨w.heap.size, 0, none⟩) ln.toNat cp.toNat, w.alloc (.cells cur el), _, ?_, .inr ⟨⟨w.heap.size, 0, cur.size⟩, cp.toNat, by simp [Phi.at], rfl, by omega, by unfold maxLen; omega, by simp [hcs]⟩,
        New.row (cs := (inst (rep ln.toNat z) n).1) (bs := []) (cur := cur) (fun φ' _ => ⟨(List.replicate ln.toNat v0.cells.toList).flatten, ?_, rep_ok hzs ln.toNat n⟩) w (Fr.refl _ _)⟩
      · have hnot : ¬ (cp < 0 ∨ (281474976710656 : Int) < (i.bytes : Int) * cp) := by omega
        by_cases h0 : cp.toNat * sz = 0
        · have hr := hreal #[] (.inl h0)
          have hr0 : ∀ f : Nat → Value, (Array.range 0).map f = #[] := fun f => by apply Array.ext'; simp
          rw [h0, hr0] at hr
          subst hr
          simp [execOp, hop, Instr.makeSlice, run_underlying ht, hl, hc, asInt, asIntOf, typeInfo, hi, hw1, hw2, hnot, run_size hs, h0, hr0, newRow]
          omega
        · have hr := hreal v0.cells (.inr rfl)
          simp [execOp, hop, Instr.makeSlice, run_underlying ht, hl, hc, asInt, asIntOf, typeInfo, hi, hw1, hw2, hnot, run_size hs, h0, run_zero hz, hr, newRow]
          omega
      · rw [hlen, hcur]
        have e1 : cp.toNat = ln.toNat + (cp.toNat - ln.toNat) := by omega
        rw [e1, ← List.replicate_append_replicate, List.flatten_append]
        show List.take _ (_ ++ _) = _
        rw [List.take_append_of_le_length (by simp [hsz])]
        exact List.take_of_length_le (by simp [hsz])
    · cases hev
  · cases hev
end Go.Proofs.Ytenheijeahpbkaa.AM
