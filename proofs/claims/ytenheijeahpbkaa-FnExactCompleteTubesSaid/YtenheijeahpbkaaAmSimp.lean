/-
  The rules as a set for simp: no rule leaves code under a binder.
-/
import Derived.Test.YtenheijeahpbkaaAmRun
namespace Go.Proofs.Ytenheijeahpbkaa.AM
open Go
def np : Prim := fun _ => none
section
variable (P : Prog) (Q : Prim)
noncomputable def seqK (m : Nat) (b : ACode) : R → R
  | some (.norm, e, h) => exI P Q m b e h
  | r => r
noncomputable def loopK (m : Nat) (a : ACode) (live : List Nat) : R → R
  | some (.norm, e, h) => exI P Q m (.loop a live) e h
  | r => r
noncomputable def loopG (m : Nat) (a : ACode) (live : List Nat) : Option (Env × Heap) → R
  | some (e, h) => loopK P Q m a live (exI P Q m a e h)
  | none => none
noncomputable def condK (m : Nat) (a b : ACode) (e : Env) (h : Heap) : V → R
  | .c (.bool t) => if t then exI P Q m a e h else exI P Q m b e h
  | _ => none
def blockK (id : Nat) : R → R
  | some (.exit i, e, h) => if i = id then some (.norm, e, h) else some (.exit i, e, h)
  | r => r
def regK (live : List Nat) : Option (Env × Heap) → R
  | some (e, h) => some (.norm, restrict e live, h)
  | none => none
def regDK (live : List Nat) (ap : List (Opd × Opd)) : Option (Env × Heap) → R
  | some (e, h) => if apartA e ap then some (.norm, restrict e live, h) else none
  | none => none
def runK (F : Fns) (r : List AOper) : Option (Env × Heap) → Option (Env × Heap)
  | some (e, h) => runOps F r e h
  | none => none
def runDK (F : Fns) (n : Nat) (r : List AOper) : Option (Env × Heap) → Option (Env × Heap)
  | some (e, h) => runOpsD F n r e h
  | none => none
def stepK (d : Option Nat) (e : Env) (h : Heap) : Option Out → Option (Env × Heap)
  | some (v, ns, us) => some (put e d v, ups us h ++ ns)
  | none => none
def stepDK (n : Nat) (o : AOp) (d : Option Nat) (e : Env) (h : Heap) : Option Out → Option (Env × Heap)
  | some (v, ns, us) => if okD n h e us o = true then some (put e d v, ups us h ++ ns) else none
  | none => none
def wantK (F : Fns) (o : AOp) (e : Env) (H : HF) (base : Nat) : Option Bool → Option Out
  | some true => o.ev F e H base
  | some false => some (.c .undef, [], [])
  | none => none
def leaveK (m : Nat) (rs : List RV) : R → Option (V × Heap)
  | some (.exit _, _, _) => none
  | some (_, e, h) => leave m rs e h
  | none => none
theorem exI_seq' (m : Nat) (a b : ACode) (e : Env) (h : Heap) : exI P Q m (.seq a b) e h = seqK P Q m b (exI P Q m a e h) := by
  rw [exI_seq]
  cases exI P Q m a e h with
  | none => rfl
  | some r => obtain ⟨x, e1, h1⟩ := r; cases x <;> rfl
theorem exI_loop' (m : Nat) (a : ACode) (live : List Nat) (e : Env) (h : Heap) : exI P Q m (.loop a live) e h = loopG P Q m a live (gcE m live e h) := by
  rw [exI_loop]
  cases gcE m live e h with
  | none => rfl
  | some s =>
    obtain ⟨e1, h1⟩ := s
    simp only [Option.bind_some, loopG]
    cases exI P Q m a e1 h1 with
    | none => rfl
    | some r => obtain ⟨x, e2, h2⟩ := r; cases x <;> rfl
theorem exI_cond' (m : Nat) (c : Opd) (a b : ACode) (e : Env) (h : Heap) : exI P Q m (.cond c a b) e h = condK P Q m a b e h (c.ev e) := by
  rw [exI_cond]; rfl
theorem exI_block' (m id : Nat) (a : ACode) (e : Env) (h : Heap) : exI P Q m (.block id a) e h = blockK id (exI P Q m a e h) := by
  rw [exI_block]
  cases exI P Q m a e h with
  | none => rfl
  | some r => obtain ⟨x, e1, h1⟩ := r; cases x <;> first | rfl | (simp only [Option.map_some, blockK]; split <;> rfl)
theorem exI_region' (m : Nat) (qs : List AOper) (live : List Nat) (e : Env) (h : Heap) : exI P Q m (.region qs live) e h = regK live (runOps (fnI P Q) qs e h) := by
  rw [exI_region]
  cases runOps (fnI P Q) qs e h <;> rfl
theorem exI_regionD' (m : Nat) (qs : List AOper) (live : List Nat) (ap : List (Opd × Opd)) (e : Env) (h : Heap) : exI P Q m (.regionD qs live ap) e h = regDK live ap (runOpsD (fnI P Q) h.length qs e h) := by
  rw [exI_regionD]
  cases runOpsD (fnI P Q) h.length qs e h <;> rfl
end
theorem runOps_nil (F : Fns) (e : Env) (h : Heap) : runOps F [] e h = some (e, h) := rfl
theorem runOps_cons (F : Fns) (o : AOper) (r : List AOper) (e : Env) (h : Heap) : runOps F (o :: r) e h = runK F r (stepK o.d e h (wantK F o.o e (lkp h) h.length (wantedA e o.g))) := by
  simp only [runOps, stepA, outA]
  cases wantedA e o.g with
  | none => rfl
  | some w =>
    simp only [Option.bind_some]
    cases w with
    | true =>
      simp only [wantK, if_true]
      cases o.o.ev F e (lkp h) h.length <;> rfl
    | false => rfl
theorem runOpsD_nil (F : Fns) (n : Nat) (e : Env) (h : Heap) : runOpsD F n [] e h = some (e, h) := rfl
theorem runOpsD_cons (F : Fns) (n : Nat) (o : AOper) (r : List AOper) (e : Env) (h : Heap) : runOpsD F n (o :: r) e h = runDK F n r (stepDK n o.o o.d e h (wantK F o.o e (lkp h) h.length (wantedA e o.g))) := by
  simp only [runOpsD, stepD, outA]
  cases wantedA e o.g with
  | none => rfl
  | some w =>
    simp only [Option.bind_some]
    cases w with
    | true =>
      simp only [wantK, if_true]
      cases o.o.ev F e (lkp h) h.length with
      | none => rfl
      | some r =>
        simp only [Option.bind_some, stepDK]
        split
        · rfl
        · rfl
    | false =>
      simp only [Bool.false_eq_true, if_false, Option.bind_some, wantK, stepDK]
      split
      · rfl
      · rfl
theorem fnI_body' (P : Prog) (Q : Prim) {f : Nat} {fn : AFn} (hq : Q f = none) (hp : P f = some fn) {a : List V} (hl : a.length = fn.np) (h : Heap) : fnI P Q f a h = leaveK h.length fn.res (exI P Q h.length fn.body (enter a 0) h) := by
  rw [fnI_body P Q hq hp hl]
  cases exI P Q h.length fn.body (enter a 0) h with
  | none => rfl
  | some r => obtain ⟨x, e1, h1⟩ := r; cases x <;> rfl
section
variable {P : Prog} {Q : Prim} {m : Nat}
@[simp] theorem seqK_norm (b : ACode) (e : Env) (h : Heap) : seqK P Q m b (some (.norm, e, h)) = exI P Q m b e h := rfl
@[simp] theorem seqK_ret (b : ACode) (e : Env) (h : Heap) : seqK P Q m b (some (.ret, e, h)) = some (.ret, e, h) := rfl
@[simp] theorem seqK_exit (b : ACode) (i : Nat) (e : Env) (h : Heap) : seqK P Q m b (some (.exit i, e, h)) = some (.exit i, e, h) := rfl
@[simp] theorem seqK_ite (b : ACode) (c : Prop) [Decidable c] (x y : R) : seqK P Q m b (if c then x else y) = if c then seqK P Q m b x else seqK P Q m b y := by split <;> rfl
@[simp] theorem loopK_norm (a : ACode) (l : List Nat) (e : Env) (h : Heap) : loopK P Q m a l (some (.norm, e, h)) = exI P Q m (.loop a l) e h := rfl
@[simp] theorem loopK_ret (a : ACode) (l : List Nat) (e : Env) (h : Heap) : loopK P Q m a l (some (.ret, e, h)) = some (.ret, e, h) := rfl
@[simp] theorem loopK_exit (a : ACode) (l : List Nat) (i : Nat) (e : Env) (h : Heap) : loopK P Q m a l (some (.exit i, e, h)) = some (.exit i, e, h) := rfl
@[simp] theorem loopK_ite (a : ACode) (l : List Nat) (c : Prop) [Decidable c] (x y : R) : loopK P Q m a l (if c then x else y) = if c then loopK P Q m a l x else loopK P Q m a l y := by split <;> rfl
@[simp] theorem loopG_some (a : ACode) (l : List Nat) (e : Env) (h : Heap) : loopG P Q m a l (some (e, h)) = loopK P Q m a l (exI P Q m a e h) := rfl
@[simp] theorem condK_bool (a b : ACode) (e : Env) (h : Heap) (t : Bool) : condK P Q m a b e h (.c (.bool t)) = if t = true then exI P Q m a e h else exI P Q m b e h := rfl
@[simp] theorem blockK_norm (id : Nat) (e : Env) (h : Heap) : blockK id (some (.norm, e, h)) = some (.norm, e, h) := rfl
@[simp] theorem blockK_ret (id : Nat) (e : Env) (h : Heap) : blockK id (some (.ret, e, h)) = some (.ret, e, h) := rfl
@[simp] theorem blockK_exit (id i : Nat) (e : Env) (h : Heap) : blockK id (some (.exit i, e, h)) = if i = id then some (.norm, e, h) else some (.exit i, e, h) := rfl
@[simp] theorem blockK_ite (id : Nat) (c : Prop) [Decidable c] (x y : R) : blockK id (if c then x else y) = if c then blockK id x else blockK id y := by split <;> rfl
@[simp] theorem regK_some (live : List Nat) (e : Env) (h : Heap) : regK live (some (e, h)) = some (.norm, restrict e live, h) := rfl
@[simp] theorem regK_ite (live : List Nat) (c : Prop) [Decidable c] (x y : Option (Env × Heap)) : regK live (if c then x else y) = if c then regK live x else regK live y := by split <;> rfl
@[simp] theorem regDK_some (live : List Nat) (ap : List (Opd × Opd)) (e : Env) (h : Heap) : regDK live ap (some (e, h)) = if apartA e ap then some (.norm, restrict e live, h) else none := rfl
@[simp] theorem runK_some (F : Fns) (r : List AOper) (e : Env) (h : Heap) : runK F r (some (e, h)) = runOps F r e h := rfl
@[simp] theorem runK_ite (F : Fns) (r : List AOper) (c : Prop) [Decidable c] (x y : Option (Env × Heap)) : runK F r (if c then x else y) = if c then runK F r x else runK F r y := by split <;> rfl
@[simp] theorem runDK_some (F : Fns) (n : Nat) (r : List AOper) (e : Env) (h : Heap) : runDK F n r (some (e, h)) = runOpsD F n r e h := rfl
@[simp] theorem stepK_some (d : Option Nat) (e : Env) (h : Heap) (v : V) (ns : List Blk) (us : List (Nat × Blk)) : stepK d e h (some (v, ns, us)) = some (put e d v, ups us h ++ ns) := rfl
@[simp] theorem stepK_ite (d : Option Nat) (e : Env) (h : Heap) (c : Prop) [Decidable c] (x y : Option Out) : stepK d e h (if c then x else y) = if c then stepK d e h x else stepK d e h y := by split <;> rfl
@[simp] theorem stepDK_some (n : Nat) (o : AOp) (d : Option Nat) (e : Env) (h : Heap) (v : V) (ns : List Blk) (us : List (Nat × Blk)) : stepDK n o d e h (some (v, ns, us)) = if okD n h e us o = true then some (put e d v, ups us h ++ ns) else none := rfl
@[simp] theorem wantK_true (F : Fns) (o : AOp) (e : Env) (H : HF) (base : Nat) : wantK F o e H base (some true) = o.ev F e H base := rfl
@[simp] theorem wantK_false (F : Fns) (o : AOp) (e : Env) (H : HF) (base : Nat) : wantK F o e H base (some false) = some (.c .undef, [], []) := rfl
@[simp] theorem leaveK_norm (rs : List RV) (e : Env) (h : Heap) : leaveK m rs (some (.norm, e, h)) = leave m rs e h := rfl
@[simp] theorem leaveK_ret (rs : List RV) (e : Env) (h : Heap) : leaveK m rs (some (.ret, e, h)) = leave m rs e h := rfl
@[simp] theorem leaveK_ite (rs : List RV) (c : Prop) [Decidable c] (x y : R) : leaveK m rs (if c then x else y) = if c then leaveK m rs x else leaveK m rs y := by split <;> rfl
end
theorem exI_skip' (P : Prog) (Q : Prim) (m : Nat) (e : Env) (h : Heap) : exI P Q m .skip e h = some (.norm, e, h) := exI_skip P Q m e h
attribute [simp] exI_seq' exI_region' exI_regionD' exI_ret exI_skip exI_cond' exI_block' exI_exit runOps_nil runOps_cons runOpsD_nil runOpsD_cons
attribute [simp] wantedA AOp.ev POp.ev Opd.ev AM.get AM.put enter restrict binV binI unV binS ups readB mkV noDead cids oneV resV leave_eq cids_ints cmp_ints noDead_ints cmp bnd isBool capsOf mmL mmI inst fillAt setAt rep okD smallSl apartA
section
variable (g : Nat → Nat) (x : C) (xs : List C) (ys : List V1)
@[simp] theorem ids_c : (V.c x).ids = x.ids := rfl
@[simp] theorem ids_agg : (V.agg xs).ids = cids xs := rfl
@[simp] theorem ids_tup : (V.tup ys).ids = ys.flatMap V1.ids := rfl
@[simp] theorem ids1_c : (V1.c x).ids = x.ids := rfl
@[simp] theorem ids1_agg : (V1.agg xs).ids = cids xs := rfl
@[simp] theorem idsC_dead : C.dead.ids = [] := rfl
@[simp] theorem idsC_undef : C.undef.ids = [] := rfl
@[simp] theorem idsC_int (k : IntKind) (n : Int) : (C.int k n).ids = [] := rfl
@[simp] theorem idsC_bool (b : Bool) : (C.bool b).ids = [] := rfl
@[simp] theorem idsC_str (b : List UInt8) : (C.str b).ids = [] := rfl
@[simp] theorem idsC_nsl : C.nsl.ids = [] := rfl
@[simp] theorem idsC_err (b : Bool) : (C.err b).ids = [] := rfl
@[simp] theorem idsC_ptr (i o : Nat) : (C.ptr i o).ids = [i] := rfl
@[simp] theorem idsC_sl (i o n s : Nat) : (C.sl i o n s).ids = [i] := rfl
@[simp] theorem idsC_fn (f : Nat) (cs : List (Nat × Nat)) : (C.fn f cs).ids = cs.map (·.1) := rfl
@[simp] theorem mp_c : (V.c x).mp g = .c (x.mp g) := rfl
@[simp] theorem mp_agg : (V.agg xs).mp g = .agg (cmp g xs) := rfl
@[simp] theorem mp_tup : (V.tup ys).mp g = .tup (ys.map (V1.mp g)) := rfl
@[simp] theorem mp1_c : (V1.c x).mp g = .c (x.mp g) := rfl
@[simp] theorem mp1_agg : (V1.agg xs).mp g = .agg (cmp g xs) := rfl
@[simp] theorem mpC_dead : C.dead.mp g = .dead := rfl
@[simp] theorem mpC_undef : C.undef.mp g = .undef := rfl
@[simp] theorem mpC_int (k : IntKind) (n : Int) : (C.int k n).mp g = .int k n := rfl
@[simp] theorem mpC_bool (b : Bool) : (C.bool b).mp g = .bool b := rfl
@[simp] theorem mpC_str (b : List UInt8) : (C.str b).mp g = .str b := rfl
@[simp] theorem mpC_nsl : C.nsl.mp g = .nsl := rfl
@[simp] theorem mpC_err (b : Bool) : (C.err b).mp g = .err b := rfl
@[simp] theorem mpC_ptr (i o : Nat) : (C.ptr i o).mp g = .ptr (g i) o := rfl
@[simp] theorem mpC_sl (i o n s : Nat) : (C.sl i o n s).mp g = .sl (g i) o n s := rfl
@[simp] theorem mpC_fn (f : Nat) (cs : List (Nat × Nat)) : (C.fn f cs).mp g = .fn f (cs.map fun p => (g p.1, p.2)) := rfl
@[simp] theorem mpB_cells (o : Bool) : (Blk.cells xs o).mp g = .cells (cmp g xs) o := rfl
@[simp] theorem idsB_cells (o : Bool) : (Blk.cells xs o).ids = cids xs := rfl
@[simp] theorem cells_c : (V.c x).cells = [x] := rfl
@[simp] theorem cells_agg : (V.agg xs).cells = xs := rfl
@[simp] theorem down_c : (V.c x).down = some (.c x) := rfl
@[simp] theorem down_agg : (V.agg xs).down = some (.agg xs) := rfl
@[simp] theorem up_c : (V1.c x).up = .c x := rfl
@[simp] theorem up_agg : (V1.agg xs).up = .agg xs := rfl
@[simp] theorem okCells_agg : okCells (.agg xs) = true := rfl
@[simp] theorem okCells_int (k : IntKind) (n : Int) : okCells (.c (.int k n)) = true := rfl
@[simp] theorem okCells_bool (b : Bool) : okCells (.c (.bool b)) = true := rfl
@[simp] theorem okCells_str (b : List UInt8) : okCells (.c (.str b)) = true := rfl
@[simp] theorem okCells_nsl : okCells (.c .nsl) = true := rfl
@[simp] theorem okCells_ptr (i o : Nat) : okCells (.c (.ptr i o)) = true := rfl
@[simp] theorem okCells_sl (i o n s : Nat) : okCells (.c (.sl i o n s)) = true := rfl
@[simp] theorem okCells_fn (f : Nat) (cs : List (Nat × Nat)) : okCells (.c (.fn f cs)) = true := rfl
@[simp] theorem okCells_err (b : Bool) : okCells (.c (.err b)) = true := rfl
end
@[simp] theorem load_ev (F : Fns) (e : Env) (H : HF) (base n : Nat) (agg : Bool) (a : Opd) : (HOp.load n agg a).ev F e H base = match a.ev e with
    | .c (.ptr i o) => (readB H i o n).map fun cs => (mkV agg cs, [], [])
    | _ => none := rfl
@[simp] theorem slA_ev (F : Fns) (e : Env) (H : HF) (base m sz : Nat) (x : Opd) (lo hi : Option Opd) : (HOp.slA m sz x lo hi).ev F e H base = match x.ev e with
    | .c (.ptr i o) => match readB H i o (m * sz) with
      | some _ => (bnd e hi m m).bind fun h' => (bnd e lo 0 h').map fun l => (.c (.sl i (o + l * sz) (h' - l) sz), [], [])
      | none => none
    | _ => none := rfl
@[simp] theorem store_ev (F : Fns) (e : Env) (H : HF) (base n : Nat) (a x : Opd) : (HOp.store n a x).ev F e H base = match a.ev e with
    | .c (.ptr i o) => match H i with
      | some (.cells cs true) => if o + n ≤ cs.length ∧ (x.ev e).cells.length = n ∧ okCells (x.ev e) ∧ noDead (x.ev e).cells then some (.c .undef, [], [(i, .cells (setAt cs o (x.ev e).cells) true)]) else none
      | _ => none
    | _ => none := rfl
@[simp] theorem call_ev (F : Fns) (e : Env) (H : HF) (base : Nat) (f : Opd) (args : List Opd) : (HOp.call f args).ev F e H base = match f.ev e with
    | .c (.fn g caps) => callA F g (args.map (Opd.ev e) ++ caps.map fun p => V.c (.ptr p.1 p.2)) H base
    | _ => none := rfl
@[simp] theorem resL_nil (e : Env) (h : Heap) : resL e h [] = some [] := rfl
@[simp] theorem resL_cons (e : Env) (h : Heap) (r : RV) (rs : List RV) : resL e h (r :: rs) = (resV e h r).bind fun v => (resL e h rs).map (v :: ·) := rfl
@[simp] theorem lkp_get (h : Heap) (i : Nat) : lkp h i = h[i]? := rfl
@[simp] theorem cut_zero' (v : V) (h : Heap) (hv : (v.ids == []) = true) : cut 0 v h = some (v, []) := cut_zero (by simpa using hv)
/-- a call with values alone, of a function whose answer is known -/
theorem callA_pure {F : Fns} {f : Nat} {args : List V} {v : V} (hF : F f args [] = some (v, [])) (ha : (args.flatMap V.ids == []) = true) (hv : (v.ids == []) = true) (H : HF) (base : Nat) : callA F f args H base = some (v, [], []) :=
  callA_val (by simpa using ha) hF (by simpa using hv)
theorem gcE_old' {m : Nat} {live : List Nat} {e : Env} {h : Heap} (he : (live.all fun t => (get e t).ids.all fun i => decide (i < m)) = true) (hm : decide (m ≤ h.length) = true) (hw : wfH m (h.take m) = true) : gcE m live e h = some (restrict e live, h.take m) :=
  gcE_old (fun t ht i hi => by simpa using List.all_eq_true.1 (List.all_eq_true.1 he t ht) i hi) (by simpa using hm) hw
theorem cut_old' {m : Nat} {v : V} {h : Heap} (hv : ((v.ids.all fun i => decide (i < m)) && decide (m ≤ h.length) && wfH m (h.take m)) = true) : cut m v h = some (v, h.take m) := by
  simp only [Bool.and_eq_true] at hv
  exact cut_old (fun i hi => by simpa using List.all_eq_true.1 hv.1.1 i hi) (by simpa using hv.1.2) hv.2
/-- a call with a value and one place of a block that names no other -/
theorem callA_at {F : Fns} {f : Nat} {x : V} {i : Nat} {H : HF} {b : Blk} {v : V} (hb : H i = some b) (hx : x.ids = []) (hbi : b.ids = []) (hF : F f [x, .c (.ptr 0 0)] [b] = some (v, [b])) (hv : v.ids = []) (base : Nat) : callA F f [x, .c (.ptr i 0)] H base = some (v, [], [(i, b)]) := by
  have hr : reach H 64 ([x, V.c (.ptr i 0)].flatMap V.ids) [] = [i] := by
    simp [hx, reach, idsAt, hb, hbi]
  have hbm : ∀ g, b.mp g = b := fun g => Blk.mp_below (by simp [hbi])
  unfold callA
  simp only [hr]
  have hc : closed [i] H = true := by simp [closed, hb, idsAt, hbi, inL]
  have hl : inL [i] ([x, V.c (.ptr i 0)].flatMap V.ids) = true := by simp [inL, hx]
  rw [if_pos ⟨hc, hl⟩]
  have hs : sub [i] H = [b] := by simp [sub, hb, hbm]
  have ha : [x, V.c (.ptr i 0)].map (V.mp (pos [i])) = [x, .c (.ptr 0 0)] := by simp [V.mp_pure hx, pos]
  rw [hs, ha, hF]
  simp [V.mp_pure hv, hbm]
/-- a call, its reach told -/
theorem callA_gen {F : Fns} {f : Nat} {args args' : List V} {H : HF} {L : List Nat} {hs h' : Heap} {v : V} (hr : reach H 64 (args.flatMap V.ids) [] = L) (hc : (closed L H && inL L (args.flatMap V.ids)) = true) (hsub : sub L H = hs) (ha : args.map (V.mp (pos L)) = args') (hF : F f args' hs = some (v, h')) (hl : L.length ≤ h'.length) (base : Nat) :
    callA F f args H base = some (v.mp (back L base), (h'.drop L.length).map (Blk.mp (back L base)), L.zip ((h'.take L.length).map (Blk.mp (back L base)))) := by
  unfold callA
  simp only [Bool.and_eq_true] at hc
  simp only [hr]
  rw [if_pos hc, hsub, ha, hF]
  simp only [Option.bind_some]
  rw [if_pos hl]
theorem gcE_told {m : Nat} {live : List Nat} {e : Env} {h : Heap} {L : List Nat} (hr : gcL m (envIds (restrict e live)) h = L) (hc : (closed L (lkp h) && inL L (envIds (restrict e live))) = true) : gcE m live e h = some ((restrict e live).map (fun p => (p.1, p.2.mp (pos L))), sub L (lkp h)) := by
  subst hr
  simp only [Bool.and_eq_true] at hc
  unfold gcE
  simp only
  rw [if_pos hc]
/-- a loop's head where one block of plain cells lives, and others that nobody names -/
theorem gcE_one {live : List Nat} {e : Env} {cs : List C} {o : Bool} {g : Heap} (hcs : (cids cs == []) = true) (he : (envIds (restrict e live) == [0]) = true) : gcE 0 live e (.cells cs o :: g) = some ((restrict e live).map (fun p => (p.1, p.2.mp (pos [0]))), [.cells cs o]) := by
  have hcs : cids cs = [] := by simpa using hcs
  have he : envIds (restrict e live) = [0] := by simpa using he
  have hr : gcL 0 (envIds (restrict e live)) (.cells cs o :: g) = [0] := by rw [he]; simp [gcL, upto, reach, idsAt, hcs]
  rw [gcE_told hr (by rw [he]; simp [closed, inL, idsAt, hcs])]
  simp [sub, cmp_pure hcs]
/-- a call with values alone that leaves blocks of its own -/
theorem callA_new {F : Fns} {f : Nat} {args : List V} {v : V} {h' : Heap} (hF : F f args [] = some (v, h')) (ha : (args.flatMap V.ids == []) = true) (H : HF) (base : Nat) : callA F f args H base = some (v.mp (back [] base), h'.map (Blk.mp (back [] base)), []) := by
  have ha : args.flatMap V.ids = [] := by simpa using ha
  unfold callA
  simp only [ha, reach]
  have : closed [] H = true := rfl
  rw [if_pos ⟨this, rfl⟩, mps_pure ha]
  have : sub [] H = [] := rfl
  rw [this, hF]
  simp
theorem wantK_bool (F : Fns) (o : AOp) (e : Env) (H : HF) (base : Nat) (b : Bool) : wantK F o e H base (some b) = if b = true then o.ev F e H base else some (.c .undef, [], []) := by cases b <;> rfl
theorem wrapI {n : Int} (h0 : -9223372036854775808 ≤ n) (h1 : n < 9223372036854775808) : IntKind.i64.wrap n = n := by
  have : IntKind.i64.wrap n = (n + 9223372036854775808) % 18446744073709551616 - 9223372036854775808 := by
    simp [IntKind.wrap, IntKind.bits, IntKind.signed]
    split <;> omega
  rw [this]; omega
theorem ite_and_false (c : Bool) (b : Bool) : (if c = true then some ((V.c (C.bool false), ([] : Heap))) else some (V.c (C.bool b), [])) = some (V.c (C.bool (!c && b)), []) := by cases c <;> simp
end Go.Proofs.Ytenheijeahpbkaa.AM
