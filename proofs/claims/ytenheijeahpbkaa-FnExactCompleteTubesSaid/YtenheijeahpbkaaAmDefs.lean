/-
  The abstract machine of this work: values whose addresses are block numbers, a heap that is a list of blocks, and an evaluator over a small
  code that is printed out of the loaded program. Definitions alone.
-/
import Derived.WalkKit
namespace Go.Proofs.Ytenheijeahpbkaa.AM
open Go

/-- one cell -/
inductive C where
  | dead
  | undef
  | int (k : IntKind) (n : Int)
  | bool (b : Bool)
  | str (s : List UInt8)
  | ptr (id off : Nat)
  | sl (id off len sz : Nat)
  | nsl
  | fn (f : Nat) (caps : List (Nat × Nat))
  | map (id : Nat)
  | err (b : Bool)
  deriving Inhabited, DecidableEq
inductive V1 where
  | c (x : C)
  | agg (xs : List C)
  deriving Inhabited, DecidableEq
inductive V where
  | c (x : C)
  | agg (xs : List C)
  | tup (xs : List V1)
  deriving Inhabited, DecidableEq
inductive Blk where
  | cells (cs : List C) (own : Bool)
  | dead
  | map (es : List (List C × C))
  deriving Inhabited, DecidableEq
abbrev Heap := List Blk
abbrev Env := List (Nat × V)
def V1.up : V1 → V | .c x => .c x | .agg xs => .agg xs
def V.down : V → Option V1 | .c x => some (.c x) | .agg xs => some (.agg xs) | .tup _ => none
def V.cells : V → List C | .c x => [x] | .agg xs => xs | .tup _ => []
def okCells : V → Bool | .c .dead => false | .tup _ => false | _ => true
def mkV (agg : Bool) (xs : List C) : V := if agg then .agg xs else .c (xs.headD .dead)
def get : Env → Nat → V
  | [], _ => .c .dead
  | (i, v) :: r, t => if i = t then v else get r t
def put (e : Env) (d : Option Nat) (v : V) : Env := match d with | some d => (d, v) :: e | none => e
def restrict (e : Env) (live : List Nat) : Env := live.map fun t => (t, get e t)

/-! ### numbers of blocks: what a value names; renaming -/
def C.ids : C → List Nat
  | .ptr i _ => [i] | .sl i _ _ _ => [i] | .fn _ cs => cs.map (·.1) | .map i => [i] | _ => []
def cids : List C → List Nat | [] => [] | c :: r => c.ids ++ cids r
def V1.ids : V1 → List Nat | .c x => x.ids | .agg xs => cids xs
def V.ids : V → List Nat | .c x => x.ids | .agg xs => cids xs | .tup xs => xs.flatMap V1.ids
def Blk.ids : Blk → List Nat | .cells cs _ => cids cs | .dead => [] | .map es => es.flatMap fun e => e.2.ids
def C.mp (g : Nat → Nat) : C → C
  | .ptr i o => .ptr (g i) o
  | .sl i o n s => .sl (g i) o n s
  | .fn f cs => .fn f (cs.map fun p => (g p.1, p.2))
  | .map i => .map (g i)
  | x => x
def cmp (g : Nat → Nat) : List C → List C | [] => [] | c :: r => c.mp g :: cmp g r
def V1.mp (g : Nat → Nat) : V1 → V1 | .c x => .c (x.mp g) | .agg xs => .agg (cmp g xs)
def V.mp (g : Nat → Nat) : V → V | .c x => .c (x.mp g) | .agg xs => .agg (cmp g xs) | .tup xs => .tup (xs.map (V1.mp g))
def Blk.mp (g : Nat → Nat) : Blk → Blk
  | .cells cs o => .cells (cmp g cs) o
  | .dead => .dead
  | .map es => .map (es.map fun e => (e.1, e.2.mp g))
def pos : List Nat → Nat → Nat
  | [], _ => 0
  | a :: L, i => if a = i then 0 else pos L i + 1
/-- what is at a number -/
abbrev HF := Nat → Option Blk
def lkp (h : Heap) : HF := fun i => h[i]?
def idsAt (H : HF) (i : Nat) : List Nat := match H i with | some b => b.ids | none => []
def reach (H : HF) : Nat → List Nat → List Nat → List Nat
  | 0, _, seen => seen
  | _ + 1, [], seen => seen
  | n + 1, i :: todo, seen => if i ∈ seen then reach H n todo seen else reach H n (todo ++ idsAt H i) (seen ++ [i])
def upto : Nat → List Nat | 0 => [] | n + 1 => upto n ++ [n]
def sub (L : List Nat) (H : HF) : Heap := L.map fun i => ((H i).getD .dead).mp (pos L)
def inL (L : List Nat) (is : List Nat) : Bool := is.all fun j => decide (j ∈ L)
/-- all that the blocks of L name lies in L, and L's numbers are blocks -/
def closed (L : List Nat) (H : HF) : Bool := L.all fun i => (H i).isSome && inL L (idsAt H i)
def ups : List (Nat × Blk) → Heap → Heap
  | [], h => h
  | p :: r, h => ups r (h.set p.1 p.2)
def back (L : List Nat) (n : Nat) (j : Nat) : Nat := if j < L.length then L.getD j 0 else n + (j - L.length)

/-! ### operations -/
inductive Opd where
  | t (n : Nat)
  | k (v : V)
  | f (f : Nat)
  deriving Inhabited, DecidableEq
def Opd.ev (e : Env) : Opd → V
  | .t n => get e n
  | .k v => v
  | .f n => .c (.fn n [])
/-- a cell of a zero value -/
inductive Z where
  | k (c : C)
  | sl (sz : Nat)
  deriving Inhabited, DecidableEq
def inst : List Z → Nat → List C × List Blk
  | [], _ => ([], [])
  | .k c :: r, n => ((c :: (inst r n).1), (inst r n).2)
  | .sl sz :: r, n => ((.sl n 0 0 sz :: (inst r (n + 1)).1), .cells [] true :: (inst r (n + 1)).2)
def setAt (cs : List C) (i : Nat) : List C → List C
  | [] => cs
  | x :: r => setAt (cs.set i x) (i + 1) r
/-- parts laid over a zero: each at its place, of its size -/
def fillAt (e : Env) : List (Nat × Nat × Opd) → List C → Option (List C)
  | [], cs => some cs
  | (o, n, x) :: r, cs => if (x.ev e).cells.length = n ∧ o + n ≤ cs.length ∧ okCells (x.ev e) then fillAt e r (setAt cs o (x.ev e).cells) else none
def rep (n : Nat) (z : List Z) : List Z := match n with | 0 => [] | n + 1 => z ++ rep n z

def binI (op : BinOp) (k : IntKind) (x y : Int) : Option C :=
  match op with
  | .add => some (.int k (k.wrap (x + y)))
  | .sub => some (.int k (k.wrap (x - y)))
  | .mul => some (.int k (k.wrap (x * y)))
  | .quo => if y = 0 then none else some (.int k (k.wrap (x.tdiv y)))
  | .rem => if y = 0 then none else some (.int k (x.tmod y))
  | .and => some (.int k (k.wrap (BitVec.ofInt k.bits x &&& BitVec.ofInt k.bits y).toNat))
  | .eql => some (.bool (x == y))
  | .neq => some (.bool (x != y))
  | .lss => some (.bool (decide (x < y)))
  | .leq => some (.bool (decide (x ≤ y)))
  | .gtr => some (.bool (decide (x > y)))
  | .geq => some (.bool (decide (x ≥ y)))
  | _ => none
def binS (op : BinOp) (x y : List UInt8) : Option C :=
  match op with
  | .add => if x.length + y.length ≤ 9223372036854775807 then some (.str (x ++ y)) else none
  | .eql => some (.bool (x == y))
  | .neq => some (.bool (!(x == y)))
  | .lss => some (.bool (Op.bytesLess x y))
  | .leq => some (.bool (Op.bytesLess x y || x == y))
  | .gtr => some (.bool (!(Op.bytesLess x y || x == y)))
  | .geq => some (.bool (!Op.bytesLess x y))
  | _ => none
def binShift (op : BinOp) (k : IntKind) (x y : Int) : Option C :=
  if y < 0 then none else
  match op with
  | .shl => some (.int k (k.wrap (x * 2 ^ (min y.toNat k.bits))))
  | .shr => some (.int k (x.fdiv (2 ^ (min y.toNat k.bits))))
  | _ => none
def binV (op : BinOp) (x y : V) : Option C :=
  match x, y with
  | .c (.int k a), .c (.int k' b) => if op = .shl ∨ op = .shr then binShift op k a b else if k = k' then binI op k a b else none
  | .c (.str a), .c (.str b) => binS op a b
  | _, _ => none
def unV (op : UnOp) (x : V) : Option C :=
  match op, x with
  | .neg, .c (.int k n) => some (.int k (k.wrap (0 - n)))
  | .not, .c (.bool b) => some (.bool (!b))
  | _, _ => none
/-- a bound that is given: none: the other end -/
def bnd (e : Env) (x : Option Opd) (dflt : Nat) (lim : Nat) : Option Nat :=
  match x with
  | none => some dflt
  | some o => match o.ev e with
    | .c (.int _ n) => if 0 ≤ n ∧ n ≤ (lim : Int) then some n.toNat else none
    | _ => none

/-- the kind of a plain cell -/
inductive CK where | int (k : IntKind) | bool | str
  deriving DecidableEq, Inhabited
def conf1 : CK → C → Bool
  | .int k, .int k' _ => k == k'
  | .bool, .bool _ => true
  | .str, .str _ => true
  | _, _ => false
def conf : List CK → List C → Bool
  | [], [] => true
  | a :: x, b :: y => conf1 a b && conf x y
  | _, _ => false
/-- operations that do not look at the heap: they may make new blocks -/
inductive POp where
  | mv (x : Opd)
  | nilsl (sz : Nat)
  | pick (c a b : Opd)
  | alloc (z : List Z)
  | box (n : Nat) (x : Opd)
  | build (z : List Z) (parts : List (Nat × Nat × Opd))
  | mksl (sz len : Nat) (z : List Z) (parts : List (Nat × Nat × Opd))
  | mkslice (sz : Nat) (z : List Z) (len cap : Opd)
  | bin (op : BinOp) (x y : Opd)
  | eqv (neg : Bool) (ks : List CK) (x y : Opd)
  | eqb (neg : Bool) (x y : Opd)
  | iserr (neg : Bool) (x : Opd)
  | un (op : UnOp) (x : Opd)
  | conv (k : IntKind) (x : Opd)
  | mkfn (f : Nat) (caps : List Opd)
  | slS (sz : Nat) (x : Opd) (lo hi : Option Opd)
  | sl0 (sz : Nat) (x : Opd)
  | slStr (x : Opd) (lo hi : Option Opd)
  | fld (off : Nat) (x : Opd)
  | fldV (off n : Nat) (agg : Bool) (x : Opd)
  | ixA (n sz : Nat) (x i : Opd)
  | ixS (sz : Nat) (x i : Opd)
  | ixStr (x i : Opd)
  | ixV (n sz : Nat) (agg : Bool) (x i : Opd)
  | ext (x : Opd) (i : Nat)
  | len (x : Opd)
  | lenStr (x : Opd)
  | mnmx (isMax : Bool) (xs : List Opd)
  | nn (x : Opd)
  deriving Inhabited, DecidableEq

def mmI (isMax : Bool) (a b : Int) : Int := if isMax then (if b > a then b else a) else (if b < a then b else a)
def mmL (e : Env) (isMax : Bool) (k : IntKind) (a : Int) : List Opd → Option C
  | [] => some (.int k a)
  | x :: r => match x.ev e with | .c (.int k' b) => if k = k' then mmL e isMax k (mmI isMax a b) r else none | _ => none
def capsOf (e : Env) : List Opd → Option (List (Nat × Nat))
  | [] => some []
  | x :: r => match x.ev e with | .c (.ptr i o) => (capsOf e r).map ((i, o) :: ·) | _ => none
def noDead : List C → Bool | [] => true | .dead :: _ => false | .undef :: _ => false | _ :: r => noDead r
def maxRoom : Nat := 68719476736
def isBool : C → Bool | .bool _ => true | _ => false

def POp.ev (e : Env) (n : Nat) : POp → Option (V × List Blk)
  | .mv x => some (x.ev e, [])
  | .nilsl sz => some (.c (.sl n 0 0 sz), [.cells [] true])
  | .pick c a b => match c.ev e with | .c (.bool t) => some (if t then a.ev e else b.ev e, []) | _ => none
  | .alloc z => some (.c (.ptr n 0), .cells (inst z (n + 1)).1 true :: (inst z (n + 1)).2)
  | .box k x => if okCells (x.ev e) ∧ (x.ev e).cells.length = k then some (.c (.ptr n 0), [.cells (x.ev e).cells true]) else none
  | .build z ps => (fillAt e ps (inst z n).1).map fun cs => (.agg cs, (inst z n).2)
  | .mksl sz k z ps => if (inst (rep k z) (n + 1)).1.length = k * sz then
      (fillAt e ps (inst (rep k z) (n + 1)).1).map fun cs => (.c (.sl n 0 k sz), Blk.cells cs true :: (inst (rep k z) (n + 1)).2) else none
  | .mkslice sz z k cap => match k.ev e, cap.ev e with
    | .c (.int .i64 l), .c (.int .i64 c) => if 0 ≤ l ∧ l ≤ c ∧ c ≤ (maxRoom : Int) ∧ z.length = sz ∧ (inst z 0).2 = [] then
        some (.c (.sl n 0 l.toNat sz), [.cells (inst (rep l.toNat z) n).1 true]) else none
    | _, _ => none
  | .bin op x y => (binV op (x.ev e) (y.ev e)).map fun c => (.c c, [])
  | .eqv neg k x y => match x.ev e, y.ev e with
    | .agg xs, .agg ys => if conf k xs ∧ conf k ys then some (.c (.bool (if neg then !(decide (xs = ys)) else decide (xs = ys))), []) else none
    | _, _ => none
  | .eqb neg x y => match x.ev e, y.ev e with
    | .c (.bool a), .c (.bool b) => some (.c (.bool (if neg then !(a == b) else a == b)), [])
    | _, _ => none
  | .iserr neg x => match x.ev e with | .c (.err b) => some (.c (.bool (if neg then b else !b)), []) | _ => none
  | .un op x => (unV op (x.ev e)).map fun c => (.c c, [])
  | .conv k x => match x.ev e with | .c (.int _ m) => some (.c (.int k (k.wrap m)), []) | _ => none
  | .mkfn f caps => (capsOf e caps).map fun cs => (.c (.fn f cs), [])
  | .slS sz x lo hi => match x.ev e with
    | .c (.sl i o ln sz') => if sz = sz' then (bnd e hi ln ln).bind fun h => (bnd e lo 0 h).map fun l => (.c (.sl i (o + l * sz) (h - l) sz), []) else none
    | .c .nsl => (bnd e hi 0 0).bind fun h => (bnd e lo 0 h).map fun _ => (.c .nsl, [])
    | _ => none
  | .sl0 _ x => match x.ev e with | .c (.sl ..) => some (.c .nsl, []) | .c .nsl => some (.c .nsl, []) | _ => none
  | .slStr x lo hi => match x.ev e with
    | .c (.str s) => (bnd e hi s.length s.length).bind fun h => (bnd e lo 0 h).map fun l => (.c (.str ((s.take h).drop l)), [])
    | _ => none
  | .fld off x => match x.ev e with | .c (.ptr i o) => some (.c (.ptr i (o + off)), []) | _ => none
  | .fldV off k agg x => match x.ev e with | .agg xs => if off + k ≤ xs.length then some (mkV agg ((xs.drop off).take k), []) else none | _ => none
  | .ixA m sz x i => match x.ev e, i.ev e with
    | .c (.ptr b o), .c (.int _ j) => if 0 ≤ j ∧ j < (m : Int) then some (.c (.ptr b (o + j.toNat * sz)), []) else none
    | _, _ => none
  | .ixS sz x i => match x.ev e, i.ev e with
    | .c (.sl b o ln sz'), .c (.int _ j) => if sz = sz' ∧ 0 ≤ j ∧ j < (ln : Int) then some (.c (.ptr b (o + j.toNat * sz)), []) else none
    | _, _ => none
  | .ixStr x i => match x.ev e, i.ev e with
    | .c (.str s), .c (.int _ j) => if 0 ≤ j ∧ j < (s.length : Int) then some (.c (.int .u8 (s.getD j.toNat 0).toNat), []) else none
    | _, _ => none
  | .ixV m sz agg x i => match x.ev e, i.ev e with
    | .agg xs, .c (.int _ j) => if 0 ≤ j ∧ j < (m : Int) ∧ xs.length = m * sz then some (mkV agg ((xs.drop (j.toNat * sz)).take sz), []) else none
    | _, _ => none
  | .ext x i => match x.ev e with | .tup xs => (xs[i]?).map fun v => (v.up, []) | _ => none
  | .len x => match x.ev e with
    | .c (.sl _ _ ln _) => some (.c (.int .i64 ln), [])
    | .c .nsl => some (.c (.int .i64 0), [])
    | _ => none
  | .lenStr x => match x.ev e with
    | .c (.str s) => some (.c (.int .i64 s.length), [])
    | _ => none
  | .nn x => match x.ev e with | .c (.ptr i o) => some (.c (.ptr i o), []) | _ => none
  | .mnmx isMax xs => match xs with
    | [] => none
    | x :: r => match x.ev e with | .c (.int k a) => (mmL e isMax k a r).map fun c => (.c c, []) | _ => none

/-- operations that look at the heap -/
inductive HOp where
  | load (n : Nat) (agg : Bool) (a : Opd)
  | slA (n sz : Nat) (x : Opd) (lo hi : Option Opd)
  | store (n : Nat) (a x : Opd)
  | app (sz : Nat) (a b : Opd)
  | s2b (x : Opd)
  | b2s (x : Opd)
  | call (f : Opd) (args : List Opd)
  deriving Inhabited, DecidableEq
inductive AOp where
  | p (o : POp)
  | h (o : HOp)
  deriving Inhabited, DecidableEq
structure AOper where
  d : Option Nat
  g : Option (Nat × Bool)
  o : AOp
  deriving Inhabited, DecidableEq

abbrev Fns := Nat → List V → Heap → Option (V × Heap)
def readB (H : HF) (i o n : Nat) : Option (List C) :=
  match H i with
  | some (.cells cs _) => if o + n ≤ cs.length then some ((cs.drop o).take n) else none
  | _ => none
/-- a value, the new blocks (numbered from a given number on), the blocks that have become others -/
abbrev Out := V × List Blk × List (Nat × Blk)
def callA (F : Fns) (f : Nat) (args : List V) (H : HF) (base : Nat) : Option Out :=
  let L := reach H 64 (args.flatMap V.ids) []
  if closed L H ∧ inL L (args.flatMap V.ids) then
    (F f (args.map (V.mp (pos L))) (sub L H)).bind fun r =>
      if L.length ≤ r.2.length then
        some (r.1.mp (back L base), (r.2.drop L.length).map (Blk.mp (back L base)), L.zip ((r.2.take L.length).map (Blk.mp (back L base))))
      else none
  else none
/-- what is appended: how many elements, their cells -/
def appSrc (H : HF) (sz : Nat) : V → Option (Nat × List C)
  | .c (.sl i o ln sz') => if sz = sz' then (readB H i o (ln * sz)).bind fun cs => if noDead cs then some (ln, cs) else none else none
  | .c .nsl => some (0, [])
  | _ => none
def bytesC (s : List UInt8) : List C := s.map fun b => C.int .u8 b.toNat
def HOp.ev (F : Fns) (e : Env) (H : HF) (base : Nat) : HOp → Option Out
  | .load n agg a => match a.ev e with
    | .c (.ptr i o) => (readB H i o n).map fun cs => (mkV agg cs, [], [])
    | _ => none
  | .slA m sz x lo hi => match x.ev e with
    | .c (.ptr i o) => match readB H i o (m * sz) with
      | some _ => (bnd e hi m m).bind fun h' => (bnd e lo 0 h').map fun l => (.c (.sl i (o + l * sz) (h' - l) sz), [], [])
      | none => none
    | _ => none
  | .store n a x => match a.ev e with
    | .c (.ptr i o) => match H i with
      | some (.cells cs true) => if o + n ≤ cs.length ∧ (x.ev e).cells.length = n ∧ okCells (x.ev e) ∧ noDead (x.ev e).cells then some (.c .undef, [], [(i, .cells (setAt cs o (x.ev e).cells) true)]) else none
      | _ => none
    | _ => none
  | .app sz a b => (appSrc H sz (b.ev e)).bind fun q =>
    match a.ev e with
    | .c (.sl i o ln sz') => match H i with
      | some (.cells cs true) => if sz = sz' ∧ o + ln * sz ≤ cs.length ∧ ln + q.1 ≤ maxRoom then
          some (.c (.sl base 0 (ln + q.1) sz), [.cells ((cs.drop o).take (ln * sz) ++ q.2) true], [(i, .dead)]) else none
      | _ => none
    | .c .nsl => if q.1 ≤ maxRoom then some (.c (.sl base 0 q.1 sz), [.cells q.2 true], []) else none
    | _ => none
  | .s2b x => match x.ev e with
    | .c (.str s) => if s.length ≤ maxRoom then some (.c (.sl base 0 s.length 1), [.cells (bytesC s) true], []) else none
    | _ => none
  | .b2s x => match x.ev e with
    | .c (.sl i o ln 1) => (readB H i o ln).bind fun cs => if cs.all (fun c => match c with | .int .u8 n => decide (0 ≤ n ∧ n < 256) | _ => false) then
        some (.c (.str (cs.map fun c => match c with | .int _ n => UInt8.ofNat n.toNat | _ => 0)), [], []) else none
    | .c .nsl => some (.c (.str []), [], [])
    | _ => none
  | .call f args => match f.ev e with
    | .c (.fn g caps) => callA F g (args.map (Opd.ev e) ++ caps.map fun p => V.c (.ptr p.1 p.2)) H base
    | _ => none
def AOp.ev (F : Fns) (e : Env) (H : HF) (base : Nat) : AOp → Option Out
  | .p o => (o.ev e base).map fun r => (r.1, r.2, [])
  | .h o => o.ev F e H base
/-- is the operation carried out? none: not known -/
def wantedA (e : Env) : Option (Nat × Bool) → Option Bool
  | none => some true
  | some (s, b) => match get e s with
    | .c (.bool b') => some (b' == b)
    | .c .undef => some false
    | _ => none
def outA (F : Fns) (o : AOper) (e : Env) (H : HF) (base : Nat) : Option Out :=
  (wantedA e o.g).bind fun w => if w then o.o.ev F e H base else some (.c .undef, [], [])
def stepA (F : Fns) (o : AOper) (e : Env) (h : Heap) : Option (Env × Heap) :=
  (outA F o e (lkp h) h.length).map fun r => (put e o.d r.1, ups r.2.2 h ++ r.2.1)
def runOps (F : Fns) : List AOper → Env → Heap → Option (Env × Heap)
  | [], e, h => some (e, h)
  | o :: r, e, h => (stepA F o e h).bind fun s => runOps F r s.1 s.2
def AOp.isCall : AOp → Bool
  | .h (.call ..) => true
  | _ => false
/-- what is asked of an operation among those whose order is open: a call looks at blocks below n alone, and leaves them as they were; a slice is old or not empty -/
def stillA (n : Nat) (h : Heap) (us : List (Nat × Blk)) : Bool := us.all fun p => decide (p.1 < n) && decide (h[p.1]? = some p.2)
def smallSl (n : Nat) : V → Bool
  | .c (.sl i _ ln _) => decide (i < n) || decide (ln ≠ 0)
  | _ => true
def okD (n : Nat) (h : Heap) (e : Env) (us : List (Nat × Blk)) : AOp → Bool
  | .h (.call ..) => stillA n h us
  | .h (.app _ a b) => smallSl n (a.ev e) && smallSl n (b.ev e)
  | .h (.b2s x) => smallSl n (x.ev e)
  | _ => true
def stepD (F : Fns) (n : Nat) (o : AOper) (e : Env) (h : Heap) : Option (Env × Heap) :=
  (outA F o e (lkp h) h.length).bind fun r => if okD n h e r.2.2 o.o = true then some (put e o.d r.1, ups r.2.2 h ++ r.2.1) else none
def runOpsD (F : Fns) (n : Nat) : List AOper → Env → Heap → Option (Env × Heap)
  | [], e, h => some (e, h)
  | o :: r, e, h => (stepD F n o e h).bind fun s => runOpsD F n r s.1 s.2
def idOf : V → Option Nat
  | .c (.ptr i _) => some i
  | .c (.sl i _ _ _) => some i
  | _ => none
def apartA (e : Env) : List (Opd × Opd) → Bool
  | [] => true
  | (x, y) :: r => (match idOf (x.ev e), idOf (y.ev e) with | some i, some j => decide (i ≠ j) | _, _ => false) && apartA e r

inductive Ex where
  | norm
  | exit (id : Nat)
  | ret
  deriving DecidableEq, Inhabited
inductive ACode where
  | skip
  | region (ops : List AOper) (live : List Nat)
  | regionD (ops : List AOper) (live : List Nat) (ap : List (Opd × Opd))
  | seq (a b : ACode)
  | cond (c : Opd) (a b : ACode)
  | block (id : Nat) (a : ACode)
  | loop (a : ACode) (live : List Nat)
  | exit (id : Nat)
  | ret
  deriving Inhabited
abbrev R := Option (Ex × Env × Heap)
/-- the heap at a loop's head: what is live, and the first m blocks in their places -/
def gcL (m : Nat) (roots : List Nat) (h : Heap) : List Nat := reach (lkp h) 64 (roots ++ (h.take m).flatMap Blk.ids) (upto m)
def envIds (e : Env) : List Nat := e.flatMap fun p => p.2.ids
def gcE (m : Nat) (live : List Nat) (e : Env) (h : Heap) : Option (Env × Heap) :=
  let e1 := restrict e live
  let L := gcL m (envIds e1) h
  if closed L (lkp h) ∧ inL L (envIds e1) then some (e1.map fun p => (p.1, p.2.mp (pos L)), sub L (lkp h)) else none
def exS (F : Fns) (rec : ACode → Env → Heap → R) (m : Nat) : ACode → Env → Heap → R
  | .skip, e, h => some (.norm, e, h)
  | .region ops live, e, h => (runOps F ops e h).map fun s => (.norm, restrict s.1 live, s.2)
  | .regionD ops live ap, e, h => (runOpsD F h.length ops e h).bind fun s => if apartA s.1 ap then some (.norm, restrict s.1 live, s.2) else none
  | .seq a b, e, h => (exS F rec m a e h).bind fun
    | (.norm, e', h') => exS F rec m b e' h'
    | r => some r
  | .cond c a b, e, h => match c.ev e with
    | .c (.bool t) => if t then exS F rec m a e h else exS F rec m b e h
    | _ => none
  | .block id a, e, h => (exS F rec m a e h).map fun
    | (.exit i, e', h') => if i = id then (.norm, e', h') else (.exit i, e', h')
    | r => r
  | .loop a live, e, h => (gcE m live e h).bind fun s => (exS F rec m a s.1 s.2).bind fun
    | (.norm, e', h') => rec (.loop a live) e' h'
    | r => some r
  | .exit id, e, h => some (.exit id, e, h)
  | .ret, e, h => some (.ret, e, h)

inductive RV where
  | t (n : Nat)
  | cell (t n : Nat) (agg : Bool)
  deriving Inhabited, DecidableEq
structure AFn where
  np : Nat
  nt : Nat
  res : List RV
  body : ACode
def resV (e : Env) (h : Heap) : RV → Option V1
  | .t n => (get e n).down
  | .cell t n agg => match get e t with
    | .c (.ptr i o) => (readB (lkp h) i o n).bind fun cs => (mkV agg cs).down
    | _ => none
def resL (e : Env) (h : Heap) : List RV → Option (List V1)
  | [] => some []
  | r :: rs => (resV e h r).bind fun v => (resL e h rs).map (v :: ·)
def oneV : List V1 → V | [v] => v.up | vs => .tup vs
def leave (m : Nat) (rs : List RV) (e : Env) (h : Heap) : Option (V × Heap) :=
  (resL e h rs).bind fun vs =>
    let v := oneV vs
    let L := gcL m v.ids h
    if closed L (lkp h) ∧ inL L v.ids then some (v.mp (pos L), sub L (lkp h)) else none
def enter (args : List V) (k : Nat) : Env := match args with | [] => [] | v :: r => (k, v) :: enter r (k + 1)
abbrev Prog := Nat → Option AFn
/-- functions told by what they answer (library functions without a body of Go) -/
abbrev Prim := Nat → Option (List V → Heap → Option (V × Heap))
def fnOf (P : Prog) (Q : Prim) (ex : Nat → ACode → Env → Heap → R) (f : Nat) (args : List V) (h : Heap) : Option (V × Heap) :=
  match Q f with
  | some q => q args h
  | none => match P f with
    | none => none
    | some fn => if args.length = fn.np then (ex h.length fn.body (enter args 0) h).bind fun
        | (.exit _, _, _) => none
        | (_, e, h') => leave h.length fn.res e h'
      else none
def exN (P : Prog) (Q : Prim) : Nat → Nat → ACode → Env → Heap → R
  | 0, _, _, _, _ => none
  | n + 1, m, c, e, h => exS (fnOf P Q (exN P Q n)) (exN P Q n m) m c e h
def fnN (P : Prog) (Q : Prim) (n : Nat) : Nat → List V → Heap → Option (V × Heap) := fnOf P Q (exN P Q n)
end Go.Proofs.Ytenheijeahpbkaa.AM
