import Derived.WalkKit
import Derived.Lib.ItoaNum
import Derived.ChangeKeysEq
/-
  The abstract machine of this work: values whose addresses are block numbers, a heap that is a list of blocks, and an evaluator over a small
  code that is printed out of the loaded program. Definitions alone.
-/
namespace Go.Proofs.YtgpafbbnobanbaaGreatDoor.AM
open Go

/-- one cell -/
inductive C where
  | dead
  | undef
  | int (k : IntKind) (n : Int)
  | bool (b : Bool)
  | str (s : List UInt8)
  | ptr (id off : Nat)
  | sl (id off len sz : Nat)
  | nsl
  | fn (f : Nat) (caps : List (Nat × Nat))
  | map (id : Nat)
  | err (b : Bool)
  deriving Inhabited, DecidableEq
inductive V1 where
  | c (x : C)
  | agg (xs : List C)
  deriving Inhabited, DecidableEq
inductive V where
  | c (x : C)
  | agg (xs : List C)
  | tup (xs : List V1)
  deriving Inhabited, DecidableEq
inductive Blk where
  | cells (cs : List C) (own : Bool)
  | dead
  | map (es : List (List C × C))
  deriving Inhabited, DecidableEq
abbrev Heap := List Blk
abbrev Env := List (Nat × V)
def V1.up : V1 → V | .c x => .c x | .agg xs => .agg xs
def V.down : V → Option V1 | .c x => some (.c x) | .agg xs => some (.agg xs) | .tup _ => none
def V.cells : V → List C | .c x => [x] | .agg xs => xs | .tup _ => []
def okCells : V → Bool | .c .dead => false | .tup _ => false | _ => true
def mkV (agg : Bool) (xs : List C) : V := if agg then .agg xs else .c (xs.headD .dead)
def get : Env → Nat → V
  | [], _ => .c .dead
  | (i, v) :: r, t => if i = t then v else get r t
def put (e : Env) (d : Option Nat) (v : V) : Env := match d with | some d => (d, v) :: e | none => e
def restrict (e : Env) (live : List Nat) : Env := live.map fun t => (t, get e t)

/-! ### numbers of blocks: what a value names; renaming -/
def C.ids : C → List Nat
  | .ptr i _ => [i] | .sl i _ _ _ => [i] | .fn _ cs => cs.map (·.1) | .map i => [i] | _ => []
def cids : List C → List Nat | [] => [] | c :: r => c.ids ++ cids r
def V1.ids : V1 → List Nat | .c x => x.ids | .agg xs => cids xs
def V.ids : V → List Nat | .c x => x.ids | .agg xs => cids xs | .tup xs => xs.flatMap V1.ids
def Blk.ids : Blk → List Nat | .cells cs _ => cids cs | .dead => [] | .map es => es.flatMap fun e => e.2.ids
def C.mp (g : Nat → Nat) : C → C
  | .ptr i o => .ptr (g i) o
  | .sl i o n s => .sl (g i) o n s
  | .fn f cs => .fn f (cs.map fun p => (g p.1, p.2))
  | .map i => .map (g i)
  | x => x
def cmp (g : Nat → Nat) : List C → List C | [] => [] | c :: r => c.mp g :: cmp g r
def V1.mp (g : Nat → Nat) : V1 → V1 | .c x => .c (x.mp g) | .agg xs => .agg (cmp g xs)
def V.mp (g : Nat → Nat) : V → V | .c x => .c (x.mp g) | .agg xs => .agg (cmp g xs) | .tup xs => .tup (xs.map (V1.mp g))
def Blk.mp (g : Nat → Nat) : Blk → Blk
  | .cells cs o => .cells (cmp g cs) o
  | .dead => .dead
  | .map es => .map (es.map fun e => (e.1, e.2.mp g))
def pos : List Nat → Nat → Nat
  | [], _ => 0
  | a :: L, i => if a = i then 0 else pos L i + 1
/-- what is at a number -/
abbrev HF := Nat → Option Blk
def lkp (h : Heap) : HF := fun i => h[i]?
def idsAt (H : HF) (i : Nat) : List Nat := match H i with | some b => b.ids | none => []
def reach (H : HF) : Nat → List Nat → List Nat → List Nat
  | 0, _, seen => seen
  | _ + 1, [], seen => seen
  | n + 1, i :: todo, seen => if i ∈ seen then reach H n todo seen else reach H n (todo ++ idsAt H i) (seen ++ [i])
def upto : Nat → List Nat | 0 => [] | n + 1 => upto n ++ [n]
def sub (L : List Nat) (H : HF) : Heap := L.map fun i => ((H i).getD .dead).mp (pos L)
def inL (L : List Nat) (is : List Nat) : Bool := is.all fun j => decide (j ∈ L)
/-- all that the blocks of L name lies in L, and L's numbers are blocks -/
def closed (L : List Nat) (H : HF) : Bool := L.all fun i => (H i).isSome && inL L (idsAt H i)
def ups : List (Nat × Blk) → Heap → Heap
  | [], h => h
  | p :: r, h => ups r (h.set p.1 p.2)
def back (L : List Nat) (n : Nat) (j : Nat) : Nat := if j < L.length then L.getD j 0 else n + (j - L.length)

/-! ### operations -/
inductive Opd where
  | t (n : Nat)
  | k (v : V)
  | f (f : Nat)
  deriving Inhabited, DecidableEq
def Opd.ev (e : Env) : Opd → V
  | .t n => get e n
  | .k v => v
  | .f n => .c (.fn n [])
/-- a cell of a zero value -/
inductive Z where
  | k (c : C)
  | sl (sz : Nat)
  deriving Inhabited, DecidableEq
def inst : List Z → Nat → List C × List Blk
  | [], _ => ([], [])
  | .k c :: r, n => ((c :: (inst r n).1), (inst r n).2)
  | .sl sz :: r, n => ((.sl n 0 0 sz :: (inst r (n + 1)).1), .cells [] true :: (inst r (n + 1)).2)
def setAt (cs : List C) (i : Nat) : List C → List C
  | [] => cs
  | x :: r => setAt (cs.set i x) (i + 1) r
/-- parts laid over a zero: each at its place, of its size -/
def fillAt (e : Env) : List (Nat × Nat × Opd) → List C → Option (List C)
  | [], cs => some cs
  | (o, n, x) :: r, cs => if (x.ev e).cells.length = n ∧ o + n ≤ cs.length ∧ okCells (x.ev e) then fillAt e r (setAt cs o (x.ev e).cells) else none
def rep (n : Nat) (z : List Z) : List Z := match n with | 0 => [] | n + 1 => z ++ rep n z

def binI (op : BinOp) (k : IntKind) (x y : Int) : Option C :=
  match op with
  | .add => some (.int k (k.wrap (x + y)))
  | .sub => some (.int k (k.wrap (x - y)))
  | .mul => some (.int k (k.wrap (x * y)))
  | .quo => if y = 0 then none else some (.int k (k.wrap (x.tdiv y)))
  | .rem => if y = 0 then none else some (.int k (x.tmod y))
  | .and => some (.int k (k.wrap (BitVec.ofInt k.bits x &&& BitVec.ofInt k.bits y).toNat))
  | .eql => some (.bool (x == y))
  | .neq => some (.bool (x != y))
  | .lss => some (.bool (decide (x < y)))
  | .leq => some (.bool (decide (x ≤ y)))
  | .gtr => some (.bool (decide (x > y)))
  | .geq => some (.bool (decide (x ≥ y)))
  | _ => none
def binS (op : BinOp) (x y : List UInt8) : Option C :=
  match op with
  | .add => if x.length + y.length ≤ 9223372036854775807 then some (.str (x ++ y)) else none
  | .eql => some (.bool (x == y))
  | .neq => some (.bool (!(x == y)))
  | .lss => some (.bool (Op.bytesLess x y))
  | .leq => some (.bool (Op.bytesLess x y || x == y))
  | .gtr => some (.bool (!(Op.bytesLess x y || x == y)))
  | .geq => some (.bool (!Op.bytesLess x y))
  | _ => none
def binShift (op : BinOp) (k : IntKind) (x y : Int) : Option C :=
  if y < 0 then none else
  match op with
  | .shl => some (.int k (k.wrap (x * 2 ^ (min y.toNat k.bits))))
  | .shr => some (.int k (x.fdiv (2 ^ (min y.toNat k.bits))))
  | _ => none
def binV (op : BinOp) (x y : V) : Option C :=
  match x, y with
  | .c (.int k a), .c (.int k' b) => if op = .shl ∨ op = .shr then binShift op k a b else if k = k' then binI op k a b else none
  | .c (.str a), .c (.str b) => binS op a b
  | _, _ => none
def unV (op : UnOp) (x : V) : Option C :=
  match op, x with
  | .neg, .c (.int k n) => some (.int k (k.wrap (0 - n)))
  | .not, .c (.bool b) => some (.bool (!b))
  | _, _ => none
/-- a bound that is given: none: the other end -/
def bnd (e : Env) (x : Option Opd) (dflt : Nat) (lim : Nat) : Option Nat :=
  match x with
  | none => some dflt
  | some o => match o.ev e with
    | .c (.int _ n) => if 0 ≤ n ∧ n ≤ (lim : Int) then some n.toNat else none
    | _ => none

/-- the kind of a plain cell -/
inductive CK where | int (k : IntKind) | bool | str
  deriving DecidableEq, Inhabited
def conf1 : CK → C → Bool
  | .int k, .int k' _ => k == k'
  | .bool, .bool _ => true
  | .str, .str _ => true
  | _, _ => false
def conf : List CK → List C → Bool
  | [], [] => true
  | a :: x, b :: y => conf1 a b && conf x y
  | _, _ => false
/-- operations that do not look at the heap: they may make new blocks -/
inductive POp where
  | mv (x : Opd)
  | nilsl (sz : Nat)
  | pick (c a b : Opd)
  | alloc (z : List Z)
  | box (n : Nat) (x : Opd)
  | build (z : List Z) (parts : List (Nat × Nat × Opd))
  | mksl (sz len : Nat) (z : List Z) (parts : List (Nat × Nat × Opd))
  | mkslice (sz : Nat) (z : List Z) (len cap : Opd)
  | grow0 (sz : Nat) (z : List Z) (x n : Opd)
  | bin (op : BinOp) (x y : Opd)
  | eqv (neg : Bool) (ks : List CK) (x y : Opd)
  | eqb (neg : Bool) (x y : Opd)
  | iserr (neg : Bool) (x : Opd)
  | un (op : UnOp) (x : Opd)
  | conv (k : IntKind) (x : Opd)
  | mkfn (f : Nat) (caps : List Opd)
  | slS (sz : Nat) (x : Opd) (lo hi : Option Opd)
  | sl0 (sz : Nat) (x : Opd)
  | slStr (x : Opd) (lo hi : Option Opd)
  | fld (off : Nat) (x : Opd)
  | fldV (off n : Nat) (agg : Bool) (x : Opd)
  | ixA (n sz : Nat) (x i : Opd)
  | ixS (sz : Nat) (x i : Opd)
  | ixStr (x i : Opd)
  | ixV (n sz : Nat) (agg : Bool) (x i : Opd)
  | ext (x : Opd) (i : Nat)
  | len (x : Opd)
  | cap0 (x : Opd)
  | lenStr (x : Opd)
  | mnmx (isMax : Bool) (xs : List Opd)
  | nn (x : Opd)
  | bad
  deriving Inhabited, DecidableEq

def mmI (isMax : Bool) (a b : Int) : Int := if isMax then (if b > a then b else a) else (if b < a then b else a)
def mmL (e : Env) (isMax : Bool) (k : IntKind) (a : Int) : List Opd → Option C
  | [] => some (.int k a)
  | x :: r => match x.ev e with | .c (.int k' b) => if k = k' then mmL e isMax k (mmI isMax a b) r else none | _ => none
def capsOf (e : Env) : List Opd → Option (List (Nat × Nat))
  | [] => some []
  | x :: r => match x.ev e with | .c (.ptr i o) => (capsOf e r).map ((i, o) :: ·) | _ => none
def noDead : List C → Bool | [] => true | .dead :: _ => false | .undef :: _ => false | _ :: r => noDead r
def maxRoom : Nat := 68719476736
def isBool : C → Bool | .bool _ => true | _ => false

def POp.ev (e : Env) (n : Nat) : POp → Option (V × List Blk)
  | .mv x => some (x.ev e, [])
  | .nilsl sz => some (.c (.sl n 0 0 sz), [.cells [] true])
  | .pick c a b => match c.ev e with | .c (.bool t) => some (if t then a.ev e else b.ev e, []) | _ => none
  | .alloc z => some (.c (.ptr n 0), .cells (inst z (n + 1)).1 true :: (inst z (n + 1)).2)
  | .box k x => if okCells (x.ev e) ∧ (x.ev e).cells.length = k then some (.c (.ptr n 0), [.cells (x.ev e).cells true]) else none
  | .build z ps => (fillAt e ps (inst z n).1).map fun cs => (.agg cs, (inst z n).2)
  | .mksl sz k z ps => if (inst (rep k z) (n + 1)).1.length = k * sz then
      (fillAt e ps (inst (rep k z) (n + 1)).1).map fun cs => (.c (.sl n 0 k sz), Blk.cells cs true :: (inst (rep k z) (n + 1)).2) else none
  | .mkslice sz z k cap => match k.ev e, cap.ev e with
    | .c (.int .i64 l), .c (.int .i64 c) => if 0 ≤ l ∧ l ≤ c ∧ c ≤ (maxRoom : Int) ∧ z.length = sz ∧ (inst z 0).2 = [] then
        some (.c (.sl n 0 l.toNat sz), [.cells (inst (rep l.toNat z) n).1 true]) else none
    | _, _ => none
  | .grow0 sz z x k => match x.ev e, k.ev e with
    | .c .nsl, .c (.int .i64 l) => if 0 < l ∧ l ≤ (maxRoom : Int) ∧ 0 < sz ∧ z.length = sz ∧ (inst z 0).2 = [] then
        some (.c (.sl n 0 l.toNat sz), [.cells (inst (rep l.toNat z) n).1 true]) else none
    | _, _ => none
  | .bin op x y => (binV op (x.ev e) (y.ev e)).map fun c => (.c c, [])
  | .eqv neg k x y => match x.ev e, y.ev e with
    | .agg xs, .agg ys => if conf k xs ∧ conf k ys then some (.c (.bool (if neg then !(decide (xs = ys)) else decide (xs = ys))), []) else none
    | _, _ => none
  | .eqb neg x y => match x.ev e, y.ev e with
    | .c (.bool a), .c (.bool b) => some (.c (.bool (if neg then !(a == b) else a == b)), [])
    | _, _ => none
  | .iserr neg x => match x.ev e with | .c (.err b) => some (.c (.bool (if neg then b else !b)), []) | _ => none
  | .un op x => (unV op (x.ev e)).map fun c => (.c c, [])
  | .conv k x => match x.ev e with | .c (.int _ m) => some (.c (.int k (k.wrap m)), []) | _ => none
  | .mkfn f caps => (capsOf e caps).map fun cs => (.c (.fn f cs), [])
  | .slS sz x lo hi => match x.ev e with
    | .c (.sl i o ln sz') => if sz = sz' then (bnd e hi ln ln).bind fun h => (bnd e lo 0 h).map fun l => (.c (.sl i (o + l * sz) (h - l) sz), []) else none
    | .c .nsl => (bnd e hi 0 0).bind fun h => (bnd e lo 0 h).map fun _ => (.c .nsl, [])
    | _ => none
  | .sl0 _ x => match x.ev e with | .c (.sl ..) => some (.c .nsl, []) | .c .nsl => some (.c .nsl, []) | _ => none
  | .slStr x lo hi => match x.ev e with
    | .c (.str s) => (bnd e hi s.length s.length).bind fun h => (bnd e lo 0 h).map fun l => (.c (.str ((s.take h).drop l)), [])
    | _ => none
  | .fld off x => match x.ev e with | .c (.ptr i o) => some (.c (.ptr i (o + off)), []) | _ => none
  | .fldV off k agg x => match x.ev e with | .agg xs => if off + k ≤ xs.length then some (mkV agg ((xs.drop off).take k), []) else none | _ => none
  | .ixA m sz x i => match x.ev e, i.ev e with
    | .c (.ptr b o), .c (.int _ j) => if 0 ≤ j ∧ j < (m : Int) then some (.c (.ptr b (o + j.toNat * sz)), []) else none
    | _, _ => none
  | .ixS sz x i => match x.ev e, i.ev e with
    | .c (.sl b o ln sz'), .c (.int _ j) => if sz = sz' ∧ 0 ≤ j ∧ j < (ln : Int) then some (.c (.ptr b (o + j.toNat * sz)), []) else none
    | _, _ => none
  | .ixStr x i => match x.ev e, i.ev e with
    | .c (.str s), .c (.int _ j) => if 0 ≤ j ∧ j < (s.length : Int) then some (.c (.int .u8 (s.getD j.toNat 0).toNat), []) else none
    | _, _ => none
  | .ixV m sz agg x i => match x.ev e, i.ev e with
    | .agg xs, .c (.int _ j) => if 0 ≤ j ∧ j < (m : Int) ∧ xs.length = m * sz then some (mkV agg ((xs.drop (j.toNat * sz)).take sz), []) else none
    | _, _ => none
  | .ext x i => match x.ev e with | .tup xs => (xs[i]?).map fun v => (v.up, []) | _ => none
  | .len x => match x.ev e with
    | .c (.sl _ _ ln _) => some (.c (.int .i64 ln), [])
    | .c .nsl => some (.c (.int .i64 0), [])
    | _ => none
  | .cap0 x => match x.ev e with
    | .c .nsl => some (.c (.int .i64 0), [])
    | _ => none
  | .lenStr x => match x.ev e with
    | .c (.str s) => some (.c (.int .i64 s.length), [])
    | _ => none
  | .nn x => match x.ev e with | .c (.ptr i o) => some (.c (.ptr i o), []) | _ => none
  | .bad => none
  | .mnmx isMax xs => match xs with
    | [] => none
    | x :: r => match x.ev e with | .c (.int k a) => (mmL e isMax k a r).map fun c => (.c c, []) | _ => none

/-- operations that look at the heap -/
inductive HOp where
  | load (n : Nat) (agg : Bool) (a : Opd)
  | slA (n sz : Nat) (x : Opd) (lo hi : Option Opd)
  | store (n : Nat) (a x : Opd)
  | app (sz : Nat) (a b : Opd)
  | clr (sz : Nat) (z : List Z) (x : Opd)
  | s2b (x : Opd)
  | b2s (x : Opd)
  | mnew
  | mget (z : C) (ok : Bool) (m k : Opd)
  | mset (m k x : Opd)
  | mlen (m : Opd)
  | call (f : Opd) (args : List Opd)
  deriving Inhabited, DecidableEq
inductive AOp where
  | p (o : POp)
  | h (o : HOp)
  deriving Inhabited, DecidableEq
structure AOper where
  d : Option Nat
  g : Option (Nat × Bool)
  o : AOp
  deriving Inhabited, DecidableEq

abbrev Fns := Nat → List V → Heap → Option (V × Heap)
def readB (H : HF) (i o n : Nat) : Option (List C) :=
  match H i with
  | some (.cells cs _) => if o + n ≤ cs.length then some ((cs.drop o).take n) else none
  | _ => none
/-- a value, the new blocks (numbered from a given number on), the blocks that have become others -/
abbrev Out := V × List Blk × List (Nat × Blk)
def callA (F : Fns) (f : Nat) (args : List V) (H : HF) (base : Nat) : Option Out :=
  let L := reach H 64 (args.flatMap V.ids) []
  if closed L H ∧ inL L (args.flatMap V.ids) then
    (F f (args.map (V.mp (pos L))) (sub L H)).bind fun r =>
      if L.length ≤ r.2.length then
        some (r.1.mp (back L base), (r.2.drop L.length).map (Blk.mp (back L base)), L.zip ((r.2.take L.length).map (Blk.mp (back L base))))
      else none
  else none
/-- what is appended: how many elements, their cells -/
def appSrc (H : HF) (sz : Nat) : V → Option (Nat × List C)
  | .c (.sl i o ln sz') => if sz = sz' then (readB H i o (ln * sz)).bind fun cs => if noDead cs then some (ln, cs) else none else none
  | .c .nsl => some (0, [])
  | _ => none
/-- the key of a map: 24 ints -/
def keyI : C → Bool
  | .int .i64 n => decide (-9223372036854775808 ≤ n ∧ n < 9223372036854775808)
  | _ => false
def keyC (cs : List C) : Bool := decide (cs.length = 24) && cs.all keyI
/-- the keys of a map: keys, and different ones -/
def mapK (es : List (List C × C)) : Bool := (es.all fun p => keyC p.1) && decide ((es.map (·.1)).Nodup)
def findK (k : List C) : List (List C × C) → Option C
  | [] => none
  | p :: r => if p.1 = k then some p.2 else findK k r
def setK (k : List C) (x : C) : List (List C × C) → List (List C × C)
  | [] => [(k, x)]
  | p :: r => if p.1 = k then (p.1, x) :: r else p :: setK k x r
def bytesC (s : List UInt8) : List C := s.map fun b => C.int .u8 b.toNat
def HOp.ev (F : Fns) (e : Env) (H : HF) (base : Nat) : HOp → Option Out
  | .load n agg a => match a.ev e with
    | .c (.ptr i o) => (readB H i o n).map fun cs => (mkV agg cs, [], [])
    | _ => none
  | .slA m sz x lo hi => match x.ev e with
    | .c (.ptr i o) => match readB H i o (m * sz) with
      | some _ => (bnd e hi m m).bind fun h' => (bnd e lo 0 h').map fun l => (.c (.sl i (o + l * sz) (h' - l) sz), [], [])
      | none => none
    | _ => none
  | .store n a x => match a.ev e with
    | .c (.ptr i o) => match H i with
      | some (.cells cs true) => if o + n ≤ cs.length ∧ (x.ev e).cells.length = n ∧ okCells (x.ev e) ∧ noDead (x.ev e).cells then some (.c .undef, [], [(i, .cells (setAt cs o (x.ev e).cells) true)]) else none
      | _ => none
    | _ => none
  | .app sz a b => (appSrc H sz (b.ev e)).bind fun q =>
    match a.ev e with
    | .c (.sl i o ln sz') => match H i with
      | some (.cells cs true) => if sz = sz' ∧ o + ln * sz ≤ cs.length ∧ ln + q.1 ≤ maxRoom then
          some (.c (.sl base 0 (ln + q.1) sz), [.cells ((cs.drop o).take (ln * sz) ++ q.2) true], [(i, .dead)]) else none
      | _ => none
    | .c .nsl => if q.1 ≤ maxRoom then some (.c (.sl base 0 q.1 sz), [.cells q.2 true], []) else none
    | _ => none
  | .clr sz z x => match x.ev e with
    | .c (.sl i o ln sz') => match H i with
      | some (.cells cs true) => if sz = sz' ∧ o + ln * sz ≤ cs.length ∧ noDead (inst (rep ln z) 0).1 = true then
          some (.c .undef, [], [(i, .cells (setAt cs o (inst (rep ln z) 0).1) true)]) else none
      | _ => none
    | .c .nsl => some (.c .undef, [], [])
    | _ => none
  | .s2b x => match x.ev e with
    | .c (.str s) => if s.length ≤ maxRoom then some (.c (.sl base 0 s.length 1), [.cells (bytesC s) true], []) else none
    | _ => none
  | .b2s x => match x.ev e with
    | .c (.sl i o ln 1) => (readB H i o ln).bind fun cs => if cs.all (fun c => match c with | .int .u8 n => decide (0 ≤ n ∧ n < 256) | _ => false) then
        some (.c (.str (cs.map fun c => match c with | .int _ n => UInt8.ofNat n.toNat | _ => 0)), [], []) else none
    | .c .nsl => some (.c (.str []), [], [])
    | _ => none
  | .mnew => some (.c (.map base), [.map []], [])
  | .mget z ok m k => match m.ev e, k.ev e with
    | .c (.map i), .agg cs => match H i with
      | some (.map es) => if keyC cs = true ∧ mapK es = true then
          some (if ok then .tup [.c ((findK cs es).getD z), .c (.bool (findK cs es).isSome)] else .c ((findK cs es).getD z), [], []) else none
      | _ => none
    | _, _ => none
  | .mset m k x => match m.ev e, k.ev e, x.ev e with
    | .c (.map i), .agg cs, .c (.int kd n) => match H i with
      | some (.map es) => if keyC cs = true ∧ mapK es = true then some (.c .undef, [], [(i, .map (setK cs (.int kd n) es))]) else none
      | _ => none
    | _, _, _ => none
  | .mlen m => match m.ev e with
    | .c (.map i) => match H i with
      | some (.map es) => some (.c (.int .i64 es.length), [], [])
      | _ => none
    | _ => none
  | .call f args => match f.ev e with
    | .c (.fn g caps) => callA F g (args.map (Opd.ev e) ++ caps.map fun p => V.c (.ptr p.1 p.2)) H base
    | _ => none
def AOp.ev (F : Fns) (e : Env) (H : HF) (base : Nat) : AOp → Option Out
  | .p o => (o.ev e base).map fun r => (r.1, r.2, [])
  | .h o => o.ev F e H base
/-- is the operation carried out? none: not known -/
def wantedA (e : Env) : Option (Nat × Bool) → Option Bool
  | none => some true
  | some (s, b) => match get e s with
    | .c (.bool b') => some (b' == b)
    | .c .undef => some false
    | _ => none
def outA (F : Fns) (o : AOper) (e : Env) (H : HF) (base : Nat) : Option Out :=
  (wantedA e o.g).bind fun w => if w then o.o.ev F e H base else some (.c .undef, [], [])
def stepA (F : Fns) (o : AOper) (e : Env) (h : Heap) : Option (Env × Heap) :=
  (outA F o e (lkp h) h.length).map fun r => (put e o.d r.1, ups r.2.2 h ++ r.2.1)
def runOps (F : Fns) : List AOper → Env → Heap → Option (Env × Heap)
  | [], e, h => some (e, h)
  | o :: r, e, h => (stepA F o e h).bind fun s => runOps F r s.1 s.2
def AOp.isCall : AOp → Bool
  | .h (.call ..) => true
  | _ => false
/-- what is asked of an operation among those whose order is open: a call looks at blocks below n alone, and leaves them as they were; a slice is old or not empty -/
def stillA (n : Nat) (h : Heap) (us : List (Nat × Blk)) : Bool := us.all fun p => decide (p.1 < n) && decide (h[p.1]? = some p.2)
def smallSl (n : Nat) : V → Bool
  | .c (.sl i _ ln _) => decide (i < n) || decide (ln ≠ 0)
  | _ => true
def okD (n : Nat) (h : Heap) (e : Env) (us : List (Nat × Blk)) : AOp → Bool
  | .h (.call ..) => stillA n h us
  | .h (.app _ a b) => smallSl n (a.ev e) && smallSl n (b.ev e)
  | .h (.clr _ _ x) => smallSl n (x.ev e)
  | .h (.b2s x) => smallSl n (x.ev e)
  | _ => true
def stepD (F : Fns) (n : Nat) (o : AOper) (e : Env) (h : Heap) : Option (Env × Heap) :=
  (outA F o e (lkp h) h.length).bind fun r => if okD n h e r.2.2 o.o = true then some (put e o.d r.1, ups r.2.2 h ++ r.2.1) else none
def runOpsD (F : Fns) (n : Nat) : List AOper → Env → Heap → Option (Env × Heap)
  | [], e, h => some (e, h)
  | o :: r, e, h => (stepD F n o e h).bind fun s => runOpsD F n r s.1 s.2
/-- the same where a call may also look at blocks that operations ahead of it have made: as, the operations that must have been carried out; bs, what each has made; a call whose own number lies in as may write -/
def madeA (as : List Nat) (bs : List (Nat × Nat)) (b : Nat) : Bool := as.any fun k => match bs[k]? with | some p => decide (p.1 ≤ b) && decide (b < p.2) | none => false
def stillE (n : Nat) (as : List Nat) (bs : List (Nat × Nat)) (h : Heap) (us : List (Nat × Blk)) : Bool := us.all fun p => (decide (p.1 < n) || madeA as bs p.1) && (as.contains bs.length || decide (h[p.1]? = some p.2))
def smallE (n : Nat) (as : List Nat) (bs : List (Nat × Nat)) : V → Bool
  | .c (.sl i _ ln _) => decide (i < n) || decide (ln ≠ 0) || madeA as bs i
  | _ => true
def idOf : V → Option Nat
  | .c (.ptr i _) => some i
  | .c (.sl i _ _ _) => some i
  | .c (.map i) => some i
  | _ => none
/-- a call that may write: what it touches is none of the blocks that the operands named in as (1000000 and their slot) lead to -/
def farE (as : List Nat) (e : Env) (us : List (Nat × Blk)) : Bool := us.all fun p => as.all fun j => decide (j < 1000000) || decide (idOf (get e (j - 1000000)) ≠ some p.1)
def okE (n : Nat) (as : List Nat) (bs : List (Nat × Nat)) (h : Heap) (e : Env) (us : List (Nat × Blk)) : AOp → Bool
  | .h (.call ..) => stillE n as bs h us && farE as e us
  | .h (.app _ a b) => smallE n as bs (a.ev e) && smallE n as bs (b.ev e)
  | .h (.clr _ _ x) => smallE n as bs (x.ev e)
  | .h (.b2s x) => smallE n as bs (x.ev e)
  | _ => true
def stepE (F : Fns) (n : Nat) (as : List Nat) (bs : List (Nat × Nat)) (o : AOper) (e : Env) (h : Heap) : Option (Env × Heap) :=
  (outA F o e (lkp h) h.length).bind fun r => if okE n as bs h e r.2.2 o.o = true then some (put e o.d r.1, ups r.2.2 h ++ r.2.1) else none
def runOpsE (F : Fns) (n : Nat) : List AOper → List (List Nat) → List (Nat × Nat) → Env → Heap → Option (Env × Heap)
  | [], _, _, e, h => some (e, h)
  | o :: r, ms, bs, e, h => (stepE F n (ms.headD []) bs o e h).bind fun s => runOpsE F n r ms.tail (bs ++ [(h.length, s.2.length)]) s.1 s.2
def apartA (e : Env) : List (Opd × Opd) → Bool
  | [] => true
  | (x, y) :: r => (match idOf (x.ev e), idOf (y.ev e) with | some i, some j => decide (i ≠ j) | _, _ => true) && apartA e r

inductive Ex where
  | norm
  | exit (id : Nat)
  | ret
  deriving DecidableEq, Inhabited
inductive ACode where
  | skip
  | region (ops : List AOper) (live : List Nat)
  | regionD (ops : List AOper) (live : List Nat) (ap : List (Opd × Opd))
  | regionE (ops : List AOper) (live : List Nat) (ap : List (Opd × Opd)) (ms : List (List Nat))
  | seq (a b : ACode)
  | cond (c : Opd) (a b : ACode)
  | block (id : Nat) (a : ACode)
  | loop (a : ACode) (live : List Nat)
  | exit (id : Nat)
  | ret
  deriving Inhabited
abbrev R := Option (Ex × Env × Heap)
/-- the heap at a loop's head: what is live, and the first m blocks in their places -/
def gcL (m : Nat) (roots : List Nat) (h : Heap) : List Nat := reach (lkp h) 64 (roots ++ (h.take m).flatMap Blk.ids) (upto m)
def envIds (e : Env) : List Nat := e.flatMap fun p => p.2.ids
def gcE (m : Nat) (live : List Nat) (e : Env) (h : Heap) : Option (Env × Heap) :=
  let e1 := restrict e live
  let L := gcL m (envIds e1) h
  if closed L (lkp h) ∧ inL L (envIds e1) then some (e1.map fun p => (p.1, p.2.mp (pos L)), sub L (lkp h)) else none
def exS (F : Fns) (rec : ACode → Env → Heap → R) (m : Nat) : ACode → Env → Heap → R
  | .skip, e, h => some (.norm, e, h)
  | .region ops live, e, h => (runOps F ops e h).map fun s => (.norm, restrict s.1 live, s.2)
  | .regionD ops live ap, e, h => (runOpsD F h.length ops e h).bind fun s => if apartA s.1 ap then some (.norm, restrict s.1 live, s.2) else none
  | .regionE ops live ap ms, e, h => (runOpsE F h.length ops ms [] e h).bind fun s => if apartA s.1 ap then some (.norm, restrict s.1 live, s.2) else none
  | .seq a b, e, h => (exS F rec m a e h).bind fun
    | (.norm, e', h') => exS F rec m b e' h'
    | r => some r
  | .cond c a b, e, h => match c.ev e with
    | .c (.bool t) => if t then exS F rec m a e h else exS F rec m b e h
    | _ => none
  | .block id a, e, h => (exS F rec m a e h).map fun
    | (.exit i, e', h') => if i = id then (.norm, e', h') else (.exit i, e', h')
    | r => r
  | .loop a live, e, h => (gcE m live e h).bind fun s => (exS F rec m a s.1 s.2).bind fun
    | (.norm, e', h') => rec (.loop a live) e' h'
    | r => some r
  | .exit id, e, h => some (.exit id, e, h)
  | .ret, e, h => some (.ret, e, h)

inductive RV where
  | t (n : Nat)
  | cell (t n : Nat) (agg : Bool)
  deriving Inhabited, DecidableEq
structure AFn where
  np : Nat
  nt : Nat
  res : List RV
  body : ACode
def resV (e : Env) (h : Heap) : RV → Option V1
  | .t n => (get e n).down
  | .cell t n agg => match get e t with
    | .c (.ptr i o) => (readB (lkp h) i o n).bind fun cs => (mkV agg cs).down
    | _ => none
def resL (e : Env) (h : Heap) : List RV → Option (List V1)
  | [] => some []
  | r :: rs => (resV e h r).bind fun v => (resL e h rs).map (v :: ·)
def oneV : List V1 → V | [v] => v.up | vs => .tup vs
def leave (m : Nat) (rs : List RV) (e : Env) (h : Heap) : Option (V × Heap) :=
  (resL e h rs).bind fun vs =>
    let v := oneV vs
    let L := gcL m v.ids h
    if closed L (lkp h) ∧ inL L v.ids then some (v.mp (pos L), sub L (lkp h)) else none
def enter (args : List V) (k : Nat) : Env := match args with | [] => [] | v :: r => (k, v) :: enter r (k + 1)
abbrev Prog := Nat → Option AFn
/-- functions told by what they answer (library functions without a body of Go) -/
abbrev Prim := Nat → Option (List V → Heap → Option (V × Heap))
def fnOf (P : Prog) (Q : Prim) (ex : Nat → ACode → Env → Heap → R) (f : Nat) (args : List V) (h : Heap) : Option (V × Heap) :=
  match Q f with
  | some q => q args h
  | none => match P f with
    | none => none
    | some fn => if args.length = fn.np then (ex h.length fn.body (enter args 0) h).bind fun
        | (.exit _, _, _) => none
        | (_, e, h') => leave h.length fn.res e h'
      else none
def exN (P : Prog) (Q : Prim) : Nat → Nat → ACode → Env → Heap → R
  | 0, _, _, _, _ => none
  | n + 1, m, c, e, h => exS (fnOf P Q (exN P Q n)) (exN P Q n m) m c e h
def fnN (P : Prog) (Q : Prim) (n : Nat) : Nat → List V → Heap → Option (V × Heap) := fnOf P Q (exN P Q n)
end Go.Proofs.YtgpafbbnobanbaaGreatDoor.AM

/-
  What the abstract machine's values and heaps say of the model's world: the relation, and its small laws.
-/
namespace Go.Proofs.YtgpafbbnobanbaaGreatDoor.AM
open Go

def All2 {α β : Type} (r : α → β → Prop) : List α → List β → Prop
  | [], [] => True
  | a :: x, b :: y => r a b ∧ All2 r x y
  | _, _ => False
section
variable {α β : Type} {r : α → β → Prop}
theorem All2.length {x : List α} {y : List β} (h : All2 r x y) : x.length = y.length := by
  induction x generalizing y with
  | nil => cases y with
    | nil => rfl
    | cons => exact h.elim
  | cons a x ih => cases y with
    | nil => exact h.elim
    | cons b y => simp [ih h.2]
theorem All2.get {x : List α} {y : List β} (h : All2 r x y) {i : Nat} {a : α} (ha : x[i]? = some a) : ∃ b, y[i]? = some b ∧ r a b := by
  induction x generalizing y i with
  | nil => simp at ha
  | cons a' x ih => cases y with
    | nil => exact h.elim
    | cons b y =>
      cases i with
      | zero => simp at ha; subst ha; exact ⟨b, by simp, h.1⟩
      | succ i => simpa using ih h.2 (by simpa using ha)
theorem All2.of_get {x : List α} {y : List β} (hl : x.length = y.length) (h : ∀ (i : Nat) (a : α), x[i]? = some a → ∃ b, y[i]? = some b ∧ r a b) : All2 r x y := by
  induction x generalizing y with
  | nil => cases y with
    | nil => trivial
    | cons => simp at hl
  | cons a x ih => cases y with
    | nil => simp at hl
    | cons b y =>
      refine ⟨?_, ih (by simpa using hl) fun i a' ha => ?_⟩
      · obtain ⟨b', hb, hr⟩ := h 0 a (by simp)
        simp at hb; subst hb; exact hr
      · obtain ⟨b', hb, hr⟩ := h (i + 1) a' (by simpa using ha)
        exact ⟨b', by simpa using hb, hr⟩
theorem All2.append {x x' : List α} {y y' : List β} (h : All2 r x y) (h' : All2 r x' y') : All2 r (x ++ x') (y ++ y') := by
  induction x generalizing y with
  | nil => cases y with
    | nil => exact h'
    | cons => exact h.elim
  | cons a x ih => cases y with
    | nil => exact h.elim
    | cons b y => exact ⟨h.1, ih h.2⟩
theorem All2.take {x : List α} {y : List β} (h : All2 r x y) (n : Nat) : All2 r (x.take n) (y.take n) := by
  induction n generalizing x y with
  | zero => trivial
  | succ n ih => cases x with
    | nil => cases y with
      | nil => trivial
      | cons => exact h.elim
    | cons a x => cases y with
      | nil => exact h.elim
      | cons b y => exact ⟨h.1, ih h.2⟩
theorem All2.drop {x : List α} {y : List β} (h : All2 r x y) (n : Nat) : All2 r (x.drop n) (y.drop n) := by
  induction n generalizing x y with
  | zero => exact h
  | succ n ih => cases x with
    | nil => cases y with
      | nil => trivial
      | cons => exact h.elim
    | cons a x => cases y with
      | nil => exact h.elim
      | cons b y => exact ih h.2
theorem All2.set {x : List α} {y : List β} (h : All2 r x y) {a : α} {b : β} (hab : r a b) (n : Nat) : All2 r (x.set n a) (y.set n b) := by
  induction n generalizing x y with
  | zero => cases x with
    | nil => cases y with
      | nil => trivial
      | cons => exact h.elim
    | cons a x => cases y with
      | nil => exact h.elim
      | cons b y => exact ⟨hab, h.2⟩
  | succ n ih => cases x with
    | nil => cases y with
      | nil => trivial
      | cons => exact h.elim
    | cons a x => cases y with
      | nil => exact h.elim
      | cons b y => exact ⟨h.1, ih h.2⟩
theorem All2.imp {r' : α → β → Prop} {x : List α} {y : List β} (h : All2 r x y) (f : ∀ a ∈ x, ∀ b, r a b → r' a b) : All2 r' x y := by
  induction x generalizing y with
  | nil => cases y with
    | nil => trivial
    | cons => exact h.elim
  | cons a x ih => cases y with
    | nil => exact h.elim
    | cons b y => exact ⟨f a (by simp) b h.1, ih h.2 fun a ha => f a (by simp [ha])⟩
theorem All2.map_left {γ : Type} {r' : γ → β → Prop} {x : List α} {y : List β} (g : α → γ) (h : All2 r x y) (f : ∀ a ∈ x, ∀ b, r a b → r' (g a) b) : All2 r' (x.map g) y := by
  induction x generalizing y with
  | nil => cases y with
    | nil => trivial
    | cons => exact h.elim
  | cons a x ih => cases y with
    | nil => exact h.elim
    | cons b y => exact ⟨f a (by simp) b h.1, ih h.2 fun a ha => f a (by simp [ha])⟩
end

/-- where a block of the abstract heap lies: its real block, the place of its first cell, and how many cells are its own from there on -/
structure Pl where
  b : Nat
  o : Nat
  tot : Nat
abbrev Phi := Nat → Option Pl
def ptrV (p : Pl) (off : Nat) : Value := .pointer (some ⟨p.b, p.o + off, none⟩)
def PR (φ : Phi) (c : Nat × Nat) (x : Value) : Prop := ∃ p, φ c.1 = some p ∧ x = ptrV p c.2
def VRc (φ : Phi) : C → Value → Prop
  | .dead, _ => True
  | .undef, v => v = Go.undef
  | .int k n, v => v = .int k n
  | .bool b, v => v = .bool b
  | .str s, v => v = .string ⟨s.toArray⟩
  | .ptr i o, v => PR φ (i, o) v
  | .sl i o n sz, v => (n = 0 ∧ ∃ a, v = .slice a 0 0) ∨ ∃ p cap, φ i = some p ∧ v = .slice (some ⟨p.b, p.o + o, none⟩) n cap ∧ n ≤ cap ∧ cap ≤ maxLen ∧ o + cap * sz ≤ p.tot
  | .nsl, v => ∃ a, v = .slice a 0 0
  | .fn f cs, v => ∃ vs : List Value, v = .func (.func f) #[] vs.toArray ∧ All2 (PR φ) cs vs
  | .map i, v => ∃ p, φ i = some p ∧ p.o = 0 ∧ v = .map (some p.b)
  | .err b, v => if b then ∃ t x, v = .iface t x else v = .nilIface
def VR1 (φ : Phi) : V1 → Value → Prop
  | .c x, v => VRc φ x v
  | .agg xs, v => ∃ vs : List Value, v = .agg vs.toArray ∧ All2 (VRc φ) xs vs
def VR (φ : Phi) : V → Value → Prop
  | .c x, v => VRc φ x v
  | .agg xs, v => ∃ vs : List Value, v = .agg vs.toArray ∧ All2 (VRc φ) xs vs
  | .tup xs, v => ∃ vs : List Value, v = .tuple vs.toArray ∧ All2 (VR1 φ) xs vs
theorem VR1.up {φ : Phi} {x : V1} {v : Value} : VR φ x.up v ↔ VR1 φ x v := by cases x <;> rfl

theorem mem_cids {xs : List C} {i : Nat} : i ∈ cids xs ↔ ∃ c ∈ xs, i ∈ c.ids := by
  induction xs with
  | nil => simp [cids]
  | cons c r ih => simp [cids, ih]
theorem cmp_eq (g : Nat → Nat) (xs : List C) : cmp g xs = xs.map (C.mp g) := by
  induction xs with
  | nil => rfl
  | cons c r ih => simp [cmp, ih]

/-- a renaming that keeps places -/
def Keeps (φ φ' : Phi) (g : Nat → Nat) (is : List Nat) : Prop := ∀ i ∈ is, ∀ p, φ i = some p → φ' (g i) = some p
theorem PR.mp {φ φ' : Phi} {g : Nat → Nat} {c : Nat × Nat} {v : Value} (h : PR φ c v) (hk : ∀ p, φ c.1 = some p → φ' (g c.1) = some p) : PR φ' (g c.1, c.2) v :=
  let ⟨p, hp, hv⟩ := h; ⟨p, hk p hp, hv⟩
theorem VRc.mp {φ φ' : Phi} {g : Nat → Nat} {c : C} {v : Value} (h : VRc φ c v) (hk : Keeps φ φ' g c.ids) : VRc φ' (c.mp g) v := by
  cases c with
  | ptr i o => exact PR.mp h (hk i (by simp [C.ids]))
  | sl i o n sz =>
    rcases h with h | ⟨p, cap, hp, r⟩
    · exact .inl h
    · exact .inr ⟨p, cap, hk i (by simp [C.ids]) p hp, r⟩
  | fn f cs =>
    obtain ⟨vs, hv, ha⟩ := h
    refine ⟨vs, hv, ha.map_left _ fun c hc v hr => PR.mp hr (hk c.1 ?_)⟩
    simp only [C.ids, List.mem_map]; exact ⟨c, hc, rfl⟩
  | map i => obtain ⟨p, hp, r⟩ := h; exact ⟨p, hk i (by simp [C.ids]) p hp, r⟩
  | _ => exact h
theorem All2_mp {φ φ' : Phi} {g : Nat → Nat} {xs : List C} {vs : List Value} (h : All2 (VRc φ) xs vs) (hk : Keeps φ φ' g (cids xs)) : All2 (VRc φ') (cmp g xs) vs := by
  rw [cmp_eq]
  exact h.map_left _ fun c hc v hr => hr.mp fun i hi => hk i (mem_cids.2 ⟨c, hc, hi⟩)
theorem VR1.mp {φ φ' : Phi} {g : Nat → Nat} {x : V1} {v : Value} (h : VR1 φ x v) (hk : Keeps φ φ' g x.ids) : VR1 φ' (x.mp g) v := by
  cases x with
  | c x => exact VRc.mp h hk
  | agg xs => obtain ⟨vs, hv, ha⟩ := h; exact ⟨vs, hv, All2_mp ha hk⟩
theorem VR.mp {φ φ' : Phi} {g : Nat → Nat} {x : V} {v : Value} (h : VR φ x v) (hk : Keeps φ φ' g x.ids) : VR φ' (x.mp g) v := by
  cases x with
  | c x => exact VRc.mp h hk
  | agg xs => obtain ⟨vs, hv, ha⟩ := h; exact ⟨vs, hv, All2_mp ha hk⟩
  | tup xs =>
    obtain ⟨vs, hv, ha⟩ := h
    exact ⟨vs, hv, ha.map_left _ fun c hc v hr => VR1.mp hr fun i hi => hk i (by simp only [V.ids, List.mem_flatMap]; exact ⟨c, hc, hi⟩)⟩
def Le (φ φ' : Phi) : Prop := ∀ i p, φ i = some p → φ' i = some p
theorem Le.refl (φ : Phi) : Le φ φ := fun _ _ h => h
theorem Le.trans {a b c : Phi} (h : Le a b) (k : Le b c) : Le a c := fun i p hp => k i p (h i p hp)
theorem C.mp_id (c : C) : c.mp (fun i => i) = c := by cases c <;> simp [C.mp]
theorem cmp_id (xs : List C) : cmp (fun i => i) xs = xs := by induction xs <;> simp_all [cmp, C.mp_id]
theorem V1.mp_id (x : V1) : x.mp (fun i => i) = x := by cases x <;> simp [V1.mp, C.mp_id, cmp_id]
theorem V.mp_id (x : V) : x.mp (fun i => i) = x := by
  cases x with
  | tup xs => simp only [V.mp]; congr 1; induction xs <;> simp_all [V1.mp_id]
  | _ => simp [V.mp, C.mp_id, cmp_id]
theorem VRc.mono {φ φ' : Phi} (hl : Le φ φ') {c : C} {v : Value} (h : VRc φ c v) : VRc φ' c v := by
  have := h.mp (φ' := φ') (g := fun i => i) fun i _ p hp => hl i p hp
  rwa [C.mp_id] at this
theorem VR1.mono {φ φ' : Phi} (hl : Le φ φ') {c : V1} {v : Value} (h : VR1 φ c v) : VR1 φ' c v := by
  have := h.mp (φ' := φ') (g := fun i => i) fun i _ p hp => hl i p hp
  rwa [V1.mp_id] at this
theorem VR.mono {φ φ' : Phi} (hl : Le φ φ') {c : V} {v : Value} (h : VR φ c v) : VR φ' c v := by
  have := h.mp (φ' := φ') (g := fun i => i) fun i _ p hp => hl i p hp
  rwa [V.mp_id] at this
theorem All2.mono {φ φ' : Phi} (hl : Le φ φ') {xs : List C} {vs : List Value} (h : All2 (VRc φ) xs vs) : All2 (VRc φ') xs vs :=
  h.imp fun _ _ _ hr => hr.mono hl
/-- the cells of a value -/
theorem VR.cells {φ : Phi} {x : V} {v : Value} (h : VR φ x v) (ht : okCells x = true) : ∃ vs : List Value, v.cells = vs.toArray ∧ All2 (VRc φ) x.cells vs := by
  cases x with
  | c x =>
    refine ⟨[v], ?_, h, trivial⟩
    cases x with
    | sl i o n sz => rcases h with ⟨_, a, hv⟩ | ⟨p, cap, _, hv, _⟩ <;> (rw [hv]; rfl)
    | dead => simp [okCells] at ht
    | undef => have hv : v = _ := h; rw [hv]; rfl
    | ptr i o => obtain ⟨p, _, hv⟩ := h; rw [hv]; rfl
    | nsl => obtain ⟨a, hv⟩ := h; rw [hv]; rfl
    | fn f cs => obtain ⟨a, hv, _⟩ := h; rw [hv]; rfl
    | map i => obtain ⟨p, _, _, hv⟩ := h; rw [hv]; rfl
    | err b => cases b with
      | true => obtain ⟨t, x, hv⟩ := h; rw [hv]; rfl
      | false => have hv : v = _ := h; rw [hv]; rfl
    | _ => have hv : v = _ := h; rw [hv]; rfl
  | agg xs => obtain ⟨vs, rfl, ha⟩ := h; exact ⟨vs, rfl, ha⟩
  | tup xs => simp [okCells] at ht
theorem VRc.one {φ : Phi} {c : C} {v : Value} (h : VRc φ c v) (h1 : noDead [c] = true) : v.oneCell' = true := by
  cases c with
  | sl i o n sz => rcases h with ⟨_, a, hv⟩ | ⟨p, cap, _, hv, _⟩ <;> (rw [hv]; rfl)
  | dead => simp [noDead] at h1
  | undef => simp [noDead] at h1
  | ptr i o => obtain ⟨p, _, hv⟩ := h; rw [hv]; rfl
  | nsl => obtain ⟨a, hv⟩ := h; rw [hv]; rfl
  | fn f cs => obtain ⟨a, hv, _⟩ := h; rw [hv]; rfl
  | map i => obtain ⟨p, _, _, hv⟩ := h; rw [hv]; rfl
  | err b => cases b with
    | true => obtain ⟨t, x, hv⟩ := h; rw [hv]; rfl
    | false => have hv : v = _ := h; rw [hv]; rfl
  | _ => have hv : v = _ := h; rw [hv]; rfl
theorem noDead_cons {c : C} {r : List C} (h : noDead (c :: r) = true) : noDead [c] = true ∧ noDead r = true := by
  cases c <;> simp_all [noDead]
theorem All2.one {φ : Phi} {xs : List C} {vs : List Value} (h : All2 (VRc φ) xs vs) (h1 : noDead xs = true) : ∀ v ∈ vs, v.oneCell' = true := by
  induction xs generalizing vs with
  | nil => cases vs with
    | nil => simp
    | cons => exact h.elim
  | cons c r ih => cases vs with
    | nil => exact h.elim
    | cons v vs =>
      obtain ⟨ha, hb⟩ := noDead_cons h1
      intro u hu
      rcases List.mem_cons.1 hu with rfl | hu
      · exact h.1.one ha
      · exact ih h.2 hb u hu

def Blk.own : Blk → Bool | .cells _ o => o | .dead => false | .map _ => true
def Blk.live : Blk → Bool | .dead => false | _ => true
theorem Blk.live_of_own {b : Blk} (h : b.own = true) : b.live = true := by cases b <;> simp_all [Blk.own, Blk.live]
theorem Blk.own_mp (b : Blk) (g : Nat → Nat) : (b.mp g).own = b.own := by cases b <;> rfl
theorem Blk.live_mp (b : Blk) (g : Nat → Nat) : (b.mp g).live = b.live := by cases b <;> rfl
def BlkOK (φ : Phi) (w : World) (p : Pl) : Blk → Prop
  | .cells cs own => ∃ cur e fr, w.heap[p.b]? = some (.cells cur e fr) ∧ p.o + p.tot ≤ cur.size ∧ cs.length ≤ p.tot ∧
      (∀ j c, cs[j]? = some c → ∃ v, cur[p.o + j]? = some v ∧ VRc φ c v) ∧ (own = true → ∀ j, j < p.tot → ¬ (fr.1 ≤ p.o + j ∧ p.o + j < fr.2))
  | .dead => True
  | .map es => ∃ entries clock, w.heap[p.b]? = some (.map entries clock) ∧ All2 (fun (e : List C × C) (m : MapEntry) => (∃ vs : List Value, m.key.cells = vs.toArray ∧ All2 (VRc fun _ => none) e.1 vs) ∧ VRc φ e.2 m.val) es entries.toList
structure HeapOK0 (φ : Phi) (H : HF) (w : World) : Prop where
  blk : ∀ i b p, H i = some b → φ i = some p → BlkOK φ w p b
  sep : ∀ i j b c p q, H i = some b → H j = some c → b.own = true → c.live = true → i ≠ j → φ i = some p → φ j = some q → p.b ≠ q.b
  dom : ∀ i p, φ i = some p → ∃ b, H i = some b
def OS (φ : Phi) (H : HF) (k : Nat) : Prop := ∃ i b p, H i = some b ∧ b.own = true ∧ φ i = some p ∧ p.b = k
def LS (φ : Phi) (H : HF) (k : Nat) : Prop := ∃ i b p, H i = some b ∧ b.live = true ∧ φ i = some p ∧ p.b = k
/-- a table of the library that lies in the world: its block, and its cells (none: no table is asked for) -/
def tabG : Option (Nat × Array Value) := some (3, (Lib.pow10Tab.map fun z => Value.int .u64 z).toArray)
def TabIn (w : World) : Prop := ∀ g cs, tabG = some (g, cs) → ∃ t fr, w.heap[g]? = some (.cells cs t fr)
def TabW (φ : Phi) (H : HF) (w : World) : Prop := TabIn w ∧ ∀ g cs, tabG = some (g, cs) → ¬ OS φ H g
structure HeapOK (φ : Phi) (H : HF) (w : World) : Prop extends HeapOK0 φ H w where
  tab : TabW φ H w
structure Fr (S : Nat → Prop) (w w' : World) : Prop where
  os : w'.os = w.os
  tape : w'.tape = w.tape
  output : w'.output = w.output
  size : w.heap.size ≤ w'.heap.size
  block : ∀ k, k < w.heap.size → ¬ S k → w'.heap[k]? = w.heap[k]?
theorem Fr.refl (S : Nat → Prop) (w : World) : Fr S w w := ⟨rfl, rfl, rfl, Nat.le_refl _, fun _ _ _ => rfl⟩
theorem Fr.trans {S S' : Nat → Prop} {a b c : World} (h : Fr S a b) (k : Fr S' b c) (hs : ∀ j, S' j → S j ∨ a.heap.size ≤ j) : Fr S a c :=
  ⟨k.os.trans h.os, k.tape.trans h.tape, k.output.trans h.output, Nat.le_trans h.size k.size, fun j hj hn => by
    rw [k.block j (Nat.lt_of_lt_of_le hj h.size) (fun hS => (hs j hS).elim hn (by omega)), h.block j hj hn]⟩
theorem Fr.mono {S S' : Nat → Prop} {w w' : World} (h : Fr S w w') (hs : ∀ k, S k → S' k) : Fr S' w w' :=
  ⟨h.os, h.tape, h.output, h.size, fun k hk hn => h.block k hk fun hS => hn (hs k hS)⟩
theorem Fr.drew (S : Nat → Prop) (w : World) : Fr S w w.drew := ⟨rfl, rfl, rfl, Nat.le_refl _, fun _ _ _ => rfl⟩
theorem Fr.alloc (S : Nat → Prop) (w : World) (o : Obj) : Fr S w (w.alloc o) :=
  ⟨rfl, rfl, rfl, by simp, fun k hk _ => Go.RowKit.Below.heap_alloc _ _ _ hk⟩
/-- from one state to a later one: what is there in the end, what may have been written -/
theorem TabW.move {φ φ' : Phi} {H H' : HF} {w w' : World} (h : TabW φ H w) (fr : Fr (OS φ H) w w') (own : ∀ k, OS φ' H' k → OS φ H k ∨ w.heap.size ≤ k) : TabW φ' H' w' := by
  refine ⟨fun g cs hg => ?_, fun g cs hg ho => ?_⟩
  · obtain ⟨t, f, hh⟩ := h.1 g cs hg
    exact ⟨t, f, (fr.block g (Array.getElem?_eq_some_iff.1 hh).1 (h.2 g cs hg)).trans hh⟩
  · rcases own g ho with h1 | h1
    · exact h.2 g cs hg h1
    · obtain ⟨t, f, hh⟩ := h.1 g cs hg
      have := (Array.getElem?_eq_some_iff.1 hh).1
      omega
structure Mv (φ : Phi) (H : HF) (w : World) (φ' : Phi) (H' : HF) (w' : World) : Prop where
  ok : HeapOK φ' H' w'
  fr : Fr (OS φ H) w w'
  own : ∀ k, OS φ' H' k → OS φ H k ∨ w.heap.size ≤ k
  lv : ∀ k, LS φ' H' k → LS φ H k ∨ w.heap.size ≤ k
theorem Mv.mk' {φ φ' : Phi} {H H' : HF} {w w' : World} (h : HeapOK φ H w) (ok : HeapOK0 φ' H' w') (fr : Fr (OS φ H) w w') (own : ∀ k, OS φ' H' k → OS φ H k ∨ w.heap.size ≤ k) (lv : ∀ k, LS φ' H' k → LS φ H k ∨ w.heap.size ≤ k) : Mv φ H w φ' H' w' :=
  ⟨⟨ok, h.tab.move fr own⟩, fr, own, lv⟩
theorem Mv.refl {φ : Phi} {H : HF} {w : World} (h : HeapOK φ H w) : Mv φ H w φ H w := ⟨h, Fr.refl _ _, fun _ hk => .inl hk, fun _ hk => .inl hk⟩
theorem Mv.trans {φ φ' φ'' : Phi} {H H' H'' : HF} {w w' w'' : World} (h : Mv φ H w φ' H' w') (k : Mv φ' H' w' φ'' H'' w'') : Mv φ H w φ'' H'' w'' :=
  ⟨k.ok, h.fr.trans k.fr h.own, fun j hj => (k.own j hj).elim (h.own j) fun hj => .inr (Nat.le_trans h.fr.size hj), fun j hj => (k.lv j hj).elim (h.lv j) fun hj => .inr (Nat.le_trans h.fr.size hj)⟩
theorem BlkOK.lt {φ : Phi} {w : World} {p : Pl} {b : Blk} (h : BlkOK φ w p b) (hl : b.live = true) : p.b < w.heap.size := by
  cases b with
  | dead => cases hl
  | cells cs own => obtain ⟨cur, e, fr, hh, _⟩ := h; exact (Array.getElem?_eq_some_iff.1 hh).1
  | map es => obtain ⟨en, cl, hh, _⟩ := h; exact (Array.getElem?_eq_some_iff.1 hh).1
theorem BlkOK.mp {φ φ' : Phi} {w w' : World} {p : Pl} {b : Blk} {g : Nat → Nat} (h : BlkOK φ w p b) (hh : w'.heap[p.b]? = w.heap[p.b]?) (hk : Keeps φ φ' g b.ids) : BlkOK φ' w' p (b.mp g) := by
  cases b with
  | dead => trivial
  | cells cs own =>
    obtain ⟨cur, e, fr, h1, h2, h3, h4, h5⟩ := h
    refine ⟨cur, e, fr, hh.trans h1, h2, by simpa [cmp_eq] using h3, fun j c hc => ?_, h5⟩
    rw [cmp_eq, List.getElem?_map] at hc
    obtain ⟨c0, hc0, rfl⟩ := Option.map_eq_some_iff.1 hc
    obtain ⟨v, hv, hr⟩ := h4 j c0 hc0
    exact ⟨v, hv, hr.mp fun i hi => hk i (by simp only [Blk.ids]; exact mem_cids.2 ⟨c0, List.mem_of_getElem? hc0, hi⟩)⟩
  | map es =>
    obtain ⟨en, cl, h1, h2⟩ := h
    exact ⟨en, cl, hh.trans h1, h2.map_left _ fun e he m hr => ⟨hr.1, hr.2.mp fun i hi => hk i (by simp only [Blk.ids, List.mem_flatMap]; exact ⟨e, he, hi⟩)⟩⟩
end Go.Proofs.YtgpafbbnobanbaaGreatDoor.AM

/-
  Operations that do not look at the heap: which operation of the model each of the abstract machine's stands for, and that it does the same.
-/
namespace Go.Proofs.YtgpafbbnobanbaaGreatDoor.AM
open Go

def okC : Value → C → Bool
  | .bool b, .bool b' => b == b'
  | .int k n, .int k' n' => k == k' && n == n'
  | .string s, .str l => s.data.toList == l
  | .slice none 0 0, .nsl => true
  | .nilIface, .err false => true
  | .tuple vs, .undef => vs.isEmpty
  | .pointer none, .dead => true
  | .map none, .dead => true
  | _, _ => false
def okOpd : Operand → Opd → Bool
  | .tmp t, .t n => t == n
  | .func f, .f g => f == g
  | .const v, .k (.c c) => okC v c
  | _, _ => false
def EnvOK (φ : Phi) (e : Env) (a : Act) : Prop := ∀ t, VR φ (get e t) (a.tmps.getD t Go.undef)
theorem okC_ok {φ : Phi} {v : Value} {c : C} (h : okC v c = true) : VRc φ c v := by
  unfold okC at h
  split at h <;> simp_all [VRc, Go.undef]
  rw [← h]
theorem opd_ok {φ : Phi} {e : Env} {a : Act} (he : EnvOK φ e a) {x : Operand} {y : Opd} (h : okOpd x y = true) : VR φ (y.ev e) (a.eval x) := by
  unfold okOpd at h
  split at h
  · simp at h; subst h; exact he _
  · simp at h; subst h; exact ⟨[], rfl, trivial⟩
  · exact okC_ok h
  · cases h
def okZs : List Value → List Z → Bool
  | [], [] => true
  | v :: vs, .k c :: z => okC v c && okZs vs z
  | .slice none 0 0 :: vs, .sl _ :: z => okZs vs z
  | _, _ => false
theorem okZs_ok {φ : Phi} : ∀ {vs : List Value} {z : List Z} (n : Nat), okZs vs z = true → All2 (VRc φ) (inst z n).1 vs
  | [], [], _, _ => trivial
  | v :: vs, .k c :: z, n, h => by
    simp only [okZs, Bool.and_eq_true] at h
    exact ⟨okC_ok h.1, okZs_ok n h.2⟩
  | v :: vs, .sl s :: z, n, h => by
    unfold okZs at h
    split at h
    · rename_i h1 _; cases h1
    · rename_i h1 h2; injection h2 with h2; cases h2
    · rename_i h1 h2
      injection h1 with h1 h1'; injection h2 with h2 h2'
      subst h1; subst h1'; subst h2'
      exact ⟨.inl ⟨rfl, none, rfl⟩, okZs_ok (n + 1) h⟩
    · cases h
  | [], .k c :: z, _, h => by simp [okZs] at h
  | [], .sl s :: z, _, h => by simp [okZs] at h
  | v :: vs, [], _, h => by simp [okZs] at h

/-- what a list of new blocks, numbered from n on, says behind an operation -/
structure New (φ : Phi) (w : World) (n : Nat) (bs : List Blk) (φ' : Phi) (w' : World) : Prop where
  old : ∀ i, (i < n ∨ n + bs.length ≤ i) → φ' i = φ i
  blk : ∀ j b p, bs[j]? = some b → φ' (n + j) = some p → BlkOK φ' w' p b ∧ w.heap.size ≤ p.b
  sep : ∀ j k p q, j ≠ k → j < bs.length → k < bs.length → φ' (n + j) = some p → φ' (n + k) = some q → p.b ≠ q.b
  fr : Fr (fun _ => False) w w'
theorem New.nil (φ : Phi) (w : World) (n : Nat) : New φ w n [] φ w :=
  ⟨fun _ _ => rfl, fun j b p h => by simp at h, fun j k p q _ h => by simp at h, Fr.refl _ _⟩
theorem New.le {φ φ' : Phi} {w w' : World} {n : Nat} {bs : List Blk} (h : New φ w n bs φ' w') (hf : ∀ j, j < bs.length → φ (n + j) = none) : Le φ φ' := by
  intro i p hp
  by_cases hi : i < n ∨ n + bs.length ≤ i
  · rw [h.old i hi]; exact hp
  · have := hf (i - n) (by omega)
    rw [show n + (i - n) = i by omega, hp] at this
    cases this
def Phi.at (φ : Phi) (n k : Nat) (p : Pl) : Phi := fun i => if i = n then some p else if n < i ∧ i < n + k then none else φ i
def Phi.none (φ : Phi) (n k : Nat) : Phi := fun i => if n ≤ i ∧ i < n + k then Option.none else φ i
/-- one new row of cells, and empty ones -/
theorem New.row {φ : Phi} {w : World} {n : Nat} {cs : List C} {bs : List Blk} {cur : Array Value} {e : TypeId} {own : Bool}
    (hc : ∀ φ' : Phi, (∀ i, (i < n ∨ n + (bs.length + 1) ≤ i) → φ' i = φ i) → ∃ vs, cur.toList.take cs.length = vs ∧ All2 (VRc φ') cs vs) (w1 : World) (hw1 : Fr (fun _ => False) w w1) :
    New φ w n (.cells cs own :: bs) (φ.at n (bs.length + 1) ⟨w1.heap.size, 0, cur.size⟩) (w1.alloc (.cells cur e)) := by
  have hold : ∀ i, (i < n ∨ n + (bs.length + 1) ≤ i) → (φ.at n (bs.length + 1) ⟨w1.heap.size, 0, cur.size⟩) i = φ i := by
    intro i hi
    unfold Phi.at
    rw [if_neg (by omega), if_neg (by omega)]
  refine ⟨fun i hi => hold i (by simpa using hi), fun j b p hb hp => ?_, fun j k p q hjk hj hk hp hq => ?_, hw1.trans (Fr.alloc (fun _ => False) _ _) fun _ (h : False) => h.elim⟩
  · unfold Phi.at at hp
    by_cases hj : j = 0
    · subst hj
      simp at hb hp
      subst hb; subst hp
      obtain ⟨vs, hv, ha⟩ := hc _ hold
      refine ⟨⟨cur, e, (0, 0), heap_alloc_new w1 _, by simp, ?_, fun j c hcj => ?_, fun _ j _ h => by simp at h⟩, hw1.size⟩
      · have := ha.length
        rw [← hv, List.length_take] at this
        simp at this ⊢; omega
      · obtain ⟨v, hvj, hr⟩ := ha.get hcj
        refine ⟨v, ?_, hr⟩
        rw [← hv, List.getElem?_take] at hvj
        split at hvj
        · simpa using hvj
        · cases hvj
    · rw [if_neg (by omega)] at hp
      have : j < bs.length + 1 := by
        have := (List.getElem?_eq_some_iff.1 hb).1
        simpa using this
      rw [if_pos (by omega)] at hp
      cases hp
  · unfold Phi.at at hp hq
    simp at hj hk
    by_cases h0 : j = 0
    · subst h0
      rw [if_neg (by omega), if_pos (by omega)] at hq; cases hq
    · rw [if_neg (by omega), if_pos (by omega)] at hp; cases hp
/-- new empty rows alone -/
theorem New.empties {φ : Phi} {w : World} {n : Nat} {bs : List Blk} : New φ w n bs (φ.none n bs.length) w := by
  refine ⟨fun i hi => ?_, fun j b p hb hp => ?_, fun j k p q hjk hj hk hp hq => ?_, Fr.refl _ _⟩
  · unfold Phi.none; rw [if_neg (by omega)]
  · have := (List.getElem?_eq_some_iff.1 hb).1
    unfold Phi.none at hp; rw [if_pos (by omega)] at hp; cases hp
  · unfold Phi.none at hp; rw [if_pos (by omega)] at hp; cases hp

/-! ### the operations -/
def szT (P : Program) (t : TypeId) : Option Nat := (P.info? t).map (·.size)
theorem run_size {P : Program} {t : TypeId} {n : Nat} (h : szT P t = some n) (w : World) : (sizeOf t).run P w = .ok n w := by
  unfold szT at h
  obtain ⟨i, hi, rfl⟩ := Option.map_eq_some_iff.1 h
  simp [sizeOf, typeInfo, hi]
def aggT (P : Program) (t : TypeId) : Option Bool := match P.underlying t with | some (.struct _) | some (.array _ _) => some true | some _ => some false | none => none
theorem run_aggT {P : Program} {t : TypeId} {b : Bool} (h : aggT P t = some b) (w : World) : (isAgg t).run P w = .ok b w := by
  unfold aggT at h
  split at h
  · rename_i d hd; injection h with h; subst h; simp [isAgg, run_underlying hd]
  · rename_i d hd; injection h with h; subst h; simp [isAgg, run_underlying hd]
  · rename_i d h1 h2 hd
    injection h with h; subst h
    simp only [isAgg, Sem.run_bind, run_underlying hd, Result.andThen_ok]
    cases d <;> first | rfl | (exfalso; first | exact h1 _ rfl | exact h2 _ _ rfl)
  · cases h
/-- what an operation without heap has to show -/
def PopOK (P : Program) (o : Op) (q : POp) : Prop :=
  ∀ (φ : Phi) (e : Env) (a : Act) (w : World) (n : Nat) (v : V) (bs : List Blk) (op : Oper), op.op = o → EnvOK φ e a → q.ev e n = some (v, bs) → (∀ j, j < bs.length → φ (n + j) = none) →
    ∃ rv w' φ', (execOp a.eval op).run P w = .ok (.value rv) w' ∧ VR φ' v rv ∧ New φ w n bs φ' w'
/-- the same where nothing is made -/
theorem PopOK.of_pure {P : Program} {o : Op} {q : POp} (h : ∀ (φ : Phi) (e : Env) (a : Act) (w : World) (n : Nat) (v : V) (bs : List Blk) (op : Oper), op.op = o → EnvOK φ e a → q.ev e n = some (v, bs) →
    bs = [] ∧ ∃ rv, (execOp a.eval op).run P w = .ok (.value rv) w ∧ VR φ v rv) : PopOK P o q := by
  intro φ e a w n v bs op ho he hev _
  obtain ⟨rfl, rv, hr, hv⟩ := h φ e a w n v bs op ho he hev
  exact ⟨rv, w, φ, hr, hv, New.nil _ _ _⟩

theorem pop_mv {P : Program} {x : Operand} {y : Opd} (h : okOpd x y = true) {o : Op} (ho : o = .move x ∨ o = .assign x) : PopOK P o (.mv y) := by
  refine PopOK.of_pure fun φ e a w n v bs op hop he hev => ?_
  simp only [POp.ev, Option.some.injEq, Prod.mk.injEq] at hev
  obtain ⟨rfl, rfl⟩ := hev
  refine ⟨rfl, a.eval x, ?_, opd_ok he h⟩
  rcases ho with rfl | rfl <;> simp [execOp, hop]
theorem pop_nilsl {P : Program} {sz : Nat} {o : Op} (ho : o = .move (.const (.slice none 0 0)) ∨ o = .assign (.const (.slice none 0 0))) : PopOK P o (.nilsl sz) := by
  intro φ e a w n v bs op hop he hev hf
  simp only [POp.ev, Option.some.injEq, Prod.mk.injEq] at hev
  obtain ⟨rfl, rfl⟩ := hev
  refine ⟨.slice none 0 0, w, _, ?_, .inl ⟨rfl, none, rfl⟩, New.empties⟩
  rcases ho with rfl | rfl <;> simp [execOp, hop, Act.eval]
theorem pop_pick {P : Program} {c x y : Operand} {c' x' y' : Opd} (hc : okOpd c c' = true) (hx : okOpd x x' = true) (hy : okOpd y y' = true) : PopOK P (.pick c x y) (.pick c' x' y') := by
  refine PopOK.of_pure fun φ e a w n v bs op hop he hev => ?_
  have h := opd_ok he hc
  simp only [POp.ev] at hev
  split at hev
  · rename_i t ht
    rw [ht] at h
    have h : a.eval c = .bool t := h
    simp only [Option.some.injEq, Prod.mk.injEq] at hev
    obtain ⟨rfl, rfl⟩ := hev
    refine ⟨rfl, if t then a.eval x else a.eval y, ?_, ?_⟩
    · simp [execOp, hop, h, asBool]
    · cases t
      · exact opd_ok he hy
      · exact opd_ok he hx
  · cases hev
theorem pop_alloc {P : Program} {t : TypeId} {z : List Z} {v : Value} (hz : ((P.info? t).bind (·.zero)) = some v) (h : okZs v.cells.toList z = true) : PopOK P (.alloc t) (.alloc z) := by
  intro φ e a w n v' bs op hop he hev hf
  simp only [POp.ev, Option.some.injEq, Prod.mk.injEq] at hev
  obtain ⟨rfl, rfl⟩ := hev
  obtain ⟨i, hi, hz⟩ := Option.bind_eq_some_iff.1 hz
  refine ⟨.pointer (some ⟨w.heap.size, 0, none⟩), w.alloc (.cells v.cells t), φ.at n ((inst z (n + 1)).2.length + 1) ⟨w.heap.size, 0, v.cells.size⟩, ?_, ?_, ?_⟩
  · simp [execOp, hop, Instr.alloc, zeroValue, typeInfo, hi, hz, newVar, newRow]
  · exact ⟨⟨w.heap.size, 0, v.cells.size⟩, by simp [Phi.at], rfl⟩
  · refine New.row (fun φ' _ => ⟨v.cells.toList, ?_, okZs_ok (n + 1) h⟩) w (Fr.refl _ _)
    have := (okZs_ok (φ := φ) (n + 1) h).length
    rw [this]; exact List.take_length
theorem pop_box {P : Program} {t : TypeId} {x : Operand} {k : Nat} {y : Opd} (h : okOpd x y = true) : PopOK P (.box t x) (.box k y) := by
  intro φ e a w n v' bs op hop he hev hf
  simp only [POp.ev] at hev
  split at hev
  · rename_i hc
    simp only [Option.some.injEq, Prod.mk.injEq] at hev
    obtain ⟨rfl, rfl⟩ := hev
    obtain ⟨vs, hvs, ha⟩ := (opd_ok he h).cells hc.1
    refine ⟨.pointer (some ⟨w.heap.size, 0, none⟩), w.alloc (.cells (a.eval x).cells t), φ.at n (0 + 1) ⟨w.heap.size, 0, (a.eval x).cells.size⟩, ?_, ?_, ?_⟩
    · simp [execOp, hop, Instr.box, newVar, newRow]
    · exact ⟨⟨w.heap.size, 0, (a.eval x).cells.size⟩, by simp [Phi.at], rfl⟩
    · refine New.row (bs := []) (fun φ' hφ => ⟨vs, ?_, ha.mono fun i p hp => ?_⟩) w (Fr.refl _ _)
      · rw [ha.length, hvs]; simp
      · by_cases hi : i < n ∨ n + 1 ≤ i
        · rw [hφ i (by simpa using hi)]; exact hp
        · have := hf 0 (by simp)
          rw [show n + 0 = i by omega, hp] at this
          cases this
  · cases hev
theorem pop_un {P : Program} {t : TypeId} {op : UnOp} {x : Operand} {y : Opd} (h : okOpd x y = true) : PopOK P (.unOp op t x) (.un op y) := by
  refine PopOK.of_pure fun φ e a w n v bs o hop he hev => ?_
  have hx := opd_ok he h
  simp only [POp.ev, Option.map_eq_some_iff, Prod.mk.injEq] at hev
  obtain ⟨c, hc, rfl, rfl⟩ := hev
  unfold unV at hc
  split at hc
  · rename_i k m hm
    rw [hm] at hx
    have hx : a.eval x = .int k m := hx
    injection hc with hc; subst hc
    exact ⟨rfl, .int k (k.wrap (0 - m)), by simp [execOp, hop, hx, Op.unary, Op.intArith], rfl⟩
  · rename_i b hm
    rw [hm] at hx
    have hx : a.eval x = .bool b := hx
    injection hc with hc; subst hc
    exact ⟨rfl, .bool (!b), by simp [execOp, hop, hx, Op.unary], rfl⟩
  · cases hc
theorem pop_conv {P : Program} {s d : TypeId} {k : IntKind} {x : Operand} {y : Opd} (h : okOpd x y = true) (hs : (P.underlying s).isSome = true) (hd : P.underlying d = some (.int k)) : PopOK P (.convert s d x) (.conv k y) := by
  refine PopOK.of_pure fun φ e a w n v bs o hop he hev => ?_
  have hx := opd_ok he h
  simp only [POp.ev] at hev
  split at hev
  · rename_i k' m hm
    rw [hm] at hx
    have hx : a.eval x = .int k' m := hx
    simp only [Option.some.injEq, Prod.mk.injEq] at hev
    obtain ⟨rfl, rfl⟩ := hev
    obtain ⟨ds, hs⟩ := Option.isSome_iff_exists.1 hs
    exact ⟨rfl, .int k (k.wrap m), by simp [execOp, hop, hx, convert, run_underlying hs, run_underlying hd, Conv.intToInt], rfl⟩
  · cases hev
theorem pop_ext {P : Program} {x : Operand} {y : Opd} {i : Nat} (h : okOpd x y = true) : PopOK P (.extract x i) (.ext y i) := by
  refine PopOK.of_pure fun φ e a w n v bs o hop he hev => ?_
  have hx := opd_ok he h
  simp only [POp.ev] at hev
  split at hev
  · rename_i xs hm
    rw [hm] at hx
    obtain ⟨vs, hv, ha⟩ := hx
    simp only [Option.map_eq_some_iff, Prod.mk.injEq] at hev
    obtain ⟨u, hu, rfl, rfl⟩ := hev
    obtain ⟨r, hr, hru⟩ := ha.get hu
    refine ⟨rfl, r, ?_, VR1.up.2 hru⟩
    simp [execOp, hop, hv, Instr.extract, hr]
  · cases hev
theorem add_lit (b o n : Nat) : (⟨b, o, none⟩ : Addr).add n = ⟨b, o + n, none⟩ := by
  unfold Addr.add; split <;> simp_all
theorem pop_fld {P : Program} {t : TypeId} {fs : Array Field} {f : Field} {i : Nat} {m : Nat} {x : Operand} {y : Opd} (h : okOpd x y = true) (ht : P.underlying t = some (.struct fs)) (hf : fs[i]? = some f) (hz : szT P f.type = some m) (hm : m ≠ 0) :
    PopOK P (.fieldAddr t x i) (.fld f.offset y) := by
  refine PopOK.of_pure fun φ e a w n v bs o hop he hev => ?_
  have hx := opd_ok he h
  simp only [POp.ev] at hev
  split at hev
  · rename_i b k hm
    rw [hm] at hx
    obtain ⟨p, hp, hv⟩ := hx
    simp only [Option.some.injEq, Prod.mk.injEq] at hev
    obtain ⟨rfl, rfl⟩ := hev
    refine ⟨rfl, .pointer (some ⟨p.b, p.o + (k + f.offset), none⟩), ?_, p, hp, rfl⟩
    simp [execOp, hop, Instr.fieldAt, run_underlying ht, hf, hv, ptrV, Instr.sureAddr, fieldPlace, run_size hz, add_lit, Nat.add_assoc]
    omega
  · cases hev

theorem pop_ixA {P : Program} {t el : TypeId} {m sz : Nat} {x i : Operand} {x' i' : Opd} (hx : okOpd x x' = true) (hi : okOpd i i' = true) (ht : P.underlying t = some (.array m el)) (hs : szT P el = some sz) :
    PopOK P (.indexAddr t x i) (.ixA m sz x' i') := by
  refine PopOK.of_pure fun φ e a w n v bs o hop he hev => ?_
  have hx := opd_ok he hx
  have hi := opd_ok he hi
  simp only [POp.ev] at hev
  split at hev
  · rename_i b k q j hb hj
    rw [hb] at hx; rw [hj] at hi
    obtain ⟨p, hp, hv⟩ := hx
    have hi : a.eval i = .int q j := hi
    split at hev
    · rename_i hc
      simp only [Option.some.injEq, Prod.mk.injEq] at hev
      obtain ⟨rfl, rfl⟩ := hev
      refine ⟨rfl, _, ?_, p, hp, rfl⟩
      simp [execOp, hop, Instr.indexAt, hi, hv, ptrV, asIntOf, run_underlying ht, Instr.sureAddr, hc, run_size hs, add_lit, Nat.add_assoc]
    · cases hev
  · cases hev
theorem pop_ixS {P : Program} {t el : TypeId} {sz : Nat} {x i : Operand} {x' i' : Opd} (hx : okOpd x x' = true) (hi : okOpd i i' = true) (ht : P.underlying t = some (.slice el)) (hs : szT P el = some sz) :
    PopOK P (.indexAddr t x i) (.ixS sz x' i') := by
  refine PopOK.of_pure fun φ e a w n v bs o hop he hev => ?_
  have hx := opd_ok he hx
  have hi := opd_ok he hi
  simp only [POp.ev] at hev
  split at hev
  · rename_i b k ln sz' q j hb hj
    rw [hb] at hx; rw [hj] at hi
    have hi : a.eval i = .int q j := hi
    split at hev
    · rename_i hc
      simp only [Option.some.injEq, Prod.mk.injEq] at hev
      obtain ⟨rfl, rfl⟩ := hev
      rcases hx with ⟨h0, _⟩ | ⟨p, cap, hp, hv, hle, _, _⟩
      · omega
      · refine ⟨rfl, _, ?_, p, hp, rfl⟩
        have hc1 := hc.2.1
        have hc2 := hc.2.2
        simp [execOp, hop, Instr.indexAt, hi, hv, ptrV, asIntOf, run_underlying ht, hc1, hc2, run_size hs, add_lit, Nat.add_assoc]
    · cases hev
  · cases hev
theorem run_bound {P : Program} {w : World} {e : Env} {φ : Phi} {a : Act} (he : EnvOK φ e a) {x : Operand} {y : Opd} (h : okOpd x y = true) {d lim m : Nat} (hb : bnd e (some y) d lim = some m) {k : Nat} (hk : lim ≤ k) (code : BoundsCode) :
    (Instr.sliceBound (a.eval x) k code).run P w = .ok m w ∧ m ≤ lim := by
  have hx := opd_ok he h
  simp only [bnd] at hb
  split at hb
  · rename_i q n hn
    rw [hn] at hx
    have hx : a.eval x = .int q n := hx
    split at hb
    · rename_i hc
      injection hb with hb
      subst hb
      refine ⟨?_, by omega⟩
      have h1 : n ≤ (k : Int) := by omega
      simp [Instr.sliceBound, hx, asIntOf, hc.1, h1]
    · cases hb
  · cases hb
def okBnd : Option Operand → Option Opd → Bool
  | none, none => true
  | some x, some y => okOpd x y
  | _, _ => false
/-- the three bounds of a slice expression with two: what the model reckons is what 'bnd' reckons -/
theorem run_bounds {P : Program} {w : World} {e : Env} {φ : Phi} {a : Act} (he : EnvOK φ e a) {lo hi : Option Operand} {lo' hi' : Option Opd} (hlo : okBnd lo lo' = true) (hhi : okBnd hi hi' = true) {ln cap h l : Nat} (hcap : ln ≤ cap) (isS : Bool)
    (h1 : bnd e hi' ln ln = some h) (h2 : bnd e lo' 0 h = some l) : (Instr.sliceBounds isS ln cap (lo.map a.eval) (hi.map a.eval) none).run P w = .ok (l, h, cap) w ∧ l ≤ h ∧ h ≤ ln := by
  have hh : h ≤ ln := by
    cases hi' with
    | none => simp [bnd] at h1; omega
    | some y => cases hi with
      | none => simp [okBnd] at hhi
      | some x => exact (run_bound (P := P) (w := w) he (x := x) (by simpa [okBnd] using hhi) h1 (Nat.le_refl _) .sliceB).2
  have hl : l ≤ h := by
    cases lo' with
    | none => simp [bnd] at h2; omega
    | some y => cases lo with
      | none => simp [okBnd] at hlo
      | some x => exact (run_bound (P := P) (w := w) he (x := x) (by simpa [okBnd] using hlo) h2 (Nat.le_refl _) .sliceB).2
  refine ⟨?_, hl, hh⟩
  cases hi' with
  | none =>
    cases hi with
    | some x => simp [okBnd] at hhi
    | none =>
      simp [bnd] at h1
      subst h1
      cases lo' with
      | none => cases lo with
        | some x => simp [okBnd] at hlo
        | none => simp [bnd] at h2; subst h2; simp [Instr.sliceBounds]
      | some y => cases lo with
        | none => simp [okBnd] at hlo
        | some x =>
          have hb := (run_bound (P := P) (w := w) he (x := x) (by simpa [okBnd] using hlo) h2 (Nat.le_refl _) .sliceB).1
          simp [Instr.sliceBounds, hb]
  | some y =>
    cases hi with
    | none => simp [okBnd] at hhi
    | some z =>
      have hb1 := fun code => (run_bound (P := P) (w := w) he (x := z) (by simpa [okBnd] using hhi) h1 hcap code).1
      cases lo' with
      | none => cases lo with
        | some x => simp [okBnd] at hlo
        | none => simp [bnd] at h2; subst h2; simp [Instr.sliceBounds, hb1]
      | some y => cases lo with
        | none => simp [okBnd] at hlo
        | some x =>
          have hb := (run_bound (P := P) (w := w) he (x := x) (by simpa [okBnd] using hlo) h2 (Nat.le_refl _) .sliceB).1
          simp [Instr.sliceBounds, hb, hb1]
theorem pop_slS {P : Program} {t el : TypeId} {sz : Nat} {x : Operand} {x' : Opd} {lo hi : Option Operand} {lo' hi' : Option Opd} (hx : okOpd x x' = true) (hlo : okBnd lo lo' = true) (hhi : okBnd hi hi' = true) (ht : P.underlying t = some (.slice el)) (hs : szT P el = some sz) :
    PopOK P (.slice t x lo hi none) (.slS sz x' lo' hi') := by
  refine PopOK.of_pure fun φ e a w n v bs o hop he hev => ?_
  have hx := opd_ok he hx
  simp only [POp.ev] at hev
  split at hev
  · rename_i b k ln sz' hb
    rw [hb] at hx
    split at hev
    · rename_i hc
      subst hc
      obtain ⟨h, h1, hev⟩ := Option.bind_eq_some_iff.1 hev
      simp only [Option.map_eq_some_iff, Prod.mk.injEq] at hev
      obtain ⟨l, h2, rfl, rfl⟩ := hev
      rcases hx with ⟨h0, ad, hv⟩ | ⟨p, cap, hp, hv, hle, hmx, htot⟩
      · subst h0
        obtain ⟨hrun, hl, hh⟩ := run_bounds (P := P) (w := w) he hlo hhi (Nat.le_refl 0) true h1 h2
        have : h = 0 := by omega
        subst this
        have : l = 0 := by omega
        subst this
        refine ⟨rfl, .slice ad 0 0, ?_, .inl ⟨rfl, ad, rfl⟩⟩
        simp [execOp, hop, Instr.sliceAt, Instr.slice, hv, run_underlying ht, hrun, run_size hs]
      · obtain ⟨hrun, hl, hh⟩ := run_bounds (P := P) (w := w) he hlo hhi hle true h1 h2
        by_cases hcl : cap = l
        · subst hcl
          refine ⟨rfl, .slice (some ⟨p.b, p.o + k, none⟩) 0 0, ?_, .inl ⟨by omega, _, rfl⟩⟩
          simp [execOp, hop, Instr.sliceAt, Instr.slice, hv, run_underlying ht, hrun, run_size hs]
          omega
        · refine ⟨rfl, .slice (some ⟨p.b, p.o + (k + l * sz), none⟩) (h - l) (cap - l), ?_, .inr ⟨p, cap - l, hp, rfl, by omega, by omega, ?_⟩⟩
          · simp [execOp, hop, Instr.sliceAt, Instr.slice, hv, run_underlying ht, hrun, run_size hs, hcl, add_lit, Nat.add_assoc]
          · have e1 : l * sz + (cap - l) * sz = cap * sz := by rw [← Nat.add_mul]; congr 1; omega
            omega
    · cases hev
  · rename_i hb
    rw [hb] at hx
    obtain ⟨ad, hv⟩ := hx
    obtain ⟨h, h1, hev⟩ := Option.bind_eq_some_iff.1 hev
    simp only [Option.map_eq_some_iff, Prod.mk.injEq] at hev
    obtain ⟨l, h2, rfl, rfl⟩ := hev
    obtain ⟨hrun, hl, hh⟩ := run_bounds (P := P) (w := w) he hlo hhi (Nat.le_refl 0) true h1 h2
    have : h = 0 := by omega
    subst this
    have : l = 0 := by omega
    subst this
    refine ⟨rfl, .slice ad 0 0, ?_, ad, rfl⟩
    simp [execOp, hop, Instr.sliceAt, Instr.slice, hv, run_underlying ht, hrun, run_size hs]
  · cases hev
theorem pop_sl0 {P : Program} {t el : TypeId} {sz sz' : Nat} {x z1 z2 : Operand} {x' : Opd} (hx : okOpd x x' = true) (hz1 : z1 = .const (.int .i64 0)) (hz2 : z2 = .const (.int .i64 0)) (ht : P.underlying t = some (.slice el)) (hs : szT P el = some sz') :
    PopOK P (.slice t x none (some z1) (some z2)) (.sl0 sz x') := by
  refine PopOK.of_pure fun φ e a w n v bs o hop he hev => ?_
  have hx := opd_ok he hx
  subst hz1; subst hz2
  have key : ∀ ad ln cap, a.eval x = .slice ad ln cap → (execOp a.eval o).run P w = .ok (.value (.slice ad 0 0)) w := by
    intro ad ln cap hv
    have e0 : a.eval (.const (.int .i64 0)) = .int .i64 0 := rfl
    simp [execOp, hop, Instr.sliceAt, Instr.slice, hv, run_underlying ht, Instr.sliceBounds, Instr.sliceBound, e0, asIntOf, run_size hs]
  simp only [POp.ev] at hev
  split at hev
  · rename_i hb
    rw [hb] at hx
    simp only [Option.some.injEq, Prod.mk.injEq] at hev
    obtain ⟨rfl, rfl⟩ := hev
    rcases hx with ⟨h0, ad, hv⟩ | ⟨p, cap, hp, hv, _⟩
    · exact ⟨rfl, _, key _ _ _ hv, _, rfl⟩
    · exact ⟨rfl, _, key _ _ _ hv, _, rfl⟩
  · rename_i hb
    rw [hb] at hx
    simp only [Option.some.injEq, Prod.mk.injEq] at hev
    obtain ⟨rfl, rfl⟩ := hev
    obtain ⟨ad, hv⟩ := hx
    exact ⟨rfl, _, key _ _ _ hv, _, rfl⟩
  · cases hev

theorem pop_slStr {P : Program} {t : TypeId} {x : Operand} {x' : Opd} {lo hi : Option Operand} {lo' hi' : Option Opd} (hx : okOpd x x' = true) (hlo : okBnd lo lo' = true) (hhi : okBnd hi hi' = true) (ht : P.underlying t = some .string) :
    PopOK P (.slice t x lo hi none) (.slStr x' lo' hi') := by
  refine PopOK.of_pure fun φ e a w n v bs o hop he hev => ?_
  have hx := opd_ok he hx
  simp only [POp.ev] at hev
  split at hev
  · rename_i s hb
    rw [hb] at hx
    have hv : a.eval x = .string ⟨s.toArray⟩ := hx
    obtain ⟨h, h1, hev⟩ := Option.bind_eq_some_iff.1 hev
    simp only [Option.map_eq_some_iff, Prod.mk.injEq] at hev
    obtain ⟨l, h2, rfl, rfl⟩ := hev
    obtain ⟨hrun, hl, hh⟩ := run_bounds (P := P) (w := w) he hlo hhi (Nat.le_refl _) false h1 h2
    refine ⟨rfl, .string ⟨((s.take h).drop l).toArray⟩, ?_, rfl⟩
    have hsz : (⟨s.toArray⟩ : ByteArray).size = s.length := by simp [ByteArray.size]
    have hex : (⟨s.toArray⟩ : ByteArray).extract l h = ⟨((s.take h).drop l).toArray⟩ := by
      apply ByteArray.ext
      rw [ByteArray.data_extract]
      apply Array.ext'
      simp [List.extract, List.drop_take]
    simp [execOp, hop, Instr.sliceAt, Instr.slice, hv, run_underlying ht, hsz, hrun, hex]
  · cases hev
theorem pop_ixStr {P : Program} {t : TypeId} {x i : Operand} {x' i' : Opd} (hx : okOpd x x' = true) (hi : okOpd i i' = true) (ht : P.underlying t = some .string) :
    PopOK P (.index t x i) (.ixStr x' i') := by
  refine PopOK.of_pure fun φ e a w n v bs o hop he hev => ?_
  have hx := opd_ok he hx
  have hi := opd_ok he hi
  simp only [POp.ev] at hev
  split at hev
  · rename_i s q j hb hj
    rw [hb] at hx; rw [hj] at hi
    have hv : a.eval x = .string ⟨s.toArray⟩ := hx
    have hi : a.eval i = .int q j := hi
    split at hev
    · rename_i hc
      simp only [Option.some.injEq, Prod.mk.injEq] at hev
      obtain ⟨rfl, rfl⟩ := hev
      refine ⟨rfl, _, ?_, rfl⟩
      have hlt : j.toNat < s.length := by omega
      have hg : (⟨s.toArray⟩ : ByteArray)[j.toNat]? = some (s[j.toNat]) := by
        rw [getElem?_pos _ _ (by simpa [ByteArray.size] using hlt)]
        rfl
      simp [execOp, hop, Instr.index, hi, hv, asIntOf, run_underlying ht, hc.1, hg, hlt]
    · cases hev
  · cases hev
theorem mkV_ok {φ : Phi} {cs : List C} {vs : List Value} (h : All2 (VRc φ) cs vs) {b : Bool} (hb : b = true ∨ cs.length = 1) : VR φ (mkV b cs) (if b then .agg vs.toArray else vs.headD Go.undef) := by
  cases b with
  | true => exact ⟨vs, rfl, h⟩
  | false =>
    cases cs with
    | nil => simp at hb
    | cons c r => cases vs with
      | nil => exact h.elim
      | cons v vs => exact h.1
/-- a part of a value -/
theorem run_part {P : Program} {w : World} {φ : Phi} {t : TypeId} {n off : Nat} {b : Bool} {xs : List C} {vs : List Value} (hs : szT P t = some n) (hb : aggT P t = some b) (h1 : b = true ∨ n = 1) (h : All2 (VRc φ) xs vs) (hl : off + n ≤ xs.length) :
    ∃ v, (part t vs.toArray off).run P w = .ok v w ∧ VR φ (mkV b ((xs.drop off).take n)) v := by
  have hv := mkV_ok (b := b) ((h.drop off).take n) (by rcases h1 with h1 | h1; exact .inl h1; right; simp; omega)
  refine ⟨_, ?_, hv⟩
  cases b with
  | true =>
    simp [part, run_aggT hb, run_size hs]
  | false =>
    have hn : n = 1 := by simpa using h1
    subst hn
    have hlv := h.length
    have hg : vs[off]? = some (vs[off]'(by omega)) := List.getElem?_eq_getElem (by omega)
    simp [part, run_aggT hb, hg]
    have hd : vs.drop off = vs[off]'(by omega) :: vs.drop (off + 1) := List.drop_eq_getElem_cons _
    simp only [hd]
    rfl
theorem pop_fldV {P : Program} {t : TypeId} {fs : Array Field} {f : Field} {i m : Nat} {b : Bool} {x : Operand} {y : Opd} (h : okOpd x y = true) (ht : P.underlying t = some (.struct fs)) (hf : fs[i]? = some f) (hs : szT P f.type = some m) (hb : aggT P f.type = some b) (h1 : b = true ∨ m = 1) :
    PopOK P (.field t x i) (.fldV f.offset m b y) := by
  refine PopOK.of_pure fun φ e a w n v bs o hop he hev => ?_
  have hx := opd_ok he h
  simp only [POp.ev] at hev
  split at hev
  · rename_i xs hm
    rw [hm] at hx
    obtain ⟨vs, hv, ha⟩ := hx
    split at hev
    · rename_i hl
      simp only [Option.some.injEq, Prod.mk.injEq] at hev
      obtain ⟨rfl, rfl⟩ := hev
      obtain ⟨r, hr, hrv⟩ := run_part (P := P) (w := w) hs hb h1 ha hl
      exact ⟨rfl, r, by simp [execOp, hop, Instr.field, run_underlying ht, hf, hv, asAgg, hr], hrv⟩
    · cases hev
  · cases hev
theorem pop_ixV {P : Program} {t el : TypeId} {k m : Nat} {b : Bool} {x i : Operand} {x' i' : Opd} (hx : okOpd x x' = true) (hi : okOpd i i' = true) (ht : P.underlying t = some (.array k el)) (hs : szT P el = some m) (hb : aggT P el = some b) (h1 : b = true ∨ m = 1) :
    PopOK P (.index t x i) (.ixV k m b x' i') := by
  refine PopOK.of_pure fun φ e a w n v bs o hop he hev => ?_
  have hx := opd_ok he hx
  have hi := opd_ok he hi
  simp only [POp.ev] at hev
  split at hev
  · rename_i xs q j hm hj
    rw [hm] at hx; rw [hj] at hi
    obtain ⟨vs, hv, ha⟩ := hx
    have hi : a.eval i = .int q j := hi
    split at hev
    · rename_i hc
      simp only [Option.some.injEq, Prod.mk.injEq] at hev
      obtain ⟨rfl, rfl⟩ := hev
      have hl : j.toNat * m + m ≤ xs.length := by
        rw [hc.2.2, ← Nat.succ_mul]; exact Nat.mul_le_mul_right _ (by omega)
      obtain ⟨r, hr, hrv⟩ := run_part (P := P) (w := w) hs hb h1 ha hl
      exact ⟨rfl, r, by simp [execOp, hop, Instr.index, run_underlying ht, hi, hv, asIntOf, hc.1, hc.2.1, run_size hs, hr], hrv⟩
    · cases hev
  · cases hev
theorem run_call1 {P : Program} {w : World} {a : Act} {o : Oper} {b : Builtin} {x : Operand} {t : TypeId} (hop : o.op = .call { callee := .builtin b, args := #[x], argTypes := #[t] }) :
    (execOp a.eval o).run P w = (builtin b #[t] o.type (#[x].map fun | .const _ => true | _ => false) #[a.eval x]).run P w := by
  simp [execOp, hop, resolve, invoke]
  rfl
theorem pop_len {P : Program} {t el : TypeId} {x : Operand} {y : Opd} (h : okOpd x y = true) (ht : P.underlying t = some (.slice el)) : PopOK P (.call { callee := .builtin .len, args := #[x], argTypes := #[t] }) (.len y) := by
  refine PopOK.of_pure fun φ e a w n v bs o hop he hev => ?_
  have hx := opd_ok he h
  simp only [POp.ev] at hev
  split at hev
  · rename_i i k ln sz hm
    rw [hm] at hx
    simp only [Option.some.injEq, Prod.mk.injEq] at hev
    obtain ⟨rfl, rfl⟩ := hev
    refine ⟨rfl, .int .i64 ln, ?_, rfl⟩
    rw [run_call1 hop]
    rcases hx with ⟨h0, ad, hv⟩ | ⟨p, cap, hp, hv, _⟩
    · subst h0
      simp [builtin, Builtin.len_, run_underlying ht, hv, goInt]
    · simp [builtin, Builtin.len_, run_underlying ht, hv, goInt]
  · rename_i hm
    rw [hm] at hx
    simp only [Option.some.injEq, Prod.mk.injEq] at hev
    obtain ⟨rfl, rfl⟩ := hev
    obtain ⟨ad, hv⟩ := hx
    refine ⟨rfl, .int .i64 0, ?_, rfl⟩
    rw [run_call1 hop]
    simp [builtin, Builtin.len_, run_underlying ht, hv, goInt]
  · cases hev
theorem pop_cap0 {P : Program} {t el : TypeId} {x : Operand} {y : Opd} (h : okOpd x y = true) (ht : P.underlying t = some (.slice el)) : PopOK P (.call { callee := .builtin .cap, args := #[x], argTypes := #[t] }) (.cap0 y) := by
  refine PopOK.of_pure fun φ e a w n v bs o hop he hev => ?_
  have hx := opd_ok he h
  simp only [POp.ev] at hev
  split at hev
  · rename_i hm
    rw [hm] at hx
    simp only [Option.some.injEq, Prod.mk.injEq] at hev
    obtain ⟨rfl, rfl⟩ := hev
    obtain ⟨ad, hv⟩ := hx
    refine ⟨rfl, .int .i64 0, ?_, rfl⟩
    rw [run_call1 hop]
    simp [builtin, Builtin.cap_, run_underlying ht, hv, goInt]
  · cases hev
theorem pop_lenStr {P : Program} {t : TypeId} {x : Operand} {y : Opd} (h : okOpd x y = true) (ht : P.underlying t = some .string) : PopOK P (.call { callee := .builtin .len, args := #[x], argTypes := #[t] }) (.lenStr y) := by
  refine PopOK.of_pure fun φ e a w n v bs o hop he hev => ?_
  have hx := opd_ok he h
  simp only [POp.ev] at hev
  split at hev
  · rename_i s hm
    rw [hm] at hx
    have hv : a.eval x = .string ⟨s.toArray⟩ := hx
    simp only [Option.some.injEq, Prod.mk.injEq] at hev
    obtain ⟨rfl, rfl⟩ := hev
    refine ⟨rfl, .int .i64 s.length, ?_, rfl⟩
    rw [run_call1 hop]
    have hsz : (⟨s.toArray⟩ : ByteArray).size = s.length := by simp [ByteArray.size]
    simp [builtin, Builtin.len_, run_underlying ht, hv, goInt, hsz]
  · cases hev
theorem caps_ok {φ : Phi} {e : Env} {a : Act} (he : EnvOK φ e a) : ∀ {xs : List Operand} {ys : List Opd} {cs : List (Nat × Nat)}, All2 (fun x y => okOpd x y = true) xs ys → capsOf e ys = some cs → All2 (PR φ) cs (xs.map a.eval)
  | [], [], cs, _, h => by simp only [capsOf, Option.some.injEq] at h; subst h; trivial
  | x :: xs, y :: ys, cs, hk, h => by
    simp only [capsOf] at h
    have hx := opd_ok he hk.1
    split at h
    · rename_i i o hm
      rw [hm] at hx
      simp only [Option.map_eq_some_iff] at h
      obtain ⟨r, hr, rfl⟩ := h
      exact ⟨hx, caps_ok he hk.2 hr⟩
    · cases h
  | [], _ :: _, _, h, _ => h.elim
  | _ :: _, [], _, h, _ => h.elim
theorem pop_mkfn {P : Program} {f : Nat} {caps : Array Operand} {ys : List Opd} (h : All2 (fun x y => okOpd x y = true) caps.toList ys) : PopOK P (.makeFunc (.func f) #[] caps) (.mkfn f ys) := by
  refine PopOK.of_pure fun φ e a w n v bs o hop he hev => ?_
  simp only [POp.ev, Option.map_eq_some_iff, Prod.mk.injEq] at hev
  obtain ⟨cs, hc, rfl, rfl⟩ := hev
  refine ⟨rfl, .func (.func f) #[] (caps.map a.eval), by simp [execOp, hop, Instr.makeFunc], caps.toList.map a.eval, ?_, caps_ok he h hc⟩
  congr 1
  apply Array.ext'
  simp

theorem eqGuard_ok {P : Program} {w : World} {op : BinOp} {t : TypeId} {x y : Operand} {u v : Value} (hu : ∀ xs, u ≠ .agg xs) (hn : u ≠ .nilIface) : (eqGuard op t x y u v).run P w = .ok () w := by
  have key : ∀ (z : Sem Unit) (f : Array Value → Array Value → Sem Unit), (match u, v with | .nilIface, .nilIface => z | .agg a, .agg b => f a b | _, _ => pure ()).run P w = .ok () w := by
    intro z f
    split
    · exact absurd rfl hn
    · exact absurd rfl (hu _)
    · rfl
  cases op <;> first | rfl | exact key _ _
theorem pop_bin {P : Program} {t u : TypeId} {op : BinOp} {x y : Operand} {x' y' : Opd} (hx : okOpd x x' = true) (hy : okOpd y y' = true) :
    PopOK P (.binOp op t x y u) (.bin op x' y') := by
  refine PopOK.of_pure fun φ e a w n v bs o hop he hev => ?_
  have hx := opd_ok he hx
  have hy := opd_ok he hy
  simp only [POp.ev, Option.map_eq_some_iff, Prod.mk.injEq] at hev
  obtain ⟨c, hc, rfl, rfl⟩ := hev
  refine ⟨rfl, ?_⟩
  unfold binV at hc
  split at hc
  · rename_i k m k' m' hm hm'
    rw [hm] at hx; rw [hm'] at hy
    have hx : a.eval x = .int k m := hx
    have hy : a.eval y = .int k' m' := hy
    have hg : (eqGuard op t x y (.int k m) (.int k' m')).run P w = .ok () w := eqGuard_ok (fun _ => by simp) (by simp)
    split at hc
    · rename_i hs
      unfold binShift at hc
      split at hc
      · cases hc
      · rename_i hneg
        rcases hs with rfl | rfl
        · injection hc with hc; subst hc
          exact ⟨_, by simp [execOp, hop, hx, hy, hg, binOp, Op.shift, hneg], rfl⟩
        · injection hc with hc; subst hc
          exact ⟨_, by simp [execOp, hop, hx, hy, hg, binOp, Op.shift, hneg], rfl⟩
    · rename_i hs
      split at hc
      · rename_i hk
        subst hk
        cases op <;> simp only [binI, reduceCtorEq, Option.some.injEq] at hc <;> simp only [or_self, reduceCtorEq, not_false_eq_true] at hs
        all_goals first
          | (subst hc; exact ⟨_, by simp [execOp, hop, hx, hy, hg, binOp, Op.intArith, Op.intCmp, Op.intBits], rfl⟩)
          | (split at hc
             · cases hc
             · rename_i h0; injection hc with hc; subst hc; exact ⟨_, by simp [execOp, hop, hx, hy, hg, binOp, Op.intDiv, h0], rfl⟩)
      · cases hc
  · rename_i s s' hm hm'
    rw [hm] at hx; rw [hm'] at hy
    have hx : a.eval x = .string ⟨s.toArray⟩ := hx
    have hy : a.eval y = .string ⟨s'.toArray⟩ := hy
    have hg : (eqGuard op t x y (.string ⟨s.toArray⟩) (.string ⟨s'.toArray⟩)).run P w = .ok () w := eqGuard_ok (fun _ => by simp) (by simp)
    have e1 : (⟨s.toArray⟩ : ByteArray).toList = s := by rw [ByteArray.toList_eq]
    have e2 : (⟨s'.toArray⟩ : ByteArray).toList = s' := by rw [ByteArray.toList_eq]
    have z1 : (⟨s.toArray⟩ : ByteArray).size = s.length := by simp [ByteArray.size]
    have z2 : (⟨s'.toArray⟩ : ByteArray).size = s'.length := by simp [ByteArray.size]
    have hb : binOp op t (.string ⟨s.toArray⟩) (.string ⟨s'.toArray⟩) = Op.stringOp op ⟨s.toArray⟩ ⟨s'.toArray⟩ := by cases op <;> rfl
    have hrun : (execOp a.eval o).run P w = ((Op.stringOp op ⟨s.toArray⟩ ⟨s'.toArray⟩).run P w).andThen fun v w' => .ok (.value v) w' := by
      simp [execOp, hop, hx, hy, hg, hb]
    rw [hrun]
    have hadd : (⟨s.toArray⟩ : ByteArray) ++ ⟨s'.toArray⟩ = ⟨(s ++ s').toArray⟩ := by
      apply ByteArray.ext; simp
    cases op <;> simp only [binS, reduceCtorEq, Option.some.injEq] at hc
    case add =>
      split at hc
      · rename_i hl
        injection hc with hc; subst hc
        refine ⟨.string ⟨(s ++ s').toArray⟩, ?_, rfl⟩
        have hmax : IntKind.i64.max = 9223372036854775807 := by decide
        have hl' : ¬ (((s.length : Int) + (s'.length : Int)) > 9223372036854775807) := by omega
        simp only [Op.stringOp, z1, z2, hmax]
        rw [if_neg (by omega)]
        simp [hadd]
      · cases hc
    all_goals (subst hc; exact ⟨_, by simp [Op.stringOp, e1, e2], rfl⟩)
  · cases hc
theorem run_eqBool {P : Program} {w : World} {t : TypeId} (ht : P.underlying t = some .bool) (a b : Bool) : (Op.equal t (.bool a) (.bool b)).run P w = .ok (a == b) w := by
  have key : ∀ d, (Op.equalIn (d + 1) t (.bool a) (.bool b)).run P w = .ok (a == b) w := by
    intro d
    simp only [Op.equalIn, Sem.run_bind, run_underlying ht, Result.andThen_ok]
    rfl
  exact key 9999
theorem pop_eqb {P : Program} {t u : TypeId} {op : BinOp} {neg : Bool} {x y : Operand} {x' y' : Opd} (hx : okOpd x x' = true) (hy : okOpd y y' = true) (ht : P.underlying t = some .bool) (ho : op = if neg then .neq else .eql) :
    PopOK P (.binOp op t x y u) (.eqb neg x' y') := by
  refine PopOK.of_pure fun φ e a w n v bs o hop he hev => ?_
  have hx := opd_ok he hx
  have hy := opd_ok he hy
  simp only [POp.ev] at hev
  split at hev
  · rename_i b b' hm hm'
    rw [hm] at hx; rw [hm'] at hy
    have hx : a.eval x = .bool b := hx
    have hy : a.eval y = .bool b' := hy
    have hg : (eqGuard op t x y (.bool b) (.bool b')).run P w = .ok () w := eqGuard_ok (fun _ => by simp) (by simp)
    simp only [Option.some.injEq, Prod.mk.injEq] at hev
    obtain ⟨rfl, rfl⟩ := hev
    refine ⟨rfl, .bool (if neg then !(b == b') else b == b'), ?_, rfl⟩
    cases neg
    · simp only [if_false, Bool.false_eq_true] at ho ⊢
      subst ho
      have hb : binOp .eql t (.bool b) (.bool b') = (do pure (.bool (← Op.equal t (.bool b) (.bool b')))) := rfl
      simp only [execOp, hop, hx, hy, Sem.run_bind, hg, Result.andThen_ok, hb, run_eqBool ht, Sem.run_pure]
    · simp only [if_true] at ho ⊢
      subst ho
      have hb : binOp .neq t (.bool b) (.bool b') = (do pure (.bool (!(← Op.equal t (.bool b) (.bool b'))))) := rfl
      simp only [execOp, hop, hx, hy, Sem.run_bind, hg, Result.andThen_ok, hb, run_eqBool ht, Sem.run_pure]
  · cases hev
end Go.Proofs.YtgpafbbnobanbaaGreatDoor.AM

/-
  The other operations that do not look at the heap: literals of structs, arrays and slices, min and max, equality of aggregates.
-/
namespace Go.Proofs.YtgpafbbnobanbaaGreatDoor.AM
open Go

theorem mm_ok {P : Program} {w : World} {e : Env} {φ : Phi} {a : Act} (he : EnvOK φ e a) {isMax : Bool} {k : IntKind} : ∀ {xs : List Operand} {ys : List Opd} {m : Int} {c : C}, All2 (fun x y => okOpd x y = true) xs ys → mmL e isMax k m ys = some c →
    ((xs.map a.eval).foldlM (if isMax then Builtin.max2 else Builtin.min2) (.int k m)).run P w = .ok (match c with | .int _ n => .int k n | _ => .int k 0) w ∧ ∃ n, c = .int k n
  | [], [], m, c, _, h => by
    simp only [mmL, Option.some.injEq] at h
    subst h
    exact ⟨rfl, m, rfl⟩
  | x :: xs, y :: ys, m, c, hk, h => by
    have hx := opd_ok he hk.1
    simp only [mmL] at h
    split at h
    · rename_i k' b hm
      rw [hm] at hx
      have hx : a.eval x = .int k' b := hx
      split at h
      · rename_i hkk
        subst hkk
        obtain ⟨h1, h2⟩ := mm_ok (P := P) (w := w) he hk.2 h
        refine ⟨?_, h2⟩
        rw [← h1]
        simp only [List.map_cons, List.foldlM_cons, Sem.run_bind, hx]
        cases isMax <;> simp [Builtin.max2, Builtin.min2, mmI]
      · cases h
    · cases h
  | [], _ :: _, _, _, h, _ => h.elim
  | _ :: _, [], _, _, h, _ => h.elim
theorem pop_mnmx {P : Program} {isMax : Bool} {ts : Array TypeId} {xs : Array Operand} {ys : List Opd} (h : All2 (fun x y => okOpd x y = true) xs.toList ys) : PopOK P (.call { callee := .builtin (if isMax then .max else .min), args := xs, argTypes := ts }) (.mnmx isMax ys) := by
  refine PopOK.of_pure fun φ e a w n v bs o hop he hev => ?_
  simp only [POp.ev] at hev
  split at hev
  · cases hev
  · rename_i y ys
    obtain ⟨xs⟩ := xs
    cases xs with
    | nil => exact h.elim
    | cons x xs =>
      have hx := opd_ok he h.1
      split at hev
      · rename_i k m hm
        rw [hm] at hx
        have hx : a.eval x = .int k m := hx
        simp only [Option.map_eq_some_iff, Prod.mk.injEq] at hev
        obtain ⟨c, hc, rfl, rfl⟩ := hev
        obtain ⟨h1, n', rfl⟩ := mm_ok (P := P) (w := w) he h.2 hc
        refine ⟨rfl, .int k n', ?_, rfl⟩
        cases isMax
        · simp only [Bool.false_eq_true, if_false] at h1 hop
          simp [execOp, hop, resolve, invoke, builtin, Builtin.min_, hx, h1]
        · simp only [if_true] at h1 hop
          simp [execOp, hop, resolve, invoke, builtin, Builtin.max_, hx, h1]
      · cases hev

/-- the parts of a literal -/
def PartsOK (place : Nat → Option (Nat × Nat)) : List (Nat × Operand) → List (Nat × Nat × Opd) → Prop
  | [], [] => True
  | (i, x) :: ps, (o, n, y) :: qs => place i = some (o, n) ∧ okOpd x y = true ∧ PartsOK place ps qs
  | _, _ => False
theorem setAt_ok {φ : Phi} : ∀ {xs : List C} {us : List Value} (cs : List C) (cur : Array Value) (o : Nat), All2 (VRc φ) xs us → All2 (VRc φ) cs cur.toList →
    All2 (VRc φ) (setAt cs o xs) ((us.zipIdx.foldl (fun (s : Array Value) (p : Value × Nat) => s.setIfInBounds (o + p.2) p.1) cur).toList)
  | [], [], _, _, _, _, h => h
  | x :: xs, u :: us, cs, cur, o, hx, h => by
    have hstep : All2 (VRc φ) (cs.set o x) (cur.setIfInBounds o u).toList := by
      rw [Array.toList_setIfInBounds]; exact h.set hx.1 o
    have ih := setAt_ok (cs.set o x) (cur.setIfInBounds o u) (o + 1) hx.2 hstep
    have hz : ∀ (us : List Value) (k : Nat) (cur : Array Value), (us.zipIdx (k + 1)).foldl (fun (s : Array Value) (p : Value × Nat) => s.setIfInBounds (o + p.2) p.1) cur = (us.zipIdx k).foldl (fun (s : Array Value) (p : Value × Nat) => s.setIfInBounds (o + 1 + p.2) p.1) cur := by
      intro us
      induction us with
      | nil => intro k cur; rfl
      | cons v us ih =>
        intro k cur
        simp only [List.zipIdx_cons, List.foldl_cons]
        rw [ih (k + 1)]
        congr 2
        omega
    simp only [setAt, List.zipIdx_cons, List.foldl_cons, Nat.add_zero]
    rw [hz us 0]
    exact ih
  | [], _ :: _, _, _, _, h, _ => h.elim
  | _ :: _, [], _, _, _, h, _ => h.elim
theorem setAt_length : ∀ (xs : List C) (cs : List C) (o : Nat), (setAt cs o xs).length = cs.length
  | [], _, _ => rfl
  | x :: xs, cs, o => by simp [setAt, setAt_length xs]
theorem fill_ok {φ : Phi} {e : Env} {a : Act} (he : EnvOK φ e a) {place : Nat → Option (Nat × Nat)} : ∀ {ps : List (Nat × Operand)} {qs : List (Nat × Nat × Opd)} {cs cs' : List C} {cur : Array Value}, PartsOK place ps qs → fillAt e qs cs = some cs' → All2 (VRc φ) cs cur.toList →
    ∃ cur', Instr.fill place cur (ps.map fun p => (p.1, a.eval p.2)) = some cur' ∧ All2 (VRc φ) cs' cur'.toList
  | [], [], cs, cs', cur, _, h, hc => by
    simp only [fillAt, Option.some.injEq] at h
    subst h
    exact ⟨cur, rfl, hc⟩
  | (i, x) :: ps, (o, n, y) :: qs, cs, cs', cur, hp, h, hc => by
    obtain ⟨hpl, hxy, hps⟩ := hp
    simp only [fillAt] at h
    split at h
    · rename_i hcond
      obtain ⟨vs, hvs, ha⟩ := (opd_ok he hxy).cells hcond.2.2
      have hstep := setAt_ok cs cur o ha hc
      obtain ⟨cur', h1, h2⟩ := fill_ok he hps h hstep
      refine ⟨cur', ?_, h2⟩
      have hl := ha.length
      have hl2 := hc.length
      have hcs : (a.eval x).cells.size = n := by rw [hvs]; simp; omega
      have hsz : cur.size = cs.length := by rw [hl2]; simp
      simp only [List.map_cons, Instr.fill, hpl, hcs]
      rw [if_neg (by simp; omega)]
      have e1 : (a.eval x).cells.zipIdx.foldl (fun (s : Array Value) (p : Value × Nat) => s.setIfInBounds (o + p.2) p.1) cur = vs.zipIdx.foldl (fun (s : Array Value) (p : Value × Nat) => s.setIfInBounds (o + p.2) p.1) cur := by
        rw [hvs, ← Array.foldl_toList]; simp
      rw [← h1]
      congr 1
    · cases h
  | [], _ :: _, _, _, _, h, _, _ => h.elim
  | _ :: _, [], _, _, _, h, _, _ => h.elim

theorem run_places {P : Program} {w : World} (fs : Array Field) (h : ∀ f ∈ fs.toList, (szT P f.type).isSome = true) :
    (fs.mapM fun (f : Field) => do pure (f.offset, ← sizeOf f.type)).run P w = .ok (fs.map fun f => (f.offset, (szT P f.type).getD 0)) w := by
  have key : ∀ l : List Field, (∀ f ∈ l, (szT P f.type).isSome = true) → (l.mapM fun (f : Field) => do pure (f.offset, ← sizeOf f.type)).run P w = .ok (l.map fun f => (f.offset, (szT P f.type).getD 0)) w := by
    intro l hl
    induction l with
    | nil => rfl
    | cons f l ih =>
      obtain ⟨n, hn⟩ := Option.isSome_iff_exists.1 (hl f (by simp))
      have ih := ih fun g hg => hl g (by simp [hg])
      simp only [List.mapM_cons, Sem.run_bind, run_size hn, Result.andThen_ok, Sem.run_pure, ih, List.map_cons, hn, Option.getD_some]
  rw [Array.mapM_eq_mapM_toList]
  simp only [Sem.run_map, key fs.toList h, Result.andThen_ok]
  congr 1
  apply Array.ext'
  simp
theorem run_zero {P : Program} {w : World} {t : TypeId} {v : Value} (hz : ((P.info? t).bind (·.zero)) = some v) : (zeroValue t).run P w = .ok v w := by
  obtain ⟨i, hi, hz⟩ := Option.bind_eq_some_iff.1 hz
  simp [zeroValue, typeInfo, hi, hz]
theorem Phi.none_eq {φ : Phi} {n k : Nat} (h : ∀ j, j < k → φ (n + j) = Option.none) : φ.none n k = φ := by
  funext i
  unfold Phi.none
  split
  · rename_i hi
    have := h (i - n) (by omega)
    rw [show n + (i - n) = i by omega] at this
    exact this.symm
  · rfl
theorem pop_build {P : Program} {t : TypeId} {z : List Z} {v0 : Value} {ps : Array (Nat × Operand)} {qs : List (Nat × Nat × Opd)} {place : Nat → Option (Nat × Nat)} (hz : ((P.info? t).bind (·.zero)) = some v0) (hzs : okZs v0.cells.toList z = true)
    (hp : PartsOK place ps.toList qs)
    (hpl : (∃ fs, P.underlying t = some (.struct fs) ∧ (∀ f ∈ fs.toList, (szT P f.type).isSome = true) ∧ place = fun i => (fs.map fun f => (f.offset, (szT P f.type).getD 0))[i]?) ∨
      (∃ k el sz, P.underlying t = some (.array k el) ∧ szT P el = some sz ∧ place = fun i => some (i * sz, sz))) : PopOK P (.build t ps) (.build z qs) := by
  intro φ e a w n v bs o hop he hev hf
  simp only [POp.ev, Option.map_eq_some_iff, Prod.mk.injEq] at hev
  obtain ⟨cs, hc, rfl, rfl⟩ := hev
  obtain ⟨cur, h1, h2⟩ := fill_ok he hp hc (okZs_ok n hzs)
  refine ⟨.agg cur, w, φ.none n (inst z n).2.length, ?_, ?_, New.empties⟩
  · have hm : (ps.map fun (i, x) => (i, a.eval x)).toList = ps.toList.map fun p => (p.1, a.eval p.2) := by simp
    rcases hpl with ⟨fs, hu, hfs, rfl⟩ | ⟨k, el, sz, hu, hs, rfl⟩
    · simp only [execOp, hop, Instr.build, Sem.run_bind, run_zero hz, Result.andThen_ok, run_underlying hu, run_places fs hfs, hm, h1, Sem.run_pure]
    · simp only [execOp, hop, Instr.build, Sem.run_bind, run_zero hz, Result.andThen_ok, run_underlying hu, run_size hs, hm, h1, Sem.run_pure]
  · rw [Phi.none_eq hf]
    exact ⟨cur.toList, by simp, h2⟩
theorem rep_ok {φ : Phi} {vs : List Value} {z : List Z} (h : okZs vs z = true) : ∀ (k n : Nat), All2 (VRc φ) (inst (rep k z) n).1 (List.replicate k vs).flatten
  | 0, n => trivial
  | k + 1, n => by
    simp only [rep, List.replicate_succ, List.flatten_cons]
    have key : ∀ (z' : List Z) (vs' : List Value) (z : List Z) (n : Nat), okZs vs' z = true → (∀ n, All2 (VRc φ) (inst z' n).1 (List.replicate k vs).flatten) → All2 (VRc φ) (inst (z ++ z') n).1 (vs' ++ (List.replicate k vs).flatten) := by
      intro z' vs'
      induction vs' with
      | nil => intro z n hz h'; cases z with
        | nil => exact h' n
        | cons => simp [okZs] at hz
      | cons u us ih => intro z n hz h'; cases z with
        | nil => simp [okZs] at hz
        | cons x z =>
          cases x with
          | k c =>
            simp only [okZs, Bool.and_eq_true] at hz
            exact ⟨okC_ok hz.1, ih z n hz.2 h'⟩
          | sl s =>
            unfold okZs at hz
            split at hz
            · rename_i h1 _; cases h1
            · rename_i h1 h2; injection h2 with h2; cases h2
            · rename_i h1 h2
              injection h1 with h1 h1'; injection h2 with h2 h2'
              subst h1; subst h1'; subst h2'
              exact ⟨.inl ⟨rfl, none, rfl⟩, ih z (n + 1) hz h'⟩
            · cases hz
    exact key (rep k z) vs z n h fun n => rep_ok h k n
theorem zeros_list (zs : Array Value) (k sz : Nat) (h : zs.size = sz) : ((Array.range (k * sz)).map (zs[· % zs.size]!)).toList = (List.replicate k zs.toList).flatten := by
  induction k with
  | zero => simp
  | succ k ih =>
    rw [List.replicate_succ', List.flatten_append, ← ih]
    simp only [Array.toList_map, Array.toList_range, Nat.succ_mul, List.range_add, List.map_append, List.map_map]
    congr 1
    simp only [List.flatten_cons, List.flatten_nil, List.append_nil]
    apply List.ext_getElem
    · simp [h]
    · intro i h1 h2
      simp at h1
      simp only [List.getElem_map, List.getElem_range, Function.comp_apply]
      have e1 : (k * sz + i) % zs.size = i := by
        rw [h, Nat.add_comm, Nat.mul_comm, Nat.add_mul_mod_self_left]; exact Nat.mod_eq_of_lt (by omega)
      rw [e1, getElem!_pos zs i (by omega)]
      simp
theorem pop_mksl {P : Program} {t el : TypeId} {k sz : Nat} {z : List Z} {v0 : Value} {ps : Array (Nat × Operand)} {qs : List (Nat × Nat × Opd)} (ht : P.underlying t = some (.slice el)) (hs : szT P el = some sz) (hz : ((P.info? el).bind (·.zero)) = some v0) (hzs : okZs v0.cells.toList z = true)
    (hsz : v0.cells.size = sz) (hp : PartsOK (fun i => some (i * sz, sz)) ps.toList qs) (hlim : k * sz ≤ 2 ^ 24) (hk : k ≤ 2 ^ 24) : PopOK P (.buildSlice t k ps) (.mksl sz k z qs) := by
  intro φ e a w n v bs o hop he hev hf
  simp only [POp.ev] at hev
  split at hev
  · rename_i hln
    simp only [Option.map_eq_some_iff, Prod.mk.injEq] at hev
    obtain ⟨cs, hc, rfl, rfl⟩ := hev
    obtain ⟨cur0, hcur0⟩ : ∃ c : Array Value, c = (List.replicate k v0.cells.toList).flatten.toArray := ⟨_, rfl⟩
    have hreal : ∀ zr : Array Value, (k * sz = 0 ∨ zr = v0.cells) → ((Array.range (k * sz)).map fun x => zr[x % zr.size]!) = cur0 := by
      intro zr hzr
      apply Array.ext'
      rw [hcur0]
      rcases hzr with h0 | rfl
      · have : (List.replicate k v0.cells.toList).flatten.length = 0 := by simp [hsz, h0]
        rw [List.eq_nil_of_length_eq_zero this, h0]
        simp
      · exact zeros_list v0.cells k sz hsz
    obtain ⟨cur, h1, h2⟩ := fill_ok (cur := cur0) he hp hc (by rw [hcur0]; exact rep_ok hzs k (n + 1))
    have hcl : cs.length = k * sz := by
      have : ∀ (qs : List (Nat × Nat × Opd)) (cs cs' : List C), fillAt e qs cs = some cs' → cs'.length = cs.length := by
        intro qs
        induction qs with
        | nil => intro cs cs' h; simp only [fillAt, Option.some.injEq] at h; rw [h]
        | cons q qs ih =>
          intro cs cs' h
          simp only [fillAt] at h
          split at h
          · rw [ih _ _ h, setAt_length]
          · cases h
      rw [this _ _ _ hc, hln]
    have hcur : cur.size = k * sz := by have := h2.length; simp at this; omega
    have hle : Le φ (φ.at n ((inst (rep k z) (n + 1)).2.length + 1) ⟨w.heap.size, 0, cur.size⟩) := by
      intro i p hpi
      unfold Phi.at
      by_cases hi : n ≤ i ∧ i < n + ((inst (rep k z) (n + 1)).2.length + 1)
      · have := hf (i - n) (by simp; omega)
        rw [show n + (i - n) = i by omega, hpi] at this
        cases this
      · rw [if_neg (by omega), if_neg (by omega)]; exact hpi
    refine ⟨.slice (some ⟨w.heap.size, 0, none⟩) k k, w.alloc (.cells cur el), _, ?_, .inr ⟨⟨w.heap.size, 0, cur.size⟩, k, by simp [Phi.at], rfl, Nat.le_refl _, ?_, ?_⟩,
      New.row (cs := cs) (cur := cur) (fun φ' hφ => ⟨cur.toList, by rw [h2.length]; exact List.take_length, h2.mono fun i p hpi => ?_⟩) w (Fr.refl _ _)⟩
    · have hm : (ps.map fun (i, x) => (i, a.eval x)).toList = ps.toList.map fun p => (p.1, a.eval p.2) := by simp
      have hlim' : ¬ (k * sz > 2 ^ 24) := by omega
      by_cases h0 : k * sz = 0
      · have hr := hreal #[] (.inl h0)
        have hr0 : ∀ f : Nat → Value, (Array.range 0).map f = #[] := fun f => by apply Array.ext'; simp
        rw [h0, hr0] at hr
        subst hr
        simp only [execOp, hop, Instr.buildSlice, Sem.run_bind, run_underlying ht, Result.andThen_ok, run_size hs, h0, if_true, Sem.run_pure, hr0, hm, h1]
        simp [newRow]
      · have hr := hreal v0.cells (.inr rfl)
        simp only [execOp, hop, Instr.buildSlice, Sem.run_bind, run_underlying ht, Result.andThen_ok, run_size hs, hlim', h0, if_false, Sem.run_pure, run_zero hz, hr, hm, h1]
        simp [newRow]
    · unfold maxLen; omega
    · simp [hcur]
    · have := hle i p hpi
      by_cases hi : i < n ∨ n + ((inst (rep k z) (n + 1)).2.length + 1) ≤ i
      · rw [hφ i hi]; exact hpi
      · have := hf (i - n) (by simp; omega)
        rw [show n + (i - n) = i by omega, hpi] at this
        cases this
  · cases hev
end Go.Proofs.YtgpafbbnobanbaaGreatDoor.AM

/-
  Equality of structs and arrays of plain cells; make of a slice; the test of an error against nil.
-/
namespace Go.Proofs.YtgpafbbnobanbaaGreatDoor.AM
open Go

/-- the kinds of a plain type's cells -/
def fieldKinds (P : Program) (rec : TypeId → Option (List CK)) : Nat → List Field → Option (List CK)
  | _, [] => some []
  | off, f :: fs => if f.name ≠ "_" ∧ f.offset = off then (rec f.type).bind fun ks => if szT P f.type = some ks.length then (fieldKinds P rec (off + ks.length) fs).map (ks ++ ·) else none else none
def tyKinds (P : Program) : Nat → TypeId → Option (List CK)
  | 0, _ => none
  | d + 1, t => match P.underlying t with
    | some .bool => some [.bool]
    | some (.int k) => some [.int k]
    | some .string => some [.str]
    | some (.array n e) => (tyKinds P d e).bind fun ks => if szT P e = some ks.length then some (List.replicate n ks).flatten else none
    | some (.struct fs) => if P.stoodInHeld t = false then fieldKinds P (tyKinds P d) 0 fs.toList else none
    | _ => none
def cval : C → Value
  | .int k n => .int k n
  | .bool b => .bool b
  | .str s => .string ⟨s.toArray⟩
  | _ => .nilIface
theorem conf_val {φ : Phi} : ∀ {ks : List CK} {xs : List C} {vs : List Value}, conf ks xs = true → All2 (VRc φ) xs vs → vs = xs.map cval
  | [], [], [], _, _ => rfl
  | k :: ks, x :: xs, v :: vs, h, ha => by
    simp only [conf, Bool.and_eq_true] at h
    have := conf_val h.2 ha.2
    subst this
    have hv := ha.1
    unfold conf1 at h
    split at h
    · rw [show v = _ from hv]; rfl
    · rw [show v = _ from hv]; rfl
    · rw [show v = _ from hv]; rfl
    · cases h.1
  | [], _ :: _, _, h, _ => by simp [conf] at h
  | _ :: _, [], _, h, _ => by simp [conf] at h
  | _, [], _ :: _, _, ha => ha.elim
  | _, _ :: _, [], _, ha => ha.elim
theorem conf_length : ∀ {ks : List CK} {xs : List C}, conf ks xs = true → xs.length = ks.length
  | [], [], _ => rfl
  | k :: ks, x :: xs, h => by simp only [conf, Bool.and_eq_true] at h; simp [conf_length h.2]
  | [], _ :: _, h => by simp [conf] at h
  | _ :: _, [], h => by simp [conf] at h
theorem conf_append : ∀ {ks ks' : List CK} {xs : List C}, conf (ks ++ ks') xs = true → conf ks (xs.take ks.length) = true ∧ conf ks' (xs.drop ks.length) = true
  | [], ks', xs, h => ⟨by simp [conf], by simpa using h⟩
  | k :: ks, ks', [], h => by simp [conf] at h
  | k :: ks, ks', x :: xs, h => by
    simp only [List.cons_append, conf, Bool.and_eq_true] at h
    obtain ⟨h1, h2⟩ := conf_append h.2
    simp only [List.length_cons, List.take_succ_cons, List.drop_succ_cons, conf, Bool.and_eq_true]
    exact ⟨⟨h.1, h1⟩, h2⟩
/-- a value of a type, out of its cells -/
def form (agg : Bool) (xs : List C) : Value := if agg then .agg (xs.map cval).toArray else (xs.map cval).headD .nilIface
theorem run_part_form {P : Program} {w : World} {t : TypeId} {n off : Nat} {b : Bool} {xs : List C} (hs : szT P t = some n) (hb : aggT P t = some b) (h1 : b = true ∨ n = 1) (hl : off + n ≤ xs.length) :
    (part t (xs.map cval).toArray off).run P w = .ok (form b ((xs.drop off).take n)) w := by
  cases b with
  | true => simp [part, run_aggT hb, run_size hs, form]
  | false =>
    have hn : n = 1 := by simpa using h1
    subst hn
    have hg : (xs.map cval)[off]? = some (cval (xs[off]'(by omega))) := by rw [List.getElem?_map, List.getElem?_eq_getElem (by omega)]; rfl
    have hd : xs.drop off = xs[off]'(by omega) :: xs.drop (off + 1) := List.drop_eq_getElem_cons _
    have hg' : ((xs.map cval).toArray)[off]? = some (cval (xs[off]'(by omega))) := by rw [List.getElem?_toArray]; exact hg
    simp only [part, Sem.run_bind, run_aggT hb, Result.andThen_ok, Bool.false_eq_true, if_false, hg', Sem.run_pure, form, hd]
    rfl
/-- equality of all values of a type comes to that of their cells -/
def EqOK (P : Program) (t : TypeId) (ks : List CK) (d : Nat) : Prop :=
  ∃ b, aggT P t = some b ∧ (b = true ∨ ks.length = 1) ∧ ∀ (w : World) (D : Nat), d ≤ D → ∀ xs ys, conf ks xs = true → conf ks ys = true → (Op.equalIn D t (form b xs) (form b ys)).run P w = .ok (decide (xs = ys)) w
theorem eqItems_ok {P : Program} {w : World} {e : TypeId} {ks : List CK} {d D : Nat} (hs : szT P e = some ks.length) (he : EqOK P e ks d) (hD : d ≤ D) (xs ys : List C) : ∀ (n k : Nat), k * ks.length ≤ xs.length → k * ks.length ≤ ys.length → conf (List.replicate n ks).flatten (xs.drop (k * ks.length)) = true → conf (List.replicate n ks).flatten (ys.drop (k * ks.length)) = true →
    (Op.eqItems D e ks.length (xs.map cval).toArray (ys.map cval).toArray (List.range' k n)).run P w = .ok (decide (xs.drop (k * ks.length) = ys.drop (k * ks.length))) w
  | 0, k, _, _, hx, hy => by
    have h1 := conf_length hx
    have h2 := conf_length hy
    simp only [List.replicate_zero, List.flatten_nil, List.length_nil] at h1 h2
    simp [Op.eqItems, List.eq_nil_of_length_eq_zero h1, List.eq_nil_of_length_eq_zero h2]
  | n + 1, k, hkx, hky, hx, hy => by
    obtain ⟨b, hb, h1, heq⟩ := he
    have hlx := conf_length hx
    have hly := conf_length hy
    simp only [List.replicate_succ, List.flatten_cons, List.length_append] at hlx hly
    simp only [List.replicate_succ, List.flatten_cons] at hx hy
    obtain ⟨hx1, hx2⟩ := conf_append hx
    obtain ⟨hy1, hy2⟩ := conf_append hy
    rw [List.drop_drop, show k * ks.length + ks.length = (k + 1) * ks.length by rw [Nat.succ_mul]] at hx2 hy2
    have ih := eqItems_ok (w := w) hs ⟨b, hb, h1, heq⟩ hD xs ys n (k + 1) (by rw [List.length_drop] at hlx; rw [Nat.succ_mul]; omega) (by rw [List.length_drop] at hly; rw [Nat.succ_mul]; omega) hx2 hy2
    have p1 := run_part_form (P := P) (w := w) (xs := xs) (off := k * ks.length) hs hb h1 (by rw [List.length_drop] at hlx; omega)
    have p2 := run_part_form (P := P) (w := w) (xs := ys) (off := k * ks.length) hs hb h1 (by rw [List.length_drop] at hly; omega)
    have he1 := heq w D hD _ _ hx1 hy1
    simp only [List.range'_succ, Op.eqItems, Sem.run_bind, p1, p2, he1, Result.andThen_ok, Sem.run_ite, Sem.run_pure, ih]
    have hxs : xs.drop (k * ks.length) = (xs.drop (k * ks.length)).take ks.length ++ xs.drop ((k + 1) * ks.length) := by
      rw [Nat.succ_mul, ← List.drop_drop, List.take_append_drop]
    have hys : ys.drop (k * ks.length) = (ys.drop (k * ks.length)).take ks.length ++ ys.drop ((k + 1) * ks.length) := by
      rw [Nat.succ_mul, ← List.drop_drop, List.take_append_drop]
    have hl1 := conf_length hx1
    have hl2 := conf_length hy1
    by_cases h : (xs.drop (k * ks.length)).take ks.length = (ys.drop (k * ks.length)).take ks.length
    · simp only [h, decide_true, Bool.not_true, Bool.false_eq_true, if_false]
      congr 1
      apply Bool.eq_iff_iff.2
      simp only [decide_eq_true_eq]
      constructor
      · intro h2; rw [hxs, hys, h, h2]
      · intro h2
        rw [hxs, hys] at h2
        exact (List.append_inj h2 (by rw [hl1, hl2])).2
    · simp only [h, decide_false, Bool.not_false, if_true]
      congr 1
      symm
      simp only [decide_eq_false_iff_not]
      intro h2
      rw [hxs, hys] at h2
      exact h (List.append_inj h2 (by rw [hl1, hl2])).1
theorem eqFields_ok {P : Program} {w : World} {d D : Nat} {rec : TypeId → Option (List CK)} (hrec : ∀ t ks, rec t = some ks → EqOK P t ks d) (hD : d ≤ D) (xs ys : List C) : ∀ (fs : List Field) (off : Nat) (ks : List CK), off ≤ xs.length → off ≤ ys.length → fieldKinds P rec off fs = some ks → conf ks (xs.drop off) = true → conf ks (ys.drop off) = true →
    (Op.eqFields D (xs.map cval).toArray (ys.map cval).toArray fs).run P w = .ok (decide (xs.drop off = ys.drop off)) w
  | [], off, ks, _, _, hk, hx, hy => by
    simp only [fieldKinds, Option.some.injEq] at hk
    subst hk
    have h1 := conf_length hx
    have h2 := conf_length hy
    simp only [List.length_nil] at h1 h2
    simp only [Op.eqFields, Sem.run_pure, List.eq_nil_of_length_eq_zero h1, List.eq_nil_of_length_eq_zero h2, decide_true]
  | f :: fs, off, ks, hox, hoy, hk, hx, hy => by
    simp only [fieldKinds] at hk
    split at hk
    · rename_i hn
      obtain ⟨k1, hk1, hk⟩ := Option.bind_eq_some_iff.1 hk
      split at hk
      · rename_i hs
        obtain ⟨k2, hk2, rfl⟩ := Option.map_eq_some_iff.1 hk
        obtain ⟨b, hb, h1, heq⟩ := hrec _ _ hk1
        have hlx := conf_length hx
        have hly := conf_length hy
        simp only [List.length_append] at hlx hly
        obtain ⟨hx1, hx2⟩ := conf_append hx
        obtain ⟨hy1, hy2⟩ := conf_append hy
        rw [List.drop_drop] at hx2 hy2
        have ih := eqFields_ok (w := w) hrec hD xs ys fs (off + k1.length) k2 (by rw [List.length_drop] at hlx; omega) (by rw [List.length_drop] at hly; omega) hk2 hx2 hy2
        have p1 := run_part_form (P := P) (w := w) (xs := xs) (off := off) hs hb h1 (by rw [List.length_drop] at hlx; omega)
        have p2 := run_part_form (P := P) (w := w) (xs := ys) (off := off) hs hb h1 (by rw [List.length_drop] at hly; omega)
        have he1 := heq w D hD _ _ hx1 hy1
        have ho : f.offset = off := hn.2
        rw [← ho] at p1 p2
        simp only [Op.eqFields, hn.1, ne_eq, not_false_eq_true, if_true, Sem.run_bind, p1, p2, Result.andThen_ok]
        rw [ho, he1]
        simp only [Result.andThen_ok, Sem.run_ite, Sem.run_pure, ih]
        have hxs : xs.drop off = (xs.drop off).take k1.length ++ xs.drop (off + k1.length) := by
          rw [← List.drop_drop, List.take_append_drop]
        have hys : ys.drop off = (ys.drop off).take k1.length ++ ys.drop (off + k1.length) := by
          rw [← List.drop_drop, List.take_append_drop]
        have hl1 := conf_length hx1
        have hl2 := conf_length hy1
        by_cases h : (xs.drop off).take k1.length = (ys.drop off).take k1.length
        · simp only [h, decide_true, Bool.not_true, Bool.false_eq_true, if_false]
          congr 1
          apply Bool.eq_iff_iff.2
          simp only [decide_eq_true_eq]
          constructor
          · intro h2; rw [hxs, hys, h, h2]
          · intro h2
            rw [hxs, hys] at h2
            exact (List.append_inj h2 (by rw [hl1, hl2])).2
        · simp only [h, decide_false, Bool.not_false, if_true]
          congr 1
          symm
          simp only [decide_eq_false_iff_not]
          intro h2
          rw [hxs, hys] at h2
          exact h (List.append_inj h2 (by rw [hl1, hl2])).1
      · cases hk
    · cases hk
theorem eq_ok {P : Program} : ∀ (d : Nat) (t : TypeId) (ks : List CK), tyKinds P d t = some ks → EqOK P t ks d
  | 0, _, _, h => by simp [tyKinds] at h
  | d + 1, t, ks, h => by
    simp only [tyKinds] at h
    have pos : ∀ D, d + 1 ≤ D → ∃ D', D = D' + 1 ∧ d ≤ D' := fun D hD => ⟨D - 1, by omega, by omega⟩
    split at h
    · rename_i hu
      injection h with h; subst h
      refine ⟨false, by simp [aggT, hu], .inr rfl, fun w D hD xs ys hx hy => ?_⟩
      obtain ⟨D, rfl, _⟩ := pos D hD
      obtain ⟨x, rfl⟩ : ∃ x, xs = [x] := List.length_eq_one_iff.1 (conf_length hx)
      obtain ⟨y, rfl⟩ : ∃ x, ys = [x] := List.length_eq_one_iff.1 (conf_length hy)
      cases x <;> simp [conf, conf1] at hx
      cases y <;> simp [conf, conf1] at hy
      simp [form, cval, Op.equalIn, run_underlying hu]
      apply Bool.eq_iff_iff.2
      simp
    · rename_i k hu
      injection h with h; subst h
      refine ⟨false, by simp [aggT, hu], .inr rfl, fun w D hD xs ys hx hy => ?_⟩
      obtain ⟨D, rfl, _⟩ := pos D hD
      obtain ⟨x, rfl⟩ : ∃ x, xs = [x] := List.length_eq_one_iff.1 (conf_length hx)
      obtain ⟨y, rfl⟩ : ∃ x, ys = [x] := List.length_eq_one_iff.1 (conf_length hy)
      cases x <;> simp [conf, conf1] at hx
      cases y <;> simp [conf, conf1] at hy
      subst hx; subst hy
      simp [form, cval, Op.equalIn, run_underlying hu]
      apply Bool.eq_iff_iff.2
      simp
    · rename_i hu
      injection h with h; subst h
      refine ⟨false, by simp [aggT, hu], .inr rfl, fun w D hD xs ys hx hy => ?_⟩
      obtain ⟨D, rfl, _⟩ := pos D hD
      obtain ⟨x, rfl⟩ : ∃ x, xs = [x] := List.length_eq_one_iff.1 (conf_length hx)
      obtain ⟨y, rfl⟩ : ∃ x, ys = [x] := List.length_eq_one_iff.1 (conf_length hy)
      cases x <;> simp [conf, conf1] at hx
      cases y <;> simp [conf, conf1] at hy
      rename_i s1 _ s2 _
      simp only [form, cval, Op.equalIn, Sem.run_bind, run_underlying hu, Result.andThen_ok, Bool.false_eq_true, if_false, List.map_cons, List.map_nil, List.headD_cons, Sem.run_pure, beq_toListBytes, ByteArray.toList_eq]
      congr 1
      apply Bool.eq_iff_iff.2
      simp
    · rename_i n e hu
      obtain ⟨k1, hk1, h⟩ := Option.bind_eq_some_iff.1 h
      split at h
      · rename_i hs
        injection h with h; subst h
        have he := eq_ok d e k1 hk1
        refine ⟨true, by simp [aggT, hu], .inl rfl, fun w D hD xs ys hx hy => ?_⟩
        obtain ⟨D, rfl, hD'⟩ := pos D hD
        obtain ⟨i, hi, hil⟩ := Option.map_eq_some_iff.1 hs
        have hc : P.cellsOf e = k1.length := by simp [Program.cellsOf, hi, hil]
        simp only [form, if_true]
        rw [run_equalIn_array w D _ _ hu hi, hc, List.range_eq_range']
        have := eqItems_ok (w := w) hs he hD' xs ys n 0 (by simp) (by simp) (by simpa using hx) (by simpa using hy)
        simpa using this
      · cases h
    · rename_i fs hu
      split at h
      · rename_i hp
        refine ⟨true, by simp [aggT, hu], .inl rfl, fun w D hD xs ys hx hy => ?_⟩
        obtain ⟨D, rfl, hD'⟩ := pos D hD
        simp only [form, if_true]
        have hfs : P.fieldsOf t = fs := by simp [Program.fieldsOf, hu]
        rw [run_equalIn_agg w D t _ _ (by rw [hfs]; exact hu) hp, hfs]
        have := eqFields_ok (w := w) (fun t ks h => eq_ok d t ks h) hD' xs ys fs.toList 0 ks (by simp) (by simp) h (by simpa using hx) (by simpa using hy)
        simpa using this
      · cases h
    · cases h
theorem pop_eqv {P : Program} {t u : TypeId} {op : BinOp} {neg : Bool} {d : Nat} {ks : List CK} {x y : Operand} {x' y' : Opd} (hx : okOpd x x' = true) (hy : okOpd y y' = true) (ht : aggT P t = some true) (hk : tyKinds P d t = some ks) (hd : d ≤ 10000) (hg : P.eqGuardType P.depth t = false)
    (ho : op = if neg then .neq else .eql) : PopOK P (.binOp op t x y u) (.eqv neg ks x' y') := by
  refine PopOK.of_pure fun φ e a w n v bs o hop he hev => ?_
  have hx := opd_ok he hx
  have hy := opd_ok he hy
  simp only [POp.ev] at hev
  split at hev
  · rename_i xs ys hm hm'
    rw [hm] at hx; rw [hm'] at hy
    obtain ⟨vs, hv, ha⟩ := hx
    obtain ⟨us, hu, hb⟩ := hy
    split at hev
    · rename_i hc
      simp only [Option.some.injEq, Prod.mk.injEq] at hev
      obtain ⟨rfl, rfl⟩ := hev
      have e1 := conf_val hc.1 ha
      have e2 := conf_val hc.2 hb
      subst e1; subst e2
      obtain ⟨b, hb', _, heq⟩ := eq_ok d t ks hk
      rw [ht] at hb'; injection hb' with hb'; subst hb'
      have hrun := heq w 10000 hd xs ys hc.1 hc.2
      simp only [form, if_true] at hrun
      refine ⟨rfl, .bool (if neg then !(decide (xs = ys)) else decide (xs = ys)), ?_, rfl⟩
      cases neg
      · simp only [Bool.false_eq_true, if_false] at ho ⊢
        subst ho
        simp only [execOp, hop, hv, hu, Sem.run_bind, run_eqGuard_agg w .eql t x y _ _ hg, Result.andThen_ok, run_eql_struct, hrun, Sem.run_pure]
      · simp only [if_true] at ho ⊢
        subst ho
        simp only [execOp, hop, hv, hu, Sem.run_bind, run_eqGuard_agg w .neq t x y _ _ hg, Result.andThen_ok, run_neq_struct, hrun, Sem.run_pure]
    · cases hev
  · cases hev

theorem pop_iserr {P : Program} {t u : TypeId} {op : BinOp} {neg : Bool} {x y : Operand} {x' : Opd} (hx : okOpd x x' = true) (hy : y = .const .nilIface) {ms : Array (String × TypeId)} (ht : P.underlying t = some (.interface ms)) (ho : op = if neg then .neq else .eql) : PopOK P (.binOp op t x y u) (.iserr neg x') := by
  refine PopOK.of_pure fun φ e a w n v bs o hop he hev => ?_
  have hx := opd_ok he hx
  subst hy
  have e0 : a.eval (.const .nilIface) = .nilIface := rfl
  simp only [POp.ev] at hev
  split at hev
  · rename_i b hm
    rw [hm] at hx
    simp only [Option.some.injEq, Prod.mk.injEq] at hev
    obtain ⟨rfl, rfl⟩ := hev
    refine ⟨rfl, .bool (if neg then b else !b), ?_, rfl⟩
    have eqr : ∀ d, (Op.equalIn (d + 1) t (a.eval x) .nilIface).run P w = .ok (!b) w := by
      intro d
      cases b with
      | true =>
        obtain ⟨t', v, hv⟩ := hx
        simp [hv, Op.equalIn, run_underlying ht]
      | false =>
        have hv : a.eval x = .nilIface := hx
        simp [hv, Op.equalIn, run_underlying ht]
    have eqr := eqr 9999
    have gd : (eqGuard op t x (.const .nilIface) (a.eval x) .nilIface).run P w = .ok () w := by
      cases b with
      | true =>
        obtain ⟨t', v, hv⟩ := hx
        rw [hv]
        exact eqGuard_ok (fun _ => by simp) (by simp)
      | false =>
        have hv : a.eval x = .nilIface := hx
        rw [hv]
        cases neg <;> (simp only [Bool.false_eq_true, if_false, if_true] at ho; subst ho; simp [eqGuard])
    have hb : ∀ z : Value, (∃ t' v, z = .iface t' v) ∨ z = .nilIface → binOp op t z .nilIface = if neg then (do pure (.bool (!(← Op.equal t z .nilIface)))) else (do pure (.bool (← Op.equal t z .nilIface))) := by
      intro z hz
      cases neg <;> (simp only [Bool.false_eq_true, if_false, if_true] at ho ⊢; subst ho; rcases hz with ⟨t', v, rfl⟩ | rfl <;> rfl)
    have hz : (∃ t' v, a.eval x = .iface t' v) ∨ a.eval x = .nilIface := by
      cases b with
      | true => exact .inl hx
      | false => exact .inr hx
    have he2 : (Op.equal t (a.eval x) .nilIface).run P w = .ok (!b) w := eqr
    simp only [execOp, hop, e0, Sem.run_bind, gd, Result.andThen_ok, hb _ hz]
    cases neg <;> simp [he2]
  · cases hev
theorem pop_mkslice {P : Program} {t el : TypeId} {sz : Nat} {z : List Z} {v0 : Value} {l c : Operand} {l' c' : Opd} (hl : okOpd l l' = true) (hc : okOpd c c' = true) (ht : P.underlying t = some (.slice el)) (hs : szT P el = some sz) (hz : ((P.info? el).bind (·.zero)) = some v0) (hzs : okZs v0.cells.toList z = true) (hsz : v0.cells.size = sz)
    (hby : P.bytesOf el ≤ 2048) : PopOK P (.makeSlice t l c) (.mkslice sz z l' c') := by
  intro φ e a w n v bs o hop he hev hf
  have hl := opd_ok he hl
  have hc := opd_ok he hc
  simp only [POp.ev] at hev
  split at hev
  · rename_i ln cp h1 h2
    rw [h1] at hl; rw [h2] at hc
    have hl : a.eval l = .int .i64 ln := hl
    have hc : a.eval c = .int .i64 cp := hc
    split at hev
    · rename_i hcond
      obtain ⟨hln0, hlc, hcm, hzl, hzp⟩ := hcond
      simp only [Option.some.injEq, Prod.mk.injEq] at hev
      obtain ⟨rfl, rfl⟩ := hev
      obtain ⟨i, hi, hil⟩ := Option.map_eq_some_iff.1 hs
      have hbi : i.bytes ≤ 2048 := by simpa [Program.bytesOf, hi] using hby
      have hmr : (maxRoom : Int) = 68719476736 := rfl
      rw [hmr] at hcm
      have hw1 : IntKind.i64.wrap ln = ln := by unfold IntKind.wrap; simp [IntKind.bits, IntKind.signed]; omega
      have hw2 : IntKind.i64.wrap cp = cp := by unfold IntKind.wrap; simp [IntKind.bits, IntKind.signed]; omega
      have hmul : (i.bytes : Int) * cp ≤ 281474976710656 := by
        have : (i.bytes : Int) * cp ≤ 2048 * cp := Int.mul_le_mul_of_nonneg_right (by omega) (by omega)
        omega
      obtain ⟨cur, hcur⟩ : ∃ c : Array Value, c = (List.replicate cp.toNat v0.cells.toList).flatten.toArray := ⟨_, rfl⟩
      have hreal : ∀ zr : Array Value, (cp.toNat * sz = 0 ∨ zr = v0.cells) → ((Array.range (cp.toNat * sz)).map fun x => zr[x % zr.size]!) = cur := by
        intro zr hzr
        apply Array.ext'
        rw [hcur]
        rcases hzr with h0 | rfl
        · have : (List.replicate cp.toNat v0.cells.toList).flatten.length = 0 := by simp [hsz, h0]
          rw [List.eq_nil_of_length_eq_zero this, h0]
          simp
        · exact zeros_list v0.cells cp.toNat sz hsz
      have hcs : cur.size = cp.toNat * sz := by rw [hcur]; simp [hsz]
      have hlen : (inst (rep ln.toNat z) n).1.length = ln.toNat * sz := by
        rw [(rep_ok (φ := φ) hzs ln.toNat n).length]; simp [hsz]
      refine ⟨.slice (some ⟨w.heap.size, 0, none⟩) ln.toNat cp.toNat, w.alloc (.cells cur el), _, ?_, .inr ⟨⟨w.heap.size, 0, cur.size⟩, cp.toNat, by simp [Phi.at], rfl, by omega, by unfold maxLen; omega, by simp [hcs]⟩,
        New.row (cs := (inst (rep ln.toNat z) n).1) (bs := []) (cur := cur) (fun φ' _ => ⟨(List.replicate ln.toNat v0.cells.toList).flatten, ?_, rep_ok hzs ln.toNat n⟩) w (Fr.refl _ _)⟩
      · have hnot : ¬ (cp < 0 ∨ (281474976710656 : Int) < (i.bytes : Int) * cp) := by omega
        by_cases h0 : cp.toNat * sz = 0
        · have hr := hreal #[] (.inl h0)
          have hr0 : ∀ f : Nat → Value, (Array.range 0).map f = #[] := fun f => by apply Array.ext'; simp
          rw [h0, hr0] at hr
          subst hr
          simp [execOp, hop, Instr.makeSlice, run_underlying ht, hl, hc, asInt, asIntOf, typeInfo, hi, hw1, hw2, hnot, run_size hs, h0, hr0, newRow]
          omega
        · have hr := hreal v0.cells (.inr rfl)
          simp [execOp, hop, Instr.makeSlice, run_underlying ht, hl, hc, asInt, asIntOf, typeInfo, hi, hw1, hw2, hnot, run_size hs, h0, run_zero hz, hr, newRow]
          omega
      · rw [hlen, hcur]
        have e1 : cp.toNat = ln.toNat + (cp.toNat - ln.toNat) := by omega
        rw [e1, ← List.replicate_append_replicate, List.flatten_append]
        show List.take _ (_ ++ _) = _
        rw [List.take_append_of_le_length (by simp [hsz])]
        exact List.take_of_length_le (by simp [hsz])
    · cases hev
  · cases hev
/-- zeros appended to no slice: new memory -/
theorem run_grow0 {P : Program} {w : World} {t t' ty el : TypeId} {inf : TypeInfo} {v0 : Value} {k : IntKind} (ht : P.underlying t = some (.slice el)) (ht' : P.underlying t' = some (.int k)) (hi : P.info? el = some inf) (hz : inf.zero = some v0) (hzs : v0.cells.size = inf.size) (hsz : 0 < inf.size) (hby : inf.bytes ≤ 2048)
    {ad : Option Addr} {l : Int} (h0 : 0 < l) (hroom : l ≤ 68719476736) :
    ∃ cur ncap, (Builtin.append_ #[t, t'] ty #[.slice ad 0 0, .int .i64 l]).run P w = .ok (.slice (some ⟨w.heap.size, 0, none⟩) l.toNat ncap) (w.drew.alloc (.cells cur el)) ∧ l.toNat ≤ ncap ∧ ncap ≤ maxLen ∧ cur.size = ncap * inf.size ∧ cur.toList.take (l.toNat * inf.size) = (List.replicate l.toNat v0.cells.toList).flatten := by
  obtain ⟨n, rfl⟩ : ∃ n : Nat, l = (n : Int) := ⟨l.toNat, by omega⟩
  have hn0 : 0 < n := by omega
  have hn : ((n : Int)).toNat = n := by omega
  have hw1 : IntKind.i64.wrap (n : Int) = (n : Int) := by unfold IntKind.wrap; simp [IntKind.bits, IntKind.signed]; omega
  have hneg : ¬ ((n : Int) < 0) := by omega
  have hbig : ¬ ((281474976710656 : Int) < (n : Int) * (inf.bytes : Int)) := by
    have : (n : Int) * (inf.bytes : Int) ≤ 68719476736 * 2048 := Int.le_trans (Int.mul_le_mul_of_nonneg_right hroom (by omega)) (Int.mul_le_mul_of_nonneg_left (by omega) (by omega))
    omega
  have hns : ¬ n * inf.size = 0 := by
    have := Nat.mul_pos hn0 hsz; omega
  have hnz : ¬ (n = 0) := by omega
  have h63' : ¬ (9223372036854775807 < (n : Int)) := by omega
  have h47 : n * inf.bytes ≤ 140737488355328 := by
    have := Nat.mul_le_mul (show n ≤ 68719476736 by omega) hby
    omega
  have h48' : ¬ (281474976710656 < Builtin.nextslicecap n 0 * inf.bytes) := by have := growslice_fits (show 0 < n by omega) h47; omega
  have hfo : (Builtin.firstCells inf.size 0 (.slice ad 0 0)).run P w.drew = .ok #[] w.drew := by
    cases ad with
    | none => exact run_firstCells_none w.drew inf.size 0 0 0
    | some a => simp [Builtin.firstCells, loadCells, loadCellsFrom]
  have hge := grownCap_ge w n 0 el
  have hcm : grownCap w n 0 el ≤ maxLen := grownCap_le_maxLen w n 0 el (by unfold maxLen; omega)
  refine ⟨Builtin.zeroCells v0.cells n ++ Builtin.zeroCells v0.cells (grownCap w n 0 el - n), grownCap w n 0 el, ?_, by rw [hn]; exact hge, hcm, ?_, ?_⟩
  · simp [Builtin.append_, run_underlying ht, run_underlying ht', asInt, asIntOf, hw1, hneg, hbig, sizeOf, typeInfo, zeroValue, hi, hz, Builtin.lenOf, hns, hnz, h63', h48', Question.forced, hfo, newRow, grownCap]
  · simp only [Array.size_append, size_zeroCells, hzs, ← Nat.add_mul]
    congr 1
    omega
  · rw [hn]
    have e1 : (Builtin.zeroCells v0.cells n).toList = (List.replicate n v0.cells.toList).flatten := by
      unfold Builtin.zeroCells
      have := zeros_list v0.cells n inf.size hzs
      rw [hzs] at this ⊢
      exact this
    simp only [Array.toList_append]
    have e2 : (Builtin.zeroCells v0.cells n).toList.length = n * inf.size := by rw [e1]; simp [hzs]
    rw [← e2, List.take_left, e1]
theorem pop_grow0 {P : Program} {t t' el : TypeId} {sz : Nat} {v0 : Value} {z : List Z} {k : IntKind} {x y : Operand} {x' y' : Opd} (hx : okOpd x x' = true) (hy : okOpd y y' = true) (ht : P.underlying t = some (.slice el)) (ht' : P.underlying t' = some (.int k)) (hs : szT P el = some sz) (hz : ((P.info? el).bind (·.zero)) = some v0) (hzs : okZs v0.cells.toList z = true) (hsz : v0.cells.size = sz)
    (hby : P.bytesOf el ≤ 2048) : PopOK P (.call { callee := .builtin .append, args := #[x, y], argTypes := #[t, t'] }) (.grow0 sz z x' y') := by
  intro φ e a w n v bs o hop he hev hf
  have hx := opd_ok he hx
  have hy := opd_ok he hy
  simp only [POp.ev] at hev
  split at hev
  · rename_i l h1 h2
    rw [h1] at hx; rw [h2] at hy
    have hy : a.eval y = .int .i64 l := hy
    obtain ⟨ad, hx⟩ := hx
    split at hev
    · rename_i hcond
      obtain ⟨hl0, hlm, hsp, hzl, hzp⟩ := hcond
      simp only [Option.some.injEq, Prod.mk.injEq] at hev
      obtain ⟨rfl, rfl⟩ := hev
      obtain ⟨i, hi, hil⟩ := Option.map_eq_some_iff.1 hs
      have hil : i.size = sz := hil
      subst hil
      have hbi : i.bytes ≤ 2048 := by simpa [Program.bytesOf, hi] using hby
      have hz0 : i.zero = some v0 := by simpa [hi] using hz
      obtain ⟨cur, ncap, hr, k1, k2, k3, k4⟩ := run_grow0 (ty := o.type) (w := w) (ad := ad) ht ht' hi hz0 hsz hsp hbi hl0 hlm
      have hlen : (inst (rep l.toNat z) n).1.length = l.toNat * i.size := by
        rw [(rep_ok (φ := φ) hzs l.toNat n).length]; simp [hsz]
      refine ⟨.slice (some ⟨w.heap.size, 0, none⟩) l.toNat ncap, w.drew.alloc (.cells cur el), _, ?_, .inr ⟨⟨w.drew.heap.size, 0, cur.size⟩, ncap, by simp [Phi.at], by simp, k1, k2, by simp only; omega⟩,
        New.row (cs := (inst (rep l.toNat z) n).1) (bs := []) (cur := cur) (fun φ' _ => ⟨(List.replicate l.toNat v0.cells.toList).flatten, by rw [hlen]; exact k4, rep_ok hzs l.toNat n⟩) w.drew (Fr.drew _ _)⟩
      simp [execOp, hop, resolve, invoke, builtin, hx, hy, hr]
    · cases hev
  · cases hev
end Go.Proofs.YtgpafbbnobanbaaGreatDoor.AM

