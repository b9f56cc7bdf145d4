/- The abstract interpreter 'VI': its values, its operations, its evaluator. It knows nothing of the machine; the next texts show that the machine does what it says. -/
import Derived.RangeFuncIn
import Derived.DefersIn
import Derived.Tactics
namespace Go.VI

/-- The name of a variable or an array that the call made: the level of its frame, its place in that frame's table. -/
abbrev Nm := Nat × Nat

/-- Values. 'vs': a slice whose elements will never change ('clip': its capacity is its length). 'sl': a part of an array that is still being written (its generation, where it begins, its length). 'ptr': the place 'off' of element 'i' of such an array. 'ip': a pointer to cells that will never change. -/
inductive Fl where
  | any
  | clip
  | nil
  | nn
  deriving DecidableEq, Inhabited

def Fl.full : Fl → Bool
  | .clip | .nil => true
  | _ => false

inductive PV where
  | junk
  | bool (b : Bool)
  | int (k : IntKind) (n : Int)
  | str (s : List UInt8)
  | agg (cs : List PV)
  | vs (c : Fl) (L : List PV)
  | sl (n : Nm) (g off len : Nat)
  | ptr (n : Nm) (g i off : Nat)
  | nilp
  | ip (cs : List PV)
  | map (n : Nm) (g : Nat)
  | nilmap
  | fn (f : Nat) (first caps : List PV)
  | nilfn
  | yld (n : Nm) (g : Nat)
  | nili
  | tuple (vs : List PV)
  deriving Inhabited

def PV.cells : PV → List PV
  | .agg cs => cs
  | v => [v]

/-- Is it surely one cell, or a struct's or an array's cells? -/
def PV.good : PV → Bool
  | .junk => false
  | .tuple _ => false
  | _ => true

mutual
/-- No name of a level from L on is met in it. -/
def PV.low (L : Nat) : PV → Bool
  | .sl n _ _ _ => Nat.blt n.1 L
  | .ptr n _ _ _ => Nat.blt n.1 L
  | .map n _ => Nat.blt n.1 L
  | .yld n _ => Nat.blt n.1 L
  | .agg cs => PV.lowL L cs
  | .fn _ a b => PV.lowL L a && PV.lowL L b
  | .tuple ts => PV.lowL L ts
  | _ => true
def PV.lowL (L : Nat) : List PV → Bool
  | [] => true
  | v :: r => v.low L && PV.lowL L r
end

mutual
/-- Neither a slice nor a pointer is met in it. -/
def PV.noref : PV → Bool
  | .vs _ _ | .ip _ | .fn _ _ _ | .junk => false
  | .agg cs => PV.norefL cs
  | .tuple ts => PV.norefL ts
  | .sl .. | .ptr .. | .map .. | .yld .. => false
  | _ => true
def PV.norefL : List PV → Bool
  | [] => true
  | v :: r => v.noref && PV.norefL r
end

/-- Equality of Go's '==' by the type's shape. -/
inductive EqSh where
  | eb
  | ei
  | es
  | parts (l : List (Nat × Nat × EqSh))
  deriving Inhabited

inductive PX where
  | t (i : Nat)
  | c (v : PV)
  | g (i : Nat)
  deriving Inhabited

inductive POp where
  | mov (x : PX)
  | frz (x : PX)
  | vec (s : Nat) (cl : Bool) (sz : Nat)
  | pick (c a b : PX)
  | alloc (s : Nat) (z : PV)
  | box (s : Nat) (x : PX)
  | boxi (x : PX)
  | build (z : List PV) (parts : List (Nat × Nat × PX))
  | bsl (z : List PV) (parts : List (Nat × PX))
  | bslm (s : Nat) (cl : Bool) (sz : Nat) (z : List PV) (parts : List (Nat × PX))
  | load (k : Option Nat) (a : PX)
  | store (k : Option Nat) (a x : PX)
  | nilc (x : PX)
  | bini (op : BinOp) (x y : PX)
  | bins (op : BinOp) (x y : PX)
  | eq (neg : Bool) (sh : EqSh) (x y : PX)
  | neg (x : PX)
  | compl (x : PX)
  | notb (x : PX)
  | conv (k : IntKind) (x : PX)
  | convs (x : PX)
  | mkfn (f : Nat) (first caps : List PX)
  | mkmap (s : Nat)
  | mkslice (s : Nat) (cl : Bool) (bytes : Nat) (z : PV) (len cap : PX)
  | sls (x : PX) (lo hi : Option PX)
  | slc (sz : Nat) (x : PX) (lo hi mx : Option PX)
  | faddr (off : Nat) (x : PX)
  | fld (off : Nat) (k : Option Nat) (x : PX)
  | iaddr (sz : Nat) (x i : PX)
  | iaddra (n sz : Nat) (x i : PX)
  | idx (n sz : Nat) (k : Option Nat) (x i : PX)
  | idxs (x i : PX)
  | lookup (str : Bool) (z : PV) (ok : Bool) (m k : PX)
  | mupd (str : Bool) (m k x : PX)
  | mentry (z : PV) (m k : PX)
  | estore (m s x : PX)
  | extract (x : PX) (i : Nat)
  | call (f : PX) (args : List PX)
  | calla (s : Nat) (cl : Bool) (f : PX) (args : List PX)
  | defer (f : PX) (args : List PX)
  | lens (x : PX)
  | lenl (x : PX)
  | lenm (x : PX)
  | append (s : Nat) (cl : Bool) (sz bytes : Nat) (x y : PX)
  | mx (x : PX) (r : List PX)
  | mn (x : PX) (r : List PX)
  | copy (x y : PX)
  | delete (m k : PX)
  | eqnil (k : Nat) (neg : Bool) (x : PX)
  | capl (x : PX)
  | stop
  deriving Inhabited

/-- An operation in its place: where its value goes, its guard (a temporary and what it must hold). -/
structure PPO where
  dst : Option Nat
  op : POp
  guard : Option (Nat × Bool) := none
  deriving Inhabited

/-- An operation of a region that draws its order: its place in the region, whether its place among the others is fixed, what is surely done before it, which operations before it are looked at again after it. -/
structure DPO where
  ix : Nat
  o : PPO
  isC : Bool
  anc : List Nat := []
  chk : List Nat := []
  deriving Inhabited

inductive PC where
  | skip
  | reg (ops : List PPO)
  | regd (its : List DPO) (gcL : List Nat) (mxd : Nat)
  | seq (a b : PC)
  | cond (c : PX) (a b : PC)
  | block (id : Nat) (a : PC)
  | loop (a : PC)
  | exit (id : Nat)
  | ret
  | cln (keep : List Nat) (a : PC)
  | rangef (s : Nat) (f : PX) (params : List Nat) (assign body : PC)
  deriving Inhabited

inductive PEx where
  | norm
  | exit (id : Nat)
  | ret
  deriving Inhabited

/-- What a level's table holds. 'mem': an array's or a variable's elements, its generation; 'cl': nothing but what never changes is in it. -/
inductive Ob where
  | mem (el : List PV) (g : Nat) (cl : Bool) (sz : Nat)
  | map (es : List (PV × PV)) (clock g : Nat)
  | loop (tmps : List PV) (params : List Nat) (assign body : PC) (jump : Option PEx) (g : Nat)
  | dead (g : Nat)
  deriving Inhabited

def Ob.gen : Ob → Nat
  | .mem _ g _ _ => g
  | .map _ _ g => g
  | .loop _ _ _ _ _ g => g
  | .dead g => g

abbrev Heap := List (List (Option Ob))

def hget (h : Heap) (n : Nm) : Option Ob := ((h[n.1]?).bind (·[n.2]?)).bind id
def hset (h : Heap) (n : Nm) (o : Ob) : Heap := h.modify n.1 (·.set n.2 (some o))

structure Fr where
  lvl : Nat
  tmps : List PV
  heap : Heap
  defers : List (Option (Nat × List PV))

structure RV where
  t : Nat
  cell : Option (Option Nat)

structure PFn where
  nparams : Nat
  ntmps : Nat
  nobjs : Nat
  body : PC
  results : List RV
  pure : Bool
  keep : Bool := false

structure Env where
  pf : Nat → Option PFn
  glob : Nat → PV

def mapO {α β : Type} (f : α → Option β) : List α → Option (List β)
  | [] => some []
  | x :: r => match f x with
    | none => none
    | some a => match mapO f r with
      | none => none
      | some l => some (a :: l)

/-- A value as whoever must not write reads it: what is of a level from lv on is replaced by its content. -/
def snap (h : Heap) (lv : Nat) : Nat → PV → Option PV
  | 0, v => if v.low lv then some v else none
  | d + 1, v => if v.low lv then some v else
    match v with
    | .sl n g off len => match hget h n with
      | some (.mem el g' true _) => if g = g' ∧ off + len ≤ el.length then some (.vs .any ((el.drop off).take len)) else none
      | _ => none
    | .ptr n g i off => match hget h n with
      | some (.mem el g' _ _) => if g = g' then (match el[i]? with
          | some e => (match mapO (snap h lv d) (e.cells.drop off) with
            | some cs => if PV.lowL 0 cs then some (.ip cs) else none
            | none => none)
          | none => none) else none
      | _ => none
    | .agg cs => (mapO (snap h lv d) cs).map .agg
    | .tuple vs => (mapO (snap h lv d) vs).map .tuple
    | .fn f a b => match mapO (snap h lv d) a, mapO (snap h lv d) b with
      | some a, some b => some (.fn f a b)
      | _, _ => none
    | _ => none

def loadFrom (cs : List PV) : Option Nat → Option PV
  | none => cs.head?
  | some n => if n ≤ cs.length then some (.agg (cs.take n)) else none

def PV.withCells (e : PV) (cs : List PV) : PV :=
  match e with
  | .agg _ => .agg cs
  | _ => cs.headD .junk

def splice (cs : List PV) (off : Nat) (vs : List PV) : List PV := cs.take off ++ vs ++ cs.drop (off + vs.length)

def PV.isAgg : PV → Bool
  | .agg _ => true
  | _ => false

/-- Does a value fit a variable of a type ('none': one cell; 'some n': a struct or an array of n cells)? -/
def PV.fits (k : Option Nat) (v : PV) : Bool :=
  match k, v with
  | none, .agg _ => false
  | none, v => v.good
  | some n, .agg cs => Nat.beq cs.length n
  | some _, _ => false

mutual
def eqSh : EqSh → List PV → List PV → Option Bool
  | .eb, [.bool a], [.bool b] => some (a == b)
  | .ei, [.int k a], [.int k' b] => if k = k' then some (a == b) else none
  | .es, [.str a], [.str b] => some (a == b)
  | .parts l, xs, ys => eqShL l xs ys
  | _, _, _ => none
def eqShL : List (Nat × Nat × EqSh) → List PV → List PV → Option Bool
  | [], _, _ => some true
  | (off, n, s) :: r, xs, ys => match eqSh s ((xs.drop off).take n) ((ys.drop off).take n) with
    | some true => eqShL r xs ys
    | some false => some false
    | none => none
end

def eqTop (s : EqSh) (x y : PV) : Option Bool :=
  match s, x, y with
  | .parts l, .agg a, .agg b => eqShL l a b
  | .eb, .bool a, .bool b => some (a == b)
  | _, _, _ => none

def intOp (op : BinOp) (k : IntKind) (a b : Int) : Option PV :=
  match op with
  | .add => some (.int k (k.wrap (a + b)))
  | .sub => some (.int k (k.wrap (a - b)))
  | .mul => some (.int k (k.wrap (a * b)))
  | .quo => if b = 0 then none else some (.int k (k.wrap (a.tdiv b)))
  | .rem => if b = 0 then none else some (.int k (a.tmod b))
  | .and => some (.int k (k.wrap ((BitVec.ofInt k.bits a &&& BitVec.ofInt k.bits b).toNat : Int)))
  | .or => some (.int k (k.wrap ((BitVec.ofInt k.bits a ||| BitVec.ofInt k.bits b).toNat : Int)))
  | .xor => some (.int k (k.wrap ((BitVec.ofInt k.bits a ^^^ BitVec.ofInt k.bits b).toNat : Int)))
  | .andNot => some (.int k (k.wrap ((BitVec.ofInt k.bits a &&& ~~~BitVec.ofInt k.bits b).toNat : Int)))
  | .eql => some (.bool (a == b))
  | .neq => some (.bool (a != b))
  | .lss => some (.bool (decide (a < b)))
  | .leq => some (.bool (decide (a ≤ b)))
  | .gtr => some (.bool (decide (a > b)))
  | .geq => some (.bool (decide (a ≥ b)))
  | .shl | .shr => none

def shiftOp (op : BinOp) (k : IntKind) (a b : Int) : Option PV :=
  if b < 0 then none else
  match op with
  | .shl => some (.int k (k.wrap (a * 2 ^ min b.toNat k.bits)))
  | .shr => some (.int k (a.fdiv (2 ^ min b.toNat k.bits)))
  | _ => none

def binI (op : BinOp) (x y : PV) : Option PV :=
  match op, x, y with
  | .shl, .int k a, .int _ b => shiftOp .shl k a b
  | .shr, .int k a, .int _ b => shiftOp .shr k a b
  | op, .int k a, .int k' b => if k = k' then intOp op k a b else none
  | _, _, _ => none

def binS (op : BinOp) (x y : PV) : Option PV :=
  match x, y with
  | .str a, .str b => match op with
    | .add => if a.length + b.length ≤ 140737488355328 then some (.str (a ++ b)) else none
    | .eql => some (.bool (a == b))
    | .neq => some (.bool !(a == b))
    | .lss => some (.bool (Op.bytesLess a b))
    | .leq => some (.bool (Op.bytesLess a b || a == b))
    | .gtr => some (.bool !(Op.bytesLess a b || a == b))
    | .geq => some (.bool !(Op.bytesLess a b))
    | _ => none
  | _, _ => none

def bound (v : PV) (y : Nat) : Option Nat :=
  match v with
  | .int _ i => if 0 ≤ i ∧ i ≤ y then some i.toNat else none
  | _ => none

/-- The elements have sz cells each. -/
def headSz (sz : Nat) : List PV → Bool
  | [] => true
  | e :: _ => Nat.beq e.cells.length sz

def lenOf (h : Heap) (v : PV) : Option Nat :=
  match v with
  | .vs _ L => some L.length
  | .sl n g _ len => match hget h n with
    | some (.mem _ g' _ _) => if g = g' then some len else none
    | _ => none
  | _ => none

/-- A slice's elements. -/
def elems (h : Heap) (v : PV) : Option (List PV) :=
  match v with
  | .vs _ L => some L
  | .sl n g off len => match hget h n with
    | some (.mem el g' _ _) => if g = g' ∧ off + len ≤ el.length then some ((el.drop off).take len) else none
    | _ => none
  | _ => none

def isNil : Nat → PV → Option Bool
  | 0, .vs .nil _ => some true
  | 0, .vs .nn _ => some false
  | 0, .vs _ (_ :: _) => some false
  | 1, .nilp => some true
  | 1, .ip _ => some false
  | 2, .nilmap => some true
  | 3, .nilfn => some true
  | 3, .fn _ _ _ => some false
  | _, _ => none

/-- May these elements be put where nothing but what never changes lies? -/
def cleanFor (h : Heap) (cl : Bool) (v : PV) : Bool :=
  match cl, v with
  | false, _ => true
  | true, .vs _ _ => true
  | true, .sl n _ _ _ => (match hget h n with
    | some (.mem _ _ c _) => c
    | _ => false)
  | true, _ => false

/-- A map's key: a string, or an integer. -/
def keyIs : Bool → PV → Bool
  | true, .str _ => true
  | false, .int _ _ => true
  | _, _ => false

/-- Are two keys of a map the same? -/
def keySame : PV → PV → Option Bool
  | .int k a, .int k' b => if k = k' then some (a == b) else none
  | .str a, .str b => some (a == b)
  | _, _ => none

def findE (k : PV) : List (PV × PV) → Option (Option PV)
  | [] => some none
  | e :: r => match keySame k e.1 with
    | some true => some (some e.2)
    | some false => findE k r
    | none => none

def setE (k v : PV) : List (PV × PV) → List (PV × PV)
  | [] => [(k, v)]
  | e :: r => match keySame k e.1 with
    | some true => (k, v) :: r
    | _ => e :: setE k v r

def maxI (x y : PV) : Option PV :=
  match x, y with
  | .int k a, .int k' b => if k = k' then some (.int k (if b > a then b else a)) else none
  | _, _ => none
def minI (x y : PV) : Option PV :=
  match x, y with
  | .int k a, .int k' b => if k = k' then some (.int k (if b < a then b else a)) else none
  | _, _ => none
def foldO (f : PV → PV → Option PV) : PV → List PV → Option PV
  | x, [] => some x
  | x, y :: r => match f x y with
    | some z => foldO f z r
    | none => none

def fillParts (ev : PX → PV) : List PV → List (Nat × Nat × PX) → Option (List PV)
  | cs, [] => some cs
  | cs, (off, n, x) :: r => if (ev x).good ∧ (ev x).cells.length = n ∧ off + n ≤ cs.length then fillParts ev (splice cs off (ev x).cells) r else none
def fillElems (ev : PX → PV) : List PV → List (Nat × PX) → Option (List PV)
  | cs, [] => some cs
  | cs, (i, x) :: r => match cs[i]? with
    | some e => if e.cells.length = (ev x).cells.length ∧ (ev x).good then fillElems ev (cs.set i (ev x)) r else none
    | none => none

section
variable (E : Env)

def evX (tmps : List PV) : PX → PV
  | .t i => tmps.getD i .junk
  | .c v => v
  | .g i => E.glob i

/-- The bounds of a slice expression. -/
def boundsE (tmps : List PV) (len cap : Nat) (lo hi mx : Option PX) : Option (Nat × Nat × Nat) :=
  match (match mx with | some y => bound (evX E tmps y) cap | none => some cap) with
  | none => none
  | some m => match (match hi with | some y => bound (evX E tmps y) m | none => if mx.isSome then none else some len) with
    | none => none
    | some h => match (match lo with | some y => bound (evX E tmps y) h | none => some 0) with
      | none => none
      | some l => some (l, h, m)

def Fr.put (fr : Fr) (dst : Option Nat) (v : PV) : Fr :=
  match dst with
  | some d => { fr with tmps := fr.tmps.set d v }
  | none => fr

def obLow (L : Nat) : Option Ob → Bool
  | some (.mem el _ cl _) => cl || PV.lowL L el
  | some (.map es _ _) => es.all fun e => e.2.low L
  | some (.loop t _ _ _ _ _) => PV.lowL L t
  | _ => true
def heapLow (L : Nat) (h : Heap) : Bool := h.all fun t => t.all (obLow L)
def Fr.nm (fr : Fr) (s : Nat) : Nm := (fr.lvl, s)

def nextGen (h : Heap) (n : Nm) : Nat :=
  match hget h n with
  | some ob => ob.gen + 1
  | none => 1

/-- A new object at the slot s of the frame's own table. -/
def Fr.lay (fr : Fr) (dst : Option Nat) (s : Nat) (f : Nat → Option (PV × Ob)) : Option Fr :=
  if s < (fr.heap.getD fr.lvl []).length then
    match f (nextGen fr.heap (fr.nm s)) with
    | some (v, ob) => some ({ fr with heap := hset fr.heap (fr.nm s) ob }.put dst v)
    | none => none
  else none

/-- Values that never change. -/
def PV.pure (v : PV) : Bool := v.low 0

abbrev CallE := Nat → List PV → Heap → Option (PV × Heap)

/-- The end of a call: what it made is gone; the result's own arrays are read. -/
def pop (lv : Nat) (v : PV) (h : Heap) : Option (PV × Heap) :=
  match snap h lv 4 v with
  | some v' => if heapLow lv (h.take lv) then some (v', h.take lv) else none
  | none => none

def doCall (callE : CallE) (f : Nat) (args : List PV) (h : Heap) : Option (PV × Heap) :=
  match E.pf f with
  | none => none
  | some pf =>
    if pf.pure then
      if PV.lowL 0 args then
        match callE f args [] with
        | some (v, h') => match pop 0 v h' with
          | some (v', _) => some (v', h)
          | none => none
        | none => none
      else match mapO (snap h 0 3) args with
        | none => none
        | some args' => match callE f args' [] with
          | some (v, h') => match pop 0 v h' with
            | some (v', _) => if v'.noref then some (v', h) else none
            | none => none
          | none => none
    else match callE f args h with
      | some (v, h') => if pf.keep then some (v, h') else pop h.length v h'
      | none => none

/-- A call by value: a function, what it captured; or the yield of a range over a function. -/
def callV (callE : CallE) (yieldE : Nm → List PV → Heap → Option (PV × Heap)) (f : PV) (args : List PV) (h : Heap) : Option (PV × Heap) :=
  match f with
  | .fn f a b => doCall E callE f (a ++ args ++ b) h
  | .yld n g => match hget h n with
    | some (.loop _ _ _ _ _ g') => if g = g' then yieldE n args h else none
    | _ => none
  | _ => none

def POp.slot : POp → Option Nat
  | .vec s _ _ => some s
  | .alloc s _ => some s
  | .box s _ => some s
  | .bslm s _ _ _ _ => some s
  | .mkmap s => some s
  | .mkslice s _ _ _ _ _ => some s
  | _ => none

/-- What an operation that does nothing but lay lays: its value, the object. -/
def layE (ev : PX → PV) (nm : Nm) (o : POp) (g : Nat) : Option (PV × Ob) :=
  match o with
  | .vec _ cl sz => some (.sl nm g 0 0, .mem [] g cl sz)
  | .alloc _ z => some (.ptr nm g 0 0, .mem [z] g false z.cells.length)
  | .box _ x => if (ev x).good then some (.ptr nm g 0 0, .mem [ev x] g false (ev x).cells.length) else none
  | .bslm _ cl sz z parts => match fillElems ev z parts with
    | some cs => if !cl || PV.lowL 0 cs then some (.sl nm g 0 cs.length, .mem cs g cl sz) else none
    | none => none
  | .mkmap _ => some (.map nm g, .map [] 0 g)
  | .mkslice _ cl bytes z len cap => match ev len, ev cap with
    | .int .i64 n, .int .i64 m => if 0 ≤ n ∧ n ≤ m ∧ m * bytes ≤ 140737488355328 ∧ m ≤ 140737488355328 ∧ (!cl || z.pure) then
        some (.sl nm g 0 n.toNat, .mem (List.replicate n.toNat z) g cl z.cells.length) else none
    | _, _ => none
  | _ => none

def stepOp (callE : CallE) (yieldE : Nm → List PV → Heap → Option (PV × Heap)) (dst : Option Nat) (o : POp) (fr : Fr) : Option Fr :=
  let ev := evX E fr.tmps
  match o with
  | .mov x => some (fr.put dst (ev x))
  | .frz x => match ev x with
    | .sl n g off len => match hget fr.heap n with
      | some (.mem el g' true _) => if g = g' ∧ off + len ≤ el.length then
          let v : PV := .vs .any ((el.drop off).take len)
          let fr' : Fr := { fr with heap := hset fr.heap n (.dead (g + 1)) }
          some ((match x with | .t i => fr'.put (some i) v | _ => fr').put dst v) else none
      | _ => none
    | v => if v.pure then some (fr.put dst v) else none
  | .vec s _ _ => fr.lay dst s (layE ev (fr.nm s) o)
  | .pick c a b => match ev c with
    | .bool t => some (fr.put dst (if t then ev a else ev b))
    | _ => none
  | .alloc s _ => fr.lay dst s (layE ev (fr.nm s) o)
  | .box s _ => fr.lay dst s (layE ev (fr.nm s) o)
  | .boxi x => if (ev x).pure ∧ (ev x).good then some (fr.put dst (.ip (ev x).cells)) else none
  | .build z parts => match fillParts ev z parts with
    | some cs => some (fr.put dst (.agg cs))
    | none => none
  | .bsl z parts => match fillElems ev z parts with
    | some cs => if PV.lowL 0 cs then some (fr.put dst (.vs .clip cs)) else none
    | none => none
  | .bslm s _ _ _ _ => fr.lay dst s (layE ev (fr.nm s) o)
  | .load k a => match ev a with
    | .ip cs => match loadFrom cs k with
      | some v => some (fr.put dst v)
      | none => none
    | .ptr n g i off => match hget fr.heap n with
      | some (.mem el g' _ _) => if g = g' then (match el[i]? with
          | some e => (match loadFrom (e.cells.drop off) k with
            | some v => some (fr.put dst v)
            | none => none)
          | none => none) else none
      | _ => none
    | _ => none
  | .store k a x => match ev a with
    | .ptr n g i off => match hget fr.heap n with
      | some (.mem el g' cl sz) => if g = g' ∧ (ev x).fits k ∧ (!cl || (ev x).pure) then (match el[i]? with
          | some (.agg cs) => if off + (ev x).cells.length ≤ cs.length then
              some ({ fr with heap := hset fr.heap n (.mem (el.set i (.agg (splice cs off (ev x).cells))) g' cl sz) }.put dst (.tuple [])) else none
          | some _ => if k = none ∧ off = 0 then
              some ({ fr with heap := hset fr.heap n (.mem (el.set i (ev x)) g' cl sz) }.put dst (.tuple [])) else none
          | none => none) else none
      | _ => none
    | _ => none
  | .nilc x => match ev x with
    | .ip cs => some (fr.put dst (.ip cs))
    | .ptr n g i off => match hget fr.heap n with
      | some (.mem _ g' _ _) => if g = g' then some (fr.put dst (.ptr n g i off)) else none
      | _ => none
    | _ => none
  | .bini op x y => match binI op (ev x) (ev y) with
    | some v => some (fr.put dst v)
    | none => none
  | .bins op x y => match binS op (ev x) (ev y) with
    | some v => some (fr.put dst v)
    | none => none
  | .eq neg sh x y => match eqTop sh (ev x) (ev y) with
    | some b => some (fr.put dst (.bool (if neg then !b else b)))
    | none => none
  | .neg x => match ev x with
    | .int k n => some (fr.put dst (.int k (k.wrap (0 - n))))
    | _ => none
  | .compl x => match ev x with
    | .int k n => some (fr.put dst (.int k (k.wrap ((BitVec.ofInt k.bits (if k.signed then -1 else k.max) ^^^ BitVec.ofInt k.bits n).toNat : Int))))
    | _ => none
  | .notb x => match ev x with
    | .bool b => some (fr.put dst (.bool !b))
    | _ => none
  | .conv k x => match ev x with
    | .int _ n => some (fr.put dst (.int k (k.wrap n)))
    | _ => none
  | .convs x => match ev x with
    | .str s => some (fr.put dst (.str s))
    | _ => none
  | .mkfn f a b => some (fr.put dst (.fn f (a.map ev) (b.map ev)))
  | .mkmap s => fr.lay dst s (layE ev (fr.nm s) o)
  | .mkslice s _ _ _ _ _ => fr.lay dst s (layE ev (fr.nm s) o)
  | .sls x lo hi => match ev x with
    | .str s => match boundsE E fr.tmps s.length s.length lo hi none with
      | some (l, h, _) => some (fr.put dst (.str ((s.take h).drop l)))
      | none => none
    | _ => none
  | .slc sz x lo hi mx => match ev x with
    | .vs c L => match boundsE E fr.tmps L.length L.length lo hi mx with
      | some (l, h, m) => if !headSz sz L then none else some (fr.put dst (.vs (if c = .nil then .nil else if (c.full || mx.isSome) && Nat.beq h m then .clip else .any) ((L.take h).drop l)))
      | none => none
    | .sl n g off len => match hget fr.heap n with
      | some (.mem el g' _ _) => if g = g' ∧ mx.isNone ∧ headSz sz el ∧ off + len ≤ el.length then (match boundsE E fr.tmps len len lo hi none with
          | some (l, h, _) => some (fr.put dst (.sl n g (off + l) (h - l)))
          | none => none) else none
      | _ => none
    | _ => none
  | .faddr off x => match ev x with
    | .ip cs => if off ≤ cs.length then some (fr.put dst (.ip (cs.drop off))) else none
    | .ptr n g i o => match hget fr.heap n with
      | some (.mem _ g' _ _) => if g = g' then some (fr.put dst (.ptr n g i (o + off))) else none
      | _ => none
    | _ => none
  | .fld off k x => match ev x with
    | .agg cs => match loadFrom (cs.drop off) k with
      | some v => some (fr.put dst v)
      | none => none
    | _ => none
  | .iaddr sz x i => match ev i with
    | .int _ j => if 0 ≤ j then (match ev x with
        | .vs _ L => match L[j.toNat]? with
          | some e => if e.cells.length = sz then some (fr.put dst (.ip e.cells)) else none
          | none => none
        | .sl n g off len => match hget fr.heap n with
          | some (.mem el g' _ _) => if g = g' ∧ j < len then (match el[off + j.toNat]? with
              | some e => if e.cells.length = sz then some (fr.put dst (.ptr n g (off + j.toNat) 0)) else none
              | none => none) else none
          | _ => none
        | _ => none) else none
    | _ => none
  | .iaddra n sz x i => match ev i with
    | .int _ j => if 0 ≤ j ∧ j < n then (match ev x with
        | .ip cs => if n * sz ≤ cs.length then some (fr.put dst (.ip (cs.drop (j.toNat * sz)))) else none
        | .ptr nm g e off => (match hget fr.heap nm with
          | some (.mem _ g' _ _) => if g = g' then some (fr.put dst (.ptr nm g e (off + j.toNat * sz))) else none
          | _ => none)
        | _ => none) else none
    | _ => none
  | .idx n sz k x i => match ev i with
    | .int _ j => if 0 ≤ j ∧ j < n then (match ev x with
        | .agg cs => if cs.length = n * sz then (match loadFrom (cs.drop (j.toNat * sz)) k with
          | some v => some (fr.put dst v)
          | none => none) else none
        | _ => none) else none
    | _ => none
  | .idxs x i => match ev i, ev x with
    | .int _ j, .str s => if 0 ≤ j then (match s[j.toNat]? with
        | some b => some (fr.put dst (.int .u8 b.toNat))
        | none => none) else none
    | _, _ => none
  | .lookup str z ok m k => if !keyIs str (ev k) then none else
      match (match ev m with
        | .nilmap => some []
        | .map n g => (match hget fr.heap n with | some (.map es _ g') => if g = g' then some es else none | _ => none)
        | _ => none) with
      | some es => match findE (ev k) es with
        | some r => some (fr.put dst (if ok then .tuple [r.getD z, .bool r.isSome] else r.getD z))
        | none => none
      | none => none
  | .mupd str m k x => if (ev x).pure && keyIs str (ev k) then
      (match ev m with
        | .map n g => (match hget fr.heap n with
          | some (.map es c g') => if g = g' then (match findE (ev k) es with
            | some r => some ({ fr with heap := hset fr.heap n (.map (setE (ev k) (ev x) es) (if r.isSome then c else c + 1) g') }.put dst (.tuple []))
            | none => none) else none
          | _ => none)
        | _ => none) else none
  | .mentry _ _ _ => none
  | .estore _ _ _ => none
  | .extract x i => match ev x with
    | .tuple vs => match vs[i]? with
      | some v => some (fr.put dst v)
      | none => none
    | _ => none
  | .call f args => match callV E callE yieldE (ev f) (args.map ev) fr.heap with
    | some (v, h) => some ({ fr with heap := h }.put dst v)
    | none => none
  | .calla s cl f args => match ev f with
    | .fn f a b => match E.pf f with
      | some pf => if pf.pure && PV.lowL 0 (a ++ args.map ev ++ b) then (match callE f (a ++ args.map ev ++ b) [] with
          | some (.sl n g 0 len, h') => (match hget h' n with
            | some (.mem el g' true sz) => if g = g' ∧ len = el.length ∧ cl then fr.lay dst s (fun g => some (.sl (fr.nm s) g 0 len, .mem el g true sz)) else none
            | _ => none)
          | _ => none) else none
      | none => none
    | _ => none
  | .defer f args => match ev f with
    | .fn f a b => some ({ fr with defers := some (f, a ++ args.map ev ++ b) :: fr.defers }.put dst (.tuple []))
    | _ => none
  | .lens x => match ev x with
    | .str s => some (fr.put dst (.int .i64 s.length))
    | _ => none
  | .lenl x => match lenOf fr.heap (ev x) with
    | some n => some (fr.put dst (.int .i64 n))
    | none => none
  | .lenm x => match ev x with
    | .nilmap => some (fr.put dst (.int .i64 0))
    | .map n g => (match hget fr.heap n with
      | some (.map es _ g') => if g = g' then some (fr.put dst (.int .i64 es.length)) else none
      | _ => none)
    | _ => none
  | .append s cl sz bytes x y => match elems fr.heap (ev y) with
    | none => none
    | some ys => if !headSz sz ys then none else match ev x with
      | .vs c L => if c.full = true ∧ headSz sz L ∧ (L.isEmpty || !ys.isEmpty) ∧ (L.length + ys.length) * bytes ≤ 140737488355328 ∧ L.length + ys.length ≤ 140737488355328 ∧ cleanFor fr.heap cl (ev y) then
          fr.lay dst s (fun g => some (.sl (fr.nm s) g 0 (L.length + ys.length), .mem (L ++ ys) g cl sz)) else none
      | .sl n g off len => match hget fr.heap n with
        | some (.mem el g' cl' sz') => if g = g' ∧ sz = sz' ∧ cleanFor fr.heap cl' (ev y) then
            (if off + len + ys.length ≤ el.length then
              some ({ fr with heap := hset fr.heap n (.mem (el.take (off + len) ++ ys ++ el.drop (off + len + ys.length)) g' cl' sz') }.put dst (.sl n g off (len + ys.length)))
            else if off = 0 ∧ len ≤ el.length ∧ (len + ys.length) * bytes ≤ 140737488355328 ∧ len + ys.length ≤ 140737488355328 then
              some ({ fr with heap := hset fr.heap n (.mem (el.take len ++ ys) (g + ys.length) cl' sz') }.put dst (.sl n (g + ys.length) 0 (len + ys.length)))
            else none) else none
        | _ => none
      | _ => none
  | .mx x r => match foldO maxI (ev x) (r.map ev) with
    | some v => some (fr.put dst v)
    | none => none
  | .mn x r => match foldO minI (ev x) (r.map ev) with
    | some v => some (fr.put dst v)
    | none => none
  | .copy _ _ => none
  | .delete _ _ => none
  | .eqnil k neg x => match isNil k (ev x) with
    | some b => some (fr.put dst (.bool (if neg then !b else b)))
    | none => none
  | .capl x => match ev x with
    | .vs c L => if c.full then some (fr.put dst (.int .i64 L.length)) else none
    | _ => none
  | .stop => none

def guardE (tmps : List PV) : Option (Nat × Bool) → Option Bool
  | none => some true
  | some (t, b) => match tmps.getD t .junk with
    | .bool c => some (c == b)
    | .tuple _ => some false
    | _ => none

def stepPO (callE : CallE) (yieldE : Nm → List PV → Heap → Option (PV × Heap)) (o : PPO) (fr : Fr) : Option Fr :=
  match guardE fr.tmps o.guard with
  | none => none
  | some false => some (fr.put o.dst (.tuple []))
  | some true => stepOp E callE yieldE o.dst o.op fr

def runOps (callE : CallE) (yieldE : Nm → List PV → Heap → Option (PV × Heap)) : List PPO → Fr → Option Fr
  | [], fr => some fr
  | o :: r, fr => match stepPO E callE yieldE o fr with
    | some fr' => runOps callE yieldE r fr'
    | none => none

mutual
def PV.same : PV → PV → Bool
  | .bool a, .bool b => a == b
  | .int k a, .int k' b => decide (k = k') && a == b
  | .str a, .str b => a == b
  | .agg a, .agg b => PV.sameL a b
  | .vs f a, .vs f' b => decide (f = f') && PV.sameL a b
  | .sl n g o l, .sl n' g' o' l' => decide (n = n') && g == g' && o == o' && l == l'
  | .ptr n g i o, .ptr n' g' i' o' => decide (n = n') && g == g' && i == i' && o == o'
  | .nilp, .nilp => true
  | .ip a, .ip b => PV.sameL a b
  | .map n g, .map n' g' => decide (n = n') && g == g'
  | .nilmap, .nilmap => true
  | .fn f a b, .fn f' a' b' => f == f' && PV.sameL a a' && PV.sameL b b'
  | .nilfn, .nilfn => true
  | .nili, .nili => true
  | .tuple a, .tuple b => PV.sameL a b
  | _, _ => false
def PV.sameL : List PV → List PV → Bool
  | [], [] => true
  | a :: r, b :: s => a.same b && PV.sameL r s
  | _, _ => false
end

/-- Would an operation that was taken before say the same now? -/
def stable (callE : CallE) (yieldE : Nm → List PV → Heap → Option (PV × Heap)) (fr : Fr) (o : PPO) : Bool :=
  match o.dst with
  | none => false
  | some d => match guardE fr.tmps o.guard with
    | none => false
    | some false => PV.same (fr.tmps.getD d .junk) (.tuple [])
    | some true => match o.op.slot with
      | some s => match hget fr.heap (fr.nm s) with
        | some (.mem el g cl sz) => (match layE (evX E fr.tmps) (fr.nm s) o.op g with
          | some (v, .mem el' _ cl' sz') => PV.same (fr.tmps.getD d .junk) v && PV.sameL el el' && cl == cl' && sz == sz'
          | _ => false)
        | some (.map [] 0 g) => (match layE (evX E fr.tmps) (fr.nm s) o.op g with
          | some (v, .map [] 0 _) => PV.same (fr.tmps.getD d .junk) v
          | _ => false)
        | _ => false
      | none => match stepOp E callE yieldE o.dst o.op fr with
        | some fr' => PV.same (fr.tmps.getD d .junk) (fr'.tmps.getD d .junk)
        | none => false

/-- Does an operation surely leave all memory as it is, or only lay? -/
def quiet (o : PPO) (tmps : List PV) : Bool :=
  match o.op with
  | .call f _ => match evX E tmps f with
    | .fn f _ _ => match E.pf f with
      | some pf => pf.pure
      | none => false
    | _ => false
  | _ => false

/-- Slots that the region lays anew: what lay there is forgotten. -/
def dropSl : List DPO → Fr → Fr
  | [], fr => fr
  | it :: r, fr => match (if it.isC then none else it.o.op.slot) with
    | some s => match hget fr.heap (fr.nm s) with
      | some ob => dropSl r { fr with heap := hset fr.heap (fr.nm s) (.dead (ob.gen + 1)) }
      | none => dropSl r fr
    | none => dropSl r fr

def freshSlot (fr : Fr) (o : PPO) : Bool :=
  match o.op.slot with
  | some s => (match hget fr.heap (fr.nm s) with
    | none => true
    | some (.dead _) => true
    | _ => false)
  | none => true

def runD (callE : CallE) (yieldE : Nm → List PV → Heap → Option (PV × Heap)) : List DPO → List DPO → Fr → Option Fr
  | _, [], fr => some fr
  | past, it :: r, fr => if it.isC then
      match stepPO E callE yieldE it.o fr with
      | none => none
      | some fr' => if quiet E it.o fr.tmps || past.all (fun x => !it.chk.contains x.ix || stable E callE yieldE fr' x.o) then runD callE yieldE past r fr' else none
    else if freshSlot fr it.o then
      match stepPO E callE yieldE it.o fr with
      | none => none
      | some fr' => runD callE yieldE (it :: past) r fr'
    else none

def rvE (h : Heap) (tmps : List PV) (r : RV) : Option PV :=
  match r.cell with
  | none => some (tmps.getD r.t .junk)
  | some k => match tmps.getD r.t .junk with
    | .ip cs => loadFrom cs k
    | .ptr n g i off => match hget h n with
      | some (.mem el g' _ _) => if g = g' then (match el[i]? with
          | some e => loadFrom (e.cells.drop off) k
          | none => none) else none
      | _ => none
    | _ => none

def resultsE (h : Heap) (tmps : List PV) (rs : List RV) : Option PV :=
  match mapO (rvE h tmps) rs with
  | some [v] => some v
  | some vs => some (.tuple vs)
  | none => none

/-- Temporaries that are not on the list (in ascending order) are forgotten. -/
def keepE : Nat → List Nat → List PV → List PV
  | _, _, [] => []
  | i, [], _ :: r => .junk :: keepE (i + 1) [] r
  | i, k :: ks, v :: r => if Nat.beq i k then v :: keepE (i + 1) ks r else .junk :: keepE (i + 1) (k :: ks) r

def endRoundE : PEx → Option PEx × PV
  | .norm => (none, .bool true)
  | e => (some e, .bool false)

mutual
/-- The evaluator: a call; it leaves the frame's table in the heap. -/
def callN : Nat → CallE
  | 0 => fun _ _ _ => none
  | n + 1 => fun f args h => match E.pf f with
    | none => none
    | some pf => if args.length = pf.nparams then
        (match evN n pf.body { lvl := h.length, tmps := args ++ List.replicate (pf.ntmps - pf.nparams) (.tuple []), heap := h ++ [List.replicate pf.nobjs none], defers := [] } with
        | some (.norm, fr) | some (.ret, fr) => (match defN n fr.defers fr.heap with
          | some h' => (match resultsE h' fr.tmps pf.results with
            | some v => some (v, h')
            | none => none)
          | none => none)
        | _ => none) else none
/-- A deferred call: what is called defers nothing itself. -/
def callD : Nat → CallE
  | 0 => fun _ _ _ => none
  | n + 1 => fun f args h => match E.pf f with
    | none => none
    | some pf => if args.length = pf.nparams then
        (match evN n pf.body { lvl := h.length, tmps := args ++ List.replicate (pf.ntmps - pf.nparams) (.tuple []), heap := h ++ [List.replicate pf.nobjs none], defers := [] } with
        | some (.norm, fr) | some (.ret, fr) => if fr.defers.isEmpty then (match resultsE fr.heap fr.tmps pf.results with
            | some v => some (v, fr.heap)
            | none => none) else none
        | _ => none) else none
def defN : Nat → List (Option (Nat × List PV)) → Heap → Option Heap
  | 0, _, _ => none
  | _ + 1, [], h => some h
  | n + 1, none :: r, h => defN n r h
  | n + 1, some (f, args) :: r, h => match doCall E (callD n) f args h with
    | some (_, h') => defN n r h'
    | none => none
def evN : Nat → PC → Fr → Option (PEx × Fr)
  | 0, _, _ => none
  | n + 1, c, fr => match c with
    | .skip => some (.norm, fr)
    | .regd its _ mxd => if Nat.ble mxd fr.tmps.length then (match runD E (callN n) (yieldN n) [] its (dropSl its fr) with
      | some fr' => some (.norm, fr')
      | none => none) else none
    | .reg ops => match runOps E (callN n) (yieldN n) ops fr with
      | some fr' => some (.norm, fr')
      | none => none
    | .seq a b => match evN n a fr with
      | some (.norm, fr') => evN n b fr'
      | r => r
    | .cond c a b => match evX E fr.tmps c with
      | .bool t => evN n (if t then a else b) fr
      | _ => none
    | .block id a => match evN n a fr with
      | some (.exit id', fr') => if id' = id then some (.norm, fr') else some (.exit id', fr')
      | r => r
    | .loop a => match evN n a fr with
      | some (.norm, fr') => evN n (.loop a) fr'
      | r => r
    | .exit id => some (.exit id, fr)
    | .ret => some (.ret, fr)
    | .cln keep a => evN n a { fr with tmps := keepE 0 keep fr.tmps }
    | .rangef s f params assign body =>
      if s < (fr.heap.getD fr.lvl []).length then
        (match evX E fr.tmps f with
        | .fn f0 p q => (match doCall E (callN n) f0 (p ++ [.yld (fr.nm s) (nextGen fr.heap (fr.nm s))] ++ q) (hset fr.heap (fr.nm s) (.loop fr.tmps params assign body none (nextGen fr.heap (fr.nm s)))) with
          | some (_, h) => (match hget h (fr.nm s) with
            | some (.loop _ _ _ _ j g') => if g' = nextGen fr.heap (fr.nm s) then
                (match j with
                | none => some (.norm, { fr with heap := hset h (fr.nm s) (.dead (g' + 1)), defers := none :: fr.defers })
                | some .norm => none
                | some e => some (e, { fr with heap := hset h (fr.nm s) (.dead (g' + 1)), defers := none :: fr.defers })) else none
            | _ => none)
          | none => none)
        | _ => none) else none
def yieldN : Nat → Nm → List PV → Heap → Option (PV × Heap)
  | 0, _, _, _ => none
  | n + 1, nm, args, h => match hget h nm with
    | some (.loop tmps params assign body none g) => if args.length = params.length then
        (match evN n assign { lvl := h.length, tmps := (params.zip args).foldl (fun t p => t.set p.1 p.2) tmps, heap := h ++ [List.replicate (h.getD nm.1 []).length none], defers := [] } with
        | some (.norm, fr) => (match hget fr.heap nm with
          | some (.loop tmps' params' assign' body' none g1) => if g1 = g then
              (match evN n body { fr with heap := hset fr.heap nm (.loop tmps' params' assign' body' (some .norm) g) } with
              | some (e, fr') => (match hget fr'.heap nm with
                | some (.loop t p a b (some .norm) g2) => if g2 = g then
                    (match endRoundE e with
                    | (j, v) => if heapLow h.length ((hset fr'.heap nm (.loop t p a b j g)).take h.length) then some (v, (hset fr'.heap nm (.loop t p a b j g)).take h.length) else none) else none
                | _ => none)
              | none => none) else none
          | _ => none)
        | _ => none) else none
    | _ => none
end
end
end Go.VI
