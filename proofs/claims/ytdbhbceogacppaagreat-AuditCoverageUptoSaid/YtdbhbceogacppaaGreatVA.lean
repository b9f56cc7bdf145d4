/- The abstract interpreter VI, part A. -/
import Derived.RangeFuncIn
import Derived.DefersIn
import Derived.Tactics
import Derived.Laws.Strings
import Derived.Laws.Cells
import Derived.Laws.StructEq
import Derived.ChangeKeysEq
import Derived.Laws.CopyRow
import Derived.Laws.MakeOwn
namespace Go.VI
abbrev Nm:=Nat × Nat
inductive Fl where
  | any
  | clip
  | nil
  | nn
  deriving DecidableEq,Inhabited
def Fl.full:Fl→Bool
  | .clip|.nil=>true
  | _=>false
inductive PV where
  | junk
  | bool (b:Bool)
  | int (k:IntKind) (n:Int)
  | str (s:List UInt8)
  | agg (cs:List PV)
  | vs (c:Fl) (L:List PV)
  | sl (n:Nm) (g off len:Nat)
  | ptr (n:Nm) (g i off:Nat)
  | nilp
  | ip (cs:List PV)
  | map (n:Nm) (g:Nat)
  | nilmap
  | fn (f:Nat) (first caps:List PV)
  | nilfn
  | yld (n:Nm) (g:Nat)
  | nili
  | tuple (vs:List PV)
  deriving Inhabited
def PV.cells:PV→List PV
  | .agg cs=>cs
  | v=>[v]
def PV.good:PV→Bool
  | .junk=>false
  | .tuple _=>false
  | _=>true
mutual
def PV.low (L:Nat):PV→Bool
  | .sl n _ _ _=>Nat.blt n.1 L
  | .ptr n _ _ _=>Nat.blt n.1 L
  | .map n _=>Nat.blt n.1 L
  | .yld n _=>Nat.blt n.1 L
  | .agg cs=>PV.lowL L cs
  | .fn _ a b=>PV.lowL L a&&PV.lowL L b
  | .tuple ts=>PV.lowL L ts
  | _=>true
def PV.lowL (L:Nat):List PV→Bool
  | []=>true
  | v::r=>v.low L&&PV.lowL L r
end
mutual
def PV.noref:PV→Bool
  | .vs _ _|.ip _|.fn _ _ _|.junk=>false
  | .agg cs=>PV.norefL cs
  | .tuple ts=>PV.norefL ts
  | .sl ..|.ptr ..|.map ..|.yld ..=>false
  | _=>true
def PV.norefL:List PV→Bool
  | []=>true
  | v::r=>v.noref&&PV.norefL r
end
inductive EqSh where
  | eb
  | ei
  | es
  | parts (l:List (Nat × Nat × EqSh))
  deriving Inhabited
inductive PX where
  | t (i:Nat)
  | c (v:PV)
  | g (i:Nat)
  deriving Inhabited
inductive KSh where
  | ki
  | ks
  | ka (n:Nat)
  deriving DecidableEq,Inhabited
inductive POp where
  | mov (x:PX)
  | frz (x:PX)
  | vec (s:Nat) (cl:Bool) (sz:Nat)
  | pick (c a b:PX)
  | alloc (s:Nat) (z:PV)
  | box (s:Nat) (x:PX)
  | boxi (x:PX)
  | build (z:List PV) (parts:List (Nat × Nat × PX))
  | bsl (z:List PV) (parts:List (Nat × PX))
  | bslm (s:Nat) (cl:Bool) (sz:Nat) (z:List PV) (parts:List (Nat × PX))
  | load (k:Option Nat) (a:PX)
  | store (k:Option Nat) (a x:PX)
  | nilc (x:PX)
  | bini (op:BinOp) (x y:PX)
  | bins (op:BinOp) (x y:PX)
  | eq (neg:Bool) (sh:EqSh) (x y:PX)
  | neg (x:PX)
  | compl (x:PX)
  | notb (x:PX)
  | conv (k:IntKind) (x:PX)
  | convs (x:PX)
  | mkfn (f:Nat) (first caps:List PX)
  | mkmap (s:Nat)
  | mkslice (s:Nat) (cl:Bool) (bytes:Nat) (z:PV) (len cap:PX)
  | sls (x:PX) (lo hi:Option PX)
  | slc (sz:Nat) (x:PX) (lo hi mx:Option PX)
  | faddr (off:Nat) (x:PX)
  | fld (off:Nat) (k:Option Nat) (x:PX)
  | iaddr (sz:Nat) (x i:PX)
  | iaddra (n sz:Nat) (x i:PX)
  | idx (n sz:Nat) (k:Option Nat) (x i:PX)
  | idxs (x i:PX)
  | lookup (str:KSh) (z:PV) (ok:Bool) (m k:PX)
  | mupd (str:KSh) (m k x:PX)
  | mentry (str:KSh) (z:PV) (m k:PX)
  | estore (m s x:PX)
  | extract (x:PX) (i:Nat)
  | call (f:PX) (args:List PX)
  | calla (s:Nat) (cl:Bool) (f:PX) (args:List PX)
  | defer (f:PX) (args:List PX)
  | lens (x:PX)
  | lenl (x:PX)
  | lenm (x:PX)
  | append (s:Nat) (cl:Bool) (sz bytes:Nat) (x y:PX)
  | storef (k:Option Nat) (x y:PX)
  | loadf (k:Option Nat) (x:PX)
  | appz (s:Nat) (cl:Bool) (bytes:Nat) (z:PV) (x n:PX)
  | appf (sz bytes:Nat) (x y:PX)
  | mx (x:PX) (r:List PX)
  | mn (x:PX) (r:List PX)
  | copy (x y:PX)
  | delete (m k:PX)
  | rng (s:Nat) (x:PX)
  | next (x:PX)
  | entry (x:PX)
  | eqnil (k:Nat) (neg:Bool) (x:PX)
  | ptrq (neg:Bool) (x:PX)
  | capl (x:PX)
  | stop
  deriving Inhabited
structure PPO where
  dst:Option Nat
  op:POp
  guard:Option (Nat × Bool):=none
  deriving Inhabited
structure DPO where
  ix:Nat
  o:PPO
  isC:Bool
  anc:List Nat:=[]
  chk:List Nat:=[]
  deriving Inhabited
inductive PC where
  | skip
  | reg (ops:List PPO)
  | regd (its:List DPO) (gcL:List Nat) (mxd:Nat)
  | seq (a b:PC)
  | cond (c:PX) (a b:PC)
  | block (id:Nat) (a:PC)
  | loop (a:PC)
  | exit (id:Nat)
  | ret
  | cln (keep:List Nat) (a:PC)
  | rangef (s:Nat) (f:PX) (params:List Nat) (assign body:PC)
  deriving Inhabited
inductive PEx where
  | norm
  | exit (id:Nat)
  | ret
  deriving Inhabited
inductive Ob where
  | mem (el:List PV) (g:Nat) (cl:Bool) (sz:Nat)
  | map (es:List (PV × PV)) (clock g:Nat)
  | iter (m:PV) (since:Nat) (seen:List Nat) (g:Nat)
  | loop (tmps:List PV) (params:List Nat) (assign body:PC) (jump:Option PEx) (g:Nat)
  | dead (g:Nat)
  deriving Inhabited
def Ob.gen:Ob→Nat
  | .mem _ g _ _=>g
  | .map _ _ g=>g
  | .iter _ _ _ g=>g
  | .loop _ _ _ _ _ g=>g
  | .dead g=>g
abbrev Heap:=List (List (Option Ob))
def hget (h:Heap) (n:Nm):Option Ob:=((h[n.1]?).bind (·[n.2]?)).bind id
def hset (h:Heap) (n:Nm) (o:Ob):Heap:=h.modify n.1 (·.set n.2 (some o))
structure Fr where
  lvl:Nat
  tmps:List PV
  heap:Heap
  defers:List (Option (Nat × List PV))
structure RV where
  t:Nat
  cell:Option (Option Nat)
structure PFn where
  nparams:Nat
  ntmps:Nat
  nobjs:Nat
  body:PC
  results:List RV
  pure:Bool
  keep:Bool:=false
  ext:Option (List PV→Option PV):=none
structure Env where
  pf:Nat→Option PFn
  glob:Nat→PV
def mapO {α β:Type} (f:α→Option β):List α→Option (List β)
  | []=>some []
  | x::r=>match f x with
    | none=>none
    | some a=>match mapO f r with
      | none=>none
      | some l=>some (a::l)
def snap (h:Heap) (lv:Nat):Nat→PV→Option PV
  | 0,v=>if v.low lv then some v else none
  | d+1,v=>if v.low lv then some v else
    match v with
    | .sl n g off len=>match hget h n with
      | some (.mem el g' true _)=>if g=g'∧off+len≤el.length then some (.vs .any ((el.drop off).take len)) else none
      | _=>none
    | .ptr n g i off=>match hget h n with
      | some (.mem el g' _ _)=>if g=g' then (match el[i]? with
          | some e=>(match mapO (snap h lv d) (e.cells.drop off) with
            | some cs=>if PV.lowL 0 cs then some (.ip cs) else none
            | none=>none)
          | none=>none) else none
      | _=>none
    | .agg cs=>(mapO (snap h lv d) cs).map .agg
    | .tuple vs=>(mapO (snap h lv d) vs).map .tuple
    | .fn f a b=>match mapO (snap h lv d) a,mapO (snap h lv d) b with
      | some a,some b=>some (.fn f a b)
      | _,_=>none
    | _=>none
def loadFrom (cs:List PV):Option Nat→Option PV
  | none=>cs.head?
  | some n=>if n≤cs.length then some (.agg (cs.take n)) else none
def splice (cs:List PV) (off:Nat) (vs:List PV):List PV:=cs.take off++vs++cs.drop (off+vs.length)
def PV.isAgg:PV→Bool
  | .agg _=>true
  | _=>false
def PV.fits (k:Option Nat) (v:PV):Bool :=
  match k,v with
  | none,.agg _=>false
  | none,v=>v.good
  | some n,.agg cs=>Nat.beq cs.length n
  | some _,_=>false
mutual
def Zi:EqSh→List PV→List PV→Option Bool
  | .eb,[.bool a],[.bool b]=>some (a==b)
  | .ei,[.int k a],[.int k' b]=>if k=k' then some (a==b) else none
  | .es,[.str a],[.str b]=>some (a==b)
  | .parts l,xs,ys=>Ze l xs ys
  | _,_,_=>none
def Ze:List (Nat × Nat × EqSh)→List PV→List PV→Option Bool
  | [],_,_=>some true
  | (off,n,s)::r,xs,ys=>match Zi s ((xs.drop off).take n) ((ys.drop off).take n) with
    | some true=>Ze r xs ys
    | some false=>some false
    | none=>none
end
def Zf (s:EqSh) (x y:PV):Option Bool :=
  match s,x,y with
  | .parts l,.agg a,.agg b=>Ze l a b
  | .eb,.bool a,.bool b=>some (a==b)
  | _,_,_=>none
def intOp (op:BinOp) (k:IntKind) (a b:Int):Option PV :=
  match op with
  | .add=>some (.int k (k.wrap (a+b)))
  | .sub=>some (.int k (k.wrap (a - b)))
  | .mul=>some (.int k (k.wrap (a*b)))
  | .quo=>if b=0 then none else some (.int k (k.wrap (a.tdiv b)))
  | .rem=>if b=0 then none else some (.int k (a.tmod b))
  | .and=>some (.int k (k.wrap ((BitVec.ofInt k.bits a &&& BitVec.ofInt k.bits b).toNat:Int)))
  | .or=>some (.int k (k.wrap ((BitVec.ofInt k.bits a ||| BitVec.ofInt k.bits b).toNat:Int)))
  | .xor=>some (.int k (k.wrap ((BitVec.ofInt k.bits a ^^^ BitVec.ofInt k.bits b).toNat:Int)))
  | .andNot=>some (.int k (k.wrap ((BitVec.ofInt k.bits a &&& ~~~BitVec.ofInt k.bits b).toNat:Int)))
  | .eql=>some (.bool (a==b))
  | .neq=>some (.bool (a != b))
  | .lss=>some (.bool (decide (a<b)))
  | .leq=>some (.bool (decide (a≤b)))
  | .gtr=>some (.bool (decide (a>b)))
  | .geq=>some (.bool (decide (a≥b)))
  | .shl|.shr=>none
def shiftOp (op:BinOp) (k:IntKind) (a b:Int):Option PV :=
  if b<0 then none else
  match op with
  | .shl=>some (.int k (k.wrap (a*2 ^ min b.toNat k.bits)))
  | .shr=>some (.int k (a.fdiv (2 ^ min b.toNat k.bits)))
  | _=>none
def binI (op:BinOp) (x y:PV):Option PV :=
  match op,x,y with
  | .shl,.int k a,.int _ b=>shiftOp .shl k a b
  | .shr,.int k a,.int _ b=>shiftOp .shr k a b
  | op,.int k a,.int k' b=>if k=k' then intOp op k a b else none
  | _,_,_=>none
def binS (op:BinOp) (x y:PV):Option PV :=
  match x,y with
  | .str a,.str b=>match op with
    | .add=>if a.length+b.length≤140737488355328 then some (.str (a++b)) else none
    | .eql=>some (.bool (a==b))
    | .neq=>some (.bool !(a==b))
    | .lss=>some (.bool (Op.bytesLess a b))
    | .leq=>some (.bool (Op.bytesLess a b||a==b))
    | .gtr=>some (.bool !(Op.bytesLess a b||a==b))
    | .geq=>some (.bool !(Op.bytesLess a b))
    | _=>none
  | _,_=>none
def bound (v:PV) (y:Nat):Option Nat :=
  match v with
  | .int _ i=>if 0≤i∧i≤y then some i.toNat else none
  | _=>none
def headSz (sz:Nat):List PV→Bool
  | []=>true
  | e::_=>Nat.beq e.cells.length sz
def lenOf (h:Heap) (v:PV):Option Nat :=
  match v with
  | .vs _ L=>some L.length
  | .sl n g _ len=>match hget h n with
    | some (.mem _ g' _ _)=>if g=g' then some len else none
    | _=>none
  | _=>none
def elems (h:Heap) (v:PV):Option (List PV) :=
  match v with
  | .vs _ L=>some L
  | .sl n g off len=>match hget h n with
    | some (.mem el g' _ _)=>if g=g'∧off+len≤el.length then some ((el.drop off).take len) else none
    | _=>none
  | _=>none
def isNil:Nat→PV→Option Bool
  | 0,.vs .nil _=>some true
  | 0,.vs .nn _=>some false
  | 0,.vs _ (_::_)=>some false
  | 1,.nilp=>some true
  | 1,.ip _=>some false
  | 2,.nilmap=>some true
  | 3,.nilfn=>some true
  | 3,.fn _ _ _=>some false
  | _,_=>none
def cleanFor (h:Heap) (cl:Bool) (v:PV):Bool :=
  match cl,v with
  | false,_=>true
  | true,.vs _ _=>true
  | true,.sl n _ _ _=>(match hget h n with
    | some (.mem _ _ c _)=>c
    | _=>false)
  | true,_=>false
def intsL:List PV→Bool
  | []=>true
  | .int .i64 _::r=>intsL r
  | _=>false
def keyIs:KSh→PV→Bool
  | .ks,.str _=>true
  | .ki,.int _ _=>true
  | .ka n,.agg cs=>Nat.beq cs.length n&&intsL cs
  | _,_=>false
def sameI:List PV→List PV→Option Bool
  | [],[]=>some true
  | .int .i64 a::r,.int .i64 b::s=>if a=b then sameI r s else some false
  | _,_=>none
def keySame:PV→PV→Option Bool
  | .int k a,.int k' b=>if k=k' then some (a==b) else none
  | .str a,.str b=>some (a==b)
  | .agg a,.agg b=>sameI a b
  | _,_=>none
def findE (k:PV):List (PV × PV)→Option (Option PV)
  | []=>some none
  | e::r=>match keySame k e.1 with
    | some true=>some (some e.2)
    | some false=>findE k r
    | none=>none
def setE (k v:PV):List (PV × PV)→List (PV × PV)
  | []=>[(k,v)]
  | e::r=>match keySame k e.1 with
    | some true=>(k,v)::r
    | _=>e::setE k v r
def idxE (k:PV):List (PV × PV)→Nat
  | []=>0
  | e::r=>match keySame k e.1 with
    | some true=>0
    | _=>idxE k r+1
def maxI (x y:PV):Option PV :=
  match x,y with
  | .int k a,.int k' b=>if k=k' then some (.int k (if b>a then b else a)) else none
  | _,_=>none
def minI (x y:PV):Option PV :=
  match x,y with
  | .int k a,.int k' b=>if k=k' then some (.int k (if b<a then b else a)) else none
  | _,_=>none
def foldO (f:PV→PV→Option PV):PV→List PV→Option PV
  | x,[]=>some x
  | x,y::r=>match f x y with
    | some z=>foldO f z r
    | none=>none
def fillParts (ev:PX→PV):List PV→List (Nat × Nat × PX)→Option (List PV)
  | cs,[]=>some cs
  | cs,(off,n,x)::r=>if (ev x).good∧(ev x).cells.length=n∧off+n≤cs.length then fillParts ev (splice cs off (ev x).cells) r else none
def fillElems (ev:PX→PV):List PV→List (Nat × PX)→Option (List PV)
  | cs,[]=>some cs
  | cs,(i,x)::r=>match cs[i]? with
    | some e=>if e.cells.length=(ev x).cells.length∧(ev x).good then fillElems ev (cs.set i (ev x)) r else none
    | none=>none
section
variable (E:Env)
def evX (tmps:List PV):PX→PV
  | .t i=>tmps.getD i .junk
  | .c v=>v
  | .g i=>E.glob i
def boundsE (tmps:List PV) (len cap:Nat) (lo hi mx:Option PX):Option (Nat × Nat × Nat) :=
  match (match mx with|some y=>bound (evX E tmps y) cap|none=>some cap) with
  | none=>none
  | some m=>match (match hi with|some y=>bound (evX E tmps y) m|none=>if mx.isSome then none else some len) with
    | none=>none
    | some h=>match (match lo with|some y=>bound (evX E tmps y) h|none=>some 0) with
      | none=>none
      | some l=>some (l,h,m)
def Fr.put (fr:Fr) (dst:Option Nat) (v:PV):Fr :=
  match dst with
  | some d=>{ fr with tmps:=fr.tmps.set d v }
  | none=>fr
def obLow (L:Nat):Option Ob→Bool
  | some (.mem el _ cl _)=>cl||PV.lowL L el
  | some (.map es _ _)=>es.all fun e=>e.2.low L
  | some (.iter m _ _ _)=>m.low L
  | some (.loop t _ _ _ _ _)=>PV.lowL L t
  | _=>true
def heapLow (L:Nat) (h:Heap):Bool:=h.all fun t=>t.all (obLow L)
def Fr.nm (fr:Fr) (s:Nat):Nm:=(fr.lvl,s)
def nextGen (h:Heap) (n:Nm):Nat :=
  match hget h n with
  | some ob=>ob.gen+1
  | none=>1
def Fr.lay (fr:Fr) (dst:Option Nat) (s:Nat) (f:Nat→Option (PV × Ob)):Option Fr :=
  if s<(fr.heap.getD fr.lvl []).length then
    match f (nextGen fr.heap (fr.nm s)) with
    | some (v,ob)=>some ({ fr with heap:=hset fr.heap (fr.nm s) ob }.put dst v)
    | none=>none
  else none
def PV.pure (v:PV):Bool:=v.low 0
abbrev CallE:=Nat→List PV→Heap→Option (PV × Heap)
def pop (lv:Nat) (v:PV) (h:Heap):Option (PV × Heap) :=
  match snap h lv 4 v with
  | some v'=>if heapLow lv (h.take lv) then some (v',h.take lv) else none
  | none=>none
def doCall (callE:CallE) (f:Nat) (args:List PV) (h:Heap):Option (PV × Heap) :=
  match E.pf f with
  | none=>none
  | some pf =>
    if pf.pure then
      if PV.lowL 0 args then
        match callE f args [] with
        | some (v,h')=>match pop 0 v h' with
          | some (v',_)=>some (v',h)
          | none=>none
        | none=>none
      else match mapO (snap h 0 3) args with
        | none=>none
        | some args'=>match callE f args' [] with
          | some (v,h')=>match pop 0 v h' with
            | some (v',_)=>if v'.noref then some (v',h) else none
            | none=>none
          | none=>none
    else match callE f args h with
      | some (v,h')=>if pf.keep then some (v,h') else pop h.length v h'
      | none=>none
def callV (callE:CallE) (yieldE:Nm→List PV→Heap→Option (PV × Heap)) (f:PV) (args:List PV) (h:Heap):Option (PV × Heap) :=
  match f with
  | .fn f a b=>doCall E callE f (a++args++b) h
  | .yld n g=>match hget h n with
    | some (.loop _ _ _ _ _ g')=>if g=g' then yieldE n args h else none
    | _=>none
  | _=>none
def POp.slot:POp→Option Nat
  | .vec s _ _=>some s
  | .alloc s _=>some s
  | .box s _=>some s
  | .bslm s _ _ _ _=>some s
  | .mkmap s=>some s
  | .mkslice s _ _ _ _ _=>some s
  | _=>none
def layE (ev:PX→PV) (nm:Nm) (o:POp) (g:Nat):Option (PV × Ob) :=
  match o with
  | .vec _ cl sz=>some (.sl nm g 0 0,.mem [] g cl sz)
  | .alloc _ z=>some (.ptr nm g 0 0,.mem [z] g false z.cells.length)
  | .box _ x=>if (ev x).good then some (.ptr nm g 0 0,.mem [ev x] g false (ev x).cells.length) else none
  | .bslm _ cl sz z parts=>match fillElems ev z parts with
    | some cs=>if !cl||PV.lowL 0 cs then some (.sl nm g 0 cs.length,.mem cs g cl sz) else none
    | none=>none
  | .mkmap _=>some (.map nm g,.map [] 0 g)
  | .mkslice _ cl bytes z len cap=>match ev len,ev cap with
    | .int .i64 n,.int .i64 m=>if 0≤n∧n≤m∧m*bytes≤140737488355328∧m≤140737488355328∧(!cl||z.pure) then
        some (.sl nm g 0 n.toNat,.mem (List.replicate n.toNat z) g cl z.cells.length) else none
    | _,_=>none
  | _=>none
def nilRes (L:List PV) (r:Option (PV × Heap)):Bool :=
  !L.isEmpty||(match r with
    | some (.vs .nil [],_)=>true
    | _=>false)
def frzV (h:Heap) (v:PV):Option (PV × Heap) :=
  match v with
  | .sl n g off len=>match hget h n with
    | some (.mem el g' true _)=>if g=g'∧off+len≤el.length then some (.vs .any ((el.drop off).take len),hset h n (.dead (g+1))) else none
    | _=>none
  | v=>some (v,h)
def frzL:Heap→List PV→Option (List PV × Heap)
  | h,[]=>some ([],h)
  | h,v::r=>match frzV h v with
    | some (v',h1)=>match frzL h1 r with
      | some (r',h2)=>some (v'::r',h2)
      | none=>none
    | none=>none
def frzD (h:Heap) (v:PV):Option (PV × Heap) :=
  match v with
  | .agg cs=>match frzL h cs with
    | some (cs',h')=>some (.agg cs',h')
    | none=>none
  | v=>frzV h v
def storeV (p:PV) (h:Heap) (k:Option Nat) (v:PV):Option Heap :=
  match p with
  | .ptr n g i off=>match hget h n with
    | some (.mem el g' cl sz)=>if g=g'∧v.fits k∧(!cl||v.pure) then (match el[i]? with
        | some (.agg cs)=>if off+v.cells.length≤cs.length then
            some (hset h n (.mem (el.set i (.agg (splice cs off v.cells))) g' cl sz)) else none
        | some _=>if k=none∧off=0 then
            some (hset h n (.mem (el.set i v) g' cl sz)) else none
        | none=>none) else none
    | _=>none
  | _=>none
def PX.isT (j:Nat):PX→Bool
  | .t i=>Nat.beq i j
  | _=>false
def loadE (E:Env) (tmps:List PV) (h:Heap) (k:Option Nat) (a:PX):Option PV :=
  match evX E tmps a with
  | .ip cs=>loadFrom cs k
  | .ptr n g i off=>match hget h n with
    | some (.mem el g' _ _)=>if g=g' then (match el[i]? with
        | some e=>loadFrom (e.cells.drop off) k
        | none=>none) else none
    | _=>none
  | _=>none
def stepOp (callE:CallE) (yieldE:Nm→List PV→Heap→Option (PV × Heap)) (dst:Option Nat) (o:POp) (fr:Fr):Option Fr :=
  let ev:=evX E fr.tmps
  match o with
  | .mov x=>some (fr.put dst (ev x))
  | .frz x=>match ev x with
    | .sl n g off len=>match hget fr.heap n with
      | some (.mem el g' true _)=>if g=g'∧off+len≤el.length then
          let v:PV:=.vs .any ((el.drop off).take len)
          let fr':Fr:={ fr with heap:=hset fr.heap n (.dead (g+1)) }
          some ((match x with|.t i=>fr'.put (some i) v|_=>fr').put dst v) else none
      | _=>none
    | v=>if v.pure then some (fr.put dst v) else none
  | .vec s _ _=>fr.lay dst s (layE ev (fr.nm s) o)
  | .pick c a b=>match ev c with
    | .bool t=>some (fr.put dst (if t then ev a else ev b))
    | _=>none
  | .alloc s _=>fr.lay dst s (layE ev (fr.nm s) o)
  | .box s _=>fr.lay dst s (layE ev (fr.nm s) o)
  | .boxi x=>if (ev x).pure∧(ev x).good then some (fr.put dst (.ip (ev x).cells)) else none
  | .build z parts=>match fillParts ev z parts with
    | some cs=>some (fr.put dst (.agg cs))
    | none=>none
  | .bsl z parts=>match fillElems ev z parts with
    | some cs=>if PV.lowL 0 cs then some (fr.put dst (.vs .clip cs)) else none
    | none=>none
  | .bslm s _ _ _ _=>fr.lay dst s (layE ev (fr.nm s) o)
  | .load k a=>match ev a with
    | .ip cs=>match loadFrom cs k with
      | some v=>some (fr.put dst v)
      | none=>none
    | .ptr n g i off=>match hget fr.heap n with
      | some (.mem el g' _ _)=>if g=g' then (match el[i]? with
          | some e=>(match loadFrom (e.cells.drop off) k with
            | some v=>some (fr.put dst v)
            | none=>none)
          | none=>none) else none
      | _=>none
    | _=>none
  | .store k a x=>match ev a with
    | .ptr n g i off=>match hget fr.heap n with
      | some (.mem el g' cl sz)=>if g=g'∧(ev x).fits k∧(!cl||(ev x).pure) then (match el[i]? with
          | some (.agg cs)=>if off+(ev x).cells.length≤cs.length then
              some ({ fr with heap:=hset fr.heap n (.mem (el.set i (.agg (splice cs off (ev x).cells))) g' cl sz) }.put dst (.tuple [])) else none
          | some _=>if k=none∧off=0 then
              some ({ fr with heap:=hset fr.heap n (.mem (el.set i (ev x)) g' cl sz) }.put dst (.tuple [])) else none
          | none=>none) else none
      | _=>none
    | _=>none
  | .nilc x=>match ev x with
    | .ip cs=>some (fr.put dst (.ip cs))
    | .ptr n g i off=>match hget fr.heap n with
      | some (.mem _ g' _ _)=>if g=g' then some (fr.put dst (.ptr n g i off)) else none
      | _=>none
    | _=>none
  | .bini op x y=>match binI op (ev x) (ev y) with
    | some v=>some (fr.put dst v)
    | none=>none
  | .bins op x y=>match binS op (ev x) (ev y) with
    | some v=>some (fr.put dst v)
    | none=>none
  | .eq neg sh x y=>match Zf sh (ev x) (ev y) with
    | some b=>some (fr.put dst (.bool (if neg then !b else b)))
    | none=>none
  | .neg x=>match ev x with
    | .int k n=>some (fr.put dst (.int k (k.wrap (0 - n))))
    | _=>none
  | .compl x=>match ev x with
    | .int k n=>some (fr.put dst (.int k (k.wrap ((BitVec.ofInt k.bits (if k.signed then -1 else k.max) ^^^ BitVec.ofInt k.bits n).toNat:Int))))
    | _=>none
  | .notb x=>match ev x with
    | .bool b=>some (fr.put dst (.bool !b))
    | _=>none
  | .conv k x=>match ev x with
    | .int _ n=>some (fr.put dst (.int k (k.wrap n)))
    | _=>none
  | .convs x=>match ev x with
    | .str s=>some (fr.put dst (.str s))
    | _=>none
  | .mkfn f a b=>some (fr.put dst (.fn f (a.map ev) (b.map ev)))
  | .mkmap s=>fr.lay dst s (layE ev (fr.nm s) o)
  | .mkslice s _ _ _ _ _=>fr.lay dst s (layE ev (fr.nm s) o)
  | .sls x lo hi=>match ev x with
    | .str s=>match boundsE E fr.tmps s.length s.length lo hi none with
      | some (l,h,_)=>some (fr.put dst (.str ((s.take h).drop l)))
      | none=>none
    | _=>none
  | .slc sz x lo hi mx=>match ev x with
    | .vs c L=>match boundsE E fr.tmps L.length L.length lo hi mx with
      | some (l,h,m)=>if !headSz sz L then none else some (fr.put dst (.vs (if c=.nil then .nil else if (c.full||mx.isSome)&&Nat.beq h m then .clip else .any) ((L.take h).drop l)))
      | none=>none
    | .sl n g off len=>match hget fr.heap n with
      | some (.mem el g' _ _)=>if g=g'∧mx.isNone∧headSz sz el∧off+len≤el.length then (match boundsE E fr.tmps len len lo hi none with
          | some (l,h,_)=>some (fr.put dst (.sl n g (off+l) (h - l)))
          | none=>none) else none
      | _=>none
    | _=>none
  | .faddr off x=>match ev x with
    | .ip cs=>if off≤cs.length then some (fr.put dst (.ip (cs.drop off))) else none
    | .ptr n g i o=>match hget fr.heap n with
      | some (.mem _ g' _ _)=>if g=g' then some (fr.put dst (.ptr n g i (o+off))) else none
      | _=>none
    | _=>none
  | .fld off k x=>match ev x with
    | .agg cs=>match loadFrom (cs.drop off) k with
      | some v=>some (fr.put dst v)
      | none=>none
    | _=>none
  | .iaddr sz x i=>match ev i with
    | .int _ j=>if 0≤j then (match ev x with
        | .vs _ L=>match L[j.toNat]? with
          | some e=>if e.cells.length=sz then some (fr.put dst (.ip e.cells)) else none
          | none=>none
        | .sl n g off len=>match hget fr.heap n with
          | some (.mem el g' _ _)=>if g=g'∧j<len then (match el[off+j.toNat]? with
              | some e=>if e.cells.length=sz then some (fr.put dst (.ptr n g (off+j.toNat) 0)) else none
              | none=>none) else none
          | _=>none
        | _=>none) else none
    | _=>none
  | .iaddra n sz x i=>match ev i with
    | .int _ j=>if 0≤j∧j<n then (match ev x with
        | .ip cs=>if n*sz≤cs.length then some (fr.put dst (.ip (cs.drop (j.toNat*sz)))) else none
        | .ptr nm g e off=>(match hget fr.heap nm with
          | some (.mem _ g' _ _)=>if g=g' then some (fr.put dst (.ptr nm g e (off+j.toNat*sz))) else none
          | _=>none)
        | _=>none) else none
    | _=>none
  | .idx n sz k x i=>match ev i with
    | .int _ j=>if 0≤j∧j<n then (match ev x with
        | .agg cs=>if cs.length=n*sz then (match loadFrom (cs.drop (j.toNat*sz)) k with
          | some v=>some (fr.put dst v)
          | none=>none) else none
        | _=>none) else none
    | _=>none
  | .idxs x i=>match ev i,ev x with
    | .int _ j,.str s=>if 0≤j then (match s[j.toNat]? with
        | some b=>some (fr.put dst (.int .u8 b.toNat))
        | none=>none) else none
    | _,_=>none
  | .lookup str z ok m k=>if !keyIs str (ev k) then none else
      match (match ev m with
        | .nilmap=>some []
        | .map n g=>(match hget fr.heap n with|some (.map es _ g')=>if g=g' then some es else none|_=>none)
        | _=>none) with
      | some es=>match findE (ev k) es with
        | some r=>some (fr.put dst (if ok then .tuple [r.getD z,.bool r.isSome] else r.getD z))
        | none=>none
      | none=>none
  | .mupd str m k x=>if (ev x).pure&&keyIs str (ev k) then
      (match ev m with
        | .map n g=>(match hget fr.heap n with
          | some (.map es c g')=>if g=g' then (match findE (ev k) es with
            | some r=>some ({ fr with heap:=hset fr.heap n (.map (setE (ev k) (ev x) es) (if r.isSome then c else c+1) g') }.put dst (.tuple []))
            | none=>none) else none
          | _=>none)
        | _=>none) else none
  | .mentry str z m k=>if keyIs str (ev k) then
      (match ev m with
        | .map n g=>(match hget fr.heap n with
          | some (.map es c g')=>if g=g' then (match findE (ev k) es with
            | some r=>some ({ fr with heap:=hset fr.heap n (.map (setE (ev k) (r.getD z) es) (if r.isSome then c else c+1) g') }.put dst (.tuple [r.getD z,.int .i64 (idxE (ev k) es)]))
            | none=>none) else none
          | _=>none)
        | _=>none) else none
  | .estore m i x=>if (ev x).pure then
      (match ev m,ev i with
        | .map n g,.int _ j=>(match hget fr.heap n with
          | some (.map es c g')=>if g=g'∧0≤j then (match es[j.toNat]? with
            | some e=>some ({ fr with heap:=hset fr.heap n (.map (es.set j.toNat (e.1,ev x)) c g') }.put dst (.tuple []))
            | none=>none) else none
          | _=>none)
        | _,_=>none) else none
  | .rng s x=>match ev x with
    | .map n g=>(match hget fr.heap n with
      | some (.map _ c g')=>if g=g' then fr.lay dst s (fun g2=>some (.ptr (fr.nm s) g2 0 0,.iter (.map n g) c [] g2)) else none
      | _=>none)
    | _=>none
  | .next _=>none
  | .entry x=>match ev x with
    | .ptr n g 0 0=>(match hget fr.heap n with
      | some (.iter (.map m gm) c seen g')=>if g=g' then (match hget fr.heap m,seen.getLast? with
        | some (.map es c' gm'),some i=>if gm=gm'∧c=c' then (match es[i]? with
          | some e=>some (fr.put dst (.tuple [e.1,e.2]))
          | none=>none) else none
        | _,_=>none) else none
      | _=>none)
    | _=>none
  | .extract x i=>match ev x with
    | .tuple vs=>match vs[i]? with
      | some v=>some (fr.put dst v)
      | none=>none
    | _=>none
  | .call f args=>match callV E callE yieldE (ev f) (args.map ev) fr.heap with
    | some (v,h)=>some ({ fr with heap:=h }.put dst v)
    | none=>none
  | .calla s cl f args=>match ev f,args with
    | .fn k [] [],[x]=>match E.pf k,elems fr.heap (ev x) with
      | some pf,some L=>if pf.pure&&cleanFor fr.heap true (ev x) then
          (match callE k [.vs .nn L] [] with
          | some (.sl n g 0 len,h')=>(match hget h' n with
            | some (.mem el g' true sz)=>if g=g'∧len=el.length∧len=L.length∧PV.norefL el=true∧nilRes L (callE k [.vs .nil []] [])=true then
                (if cl then fr.lay dst s (fun g=>some (.sl (fr.nm s) g 0 len,.mem el g true sz)) else some (fr.put dst (.vs .any el))) else none
            | _=>none)
          | _=>none) else none
      | _,_=>none
    | _,_=>none
  | .defer f args=>match ev f with
    | .fn f a b=>some ({ fr with defers:=some (f,a++args.map ev++b)::fr.defers }.put dst (.tuple []))
    | _=>none
  | .lens x=>match ev x with
    | .str s=>some (fr.put dst (.int .i64 s.length))
    | _=>none
  | .lenl x=>match lenOf fr.heap (ev x) with
    | some n=>some (fr.put dst (.int .i64 n))
    | none=>none
  | .lenm x=>match ev x with
    | .nilmap=>some (fr.put dst (.int .i64 0))
    | .map n g=>(match hget fr.heap n with
      | some (.map es _ g')=>if g=g' then some (fr.put dst (.int .i64 es.length)) else none
      | _=>none)
    | _=>none
  | .append s cl sz bytes x y=>match elems fr.heap (ev y) with
    | none=>none
    | some ys=>if !headSz sz ys then none else match ev x with
      | .vs c L=>if c.full=true∧headSz sz L∧(L.isEmpty||!ys.isEmpty)∧(L.length+ys.length)*bytes≤140737488355328∧L.length+ys.length≤140737488355328∧cleanFor fr.heap cl (ev y) then
          fr.lay dst s (fun g=>some (.sl (fr.nm s) g 0 (L.length+ys.length),.mem (L++ys) g cl sz)) else none
      | .sl n g off len=>match hget fr.heap n with
        | some (.mem el g' cl' sz')=>if g=g'∧sz=sz'∧cleanFor fr.heap cl' (ev y) then
            (if off+len+ys.length≤el.length then
              some ({ fr with heap:=hset fr.heap n (.mem (el.take (off+len)++ys++el.drop (off+len+ys.length)) g' cl' sz') }.put dst (.sl n g off (len+ys.length)))
            else if off=0∧len≤el.length∧(len+ys.length)*bytes≤140737488355328∧len+ys.length≤140737488355328 then
              some ({ fr with heap:=hset fr.heap n (.mem (el.take len++ys) (g+ys.length) cl' sz') }.put dst (.sl n (g+ys.length) 0 (len+ys.length)))
            else none) else none
        | _=>none
      | _=>none
  | .storef k a x=>match dst,x with
    | none,.t j=>if a.isT j then none else (match frzD fr.heap (fr.tmps.getD j .junk) with
      | some (v,h)=>(match storeV (ev a) h k v with
        | some h'=>some { fr with heap:=h' }
        | none=>none)
      | none=>none)
    | _,_=>none
  | .loadf k a=>match loadE E fr.tmps fr.heap k a with
    | some v=>(match frzD fr.heap v with
      | some (v',h)=>some ({ fr with heap:=h }.put dst v')
      | none=>none)
    | none=>none
  | .appz s cl bytes z x n=>match ev x,ev n with
    | .vs c L,.int .i64 k=>if c.full=true∧L.isEmpty=true∧0<k∧k*bytes≤140737488355328∧k≤140737488355328∧(!cl||z.pure) then
        fr.lay dst s (fun g=>some (.sl (fr.nm s) g 0 k.toNat,.mem (List.replicate k.toNat z) g cl z.cells.length)) else none
    | _,_=>none
  | .appf sz bytes x y=>match ev x,ev y with
    | .vs c L,.vs _ ys=>if c.full=true∧headSz sz ys∧headSz sz L∧0<ys.length∧(L.length+ys.length)*bytes≤140737488355328∧L.length+ys.length≤140737488355328 then
        some (fr.put dst (.vs .any (L++ys))) else none
    | _,_=>none
  | .mx x r=>match foldO maxI (ev x) (r.map ev) with
    | some v=>some (fr.put dst v)
    | none=>none
  | .mn x r=>match foldO minI (ev x) (r.map ev) with
    | some v=>some (fr.put dst v)
    | none=>none
  | .copy _ _=>none
  | .delete _ _=>none
  | .eqnil k neg x=>match isNil k (ev x) with
    | some b=>some (fr.put dst (.bool (if neg then !b else b)))
    | none=>none
  | .ptrq neg x=>match isNil 1 (ev x) with
    | some b=>some (fr.put dst (.bool (if neg then !b else b)))
    | none=>match ev x with
      | .ptr n g _ _=>match hget fr.heap n with
        | some (.mem _ g' _ _)=>if g=g' then some (fr.put dst (.bool neg)) else none
        | _=>none
      | _=>none
  | .capl x=>match ev x with
    | .vs c L=>if c.full then some (fr.put dst (.int .i64 L.length)) else none
    | _=>none
  | .stop=>none
def guardE (tmps:List PV):Option (Nat × Bool)→Option Bool
  | none=>some true
  | some (t,b)=>match tmps.getD t .junk with
    | .bool c=>some (c==b)
    | .tuple _=>some false
    | _=>none
def stepPO (callE:CallE) (yieldE:Nm→List PV→Heap→Option (PV × Heap)) (o:PPO) (fr:Fr):Option Fr :=
  match guardE fr.tmps o.guard with
  | none=>none
  | some false=>some (fr.put o.dst (.tuple []))
  | some true=>stepOp E callE yieldE o.dst o.op fr
def runOps (callE:CallE) (yieldE:Nm→List PV→Heap→Option (PV × Heap)):List PPO→Fr→Option Fr
  | [],fr=>some fr
  | o::r,fr=>match stepPO E callE yieldE o fr with
    | some fr'=>runOps callE yieldE r fr'
    | none=>none
mutual
def PV.same:PV→PV→Bool
  | .bool a,.bool b=>a==b
  | .int k a,.int k' b=>decide (k=k')&&a==b
  | .str a,.str b=>a==b
  | .agg a,.agg b=>PV.sameL a b
  | .vs f a,.vs f' b=>decide (f=f')&&PV.sameL a b
  | .sl n g o l,.sl n' g' o' l'=>decide (n=n')&&g==g'&&o==o'&&l==l'
  | .ptr n g i o,.ptr n' g' i' o'=>decide (n=n')&&g==g'&&i==i'&&o==o'
  | .nilp,.nilp=>true
  | .ip a,.ip b=>PV.sameL a b
  | .map n g,.map n' g'=>decide (n=n')&&g==g'
  | .nilmap,.nilmap=>true
  | .fn f a b,.fn f' a' b'=>f==f'&&PV.sameL a a'&&PV.sameL b b'
  | .nilfn,.nilfn=>true
  | .nili,.nili=>true
  | .tuple a,.tuple b=>PV.sameL a b
  | _,_=>false
def PV.sameL:List PV→List PV→Bool
  | [],[]=>true
  | a::r,b::s=>a.same b&&PV.sameL r s
  | _,_=>false
end
def stable (callE:CallE) (yieldE:Nm→List PV→Heap→Option (PV × Heap)) (fr:Fr) (o:PPO):Bool :=
  match o.dst with
  | none=>false
  | some d=>match guardE fr.tmps o.guard with
    | none=>false
    | some false=>PV.same (fr.tmps.getD d .junk) (.tuple [])
    | some true=>match o.op.slot with
      | some s=>match hget fr.heap (fr.nm s) with
        | some (.mem el g cl sz)=>(match layE (evX E fr.tmps) (fr.nm s) o.op g with
          | some (v,.mem el' _ cl' sz')=>PV.same (fr.tmps.getD d .junk) v&&PV.sameL el el'&&cl==cl'&&sz==sz'
          | _=>false)
        | some (.map [] 0 g)=>(match layE (evX E fr.tmps) (fr.nm s) o.op g with
          | some (v,.map [] 0 _)=>PV.same (fr.tmps.getD d .junk) v
          | _=>false)
        | _=>false
      | none=>match stepOp E callE yieldE o.dst o.op fr with
        | some fr'=>PV.same (fr.tmps.getD d .junk) (fr'.tmps.getD d .junk)
        | none=>false
def quiet (o:PPO) (tmps:List PV):Bool :=
  match o.op with
  | .call f _=>match evX E tmps f with
    | .fn f _ _=>match E.pf f with
      | some pf=>pf.pure
      | none=>false
    | _=>false
  | _=>false
def dropSl:List DPO→Fr→Fr
  | [],fr=>fr
  | it::r,fr=>match (if it.isC then none else it.o.op.slot) with
    | some s=>match hget fr.heap (fr.nm s) with
      | some ob=>dropSl r { fr with heap:=hset fr.heap (fr.nm s) (.dead (ob.gen+1)) }
      | none=>dropSl r fr
    | none=>dropSl r fr
def freshSlot (fr:Fr) (o:PPO):Bool :=
  match o.op.slot with
  | some s=>(match hget fr.heap (fr.nm s) with
    | none=>true
    | some (.dead _)=>true
    | _=>false)
  | none=>true
def runD (callE:CallE) (yieldE:Nm→List PV→Heap→Option (PV × Heap)):List DPO→List DPO→Fr→Option Fr
  | _,[],fr=>some fr
  | past,it::r,fr=>if it.isC then
      match stepPO E callE yieldE it.o fr with
      | none=>none
      | some fr'=>if quiet E it.o fr.tmps||past.all (fun x=>!it.chk.contains x.ix||stable E callE yieldE fr' x.o) then runD callE yieldE past r fr' else none
    else if freshSlot fr it.o then
      match stepPO E callE yieldE it.o fr with
      | none=>none
      | some fr'=>runD callE yieldE (it::past) r fr'
    else none
def rvE (h:Heap) (tmps:List PV) (r:RV):Option PV :=
  match r.cell with
  | none=>some (tmps.getD r.t .junk)
  | some k=>match tmps.getD r.t .junk with
    | .ip cs=>loadFrom cs k
    | .ptr n g i off=>match hget h n with
      | some (.mem el g' _ _)=>if g=g' then (match el[i]? with
          | some e=>loadFrom (e.cells.drop off) k
          | none=>none) else none
      | _=>none
    | _=>none
def resultsE (h:Heap) (tmps:List PV) (rs:List RV):Option PV :=
  match mapO (rvE h tmps) rs with
  | some [v]=>some v
  | some vs=>some (.tuple vs)
  | none=>none
def keepE:Nat→List Nat→List PV→List PV
  | _,_,[]=>[]
  | i,[],_::r=>.junk::keepE (i+1) [] r
  | i,k::ks,v::r=>if Nat.beq i k then v::keepE (i+1) ks r else .junk::keepE (i+1) (k::ks) r
def endRoundE:PEx→Option PEx × PV
  | .norm=>(none,.bool true)
  | e=>(some e,.bool false)
mutual
def callN:Nat→CallE
  | 0=>fun _ _ _=>none
  | n+1=>fun f args h=>match E.pf f with
    | none=>none
    | some pf=>match pf.ext with
     | some val=>(match val args with
        | some v=>some (v,h++[[]])
        | none=>none)
     | none=>if args.length=pf.nparams then
        (match evN n pf.body { lvl:=h.length,tmps:=args++List.replicate (pf.ntmps - pf.nparams) (.tuple []),heap:=h++[List.replicate pf.nobjs none],defers:=[] } with
        | some (.norm,fr)|some (.ret,fr)=>(match defN n fr.defers fr.heap with
          | some h'=>(match resultsE h' fr.tmps pf.results with
            | some v=>some (v,h')
            | none=>none)
          | none=>none)
        | _=>none) else none
def callD:Nat→CallE
  | 0=>fun _ _ _=>none
  | n+1=>fun f args h=>match E.pf f with
    | none=>none
    | some pf=>if pf.ext.isNone∧args.length=pf.nparams then
        (match evN n pf.body { lvl:=h.length,tmps:=args++List.replicate (pf.ntmps - pf.nparams) (.tuple []),heap:=h++[List.replicate pf.nobjs none],defers:=[] } with
        | some (.norm,fr)|some (.ret,fr)=>if fr.defers.isEmpty then (match resultsE fr.heap fr.tmps pf.results with
            | some v=>some (v,fr.heap)
            | none=>none) else none
        | _=>none) else none
def defN:Nat→List (Option (Nat × List PV))→Heap→Option Heap
  | 0,_,_=>none
  | _+1,[],h=>some h
  | n+1,none::r,h=>defN n r h
  | n+1,some (f,args)::r,h=>match doCall E (callD n) f args h with
    | some (_,h')=>defN n r h'
    | none=>none
def evN:Nat→PC→Fr→Option (PEx × Fr)
  | 0,_,_=>none
  | n+1,c,fr=>match c with
    | .skip=>some (.norm,fr)
    | .regd its _ mxd=>if Nat.ble mxd fr.tmps.length then (match runD E (callN n) (yieldN n) [] its (dropSl its fr) with
      | some fr'=>some (.norm,fr')
      | none=>none) else none
    | .reg ops=>match runOps E (callN n) (yieldN n) ops fr with
      | some fr'=>some (.norm,fr')
      | none=>none
    | .seq a b=>match evN n a fr with
      | some (.norm,fr')=>evN n b fr'
      | r=>r
    | .cond c a b=>match evX E fr.tmps c with
      | .bool t=>evN n (if t then a else b) fr
      | _=>none
    | .block id a=>match evN n a fr with
      | some (.exit id',fr')=>if id'=id then some (.norm,fr') else some (.exit id',fr')
      | r=>r
    | .loop a=>match evN n a fr with
      | some (.norm,fr')=>evN n (.loop a) fr'
      | r=>r
    | .exit id=>some (.exit id,fr)
    | .ret=>some (.ret,fr)
    | .cln keep a=>evN n a { fr with tmps:=keepE 0 keep fr.tmps }
    | .rangef s f params assign body =>
      if s<(fr.heap.getD fr.lvl []).length then
        (match evX E fr.tmps f with
        | .fn f0 p q=>(match doCall E (callN n) f0 (p++[.yld (fr.nm s) (nextGen fr.heap (fr.nm s))]++q) (hset fr.heap (fr.nm s) (.loop fr.tmps params assign body none (nextGen fr.heap (fr.nm s)))) with
          | some (_,h)=>(match hget h (fr.nm s) with
            | some (.loop _ _ _ _ j g')=>if g'=nextGen fr.heap (fr.nm s) then
                (match j with
                | none=>some (.norm,{ fr with heap:=hset h (fr.nm s) (.dead (g'+1)),defers:=none::fr.defers })
                | some .norm=>none
                | some e=>some (e,{ fr with heap:=hset h (fr.nm s) (.dead (g'+1)),defers:=none::fr.defers })) else none
            | _=>none)
          | none=>none)
        | _=>none) else none
def yieldN:Nat→Nm→List PV→Heap→Option (PV × Heap)
  | 0,_,_,_=>none
  | n+1,nm,args,h=>match hget h nm with
    | some (.loop tmps params assign body none g)=>if args.length=params.length then
        (match evN n assign { lvl:=h.length,tmps:=(params.zip args).foldl (fun t p=>t.set p.1 p.2) tmps,heap:=h++[List.replicate (h.getD nm.1 []).length none],defers:=[] } with
        | some (.norm,fr)=>(match hget fr.heap nm with
          | some (.loop tmps' params' assign' body' none g1)=>if g1=g then
              (match evN n body { fr with heap:=hset fr.heap nm (.loop tmps' params' assign' body' (some .norm) g) } with
              | some (e,fr')=>(match hget fr'.heap nm with
                | some (.loop t p a b (some .norm) g2)=>if g2=g then
                    (match endRoundE e with
                    | (j,v)=>if heapLow h.length ((hset fr'.heap nm (.loop t p a b j g)).take h.length) then some (v,(hset fr'.heap nm (.loop t p a b j g)).take h.length) else none) else none
                | _=>none)
              | none=>none) else none
          | _=>none)
        | _=>none) else none
    | _=>none
end
end
end Go.VI
namespace Go.VI
structure Place where
  blk:Option Nat
  base:Nat
  sz:Nat
  cap:Nat
structure Ctx where
  imm:Nat→Prop
  obj:Nm→Option Place
  gen:Nm→Nat
inductive IRel (imm:Nat→Prop) (w:World):PV→Value→Prop
  | junk (u:Value):IRel imm w .junk u
  | bool (b:Bool):IRel imm w (.bool b) (.bool b)
  | int (k:IntKind) (n:Int):IRel imm w (.int k n) (.int k n)
  | str (s:ByteArray):IRel imm w (.str s.data.toList) (.string s)
  | agg (cs:List PV) (us:Array Value) (hl:cs.length=us.size) (h1:∀ (i:Nat) u,us[i]?=some u→u.oneCell'=true) (h:∀ (i:Nat) c u,cs[i]?=some c→us[i]?=some u→IRel imm w c u):IRel imm w (.agg cs) (.agg us)
  | vsNone (c:Fl) (hc:c≠.nn):IRel imm w (.vs c []) (.slice none 0 0)
  | vs (c:Fl) (L:List PV) (b o cap sz:Nat) (uf:Nat→Nat→Value) (hc:c≠.nil) (hcap:L.length≤cap) (hclip:c=.clip→cap=L.length)
      (hsz:∀ (i:Nat) e,L[i]?=some e→e.cells.length=sz)
      (hcell:∀ (i j:Nat),i<L.length→j<sz→imm b∧w.cell? ⟨b,o+i*sz+j,none⟩=some (uf i j)∧(uf i j).oneCell'=true)
      (h:∀ (i j:Nat) e cv,L[i]?=some e→e.cells[j]?=some cv→IRel imm w cv (uf i j)) :
      IRel imm w (.vs c L) (.slice (some ⟨b,o,none⟩) L.length cap)
  | vsE (c:Fl) (A:Addr) (hc:c≠.nil):IRel imm w (.vs c []) (.slice (some A) 0 0)
  | nilp:IRel imm w .nilp (.pointer none)
  | ip (cs:List PV) (b o:Nat) (uf:Nat→Value) (hcell:∀ (j:Nat),j<cs.length→imm b∧w.cell? ⟨b,o+j,none⟩=some (uf j)∧(uf j).oneCell'=true)
      (h:∀ (j:Nat) cv,cs[j]?=some cv→IRel imm w cv (uf j)):IRel imm w (.ip cs) (.pointer (some ⟨b,o,none⟩))
  | nilmap:IRel imm w .nilmap (.map none)
  | nilfn:IRel imm w .nilfn .nilFunc
  | nili:IRel imm w .nili .nilIface
  | fn (f:Nat) (a b:List PV) (xs ys:Array Value) (ha:a.length=xs.size) (hb:b.length=ys.size)
      (h1:∀ (i:Nat) c u,a[i]?=some c→xs[i]?=some u→IRel imm w c u) (h2:∀ (i:Nat) c u,b[i]?=some c→ys[i]?=some u→IRel imm w c u) :
      IRel imm w (.fn f a b) (.func (.func f) xs ys)
  | tuple (cs:List PV) (us:Array Value) (hl:cs.length=us.size) (h:∀ (i:Nat) c u,cs[i]?=some c→us[i]?=some u→IRel imm w c u):IRel imm w (.tuple cs) (.tuple us)
inductive VRel (c:Ctx) (w:World):PV→Value→Prop
  | i (v:PV) (u:Value) (h:IRel c.imm w v u):VRel c w v u
  | agg (cs:List PV) (us:Array Value) (hl:cs.length=us.size) (h1:∀ (i:Nat) u,us[i]?=some u→u.oneCell'=true) (h:∀ (i:Nat) cv u,cs[i]?=some cv→us[i]?=some u→VRel c w cv u):VRel c w (.agg cs) (.agg us)
  | tuple (cs:List PV) (us:Array Value) (hl:cs.length=us.size) (h:∀ (i:Nat) cv u,cs[i]?=some cv→us[i]?=some u→VRel c w cv u):VRel c w (.tuple cs) (.tuple us)
  | fn (f:Nat) (a b:List PV) (xs ys:Array Value) (ha:a.length=xs.size) (hb:b.length=ys.size)
      (h1:∀ (i:Nat) cv u,a[i]?=some cv→xs[i]?=some u→VRel c w cv u) (h2:∀ (i:Nat) cv u,b[i]?=some cv→ys[i]?=some u→VRel c w cv u) :
      VRel c w (.fn f a b) (.func (.func f) xs ys)
  | slStale (n:Nm) (g off len:Nat) (u:Value) (h:g<c.gen n) (h1:u.oneCell'=true):VRel c w (.sl n g off len) u
  | slNil (n:Nm) (g:Nat) (p:Place) (hg:g≤c.gen n) (hp:c.obj n=some p) (hb:p.blk=none):VRel c w (.sl n g 0 0) (.slice none 0 0)
  | sl (n:Nm) (g off len:Nat) (p:Place) (b:Nat) (hg:g≤c.gen n) (hp:c.obj n=some p) (hb:p.blk=some b) (hl:off+len≤p.cap) :
      VRel c w (.sl n g off len) (.slice (some ⟨b,p.base+off*p.sz,none⟩) len (p.cap - off))
  | slE (n:Nm) (g off:Nat) (p:Place) (A:Addr) (hg:g≤c.gen n) (hp:c.obj n=some p) (hl:off=p.cap):VRel c w (.sl n g off 0) (.slice (some A) 0 0)
  | ptrStale (n:Nm) (g i off:Nat) (u:Value) (h:g<c.gen n) (h1:u.oneCell'=true):VRel c w (.ptr n g i off) u
  | ptr (n:Nm) (g i off:Nat) (p:Place) (b:Nat) (hg:g≤c.gen n) (hp:c.obj n=some p) (hb:p.blk=some b) :
      VRel c w (.ptr n g i off) (.pointer (some ⟨b,p.base+i*p.sz+off,none⟩))
  | mapStale (n:Nm) (g:Nat) (u:Value) (h:g<c.gen n) (h1:u.oneCell'=true):VRel c w (.map n g) u
  | map (n:Nm) (g:Nat) (p:Place) (b:Nat) (hg:g≤c.gen n) (hp:c.obj n=some p) (hb:p.blk=some b):VRel c w (.map n g) (.map (some b))
  | yldStale (n:Nm) (g:Nat) (u:Value) (h:g<c.gen n) (h1:u.oneCell'=true):VRel c w (.yld n g) u
  | yld (n:Nm) (g:Nat) (p:Place) (b:Nat) (hg:g≤c.gen n) (hp:c.obj n=some p) (hb:p.blk=some b):VRel c w (.yld n g) (.func (.yield b) #[] #[])
def CRel (cl:Bool) (c:Ctx) (w:World) (v:PV) (u:Value):Prop:=if cl then IRel c.imm w v u else VRel c w v u
theorem CRel.v {cl:Bool} {c:Ctx} {w:World} {v:PV} {u:Value} (h:CRel cl c w v u):VRel c w v u:=by
  cases cl
  · exact h
  · exact .i _ _ h
structure MemRel (c:Ctx) (w:World) (p:Place) (el:List PV) (cl:Bool) (osz:Nat):Prop where
  osz:p.sz=osz
  nil:p.blk=none→el=[]∧p.cap=0
  cap:el.length≤p.cap
  sz:∀ (i:Nat) e,el[i]?=some e→e.cells.length=p.sz
  row:∀ b,p.blk=some b→∃ (arr:Array Value) (E:TypeId),w.heap[b]?=some (.cells arr E (0,0))∧p.base+p.cap*p.sz≤arr.size ∧
    ∀ (i j:Nat) e cv,el[i]?=some e→e.cells[j]?=some cv→∃ u,arr[p.base+i*p.sz+j]?=some u∧u.oneCell'=true∧CRel cl c w cv u
def LoopRel (c:Ctx) (w:World) (b:Nat) (tmps:List PV) (params:List Nat) (MC:PC→Code→Prop) (assign body:PC) (jump:Option PEx):Prop :=
  ∃ l:Loop,w.heap[b]?=some (.loop l)∧l.params.toList=params∧tmps.length=l.tmps.size∧(∀ i,VRel c w (tmps.getD i .junk) (l.tmps.getD i undef))∧MC assign l.assign∧MC body l.body ∧
    (match jump with
     | none=>l.state=.ready∧l.pending=none
     | some .norm=>l.state=.busy
     | some (.exit id)=>l.state=.done∧l.pending=some (.exit id)
     | some .ret=>l.state=.done∧l.pending=some .ret)
def ObRel (MC:PC→Code→Prop) (c:Ctx) (w:World) (n:Nm):Ob→Prop
  | .mem el g cl sz=>c.gen n=g∧∀ p,c.obj n=some p→MemRel c w p el cl sz
  | .map es clock g=>c.gen n=g∧∀ p,c.obj n=some p→∃ b arr,p.blk=some b∧w.heap[b]?=some (.map arr clock)∧(arr.size=es.length∧clock=es.length) ∧
      (∀ (i:Nat) (e:PV × PV) (x:MapEntry),es[i]?=some e→arr[i]?=some x→(IRel c.imm w e.1 x.key∧IRel c.imm w e.2 x.val)∧x.born=i)
  | .iter m since seen g=>c.gen n=g∧∀ p,c.obj n=some p→∃ b bm,(p.blk=some b∧p.base=0)∧w.heap[b]?=some (.mapIter (some bm) since seen.toArray since)∧VRel c w m (.map (some bm))
  | .loop tmps params assign body jump g=>c.gen n=g∧∀ p,c.obj n=some p→∃ b,p.blk=some b∧LoopRel c w b tmps params MC assign body jump
  | .dead g=>c.gen n=g
def HRel (MC:PC→Code→Prop) (c:Ctx) (h:Heap) (w:World):Prop:=∀ n o,hget h n=some o→ObRel MC c w n o
structure WF (G:Nat→Option PV) (c:Ctx) (w:World):Prop where
  lt:∀ n p b,c.obj n=some p→p.blk=some b→b<w.heap.size
  inj:∀ n m p q b,c.obj n=some p→c.obj m=some q→p.blk=some b→q.blk=some b→n=m
  apart:∀ n p b,c.obj n=some p→p.blk=some b→¬ c.imm b
  ilt:∀ b,c.imm b→b<w.heap.size
  glob:∀ g v,G g=some v→IRel c.imm w v (.pointer (some ⟨g,0,none⟩))
structure Step (N:Nm→Prop) (c:Ctx) (w:World) (c':Ctx) (w':World):Prop where
  size:w.heap.size≤w'.heap.size
  os:w'.os=w.os
  out:w'.output=w.output
  gen:∀ n,c.gen n≤c'.gen n
  obj:∀ n,¬ N n→c'.gen n=c.gen n→c'.obj n=c.obj n
  phan:∀ n,N n→c.obj n=none
  imm:∀ b,c.imm b→c'.imm b
  immNew:∀ b,c'.imm b→c.imm b∨w.heap.size≤b∨∃ n p,c.obj n=some p∧p.blk=some b
  objNew:∀ n p b,c'.obj n=some p→p.blk=some b→w.heap.size≤b∨∃ m q,c.obj m=some q∧q.blk=some b
  frame:∀ b,b<w.heap.size→(∀ n p,c.obj n=some p→p.blk≠some b)→w'.heap[b]?=w.heap[b]?
theorem cell?_of_heap {w w':World} {b o:Nat} (h:w'.heap[b]?=w.heap[b]?):w'.cell? ⟨b,o,none⟩=w.cell? ⟨b,o,none⟩:=by
  simp only [World.cell?,h]
theorem IRel.mono {imm imm':Nat→Prop} {w w':World} (h1:∀ b,imm b→imm' b) (h2:∀ b,imm b→w'.heap[b]?=w.heap[b]?) {v:PV} {u:Value} (h:IRel imm w v u):IRel imm' w' v u:=by
  induction h with
  | junk u=>exact .junk u
  | bool b=>exact .bool b
  | int k n=>exact .int k n
  | str s=>exact .str s
  | agg cs us hl h1 _ ih=>exact .agg cs us hl h1 ih
  | vsNone c hc=>exact .vsNone c hc
  | vsE c A hc=>exact .vsE c A hc
  | vs c L b o cap sz uf hc hcap hclip hsz hcell _ ih =>
    exact .vs c L b o cap sz uf hc hcap hclip hsz (fun i j hi hj=>let ⟨a,e,x⟩:=hcell i j hi hj;⟨h1 _ a,(cell?_of_heap (h2 _ a)).trans e,x⟩) ih
  | nilp=>exact .nilp
  | ip cs b o uf hcell _ ih=>exact .ip cs b o uf (fun j hj=>let ⟨a,e,x⟩:=hcell j hj;⟨h1 _ a,(cell?_of_heap (h2 _ a)).trans e,x⟩) ih
  | nilmap=>exact .nilmap
  | nilfn=>exact .nilfn
  | nili=>exact .nili
  | fn f a b xs ys ha hb _ _ i1 i2=>exact .fn f a b xs ys ha hb i1 i2
  | tuple cs us hl _ ih=>exact .tuple cs us hl ih
theorem Step.immSame {G:Nat→Option PV} {N:Nm→Prop} {c c':Ctx} {w w':World} (h:Step N c w c' w') (hw:WF G c w):∀ b,c.imm b→w'.heap[b]?=w.heap[b]? :=
  fun b hb=>h.frame b (hw.ilt b hb) fun n p hp he=>hw.apart n p b hp he hb
theorem IRel.step {G:Nat→Option PV} {N:Nm→Prop} {c c':Ctx} {w w':World} (h:Step N c w c' w') (hw:WF G c w) {v:PV} {u:Value} (hv:IRel c.imm w v u):IRel c'.imm w' v u :=
  hv.mono h.imm (h.immSame hw)
theorem Z1 {L:Nat}:∀ {cs:List PV} {i:Nat} {v:PV},PV.lowL L cs=true→cs[i]?=some v→v.low L=true
  | [],i,v,_,h=>by simp at h
  | a::r,0,v,hf,h=>by
    simp only [PV.lowL,Bool.and_eq_true] at hf
    simp only [List.getElem?_cons_zero,Option.some.injEq] at h
    exact h ▸ hf.1
  | a::r,i+1,v,hf,h=>by
    simp only [PV.lowL,Bool.and_eq_true] at hf
    simp only [List.getElem?_cons_succ] at h
    exact Z1 hf.2 h
theorem VRel.step {G:Nat→Option PV} {N:Nm→Prop} {c c':Ctx} {w w':World} (h:Step N c w c' w') (hw:WF G c w) {v:PV} {u:Value} (hv:VRel c w v u):VRel c' w' v u:=by
  have live:∀ {n p},c.obj n=some p→¬ N n:=fun {n p} hp hn=>by rw [h.phan n hn] at hp;cases hp
  induction hv with
  | i v u hi=>exact .i _ _ (hi.step h hw)
  | agg cs us hl h1 _ ih=>exact .agg cs us hl h1 ih
  | tuple cs us hl _ ih=>exact .tuple cs us hl ih
  | fn f a b xs ys ha hb _ _ i1 i2=>exact .fn f a b xs ys ha hb i1 i2
  | slStale n g off len u hg h1=>exact .slStale n g off len u (Nat.lt_of_lt_of_le hg (h.gen n)) h1
  | slNil n g p hg hp hb =>
    rcases Nat.eq_or_lt_of_le (h.gen n) with he|hl
    · exact .slNil n g p (he ▸ hg) ((h.obj n (live hp) he.symm).trans hp) hb
    · exact .slStale n g 0 0 _ (Nat.lt_of_le_of_lt hg hl) rfl
  | sl n g off len p b hg hp hb hl =>
    rcases Nat.eq_or_lt_of_le (h.gen n) with he|hlt
    · exact .sl n g off len p b (he ▸ hg) ((h.obj n (live hp) he.symm).trans hp) hb hl
    · exact .slStale n g off len _ (Nat.lt_of_le_of_lt hg hlt) rfl
  | slE n g off p A hg hp hl =>
    rcases Nat.eq_or_lt_of_le (h.gen n) with he|hlt
    · exact .slE n g off p A (he ▸ hg) ((h.obj n (live hp) he.symm).trans hp) hl
    · exact .slStale n g off 0 _ (Nat.lt_of_le_of_lt hg hlt) rfl
  | ptrStale n g i off u hg h1=>exact .ptrStale n g i off u (Nat.lt_of_lt_of_le hg (h.gen n)) h1
  | ptr n g i off p b hg hp hb =>
    rcases Nat.eq_or_lt_of_le (h.gen n) with he|hlt
    · exact .ptr n g i off p b (he ▸ hg) ((h.obj n (live hp) he.symm).trans hp) hb
    · exact .ptrStale n g i off _ (Nat.lt_of_le_of_lt hg hlt) rfl
  | mapStale n g u hg h1=>exact .mapStale n g u (Nat.lt_of_lt_of_le hg (h.gen n)) h1
  | map n g p b hg hp hb =>
    rcases Nat.eq_or_lt_of_le (h.gen n) with he|hlt
    · exact .map n g p b (he ▸ hg) ((h.obj n (live hp) he.symm).trans hp) hb
    · exact .mapStale n g _ (Nat.lt_of_le_of_lt hg hlt) rfl
  | yldStale n g u hg h1=>exact .yldStale n g u (Nat.lt_of_lt_of_le hg (h.gen n)) h1
  | yld n g p b hg hp hb =>
    rcases Nat.eq_or_lt_of_le (h.gen n) with he|hlt
    · exact .yld n g p b (he ▸ hg) ((h.obj n (live hp) he.symm).trans hp) hb
    · exact .yldStale n g _ (Nat.lt_of_le_of_lt hg hlt) rfl
def N0:Nm→Prop:=fun _=>False
theorem Step.refl (c:Ctx) (w:World):Step N0 c w c w :=
  ⟨Nat.le_refl _,rfl,rfl,fun _=>Nat.le_refl _,fun _ _ _=>rfl,fun _ h=>h.elim,fun _ h=>h,fun _ h=>.inl h,fun n p _ h1 h2=>.inr ⟨n,p,h1,h2⟩,fun _ _ _=>rfl⟩
theorem Step.trans' {N N':Nm→Prop} {c c1 c2:Ctx} {w w1 w2:World} (h:Step N c w c1 w1) (h':Step N' c1 w1 c2 w2) (hN:∀ n,N' n→N n∨c.gen n<c1.gen n):Step N c w c2 w2 where
  size:=Nat.le_trans h.size h'.size
  os:=h'.os.trans h.os
  out:=h'.out.trans h.out
  gen n:=Nat.le_trans (h.gen n) (h'.gen n)
  phan n hn:=h.phan n hn
  obj n hn he:=by
    have h1:=h.gen n
    have h2:=h'.gen n
    have e1:c1.gen n=c.gen n:=by omega
    have hn':¬ N' n:=fun x=>(hN n x).elim hn fun y=>by omega
    exact (h'.obj n hn' (by omega)).trans (h.obj n hn e1)
  imm b hb:=h'.imm b (h.imm b hb)
  immNew b hb:=by
    rcases h'.immNew b hb with h1|h1|⟨n,p,h1,h2⟩
    · exact h.immNew b h1
    · exact .inr (.inl (Nat.le_trans h.size h1))
    · rcases h.objNew n p b h1 h2 with h3|h3
      · exact .inr (.inl h3)
      · exact .inr (.inr h3)
  objNew n p b h1 h2:=by
    rcases h'.objNew n p b h1 h2 with h3|⟨m,q,h3,h4⟩
    · exact .inl (Nat.le_trans h.size h3)
    · exact h.objNew m q b h3 h4
  frame b hb hno:=by
    refine (h'.frame b (Nat.lt_of_lt_of_le hb h.size) fun n p h1 h2=>?_).trans (h.frame b hb hno)
    rcases h.objNew n p b h1 h2 with h3|⟨m,q,h3,h4⟩
    · omega
    · exact hno m q h3 h4
theorem Step.trans {c c1 c2:Ctx} {w w1 w2:World} (h:Step N0 c w c1 w1) (h':Step N0 c1 w1 c2 w2):Step N0 c w c2 w2:=h.trans' h' fun _ h=>h.elim
theorem VRel.pure {c:Ctx} {w:World} {v:PV} {u:Value} (h:VRel c w v u) (hp:v.low 0=true):IRel c.imm w v u:=by
  induction h with
  | i v u hi=>exact hi
  | agg cs us hl h1 _ ih=>exact .agg cs us hl h1 fun i cv u hc hu=>ih i cv u hc hu (Z1 hp hc)
  | tuple cs us hl _ ih=>exact .tuple cs us hl fun i cv u hc hu=>ih i cv u hc hu (Z1 hp hc)
  | fn f a b xs ys ha hb _ _ i1 i2 =>
    have hf':PV.lowL 0 a=true∧PV.lowL 0 b=true:=by simpa [PV.low] using hp
    exact .fn f a b xs ys ha hb (fun i cv u hc hu=>i1 i cv u hc hu (Z1 hf'.1 hc)) (fun i cv u hc hu=>i2 i cv u hc hu (Z1 hf'.2 hc))
  | slStale n g off len u hg h1=>simp [PV.low] at hp
  | slNil n g p hg hp' hb=>simp [PV.low] at hp
  | sl n g off len p b hg hp' hb hl=>simp [PV.low] at hp
  | slE n g off p A hg hp' hl=>simp [PV.low] at hp
  | ptrStale n g i off u hg h1=>simp [PV.low] at hp
  | ptr n g i off p b hg hp' hb=>simp [PV.low] at hp
  | mapStale n g u hg h1=>simp [PV.low] at hp
  | map n g p b hg hp' hb=>simp [PV.low] at hp
  | yldStale n g u hg h1=>simp [PV.low] at hp
  | yld n g p b hg hp' hb=>simp [PV.low] at hp
end Go.VI
namespace Go.VI
theorem Zb {α:Type} {l:List α} {i:Nat} {x:α} (h:l[i]?=some x):i<l.length:=(List.getElem?_eq_some_iff.1 h).1
theorem Zl {α:Type} {l:Array α} {i:Nat} {x:α} (h:l[i]?=some x):i<l.size:=(Array.getElem?_eq_some_iff.1 h).1
theorem Yd {h:Heap} {n m:Nm} {o:Ob} (hne:m≠n):hget (hset h n o) m=hget h m:=by
  unfold hget hset
  simp only [List.getElem?_modify]
  cases hm:h[m.1]? with
  | none=>rfl
  | some t =>
    by_cases h1:n.1=m.1
    · have h2:n.2≠m.2:=fun e=>hne (Prod.ext h1.symm e.symm)
      simp [h1,List.getElem?_set_ne h2]
    · simp [h1]
theorem Z8 {h:Heap} {n:Nm} {o:Ob} (hl:n.2<(h.getD n.1 []).length):hget (hset h n o) n=some o:=by
  unfold hget hset
  simp only [List.getElem?_modify]
  cases hm:h[n.1]? with
  | none=>simp [List.getD,hm] at hl
  | some t =>
    have:n.2<t.length:=by simpa [List.getD,hm] using hl
    simp [List.getElem?_set_self this]
theorem hget_lt {h:Heap} {n:Nm} {o:Ob} (hg:hget h n=some o):n.2<(h.getD n.1 []).length:=by
  unfold hget at hg
  cases hm:h[n.1]? with
  | none=>simp [hm] at hg
  | some t =>
    simp only [hm,Option.bind_some] at hg
    cases hs:t[n.2]? with
    | none=>simp [hs] at hg
    | some x=>simpa [List.getD,hm] using Zb hs
def LRel (c:Ctx) (w:World) (l:List PV) (a:Array Value):Prop:=l.length=a.size∧∀ (i:Nat) v u,l[i]?=some v→a[i]?=some u→VRel c w v u
structure DRel (c:Ctx) (w:World) (d:Nat × List PV) (x:Deferred):Prop where
  ex:∃ caps,x.target=.fn (.func d.1) caps∧LRel c w d.2 (x.args++caps)
inductive DefRel (lo:Nat) (c:Ctx) (w:World):List (Option (Nat × List PV))→List Deferred→Prop
  | nil:DefRel lo c w [] []
  | cons (d:Nat × List PV) (x:Deferred) (ds:List (Option (Nat × List PV))) (xs:List Deferred) (h:DRel c w d x) (t:DefRel lo c w ds xs):DefRel lo c w (some d::ds) (x::xs)
  | mark (r:Nat) (ds:List (Option (Nat × List PV))) (xs:List Deferred) (hlo:lo≤r) (hr:w.heap[r]?=some (.deferred (some []))) (ho:∀ n p,c.obj n=some p→p.blk≠some r) (hi:¬ c.imm r)
      (hx:∀ d∈xs,d.target≠.collected r) (t:DefRel lo c w ds xs):DefRel lo c w (none::ds) ({ target:=.collected r,args:=#[] }::xs)
structure PG where
  P:Program
  E:Env
  GL:Nat→Bool
  MC:PC→Code→Prop
  lo:Nat
def PG.G (g:PG):Nat→Option PV:=fun i=>if g.GL i then some (g.E.glob i) else none
structure FrRel (g:PG) (c:Ctx) (w:World) (fr:Fr) (a:Act):Prop where
  size:fr.tmps.length=a.tmps.size
  tmps:∀ i,VRel c w (fr.tmps.getD i .junk) (a.tmps.getD i undef)
  heap:HRel g.MC c fr.heap w
  wf:WF g.G c w
  defs:DefRel g.lo c w fr.defers a.defers
  hn:∀ n,hget fr.heap n=none→c.gen n=0∧c.obj n=none
def OpOK (g:PG) (c:Ctx) (w:World) (_fr:Fr) (fr':Fr) (a:Act) (dst:Option Tmp) (r:Result Next):Prop :=
  ∃ (v:Value) (w':World) (c':Ctx),(r=.ok (.value v) w'∨(r=.ok .skip w'∧v=undef))∧Step N0 c w c' w'∧FrRel g c' w' fr' (a.put dst v)
theorem getD_set (l:List PV) (a:Array Value) (d:Nat) (pv:PV) (v:Value) (hs:l.length=a.size) (i:Nat) :
    ((l.set d pv).getD i .junk=pv∧(a.setIfInBounds d v).getD i undef=v)∨((l.set d pv).getD i .junk=l.getD i .junk∧(a.setIfInBounds d v).getD i undef=a.getD i undef):=by
  by_cases hd:d=i
  · subst hd
    by_cases hl:d<l.length
    · left
      constructor
      · simp [List.getD,List.getElem?_set_self hl]
      · have:d<a.size:=hs ▸ hl
        simp [Array.getD_eq_getD_getElem?,Array.getElem?_setIfInBounds_self_of_lt this]
    · right
      have h2:¬ d<a.size:=hs ▸ hl
      constructor
      · rw [List.set_eq_of_length_le (by omega)]
      · simp [Array.setIfInBounds,h2]
  · right
    constructor
    · simp [List.getD,List.getElem?_set_ne hd]
    · simp [Array.getD_eq_getD_getElem?,Array.getElem?_setIfInBounds_ne hd]
theorem FrRel.put {g:PG} {c:Ctx} {w:World} {fr:Fr} {a:Act} (h:FrRel g c w fr a) (dst:Option Nat) {pv:PV} {v:Value} (hv:VRel c w pv v):FrRel g c w (fr.put dst pv) (a.put dst v):=by
  cases dst with
  | none=>exact h
  | some d =>
    refine ⟨by simp [Fr.put,Act.put,h.size],fun i=>?_,h.heap,h.wf,h.defs,h.hn⟩
    rcases getD_set fr.tmps a.tmps d pv v h.size i with ⟨h1,h2⟩|⟨h1,h2⟩
    · show VRel c w ((fr.tmps.set d pv).getD i .junk) ((a.tmps.setIfInBounds d v).getD i undef)
      rw [h1,h2];exact hv
    · show VRel c w ((fr.tmps.set d pv).getD i .junk) ((a.tmps.setIfInBounds d v).getD i undef)
      rw [h1,h2];exact h.tmps i
theorem OpOK.value {g:PG} {c:Ctx} {w:World} {fr:Fr} {a:Act} (h:FrRel g c w fr a) (dst:Option Nat) {pv:PV} {v:Value} {r:Result Next} (hr:r=.ok (.value v) w) (hv:VRel c w pv v) :
    OpOK g c w fr (fr.put dst pv) a dst r:=⟨v,w,c,.inl hr,Step.refl _ _,h.put dst hv⟩
mutual
def constOK:PV→Value→Bool
  | .bool a,.bool b=>a==b
  | .int k a,.int k' b=>decide (k=k')&&a==b
  | .str s,.string t=>s==t.data.toList
  | .vs .nil [],.slice none 0 0=>true
  | .nilp,.pointer none=>true
  | .nilmap,.map none=>true
  | .nilfn,.nilFunc=>true
  | .nili,.nilIface=>true
  | .agg cs,.agg us=>constOKL cs us.toList
  | .tuple cs,.tuple us=>constOKT cs us.toList
  | _,_=>false
def constOKL:List PV→List Value→Bool
  | [],[]=>true
  | c::r,u::s=>constOK c u&&u.oneCell'&&constOKL r s
  | _,_=>false
def constOKT:List PV→List Value→Bool
  | [],[]=>true
  | c::r,u::s=>constOK c u&&constOKT r s
  | _,_=>false
end
mutual
theorem constOK_rel (imm:Nat→Prop) (w:World) (v:PV) (u:Value) (h:constOK v u=true):IRel imm w v u:=by
  unfold constOK at h
  split at h
  · simp at h;subst h;exact .bool _
  · simp at h;obtain ⟨rfl,rfl⟩:=h;exact .int _ _
  · simp at h;subst h;exact .str _
  · exact .vsNone _ (by simp)
  · exact .nilp
  · exact .nilmap
  · exact .nilfn
  · exact .nili
  · rename_i cs us
    have:=constOKL_rel imm w cs us.toList h
    exact .agg cs us (by simpa using this.1) (fun i u hu=>this.2.1 i u (by simpa using hu)) (fun i c u hc hu=>this.2.2 i c u hc (by simpa using hu))
  · rename_i cs us
    have:=constOKT_rel imm w cs us.toList h
    exact .tuple cs us (by simpa using this.1) (fun i c u hc hu=>this.2 i c u hc (by simpa using hu))
  · simp at h
  termination_by SizeOf.sizeOf v
theorem constOKL_rel (imm:Nat→Prop) (w:World) (cs:List PV) (us:List Value) (h:constOKL cs us=true) :
    cs.length=us.length∧(∀ (i:Nat) u,us[i]?=some u→u.oneCell'=true)∧∀ (i:Nat) c u,cs[i]?=some c→us[i]?=some u→IRel imm w c u:=by
  match cs,us,h with
  | [],[],_=>exact ⟨rfl,fun i u h=>by simp at h,fun i c u h=>by simp at h⟩
  | c::r,u::s,h =>
    simp only [constOKL,Bool.and_eq_true] at h
    have ih:=constOKL_rel imm w r s h.2
    refine ⟨by simp [ih.1],fun i x hx=>?_,fun i x y hx hy=>?_⟩
    · cases i with
      | zero=>simp at hx;exact hx ▸ h.1.2
      | succ i=>exact ih.2.1 i x (by simpa using hx)
    · cases i with
      | zero=>simp at hx hy;exact hx ▸ hy ▸ constOK_rel imm w c u h.1.1
      | succ i=>exact ih.2.2 i x y (by simpa using hx) (by simpa using hy)
  | [],_::_,h=>simp [constOKL] at h
  | _::_,[],h=>simp [constOKL] at h
  termination_by SizeOf.sizeOf cs
theorem constOKT_rel (imm:Nat→Prop) (w:World) (cs:List PV) (us:List Value) (h:constOKT cs us=true) :
    cs.length=us.length∧∀ (i:Nat) c u,cs[i]?=some c→us[i]?=some u→IRel imm w c u:=by
  match cs,us,h with
  | [],[],_=>exact ⟨rfl,fun i c u h=>by simp at h⟩
  | c::r,u::s,h =>
    simp only [constOKT,Bool.and_eq_true] at h
    have ih:=constOKT_rel imm w r s h.2
    refine ⟨by simp [ih.1],fun i x y hx hy=>?_⟩
    · cases i with
      | zero=>simp at hx hy;exact hx ▸ hy ▸ constOK_rel imm w c u h.1
      | succ i=>exact ih.2 i x y (by simpa using hx) (by simpa using hy)
  | [],_::_,h=>simp [constOKT] at h
  | _::_,[],h=>simp [constOKT] at h
  termination_by SizeOf.sizeOf cs
end
def PG.matchX (g:PG):PX→Operand→Bool
  | .t i,.tmp j=>i==j
  | .c v,.const u=>constOK v u
  | .c (.fn f [] []),.func k=>f==k
  | .g i,.global j=>i==j&&g.GL i
  | _,_=>false
theorem FrRel.x {g:PG} {c:Ctx} {w:World} {fr:Fr} {a:Act} (h:FrRel g c w fr a) {x:PX} {o:Operand} (hm:g.matchX x o=true):VRel c w (evX g.E fr.tmps x) (a.eval o):=by
  cases x with
  | t i =>
    cases o<;>simp [PG.matchX] at hm
    subst hm;exact h.tmps _
  | c v =>
    cases o with
    | const u=>exact .i _ _ (constOK_rel _ _ v u (by simpa [PG.matchX] using hm))
    | func k =>
      cases v with
      | fn f p q =>
        cases p<;>cases q<;>simp [PG.matchX] at hm
        subst hm
        exact .i _ _ (.fn f [] [] #[] #[] rfl rfl (fun i c u hc=>by simp at hc) (fun i c u hc=>by simp at hc))
      | _=>simp [PG.matchX] at hm
    | tmp j=>cases v<;>simp [PG.matchX] at hm
    | global j=>cases v<;>simp [PG.matchX] at hm
  | g i =>
    cases o<;>simp [PG.matchX] at hm
    obtain ⟨rfl,hg⟩:=hm
    exact .i _ _ (h.wf.glob i _ (by simp [PG.G,hg,evX]))
def PG.matchXs (g:PG):List PX→List Operand→Bool
  | [],[]=>true
  | x::r,o::s=>g.matchX x o&&g.matchXs r s
  | _,_=>false
theorem FrRel.xs {g:PG} {c:Ctx} {w:World} {fr:Fr} {a:Act} (h:FrRel g c w fr a):∀ {xs:List PX} {os:List Operand},g.matchXs xs os=true →
    xs.length=os.length∧∀ (i:Nat) v u,(xs.map (evX g.E fr.tmps))[i]?=some v→(os.map a.eval)[i]?=some u→VRel c w v u
  | [],[],_=>⟨rfl,fun i v u hv=>by simp at hv⟩
  | x::r,o::s,hm=>by
    simp only [PG.matchXs,Bool.and_eq_true] at hm
    have ih:=h.xs hm.2
    refine ⟨by simp [ih.1],fun i v u hv hu=>?_⟩
    cases i with
    | zero=>simp at hv hu;exact hv ▸ hu ▸ h.x hm.1
    | succ i=>exact ih.2 i v u (by simpa using hv) (by simpa using hu)
  | [],_::_,hm=>by simp [PG.matchXs] at hm
  | _::_,[],hm=>by simp [PG.matchXs] at hm
section forms
variable {c:Ctx} {w:World}
theorem VRel.bool_inv {b:Bool} {u:Value} (h:VRel c w (.bool b) u):u=.bool b:=by
  cases h with
  | i _ _ h=>cases h;rfl
theorem VRel.int_inv {k:IntKind} {n:Int} {u:Value} (h:VRel c w (.int k n) u):u=.int k n:=by
  cases h with
  | i _ _ h=>cases h;rfl
theorem VRel.str_inv {s:List UInt8} {u:Value} (h:VRel c w (.str s) u):∃ t:ByteArray,u=.string t∧t.data.toList=s:=by
  cases h with
  | i _ _ h=>cases h;exact ⟨_,rfl,rfl⟩
theorem VRel.agg_inv {cs:List PV} {u:Value} (h:VRel c w (.agg cs) u):∃ us:Array Value,u=.agg us∧cs.length=us.size∧(∀ (i:Nat) x,us[i]?=some x→x.oneCell'=true) ∧
    ∀ (i:Nat) cv x,cs[i]?=some cv→us[i]?=some x→VRel c w cv x:=by
  cases h with
  | i _ _ h=>cases h with
    | agg cs us hl h1 h=>exact ⟨us,rfl,hl,h1,fun i cv x a b=>.i _ _ (h i cv x a b)⟩
  | agg cs us hl h1 h=>exact ⟨us,rfl,hl,h1,h⟩
theorem VRel.tuple_inv {cs:List PV} {u:Value} (h:VRel c w (.tuple cs) u):∃ us:Array Value,u=.tuple us∧cs.length=us.size ∧
    ∀ (i:Nat) cv x,cs[i]?=some cv→us[i]?=some x→VRel c w cv x:=by
  cases h with
  | i _ _ h=>cases h with
    | tuple cs us hl h=>exact ⟨us,rfl,hl,fun i cv x a b=>.i _ _ (h i cv x a b)⟩
  | tuple cs us hl h=>exact ⟨us,rfl,hl,h⟩
theorem VRel.fn_inv {f:Nat} {p q:List PV} {u:Value} (h:VRel c w (.fn f p q) u):∃ xs ys:Array Value,u=.func (.func f) xs ys∧LRel c w p xs∧LRel c w q ys:=by
  cases h with
  | i _ _ h=>cases h with
    | fn f a b xs ys ha hb h1 h2=>exact ⟨xs,ys,rfl,⟨ha,fun i cv x a b=>.i _ _ (h1 i cv x a b)⟩,⟨hb,fun i cv x a b=>.i _ _ (h2 i cv x a b)⟩⟩
  | fn f a b xs ys ha hb h1 h2=>exact ⟨xs,ys,rfl,⟨ha,h1⟩,⟨hb,h2⟩⟩
theorem VRel.vs_inv {f:Fl} {L:List PV} {u:Value} (h:VRel c w (.vs f L) u):IRel c.imm w (.vs f L) u:=by
  cases h with
  | i _ _ h=>exact h
theorem VRel.ip_inv {cs:List PV} {u:Value} (h:VRel c w (.ip cs) u):IRel c.imm w (.ip cs) u:=by
  cases h with
  | i _ _ h=>exact h
theorem VRel.cells {v:PV} {u:Value} (h:VRel c w v u) (hg:v.good=true) :
    u.cells.size=v.cells.length∧∀ (j:Nat) cv x,v.cells[j]?=some cv→u.cells[j]?=some x→VRel c w cv x∧x.oneCell'=true:=by
  have one:∀ {v u},VRel c w v u→v.cells=[v]→u.cells=#[u]→u.oneCell'=true →
      u.cells.size=v.cells.length∧∀ (j:Nat) cv x,v.cells[j]?=some cv→u.cells[j]?=some x→VRel c w cv x∧x.oneCell'=true:=by
    intro v u h hv hu h1
    rw [hv,hu]
    refine ⟨rfl,fun j cv x hc hx=>?_⟩
    cases j with
    | zero=>simp at hc hx;exact hc ▸ hx ▸ ⟨h,h1⟩
    | succ j=>simp at hc
  have stale:∀ {v u},VRel c w v u→v.cells=[v]→u.oneCell'=true →
      u.cells.size=v.cells.length∧∀ (j:Nat) cv x,v.cells[j]?=some cv→u.cells[j]?=some x→VRel c w cv x∧x.oneCell'=true:=by
    intro v u h hv h1
    exact one h hv (by cases u<;>first|rfl|simp [Value.oneCell'] at h1) h1
  have hh:=h
  cases h with
  | i _ _ h=>cases h with
    | junk=>simp [PV.good] at hg
    | agg cs us hl h1 h=>exact ⟨hl.symm,fun j cv x a b=>⟨.i _ _ (h j cv x a b),h1 j x b⟩⟩
    | tuple=>simp [PV.good] at hg
    | _=>exact one hh rfl rfl rfl
  | agg cs us hl h1 h=>exact ⟨hl.symm,fun j cv x a b=>⟨h j cv x a b,h1 j x b⟩⟩
  | tuple=>simp [PV.good] at hg
  | fn=>exact one hh rfl rfl rfl
  | slStale _ _ _ _ _ _ h1=>exact stale hh rfl h1
  | ptrStale _ _ _ _ _ _ h1=>exact stale hh rfl h1
  | mapStale _ _ _ _ h1=>exact stale hh rfl h1
  | yldStale _ _ _ _ h1=>exact stale hh rfl h1
  | _=>exact one hh rfl rfl rfl
theorem VRel.one {v:PV} {u:Value} (h:VRel c w v u) (hg:v.fits none=true):u.oneCell'=true:=by
  have h1:v.good=true:=by cases v<;>simp_all [PV.fits,PV.good]
  have h2:v.cells=[v]:=by cases v<;>simp_all [PV.fits,PV.cells]
  have:=h.cells h1
  rw [h2] at this
  cases hu:u with
  | agg us =>
    cases h with
    | i _ _ h=>cases h<;>simp_all [PV.fits,PV.good]
    | agg=>simp [PV.fits] at hg
    | slStale _ _ _ _ _ _ h1=>exact hu ▸ h1
    | ptrStale _ _ _ _ _ _ h1=>exact hu ▸ h1
    | mapStale _ _ _ _ h1=>exact hu ▸ h1
    | yldStale _ _ _ _ h1=>exact hu ▸ h1
    | _=>simp at hu
  | tuple us =>
    cases h with
    | i _ _ h=>cases h<;>simp_all [PV.fits,PV.good]
    | tuple=>simp [PV.fits,PV.good] at hg
    | slStale _ _ _ _ _ _ h1=>exact hu ▸ h1
    | ptrStale _ _ _ _ _ _ h1=>exact hu ▸ h1
    | mapStale _ _ _ _ h1=>exact hu ▸ h1
    | yldStale _ _ _ _ h1=>exact hu ▸ h1
    | _=>simp at hu
  | _=>rfl
end forms
end Go.VI
namespace Go.VI
variable {g:PG} {c:Ctx} {w:World} {fr fr':Fr} {a:Act} {o:Oper} {callE:CallE} {yieldE:Nm→List PV→Heap→Option (PV × Heap)}
theorem Zc (P:Program) {t:TypeId} {d:TypeDesc} (w:World) (h:P.underlying t=some d):(underlying t).run P w=.ok d w:=by
  simp [underlying,h]
theorem ok_mov (h:FrRel g c w fr a) {x:PX} {y:Operand} (ho:o.op=.move y∨o.op=.assign y) (hm:g.matchX x y=true)
    (hs:stepOp g.E callE yieldE o.dst (.mov x) fr=some fr'):OpOK g c w fr fr' a o.dst ((execOp a.eval o).run g.P w):=by
  simp only [stepOp,Option.some.injEq] at hs
  subst hs
  refine OpOK.value h _ (v:=a.eval y) ?_ (h.x hm)
  rcases ho with ho|ho<;>simp [execOp,ho]
theorem ok_pick (h:FrRel g c w fr a) {x p q:PX} {x' p' q':Operand} (ho:o.op=.pick x' p' q') (hx:g.matchX x x'=true) (hp:g.matchX p p'=true) (hq:g.matchX q q'=true)
    (hs:stepOp g.E callE yieldE o.dst (.pick x p q) fr=some fr'):OpOK g c w fr fr' a o.dst ((execOp a.eval o).run g.P w):=by
  simp only [stepOp] at hs
  split at hs
  · rename_i t ht
    have hv:=h.x hx
    rw [ht] at hv
    have he:=hv.bool_inv
    simp only [Option.some.injEq] at hs
    subst hs
    refine OpOK.value h _ (v:=if t then a.eval p' else a.eval q') ?_ (by cases t<;>simp [h.x hp,h.x hq])
    simp [execOp,ho,he,asBool]
  · simp at hs
theorem run_intOp {P:Program} {w:World} {op:BinOp} {k:IntKind} {t:TypeId} {x y:Int} {v:PV} (h:intOp op k x y=some v) :
    ∃ u,(binOp op t (.int k x) (.int k y)).run P w=.ok u w∧∀ c:Ctx,VRel c w v u:=by
  cases op
  case quo =>
    simp only [intOp] at h
    split at h<;>simp only [reduceCtorEq,Option.some.injEq] at h
    rename_i hn
    subst h
    exact ⟨_,by simp [binOp,Op.intDiv,hn],fun c=>.i _ _ (.int _ _)⟩
  case rem =>
    simp only [intOp] at h
    split at h<;>simp only [reduceCtorEq,Option.some.injEq] at h
    rename_i hn
    subst h
    exact ⟨_,by simp [binOp,Op.intDiv,hn],fun c=>.i _ _ (.int _ _)⟩
  case shl=>simp [intOp] at h
  case shr=>simp [intOp] at h
  all_goals
    simp only [intOp,Option.some.injEq] at h
    subst h
    first
    | (refine ⟨_,?_,fun c=>.i _ _ (.int _ _)⟩;(simp [binOp,Op.intArith];done))
    | (refine ⟨_,?_,fun c=>.i _ _ (.int _ _)⟩;(simp only [binOp,ne_eq,not_true_eq_false,if_false];rfl))
    | (refine ⟨_,?_,fun c=>.i _ _ (.bool _)⟩;(simp [binOp,Op.intCmp];done))
theorem run_shiftOp {P:Program} {w:World} {op:BinOp} {k k':IntKind} {t:TypeId} {x y:Int} {v:PV} (hop:op=.shl∨op=.shr) (h:shiftOp op k x y=some v) :
    ∃ u,(binOp op t (.int k x) (.int k' y)).run P w=.ok u w∧∀ c:Ctx,VRel c w v u:=by
  unfold shiftOp at h
  split at h
  · simp at h
  · rename_i hn
    rcases hop with rfl|rfl<;>simp only [Option.some.injEq] at h<;>subst h <;>
      exact ⟨_,by simp [binOp,Op.shift,hn],fun c=>.i _ _ (.int _ _)⟩
theorem run_eqGuard_int {P:Program} {w:World} (op:BinOp) (t:TypeId) (x y:Operand) (k k':IntKind) (m n:Int):(eqGuard op t x y (.int k m) (.int k' n)).run P w=.ok () w:=by
  unfold eqGuard
  split<;>rfl
theorem run_eqGuard_str {P:Program} {w:World} (op:BinOp) (t:TypeId) (x y:Operand) (m n:ByteArray):(eqGuard op t x y (.string m) (.string n)).run P w=.ok () w:=by
  unfold eqGuard
  split<;>rfl
theorem ok_bini (h:FrRel g c w fr a) {op:BinOp} {x y:PX} {x' y':Operand} {t t':TypeId} (ho:o.op=.binOp op t x' y' t') (hx:g.matchX x x'=true) (hy:g.matchX y y'=true)
    (hs:stepOp g.E callE yieldE o.dst (.bini op x y) fr=some fr'):OpOK g c w fr fr' a o.dst ((execOp a.eval o).run g.P w):=by
  simp only [stepOp] at hs
  split at hs
  · rename_i v hv
    simp only [Option.some.injEq] at hs
    subst hs
    have h1:=h.x hx
    have h2:=h.x hy
    have fin:∀ {k k':IntKind} {m n:Int} {u:Value},a.eval x'=.int k m→a.eval y'=.int k' n→(binOp op t (.int k m) (.int k' n)).run g.P w=.ok u w→(∀ c:Ctx,VRel c w v u) →
        OpOK g c w fr (fr.put o.dst v) a o.dst ((execOp a.eval o).run g.P w):=by
      intro k k' m n u e1 e2 hr hu
      refine OpOK.value h _ (v:=u) ?_ (hu c)
      simp [execOp,ho,e1,e2,run_eqGuard_int,hr]
    unfold binI at hv
    split at hv
    · rename_i e1 e2
      rw [e1] at h1;rw [e2] at h2
      obtain ⟨u,hr,hu⟩:=run_shiftOp (P:=g.P) (w:=w) (t:=t) (.inl rfl) hv
      exact fin h1.int_inv h2.int_inv hr hu
    · rename_i e1 e2
      rw [e1] at h1;rw [e2] at h2
      obtain ⟨u,hr,hu⟩:=run_shiftOp (P:=g.P) (w:=w) (t:=t) (.inr rfl) hv
      exact fin h1.int_inv h2.int_inv hr hu
    · rename_i e1 e2
      rw [e1] at h1;rw [e2] at h2
      split at hv
      · rename_i hk
        subst hk
        obtain ⟨u,hr,hu⟩:=run_intOp (P:=g.P) (w:=w) (t:=t) hv
        exact fin h1.int_inv h2.int_inv hr hu
      · simp at hv
    · simp at hv
  · simp at hs
theorem ok_bins (h:FrRel g c w fr a) {op:BinOp} {x y:PX} {x' y':Operand} {t t':TypeId} (ho:o.op=.binOp op t x' y' t') (hx:g.matchX x x'=true) (hy:g.matchX y y'=true)
    (hs:stepOp g.E callE yieldE o.dst (.bins op x y) fr=some fr'):OpOK g c w fr fr' a o.dst ((execOp a.eval o).run g.P w):=by
  simp only [stepOp] at hs
  split at hs
  · rename_i v hv
    simp only [Option.some.injEq] at hs
    subst hs
    have h1:=h.x hx
    have h2:=h.x hy
    unfold binS at hv
    split at hv
    · rename_i s1 s2 e1 e2
      rw [e1] at h1;rw [e2] at h2
      obtain ⟨t1,f1,g1⟩:=h1.str_inv
      obtain ⟨t2,f2,g2⟩:=h2.str_inv
      have l1:t1.size=s1.length:=by rw [← g1];rfl
      have l2:t2.size=s2.length:=by rw [← g2];rfl
      have key:∃ u,(Op.stringOp op t1 t2).run g.P w=.ok u w∧VRel c w v u:=by
        unfold Op.stringOp
        rw [ByteArray.toList_eq,ByteArray.toList_eq,g1,g2]
        cases op<;>simp only [Option.some.injEq,reduceCtorEq] at hv
        case add =>
          split at hv<;>simp only [Option.some.injEq,reduceCtorEq] at hv
          rename_i hl
          subst hv
          have hno:¬ (((t1.size+t2.size:Nat):Int)>IntKind.i64.max):=by
            rw [l1,l2]
            have:IntKind.i64.max=9223372036854775807:=by decide
            omega
          refine ⟨_,by simp only [hno,if_false];rfl,.i _ _ ?_⟩
          have:s1++s2=(t1++t2).data.toList:=by simp [← g1,← g2]
          rw [this]
          exact .str _
        all_goals (subst hv;exact ⟨_,rfl,.i _ _ (.bool _)⟩)
      obtain ⟨u,hr,hu⟩:=key
      refine OpOK.value h _ (v:=u) ?_ hu
      have hb:binOp op t (.string t1) (.string t2)=Op.stringOp op t1 t2:=by cases op<;>rfl
      simp [execOp,ho,f1,f2,run_eqGuard_str,hb,hr]
    · simp at hv
  · simp at hs
theorem ok_neg (h:FrRel g c w fr a) {x:PX} {x':Operand} {t:TypeId} (ho:o.op=.unOp .neg t x') (hx:g.matchX x x'=true)
    (hs:stepOp g.E callE yieldE o.dst (.neg x) fr=some fr'):OpOK g c w fr fr' a o.dst ((execOp a.eval o).run g.P w):=by
  simp only [stepOp] at hs
  split at hs<;>simp only [Option.some.injEq,reduceCtorEq] at hs
  rename_i k n e
  subst hs
  have h1:=h.x hx
  rw [e] at h1
  refine OpOK.value h _ (v:=.int k (k.wrap (0 - n))) ?_ (.i _ _ (.int _ _))
  simp [execOp,ho,h1.int_inv,Op.unary,Op.intArith]
theorem ok_compl (h:FrRel g c w fr a) {x:PX} {x':Operand} {t:TypeId} (ho:o.op=.unOp .xor t x') (hx:g.matchX x x'=true)
    (hs:stepOp g.E callE yieldE o.dst (.compl x) fr=some fr'):OpOK g c w fr fr' a o.dst ((execOp a.eval o).run g.P w):=by
  simp only [stepOp] at hs
  split at hs<;>simp only [Option.some.injEq,reduceCtorEq] at hs
  rename_i k n e
  subst hs
  have h1:=h.x hx
  rw [e] at h1
  refine OpOK.value h _ (v:=.int k (k.wrap ((BitVec.ofInt k.bits (if k.signed then -1 else k.max) ^^^ BitVec.ofInt k.bits n).toNat:Int))) ?_ (.i _ _ (.int _ _))
  simp [execOp,ho,h1.int_inv,Op.unary,Op.intBits]
theorem ok_notb (h:FrRel g c w fr a) {x:PX} {x':Operand} {t:TypeId} (ho:o.op=.unOp .not t x') (hx:g.matchX x x'=true)
    (hs:stepOp g.E callE yieldE o.dst (.notb x) fr=some fr'):OpOK g c w fr fr' a o.dst ((execOp a.eval o).run g.P w):=by
  simp only [stepOp] at hs
  split at hs<;>simp only [Option.some.injEq,reduceCtorEq] at hs
  rename_i b e
  subst hs
  have h1:=h.x hx
  rw [e] at h1
  refine OpOK.value h _ (v:=.bool !b) ?_ (.i _ _ (.bool _))
  simp [execOp,ho,h1.bool_inv,Op.unary]
theorem ok_conv (h:FrRel g c w fr a) {k:IntKind} {x:PX} {x':Operand} {t t':TypeId} {d:TypeDesc} (ho:o.op=.convert t t' x') (ht:g.P.underlying t=some d) (ht':g.P.underlying t'=some (.int k)) (hx:g.matchX x x'=true)
    (hs:stepOp g.E callE yieldE o.dst (.conv k x) fr=some fr'):OpOK g c w fr fr' a o.dst ((execOp a.eval o).run g.P w):=by
  simp only [stepOp] at hs
  split at hs<;>simp only [Option.some.injEq,reduceCtorEq] at hs
  rename_i k' n e
  subst hs
  have h1:=h.x hx
  rw [e] at h1
  refine OpOK.value h _ (v:=.int k (k.wrap n)) ?_ (.i _ _ (.int _ _))
  simp [execOp,ho,h1.int_inv,convert,Zc g.P _ ht,Zc g.P _ ht',Conv.intToInt]
theorem ok_convs (h:FrRel g c w fr a) {x:PX} {x':Operand} {t t':TypeId} (ho:o.op=.convert t t' x') (ht:g.P.underlying t=some .string) (ht':g.P.underlying t'=some .string) (hx:g.matchX x x'=true)
    (hs:stepOp g.E callE yieldE o.dst (.convs x) fr=some fr'):OpOK g c w fr fr' a o.dst ((execOp a.eval o).run g.P w):=by
  simp only [stepOp] at hs
  split at hs<;>simp only [Option.some.injEq,reduceCtorEq] at hs
  rename_i s hx'
  subst hs
  have h1:=h.x hx
  rw [hx'] at h1
  refine OpOK.value h _ (v:=a.eval x') ?_ h1
  obtain ⟨t1,f1,g1⟩:=h1.str_inv
  simp [execOp,ho,f1,convert,Zc g.P _ ht,Zc g.P _ ht']
theorem LRel.of_xs (h:FrRel g c w fr a) {xs:List PX} {os:Array Operand} (hm:g.matchXs xs os.toList=true):LRel c w (xs.map (evX g.E fr.tmps)) (os.map a.eval):=by
  obtain ⟨h1,h2⟩:=h.xs hm
  exact ⟨by simpa using h1,fun i v u hv hu=>h2 i v u hv (by simpa using hu)⟩
theorem ok_mkfn (h:FrRel g c w fr a) {f:Nat} {p q:List PX} {p' q':Array Operand} (ho:o.op=.makeFunc (.func f) p' q') (hp:g.matchXs p p'.toList=true) (hq:g.matchXs q q'.toList=true)
    (hs:stepOp g.E callE yieldE o.dst (.mkfn f p q) fr=some fr'):OpOK g c w fr fr' a o.dst ((execOp a.eval o).run g.P w):=by
  simp only [stepOp,Option.some.injEq] at hs
  subst hs
  have h1:=LRel.of_xs h hp
  have h2:=LRel.of_xs h hq
  refine OpOK.value h _ (v:=.func (.func f) (p'.map a.eval) (q'.map a.eval)) ?_ (.fn f _ _ _ _ h1.1 h2.1 h1.2 h2.2)
  simp [execOp,ho,Instr.makeFunc]
theorem ok_extract (h:FrRel g c w fr a) {x:PX} {x':Operand} {i:Nat} (ho:o.op=.extract x' i) (hx:g.matchX x x'=true)
    (hs:stepOp g.E callE yieldE o.dst (.extract x i) fr=some fr'):OpOK g c w fr fr' a o.dst ((execOp a.eval o).run g.P w):=by
  simp only [stepOp] at hs
  split at hs
  · rename_i ts e
    split at hs<;>simp only [Option.some.injEq,reduceCtorEq] at hs
    rename_i v hv
    subst hs
    have h1:=h.x hx
    rw [e] at h1
    obtain ⟨us,f1,hl,hr⟩:=h1.tuple_inv
    have hi:i<us.size:=hl ▸ Zb hv
    refine OpOK.value h _ (v:=us[i]) ?_ (hr i v us[i] hv (by simp [hi]))
    simp [execOp,ho,f1,Instr.extract,hi]
  · simp at hs
theorem ok_nilc (h:FrRel g c w fr a) {x:PX} {x':Operand} (ho:o.op=.nilCheck x') (hx:g.matchX x x'=true)
    (hs:stepOp g.E callE yieldE o.dst (.nilc x) fr=some fr'):OpOK g c w fr fr' a o.dst ((execOp a.eval o).run g.P w):=by
  have h1:=h.x hx
  obtain ⟨u,hu⟩:∃ u,u=a.eval x':=⟨_,rfl⟩
  rw [← hu] at h1
  simp only [stepOp] at hs
  split at hs
  · rename_i cs e
    simp only [Option.some.injEq] at hs
    subst hs
    rw [e] at h1
    have h2:=h1.ip_inv
    cases h2 with
    | ip cs b o' uf hc hh =>
      refine OpOK.value h _ (v:=.pointer (some ⟨b,o',none⟩)) ?_ (.i _ _ (.ip cs b o' uf hc hh))
      simp [execOp,ho,← hu]
  · rename_i n gg i off e
    split at hs
    case h_2=>simp at hs
    rename_i el g' cl hob
    split at hs<;>simp only [Option.some.injEq,reduceCtorEq] at hs
    rename_i hgg
    subst hs
    have hst':c.gen n=gg:=hgg ▸ (h.heap n _ hob).1
    rw [e] at h1
    have h1':=h1
    cases h1 with
    | i _ _ h=>cases h
    | ptrStale _ _ _ _ _ hlt=>omega
    | ptr _ _ _ _ p b hg hp hb =>
      refine OpOK.value h _ (v:=.pointer (some ⟨b,p.base+i*p.sz+off,none⟩)) ?_ h1'
      simp [execOp,ho,← hu]
  · simp at hs
theorem ok_lens (h:FrRel g c w fr a) {x:PX} {x':Operand} {t:TypeId} {ty:Array TypeId} (ho:o.op=.call { callee:=.builtin .len,args:=#[x'],argTypes:=ty }) (hty:ty[0]?=some t)
    (ht:g.P.underlying t=some .string) (hx:g.matchX x x'=true) (hs:stepOp g.E callE yieldE o.dst (.lens x) fr=some fr'):OpOK g c w fr fr' a o.dst ((execOp a.eval o).run g.P w):=by
  simp only [stepOp] at hs
  split at hs<;>simp only [Option.some.injEq,reduceCtorEq] at hs
  rename_i s e
  subst hs
  have h1:=h.x hx
  rw [e] at h1
  obtain ⟨t1,f1,g1⟩:=h1.str_inv
  have hl:(t1.size:Int)=s.length:=by rw [← g1];rfl
  refine OpOK.value h _ (v:=.int .i64 t1.size) ?_ (by rw [hl];exact .i _ _ (.int _ _))
  simp [execOp,ho,f1,resolve,invoke,builtin,Builtin.len_,hty,Zc g.P _ ht,goInt]
end Go.VI
namespace Go.VI
variable {g:PG} {c:Ctx} {w:World} {fr fr':Fr} {a:Act} {o:Oper} {callE:CallE} {yieldE:Nm→List PV→Heap→Option (PV × Heap)}
theorem add_none (b o n:Nat):(⟨b,o,none⟩:Addr).add n=⟨b,o+n,none⟩:=by
  unfold Addr.add
  split
  · rename_i h;subst h;rfl
  · rfl
def isA:TypeDesc→Bool
  | .struct _=>true
  | .array _ _=>true
  | _=>false
def kOK (P:Program) (t:TypeId) (k:Option Nat):Bool :=
  match P.underlying t,P.info? t with
  | some d,some i=>if isA d then k==some i.size else k==none&&i.size==1
  | _,_=>false
def CellsAt (R:PV→Value→Prop) (w:World) (cs:List PV) (b o:Nat):Prop :=
  ∀ (j:Nat) cv,cs[j]?=some cv→∃ u,w.cell? ⟨b,o+j,none⟩=some u∧u.oneCell'=true∧R cv u
theorem CellsAt.drop {R:PV→Value→Prop} {cs:List PV} {b o:Nat} (h:CellsAt R w cs b o) (k:Nat):CellsAt R w (cs.drop k) b (o+k):=by
  intro j cv hj
  obtain ⟨u,h1,h2⟩:=h (k+j) cv (by simpa [List.getElem?_drop] using hj)
  exact ⟨u,by rw [Nat.add_assoc];exact h1,h2⟩
theorem Yb (P:Program) {t:TypeId} {d:TypeDesc} (w:World) (h:P.underlying t=some d):(isAgg t).run P w=.ok (isA d) w:=by
  simp only [isAgg,Sem.run_bind,Zc P w h,Result.andThen_ok]
  cases d<;>rfl
theorem Z0 (P:Program) {t:TypeId} {i:TypeInfo} (w:World) (h:P.info? t=some i):(sizeOf t).run P w=.ok i.size w:=by
  simp [sizeOf,typeInfo,h]
theorem choose_cells {R:PV→Value→Prop} {cs:List PV} {b o n:Nat} (h:CellsAt R w cs b o) (hn:n≤cs.length) :
    ∃ f:Nat→Value,(∀ j,j<n→w.cell? ⟨b,o+j,none⟩=some (f j))∧(∀ j,j<n→(f j).oneCell'=true)∧∀ j cv,j<n→cs[j]?=some cv→R cv (f j):=by
  have:∀ j,∃ u,j<n→w.cell? ⟨b,o+j,none⟩=some u∧u.oneCell'=true∧∀ cv,cs[j]?=some cv→R cv u:=by
    intro j
    by_cases hj:j<n
    · have hl:j<cs.length:=by omega
      obtain ⟨u,h1,h2,h3⟩:=h j cs[j] (by simp [hl])
      exact ⟨u,fun _=>⟨h1,h2,fun cv hcv=>by simp [hl] at hcv;exact hcv ▸ h3⟩⟩
    · exact ⟨undef,fun x=>absurd x hj⟩
  refine ⟨fun j=>(this j).choose,fun j hj=>((this j).choose_spec hj).1,fun j hj=>((this j).choose_spec hj).2.1,fun j cv hj hc=>((this j).choose_spec hj).2.2 cv hc⟩
theorem run_loadFrom {R:PV→Value→Prop} {V:PV→Value→Prop} {P:Program} {t:TypeId} {k:Option Nat} {cs:List PV} {b o:Nat} {v:PV} (h:CellsAt R w cs b o) (hk:kOK P t k=true) (hv:loadFrom cs k=some v)
    (hR:∀ cv u,R cv u→V cv u)
    (hA:∀ (l:List PV) (us:Array Value),l.length=us.size→(∀ (i:Nat) u,us[i]?=some u→u.oneCell'=true)→(∀ (i:Nat) cv u,l[i]?=some cv→us[i]?=some u→R cv u)→V (.agg l) (.agg us)) :
    ∃ u,(loadVar t ⟨b,o,none⟩).run P w=.ok u w∧V v u∧(k=none→u.oneCell'=true):=by
  have agg:∀ (i:TypeInfo) (d:TypeDesc),P.underlying t=some d→P.info? t=some i→isA d=true→k=some i.size→∃ u,(loadVar t ⟨b,o,none⟩).run P w=.ok u w∧V v u∧(k=none→u.oneCell'=true):=by
    intro i d hu hi hd hks
    subst hks
    simp only [loadFrom] at hv
    split at hv<;>simp only [Option.some.injEq,reduceCtorEq] at hv
    rename_i hl
    obtain ⟨f,h1,h2,h3⟩:=choose_cells h hl
    have hrun:=run_loadCells (P:=P) (w:=w) ⟨b,o,none⟩ i.size f (fun j hj=>by rw [add_none];exact h1 j hj)
    refine ⟨.agg ((List.range i.size).map f).toArray,?_,?_,by simp⟩
    · simp only [loadVar,Sem.run_bind,Yb P w hu,hd,Result.andThen_ok,if_true,Z0 P w hi,hrun,Sem.run_pure]
    · rw [← hv]
      refine hA _ _ (by simp [hl]) (fun j u hu=>?_) (fun j cv u hc hu=>?_)
      · have hj:j<i.size:=by have:=Zl hu;simpa using this
        simp [hj] at hu
        exact hu ▸ h2 j hj
      · have hj:j<i.size:=by have:=Zl hu;simpa using this
        simp [hj] at hu
        rw [List.getElem?_take,if_pos hj] at hc
        exact hu ▸ h3 j cv hj hc
  unfold kOK at hk
  split at hk
  · rename_i d i hu hi
    split at hk
    · rename_i hd
      exact agg _ _ hu hi hd (by simpa using hk)
    · rename_i hd
      simp only [Bool.and_eq_true,beq_iff_eq] at hk
      obtain ⟨hkn,_⟩:=hk
      subst hkn
      simp only [loadFrom] at hv
      obtain ⟨u,h1,h2,h3⟩:=h 0 v (by rw [← List.head?_eq_getElem?];exact hv)
      refine ⟨u,?_,hR _ _ h3,fun _=>h2⟩
      simp only [Nat.add_zero] at h1
      simp only [loadVar,Sem.run_bind,Yb P w hu,hd,Result.andThen_ok,Bool.false_eq_true,if_false,run_load,h1]
  · simp at hk
theorem loadFrom_v {P:Program} {t:TypeId} {k:Option Nat} {cs:List PV} {b o:Nat} {v:PV} (h:CellsAt (VRel c w) w cs b o) (hk:kOK P t k=true) (hv:loadFrom cs k=some v) :
    ∃ u,(loadVar t ⟨b,o,none⟩).run P w=.ok u w∧VRel c w v u :=
  let ⟨u,h1,h2,_⟩:=run_loadFrom (V:=VRel c w) h hk hv (fun _ _ h=>h) (fun l us h1 h2 h3=>.agg l us h1 h2 h3)
  ⟨u,h1,h2⟩
theorem cellsAt_ip {cs:List PV} {u:Value} (h:IRel c.imm w (.ip cs) u):∃ b o,u=.pointer (some ⟨b,o,none⟩)∧CellsAt (fun v x=>IRel c.imm w v x) w cs b o∧∀ j,j<cs.length→c.imm b:=by
  cases h with
  | ip cs b o uf hcell hh =>
    refine ⟨b,o,rfl,fun j cv hj=>?_,fun j hj=>(hcell j hj).1⟩
    obtain ⟨_,h2,h3⟩:=hcell j (Zb hj)
    exact ⟨uf j,h2,h3,hh j cv hj⟩
theorem Yk {cs:List PV} {b o:Nat} (h:CellsAt (fun v x=>IRel c.imm w v x) w cs b o) (hi:∀ j,j<cs.length→c.imm b):IRel c.imm w (.ip cs) (.pointer (some ⟨b,o,none⟩)):=by
  obtain ⟨f,h1,h2,h3⟩:=choose_cells h (Nat.le_refl _)
  exact .ip cs b o f (fun j hj=>⟨hi j hj,h1 j hj,h2 j hj⟩) (fun j cv hj=>h3 j cv (Zb hj) hj)
theorem CellsAt.mono {R R':PV→Value→Prop} {cs:List PV} {b o:Nat} (h:CellsAt R w cs b o) (hr:∀ v u,R v u→R' v u):CellsAt R' w cs b o :=
  fun j cv hj=>let ⟨u,h1,h2,h3⟩:=h j cv hj;⟨u,h1,h2,hr _ _ h3⟩
theorem MemRel.cellsAt {p:Place} {el:List PV} {cl:Bool} {osz:Nat} (h:MemRel c w p el cl osz) {b i:Nat} {e:PV} (hb:p.blk=some b) (he:el[i]?=some e):CellsAt (CRel cl c w) w e.cells b (p.base+i*p.sz):=by
  intro j cv hj
  obtain ⟨arr,E,h1,h2,h3⟩:=h.row b hb
  obtain ⟨u,h4,h5,h6⟩:=h3 i j e cv he hj
  exact ⟨u,by simp [World.cell?,h1,h4],h5,h6⟩
theorem ptr_live {n:Nm} {gg i off:Nat} {u:Value} {el:List PV} {cl:Bool} {osz:Nat} (hH:HRel g.MC c fr.heap w) (hv:VRel c w (.ptr n gg i off) u) (ho:hget fr.heap n=some (.mem el gg cl osz)) :
    ∃ p b,c.obj n=some p∧p.blk=some b∧u=.pointer (some ⟨b,p.base+i*p.sz+off,none⟩)∧MemRel c w p el cl osz:=by
  obtain ⟨h1,h2⟩:=hH n _ ho
  cases hv with
  | i _ _ h=>cases h
  | ptrStale _ _ _ _ _ hlt=>omega
  | ptr _ _ _ _ p b hg hp hb=>exact ⟨p,b,hp,hb,rfl,h2 p hp⟩
theorem sl_live {n:Nm} {gg off len:Nat} {u:Value} {el:List PV} {cl:Bool} {osz:Nat} (hH:HRel g.MC c fr.heap w) (hv:VRel c w (.sl n gg off len) u) (ho:hget fr.heap n=some (.mem el gg cl osz)) :
    ∃ p,c.obj n=some p∧MemRel c w p el cl osz∧((p.blk=none∧off=0∧len=0∧u=.slice none 0 0)∨(∃ b,p.blk=some b∧off+len≤p.cap∧u=.slice (some ⟨b,p.base+off*p.sz,none⟩) len (p.cap - off))∨(len=0∧off=p.cap∧∃ A,u=.slice (some A) 0 0)):=by
  obtain ⟨h1,h2⟩:=hH n _ ho
  cases hv with
  | i _ _ h=>cases h
  | slStale _ _ _ _ _ hlt=>omega
  | slNil _ _ p hg hp hb=>exact ⟨p,hp,h2 p hp,.inl ⟨hb,rfl,rfl,rfl⟩⟩
  | sl _ _ _ _ p b hg hp hb hl=>exact ⟨p,hp,h2 p hp,.inr (.inl ⟨b,hb,hl,rfl⟩)⟩
  | slE _ _ _ p A hg hp hl=>exact ⟨p,hp,h2 p hp,.inr (.inr ⟨rfl,hl,A,rfl⟩)⟩
theorem ok_load (h:FrRel g c w fr a) {k:Option Nat} {x:PX} {x':Operand} {t:TypeId} (ho:o.op=.load t x') (hk:kOK g.P t k=true) (hx:g.matchX x x'=true)
    (hs:stepOp g.E callE yieldE o.dst (.load k x) fr=some fr'):OpOK g c w fr fr' a o.dst ((execOp a.eval o).run g.P w):=by
  have h1:=h.x hx
  obtain ⟨u,hu⟩:∃ u,u=a.eval x':=⟨_,rfl⟩
  rw [← hu] at h1
  have fin:∀ {cs:List PV} {b o':Nat} {v:PV},u=.pointer (some ⟨b,o',none⟩)→CellsAt (VRel c w) w cs b o'→loadFrom cs k=some v →
      OpOK g c w fr (fr.put o.dst v) a o.dst ((execOp a.eval o).run g.P w):=by
    intro cs b o' v e hc hl
    obtain ⟨r,hr,hv⟩:=loadFrom_v hc hk hl
    refine OpOK.value h _ (v:=r) ?_ hv
    simp [execOp,ho,← hu,e,Instr.loadAt,Instr.sureAddr,hr]
  simp only [stepOp] at hs
  split at hs
  · rename_i cs e
    split at hs<;>simp only [Option.some.injEq,reduceCtorEq] at hs
    rename_i v hv
    subst hs
    rw [e] at h1
    obtain ⟨b,o',e1,hc,_⟩:=cellsAt_ip h1.ip_inv
    exact fin e1 (hc.mono fun _ _ h=>.i _ _ h) hv
  · rename_i n gg i off e
    split at hs
    case h_2=>simp at hs
    rename_i el g' cl hob
    split at hs
    case isFalse=>simp at hs
    rename_i hgg
    split at hs
    case h_2=>simp at hs
    rename_i e' he'
    split at hs<;>simp only [Option.some.injEq,reduceCtorEq] at hs
    rename_i v hv
    subst hs
    rw [e] at h1
    subst hgg
    obtain ⟨p,b,hp,hb,e1,hM⟩:=ptr_live h.heap h1 hob
    refine fin e1 ?_ hv
    exact ((hM.cellsAt hb he').drop off).mono fun _ _ h=>h.v
  · simp at hs
theorem ok_faddr (h:FrRel g c w fr a) {off fi:Nat} {x:PX} {x':Operand} {t:TypeId} {fs:Array Field} {f:Field} {i:TypeInfo} (ho:o.op=.fieldAddr t x' fi) (hu:g.P.underlying t=some (.struct fs)) (hf:fs[fi]?=some f)
    (hi:g.P.info? f.type=some i) (hz:i.size≠0) (hoff:f.offset=off) (hx:g.matchX x x'=true)
    (hs:stepOp g.E callE yieldE o.dst (.faddr off x) fr=some fr'):OpOK g c w fr fr' a o.dst ((execOp a.eval o).run g.P w):=by
  have h1:=h.x hx
  obtain ⟨u,hu'⟩:∃ u,u=a.eval x':=⟨_,rfl⟩
  rw [← hu'] at h1
  have run:∀ {b o':Nat},u=.pointer (some ⟨b,o',none⟩)→(execOp a.eval o).run g.P w=.ok (.value (.pointer (some ⟨b,o'+off,none⟩))) w:=by
    intro b o' e
    simp [execOp,ho,← hu',e,Instr.fieldAt,Zc g.P w hu,hf,Instr.sureAddr,fieldPlace,Z0 g.P w hi,hz,add_none,hoff]
  simp only [stepOp] at hs
  split at hs
  · rename_i cs e
    split at hs<;>simp only [Option.some.injEq,reduceCtorEq] at hs
    rename_i hle
    subst hs
    rw [e] at h1
    obtain ⟨b,o',e1,hc,him⟩:=cellsAt_ip h1.ip_inv
    refine OpOK.value h _ (run e1) (.i _ _ (Yk (hc.drop off) fun j hj=>him (off+j) (by simp at hj;omega)))
  · rename_i n gg i' off' e
    split at hs
    case h_2=>simp at hs
    rename_i el g' cl hob
    split at hs<;>simp only [Option.some.injEq,reduceCtorEq] at hs
    rename_i hgg
    subst hs
    rw [e] at h1
    subst hgg
    have hgen:=(h.heap n _ hob).1
    obtain ⟨p,b,hp,hb,e1,hM⟩:=ptr_live h.heap h1 hob
    refine OpOK.value h _ (run e1) ?_
    rw [Nat.add_assoc]
    exact .ptr n gg i' (off'+off) p b (Nat.le_of_eq hgen.symm) hp hb
  · simp at hs
end Go.VI
namespace Go.VI
variable {g:PG} {c:Ctx} {w:World} {fr fr':Fr} {a:Act} {o:Oper} {callE:CallE} {yieldE:Nm→List PV→Heap→Option (PV × Heap)}
theorem run_indexAt_slice {P:Program} {t E:TypeId} {i:TypeInfo} (ht:P.underlying t=some (.slice E)) (hi:P.info? E=some i) (b o len cap:Nat) (k:IntKind) (j:Int) (h0:0≤j) (hl:j<len) :
    (Instr.indexAt t (.slice (some ⟨b,o,none⟩) len cap) (.int k j)).run P w=.ok (.pointer (some ⟨b,o+j.toNat*i.size,none⟩)) w:=by
  simp only [Instr.indexAt,asIntOf,Sem.run_bind,Sem.run_pure,Result.andThen_ok,Zc P w ht]
  simp [h0,hl,Z0 P w hi,add_none]
theorem run_indexAt_array {P:Program} {t E:TypeId} {i:TypeInfo} {n:Nat} (ht:P.underlying t=some (.array n E)) (hi:P.info? E=some i) (b o:Nat) (k:IntKind) (j:Int) (h0:0≤j) (hl:j<n) :
    (Instr.indexAt t (.pointer (some ⟨b,o,none⟩)) (.int k j)).run P w=.ok (.pointer (some ⟨b,o+j.toNat*i.size,none⟩)) w:=by
  simp only [Instr.indexAt,asIntOf,Sem.run_bind,Sem.run_pure,Result.andThen_ok,Zc P w ht,Instr.sureAddr]
  simp [h0,hl,Z0 P w hi,add_none]
theorem vs_at {f:Fl} {L:List PV} {u:Value} (h:IRel c.imm w (.vs f L) u) {j:Nat} {e:PV} (he:L[j]?=some e) :
    ∃ b o' cap,u=.slice (some ⟨b,o',none⟩) L.length cap∧CellsAt (fun v x=>IRel c.imm w v x) w e.cells b (o'+j*e.cells.length)∧(∀ k,k<e.cells.length→c.imm b):=by
  cases h with
  | vsNone=>simp at he
  | vsE=>simp at he
  | vs f L b o' cap sz uf hc hcap hclip hsz hcell hh =>
    have hz:=hsz j e he
    have hj:=Zb he
    refine ⟨b,o',cap,rfl,fun k cv hk=>?_,fun k hk=>(hcell j k hj (hz ▸ hk)).1⟩
    have hk':=Zb hk
    obtain ⟨_,h2,h3⟩:=hcell j k hj (hz ▸ hk')
    exact ⟨uf j k,by rw [hz];exact h2,h3,hh j k e cv he hk⟩
theorem ok_iaddr (h:FrRel g c w fr a) {sz:Nat} {x y:PX} {x' y':Operand} {t E:TypeId} {i:TypeInfo} (ho:o.op=.indexAddr t x' y') (ht:g.P.underlying t=some (.slice E)) (hi:g.P.info? E=some i) (hz:i.size=sz)
    (hx:g.matchX x x'=true) (hy:g.matchX y y'=true) (hs:stepOp g.E callE yieldE o.dst (.iaddr sz x y) fr=some fr'):OpOK g c w fr fr' a o.dst ((execOp a.eval o).run g.P w):=by
  have h1:=h.x hx
  obtain ⟨u,hu⟩:∃ u,u=a.eval x':=⟨_,rfl⟩
  rw [← hu] at h1
  have h2:=h.x hy
  simp only [stepOp] at hs
  split at hs
  case h_2=>simp at hs
  rename_i k j ey
  rw [ey] at h2
  have e2:=h2.int_inv
  split at hs
  case isFalse=>simp at hs
  rename_i h0
  split at hs
  · rename_i fl L ex
    rw [ex] at h1
    split at hs
    case h_2=>simp at hs
    rename_i e he
    split at hs<;>simp only [Option.some.injEq,reduceCtorEq] at hs
    rename_i hsz
    subst hs
    obtain ⟨b,o',cap,e1,hc,him⟩:=vs_at h1.vs_inv he
    have hj:j<L.length:=by have:=Zb he;omega
    refine OpOK.value h _ (v:=.pointer (some ⟨b,o'+j.toNat*i.size,none⟩)) ?_ ?_
    · simp [execOp,ho,← hu,e1,e2,run_indexAt_slice ht hi b o' L.length cap k j h0 hj]
    · rw [hz,← hsz];exact .i _ _ (Yk hc him)
  · rename_i n gg off len ex
    rw [ex] at h1
    split at hs
    case h_2=>simp at hs
    rename_i el g' cl hob
    split at hs
    case isFalse=>simp at hs
    rename_i hgl
    obtain ⟨hgg,hlt⟩:=hgl
    split at hs
    case h_2=>simp at hs
    rename_i e he
    split at hs<;>simp only [Option.some.injEq,reduceCtorEq] at hs
    rename_i hsz
    subst hs
    subst hgg
    have hgen:=(h.heap n _ hob).1
    obtain ⟨p,hp,hM,hc⟩:=sl_live h.heap h1 hob
    have hpz:p.sz=sz:=(hM.sz _ e he).symm.trans hsz
    rcases hc with ⟨_,_,h3,_⟩|⟨b,hb,hl,e1⟩|⟨h3,_,_⟩
    · subst h3;omega
    · refine OpOK.value h _ (v:=.pointer (some ⟨b,p.base+off*p.sz+j.toNat*i.size,none⟩)) ?_ ?_
      · simp [execOp,ho,← hu,e1,e2,run_indexAt_slice ht hi b (p.base+off*p.sz) len (p.cap - off) k j h0 hlt]
      · have:=VRel.ptr (c:=c) (w:=w) n gg (off+j.toNat) 0 p b (Nat.le_of_eq hgen.symm) hp hb
        rw [hz,← hpz,Nat.add_assoc,← Nat.add_mul]
        simpa using this
    · subst h3;omega
  · simp at hs
theorem ok_iaddra (h:FrRel g c w fr a) {n sz:Nat} {x y:PX} {x' y':Operand} {t E:TypeId} {i:TypeInfo} (ho:o.op=.indexAddr t x' y') (ht:g.P.underlying t=some (.array n E)) (hi:g.P.info? E=some i) (hz:i.size=sz)
    (hx:g.matchX x x'=true) (hy:g.matchX y y'=true) (hs:stepOp g.E callE yieldE o.dst (.iaddra n sz x y) fr=some fr'):OpOK g c w fr fr' a o.dst ((execOp a.eval o).run g.P w):=by
  have h1:=h.x hx
  obtain ⟨u,hu⟩:∃ u,u=a.eval x':=⟨_,rfl⟩
  rw [← hu] at h1
  have h2:=h.x hy
  simp only [stepOp] at hs
  split at hs
  case h_2=>simp at hs
  rename_i k j ey
  rw [ey] at h2
  have e2:=h2.int_inv
  split at hs
  case isFalse=>simp at hs
  rename_i h0
  obtain ⟨h0,hl⟩:=h0
  split at hs
  · rename_i cs ex
    rw [ex] at h1
    split at hs<;>simp only [Option.some.injEq,reduceCtorEq] at hs
    rename_i hle
    subst hs
    obtain ⟨b,o',e1,hc,him⟩:=cellsAt_ip h1.ip_inv
    refine OpOK.value h _ (v:=.pointer (some ⟨b,o'+j.toNat*i.size,none⟩)) ?_ ?_
    · simp [execOp,ho,← hu,e1,e2,run_indexAt_array ht hi b o' k j h0 hl]
    · rw [hz]
      exact .i _ _ (Yk (hc.drop _) fun q hq=>him (j.toNat*sz+q) (by simp at hq;omega))
  · rename_i nm gg e off ex
    rw [ex] at h1
    split at hs
    case h_2=>simp at hs
    rename_i el g' cl hob
    split at hs<;>simp only [Option.some.injEq,reduceCtorEq] at hs
    rename_i hgg
    subst hs
    subst hgg
    have hgen:=(h.heap nm _ hob).1
    obtain ⟨p,b,hp,hb,e1,hM⟩:=ptr_live h.heap h1 hob
    refine OpOK.value h _ (v:=.pointer (some ⟨b,p.base+e*p.sz+off+j.toNat*i.size,none⟩)) ?_ ?_
    · simp [execOp,ho,← hu,e1,e2,run_indexAt_array ht hi b (p.base+e*p.sz+off) k j h0 hl]
    · rw [hz,Nat.add_assoc]
      exact .ptr nm gg e (off+j.toNat*sz) p b (Nat.le_of_eq hgen.symm) hp hb
  · simp at hs
theorem ok_idxs (h:FrRel g c w fr a) {x y:PX} {x' y':Operand} {t:TypeId} (ho:o.op=.index t x' y') (ht:g.P.underlying t=some .string)
    (hx:g.matchX x x'=true) (hy:g.matchX y y'=true) (hs:stepOp g.E callE yieldE o.dst (.idxs x y) fr=some fr'):OpOK g c w fr fr' a o.dst ((execOp a.eval o).run g.P w):=by
  have h1:=h.x hx
  have h2:=h.x hy
  simp only [stepOp] at hs
  split at hs
  case h_2=>simp at hs
  rename_i k j s ey ex
  rw [ex] at h1
  rw [ey] at h2
  have e2:=h2.int_inv
  obtain ⟨t1,f1,g1⟩:=h1.str_inv
  split at hs
  case isFalse=>simp at hs
  rename_i h0
  split at hs<;>simp only [Option.some.injEq,reduceCtorEq] at hs
  rename_i b hb
  subst hs
  have hb':t1[j.toNat]?=some b:=by
    rw [← g1] at hb
    have hl:j.toNat<t1.size:=by have:=Zb hb;simpa using this
    simp only [Array.getElem?_toList] at hb
    show (if h:j.toNat<t1.size then some t1[j.toNat] else none)=some b
    rw [dif_pos hl]
    have hl':j.toNat<t1.data.size:=hl
    rw [Array.getElem?_eq_getElem hl'] at hb
    exact hb
  refine OpOK.value h _ (v:=.int .u8 b.toNat) ?_ (.i _ _ (.int _ _))
  simp [execOp,ho,f1,e2,Instr.index,asIntOf,Zc g.P w ht,h0,hb']
theorem ok_lenl (h:FrRel g c w fr a) {x:PX} {x':Operand} {t E:TypeId} {ty:Array TypeId} (ho:o.op=.call { callee:=.builtin .len,args:=#[x'],argTypes:=ty }) (hty:ty[0]?=some t)
    (ht:g.P.underlying t=some (.slice E)) (hx:g.matchX x x'=true) (hs:stepOp g.E callE yieldE o.dst (.lenl x) fr=some fr'):OpOK g c w fr fr' a o.dst ((execOp a.eval o).run g.P w):=by
  have h1:=h.x hx
  obtain ⟨u,hu⟩:∃ u,u=a.eval x':=⟨_,rfl⟩
  rw [← hu] at h1
  simp only [stepOp] at hs
  split at hs<;>simp only [Option.some.injEq,reduceCtorEq] at hs
  rename_i n hn
  subst hs
  have key:∃ b cap,u=.slice b n cap:=by
    unfold lenOf at hn
    split at hn
    · rename_i fl L ex
      simp only [Option.some.injEq] at hn
      rw [ex] at h1
      have h2:=h1.vs_inv
      subst hn
      cases h2 with
      | vsNone=>exact ⟨_,_,rfl⟩
      | vsE=>exact ⟨_,_,rfl⟩
      | vs=>exact ⟨_,_,rfl⟩
    · rename_i nm gg off len ex
      split at hn
      case h_2=>simp at hn
      rename_i el g' cl hob
      split at hn<;>simp only [Option.some.injEq,reduceCtorEq] at hn
      rename_i hgg
      subst hgg
      subst hn
      rw [ex] at h1
      obtain ⟨p,hp,hM,hc⟩:=sl_live h.heap h1 hob
      rcases hc with ⟨_,_,h3,e⟩|⟨b,hb,hl,e1⟩|⟨h3,_,x,e⟩
      · subst h3;exact ⟨_,_,e⟩
      · exact ⟨_,_,e1⟩
      · subst h3;exact ⟨_,_,e⟩
    · simp at hn
  obtain ⟨b,cap,e⟩:=key
  refine OpOK.value h _ (v:=.int .i64 n) ?_ (.i _ _ (.int _ _))
  simp [execOp,ho,← hu,e,resolve,invoke,builtin,Builtin.len_,hty,Zc g.P _ ht,goInt]
theorem ok_capl (h:FrRel g c w fr a) {x:PX} {x':Operand} {t E:TypeId} {ty:Array TypeId} (ho:o.op=.call { callee:=.builtin .cap,args:=#[x'],argTypes:=ty }) (hty:ty[0]?=some t)
    (ht:g.P.underlying t=some (.slice E)) (hx:g.matchX x x'=true) (hs:stepOp g.E callE yieldE o.dst (.capl x) fr=some fr'):OpOK g c w fr fr' a o.dst ((execOp a.eval o).run g.P w):=by
  have h1:=h.x hx
  obtain ⟨u,hu⟩:∃ u,u=a.eval x':=⟨_,rfl⟩
  rw [← hu] at h1
  simp only [stepOp] at hs
  split at hs
  case h_2=>simp at hs
  rename_i fl L ex
  split at hs<;>simp only [Option.some.injEq,reduceCtorEq] at hs
  rename_i hf
  subst hs
  rw [ex] at h1
  have h2:=h1.vs_inv
  have key:∃ b n,u=.slice b n L.length:=by
    cases h2 with
    | vsNone=>exact ⟨_,_,rfl⟩
    | vsE=>exact ⟨_,_,rfl⟩
    | vs fl L b o' cap sz uf hc hcap hclip =>
      have:fl=.clip:=by cases fl<;>simp_all [Fl.full]
      rw [hclip this]
      exact ⟨_,_,rfl⟩
  obtain ⟨b,n,e⟩:=key
  refine OpOK.value h _ (v:=.int .i64 L.length) ?_ (.i _ _ (.int _ _))
  simp [execOp,ho,← hu,e,resolve,invoke,builtin,Builtin.cap_,hty,Zc g.P _ ht,goInt]
theorem foldO_max {P:Program}:∀ {l:List PV} {us:List Value} {v v':PV} {u:Value},l.length=us.length→(∀ (i:Nat) x y,l[i]?=some x→us[i]?=some y→VRel c w x y)→VRel c w v u→foldO maxI v l=some v' →
    ∃ u',(us.foldlM Builtin.max2 u).run P w=.ok u' w∧VRel c w v' u'
  | [],[],v,v',u,_,_,hv,hf=>by
    simp only [foldO,Option.some.injEq] at hf
    exact ⟨u,by simp,hf ▸ hv⟩
  | x::r,y::s,v,v',u,hl,hr,hv,hf=>by
    simp only [foldO] at hf
    split at hf
    case h_2=>simp at hf
    rename_i z hz
    have hx:=hr 0 x y rfl rfl
    unfold maxI at hz
    split at hz
    case h_2=>simp at hz
    rename_i k m k' n
    split at hz<;>simp only [Option.some.injEq,reduceCtorEq] at hz
    rename_i hk
    subst hk
    have e1:=hv.int_inv
    have e2:=hx.int_inv
    subst e1 e2
    have:=foldO_max (P:=P) (by simpa using hl) (fun i a b ha hb=>hr (i+1) a b (by simpa using ha) (by simpa using hb)) (show VRel c w z (.int k (if n>m then n else m)) from hz ▸ .i _ _ (.int _ _)) hf
    obtain ⟨u',h1,h2⟩:=this
    refine ⟨u',?_,h2⟩
    simpa [List.foldlM_cons,Builtin.max2] using h1
  | [],_::_,v,v',u,hl,_,_,_=>by simp at hl
  | _::_,[],v,v',u,hl,_,_,_=>by simp at hl
theorem foldO_min {P:Program}:∀ {l:List PV} {us:List Value} {v v':PV} {u:Value},l.length=us.length→(∀ (i:Nat) x y,l[i]?=some x→us[i]?=some y→VRel c w x y)→VRel c w v u→foldO minI v l=some v' →
    ∃ u',(us.foldlM Builtin.min2 u).run P w=.ok u' w∧VRel c w v' u'
  | [],[],v,v',u,_,_,hv,hf=>by
    simp only [foldO,Option.some.injEq] at hf
    exact ⟨u,by simp,hf ▸ hv⟩
  | x::r,y::s,v,v',u,hl,hr,hv,hf=>by
    simp only [foldO] at hf
    split at hf
    case h_2=>simp at hf
    rename_i z hz
    have hx:=hr 0 x y rfl rfl
    unfold minI at hz
    split at hz
    case h_2=>simp at hz
    rename_i k m k' n
    split at hz<;>simp only [Option.some.injEq,reduceCtorEq] at hz
    rename_i hk
    subst hk
    have e1:=hv.int_inv
    have e2:=hx.int_inv
    subst e1 e2
    have:=foldO_min (P:=P) (by simpa using hl) (fun i a b ha hb=>hr (i+1) a b (by simpa using ha) (by simpa using hb)) (show VRel c w z (.int k (if n<m then n else m)) from hz ▸ .i _ _ (.int _ _)) hf
    obtain ⟨u',h1,h2⟩:=this
    refine ⟨u',?_,h2⟩
    simpa [List.foldlM_cons,Builtin.min2] using h1
  | [],_::_,v,v',u,hl,_,_,_=>by simp at hl
  | _::_,[],v,v',u,hl,_,_,_=>by simp at hl
theorem ok_mx (h:FrRel g c w fr a) {x:PX} {r:List PX} {x':Operand} {r':Array Operand} {ty:Array TypeId} {ar:Array Operand} (ho:o.op=.call { callee:=.builtin .max,args:=ar,argTypes:=ty }) (har:ar.toList=x'::r'.toList)
    (hx:g.matchX x x'=true) (hr:g.matchXs r r'.toList=true) (hs:stepOp g.E callE yieldE o.dst (.mx x r) fr=some fr'):OpOK g c w fr fr' a o.dst ((execOp a.eval o).run g.P w):=by
  simp only [stepOp] at hs
  split at hs<;>simp only [Option.some.injEq,reduceCtorEq] at hs
  rename_i v hv
  subst hs
  obtain ⟨hl,hrel⟩:=h.xs hr
  obtain ⟨u,h1,h2⟩:=foldO_max (P:=g.P) (by simpa using hl) hrel (h.x hx) hv
  refine OpOK.value h _ (v:=u) ?_ h2
  have hb:(Builtin.max_ ty o.type (ar.map a.eval)).run g.P w=.ok u w:=by
    have:(ar.map a.eval).toList=a.eval x'::r'.toList.map a.eval:=by simp [har]
    simp only [Builtin.max_,this]
    exact h1
  simp [execOp,ho,resolve,invoke,builtin,hb]
theorem ok_mn (h:FrRel g c w fr a) {x:PX} {r:List PX} {x':Operand} {r':Array Operand} {ty:Array TypeId} {ar:Array Operand} (ho:o.op=.call { callee:=.builtin .min,args:=ar,argTypes:=ty }) (har:ar.toList=x'::r'.toList)
    (hx:g.matchX x x'=true) (hr:g.matchXs r r'.toList=true) (hs:stepOp g.E callE yieldE o.dst (.mn x r) fr=some fr'):OpOK g c w fr fr' a o.dst ((execOp a.eval o).run g.P w):=by
  simp only [stepOp] at hs
  split at hs<;>simp only [Option.some.injEq,reduceCtorEq] at hs
  rename_i v hv
  subst hs
  obtain ⟨hl,hrel⟩:=h.xs hr
  obtain ⟨u,h1,h2⟩:=foldO_min (P:=g.P) (by simpa using hl) hrel (h.x hx) hv
  refine OpOK.value h _ (v:=u) ?_ h2
  have hb:(Builtin.min_ ty o.type (ar.map a.eval)).run g.P w=.ok u w:=by
    have:(ar.map a.eval).toList=a.eval x'::r'.toList.map a.eval:=by simp [har]
    simp only [Builtin.min_,this]
    exact h1
  simp [execOp,ho,resolve,invoke,builtin,hb]
end Go.VI
namespace Go.VI
variable {g:PG} {c:Ctx} {w:World} {fr fr':Fr} {a:Act} {o:Oper} {callE:CallE} {yieldE:Nm→List PV→Heap→Option (PV × Heap)}
mutual
def eqOK (P:Program):EqSh→TypeId→Bool
  | .eb,t=>(match P.underlying t with
    | some .bool=>(P.info? t).map (·.size)==some 1
    | _=>false)
  | .ei,t=>(match P.underlying t with
    | some (.int _)=>(P.info? t).map (·.size)==some 1
    | _=>false)
  | .es,t=>(match P.underlying t with
    | some .string=>(P.info? t).map (·.size)==some 1
    | _=>false)
  | .parts l,t=>(match P.underlying t with
    | some (.struct fs)=>!P.stoodInHeld t&&eqOKF P l (fs.toList.filter fun f=>decide (f.name ≠ "_"))
    | some (.array n e)=>(match P.info? e with
      | some i=>i.size==P.cellsOf e&&l.length==n&&eqOKA P e i.size 0 l
      | none=>false)
    | _=>false)
def eqOKF (P:Program):List (Nat × Nat × EqSh)→List Field→Bool
  | [],[]=>true
  | (off,n,s)::r,f::fs=>f.offset==off&&(P.info? f.type).map (·.size)==some n&&eqOK P s f.type&&eqOKF P r fs
  | _,_=>false
def eqOKA (P:Program) (e:TypeId) (sz:Nat):Nat→List (Nat × Nat × EqSh)→Bool
  | _,[]=>true
  | j,(off,n,s)::r=>off==j*sz&&n==sz&&eqOK P s e&&eqOKA P e sz (j+1) r
end
mutual
def EqSh.depth:EqSh→Nat
  | .eb=>0
  | .ei=>0
  | .es=>0
  | .parts l=>EqSh.depthL l+1
def EqSh.depthL:List (Nat × Nat × EqSh)→Nat
  | []=>0
  | (_,_,s)::r=>max s.depth (EqSh.depthL r)
end
def Sub (P:Program) (c:Ctx) (w:World) (t:TypeId) (cs:List PV) (x:Value):Prop :=
  ∃ d,P.underlying t=some d∧(if isA d then ∃ us,x=.agg us∧LRel c w cs us else ∃ v,cs=[v]∧VRel c w v x)
theorem run_part {P:Program} {t:TypeId} {d:TypeDesc} {i:TypeInfo} {cs:List PV} {us:Array Value} {off:Nat} (h:LRel c w cs us) (hd:P.underlying t=some d) (hi:P.info? t=some i) (h1:isA d=false→i.size=1)
    (hne:isA d=false→(cs.drop off).take i.size≠[]):∃ x,(part t us off).run P w=.ok x w∧Sub P c w t ((cs.drop off).take i.size) x:=by
  by_cases ha:isA d=true
  · refine ⟨.agg (us.extract off (off+i.size)),?_,d,hd,?_⟩
    · simp [part,Yb P w hd,ha,Z0 P w hi]
    · rw [if_pos ha]
      refine ⟨_,rfl,?_,fun j v u hv hu=>?_⟩
      · simp [h.1];omega
      · have hj:j<i.size:=by have:=Zb hv;simp at this;omega
        rw [List.getElem?_take,if_pos hj,List.getElem?_drop] at hv
        refine h.2 (off+j) v u hv ?_
        have:=Zl hu
        rw [Array.getElem?_extract] at hu
        split at hu
        · exact hu
        · simp at hu
  · have ha':isA d=false:=by simpa using ha
    have hs:=h1 ha'
    have hl:off<cs.length:=by
      rcases Nat.lt_or_ge off cs.length with h|h
      · exact h
      · exact absurd (by rw [List.drop_eq_nil_of_le h,List.take_nil]) (hne ha')
    have hl':off<us.size:=h.1 ▸ hl
    refine ⟨us[off],?_,d,hd,?_⟩
    · simp [part,Yb P w hd,ha',hl']
    · rw [if_neg (by simp [ha'])]
      refine ⟨cs[off],?_,h.2 off _ _ (by simp [hl]) (by simp [hl'])⟩
      rw [hs,List.drop_eq_getElem_cons hl]
      rfl
theorem eqOK_b {P:Program} {t:TypeId} (h:eqOK P .eb t=true):P.underlying t=some .bool:=by
  simp only [eqOK] at h
  split at h
  · assumption
  · simp at h
theorem eqOK_i {P:Program} {t:TypeId} (h:eqOK P .ei t=true):∃ k,P.underlying t=some (.int k):=by
  simp only [eqOK] at h
  split at h
  · exact ⟨_,by assumption⟩
  · simp at h
theorem eqOK_s {P:Program} {t:TypeId} (h:eqOK P .es t=true):P.underlying t=some .string:=by
  simp only [eqOK] at h
  split at h
  · assumption
  · simp at h
theorem eqOK_p {P:Program} {t:TypeId} {l:List (Nat × Nat × EqSh)} (h:eqOK P (.parts l) t=true) :
    (∃ fs,P.underlying t=some (.struct fs)∧P.stoodInHeld t=false∧eqOKF P l (fs.toList.filter fun f=>decide (f.name ≠ "_"))=true) ∨
    (∃ n e i,P.underlying t=some (.array n e)∧P.info? e=some i∧i.size=P.cellsOf e∧l.length=n∧eqOKA P e i.size 0 l=true):=by
  simp only [eqOK] at h
  split at h
  · rename_i fs hu
    simp only [Bool.and_eq_true,Bool.not_eq_true'] at h
    exact .inl ⟨fs,hu,h.1,h.2⟩
  · rename_i n e hu
    split at h
    · rename_i i hi
      simp only [Bool.and_eq_true,beq_iff_eq] at h
      exact .inr ⟨n,e,i,hu,hi,h.1.1,h.1.2,h.2⟩
    · simp at h
  · simp at h
theorem eqSh_b {xs ys:List PV} {b:Bool} (h:Zi .eb xs ys=some b):∃ p q,xs=[.bool p]∧ys=[.bool q]∧b=(p==q):=by
  unfold Zi at h
  split at h<;>first|(rename_i e;simp at e;done)|skip
  · rename_i p q _
    exact ⟨p,q,rfl,rfl,by simpa using h.symm⟩
  · simp at h
theorem eqSh_i {xs ys:List PV} {b:Bool} (h:Zi .ei xs ys=some b):∃ k p q,xs=[.int k p]∧ys=[.int k q]∧b=(p==q):=by
  unfold Zi at h
  split at h<;>first|(rename_i e;simp at e;done)|skip
  · rename_i k p k' q _
    split at h
    · rename_i hk
      subst hk
      exact ⟨k,p,q,rfl,rfl,by simpa using h.symm⟩
    · simp at h
  · simp at h
theorem eqSh_s {xs ys:List PV} {b:Bool} (h:Zi .es xs ys=some b):∃ p q,xs=[.str p]∧ys=[.str q]∧b=(p==q):=by
  unfold Zi at h
  split at h<;>first|(rename_i e;simp at e;done)|skip
  · rename_i p q _
    exact ⟨p,q,rfl,rfl,by simpa using h.symm⟩
  · simp at h
theorem eqSh_ne {s:EqSh} {t:TypeId} {P:Program} {d:TypeDesc} {xs ys:List PV} {b:Bool} (hk:eqOK P s t=true) (hd:P.underlying t=some d) (ha:isA d=false) (he:Zi s xs ys=some b):xs≠[]∧ys≠[]:=by
  cases s with
  | eb=>obtain ⟨p,q,rfl,rfl,_⟩:=eqSh_b he;simp
  | ei=>obtain ⟨k,p,q,rfl,rfl,_⟩:=eqSh_i he;simp
  | es=>obtain ⟨p,q,rfl,rfl,_⟩:=eqSh_s he;simp
  | parts l =>
    rcases eqOK_p hk with ⟨fs,hu,_⟩|⟨n,e,i,hu,_⟩<;>rw [hd] at hu<;>simp only [Option.some.injEq] at hu<;>subst hu<;>simp [isA] at ha
theorem Sub.scalar {P:Program} {t:TypeId} {d:TypeDesc} {v:PV} {x:Value} (h:Sub P c w t [v] x) (hd:P.underlying t=some d) (ha:isA d=false):VRel c w v x:=by
  obtain ⟨d1,hd1,hx⟩:=h
  rw [hd] at hd1
  simp only [Option.some.injEq] at hd1
  subst hd1
  rw [if_neg (by simp [ha])] at hx
  obtain ⟨p,e1,hx⟩:=hx
  simp only [List.cons.injEq,and_true] at e1
  exact e1 ▸ hx
theorem Sub.agg {P:Program} {t:TypeId} {d:TypeDesc} {cs:List PV} {x:Value} (h:Sub P c w t cs x) (hd:P.underlying t=some d) (ha:isA d=true):∃ us,x=.agg us∧LRel c w cs us:=by
  obtain ⟨d1,hd1,hx⟩:=h
  rw [hd] at hd1
  simp only [Option.some.injEq] at hd1
  subst hd1
  rw [if_pos ha] at hx
  exact hx
theorem eqOK_size {P:Program} {s:EqSh} {t:TypeId} {d:TypeDesc} {i:TypeInfo} (hk:eqOK P s t=true) (hd:P.underlying t=some d) (hi:P.info? t=some i) (ha:isA d=false):i.size=1:=by
  cases s with
  | parts l=>rcases eqOK_p hk with ⟨fs,hu,_⟩|⟨n,e,i,hu,_⟩<;>rw [hd] at hu<;>simp only [Option.some.injEq] at hu<;>subst hu<;>simp [isA] at ha
  | eb=>have hu:=eqOK_b hk;simp only [eqOK,hu,hi] at hk;simpa using hk
  | ei=>obtain ⟨k,hu⟩:=eqOK_i hk;simp only [eqOK,hu,hi] at hk;simpa using hk
  | es=>have hu:=eqOK_s hk;simp only [eqOK,hu,hi] at hk;simpa using hk
theorem eqOK_und {P:Program} {s:EqSh} {t:TypeId} (hk:eqOK P s t=true):∃ d,P.underlying t=some d:=by
  cases s with
  | eb=>exact ⟨_,eqOK_b hk⟩
  | ei=>obtain ⟨k,this⟩:=eqOK_i hk;exact ⟨_,this⟩
  | es=>exact ⟨_,eqOK_s hk⟩
  | parts l=>rcases eqOK_p hk with ⟨fs,hu,_⟩|⟨n,e,i,hu,_⟩<;>exact ⟨_,hu⟩
mutual
theorem run_eqSh {P:Program} (s:EqSh) (t:TypeId) (d:Nat) (xs ys:List PV) (x y:Value) (b:Bool)
    (hk:eqOK P s t=true) (hdep:s.depth≤d) (hx:Sub P c w t xs x) (hy:Sub P c w t ys y) (he:Zi s xs ys=some b):(Op.equalIn (d+1) t x y).run P w=.ok b w:=by
  match s,hk,hdep,he with
  | .eb,hk,hdep,he =>
    obtain ⟨p,q,rfl,rfl,rfl⟩:=eqSh_b he
    have hd1:=eqOK_b hk
    have e1:=(hx.scalar hd1 rfl).bool_inv
    have e2:=(hy.scalar hd1 rfl).bool_inv
    subst e1 e2
    rw [run_equalIn_bool' w d t _ _ hd1]
  | .ei,hk,hdep,he =>
    obtain ⟨k,p,q,rfl,rfl,rfl⟩:=eqSh_i he
    obtain ⟨k0,hd1⟩:=eqOK_i hk
    have e1:=(hx.scalar hd1 rfl).int_inv
    have e2:=(hy.scalar hd1 rfl).int_inv
    subst e1 e2
    simp [Op.equalIn,Zc P w hd1]
  | .es,hk,hdep,he =>
    obtain ⟨p,q,rfl,rfl,rfl⟩:=eqSh_s he
    have hd1:=eqOK_s hk
    obtain ⟨t1,e1,g1⟩:=(hx.scalar hd1 rfl).str_inv
    obtain ⟨t2,e2,g2⟩:=(hy.scalar hd1 rfl).str_inv
    subst e1 e2
    rw [run_equalIn_string w d t _ _ hd1,ByteArray.toList_eq,ByteArray.toList_eq,g1,g2]
  | .parts l,hk,hdep,he =>
    have hdep':1≤d∧EqSh.depthL l≤d - 1:=by simp only [EqSh.depth] at hdep;omega
    obtain ⟨d',rfl⟩:∃ d',d=d'+1:=⟨d - 1,by omega⟩
    simp only [Zi] at he
    rcases eqOK_p hk with ⟨fs,hd1,hst,hkk⟩|⟨n,e,i,hd1,hi,hsz,hlen,hkk⟩
    · obtain ⟨us,rfl,hu⟩:=hx.agg hd1 rfl
      obtain ⟨vs,rfl,hv⟩:=hy.agg hd1 rfl
      have hfs:P.fieldsOf t=fs:=by simp [Program.fieldsOf,hd1]
      rw [run_equalIn_struct w (d'+1) t us vs (by rw [hfs];exact hd1) hst,hfs]
      exact run_eqShF l fs.toList d' xs ys us vs b hkk (by omega) hu hv he
    · obtain ⟨us,rfl,hu⟩:=hx.agg hd1 rfl
      obtain ⟨vs,rfl,hv⟩:=hy.agg hd1 rfl
      rw [run_equalIn_array w (d'+1) us vs hd1 hi]
      have:=run_eqShA l e i d' xs ys us vs 0 b hkk hi (by omega) hu hv he
      rw [List.range_eq_range',← hlen,← hsz]
      exact this
  termination_by (SizeOf.sizeOf s,0)
theorem run_eqShF {P:Program} (l:List (Nat × Nat × EqSh)) (fs:List Field) (d:Nat) (xs ys:List PV) (us vs:Array Value) (b:Bool)
    (hk:eqOKF P l (fs.filter fun f=>decide (f.name ≠ "_"))=true) (hdep:EqSh.depthL l≤d) (hu:LRel c w xs us) (hv:LRel c w ys vs) (he:Ze l xs ys=some b):(Op.eqFields (d+1) us vs fs).run P w=.ok b w:=by
  match fs,l,hk,hdep,he with
  | [],l,hk,hdep,he =>
    cases l with
    | nil=>simp only [Ze,Option.some.injEq] at he;simp [Op.eqFields,← he]
    | cons p r=>obtain ⟨o1,n1,s1⟩:=p;simp [eqOKF] at hk
  | f::fs,l,hk,hdep,he =>
    by_cases hf:f.name = "_"
    · simp only [List.filter_cons,hf,ne_eq,not_true_eq_false,decide_false,Bool.false_eq_true,if_false] at hk
      have:=run_eqShF l fs d xs ys us vs b hk hdep hu hv he
      simp only [Op.eqFields,hf,ne_eq,not_true_eq_false,if_false]
      exact this
    · match l,hk,hdep,he with
      | [],hk,hdep,he=>simp [hf,eqOKF] at hk
      | (off,n,s)::r,hk,hdep,he =>
        simp only [List.filter_cons,hf,ne_eq,not_false_eq_true,decide_true,if_true,eqOKF,Bool.and_eq_true,beq_iff_eq] at hk
        obtain ⟨⟨⟨hoff,hn⟩,hs⟩,hr⟩:=hk
        subst hoff
        simp only [EqSh.depthL] at hdep
        cases hi:P.info? f.type with
        | none=>simp [hi] at hn
        | some i =>
          simp only [hi,Option.map_some,Option.some.injEq] at hn
          subst hn
          obtain ⟨d0,hd0⟩:=eqOK_und hs
          simp only [Ze] at he
          have hsome:∃ b0,Zi s ((xs.drop f.offset).take i.size) ((ys.drop f.offset).take i.size)=some b0:=by
            split at he<;>first|exact ⟨_,by assumption⟩|simp at he
          obtain ⟨b0,hb0⟩:=hsome
          have hone:isA d0=false→i.size=1:=fun ha=>eqOK_size hs hd0 hi ha
          obtain ⟨x,hx,sx⟩:=run_part hu hd0 hi hone fun ha=>(eqSh_ne hs hd0 ha hb0).1
          obtain ⟨y,hy,sy⟩:=run_part hv hd0 hi hone fun ha=>(eqSh_ne hs hd0 ha hb0).2
          have hq:=run_eqSh s f.type d _ _ x y b0 hs (by omega) sx sy hb0
          simp only [Op.eqFields,hf,ne_eq,not_false_eq_true,if_true,Sem.run_bind,hx,Result.andThen_ok,hy,hq,Sem.run_ite,Sem.run_pure]
          rw [hb0] at he
          cases b0 with
          | false=>simp only [Option.some.injEq] at he;simp [← he]
          | true=>simpa using run_eqShF r fs d xs ys us vs b hr (by omega) hu hv he
  termination_by (SizeOf.sizeOf l,fs.length)
theorem run_eqShA {P:Program} (l:List (Nat × Nat × EqSh)) (e:TypeId) (i:TypeInfo) (d:Nat) (xs ys:List PV) (us vs:Array Value) (j:Nat) (b:Bool)
    (hk:eqOKA P e i.size j l=true) (hi:P.info? e=some i) (hdep:EqSh.depthL l≤d) (hu:LRel c w xs us) (hv:LRel c w ys vs) (he:Ze l xs ys=some b):(Op.eqItems (d+1) e i.size us vs (List.range' j l.length)).run P w=.ok b w:=by
  match l,hk,hdep,he with
  | [],hk,hdep,he=>simp only [Ze,Option.some.injEq] at he;simp [Op.eqItems,← he]
  | (off,n,s)::r,hk,hdep,he =>
    simp only [eqOKA,Bool.and_eq_true,beq_iff_eq] at hk
    obtain ⟨⟨⟨hoff,hn⟩,hs⟩,hr⟩:=hk
    subst hoff hn
    simp only [EqSh.depthL] at hdep
    obtain ⟨d0,hd0⟩:=eqOK_und hs
    simp only [Ze] at he
    have hsome:∃ b0,Zi s ((xs.drop (j*i.size)).take i.size) ((ys.drop (j*i.size)).take i.size)=some b0:=by
      split at he<;>first|exact ⟨_,by assumption⟩|simp at he
    obtain ⟨b0,hb0⟩:=hsome
    have hone:isA d0=false→i.size=1:=fun ha=>eqOK_size hs hd0 hi ha
    obtain ⟨x,hx,sx⟩:=run_part hu hd0 hi hone fun ha=>(eqSh_ne hs hd0 ha hb0).1
    obtain ⟨y,hy,sy⟩:=run_part hv hd0 hi hone fun ha=>(eqSh_ne hs hd0 ha hb0).2
    have hq:=run_eqSh s e d _ _ x y b0 hs (by omega) sx sy hb0
    simp only [List.length_cons,List.range'_succ,Op.eqItems,Sem.run_bind,hx,Result.andThen_ok,hy,hq,Sem.run_ite,Sem.run_pure]
    rw [hb0] at he
    cases b0 with
    | false=>simp only [Option.some.injEq] at he;simp [← he]
    | true=>simpa using run_eqShA r e i d xs ys us vs (j+1) b hr hi (by omega) hu hv he
  termination_by (SizeOf.sizeOf l,0)
end
end Go.VI
namespace Go.VI
variable {g:PG} {c:Ctx} {w:World} {fr fr':Fr} {a:Act} {o:Oper} {callE:CallE} {yieldE:Nm→List PV→Heap→Option (PV × Heap)}
theorem ok_eq (h:FrRel g c w fr a) {neg:Bool} {sh:EqSh} {x y:PX} {x' y':Operand} {t t':TypeId} (ho:o.op=.binOp (if neg then .neq else .eql) t x' y' t') (hx:g.matchX x x'=true) (hy:g.matchX y y'=true)
    (hk:eqOK g.P sh t=true) (hdep:sh.depth≤9999) (hg:g.P.eqGuardType g.P.depth t=false)
    (hs:stepOp g.E callE yieldE o.dst (.eq neg sh x y) fr=some fr'):OpOK g c w fr fr' a o.dst ((execOp a.eval o).run g.P w):=by
  have h1:=h.x hx
  have h2:=h.x hy
  simp only [stepOp] at hs
  split at hs<;>simp only [Option.some.injEq,reduceCtorEq] at hs
  rename_i b hb
  subst hs
  refine OpOK.value h _ (v:=.bool (if neg then !b else b)) ?_ (.i _ _ (.bool _))
  unfold Zf at hb
  split at hb
  · rename_i l cs ds ex ey
    rw [ex] at h1
    rw [ey] at h2
    obtain ⟨us,e1,l1,_,r1⟩:=h1.agg_inv
    obtain ⟨vs,e2,l2,_,r2⟩:=h2.agg_inv
    obtain ⟨d,hd⟩:=eqOK_und hk
    have ha:isA d=true:=by rcases eqOK_p hk with ⟨fs,hu,_⟩|⟨n,e,i,hu,_⟩<;>rw [hd] at hu<;>simp only [Option.some.injEq] at hu<;>subst hu<;>rfl
    have hq:=run_eqSh (P:=g.P) (c:=c) (w:=w) (.parts l) t 9999 cs ds (.agg us) (.agg vs) b hk hdep ⟨d,hd,by rw [if_pos ha];exact ⟨us,rfl,l1,r1⟩⟩ ⟨d,hd,by rw [if_pos ha];exact ⟨vs,rfl,l2,r2⟩⟩ (by simpa [Zi] using hb)
    cases neg
    · simp [execOp,ho,e1,e2,run_eqGuard_agg _ _ _ _ _ _ _ hg,run_eql_struct,hq]
    · simp [execOp,ho,e1,e2,run_eqGuard_agg _ _ _ _ _ _ _ hg,run_neq_struct,hq]
  · rename_i p q ex ey
    rw [ex] at h1
    rw [ey] at h2
    have e1:=h1.bool_inv
    have e2:=h2.bool_inv
    simp only [Option.some.injEq] at hb
    have hu:=eqOK_b hk
    have hgd:∀ op,(eqGuard op t x' y' (.bool p) (.bool q)).run g.P w=.ok () w:=by intro op;cases op<;>simp [eqGuard]
    cases neg
    · simp [execOp,ho,e1,e2,hgd,run_eql_bool w t p q hu,hb]
    · simp [execOp,ho,e1,e2,hgd,run_neq_bool w t p q hu,hb]
  · simp at hb
def nilK (P:Program) (t:TypeId) (y:Value) (k:Nat):Bool :=
  match P.underlying t,y,k with
  | some (.slice _),.slice none 0 0,0=>true
  | some (.pointer _),.pointer none,1=>true
  | some (.map _ _),.map none,2=>true
  | some (.func _ _ _),.nilFunc,3=>true
  | _,_,_=>false
section nils
variable {P:Program} {t:TypeId}
theorem eq_s1 {e:TypeId} (hu:P.underlying t=some (.slice e)) (x:Option Addr) (l n:Nat):(Op.equal t (.slice x l n) (.slice none 0 0)).run P w=.ok x.isNone w:=by
  have:∀ d,(Op.equalIn (d+1) t (.slice x l n) (.slice none 0 0)).run P w=.ok x.isNone w:=fun d=>by cases x<;>simp [Op.equalIn,Zc P w hu]
  exact this 9999
theorem eq_s2 {e:TypeId} (hu:P.underlying t=some (.slice e)) (x:Option Addr) (l n:Nat):(Op.equal t (.slice none 0 0) (.slice x l n)).run P w=.ok x.isNone w:=by
  have:∀ d,(Op.equalIn (d+1) t (.slice none 0 0) (.slice x l n)).run P w=.ok x.isNone w:=fun d=>by cases x<;>simp [Op.equalIn,Zc P w hu]
  exact this 9999
theorem eq_p1 {e:TypeId} (hu:P.underlying t=some (.pointer e)) (x:Option Addr):(Op.equal t (.pointer x) (.pointer none)).run P w=.ok x.isNone w:=by
  have:∀ d,(Op.equalIn (d+1) t (.pointer x) (.pointer none)).run P w=.ok x.isNone w:=fun d=>by cases x<;>simp [Op.equalIn,Zc P w hu]
  exact this 9999
theorem eq_p2 {e:TypeId} (hu:P.underlying t=some (.pointer e)) (x:Option Addr):(Op.equal t (.pointer none) (.pointer x)).run P w=.ok x.isNone w:=by
  have:∀ d,(Op.equalIn (d+1) t (.pointer none) (.pointer x)).run P w=.ok x.isNone w:=fun d=>by cases x<;>simp [Op.equalIn,Zc P w hu]
  exact this 9999
theorem eq_m {e1 e2:TypeId} (hu:P.underlying t=some (.map e1 e2)):(Op.equal t (.map none) (.map none)).run P w=.ok true w:=by
  have:∀ d,(Op.equalIn (d+1) t (.map none) (.map none)).run P w=.ok true w:=fun d=>by simp [Op.equalIn,Zc P w hu]
  exact this 9999
theorem eq_f0 {e1 e2:Array TypeId} {e3:Bool} (hu:P.underlying t=some (.func e1 e2 e3)):(Op.equal t .nilFunc .nilFunc).run P w=.ok true w:=by
  have:∀ d,(Op.equalIn (d+1) t .nilFunc .nilFunc).run P w=.ok true w:=fun d=>by simp [Op.equalIn,Zc P w hu]
  exact this 9999
theorem eq_f1 {e1 e2:Array TypeId} {e3:Bool} (hu:P.underlying t=some (.func e1 e2 e3)) (p:Fn) (q r:Array Value):(Op.equal t (.func p q r) .nilFunc).run P w=.ok false w:=by
  have:∀ d,(Op.equalIn (d+1) t (.func p q r) .nilFunc).run P w=.ok false w:=fun d=>by simp [Op.equalIn,Zc P w hu]
  exact this 9999
theorem eq_f2 {e1 e2:Array TypeId} {e3:Bool} (hu:P.underlying t=some (.func e1 e2 e3)) (p:Fn) (q r:Array Value):(Op.equal t .nilFunc (.func p q r)).run P w=.ok false w:=by
  have:∀ d,(Op.equalIn (d+1) t .nilFunc (.func p q r)).run P w=.ok false w:=fun d=>by simp [Op.equalIn,Zc P w hu]
  exact this 9999
end nils
theorem run_isNil {P:Program} {t:TypeId} {y u:Value} {k:Nat} {v:PV} {b:Bool} (hk:nilK P t y k=true) (hv:VRel c w v u) (hb:isNil k v=some b) :
    (∀ op x z,(eqGuard op t x z u y).run P w=.ok () w)∧(∀ op x z,(eqGuard op t x z y u).run P w=.ok () w)∧(Op.equal t u y).run P w=.ok b w∧(Op.equal t y u).run P w=.ok b w ∧
    (binOp .eql t u y=do pure (.bool (← Op.equal t u y)))∧(binOp .neq t u y=do pure (.bool (!(← Op.equal t u y))))∧(binOp .eql t y u=do pure (.bool (← Op.equal t y u)))∧(binOp .neq t y u=do pure (.bool (!(← Op.equal t y u)))):=by
  unfold nilK at hk
  split at hk<;>try (simp at hk;done)
  · rename_i e hu
    have key:(∃ l n,u=.slice none l n∧b=true)∨∃ x l n,u=.slice (some x) l n∧b=false:=by
      unfold isNil at hb
      split at hb<;>simp only [Option.some.injEq,reduceCtorEq] at hb<;>try omega
      · have:=hv.vs_inv
        cases this with
        | vsNone=>exact .inl ⟨_,_,rfl,hb.symm⟩
        | vs _ _ _ _ _ _ _ hc=>exact absurd rfl hc
        | vsE _ _ hc=>exact absurd rfl hc
      · have:=hv.vs_inv
        cases this with
        | vsNone _ hc=>exact absurd rfl hc
        | vsE=>exact .inr ⟨_,_,_,rfl,hb.symm⟩
        | vs=>exact .inr ⟨_,_,_,rfl,hb.symm⟩
      · have:=hv.vs_inv
        cases this with
        | vs=>exact .inr ⟨_,_,_,rfl,hb.symm⟩
    rcases key with ⟨l,n,rfl,rfl⟩|⟨x,l,n,rfl,rfl⟩
    · exact ⟨fun op x z=>by cases op<;>simp [eqGuard],fun op x z=>by cases op<;>simp [eqGuard],eq_s1 hu none l n,eq_s2 hu none l n,rfl,rfl,rfl,rfl⟩
    · exact ⟨fun op x z=>by cases op<;>simp [eqGuard],fun op x z=>by cases op<;>simp [eqGuard],eq_s1 hu (some x) l n,eq_s2 hu (some x) l n,rfl,rfl,rfl,rfl⟩
  · rename_i e hu
    have key:(u=.pointer none∧b=true)∨∃ x,u=.pointer (some x)∧b=false:=by
      unfold isNil at hb
      split at hb<;>simp only [Option.some.injEq,reduceCtorEq] at hb<;>try omega
      · cases hv with
        | i _ _ h=>cases h;exact .inl ⟨rfl,hb.symm⟩
      · obtain ⟨b',o',e,_⟩:=cellsAt_ip hv.ip_inv
        exact .inr ⟨_,e,hb.symm⟩
    rcases key with ⟨rfl,rfl⟩|⟨x,rfl,rfl⟩
    · exact ⟨fun op x z=>by cases op<;>simp [eqGuard],fun op x z=>by cases op<;>simp [eqGuard],eq_p1 hu none,eq_p2 hu none,rfl,rfl,rfl,rfl⟩
    · exact ⟨fun op x z=>by cases op<;>simp [eqGuard],fun op x z=>by cases op<;>simp [eqGuard],eq_p1 hu (some x),eq_p2 hu (some x),rfl,rfl,rfl,rfl⟩
  · rename_i e1 e2 hu
    have key:u=.map none∧b=true:=by
      unfold isNil at hb
      split at hb<;>simp only [Option.some.injEq,reduceCtorEq] at hb<;>try omega
      · cases hv with
        | i _ _ h=>cases h;exact ⟨rfl,hb.symm⟩
    obtain ⟨rfl,rfl⟩:=key
    exact ⟨fun op x z=>by cases op<;>simp [eqGuard],fun op x z=>by cases op<;>simp [eqGuard],eq_m hu,eq_m hu,rfl,rfl,rfl,rfl⟩
  · rename_i e1 e2 e3 hu
    have key:(u=.nilFunc∧b=true)∨∃ p q r,u=.func p q r∧b=false:=by
      unfold isNil at hb
      split at hb<;>simp only [Option.some.injEq,reduceCtorEq] at hb<;>try omega
      · cases hv with
        | i _ _ h=>cases h;exact .inl ⟨rfl,hb.symm⟩
      · obtain ⟨xs,ys,e,_⟩:=hv.fn_inv
        exact .inr ⟨_,_,_,e,hb.symm⟩
    rcases key with ⟨rfl,rfl⟩|⟨p,q,r,rfl,rfl⟩
    · exact ⟨fun op x z=>by cases op<;>simp [eqGuard],fun op x z=>by cases op<;>simp [eqGuard],eq_f0 hu,eq_f0 hu,rfl,rfl,rfl,rfl⟩
    · exact ⟨fun op x z=>by cases op<;>simp [eqGuard],fun op x z=>by cases op<;>simp [eqGuard],eq_f1 hu p q r,eq_f2 hu p q r,rfl,rfl,rfl,rfl⟩
theorem ok_eqnil (h:FrRel g c w fr a) {k:Nat} {neg:Bool} {x:PX} {x':Operand} {y':Value} {t t':TypeId} (ho:o.op=.binOp (if neg then .neq else .eql) t x' (.const y') t'∨o.op=.binOp (if neg then .neq else .eql) t (.const y') x' t')
    (hk:nilK g.P t y' k=true) (hx:g.matchX x x'=true) (hs:stepOp g.E callE yieldE o.dst (.eqnil k neg x) fr=some fr'):OpOK g c w fr fr' a o.dst ((execOp a.eval o).run g.P w):=by
  have h1:=h.x hx
  simp only [stepOp] at hs
  split at hs<;>simp only [Option.some.injEq,reduceCtorEq] at hs
  rename_i b hb
  subst hs
  refine OpOK.value h _ (v:=.bool (if neg then !b else b)) ?_ (.i _ _ (.bool _))
  obtain ⟨g1,g2,q1,q2,e1,e2,e3,e4⟩:=run_isNil hk h1 hb
  have ec:a.eval (.const y')=y':=rfl
  rcases ho with ho|ho<;>cases neg
  · simp [execOp,ho,ec,g1,e1,q1]
  · simp [execOp,ho,ec,g1,e2,q1]
  · simp [execOp,ho,ec,g2,e3,q2]
  · simp [execOp,ho,ec,g2,e4,q2]
theorem run_ptr {P:Program} {t:TypeId} {y:Value} {q:Addr} (hk:nilK P t y 1=true) :
    (∀ op x z,(eqGuard op t x z (.pointer (some q)) y).run P w=.ok () w)∧(∀ op x z,(eqGuard op t x z y (.pointer (some q))).run P w=.ok () w)∧(Op.equal t (.pointer (some q)) y).run P w=.ok false w∧(Op.equal t y (.pointer (some q))).run P w=.ok false w ∧
    (binOp .eql t (.pointer (some q)) y=do pure (.bool (← Op.equal t (.pointer (some q)) y)))∧(binOp .neq t (.pointer (some q)) y=do pure (.bool (!(← Op.equal t (.pointer (some q)) y))))∧(binOp .eql t y (.pointer (some q))=do pure (.bool (← Op.equal t y (.pointer (some q)))))∧(binOp .neq t y (.pointer (some q))=do pure (.bool (!(← Op.equal t y (.pointer (some q)))))):=by
  unfold nilK at hk
  split at hk<;>try (simp at hk;done)
  all_goals first
    | contradiction
    | (rename_i e hu _;exact ⟨fun op x z=>by cases op<;>simp [eqGuard],fun op x z=>by cases op<;>simp [eqGuard],eq_p1 hu (some q),eq_p2 hu (some q),rfl,rfl,rfl,rfl⟩)
    | (rename_i e hu;exact ⟨fun op x z=>by cases op<;>simp [eqGuard],fun op x z=>by cases op<;>simp [eqGuard],eq_p1 hu (some q),eq_p2 hu (some q),rfl,rfl,rfl,rfl⟩)
theorem ok_ptrq (h:FrRel g c w fr a) {neg:Bool} {x:PX} {x':Operand} {y':Value} {t t':TypeId} (ho:o.op=.binOp (if neg then .neq else .eql) t x' (.const y') t'∨o.op=.binOp (if neg then .neq else .eql) t (.const y') x' t')
    (hk:nilK g.P t y' 1=true) (hx:g.matchX x x'=true) (hs:stepOp g.E callE yieldE o.dst (.ptrq neg x) fr=some fr'):OpOK g c w fr fr' a o.dst ((execOp a.eval o).run g.P w):=by
  have h1:=h.x hx
  have ec:a.eval (.const y')=y':=rfl
  simp only [stepOp] at hs
  split at hs
  · rename_i b hb
    exact ok_eqnil (callE:=callE) (yieldE:=yieldE) (k:=1) h ho hk hx (by simp only [stepOp,hb];exact hs)
  · split at hs
    case h_2=>cases hs
    rename_i n gg i off e
    split at hs
    case h_2=>cases hs
    rename_i el g' cl osz hob
    split at hs<;>simp only [Option.some.injEq,reduceCtorEq] at hs
    rename_i hgg
    subst hgg hs
    rw [e] at h1
    obtain ⟨p,b,hp,hb,e1,hM⟩:=ptr_live h.heap h1 hob
    refine OpOK.value h _ (v:=.bool neg) ?_ (.i _ _ (.bool _))
    rw [e1] at h1
    obtain ⟨g1,g2,q1,q2,e4,e5,e6,e7⟩:=run_ptr (w:=w) (P:=g.P) (q:=⟨b,p.base+i*p.sz+off,none⟩) hk
    rcases ho with ho|ho<;>cases neg
    · simp [execOp,ho,ec,e1,g1,e4,q1]
    · simp [execOp,ho,ec,e1,g1,e5,q1]
    · simp [execOp,ho,ec,e1,g2,e6,q2]
    · simp [execOp,ho,ec,e1,g2,e7,q2]
structure Ext (c:Ctx) (w:World) (c':Ctx) (w':World):Prop where
  size:w.heap.size≤w'.heap.size
  os:w'.os=w.os
  out:w'.output=w.output
  gen:c'.gen=c.gen
  obj:c'.obj=c.obj
  imm:∀ b,c.imm b→c'.imm b
  immNew:∀ b,c'.imm b→c.imm b∨(w.heap.size≤b∧b<w'.heap.size)
  same:∀ b,b<w.heap.size→w'.heap[b]?=w.heap[b]?
theorem Ext.step {c c':Ctx} {w w':World} (h:Ext c w c' w'):Step N0 c w c' w' where
  size:=h.size
  os:=h.os
  out:=h.out
  gen n:=by rw [h.gen];exact Nat.le_refl _
  obj n _ _:=by rw [h.obj]
  phan _ hn:=hn.elim
  imm:=h.imm
  immNew b hb:=(h.immNew b hb).imp id fun x=>.inl x.1
  objNew n p b h1 h2:=.inr ⟨n,p,by rw [← h.obj];exact h1,h2⟩
  frame b hb _:=h.same b hb
theorem Ext.wf {G:Nat→Option PV} {c c':Ctx} {w w':World} (h:Ext c w c' w') (hw:WF G c w):WF G c' w' where
  lt n p b h1 h2:=Nat.lt_of_lt_of_le (hw.lt n p b (h.obj ▸ h1) h2) h.size
  inj n m p q b h1 h2 h3 h4:=hw.inj n m p q b (h.obj ▸ h1) (h.obj ▸ h2) h3 h4
  apart n p b h1 h2 h3:=by
    have hlt:=hw.lt n p b (h.obj ▸ h1) h2
    rcases h.immNew b h3 with h4|h4
    · exact hw.apart n p b (h.obj ▸ h1) h2 h4
    · omega
  ilt b hb:=by
    rcases h.immNew b hb with h4|h4
    · exact Nat.lt_of_lt_of_le (hw.ilt b h4) h.size
    · exact h4.2
  glob i v hi:=(hw.glob i v hi).step h.step hw
theorem Ext.v {G:Nat→Option PV} {c c':Ctx} {w w':World} (h:Ext c w c' w') (hw:WF G c w) {v:PV} {u:Value} (hv:VRel c w v u):VRel c' w' v u :=
  hv.step h.step hw
theorem Ext.mem {G:Nat→Option PV} {c c':Ctx} {w w':World} (h:Ext c w c' w') (hw:WF G c w) {n:Nm} {p:Place} (hp:c.obj n=some p) {el:List PV} {cl:Bool} {osz:Nat} (hm:MemRel c w p el cl osz):MemRel c' w' p el cl osz where
  osz:=hm.osz
  nil:=hm.nil
  cap:=hm.cap
  sz:=hm.sz
  row b hb:=by
    obtain ⟨arr,E,h1,h2,h3⟩:=hm.row b hb
    refine ⟨arr,E,(h.same b (hw.lt n p b hp hb)).trans h1,h2,fun i j e cv he hj=>?_⟩
    obtain ⟨u,h4,h5,h6⟩:=h3 i j e cv he hj
    refine ⟨u,h4,h5,?_⟩
    cases cl
    · exact h.v hw h6
    · exact h6.step h.step hw
theorem DefRel.step {G:Nat→Option PV} {N:Nm→Prop} {c c':Ctx} {w w':World} (h:Step N c w c' w') (hw:WF G c w) (hlt:∀ r:Nat,(∃ o,w.heap[r]?=some o)→r<w.heap.size) {lo:Nat} {ds:List (Option (Nat × List PV))} {xs:List Deferred} (hd:DefRel lo c w ds xs):DefRel lo c' w' ds xs:=by
  induction hd with
  | nil=>exact .nil
  | cons d x ds xs hx _ ih =>
    obtain ⟨caps,h1,h2,h3⟩:=hx.ex
    exact .cons d x ds xs ⟨caps,h1,h2,fun i v u hv hu=>(h3 i v u hv hu).step h hw⟩ ih
  | mark r ds xs hlo hr ho hi hx _ ih =>
    have hb:r<w.heap.size:=hlt r ⟨_,hr⟩
    refine .mark r ds xs hlo ((h.frame r hb fun n p hp=>ho n p hp).trans hr) (fun n p hp he=>?_) (fun him=>?_) hx ih
    case refine_2 =>
      rcases h.immNew r him with h3|h3|⟨m,q,h3,h4⟩
      · exact hi h3
      · omega
      · exact ho m q h3 h4
    rcases h.objNew n p r hp he with h3|⟨m,q,h3,h4⟩
    · omega
    · exact ho m q h3 h4
theorem heap_lt {w:World} (r:Nat):(∃ o,w.heap[r]?=some o)→r<w.heap.size:=fun ⟨_,h⟩=>(Array.getElem?_eq_some_iff.1 h).1
theorem Ext.hrel {G:Nat→Option PV} {MC:PC→Code→Prop} {c c':Ctx} {w w':World} (h:Ext c w c' w') (hw:WF G c w) {hp:Heap} (hh:HRel MC c hp w):HRel MC c' hp w':=by
  intro n ob hg
  have:=hh n ob hg
  cases ob with
  | mem el gg cl osz =>
    obtain ⟨h1,h2⟩:=this
    exact ⟨by rw [h.gen];exact h1,fun p hp=>h.mem hw (h.obj ▸ hp) (h2 p (h.obj ▸ hp))⟩
  | map es clock gg =>
    obtain ⟨h1,h2⟩:=this
    refine ⟨by rw [h.gen];exact h1,fun p hp=>?_⟩
    obtain ⟨b,arr,h3,h4,h5,h6⟩:=h2 p (h.obj ▸ hp)
    refine ⟨b,arr,h3,(h.same b (hw.lt n p b (h.obj ▸ hp) h3)).trans h4,h5,fun i e x he hx=>?_⟩
    obtain ⟨⟨h8,h9⟩,h10⟩:=h6 i e x he hx
    exact ⟨⟨h8.step h.step hw,h9.step h.step hw⟩,h10⟩
  | iter m since seen gg =>
    obtain ⟨h1,h2⟩:=this
    refine ⟨by rw [h.gen];exact h1,fun p hp=>?_⟩
    obtain ⟨b,bm,h3,h4,h5⟩:=h2 p (h.obj ▸ hp)
    exact ⟨b,bm,h3,(h.same b (hw.lt n p b (h.obj ▸ hp) h3.1)).trans h4,h.v hw h5⟩
  | loop tmps params assign body jump gg =>
    obtain ⟨h1,h2⟩:=this
    refine ⟨by rw [h.gen];exact h1,fun p hp=>?_⟩
    obtain ⟨b,h3,l,h4,h5,h6,h7,h8⟩:=h2 p (h.obj ▸ hp)
    exact ⟨b,h3,l,(h.same b (hw.lt n p b (h.obj ▸ hp) h3)).trans h4,h5,h6,fun i=>h.v hw (h7 i),h8⟩
  | dead gg=>exact (congrFun h.gen n).trans this
theorem Ext.frRel {c':Ctx} {w':World} (h:Ext c w c' w') (hf:FrRel g c w fr a):FrRel g c' w' fr a :=
  ⟨hf.size,fun i=>h.v hf.wf (hf.tmps i),h.hrel hf.wf hf.heap,h.wf hf.wf,DefRel.step h.step hf.wf heap_lt hf.defs,fun n hn=>by rw [h.gen,h.obj];exact hf.hn n hn⟩
theorem OpOK.ext {c':Ctx} {w':World} (h:FrRel g c w fr a) (he:Ext c w c' w') (dst:Option Nat) {pv:PV} {v:Value} {r:Result Next} (hr:r=.ok (.value v) w') (hv:VRel c' w' pv v) :
    OpOK g c w fr (fr.put dst pv) a dst r:=⟨v,w',c',.inl hr,he.step,(he.frRel h).put dst hv⟩
def Ctx.addImm (c:Ctx) (b:Nat):Ctx:={ c with imm:=fun x=>c.imm x∨x=b }
theorem Ext.alloc (c:Ctx) (w:World) (ob:Obj):Ext c w (c.addImm w.heap.size) (w.alloc ob) where
  size:=by simp
  os:=rfl
  out:=rfl
  gen:=rfl
  obj:=rfl
  imm b hb:=.inl hb
  immNew b hb:=hb.imp id fun e=>by subst e;simp
  same b hb:=by
    show (w.heap.push ob)[b]?=_
    rw [Array.getElem?_push_lt hb]
    simp [hb]
theorem low_cells {v:PV} (h:v.low 0=true) {j:Nat} {cv:PV} (hj:v.cells[j]?=some cv):cv.low 0=true:=by
  cases v with
  | agg cs=>exact Z1 h hj
  | _=>cases j<;>simp [PV.cells] at hj;exact hj ▸ h
theorem alloc_cell (w:World) (arr:Array Value) (E:TypeId) (o:Nat):(w.alloc (.cells arr E)).cell? ⟨w.heap.size,o,none⟩=arr[o]?:=by
  simp
theorem ok_boxi (h:FrRel g c w fr a) {x:PX} {x':Operand} {t:TypeId} (ho:o.op=.box t x') (hx:g.matchX x x'=true)
    (hs:stepOp g.E callE yieldE o.dst (.boxi x) fr=some fr'):OpOK g c w fr fr' a o.dst ((execOp a.eval o).run g.P w):=by
  have h1:=h.x hx
  simp only [stepOp] at hs
  split at hs<;>simp only [Option.some.injEq,reduceCtorEq] at hs
  rename_i hp
  obtain ⟨hp,hgood⟩:=hp
  subst hs
  have hE:=Ext.alloc c w (.cells (a.eval x').cells t)
  obtain ⟨hl,hc⟩:=h1.cells hgood
  refine OpOK.ext h hE _ (v:=.pointer (some ⟨w.heap.size,0,none⟩)) ?_ (.i _ _ ?_)
  · simp [execOp,ho,Instr.box,newVar,newRow]
  · refine Yk (fun j cv hj=>?_) fun j hj=>.inr rfl
    have hj':j<(a.eval x').cells.size:=hl ▸ Zb hj
    obtain ⟨h2,h3⟩:=hc j cv _ hj (Array.getElem?_eq_getElem hj')
    refine ⟨_,by rw [Nat.zero_add,alloc_cell];exact Array.getElem?_eq_getElem hj',h3,?_⟩
    exact (h2.pure (low_cells hp hj)).step hE.step h.wf
end Go.VI
namespace Go.VI
variable {g:PG} {c:Ctx} {w:World} {fr fr':Fr} {a:Act} {o:Oper} {callE:CallE} {yieldE:Nm→List PV→Heap→Option (PV × Heap)}
theorem part_loadFrom {P:Program} {t:TypeId} {k:Option Nat} {cs:List PV} {us:Array Value} {off:Nat} {v:PV} (h:LRel c w cs us) (h1:∀ (i:Nat) x,us[i]?=some x→x.oneCell'=true) (hk:kOK P t k=true) (hv:loadFrom (cs.drop off) k=some v) :
    ∃ u,(part t us off).run P w=.ok u w∧VRel c w v u:=by
  unfold kOK at hk
  split at hk
  case h_2=>simp at hk
  rename_i d i hd hi
  split at hk
  · rename_i ha
    have hks:k=some i.size:=by simpa using hk
    subst hks
    simp only [loadFrom] at hv
    split at hv<;>simp only [Option.some.injEq,reduceCtorEq] at hv
    rename_i hl
    refine ⟨.agg (us.extract off (off+i.size)),?_,?_⟩
    · simp [part,Yb P w hd,ha,Z0 P w hi]
    · rw [← hv]
      have hz:=h.1
      refine .agg _ _ (by simp at hl ⊢;omega) (fun j x hx=>?_) (fun j cv x hc hx=>?_)
      · rw [Array.getElem?_extract] at hx
        split at hx
        · exact h1 _ x hx
        · simp at hx
      · rw [Array.getElem?_extract] at hx
        split at hx
        · have hj:j<i.size:=by have:=Zb hc;simp at this;omega
          rw [List.getElem?_take,if_pos hj,List.getElem?_drop] at hc
          exact h.2 _ cv x hc hx
        · simp at hx
  · rename_i ha
    simp only [Bool.and_eq_true,beq_iff_eq] at hk
    obtain ⟨hkn,_⟩:=hk
    subst hkn
    simp only [loadFrom] at hv
    rw [List.head?_eq_getElem?,List.getElem?_drop,Nat.add_zero] at hv
    have hl:off<us.size:=h.1 ▸ Zb hv
    have ha':isA d=false:=by simpa using ha
    refine ⟨us[off],?_,h.2 off v _ hv (by simp [hl])⟩
    simp [part,Yb P w hd,ha',hl]
theorem ok_fld (h:FrRel g c w fr a) {off fi:Nat} {k:Option Nat} {x:PX} {x':Operand} {t:TypeId} {fs:Array Field} {f:Field} (ho:o.op=.field t x' fi) (hu:g.P.underlying t=some (.struct fs)) (hf:fs[fi]?=some f)
    (hk:kOK g.P f.type k=true) (hoff:f.offset=off) (hx:g.matchX x x'=true)
    (hs:stepOp g.E callE yieldE o.dst (.fld off k x) fr=some fr'):OpOK g c w fr fr' a o.dst ((execOp a.eval o).run g.P w):=by
  have h1:=h.x hx
  simp only [stepOp] at hs
  split at hs
  case h_2=>simp at hs
  rename_i cs e
  split at hs<;>simp only [Option.some.injEq,reduceCtorEq] at hs
  rename_i v hv
  subst hs
  rw [e] at h1
  obtain ⟨us,e1,hl,hone,hr⟩:=h1.agg_inv
  obtain ⟨u,hrun,hrel⟩:=part_loadFrom ⟨hl,hr⟩ hone hk hv
  refine OpOK.value h _ (v:=u) ?_ hrel
  simp [execOp,ho,e1,Instr.field,Zc g.P w hu,hf,asAgg,hoff,hrun]
theorem ok_idx (h:FrRel g c w fr a) {n sz:Nat} {k:Option Nat} {x y:PX} {x' y':Operand} {t E:TypeId} {i:TypeInfo} (ho:o.op=.index t x' y') (hu:g.P.underlying t=some (.array n E)) (hi:g.P.info? E=some i) (hz:i.size=sz)
    (hk:kOK g.P E k=true) (hx:g.matchX x x'=true) (hy:g.matchX y y'=true)
    (hs:stepOp g.E callE yieldE o.dst (.idx n sz k x y) fr=some fr'):OpOK g c w fr fr' a o.dst ((execOp a.eval o).run g.P w):=by
  have h1:=h.x hx
  have h2:=h.x hy
  simp only [stepOp] at hs
  split at hs
  case h_2=>simp at hs
  rename_i kk j ey
  rw [ey] at h2
  have e2:=h2.int_inv
  split at hs
  case isFalse=>simp at hs
  rename_i h0
  split at hs
  case h_2=>simp at hs
  rename_i cs e
  split at hs
  case isFalse=>simp at hs
  rename_i hlen
  split at hs<;>simp only [Option.some.injEq,reduceCtorEq] at hs
  rename_i v hv
  subst hs
  rw [e] at h1
  obtain ⟨us,e1,hl,hone,hr⟩:=h1.agg_inv
  obtain ⟨u,hrun,hrel⟩:=part_loadFrom ⟨hl,hr⟩ hone hk hv
  refine OpOK.value h _ (v:=u) ?_ hrel
  simp [execOp,ho,e1,e2,Instr.index,asIntOf,Zc g.P w hu,h0.1,h0.2,Z0 g.P w hi,hz,hrun]
theorem bound_inv {v:PV} {y n:Nat} {u:Value} (h:bound v y=some n) (hv:VRel c w v u):∃ k i,u=.int k i∧0≤i∧i≤y∧n=i.toNat:=by
  unfold bound at h
  split at h
  · rename_i k i
    split at h<;>simp only [Option.some.injEq,reduceCtorEq] at h
    rename_i hc
    exact ⟨k,i,hv.int_inv,hc.1,hc.2,h.symm⟩
  · simp at h
theorem run_bound {P:Program} {v:PV} {y n:Nat} {u:Value} {code:BoundsCode} (h:bound v y=some n) (hv:VRel c w v u):(Instr.sliceBound u y code).run P w=.ok n w:=by
  obtain ⟨k,i,rfl,h0,h1,rfl⟩:=bound_inv h hv
  simp [Instr.sliceBound,asIntOf,h0,h1]
def PG.matchO (g:PG):Option PX→Option Operand→Bool
  | none,none=>true
  | some x,some y=>g.matchX x y
  | _,_=>false
theorem bound_le {v:PV} {y n:Nat} (h:bound v y=some n):n≤y:=by
  unfold bound at h
  split at h
  · split at h<;>simp only [Option.some.injEq,reduceCtorEq] at h
    omega
  · simp at h
theorem run_bounds (h:FrRel g c w fr a) {isS:Bool} {len cap:Nat} {lo hi mx:Option PX} {lo' hi' mx':Option Operand} (h1:g.matchO lo lo'=true) (h2:g.matchO hi hi'=true) (h3:g.matchO mx mx'=true) {l m n:Nat}
    (hb:boundsE g.E fr.tmps len cap lo hi mx=some (l,m,n)):(Instr.sliceBounds isS len cap (lo'.map a.eval) (hi'.map a.eval) (mx'.map a.eval)).run g.P w=.ok (l,m,n) w:=by
  unfold boundsE at hb
  split at hb
  · simp at hb
  rename_i m1 hm
  split at hb
  · simp at hb
  rename_i h4 hh
  split at hb
  · simp at hb
  rename_i l1 hl
  simp only [Option.some.injEq,Prod.mk.injEq] at hb
  obtain ⟨rfl,rfl,rfl⟩:=hb
  cases mx with
  | none =>
    cases mx' with
    | some y=>simp [PG.matchO] at h3
    | none =>
      simp only [Option.some.injEq] at hm
      subst hm
      cases hi with
      | none =>
        cases hi' with
        | some y=>simp [PG.matchO] at h2
        | none =>
          simp only [Option.isSome_none,Bool.false_eq_true,if_false,Option.some.injEq] at hh
          subst hh
          cases lo with
          | none =>
            cases lo' with
            | some y=>simp [PG.matchO] at h1
            | none =>
              simp only [Option.some.injEq] at hl
              subst hl
              simp [Instr.sliceBounds]
          | some z =>
            cases lo' with
            | none=>simp [PG.matchO] at h1
            | some y =>
              have b3:∀ code,(Instr.sliceBound (a.eval y) len code).run g.P w=.ok l1 w:=fun _=>run_bound hl (h.x h1)
              simp [Instr.sliceBounds,b3]
      | some z2 =>
        cases hi' with
        | none=>simp [PG.matchO] at h2
        | some y2 =>
          have b2:∀ code,(Instr.sliceBound (a.eval y2) cap code).run g.P w=.ok h4 w:=fun _=>run_bound hh (h.x h2)
          cases lo with
          | none =>
            cases lo' with
            | some y=>simp [PG.matchO] at h1
            | none =>
              simp only [Option.some.injEq] at hl
              subst hl
              simp [Instr.sliceBounds,b2]
          | some z =>
            cases lo' with
            | none=>simp [PG.matchO] at h1
            | some y =>
              have b3:∀ code,(Instr.sliceBound (a.eval y) h4 code).run g.P w=.ok l1 w:=fun _=>run_bound hl (h.x h1)
              simp [Instr.sliceBounds,b2,b3]
  | some z1 =>
    cases mx' with
    | none=>simp [PG.matchO] at h3
    | some y1 =>
      have b1:∀ code,(Instr.sliceBound (a.eval y1) cap code).run g.P w=.ok m1 w:=fun _=>run_bound hm (h.x h3)
      cases hi with
      | none=>simp at hh
      | some z2 =>
        cases hi' with
        | none=>simp [PG.matchO] at h2
        | some y2 =>
          have b2:∀ code,(Instr.sliceBound (a.eval y2) m1 code).run g.P w=.ok h4 w:=fun _=>run_bound hh (h.x h2)
          cases lo with
          | none =>
            cases lo' with
            | some y=>simp [PG.matchO] at h1
            | none =>
              simp only [Option.some.injEq] at hl
              subst hl
              simp [Instr.sliceBounds,b1,b2]
          | some z =>
            cases lo' with
            | none=>simp [PG.matchO] at h1
            | some y =>
              have b3:∀ code,(Instr.sliceBound (a.eval y) h4 code).run g.P w=.ok l1 w:=fun _=>run_bound hl (h.x h1)
              simp [Instr.sliceBounds,b1,b2,b3]
theorem boundsE_le {E:Env} {tmps:List PV} {len cap:Nat} {lo hi mx:Option PX} {l m n:Nat} (hc:len≤cap) (hb:boundsE E tmps len cap lo hi mx=some (l,m,n)):l≤m∧m≤n∧n≤cap∧(mx=none→n=cap)∧(hi=none→m=len):=by
  unfold boundsE at hb
  split at hb
  · simp at hb
  rename_i m1 hm
  split at hb
  · simp at hb
  rename_i h4 hh
  split at hb
  · simp at hb
  rename_i l1 hl
  simp only [Option.some.injEq,Prod.mk.injEq] at hb
  obtain ⟨rfl,rfl,rfl⟩:=hb
  have e1:m1≤cap∧(mx=none→m1=cap):=by
    cases mx with
    | none=>simp at hm;omega
    | some y=>exact ⟨bound_le hm,by simp⟩
  have e2:h4≤m1∧(hi=none→h4=len):=by
    cases hi with
    | none =>
      cases mx with
      | none=>simp at hm hh;omega
      | some y=>simp at hh
    | some y=>exact ⟨bound_le hh,by simp⟩
  have e3:l1≤h4:=by
    cases lo with
    | none=>simp at hl;omega
    | some y=>exact bound_le hl
  exact ⟨e3,e2.1,e1.1,e1.2,e2.2⟩
theorem boundsE_cap {E:Env} {tmps:List PV} {len cap cap':Nat} {lo hi mx:Option PX} {l m n:Nat} (hc:cap≤cap') (hb:boundsE E tmps len cap lo hi mx=some (l,m,n)) :
    boundsE E tmps len cap' lo hi mx=some (l,m,if mx.isNone then cap' else n):=by
  have mono:∀ {v:PV} {y y' k:Nat},y≤y'→bound v y=some k→bound v y'=some k:=by
    intro v y y' k hy h
    unfold bound at h ⊢
    split at h
    · split at h<;>simp only [Option.some.injEq,reduceCtorEq] at h
      rename_i i hi
      have:0≤i∧i≤(y':Int):=by omega
      simp only [this,and_self,if_true,h]
    · simp at h
  unfold boundsE at hb ⊢
  cases mx with
  | none =>
    simp only at hb ⊢
    cases hi with
    | none =>
      simp only [Option.isSome_none,Bool.false_eq_true,if_false] at hb ⊢
      split at hb
      · simp at hb
      · simp only [Option.some.injEq,Prod.mk.injEq] at hb
        obtain ⟨rfl,rfl,rfl⟩:=hb
        simp
    | some y =>
      simp only at hb ⊢
      cases hbd:bound (evX E tmps y) cap with
      | none=>simp [hbd] at hb
      | some k =>
        rw [mono hc hbd]
        simp only [hbd] at hb ⊢
        split at hb
        · simp at hb
        · simp only [Option.some.injEq,Prod.mk.injEq] at hb
          obtain ⟨rfl,rfl,rfl⟩:=hb
          simp
  | some z =>
    simp only at hb ⊢
    cases hbd:bound (evX E tmps z) cap with
    | none=>simp [hbd] at hb
    | some k =>
      rw [mono hc hbd]
      simp only [hbd] at hb ⊢
      exact hb
theorem headSz_sz {sz n:Nat} {L:List PV} (h:headSz sz L=true) (hs:∀ (i:Nat) e,L[i]?=some e→e.cells.length=n):L=[]∨n=sz:=by
  cases L with
  | nil=>exact .inl rfl
  | cons e r =>
    right
    have:=hs 0 e rfl
    simp only [headSz] at h
    have:=Nat.eq_of_beq_eq_true h
    omega
theorem ok_sls (h:FrRel g c w fr a) {x:PX} {lo hi:Option PX} {x':Operand} {lo' hi':Option Operand} {t:TypeId} (ho:o.op=.slice t x' lo' hi' none) (ht:g.P.underlying t=some .string) (hx:g.matchX x x'=true)
    (h1:g.matchO lo lo'=true) (h2:g.matchO hi hi'=true) (hs:stepOp g.E callE yieldE o.dst (.sls x lo hi) fr=some fr'):OpOK g c w fr fr' a o.dst ((execOp a.eval o).run g.P w):=by
  have hv:=h.x hx
  simp only [stepOp] at hs
  split at hs
  case h_2=>simp at hs
  rename_i s e
  split at hs<;>simp only [Option.some.injEq,reduceCtorEq] at hs
  rename_i l hh m hb
  subst hs
  rw [e] at hv
  obtain ⟨t1,f1,g1⟩:=hv.str_inv
  have hl:t1.size=s.length:=by rw [← g1];rfl
  have hrun:=run_bounds (isS:=false) h h1 h2 (mx:=none) (mx':=none) rfl hb
  refine OpOK.value h _ (v:=.string (t1.extract l hh)) ?_ (.i _ _ ?_)
  · simp only [Option.map_none] at hrun
    simp [execOp,ho,f1,Instr.sliceAt,Instr.slice,Zc g.P w ht,hl,hrun]
  · have:(s.take hh).drop l=(t1.extract l hh).data.toList:=by
      rw [← g1]
      simp [ByteArray.data_extract,List.drop_take]
    rw [this]
    exact .str _
theorem ok_slc (h:FrRel g c w fr a) {sz:Nat} {x:PX} {lo hi mx:Option PX} {x':Operand} {lo' hi' mx':Option Operand} {t E:TypeId} {i:TypeInfo} (ho:o.op=.slice t x' lo' hi' mx') (ht:g.P.underlying t=some (.slice E)) (hi0:g.P.info? E=some i) (hz:i.size=sz)
    (hx:g.matchX x x'=true) (h1:g.matchO lo lo'=true) (h2:g.matchO hi hi'=true) (h3:g.matchO mx mx'=true) (hs:stepOp g.E callE yieldE o.dst (.slc sz x lo hi mx) fr=some fr') :
    OpOK g c w fr fr' a o.dst ((execOp a.eval o).run g.P w):=by
  have hv:=h.x hx
  obtain ⟨u,hu⟩:∃ u,u=a.eval x':=⟨_,rfl⟩
  rw [← hu] at hv
  have run:∀ {A:Option Addr} {len cap l m n:Nat},u=.slice A len cap→boundsE g.E fr.tmps len cap lo hi mx=some (l,m,n) →
      (execOp a.eval o).run g.P w=.ok (.value (.slice (if n=l then A else A.map (·.add (l*i.size))) (m - l) (n - l))) w:=by
    intro A len cap l m n e hb
    have hrun:=run_bounds (isS:=true) h h1 h2 h3 hb
    simp [execOp,ho,← hu,e,Instr.sliceAt,Instr.slice,Zc g.P w ht,hrun,Z0 g.P w hi0]
  simp only [stepOp] at hs
  split at hs
  · rename_i f L e
    split at hs
    case h_2=>simp at hs
    rename_i l m n hb
    split at hs<;>simp only [Option.some.injEq,reduceCtorEq] at hs
    rename_i hsz
    have hsz':headSz sz L=true:=by simpa using hsz
    subst hs
    rw [e] at hv
    have hle:=boundsE_le (Nat.le_refl _) hb
    have hI:=hv.vs_inv
    cases hI with
    | vsNone _ hnn =>
      simp only [List.length_nil] at hb hle
      refine OpOK.value h _ (run rfl hb) ?_
      have e1:l=0:=by omega
      have e2:m=0:=by omega
      have e3:n=0:=by omega
      subst e1 e2 e3
      simp only [List.take_nil,List.drop_nil,if_true,Nat.sub_zero]
      refine .i _ _ (.vsNone _ ?_)
      split<;>(try split)<;>simp
    | vsE _ A hcE =>
      simp only [List.length_nil] at hb hle
      refine OpOK.value h _ (run rfl hb) ?_
      have e1:l=0:=by omega
      have e2:m=0:=by omega
      have e3:n=0:=by omega
      subst e1 e2 e3
      simp only [List.take_nil,List.drop_nil,if_true,Nat.sub_zero]
      refine .i _ _ (.vsE _ A ?_)
      rw [if_neg hcE]
      split<;>simp
    | vs _ _ b o' cap sz' uf hc hcap hclip hsz2 hcell hh =>
      have hb':=boundsE_cap hcap hb
      refine OpOK.value h _ (run rfl hb') ?_
      rw [if_neg hc]
      have hlen:((L.take m).drop l).length=m - l:=by simp;omega
      have hfl:∀ {q:Nat},q=(if mx.isNone=true then cap else n)→(if (f.full||mx.isSome)&&Nat.beq m n then Fl.clip else Fl.any)=.clip→q - l=m - l:=by
        intro q hq hfl
        split at hfl
        · rename_i hcnd
          simp only [Bool.and_eq_true,Bool.or_eq_true] at hcnd
          have hmn:=Nat.eq_of_beq_eq_true hcnd.2
          cases mx with
          | some z=>simp at hq;omega
          | none =>
            simp only [Option.isSome_none,Bool.false_eq_true,or_false] at hcnd
            have hfc:f=.clip:=by cases f<;>simp_all [Fl.full]
            have:=hclip hfc
            simp at hq
            have:=hle.2.2.2.1 rfl
            omega
        · simp at hfl
      have hq:∃ q,q=(if mx.isNone=true then cap else n)∧m≤q:=by
        refine ⟨_,rfl,?_⟩
        split<;>omega
      obtain ⟨q,hq,hmq⟩:=hq
      rw [← hq]
      have hne:((if (f.full||mx.isSome)&&Nat.beq m n then Fl.clip else Fl.any)≠.nil):=by split<;>simp
      rcases headSz_sz hsz' hsz2 with hL|hss
      · subst hL
        simp only [List.length_nil] at hle
        have e1:l=0:=by omega
        have e2:m=0:=by omega
        subst e1 e2
        have hadr:(if q=0 then some (⟨b,o',none⟩:Addr) else Option.map (fun x:Addr=>x.add (0*i.size)) (some (⟨b,o',none⟩:Addr)))=some ⟨b,o',none⟩:=by
          split<;>simp [Addr.add]
        rw [hadr]
        have:=IRel.vs (imm:=c.imm) (w:=w) (if (f.full||mx.isSome)&&Nat.beq 0 n then Fl.clip else Fl.any) [] b o' q sz' uf hne (Nat.zero_le _) (fun hx=>by have:=hfl hq hx;simpa using this) (by simp) (fun i j hi=>by simp at hi) (by simp)
        simpa using VRel.i (c:=c) _ _ this
      · subst hss
        by_cases hql:q=l
        · rw [if_pos hql]
          have hm:m=l:=by omega
          subst hm
          have:=IRel.vs (imm:=c.imm) (w:=w) (if (f.full||mx.isSome)&&Nat.beq m n then Fl.clip else Fl.any) [] b o' (q - m) sz' uf hne (Nat.zero_le _) (fun hx=>by have:=hfl hq hx;simp;omega) (by simp) (fun i j hi=>by simp at hi) (by simp)
          have hnil:(L.take m).drop m=[]:=by rw [List.drop_eq_nil_of_le];simp;omega
          rw [hnil]
          simpa using VRel.i (c:=c) _ _ this
        · rw [if_neg hql]
          simp only [Option.map_some,add_none,hz]
          have:=IRel.vs (imm:=c.imm) (w:=w) (if (f.full||mx.isSome)&&Nat.beq m n then Fl.clip else Fl.any) ((L.take m).drop l) b (o'+l*sz') (q - l) sz' (fun i j=>uf (l+i) j) hne (by rw [hlen];omega) (fun hx=>by rw [hlen];exact hfl hq hx)
            (fun i e he=>by
              rw [List.getElem?_drop,List.getElem?_take] at he
              split at he
              · exact hsz2 _ _ he
              · simp at he)
            (fun i j hi hj=>by
              rw [hlen] at hi
              have:=hcell (l+i) j (by omega) hj
              rw [show o'+l*sz'+i*sz'+j=o'+(l+i)*sz'+j by rw [Nat.add_mul];omega]
              exact this)
            (fun i j e cv he hj=>by
              rw [List.getElem?_drop,List.getElem?_take] at he
              split at he
              · exact hh _ _ _ _ he hj
              · simp at he)
          rw [hlen] at this
          exact .i _ _ this
  · rename_i nm gg off len e
    split at hs
    case h_2=>simp at hs
    rename_i el g' cl hob
    split at hs
    case isFalse=>simp at hs
    rename_i hc
    obtain ⟨hgg,hmx,hsz,hoff⟩:=hc
    have hmx':mx=none:=by simpa using hmx
    subst hmx' hgg
    split at hs<;>simp only [Option.some.injEq,reduceCtorEq] at hs
    rename_i l m n hb
    subst hs
    rw [e] at hv
    have hgen:=(h.heap nm _ hob).1
    have hle:=boundsE_le (Nat.le_refl _) hb
    obtain ⟨p,hp,hM,hcs⟩:=sl_live h.heap hv hob
    rcases hcs with ⟨hbn,h01,h02,e1⟩|⟨b,hbb,hll,e1⟩|⟨h01,h02,x1,e1⟩
    · subst h01 h02
      refine OpOK.value h _ (run e1 hb) ?_
      have e1:l=0:=by omega
      have e2:m=0:=by omega
      have e3:n=0:=by omega
      subst e1 e2 e3
      simp only [if_true,Nat.zero_add,Nat.sub_self]
      exact .slNil nm gg p (Nat.le_of_eq hgen.symm) hp hbn
    · have hb':=boundsE_cap (show len≤p.cap - off by omega) hb
      simp only [Option.isNone_none,if_true] at hb'
      refine OpOK.value h _ (run e1 hb') ?_
      by_cases hql:p.cap - off=l
      · rw [if_pos hql]
        have hm:m=l:=by omega
        subst hm
        rw [hql,Nat.sub_self]
        exact .slE nm gg (off+m) p _ (Nat.le_of_eq hgen.symm) hp (by omega)
      · rw [if_neg hql]
        simp only [Option.map_some,add_none]
        have hadr:p.base+off*p.sz+l*i.size=p.base+(off+l)*p.sz:=by
          rcases headSz_sz hsz hM.sz with hL|hss
          · subst hL
            simp only [List.length_nil] at hoff
            have e1:off=0:=by omega
            have e2:l=0:=by omega
            subst e1 e2
            simp
          · rw [hz,← hss,Nat.add_mul];omega
        rw [hadr]
        have:=VRel.sl (c:=c) (w:=w) nm gg (off+l) (m - l) p b (Nat.le_of_eq hgen.symm) hp hbb (by omega)
        rw [show p.cap - (off+l)=p.cap - off - l by omega] at this
        exact this
    · subst h01
      refine OpOK.value h _ (run e1 hb) ?_
      have e1:l=0:=by omega
      have e2:m=0:=by omega
      have e3:n=0:=by omega
      subst e1 e2 e3
      simp only [if_true,Nat.sub_zero,Nat.add_zero]
      exact .slE nm gg off p x1 (Nat.le_of_eq hgen.symm) hp h02
  · simp at hs
end Go.VI
namespace Go.VI
variable {g:PG} {c:Ctx} {w:World} {fr fr':Fr} {a:Act} {o:Oper} {callE:CallE} {yieldE:Nm→List PV→Heap→Option (PV × Heap)}
def fillFold (cells:Array Value) (off:Nat) (vs:Array Value):Array Value:=vs.zipIdx.foldl (fun cs (x:Value × Nat)=>cs.setIfInBounds (off+x.2) x.1) cells
theorem fillFold_list (off:Nat):∀ (l:List Value) (s:Nat) (cells:Array Value),
    ((l.zipIdx s).foldl (fun cs (x:Value × Nat)=>cs.setIfInBounds (off+x.2) x.1) cells).size=cells.size ∧
    ∀ k,((l.zipIdx s).foldl (fun cs (x:Value × Nat)=>cs.setIfInBounds (off+x.2) x.1) cells)[k]?=if off+s≤k∧k<off+s+l.length∧k<cells.size then l[k - (off+s)]? else cells[k]?
  | [],s,cells=>⟨rfl,fun k=>by simp;omega⟩
  | v::l,s,cells=>by
    obtain ⟨h1,h2⟩:=fillFold_list off l (s+1) (cells.setIfInBounds (off+s) v)
    refine ⟨by simpa using h1,fun k=>?_⟩
    simp only [List.zipIdx_cons,List.foldl_cons]
    rw [h2 k]
    simp only [Array.size_setIfInBounds,List.length_cons]
    by_cases hk:k=off+s
    · subst hk
      rw [if_neg (by omega)]
      by_cases hl:off+s<cells.size
      · rw [if_pos (by omega)]
        simp [hl]
      · rw [if_neg (by omega)]
        simp [Array.setIfInBounds,hl]
    · by_cases hc:off+(s+1)≤k∧k<off+(s+1)+l.length∧k<cells.size
      · rw [if_pos hc,if_pos (by omega)]
        obtain ⟨q,hq⟩:∃ q,k - (off+s)=q+1:=⟨k - (off+s) - 1,by omega⟩
        rw [hq,List.getElem?_cons_succ]
        congr 1
        omega
      · rw [if_neg hc,if_neg (by omega),Array.getElem?_setIfInBounds_ne (by omega)]
theorem fillFold_spec (cells:Array Value) (off:Nat) (vs:Array Value):(fillFold cells off vs).size=cells.size∧∀ k,(fillFold cells off vs)[k]?=if off≤k∧k<off+vs.size∧k<cells.size then vs[k - off]? else cells[k]?:=by
  have h:=fillFold_list off vs.toList 0 cells
  have e:fillFold cells off vs=(vs.toList.zipIdx 0).foldl (fun cs (x:Value × Nat)=>cs.setIfInBounds (off+x.2) x.1) cells:=by
    unfold fillFold
    rw [← Array.foldl_toList]
    simp
  rw [e]
  refine ⟨h.1,fun k=>?_⟩
  rw [h.2 k]
  simp
def GRel (c:Ctx) (w:World) (cs:List PV) (us:Array Value):Prop:=LRel c w cs us∧∀ (i:Nat) x,us[i]?=some x→x.oneCell'=true
theorem GRel.splice {cs vs:List PV} {us xs:Array Value} {off:Nat} (h:GRel c w cs us) (hv:vs.length=xs.size) (hr:∀ (j:Nat) cv x,vs[j]?=some cv→xs[j]?=some x→VRel c w cv x∧x.oneCell'=true) (hl:off+vs.length≤cs.length) :
    GRel c w (splice cs off vs) (fillFold us off xs):=by
  obtain ⟨h1,h2⟩:=fillFold_spec us off xs
  have hlen:=h.1.1
  have hsl:(VI.splice cs off vs).length=cs.length:=by simp [VI.splice];omega
  have hget:∀ i,(VI.splice cs off vs)[i]?=if off≤i∧i<off+vs.length then vs[i - off]? else cs[i]?:=by
    intro i
    unfold VI.splice
    by_cases hi:i<off
    · rw [if_neg (by omega),List.append_assoc,List.getElem?_append_left (by simp;omega),List.getElem?_take,if_pos hi]
    · rw [List.append_assoc,List.getElem?_append_right (by simp;omega)]
      have:(cs.take off).length=off:=by simp;omega
      rw [this]
      by_cases hi2:i<off+vs.length
      · rw [if_pos (by omega),List.getElem?_append_left (by omega)]
      · rw [if_neg (by omega),List.getElem?_append_right (by omega),List.getElem?_drop]
        congr 1
        omega
  refine ⟨⟨by rw [hsl,h1,hlen],fun i v x hi hx=>?_⟩,fun i x hx=>?_⟩
  · rw [hget] at hi
    rw [h2] at hx
    by_cases hc:off≤i∧i<off+vs.length
    · rw [if_pos hc] at hi
      rw [if_pos (by omega)] at hx
      exact (hr _ v x hi hx).1
    · rw [if_neg hc] at hi
      rw [if_neg (by omega)] at hx
      exact h.1.2 i v x hi hx
  · rw [h2] at hx
    by_cases hc:off≤i∧i<off+xs.size∧i<us.size
    · rw [if_pos hc] at hx
      have hj:i - off<vs.length:=by omega
      exact (hr (i - off) _ x (List.getElem?_eq_getElem hj) hx).2
    · rw [if_neg hc] at hx
      exact h.2 i x hx
def PG.matchParts (g:PG) (place:Nat→Option (Nat × Nat)):List (Nat × Nat × PX)→List (Nat × Operand)→Bool
  | [],[]=>true
  | (off,n,x)::r,(i,y)::s=>place i==some (off,n)&&g.matchX x y&&g.matchParts place r s
  | _,_=>false
theorem fill_parts (h:FrRel g c w fr a) {place:Nat→Option (Nat × Nat)}:∀ {ps:List (Nat × Nat × PX)} {qs:List (Nat × Operand)} {cs cs':List PV} {us:Array Value},g.matchParts place ps qs=true→GRel c w cs us→fillParts (evX g.E fr.tmps) cs ps=some cs' →
    ∃ us',Instr.fill place us (qs.map fun p=>(p.1,a.eval p.2))=some us'∧GRel c w cs' us'
  | [],[],cs,cs',us,_,hg,hf=>by
    simp only [fillParts,Option.some.injEq] at hf
    exact ⟨us,rfl,hf ▸ hg⟩
  | (off,n,x)::r,(i,y)::s,cs,cs',us,hm,hg,hf=>by
    simp only [PG.matchParts,Bool.and_eq_true,beq_iff_eq] at hm
    obtain ⟨⟨hp,hx⟩,hr⟩:=hm
    simp only [fillParts] at hf
    split at hf
    case isFalse=>simp at hf
    rename_i hc
    obtain ⟨hgood,hn,hle⟩:=hc
    have hv:=h.x hx
    obtain ⟨hsz,hcell⟩:=hv.cells hgood
    have hg':=hg.splice (off:=off) (vs:=(evX g.E fr.tmps x).cells) (xs:=(a.eval y).cells) hsz.symm hcell (by omega)
    obtain ⟨us',h1,h2⟩:=fill_parts h hr hg' hf
    refine ⟨us',?_,h2⟩
    simp only [List.map_cons,Instr.fill,hp]
    have hno:¬ ((a.eval y).cells.size≠n∨us.size<off+(a.eval y).cells.size):=by
      have:=hg.1.1
      omega
    rw [if_neg (by simpa using hno)]
    exact h1
  | [],_::_,cs,cs',us,hm,_,_=>by simp [PG.matchParts] at hm
  | _::_,[],cs,cs',us,hm,_,_=>by simp [PG.matchParts] at hm
theorem run_mapM_sizes (P:Program) (w:World):∀ (l:List Field),(l.all fun f=>(P.info? f.type).isSome)=true →
    (l.mapM fun f=>(do pure (f.offset,← sizeOf f.type):Sem (Nat × Nat))).run P w=.ok (l.map fun f=>(f.offset,P.cellsOf f.type)) w
  | [],_=>by simp
  | f::l,h=>by
    simp only [List.all_cons,Bool.and_eq_true] at h
    obtain ⟨i,hi⟩:=Option.isSome_iff_exists.1 h.1
    have ih:=run_mapM_sizes P w l h.2
    simp only [List.mapM_cons,Sem.run_bind,Z0 P w hi,Result.andThen_ok,Sem.run_pure,ih,List.map_cons,Program.cellsOf,hi,Option.map_some,Option.getD_some]
theorem constCells {imm:Nat→Prop} {w:World} {cs:List PV} {us:List Value} (h:constOKL cs us=true):cs.length=us.length∧(∀ (i:Nat) x,us[i]?=some x→x.oneCell'=true)∧∀ (i:Nat) cv x,cs[i]?=some cv→us[i]?=some x→IRel imm w cv x :=
  constOKL_rel imm w cs us h
theorem GRel.const {cs:List PV} {us:Array Value} (h:constOKL cs us.toList=true):GRel c w cs us:=by
  obtain ⟨h1,h2,h3⟩:=constCells (imm:=c.imm) (w:=w) h
  exact ⟨⟨by simpa using h1,fun i v x hi hx=>.i _ _ (h3 i v x hi (by simpa using hx))⟩,fun i x hx=>h2 i x (by simpa using hx)⟩
def structPlace (P:Program) (fs:Array Field) (i:Nat):Option (Nat × Nat):=(fs[i]?).map fun f=>(f.offset,P.cellsOf f.type)
theorem ok_build (h:FrRel g c w fr a) {z:List PV} {ps:List (Nat × Nat × PX)} {qs:Array (Nat × Operand)} {t:TypeId} {d:TypeDesc} {i:TypeInfo} {zv:Value} {place:Nat→Option (Nat × Nat)} (ho:o.op=.build t qs) (hi:g.P.info? t=some i) (hz:i.zero=some zv)
    (hzc:constOKL z zv.cells.toList=true) (hd:g.P.underlying t=some d)
    (hp:(∃ fs,d=.struct fs∧(fs.toList.all fun f=>(g.P.info? f.type).isSome)=true∧place=structPlace g.P fs)∨(∃ n e ie,d=.array n e∧g.P.info? e=some ie∧place=fun j=>some (j*ie.size,ie.size)))
    (hm:g.matchParts place ps qs.toList=true) (hs:stepOp g.E callE yieldE o.dst (.build z ps) fr=some fr'):OpOK g c w fr fr' a o.dst ((execOp a.eval o).run g.P w):=by
  simp only [stepOp] at hs
  split at hs<;>simp only [Option.some.injEq,reduceCtorEq] at hs
  rename_i cs hf
  subst hs
  obtain ⟨us',h1,h2⟩:=fill_parts h hm (GRel.const (c:=c) (w:=w) hzc) hf
  refine OpOK.value h _ (v:=.agg us') ?_ (.agg _ _ h2.1.1 h2.2 h2.1.2)
  have hzr:(zeroValue t).run g.P w=.ok zv w:=by simp [zeroValue,typeInfo,hi,hz]
  have hq:(qs.map fun (p:Nat × Operand)=>(p.1,a.eval p.2)).toList=qs.toList.map fun p=>(p.1,a.eval p.2):=by simp
  rcases hp with ⟨fs,rfl,hall,rfl⟩|⟨n,e,ie,rfl,hie,rfl⟩
  · have hmm:(fs.mapM fun f=>(do pure (f.offset,← sizeOf f.type):Sem (Nat × Nat))).run g.P w=.ok (fs.map fun f=>(f.offset,g.P.cellsOf f.type)) w:=by
      rw [Array.mapM_eq_mapM_toList,Sem.run_map,run_mapM_sizes g.P w _ hall]
      simp only [Result.andThen_ok]
      congr 1
      exact Array.ext' (by simp)
    have hpl:(fun j=>(fs.map fun f=>(f.offset,g.P.cellsOf f.type))[j]?)=structPlace g.P fs:=by
      funext j
      simp [structPlace]
    simp only [execOp,ho,Instr.build,Sem.run_bind,hzr,Result.andThen_ok,Zc g.P w hd,hmm,hq,hpl,h1,Sem.run_pure]
  · simp only [execOp,ho,Instr.build,Sem.run_bind,hzr,Result.andThen_ok,Zc g.P w hd,Z0 g.P w hie,hq,h1,Sem.run_pure]
structure EGRel (R:PV→Value→Prop) (sz:Nat) (els:List PV) (arr:Array Value):Prop where
  len:∀ (i:Nat) e,els[i]?=some e→e.cells.length=sz
  size:els.length*sz≤arr.size
  cell:∀ (i j:Nat) e cv,els[i]?=some e→e.cells[j]?=some cv→∃ u,arr[i*sz+j]?=some u∧u.oneCell'=true∧R cv u
theorem EGRel.set {sz:Nat} {els:List PV} {arr:Array Value} {e:PV} {xs:Array Value} {k:Nat} (h:EGRel (VRel c w) sz els arr) (hk:k<els.length) (he:e.cells.length=sz) (hx:xs.size=e.cells.length)
    (hr:∀ (j:Nat) cv x,e.cells[j]?=some cv→xs[j]?=some x→VRel c w cv x∧x.oneCell'=true):EGRel (VRel c w) sz (els.set k e) (fillFold arr (k*sz) xs):=by
  obtain ⟨h1,h2⟩:=fillFold_spec arr (k*sz) xs
  have hks:(k+1)*sz≤els.length*sz:=Nat.mul_le_mul_right _ hk
  rw [Nat.add_mul,Nat.one_mul] at hks
  have hsz:=h.size
  refine ⟨fun i e' hi=>?_,by rw [List.length_set,h1];exact h.size,fun i j e' cv hi hj=>?_⟩
  · by_cases hik:k=i
    · subst hik
      rw [List.getElem?_set_self hk] at hi
      simp only [Option.some.injEq] at hi
      exact hi ▸ he
    · rw [List.getElem?_set_ne hik] at hi
      exact h.len i e' hi
  · by_cases hik:k=i
    · subst hik
      rw [List.getElem?_set_self hk] at hi
      simp only [Option.some.injEq] at hi
      subst hi
      have hjl:=Zb hj
      have hjx:j<xs.size:=by omega
      obtain ⟨r1,r2⟩:=hr j cv xs[j] hj (by simp [hjx])
      refine ⟨xs[j],?_,r2,r1⟩
      rw [h2,if_pos (by omega)]
      rw [show k*sz+j - k*sz=j by omega]
      simp [hjx]
    · rw [List.getElem?_set_ne hik] at hi
      obtain ⟨u,h3,h4⟩:=h.cell i j e' cv hi hj
      refine ⟨u,?_,h4⟩
      rw [h2,if_neg,h3]
      have hjl:=Zb hj
      have hjs:j<sz:=h.len i e' hi ▸ hjl
      intro hcon
      rcases Nat.lt_or_ge i k with hlt|hge
      · have:(i+1)*sz≤k*sz:=Nat.mul_le_mul_right _ hlt
        rw [Nat.add_mul,Nat.one_mul] at this
        omega
      · have hgt:k+1≤i:=by omega
        have:(k+1)*sz≤i*sz:=Nat.mul_le_mul_right _ hgt
        rw [Nat.add_mul,Nat.one_mul] at this
        omega
def PG.matchElems (g:PG):List (Nat × PX)→List (Nat × Operand)→Bool
  | [],[]=>true
  | (i,x)::r,(j,y)::s=>i==j&&g.matchX x y&&g.matchElems r s
  | _,_=>false
theorem fill_elems (h:FrRel g c w fr a) {sz:Nat}:∀ {ps:List (Nat × PX)} {qs:List (Nat × Operand)} {els els':List PV} {arr:Array Value},g.matchElems ps qs=true→EGRel (VRel c w) sz els arr→fillElems (evX g.E fr.tmps) els ps=some els' →
    ∃ arr',Instr.fill (fun i=>some (i*sz,sz)) arr (qs.map fun p=>(p.1,a.eval p.2))=some arr'∧EGRel (VRel c w) sz els' arr'∧els'.length=els.length∧arr'.size=arr.size
  | [],[],els,els',arr,_,hg,hf=>by
    simp only [fillElems,Option.some.injEq] at hf
    exact ⟨arr,rfl,hf ▸ hg,by rw [hf],rfl⟩
  | (i,x)::r,(j,y)::s,els,els',arr,hm,hg,hf=>by
    simp only [PG.matchElems,Bool.and_eq_true,beq_iff_eq] at hm
    obtain ⟨⟨rfl,hx⟩,hr⟩:=hm
    simp only [fillElems] at hf
    split at hf
    case h_2=>simp at hf
    rename_i e0 he0
    split at hf
    case isFalse=>simp at hf
    rename_i hc
    obtain ⟨hlen,hgood⟩:=hc
    have hv:=h.x hx
    obtain ⟨hsz,hcell⟩:=hv.cells hgood
    have hes:(evX g.E fr.tmps x).cells.length=sz:=by rw [← hlen];exact hg.len i e0 he0
    have hi:=Zb he0
    have hg':=hg.set (k:=i) (e:=evX g.E fr.tmps x) (xs:=(a.eval y).cells) hi hes hsz hcell
    obtain ⟨arr',h1,h2,h3,h4⟩:=fill_elems h hr hg' hf
    refine ⟨arr',?_,h2,by rw [h3,List.length_set],by rw [h4];exact (fillFold_spec _ _ _).1⟩
    simp only [List.map_cons,Instr.fill]
    have hks:(i+1)*sz≤els.length*sz:=Nat.mul_le_mul_right _ hi
    rw [Nat.add_mul,Nat.one_mul] at hks
    have:=hg.size
    have hno:¬ ((a.eval y).cells.size≠sz∨arr.size<i*sz+(a.eval y).cells.size):=by omega
    rw [if_neg (by simpa using hno)]
    exact h1
  | [],_::_,els,els',arr,hm,_,_=>by simp [PG.matchElems] at hm
  | _::_,[],els,els',arr,hm,_,_=>by simp [PG.matchElems] at hm
theorem EGRel.zeros {R:PV→Value→Prop} {sz n:Nat} {z:List PV} {zc:Array Value} (hz:∀ e∈z,e.cells.length=sz∧(∀ (j:Nat) cv x,e.cells[j]?=some cv→zc[j]?=some x→R cv x)) (h1:∀ (j:Nat) x,zc[j]?=some x→x.oneCell'=true) (hs:n*sz≠0→zc.size=sz) (hn:z.length=n) :
    EGRel R sz z ((Array.range (n*sz)).map fun k=>zc[k % zc.size]!):=by
  refine ⟨fun i e hi=>(hz e (List.mem_of_getElem? hi)).1,by simp [hn],fun i j e cv hi hj=>?_⟩
  have hlt:=Zb hi
  have hel:=(hz e (List.mem_of_getElem? hi))
  have hjl:j<sz:=hel.1 ▸ Zb hj
  have hks:(i+1)*sz≤n*sz:=Nat.mul_le_mul_right _ (by omega)
  rw [Nat.add_mul,Nat.one_mul] at hks
  have hns:n*sz≠0:=by omega
  have hzs:=hs hns
  have hmod:(i*sz+j) % zc.size=j:=by
    rw [hzs,Nat.add_comm,Nat.add_mul_mod_self_right,Nat.mod_eq_of_lt hjl]
  have hjz:j<zc.size:=by omega
  refine ⟨zc[j],?_,h1 j _ (by simp [hjz]),hel.2 j cv _ hj (by simp [hjz])⟩
  rw [Array.getElem?_map,Array.getElem?_range,if_pos (by omega)]
  simp [hmod,hjz]
def constZ (z:PV) (zv:Array Value):Bool:=constOKL z.cells zv.toList
theorem constZ_spec {z:PV} {zv:Array Value} (h:constZ z zv=true) {imm:Nat→Prop} {w:World}:z.cells.length=zv.size∧(∀ (j:Nat) x,zv[j]?=some x→x.oneCell'=true)∧∀ (j:Nat) cv x,z.cells[j]?=some cv→zv[j]?=some x→IRel imm w cv x:=by
  obtain ⟨h1,h2,h3⟩:=constCells (imm:=imm) (w:=w) h
  exact ⟨by simpa using h1,fun j x hx=>h2 j x (by simpa using hx),fun j cv x hc hx=>h3 j cv x hc (by simpa using hx)⟩
theorem run_buildSlice {P:Program} {t E:TypeId} {i:TypeInfo} {zv:Value} {n:Nat} {parts:Array (Nat × Value)} {arr':Array Value} (ht:P.underlying t=some (.slice E)) (hi:P.info? E=some i) (hz:i.zero=some zv) (hn:n*i.size≤2 ^ 24)
    (hf:∀ z0:Array Value,(n*i.size≠0→z0=zv.cells)→Instr.fill (fun j=>some (j*i.size,i.size)) ((Array.range (n*i.size)).map fun k=>z0[k % z0.size]!) parts.toList=some arr') :
    (Instr.buildSlice t n parts).run P w=.ok (.slice (some ⟨w.heap.size,0,none⟩) n n) (w.alloc (.cells arr' E)):=by
  have hn':¬ (n*i.size>2 ^ 24):=by omega
  simp only [Instr.buildSlice,Sem.run_bind,Zc P w ht,Result.andThen_ok,Z0 P w hi,Sem.run_ite,if_neg hn',Sem.run_pure]
  by_cases h0:n*i.size=0
  · have:=hf #[] (fun h=>absurd h0 h)
    simp only [h0,if_true] at this ⊢
    rw [this]
    simp [newRow]
  · have:=hf zv.cells (fun _=>rfl)
    have hzr:(zeroValue E).run P w=.ok zv w:=by simp [zeroValue,typeInfo,hi,hz]
    simp only [h0,if_false,Sem.run_bind,hzr,Result.andThen_ok,Sem.run_pure,this]
    simp [newRow]
theorem vs_of_row {imm:Nat→Prop} {sz n cap:Nat} {els:List PV} {arr:Array Value} {b:Nat} {E:TypeId} {f:Fl} {fz:Nat × Nat} (h:EGRel (fun v x=>IRel imm w v x) sz els arr) (hb:w.heap[b]?=some (.cells arr E fz)) (hi:imm b) (hn:els.length=n) (hcap:n≤cap) (hf:f=.clip→cap=n) (hf':f≠.nil) :
    IRel imm w (.vs f els) (.slice (some ⟨b,0,none⟩) n cap):=by
  have hpick:∀ i j,∃ u,i<els.length→j<sz→w.cell? ⟨b,0+i*sz+j,none⟩=some u∧u.oneCell'=true∧∀ e cv,els[i]?=some e→e.cells[j]?=some cv→IRel imm w cv u:=by
    intro i j
    by_cases hc:i<els.length∧j<sz
    · have he:els[i]?=some els[i]:=by simp [hc.1]
      have hl:=h.len i _ he
      have hcv:els[i].cells[j]?=some (els[i].cells[j]'(by omega)):=by simp [show j<els[i].cells.length by omega]
      obtain ⟨u,h1,h2,h3⟩:=h.cell i j _ _ he hcv
      refine ⟨u,fun _ _=>⟨by simp [World.cell?,hb,h1],h2,fun e cv he' hcv'=>?_⟩⟩
      rw [he] at he'
      simp only [Option.some.injEq] at he'
      subst he'
      rw [hcv] at hcv'
      simp only [Option.some.injEq] at hcv'
      exact hcv' ▸ h3
    · exact ⟨undef,fun h1 h2=>absurd ⟨h1,h2⟩ hc⟩
  subst hn
  refine .vs f els b 0 cap sz (fun i j=>(hpick i j).choose) hf' hcap hf h.len (fun i j hi' hj=>?_) (fun i j e cv he hcv=>?_)
  · obtain ⟨h1,h2,_⟩:=(hpick i j).choose_spec hi' hj
    exact ⟨hi,h1,h2⟩
  · obtain ⟨_,_,h3⟩:=(hpick i j).choose_spec (Zb he) (h.len i e he ▸ Zb hcv)
    exact h3 e cv he hcv
theorem bsl_row (h:FrRel g c w fr a) {z els:List PV} {ps:List (Nat × PX)} {qs:Array (Nat × Operand)} {t E:TypeId} {n:Nat} {i:TypeInfo} {zv:Value} (ho:o.op=.buildSlice t n qs) (ht:g.P.underlying t=some (.slice E)) (hi:g.P.info? E=some i) (hz:i.zero=some zv)
    (hzn:z.length=n) (hzc:z.all (fun e=>constZ e zv.cells)=true) (hzs:zv.cells.size=i.size) (hn:n*i.size≤2 ^ 24) (hm:g.matchElems ps qs.toList=true)
    (hf:fillElems (evX g.E fr.tmps) z ps=some els) :
    ∃ arr',(execOp a.eval o).run g.P w=.ok (.value (.slice (some ⟨w.heap.size,0,none⟩) n n)) (w.alloc (.cells arr' E))∧EGRel (VRel c w) i.size els arr'∧els.length=n:=by
  have hzall:∀ e∈z,e.cells.length=i.size∧(∀ (j:Nat) x,zv.cells[j]?=some x→x.oneCell'=true)∧∀ (j:Nat) cv x,e.cells[j]?=some cv→zv.cells[j]?=some x→IRel c.imm w cv x:=by
    intro e he
    obtain ⟨h1,h2,h3⟩:=constZ_spec (List.all_eq_true.1 hzc e he) (imm:=c.imm) (w:=w)
    exact ⟨h1.trans hzs,h2,h3⟩
  have hrow:∀ z0:Array Value,(n*i.size≠0→z0=zv.cells)→EGRel (VRel c w) i.size z ((Array.range (n*i.size)).map fun k=>z0[k % z0.size]!):=by
    intro z0 hz0
    by_cases h0:n*i.size=0
    · refine ⟨fun k e hk=>(hzall e (List.mem_of_getElem? hk)).1,by simp [hzn],fun k j e cv hk hj=>?_⟩
      have h1:=(hzall e (List.mem_of_getElem? hk)).1
      have h2:=Zb hk
      have h3:=Zb hj
      have:(k+1)*i.size≤n*i.size:=Nat.mul_le_mul_right _ (by omega)
      rw [Nat.add_mul,Nat.one_mul] at this
      omega
    · rw [hz0 h0]
      refine EGRel.zeros (fun e he=>⟨(hzall e he).1,fun j cv x hcv hx=>.i _ _ ((hzall e he).2.2 j cv x hcv hx)⟩) (fun j x hx=>?_) (fun _=>hzs) hzn
      cases hzz:z with
      | nil=>rw [hzz] at hzn;simp at hzn;subst hzn;simp at h0
      | cons e r=>exact (hzall e (by rw [hzz];exact List.mem_cons_self ..)).2.1 j x hx
  have hex:∃ arr',(∀ z0:Array Value,(n*i.size≠0→z0=zv.cells)→Instr.fill (fun j=>some (j*i.size,i.size)) ((Array.range (n*i.size)).map fun k=>z0[k % z0.size]!) (qs.map fun (p:Nat × Operand)=>(p.1,a.eval p.2)).toList=some arr')∧EGRel (VRel c w) i.size els arr'∧els.length=z.length:=by
    have hq:(qs.map fun (p:Nat × Operand)=>(p.1,a.eval p.2)).toList=qs.toList.map fun p=>(p.1,a.eval p.2):=by simp
    rw [hq]
    obtain ⟨arr',h1,h2,h3,_⟩:=fill_elems h hm (hrow zv.cells fun _=>rfl) hf
    refine ⟨arr',fun z0 hz0=>?_,h2,h3⟩
    by_cases h0:n*i.size=0
    · have e0:∀ f:Nat→Value,(Array.range 0).map f=#[]:=fun f=>by simp
      rw [h0,e0] at h1 ⊢
      exact h1
    · rw [hz0 h0];exact h1
  obtain ⟨arr',hfill,hrel,hlen⟩:=hex
  have hrun:=run_buildSlice (w:=w) ht hi hz hn hfill
  exact ⟨arr',by simp [execOp,ho,hrun],hrel,hlen.trans hzn⟩
theorem ok_bsl (h:FrRel g c w fr a) {z:List PV} {ps:List (Nat × PX)} {qs:Array (Nat × Operand)} {t E:TypeId} {n:Nat} {i:TypeInfo} {zv:Value} (ho:o.op=.buildSlice t n qs) (ht:g.P.underlying t=some (.slice E)) (hi:g.P.info? E=some i) (hz:i.zero=some zv)
    (hzn:z.length=n) (hzc:z.all (fun e=>constZ e zv.cells)=true) (hzs:zv.cells.size=i.size) (hn:n*i.size≤2 ^ 24) (hm:g.matchElems ps qs.toList=true)
    (hs:stepOp g.E callE yieldE o.dst (.bsl z ps) fr=some fr'):OpOK g c w fr fr' a o.dst ((execOp a.eval o).run g.P w):=by
  simp only [stepOp] at hs
  split at hs
  case h_2=>simp at hs
  rename_i els hf
  split at hs<;>simp only [Option.some.injEq,reduceCtorEq] at hs
  rename_i hlow
  subst hs
  obtain ⟨arr',hrun,hrel,hlen⟩:=bsl_row h ho ht hi hz hzn hzc hzs hn hm hf
  have hE:=Ext.alloc c w (.cells arr' E)
  refine OpOK.ext h hE _ (v:=.slice (some ⟨w.heap.size,0,none⟩) n n) ?_ (.i _ _ ?_)
  · exact hrun
  · refine vs_of_row (sz:=i.size) (n:=n) (b:=w.heap.size) (arr:=arr') (E:=E) (fz:=(0,0)) ?_ ?_ (.inr rfl) hlen (Nat.le_refl _) (fun _=>rfl) (by simp)
    · refine ⟨hrel.len,hrel.size,fun k j e cv hk hj=>?_⟩
      obtain ⟨u,h1,h2,h3⟩:=hrel.cell k j e cv hk hj
      refine ⟨u,h1,h2,?_⟩
      have hcl:cv.low 0=true:=low_cells (Z1 hlow hk) hj
      exact (h3.pure hcl).step hE.step h.wf
    · show (w.heap.push _)[w.heap.size]?=_
      simp
end Go.VI
namespace Go.VI
variable {g:PG} {c:Ctx} {w:World} {fr fr':Fr} {a:Act} {o:Oper} {callE:CallE} {yieldE:Nm→List PV→Heap→Option (PV × Heap)}
theorem ObRel.keep {G:Nat→Option PV} {MC:PC→Code→Prop} {N:Nm→Prop} {c c':Ctx} {w w':World} (h:Step N c w c' w') (hw:WF G c w) {m:Nm} {ob:Ob} (ho:c'.obj m=c.obj m) (hg:c'.gen m=c.gen m)
    (hb:∀ p b,c.obj m=some p→p.blk=some b→w'.heap[b]?=w.heap[b]?) (hr:ObRel MC c w m ob):ObRel MC c' w' m ob:=by
  cases ob with
  | mem el gg cl osz =>
    obtain ⟨h1,h2⟩:=hr
    refine ⟨hg.trans h1,fun p hp=>?_⟩
    have hm:=h2 p (ho ▸ hp)
    refine ⟨hm.osz,hm.nil,hm.cap,hm.sz,fun b hbb=>?_⟩
    obtain ⟨arr,E,h3,h4,h5⟩:=hm.row b hbb
    refine ⟨arr,E,(hb p b (ho ▸ hp) hbb).trans h3,h4,fun i j e cv he hj=>?_⟩
    obtain ⟨u,h6,h7,h8⟩:=h5 i j e cv he hj
    refine ⟨u,h6,h7,?_⟩
    cases cl
    · exact VRel.step h hw h8
    · exact IRel.step h hw h8
  | map es clock gg =>
    obtain ⟨h1,h2⟩:=hr
    refine ⟨hg.trans h1,fun p hp=>?_⟩
    obtain ⟨b,arr,h3,h4,h5,h6⟩:=h2 p (ho ▸ hp)
    refine ⟨b,arr,h3,(hb p b (ho ▸ hp) h3).trans h4,h5,fun i e x he hx=>?_⟩
    obtain ⟨⟨h8,h9⟩,h10⟩:=h6 i e x he hx
    exact ⟨⟨h8.step h hw,h9.step h hw⟩,h10⟩
  | iter m since seen gg =>
    obtain ⟨h1,h2⟩:=hr
    refine ⟨hg.trans h1,fun p hp=>?_⟩
    obtain ⟨b,bm,h3,h4,h5⟩:=h2 p (ho ▸ hp)
    exact ⟨b,bm,h3,(hb p b (ho ▸ hp) h3.1).trans h4,VRel.step h hw h5⟩
  | loop tmps params assign body jump gg =>
    obtain ⟨h1,h2⟩:=hr
    refine ⟨hg.trans h1,fun p hp=>?_⟩
    obtain ⟨b,h3,l,h4,h5,h6,h7,h8⟩:=h2 p (ho ▸ hp)
    exact ⟨b,h3,l,(hb p b (ho ▸ hp) h3).trans h4,h5,h6,fun i=>VRel.step h hw (h7 i),h8⟩
  | dead gg=>exact hg.trans hr
open Classical in
noncomputable def Ctx.lay (c:Ctx) (n:Nm) (k:Nat) (p:Option Place):Ctx:={ c with obj:=fun m=>if m=n then p else c.obj m,gen:=fun m=>if m=n then k else c.gen m }
theorem Ctx.lay_obj_self (c:Ctx) (n:Nm) (k:Nat) (p:Option Place):(c.lay n k p).obj n=p:=by simp [Ctx.lay]
theorem Ctx.lay_gen_self (c:Ctx) (n:Nm) (k:Nat) (p:Option Place):(c.lay n k p).gen n=k:=by simp [Ctx.lay]
theorem Ctx.lay_obj (c:Ctx) {n m:Nm} (k:Nat) (p:Option Place) (h:m≠n):(c.lay n k p).obj m=c.obj m:=by simp [Ctx.lay,h]
theorem Ctx.lay_gen (c:Ctx) {n m:Nm} (k:Nat) (p:Option Place) (h:m≠n):(c.lay n k p).gen m=c.gen m:=by simp [Ctx.lay,h]
structure More (w w':World):Prop where
  size:w.heap.size≤w'.heap.size
  os:w'.os=w.os
  out:w'.output=w.output
  same:∀ b,b<w.heap.size→w'.heap[b]?=w.heap[b]?
theorem More.refl (w:World):More w w:=⟨Nat.le_refl _,rfl,rfl,fun _ _=>rfl⟩
theorem More.alloc (w:World) (ob:Obj):More w (w.alloc ob) :=
  ⟨by simp,rfl,rfl,fun b hb=>by
    show (w.heap.push ob)[b]?=_
    rw [Array.getElem?_push_lt hb]
    simp [hb]⟩
theorem More.drew (w:World):More w w.drew:=⟨Nat.le_refl _,rfl,rfl,fun _ _=>rfl⟩
theorem More.trans {w1 w2 w3:World} (h:More w1 w2) (h':More w2 w3):More w1 w3 :=
  ⟨Nat.le_trans h.size h'.size,h'.os.trans h.os,h'.out.trans h.out,fun b hb=>(h'.same b (Nat.lt_of_lt_of_le hb h.size)).trans (h.same b hb)⟩
def Room (c:Ctx) (n:Nm) (k:Nat):Prop:=c.gen n≤k∧(c.gen n=k→c.obj n=none)
def Fits (w w':World) (p:Option Place):Prop:=∀ q b,p=some q→q.blk=some b→w.heap.size≤b∧b<w'.heap.size
theorem Yg {w':World} (h:More w w') {n:Nm} {k:Nat} {p:Option Place} (hR:Room c n k) (hp:Fits w w' p):Step (fun m=>m=n∧c.obj m=none) c w (c.lay n k p) w' where
  size:=h.size
  os:=h.os
  out:=h.out
  gen m:=by
    by_cases hm:m=n
    · subst hm;rw [c.lay_gen_self];exact hR.1
    · rw [c.lay_gen k p hm];exact Nat.le_refl _
  obj m hm he:=by
    by_cases hm':m=n
    · subst hm'
      rw [c.lay_gen_self] at he
      exact absurd ⟨rfl,hR.2 he.symm⟩ hm
    · rw [c.lay_obj k p hm']
  phan m hm:=hm.2
  imm b hb:=hb
  immNew b hb:=.inl hb
  objNew m q b h1 h2:=by
    by_cases hm:m=n
    · subst hm
      rw [c.lay_obj_self] at h1
      exact .inl (hp q b h1 h2).1
    · rw [c.lay_obj k p hm] at h1
      exact .inr ⟨m,q,h1,h2⟩
  frame b hb _:=h.same b hb
theorem step_lay0 {w':World} (h:More w w') {n:Nm} {k:Nat} {p:Option Place} (hR:c.gen n<k) (hp:Fits w w' p):Step N0 c w (c.lay n k p) w':=by
  have hs:=Yg (p:=p) h (n:=n) (k:=k) ⟨Nat.le_of_lt hR,fun e=>by omega⟩ hp
  refine ⟨hs.size,hs.os,hs.out,hs.gen,fun m _ he=>?_,fun _ h=>h.elim,hs.imm,hs.immNew,hs.objNew,hs.frame⟩
  refine hs.obj m (fun hm=>?_) he
  rw [hm.1,c.lay_gen_self] at he
  omega
theorem wf_lay {G:Nat→Option PV} {w':World} (hw:WF G c w) (h:More w w') {n:Nm} {k:Nat} {p:Option Place} (hR:Room c n k) (hp:Fits w w' p):WF G (c.lay n k p) w' where
  lt m q b h1 h2:=by
    by_cases hm:m=n
    · subst hm
      rw [c.lay_obj_self] at h1
      exact (hp q b h1 h2).2
    · rw [c.lay_obj k p hm] at h1
      exact Nat.lt_of_lt_of_le (hw.lt m q b h1 h2) h.size
  inj m1 m2 q1 q2 b h1 h2 h3 h4:=by
    by_cases e1:m1=n<;>by_cases e2:m2=n
    · rw [e1,e2]
    · subst e1
      rw [c.lay_obj_self] at h1
      rw [c.lay_obj k p e2] at h2
      have:=hw.lt m2 q2 b h2 h4
      have:=(hp q1 b h1 h3).1
      omega
    · subst e2
      rw [c.lay_obj_self] at h2
      rw [c.lay_obj k p e1] at h1
      have:=hw.lt m1 q1 b h1 h3
      have:=(hp q2 b h2 h4).1
      omega
    · rw [c.lay_obj k p e1] at h1
      rw [c.lay_obj k p e2] at h2
      exact hw.inj m1 m2 q1 q2 b h1 h2 h3 h4
  apart m q b h1 h2 h3:=by
    have hlt:=hw.ilt b h3
    by_cases hm:m=n
    · subst hm
      rw [c.lay_obj_self] at h1
      have:=(hp q b h1 h2).1
      omega
    · rw [c.lay_obj k p hm] at h1
      exact hw.apart m q b h1 h2 h3
  ilt b hb:=Nat.lt_of_lt_of_le (hw.ilt b hb) h.size
  glob i v hi:=(hw.glob i v hi).step (Yg h hR hp) hw
theorem FrRel.lay {w':World} (h:FrRel g c w fr a) {n:Nm} {k:Nat} (hR:Room c n k) (hlen:n.2<(fr.heap.getD n.1 []).length) (hM:More w w') {p:Option Place} (hp:Fits w w' p) {ob:Ob} (hob:ObRel g.MC (c.lay n k p) w' n ob) :
    FrRel g (c.lay n k p) w' { fr with heap:=hset fr.heap n ob } a:=by
  have hS:=Yg hM hR hp
  refine ⟨h.size,fun i=>(h.tmps i).step hS h.wf,fun m ob' hg'=>?_,wf_lay h.wf hM hR hp,DefRel.step hS h.wf heap_lt h.defs,fun m hm=>?_⟩
  · by_cases hm:m=n
    · subst hm
      rw [Z8 hlen] at hg'
      simp only [Option.some.injEq] at hg'
      exact hg' ▸ hob
    · rw [Yd hm] at hg'
      exact ObRel.keep hS h.wf (c.lay_obj k p hm) (c.lay_gen k p hm) (fun q b hq hb=>hM.same b (h.wf.lt m q b hq hb)) (h.heap m ob' hg')
  · by_cases hm':m=n
    · subst hm'
      rw [Z8 hlen] at hm
      cases hm
    · rw [Yd hm'] at hm
      rw [c.lay_gen k p hm',c.lay_obj k p hm']
      exact h.hn m hm
theorem ObRel.gen {MC:PC→Code→Prop} {n:Nm} {ob:Ob} (h:ObRel MC c w n ob):c.gen n=ob.gen:=by
  cases ob with
  | mem=>exact h.1
  | map=>exact h.1
  | iter=>exact h.1
  | loop=>exact h.1
  | dead=>exact h
theorem FrRel.next (h:FrRel g c w fr a) (n:Nm):c.gen n<nextGen fr.heap n:=by
  unfold nextGen
  split
  · rename_i ob ho
    have:=(h.heap n ob ho).gen
    omega
  · rename_i ho
    have:=(h.hn n ho).1
    omega
def LayOK (g:PG) (c:Ctx) (w:World) (n:Nm) (k:Nat) (ob:Ob) (pv:PV) (r:Result Next):Prop :=
  ∃ (v:Value) (w':World) (p:Place),r=.ok (.value v) w'∧More w w'∧Fits w w' (some p)∧ObRel g.MC (c.lay n k (some p)) w' n ob∧VRel (c.lay n k (some p)) w' pv v
theorem OpOK.lay (h:FrRel g c w fr a) {s:Nat} {dst:Option Nat} {f:Nat→Option (PV × Ob)} (hs:fr.lay dst s f=some fr') {r:Result Next}
    (hl:∀ k pv ob,Room c (fr.nm s) k→f k=some (pv,ob)→LayOK g c w (fr.nm s) k ob pv r):OpOK g c w fr fr' a dst r:=by
  unfold Fr.lay at hs
  split at hs
  case isFalse=>simp at hs
  rename_i hlen
  split at hs<;>simp only [Option.some.injEq,reduceCtorEq] at hs
  rename_i pv ob hf
  have hlt:=h.next (fr.nm s)
  have hR:Room c (fr.nm s) (nextGen fr.heap (fr.nm s)):=⟨Nat.le_of_lt hlt,fun e=>by omega⟩
  obtain ⟨v,w',p,hr,hM,hp,hob,hv⟩:=hl _ _ _ hR hf
  subst hs
  exact ⟨v,w',_,.inl hr,step_lay0 hM hlt hp,(FrRel.lay h hR hlen hM hp hob).put dst hv⟩
theorem Yl {w':World} {cl:Bool} {c':Ctx} {el:List PV} {arr:Array Value} {b sz cap:Nat} {E:TypeId} (hr:EGRel (CRel cl c' w') sz el arr) (hb:w'.heap[b]?=some (.cells arr E (0,0))) (hcap:el.length≤cap) (hsz:cap*sz≤arr.size) :
    MemRel c' w' ⟨some b,0,sz,cap⟩ el cl sz where
  osz:=rfl
  nil h:=by simp at h
  cap:=hcap
  sz:=hr.len
  row b' hb':=by
    simp only [Option.some.injEq] at hb'
    subst hb'
    refine ⟨arr,E,hb,by simpa using hsz,fun i j e cv he hj=>?_⟩
    obtain ⟨u,h1,h2,h3⟩:=hr.cell i j e cv he hj
    exact ⟨u,by simpa using h1,h2,h3⟩
theorem Z2 (w:World) (ob:Obj):(w.alloc ob).heap[w.heap.size]?=some ob:=by
  show (w.heap.push ob)[w.heap.size]?=_
  simp
theorem EGRel.one {R:PV→Value→Prop} {v:PV} {xs:Array Value} (hl:xs.size=v.cells.length) (h:∀ (j:Nat) cv x,v.cells[j]?=some cv→xs[j]?=some x→R cv x∧x.oneCell'=true):EGRel R v.cells.length [v] xs:=by
  refine ⟨fun i e he=>?_,by simp [hl],fun i j e cv he hj=>?_⟩
  · cases i with
    | zero=>simp at he;rw [he]
    | succ i=>simp at he
  · cases i with
    | zero =>
      simp only [List.getElem?_cons_zero,Option.some.injEq] at he
      subst he
      have hj':j<xs.size:=hl ▸ Zb hj
      obtain ⟨h1,h2⟩:=h j cv xs[j] hj (by simp [hj'])
      exact ⟨xs[j],by simp [hj'],h2,h1⟩
    | succ i=>simp at he
theorem lay_x {w':World} (h:FrRel g c w fr a) {n:Nm} {k:Nat} (hR:Room c n k) (hM:More w w') {p:Option Place} (hp:Fits w w' p) {x:PX} {y:Operand} (hx:g.matchX x y=true) :
    VRel (c.lay n k p) w' (evX g.E fr.tmps x) (a.eval y):=(h.x hx).step (Yg hM hR hp) h.wf
theorem Ym (w:World) (ob:Obj) (o sz cap:Nat):Fits w (w.alloc ob) (some ⟨some w.heap.size,o,sz,cap⟩):=by
  intro q b hq hb
  simp only [Option.some.injEq] at hq
  subst hq
  simp only [Option.some.injEq] at hb
  subst hb
  simp
theorem lay_box (h:FrRel g c w fr a) {n:Nm} {k:Nat} (hR:Room c n k) {s:Nat} {x:PX} {x':Operand} {t:TypeId} {pv:PV} {ob:Ob} (ho:o.op=.box t x') (hx:g.matchX x x'=true)
    (hs:layE (evX g.E fr.tmps) n (.box s x) k=some (pv,ob)):LayOK g c w n k ob pv ((execOp a.eval o).run g.P w):=by
  simp only [layE] at hs
  split at hs
  case isFalse=>simp at hs
  rename_i hgood
  simp only [Option.some.injEq,Prod.mk.injEq] at hs
  obtain ⟨rfl,rfl⟩:=hs
  have hM:=More.alloc w (.cells (a.eval x').cells t)
  have hp:=Ym w (.cells (a.eval x').cells t) 0 (evX g.E fr.tmps x).cells.length 1
  have hv:=lay_x h hR hM hp hx
  obtain ⟨hl,hc⟩:=hv.cells hgood
  refine ⟨.pointer (some ⟨w.heap.size,0,none⟩),_,_,?_,hM,hp,⟨Ctx.lay_gen_self _ _ _ _,fun q hq=>?_⟩,?_⟩
  · simp [execOp,ho,Instr.box,newVar,newRow]
  · rw [Ctx.lay_obj_self] at hq
    simp only [Option.some.injEq] at hq
    subst hq
    exact Yl (cl:=false) (EGRel.one hl hc) (Z2 _ _) (by simp) (by simp [hl])
  · have:=VRel.ptr (c:=c.lay n k (some ⟨some w.heap.size,0,(evX g.E fr.tmps x).cells.length,1⟩)) (w:=w.alloc (.cells (a.eval x').cells t)) n k 0 0 _ w.heap.size (by rw [Ctx.lay_gen_self];exact Nat.le_refl _) (Ctx.lay_obj_self _ _ _ _) rfl
    simpa using this
theorem lay_alloc (_h:FrRel g c w fr a) {n:Nm} {k:Nat} (_hR:Room c n k) {s:Nat} {z:PV} {t:TypeId} {i:TypeInfo} {zv:Value} {pv:PV} {ob:Ob} (ho:o.op=.alloc t) (hi:g.P.info? t=some i) (hz:i.zero=some zv) (hzc:constZ z zv.cells=true)
    (hs:layE (evX g.E fr.tmps) n (.alloc s z) k=some (pv,ob)):LayOK g c w n k ob pv ((execOp a.eval o).run g.P w):=by
  simp only [layE,Option.some.injEq,Prod.mk.injEq] at hs
  obtain ⟨rfl,rfl⟩:=hs
  have hM:=More.alloc w (.cells zv.cells t)
  have hp:=Ym w (.cells zv.cells t) 0 z.cells.length 1
  obtain ⟨hl,h1,h2⟩:=constZ_spec hzc (imm:=c.imm) (w:=w.alloc (.cells zv.cells t))
  refine ⟨.pointer (some ⟨w.heap.size,0,none⟩),_,_,?_,hM,hp,⟨Ctx.lay_gen_self _ _ _ _,fun q hq=>?_⟩,?_⟩
  · simp [execOp,ho,Instr.alloc,zeroValue,typeInfo,hi,hz,newVar,newRow]
  · rw [Ctx.lay_obj_self] at hq
    simp only [Option.some.injEq] at hq
    subst hq
    exact Yl (cl:=false) (EGRel.one hl.symm fun j cv x hcv hx=>⟨.i _ _ (h2 j cv x hcv hx),h1 j x hx⟩) (Z2 _ _) (by simp) (by simp [hl])
  · have:=VRel.ptr (c:=c.lay n k (some ⟨some w.heap.size,0,z.cells.length,1⟩)) (w:=w.alloc (.cells zv.cells t)) n k 0 0 _ w.heap.size (by rw [Ctx.lay_gen_self];exact Nat.le_refl _) (Ctx.lay_obj_self _ _ _ _) rfl
    simpa using this
theorem lay_vec (_h:FrRel g c w fr a) {n:Nm} {k:Nat} (_hR:Room c n k) {s sz:Nat} {cl:Bool} {pv:PV} {ob:Ob} (ho:o.op=.assign (.const (.slice none 0 0))∨o.op=.move (.const (.slice none 0 0)))
    (hs:layE (evX g.E fr.tmps) n (.vec s cl sz) k=some (pv,ob)):LayOK g c w n k ob pv ((execOp a.eval o).run g.P w):=by
  simp only [layE,Option.some.injEq,Prod.mk.injEq] at hs
  obtain ⟨rfl,rfl⟩:=hs
  refine ⟨.slice none 0 0,w,⟨none,0,sz,0⟩,?_,More.refl w,(fun q b hq hb=>by simp only [Option.some.injEq] at hq;subst hq;simp at hb),⟨Ctx.lay_gen_self _ _ _ _,fun q hq=>?_⟩,?_⟩
  · rcases ho with ho|ho<;>simp [execOp,ho,Act.eval]
  · rw [Ctx.lay_obj_self] at hq
    simp only [Option.some.injEq] at hq
    subst hq
    exact ⟨rfl,fun _=>⟨rfl,rfl⟩,Nat.le_refl _,fun i e he=>by simp at he,fun b hb=>by simp at hb⟩
  · exact .slNil _ _ _ (by rw [Ctx.lay_gen_self];exact Nat.le_refl _) (Ctx.lay_obj_self _ _ _ _) rfl
end Go.VI
namespace Go.VI
variable {g:PG} {c:Ctx} {w:World} {fr fr':Fr} {a:Act} {o:Oper}
theorem lay_bslm (h:FrRel g c w fr a) {nm:Nm} {k:Nat} (hR:Room c nm k) {s:Nat} {cl:Bool} {pv:PV} {ob:Ob} {z:List PV} {ps:List (Nat × PX)} {qs:Array (Nat × Operand)} {t E:TypeId} {n:Nat} {i:TypeInfo} {zv:Value} (ho:o.op=.buildSlice t n qs) (ht:g.P.underlying t=some (.slice E)) (hi:g.P.info? E=some i) (hz:i.zero=some zv)
    (hzn:z.length=n) (hzc:z.all (fun e=>constZ e zv.cells)=true) (hzs:zv.cells.size=i.size) (hn:n*i.size≤2 ^ 24) (hm:g.matchElems ps qs.toList=true)
    (hs:layE (evX g.E fr.tmps) nm (.bslm s cl i.size z ps) k=some (pv,ob)):LayOK g c w nm k ob pv ((execOp a.eval o).run g.P w):=by
  simp only [layE] at hs
  split at hs
  case h_2=>simp at hs
  rename_i els hf
  split at hs<;>simp only [Option.some.injEq,reduceCtorEq,Prod.mk.injEq] at hs
  rename_i hlow
  obtain ⟨rfl,rfl⟩:=hs
  obtain ⟨arr',hrun,hrel,hlen⟩:=bsl_row h ho ht hi hz hzn hzc hzs hn hm hf
  have hM:=More.alloc w (.cells arr' E)
  have hp:=Ym w (.cells arr' E) 0 i.size n
  have hS:=Yg hM hR hp
  refine ⟨_,_,_,hrun,hM,hp,⟨Ctx.lay_gen_self _ _ _ _,fun q hq=>?_⟩,?_⟩
  · rw [Ctx.lay_obj_self] at hq
    simp only [Option.some.injEq] at hq
    subst hq
    refine Yl ⟨hrel.len,hrel.size,fun k' j e cv hk hj=>?_⟩ (Z2 _ _) (by omega) (by rw [← hlen];exact hrel.size)
    obtain ⟨u,h1,h2,h3⟩:=hrel.cell k' j e cv hk hj
    refine ⟨u,h1,h2,?_⟩
    cases cl
    · exact h3.step hS h.wf
    · have hcl:cv.low 0=true:=low_cells (Z1 (by simpa using hlow) hk) hj
      exact (h3.pure hcl).step hS h.wf
  · have:=VRel.sl (c:=c.lay nm k (some ⟨some w.heap.size,0,i.size,n⟩)) (w:=w.alloc (.cells arr' E)) nm k 0 n _ w.heap.size (by rw [Ctx.lay_gen_self];exact Nat.le_refl _) (Ctx.lay_obj_self _ _ _ _) rfl (by simp)
    simpa [hlen] using this
theorem lay_mkmap (_h:FrRel g c w fr a) {nm:Nm} {k:Nat} (_hR:Room c nm k) {s:Nat} {pv:PV} {ob:Ob} {t:TypeId} {r:Option Operand} (ho:o.op=.makeMap t r)
    (hr:r=none∨∃ (k e:TypeId) (i:IntKind) (n:Int),g.P.underlying t=some (.map k e)∧r=some (.const (.int i n)))
    (hs:layE (evX g.E fr.tmps) nm (.mkmap s) k=some (pv,ob)):LayOK g c w nm k ob pv ((execOp a.eval o).run g.P w):=by
  simp only [layE,Option.some.injEq,Prod.mk.injEq] at hs
  obtain ⟨rfl,rfl⟩:=hs
  have hM:=More.alloc w (.map #[] 0)
  have hp:=Ym w (.map #[] 0) 0 0 0
  refine ⟨.map (some w.heap.size),_,_,?_,hM,hp,⟨Ctx.lay_gen_self _ _ _ _,fun q hq=>?_⟩,?_⟩
  · rcases hr with rfl|⟨k',e,i,n,ht,rfl⟩
    · simp [execOp,ho,Instr.makeMap]
    · simp [execOp,ho,Instr.makeMap,Zc g.P w ht,Act.eval,asInt,asIntOf]
  · rw [Ctx.lay_obj_self] at hq
    simp only [Option.some.injEq] at hq
    subst hq
    exact ⟨w.heap.size,#[],rfl,Z2 _ _,⟨rfl,rfl⟩,fun i e x he=>by simp at he⟩
  · exact VRel.map nm k _ w.heap.size (by rw [Ctx.lay_gen_self];exact Nat.le_refl _) (Ctx.lay_obj_self _ _ _ _) rfl
theorem lay_mkslice (h:FrRel g c w fr a) {nm:Nm} {k:Nat} (hR:Room c nm k) {s bytes:Nat} {cl:Bool} {z:PV} {len cap:PX} {len' cap':Operand} {pv:PV} {ob:Ob} {t E:TypeId} {i:TypeInfo} {zv:Value} (ho:o.op=.makeSlice t len' cap')
    (ht:g.P.underlying t=some (.slice E)) (hi:g.P.info? E=some i) (hz:i.zero=some zv) (hzc:constZ z zv.cells=true) (hzs:zv.cells.size=i.size) (hb:i.bytes=bytes) (hl:g.matchX len len'=true) (hc:g.matchX cap cap'=true)
    (hs:layE (evX g.E fr.tmps) nm (.mkslice s cl bytes z len cap) k=some (pv,ob)):LayOK g c w nm k ob pv ((execOp a.eval o).run g.P w):=by
  simp only [layE] at hs
  have v1:=h.x hl
  have v2:=h.x hc
  split at hs
  case h_2=>simp at hs
  rename_i n m e1 e2
  rw [e1] at v1
  rw [e2] at v2
  have v1:=v1.int_inv
  have v2:=v2.int_inv
  split at hs<;>simp only [Option.some.injEq,reduceCtorEq,Prod.mk.injEq] at hs
  rename_i hc
  obtain ⟨h0,hnm,hbm,hm,hcl⟩:=hc
  obtain ⟨rfl,rfl⟩:=hs
  subst hb
  have hrun:=run_make (P:=g.P) w t E i zv ht hi hz .i64 .i64 n m h0 hnm (by rw [Int.mul_comm];omega) (by omega)
  have hM:=More.alloc w (.cells (madeCells zv.cells (m.toNat*i.size)) E)
  have hp:=Ym w (.cells (madeCells zv.cells (m.toNat*i.size)) E) 0 i.size m.toNat
  have hS:=Yg hM hR hp
  obtain ⟨z1,z2,z3⟩:=constZ_spec hzc (imm:=c.imm) (w:=w.alloc (.cells (madeCells zv.cells (m.toNat*i.size)) E))
  have hnm':n.toNat≤m.toNat:=by omega
  rw [z1.trans hzs]
  refine ⟨.slice (some ⟨w.heap.size,0,none⟩) n.toNat m.toNat,w.alloc (.cells (madeCells zv.cells (m.toNat*i.size)) E),⟨some w.heap.size,0,i.size,m.toNat⟩,by simp [execOp,ho,v1,v2,hrun],hM,hp,⟨Ctx.lay_gen_self _ _ _ _,fun q hq=>?_⟩,?_⟩
  · rw [Ctx.lay_obj_self] at hq
    simp only [Option.some.injEq] at hq
    subst hq
    refine Yl (EGRel.mk (R:=CRel cl (c.lay nm k (some ⟨some w.heap.size,0,i.size,m.toNat⟩)) (w.alloc (.cells (madeCells zv.cells (m.toNat*i.size)) E))) (fun k' e he=>?_) (by rw [size_madeCells,List.length_replicate];exact Nat.mul_le_mul_right _ hnm') fun k' j e cv he hj=>?_) (Z2 _ _) (by rw [List.length_replicate];exact hnm') (by rw [size_madeCells];exact Nat.le_refl _)
    · rw [List.getElem?_replicate] at he
      split at he<;>simp only [Option.some.injEq,reduceCtorEq] at he
      subst he
      exact z1.trans hzs
    · rw [List.getElem?_replicate] at he
      split at he<;>simp only [Option.some.injEq,reduceCtorEq] at he
      rename_i hk'
      subst he
      have hj':j<i.size:=by have:=Zb hj;omega
      have hlt:(k'+1)*i.size≤m.toNat*i.size:=Nat.mul_le_mul_right _ (by omega)
      rw [Nat.add_mul,Nat.one_mul] at hlt
      have hjz:j<zv.cells.size:=by omega
      have hmod:(k'*i.size+j) % zv.cells.size=j:=by rw [hzs,Nat.add_comm,Nat.add_mul_mod_self_right,Nat.mod_eq_of_lt hj']
      refine ⟨zv.cells[j],?_,z2 j _ (by simp [hjz]),?_⟩
      · unfold madeCells
        rw [Array.getElem?_map,Array.getElem?_range,if_pos (by omega)]
        simp [hmod,hjz]
      · have:=z3 j cv zv.cells[j] hj (by simp [hjz])
        cases cl
        · exact .i _ _ this
        · exact this
  · have:=VRel.sl (c:=c.lay nm k (some ⟨some w.heap.size,0,i.size,m.toNat⟩)) (w:=w.alloc (.cells (madeCells zv.cells (m.toNat*i.size)) E)) nm k 0 n.toNat _ w.heap.size (by rw [Ctx.lay_gen_self];exact Nat.le_refl _) (Ctx.lay_obj_self _ _ _ _) rfl (by simpa using hnm')
    simpa using this
end Go.VI
namespace Go.VI
variable {g:PG} {c:Ctx} {w:World} {fr fr':Fr} {a:Act} {o:Oper} {callE:CallE} {yieldE:Nm→List PV→Heap→Option (PV × Heap)}
theorem seg_get {α:Type} (l us:List α) (q:Nat) (h:q+us.length≤l.length) (i:Nat):(l.take q++us++l.drop (q+us.length))[i]?=if q≤i∧i<q+us.length then us[i - q]? else l[i]?:=by
  have h1:min q l.length=q:=by omega
  by_cases h2:i<q
  · rw [List.getElem?_append_left (by simp;omega),List.getElem?_append_left (by simp;omega),List.getElem?_take,if_pos h2,if_neg (by omega)]
  · by_cases h3:i<q+us.length
    · rw [List.getElem?_append_left (by simp;omega),List.getElem?_append_right (by simp;omega),if_pos ⟨by omega,h3⟩,List.length_take,h1]
    · rw [List.getElem?_append_right (by simp;omega),List.getElem?_drop,if_neg (by omega),List.length_append,List.length_take,h1]
      congr 1
      omega
structure Redo (c:Ctx) (w w':World) (n:Nm) (p p':Place) (k:Nat):Prop where
  hp:c.obj n=some p
  hk:c.gen n<k∨(c.gen n=k∧p'=p)
  size:w.heap.size≤w'.heap.size
  os:w'.os=w.os
  out:w'.output=w.output
  same:∀ b,b<w.heap.size→p.blk≠some b→w'.heap[b]?=w.heap[b]?
  blk:∀ b,p'.blk=some b→p.blk=some b∨(w.heap.size≤b∧b<w'.heap.size)
theorem Redo.step {w':World} {n:Nm} {p p':Place} {k:Nat} (h:Redo c w w' n p p' k):Step N0 c w (c.lay n k (some p')) w' where
  size:=h.size
  os:=h.os
  out:=h.out
  gen m:=by
    by_cases hm:m=n
    · subst hm
      rw [c.lay_gen_self]
      rcases h.hk with h1|⟨h1,_⟩<;>omega
    · rw [c.lay_gen k _ hm];exact Nat.le_refl _
  obj m _ he:=by
    by_cases hm:m=n
    · subst hm
      rw [c.lay_gen_self] at he
      rcases h.hk with h1|⟨_,h2⟩
      · omega
      · rw [c.lay_obj_self,h2,h.hp]
    · rw [c.lay_obj k _ hm]
  phan m hm:=hm.elim
  imm b hb:=hb
  immNew b hb:=.inl hb
  objNew m q b h1 h2:=by
    by_cases hm:m=n
    · subst hm
      rw [c.lay_obj_self] at h1
      simp only [Option.some.injEq] at h1
      subst h1
      rcases h.blk b h2 with h3|h3
      · exact .inr ⟨m,p,h.hp,h3⟩
      · exact .inl h3.1
    · rw [c.lay_obj k _ hm] at h1
      exact .inr ⟨m,q,h1,h2⟩
  frame b hb hno:=h.same b hb (hno n p h.hp)
theorem Redo.wf {G:Nat→Option PV} {w':World} {n:Nm} {p p':Place} {k:Nat} (h:Redo c w w' n p p' k) (hw:WF G c w):WF G (c.lay n k (some p')) w' where
  lt m q b h1 h2:=by
    by_cases hm:m=n
    · subst hm
      rw [c.lay_obj_self] at h1
      simp only [Option.some.injEq] at h1
      subst h1
      rcases h.blk b h2 with h3|h3
      · exact Nat.lt_of_lt_of_le (hw.lt m p b h.hp h3) h.size
      · exact h3.2
    · rw [c.lay_obj k _ hm] at h1
      exact Nat.lt_of_lt_of_le (hw.lt m q b h1 h2) h.size
  inj m1 m2 q1 q2 b h1 h2 h3 h4:=by
    have key:∀ m q,m≠n→c.obj m=some q→q.blk=some b→p'.blk=some b→False:=by
      intro m q hm hq hqb hpb
      rcases h.blk b hpb with h5|h5
      · exact hm (hw.inj m n q p b hq h.hp hqb h5)
      · have:=hw.lt m q b hq hqb
        omega
    by_cases e1:m1=n<;>by_cases e2:m2=n
    · rw [e1,e2]
    · subst e1
      rw [c.lay_obj_self] at h1
      rw [c.lay_obj k _ e2] at h2
      simp only [Option.some.injEq] at h1
      subst h1
      exact (key m2 q2 e2 h2 h4 h3).elim
    · subst e2
      rw [c.lay_obj_self] at h2
      rw [c.lay_obj k _ e1] at h1
      simp only [Option.some.injEq] at h2
      subst h2
      exact (key m1 q1 e1 h1 h3 h4).elim
    · rw [c.lay_obj k _ e1] at h1
      rw [c.lay_obj k _ e2] at h2
      exact hw.inj m1 m2 q1 q2 b h1 h2 h3 h4
  apart m q b h1 h2 h3:=by
    have hlt:=hw.ilt b h3
    by_cases hm:m=n
    · subst hm
      rw [c.lay_obj_self] at h1
      simp only [Option.some.injEq] at h1
      subst h1
      rcases h.blk b h2 with h4|h4
      · exact hw.apart m p b h.hp h4 h3
      · omega
    · rw [c.lay_obj k _ hm] at h1
      exact hw.apart m q b h1 h2 h3
  ilt b hb:=Nat.lt_of_lt_of_le (hw.ilt b hb) h.size
  glob i v hi:=(hw.glob i v hi).step h.step hw
theorem FrRel.redo (h:FrRel g c w fr a) {w':World} {n:Nm} {p p':Place} {k:Nat} (hr:Redo c w w' n p p' k) {ob0 ob:Ob} (h0:hget fr.heap n=some ob0) (hob:ObRel g.MC (c.lay n k (some p')) w' n ob) :
    FrRel g (c.lay n k (some p')) w' { fr with heap:=hset fr.heap n ob } a:=by
  have hS:=hr.step
  refine ⟨h.size,fun i=>(h.tmps i).step hS h.wf,fun m ob' hg'=>?_,hr.wf h.wf,DefRel.step hS h.wf heap_lt h.defs,fun m hm=>?_⟩
  · by_cases hm:m=n
    · subst hm
      rw [Z8 (hget_lt h0)] at hg'
      simp only [Option.some.injEq] at hg'
      exact hg' ▸ hob
    · rw [Yd hm] at hg'
      refine ObRel.keep hS h.wf (c.lay_obj k _ hm) (c.lay_gen k _ hm) (fun q b hq hb=>hr.same b (h.wf.lt m q b hq hb) fun hpb=>hm (h.wf.inj m n q p b hq hr.hp hb hpb)) (h.heap m ob' hg')
  · by_cases hm':m=n
    · subst hm'
      rw [Z8 (hget_lt h0)] at hm
      cases hm
    · rw [Yd hm'] at hm
      rw [c.lay_gen k _ hm',c.lay_obj k _ hm']
      exact h.hn m hm
theorem setRow_redo {n:Nm} {p:Place} {b k:Nat} (hp:c.obj n=some p) (hb:p.blk=some b) (hk:c.gen n≤k) (arr:Array Value):Redo c w (w.setRow b arr) n p p k where
  hp:=hp
  hk:=(Nat.lt_or_eq_of_le hk).imp id fun e=>⟨e,rfl⟩
  size:=by simp
  os:=rfl
  out:=rfl
  same b' _ hne:=setRow_other w b b' arr fun e=>hne (by rw [hb,e])
  blk b' hb':=.inl hb'
theorem memRel_write {c':Ctx} {p:Place} {el el':List PV} {cl:Bool} {osz b q:Nat} {arr:Array Value} {E:TypeId} {us:List Value} (hM:MemRel c w p el cl osz) (hb:p.blk=some b) (ha:w.heap[b]?=some (.cells arr E (0,0)))
    (hq:q+us.length≤arr.size) (hcap:el'.length≤p.cap) (hsz:∀ (i:Nat) e,el'[i]?=some e→e.cells.length=p.sz)
    (hold:∀ v u,CRel cl c w v u→CRel cl c' (w.setRow b (arr.toList.take q++us++arr.toList.drop (q+us.length)).toArray) v u)
    (hcell:∀ (i j:Nat) e cv,el'[i]?=some e→e.cells[j]?=some cv →
      (q≤p.base+i*p.sz+j∧p.base+i*p.sz+j<q+us.length∧∃ u,us[p.base+i*p.sz+j - q]?=some u∧u.oneCell'=true∧CRel cl c w cv u) ∨
      ((p.base+i*p.sz+j<q∨q+us.length≤p.base+i*p.sz+j)∧∃ e0,el[i]?=some e0∧e0.cells[j]?=some cv)) :
    MemRel c' (w.setRow b (arr.toList.take q++us++arr.toList.drop (q+us.length)).toArray) p el' cl osz where
  osz:=hM.osz
  nil h:=by rw [hb] at h;cases h
  cap:=hcap
  sz:=hsz
  row b' hb':=by
    rw [hb] at hb'
    simp only [Option.some.injEq] at hb'
    subst hb'
    obtain ⟨arr',E',h1,h2,h3⟩:=hM.row b hb
    rw [ha] at h1
    simp only [Option.some.injEq,Obj.cells.injEq] at h1
    obtain ⟨rfl,rfl,_⟩:=h1
    refine ⟨_,_,setRow_heap w b arr _ E (0,0) ha,?_,fun i j e cv he hj=>?_⟩
    · simp only [List.size_toArray,List.length_append,List.length_take,List.length_drop,Array.length_toList]
      omega
    · rcases hcell i j e cv he hj with ⟨h4,h5,u,h6,h7,h8⟩|⟨h4,e0,h5,h6⟩
      · refine ⟨u,?_,h7,hold _ _ h8⟩
        rw [List.getElem?_toArray,seg_get _ _ _ (by simpa using hq),if_pos ⟨h4,h5⟩]
        exact h6
      · obtain ⟨u,h7,h8,h9⟩:=h3 i j e0 cv h5 h6
        refine ⟨u,?_,h8,hold _ _ h9⟩
        rw [List.getElem?_toArray,seg_get _ _ _ (by simpa using hq),if_neg (by omega),Array.getElem?_toList]
        exact h7
theorem CRel.step {G:Nat→Option PV} {N:Nm→Prop} {c c':Ctx} {w w':World} {cl:Bool} (h:Step N c w c' w') (hw:WF G c w) {v:PV} {u:Value} (hv:CRel cl c w v u):CRel cl c' w' v u:=by
  cases cl
  · exact VRel.step h hw hv
  · exact IRel.step h hw hv
theorem run_storeAt {P:Program} {t:TypeId} {i:TypeInfo} {b q:Nat} {arr:Array Value} {E:TypeId} {v:Value} (hi:P.info? t=some i) (ha:w.heap[b]?=some (.cells arr E (0,0))) (hs:v.cells.size=i.size) (hq:q+i.size≤arr.size) (h1:∀ x∈v.cells.toList,x.oneCell'=true) :
    (Instr.storeAt t (.pointer (some ⟨b,q,none⟩)) v).run P w=.ok () (w.setRow b (arr.toList.take q++v.cells.toList++arr.toList.drop (q+v.cells.toList.length)).toArray):=by
  have:=run_storeCells_at (P:=P) b q E v.cells.toList 0 arr w ha (by simp;omega) h1
  simp [Instr.storeAt,Instr.sureAddr,storeVar,sizeOf,typeInfo,hi,hs,this]
theorem undef_rel:VRel c w (.tuple []) undef:=.i _ _ (.tuple [] #[] rfl fun i c u hc=>by simp at hc)
theorem fits_spec {P:Program} {t:TypeId} {k:Option Nat} {i:TypeInfo} {v:PV} (hk:kOK P t k=true) (hi:P.info? t=some i) (hf:v.fits k=true):v.good=true∧v.cells.length=i.size∧((k=none∧v.cells=[v])∨∃ cs,v=.agg cs∧k=some i.size):=by
  unfold kOK at hk
  rw [hi] at hk
  split at hk
  case h_2=>cases hk
  rename_i d i' hd hi'
  simp only [Option.some.injEq] at hi'
  subst hi'
  split at hk
  · simp only [beq_iff_eq] at hk
    subst hk
    cases v<;>simp_all [PV.fits,PV.good,PV.cells]
  · simp only [Bool.and_eq_true,beq_iff_eq] at hk
    obtain ⟨rfl,h1⟩:=hk
    cases v<;>simp_all [PV.fits,PV.good,PV.cells]
theorem pure_cells {v:PV} {u:Value} (h:VRel c w v u) (hg:v.good=true) {cl:Bool} (hcl:(!cl||v.pure)=true) :
    u.cells.size=v.cells.length∧∀ (j:Nat) cv x,v.cells[j]?=some cv→u.cells[j]?=some x→CRel cl c w cv x∧x.oneCell'=true:=by
  obtain ⟨h1,h2⟩:=h.cells hg
  refine ⟨h1,fun j cv x hc hx=>⟨?_,(h2 j cv x hc hx).2⟩⟩
  cases cl
  · exact (h2 j cv x hc hx).1
  · exact (h2 j cv x hc hx).1.pure (low_cells (by simpa [PV.pure] using hcl) hc)
theorem ok_store (h:FrRel g c w fr a) {k:Option Nat} {x y:PX} {x' y':Operand} {t:TypeId} {i:TypeInfo} (ho:o.op=.store t x' y') (hk:kOK g.P t k=true) (hi:g.P.info? t=some i) (hx:g.matchX x x'=true) (hy:g.matchX y y'=true)
    (hs:stepOp g.E callE yieldE o.dst (.store k x y) fr=some fr'):OpOK g c w fr fr' a o.dst ((execOp a.eval o).run g.P w):=by
  have h1:=h.x hx
  have h2:=h.x hy
  simp only [stepOp] at hs
  split at hs
  case h_2=>simp at hs
  rename_i n gg ei off e
  split at hs
  case h_2=>simp at hs
  rename_i el g' cl osz hob
  split at hs
  case isFalse=>simp at hs
  rename_i hc
  obtain ⟨rfl,hfit,hcl⟩:=hc
  rw [e] at h1
  obtain ⟨p,b,hp,hb,e1,hM⟩:=ptr_live h.heap h1 hob
  obtain ⟨hgood,hlen,hkind⟩:=fits_spec hk hi hfit
  obtain ⟨hcs,hcc⟩:=pure_cells h2 hgood hcl
  obtain ⟨arr,E,ha,hsz,_⟩:=hM.row b hb
  have hgen:=(h.heap n _ hob).1
  have fin:∀ (e0 e':PV),el[ei]?=some e0→e'.cells=splice e0.cells off (evX g.E fr.tmps y).cells→off+(evX g.E fr.tmps y).cells.length≤e0.cells.length →
      OpOK g c w fr ({ fr with heap:=hset fr.heap n (.mem (el.set ei e') gg cl osz) }.put o.dst (.tuple [])) a o.dst ((execOp a.eval o).run g.P w):=by
    intro e0 e' he0 he' hoff
    have hi0:=Zb he0
    have hs0:=hM.sz ei e0 he0
    have hcap:=hM.cap
    have hks:(ei+1)*p.sz≤p.cap*p.sz:=Nat.mul_le_mul_right _ (by omega)
    rw [Nat.add_mul,Nat.one_mul] at hks
    have hlenu:(a.eval y').cells.toList.length=(evX g.E fr.tmps y).cells.length:=by simpa using hcs
    have hq:p.base+ei*p.sz+off+(a.eval y').cells.toList.length≤arr.size:=by omega
    have hone:∀ z∈(a.eval y').cells.toList,z.oneCell'=true:=by
      intro z hz
      obtain ⟨j,hj⟩:=List.mem_iff_getElem?.1 hz
      have hjl:=Zb hj
      exact (hcc j _ z (List.getElem?_eq_getElem (by omega)) (by simpa using hj)).2
    have hrun:=run_storeAt (q:=p.base+ei*p.sz+off) hi ha (by rw [hcs];exact hlen) (by rw [← hlen,← hlenu];exact hq) hone
    have hredo:Redo c w (w.setRow b (arr.toList.take (p.base+ei*p.sz+off)++(a.eval y').cells.toList++arr.toList.drop (p.base+ei*p.sz+off+(a.eval y').cells.toList.length)).toArray) n p p gg :=
      setRow_redo hp hb (Nat.le_of_eq hgen) _
    have hob':ObRel g.MC (c.lay n gg (some p)) (w.setRow b (arr.toList.take (p.base+ei*p.sz+off)++(a.eval y').cells.toList++arr.toList.drop (p.base+ei*p.sz+off+(a.eval y').cells.toList.length)).toArray) n (.mem (el.set ei e') gg cl osz):=by
      refine ⟨Ctx.lay_gen_self _ _ _ _,fun q hq'=>?_⟩
      rw [Ctx.lay_obj_self] at hq'
      simp only [Option.some.injEq] at hq'
      subst hq'
      have hspl:∀ j,(splice e0.cells off (evX g.E fr.tmps y).cells)[j]?=if off≤j∧j<off+(evX g.E fr.tmps y).cells.length then (evX g.E fr.tmps y).cells[j - off]? else e0.cells[j]?:=fun j=>seg_get _ _ _ hoff j
      have hsl:e'.cells.length=p.sz:=by
        rw [he'];simp only [splice,List.length_append,List.length_take,List.length_drop];omega
      refine memRel_write hM hb ha hq (by simpa using hcap) (fun i' e2 h'=>?_) (fun v u hv=>CRel.step hredo.step h.wf hv) (fun i' j e2 cv h' hj=>?_)
      · rw [List.getElem?_set] at h'
        split at h'
        · rename_i hei
          subst hei
          simp only [Option.some.injEq] at h'
          subst h'
          exact hsl
        · exact hM.sz i' e2 h'
      · rw [List.getElem?_set] at h'
        split at h'
        · rename_i hei
          subst hei
          simp only [Option.some.injEq] at h'
          subst h'
          rw [he',hspl] at hj
          split at hj
          · rename_i hin
            refine .inl ⟨by omega,by omega,?_⟩
            have hju:j - off<(a.eval y').cells.toList.length:=by omega
            have hidx:p.base+ei*p.sz+j - (p.base+ei*p.sz+off)=j - off:=by omega
            rw [hidx]
            refine ⟨(a.eval y').cells.toList[j - off],List.getElem?_eq_getElem hju,?_⟩
            have:=hcc (j - off) cv (a.eval y').cells.toList[j - off] hj (by rw [← Array.getElem?_toList];exact List.getElem?_eq_getElem hju)
            exact ⟨this.2,this.1⟩
          · rename_i hin
            exact .inr ⟨by omega,e0,he0,hj⟩
        · rename_i hei
          have hjl:j<p.sz:=by have:=hM.sz i' e2 h';have:=Zb hj;omega
          refine .inr ⟨?_,e2,h',hj⟩
          rcases Nat.lt_or_gt_of_ne hei with hlt|hgt
          · right
            have:(ei+1)*p.sz≤i'*p.sz:=Nat.mul_le_mul_right _ (by omega)
            rw [Nat.add_mul,Nat.one_mul] at this
            omega
          · left
            have:(i'+1)*p.sz≤ei*p.sz:=Nat.mul_le_mul_right _ (by omega)
            rw [Nat.add_mul,Nat.one_mul] at this
            omega
    exact ⟨undef,_,_,.inr ⟨by simp [execOp,ho,e1,hrun],rfl⟩,hredo.step,FrRel.put (h.redo hredo hob hob') o.dst undef_rel⟩
  split at hs
  · rename_i cs he0
    split at hs<;>simp only [Option.some.injEq,reduceCtorEq] at hs
    rename_i hoff
    subst hs
    exact fin (.agg cs) _ he0 rfl hoff
  · rename_i e0 hna he0
    split at hs<;>simp only [Option.some.injEq,reduceCtorEq] at hs
    rename_i hc
    obtain ⟨rfl,rfl⟩:=hc
    subst hs
    have hc1:(evX g.E fr.tmps y).cells=[evX g.E fr.tmps y]:=by
      rcases hkind with ⟨_,h5⟩|⟨cs,h5,h6⟩
      · exact h5
      · cases h6
    have hc0:e0.cells=[e0]:=by cases e0<;>first|rfl|exact absurd rfl (hna _)
    refine fin e0 _ he0 ?_ ?_
    · rw [hc0,hc1];rfl
    · rw [hc0,hc1];simp
  · simp at hs
end Go.VI
