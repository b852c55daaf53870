/- Part of the texts on which proofs about this seat rest: each says what it proves at its own head. No condition. -/
import Derived.Orders
import Derived.LoopN
import Derived.Below
import Derived.Laws.Cells
import Derived.Walk
import Derived.Laws.StructEq
import Derived.Laws.Strings
import Derived.ChangeKeysEq
set_option linter.unusedVariables false
set_option linter.unusedSimpArgs false
/- The abstract values, the resolved instructions and the evaluator: what a Go function computes, in the order of the text, over lists. No condition: definitions alone. -/
namespace Go.Abs
inductive AV where
 | int (k:IntKind) (n:Int)
 | bool (b:Bool)
 | str (l:List UInt8)
 | sl (br sz:Nat) (xs:List AV)
 | pp (xs:List AV) (off:Nat)
 | cp (xs:List AV) (off:Nat)
 | ref (id off:Nat)
 | nilp
 | osl (id off len sz:Nat)
 | mp (id:Nat)
 | yl (id:Nat)
 | fn (f:FuncId) (first caps:List AV)
 | nilfn
 | iface (t:TypeId) (v:AV)
 | nilif
 | agg (cs:List AV)
 | tup (vs:List AV)
 | junk
 deriving Inhabited
def AV.cells:AV→List AV
 | .agg cs=>cs
 | v=>[v]
def AV.leaf:AV→Bool
 | .agg _ | .tup _ | .junk=>false
 | _=>true
def AV.scalar:AV→Bool
 | .int _ _ | .bool _ | .str _=>true
 | _=>false
mutual
/-- No reference to an object, and no brand: what may lie in a list that is never written. -/
def AV.flat:AV→Bool
 | .int _ _ | .bool _ | .str _ | .nilp | .nilfn | .nilif=>true
 | .sl br _ _=>decide (br<4)
 | .iface _ v=>v.flat
 | .agg cs=>bK cs
 | .tup vs=>bK vs
 | _=>false
def bK:List AV→Bool
 | []=>true
 | x::xs=>x.flat&&bK xs
end
mutual
/-- References lead to objects below n. -/
def AV.under (n:Nat):AV→Bool
 | .ref id _=>decide (id<n)
 | .osl id _ _ _=>decide (id<n)
 | .mp id=>decide (id<n)
 | .yl id=>decide (id<n)
 | .cp xs _=>bJ n xs
 | .fn _ fs cs=>bJ n fs&&bJ n cs
 | .iface _ v=>v.under n
 | .agg cs=>bJ n cs
 | .tup vs=>bJ n vs
 | _=>true
def bJ (n:Nat):List AV→Bool
 | []=>true
 | x::xs=>x.under n&&bJ n xs
end
def csz (sz:Nat):List AV→Nat
 | []=>0
 | _=>sz
def csl (sz:Nat) (xs:List AV):AV:=.sl 1 (csz sz xs) xs
def eo (br sz:Nat) (xs:List AV):AV:=if br=1 then csl sz xs else .sl br sz xs
def aF:AV→AV
 | .sl br sz xs=>if br=1 then .sl 1 sz xs else csl sz xs
 | v=>v
def AV.share:AV→AV
 | .agg cs=>.agg (cs.map aF)
 | v=>aF v
def jx (n:Nat) (x:AV):AV:=if x.under n then x else .junk
def ofB (b:UInt8):AV:=.int .u8 b.toNat
def toB:AV→Option UInt8
 | .int .u8 n=>some (UInt8.ofNat n.toNat)
 | _=>none
def ln:List AV→Option (List UInt8)
 | []=>some []
 | x::xs=>match toB x,ln xs with
  | some b,some bs=>some (b::bs)
  | _,_=>none
def ofV:Value→Option AV
 | .int k n=>some (.int k n)
 | .bool b=>some (.bool b)
 | .string s=>some (.str s.data.toList)
 | .pointer none=>some .nilp
 | .slice none 0 0=>some (.sl 0 0 [])
 | .nilFunc=>some .nilfn
 | .nilIface=>some .nilif
 | _=>none
inductive X where
 | t (n:Nat)
 | c (v:AV)
 deriving Inhabited
inductive IOp where
 | mov (x:X)
 | pick (c a b:X)
 | new (t:TypeId) (cs:List AV)
 | box (t:TypeId) (x:X)
 | boxp (x:X)
 | build (z:List AV) (ps:List (Nat×Nat×X))
 | bsl (m:Bool) (sz:Nat) (z:List AV) (ps:List (Nat×Nat×X))
 | load (sz:Nat) (ag:Bool) (x:X)
 | store (sz:Nat) (x v:X)
 | nchk (x:X)
 | bin (op:BinOp) (x y:X)
 | eq (neg:Bool) (k:Nat) (x y:X)
 | eqA (neg:Bool) (ks:List Nat) (x y:X)
 | un (op:UnOp) (x:X)
 | conv (k:IntKind) (x:X)
 | s2b (x:X)
 | b2s (x:X)
 | fadd (off:Nat) (x:X)
 | fld (off sz:Nat) (ag:Bool) (x:X)
 | iaA (n sz:Nat) (x i:X)
 | iaS (sz:Nat) (x i:X)
 | ixA (n sz:Nat) (ag:Bool) (x i:X)
 | ixS (x i:X)
 | ext (x:X) (i:Nat)
 | mkf (f:FuncId) (first caps:List X)
 | mks (m:Bool) (sz bytes:Nat) (z:List AV) (l c:X)
 | slS (x:X) (lo hi:Option X)
 | slL (sz:Nat) (x:X) (lo hi mx:Option X)
 | slA (n sz:Nat) (x:X) (lo hi mx:Option X)
 | app (sz bytes:Nat) (x y:X)
 | cpy (sz:Nat) (x y:X)
 | len (sz:Nat) (x:X)
 | lenS (x:X)
 | s2s (x:X)
 | s2a (k sz:Nat) (x:X)
 | mn (mx:Bool) (xs:List X)
 | callp (m:Nat) (f:FuncId) (args:List X)
 | calln (f:FuncId) (args:List X)
 | calls (f:FuncId) (args:List X)
 | callv (x:X) (args:List X)
 | calli (tb:List (TypeId×FuncId)) (x:X) (args:List X)
 | mkif (t:TypeId) (x:X)
 | appo (sz bytes:Nat) (x y:X)
 | mkm
 | mupd (kd:Nat) (m k v:X)
 | mget (kd:Nat) (ok:Bool) (z:AV) (m k:X)
 | mlen (m:X)
 deriving Inhabited
structure aa where
 dst:Option Nat
 op:IOp
 guard:Option (Nat×Bool)
 deriving Inhabited
inductive IC where
 | skip
 | ops (draw:Bool) (l:List aa)
 | opsX (l:List aa) (ps:List (Nat×Nat))
 | opsC (l:List aa) (ps cs:List (Nat×Nat))
 | seq (a b:IC)
 | cond (x:X) (a b:IC)
 | block (id:Nat) (a:IC)
 | loop (a:IC)
 | rangeF (x:X) (ps:List Nat) (a b:IC)
 | exit (id:Nat)
 | ret
 | bad
 deriving Inhabited
inductive lq where
 | t (n:Nat)
 | cell (n sz:Nat) (ag:Bool)
 deriving Inhabited
structure IFn where
 body:IC
 res:List lq
 nt:Nat
 deriving Inhabited
abbrev Hp:=Nat→List AV
def upd {α:Type}(f:Nat→α) (i:Nat) (v:α):Nat→α:=fun j=>if j=i then v else f j
structure St where
 T:Nat→AV
 H:Hp
 E:Nat→Option TypeId
 n:Nat
 lv:Nat→Bool
 c:Nat
def ev (T:Nat→AV):X→AV
 | .t n=>T n
 | .c v=>v
structure Eff where
 v:AV
 new:Option (List AV):=none
 ty:Option TypeId:=none
 wr:Option (Nat×List AV):=none
 use:Option Nat:=none
 nb:Nat:=0
def rd (cells:List AV) (off sz:Nat) (ag:Bool):Option AV:=
 if ag then (if off+sz≤cells.length then some (.agg ((cells.drop off).take sz)) else none)
 else match cells[off]? with
  | some v=>if v.leaf then some v else none
  | none=>none
def cd (z:List AV) (off:Nat) (cs:List AV):List AV:=z.take off++cs++z.drop (off+cs.length)
def stored:AV→Option (List AV)
 | .agg cs=>some cs
 | .tup _ | .junk=>none
 | v=>some [v]
def lu (z:List AV) (off:Nat) (v:AV):List AV:=
 match v with
 | .agg cs=>cd z off cs
 | v=>z.set off v
def fill (T:Nat→AV) (sh:Bool) (z:List AV):List (Nat×Nat×X)→Option (List AV)
 | []=>some z
 | (off,sz,x)::ps=>
  let v:=if sh then (ev T x).share else ev T x
  match stored v with
  | none=>none
  | some cs=>if cs.length=sz∧off+sz≤z.length then fill T sh (lu z off v) ps else none
def bC (op:BinOp) (k:IntKind) (a b:Int):Option AV:=
 match op with
 | .add=>some (.int k (k.wrap (a+b)))
 | .sub=>some (.int k (k.wrap (a-b)))
 | .mul=>some (.int k (k.wrap (a*b)))
 | .quo=>if b=0 then none else some (.int k (k.wrap (a.tdiv b)))
 | .rem=>if b=0 then none else some (.int k (a.tmod b))
 | .and=>some (.int k (k.wrap ((BitVec.ofInt k.bits a &&& BitVec.ofInt k.bits b).toNat)))
 | .or=>some (.int k (k.wrap ((BitVec.ofInt k.bits a ||| BitVec.ofInt k.bits b).toNat)))
 | .xor=>some (.int k (k.wrap ((BitVec.ofInt k.bits a ^^^ BitVec.ofInt k.bits b).toNat)))
 | .andNot=>some (.int k (k.wrap ((BitVec.ofInt k.bits a &&& ~~~ BitVec.ofInt k.bits b).toNat)))
 | .eql=>some (.bool (a==b))
 | .neq=>some (.bool (a != b))
 | .lss=>some (.bool (decide (a<b)))
 | .leq=>some (.bool (decide (a≤b)))
 | .gtr=>some (.bool (decide (a>b)))
 | .geq=>some (.bool (decide (a≥b)))
 | _=>none
def ja (op:BinOp) (k:IntKind) (a b:Int):Option AV:=
 if b<0 then none else
 match op with
 | .shl=>some (.int k (k.wrap (a*2 ^ (min b.toNat k.bits))))
 | .shr=>some (.int k (a.fdiv (2 ^ (min b.toNat k.bits))))
 | _=>none
def lx:Nat:=2 ^ 62
def kh (op:BinOp) (a b:List UInt8):Option AV:=
 match op with
 | .add=>if a.length+b.length≤lx then some (.str (a++b)) else none
 | .eql=>some (.bool (a==b))
 | .neq=>some (.bool (!(a==b)))
 | .lss=>some (.bool (Op.bytesLess a b))
 | .leq=>some (.bool (Op.bytesLess a b||a==b))
 | .gtr=>some (.bool (!(Op.bytesLess a b||a==b)))
 | .geq=>some (.bool (!(Op.bytesLess a b)))
 | _=>none
def aj (op:BinOp) (x y:AV):Option AV:=
 match x,y with
 | .int k a,.int k' b=>
  if op = .shl∨op = .shr then ja op k a b
  else if k=k' then bC op k a b else none
 | .str a,.str b=>kh op a b
 | _,_=>none
def eqK:Nat→AV→AV→Option Bool
 | 0,.int k a,.int k' b=>if k=k' then some (a==b) else none
 | 1,.bool a,.bool b=>some (a==b)
 | 2,.str a,.str b=>some (a==b)
 | 3,.nilp,.nilp=>some true
 | 3,.nilp,.ref _ _=>some false
 | 3,.ref _ _,.nilp=>some false
 | 3,.ref a o,.ref b o'=>if a=b then some (o==o') else none
 | 4,.nilfn,.nilfn=>some true
 | 4,.fn _ _ _,.nilfn=>some false
 | 5,.sl br _ xs,.sl 0 0 []=>if br=0 then some true else if br=2∨4≤br∨xs.isEmpty=false then some false else none
 | 5,.osl _ _ _ _,.sl 0 0 []=>some false
 | _,_,_=>none
def cE:List Nat→List AV→List AV→Option Bool
 | [],[],[]=>some true
 | k::ks,x::xs,y::ys=>match eqK k x y,cE ks xs ys with
  | some a,some b=>some (a&&b)
  | _,_=>none
 | _,_,_=>none
def uJ (op:UnOp) (x:AV):Option AV:=
 match op,x with
 | .neg,.int k n=>bC .sub k 0 n
 | .xor,.int k n=>bC .xor k (if k.signed then -1 else k.max) n
 | .not,.bool b=>some (.bool !b)
 | _,_=>none
def inB (i:Int) (n:Nat):Option Nat:=if 0≤i∧i<n then some i.toNat else none
def asI:AV→Option Int
 | .int _ n=>some n
 | _=>none
def eX (T:Nat→AV) (len:Nat) (lo hi mx:Option X):Option (Nat×Nat×Nat):=
 let b (x:Option X) (d y:Nat):Option Nat:=match x with
  | none=>some d
  | some x=>match asI (ev T x) with
   | some i=>if 0≤i∧i≤y then some i.toNat else none
   | none=>none
 match b mx len len with
 | none=>none
 | some m=>match b hi len m with
  | none=>none
  | some h=>match b lo 0 h with
   | none=>none
   | some l=>some (l,h,m)
def src (H:Hp) (sz0:Nat):AV→Option (List AV)
 | .sl _ s ys=>if s=sz0∨ys=[] then some ys else none
 | .str l=>if sz0=1 then some (l.map ofB) else none
 | .osl id off len sz=>if sz=sz0∧off+len*sz≤(H id).length∧bK (((H id).drop off).take (len*sz)) then some (((H id).drop off).take (len*sz)) else none
 | _=>none
def room:Nat:=2 ^ 44
def hU (mx:Bool) (T:Nat→AV):AV→List X→Option AV
 | v,[]=>some v
 | .int k a,x::xs=>match ev T x with
  | .int _ b=>hU mx T (.int k (if mx then (if b>a then b else a) else (if b<a then b else a))) xs
  | _=>none
 | _,_=>none
def getM (kd:Nat) (k:AV):List AV→Option (Option AV)
 | []=>some none
 | a::v::es=>match eqK kd k a with
  | some true=>some (some v)
  | some false=>getM kd k es
  | none=>none
 | _=>none
def dU (kd:Nat) (k v:AV):List AV→Option (List AV)
 | []=>some [k,v]
 | a::b::es=>match eqK kd k a with
  | some true=>some (k::v::es)
  | some false=>(dU kd k v es).map fun l=>a::b::l
  | none=>none
 | _=>none
def au (T:Nat→AV) (H:Hp) (lv:Nat→Bool) (n c:Nat):IOp→Option Eff
 | .mov x=>some { v:=ev T x }
 | .pick x a b=>match ev T x with
  | .bool true=>some { v:=ev T a }
  | .bool false=>some { v:=ev T b }
  | _=>none
 | .new t cs=>some { v:=.ref n 0,new:=some cs,ty:=some t }
 | .boxp x=>match stored (ev T x).share with
  | some cs=>if bK cs then some { v:=.pp cs 0 } else none
  | none=>none
 | .box t x=>match stored (ev T x) with
  | some cs=>some { v:=.ref n 0,new:=some cs,ty:=some t }
  | none=>none
 | .build z ps=>match fill T false z ps with
  | some cs=>some { v:=.agg cs }
  | none=>none
 | .bsl m sz z ps=>match fill T true z ps with
  | some cs=>
   if bK cs&&decide (0<sz)&&decide (cs.length%sz=0) then
    (if m then some { v:=.osl n 0 (cs.length/sz) sz,new:=some cs } else some { v:=.sl 3 sz cs })
   else none
  | none=>none
 | .load sz ag x=>match ev T x with
  | .ref id off=>match rd (H id) off sz ag with
   | some v=>some { v }
   | none=>none
  | .pp xs off=>match rd xs off sz ag with
   | some v=>some { v }
   | none=>none
  | .cp xs off=>match rd xs off sz ag with
   | some v=>some { v }
   | none=>none
  | _=>none
 | .store sz x v=>match ev T x with
  | .ref id off=>match stored (ev T v) with
   | some cs=>if cs.length=sz∧off+sz≤(H id).length then some { v:=.tup [],wr:=some (id,lu (H id) off (ev T v)) } else none
   | none=>none
  | _=>none
 | .nchk x=>match ev T x with
  | .ref id off=>some { v:=.ref id off }
  | .pp xs off=>some { v:=.pp xs off }
  | .cp xs off=>some { v:=.cp xs off }
  | .osl id off len sz=>some { v:=.osl id off len sz }
  | .sl br sz xs=>some { v:=.sl br sz xs }
  | _=>none
 | .bin op x y=>match aj op (ev T x) (ev T y) with
  | some v=>some { v }
  | none=>none
 | .eq neg k x y=>match eqK k (ev T x) (ev T y) with
  | some r=>some { v:=.bool (if neg then !r else r) }
  | none=>none
 | .eqA neg ks x y=>match ev T x,ev T y with
  | .agg a,.agg b=>match cE ks a b with
   | some r=>some { v:=.bool (if neg then !r else r) }
   | none=>none
  | _,_=>none
 | .un op x=>match uJ op (ev T x) with
  | some v=>some { v }
  | none=>none
 | .conv k x=>match ev T x with
  | .int _ n=>some { v:=.int k (k.wrap n) }
  | _=>none
 | .s2b x=>match ev T x with
  | .str l=>if l.length≤room then some { v:=.sl c 1 (l.map ofB),nb:=1 } else none
  | _=>none
 | .b2s x=>match ev T x with
  | .sl _ 1 xs=>match ln xs with
   | some l=>some { v:=.str l }
   | none=>none
  | .sl _ 0 []=>some { v:=.str [] }
  | _=>none
 | .fadd off x=>match ev T x with
  | .ref id o=>some { v:=.ref id (o+off) }
  | .pp xs o=>some { v:=.pp xs (o+off) }
  | .cp xs o=>some { v:=.cp xs (o+off) }
  | _=>none
 | .fld off sz ag x=>match ev T x with
  | .agg cs=>match rd cs off sz ag with
   | some v=>some { v }
   | none=>none
  | _=>none
 | .iaA k sz x i=>match ev T x,asI (ev T i) with
  | .ref id o,some j=>match inB j k with
   | some j=>some { v:=.ref id (o+j*sz) }
   | none=>none
  | .pp xs o,some j=>match inB j k with
   | some j=>some { v:=.pp xs (o+j*sz) }
   | none=>none
  | _,_=>none
 | .iaS sz x i=>match ev T x,asI (ev T i) with
  | .sl _ s xs,some j=>if s=sz∨xs=[] then match inB j (xs.length/sz) with
   | some j=>some { v:=.pp xs (j*sz) }
   | none=>none
   else none
  | .osl id off len s,some j=>if s=sz then match inB j len with
   | some j=>some { v:=.ref id (off+j*sz) }
   | none=>none
   else none
  | _,_=>none
 | .ixA k sz ag x i=>match ev T x,asI (ev T i) with
  | .agg cs,some j=>match inB j k with
   | some j=>match rd cs (j*sz) sz ag with
    | some v=>some { v }
    | none=>none
   | none=>none
  | _,_=>none
 | .ixS x i=>match ev T x,asI (ev T i) with
  | .str l,some j=>if 0≤j then match l[j.toNat]? with
   | some b=>some { v:=ofB b }
   | none=>none
   else none
  | _,_=>none
 | .ext x i=>match ev T x with
  | .tup vs=>match vs[i]? with
   | some v=>some { v }
   | none=>none
  | _=>none
 | .mkf f fs cs=>some { v:=.fn f (fs.map (ev T)) (cs.map (ev T)) }
 | .mks m sz bytes z l k=>match asI (ev T l),asI (ev T k) with
  | some l,some k=>
   if 0≤l∧l≤k∧k.toNat*bytes≤room∧0<bytes∧z.length=sz∧0<sz∧bK z=true then
    (if m then some { v:=.osl n 0 l.toNat sz,new:=some (List.replicate l.toNat z).flatten }
     else some { v:=.sl c sz (List.replicate l.toNat z).flatten,nb:=1 })
   else none
  | _,_=>none
 | .slS x lo hi=>match ev T x with
  | .str l=>match eX T l.length lo hi none with
   | some (a,b,_)=>some { v:=.str ((l.take b).drop a) }
   | none=>none
  | _=>none
 | .slL sz x lo hi mx=>match ev T x with
  | .sl br s xs=>if s=sz∨(xs=[]∧br<2) then match eX T (xs.length/sz) lo hi mx with
   | some (a,b,m)=>
    some { v:=eo (if br=0 then 0 else if mx.isSome then (if m=b then 3 else 1) else if b=xs.length/sz then (if br=3 then 3 else if a=0 then br else 1) else 1) sz ((xs.take (b*sz)).drop (a*sz)) }
   | none=>none
   else none
  | .osl id off len s=>if s=sz∧mx.isNone then match eX T len lo hi none with
   | some (a,b,_)=>if a=b then some { v:=csl sz [] } else some { v:=.osl id (off+a*sz) (b-a) sz }
   | none=>none
   else none
  | _=>none
 | .slA k sz x lo hi mx=>match eX T k lo hi mx with
  | some (a,b,m)=>if a=b then (match ev T x with
   | .ref _ _ | .pp _ _=>some { v:=csl sz [] }
   | _=>none) else match ev T x with
   | .ref id o=>some { v:=.osl id (o+a*sz) (b-a) sz }
   | .pp xs o=>if o+b*sz≤xs.length then some { v:=eo (if m=b then 3 else 1) sz ((xs.take (o+b*sz)).drop (o+a*sz)) } else none
   | _=>none
  | none=>none
 | .app sz bytes x y=>match ev T x,src H sz (ev T y) with
  | .sl br s xs,some ys=>
   if (s=sz∨(xs=[]∧br<4))∧0<sz∧0<bytes∧(xs.length+ys.length)/sz*bytes≤room then
    (if br=0∨br=3 then (if ys=[] then some { v:=.sl br sz xs } else some { v:=.sl c sz (xs++ys),nb:=1 })
     else if 4≤br∧lv br=true then some { v:=.sl c sz (xs++ys),use:=some br,nb:=1 }
     else if ys=[] then some { v:=csl sz xs } else none)
   else none
  | _,_=>none
 | .appo sz bytes x y=>match ev T x,src H sz (ev T y) with
  | .sl br s xs,some ys=>
   if (br=0∨br=3)∧(s=sz∨(xs=[]∧br<4))∧0<sz∧0<bytes∧ys≠[]∧(xs.length+ys.length)/sz*bytes≤room then
    some { v:=.osl n 0 ((xs.length+ys.length)/sz) sz,new:=some (xs++ys) }
   else none
  | _,_=>none
 | .cpy sz x y=>match ev T x,src H sz (ev T y) with
  | .osl id off len s,some ys=>
   if s=sz∧0<sz∧off+len*sz≤(H id).length then
    some { v:=.int .i64 (min (ys.length/sz) len:Nat),wr:=some (id,cd (H id) off (ys.take (min (ys.length/sz) len*sz))) }
   else none
  | .sl _ _ [],some _=>some { v:=.int .i64 0 }
  | _,_=>none
 | .len sz x=>match ev T x with
  | .sl _ s xs=>if s=sz∨xs=[] then some { v:=.int .i64 (xs.length/sz:Nat) } else none
  | .osl _ _ len _=>some { v:=.int .i64 len }
  | _=>none
 | .lenS x=>match ev T x with
  | .str l=>some { v:=.int .i64 l.length }
  | _=>none
 | .s2a k sz x=>match ev T x with
  | .sl _ s xs=>if s=sz∧0<k∧0<sz∧k*sz≤xs.length then some { v:=.pp xs 0 } else none
  | .osl id off len s=>if s=sz∧0<k∧k≤len then some { v:=.ref id off } else none
  | _=>none
 | .s2s x=>match ev T x with
  | .str l=>some { v:=.str l }
  | _=>none
 | .mn mx (x::xs)=>match hU mx T (ev T x) xs with
  | some v=>some { v }
  | none=>none
 | .mn _ []=>none
 | .mkif t x=>match ev T x with
  | .junk | .tup _ | .iface _ _ | .nilif=>none
  | v=>some { v:=.iface t v }
 | .mkm=>some { v:=.mp n,new:=some [.bool true] }
 | .mupd kd m k v=>match ev T m with
  | .mp id=>match H id with
   | .bool true::es=>if kd<3∧(ev T k).scalar=true∧(stored (ev T v)).isSome=true then
    match dU kd (ev T k) (ev T v) es with
    | some es=>some { v:=.tup [],wr:=some (id,.bool true::es) }
    | none=>none
    else none
   | _=>none
  | _=>none
 | .mget kd ok z m k=>match ev T m with
  | .mp id=>match H id with
   | .bool true::es=>if kd<3∧(ev T k).scalar=true then
    match getM kd (ev T k) es with
    | some (some v)=>some { v:=if ok then .tup [v,.bool true] else v }
    | some none=>some { v:=if ok then .tup [z,.bool false] else z }
    | none=>none
    else none
   | _=>none
  | _=>none
 | .mlen m=>match ev T m with
  | .mp id=>match H id with
   | .bool true::es=>some { v:=.int .i64 (es.length/2:Nat) }
   | _=>none
  | _=>none
 | .callp _ _ _ | .calln _ _ | .calls _ _ | .callv _ _ | .calli _ _ _=>none
structure Hs where
 H:Hp
 n:Nat
 lv:Nat→Bool
 c:Nat
def leaves:AV→List AV
 | .tup vs=>vs.flatMap AV.cells
 | v=>v.cells
def db:AV→Bool
 | .sl _ _ _ | .osl _ _ _ _=>true
 | _=>false
def aA (f:AV→AV):AV→AV
 | .tup vs=>.tup (vs.map fun | .agg cs=>.agg (cs.map f) | v=>f v)
 | .agg cs=>.agg (cs.map f)
 | v=>f v
def jb (H:Hp) (n:Nat):AV→AV
 | .ref id off=>if id<n then .ref id off else .cp (H id) off
 | v=>v
def bM (H:Hp) (n:Nat):AV→AV
 | .fn f fs cs=>.fn f (fs.map (jb H n)) (cs.map (jb H n))
 | .osl id off len sz=>if id<n then .osl id off len sz else csl sz ((((H id).drop off).take (len*sz)).map aF)
 | v=>v
def fk (H:Hp) (n:Nat):AV→Bool
 | .osl id off len sz=>decide (id<n)||(decide (off+len*sz≤(H id).length)&&bK (((H id).drop off).take (len*sz)))
 | _=>true
def aO (one:Bool) (lv:Nat→Bool):AV→AV
 | .sl br sz xs=>if br≤1 then .sl br sz xs else if 4≤br∧(one&&lv br)=true then .sl 2 sz xs else csl sz xs
 | v=>v
def aV (n:Nat) (H:Hp):Hp:=fun id=>if bJ n (H id)=true then H id else []
def trim (n:Nat) (H:Hp):Hp:=fun id=>if id<n then aV n H id else []
def ga (T:Nat→AV) (H:Hp):List lq→Option (List AV)
 | []=>some []
 | .t n::rs=>match ga T H rs with
  | some vs=>some (T n::vs)
  | none=>none
 | .cell n sz ag::rs=>match T n with
  | .ref id off=>match rd (H id) off sz ag,ga T H rs with
   | some v,some vs=>some (v::vs)
   | _,_=>none
  | _=>none
def eW:List AV→AV
 | [v]=>v
 | vs=>.tup vs
inductive Ex where
 | norm
 | exit (id:Nat)
 | ret
def finish (fn:IFn) (n:Nat) (S:St):Option (AV×Hs):=
 match ga S.T S.H fn.res with
 | none=>none
 | some vs=>
  let r:=eW vs
  if (leaves r).all (fk S.H n) then
   let r':=aA (bM S.H n) r
   if r'.under n then some (r',{ H:=trim n S.H,n:=n,lv:=S.lv,c:=S.c }) else none
  else none
def own (lv:Nat→Bool) (r:AV):AV:=aA (aO (decide (((leaves r).filter db).length=1)) lv) r
def bB (m n c:Nat):AV→AV
 | .sl br sz xs=>if br=2 then (if m=1 then .sl c sz xs else .osl n 0 (xs.length/sz) sz) else .sl br sz xs
 | v=>v
def eM:List AV→Option (Nat×List AV)
 | []=>none
 | .sl br sz xs::rest=>if br=2 then some (sz,xs) else eM rest
 | _::rest=>eM rest
def noRoom:AV→Bool
 | .sl br _ xs=>decide (br=0)&&xs.isEmpty
 | v=>v.scalar
def gv (m n c:Nat) (r:AV):Option Eff:=
 if m=0 then some { v:=aA aF r }
 else match eM (leaves r) with
  | none=>if m=1∧(leaves r).all noRoom=true then some { v:=r } else none
  | some (sz,xs)=>
   if (leaves r).all (fun v=>v.scalar||db v)=true∧((leaves r).filter db).length=1 then
    if m=1 then some { v:=aA (bB 1 n c) r,nb:=1 }
    else if xs.all AV.scalar=true∧0<sz then some { v:=aA (bB 2 n c) r,new:=some xs } else none
   else none
def bU (H:Hp):AV→AV
 | .osl id off len sz=>csl sz ((((H id).drop off).take (len*sz)).map aF)
 | v=>v
def ep (H:Hp):AV→Bool
 | .osl id off len sz=>decide (off+len*sz≤(H id).length)&&bK (((H id).drop off).take (len*sz))
 | v=>v.flat
def h0:Hs:={ H:=fun _=>[],n:=0,lv:=fun _=>false,c:=4 }
abbrev jV:=FuncId→List AV→Hs→(Nat→Option TypeId)→Option (AV×Hs)
abbrev fW:=List AV→Hs→(Nat→Option TypeId)→Option (AV×Hs)
abbrev Env:=Nat→Option fW
structure aE where
 ff:Env→jV
 env:Env
def aE.call (F:aE):jV:=F.ff F.env
instance:CoeFun aE (fun _=>jV):=⟨aE.call⟩
def aE.ext (F:aE) (i:Nat) (y:fW):aE:=⟨F.ff,upd F.env i (some y)⟩
def evP (F:aE) (f:FuncId) (vs:List AV):Option AV:=
 match F f vs h0 (fun _=>none) with
 | some (r,hs)=>if (own hs.lv r).flat then some (own hs.lv r) else none
 | none=>none
inductive de where
 | eff (e:Eff)
 | shared (v:AV) (hs:Hs)
def aR (F:aE) (T:Nat→AV) (H:Hp) (E:Nat→Option TypeId) (lv:Nat→Bool) (n c:Nat):IOp→Option de
 | .callp m f args=>
  if bK (args.map fun x=>(ev T x).share) then
   match evP F f (args.map fun x=>(ev T x).share) with
   | some r=>match gv m n c r with
    | some e=>some (.eff e)
    | none=>none
   | none=>none
  else none
 | .calli tb x args=>match ev T x with
  | .iface t v=>match tb.lookup t with
   | some f=>if bK (v.share::args.map fun x=>(ev T x).share) then
    match evP F f (v.share::args.map fun x=>(ev T x).share) with
    | some r=>some (.eff { v:=aA aF r })
    | none=>none
    else none
   | none=>none
  | _=>none
 | .calln f args=>
  if (args.map (ev T)).all (fun v=>(leaves v).all (ep H)) then
   match evP F f (args.map fun x=>(aA (bU H) (ev T x)).share) with
   | some r=>if (leaves r).all AV.scalar then some (.eff { v:=r }) else none
   | none=>none
  else none
 | .calls f args=>match F f (args.map (ev T)) ⟨H,n,lv,c⟩ E with
  | some (v,hs)=>some (.shared v hs)
  | none=>none
 | .callv x args=>match ev T x with
  | .fn f fs cs=>match F f (fs++args.map (ev T)++cs) ⟨H,n,lv,c⟩ E with
   | some (v,hs)=>some (.shared v hs)
   | none=>none
  | .yl id=>match F.env id with
   | some y=>match y (args.map (ev T)) ⟨H,n,lv,c⟩ E with
    | some (v,hs)=>some (.shared v hs)
    | none=>none
   | none=>none
  | _=>none
 | _=>none
def bg:IOp→Bool
 | .callp _ _ _ | .calln _ _ | .calls _ _ | .callv _ _ | .calli _ _ _=>true
 | _=>false
def cF (T:Nat→AV) (d:Option Nat) (v:AV):Nat→AV:=
 match d with
 | some d=>upd T d v
 | none=>T
def Eff.st (e:Eff) (S:St) (d:Option Nat):St:=
 { T:=cF S.T d e.v
   H:=match e.wr with
    | some (id,cs)=>upd (match e.new with | some cs=>upd S.H S.n cs | none=>S.H) id cs
    | none=>match e.new with | some cs=>upd S.H S.n cs | none=>S.H
   E:=match e.new with | some _=>upd S.E S.n e.ty | none=>S.E
   n:=match e.new with | some _=>S.n+1 | none=>S.n
   lv:=fun b=>if S.c≤b∧b<S.c+e.nb then true else if e.use=some b then false else S.lv b
   c:=S.c+e.nb }
def bW (T:Nat→AV):Option (Nat×Bool)→Option Bool
 | none=>some true
 | some (t,want)=>match T t with
  | .bool b=>some (b==want)
  | .junk=>none
  | _=>some false
def bA (F:aE) (o:aa) (S:St):Option St:=
 match bW S.T o.guard with
 | none=>none
 | some false=>some { S with T:=cF S.T o.dst (.tup []) }
 | some true=>
  if bg o.op then
   match aR F S.T S.H S.E S.lv S.n S.c o.op with
   | some (.eff e)=>some (e.st S o.dst)
   | some (.shared v hs)=>some { T:=cF S.T o.dst v,H:=hs.H,E:=S.E,n:=hs.n,lv:=hs.lv,c:=hs.c }
   | none=>none
  else match au S.T S.H S.lv S.n S.c o.op with
   | some e=>some (e.st S o.dst)
   | none=>none
def aS (F:aE):List aa→St→Option St
 | [],S=>some S
 | o::os,S=>match bA F o S with
  | some S'=>aS F os S'
  | none=>none
def Sx (F:aE) (l:List aa) (S:St) (j:Nat):St:=(aS F (l.take j) S).getD S
def pop (n:Nat) (S:St):St:={ S with T:=fun t=>jx n (S.T t),H:=aV n S.H,n:=n }
def cg (body:St→Option (Ex×St)) (n:Nat):Nat→St→Option (Ex×St)
 | 0,_=>none
 | k+1,S=>match body S with
  | some (.norm,S')=>cg body n k (pop n S')
  | r=>r
def fN (T:Nat→AV) (p:Nat×Nat):Bool:=match T p.1,T p.2 with
 | .ref a _,.ref b _=>a != b
 | .ref _ _,.pp _ _=>true
 | .pp _ _,.ref _ _=>true
 | _,_=>false
mutual
/-- Are they the same? -/
def ki:AV→AV→Bool
 | .int k n,.int k' n'=>decide (k=k')&&decide (n=n')
 | .bool b,.bool b'=>b==b'
 | .str l,.str l'=>decide (l=l')
 | .sl b z xs,.sl b' z' xs'=>decide (b=b')&&decide (z=z')&&gN xs xs'
 | .pp xs o,.pp xs' o'=>decide (o=o')&&gN xs xs'
 | .cp xs o,.cp xs' o'=>decide (o=o')&&gN xs xs'
 | .ref i o,.ref i' o'=>decide (i=i')&&decide (o=o')
 | .nilp,.nilp=>true
 | .osl i o n z,.osl i' o' n' z'=>decide (i=i')&&decide (o=o')&&decide (n=n')&&decide (z=z')
 | .mp i,.mp i'=>decide (i=i')
 | .yl i,.yl i'=>decide (i=i')
 | .fn f a c,.fn f' a' c'=>decide (f=f')&&gN a a'&&gN c c'
 | .nilfn,.nilfn=>true
 | .iface t v,.iface t' v'=>decide (t=t')&&ki v v'
 | .nilif,.nilif=>true
 | .agg xs,.agg xs'=>gN xs xs'
 | .tup xs,.tup xs'=>gN xs xs'
 | .junk,.junk=>true
 | _,_=>false
def gN:List AV→List AV→Bool
 | [],[]=>true
 | x::xs,y::ys=>ki x y&&gN xs ys
 | _,_=>false
end
def iN (F:aE) (l:List aa) (S:St) (T:Nat→AV) (p:Nat×Nat):Bool:=match T p.2 with
 | .ref id _=>gN ((Sx F l S (p.1+1)).H id) ((Sx F l S p.1).H id)
 | .pp _ _ | .cp _ _ | .tup []=>true
 | _=>false
def nK (T:Nat→AV) (ps:List Nat) (args:List AV):Nat→AV:=(ps.zip args).foldl (fun T p=>upd T p.1 p.2) T
def bh (s:Int):List AV:=[.bool false,.int .i64 s]
def eS:Ex→Int
 | .norm=>0
 | .ret=>1
 | .exit id=>2+id
def qE (s:Int):Option Ex:=
 if s=0 then some .norm else if s=1 then some .ret else if 2≤s then some (.exit (s-2).toNat) else none
def going:Ex→Bool
 | .norm=>true
 | _=>false
def cP (ea eb:St→Option (Ex×St)) (T:Nat→AV) (ps:List Nat) (i:Nat):fW:=fun args hs E=>
 match hs.H i with
 | [.bool false,.int .i64 0]=>
  if args.length=ps.length∧i<hs.n then
   match ea ⟨nK T ps args,hs.H,E,hs.n,hs.lv,hs.c⟩ with
   | some (.norm,S1)=>match S1.H i with
    | [.bool false,.int .i64 0]=>match eb { S1 with H:=upd S1.H i (bh (-1)) } with
     | some (e,S2)=>some (.bool (going e),⟨upd (trim hs.n S2.H) i (bh (eS e)),hs.n,S2.lv,S2.c⟩)
     | none=>none
    | _=>none
   | _=>none
  else none
 | _=>none
def ar (F:aE) (k:Nat):IC→St→Option (Ex×St)
 | .skip,S=>some (.norm,S)
 | .ops _ l,S=>match aS F l S with
  | some S'=>some (.norm,S')
  | none=>none
 | .opsX l ps,S=>match aS F l S with
  | some S'=>if ps.all (fN S'.T) then some (.norm,S') else none
  | none=>none
 | .opsC l ps cs,S=>match aS F l S with
  | some S'=>if ps.all (fN S'.T)&&cs.all (iN F l S S'.T) then some (.norm,S') else none
  | none=>none
 | .seq a b,S=>match ar F k a S with
  | some (.norm,S')=>ar F k b S'
  | r=>r
 | .cond x a b,S=>match ev S.T x with
  | .bool true=>ar F k a S
  | .bool false=>ar F k b S
  | _=>none
 | .block id a,S=>match ar F k a S with
  | some (.exit j,S')=>if j=id then some (.norm,S') else some (.exit j,S')
  | r=>r
 | .loop a,S=>cg (ar F k a) S.n k S
 | .rangeF x ps a b,S=>match ev S.T x with
  | .fn g fs cs=>match (F.ext S.n (cP (ar F k a) (ar F k b) S.T ps S.n)).call g (fs++(.yl S.n::cs)) ⟨upd S.H S.n (bh 0),S.n+1,S.lv,S.c⟩ (upd S.E S.n none) with
   | some (_,hs)=>match hs.H S.n with
    | [.bool false,.int .i64 s]=>match qE s with
     | some e=>some (e,pop S.n { S with H:=hs.H,lv:=hs.lv,c:=hs.c })
     | none=>none
    | _=>none
   | none=>none
  | _=>none
 | .exit id,S=>some (.exit id,S)
 | .ret,S=>some (.ret,S)
 | .bad,_=>none
def entry (vs:List AV) (hs:Hs) (E:Nat→Option TypeId):St:={ T:=fun t=>vs.getD t (.tup []),H:=hs.H,E:=E,n:=hs.n,lv:=hs.lv,c:=hs.c }
inductive cr where
 | code (fn:IFn)
 | prim (p:List AV→Hs→(Nat→Option TypeId)→Option (AV×Hs))
def di (n:Nat) (env:Env):Env:=fun i=>if i<n then env i else none
def bG (FN:FuncId→Option cr):Nat→Env→jV
 | 0,_,_,_,_,_=>none
 | k+1,env,f,vs,hs,E=>match FN f with
  | none=>none
  | some (.prim p)=>p vs hs E
  | some (.code fn)=>match ar ⟨bG FN k,di hs.n env⟩ k fn.body (entry vs hs E) with
   | some (.norm,S)=>finish fn hs.n S
   | some (.ret,S)=>finish fn hs.n S
   | _=>none
def ab (FN:FuncId→Option cr) (k:Nat):aE:=⟨bG FN k,fun _=>none⟩
end Go.Abs
/- What an abstract value says of a value in memory, and what a piece of a run may change: definitions, and that a value goes on saying the same. No condition. -/
namespace Go.Abs
structure Gh where
 β:Nat→Option (Nat×Option Nat)
 σ:Nat→Nat→Prop
 τ:Nat→Option (Nat×Nat)
 ρ:Nat→Option Loop:=fun _=>none
def Emp (br:Nat) (p:Option Addr) (cap:Nat):Prop:=br=1∨(br=3∧cap=0)∨(br=0∧p=none∧cap=0)∨(br=2∧p.isSome=true)
inductive Rep (G:Gh) (w:World):AV→Value→Prop where
 | junk (v:Value):Rep G w .junk v
 | int (k:IntKind) (n:Int):Rep G w (.int k n) (.int k n)
 | bool (b:Bool):Rep G w (.bool b) (.bool b)
 | str (l:List UInt8) (s:ByteArray) (h:s.data.toList=l):Rep G w (.str l) (.string s)
 | emp (br sz:Nat) (p:Option Addr) (cap:Nat) (hb:Emp br p cap):Rep G w (.sl br sz []) (.slice p 0 cap)
 | sl (br sz:Nat) (xs:List AV) (b off len cap:Nat) (hb:br≠0) (hsz:0<sz) (hl:xs.length=len*sz) (hc:len≤cap) (vs:Nat→Value)
  (hk:∀ (i:Nat) (x:AV),xs[i]? = some x→w.cell? ⟨b,off+i,none⟩=some (vs i)∧G.σ b (off+i)∧x.flat=true∧x.leaf=true)
  (hx:∀ (i:Nat) (x:AV),xs[i]? = some x→Rep G w x (vs i))
  (h0:br=3→cap=len)
  (h3:4≤br→G.τ br=some (b,off+xs.length)∧∃ E c,w.shape? b=some (E,c)∧off+cap*sz≤c) :
  Rep G w (.sl br sz xs) (.slice (some ⟨b,off,none⟩) len cap)
 | pp (xs:List AV) (off b o:Nat) (vs:Nat→Value)
  (hk:∀ (i:Nat) (x:AV),xs[i]? = some x→w.cell? ⟨b,o+i,none⟩=some (vs i)∧G.σ b (o+i)∧x.flat=true∧x.leaf=true)
  (hx:∀ (i:Nat) (x:AV),xs[i]? = some x→Rep G w x (vs i)) :
  Rep G w (.pp xs off) (.pointer (some ⟨b,o+off,none⟩))
 | cp (xs:List AV) (off b o:Nat) (vs:Nat→Value)
  (hk:∀ (i:Nat) (x:AV),xs[i]? = some x→w.cell? ⟨b,o+i,none⟩=some (vs i)∧G.σ b (o+i)∧x.leaf=true)
  (hx:∀ (i:Nat) (x:AV),xs[i]? = some x→Rep G w x (vs i)) :
  Rep G w (.cp xs off) (.pointer (some ⟨b,o+off,none⟩))
 | ref (id off b o:Nat) (h:G.β id=some (b,some o)):Rep G w (.ref id off) (.pointer (some ⟨b,o+off,none⟩))
 | nilp:Rep G w .nilp (.pointer none)
 | osl (id off len sz cap b o:Nat) (h:G.β id=some (b,some o)) (hsz:0<sz) (hc:len≤cap) :
  Rep G w (.osl id off len sz) (.slice (some ⟨b,o+off,none⟩) len cap)
 | mp (id b:Nat) (h:G.β id=some (b,none)):Rep G w (.mp id) (.map (some b))
 | yl (id b:Nat) (r:Loop) (h:G.β id=some (b,none)) (hr:G.ρ b=some r):Rep G w (.yl id) (.func (.yield b) #[] #[])
 | fn (f:FuncId) (fs cs:List AV) (gs ds:Array Value) (h1:fs.length=gs.size) (h2:cs.length=ds.size)
  (hf:∀ (i:Nat) (x:AV) (v:Value),fs[i]? = some x→gs[i]? = some v→Rep G w x v)
  (hc:∀ (i:Nat) (x:AV) (v:Value),cs[i]? = some x→ds[i]? = some v→Rep G w x v):Rep G w (.fn f fs cs) (.func (.func f) gs ds)
 | nilfn:Rep G w .nilfn .nilFunc
 | iface (t:TypeId) (x:AV) (v:Value) (hj:x.leaf=true∨∃ cs,x = .agg cs) (h:Rep G w x v):Rep G w (.iface t x) (.iface t v)
 | nilif:Rep G w .nilif .nilIface
 | agg (cs:List AV) (arr:Array Value) (hl:cs.length=arr.size) (hlf:∀ x∈cs,x.leaf=true)
  (h:∀ (i:Nat) (x:AV) (v:Value),cs[i]? = some x→arr[i]? = some v→Rep G w x v):Rep G w (.agg cs) (.agg arr)
 | tup (vs:List AV) (arr:Array Value) (hl:vs.length=arr.size)
  (h:∀ (i:Nat) (x:AV) (v:Value),vs[i]? = some x→arr[i]? = some v→Rep G w x v):Rep G w (.tup vs) (.tuple arr)
def Cells (G:Gh) (w:World) (b o:Nat) (xs:List AV):Prop:=
 ∀ (i:Nat) (x:AV),xs[i]? = some x→∃ v,w.cell? ⟨b,o+i,none⟩=some v∧G.σ b (o+i)∧x.flat=true∧x.leaf=true∧Rep G w x v
def fp (G:Gh) (lv:Nat→Bool) (b:Nat):Prop:=
 (∃ id o,G.β id=some (b,o))∨(∃ br e,lv br=true∧G.τ br=some (b,e))
structure Ext (G:Gh) (lv:Nat→Bool) (w:World) (G':Gh) (lv':Nat→Bool) (w':World):Prop where
 β:∀ id p,G.β id=some p→G'.β id=some p
 σ:∀ b i,G.σ b i→G'.σ b i
 τ:∀ br p,G.τ br=some p→G'.τ br=some p
 σn:∀ b i,G'.σ b i→b<w.heap.size→¬ fp G lv b→G.σ b i
 own:∀ b,b<w.heap.size→fp G' lv' b→fp G lv b
 keep:∀ b,b<w.heap.size→¬ fp G lv b→w'.heap[b]? = w.heap[b]?
 kσ:∀ b i,G.σ b i→w'.cell? ⟨b,i,none⟩=w.cell? ⟨b,i,none⟩
 shp:∀ b,b<w.heap.size→w'.shape? b=w.shape? b
 size:w.heap.size≤w'.heap.size
 os:w'.os=w.os
 tape:w'.tape=w.tape
 output:w'.output=w.output
 ρ:∀ b r,G.ρ b=some r→G'.ρ b=some r
 ρn:∀ b,b<w.heap.size→G.ρ b=none→G'.ρ b=none
theorem Ext.refl (G:Gh) (lv:Nat→Bool) (w:World):Ext G lv w G lv w:=
 ⟨fun _ _ h=>h,fun _ _ h=>h,fun _ _ h=>h,fun _ _ h _ _=>h,fun _ _ h=>h,fun _ _ _=>rfl,fun _ _ _=>rfl,fun _ _=>rfl,Nat.le_refl _,rfl,rfl,rfl,fun _ _ h=>h,fun _ _ h=>h⟩
theorem Ext.trans {G G1 G2:Gh}{lv lv1 lv2:Nat→Bool}{w w1 w2:World}(h:Ext G lv w G1 lv1 w1) (k:Ext G1 lv1 w1 G2 lv2 w2):Ext G lv w G2 lv2 w2 where
 β:=fun id p x=>k.β _ _ (h.β _ _ x)
 σ:=fun b i x=>k.σ _ _ (h.σ _ _ x)
 τ:=fun id p x=>k.τ _ _ (h.τ _ _ x)
 σn:=fun b i x hb ho=>h.σn _ _ (k.σn _ _ x (Nat.lt_of_lt_of_le hb h.size) (fun y=>ho (h.own _ hb y))) hb ho
 own:=fun b hb x=>h.own _ hb (k.own _ (Nat.lt_of_lt_of_le hb h.size) x)
 keep:=fun b hb ho=>(k.keep b (Nat.lt_of_lt_of_le hb h.size) (fun y=>ho (h.own _ hb y))).trans (h.keep b hb ho)
 kσ:=fun b i x=>(k.kσ _ _ (h.σ _ _ x)).trans (h.kσ _ _ x)
 shp:=fun b hb=>(k.shp b (Nat.lt_of_lt_of_le hb h.size)).trans (h.shp b hb)
 size:=Nat.le_trans h.size k.size
 os:=k.os.trans h.os
 tape:=k.tape.trans h.tape
 output:=k.output.trans h.output
 ρ:=fun b r x=>k.ρ b r (h.ρ b r x)
 ρn:=fun b hb x=>k.ρn b (Nat.lt_of_lt_of_le hb h.size) (h.ρn b hb x)
theorem y3 {w:World}{b:Nat}{x:TypeId×Nat}(h:w.shape? b=some x):b<w.heap.size:=by
 unfold World.shape? at h
 rcases Nat.lt_or_ge b w.heap.size with h' | h'
 ·exact h'
 ·simp [Array.getElem?_eq_none h'] at h
structure dV (G:Gh) (w:World) (G':Gh) (w':World):Prop where
 β:∀ id p,G.β id=some p→G'.β id=some p
 σ:∀ b i,G.σ b i→G'.σ b i
 τ:∀ br p,G.τ br=some p→G'.τ br=some p
 kσ:∀ b i,G.σ b i→w'.cell? ⟨b,i,none⟩=w.cell? ⟨b,i,none⟩
 shp:∀ b,b<w.heap.size→w'.shape? b=w.shape? b
 ρ:∀ b r,G.ρ b=some r→G'.ρ b=some r
 ρn:∀ b,b<w.heap.size→G.ρ b=none→G'.ρ b=none
theorem Ext.mono {G:Gh}{lv:Nat→Bool}{w:World}{G':Gh}{lv':Nat→Bool}{w':World}(h:Ext G lv w G' lv' w'):dV G w G' w':=⟨h.β,h.σ,h.τ,h.kσ,h.shp,h.ρ,h.ρn⟩
theorem Rep.mono {G:Gh}{w:World}{x:AV}{v:Value}(h:Rep G w x v):∀ {G':Gh}{w':World},dV G w G' w'→Rep G' w' x v:=by
 induction h with
 | junk v=>intros;exact .junk v
 | int k n=>intros;exact .int k n
 | bool b=>intros;exact .bool b
 | str l s h=>intros;exact .str l s h
 | emp br sz p cap hb=>intros;exact .emp br sz p cap hb
 | sl br sz xs b off len cap hnb hsz hl hc vs hk hx h0 h3 ih=>
  intro G' w' m
  refine .sl br sz xs b off len cap hnb hsz hl hc vs ?_ (fun i x hi=>ih i x hi m) h0 ?_
  ·intro i x hi
   obtain ⟨h1,h2,h4,h5⟩:=hk i x hi
   exact ⟨(m.kσ _ _ h2).trans h1,m.σ _ _ h2,h4,h5⟩
  ·intro hb
   obtain ⟨h1,E,c,h2,h4⟩:=h3 hb
   exact ⟨m.τ _ _ h1,E,c,(m.shp b (y3 h2)).trans h2,h4⟩
 | pp xs off b o vs hk hx ih=>
  intro G' w' m
  refine .pp xs off b o vs ?_ (fun i x hi=>ih i x hi m)
  intro i x hi
  obtain ⟨h1,h2,h4,h5⟩:=hk i x hi
  exact ⟨(m.kσ _ _ h2).trans h1,m.σ _ _ h2,h4,h5⟩
 | cp xs off b o vs hk hx ih=>
  intro G' w' m
  refine .cp xs off b o vs ?_ (fun i x hi=>ih i x hi m)
  intro i x hi
  obtain ⟨h1,h2,h4⟩:=hk i x hi
  exact ⟨(m.kσ _ _ h2).trans h1,m.σ _ _ h2,h4⟩
 | ref id off b o h=>intro G' w' m;exact .ref id off b o (m.β _ _ h)
 | nilp=>intros;exact .nilp
 | osl id off len sz cap b o h hsz hc=>
  intro G' w' m
  exact .osl id off len sz cap b o (m.β _ _ h) hsz hc
 | mp id b h=>intro G' w' m;exact .mp id b (m.β _ _ h)
 | yl id b r h hr=>intro G' w' m;exact .yl id b r (m.β _ _ h) (m.ρ _ _ hr)
 | fn f fs cs gs ds h1 h2 hf hc ihf ihc=>
  intro G' w' m
  exact .fn f fs cs gs ds h1 h2 (fun i x v a b=>ihf i x v a b m) (fun i x v a b=>ihc i x v a b m)
 | nilfn=>intros;exact .nilfn
 | iface t x v hj h ih=>intro G' w' m;exact .iface t x v hj (ih m)
 | nilif=>intros;exact .nilif
 | agg cs arr hl hlf h ih=>intro G' w' m;exact .agg cs arr hl hlf (fun i x v a b=>ih i x v a b m)
 | tup vs arr hl h ih=>intro G' w' m;exact .tup vs arr hl (fun i x v a b=>ih i x v a b m)
theorem Cells.mono {G:Gh}{w:World}{b o:Nat}{xs:List AV}(h:Cells G w b o xs) {G':Gh}{w':World}(m:dV G w G' w'):Cells G' w' b o xs:=by
 intro i x hi
 obtain ⟨v,h1,h2,h4,h5,h6⟩:=h i x hi
 exact ⟨v,(m.kσ _ _ h2).trans h1,m.σ _ _ h2,h4,h5,h6.mono m⟩
def eY (G:Gh) (w:World):List AV→List MapEntry→Prop
 | [],[]=>True
 | k::v::l,e::es=>k.scalar=true∧Rep G w k e.key∧(stored v).isSome=true∧Rep G w v e.val∧eY G w l es
 | _,_=>False
theorem eY.imp {G G':Gh}{w w':World}:∀ {l:List AV}{es:List MapEntry},(∀ x v,x∈l→Rep G w x v→Rep G' w' x v)→eY G w l es→eY G' w' l es
 | [],[],_,_=>trivial
 | [],_::_,_,h=>h.elim
 | [_],[],_,h=>h.elim
 | [_],_::_,_,h=>h.elim
 | _::_::_,[],_,h=>h.elim
 | k::v::l,e::es,f,h=>by
  obtain ⟨h1,h2,h3,h4,h5⟩:=h
  exact ⟨h1,f k _ List.mem_cons_self h2,h3,f v _ (List.mem_cons_of_mem _ List.mem_cons_self) h4,h5.imp fun x u hx=>f x u (List.mem_cons_of_mem _ (List.mem_cons_of_mem _ hx))⟩
structure qt (r0 r:Loop):Prop where
 fn:r.fn=r0.fn
 tmps:r.tmps=r0.tmps
 params:r.params=r0.params
 assign:r.assign=r0.assign
 body:r.body=r0.body
 defers:r.defers=r0.defers
def iq (s:Int):Option Code:=
 if s=1 then some .ret else if 2≤s then some (.exit (s-2).toNat) else none
def LSt (r:Loop) (hs:List AV):Prop:=
 hs=[]∨∃ s:Int,hs=bh s∧(s=0→r.state = .ready∧r.pending=none)∧(0<s→r.state = .done∧r.pending=iq s)
def dj (G:Gh) (w:World) (b:Nat) (hs:List AV):Prop:=match G.ρ b with
 | none=>∃ es clock,w.heap[b]? = some (.map es clock)∧∀ l,hs = .bool true::l→eY G w l es.toList
 | some r0=>∃ r,w.heap[b]? = some (.loop r)∧qt r0 r∧LSt r hs
theorem dj.lt {G:Gh}{w:World}{b:Nat}{hs:List AV}(h:dj G w b hs):b<w.heap.size:=by
 unfold dj at h
 rcases Nat.lt_or_ge b w.heap.size with h' | h'
 ·exact h'
 ·split at h
  ·obtain ⟨_,_,h,_⟩:=h
   simp [Array.getElem?_eq_none h'] at h
  ·obtain ⟨_,h,_⟩:=h
   simp [Array.getElem?_eq_none h'] at h
theorem dj.map {G:Gh}{w:World}{b:Nat}{l:List AV}(h:dj G w b (.bool true::l)):∃ es clock,w.heap[b]? = some (.map es clock)∧eY G w l es.toList:=by
 unfold dj at h
 split at h
 ·obtain ⟨es,ck,h1,h2⟩:=h
  exact ⟨es,ck,h1,h2 l rfl⟩
 ·obtain ⟨r,_,_,h3⟩:=h
  rcases h3 with h3 | ⟨s,h3,_⟩
  ·cases h3
  ·cases h3
theorem dj.isMap {G:Gh}{w:World}{b:Nat}{l:List AV}(h:dj G w b (.bool true::l)):G.ρ b=none:=by
 unfold dj at h
 cases hr:G.ρ b with
 | none=>rfl
 | some r0=>
  rw [hr] at h
  obtain ⟨r,_,_,h3⟩:=h
  rcases h3 with h3 | ⟨s,h3,_⟩
  ·cases h3
  ·cases h3
theorem dj.of_map {G:Gh}{w:World}{b ck:Nat}{es:Array MapEntry}{hs:List AV}(hr:G.ρ b=none) (h1:w.heap[b]? = some (.map es ck)) (h2:∀ l,hs = .bool true::l→eY G w l es.toList):dj G w b hs:=by
 unfold dj;rw [hr];exact ⟨es,ck,h1,h2⟩
theorem dj.keep {G G':Gh}{w w':World}{b:Nat}{hs hs':List AV}(h:dj G w b hs) (hρ:G'.ρ b=G.ρ b) (hk:w'.heap[b]? = w.heap[b]?) (hh:hs'=hs∨hs'=[]) (f:∀ x v,x∈hs'→Rep G w x v→Rep G' w' x v):dj G' w' b hs':=by
 unfold dj at h ⊢
 rw [hρ,hk]
 cases hr:G.ρ b with
 | none=>
  rw [hr] at h
  obtain ⟨es,ck,h1,h2⟩:=h
  refine ⟨es,ck,h1,fun l hl=>?_⟩
  rcases hh with rfl | rfl
  ·exact (h2 l hl).imp fun x v hx q=>f x v (by rw [hl];exact List.mem_cons_of_mem _ hx) q
  ·cases hl
 | some r0=>
  rw [hr] at h
  obtain ⟨r,h1,h2,h3⟩:=h
  refine ⟨r,h1,h2,?_⟩
  rcases hh with rfl | rfl
  ·exact h3
  ·exact .inl rfl
structure aG (G:Gh) (H:Hp) (E:Nat→Option TypeId) (lv:Nat→Bool) (w:World):Prop where
 obj:∀ id b o,G.β id=some (b,some o)→∃ cs T fz,w.heap[b]? = some (.cells cs T fz)∧o+(H id).length≤cs.size∧
  (∀ i x,(H id)[i]? = some x→True∧x.leaf=true∧∃ v,cs[o+i]? = some v∧Rep G w x v)∧(∀ i,i<(H id).length→w.frozen? ⟨b,o+i,none⟩=false)∧(∀ t,E id=some t→T=t∧o=0)
 mobj:∀ id b,G.β id=some (b,none)→dj G w b (H id)
 nσ:∀ id b o,G.β id=some (b,o)→∀ i,¬ G.σ b i
 inj:∀ id id' b o o',G.β id=some (b,o)→G.β id'=some (b,o')→id=id'
 tip:∀ br,lv br=true→4≤br∧∃ b e cs E fz,G.τ br=some (b,e)∧w.heap[b]? = some (.cells cs E fz)∧(∀ i,i<cs.size→w.frozen? ⟨b,i,none⟩=false)∧
  (∀ i,e≤i→¬ G.σ b i)∧∀ id o,G.β id≠some (b,o)
 tinj:∀ br br' b e e',lv br=true→lv br'=true→G.τ br=some (b,e)→G.τ br'=some (b,e')→br=br'
 σlt:∀ b i,G.σ b i→b<w.heap.size
 τlt:∀ br b e,G.τ br=some (b,e)→b<w.heap.size
 ρlt:∀ b r,G.ρ b=some r→b<w.heap.size
theorem aG.βlt {G:Gh}{H:Hp}{E:Nat→Option TypeId}{lv:Nat→Bool}{w:World}(h:aG G H E lv w) {id b:Nat}{o:Option Nat}(hb:G.β id=some (b,o)):b<w.heap.size:=by
 cases o with
 | some o=>
  obtain ⟨cs,T,fz,h1,_⟩:=h.obj id b o hb
  rcases Nat.lt_or_ge b w.heap.size with h' | h'
  ·exact h'
  ·simp [Array.getElem?_eq_none h'] at h1
 | none=>exact (h.mobj id b hb).lt
theorem dV.ρeq {G G':Gh}{w w':World}(m:dV G w G' w') {b:Nat}(hb:b<w.heap.size):G'.ρ b=G.ρ b:=by
 cases h:G.ρ b with
 | none=>exact m.ρn b hb h
 | some r=>exact m.ρ b r h
theorem aG.mobj_of {G G':Gh}{H H':Hp}{E:Nat→Option TypeId}{lv:Nat→Bool}{w w':World}(h:aG G H E lv w) (m:dV G w G' w') {id b:Nat}(hb:G.β id=some (b,none)) (hk:w'.heap[b]? = w.heap[b]?) (hh:H' id=H id) :
 dj G' w' b (H' id):=
 (h.mobj id b hb).keep (m.ρeq (h.βlt hb)) hk (.inl hh) fun _ _ _ q=>q.mono m
theorem cm (l:List AV):bK l=true↔∀ x∈l,x.flat=true:=by
 induction l with
 | nil=>simp [bK]
 | cons x xs ih=>simp [bK,ih]
theorem bO (n:Nat) (l:List AV):bJ n l=true↔∀ x∈l,x.under n=true:=by
 induction l with
 | nil=>simp [bJ]
 | cons x xs ih=>simp [bJ,ih]
structure AB (G:Gh) (w:World) (G':Gh) (w':World):Prop where
 σ:∀ b i,G.σ b i→G'.σ b i
 kσ:∀ b i,G.σ b i→w'.cell? ⟨b,i,none⟩=w.cell? ⟨b,i,none⟩
theorem Rep.fmono {G:Gh}{w:World}{x:AV}{v:Value}(h:Rep G w x v):∀ {G':Gh}{w':World},AB G w G' w'→x.flat=true→Rep G' w' x v:=by
 induction h with
 | junk v=>intros;exact .junk v
 | int k n=>intros;exact .int k n
 | bool b=>intros;exact .bool b
 | str l s h=>intros;exact .str l s h
 | emp br sz p cap hb=>intros;exact .emp br sz p cap hb
 | sl br sz xs b off len cap hnb hsz hl hc vs hk hx h0 h3 ih=>
  intro G' w' m hf
  refine .sl br sz xs b off len cap hnb hsz hl hc vs ?_ (fun i x hi=>ih i x hi m (hk i x hi).2.2.1) h0 ?_
  ·intro i x hi
   obtain ⟨h1,h2,h4,h5⟩:=hk i x hi
   exact ⟨(m.kσ _ _ h2).trans h1,m.σ _ _ h2,h4,h5⟩
  ·intro hb
   simp only [AV.flat,decide_eq_true_eq] at hf
   omega
 | pp xs off b o vs hk hx ih=>intro G' w' m hf;simp [AV.flat] at hf
 | cp xs off b o vs hk hx ih=>intro G' w' m hf;simp [AV.flat] at hf
 | ref id off b o h=>intro G' w' m hf;simp [AV.flat] at hf
 | nilp=>intros;exact .nilp
 | osl id off len sz cap b o h hsz hc=>intro G' w' m hf;simp [AV.flat] at hf
 | mp id b h=>intro G' w' m hf;simp [AV.flat] at hf
 | yl id b r h hr=>intro G' w' m hf;simp [AV.flat] at hf
 | fn f fs cs gs ds h1 h2 hf hc ihf ihc=>intro G' w' m hf;simp [AV.flat] at hf
 | nilfn=>intros;exact .nilfn
 | iface t x v hj h ih=>intro G' w' m hf;simp only [AV.flat] at hf;exact .iface t x v hj (ih m hf)
 | nilif=>intros;exact .nilif
 | agg cs arr hl hlf h ih=>
  intro G' w' m hf
  simp only [AV.flat,cm] at hf
  exact .agg cs arr hl hlf (fun i x v a b=>ih i x v a b m (hf x (List.mem_of_getElem? a)))
 | tup vs arr hl h ih=>
  intro G' w' m hf
  simp only [AV.flat,cm] at hf
  exact .tup vs arr hl (fun i x v a b=>ih i x v a b m (hf x (List.mem_of_getElem? a)))
theorem Rep.cut {G:Gh}{w:World}{x:AV}{v:Value}(h:Rep G w x v) {n:Nat}{β':Nat→Option (Nat×Option Nat)}(hβ:∀ id,id<n→β' id=G.β id) :
 x.under n=true→Rep { G with β:=β' } w x v:=by
 induction h with
 | junk v=>intros;exact .junk v
 | int k n=>intros;exact .int k n
 | bool b=>intros;exact .bool b
 | str l s h=>intros;exact .str l s h
 | emp br sz p cap hb=>intros;exact .emp br sz p cap hb
 | sl br sz xs b off len cap hnb hsz hl hc vs hk hx h0 h3 ih=>
  intro hu
  exact .sl br sz xs b off len cap hnb hsz hl hc vs hk (fun i x hi=>(hx i x hi).fmono ⟨fun _ _ h=>h,fun _ _ _=>rfl⟩ (hk i x hi).2.2.1) h0 h3
 | pp xs off b o vs hk hx ih=>
  intro hu
  exact .pp xs off b o vs hk (fun i x hi=>(hx i x hi).fmono ⟨fun _ _ h=>h,fun _ _ _=>rfl⟩ (hk i x hi).2.2.1)
 | cp xs off b o vs hk hx ih=>
  intro hu
  simp only [AV.under,bO] at hu
  exact .cp xs off b o vs hk (fun i x hi=>ih i x hi (hu x (List.mem_of_getElem? hi)))
 | ref id off b o h=>intro hu;simp only [AV.under,decide_eq_true_eq] at hu;exact .ref id off b o ((hβ id hu).trans h)
 | nilp=>intros;exact .nilp
 | osl id off len sz cap b o h hsz hc=>intro hu;simp only [AV.under,decide_eq_true_eq] at hu;exact .osl id off len sz cap b o ((hβ id hu).trans h) hsz hc
 | mp id b h=>intro hu;simp only [AV.under,decide_eq_true_eq] at hu;exact .mp id b ((hβ id hu).trans h)
 | yl id b r h hr=>intro hu;simp only [AV.under,decide_eq_true_eq] at hu;exact .yl id b r ((hβ id hu).trans h) hr
 | fn f fs cs gs ds h1 h2 hf hc ihf ihc=>
  intro hu
  simp only [AV.under,Bool.and_eq_true,bO] at hu
  exact .fn f fs cs gs ds h1 h2 (fun i x v a b=>ihf i x v a b (hu.1 x (List.mem_of_getElem? a))) (fun i x v a b=>ihc i x v a b (hu.2 x (List.mem_of_getElem? a)))
 | nilfn=>intros;exact .nilfn
 | iface t x v hj h ih=>intro hu;simp only [AV.under] at hu;exact .iface t x v hj (ih hu)
 | nilif=>intros;exact .nilif
 | agg cs arr hl hlf h ih=>
  intro hu
  simp only [AV.under,bO] at hu
  exact .agg cs arr hl hlf (fun i x v a b=>ih i x v a b (hu x (List.mem_of_getElem? a)))
 | tup vs arr hl h ih=>
  intro hu
  simp only [AV.under,bO] at hu
  exact .tup vs arr hl (fun i x v a b=>ih i x v a b (hu x (List.mem_of_getElem? a)))
theorem Rep.under {G:Gh}{w:World}{x:AV}{v:Value}(h:Rep G w x v) {n:Nat}(hβ:∀ id p,G.β id=some p→id<n):x.under n=true:=by
 induction h with
 | ref id off b o h=>simp only [AV.under,decide_eq_true_eq];exact hβ _ _ h
 | osl id off len sz cap b o h hsz hc=>simp only [AV.under,decide_eq_true_eq];exact hβ _ _ h
 | mp id b h=>simp only [AV.under,decide_eq_true_eq];exact hβ _ _ h
 | yl id b r h hr=>simp only [AV.under,decide_eq_true_eq];exact hβ _ _ h
 | cp xs off b o vs hk hx ih=>
  simp only [AV.under,bO]
  intro x hx'
  obtain ⟨i,hi⟩:=List.getElem?_of_mem hx'
  exact ih i x hi
 | fn f fs cs gs ds h1 h2 hf hc ihf ihc=>
  simp only [AV.under,Bool.and_eq_true,bO]
  refine ⟨fun x hx=>?_,fun x hx=>?_⟩
  ·obtain ⟨i,hi⟩:=List.getElem?_of_mem hx
   have hlt:i<gs.size:=by rw [← h1];exact (List.getElem?_eq_some_iff.1 hi).1
   exact ihf i x gs[i] hi (Array.getElem?_eq_getElem hlt)
  ·obtain ⟨i,hi⟩:=List.getElem?_of_mem hx
   have hlt:i<ds.size:=by rw [← h2];exact (List.getElem?_eq_some_iff.1 hi).1
   exact ihc i x ds[i] hi (Array.getElem?_eq_getElem hlt)
 | iface t x v hj h ih=>simpa only [AV.under] using ih
 | agg cs arr hl hlf h ih=>
  simp only [AV.under,bO]
  intro x hx
  obtain ⟨i,hi⟩:=List.getElem?_of_mem hx
  have hlt:i<arr.size:=by rw [← hl];exact (List.getElem?_eq_some_iff.1 hi).1
  exact ih i x arr[i] hi (Array.getElem?_eq_getElem hlt)
 | tup vs arr hl h ih=>
  simp only [AV.under,bO]
  intro x hx
  obtain ⟨i,hi⟩:=List.getElem?_of_mem hx
  have hlt:i<arr.size:=by rw [← hl];exact (List.getElem?_eq_some_iff.1 hi).1
  exact ih i x arr[i] hi (Array.getElem?_eq_getElem hlt)
 | _=>rfl
theorem Rep.one {G:Gh}{w:World}{x:AV}{v:Value}(h:Rep G w x v) (hx:x.leaf=true):v.oneCell'=true:=by
 cases h<;>first | rfl | (simp [AV.leaf] at hx)
theorem Rep.cells_size {G:Gh}{w:World}{x:AV}{v:Value}(h:Rep G w x v) {cs:List AV}(hs:stored x=some cs) :
 v.cells.size=cs.length∧∀ (i:Nat) (y:AV),cs[i]? = some y→∃ u,v.cells[i]? = some u∧y.leaf=true∧Rep G w y u:=by
 cases h<;>simp only [stored,Option.some.injEq,reduceCtorEq] at hs<;>subst hs
 case agg arr hl hlf h=>
  refine ⟨hl.symm,fun i y hi=>?_⟩
  have hlt:i<arr.size:=by rw [← hl];exact (List.getElem?_eq_some_iff.1 hi).1
  exact ⟨arr[i],Array.getElem?_eq_getElem hlt,hlf y (List.mem_of_getElem? hi),h i y arr[i] hi (Array.getElem?_eq_getElem hlt)⟩
 all_goals
  refine ⟨rfl,fun i y hi=>?_⟩
  cases i with
  | succ i=>simp at hi
  | zero=>
   simp only [List.getElem?_cons_zero,Option.some.injEq] at hi
   subst hi
   refine ⟨_,rfl,rfl,?_⟩
   constructor<;>assumption
end Go.Abs
/- From a function of the loaded program to its resolved form: sizes and offsets are looked up, each region that draws its order is checked to come to the same in every order. Definitions alone. -/
namespace Go.Abs
structure Hint where
 shared:FuncId→Bool:=fun _=>false
 mode:Nat→Nat:=fun _=>0
def aI:Operand→Option X
 | .tmp t=>some (.t t)
 | .const v=>(ofV v).map .c
 | .func f=>some (.c (.fn f [] []))
 | .global _=>none
def cW:List Operand→Option (List X)
 | []=>some []
 | x::xs=>match aI x,cW xs with
  | some a,some l=>some (a::l)
  | _,_=>none
def dW:Option Operand→Option (Option X)
 | none=>some none
 | some x=>(aI x).map some
def oV:List Value→Option (List AV)
 | []=>some []
 | v::vs=>match ofV v,oV vs with
  | some a,some l=>some (a::l)
  | _,_=>none
section
variable (P:Program)
def bu (t:TypeId):Option Nat:=(P.info? t).map (·.size)
def fX (t:TypeId):Option (List AV):=match P.info? t with
 | some i=>match i.zero with
  | some z=>oV z.cells.toList
  | none=>none
 | none=>none
def eD (t:TypeId):Option Bool:=match P.underlying t with
 | some (.struct _) | some (.array _ _)=>some true
 | some _=>some false
 | none=>none
def jW (P:Program) (kt:TypeId→Option (List Nat)) (off:Nat):List Field→Option (List Nat)
 | []=>some []
 | f::fs=>match bu P f.type,kt f.type with
  | some s,some ks=>if f.name != "_" && decide (f.offset=off)&&decide (ks.length=s) then (jW P kt (off+s) fs).map (ks ++ ·) else none
  | _,_=>none
def fO (P:Program):Nat→TypeId→Option (List Nat)
 | 0,_=>none
 | d+1,t=>match P.underlying t,bu P t with
  | some (.int _),some 1=>some [0]
  | some .bool,some 1=>some [1]
  | some .string,some 1=>some [2]
  | some (.struct fs),some s=>if P.stoodInHeld t then none else match jW P (fO P d) 0 fs.toList with
   | some ks=>if ks.length=s then some ks else none
   | none=>none
  | some (.array n e),some s=>match fO P d e with
   | some ks=>if s=n*ks.length∧bu P e=some ks.length then some (List.replicate n ks).flatten else none
   | none=>none
  | _,_=>none
def mm (fs:Array Field):Option (List (Nat×Nat)):=fs.toList.mapM fun f=>(bu P f.type).map fun s=>(f.offset,s)
def dh (place:Nat→Option (Nat×Nat)):List (Nat×Operand)→Option (List (Nat×Nat×X))
 | []=>some []
 | (i,x)::ps=>match place i,aI x,dh place ps with
  | some (o,s),some a,some l=>some ((o,s,a)::l)
  | _,_,_=>none
def kl (n:Nat) (z:List AV):List AV:=(List.replicate n z).flatten
def qu (t:TypeId):Option Nat:=match P.underlying t with
 | some (.map k _)=>match P.underlying k with
  | some (.int _)=>some 0
  | some .bool=>some 1
  | some .string=>some 2
  | _=>none
 | _=>none
def nL (t:TypeId):Option AV:=match P.info? t with
 | some i=>match i.zero with
  | some (.agg cs)=>(oV cs.toList).map .agg
  | some z=>ofV z
  | none=>none
 | none=>none
def AD (t:TypeId):Option AV:=match P.underlying t with
 | some (.map _ e)=>nL P e
 | _=>none
def mo (name:String) (t:TypeId):Option FuncId:=match P.info? t,P.underlying t with
 | some i,some (.struct _)=>match i.methods.find? (·.name==name) with
  | some m=>match m.path.toList,m.func with
   | [],some (f,false)=>match P.funcs[f]? with
    | some fn=>if fn.body.isSome && !(fn.name == "runtime.NumGoroutine") then some f else none
    | none=>none
   | _,_=>none
  | none=>none
 | _,_=>none
def qF (name:String):List (TypeId×FuncId):=(List.range P.types.size).filterMap fun t=>(mo P name t).map (t,·)
@[noinline] def gh (h:Hint) (o:Oper) (c:Call):Option IOp:=
 match c.callee,c.args.toList with
 | .builtin .append,[x,y]=>match (c.argTypes[0]?).bind P.underlying,(c.argTypes[1]?).bind P.underlying,aI x,aI y with
  | some (.slice e),some d,some x,some y=>match P.info? e with
   | some i=>if (match d with | .int _=>true | _=>false)||decide ((fX P e).map List.length≠some i.size) then none else some (if (match o.dst with | some d=>decide (h.mode d=2) | none=>false) then .appo i.size i.bytes x y else .app i.size i.bytes x y)
   | none=>none
  | _,_,_,_=>none
 | .builtin .copy,[x,y]=>match (c.argTypes[0]?).bind P.underlying,aI x,aI y with
  | some (.slice e),some x,some y=>(bu P e).map fun s=>.cpy s x y
  | _,_,_=>none
 | .builtin .len,[x]=>match (c.argTypes[0]?).bind P.underlying,aI x with
  | some (.slice e),some x=>match bu P e with
   | some s=>if 0<s then some (.len s x) else none
   | none=>none
  | some .string,some x=>some (.lenS x)
  | some (.map _ _),some x=>some (.mlen x)
  | some (.array n _),some _=>some (.mov (.c (.int .i64 n)))
  | _,_=>none
 | .builtin .min,x::xs=>(cW (x::xs)).map (.mn false)
 | .builtin .max,x::xs=>(cW (x::xs)).map (.mn true)
 | .value (.func f),args=>match P.funcs[f]? with
  | some fn=>if fn.body.isSome&&fn.name != "runtime.NumGoroutine" then
   (cW args).map fun xs=>if h.shared f then .calls f xs else match o.dst with
    | some d=>if h.mode d=3 then .calln f xs else .callp (h.mode d) f xs
    | none=>.callp 0 f xs
   else none
  | none=>none
 | .value (.tmp t),args=>(cW args).map (.callv (.t t))
 | .invoke x name,args=>match aI x,cW args with
  | some a,some l=>some (.calli (qF P name) a l)
  | _,_=>none
 | _,_=>none
def ZG (h:Hint) (o:Oper):Bool:=match o.dst with
 | some d=>decide (h.mode d=4)
 | none=>false
@[noinline] def gw (h:Hint) (o:Oper):Option IOp:=
 match o.op with
 | .move x=>(aI x).map .mov
 | .assign x=>(aI x).map .mov
 | .pick c a b=>match aI c,aI a,aI b with
  | some c,some a,some b=>some (.pick c a b)
  | _,_,_=>none
 | .alloc t=>(fX P t).map (.new t)
 | .box t x=>if ZG h o then (aI x).map .boxp else (aI x).map (.box t)
 | .build t parts=>match fX P t,P.underlying t with
  | some z,some (.struct fs)=>match mm P fs with
   | some l=>(dh (l[·]?) parts.toList).map (.build z)
   | none=>none
  | some z,some (.array _ e)=>match bu P e with
   | some s=>(dh (fun i=>some (i*s,s)) parts.toList).map (.build z)
   | none=>none
  | _,_=>none
 | .buildSlice t len parts=>match P.underlying t with
  | some (.slice e)=>match bu P e,fX P e with
   | some s,some z=>if z.length=s∧0<s∧len*s≤2 ^ 24 then
    (dh (fun i=>some (i*s,s)) parts.toList).map (.bsl (match o.dst with | some d=>decide (h.mode d=2) | none=>false) s (kl len z))
    else none
   | _,_=>none
  | _=>none
 | .load t x=>match bu P t,eD P t,aI x with
  | some s,some g,some x=>some (.load s g x)
  | _,_,_=>none
 | .store t x v=>match bu P t,aI x,aI v with
  | some s,some x,some v=>some (.store s x v)
  | _,_,_=>none
 | .nilCheck x=>(aI x).map .nchk
 | .binOp op xt x y _=>match aI x,aI y with
  | some a,some b=>
   if op = .eql∨op = .neq then match P.underlying xt with
    | some (.int _) | some .string=>some (.bin op a b)
    | some (.pointer e)=>(match bu P e with
     | some s=>if 0<s then some (.eq (decide (op = .neq)) 3 a b) else none
     | none=>none)
    | some (.func _ _ _)=>(match b with | .c .nilfn=>some (.eq (decide (op = .neq)) 4 a b) | _=>none)
    | some (.slice _)=>(match b with | .c (.sl 0 0 [])=>some (.eq (decide (op = .neq)) 5 a b) | _=>none)
    | some .bool=>some (.eq (decide (op = .neq)) 1 a b)
    | some (.struct _) | some (.array _ _)=>(match fO P 1000 xt with
     | some ks=>if P.eqGuardType P.depth xt then none else some (.eqA (decide (op = .neq)) ks a b)
     | none=>none)
    | _=>none
   else some (.bin op a b)
  | _,_=>none
 | .unOp op _ x=>(aI x).map (.un op)
 | .convert s d x=>match P.underlying s,P.underlying d,aI x with
  | some (.int _),some (.int k),some x=>some (.conv k x)
  | some .string,some .string,some x=>some (.s2s x)
  | some .string,some (.slice e),some x=>match P.underlying e with
   | some (.int .u8)=>some (.s2b x)
   | _=>none
  | some (.slice e),some .string,some x=>match P.underlying e with
   | some (.int .u8)=>some (.b2s x)
   | _=>none
  | _,_,_=>none
 | .sliceToArrayPointer t x=>match P.underlying t,aI x with
  | some (.array n e),some x=>(bu P e).map fun s=>.s2a n s x
  | _,_=>none
 | .fieldAddr t x f=>match P.underlying t,aI x with
  | some (.struct fs),some x=>match fs[f]? with
   | some f=>match bu P f.type with
    | some s=>if s=0 then none else some (.fadd f.offset x)
    | none=>none
   | none=>none
  | _,_=>none
 | .field t x f=>match P.underlying t,aI x with
  | some (.struct fs),some x=>match fs[f]? with
   | some f=>match bu P f.type,eD P f.type with
    | some s,some g=>some (.fld f.offset s g x)
    | _,_=>none
   | none=>none
  | _,_=>none
 | .indexAddr t x i=>match P.underlying t,aI x,aI i with
  | some (.array n e),some x,some i=>(bu P e).map fun s=>.iaA n s x i
  | some (.slice e),some x,some i=>(bu P e).map fun s=>.iaS s x i
  | _,_,_=>none
 | .index t x i=>match P.underlying t,aI x,aI i with
  | some (.array n e),some x,some i=>match bu P e,eD P e with
   | some s,some g=>some (.ixA n s g x i)
   | _,_=>none
  | some .string,some x,some i=>some (.ixS x i)
  | _,_,_=>none
 | .extract x i=>(aI x).map fun x=>.ext x i
 | .makeFunc (.func f) fs cs=>match cW fs.toList,cW cs.toList with
  | some fs,some cs=>some (.mkf f fs cs)
  | _,_=>none
 | .makeSlice t l c=>match P.underlying t,aI l,aI c with
  | some (.slice e),some l,some c=>match P.info? e,fX P e with
   | some i,some z=>some (.mks (match o.dst with | some d=>decide (h.mode d=2) | none=>false) i.size i.bytes (z.map aF) l c)
   | _,_=>none
  | _,_,_=>none
 | .slice t x lo hi mx=>match P.underlying t,aI x,dW lo,dW hi,dW mx with
  | some (.array n e),some x,some lo,some hi,some mx=>match bu P e with
   | some s=>if s=0∨mx.isSome&&hi.isNone then none else some (.slA n s x lo hi mx)
   | none=>none
  | some (.slice e),some x,some lo,some hi,some mx=>match bu P e with
   | some s=>if mx.isSome&&hi.isNone then none else some (.slL s x lo hi mx)
   | none=>none
  | some .string,some x,some lo,some hi,some none=>some (.slS x lo hi)
  | _,_,_,_,_=>none
 | .call c=>gh P h o c
 | .makeMap t r=>match P.underlying t,r with
  | some (.map _ _),none=>some .mkm
  | some (.map _ _),some (.const (.int _ _))=>some .mkm
  | _,_=>none
 | .insert t m k v | .mapUpdate t m k v=>match qu P t,aI m,aI k,aI v with
  | some kd,some m,some k,some v=>some (.mupd kd m k v)
  | _,_,_,_=>none
 | .lookup t m k ok=>match qu P t,AD P t,aI m,aI k with
  | some kd,some z,some m,some k=>some (.mget kd ok z m k)
  | _,_,_,_=>none
 | .makeInterface t x=>match P.underlying t,aI x with
  | some (.interface _),_=>none
  | some _,some x=>some (.mkif t x)
  | _,_=>none
 | _=>none
def je (ops:Array Oper):Option (Nat×Bool)→Option (Option (Nat×Bool))
 | none=>some none
 | some (j,want)=>match (ops[j]?).bind (·.dst) with
  | some t=>some (some (t,want))
  | none=>none
def fq (h:Hint) (nt:Nat) (ops:Array Oper) (o:Oper):Option aa:=
 match gw P h o,je ops o.guard with
 | some op,some g=>if (match o.dst with | some d=>decide (d<nt) | none=>true) then some ⟨o.dst,op,g⟩ else none
 | _,_=>none
def dz (h:Hint) (nt:Nat) (ops:Array Oper):List Oper→Option (List aa)
 | []=>some []
 | o::os=>match fq P h nt ops o,dz h nt ops os with
  | some a,some l=>some (a::l)
  | _,_=>none
end
def X.tmps:X→List Nat
 | .t n=>[n]
 | .c _=>[]
def IOp.xs:IOp→List X
 | .mov x | .box _ x | .boxp x | .load _ _ x | .nchk x | .un _ x | .conv _ x | .s2b x | .b2s x | .fadd _ x | .fld _ _ _ x | .ext x _ | .len _ x | .lenS x | .s2s x | .s2a _ _ x | .mkif _ x | .mlen x=>[x]
 | .pick a b c | .mupd _ a b c=>[a,b,c]
 | .new _ _ | .mkm=>[]
 | .build _ ps | .bsl _ _ _ ps=>ps.map (·.2.2)
 | .store _ x y | .bin _ x y | .eq _ _ x y | .eqA _ _ x y | .iaA _ _ x y | .iaS _ x y | .ixA _ _ _ x y | .ixS x y | .mks _ _ _ _ x y | .app _ _ x y | .appo _ _ x y | .cpy _ x y | .mget _ _ _ x y=>[x,y]
 | .mkf _ fs cs=>fs++cs
 | .slS x lo hi=>x::lo.toList++hi.toList
 | .slL _ x lo hi mx | .slA _ _ x lo hi mx=>x::lo.toList++hi.toList++mx.toList
 | .mn _ xs | .callp _ _ xs | .calln _ xs | .calls _ xs=>xs
 | .callv x xs | .calli _ x xs=>x::xs
def aa.reads (o:aa):List Nat:=o.op.xs.flatMap X.tmps++(match o.guard with | some (t,_)=>[t] | none=>[])
def IOp.rdH:IOp→Bool
 | .load _ _ _ | .calln _ _ | .mget _ _ _ _ _ | .mlen _=>true
 | _=>false
def IOp.wrH:IOp→Bool
 | .store _ _ _ | .cpy _ _ _ | .calls _ _ | .callv _ _ | .mupd _ _ _ _=>true
 | _=>false
def IOp.allH:IOp→Bool
 | .calls _ _ | .callv _ _=>true
 | _=>false
def IOp.makes:IOp→Bool
 | .new _ _ | .box _ _ | .mkm=>true
 | _=>false
def IOp.loud:IOp→Bool
 | .store _ _ _ | .cpy _ _ _ | .app _ _ _ _ | .appo _ _ _ _ | .mks _ _ _ _ _ _ | .s2b _ | .calls _ _ | .callv _ _ | .mupd _ _ _ _=>true
 | .bsl m _ _ _=>m
 | .callp m _ _=>m != 0
 | _=>false
def jf (a b:aa):Bool:=
 (match a.dst with | some d=>b.reads.contains d||b.dst==some d | none=>false) ||
 (match b.dst with | some d=>a.reads.contains d | none=>false) ||
 (a.op.loud&&(b.op.loud||b.op.makes))
def oW (a b:aa):Bool:=a.op.makes&&b.op.loud
def mq (a b:aa):Bool:=(a.op.wrH&&b.op.rdH)||(a.op.rdH&&b.op.wrH)
def cZ (ex:Nat→Nat→Bool) (i j:Nat) (a b:aa):Bool:=jf a b||((mq a b||oW a b) && !ex i j)
def eL (l:List aa) (i:Nat):X→Option Nat
 | .t t=>if (l.drop i).all (fun o=>decide (o.dst≠some t)) then some t else none
 | .c _=>none
def fP (l:List aa) (i j:Nat):Option (Nat×Nat):=match (l[i]?).map aa.op,(l[j]?).map aa.op with
 | some (.store _ x _),some (.load _ _ y)=>match eL l i x,eL l j y with
  | some r,some q=>some (r,q)
  | _,_=>none
 | some (.load _ _ y),some (.store _ x _)=>match eL l i y,eL l j x with
  | some r,some q=>some (r,q)
  | _,_=>none
 | _,_=>none
def qG (l:List aa) (ps:List (Nat×Nat)) (i j:Nat):Bool:=match fP l i j with
 | some p=>ps.contains p
 | none=>false
def jX (l:List aa) (i j:Nat):Option (Nat×Nat):=match (l[i]?).map aa.op,(l[j]?).map aa.op with
 | some a,some (.load _ _ y)=>if a.allH then (eL l j y).map fun r=>(i,r) else none
 | some (.load _ _ y),some b=>if b.allH then (eL l i y).map fun r=>(j,r) else none
 | some a,some b=>if a.makes&&b.allH then match (l[i]?).bind aa.dst with
  | some d=>(eL l (i+1) (.t d)).map fun r=>(j,r)
  | none=>none
  else none
 | _,_=>none
def exC (l:List aa) (ps cs:List (Nat×Nat)) (i j:Nat):Bool:=qG l ps i j||match jX l i j with
 | some p=>cs.contains p
 | none=>false
def jy (acc:List Nat) (o:Oper):Nat:=o.after.toList.foldl (fun s e=>if Region.binds .any e then s ||| 2 ^ e.on ||| acc.getD e.on 0 else s) 0
def qH {α:Type}(n:Nat) (k:Nat→α):α:=match n with | 0=>k 0 | m+1=>k (m+1)
def ly (ex:Nat→Nat→Bool) (j v:Nat) (a:aa):Nat→List aa→Bool
 | _,[]=>true
 | i,b::bs=>(!cZ ex i j b a||v.testBit i)&&ly ex j v a (i+1) bs
def jY (ex:Nat→Nat→Bool):List Oper→List aa→List aa→List Nat→Bool
 | o::os,a::al,done,acc=>qH (jy acc o) fun v=>(o.after.toList.all fun e=>!Region.binds .any e||decide (e.on<acc.length))&&ly ex acc.length v a 0 done&&jY ex os al (done++[a]) (acc++[v])
 | [],[],_,_=>true
 | _,_,_,_=>false
def E4:Nat→Nat→Bool:=fun _ _=>false
def fY (ex:Nat→Nat→Bool) (ops:Array Oper) (l:List aa):Bool:=jY ex ops.toList l [] []
def safe (ops:Array Oper) (l:List aa):Bool:=fY E4 ops l
def tn (f:Nat→Nat→Option (Nat×Nat)) (j v:Nat) (a:aa):Nat→List aa→List (Nat×Nat)
 | _,[]=>[]
 | i,b::bs=>(if (mq b a||oW b a) && !v.testBit i then (f i j).toList else [])++tn f j v a (i+1) bs
def wz (f:Nat→Nat→Option (Nat×Nat)):List Oper→List aa→List aa→List Nat→List (Nat×Nat)
 | o::os,a::al,done,acc=>qH (jy acc o) fun v=>tn f acc.length v a 0 done++wz f os al (done++[a]) (acc++[v])
 | _,_,_,_=>[]
def fZ (f:Nat→Nat→Option (Nat×Nat)) (ops:Array Oper) (l:List aa):List (Nat×Nat):=(wz f ops.toList l [] []).eraseDups
def eU (j i:Nat):Nat:=if i=j then 0 else if i<j then i+1 else i
def lz (j:Nat) (o:Oper):Oper:={ o with after:=o.after.map fun e=>{ e with on:=eU j e.on },guard:=o.guard.map fun p=>(eU j p.1,p.2) }
def y4 (j:Nat) (l:List Oper):List Oper:=match l[j]? with
 | some o=>(o::l.eraseIdx j).map (lz j)
 | none=>l.map (lz j)
def rot (j:Nat) (ops:Array Oper):Array Oper:=(y4 j ops.toList).toArray
def AE (ops:Array Oper):Option Nat:=ops.toList.findIdx? fun o=>o.after.isEmpty&&o.guard.isNone&&match o.op with | .alloc _=>true | _=>false
def wA (P:Program) (h:Hint) (nt:Nat) (ops:Array Oper):IC:=match dz P h nt ops ops.toList with
 | some l=>if P.follows .mixedOrders&&safe ops l then .ops true l else
  if P.follows .mixedOrders&&fY (qG l (fZ (fP l) ops l)) ops l then .opsX l (fZ (fP l) ops l) else
   if P.follows .mixedOrders&&fY (exC l (fZ (fP l) ops l) (fZ (jX l) ops l)) ops l then .opsC l (fZ (fP l) ops l) (fZ (jX l) ops l) else .bad
 | none=>.bad
def bZ (P:Program) (h:Hint) (nt:Nat):Code→Option IC
 | .skip=>some .skip
 | .label _=>some .skip
 | .region _ ops draw=>match dz P h nt ops ops.toList with
  | some l=>if !draw||(P.follows .mixedOrders&&safe ops l) then some (.ops draw l) else
   if P.follows .mixedOrders&&fY (qG l (fZ (fP l) ops l)) ops l then some (.opsX l (fZ (fP l) ops l)) else
    if P.follows .mixedOrders&&fY (exC l (fZ (fP l) ops l) (fZ (jX l) ops l)) ops l then some (.opsC l (fZ (fP l) ops l) (fZ (jX l) ops l)) else
     match AE ops with
     | some j=>some (wA P h nt (rot j ops))
     | none=>some .bad
  | none=>some .bad
 | .seq a b=>match bZ P h nt a,bZ P h nt b with
  | some a,some b=>some (.seq a b)
  | _,_=>none
 | .cond c a b=>match aI c,bZ P h nt a,bZ P h nt b with
  | some c,some a,some b=>some (.cond c a b)
  | _,_,_=>none
 | .block id a=>(bZ P h nt a).map (.block id)
 | .loop a=>(bZ P h nt a).map .loop
 | .scope a=>bZ P h nt a
 | .rangeFunc f ps a b=>match aI f,bZ P h nt a,bZ P h nt b with
  | some x,some a,some b=>if ps.toList.all (fun t=>decide (t<nt)) then some (.rangeF x ps.toList a b) else some .bad
  | _,_,_=>none
 | .exit id=>some (.exit id)
 | .ret=>some .ret
 | _=>some .bad
def gx (P:Program):List ResultVar→Option (List lq)
 | []=>some []
 | .tmp t::rs=>(gx P rs).map (.t t :: ·)
 | .cell a t::rs=>match bu P t,eD P t,gx P rs with
  | some s,some g,some l=>some (.cell a s g::l)
  | _,_,_=>none
def qv (P:Program) (h:Hint) (f:FuncId):Option IFn:=
 match P.funcs[f]? with
 | some fn=>match fn.body with
  | some c=>match bZ P h fn.ntmps c,gx P fn.results.toList with
   | some b,some r=>some ⟨b,r,fn.ntmps⟩
   | _,_=>none
  | none=>none
 | none=>none
end Go.Abs
/- The plain operations: what the evaluator says of an operation that makes and writes nothing is what the machine does. Condition: the state says what is in memory ('WRel', 'Rep'). -/
namespace Go.Abs
theorem cS (b o n:Nat):(⟨b,o,none⟩:Addr).add n=⟨b,o+n,none⟩:=by
 unfold Addr.add;split
 ·simp_all
 ·rfl
section
variable {P:Program}{G:Gh}{w:World}
theorem bE {t:TypeId}{s:Nat}(h:bu P t=some s) (w:World):(sizeOf t).run P w = .ok s w:=by
 unfold bu at h
 cases hi:P.info? t with
 | none=>simp [hi] at h
 | some i=>simp [hi] at h;simp [sizeOf,typeInfo,hi,h]
theorem gO {t:TypeId}{g:Bool}(h:eD P t=some g) (w:World):(isAgg t).run P w = .ok g w:=by
 unfold eD at h
 unfold isAgg
 cases hu:P.underlying t with
 | none=>simp [hu] at h
 | some d=>
  rw [Sem.run_bind,run_underlying hu w]
  rw [hu] at h
  cases d<;>simp at h<;>subst h<;>rfl
theorem oX {v:Value}{x:AV}(h:ofV v=some x):Rep G w x v∧x.leaf=true∧x.flat=true∧stored x=some [x]:=by
 unfold ofV at h
 split at h<;>simp only [Option.some.injEq,reduceCtorEq] at h<;>subst h
 ·exact ⟨.int _ _,rfl,rfl,rfl⟩
 ·exact ⟨.bool _,rfl,rfl,rfl⟩
 ·exact ⟨.str _ _ rfl,rfl,rfl,rfl⟩
 ·exact ⟨.nilp,rfl,rfl,rfl⟩
 ·exact ⟨.emp _ _ _ _ (.inr (.inr (.inl ⟨rfl,rfl,rfl⟩))),rfl,rfl,rfl⟩
 ·exact ⟨.nilfn,rfl,rfl,rfl⟩
 ·exact ⟨.nilif,rfl,rfl,rfl⟩
def Row (G:Gh) (w:World) (xs:List AV) (arr:Array Value):Prop:=
 xs.length=arr.size∧∀ (i:Nat) (x:AV) (v:Value),xs[i]? = some x→arr[i]? = some v→x.leaf=true∧Rep G w x v
theorem Row.get {xs:List AV}{arr:Array Value}(h:Row G w xs arr) {i:Nat}{x:AV}(hi:xs[i]? = some x):∃ v,arr[i]? = some v∧x.leaf=true∧Rep G w x v:=by
 have hlt:i<arr.size:=by rw [← h.1];exact (List.getElem?_eq_some_iff.1 hi).1
 exact ⟨arr[i],Array.getElem?_eq_getElem hlt,h.2 i x arr[i] hi (Array.getElem?_eq_getElem hlt)⟩
theorem Row.agg {xs:List AV}{arr:Array Value}(h:Row G w xs arr):Rep G w (.agg xs) (.agg arr):=
 .agg xs arr h.1 (fun x hx=>by
  obtain ⟨i,hi⟩:=List.getElem?_of_mem hx
  obtain ⟨v,_,h2,_⟩:=h.get hi
  exact h2) (fun i x v a b=>(h.2 i x v a b).2)
theorem Row.of_agg {xs:List AV}{v:Value}(h:Rep G w (.agg xs) v):∃ arr,v = .agg arr∧Row G w xs arr:=by
 cases h with
 | agg _ arr hl hlf h=>exact ⟨arr,rfl,hl,fun i x v a b=>⟨hlf x (List.mem_of_getElem? a),h i x v a b⟩⟩
theorem qI {vs:List Value}{xs:List AV}(h:oV vs=some xs):Row G w xs vs.toArray∧∀ x∈xs,x.flat=true:=by
 induction vs generalizing xs with
 | nil=>simp only [oV,Option.some.injEq] at h;subst h;exact ⟨⟨rfl,by simp⟩,by simp⟩
 | cons v vs ih=>
  unfold oV at h
  split at h
  ·rename_i a l ha hl
   simp only [Option.some.injEq] at h;subst h
   obtain ⟨r1,r2,r3,_⟩:=oX (G:=G) (w:=w) ha
   obtain ⟨i1,i2⟩:=ih hl
   refine ⟨⟨by simpa using i1.1,?_⟩,?_⟩
   ·intro i x v hx hv
    cases i with
    | zero=>simp at hx hv;subst hx;subst hv;exact ⟨r2,r1⟩
    | succ i=>simp at hx hv;exact i1.2 i x v hx (by simpa using hv)
   ·intro x hx
    rcases List.mem_cons.1 hx with rfl | hx
    ·exact r3
    ·exact i2 x hx
  ·simp at h
theorem ir {t:TypeId}{z:List AV}(h:fX P t=some z) (w:World):∃ zv,(zeroValue t).run P w = .ok zv w∧Row G w z zv.cells∧∀ x∈z,x.flat=true:=by
 unfold fX at h
 split at h
 ·rename_i i hi
  split at h
  ·rename_i zv hz
   obtain ⟨h1,h2⟩:=qI (G:=G) (w:=w) h
   exact ⟨zv,by simp [zeroValue,typeInfo,hi,hz],by simpa using h1,h2⟩
  ·simp at h
 ·simp at h
theorem iO {x:AV}{v:Value}(h:Rep G w x v) {cs:List AV}(hs:stored x=some cs):Row G w cs v.cells:=by
 obtain ⟨h1,h2⟩:=h.cells_size hs
 refine ⟨h1.symm,fun i y u hy hu=>?_⟩
 obtain ⟨u',hu',hl,hr⟩:=h2 i y hy
 rw [hu] at hu';cases hu'
 exact ⟨hl,hr⟩
def jg (G:Gh) (w:World) (b o:Nat) (xs:List AV):Prop:=
 ∀ (i:Nat) (x:AV),xs[i]? = some x→∃ v,w.cell? ⟨b,o+i,none⟩=some v∧v.oneCell'=true∧x.leaf=true∧Rep G w x v
theorem km {b o off sz:Nat}{ag:Bool}{xs:List AV}{x:AV}(hm:jg G w b o xs) (hr:rd xs off sz ag=some x) {t:TypeId}(hs:bu P t=some sz) (ha:eD P t=some ag) :
 ∃ v,(loadVar t ⟨b,o+off,none⟩).run P w = .ok v w∧Rep G w x v:=by
 unfold rd at hr
 cases ag with
 | true=>
  simp only [if_true] at hr
  split at hr
  ·rename_i hle
   simp only [Option.some.injEq] at hr;subst hr
   let f:Nat→Value:=fun j=>(w.cell? ⟨b,o+off+j,none⟩).getD undef
   have hc:∀ j,j<sz→∃ y v,xs[off+j]? = some y∧w.cell? ⟨b,o+off+j,none⟩=some v∧y.leaf=true∧Rep G w y v:=by
    intro j hj
    have hlt:off+j<xs.length:=by omega
    obtain ⟨v,h1,_,h2,h3⟩:=hm (off+j) xs[off+j] (List.getElem?_eq_getElem hlt)
    exact ⟨xs[off+j],v,List.getElem?_eq_getElem hlt,by rw [Nat.add_assoc];exact h1,h2,h3⟩
   have hl:=run_loadCells (P:=P) w ⟨b,o+off,none⟩ sz f (fun j hj=>by
    obtain ⟨y,v,_,h2,_⟩:=hc j hj
    rw [cS,h2];simp [f,h2])
   refine ⟨.agg ((List.range sz).map f).toArray,?_,?_⟩
   ·simp [loadVar,gO ha,bE hs,hl]
   ·refine Row.agg ⟨by simp;omega,?_⟩
    intro i x v hx hv
    have hi:i<sz:=by
     have:=(List.getElem?_eq_some_iff.1 hx).1
     simp at this;omega
    obtain ⟨y,u,h1,h2,h3,h4⟩:=hc i hi
    rw [List.getElem?_take_of_lt hi,List.getElem?_drop] at hx
    rw [h1] at hx;cases hx
    simp [hi,f,h2] at hv
    subst hv
    exact ⟨h3,h4⟩
  ·simp at hr
 | false=>
  simp only [Bool.false_eq_true,if_false] at hr
  split at hr
  ·rename_i y hy
   split at hr
   ·simp only [Option.some.injEq] at hr;subst hr
    obtain ⟨v,h1,_,h2,h3⟩:=hm off y hy
    refine ⟨v,?_,h3⟩
    simp [loadVar,gO ha,h1]
   ·simp at hr
  ·simp at hr
theorem jg.of_obj {H:Hp}{E:Nat→Option TypeId}{lv:Nat→Bool}(hW:aG G H E lv w) {id b o:Nat}(hb:G.β id=some (b,some o)):jg G w b o (H id):=by
 obtain ⟨cs,T,fz,h1,h2,h3,h4,_⟩:=hW.obj id b o hb
 intro i x hi
 obtain ⟨_,hl,v,h5,h6⟩:=h3 i x hi
 exact ⟨v,by simp [World.cell?,h1,h5],h6.one hl,hl,h6⟩
end
end Go.Abs
/- The plain operations, one by one. Condition: the state says what is in memory ('WRel', 'Rep'). -/
namespace Go.Abs
def Eff.plain (e:Eff):Prop:=e.new=none∧e.wr=none∧e.use=none∧e.nb=0
section
variable {P:Program}{G:Gh}{w:World}{T:Nat→AV}{H:Hp}{E:Nat→Option TypeId}{lv:Nat→Bool}{n cb:Nat}{t0:TypeId}{ρ:Operand→Value}{hint:Hint}{o:Oper}{io:IOp}{e:Eff}
def bP (G:Gh) (w:World) (T:Nat→AV) (ρ:Operand→Value):Prop:=∀ (y:Operand) (x:X),aI y=some x→Rep G w (ev T x) (ρ y)
def bQ (P:Program) (G:Gh) (w:World) (ρ:Operand→Value) (o:Oper) (e:Eff):Prop:=
 e.plain∧∃ v,(execOp ρ o).run P w = .ok (.value v) w∧Rep G w e.v v
theorem aD {v:AV}(h:∃ u,(execOp ρ o).run P w = .ok (.value u) w∧Rep G w v u):bQ P G w ρ o { v }:=⟨⟨rfl,rfl,rfl,rfl⟩,h⟩
theorem wB {x:Operand}{a:X}(ho:o.op = .move x∨o.op = .assign x) (hx:aI x=some a) (hX:bP G w T ρ):bQ P G w ρ o { v:=ev T a }:=by
 refine aD ⟨ρ x,?_,hX _ _ hx⟩
 rcases ho with ho | ho<;>simp [execOp,ho]
theorem E5 {c x y:Operand}{a b d:X}(ho:o.op = .pick c x y) (hc:aI c=some a) (hx:aI x=some b) (hy:aI y=some d) (hX:bP G w T ρ)
 (he:au T H lv n cb (.pick a b d)=some e):bQ P G w ρ o e:=by
 simp only [au] at he
 have h1:=hX _ _ hc
 split at he
 ·rename_i heq
  rw [heq] at h1;cases h1':ρ c<;>rw [h1'] at h1<;>cases h1
  simp only [Option.some.injEq] at he;subst he
  exact aD ⟨ρ x,by simp [execOp,ho,h1',asBool],hX _ _ hx⟩
 ·rename_i heq
  rw [heq] at h1;cases h1':ρ c<;>rw [h1'] at h1<;>cases h1
  simp only [Option.some.injEq] at he;subst he
  exact aD ⟨ρ y,by simp [execOp,ho,h1',asBool],hX _ _ hy⟩
 ·simp at he
theorem Rep.ptr_ref {id off:Nat}{v:Value}(h:Rep G w (.ref id off) v):∃ b o,v = .pointer (some ⟨b,o+off,none⟩)∧G.β id=some (b,some o):=by
 cases h with
 | ref _ _ b o h=>exact ⟨b,o,rfl,h⟩
theorem Rep.ptr_pp {xs:List AV}{off:Nat}{v:Value}(h:Rep G w (.pp xs off) v):∃ b o,v = .pointer (some ⟨b,o+off,none⟩)∧jg G w b o xs:=by
 cases h with
 | pp _ _ b o vs hk hx=>
  refine ⟨b,o,rfl,fun i x hi=>?_⟩
  obtain ⟨h1,h2,h4,h5⟩:=hk i x hi
  exact ⟨vs i,h1,(hx i x hi).one h5,h5,hx i x hi⟩
theorem Rep.ptr_cp {xs:List AV}{off:Nat}{v:Value}(h:Rep G w (.cp xs off) v):∃ b o,v = .pointer (some ⟨b,o+off,none⟩)∧jg G w b o xs∧∀ k,Rep G w (.cp xs k) (.pointer (some ⟨b,o+k,none⟩)):=by
 cases h with
 | cp _ _ b o vs hk hx=>
  refine ⟨b,o,rfl,fun i x hi=>?_,fun k=>.cp xs k b o vs hk hx⟩
  obtain ⟨h1,h2,h5⟩:=hk i x hi
  exact ⟨vs i,h1,(hx i x hi).one h5,h5,hx i x hi⟩
theorem E6 {t:TypeId}{x:Operand}{s:Nat}{g:Bool}{a:X}(ho:o.op = .load t x) (hs:bu P t=some s) (hg:eD P t=some g) (hx:aI x=some a) (hX:bP G w T ρ)
 (hW:aG G H E lv w) (he:au T H lv n cb (.load s g a)=some e):bQ P G w ρ o e:=by
 simp only [au] at he
 have h1:=hX _ _ hx
 split at he
 ·rename_i id off heq
  rw [heq] at h1
  obtain ⟨b,ob,hv,hb⟩:=h1.ptr_ref
  split at he
  ·rename_i y hy
   simp only [Option.some.injEq] at he;subst he
   obtain ⟨v,hl,hr⟩:=km (jg.of_obj hW hb) hy hs hg
   exact aD ⟨v,by simp [execOp,ho,hv,Instr.loadAt,Instr.sureAddr,hl],hr⟩
  ·simp at he
 ·rename_i xs off heq
  rw [heq] at h1
  obtain ⟨b,ob,hv,hb⟩:=h1.ptr_pp
  split at he
  ·rename_i y hy
   simp only [Option.some.injEq] at he;subst he
   obtain ⟨v,hl,hr⟩:=km hb hy hs hg
   exact aD ⟨v,by simp [execOp,ho,hv,Instr.loadAt,Instr.sureAddr,hl],hr⟩
  ·simp at he
 ·rename_i xs off heq
  rw [heq] at h1
  obtain ⟨b,ob,hv,hb,_⟩:=h1.ptr_cp
  split at he
  ·rename_i y hy
   simp only [Option.some.injEq] at he;subst he
   obtain ⟨v,hl,hr⟩:=km hb hy hs hg
   exact aD ⟨v,by simp [execOp,ho,hv,Instr.loadAt,Instr.sureAddr,hl],hr⟩
  ·simp at he
 ·simp at he
theorem E7 {x:Operand}{a:X}(ho:o.op = .nilCheck x) (hx:aI x=some a) (hX:bP G w T ρ) (he:au T H lv n cb (.nchk a)=some e):bQ P G w ρ o e:=by
 simp only [au] at he
 have h1:=hX _ _ hx
 split at he<;>simp only [Option.some.injEq,reduceCtorEq] at he<;>subst he<;>rename_i heq<;>rw [heq] at h1
 ·obtain ⟨b,ob,hv,hb⟩:=h1.ptr_ref
  exact aD ⟨ρ x,by simp [execOp,ho,hv],h1⟩
 ·obtain ⟨b,ob,hv,hb⟩:=h1.ptr_pp
  exact aD ⟨ρ x,by simp [execOp,ho,hv],h1⟩
 ·obtain ⟨b,ob,hv,hb,_⟩:=h1.ptr_cp
  exact aD ⟨ρ x,by simp [execOp,ho,hv],h1⟩
 ·cases h2:ρ x<;>rw [h2] at h1<;>cases h1
  exact aD ⟨ρ x,by simp [execOp,ho,h2],by rw [h2];exact .osl _ _ _ _ _ _ _ ‹_› ‹_› ‹_›⟩
 ·cases h2:ρ x<;>rw [h2] at h1<;>try (cases h1)
  ·exact aD ⟨ρ x,by simp [execOp,ho,h2],by rw [h2];exact .emp _ _ _ _ ‹_›⟩
  ·exact aD ⟨ρ x,by simp [execOp,ho,h2],by rw [h2];exact .sl _ _ _ _ _ _ _ ‹_› ‹_› ‹_› ‹_› _ ‹_› ‹_› ‹_› ‹_›⟩
theorem Rep.inv_int {k:IntKind}{i:Int}{v:Value}(h:Rep G w (.int k i) v):v = .int k i:=by cases h;rfl
theorem Rep.inv_bool {b:Bool}{v:Value}(h:Rep G w (.bool b) v):v = .bool b:=by cases h;rfl
theorem Rep.inv_str {l:List UInt8}{v:Value}(h:Rep G w (.str l) v):∃ s:ByteArray,v = .string s∧s.data.toList=l:=by cases h;exact ⟨_,rfl,‹_›⟩
theorem Rep.inv_tup {vs:List AV}{v:Value}(h:Rep G w (.tup vs) v):∃ arr,v = .tuple arr∧vs.length=arr.size∧∀ (i:Nat) (x:AV) (u:Value),vs[i]? = some x→arr[i]? = some u→Rep G w x u:=by
 cases h;exact ⟨_,rfl,‹_›,‹_›⟩
theorem fu {x:AV}{i:Int}{v:Value}(h:asI x=some i) (hr:Rep G w x v):∃ k,v = .int k i:=by
 unfold asI at h
 split at h<;>simp only [Option.some.injEq,reduceCtorEq] at h
 subst h
 exact ⟨_,hr.inv_int⟩
theorem wC {op:BinOp}{k:IntKind}{a b:Int}{v:AV}(t:TypeId) (h:bC op k a b=some v):∃ u,(binOp op t (.int k a) (.int k b)).run P w = .ok u w∧Rep G w v u:=by
 cases op<;>simp only [bC,Option.some.injEq,reduceCtorEq] at h
 case quo=>
  split at h
  ·simp at h
  ·rename_i hb
   simp only [Option.some.injEq] at h;subst h
   exact ⟨_,by simp only [binOp,ne_eq,not_true_eq_false,if_false,Op.intDiv,if_neg hb];rfl,.int _ _⟩
 case rem=>
  split at h
  ·simp at h
  ·rename_i hb
   simp only [Option.some.injEq] at h;subst h
   exact ⟨_,by simp only [binOp,ne_eq,not_true_eq_false,if_false,Op.intDiv,if_neg hb];rfl,.int _ _⟩
 all_goals (subst h)
 all_goals first
  | exact ⟨_,by simp only [binOp,ne_eq,not_true_eq_false,if_false,Op.intArith];rfl,.int _ _⟩
  | exact ⟨_,by simp only [binOp,ne_eq,not_true_eq_false,if_false,Op.intBits];rfl,.int _ _⟩
  | exact ⟨_,by simp only [binOp,ne_eq,not_true_eq_false,if_false,Op.intCmp];rfl,.bool _⟩
theorem sJ {op:BinOp}{k k':IntKind}{a b:Int}{v:AV}(t:TypeId) (h:ja op k a b=some v):∃ u,(binOp op t (.int k a) (.int k' b)).run P w = .ok u w∧Rep G w v u:=by
 unfold ja at h
 split at h
 ·simp at h
 ·rename_i hb
  cases op<;>simp only [Option.some.injEq,reduceCtorEq] at h<;>subst h
  ·exact ⟨_,by simp only [binOp,Op.shift,if_neg hb];rfl,.int _ _⟩
  ·exact ⟨_,by simp only [binOp,Op.shift,if_neg hb];rfl,.int _ _⟩
theorem toList_eq (s:ByteArray):s.toList=s.data.toList:=ByteArray.toList_eq s
theorem wD (a b:Nat) (h:a+b≤lx):¬ (((a+b:Nat):Int)>IntKind.i64.max):=by
 have h1:IntKind.i64.max=9223372036854775807:=by decide +kernel
 have h2:lx=4611686018427387904:=by decide +kernel
 rw [h1]
 rw [h2] at h
 omega
theorem wE {op:BinOp}{s u:ByteArray}{v:AV}(t:TypeId) (h:kh op s.data.toList u.data.toList=some v):∃ r,(binOp op t (.string s) (.string u)).run P w = .ok r w∧Rep G w v r:=by
 have hsz:s.size=s.data.toList.length:=(Array.length_toList).symm
 have husz:u.size=u.data.toList.length:=(Array.length_toList).symm
 cases op<;>simp only [kh,Option.some.injEq,reduceCtorEq] at h
 case add=>
  split at h
  ·rename_i hle
   simp only [Option.some.injEq] at h;subst h
   refine ⟨.string (s++u),?_,.str _ _ (by simp)⟩
   simp only [binOp,Op.stringOp]
   rw [hsz,husz,if_neg (wD _ _ hle)];rfl
  ·simp at h
 all_goals (subst h;exact ⟨_,by simp only [binOp,Op.stringOp,toList_eq];rfl,.bool _⟩)
end
end Go.Abs
/- Equality, fields, indexes, slices of what is not written. Condition: the state says what is in memory ('WRel', 'Rep'). -/
namespace Go.Abs
section
variable {P:Program}{G:Gh}{w:World}{T:Nat→AV}{H:Hp}{E:Nat→Option TypeId}{lv:Nat→Bool}{n cb:Nat}{ρ:Operand→Value}{hint:Hint}{o:Oper}{io:IOp}{e:Eff}
theorem Row.sub {xs:List AV}{arr:Array Value}(h:Row G w xs arr) (off s:Nat) (hle:off+s≤xs.length):Row G w ((xs.drop off).take s) (arr.extract off (off+s)):=by
 have hsz:=h.1
 refine ⟨by simp;omega,fun i x v hx hv=>?_⟩
 have hi:i<s:=by
  have:=(List.getElem?_eq_some_iff.1 hx).1
  simp at this;omega
 rw [List.getElem?_take_of_lt hi,List.getElem?_drop] at hx
 refine h.2 (off+i) x v hx ?_
 rw [Array.getElem?_extract] at hv
 split at hv
 ·exact hv
 ·simp at hv
theorem nM {xs:List AV}{arr:Array Value}(h:Row G w xs arr) {off s:Nat}{g:Bool}{x:AV}(hr:rd xs off s g=some x) {t:TypeId}(hs:bu P t=some s) (ha:eD P t=some g) :
 ∃ v,(part t arr off).run P w = .ok v w∧Rep G w x v:=by
 unfold rd at hr
 cases g with
 | true=>
  simp only [if_true] at hr
  split at hr
  ·rename_i hle
   simp only [Option.some.injEq] at hr;subst hr
   exact ⟨.agg (arr.extract off (off+s)),by simp [part,gO ha,bE hs],(h.sub off s hle).agg⟩
  ·simp at hr
 | false=>
  simp only [Bool.false_eq_true,if_false] at hr
  split at hr
  ·rename_i y hy
   split at hr
   ·simp only [Option.some.injEq] at hr;subst hr
    obtain ⟨v,h1,h2,h3⟩:=h.get hy
    exact ⟨v,by simp [part,gO ha,h1],h3⟩
   ·simp at hr
  ·simp at hr
theorem mR {k1 k2:List Nat}{xs ys:List AV}{r:Bool}(h:cE (k1++k2) xs ys=some r) :
 ∃ r1 r2,cE k1 (xs.take k1.length) (ys.take k1.length)=some r1∧cE k2 (xs.drop k1.length) (ys.drop k1.length)=some r2∧r=(r1&&r2):=by
 induction k1 generalizing xs ys r with
 | nil=>exact ⟨true,r,rfl,by simpa using h,by simp⟩
 | cons k ks ih=>
  cases xs with
  | nil=>simp [cE] at h
  | cons x xs=>
   cases ys with
   | nil=>simp [cE] at h
   | cons y ys=>
    simp only [List.cons_append,cE] at h
    split at h
    ·rename_i p q hp hq
     simp only [Option.some.injEq] at h
     obtain ⟨r1,r2,h1,h2,h3⟩:=ih hq
     exact ⟨p&&r1,r2,by simp [cE,hp,h1],by simpa using h2,by rw [← h,h3,Bool.and_assoc]⟩
    ·simp at h
theorem fQ {ks:List Nat}{xs ys:List AV}{r:Bool}(h:cE ks xs ys=some r):xs.length=ks.length∧ys.length=ks.length:=by
 induction ks generalizing xs ys r with
 | nil=>cases xs<;>cases ys<;>simp [cE] at h ⊢
 | cons k ks ih=>
  cases xs with
  | nil=>simp [cE] at h
  | cons x xs=>
   cases ys with
   | nil=>simp [cE] at h
   | cons y ys=>
    simp only [cE] at h
    split at h
    ·rename_i hq;have:=ih hq;simp [this]
    ·simp at h
def valOf (g:Bool) (arr:Array Value):Value:=if g then .agg arr else arr.getD 0 undef
theorem iP {xs:List AV}{arr:Array Value}(h:Row G w xs arr) {off s:Nat}{g:Bool}{t:TypeId}(hs:bu P t=some s) (ha:eD P t=some g) (hle:off+s≤xs.length) (h1:g=false→s=1) :
 (part t arr off).run P w = .ok (valOf g (arr.extract off (off+s))) w:=by
 cases g with
 | true=>simp [part,gO ha,bE hs,valOf]
 | false=>
  have hs1:=h1 rfl
  subst hs1
  have hlt:off<arr.size:=by rw [← h.1];omega
  have h2:arr[off]? = some arr[off]:=Array.getElem?_eq_getElem hlt
  simp only [part,Sem.run_bind,gO ha,Result.andThen_ok,Bool.false_eq_true,if_false,h2,valOf]
  have:(arr.extract off (off+1))[0]? = some arr[off]:=by
   rw [Array.getElem?_extract];simp
   omega
  simp [this]
def EqAt (P:Program) (G:Gh) (w:World) (d:Nat) (t:TypeId) (ks:List Nat):Prop:=
 ∃ g,eD P t=some g∧bu P t=some ks.length∧(g=false→ks.length=1)∧
  ∀ (xs ys:List AV) (ax ay:Array Value) (r:Bool),Row G w xs ax→Row G w ys ay→cE ks xs ys=some r→∀ d',d≤d'→(Op.equalIn d' t (valOf g ax) (valOf g ay)).run P w = .ok r w
theorem ni {k:Nat}{xs ys:List AV}{ax ay:Array Value}{r:Bool}(hx:Row G w xs ax) (hy:Row G w ys ay) (h:cE [k] xs ys=some r) :
 ∃ x y u v,Rep G w x u∧Rep G w y v∧eqK k x y=some r∧valOf false ax=u∧valOf false ay=v:=by
 obtain ⟨l1,l2⟩:=fQ h
 match xs,ys,l1,l2 with
 | [x],[y],_,_=>
  obtain ⟨u,h1,_,h2⟩:=hx.get (i:=0) (x:=x) rfl
  obtain ⟨v,h3,_,h4⟩:=hy.get (i:=0) (x:=y) rfl
  simp only [cE] at h
  split at h
  ·rename_i a b ha hb
   simp only [Option.some.injEq] at hb h
   subst hb
   simp only [Bool.and_true] at h
   subst h
   exact ⟨x,y,u,v,h2,h4,ha,by simp [valOf,h1],by simp [valOf,h3]⟩
  ·simp at h
theorem nN {d:Nat}(ih:∀ t ks,fO P d t=some ks→EqAt P G w d t ks) {d':Nat}(hd:d≤d') {xs ys:List AV}{ax ay:Array Value}(hx:Row G w xs ax) (hy:Row G w ys ay) :
 ∀ (fs:List Field) (off:Nat) (ks:List Nat) (r:Bool),jW P (fO P d) off fs=some ks→off+ks.length≤xs.length→off+ks.length≤ys.length→
  cE ks (xs.drop off) (ys.drop off)=some r→(Op.eqFields d' ax ay fs).run P w = .ok r w
 | [],off,ks,r,hk,_,_,h=>by
  simp only [jW,Option.some.injEq] at hk;subst hk
  have hl:=fQ h
  have e1:xs.drop off=[]:=List.length_eq_zero_iff.1 hl.1
  have e2:ys.drop off=[]:=List.length_eq_zero_iff.1 hl.2
  rw [e1,e2] at h
  simp only [cE,Option.some.injEq] at h;subst h
  simp [Op.eqFields]
 | f::fs,off,ks,r,hk,hlx,hly,h=>by
  simp only [jW] at hk
  split at hk
  ·rename_i s k1 hs hk1
   split at hk
   ·rename_i hc
    simp only [Bool.and_eq_true,decide_eq_true_eq] at hc
    obtain ⟨⟨hn,ho⟩,hl1⟩:=hc
    cases hf:jW P (fO P d) (off+s) fs with
    | none=>simp [hf] at hk
    | some k2=>
     simp only [hf,Option.map_some,Option.some.injEq] at hk
     subst hk
     obtain ⟨g,hg,hs',h1,heq⟩:=ih f.type k1 hk1
     obtain ⟨r1,r2,e1,e2,e3⟩:=mR h
     simp only [List.length_append] at hlx hly
     have hp1:=iP (P:=P) hx (off:=off) hs hg (by omega) (fun q=>by rw [← hl1];exact h1 q)
     have hp2:=iP (P:=P) hy (off:=off) hs hg (by omega) (fun q=>by rw [← hl1];exact h1 q)
     have hq:=heq _ _ _ _ r1 (hx.sub off s (by omega)) (hy.sub off s (by omega)) (by rw [← hl1];exact e1) d' hd
     have hn':f.name≠ "_":=by simpa using hn
     simp only [Op.eqFields,if_pos hn',Sem.run_bind,ho,hp1,hp2,Result.andThen_ok,hq]
     subst e3
     cases r1 with
     | false=>simp
     | true=>
      simp only [Bool.not_true,Bool.false_eq_true,if_false,Bool.true_and]
      refine nN ih hd hx hy fs (off+s) k2 r2 hf (by omega) (by omega) ?_
      rw [List.drop_drop,List.drop_drop,hl1] at e2
      exact e2
   ·simp at hk
  ·simp at hk
theorem py {d:Nat}{e:TypeId}{ks:List Nat}(ih:EqAt P G w d e ks) {d':Nat}(hd:d≤d') {xs ys:List AV}{ax ay:Array Value}(hx:Row G w xs ax) (hy:Row G w ys ay) :
 ∀ (m j:Nat) (r:Bool),j*ks.length+m*ks.length≤xs.length→j*ks.length+m*ks.length≤ys.length→
  cE (List.replicate m ks).flatten (xs.drop (j*ks.length)) (ys.drop (j*ks.length))=some r→(Op.eqItems d' e ks.length ax ay (List.range' j m)).run P w = .ok r w
 | 0,j,r,_,_,h=>by
  have hl:=fQ h
  have e1:xs.drop (j*ks.length)=[]:=List.length_eq_zero_iff.1 hl.1
  have e2:ys.drop (j*ks.length)=[]:=List.length_eq_zero_iff.1 hl.2
  rw [e1,e2] at h
  simp only [List.replicate_zero,List.flatten_nil,cE,Option.some.injEq] at h;subst h
  simp [Op.eqItems]
 | m+1,j,r,hlx,hly,h=>by
  obtain ⟨g,hg,hs',h1,heq⟩:=ih
  rw [List.replicate_succ,List.flatten_cons] at h
  obtain ⟨r1,r2,e1,e2,e3⟩:=mR h
  rw [Nat.add_mul,Nat.one_mul] at hlx hly
  have hp1:=iP (P:=P) hx (off:=j*ks.length) hs' hg (by omega) h1
  have hp2:=iP (P:=P) hy (off:=j*ks.length) hs' hg (by omega) h1
  have hq:=heq _ _ _ _ r1 (hx.sub (j*ks.length) ks.length (by omega)) (hy.sub (j*ks.length) ks.length (by omega)) e1 d' hd
  simp only [List.range'_succ,Op.eqItems,Sem.run_bind,hp1,hp2,Result.andThen_ok,hq]
  subst e3
  cases r1 with
  | false=>simp
  | true=>
   simp only [Bool.not_true,Bool.false_eq_true,if_false,Bool.true_and]
   refine py ⟨g,hg,hs',h1,heq⟩ hd hx hy m (j+1) r2 (by rw [Nat.add_mul,Nat.one_mul];omega) (by rw [Nat.add_mul,Nat.one_mul];omega) ?_
   rw [List.drop_drop,List.drop_drop] at e2
   rw [Nat.add_mul,Nat.one_mul]
   exact e2
theorem ZH {x y:AV}{r:Bool}(h:eqK 0 x y=some r):∃ k a b,x = .int k a∧y = .int k b∧r=(a==b):=by
 unfold eqK at h
 split at h<;>rename_i heq<;>try (simp at h heq;done)
 split at h
 ·rename_i hk
  simp only [Option.some.injEq] at h;subst h;subst hk
  exact ⟨_,_,_,rfl,rfl,rfl⟩
 ·simp at h
theorem y5 {x y:AV}{r:Bool}(h:eqK 1 x y=some r):∃ a b,x = .bool a∧y = .bool b∧r=(a==b):=by
 unfold eqK at h
 split at h<;>rename_i heq<;>try (simp at h heq;done)
 simp only [Option.some.injEq] at h;subst h
 exact ⟨_,_,rfl,rfl,rfl⟩
theorem ZI {x y:AV}{r:Bool}(h:eqK 2 x y=some r):∃ a b,x = .str a∧y = .str b∧r=(a==b):=by
 unfold eqK at h
 split at h<;>rename_i heq<;>try (simp at h heq;done)
 simp only [Option.some.injEq] at h;subst h
 exact ⟨_,_,rfl,rfl,rfl⟩
theorem pz:∀ (d:Nat) (t:TypeId) (ks:List Nat),fO P d t=some ks→EqAt P G w d t ks
 | 0,t,ks,h=>by simp [fO] at h
 | d+1,t,ks,h=>by
  have ihd:=pz d
  unfold fO at h
  split at h
  ·rename_i k hu hs
   simp only [Option.some.injEq] at h;subst h
   refine ⟨false,by simp [eD,hu],hs,fun _=>rfl,fun xs ys ax ay r hx hy he d' hd=>?_⟩
   obtain ⟨x,y,u,v,h1,h2,h3,h4,h5⟩:=ni hx hy he
   obtain ⟨d'',rfl⟩:∃ m,d'=m+1:=⟨d'-1,by omega⟩
   rw [h4,h5]
   obtain ⟨k,a,b,rfl,rfl,rfl⟩:=ZH h3
   rw [h1.inv_int,h2.inv_int]
   exact run_equalIn_int w d'' t _ _ _ _ hu
  ·rename_i hu hs
   simp only [Option.some.injEq] at h;subst h
   refine ⟨false,by simp [eD,hu],hs,fun _=>rfl,fun xs ys ax ay r hx hy he d' hd=>?_⟩
   obtain ⟨x,y,u,v,h1,h2,h3,h4,h5⟩:=ni hx hy he
   obtain ⟨d'',rfl⟩:∃ m,d'=m+1:=⟨d'-1,by omega⟩
   rw [h4,h5]
   obtain ⟨a,b,rfl,rfl,rfl⟩:=y5 h3
   rw [h1.inv_bool,h2.inv_bool]
   exact run_equalIn_bool' w d'' t _ _ hu
  ·rename_i hu hs
   simp only [Option.some.injEq] at h;subst h
   refine ⟨false,by simp [eD,hu],hs,fun _=>rfl,fun xs ys ax ay r hx hy he d' hd=>?_⟩
   obtain ⟨x,y,u,v,h1,h2,h3,h4,h5⟩:=ni hx hy he
   obtain ⟨d'',rfl⟩:∃ m,d'=m+1:=⟨d'-1,by omega⟩
   rw [h4,h5]
   obtain ⟨a,b,rfl,rfl,rfl⟩:=ZI h3
   obtain ⟨s1,rfl,rfl⟩:=h1.inv_str
   obtain ⟨s2,rfl,rfl⟩:=h2.inv_str
   rw [run_equalIn_string w d'' t _ _ hu,toList_eq,toList_eq]
  ·rename_i fs s hu hs
   split at h
   ·simp at h
   ·rename_i hst
    split at h
    ·rename_i ks' hk
     split at h
     ·rename_i hlen
      simp only [Option.some.injEq] at h;subst h
      refine ⟨true,by simp [eD,hu],by rw [hs,hlen],(fun q=>by cases q),fun xs ys ax ay r hx hy he d' hd=>?_⟩
      obtain ⟨d'',rfl⟩:∃ m,d'=m+1:=⟨d'-1,by omega⟩
      have hl:=fQ he
      have hfo:P.fieldsOf t=fs:=by simp [Program.fieldsOf,hu]
      simp only [valOf,if_true]
      rw [run_equalIn_struct w d'' t ax ay (by rw [hfo];exact hu) (by simpa using hst),hfo]
      exact nN ihd (by omega) hx hy fs.toList 0 ks' r hk (by omega) (by omega) (by simpa using he)
     ·simp at h
    ·simp at h
  ·rename_i m e s hu hs
   split at h
   ·rename_i ks' hk
    split at h
    ·rename_i hc
     simp only [Option.some.injEq] at h;subst h
     have hlen:(List.replicate m ks').flatten.length=m*ks'.length:=by simp
     refine ⟨true,by simp [eD,hu],by rw [hs,hlen,hc.1],(fun q=>by cases q),fun xs ys ax ay r hx hy he d' hd=>?_⟩
     obtain ⟨d'',rfl⟩:∃ m,d'=m+1:=⟨d'-1,by omega⟩
     have hl:=fQ he
     rw [hlen] at hl
     simp only [valOf,if_true]
     cases hi:P.info? e with
     | none=>have:=hc.2;simp [bu,hi] at this
     | some i=>
      have hce:P.cellsOf e=ks'.length:=by have:=hc.2;simp [bu,hi] at this;simp [Program.cellsOf,hi,this]
      rw [run_equalIn_array w d'' ax ay hu hi,hce,List.range_eq_range']
      exact py (ihd e ks' hk) (by omega) hx hy m 0 r (by omega) (by omega) (by simpa using he)
    ·simp at h
   ·simp at h
  ·simp at h
end
end Go.Abs
/- Equality as an operation; fields, indexes, slice expressions of what is not written; lengths. Condition: the state says what is in memory ('WRel', 'Rep'). -/
namespace Go.Abs
section
variable {P:Program}{G:Gh}{w:World}{T:Nat→AV}{H:Hp}{E:Nat→Option TypeId}{lv:Nat→Bool}{n cb:Nat}{ρ:Operand→Value}{hint:Hint}{o:Oper}{io:IOp}{e:Eff}
theorem cQ {op:BinOp}{t:TypeId}{x y:Operand}{a b:Value}(ha:a≠.nilIface) (hb:∀ c,a≠.agg c):(eqGuard op t x y a b).run P w = .ok () w:=by
 unfold eqGuard
 cases op<;>simp
 all_goals
  cases a<;>cases b<;>first | rfl | (exact absurd rfl ha) | (exact absurd rfl (hb _))
theorem c8 {neg:Bool}{t:TypeId}{a b:Value}{r:Bool}(h:(Op.equalIn 10000 t a b).run P w = .ok r w) (hk:(∃ c d,a = .agg c∧b = .agg d)∨(∃ c d,a = .bool c∧b = .bool d)∨(∃ c d,a = .pointer c∧b = .pointer d)∨(∃ c d f d' ,a = .slice c d f∧b=d')∨(∃ d',(a = .nilFunc∨∃ f g h,a = .func f g h)∧b=d'∧(d' = .nilFunc ))) :
 (binOp (if neg then .neq else .eql) t a b).run P w = .ok (.bool (if neg then !r else r)) w:=by
 have h':(Op.equal t a b).run P w = .ok r w:=h
 cases neg
 all_goals
  rcases hk with ⟨c,d,rfl,rfl⟩ | ⟨c,d,rfl,rfl⟩ | ⟨c,d,rfl,rfl⟩ | ⟨c,d,f,d',rfl,rfl⟩ | ⟨d',(rfl | ⟨f,g,h,rfl⟩),rfl,rfl⟩
  all_goals (simp only [binOp,if_true,if_false,Bool.false_eq_true];simp [h'])
theorem E8 {x y:AV}{r:Bool}(h:eqK 3 x y=some r):(x = .nilp∧y = .nilp∧r=true)∨(∃ a b,x = .nilp∧y = .ref a b∧r=false)∨(∃ a b,x = .ref a b∧y = .nilp∧r=false)∨∃ a b d,x = .ref a b∧y = .ref a d∧r=(b==d):=by
 unfold eqK at h
 split at h<;>rename_i heq<;>try (simp at h heq;done)
 ·simp only [Option.some.injEq] at h;subst h;exact .inl ⟨rfl,rfl,rfl⟩
 ·simp only [Option.some.injEq] at h;subst h;exact .inr (.inl ⟨_,_,rfl,rfl,rfl⟩)
 ·simp only [Option.some.injEq] at h;subst h;exact .inr (.inr (.inl ⟨_,_,rfl,rfl,rfl⟩))
 ·split at h
  ·rename_i hk
   simp only [Option.some.injEq] at h;subst h;subst hk
   exact .inr (.inr (.inr ⟨_,_,_,rfl,rfl,rfl⟩))
  ·simp at h
theorem E9 {x y:AV}{r:Bool}(h:eqK 4 x y=some r):y = .nilfn∧((x = .nilfn∧r=true)∨∃ a b c,x = .fn a b c∧r=false):=by
 unfold eqK at h
 split at h<;>rename_i heq<;>try (simp at h heq;done)
 ·simp only [Option.some.injEq] at h;subst h;exact ⟨rfl,.inl ⟨rfl,rfl⟩⟩
 ·simp only [Option.some.injEq] at h;subst h;exact ⟨rfl,.inr ⟨_,_,_,rfl,rfl⟩⟩
theorem Fa {x y:AV}{r:Bool}(h:eqK 5 x y=some r):y = .sl 0 0 []∧((∃ br sz xs,x = .sl br sz xs∧((br=0∧r=true)∨(br≠0∧(br=2∨4≤br∨xs.isEmpty=false)∧r=false)))∨∃ a b c d,x = .osl a b c d∧r=false):=by
 unfold eqK at h
 split at h<;>rename_i heq<;>try (simp at h heq;done)
 ·refine ⟨rfl,.inl ⟨_,_,_,rfl,?_⟩⟩
  split at h
  ·simp only [Option.some.injEq] at h
   exact .inl ⟨‹_›,h.symm⟩
  ·split at h
   ·simp only [Option.some.injEq] at h
    exact .inr ⟨‹_›,‹_›,h.symm⟩
   ·simp at h
 ·simp only [Option.some.injEq] at h;subst h;exact ⟨rfl,.inr ⟨_,_,_,_,rfl,rfl⟩⟩
theorem Rep.inv_nilp {v:Value}(h:Rep G w .nilp v):v = .pointer none:=by cases h;rfl
theorem Rep.inv_nilfn {v:Value}(h:Rep G w .nilfn v):v = .nilFunc:=by cases h;rfl
theorem Rep.inv_iface {t:TypeId}{x:AV}{v:Value}(h:Rep G w (.iface t x) v):∃ u,v = .iface t u∧Rep G w x u:=by
 cases h with
 | iface _ _ u _ h=>exact ⟨u,rfl,h⟩
theorem Rep.inv_fn {f:FuncId}{fs cs:List AV}{v:Value}(h:Rep G w (.fn f fs cs) v):∃ gs ds,v = .func (.func f) gs ds∧fs.length=gs.size∧cs.length=ds.size∧
 (∀ (i:Nat) (x:AV) (v:Value),fs[i]? = some x→gs[i]? = some v→Rep G w x v)∧(∀ (i:Nat) (x:AV) (v:Value),cs[i]? = some x→ds[i]? = some v→Rep G w x v):=by
 cases h with
 | fn _ _ _ gs ds h1 h2 h3 h4=>exact ⟨gs,ds,rfl,h1,h2,h3,h4⟩
theorem Rep.inv_osl {id off len sz:Nat}{v:Value}(h:Rep G w (.osl id off len sz) v):∃ b o cap,v = .slice (some ⟨b,o+off,none⟩) len cap∧G.β id=some (b,some o)∧0<sz∧len≤cap:=by
 cases h with
 | osl _ _ _ _ cap b o h h1 h2=>exact ⟨b,o,cap,rfl,h,h1,h2⟩
theorem Rep.inv_sl {br sz:Nat}{xs:List AV}{v:Value}(h:Rep G w (.sl br sz xs) v):(∃ p cap,v = .slice p 0 cap∧Emp br p cap∧xs=[])∨
 ∃ b off len cap,v = .slice (some ⟨b,off,none⟩) len cap∧br≠0∧0<sz∧xs.length=len*sz∧len≤cap∧Cells G w b off xs∧(br=3→cap=len)∧(4≤br→G.τ br=some (b,off+xs.length)∧∃ E c,w.shape? b=some (E,c)∧off+cap*sz≤c):=by
 cases h with
 | emp _ _ p cap hb=>exact .inl ⟨p,cap,rfl,hb,rfl⟩
 | sl _ _ _ b off len cap hnb hsz hl hc vs hk hx h0 h3=>
  exact .inr ⟨b,off,len,cap,rfl,hnb,hsz,hl,hc,fun i x hi=>⟨vs i,(hk i x hi).1,(hk i x hi).2.1,(hk i x hi).2.2.1,(hk i x hi).2.2.2,hx i x hi⟩,h0,h3⟩
theorem Rep.inv_nil {v:Value}(h:Rep G w (.sl 0 0 []) v):v = .slice none 0 0:=by
 rcases h.inv_sl with ⟨p,cap,rfl,he,_⟩ | ⟨_,_,_,_,_,hnb,_⟩
 ·rcases he with h | h | ⟨_,rfl,rfl⟩ | h<;>first | rfl | (exfalso;omega)
 ·exact absurd rfl hnb
theorem Rep.mk_sl {br sz:Nat}{xs:List AV}{b off len cap:Nat}(hnb:br≠0) (hsz:0<sz) (hl:xs.length=len*sz) (hc:len≤cap) (hcs:Cells G w b off xs) (h0:br=3→cap=len)
 (h3:4≤br→G.τ br=some (b,off+xs.length)∧∃ E c,w.shape? b=some (E,c)∧off+cap*sz≤c):Rep G w (.sl br sz xs) (.slice (some ⟨b,off,none⟩) len cap):=by
 refine .sl br sz xs b off len cap hnb hsz hl hc (fun i=>(w.cell? ⟨b,off+i,none⟩).getD undef) ?_ ?_ h0 h3
 ·intro i x hi
  obtain ⟨v,h1,h2,h4,h5,_⟩:=hcs i x hi
  exact ⟨by simp [h1],h2,h4,h5⟩
 ·intro i x hi
  obtain ⟨v,h1,_,_,_,h6⟩:=hcs i x hi
  simpa [h1] using h6
theorem Rep.mk_pp {xs:List AV}{off b o:Nat}(hcs:Cells G w b o xs):Rep G w (.pp xs off) (.pointer (some ⟨b,o+off,none⟩)):=by
 refine .pp xs off b o (fun i=>(w.cell? ⟨b,o+i,none⟩).getD undef) ?_ ?_
 ·intro i x hi
  obtain ⟨v,h1,h2,h4,h5,_⟩:=hcs i x hi
  exact ⟨by simp [h1],h2,h4,h5⟩
 ·intro i x hi
  obtain ⟨v,h1,_,_,_,h6⟩:=hcs i x hi
  simpa [h1] using h6
theorem Rep.inv_pp {xs:List AV}{off:Nat}{v:Value}(h:Rep G w (.pp xs off) v):∃ b o,v = .pointer (some ⟨b,o+off,none⟩)∧Cells G w b o xs:=by
 cases h with
 | pp _ _ b o vs hk hx=>exact ⟨b,o,rfl,fun i x hi=>⟨vs i,(hk i x hi).1,(hk i x hi).2.1,(hk i x hi).2.2.1,(hk i x hi).2.2.2,hx i x hi⟩⟩
section
variable (d:Nat) {t e:TypeId}
theorem AF (hu:P.underlying t=some (.pointer e)) (b:Option Addr):(Op.equalIn (d+1) t (.pointer none) (.pointer b)).run P w = .ok b.isNone w:=by
 cases b<;>simp [Op.equalIn,run_underlying hu]
theorem S7 (hu:P.underlying t=some (.pointer e)) (a:Addr):(Op.equalIn (d+1) t (.pointer (some a)) (.pointer none)).run P w = .ok false w:=by
 simp [Op.equalIn,run_underlying hu]
theorem S8 (hu:P.underlying t=some (.pointer e)) {s:Nat}(hs:bu P e=some s) (h0:0<s) (b x y:Nat):(Op.equalIn (d+1) t (.pointer (some ⟨b,x,none⟩)) (.pointer (some ⟨b,y,none⟩))).run P w = .ok (x==y) w:=by
 have hne:¬ (s=0):=by omega
 have hab:((⟨b,x,none⟩:Addr)==⟨b,y,none⟩)=(x==y):=by
  rw [Bool.eq_iff_iff];simp
 simp [Op.equalIn,run_underlying hu,bE hs,hne,sameAddr]
 exact hab
theorem S9 {ps rs:Array TypeId}{v:Bool}(hu:P.underlying t=some (.func ps rs v)):(Op.equalIn (d+1) t .nilFunc .nilFunc).run P w = .ok true w:=by
 simp [Op.equalIn,run_underlying hu]
theorem Ta {ps rs:Array TypeId}{v:Bool}(hu:P.underlying t=some (.func ps rs v)) (f:Fn) (a b:Array Value):(Op.equalIn (d+1) t (.func f a b) .nilFunc).run P w = .ok false w:=by
 simp [Op.equalIn,run_underlying hu]
theorem Tb (hu:P.underlying t=some (.slice e)) (l c:Nat):(Op.equalIn (d+1) t (.slice none l c) (.slice none 0 0)).run P w = .ok true w:=by
 simp [Op.equalIn,run_underlying hu]
theorem uK (hu:P.underlying t=some (.slice e)) (a:Addr) (l c:Nat):(Op.equalIn (d+1) t (.slice (some a) l c) (.slice none 0 0)).run P w = .ok false w:=by
 simp [Op.equalIn,run_underlying hu]
end
theorem y6 {op:BinOp}{t yt:TypeId}{x y:Operand}{r:Bool}(ho:o.op = .binOp op t x y yt) (hop:op = .eql∨op = .neq)
 (k1:(eqGuard op t x y (ρ x) (ρ y)).run P w = .ok () w) (k2:(binOp (if decide (op = .neq) then .neq else .eql) t (ρ x) (ρ y)).run P w = .ok (.bool (if decide (op = .neq) then !r else r)) w) :
 bQ P G w ρ o { v:=.bool (if decide (op = .neq) then !r else r) }:=by
 have hopq:op=if decide (op = .neq) then .neq else .eql:=by rcases hop with rfl | rfl<;>rfl
 rw [← hopq] at k2
 exact aD ⟨.bool (if decide (op = .neq) then !r else r),by simp [execOp,ho,k1,k2],.bool _⟩
theorem uL {op:BinOp}{t yt:TypeId}{x y:Operand}{a b:X}{k:Nat}(ho:o.op = .binOp op t x y yt) (hop:op = .eql∨op = .neq) (hx:aI x=some a) (hy:aI y=some b)
 (hk:(k=1∧P.underlying t=some .bool)∨(k=3∧∃ e s,P.underlying t=some (.pointer e)∧bu P e=some s∧0<s)∨(k=4∧∃ ps rs v,P.underlying t=some (.func ps rs v))∨(k=5∧∃ e,P.underlying t=some (.slice e)))
 (hX:bP G w T ρ) (he:au T H lv n cb (.eq (decide (op = .neq)) k a b)=some e):bQ P G w ρ o e:=by
 simp only [au] at he
 have h1:=hX _ _ hx
 have h2:=hX _ _ hy
 split at he
 ·rename_i r hr
  simp only [Option.some.injEq] at he;subst he
  generalize ev T a=xa at h1 hr
  generalize ev T b=xb at h2 hr
  refine y6 ho hop ?_ ?_
  ·rcases hk with ⟨rfl,hu⟩ | ⟨rfl,e,s,hu,hs,hs0⟩ | ⟨rfl,ps,rs,v,hu⟩ | ⟨rfl,e,hu⟩
   ·obtain ⟨p,q,rfl,rfl,rfl⟩:=y5 hr
    rw [h1.inv_bool];exact cQ (by simp) (by simp)
   ·rcases E8 hr with ⟨rfl,rfl,rfl⟩ | ⟨p,q,rfl,rfl,rfl⟩ | ⟨p,q,rfl,rfl,rfl⟩ | ⟨p,q,d,rfl,rfl,rfl⟩
    ·rw [h1.inv_nilp];exact cQ (by simp) (by simp)
    ·rw [h1.inv_nilp];exact cQ (by simp) (by simp)
    ·obtain ⟨b',o',e1,_⟩:=h1.ptr_ref;rw [e1];exact cQ (by simp) (by simp)
    ·obtain ⟨b',o',e1,_⟩:=h1.ptr_ref;rw [e1];exact cQ (by simp) (by simp)
   ·obtain ⟨rfl,h | h⟩:=E9 hr
    ·obtain ⟨rfl,rfl⟩:=h
     rw [h1.inv_nilfn];exact cQ (by simp) (by simp)
    ·obtain ⟨f,g,c,rfl,rfl⟩:=h
     obtain ⟨gs,ds,e1,_⟩:=h1.inv_fn
     rw [e1];exact cQ (by simp) (by simp)
   ·obtain ⟨rfl,h | h⟩:=Fa hr
    ·obtain ⟨br,sz,xs,rfl,_⟩:=h
     rcases h1.inv_sl with ⟨_,_,e1,_⟩ | ⟨_,_,_,_,e1,_⟩<;>(rw [e1];exact cQ (by simp) (by simp))
    ·obtain ⟨p,q,r,s,rfl,rfl⟩:=h
     obtain ⟨_,_,_,e1,_⟩:=h1.inv_osl
     rw [e1];exact cQ (by simp) (by simp)
  ·rcases hk with ⟨rfl,hu⟩ | ⟨rfl,e,s,hu,hs,hs0⟩ | ⟨rfl,ps,rs,v,hu⟩ | ⟨rfl,e,hu⟩
   ·obtain ⟨p,q,rfl,rfl,rfl⟩:=y5 hr
    rw [h1.inv_bool,h2.inv_bool]
    exact c8 (run_equalIn_bool' w 9999 t _ _ hu) (.inr (.inl ⟨_,_,rfl,rfl⟩))
   ·rcases E8 hr with ⟨rfl,rfl,rfl⟩ | ⟨p,q,rfl,rfl,rfl⟩ | ⟨p,q,rfl,rfl,rfl⟩ | ⟨p,q,d,rfl,rfl,rfl⟩
    ·rw [h1.inv_nilp,h2.inv_nilp]
     exact c8 (AF 9999 hu none) (.inr (.inr (.inl ⟨_,_,rfl,rfl⟩)))
    ·obtain ⟨b',o',e2,_⟩:=h2.ptr_ref
     rw [h1.inv_nilp,e2]
     exact c8 (AF 9999 hu _) (.inr (.inr (.inl ⟨_,_,rfl,rfl⟩)))
    ·obtain ⟨b',o',e1,_⟩:=h1.ptr_ref
     rw [e1,h2.inv_nilp]
     exact c8 (S7 9999 hu _) (.inr (.inr (.inl ⟨_,_,rfl,rfl⟩)))
    ·obtain ⟨b1,o1,e1,hb1⟩:=h1.ptr_ref
     obtain ⟨b2,o2,e2,hb2⟩:=h2.ptr_ref
     rw [hb1] at hb2
     simp only [Option.some.injEq,Prod.mk.injEq] at hb2
     obtain ⟨rfl,rfl⟩:=hb2
     rw [e1,e2]
     have:=S8 (P:=P) (w:=w) 9999 hu hs hs0 b1 (o1+q) (o1+d)
     have hq:(o1+q==o1+d)=(q==d):=by rw [Bool.eq_iff_iff];simp
     rw [hq] at this
     exact c8 this (.inr (.inr (.inl ⟨_,_,rfl,rfl⟩)))
   ·obtain ⟨rfl,h | h⟩:=E9 hr
    ·obtain ⟨rfl,rfl⟩:=h
     rw [h1.inv_nilfn,h2.inv_nilfn]
     exact c8 (S9 9999 hu) (.inr (.inr (.inr (.inr ⟨_,.inl rfl,rfl,rfl⟩))))
    ·obtain ⟨f,g,c,rfl,rfl⟩:=h
     obtain ⟨gs,ds,e1,_⟩:=h1.inv_fn
     rw [e1,h2.inv_nilfn]
     exact c8 (Ta 9999 hu _ _ _) (.inr (.inr (.inr (.inr ⟨_,.inr ⟨_,_,_,rfl⟩,rfl,rfl⟩))))
   ·obtain ⟨rfl,h | h⟩:=Fa hr
    ·obtain ⟨br,sz,xs,rfl,hh⟩:=h
     rw [h2.inv_nil]
     rcases h1.inv_sl with ⟨p,cap,e1,he,rfl⟩ | ⟨_,_,_,_,e1,hnb,_⟩
     ·rw [e1]
      rcases hh with ⟨rfl,rfl⟩ | ⟨h0,h2',rfl⟩
      ·have hp:p=none:=by rcases he with h | h | h | h<;>first | exact h.2.1 | (exfalso;omega)
       subst hp
       exact c8 (Tb 9999 hu _ _) (.inr (.inr (.inr (.inl ⟨_,_,_,_,rfl,rfl⟩))))
      ·have hp:p.isSome=true:=by
        rcases he with h | h | h | h
        ·rcases h2' with h' | h' | h'
         ·omega
         ·omega
         ·simp at h'
        ·rcases h2' with h' | h' | h'
         ·omega
         ·omega
         ·simp at h'
        ·omega
        ·exact h.2
       obtain ⟨a',rfl⟩:=Option.isSome_iff_exists.1 hp
       exact c8 (uK 9999 hu _ _ _) (.inr (.inr (.inr (.inl ⟨_,_,_,_,rfl,rfl⟩))))
     ·rw [e1]
      rcases hh with ⟨rfl,rfl⟩ | ⟨_,_,rfl⟩
      ·exact absurd rfl hnb
      ·exact c8 (uK 9999 hu _ _ _) (.inr (.inr (.inr (.inl ⟨_,_,_,_,rfl,rfl⟩))))
    ·obtain ⟨p,q,r,s,rfl,rfl⟩:=h
     obtain ⟨_,_,_,e1,_⟩:=h1.inv_osl
     rw [e1,h2.inv_nil]
     exact c8 (uK 9999 hu _ _ _) (.inr (.inr (.inr (.inl ⟨_,_,_,_,rfl,rfl⟩))))
 ·simp at he
theorem AG {op:BinOp}{t yt:TypeId}{x y:Operand}{a b:X}{ks:List Nat}(ho:o.op = .binOp op t x y yt) (hop:op = .eql∨op = .neq) (hx:aI x=some a) (hy:aI y=some b)
 (hu:(∃ fs,P.underlying t=some (.struct fs))∨(∃ m e,P.underlying t=some (.array m e))) (hk:fO P 1000 t=some ks) (hg:P.eqGuardType P.depth t=false)
 (hX:bP G w T ρ) (he:au T H lv n cb (.eqA (decide (op = .neq)) ks a b)=some e):bQ P G w ρ o e:=by
 simp only [au] at he
 have h1:=hX _ _ hx
 have h2:=hX _ _ hy
 have hopq:op=if decide (op = .neq) then .neq else .eql:=by rcases hop with rfl | rfl<;>rfl
 split at he
 ·rename_i la lb hra hrb
  split at he
  ·rename_i r hr
   simp only [Option.some.injEq] at he;subst he
   rw [hra] at h1
   rw [hrb] at h2
   obtain ⟨ax,e1,r1⟩:=Row.of_agg h1
   obtain ⟨ay,e2,r2⟩:=Row.of_agg h2
   obtain ⟨g,hga,_,_,hq⟩:=pz (G:=G) (w:=w) 1000 t ks hk
   have hgt:g=true:=by
    rcases hu with ⟨fs,hu⟩ | ⟨m,e,hu⟩<;>simp [eD,hu] at hga<;>exact hga
   subst hgt
   have:=hq la lb ax ay r r1 r2 hr 10000 (by omega)
   simp only [valOf,if_true] at this
   refine aD ⟨.bool (if decide (op = .neq) then !r else r),?_,.bool _⟩
   have k2:=c8 (neg:=decide (op = .neq)) this (.inl ⟨_,_,rfl,rfl⟩)
   rw [← hopq] at k2
   simp [execOp,ho,e1,e2,run_eqGuard_agg w op t x y ax ay hg,k2]
  ·simp at he
 ·simp at he
end
end Go.Abs
/- Numbers, conversions, addresses, parts, lengths. Condition: the state says what is in memory ('WRel', 'Rep'). -/
namespace Go.Abs
section
variable {P:Program}{G:Gh}{w:World}{T:Nat→AV}{H:Hp}{E:Nat→Option TypeId}{lv:Nat→Bool}{n cb:Nat}{ρ:Operand→Value}{hint:Hint}{o:Oper}{io:IOp}{e:Eff}
theorem wF {op:BinOp}{x y v:AV}(h:aj op x y=some v):(∃ k a k' b,x = .int k a∧y = .int k' b∧((op = .shl∨op = .shr)∧ja op k a b=some v∨k=k'∧bC op k a b=some v))∨
 ∃ a b,x = .str a∧y = .str b∧kh op a b=some v:=by
 unfold aj at h
 split at h
 ·split at h
  ·rename_i hs
   exact .inl ⟨_,_,_,_,rfl,rfl,.inl ⟨hs,h⟩⟩
  ·split at h
   ·rename_i hk
    exact .inl ⟨_,_,_,_,rfl,rfl,.inr ⟨hk,h⟩⟩
   ·simp at h
 ·exact .inr ⟨_,_,rfl,rfl,h⟩
 ·simp at h
theorem uM {op:BinOp}{t yt:TypeId}{x y:Operand}{a b:X}(ho:o.op = .binOp op t x y yt) (hx:aI x=some a) (hy:aI y=some b) (hX:bP G w T ρ)
 (he:au T H lv n cb (.bin op a b)=some e):bQ P G w ρ o e:=by
 simp only [au] at he
 have h1:=hX _ _ hx
 have h2:=hX _ _ hy
 split at he
 ·rename_i v hv
  simp only [Option.some.injEq] at he;subst he
  rcases wF hv with ⟨k,p,k',q,e1,e2,h3⟩ | ⟨p,q,e1,e2,h3⟩
  ·rw [e1] at h1;rw [e2] at h2
   have g1:(eqGuard op t x y (ρ x) (ρ y)).run P w = .ok () w:=by rw [h1.inv_int];exact cQ (by simp) (by simp)
   rcases h3 with ⟨_,h3⟩ | ⟨rfl,h3⟩
   ·obtain ⟨u,k1,k2⟩:=sJ (P:=P) (G:=G) (w:=w) (k':=k') t h3
    rw [← h1.inv_int,← h2.inv_int] at k1
    exact aD ⟨u,by simp [execOp,ho,g1,k1],k2⟩
   ·obtain ⟨u,k1,k2⟩:=wC (P:=P) (G:=G) (w:=w) t h3
    rw [← h1.inv_int,← h2.inv_int] at k1
    exact aD ⟨u,by simp [execOp,ho,g1,k1],k2⟩
  ·rw [e1] at h1;rw [e2] at h2
   obtain ⟨s1,v1,rfl⟩:=h1.inv_str
   obtain ⟨s2,v2,rfl⟩:=h2.inv_str
   have g1:(eqGuard op t x y (ρ x) (ρ y)).run P w = .ok () w:=by rw [v1];exact cQ (by simp) (by simp)
   obtain ⟨u,k1,k2⟩:=wE (P:=P) (G:=G) (w:=w) t h3
   rw [← v1,← v2] at k1
   exact aD ⟨u,by simp [execOp,ho,g1,k1],k2⟩
 ·simp at he
theorem y7 {op:UnOp}{x v:AV}(h:uJ op x=some v):(∃ k a,x = .int k a∧(op = .neg∧bC .sub k 0 a=some v∨op = .xor∧bC .xor k (if k.signed then -1 else k.max) a=some v))∨∃ b,x = .bool b∧op = .not∧v = .bool !b:=by
 unfold uJ at h
 split at h
 ·exact .inl ⟨_,_,rfl,.inl ⟨rfl,h⟩⟩
 ·exact .inl ⟨_,_,rfl,.inr ⟨rfl,h⟩⟩
 ·simp only [Option.some.injEq] at h;exact .inr ⟨_,rfl,rfl,h.symm⟩
 ·simp at h
theorem ZJ {op:UnOp}{t:TypeId}{x:Operand}{a:X}(ho:o.op = .unOp op t x) (hx:aI x=some a) (hX:bP G w T ρ) (he:au T H lv n cb (.un op a)=some e):bQ P G w ρ o e:=by
 simp only [au] at he
 have h1:=hX _ _ hx
 split at he
 ·rename_i v hv
  simp only [Option.some.injEq] at he;subst he
  rcases y7 hv with ⟨k,p,e1,h3⟩ | ⟨b,e1,rfl,rfl⟩
  ·rw [e1] at h1
   rcases h3 with ⟨rfl,h3⟩ | ⟨rfl,h3⟩
   ·simp only [bC,Option.some.injEq] at h3;subst h3
    exact aD ⟨_,by simp [execOp,ho,h1.inv_int,Op.unary,Op.intArith],.int _ _⟩
   ·simp only [bC,Option.some.injEq] at h3;subst h3
    exact aD ⟨_,by simp [execOp,ho,h1.inv_int,Op.unary,Op.intBits],.int _ _⟩
  ·rw [e1] at h1
   exact aD ⟨.bool !b,by simp [execOp,ho,h1.inv_bool,Op.unary],.bool _⟩
 ·simp at he
theorem Fb {s d:TypeId}{x:Operand}{a:X}{k k0:IntKind}(ho:o.op = .convert s d x) (hs:P.underlying s=some (.int k0)) (hd:P.underlying d=some (.int k)) (hx:aI x=some a) (hX:bP G w T ρ)
 (he:au T H lv n cb (.conv k a)=some e):bQ P G w ρ o e:=by
 simp only [au] at he
 have h1:=hX _ _ hx
 split at he
 ·rename_i k1 i hv
  simp only [Option.some.injEq] at he;subst he
  rw [hv] at h1
  refine aD ⟨_,?_,.int _ _⟩
  simp [execOp,ho,h1.inv_int,convert,run_underlying hs,run_underlying hd,Conv.intToInt]
 ·simp at he
theorem Tc {s d:TypeId}{x:Operand}{a:X}(ho:o.op = .convert s d x) (hs:P.underlying s=some .string) (hd:P.underlying d=some .string) (hx:aI x=some a) (hX:bP G w T ρ)
 (he:au T H lv n cb (.s2s a)=some e):bQ P G w ρ o e:=by
 simp only [au] at he
 have h1:=hX _ _ hx
 split at he
 ·rename_i l hl
  simp only [Option.some.injEq] at he;subst he
  rw [hl] at h1
  obtain ⟨u,e1,_⟩:=h1.inv_str
  refine aD ⟨ρ x,?_,h1⟩
  simp [execOp,ho,e1,convert,run_underlying hs,run_underlying hd]
 ·simp at he
theorem BK {x:AV}{b:UInt8}(h:toB x=some b):∃ i,x = .int .u8 i∧b=UInt8.ofNat i.toNat:=by
 unfold toB at h
 split at h<;>simp only [Option.some.injEq,reduceCtorEq] at h
 exact ⟨_,rfl,h.symm⟩
theorem y8 {xs:List AV}{l:List UInt8}(h:ln xs=some l):xs.length=l.length∧∀ (i:Nat) (x:AV),xs[i]? = some x→∃ k,x = .int .u8 k∧l[i]? = some (UInt8.ofNat k.toNat):=by
 induction xs generalizing l with
 | nil=>simp only [ln,Option.some.injEq] at h;subst h;simp
 | cons x xs ih=>
  simp only [ln] at h
  split at h
  ·rename_i b bs hb hbs
   simp only [Option.some.injEq] at h;subst h
   obtain ⟨i1,i2⟩:=ih hbs
   obtain ⟨k,rfl,rfl⟩:=BK hb
   refine ⟨by simp [i1],fun i y hy=>?_⟩
   cases i with
   | zero=>simp at hy;subst hy;exact ⟨k,rfl,rfl⟩
   | succ i=>simp at hy;simpa using i2 i y hy
  ·simp at h
def gP:List UInt8→ByteArray→ByteArray
 | [],s=>s
 | b::l,s=>gP l (s.push b)
theorem qJ (l:List UInt8) (s:ByteArray):(gP l s).data.toList=s.data.toList++l:=by
 induction l generalizing s with
 | nil=>simp [gP]
 | cons b l ih=>simp [gP,ih]
theorem qK {F:Value→ByteArray→Sem (ForInStep ByteArray)}:∀ (vs:List Value) (l:List UInt8) (s:ByteArray),vs.length=l.length→(∀ (i:Nat) (v:Value),vs[i]? = some v→∃ k,v = .int .u8 k∧l[i]? = some (UInt8.ofNat k.toNat))→
 (∀ k s,F (.int .u8 k) s=pure (ForInStep.yield (s.push (UInt8.ofNat k.toNat))))→(forIn vs s F:Sem ByteArray).run P w = .ok (gP l s) w
 | [],l,s,hl,_,_=>by
  have:l=[]:=List.length_eq_zero_iff.1 hl.symm
  subst this
  simp [gP]
 | v::vs,l,s,hl,h,hF=>by
  obtain ⟨k,rfl,h2⟩:=h 0 v rfl
  cases l with
  | nil=>simp at hl
  | cons b l=>
   simp only [List.getElem?_cons_zero,Option.some.injEq] at h2
   subst h2
   have h3:=qK vs l (s.push (UInt8.ofNat k.toNat)) (by simpa using hl) (fun i v hv=>by simpa using h (i+1) v (by simpa using hv)) hF
   simp only [List.forIn_cons,hF,Sem.run_bind,Sem.run_pure,Result.andThen_ok]
   exact h3
theorem kn {b o:Nat}{xs:List AV}(hm:Cells G w b o xs):∃ arr:Array Value,(loadCells ⟨b,o,none⟩ xs.length).run P w = .ok arr w∧Row G w xs arr:=by
 let f:Nat→Value:=fun j=>(w.cell? ⟨b,o+j,none⟩).getD undef
 have hc:∀ j,j<xs.length→w.cell? ((⟨b,o,none⟩:Addr).add j)=some (f j):=by
  intro j hj
  obtain ⟨v,h1,_⟩:=hm j xs[j] (List.getElem?_eq_getElem hj)
  rw [cS,h1];simp [f,h1]
 refine ⟨_,run_loadCells (P:=P) w ⟨b,o,none⟩ xs.length f hc,by simp,fun i x v hx hv=>?_⟩
 have hi:i<xs.length:=(List.getElem?_eq_some_iff.1 hx).1
 obtain ⟨u,h1,_,_,h2,h3⟩:=hm i x hx
 simp [hi,f,h1] at hv
 subst hv
 exact ⟨h2,h3⟩
theorem Td {s d el:TypeId}{x:Operand}{a:X}(ho:o.op = .convert s d x) (hs:P.underlying s=some (.slice el)) (hd:P.underlying d=some .string) (hel:P.underlying el=some (.int .u8)) (hx:aI x=some a) (hX:bP G w T ρ)
 (he:au T H lv n cb (.b2s a)=some e):bQ P G w ρ o e:=by
 simp only [au] at he
 have h1:=hX _ _ hx
 split at he
 ·rename_i br xs hv
  split at he
  ·rename_i l hl
   simp only [Option.some.injEq] at he;subst he
   rw [hv] at h1
   rcases h1.inv_sl with ⟨p,cap,e1,_,rfl⟩ | ⟨b,off,len,cap,e1,hnb,hsz,hlen,hc,hcs,_⟩
   ·simp only [ln,Option.some.injEq] at hl;subst hl
    exact aD ⟨.string .empty,by cases p<;>simp [execOp,ho,e1,convert,run_underlying hs,run_underlying hd,run_underlying hel,Conv.bytesToString,loadCells,loadCellsFrom],.str _ _ rfl⟩
   ·obtain ⟨i1,i2⟩:=y8 hl
    obtain ⟨arr,ha,hr⟩:=kn (P:=P) hcs
    refine aD ⟨.string (gP l .empty),?_,.str _ _ (by simp [qJ])⟩
    have hlen':xs.length=len:=by omega
    rw [hlen'] at ha
    simp only [execOp,ho,e1,convert,Sem.run_bind,run_underlying hs,run_underlying hd,run_underlying hel,Result.andThen_ok,Conv.bytesToString,ha]
    rw [← Array.forIn_toList,qK (P:=P) (w:=w) arr.toList l .empty (by rw [← i1,hr.1];simp) (fun i v hv=>by
     have hlt:i<arr.size:=by have:=(List.getElem?_eq_some_iff.1 hv).1;simpa using this
     have hlt':i<xs.length:=by rw [hr.1];exact hlt
     obtain ⟨k,e2,e3⟩:=i2 i xs[i] (List.getElem?_eq_getElem hlt')
     have:=(hr.2 i xs[i] v (List.getElem?_eq_getElem hlt') (by simpa using hv)).2
     rw [e2] at this
     exact ⟨k,this.inv_int,e3⟩) (fun _ _=>rfl)]
    rfl
  ·simp at he
 ·rename_i hv
  simp only [Option.some.injEq] at he;subst he
  rw [hv] at h1
  rcases h1.inv_sl with ⟨p,cap,e1,_⟩ | ⟨b,off,len,cap,e1,hnb,hsz,_⟩
  ·exact aD ⟨.string .empty,by cases p<;>simp [execOp,ho,e1,convert,run_underlying hs,run_underlying hd,run_underlying hel,Conv.bytesToString,loadCells,loadCellsFrom],.str _ _ rfl⟩
  ·omega
 ·simp at he
end
end Go.Abs
/- Addresses, fields, indexes, slice expressions, lengths, function values. Condition: the state says what is in memory ('WRel', 'Rep'). -/
namespace Go.Abs
section
variable {P:Program}{G:Gh}{w:World}{T:Nat→AV}{H:Hp}{E:Nat→Option TypeId}{lv:Nat→Bool}{n cb:Nat}{ρ:Operand→Value}{hint:Hint}{o:Oper}{io:IOp}{e:Eff}
theorem gQ {b off:Nat}{f:Field}{s:Nat}(hs:bu P f.type=some s) (h0:s≠0):(fieldPlace ⟨b,off,none⟩ f).run P w = .ok ⟨b,off+f.offset,none⟩ w:=by
 simp [fieldPlace,bE hs,h0,cS]
theorem Fc {t:TypeId}{x:Operand}{i:Nat}{fs:Array Field}{f:Field}{s:Nat}{a:X}(ho:o.op = .fieldAddr t x i) (hu:P.underlying t=some (.struct fs)) (hf:fs[i]? = some f) (hs:bu P f.type=some s) (h0:s≠0)
 (hx:aI x=some a) (hX:bP G w T ρ) (he:au T H lv n cb (.fadd f.offset a)=some e):bQ P G w ρ o e:=by
 simp only [au] at he
 have h1:=hX _ _ hx
 split at he<;>simp only [Option.some.injEq,reduceCtorEq] at he<;>subst he<;>rename_i heq<;>rw [heq] at h1
 ·obtain ⟨b,ob,hv,hb⟩:=h1.ptr_ref
  refine aD ⟨.pointer (some ⟨b,ob+(_+f.offset),none⟩),?_,.ref _ _ _ _ hb⟩
  simp only [execOp,ho,hv,Instr.fieldAt,Sem.run_bind,run_underlying hu,Result.andThen_ok,hf,Instr.sureAddr,Sem.run_pure,gQ hs h0,Nat.add_assoc]
 ·obtain ⟨b,ob,hv,hb⟩:=h1.inv_pp
  refine aD ⟨.pointer (some ⟨b,ob+(_+f.offset),none⟩),?_,Rep.mk_pp hb⟩
  simp only [execOp,ho,hv,Instr.fieldAt,Sem.run_bind,run_underlying hu,Result.andThen_ok,hf,Instr.sureAddr,Sem.run_pure,gQ hs h0,Nat.add_assoc]
 ·obtain ⟨b,ob,hv,_,hb⟩:=h1.ptr_cp
  refine aD ⟨.pointer (some ⟨b,ob+(_+f.offset),none⟩),?_,hb _⟩
  simp only [execOp,ho,hv,Instr.fieldAt,Sem.run_bind,run_underlying hu,Result.andThen_ok,hf,Instr.sureAddr,Sem.run_pure,gQ hs h0,Nat.add_assoc]
theorem Te {t el:TypeId}{m s:Nat}{x:Operand}{a:X}(ho:o.op = .sliceToArrayPointer t x) (hu:P.underlying t=some (.array m el)) (hx:aI x=some a) (hX:bP G w T ρ)
 (he:au T H lv n cb (.s2a m s a)=some e):bQ P G w ρ o e:=by
 simp only [au] at he
 have h1:=hX _ _ hx
 split at he
 ·rename_i br s' xs heq
  rw [heq] at h1
  split at he
  ·rename_i hc
   obtain ⟨rfl,h0,hz,hle⟩:=hc
   simp only [Option.some.injEq] at he;subst he
   rcases h1.inv_sl with ⟨p,cap,_,_,rfl⟩ | ⟨b,off,len,cap,hv,_,hsz,hl,_,hcs,_⟩
   ·have:=Nat.mul_pos h0 hz
    simp only [List.length_nil] at hle
    omega
   ·have hlen:¬ len<m:=by
     rw [hl] at hle
     have:=Nat.le_of_mul_le_mul_right hle hz
     omega
    refine aD ⟨.pointer (some ⟨b,off,none⟩),?_,by simpa using Rep.mk_pp (off:=0) hcs⟩
    simp only [execOp,ho,hv,Instr.arrayAt,Sem.run_bind,run_underlying hu,Result.andThen_ok,hlen,if_false,Sem.run_pure]
  ·cases he
 ·rename_i id off len s' heq
  rw [heq] at h1
  split at he
  ·rename_i hc
   simp only [Option.some.injEq] at he;subst he
   obtain ⟨b,o,cap,hv,hβ,_,_⟩:=h1.inv_osl
   have hlen:¬ len<m:=by omega
   refine aD ⟨.pointer (some ⟨b,o+off,none⟩),?_,.ref _ _ _ _ hβ⟩
   simp only [execOp,ho,hv,Instr.arrayAt,Sem.run_bind,run_underlying hu,Result.andThen_ok,hlen,if_false,Sem.run_pure]
  ·cases he
 ·cases he
theorem Tf {t:TypeId}{x:Operand}{i:Nat}{fs:Array Field}{f:Field}{s:Nat}{g:Bool}{a:X}(ho:o.op = .field t x i) (hu:P.underlying t=some (.struct fs)) (hf:fs[i]? = some f) (hs:bu P f.type=some s) (hg:eD P f.type=some g)
 (hx:aI x=some a) (hX:bP G w T ρ) (he:au T H lv n cb (.fld f.offset s g a)=some e):bQ P G w ρ o e:=by
 simp only [au] at he
 have h1:=hX _ _ hx
 split at he
 ·rename_i cs heq
  rw [heq] at h1
  obtain ⟨arr,hv,hr⟩:=Row.of_agg h1
  split at he
  ·rename_i v hy
   simp only [Option.some.injEq] at he;subst he
   obtain ⟨u,k1,k2⟩:=nM (P:=P) hr hy hs hg
   exact aD ⟨u,by simp [execOp,ho,hv,Instr.field,run_underlying hu,hf,asAgg,k1],k2⟩
  ·simp at he
 ·simp at he
theorem jh {i:Int}{m j:Nat}(h:inB i m=some j):0≤i∧i<m∧i.toNat=j:=by
 unfold inB at h
 split at h
 ·rename_i h1
  simp only [Option.some.injEq] at h
  exact ⟨h1.1,h1.2,h⟩
 ·simp at h
theorem Tg {t el:TypeId}{k s:Nat}{x y:Operand}{a b:X}(ho:o.op = .indexAddr t x y) (hu:P.underlying t=some (.array k el)) (hs:bu P el=some s) (hx:aI x=some a) (hy:aI y=some b) (hX:bP G w T ρ)
 (he:au T H lv n cb (.iaA k s a b)=some e):bQ P G w ρ o e:=by
 simp only [au] at he
 have h1:=hX _ _ hx
 have h2:=hX _ _ hy
 split at he
 ·rename_i id off j heq hj
  split at he
  ·rename_i m hm
   simp only [Option.some.injEq] at he;subst he
   rw [heq] at h1
   obtain ⟨bl,ob,hv,hb⟩:=h1.ptr_ref
   obtain ⟨kk,hv2⟩:=fu hj h2
   obtain ⟨i0,i1,i2⟩:=jh hm
   refine aD ⟨.pointer (some ⟨bl,ob+(off+m*s),none⟩),?_,.ref _ _ _ _ hb⟩
   simp [execOp,ho,hv,hv2,Instr.indexAt,asIntOf,run_underlying hu,Instr.sureAddr,i0,i1,bE hs,cS,i2,Nat.add_assoc]
  ·simp at he
 ·rename_i xs off j heq hj
  split at he
  ·rename_i m hm
   simp only [Option.some.injEq] at he;subst he
   rw [heq] at h1
   obtain ⟨bl,ob,hv,hb⟩:=h1.inv_pp
   obtain ⟨kk,hv2⟩:=fu hj h2
   obtain ⟨i0,i1,i2⟩:=jh hm
   refine aD ⟨.pointer (some ⟨bl,ob+(off+m*s),none⟩),?_,Rep.mk_pp hb⟩
   simp [execOp,ho,hv,hv2,Instr.indexAt,asIntOf,run_underlying hu,Instr.sureAddr,i0,i1,bE hs,cS,i2,Nat.add_assoc]
  ·simp at he
 ·simp at he
theorem Th {t el:TypeId}{s:Nat}{x y:Operand}{a b:X}(ho:o.op = .indexAddr t x y) (hu:P.underlying t=some (.slice el)) (hs:bu P el=some s) (hx:aI x=some a) (hy:aI y=some b) (hX:bP G w T ρ)
 (he:au T H lv n cb (.iaS s a b)=some e):bQ P G w ρ o e:=by
 simp only [au] at he
 have h1:=hX _ _ hx
 have h2:=hX _ _ hy
 split at he
 ·rename_i br s' xs j heq hj
  split at he
  ·rename_i hss
   split at he
   ·rename_i m hm
    simp only [Option.some.injEq] at he;subst he
    rw [heq] at h1
    obtain ⟨kk,hv2⟩:=fu hj h2
    obtain ⟨i0,i1,i2⟩:=jh hm
    rcases h1.inv_sl with ⟨_,_,_,_,rfl⟩ | ⟨bl,off,len,cap,hv,hnb,hsz,hlen,hc,hcs,_⟩
    ·simp at i1;omega
    ·rcases hss with hss | hss
     case inr=>subst hss;simp at i1;omega
     subst hss
     have hdiv:xs.length/s'=len:=by rw [hlen];exact Nat.mul_div_cancel _ hsz
     rw [hdiv] at i1
     refine aD ⟨.pointer (some ⟨bl,off+m*s',none⟩),?_,Rep.mk_pp hcs⟩
     simp [execOp,ho,hv,hv2,Instr.indexAt,asIntOf,run_underlying hu,i0,i1,bE hs,cS,i2]
   ·simp at he
  ·simp at he
 ·rename_i id off len s' j heq hj
  split at he
  ·rename_i hss
   subst hss
   split at he
   ·rename_i m hm
    simp only [Option.some.injEq] at he;subst he
    rw [heq] at h1
    obtain ⟨kk,hv2⟩:=fu hj h2
    obtain ⟨i0,i1,i2⟩:=jh hm
    obtain ⟨bl,ob,cap,hv,hb,_⟩:=h1.inv_osl
    refine aD ⟨.pointer (some ⟨bl,ob+(off+m*s'),none⟩),?_,.ref _ _ _ _ hb⟩
    simp [execOp,ho,hv,hv2,Instr.indexAt,asIntOf,run_underlying hu,i0,i1,bE hs,cS,i2,Nat.add_assoc]
   ·simp at he
  ·simp at he
 ·simp at he
theorem Ti {t el:TypeId}{k s:Nat}{g:Bool}{x y:Operand}{a b:X}(ho:o.op = .index t x y) (hu:P.underlying t=some (.array k el)) (hs:bu P el=some s) (hg:eD P el=some g) (hx:aI x=some a) (hy:aI y=some b) (hX:bP G w T ρ)
 (he:au T H lv n cb (.ixA k s g a b)=some e):bQ P G w ρ o e:=by
 simp only [au] at he
 have h1:=hX _ _ hx
 have h2:=hX _ _ hy
 split at he
 ·rename_i cs j heq hj
  split at he
  ·rename_i m hm
   split at he
   ·rename_i v hy'
    simp only [Option.some.injEq] at he;subst he
    rw [heq] at h1
    obtain ⟨arr,hv,hr⟩:=Row.of_agg h1
    obtain ⟨kk,hv2⟩:=fu hj h2
    obtain ⟨i0,i1,i2⟩:=jh hm
    obtain ⟨u,k1,k2⟩:=nM (P:=P) hr hy' hs hg
    refine aD ⟨u,?_,k2⟩
    simp [execOp,ho,hv,hv2,Instr.index,asIntOf,run_underlying hu,i0,i1,bE hs,i2,k1]
   ·simp at he
  ·simp at he
 ·simp at he
theorem Tj {t:TypeId}{x y:Operand}{a b:X}(ho:o.op = .index t x y) (hu:P.underlying t=some .string) (hx:aI x=some a) (hy:aI y=some b) (hX:bP G w T ρ)
 (he:au T H lv n cb (.ixS a b)=some e):bQ P G w ρ o e:=by
 simp only [au] at he
 have h1:=hX _ _ hx
 have h2:=hX _ _ hy
 split at he
 ·rename_i l j heq hj
  split at he
  ·rename_i h0
   split at he
   ·rename_i bt hb
    simp only [Option.some.injEq] at he;subst he
    rw [heq] at h1
    obtain ⟨s,hv,rfl⟩:=h1.inv_str
    obtain ⟨kk,hv2⟩:=fu hj h2
    have hb':s[j.toNat]? = some bt:=by
     simp only [Array.getElem?_toList] at hb
     have hlt:j.toNat<s.data.size:=(Array.getElem?_eq_some_iff.1 hb).1
     have h3:=(Array.getElem?_eq_some_iff.1 hb).2
     rw [getElem?_pos s j.toNat hlt]
     exact congrArg some h3
    refine aD ⟨.int .u8 bt.toNat,?_,.int _ _⟩
    simp only [execOp,ho,hv,hv2,Instr.index,asIntOf,Sem.run_bind,Sem.run_pure,Result.andThen_ok,run_underlying hu,if_pos h0,hb']
   ·simp at he
  ·simp at he
 ·simp at he
theorem Tk {x:Operand}{i:Nat}{a:X}(ho:o.op = .extract x i) (hx:aI x=some a) (hX:bP G w T ρ) (he:au T H lv n cb (.ext a i)=some e):bQ P G w ρ o e:=by
 simp only [au] at he
 have h1:=hX _ _ hx
 split at he
 ·rename_i vs heq
  split at he
  ·rename_i v hv
   simp only [Option.some.injEq] at he;subst he
   rw [heq] at h1
   obtain ⟨arr,e1,hl,hr⟩:=h1.inv_tup
   have hlt:i<arr.size:=by rw [← hl];exact (List.getElem?_eq_some_iff.1 hv).1
   have e2:arr[i]? = some arr[i]:=Array.getElem?_eq_getElem hlt
   exact aD ⟨arr[i],by simp [execOp,ho,e1,Instr.extract,e2],hr i v _ hv e2⟩
  ·simp at he
 ·simp at he
theorem wG {l:List Operand}{xs:List X}(h:cW l=some xs):xs.length=l.length∧∀ (i:Nat) (y:Operand),l[i]? = some y→∃ x,xs[i]? = some x∧aI y=some x:=by
 induction l generalizing xs with
 | nil=>simp only [cW,Option.some.injEq] at h;subst h;simp
 | cons y l ih=>
  simp only [cW] at h
  split at h
  ·rename_i a l' ha hl'
   simp only [Option.some.injEq] at h;subst h
   obtain ⟨i1,i2⟩:=ih hl'
   refine ⟨by simp [i1],fun i z hz=>?_⟩
   cases i with
   | zero=>simp at hz;subst hz;exact ⟨a,rfl,ha⟩
   | succ i=>simp at hz;simpa using i2 i z hz
  ·simp at h
theorem bP.list (hX:bP G w T ρ) {l:List Operand}{xs:List X}(h:cW l=some xs):(xs.map (ev T)).length=(l.map ρ).length∧
 ∀ (i:Nat) (x:AV) (v:Value),(xs.map (ev T))[i]? = some x→(l.map ρ)[i]? = some v→Rep G w x v:=by
 obtain ⟨i1,i2⟩:=wG h
 refine ⟨by simp [i1],fun i x v hx hv=>?_⟩
 simp only [List.getElem?_map,Option.map_eq_some_iff] at hx hv
 obtain ⟨y,hy,rfl⟩:=hv
 obtain ⟨z,hz,rfl⟩:=hx
 obtain ⟨z',hz',hr⟩:=i2 i y hy
 rw [hz] at hz';cases hz'
 exact hX _ _ hr
theorem Tl {f:FuncId}{fs cs:Array Operand}{la lb:List X}(ho:o.op = .makeFunc (.func f) fs cs) (hf:cW fs.toList=some la) (hc:cW cs.toList=some lb) (hX:bP G w T ρ) :
 bQ P G w ρ o { v:=.fn f (la.map (ev T)) (lb.map (ev T)) }:=by
 obtain ⟨l1,r1⟩:=hX.list hf
 obtain ⟨l2,r2⟩:=hX.list hc
 refine aD ⟨.func (.func f) (fs.map ρ) (cs.map ρ),by simp [execOp,ho,Instr.makeFunc],.fn _ _ _ _ _ (by simpa using l1) (by simpa using l2) ?_ ?_⟩
 ·intro i x v hx hv
  exact r1 i x v hx (by simpa using hv)
 ·intro i x v hx hv
  exact r2 i x v hx (by simpa using hv)
theorem Ff {t:TypeId}{x:Operand}{a:X}{d:TypeDesc}(ho:o.op = .makeInterface t x) (hu:P.underlying t=some d) (hd:∀ ms,d≠.interface ms) (hx:aI x=some a) (hX:bP G w T ρ)
 (he:au T H lv n cb (.mkif t a)=some e):bQ P G w ρ o e:=by
 simp only [au] at he
 have h1:=hX _ _ hx
 have hr:(Instr.makeInterface t (ρ x)).run P w = .ok (.iface t (ρ x)) w:=by
  simp only [Instr.makeInterface,Sem.run_bind,run_underlying hu,Result.andThen_ok]
  cases d<;>first | rfl | (exact absurd rfl (hd _))
 generalize ev T a=y at he h1
 cases y<;>simp only [Option.some.injEq,reduceCtorEq] at he<;>subst he
 all_goals exact aD ⟨_,by simp [execOp,ho,hr],.iface _ _ _ (by first | exact .inl rfl | exact .inr ⟨_,rfl⟩) h1⟩
theorem gR {c:Call}{x:Operand}(ho:o.op = .call c) (hc:c.callee = .builtin .len) (hargs:c.args = #[x]) {u:Value}(h:(Builtin.len_ c.argTypes o.type #[ρ x]).run P w = .ok u w) :
 (execOp ρ o).run P w = .ok (.value u) w:=by
 simp [execOp,ho,resolve,hc,hargs,invoke,builtin,h]
theorem Tm {c:Call}{t el:TypeId}{s:Nat}{x:Operand}{a:X}(ho:o.op = .call c) (hc:c.callee = .builtin .len) (hargs:c.args = #[x]) (ht:c.argTypes[0]? = some t)
 (hu:P.underlying t=some (.slice el)) (hx:aI x=some a) (hX:bP G w T ρ)
 (he:au T H lv n cb (.len s a)=some e):bQ P G w ρ o e:=by
 simp only [au] at he
 have h1:=hX _ _ hx
 split at he
 ·rename_i br s' xs heq
  split at he
  ·rename_i hss
   simp only [Option.some.injEq] at he;subst he
   rw [heq] at h1
   rcases h1.inv_sl with ⟨p,cap,e1,_,rfl⟩ | ⟨bl,off,len,cap,e1,hnb,hsz,hlen,_⟩
   ·refine aD ⟨.int .i64 0,gR ho hc hargs (by simp [Builtin.len_,ht,run_underlying hu,e1,goInt]),?_⟩
    simp only [List.length_nil,Nat.zero_div];exact .int _ _
   ·have hdiv:xs.length/s=len:=by
     rcases hss with rfl | rfl
     ·rw [hlen];exact Nat.mul_div_cancel _ hsz
     ·simp only [List.length_nil] at hlen
      have:len=0:=by
       rcases Nat.eq_zero_or_pos len with h | h
       ·exact h
       ·have:=Nat.mul_pos h hsz;omega
      simp [this]
    rw [hdiv]
    exact aD ⟨.int .i64 len,gR ho hc hargs (by simp [Builtin.len_,ht,run_underlying hu,e1,goInt]),.int _ _⟩
  ·simp at he
 ·rename_i id off len s' heq
  simp only [Option.some.injEq] at he;subst he
  rw [heq] at h1
  obtain ⟨bl,ob,cap,e1,_⟩:=h1.inv_osl
  exact aD ⟨.int .i64 len,gR ho hc hargs (by simp [Builtin.len_,ht,run_underlying hu,e1,goInt]),.int _ _⟩
 ·simp at he
theorem Fg {c:Call}{t:TypeId}{x:Operand}{a:X}(ho:o.op = .call c) (hc:c.callee = .builtin .len) (hargs:c.args = #[x]) (ht:c.argTypes[0]? = some t)
 (hu:P.underlying t=some .string) (hx:aI x=some a) (hX:bP G w T ρ) (he:au T H lv n cb (.lenS a)=some e):bQ P G w ρ o e:=by
 simp only [au] at he
 have h1:=hX _ _ hx
 split at he
 ·rename_i l heq
  simp only [Option.some.injEq] at he;subst he
  rw [heq] at h1
  obtain ⟨u,e1,rfl⟩:=h1.inv_str
  refine aD ⟨.int .i64 u.size,gR ho hc hargs (by simp [Builtin.len_,ht,run_underlying hu,e1,goInt]),?_⟩
  have:u.data.toList.length=u.size:=Array.length_toList
  rw [this];exact .int _ _
 ·simp at he
theorem Fh {c:Call}{t el:TypeId}{m:Nat}{x:Operand}(ho:o.op = .call c) (hc:c.callee = .builtin .len) (hargs:c.args = #[x]) (ht:c.argTypes[0]? = some t)
 (hu:P.underlying t=some (.array m el)):bQ P G w ρ o { v:=.int .i64 m }:=
 aD ⟨.int .i64 m,gR ho hc hargs (by simp [Builtin.len_,ht,run_underlying hu,goInt]),.int _ _⟩
end
end Go.Abs
/- Composite values; min and max; slice expressions. Condition: the state says what is in memory ('WRel', 'Rep'). -/
namespace Go.Abs
section
variable {P:Program}{G:Gh}{w:World}{T:Nat→AV}{H:Hp}{E:Nat→Option TypeId}{lv:Nat→Bool}{n cb:Nat}{ρ:Operand→Value}{hint:Hint}{o:Oper}{io:IOp}{e:Eff}
theorem jJ {z:List AV}{off:Nat}{v:AV}{cs:List AV}(h:stored v=some cs) (hle:off+cs.length≤z.length):lu z off v=cd z off cs:=by
 cases v<;>simp only [stored,Option.some.injEq,reduceCtorEq] at h<;>subst h
 case agg=>rfl
 all_goals
  simp only [lu,cd,List.length_cons,List.length_nil,Nat.zero_add] at hle ⊢
  rw [List.set_eq_take_append_cons_drop,if_pos (by omega)]
  simp
theorem nO (z:List AV) (off:Nat) (cs:List AV) (hle:off+cs.length≤z.length) (i:Nat):(cd z off cs)[i]? = if off≤i∧i<off+cs.length then cs[i-off]? else z[i]?:=by
 unfold cd
 rw [List.append_assoc]
 by_cases h1:i<off
 ·rw [if_neg (by omega),List.getElem?_append_left (by simp;omega),List.getElem?_take_of_lt h1]
 ·rw [List.getElem?_append_right (by simp;omega)]
  have h2:(z.take off).length=off:=by simp;omega
  rw [h2]
  by_cases h3:i<off+cs.length
  ·rw [if_pos ⟨by omega,h3⟩,List.getElem?_append_left (by omega)]
  ·rw [if_neg (by omega),List.getElem?_append_right (by omega),List.getElem?_drop]
   congr 1;omega
theorem iJ (z:List AV) (off:Nat) (cs:List AV) (hle:off+cs.length≤z.length):(cd z off cs).length=z.length:=by
 simp [cd];omega
theorem pA (off:Nat):∀ (l:List Value) (k:Nat) (arr:Array Value),((l.zipIdx k).foldl (fun (a:Array Value) (p:Value×Nat)=>a.setIfInBounds (off+p.2) p.1) arr).size=arr.size∧
 ∀ i,((l.zipIdx k).foldl (fun (a:Array Value) (p:Value×Nat)=>a.setIfInBounds (off+p.2) p.1) arr)[i]? = if off+k≤i∧i<off+k+l.length∧i<arr.size then l[i-(off+k)]? else arr[i]?
 | [],k,arr=>by simp;intro i h1 h2;omega
 | v::l,k,arr=>by
  obtain ⟨h1,h2⟩:=pA off l (k+1) (arr.setIfInBounds (off+k) v)
  simp only [List.zipIdx_cons,List.foldl_cons]
  refine ⟨by rw [h1];simp,fun i=>?_⟩
  rw [h2 i]
  simp only [Array.size_setIfInBounds,List.length_cons]
  by_cases h3:off+(k+1)≤i∧i<off+(k+1)+l.length∧i<arr.size
  ·rw [if_pos h3,if_pos (by omega)]
   have:i-(off+k)=(i-(off+(k+1)))+1:=by omega
   rw [this,List.getElem?_cons_succ]
  ·rw [if_neg h3]
   by_cases h4:i=off+k
   ·subst h4
    by_cases h5:off+k<arr.size
    ·rw [if_pos (by omega),Array.getElem?_setIfInBounds_self_of_lt h5];simp
    ·rw [if_neg (by omega),Array.getElem?_eq_none (by simp;omega),Array.getElem?_eq_none (by omega)]
   ·rw [if_neg (by omega),Array.getElem?_setIfInBounds_ne (by omega)]
theorem BL {z:List AV}{arr:Array Value}(hz:Row G w z arr) {cs:List AV}{vc:Array Value}(hc:Row G w cs vc) {off:Nat}(hle:off+cs.length≤z.length) :
 Row G w (cd z off cs) (vc.zipIdx.foldl (fun (a:Array Value) (p:Value×Nat)=>a.setIfInBounds (off+p.2) p.1) arr):=by
 rw [← Array.foldl_toList,Array.toList_zipIdx]
 obtain ⟨h1,h2⟩:=pA off vc.toList 0 arr
 have hcl:=hc.1
 have hzl:=hz.1
 refine ⟨by rw [iJ _ _ _ hle,h1,hzl],fun i x v hx hv=>?_⟩
 rw [nO _ _ _ hle] at hx
 rw [h2 i] at hv
 simp only [Nat.add_zero,Array.length_toList] at hv
 by_cases h3:off≤i∧i<off+cs.length
 ·rw [if_pos h3] at hx
  rw [if_pos ⟨h3.1,by omega,by omega⟩] at hv
  exact hc.2 _ x v hx (by simpa using hv)
 ·rw [if_neg h3] at hx
  rw [if_neg (by omega)] at hv
  exact hz.2 _ x v hx hv
theorem Rep.canon {br sz:Nat}{xs:List AV}{v:Value}(h:Rep G w (.sl br sz xs) v):Rep G w (csl sz xs) v∧(csl sz xs).leaf=true:=by
 cases h with
 | emp _ _ p cap hb=>exact ⟨.emp 1 0 p cap (.inl rfl),rfl⟩
 | sl _ _ _ b off len cap hnb hsz hl hc vs hk hx h0 h3=>
  cases xs with
  | nil=>
   have:len=0:=by
    simp only [List.length_nil] at hl
    rcases Nat.eq_zero_or_pos len with h | h
    ·exact h
    ·have:=Nat.mul_pos h hsz;omega
   subst this
   exact ⟨.emp 1 0 _ cap (.inl rfl),rfl⟩
  | cons x xs=>exact ⟨.sl _ _ _ b off len cap (by omega) hsz hl hc vs hk hx (by omega) (by omega),rfl⟩
theorem Rep.aF {y:AV}{v:Value}(h:Rep G w y v):Rep G w (aF y) v:=by
 cases y
 case sl br sz xs=>
  simp only [Go.Abs.aF]
  split
  ·rename_i hb;rw [← hb];exact h
  ·exact h.canon.1
 all_goals exact h
theorem Rep.eo {br sz:Nat}{xs:List AV}{v:Value}(h:Rep G w (.sl br sz xs) v):Rep G w (eo br sz xs) v:=by
 unfold Go.Abs.eo
 split
 ·exact h.canon.1
 ·exact h
theorem fw {y:AV}(h:y.leaf=true):(aF y).leaf=true:=by
 cases y
 case sl br sz xs=>simp only [Go.Abs.aF];split<;>rfl
 all_goals exact h
theorem qL (sz:Nat) (xs:List AV):(csl sz xs).flat=true:=rfl
theorem fx {y:AV}(h:y.flat=true):(aF y).flat=true:=by
 cases y
 case sl br sz xs=>simp only [Go.Abs.aF];split<;>rfl
 all_goals exact h
theorem Row.canon {xs:List AV}{arr:Array Value}(h:Row G w xs arr):Row G w (xs.map Go.Abs.aF) arr:=by
 refine ⟨by simpa using h.1,fun i x v hx hv=>?_⟩
 simp only [List.getElem?_map,Option.map_eq_some_iff] at hx
 obtain ⟨y,hy,rfl⟩:=hx
 obtain ⟨k1,k2⟩:=h.2 i y v hy hv
 exact ⟨fw k1,k2.aF⟩
theorem Rep.share {x:AV}{v:Value}(h:Rep G w x v):Rep G w x.share v:=by
 cases x
 case agg cs=>
  obtain ⟨arr,rfl,hr⟩:=Row.of_agg h
  exact Row.agg hr.canon
 all_goals exact h.aF
theorem iQ {place:Nat→Option (Nat×Nat)}{sh:Bool}(hX:bP G w T ρ):∀ (ps:List (Nat×Operand)) (l:List (Nat×Nat×X)) (z zs:List AV) (arr:Array Value),dh place ps=some l→Row G w z arr→fill T sh z l=some zs→
 ∃ arr',Instr.fill place arr (ps.map fun p=>(p.1,ρ p.2))=some arr'∧Row G w zs arr'
 | [],l,z,zs,arr,h,hz,hf=>by
  simp only [dh,Option.some.injEq] at h;subst h
  simp only [fill,Option.some.injEq] at hf;subst hf
  exact ⟨arr,rfl,hz⟩
 | (i,y)::ps,l,z,zs,arr,h,hz,hf=>by
  simp only [dh] at h
  split at h
  ·rename_i off s a l' hp ha hl'
   simp only [Option.some.injEq] at h;subst h
   simp only [fill] at hf
   have hr:=hX _ _ ha
   obtain ⟨x,hx,hrx⟩:∃ x,(if sh=true then (ev T a).share else ev T a)=x∧Rep G w x (ρ y):=by
    cases sh
    ·exact ⟨_,rfl,hr⟩
    ·exact ⟨_,rfl,hr.share⟩
   rw [hx] at hf
   split at hf
   ·simp at hf
   ·rename_i cs hcs
    split at hf
    ·rename_i hc
     have hrow:=iO hrx hcs
     rw [jJ hcs (by omega)] at hf
     have hput:=BL hz hrow (off:=off) (by omega)
     obtain ⟨arr',h1,h2⟩:=iQ hX ps l' _ zs _ hl' hput hf
     refine ⟨arr',?_,h2⟩
     have e1:(decide ((ρ y).cells.size≠s)||decide (off+(ρ y).cells.size>arr.size))=false:=by
      have:=hrow.1;have:=hz.1
      simp only [Bool.or_eq_false_iff,decide_eq_false_iff_not]
      omega
     simp only [List.map_cons,Instr.fill,hp,e1,Bool.false_eq_true,if_false]
     exact h1
    ·simp at hf
  ·simp at h
theorem sK {fs:Array Field}{l:List (Nat×Nat)}(h:mm P fs=some l) :
 (fs.mapM fun f=>do pure (f.offset,← sizeOf f.type):Sem (Array (Nat×Nat))).run P w = .ok l.toArray w:=by
 unfold mm at h
 rw [Array.mapM_eq_mapM_toList]
 generalize fs.toList=fl at h
 have key:(fl.mapM (fun f=>do pure (f.offset,← sizeOf f.type):Field→Sem (Nat×Nat))).run P w = .ok l w:=by
  induction fl generalizing l with
  | nil=>simp at h;subst h;simp
  | cons f fl ih=>
   rw [List.mapM_cons] at h
   simp only [bind,Option.bind_eq_some_iff,pure,Option.some.injEq,Option.map_eq_some_iff] at h
   obtain ⟨p,⟨s,hs,rfl⟩,l',hl',rfl⟩:=h
   rw [List.mapM_cons]
   simp only [Sem.run_bind,bE hs,Result.andThen_ok,Sem.run_pure,ih hl']
 simp only [Sem.run_map,key,Result.andThen_ok]
theorem tp {t:TypeId}{parts:Array (Nat×Operand)}{z:List AV}{l:List (Nat×Nat×X)}(ho:o.op = .build t parts) (hz:fX P t=some z)
 (hu:(∃ fs fl,P.underlying t=some (.struct fs)∧mm P fs=some fl∧dh (fl[·]?) parts.toList=some l)∨(∃ m el s,P.underlying t=some (.array m el)∧bu P el=some s∧dh (fun i=>some (i*s,s)) parts.toList=some l))
 (hX:bP G w T ρ) (he:au T H lv n cb (.build z l)=some e):bQ P G w ρ o e:=by
 simp only [au] at he
 split at he
 ·rename_i cs hcs
  simp only [Option.some.injEq] at he;subst he
  obtain ⟨zv,h1,h2,_⟩:=ir (G:=G) hz w
  have hpm:(parts.map fun (p:Nat×Operand)=>(p.1,ρ p.2)).toList=parts.toList.map fun p=>(p.1,ρ p.2):=by simp
  rcases hu with ⟨fs,fl,hu,hfl,hl⟩ | ⟨m,el,s,hu,hs,hl⟩
  ·obtain ⟨arr',h3,h4⟩:=iQ hX _ _ _ _ _ hl h2 hcs
   refine aD ⟨.agg arr',?_,h4.agg⟩
   have hfr:=sK (P:=P) (w:=w) hfl
   have e1:(fun (i:Nat)=>fl.toArray[i]?)=(fun (i:Nat)=>fl[i]?):=by funext i;simp
   simp only [execOp,ho,Instr.build,Sem.run_bind,h1,Result.andThen_ok,run_underlying hu,hfr,e1]
   rw [hpm,h3]
   rfl
  ·obtain ⟨arr',h3,h4⟩:=iQ hX _ _ _ _ _ hl h2 hcs
   refine aD ⟨.agg arr',?_,h4.agg⟩
   simp only [execOp,ho,Instr.build,Sem.run_bind,h1,Result.andThen_ok,run_underlying hu,bE hs]
   rw [hpm,h3]
   rfl
 ·simp at he
theorem pB {mx:Bool}(hX:bP G w T ρ):∀ (l:List Operand) (xs:List X) (a:AV) (u:Value) (r:AV),cW l=some xs→Rep G w a u→hU mx T a xs=some r→
 ∃ v,((l.map ρ).foldlM (if mx then Builtin.max2 else Builtin.min2) u).run P w = .ok v w∧Rep G w r v
 | [],xs,a,u,r,h,hu,hr=>by
  simp only [cW,Option.some.injEq] at h;subst h
  simp only [hU,Option.some.injEq] at hr;subst hr
  exact ⟨u,by simp,hu⟩
 | y::l,xs,a,u,r,h,hu,hr=>by
  simp only [cW] at h
  split at h
  ·rename_i b xs' hb hxs
   simp only [Option.some.injEq] at h;subst h
   have h2:=hX _ _ hb
   obtain ⟨k,p,rfl,hr'⟩:∃ k p,a = .int k p∧(match ev T b with
    | .int _ q=>hU mx T (.int k (if mx then (if q>p then q else p) else (if q<p then q else p))) xs'
    | _=>none)=some r:=by
    cases a<;>simp only [hU,reduceCtorEq] at hr
    exact ⟨_,_,rfl,hr⟩
   ·split at hr'
    ·rename_i k' q hq
     rw [hq] at h2
     have e1:=hu.inv_int
     have e2:=h2.inv_int
     obtain ⟨v,h3,h4⟩:=pB hX l _ _ (.int k (if mx then (if q>p then q else p) else (if q<p then q else p))) r hxs (.int _ _) hr'
     refine ⟨v,?_,h4⟩
     simp only [List.map_cons,List.foldlM_cons,Sem.run_bind,e1,e2]
     cases mx
     ·simp only [Bool.false_eq_true,if_false] at h3 ⊢
      simp only [Builtin.min2,Sem.run_pure,Result.andThen_ok]
      exact h3
     ·simp only [if_true] at h3 ⊢
      simp only [Builtin.max2,Sem.run_pure,Result.andThen_ok]
      exact h3
    ·simp at hr'
  ·simp at h
theorem Fi {c:Call}{mx:Bool}{l:List Operand}{xs:List X}(ho:o.op = .call c) (hc:c.callee = .builtin (if mx then .max else .min)) (hargs:c.args.toList=l) (hl:cW l=some xs) (hX:bP G w T ρ)
 (he:au T H lv n cb (.mn mx xs)=some e):bQ P G w ρ o e:=by
 cases xs with
 | nil=>simp [au] at he
 | cons x xs=>
  cases l with
  | nil=>simp [cW] at hl
  | cons y l=>
   simp only [cW] at hl
   split at hl
   ·rename_i a l' ha hl'
    simp only [Option.some.injEq,List.cons.injEq] at hl
    obtain ⟨rfl,rfl⟩:=hl
    simp only [au] at he
    split at he
    ·rename_i v hv
     simp only [Option.some.injEq] at he;subst he
     obtain ⟨u,h1,h2⟩:=pB (P:=P) hX l _ _ _ _ hl' (hX _ _ ha) hv
     refine aD ⟨u,?_,h2⟩
     have hmap:(c.args.map ρ).toList=ρ y::l.map ρ:=by simp [hargs]
     cases mx
     ·simp only [Bool.false_eq_true,if_false] at hc h1
      simp only [execOp,ho,resolve,hc,Sem.run_bind,Sem.run_pure,Result.andThen_ok,invoke,builtin,Builtin.min_,hmap,h1]
     ·simp only [if_true] at hc h1
      simp only [execOp,ho,resolve,hc,Sem.run_bind,Sem.run_pure,Result.andThen_ok,invoke,builtin,Builtin.max_,hmap,h1]
    ·simp at he
   ·simp at hl
end
end Go.Abs
/- Slice expressions. Condition: the state says what is in memory ('WRel', 'Rep'). -/
namespace Go.Abs
section
variable {P:Program}{G:Gh}{w:World}{T:Nat→AV}{H:Hp}{E:Nat→Option TypeId}{lv:Nat→Bool}{n cb:Nat}{ρ:Operand→Value}{hint:Hint}{o:Oper}{io:IOp}{e:Eff}
theorem wH {x:X}{y:Operand}{i:Int}{k:Nat}{code:BoundsCode}(hx:aI y=some x) (hX:bP G w T ρ) (hi:asI (ev T x)=some i) (h:0≤i∧i≤k) :
 (Instr.sliceBound (ρ y) k code).run P w = .ok i.toNat w:=by
 obtain ⟨kk,e1⟩:=fu hi (hX _ _ hx)
 simp [Instr.sliceBound,e1,asIntOf,h]
theorem eZ {y:Option Operand}(h:dW y=some none):y=none:=by
 cases y with
 | none=>rfl
 | some z=>simp only [dW,Option.map_eq_some_iff,reduceCtorEq,and_false,exists_false] at h
theorem gm {y:Option Operand}{x:X}(h:dW y=some (some x)):∃ z,y=some z∧aI z=some x:=by
 cases y with
 | none=>simp [dW] at h
 | some z=>
  simp only [dW,Option.map_eq_some_iff,Option.some.injEq] at h
  obtain ⟨a,h1,rfl⟩:=h
  exact ⟨z,rfl,h1⟩
def bnd (T:Nat→AV) (x:Option X) (d y:Nat):Option Nat:=match x with
 | none=>some d
 | some x=>match asI (ev T x) with
  | some i=>if 0≤i∧i≤y then some i.toNat else none
  | none=>none
theorem jZ (len:Nat) (lo hi mx:Option X):eX T len lo hi mx=match bnd T mx len len with
 | none=>none
 | some m=>match bnd T hi len m with
  | none=>none
  | some h=>match bnd T lo 0 h with
   | none=>none
   | some l=>some (l,h,m):=rfl
theorem nj {x:X}{d y r:Nat}(h:bnd T (some x) d y=some r):∃ i,asI (ev T x)=some i∧0≤i∧i≤y∧i.toNat=r:=by
 simp only [bnd] at h
 split at h
 ·rename_i i hi
  split at h
  ·rename_i hc
   simp only [Option.some.injEq] at h
   exact ⟨i,hi,hc.1,hc.2,h⟩
  ·simp at h
 ·simp at h
theorem wI {x:Option X}{d y r:Nat}(h:bnd T x d y=some r) (hd:d≤y):r≤y:=by
 cases x with
 | none=>simp only [bnd,Option.some.injEq] at h;omega
 | some x=>obtain ⟨i,_,h1,h2,h3⟩:=nj h;omega
theorem gS {len cap:Nat}{sl:Bool}{lo hi mx:Option X}{lo' hi' mx':Option Operand}{l h m:Nat}(hlo:dW lo'=some lo) (hhi:dW hi'=some hi) (hmx:dW mx'=some mx) (hX:bP G w T ρ)
 (hb:eX T len lo hi mx=some (l,h,m)) (hc:len≤cap) (hn:mx.isSome=true→hi.isSome=true) :
 (Instr.sliceBounds sl len cap (lo'.map ρ) (hi'.map ρ) (mx'.map ρ)).run P w = .ok (l,h,if mx.isSome then m else cap) w∧l≤h∧h≤m∧m≤len:=by
 rw [jZ] at hb
 split at hb
 ·simp at hb
 ·rename_i m' hm
  split at hb
  ·simp at hb
  ·rename_i h' hh
   split at hb
   ·simp at hb
   ·rename_i l' hl
    simp only [Option.some.injEq,Prod.mk.injEq] at hb
    obtain ⟨rfl,rfl,rfl⟩:=hb
    have hml:=wI hm (Nat.le_refl _)
    have hhm:h'≤m':=by
     cases hi with
     | none=>
      simp only [bnd,Option.some.injEq] at hh
      cases mx with
      | none=>simp only [bnd,Option.some.injEq] at hm;omega
      | some x=>simp at hn
     | some x=>obtain ⟨i,_,h1,h2,h3⟩:=nj hh;omega
    have hlh:=wI hl (Nat.zero_le _)
    refine ⟨?_,hlh,hhm,hml⟩
    have run:∀ {x:X}{z:Operand}{d y r:Nat},bnd T (some x) d y=some r→aI z=some x→∀ k code,r≤k→(Instr.sliceBound (ρ z) k code).run P w = .ok r w:=by
     intro x z d y r hb hz k code hk
     obtain ⟨i,hi1,hi2,hi3,rfl⟩:=nj hb
     exact wH hz hX hi1 ⟨hi2,by omega⟩
    unfold Instr.sliceBounds
    cases mx with
    | none=>
     have:=eZ hmx;subst this
     simp only [bnd,Option.some.injEq] at hm;subst hm
     cases hi with
     | none=>
      have:=eZ hhi;subst this
      simp only [bnd,Option.some.injEq] at hh;subst hh
      cases lo with
      | none=>
       have:=eZ hlo;subst this
       simp only [bnd,Option.some.injEq] at hl;subst hl
       simp
      | some y=>
       obtain ⟨z,rfl,hz⟩:=gm hlo
       simp [run hl hz len .sliceB (by omega)]
     | some v=>
      obtain ⟨z,rfl,hz⟩:=gm hhi
      have r1:=fun code=>run hh hz cap code (by omega)
      cases lo with
      | none=>
       have:=eZ hlo;subst this
       simp only [bnd,Option.some.injEq] at hl;subst hl
       cases sl<;>simp [r1]
      | some y=>
       obtain ⟨z',rfl,hz'⟩:=gm hlo
       cases sl<;>simp [r1,run hl hz' h' .sliceB (by omega)]
    | some u=>
     obtain ⟨zm,rfl,hzm⟩:=gm hmx
     have r0:=fun code=>run hm hzm cap code (by omega)
     cases hi with
     | none=>simp at hn
     | some v=>
      obtain ⟨z,rfl,hz⟩:=gm hhi
      have r1:=fun code=>run hh hz m' code (by omega)
      cases lo with
      | none=>
       have:=eZ hlo;subst this
       simp only [bnd,Option.some.injEq] at hl;subst hl
       cases sl<;>simp [r0,r1]
      | some y=>
       obtain ⟨z',rfl,hz'⟩:=gm hlo
       cases sl<;>simp [r0,r1,run hl hz' h' .slice3C (by omega)]
theorem qM {α:Type}(c:Prop) [Decidable c] (a b:α):(if c then some a else some b)=some (if c then a else b):=by split<;>rfl
theorem To {t:TypeId}{x:Operand}{lo' hi':Option Operand}{a:X}{lo hi:Option X}(ho:o.op = .slice t x lo' hi' none) (hu:P.underlying t=some .string) (hx:aI x=some a) (hlo:dW lo'=some lo) (hhi:dW hi'=some hi) (hX:bP G w T ρ)
 (he:au T H lv n cb (.slS a lo hi)=some e):bQ P G w ρ o e:=by
 simp only [au] at he
 have h1:=hX _ _ hx
 split at he
 ·rename_i l heq
  split at he
  ·rename_i p q m hb
   simp only [Option.some.injEq] at he;subst he
   rw [heq] at h1
   obtain ⟨s,e1,rfl⟩:=h1.inv_str
   have hsz:s.data.toList.length=s.size:=Array.length_toList
   rw [hsz] at hb
   obtain ⟨k1,k2,k3,k4⟩:=gS (P:=P) (sl:=false) (cap:=s.size) hlo hhi (mx':=none) rfl hX hb (Nat.le_refl _) (by simp)
   refine aD ⟨.string (s.extract p q),?_,.str _ _ (by simp [List.drop_take])⟩
   simp only [Option.map_none] at k1
   simp only [execOp,ho,e1,Instr.sliceAt,Sem.run_bind,run_underlying hu,Result.andThen_ok,Instr.slice,Option.map_none,Option.isSome_none,Bool.false_eq_true,if_false,Sem.run_pure,k1,pure_bind]
  ·simp at he
 ·simp at he
theorem Cells.sub {b off:Nat}{xs:List AV}(h:Cells G w b off xs) (p q:Nat):Cells G w b (off+p) ((xs.take q).drop p):=by
 intro i x hi
 rw [List.getElem?_drop] at hi
 have hlt:p+i<q:=by
  have:=(List.getElem?_eq_some_iff.1 hi).1
  simp at this;omega
 rw [List.getElem?_take_of_lt hlt] at hi
 have:=h (p+i) x hi
 rwa [← Nat.add_assoc] at this
theorem Tp {t el:TypeId}{s:Nat}{x:Operand}{lo' hi' mx':Option Operand}{a:X}{lo hi mx:Option X}(ho:o.op = .slice t x lo' hi' mx') (hu:P.underlying t=some (.slice el)) (hs:bu P el=some s) (hx:aI x=some a) (hlo:dW lo'=some lo) (hhi:dW hi'=some hi) (hmx:dW mx'=some mx)
 (hn:mx.isSome=true→hi.isSome=true) (hX:bP G w T ρ) (he:au T H lv n cb (.slL s a lo hi mx)=some e):bQ P G w ρ o e:=by
 simp only [au] at he
 have h1:=hX _ _ hx
 split at he
 ·rename_i br s' xs heq
  split at he
  ·rename_i hss
   split at he
   ·rename_i p q m hb
    simp only [Option.some.injEq] at he;subst he
    rw [heq] at h1
    rcases h1.inv_sl with ⟨pa,cap,e1,hbr,rfl⟩ | ⟨bl,off,len,cap,e1,hnb,hsz,hlen,hc,hcs,h0,h3⟩
    ·simp only [List.length_nil,Nat.zero_div] at hb
     obtain ⟨k1,k2,k3,k4⟩:=gS (P:=P) (sl:=true) (cap:=cap) hlo hhi hmx hX hb (Nat.zero_le _) hn
     have hm0:m=0:=by omega
     have hq0:q=0:=by omega
     have hp0:p=0:=by omega
     subst hm0;subst hq0;subst hp0
     have hrun:∃ pa',(execOp ρ o).run P w = .ok (.value (.slice pa' 0 (if mx.isSome then 0 else cap))) w∧pa'.isSome=pa.isSome:=by
      simp only [execOp,ho,e1,Instr.sliceAt,Sem.run_bind,run_underlying hu,Result.andThen_ok,Instr.slice,k1,bE hs,Sem.run_pure]
      refine ⟨_,rfl,?_⟩
      cases pa<;>(repeat' split)<;>rfl
     obtain ⟨pa',hrun,hps⟩:=hrun
     refine aD ⟨_,hrun,Rep.eo ?_⟩
     simp only [List.length_nil,Nat.zero_div,List.take_nil,List.drop_nil,if_true]
     refine .emp _ _ _ _ ?_
     rcases Bool.eq_false_or_eq_true mx.isSome with hm | hm<;>simp only [hm,Bool.false_eq_true,if_false,if_true]<;>rcases hbr with rfl | ⟨rfl,rfl⟩ | ⟨rfl,rfl,rfl⟩ | ⟨rfl,hp⟩<;>first | (simp [Emp];done) | (simp [Emp] at hps ⊢;exact hps) | (simp [Emp,hps,hp];done)
    ·by_cases hss0:s'=s
     case neg=>
      -- an empty slice
      obtain ⟨hx0,hbr2⟩:=hss.resolve_left hss0
      subst hx0
      have hbr1:br=1:=by omega
      subst hbr1
      have hl0:len=0:=by
       simp only [List.length_nil] at hlen
       rcases Nat.eq_zero_or_pos len with h | h
       ·exact h
       ·have:=Nat.mul_pos h hsz;omega
      subst hl0
      simp only [List.length_nil,Nat.zero_div] at hb
      obtain ⟨k1,k2,k3,k4⟩:=gS (P:=P) (sl:=true) (cap:=cap) hlo hhi hmx hX hb (Nat.zero_le _) hn
      have hm0:m=0:=by omega
      have hq0:q=0:=by omega
      have hp0:p=0:=by omega
      subst hm0;subst hq0;subst hp0
      have hrun:∃ pa',(execOp ρ o).run P w = .ok (.value (.slice pa' 0 (if mx.isSome then 0 else cap))) w:=by
       simp only [execOp,ho,e1,Instr.sliceAt,Sem.run_bind,run_underlying hu,Result.andThen_ok,Instr.slice,k1,bE hs,Sem.run_pure]
       exact ⟨_,rfl⟩
      obtain ⟨pa',hrun⟩:=hrun
      refine aD ⟨_,hrun,Rep.eo ?_⟩
      simp only [List.length_nil,Nat.zero_div,List.take_nil,List.drop_nil,if_true]
      refine .emp _ _ _ _ ?_
      rcases Bool.eq_false_or_eq_true mx.isSome with hm | hm<;>simp [hm,Emp]
     subst hss0
     have hdiv:xs.length/s'=len:=by rw [hlen];exact Nat.mul_div_cancel _ hsz
     rw [hdiv] at hb
     obtain ⟨k1,k2,k3,k4⟩:=gS (P:=P) (sl:=true) (cap:=cap) hlo hhi hmx hX hb hc hn
     rw [hdiv]
     have hqs:q*s'≤xs.length:=by rw [hlen];exact Nat.mul_le_mul_right _ (by omega)
     have hps:p*s'≤q*s':=Nat.mul_le_mul_right _ k2
     have hlen':((xs.take (q*s')).drop (p*s')).length=(q-p)*s':=by
      rw [List.length_drop,List.length_take,Nat.sub_mul];omega
     -- the address
     have hrun:(execOp ρ o).run P w = .ok (.value (.slice (some (if (if mx.isSome then m else cap)=p then ⟨bl,off,none⟩ else ⟨bl,off+p*s',none⟩)) (q-p) ((if mx.isSome then m else cap)-p))) w:=by
      simp only [execOp,ho,e1,Instr.sliceAt,Sem.run_bind,run_underlying hu,Result.andThen_ok,Instr.slice,k1,bE hs,Sem.run_pure,Option.map_some,cS]
      rw [qM]
     refine aD ⟨_,hrun,Rep.eo ?_⟩
     rw [if_neg hnb]
     by_cases hcp:(if mx.isSome then m else cap)=p
     ·rw [if_pos hcp]
      have hqp:q=p:=by
       rcases Bool.eq_false_or_eq_true mx.isSome with hm | hm
       ·rw [hm] at hcp;simp at hcp;omega
       ·rw [hm] at hcp;simp at hcp;omega
      subst hqp
      have hnil:(xs.take (q*s')).drop (q*s')=[]:=by apply List.length_eq_zero_iff.1;rw [hlen'];simp
      rw [hnil]
      refine Rep.mk_sl ?_ hsz (by simp) (by omega) (by intro i x hi;simp at hi) (by intro _;omega) ?_
      ·split
       ·split<;>omega
       ·split
        ·split
         ·omega
         ·split
          ·exact hnb
          ·omega
        ·omega
      ·intro h4
       split at h4
       ·split at h4<;>omega
       ·rename_i hmn
        simp only [hmn] at hcp
        split at h4
        ·split at h4
         ·omega
         ·split at h4
          ·rename_i hq1 hb3 hq0
           obtain ⟨t1,t2⟩:=h3 h4
           have hl0:xs.length=0:=by rw [hlen];rw [← hq1,hq0];simp
           have hxn:xs=[]:=List.length_eq_zero_iff.1 hl0
           subst hxn
           have hmn0:mx=none:=by
            cases mx with
            | none=>rfl
            | some _=>simp at hmn
           subst hmn0
           obtain ⟨E,c,t3,t4⟩:=t2
           have hc0:cap=0:=by simp at hcp;omega
           subst hc0
           subst hq0
           simp only [Option.isSome_none,Bool.false_eq_true,if_false,if_pos hq1,if_neg hb3,if_true,List.length_nil,Nat.add_zero,Nat.zero_sub,Nat.zero_mul] at t1 t4 ⊢
           exact ⟨t1,E,c,t3,t4⟩
          ·omega
        ·omega
     ·rw [if_neg hcp]
      refine Rep.mk_sl ?_ hsz (by rw [hlen']) ?_ (hcs.sub _ _) ?_ ?_
      ·split
       ·split<;>omega
       ·split
        ·split
         ·omega
         ·split
          ·exact hnb
          ·omega
        ·omega
      ·rcases Bool.eq_false_or_eq_true mx.isSome with hm | hm
       ·rw [hm];simp;omega
       ·rw [hm];simp;omega
      ·intro h4
       split at h4
       ·rename_i hm
        rw [if_pos hm]
        split at h4<;>omega
       ·rename_i hm
        rw [if_neg hm]
        split at h4
        ·rename_i hq1
         split at h4
         ·rename_i hb3
          have:=h0 hb3;omega
         ·split at h4
          ·rename_i hb3 _;exact absurd h4 hb3
          ·omega
        ·omega
      ·intro h4
       split at h4
       ·split at h4<;>omega
       ·rename_i hm
        split at h4
        ·rename_i hq1
         split at h4
         ·omega
         ·split at h4
          ·rename_i hb3 hp0
           obtain ⟨t1,E,c,t3,t4⟩:=h3 h4
           subst hp0
           rw [if_neg hm,if_neg hm,if_pos hq1,if_neg hb3,if_pos rfl]
           subst hq1
           have hfull:(xs.take (q*s')).drop (0*s')=xs:=by
            rw [Nat.zero_mul,List.drop_zero,List.take_of_length_le (by omega)]
           rw [hfull]
           refine ⟨by simpa using t1,E,c,t3,by simpa using t4⟩
          ·omega
        ·omega
   ·simp at he
  ·simp at he
 ·rename_i id off len s' heq
  split at he
  ·rename_i hss
   obtain ⟨rfl,hmn⟩:=hss
   split at he
   ·rename_i p q m hb
    rw [heq] at h1
    obtain ⟨bl,ob,cap,e1,hβ,hsz,hc⟩:=h1.inv_osl
    have hmn':mx=none:=by cases mx<;>simp at hmn ⊢
    subst hmn'
    have:=eZ hmx;subst this
    obtain ⟨k1,k2,k3,k4⟩:=gS (P:=P) (sl:=true) (cap:=cap) hlo hhi (mx':=none) rfl hX hb hc (by simp)
    have hrun:(execOp ρ o).run P w = .ok (.value (.slice (some (if cap=p then ⟨bl,ob+off,none⟩ else ⟨bl,ob+off+p*s',none⟩)) (q-p) (cap-p))) w:=by
     simp only [Option.isSome_none,Bool.false_eq_true,if_false,Option.map_none] at k1
     simp only [execOp,ho,e1,Instr.sliceAt,Sem.run_bind,run_underlying hu,Result.andThen_ok,Instr.slice,k1,bE hs,Sem.run_pure,Option.map_some,Option.map_none,cS]
     rw [qM]
    split at he
    ·rename_i hpq
     subst hpq
     simp only [Option.some.injEq] at he;subst he
     refine aD ⟨_,hrun,?_⟩
     split
     ·exact (Rep.mk_sl (br:=1) (xs:=[]) (by omega) hsz (by simp) (by omega) (by intro i x hi;simp at hi) (by omega) (by omega)).canon.1
     ·exact (Rep.mk_sl (br:=1) (xs:=[]) (by omega) hsz (by simp) (by omega) (by intro i x hi;simp at hi) (by omega) (by omega)).canon.1
    ·rename_i hpq
     simp only [Option.some.injEq] at he;subst he
     refine aD ⟨_,hrun,?_⟩
     rw [if_neg (by omega),Nat.add_assoc]
     exact .osl id (off+p*s') (q-p) s' (cap-p) bl ob hβ hsz (by omega)
   ·simp at he
  ·simp at he
 ·simp at he
theorem Tq {t el:TypeId}{k s:Nat}{x:Operand}{lo' hi' mx':Option Operand}{a:X}{lo hi mx:Option X}(ho:o.op = .slice t x lo' hi' mx') (hu:P.underlying t=some (.array k el)) (hs:bu P el=some s) (hs0:0<s) (hx:aI x=some a) (hlo:dW lo'=some lo) (hhi:dW hi'=some hi) (hmx:dW mx'=some mx)
 (hn:mx.isSome=true→hi.isSome=true) (hX:bP G w T ρ) (he:au T H lv n cb (.slA k s a lo hi mx)=some e):bQ P G w ρ o e:=by
 simp only [au] at he
 have h1:=hX _ _ hx
 split at he
 ·rename_i p q m hb
  obtain ⟨k1,k2,k3,k4⟩:=gS (P:=P) (sl:=false) (cap:=k) hlo hhi hmx hX hb (Nat.le_refl _) hn
  have hcap:(if mx.isSome=true then m else k)=m:=by
   cases mx with
   | some _=>simp
   | none=>
    rw [jZ] at hb
    simp only [bnd] at hb
    split at hb
    ·simp at hb
    ·split at hb
     ·simp at hb
     ·simp only [Option.some.injEq,Prod.mk.injEq] at hb
      simp [hb.2.2]
  rw [hcap] at k1
  have run:∀ bl ob,ρ x = .pointer (some ⟨bl,ob,none⟩)→(execOp ρ o).run P w = .ok (.value (.slice (some (if m=p then ⟨bl,ob,none⟩ else ⟨bl,ob+p*s,none⟩)) (q-p) (m-p))) w:=by
   intro bl ob e1
   simp only [execOp,ho,e1,Instr.sliceAt,Sem.run_bind,run_underlying hu,Result.andThen_ok,Instr.sureAddr,k1,bE hs,Sem.run_pure,cS]
  split at he
  ·rename_i hpq
   subst hpq
   split at he
   ·rename_i id off heq
    simp only [Option.some.injEq] at he;subst he
    rw [heq] at h1
    obtain ⟨bl,ob,e1,_⟩:=h1.ptr_ref
    refine aD ⟨_,run _ _ e1,?_⟩
    split<;>exact (Rep.mk_sl (br:=1) (xs:=[]) (by omega) hs0 (by simp) (by omega) (by intro i x hi;simp at hi) (by omega) (by omega)).canon.1
   ·rename_i xs off heq
    simp only [Option.some.injEq] at he;subst he
    rw [heq] at h1
    obtain ⟨bl,ob,e1,_⟩:=h1.inv_pp
    refine aD ⟨_,run _ _ e1,?_⟩
    split<;>exact (Rep.mk_sl (br:=1) (xs:=[]) (by omega) hs0 (by simp) (by omega) (by intro i x hi;simp at hi) (by omega) (by omega)).canon.1
   ·simp at he
  ·rename_i hpq
   split at he
   ·rename_i id off heq
    simp only [Option.some.injEq] at he;subst he
    rw [heq] at h1
    obtain ⟨bl,ob,e1,hβ⟩:=h1.ptr_ref
    refine aD ⟨_,run _ _ e1,?_⟩
    rw [if_neg (show ¬ m=p by omega),Nat.add_assoc]
    exact .osl id (off+p*s) (q-p) s (m-p) bl ob hβ hs0 (by omega)
   ·rename_i xs off heq
    split at he
    ·rename_i hle
     simp only [Option.some.injEq] at he;subst he
     rw [heq] at h1
     obtain ⟨bl,ob,e1,hcs⟩:=h1.inv_pp
     refine aD ⟨_,run _ _ e1,?_⟩
     rw [if_neg (show ¬ m=p by omega),Nat.add_assoc]
     have hps:p*s≤q*s:=Nat.mul_le_mul_right _ k2
     refine Rep.eo (Rep.mk_sl (by split<;>omega) hs0 ?_ (by omega) (hcs.sub _ _) ?_ ?_)
     ·rw [List.length_drop,List.length_take,Nat.sub_mul];omega
     ·intro h;split at h<;>omega
     ·intro h;split at h<;>omega
    ·simp at he
   ·simp at he
 ·simp at he
end
end Go.Abs
/- What a new block, a store into an object and an append into spare room do to what is known. Condition: the state says what is in memory ('WRel', 'Rep'). -/
namespace Go.Abs
def bH {α:Type}(f:Nat→Option α) (i:Nat) (v:α):Nat→Option α:=fun j=>if j=i then some v else f j
theorem cU {α:Type}(f:Nat→Option α) (i:Nat) (v:α):bH f i v i=some v:=by simp [bH]
theorem cG {α:Type}{f:Nat→Option α}{i j:Nat}(v:α) (h:j≠i):bH f i v j=f j:=by simp [bH,h]
theorem cN (w:World) (o:Obj):(w.alloc o).heap[w.heap.size]? = some o:=by
 show (w.heap.push o)[w.heap.size]? = some o
 simp
theorem aJ (w:World) (o:Obj) (b:Nat) (h:b<w.heap.size):(w.alloc o).heap[b]? = w.heap[b]?:=by
 show (w.heap.push o)[b]? = w.heap[b]?
 rw [Array.getElem?_push,if_neg (by omega)]
theorem cell_of (w:World) (b i:Nat) {cs:Array Value}{T:TypeId}{fz:Nat×Nat}(h:w.heap[b]? = some (.cells cs T fz)):w.cell? ⟨b,i,none⟩=cs[i]?:=by
 simp [World.cell?,h]
theorem gb (w:World) (b:Nat) {cs:Array Value}{T:TypeId}{fz:Nat×Nat}(h:w.heap[b]? = some (.cells cs T fz)):w.shape? b=some (T,cs.size):=by
 simp [World.shape?,h]
theorem cI {w w':World}{b:Nat}(h:w'.heap[b]? = w.heap[b]?):w'.shape? b=w.shape? b:=by
 simp [World.shape?,h]
theorem cC {w w':World}{b:Nat}(h:w'.heap[b]? = w.heap[b]?) (i:Nat):w'.cell? ⟨b,i,none⟩=w.cell? ⟨b,i,none⟩:=by
 simp [World.cell?,h]
theorem aP {w w':World}{b:Nat}(h:w'.heap[b]? = w.heap[b]?) (i:Nat):w'.frozen? ⟨b,i,none⟩=w.frozen? ⟨b,i,none⟩:=by
 simp [World.frozen?,h]
section
variable {P:Program}{G:Gh}{w:World}{H:Hp}{E:Nat→Option TypeId}{lv:Nat→Bool}
theorem Ext.drew (G:Gh) (lv:Nat→Bool) (w:World):Ext G lv w G lv w.drew:=
 ⟨fun _ _ h=>h,fun _ _ h=>h,fun _ _ h=>h,fun _ _ h _ _=>h,fun _ _ h=>h,fun _ _ _=>rfl,fun _ _ _=>rfl,fun _ _=>rfl,Nat.le_refl _,rfl,rfl,rfl,fun _ _ h=>h,fun _ _ h=>h⟩
theorem Rep.drew {x:AV}{v:Value}(h:Rep G w x v):Rep G w.drew x v:=h.mono ⟨fun _ _ h=>h,fun _ _ h=>h,fun _ _ h=>h,fun _ _ _=>rfl,fun _ _=>rfl,fun _ _ h=>h,fun _ _ h=>h⟩
theorem aG.mono' (h:aG G H E lv w) {w':World}(hh:w'.heap=w.heap):aG G H E lv w' where
 obj:=fun id b o hb=>by
  obtain ⟨cs,T,fz,h1,h2,h3,h4,h5⟩:=h.obj id b o hb
  have hk:∀ b':Nat,w'.heap[b']? = w.heap[b']?:=fun b'=>by rw [hh]
  have m:dV G w G w':=⟨fun _ _ h=>h,fun _ _ h=>h,fun _ _ h=>h,fun b i _=>cC (hk b) i,fun b _=>cI (hk b),fun _ _ h=>h,fun _ _ h=>h⟩
  exact ⟨cs,T,fz,(hk b).trans h1,h2,fun i x hx=>by
   obtain ⟨k1,k2,v,k3,k4⟩:=h3 i x hx
   exact ⟨k1,k2,v,k3,k4.mono m⟩,fun i hi=>(aP (hk b) _).trans (h4 i hi),h5⟩
 mobj:=fun id b hb=>by
  have hk:∀ b':Nat,w'.heap[b']? = w.heap[b']?:=fun b'=>by rw [hh]
  exact h.mobj_of ⟨fun _ _ h=>h,fun _ _ h=>h,fun _ _ h=>h,fun b i _=>cC (hk b) i,fun b _=>cI (hk b),fun _ _ h=>h,fun _ _ h=>h⟩ hb (hk b) rfl
 nσ:=h.nσ
 inj:=h.inj
 tip:=fun br hbr=>by
  obtain ⟨k1,b,e,cs,T,fz,k2,k3,k4,k5,k6⟩:=h.tip br hbr
  have hk:∀ b':Nat,w'.heap[b']? = w.heap[b']?:=fun b'=>by rw [hh]
  exact ⟨k1,b,e,cs,T,fz,k2,(hk b).trans k3,fun i c=>(aP (hk b) _).trans (k4 i c),k5,k6⟩
 tinj:=h.tinj
 σlt:=fun b i hb=>by rw [hh];exact h.σlt b i hb
 τlt:=fun br b e hb=>by rw [hh];exact h.τlt br b e hb
 ρlt:=fun b r hb=>by rw [hh];exact h.ρlt b r hb
theorem Ext.weaken {G':Gh}{lv' lv2:Nat→Bool}{w':World}(h:Ext G lv w G' lv' w') (hs:∀ b,lv2 b=true→lv' b=true):Ext G lv w G' lv2 w':=
 ⟨h.β,h.σ,h.τ,h.σn,fun b hb ho=>h.own b hb (by
  rcases ho with ⟨id,o,h1⟩ | ⟨br,e,h1,h2⟩
  ·exact .inl ⟨id,o,h1⟩
  ·exact .inr ⟨br,e,hs br h1,h2⟩),h.keep,h.kσ,h.shp,h.size,h.os,h.tape,h.output,h.ρ,h.ρn⟩
theorem aG.weaken (h:aG G H E lv w) {lv2:Nat→Bool}(hs:∀ b,lv2 b=true→lv b=true):aG G H E lv2 w:=
 ⟨h.obj,h.mobj,h.nσ,h.inj,fun br hb=>h.tip br (hs br hb),fun br br' b e e' h1 h2=>h.tinj br br' b e e' (hs br h1) (hs br' h2),h.σlt,h.τlt,h.ρlt⟩
theorem ko (hW:aG G H E lv w) {xs:List AV}{arr:Array Value}(hlen:xs.length≤arr.size) (hr:∀ (i:Nat) (x:AV),xs[i]? = some x→∃ v,arr[i]? = some v∧x.leaf=true∧Rep G w x v) {nid:Nat}(hn:G.β nid=none) (hu:∀ x∈xs,x.under nid=true) (t:TypeId) (ty:Option TypeId) (ht:∀ t',ty=some t'→t=t') :
 Ext G lv w { G with β:=bH G.β nid (w.heap.size,some 0) } lv (w.alloc (.cells arr t))∧aG { G with β:=bH G.β nid (w.heap.size,some 0) } (upd H nid xs) (upd E nid ty) lv (w.alloc (.cells arr t)):=by
 have hext:Ext G lv w { G with β:=bH G.β nid (w.heap.size,some 0) } lv (w.alloc (.cells arr t)):=by
  refine ⟨?_,fun _ _ h=>h,fun _ _ h=>h,fun _ _ h _ _=>h,?_,?_,?_,?_,by simp,rfl,rfl,rfl,fun _ _ h=>h,fun _ _ h=>h⟩
  ·intro id p hp
   have:id≠nid:=fun e=>by rw [e,hn] at hp;cases hp
   exact (cG _ this).trans hp
  ·rintro b hb (⟨id,o,h1⟩ | h1)
   ·simp only [bH] at h1
    split at h1
    ·simp only [Option.some.injEq,Prod.mk.injEq] at h1;omega
    ·exact .inl ⟨id,o,h1⟩
   ·exact .inr h1
  ·intro b hb _;exact aJ w _ b hb
  ·intro b i hb;exact cC (aJ w _ b (hW.σlt _ _ hb)) i
  ·intro b hb;exact cI (aJ w _ b hb)
 refine ⟨hext,?_⟩
 constructor
 ·intro id b o hb
  simp only [bH] at hb
  split at hb
  ·rename_i he;subst he
   simp only [Option.some.injEq,Prod.mk.injEq] at hb
   obtain ⟨rfl,rfl⟩:=hb
   refine ⟨arr,t,(0,0),cN w _,by simp [upd];exact hlen,?_,?_,?_⟩
   ·intro i x hx
    simp only [upd,if_true] at hx
    obtain ⟨v,h1,h2,h3⟩:=hr _ _ hx
    exact ⟨trivial,h2,v,by simpa using h1,h3.mono hext.mono⟩
   ·intro i hi
    exact World.frozen?_alloc_new w arr t (0+i)
   ·intro t' ht'
    simp only [upd,if_true] at ht'
    exact ⟨ht t' ht',rfl⟩
  ·rename_i he
   obtain ⟨cs,T,fz,h1,h2,h3,h4,h5⟩:=hW.obj id b o hb
   have hlt:=hW.βlt hb
   have hk:=aJ w (.cells arr t) b hlt
   refine ⟨cs,T,fz,hk.trans h1,by simpa [upd,he] using h2,?_,?_,by simpa [upd,he] using h5⟩
   ·intro i x hx
    simp only [upd,he,if_false] at hx
    obtain ⟨k1,k2,v,k3,k4⟩:=h3 i x hx
    exact ⟨k1,k2,v,k3,k4.mono hext.mono⟩
   ·intro i hi
    simp only [upd,he,if_false] at hi
    exact (aP hk _).trans (h4 i hi)
 ·intro id b hb
  simp only [bH] at hb
  split at hb
  ·simp at hb
  ·rename_i he
   exact hW.mobj_of hext.mono hb (aJ w _ b (hW.βlt hb)) (by simp [upd,he])
 ·intro id b o hb i hσ
  simp only [bH] at hb
  split at hb
  ·simp only [Option.some.injEq,Prod.mk.injEq] at hb
   have:=hW.σlt _ _ hσ;omega
  ·exact hW.nσ id b o hb i hσ
 ·intro id id' b o o' h1 h2
  simp only [bH] at h1 h2
  split at h1<;>split at h2
  ·omega
  ·simp only [Option.some.injEq,Prod.mk.injEq] at h1
   have:=hW.βlt h2;omega
  ·simp only [Option.some.injEq,Prod.mk.injEq] at h2
   have:=hW.βlt h1;omega
  ·exact hW.inj _ _ _ _ _ h1 h2
 ·intro br hbr
  obtain ⟨k1,b,e,cs,T,fz,k2,k3,k4,k5,k6⟩:=hW.tip br hbr
  have hlt:=hW.τlt _ _ _ k2
  have hk:=aJ w (.cells arr t) b hlt
  refine ⟨k1,b,e,cs,T,fz,k2,hk.trans k3,fun i c=>(aP hk _).trans (k4 i c),k5,?_⟩
  intro id o hb
  simp only [bH] at hb
  split at hb
  ·simp only [Option.some.injEq,Prod.mk.injEq] at hb;omega
  ·exact k6 id o hb
 ·exact hW.tinj
 ·intro b i h;have:=hW.σlt b i h;simp;omega
 ·intro br b e h;have:=hW.τlt br b e h;simp;omega
 ·exact fun b r h=>Nat.lt_of_lt_of_le (hW.ρlt b r h) hext.size
theorem wJ (hW:aG G H E lv w) {xs:List AV}{arr:Array Value}(hr:Row G w xs arr) {nid:Nat}(hn:G.β nid=none) (hu:∀ x∈xs,x.under nid=true) (t:TypeId) (ty:Option TypeId) (ht:∀ t',ty=some t'→t=t') :
 Ext G lv w { G with β:=bH G.β nid (w.heap.size,some 0) } lv (w.alloc (.cells arr t))∧aG { G with β:=bH G.β nid (w.heap.size,some 0) } (upd H nid xs) (upd E nid ty) lv (w.alloc (.cells arr t)):=
 ko hW (Nat.le_of_eq hr.1) (fun _ _ hx=>hr.get hx) hn hu t ty ht
def kp (σ:Nat→Nat→Prop) (b n:Nat):Nat→Nat→Prop:=fun b' i=>σ b' i∨(b'=b∧i<n)
def ji (τ:Nat→Option (Nat×Nat)) (br:Option Nat) (v:Nat×Nat):Nat→Option (Nat×Nat):=match br with
 | none=>τ
 | some br=>bH τ br v
def gT (lv:Nat→Bool) (br:Option Nat):Nat→Bool:=match br with
 | none=>lv
 | some br=>fun b=>if b=br then true else lv b
theorem kq (hW:aG G H E lv w) {xs:List AV}{arr:Array Value}(hle:xs.length≤arr.size) (hr:∀ (i:Nat) (x:AV),xs[i]? = some x→∃ v,arr[i]? = some v∧x.leaf=true∧Rep G w x v) (hfl:∀ x∈xs,x.flat=true)
 (t:TypeId) (fz:Nat×Nat) (hfz:∀ i,i<arr.size→¬ (fz.1≤i∧i<fz.2)) (br:Option Nat) (hbr:∀ b,br=some b→4≤b∧G.τ b=none∧lv b=false) :
 Ext G lv w { G with σ:=kp G.σ w.heap.size xs.length,τ:=ji G.τ br (w.heap.size,xs.length) } (gT lv br) (w.alloc (.cells arr t fz))∧
 aG { G with σ:=kp G.σ w.heap.size xs.length,τ:=ji G.τ br (w.heap.size,xs.length) } H E (gT lv br) (w.alloc (.cells arr t fz))∧
 Cells { G with σ:=kp G.σ w.heap.size xs.length,τ:=ji G.τ br (w.heap.size,xs.length) } (w.alloc (.cells arr t fz)) w.heap.size 0 xs:=by
 have τold:∀ b p,G.τ b=some p→ji G.τ br (w.heap.size,xs.length) b=some p:=by
  intro b p hp
  cases br with
  | none=>exact hp
  | some b'=>
   have:b≠b':=fun e=>by rw [e,(hbr b' rfl).2.1] at hp;cases hp
   exact (cG _ this).trans hp
 have τinv:∀ b p,ji G.τ br (w.heap.size,xs.length) b=some p→G.τ b=some p∨(br=some b∧p=(w.heap.size,xs.length)):=by
  intro b p hp
  cases br with
  | none=>exact .inl hp
  | some b'=>
   simp only [ji,bH] at hp
   split at hp
   ·rename_i h;subst h;simp only [Option.some.injEq] at hp;exact .inr ⟨rfl,hp.symm⟩
   ·exact .inl hp
 have lvinv:∀ b,gT lv br b=true→lv b=true∨br=some b:=by
  intro b hb
  cases br with
  | none=>exact .inl hb
  | some b'=>
   simp only [gT] at hb
   split at hb
   ·rename_i h;subst h;exact .inr rfl
   ·exact .inl hb
 have hext:Ext G lv w { G with σ:=kp G.σ w.heap.size xs.length,τ:=ji G.τ br (w.heap.size,xs.length) } (gT lv br) (w.alloc (.cells arr t fz)):=by
  refine ⟨fun _ _ h=>h,fun _ _ h=>.inl h,τold,?_,?_,?_,?_,?_,by simp,rfl,rfl,rfl,fun _ _ h=>h,fun _ _ h=>h⟩
  ·intro b i h hb _
   rcases h with h | ⟨rfl,_⟩
   ·exact h
   ·omega
  ·rintro b hb (⟨id,o,h1⟩ | ⟨b',e,h1,h2⟩)
   ·exact .inl ⟨id,o,h1⟩
   ·rcases τinv b' _ h2 with h2 | ⟨h2,h3⟩
    ·rcases lvinv b' h1 with h1 | h1
     ·exact .inr ⟨b',e,h1,h2⟩
     ·have:=(hbr b' h1).2.1;rw [this] at h2;cases h2
    ·simp only [Prod.mk.injEq] at h3;omega
  ·intro b hb _;exact aJ w _ b hb
  ·intro b i hb;exact cC (aJ w _ b (hW.σlt _ _ hb)) i
  ·intro b hb;exact cI (aJ w _ b hb)
 refine ⟨hext,?_,?_⟩
 ·constructor
  ·intro id b o hb
   obtain ⟨cs,T,fz',h1,h2,h3,h4,h5⟩:=hW.obj id b o hb
   have hk:=aJ w (.cells arr t fz) b (hW.βlt hb)
   refine ⟨cs,T,fz',hk.trans h1,h2,?_,fun i hi=>(aP hk _).trans (h4 i hi),h5⟩
   intro i x hx
   obtain ⟨k1,k2,v,k3,k4⟩:=h3 i x hx
   exact ⟨k1,k2,v,k3,k4.mono hext.mono⟩
  ·intro id b hb
   exact hW.mobj_of hext.mono hb (aJ w _ b (hW.βlt hb)) rfl
  ·intro id b o hb i hσ
   rcases hσ with hσ | ⟨rfl,_⟩
   ·exact hW.nσ id b o hb i hσ
   ·have:=hW.βlt hb;omega
  ·exact hW.inj
  ·intro b hb
   rcases lvinv b hb with hb' | hb'
   ·obtain ⟨k1,bl,e,cs,T,fz',k2,k3,k4,k5,k6⟩:=hW.tip b hb'
    have hlt:=hW.τlt _ _ _ k2
    have hk:=aJ w (.cells arr t fz) bl hlt
    refine ⟨k1,bl,e,cs,T,fz',τold _ _ k2,hk.trans k3,fun i c=>(aP hk _).trans (k4 i c),?_,k6⟩
    rintro i hi (h | ⟨rfl,_⟩)
    ·exact k5 i hi h
    ·omega
   ·subst hb'
    obtain ⟨h1,h2,h3⟩:=hbr b rfl
    refine ⟨h1,w.heap.size,xs.length,arr,t,fz,cU _ _ _,cN w _,?_,?_,?_⟩
    ·intro i c
     have:=hfz i c
     have hk:=cN w (.cells arr t fz)
     simp only [World.frozen?,hk,Bool.and_eq_false_iff,decide_eq_false_iff_not]
     omega
    ·rintro i hi (h | ⟨_,h⟩)
     ·have:=hW.σlt _ _ h;omega
     ·omega
    ·intro id o hb
     have:=hW.βlt hb;omega
  ·intro b1 b2 bl e e' h1 h2 h3 h4
   rcases τinv b1 _ h3 with h3 | ⟨h3,h5⟩<;>rcases τinv b2 _ h4 with h4 | ⟨h4,h6⟩
   ·rcases lvinv b1 h1 with h1 | h1
    ·rcases lvinv b2 h2 with h2 | h2
     ·exact hW.tinj _ _ _ _ _ h1 h2 h3 h4
     ·have:=(hbr b2 h2).2.1;rw [this] at h4;cases h4
    ·have:=(hbr b1 h1).2.1;rw [this] at h3;cases h3
   ·simp only [Prod.mk.injEq] at h6;have:=hW.τlt _ _ _ h3;omega
   ·simp only [Prod.mk.injEq] at h5;have:=hW.τlt _ _ _ h4;omega
   ·rw [h3] at h4;simpa using h4
  ·intro b i h
   rcases h with h | ⟨rfl,_⟩
   ·have:=hW.σlt b i h;simp;omega
   ·simp
  ·intro b bl e h
   rcases τinv b _ h with h | ⟨_,h⟩
   ·have:=hW.τlt _ _ _ h;simp;omega
   ·simp only [Prod.mk.injEq] at h;simp;omega
  ·exact fun b r h=>Nat.lt_of_lt_of_le (hW.ρlt b r h) hext.size
 ·intro i x hx
  obtain ⟨v,h1,h2,h3⟩:=hr i x hx
  have hlt:i<xs.length:=(List.getElem?_eq_some_iff.1 hx).1
  refine ⟨v,?_,.inr ⟨rfl,by omega⟩,hfl x (List.mem_of_getElem? hx),h2,h3.mono hext.mono⟩
  rw [cell_of _ _ _ (cN w (.cells arr t fz))]
  simpa using h1
theorem fA (b o:Nat) {T:TypeId}{fz:Nat×Nat}:∀ (vs:List Value) (i:Nat) (cur:Array Value) (w:World),w.heap[b]? = some (.cells cur T fz)→o+i+vs.length≤cur.size→(∀ j,j<vs.length→w.frozen? ⟨b,o+i+j,none⟩=false)→(∀ v∈vs,v.oneCell'=true)→
 ∃ cur':Array Value,(storeCells ⟨b,o,none⟩ vs i).run P w = .ok () { w with heap:=w.heap.setIfInBounds b (.cells cur' T fz) }∧cur'.size=cur.size∧
  ∀ j,cur'[j]? = if o+i≤j∧j<o+i+vs.length then vs[j-(o+i)]? else cur[j]?
 | [],i,cur,w,hb,hs,hf,hv=>by
  refine ⟨cur,?_,rfl,fun j=>by simp;intro h1 h2;omega⟩
  have hlt:b<w.heap.size:=by
   rcases Nat.lt_or_ge b w.heap.size with h' | h'
   ·exact h'
   ·simp [Array.getElem?_eq_none h'] at hb
  have hw:w.heap.setIfInBounds b (.cells cur T fz)=w.heap:=by
   apply Array.ext_getElem?
   intro j
   by_cases hj:b=j
   ·subst hj;rw [Array.getElem?_setIfInBounds_self_of_lt hlt,hb]
   ·rw [Array.getElem?_setIfInBounds_ne hj]
  simp only [storeCells,Sem.run_pure]
  rw [hw]
 | v::vs,i,cur,w,hb,hs,hf,hv=>by
  have hlt:b<w.heap.size:=by
   rcases Nat.lt_or_ge b w.heap.size with h' | h'
   ·exact h'
   ·simp [Array.getElem?_eq_none h'] at hb
  simp only [List.length_cons] at hs
  have hc:w.cell? ⟨b,o+i,none⟩=some (cur[o+i]'(by omega)):=by
   rw [cell_of w b (o+i) hb];exact Array.getElem?_eq_getElem (by omega)
  have hfz:=hf 0 (by simp)
  simp only [Nat.add_zero] at hfz
  have hset:w.setCell ⟨b,o+i,none⟩ v={ w with heap:=w.heap.setIfInBounds b (.cells (cur.setIfInBounds (o+i) v) T fz) }:=by
   simp only [World.setCell]
   congr 1
   apply Array.ext_getElem?
   intro j
   rw [Array.getElem?_modify]
   by_cases hj:b=j
   ·subst hj
    rw [if_pos rfl,hb,Array.getElem?_setIfInBounds_self_of_lt hlt]
    simp
   ·rw [if_neg hj,Array.getElem?_setIfInBounds_ne hj]
  obtain ⟨cur',h1,h2,h3⟩:=fA b o vs (i+1) (cur.setIfInBounds (o+i) v) (w.setCell ⟨b,o+i,none⟩ v)
   (by rw [hset];exact Array.getElem?_setIfInBounds_self_of_lt hlt) (by simp;omega)
   (by intro j hj
       rw [World.frozen?_setCell]
       have:=hf (j+1) (by simp;omega)
       rw [show o+(i+1)+j=o+i+(j+1) by omega];exact this) (fun v' hv'=>hv v' (by simp [hv']))
  refine ⟨cur',?_,by rw [h2];simp,?_⟩
  ·simp only [storeCells,Sem.run_bind,cS]
   rw [run_store P w _ v .plain (hv v (by simp)),hc]
   simp only [hfz,Bool.false_eq_true,if_false,Result.andThen_ok]
   rw [h1,hset]
   simp
  ·intro j
   rw [h3 j]
   simp only [List.length_cons]
   by_cases hj1:o+(i+1)≤j∧j<o+(i+1)+vs.length
   ·rw [if_pos hj1,if_pos (by omega)]
    have:j-(o+i)=(j-(o+(i+1)))+1:=by omega
    rw [this,List.getElem?_cons_succ]
   ·rw [if_neg hj1]
    by_cases hj2:j=o+i
    ·subst hj2
     rw [Array.getElem?_setIfInBounds_self_of_lt (by omega),if_pos (by omega)]
     simp
    ·rw [if_neg (by omega),Array.getElem?_setIfInBounds_ne (by omega)]
end
end Go.Abs
/- A store into an object; an append into spare room. Condition: the state says what is in memory ('WRel', 'Rep'). -/
namespace Go.Abs
section
variable {P:Program}{G:Gh}{w:World}{H:Hp}{E:Nat→Option TypeId}{lv:Nat→Bool}
def cH (w:World) (b:Nat) (o:Obj):World:={ w with heap:=w.heap.setIfInBounds b o }
theorem dk {b:Nat}(hb:b<w.heap.size) (o:Obj):(cH w b o).heap[b]? = some o:=Array.getElem?_setIfInBounds_self_of_lt hb
theorem bT {b b':Nat}(h:b≠b') (o:Obj):(cH w b o).heap[b']? = w.heap[b']?:=Array.getElem?_setIfInBounds_ne h
theorem cy (b:Nat) (o:Obj):(cH w b o).heap.size=w.heap.size:=by simp [cH]
theorem nP {b:Nat}{cur cur':Array Value}{T:TypeId}{fz:Nat×Nat}(hb:w.heap[b]? = some (.cells cur T fz)) (hs:cur'.size=cur.size) (b':Nat):(cH w b (.cells cur' T fz)).shape? b'=w.shape? b':=by
 have hlt:b<w.heap.size:=by
  rcases Nat.lt_or_ge b w.heap.size with h' | h'
  ·exact h'
  ·simp [Array.getElem?_eq_none h'] at hb
 by_cases h:b=b'
 ·subst h;rw [gb _ _ (dk hlt _),gb _ _ hb,hs]
 ·exact cI (bT h _)
theorem eN {b:Nat}{cur cur':Array Value}{T:TypeId}{fz:Nat×Nat}(hb:w.heap[b]? = some (.cells cur T fz)) (b' i:Nat):(cH w b (.cells cur' T fz)).frozen? ⟨b',i,none⟩=w.frozen? ⟨b',i,none⟩:=by
 have hlt:b<w.heap.size:=by
  rcases Nat.lt_or_ge b w.heap.size with h' | h'
  ·exact h'
  ·simp [Array.getElem?_eq_none h'] at hb
 by_cases h:b=b'
 ·subst h;simp only [World.frozen?,dk hlt,hb]
 ·exact aP (bT h _) i
theorem pC {b:Nat}{cur cur':Array Value}{T:TypeId}{fz:Nat×Nat}(hb:w.heap[b]? = some (.cells cur T fz)) (b' i:Nat) (h:b=b'→cur'[i]? = cur[i]?):(cH w b (.cells cur' T fz)).cell? ⟨b',i,none⟩=w.cell? ⟨b',i,none⟩:=by
 have hlt:b<w.heap.size:=by
  rcases Nat.lt_or_ge b w.heap.size with h' | h'
  ·exact h'
  ·simp [Array.getElem?_eq_none h'] at hb
 by_cases hbb:b=b'
 ·subst hbb;rw [cell_of _ _ _ (dk hlt _),cell_of _ _ _ hb];exact h rfl
 ·exact cC (bT hbb _) i
theorem lA (hW:aG G H E lv w) {id b o:Nat}(hβ:G.β id=some (b,some o)) {cur:Array Value}{T:TypeId}{fz:Nat×Nat}(hb:w.heap[b]? = some (.cells cur T fz)) {off:Nat}{cs:List AV}{vs:List Value}(hle:off+cs.length≤(H id).length)
 (hr:Row G w cs vs.toArray) (hu:True) {cur':Array Value}(hs:cur'.size=cur.size) (hc:∀ j,cur'[j]? = if o+off≤j∧j<o+off+vs.length then vs[j-(o+off)]? else cur[j]?) :
 Ext G lv w G lv (cH w b (.cells cur' T fz))∧aG G (upd H id (cd (H id) off cs)) E lv (cH w b (.cells cur' T fz)):=by
 have hlt:b<w.heap.size:=hW.βlt hβ
 have hcl:cs.length=vs.length:=by simpa using hr.1
 have hext:Ext G lv w G lv (cH w b (.cells cur' T fz)):=by
  refine ⟨fun _ _ h=>h,fun _ _ h=>h,fun _ _ h=>h,fun _ _ h _ _=>h,fun _ _ h=>h,?_,?_,fun b' _=>nP hb hs b',by rw [cy];exact Nat.le_refl _,rfl,rfl,rfl,fun _ _ h=>h,fun _ _ h=>h⟩
  ·intro b' hb' ho
   exact bT (fun (e:b=b')=>ho (by subst e;exact .inl ⟨id,o,hβ⟩)) _
  ·intro b' i hσ
   exact pC hb b' i (fun e=>absurd (e▸hσ) (hW.nσ id b o hβ i))
 refine ⟨hext,?_⟩
 constructor
 ·intro id' b' o' hb'
  by_cases hid:id'=id
  ·subst hid
   rw [hβ] at hb'
   simp only [Option.some.injEq,Prod.mk.injEq] at hb'
   obtain ⟨rfl,rfl⟩:=hb'
   obtain ⟨cs0,T0,fz0,h1,h2,h3,h4,h5⟩:=hW.obj _ _ _ hβ
   rw [hb] at h1
   simp only [Option.some.injEq,Obj.cells.injEq] at h1
   obtain ⟨rfl,rfl,rfl⟩:=h1
   have hsl:=iJ (H id') off cs hle
   refine ⟨cur',T,fz,dk hlt _,by simp only [upd,if_true];rw [hsl,hs];exact h2,?_,?_,h5⟩
   ·intro i x hx
    simp only [upd,if_true] at hx
    rw [nO _ _ _ hle] at hx
    split at hx
    ·rename_i hin
     obtain ⟨v,k1,k2,k3⟩:=hr.get hx
     refine ⟨trivial,k2,v,?_,k3.mono hext.mono⟩
     rw [hc,if_pos (by omega)]
     rw [show o+i-(o+off)=i-off by omega]
     simpa using k1
    ·rename_i hin
     obtain ⟨k1,k2,v,k3,k4⟩:=h3 i x hx
     refine ⟨k1,k2,v,?_,k4.mono hext.mono⟩
     rw [hc,if_neg (by omega)]
     exact k3
   ·intro i hi
    simp only [upd,if_true] at hi
    rw [hsl] at hi
    rw [eN hb]
    exact h4 i hi
  ·obtain ⟨cs0,T0,fz0,h1,h2,h3,h4,h5⟩:=hW.obj _ _ _ hb'
   have hne:b≠b':=fun e=>hid (hW.inj _ _ _ _ _ (e▸hb') hβ)
   refine ⟨cs0,T0,fz0,(bT hne _).trans h1,by simpa [upd,hid] using h2,?_,?_,h5⟩
   ·intro i x hx
    simp only [upd,hid,if_false] at hx
    obtain ⟨k1,k2,v,k3,k4⟩:=h3 i x hx
    exact ⟨k1,k2,v,k3,k4.mono hext.mono⟩
   ·intro i hi
    simp only [upd,hid,if_false] at hi
    exact (eN hb _ _).trans (h4 i hi)
 ·intro id' b' hb'
  have hid:id'≠id:=fun e=>by rw [e,hβ] at hb';simp at hb'
  have hne:b≠b':=fun e=>hid (hW.inj _ _ _ _ _ (e▸hb') hβ)
  exact hW.mobj_of hext.mono hb' (bT hne _) (by simp [upd,hid])
 ·exact hW.nσ
 ·exact hW.inj
 ·intro br hbr
  obtain ⟨k1,bl,e,cs0,T0,fz0,k2,k3,k4,k5,k6⟩:=hW.tip br hbr
  have hne:b≠bl:=fun e=>k6 id o (e▸hβ)
  exact ⟨k1,bl,e,cs0,T0,fz0,k2,(bT hne _).trans k3,fun i c=>(eN hb _ _).trans (k4 i c),k5,k6⟩
 ·exact hW.tinj
 ·intro b' i h;rw [cy];exact hW.σlt b' i h
 ·intro br b' e h;rw [cy];exact hW.τlt br b' e h
 ·intro b' r h;rw [cy];exact hW.ρlt b' r h
theorem uN (hW:aG G H E lv w) {br b e:Nat}(hl:lv br=true) (hτ:G.τ br=some (b,e)) {cur:Array Value}{T:TypeId}{fz:Nat×Nat}(hb:w.heap[b]? = some (.cells cur T fz)) {cs:List AV}{vs:List Value}
 (hr:Row G w cs vs.toArray) (hfl:∀ x∈cs,x.flat=true) (hle:e+cs.length≤cur.size) {cur':Array Value}(hs:cur'.size=cur.size) (hc:∀ j,cur'[j]? = if e≤j∧j<e+vs.length then vs[j-e]? else cur[j]?) {cb:Nat}(hcb:4≤cb) (hcn:G.τ cb=none) :
 let G':Gh:={ G with σ:=fun b' i=>G.σ b' i∨(b'=b∧e≤i∧i<e+cs.length),τ:=bH G.τ cb (b,e+cs.length) }
 let lv':Nat→Bool:=fun x=>if x=cb then true else if x=br then false else lv x
 Ext G lv w G' lv' (cH w b (.cells cur' T fz))∧aG G' H E lv' (cH w b (.cells cur' T fz))∧
  (∀ i x,cs[i]? = some x→∃ v,(cH w b (.cells cur' T fz)).cell? ⟨b,e+i,none⟩=some v∧G'.σ b (e+i)∧x.flat=true∧x.leaf=true∧Rep G' (cH w b (.cells cur' T fz)) x v):=by
 intro G' lv'
 have hlt:b<w.heap.size:=hW.τlt _ _ _ hτ
 have hcl:cs.length=vs.length:=by simpa using hr.1
 have hbc:br≠cb:=fun h=>by rw [h,hcn] at hτ;cases hτ
 obtain ⟨t1,b0,e0,cs0,T0,fz0,t2,t3,t4,t5,t6⟩:=hW.tip br hl
 rw [hτ] at t2
 simp only [Option.some.injEq,Prod.mk.injEq] at t2
 obtain ⟨rfl,rfl⟩:=t2
 rw [hb] at t3
 simp only [Option.some.injEq,Obj.cells.injEq] at t3
 obtain ⟨rfl,rfl,rfl⟩:=t3
 have τold:∀ x p,G.τ x=some p→G'.τ x=some p:=by
  intro x p hp
  have:x≠cb:=fun e=>by rw [e,hcn] at hp;cases hp
  exact (cG _ this).trans hp
 have hext:Ext G lv w G' lv' (cH w b (.cells cur' T fz)):=by
  refine ⟨fun _ _ h=>h,fun _ _ h=>.inl h,τold,?_,?_,?_,?_,fun b' _=>nP hb hs b',by rw [cy];exact Nat.le_refl _,rfl,rfl,rfl,fun _ _ h=>h,fun _ _ h=>h⟩
  ·intro b' i h hb' ho
   rcases h with h | ⟨rfl,_⟩
   ·exact h
   ·exact absurd (.inr ⟨br,e,hl,hτ⟩) ho
  ·rintro b' hb' (⟨id,o,h1⟩ | ⟨x,e',h1,h2⟩)
   ·exact .inl ⟨id,o,h1⟩
   ·simp only [G',bH] at h2
    split at h2
    ·simp only [Option.some.injEq,Prod.mk.injEq] at h2
     exact h2.1▸.inr ⟨br,e,hl,hτ⟩
    ·rename_i hx
     simp only [lv',hx,if_false] at h1
     split at h1
     ·simp at h1
     ·exact .inr ⟨x,e',h1,h2⟩
  ·intro b' hb' ho
   exact bT (fun (h:b=b')=>ho (by subst h;exact .inr ⟨br,e,hl,hτ⟩)) _
  ·intro b' i hσ
   refine pC hb b' i (fun h=>?_)
   subst h
   rw [hc,if_neg]
   intro hin
   exact t5 i hin.1 hσ
 refine ⟨hext,?_,?_⟩
 ·constructor
  ·intro id b' o hb'
   obtain ⟨cs1,T1,fz1,h1,h2,h3,h4,h5⟩:=hW.obj id b' o hb'
   have hne:b≠b':=fun e=>t6 id o (e▸hb')
   refine ⟨cs1,T1,fz1,(bT hne _).trans h1,h2,?_,fun i hi=>(eN hb _ _).trans (h4 i hi),h5⟩
   intro i x hx
   obtain ⟨k1,k2,v,k3,k4⟩:=h3 i x hx
   exact ⟨k1,k2,v,k3,k4.mono hext.mono⟩
  ·intro id b' hb'
   have hne:b≠b':=fun e=>t6 id none (e▸hb')
   exact hW.mobj_of hext.mono hb' (bT hne _) rfl
  ·intro id b' o hb' i hσ
   rcases hσ with hσ | ⟨rfl,_⟩
   ·exact hW.nσ id b' o hb' i hσ
   ·exact t6 id o hb'
  ·exact hW.inj
  ·intro x hx
   by_cases hxc:x=cb
   ·subst hxc
    refine ⟨hcb,b,e+cs.length,cur',T,fz,cU _ _ _,dk hlt _,?_,?_,t6⟩
    ·intro i c
     rw [eN hb]
     exact t4 i (by omega)
    ·rintro i hi (h | ⟨_,h1,h2⟩)
     ·exact t5 i (by omega) h
     ·omega
   ·simp only [lv',hxc,if_false] at hx
    split at hx
    ·simp at hx
    ·rename_i hxb
     obtain ⟨k1,bl,e',cs1,T1,fz1,k2,k3,k4,k5,k6⟩:=hW.tip x hx
     have hne:b≠bl:=fun h=>hxb (hW.tinj _ _ _ _ _ hx hl k2 (h▸hτ))
     refine ⟨k1,bl,e',cs1,T1,fz1,τold _ _ k2,(bT hne _).trans k3,fun i c=>(eN hb _ _).trans (k4 i c),?_,k6⟩
     rintro i hi (h | ⟨h,_⟩)
     ·exact k5 i hi h
     ·exact hne h.symm
  ·intro x y bl e1 e2 hx hy h1 h2
   simp only [G',bH] at h1 h2
   by_cases hxc:x=cb
   ·by_cases hyc:y=cb
    ·rw [hxc,hyc]
    ·rw [if_pos hxc] at h1
     rw [if_neg hyc] at h2
     simp only [Option.some.injEq,Prod.mk.injEq] at h1
     simp only [lv',hyc,if_false] at hy
     split at hy
     ·simp at hy
     ·rename_i hyb
      exact absurd (hW.tinj _ _ _ _ _ hy hl h2 (h1.1▸hτ)) hyb
   ·rw [if_neg hxc] at h1
    simp only [lv',hxc,if_false] at hx
    split at hx
    ·simp at hx
    ·rename_i hxb
     by_cases hyc:y=cb
     ·rw [if_pos hyc] at h2
      simp only [Option.some.injEq,Prod.mk.injEq] at h2
      exact absurd (hW.tinj _ _ _ _ _ hx hl h1 (h2.1▸hτ)) hxb
     ·rw [if_neg hyc] at h2
      simp only [lv',hyc,if_false] at hy
      split at hy
      ·simp at hy
      ·exact hW.tinj _ _ _ _ _ hx hy h1 h2
  ·intro b' i h
   rw [cy]
   rcases h with h | ⟨rfl,_⟩
   ·exact hW.σlt b' i h
   ·exact hlt
  ·intro x b' e' h
   rw [cy]
   simp only [G',bH] at h
   split at h
   ·simp only [Option.some.injEq,Prod.mk.injEq] at h;omega
   ·exact hW.τlt x b' e' h
  ·intro b' r h;rw [cy];exact hW.ρlt b' r h
 ·intro i x hx
  obtain ⟨v,k1,k2,k3⟩:=hr.get hx
  have hi:i<cs.length:=(List.getElem?_eq_some_iff.1 hx).1
  refine ⟨v,?_,.inr ⟨rfl,by omega,by omega⟩,hfl x (List.mem_of_getElem? hx),k2,k3.mono hext.mono⟩
  rw [cell_of _ _ _ (dk hlt _),hc,if_pos (by omega),show e+i-e=i by omega]
  simpa using k1
end
end Go.Abs
/- The operations that make something or write. Condition: the state says what is in memory ('WRel', 'Rep'). -/
namespace Go.Abs
def Eff.heap (e:Eff) (H:Hp) (nid:Nat):Hp:=match e.wr with
 | some (id,cs)=>upd (match e.new with | some cs=>upd H nid cs | none=>H) id cs
 | none=>match e.new with | some cs=>upd H nid cs | none=>H
def Eff.types (e:Eff) (E:Nat→Option TypeId) (nid:Nat):Nat→Option TypeId:=match e.new with
 | some _=>upd E nid e.ty
 | none=>E
def Eff.live (e:Eff) (lv:Nat→Bool) (cb:Nat):Nat→Bool:=fun b=>if cb≤b∧b<cb+e.nb then true else if e.use=some b then false else lv b
section
variable {P:Program}{G:Gh}{w:World}{T:Nat→AV}{H:Hp}{E:Nat→Option TypeId}{lv:Nat→Bool}{nid cb:Nat}{ρ:Operand→Value}{hint:Hint}{o:Oper}{io:IOp}{e:Eff}
structure fK (G:Gh) (lv:Nat→Bool) (w:World) (H:Hp) (E:Nat→Option TypeId) (nid cb:Nat) (e:Eff) (v:Value) (G':Gh) (w':World):Prop where
 ext:Ext G lv w G' (e.live lv cb) w'
 rel:aG G' (e.heap H nid) (e.types E nid) (e.live lv cb) w'
 rep:Rep G' w' e.v v
 β:∀ id,(id≠nid∨e.new=none)→G'.β id=G.β id
 τ:∀ b,(b<cb∨cb+e.nb≤b)→G'.τ b=G.τ b
def Does (P:Program) (G:Gh) (lv:Nat→Bool) (w:World) (H:Hp) (E:Nat→Option TypeId) (nid cb:Nat) (ρ:Operand→Value) (o:Oper) (e:Eff):Prop:=
 ∃ v w' G',((execOp ρ o).run P w = .ok (.value v) w'∨((execOp ρ o).run P w = .ok .skip w'∧v=undef))∧fK G lv w H E nid cb e v G' w'
theorem bV (h1:e.use=none) (h2:e.nb=0):e.live lv cb=lv:=by
 funext b
 simp only [Eff.live,h1,h2,Nat.add_zero]
 rw [if_neg (by omega)];simp
theorem bQ.does (h:bQ P G w ρ o e) (hW:aG G H E lv w):Does P G lv w H E nid cb ρ o e:=by
 obtain ⟨⟨h1,h2,h3,h4⟩,v,h5,h6⟩:=h
 refine ⟨v,w,G,.inl h5,?_⟩
 have hl:=bV (lv:=lv) (cb:=cb) h3 h4
 exact ⟨by rw [hl];exact Ext.refl _ _ _,by rw [hl];simpa [Eff.heap,Eff.types,h1,h2] using hW,h6,fun _ _=>rfl,fun _ _=>rfl⟩
theorem kr (t:TypeId) (v:Value) (w:World):(newVar t v).run P w = .ok ⟨w.heap.size,0,none⟩ (w.alloc (.cells v.cells t)):=by
 simp [newVar,newRow]
theorem nk {xs:List AV}{arr:Array Value}{t:TypeId}{ty:Option TypeId}{v:AV}{u:Value}(hW:aG G H E lv w) (hr:Row G w xs arr) (hn:G.β nid=none) (hu:∀ x∈xs,x.under nid=true) (ht:∀ t',ty=some t'→t=t')
 (hrun:(execOp ρ o).run P w = .ok (.value u) (w.alloc (.cells arr t))) (hv:Rep { G with β:=bH G.β nid (w.heap.size,some 0) } (w.alloc (.cells arr t)) v u) :
 Does P G lv w H E nid cb ρ o { v,new:=some xs,ty }:=by
 obtain ⟨h1,h2⟩:=wJ hW hr hn hu t ty ht
 refine ⟨u,w.alloc (.cells arr t),{ G with β:=bH G.β nid (w.heap.size,some 0) },.inl hrun,?_⟩
 have hl:Eff.live { v,new:=some xs,ty } lv cb=lv:=bV rfl rfl
 exact ⟨by rw [hl];exact h1,by rw [hl];exact h2,hv,fun id hid=>by
  rcases hid with hid | hid
  ·exact cG _ hid
  ·simp at hid,fun _ _=>rfl⟩
theorem ku {x:AV}(h:x.flat=true) {v:Value}(hr:Rep G w x v) (n:Nat):x.under n=true:=by
 induction hr with
 | ref=>simp [AV.flat] at h
 | osl=>simp [AV.flat] at h
 | fn=>simp [AV.flat] at h
 | mp=>simp [AV.flat] at h
 | yl=>simp [AV.flat] at h
 | cp=>simp [AV.flat] at h
 | iface t x v hj hr ih=>simp only [AV.flat] at h;simpa only [AV.under] using ih h
 | agg cs arr hl hlf hr ih=>
  simp only [AV.flat,cm] at h
  simp only [AV.under,bO]
  intro x hx
  obtain ⟨i,hi⟩:=List.getElem?_of_mem hx
  have hlt:i<arr.size:=by rw [← hl];exact (List.getElem?_eq_some_iff.1 hi).1
  exact ih i x arr[i] hi (Array.getElem?_eq_getElem hlt) (h x hx)
 | tup vs arr hl hr ih=>
  simp only [AV.flat,cm] at h
  simp only [AV.under,bO]
  intro x hx
  obtain ⟨i,hi⟩:=List.getElem?_of_mem hx
  have hlt:i<arr.size:=by rw [← hl];exact (List.getElem?_eq_some_iff.1 hi).1
  exact ih i x arr[i] hi (Array.getElem?_eq_getElem hlt) (h x hx)
 | _=>rfl
theorem Row.under_flat {xs:List AV}{arr:Array Value}(h:Row G w xs arr) (hf:∀ x∈xs,x.flat=true) (n:Nat):∀ x∈xs,x.under n=true:=by
 intro x hx
 obtain ⟨i,hi⟩:=List.getElem?_of_mem hx
 obtain ⟨v,_,_,hr⟩:=h.get hi
 exact ku (hf x hx) hr n
theorem Ts {t:TypeId}{z:List AV}(ho:o.op = .alloc t) (hz:fX P t=some z) (hW:aG G H E lv w) (hn:G.β nid=none):Does P G lv w H E nid cb ρ o { v:=.ref nid 0,new:=some z,ty:=some t }:=by
 obtain ⟨zv,h1,h2,h3⟩:=ir (G:=G) hz w
 refine nk hW h2 hn ?_ (fun t' h=>by simpa using h) (u:=.pointer (some ⟨w.heap.size,0,none⟩)) (t:=t) ?_ (.ref nid 0 w.heap.size 0 (cU _ _ _))
 ·exact h2.under_flat h3 nid
 ·simp [execOp,ho,Instr.alloc,h1,kr]
theorem Tt {t:TypeId}{x:Operand}{a:X}{cs:List AV}(ho:o.op = .box t x) (hx:aI x=some a) (hs:stored (ev T a)=some cs) (hX:bP G w T ρ) (hW:aG G H E lv w) (hn:G.β nid=none) (hu:∀ x∈cs,x.under nid=true) :
 Does P G lv w H E nid cb ρ o { v:=.ref nid 0,new:=some cs,ty:=some t }:=by
 refine nk hW (iO (hX _ _ hx) hs) hn hu (fun t' h=>by simpa using h) (u:=.pointer (some ⟨w.heap.size,0,none⟩)) (t:=t) ?_ (.ref nid 0 w.heap.size 0 (cU _ _ _))
 simp [execOp,ho,Instr.box,kr]
theorem Fj {t:TypeId}{x:Operand}{a:X}{cs:List AV}(ho:o.op = .box t x) (hx:aI x=some a) (hs:stored (ev T a).share=some cs) (hfl:bK cs=true) (hX:bP G w T ρ) (hW:aG G H E lv w) :
 Does P G lv w H E nid cb ρ o { v:=.pp cs 0 }:=by
 have hr:=iO (hX _ _ hx).share hs
 obtain ⟨k1,k2,k3⟩:=kq hW (Nat.le_of_eq hr.1) (fun i x hx=>hr.get hx) ((cm _).1 hfl) t (0,0) (by simp) none (by simp)
 refine ⟨_,_,{ G with σ:=kp G.σ w.heap.size cs.length,τ:=ji G.τ none (w.heap.size,cs.length) },.inl (show (execOp ρ o).run P w = .ok (.value (.pointer (some ⟨w.heap.size,0,none⟩))) (w.alloc (.cells (ρ x).cells t)) by simp [execOp,ho,Instr.box,kr]),?_⟩
 have hl':Eff.live { v:=AV.pp cs 0 } lv cb=lv:=bV rfl rfl
 exact ⟨by rw [hl'];exact k1,by rw [hl'];exact k2,Rep.mk_pp k3,fun _ _=>rfl,fun _ _=>rfl⟩
theorem qN {z:List AV}{zc:Array Value}(h:Row G w z zc) (hz:0<z.length) (m:Nat):Row G w (kl m z) ((Array.range (m*z.length)).map (fun i=>zc[i%zc.size]!)):=by
 have hsz:=h.1
 refine ⟨by simp [kl],fun i x v hx hv=>?_⟩
 have hi:i<m*z.length:=by
  have:=(List.getElem?_eq_some_iff.1 hx).1
  simpa [kl] using this
 have hx':z[i%z.length]? = some x:=by
  clear hv
  unfold kl at hx
  induction m generalizing i with
  | zero=>simp at hi
  | succ m ih=>
   rw [List.replicate_succ,List.flatten_cons] at hx
   by_cases hlt:i<z.length
   ·rw [List.getElem?_append_left hlt] at hx
    rw [Nat.mod_eq_of_lt hlt];exact hx
   ·rw [List.getElem?_append_right (by omega)] at hx
    have:=ih (i-z.length) hx (by rw [Nat.add_mul] at hi;omega)
    rw [show i%z.length=(i-z.length)%z.length from Nat.mod_eq_sub_mod (by omega)]
    exact this
 have hmod:i%zc.size<zc.size:=Nat.mod_lt _ (by omega)
 simp only [Array.getElem?_map,Option.map_eq_some_iff] at hv
 obtain ⟨j,hj,rfl⟩:=hv
 have hji:j=i:=by
  rw [Array.getElem?_range] at hj
  split at hj
  ·simpa using hj.symm
  ·simp at hj;omega
 subst hji
 rw [getElem!_pos zc (j%zc.size) hmod]
 refine h.2 (j%z.length) x _ hx' ?_
 rw [hsz]
 exact Array.getElem?_eq_getElem hmod
theorem Tu {t el:TypeId}{len s:Nat}{parts:Array (Nat×Operand)}{z:List AV}{l:List (Nat×Nat×X)}{m:Bool}(ho:o.op = .buildSlice t len parts) (hu:P.underlying t=some (.slice el)) (hs:bu P el=some s) (hz:fX P el=some z)
 (hc:z.length=s∧0<s∧len*s≤2 ^ 24) (hl:dh (fun i=>some (i*s,s)) parts.toList=some l) (hX:bP G w T ρ) (hW:aG G H E lv w) (hn:G.β nid=none)
 (he:au T H lv nid cb (.bsl m s (kl len z) l)=some e):Does P G lv w H E nid cb ρ o e:=by
 obtain ⟨hzl,hs0,hlen⟩:=hc
 simp only [au] at he
 split at he
 ·rename_i cs hcs
  split at he
  ·rename_i hcond
   simp only [Bool.and_eq_true,decide_eq_true_eq,cm] at hcond
   obtain ⟨⟨hfl,_⟩,hmod⟩:=hcond
   obtain ⟨zv,h1,h2,_⟩:=ir (G:=G) hz w
   have hzr:=qN h2 (by omega) len
   obtain ⟨arr,h3,h4⟩:=iQ hX _ _ _ _ _ hl hzr hcs
   have hcl:cs.length=len*s:=by
    have:∀ (l:List (Nat×Nat×X)) (z zs:List AV),fill T true z l=some zs→zs.length=z.length:=by
     intro l
     induction l with
     | nil=>intro z zs h;simp only [fill,Option.some.injEq] at h;rw [h]
     | cons p l ih=>
      intro z zs h
      obtain ⟨off,sz,x⟩:=p
      simp only [fill,if_true] at h
      split at h
      ·simp at h
      ·rename_i c hc
       split at h
       ·rename_i hle
        rw [ih _ _ h,jJ hc (by omega),iJ _ _ _ (by omega)]
       ·simp at h
    rw [this _ _ _ hcs]
    simp [kl,hzl]
   have hrun:(execOp ρ o).run P w = .ok (.value (.slice (some ⟨w.heap.size,0,none⟩) len len)) (w.alloc (.cells arr el)):=by
    have hpm:(parts.map fun (p:Nat×Operand)=>(p.1,ρ p.2)).toList=parts.toList.map fun p=>(p.1,ρ p.2):=by simp
    have hgt:¬ (len*s>2 ^ 24):=by omega
    simp only [execOp,ho,Instr.buildSlice,Sem.run_bind,run_underlying hu,Result.andThen_ok,bE hs,if_neg hgt]
    have hz0:((if len*s=0 then pure #[] else do pure (← zeroValue el).cells):Sem (Array Value)).run P w = .ok (if len*s=0 then #[] else zv.cells) w:=by
     split
     ·rfl
     ·simp [h1]
    have harr:(Array.range (len*s)).map (fun i=>(if len*s=0 then #[] else zv.cells)[i%(if len*s=0 then (#[]:Array Value) else zv.cells).size]!)=(Array.range (len*z.length)).map (fun i=>zv.cells[i%zv.cells.size]!):=by
     by_cases h0:len*s=0
     ·simp [h0,hzl]
     ·simp only [if_neg h0,hzl]
    simp only [Sem.run_ite,Sem.run_pure,Sem.run_bind,h1,Result.andThen_ok,Result.andThen_ite] at hz0 ⊢
    split
    ·rename_i h0
     simp only [h0,if_true] at harr
     rw [h0]
     rw [harr,hpm,h3]
     simp [newRow]
    ·rename_i h0
     simp only [if_neg h0] at harr
     rw [harr,hpm,h3]
     simp [newRow]
   split at he
   ·simp only [Option.some.injEq] at he;subst he
    refine nk hW h4 hn (h4.under_flat hfl nid) (fun t' h=>by simp at h) hrun ?_
    rw [hcl,Nat.mul_div_cancel _ hs0]
    exact .osl nid 0 len s len w.heap.size 0 (cU _ _ _) hs0 (Nat.le_refl _)
   ·simp only [Option.some.injEq] at he;subst he
    obtain ⟨k1,k2,k3⟩:=kq hW (Nat.le_of_eq h4.1) (fun i x hx=>h4.get hx) hfl el (0,0) (by simp) none (by simp)
    refine ⟨_,_,{ G with σ:=kp G.σ w.heap.size cs.length,τ:=ji G.τ none (w.heap.size,cs.length) },.inl hrun,?_⟩
    have hl':Eff.live { v:=AV.sl 3 s cs } lv cb=lv:=bV rfl rfl
    refine ⟨by rw [hl'];exact k1,by rw [hl'];exact k2,?_,fun _ _=>rfl,fun _ _=>rfl⟩
    exact Rep.mk_sl (by omega) hs0 hcl (Nat.le_refl _) k3 (fun _=>rfl) (by omega)
  ·simp at he
 ·simp at he
end
end Go.Abs
/- make, []byte(s), append, stores, copy. Condition: the state says what is in memory ('WRel', 'Rep'). -/
namespace Go.Abs
section
variable {P:Program}{G:Gh}{w:World}{T:Nat→AV}{H:Hp}{E:Nat→Option TypeId}{lv:Nat→Bool}{nid cb:Nat}{ρ:Operand→Value}{hint:Hint}{o:Oper}{io:IOp}{e:Eff}
theorem BM {t:TypeId}{s:Nat}{x y:Operand}{a b:X}(ho:o.op = .store t x y) (hs:bu P t=some s) (hx:aI x=some a) (hy:aI y=some b) (hX:bP G w T ρ) (hW:aG G H E lv w)
 (he:au T H lv nid cb (.store s a b)=some e):Does P G lv w H E nid cb ρ o e:=by
 simp only [au] at he
 have h1:=hX _ _ hx
 have h2:=hX _ _ hy
 split at he
 ·rename_i id off heq
  split at he
  ·rename_i cs hcs
   split at he
   ·rename_i hc
    obtain ⟨hl,hle⟩:=hc
    have hun:True:=trivial
    simp only [Option.some.injEq] at he;subst he
    rw [heq] at h1
    obtain ⟨bl,ob,hv,hβ⟩:=h1.ptr_ref
    have hrow:=iO h2 hcs
    obtain ⟨cur,T0,fz,k1,k2,k3,k4,k5⟩:=hW.obj id bl ob hβ
    have hcl:cs.length=(ρ y).cells.size:=hrow.1
    have hone:∀ v∈(ρ y).cells.toList,v.oneCell'=true:=by
     intro v hv'
     obtain ⟨i,hi⟩:=List.getElem?_of_mem hv'
     have hlt:i<cs.length:=by rw [hcl];have:=(List.getElem?_eq_some_iff.1 hi).1;simpa using this
     obtain ⟨u,m1,m2,m3⟩:=hrow.get (List.getElem?_eq_getElem hlt)
     have:u=v:=by rw [Array.getElem?_toList] at hi;rw [m1] at hi;simpa using hi
     exact this▸m3.one m2
    obtain ⟨cur',r1,r2,r3⟩:=fA (P:=P) bl (ob+off) (ρ y).cells.toList 0 cur w k1 (by simp;omega) (by
     intro j hj
     rw [Nat.add_zero,Nat.add_assoc]
     exact k4 (off+j) (by simp at hj;omega)) hone
    have hput:lu (H id) off (ev T b)=cd (H id) off cs:=jJ hcs (by omega)
    obtain ⟨w1,w2⟩:=lA hW hβ k1 (off:=off) (cs:=cs) (vs:=(ρ y).cells.toList) (by omega) (by simpa using hrow) hun r2 (by simpa using r3)
    refine ⟨undef,cH w bl (.cells cur' T0 fz),G,.inr ⟨?_,rfl⟩,?_⟩
    ·have hsz:¬ ((ρ y).cells.size≠s):=by omega
     simp only [execOp,ho,Instr.storeAt,hv,Instr.sureAddr,storeVar,Sem.run_bind,Sem.run_pure,Result.andThen_ok,bE hs,if_neg hsz,r1]
     rfl
    ·have hl':Eff.live { v:=AV.tup [],wr:=some (id,lu (H id) off (ev T b)) } lv cb=lv:=bV rfl rfl
     refine ⟨by rw [hl'];exact w1,by rw [hl'];simp only [Eff.heap,Eff.types,hput];exact w2,.tup _ _ rfl (by simp),fun _ _=>rfl,fun _ _=>rfl⟩
   ·simp at he
  ·simp at he
 ·simp at he
theorem lB {sz:Nat}{x:AV}{v:Value}{ys:List AV}(h:src H sz x=some ys) (hs:0<sz) (hr:Rep G w x v) (hW:aG G H E lv w) :
 ∃ m,(∀ w',(Builtin.lenOf v).run P w' = .ok m w')∧ys.length=m*sz∧(∀ y∈ys,y.flat=true)∧
  ∀ k,k≤m→∀ w',(∀ (b i:Nat),w'.cell? ⟨b,i,none⟩=w.cell? ⟨b,i,none⟩)→∃ arr:Array Value,(Builtin.firstCells sz k v).run P w' = .ok arr w'∧Row G w (ys.take (k*sz)) arr:=by
 have loadk:∀ {b o:Nat}{zs:List AV},jg G w b o zs→∀ k,k*sz≤zs.length→∀ w',(∀ (b i:Nat),w'.cell? ⟨b,i,none⟩=w.cell? ⟨b,i,none⟩)→
  ∃ arr:Array Value,(loadCells ⟨b,o,none⟩ (k*sz)).run P w' = .ok arr w'∧Row G w (zs.take (k*sz)) arr:=by
  intro b o zs hm k hk w' hw'
  let f:Nat→Value:=fun j=>(w.cell? ⟨b,o+j,none⟩).getD undef
  have hc:∀ j,j<k*sz→w'.cell? ((⟨b,o,none⟩:Addr).add j)=some (f j):=by
   intro j hj
   obtain ⟨v,h1,_⟩:=hm j zs[j] (List.getElem?_eq_getElem (by omega))
   rw [cS,hw',h1];simp [f,h1]
  refine ⟨_,run_loadCells (P:=P) w' ⟨b,o,none⟩ (k*sz) f hc,by simp;omega,fun i x v hx hv=>?_⟩
  have hi:i<k*sz:=by
   have:=(List.getElem?_eq_some_iff.1 hx).1
   simp at this;omega
  rw [List.getElem?_take_of_lt hi] at hx
  obtain ⟨u,h1,_,h2,h3⟩:=hm i x hx
  simp [hi,f,h1] at hv
  subst hv
  exact ⟨h2,h3⟩
 unfold src at h
 split at h
 ·rename_i br s zs
  split at h
  ·rename_i hss
   simp only [Option.some.injEq] at h;subst h
   rcases hr.inv_sl with ⟨p,cap,rfl,_,rfl⟩ | ⟨b,off,len,cap,rfl,hnb,hsz,hlen,hc,hcs,_⟩
   ·refine ⟨0,fun _=>rfl,by simp,by simp,fun k hk w' hw'=>⟨#[],?_,?_⟩⟩
    ·have:k=0:=by omega
     subst this
     cases p with
     | none=>rfl
     | some a=>simp [Builtin.firstCells,loadCells,loadCellsFrom]
    ·exact ⟨by simp,by simp⟩
   ·have hl:zs.length=len*sz:=by
     rcases hss with rfl | rfl
     ·exact hlen
     ·simp only [List.length_nil] at hlen ⊢
      have:len=0:=by
       rcases Nat.eq_zero_or_pos len with h | h
       ·exact h
       ·have:=Nat.mul_pos h hsz;omega
      simp [this]
    have hm:jg G w b off zs:=fun i x hi=>by
     obtain ⟨v,a1,a2,a3,a4,a5⟩:=hcs i x hi
     exact ⟨v,a1,a5.one a4,a4,a5⟩
    refine ⟨len,fun _=>rfl,hl,fun y hy=>?_,fun k hk w' hw'=>?_⟩
    ·obtain ⟨i,hi⟩:=List.getElem?_of_mem hy
     obtain ⟨_,_,_,a3,_⟩:=hcs i y hi
     exact a3
    ·have:=loadk hm k (by rw [hl];exact Nat.mul_le_mul_right _ hk) w' hw'
     simpa [Builtin.firstCells] using this
  ·simp at h
 ·rename_i l
  split at h
  ·rename_i h1
   subst h1
   simp only [Option.some.injEq] at h;subst h
   obtain ⟨s,rfl,rfl⟩:=hr.inv_str
   have hsl:s.data.toList.length=s.size:=Array.length_toList
   refine ⟨s.size,fun _=>rfl,by simp [hsl],by simp [ofB,AV.flat],fun k hk w' hw'=>?_⟩
   refine ⟨(s.extract 0 k).data.map fun b=>.int .u8 b.toNat,rfl,?_,?_⟩
   ·simp [hsl]
   ·intro i x v hx hv
    have hi:i<k:=by
     have:=(List.getElem?_eq_some_iff.1 hx).1
     simp at this;omega
    rw [List.getElem?_take_of_lt (by omega),List.getElem?_map] at hx
    simp only [Array.getElem?_map,ByteArray.data_extract,Array.getElem?_extract,Nat.zero_add,Option.map_eq_some_iff] at hv hx
    obtain ⟨b,hb,rfl⟩:=hx
    obtain ⟨b',hb',rfl⟩:=hv
    split at hb'
    ·rw [Array.getElem?_toList,hb'] at hb
     simp only [Option.some.injEq] at hb;subst hb
     exact ⟨rfl,.int _ _⟩
    ·simp at hb'
  ·simp at h
 ·rename_i id off len s
  split at h
  ·rename_i hc
   obtain ⟨rfl,hle,hfl⟩:=hc
   simp only [Option.some.injEq] at h;subst h
   rw [cm] at hfl
   obtain ⟨b,ob,cap,rfl,hβ,_⟩:=hr.inv_osl
   have hm0:=jg.of_obj hW hβ
   have hm:jg G w b (ob+off) (((H id).drop off).take (len*s)):=by
    intro i x hi
    have hlt:i<len*s:=by
     have:=(List.getElem?_eq_some_iff.1 hi).1
     simp at this;omega
    rw [List.getElem?_take_of_lt hlt,List.getElem?_drop] at hi
    obtain ⟨v,a1,a2,a3,a4⟩:=hm0 (off+i) x hi
    exact ⟨v,by rw [Nat.add_assoc];exact a1,a2,a3,a4⟩
   have hl:(((H id).drop off).take (len*s)).length=len*s:=by simp;omega
   refine ⟨len,fun _=>rfl,hl,hfl,fun k hk w' hw'=>?_⟩
   have:=loadk hm k (by rw [hl];exact Nat.mul_le_mul_right _ hk) w' hw'
   simpa [Builtin.firstCells] using this
  ·simp at h
 ·simp at h
theorem pD {c:Call}{x y:Operand}(ho:o.op = .call c) (hc:c.callee = .builtin .copy) (hargs:c.args = #[x,y]) {u:Value}{w':World}(h:(Builtin.copy_ c.argTypes o.type #[ρ x,ρ y]).run P w = .ok u w') :
 (execOp ρ o).run P w = .ok (.value u) w':=by
 simp [execOp,ho,resolve,hc,hargs,invoke,builtin,h]
theorem Row.oneCells {xs:List AV}{arr:Array Value}(h:Row G w xs arr):∀ v∈arr.toList,v.oneCell'=true:=by
 intro v hv'
 obtain ⟨i,hi⟩:=List.getElem?_of_mem hv'
 have hlt:i<xs.length:=by rw [h.1];have:=(List.getElem?_eq_some_iff.1 hi).1;simpa using this
 obtain ⟨u,m1,m2,m3⟩:=h.get (List.getElem?_eq_getElem hlt)
 have:u=v:=by rw [Array.getElem?_toList] at hi;rw [m1] at hi;simpa using hi
 exact this▸m3.one m2
theorem Tv {c:Call}{t el:TypeId}{s:Nat}{x y:Operand}{a b:X}(ho:o.op = .call c) (hc:c.callee = .builtin .copy) (hargs:c.args = #[x,y]) (ht:c.argTypes[0]? = some t)
 (hu:P.underlying t=some (.slice el)) (hs:bu P el=some s) (hx:aI x=some a) (hy:aI y=some b) (hX:bP G w T ρ) (hW:aG G H E lv w)
 (he:au T H lv nid cb (.cpy s a b)=some e):Does P G lv w H E nid cb ρ o e:=by
 simp only [au] at he
 have h1:=hX _ _ hx
 have h2:=hX _ _ hy
 split at he
 ·rename_i id off len s' ys heq hsrc
  split at he
  ·rename_i hcond
   obtain ⟨rfl,hs0,hle⟩:=hcond
   simp only [Option.some.injEq] at he;subst he
   rw [heq] at h1
   obtain ⟨bl,ob,cap,hv,hβ,_,hcap⟩:=h1.inv_osl
   obtain ⟨m,l1,l2,l3,l4⟩:=lB (P:=P) hsrc hs0 h2 hW
   obtain ⟨arr,f1,f2⟩:=l4 (min m len) (Nat.min_le_left _ _) w (fun _ _=>rfl)
   have hdiv:ys.length/s'=m:=by rw [l2];exact Nat.mul_div_cancel _ hs0
   rw [hdiv]
   have hkl:min m len*s'≤len*s':=Nat.mul_le_mul_right _ (Nat.min_le_right _ _)
   have hkm:min m len*s'≤m*s':=Nat.mul_le_mul_right _ (Nat.min_le_left _ _)
   have htl:(ys.take (min m len*s')).length=min m len*s':=by rw [List.length_take];omega
   obtain ⟨cur,T0,fz,k1,k2,k3,k4,k5⟩:=hW.obj id bl ob hβ
   have harr:arr.size=min m len*s':=by rw [← f2.1,htl]
   obtain ⟨cur',r1,r2,r3⟩:=fA (P:=P) bl (ob+off) arr.toList 0 cur w k1 (by simp;omega) (by
    intro j hj
    rw [Nat.add_zero,Nat.add_assoc]
    exact k4 (off+j) (by simp at hj;omega)) f2.oneCells
   obtain ⟨w1,w2⟩:=lA hW hβ k1 (off:=off) (cs:=ys.take (min m len*s')) (vs:=arr.toList) (by omega) (by simpa using f2) trivial r2 (by simpa using r3)
   refine ⟨.int .i64 (min m len:Nat),cH w bl (.cells cur' T0 fz),G,.inl (pD ho hc hargs ?_),?_⟩
   ·have hnm:Nat.min m len=min m len:=rfl
    simp [Builtin.copy_,ht,hv,run_underlying hu,l1,bE hs,hnm,f1,r1,goInt,cH]
   ·have hl':Eff.live { v:=AV.int .i64 (min m len:Nat),wr:=some (id,cd (H id) off (ys.take (min m len*s'))) } lv cb=lv:=bV rfl rfl
    refine ⟨by rw [hl'];exact w1,by rw [hl'];simp only [Eff.heap,Eff.types];exact w2,.int _ _,fun _ _=>rfl,fun _ _=>rfl⟩
  ·simp at he
 ·rename_i br s' ys heq hsrc
  simp only [Option.some.injEq] at he;subst he
  rw [heq] at h1
  have hs0:0<s∨s=0:=by omega
  have hg:bQ P G w ρ o { v:=AV.int .i64 0 }:=by
   -- nothing is copied
   have hlen0:∃ base cap,ρ x = .slice base 0 cap:=by
    rcases h1.inv_sl with ⟨p,cap,e1,_⟩ | ⟨b',off,len,cap,e1,hnb,hsz,hlen,_⟩
    ·exact ⟨p,cap,e1⟩
    ·have:len=0:=by
      simp only [List.length_nil] at hlen
      rcases Nat.eq_zero_or_pos len with h | h
      ·exact h
      ·have:=Nat.mul_pos h hsz;omega
     subst this
     exact ⟨_,cap,e1⟩
   obtain ⟨base,cap,e1⟩:=hlen0
   have hlo:∃ m,(Builtin.lenOf (ρ y)).run P w = .ok m w∧(∃ arr:Array Value,arr.toList=[]∧(Builtin.firstCells s 0 (ρ y)).run P w = .ok arr w):=by
    unfold src at hsrc
    split at hsrc
    ·rename_i heq2
     rw [heq2] at h2
     rcases h2.inv_sl with ⟨p,cap',e2,_⟩ | ⟨b',off,len,cap',e2,_⟩
     ·exact ⟨0,by rw [e2];rfl,#[],rfl,by rw [e2];cases p<;>simp [Builtin.firstCells,loadCells,loadCellsFrom]⟩
     ·exact ⟨len,by rw [e2];rfl,#[],rfl,by rw [e2];simp [Builtin.firstCells,loadCells,loadCellsFrom]⟩
    ·rename_i heq2
     rw [heq2] at h2
     obtain ⟨u,e2,_⟩:=h2.inv_str
     refine ⟨u.size,by rw [e2];rfl,((u.extract 0 0).data.map fun b=>.int .u8 b.toNat),?_,by rw [e2];rfl⟩
     simp
    ·rename_i heq2
     rw [heq2] at h2
     obtain ⟨b',ob,cap',e2,_⟩:=h2.inv_osl
     exact ⟨_,by rw [e2];rfl,#[],rfl,by rw [e2];simp [Builtin.firstCells,loadCells,loadCellsFrom]⟩
    ·simp at hsrc
   obtain ⟨m,k1,arr,k2,k3⟩:=hlo
   refine aD ⟨.int .i64 0,pD ho hc hargs ?_,.int _ _⟩
   have hnm:Nat.min m 0=0:=Nat.min_zero m
   cases base<;>simp [Builtin.copy_,ht,e1,run_underlying hu,k1,bE hs,hnm,k3,k2,storeCells,goInt]
  exact hg.does hW
 ·simp at he
end
end Go.Abs
/- make, []byte(s), append. Condition: the state says what is in memory ('WRel', 'Rep'). -/
namespace Go.Abs
section
variable {P:Program}{G:Gh}{w:World}{T:Nat→AV}{H:Hp}{E:Nat→Option TypeId}{lv:Nat→Bool}{nid cb:Nat}{ρ:Operand→Value}{hint:Hint}{o:Oper}{io:IOp}{e:Eff}
theorem aG.drew (hW:aG G H E lv w):aG G H E lv w.drew:=hW.mono' rfl
theorem kv (lv:Nat→Bool) (cb:Nat) (v:AV):Eff.live { v,nb:=1 } lv cb=gT lv (some cb):=by
 funext b
 simp only [Eff.live,gT,reduceCtorEq,if_false]
 by_cases h:b=cb
 ·rw [if_pos (by omega),if_pos h]
 ·rw [if_neg (by omega),if_neg h]
theorem wK (hW:aG G H E lv w) (hτ:G.τ cb=none):lv cb=false:=by
 cases h:lv cb with
 | false=>rfl
 | true=>
  obtain ⟨_,b,e,_,_,_,h2,_⟩:=hW.tip cb h
  rw [hτ] at h2;cases h2
theorem kx {xs:List AV}{arr:Array Value}{t:TypeId}{sz cap:Nat}{fz:Nat×Nat}(hW:aG G H E lv w) (hle:xs.length≤arr.size) (hr:∀ (i:Nat) (x:AV),xs[i]? = some x→∃ v,arr[i]? = some v∧x.leaf=true∧Rep G w x v) (hfl:∀ x∈xs,x.flat=true)
 (hfz:∀ i,i<arr.size→¬ (fz.1≤i∧i<fz.2)) (hcb:4≤cb) (hτ:G.τ cb=none) {len:Nat}(hsz:0<sz) (hlen:xs.length=len*sz) (hcap:len≤cap) (hroom:cap*sz≤arr.size) {w0:World}(hext:Ext G lv w0 G lv w)
 (hrun:(execOp ρ o).run P w0 = .ok (.value (.slice (some ⟨w.heap.size,0,none⟩) len cap)) (w.alloc (.cells arr t fz))) :
 Does P G lv w0 H E nid cb ρ o { v:=.sl cb sz xs,nb:=1 }:=by
 obtain ⟨k1,k2,k3⟩:=kq hW hle hr hfl t fz hfz (some cb) (fun b hb=>by
  simp only [Option.some.injEq] at hb;subst hb
  exact ⟨hcb,hτ,wK hW hτ⟩)
 refine ⟨_,_,{ G with σ:=kp G.σ w.heap.size xs.length,τ:=ji G.τ (some cb) (w.heap.size,xs.length) },.inl hrun,?_⟩
 refine ⟨by rw [kv];exact hext.trans k1,by rw [kv];exact k2,?_,fun _ _=>rfl,fun b hb=>cG _ (by simp at hb;omega)⟩
 refine Rep.mk_sl (by omega) hsz hlen hcap k3 (by omega) (fun _=>⟨?_,t,arr.size,gb _ _ (cN w _),by omega⟩)
 simp [ji,bH]
theorem qO (n:Nat) (h:n≤room):IntKind.i64.wrap (n:Int)=n:=by
 have hr:room=17592186044416:=by decide +kernel
 have h1:(2 ^ IntKind.i64.bits:Int)=18446744073709551616:=by decide +kernel
 have h2:(2 ^ (IntKind.i64.bits-1):Int)=9223372036854775808:=by decide +kernel
 have hm:(n:Int)%18446744073709551616=n:=Int.emod_eq_of_lt (by omega) (by omega)
 unfold IntKind.wrap
 simp only [h1,h2,hm]
 rw [if_neg]
 simp only [Bool.and_eq_true,decide_eq_true_eq,not_and]
 intro _;omega
theorem lg {i:Int}(h0:0≤i) (h:i.toNat≤room):IntKind.i64.wrap i=i:=by
 obtain ⟨n,rfl⟩:=Int.eq_ofNat_of_zero_le h0
 exact qO n (by simpa using h)
theorem Tw {t el:TypeId}{i:TypeInfo}{x y:Operand}{a b:X}{z z0:List AV}{m:Bool}(ho:o.op = .makeSlice t x y) (hu:P.underlying t=some (.slice el)) (hi:P.info? el=some i) (hz:fX P el=some z0) (hzc:z=z0.map aF) (hx:aI x=some a) (hy:aI y=some b)
 (hX:bP G w T ρ) (hW:aG G H E lv w) (hn:G.β nid=none) (hcb:4≤cb) (hτ:G.τ cb=none) (he:au T H lv nid cb (.mks m i.size i.bytes z a b)=some e):Does P G lv w H E nid cb ρ o e:=by
 simp only [au] at he
 have h1:=hX _ _ hx
 have h2:=hX _ _ hy
 split at he
 ·rename_i l k hl hk
  split at he
  ·rename_i hc
   obtain ⟨h0,hlk,hroom,hb0,hzl,hs0,hfl⟩:=hc
   rw [cm] at hfl
   obtain ⟨kk,e1⟩:=fu hl h1
   obtain ⟨kk',e2⟩:=fu hk h2
   obtain ⟨zv,z1,z2',_⟩:=ir (G:=G) hz w
   have z2:Row G w z zv.cells:=by rw [hzc];exact z2'.canon
   have hkr:k.toNat≤room:=Nat.le_trans (Nat.le_mul_of_pos_right _ hb0) hroom
   have hwl:=lg h0 (by omega:l.toNat≤room)
   have hwk:=lg (by omega:0≤k) hkr
   have hs:bu P el=some i.size:=by simp [bu,hi]
   have hzr:=qN z2 (by omega) k.toNat
   have hzs:zv.cells.size=i.size:=by rw [← z2.1,hzl]
   have harrs:((Array.range (k.toNat*i.size)).map (fun j=>zv.cells[j%zv.cells.size]!)).size=k.toNat*i.size:=by simp
   have hrun:(execOp ρ o).run P w = .ok (.value (.slice (some ⟨w.heap.size,0,none⟩) l.toNat k.toNat)) (w.alloc (.cells ((Array.range (k.toNat*i.size)).map (fun j=>zv.cells[j%zv.cells.size]!)) el)):=by
    have hr:room=17592186044416:=by decide +kernel
    have htl:∀ j:Int,0≤j→j.toNat*i.bytes≤room→((j<0||(i.bytes:Int)*j>2 ^ 48):Bool)=false:=by
     intro j hj hjr
     obtain ⟨q,rfl⟩:=Int.eq_ofNat_of_zero_le hj
     have:(2 ^ 48:Int)=281474976710656:=by decide +kernel
     simp only [Bool.or_eq_false_iff,decide_eq_false_iff_not,this]
     refine ⟨by omega,?_⟩
     have hq:(i.bytes:Int)*q=((q*i.bytes:Nat):Int):=by rw [Int.natCast_mul,Int.mul_comm]
     rw [hq]
     simp only [Int.toNat_natCast] at hjr
     omega
    have ht1:=htl k (by omega) hroom
    have hcond:((k<0||(i.bytes:Int)*k>2 ^ 48)||decide (l<0)||decide (l>k))=false:=by
     rw [ht1];simp;omega
    simp only [execOp,ho,Instr.makeSlice,Sem.run_bind,run_underlying hu,Result.andThen_ok,e1,e2,asInt,asIntOf,Sem.run_pure,typeInfo,run_program,hi,hwl,hwk,hcond,Bool.false_eq_true,if_false,run_askRoom,bE hs]
    split
    ·rename_i hk0
     simp [newRow,hk0]
     congr 2
     apply Array.ext
     ·simp
     ·intro j h1 _;simp at h1
    ·rename_i hk0
     simp [newRow,z1]
   have hlen:((List.replicate l.toNat z).flatten).length=l.toNat*i.size:=by simp [hzl]
   have hpre:∀ (j:Nat) (x:AV),((List.replicate l.toNat z).flatten)[j]? = some x→(kl k.toNat z)[j]? = some x:=by
    intro j x hj
    have hlk':k.toNat=l.toNat+(k.toNat-l.toNat):=by omega
    unfold kl
    rw [hlk',← List.replicate_append_replicate,List.flatten_append,List.getElem?_append_left (List.getElem?_eq_some_iff.1 hj).1]
    exact hj
   have hfl':∀ x∈(List.replicate l.toNat z).flatten,x.flat=true:=by
    intro x hx
    simp only [List.mem_flatten,List.mem_replicate] at hx
    obtain ⟨q,⟨_,rfl⟩,hq⟩:=hx
    exact hfl x hq
   have hle:l.toNat*i.size≤k.toNat*i.size:=Nat.mul_le_mul_right _ (by omega)
   split at he
   ·simp only [Option.some.injEq] at he;subst he
    -- an object: only its first cells are known
    obtain ⟨a1,a2⟩:=ko hW (xs:=(List.replicate l.toNat z).flatten) (arr:=(Array.range (k.toNat*i.size)).map (fun j=>zv.cells[j%zv.cells.size]!)) (by rw [hlen,harrs];exact hle)
     (fun j x hj=>by
      obtain ⟨v,p1,p2,p3⟩:=hzr.get (hpre j x hj)
      exact ⟨v,by rw [hzl] at p1;exact p1,p2,p3⟩) hn (fun x hx=>by
      obtain ⟨j,hj⟩:=List.getElem?_of_mem hx
      obtain ⟨v,_,_,p3⟩:=hzr.get (hpre j x hj)
      exact ku (hfl' x hx) p3 nid) el none (fun _ h=>by simp at h)
    refine ⟨_,_,{ G with β:=bH G.β nid (w.heap.size,some 0) },.inl hrun,?_⟩
    have hl':Eff.live { v:=AV.osl nid 0 l.toNat i.size,new:=some (List.replicate l.toNat z).flatten } lv cb=lv:=bV rfl rfl
    refine ⟨by rw [hl'];exact a1,by rw [hl'];exact a2,.osl nid 0 l.toNat i.size k.toNat w.heap.size 0 (cU _ _ _) hs0 (by omega),fun id hid=>?_,fun _ _=>rfl⟩
    rcases hid with hid | hid
    ·exact cG _ hid
    ·simp at hid
   ·simp only [Option.some.injEq] at he;subst he
    refine kx hW (by rw [hlen,harrs];exact hle) (fun j x hj=>?_) hfl' (fz:=(0,0)) (by simp) hcb hτ hs0 hlen (by omega) (by rw [harrs];exact Nat.le_refl _) (Ext.refl _ _ _) hrun
    obtain ⟨v,p1,p2,p3⟩:=hzr.get (hpre j x hj)
    exact ⟨v,by rw [hzl] at p1;exact p1,p2,p3⟩
  ·simp at he
 ·simp at he
theorem Tx {s d el:TypeId}{x:Operand}{a:X}(ho:o.op = .convert s d x) (hs:P.underlying s=some .string) (hd:P.underlying d=some (.slice el)) (hel:P.underlying el=some (.int .u8)) (hx:aI x=some a) (hX:bP G w T ρ) (hW:aG G H E lv w)
 (hcb:4≤cb) (hτ:G.τ cb=none) (he:au T H lv nid cb (.s2b a)=some e):Does P G lv w H E nid cb ρ o e:=by
 simp only [au] at he
 have h1:=hX _ _ hx
 split at he
 ·rename_i l heq
  split at he
  ·rename_i hroom
   simp only [Option.some.injEq] at he;subst he
   rw [heq] at h1
   obtain ⟨u,e1,rfl⟩:=h1.inv_str
   have hul:u.data.toList.length=u.size:=Array.length_toList
   -- the capacity that is drawn
   obtain ⟨cap,hcap,hle⟩:∃ cap,(choose (.appendCap u.size 0 el)).run P w = .ok cap w.drew∧u.size≤cap:=by
    refine ⟨_,by simp [Question.forced];rfl,?_⟩
    simp [Question.cut]
   let arr:Array Value:=(u.data.map fun b=>Value.int .u8 b.toNat)++Array.replicate (cap-u.size) (.int .u8 0)
   have hsz:arr.size=cap:=by
    have:u.data.size=u.size:=rfl
    simp [arr];omega
   have hrun:(execOp ρ o).run P w = .ok (.value (.slice (some ⟨w.drew.heap.size,0,none⟩) u.size cap)) (w.drew.alloc (.cells arr el (cap,cap+1))):=by
    have hfz:(w.drew.alloc (.cells arr el)).freeze ⟨w.drew.heap.size,cap,none⟩ 1=w.drew.alloc (.cells arr el (cap,cap+1)):=by
     simp only [World.freeze,Nat.one_ne_zero,if_false,World.alloc]
     congr 1
     apply Array.ext_getElem?
     intro j
     rw [Array.getElem?_modify]
     by_cases hj:w.drew.heap.size=j
     ·subst hj
      rw [if_pos rfl,Array.getElem?_push,Array.getElem?_push,if_pos rfl,if_pos rfl]
      rfl
     ·rw [if_neg hj,Array.getElem?_push,Array.getElem?_push,if_neg (Ne.symm hj),if_neg (Ne.symm hj)]
    have hsh:(w.drew.alloc (.cells arr el)).shape? w.drew.heap.size=some (el,cap):=by
     rw [gb _ _ (cN _ _),hsz]
    simp only [execOp,ho,convert,Sem.run_bind,run_underlying hs,run_underlying hd,run_underlying hel,Result.andThen_ok,e1,Conv.stringToBytes,hcap,newRow,run_newObj,Sem.run_pure,World.alloc_eq]
    have hms:(markStringish ⟨w.drew.heap.size,0,none⟩).run P (w.drew.alloc (.cells arr el)) = .ok () (w.drew.alloc (.cells arr el (cap,cap+1))):=by
     simp only [markStringish,Sem.run_bind,run_shape,hsh,Result.andThen_ok,run_freeze]
     rw [← hfz]
    rw [hms]
    rfl
   refine kx (w:=w.drew) hW.drew (by rw [hsz];simp [hul];exact hle) (fun i y hy=>?_) (by simp [ofB,AV.flat]) (fz:=(cap,cap+1)) (fun i hi=>by rw [hsz] at hi;simp;omega) hcb hτ (by omega) (by simp [hul]) hle (by rw [hsz];omega) (Ext.drew _ _ _) hrun
   simp only [List.getElem?_map,Option.map_eq_some_iff] at hy
   obtain ⟨b,hb,rfl⟩:=hy
   refine ⟨.int .u8 b.toNat,?_,rfl,.int _ _⟩
   have hlt:i<u.data.size:=by have:=(List.getElem?_eq_some_iff.1 hb).1;simpa using this
   rw [Array.getElem?_toList] at hb
   simp only [arr]
   rw [Array.getElem?_append_left (by simpa using hlt)]
   simp [hb]
  ·simp at he
 ·simp at he
theorem uO (need cap:Nat) (h:cap<need):Builtin.nextslicecap need cap≤4*need:=by
 unfold Builtin.nextslicecap
 split
 ·omega
 ·split
  ·omega
  ·rename_i h1 h2
   have key:∀ (r c:Nat),c<need+(need+768)/4+1→c≤4*need→Builtin.growBy need r c≤4*need:=by
    intro r
    induction r with
    | zero=>intro c _ h4;simpa [Builtin.growBy] using h4
    | succ r ih=>
     intro c h3 h4
     simp only [Builtin.growBy]
     split
     ·exact h4
     ·rename_i hc
      have:(c+768)/4≤(need+768)/4:=Nat.div_le_div_right (by omega)
      exact ih _ (by omega) (by omega)
   exact key 4 cap (by omega) (by omega)
theorem hZ {c:Call}{x y:Operand}(ho:o.op = .call c) (hc:c.callee = .builtin .append) (hargs:c.args = #[x,y]) {u:Value}{w':World}(h:(Builtin.append_ c.argTypes o.type #[ρ x,ρ y]).run P w = .ok u w') :
 (execOp ρ o).run P w = .ok (.value u) w':=by
 simp [execOp,ho,resolve,hc,hargs,invoke,builtin,h]
end
end Go.Abs
/- append. Condition: the state says what is in memory ('WRel', 'Rep'). -/
namespace Go.Abs
section
variable {P:Program}{G:Gh}{w:World}{T:Nat→AV}{H:Hp}{E:Nat→Option TypeId}{lv:Nat→Bool}{nid cb:Nat}{ρ:Operand→Value}{hint:Hint}{o:Oper}{io:IOp}{e:Eff}
structure qP (P:Program) (at_:Array TypeId) (el:TypeId) (i:TypeInfo):Prop where
 ty:∃ t,at_[0]? = some t∧P.underlying t=some (.slice el)
 ty2:∃ t d,at_[1]? = some t∧P.underlying t=some d∧∀ k,d≠.int k
 info:P.info? el=some i
 zero:∃ z,fX P el=some z∧z.length=i.size
theorem wL {at_:Array TypeId}{el ty:TypeId}{i:TypeInfo}(h:qP P at_ el i) {base:Option Addr}{sl sc m:Nat}{y:Value}(hm:∀ w,(Builtin.lenOf y).run P w = .ok m w) {arr:Array Value}(hf:(Builtin.firstCells i.size m y).run P w = .ok arr w) (hle:sl+m≤sc)
 {w':World}(hst:((match base with | some a=>storeCells (a.add (sl*i.size)) arr.toList | none=>pure ()):Sem Unit).run P w = .ok () w') :
 (Builtin.append_ at_ ty #[.slice base sl sc,y]).run P w = .ok (.slice base (sl+m) sc) w':=by
 obtain ⟨t,t1,t2⟩:=h.ty
 obtain ⟨u,d,u1,u2,u3⟩:=h.ty2
 have hs:bu P el=some i.size:=by simp [bu,h.info]
 have hd:(match d with | TypeDesc.int _=>true | _=>false)=false:=by cases d<;>first | rfl | (exact absurd rfl (u3 _))
 cases base with
 | none=>
  simp [Builtin.append_,t1,run_underlying t2,bE hs,u1,run_underlying u2,hd,hm,hle,hf] at hst ⊢
  exact hst
 | some a=>
  simp [Builtin.append_,t1,run_underlying t2,bE hs,u1,run_underlying u2,hd,hm,hle,hf] at hst ⊢
  simp [hst]
theorem qQ {at_:Array TypeId}{el ty:TypeId}{i:TypeInfo}(h:qP P at_ el i) {base:Option Addr}{sl sc m:Nat}{y:Value}(hm:∀ w,(Builtin.lenOf y).run P w = .ok m w) {arr old:Array Value}(hf:(Builtin.firstCells i.size m y).run P w.drew = .ok arr w.drew)
 (ho:(Builtin.firstCells i.size sl (.slice base sl sc)).run P w.drew = .ok old w.drew) (hgt:sc<sl+m) (hb0:0<i.bytes) (hroom:(sl+m)*i.bytes≤room) :
 ∃ cap rest,sl+m≤cap∧rest.size=(cap-(sl+m))*i.size∧(Builtin.append_ at_ ty #[.slice base sl sc,y]).run P w = .ok (.slice (some ⟨w.drew.heap.size,0,none⟩) (sl+m) cap) (w.drew.alloc (.cells (old++arr++rest) el)):=by
 obtain ⟨t,t1,t2⟩:=h.ty
 obtain ⟨u,d,u1,u2,u3⟩:=h.ty2
 have hs:bu P el=some i.size:=by simp [bu,h.info]
 have hd:(match d with | TypeDesc.int _=>true | _=>false)=false:=by cases d<;>first | rfl | (exact absurd rfl (u3 _))
 obtain ⟨z,hz,hzl⟩:=h.zero
 obtain ⟨zv,z1,z2,_⟩:=ir (G:={ β:=fun _=>none,σ:=fun _ _=>False,τ:=fun _=>none }) hz w.drew
 have hfo:(Question.appendCap (sl+m) sc el).forced=false:=rfl
 have hcle:sl+m≤(Question.appendCap (sl+m) sc el).cut (w.tape w.drawn (Question.appendCap (sl+m) sc el)):=by simp [Question.cut]
 have hnle:¬ (sl+m≤sc):=by omega
 have hr:room=17592186044416:=by decide +kernel
 have hne:¬ (i.bytes=0):=by omega
 have hnc:¬ (Builtin.nextslicecap (sl+m) sc*i.bytes>2 ^ 48):=by
  have h1:=uO (sl+m) sc hgt
  have h2:Builtin.nextslicecap (sl+m) sc*i.bytes≤4*(sl+m)*i.bytes:=Nat.mul_le_mul_right _ h1
  have h3:4*(sl+m)*i.bytes=4*((sl+m)*i.bytes):=Nat.mul_assoc _ _ _
  have h4:(2 ^ 48:Nat)=281474976710656:=by decide +kernel
  omega
 refine ⟨_,Builtin.zeroCells zv.cells ((Question.appendCap (sl+m) sc el).cut (w.tape w.drawn (Question.appendCap (sl+m) sc el))-(sl+m)),hcle,?_,?_⟩
 ·have:zv.cells.size=i.size:=by rw [← z2.1,hzl]
  simp [Builtin.zeroCells,this]
 ·simp only [Builtin.append_,t1]
  simp [run_underlying t2,bE hs,u1,run_underlying u2,hd,hm,hnle,typeInfo,h.info,hne,hnc,hfo,ho,hf,z1,newRow]
theorem uP {base:Option Addr}(k:Nat):((match base with | some a=>storeCells (a.add k) (#[]:Array Value).toList | none=>pure ()):Sem Unit).run P w = .ok () w:=by
 cases base<;>simp [storeCells]
theorem Ty {c:Call}{el:TypeId}{i:TypeInfo}{x y:Operand}{a b:X}(ho:o.op = .call c) (hc:c.callee = .builtin .append) (hargs:c.args = #[x,y]) (ht:qP P c.argTypes el i) (hx:aI x=some a) (hy:aI y=some b) (hX:bP G w T ρ) (hW:aG G H E lv w)
 (hcb:4≤cb) (hτ:G.τ cb=none) (he:au T H lv nid cb (.app i.size i.bytes a b)=some e):Does P G lv w H E nid cb ρ o e:=by
 simp only [au] at he
 have h1:=hX _ _ hx
 have h2:=hX _ _ hy
 split at he
 ·rename_i br s xs ys heq hsrc
  split at he
  ·rename_i hcond
   obtain ⟨hss,hs0,hb0,hroom⟩:=hcond
   rw [heq] at h1
   obtain ⟨m,l1,l2,l3,l4⟩:=lB (P:=P) hsrc hs0 h2 hW
   obtain ⟨arr,f1,f2⟩:=l4 m (Nat.le_refl _) w (fun _ _=>rfl)
   obtain ⟨arr',f1',f2'⟩:=l4 m (Nat.le_refl _) w.drew (fun _ _=>rfl)
   rw [List.take_of_length_le (by omega)] at f2 f2'
   -- the slice that is appended to
   obtain ⟨base,sl,sc,e1,hlen,hrow,hcase⟩:∃ base sl sc,ρ x = .slice base sl sc∧xs.length=sl*i.size∧
    (∃ old:Array Value,(Builtin.firstCells i.size sl (.slice base sl sc)).run P w.drew = .ok old w.drew∧Row G w xs old∧∀ x∈xs,x.flat=true)∧
    ((Emp br base sc∧xs=[]∧sl=0)∨∃ bl off,base=some ⟨bl,off,none⟩∧br≠0∧sl≤sc∧Cells G w bl off xs∧(br=3→sc=sl)∧(4≤br→G.τ br=some (bl,off+xs.length)∧∃ E c,w.shape? bl=some (E,c)∧off+sc*i.size≤c)):=by
    rcases h1.inv_sl with ⟨p,cap,e1,hbr1,rfl⟩ | ⟨bl,off,len,cap,e1,hnb,hsz,hlen,hcl,hcs,h0,h3⟩
    ·exact ⟨p,0,cap,e1,by simp,⟨#[],by cases p<;>simp [Builtin.firstCells,loadCells,loadCellsFrom],⟨rfl,by simp⟩,by simp⟩,.inl ⟨hbr1,rfl,rfl⟩⟩
    ·have hl:xs.length=len*i.size:=by
      rcases hss with rfl | ⟨rfl,_⟩
      ·exact hlen
      ·simp only [List.length_nil] at hlen ⊢
       have:len=0:=by
        rcases Nat.eq_zero_or_pos len with h | h
        ·exact h
        ·have:=Nat.mul_pos h hsz;omega
       simp [this]
     refine ⟨some ⟨bl,off,none⟩,len,cap,e1,hl,?_,.inr ⟨bl,off,rfl,hnb,hcl,hcs,h0,fun h4=>?_⟩⟩
     ·have hm':Cells G w.drew bl off xs:=hcs.mono ⟨fun _ _ h=>h,fun _ _ h=>h,fun _ _ h=>h,fun _ _ _=>rfl,fun _ _=>rfl,fun _ _ h=>h,fun _ _ h=>h⟩
      obtain ⟨old,o1,o2⟩:=kn (P:=P) hm'
      refine ⟨old,?_,⟨o2.1,fun j x v hx hv=>?_⟩,fun x hx=>?_⟩
      ·rw [hl] at o1
       exact o1
      ·obtain ⟨q1,q2⟩:=o2.2 j x v hx hv
       exact ⟨q1,q2.mono ⟨fun _ _ h=>h,fun _ _ h=>h,fun _ _ h=>h,fun _ _ _=>rfl,fun _ _=>rfl,fun _ _ h=>h,fun _ _ h=>h⟩⟩
      ·obtain ⟨j,hj⟩:=List.getElem?_of_mem hx
       obtain ⟨_,_,_,q,_⟩:=hcs j x hj
       exact q
     ·rcases hss with rfl | ⟨_,h⟩
      ·exact h3 h4
      ·omega
   obtain ⟨old,o1,o2,o3⟩:=hrow
   have hdiv:(xs.length+ys.length)/i.size=sl+m:=by rw [hlen,l2,← Nat.add_mul];exact Nat.mul_div_cancel _ hs0
   rw [hdiv] at hroom
   -- growing
   have grow:sc<sl+m→Does P G lv w H E nid cb ρ o { v:=.sl cb i.size (xs++ys),nb:=1 }:=by
    intro hgt
    obtain ⟨cap,rest,g1,g2,g3⟩:=qQ (P:=P) (w:=w) (ty:=o.type) ht l1 f1' o1 hgt hb0 hroom
    have hol:old.size=sl*i.size:=by rw [← o2.1,hlen]
    have hal:arr'.size=m*i.size:=by rw [← f2'.1,l2]
    have hcm:cap*i.size=(sl+m)*i.size+(cap-(sl+m))*i.size:=by rw [← Nat.add_mul];congr 1;omega
    have hsum:(sl+m)*i.size=sl*i.size+m*i.size:=Nat.add_mul _ _ _
    have hrun:=hZ (P:=P) (w:=w) (ρ:=ρ) ho hc hargs (by rw [e1];exact g3)
    refine kx (w:=w.drew) hW.drew (by simp;omega) (fun j z hz=>?_) (fun z hz=>?_) (fz:=(0,0)) (by simp) hcb hτ hs0 (by simp;omega) g1 (by simp;omega) (Ext.drew _ _ _) hrun
    ·by_cases hj:j<xs.length
     ·rw [List.getElem?_append_left hj] at hz
      obtain ⟨v,p1,p2,p3⟩:=o2.get hz
      have hjo:j<old.size:=by omega
      exact ⟨v,by rw [Array.append_assoc,Array.getElem?_append_left hjo];exact p1,p2,p3.drew⟩
     ·rw [List.getElem?_append_right (by omega)] at hz
      obtain ⟨v,p1,p2,p3⟩:=f2'.get hz
      have hjl:j-xs.length<arr'.size:=by rw [← f2'.1];exact (List.getElem?_eq_some_iff.1 hz).1
      refine ⟨v,?_,p2,p3.drew⟩
      rw [Array.append_assoc,Array.getElem?_append_right (by omega),Array.getElem?_append_left (by omega)]
      rw [show j-old.size=j-xs.length by omega]
      exact p1
    ·rcases List.mem_append.1 hz with hz | hz
     ·exact o3 z hz
     ·exact l3 z hz
   -- nothing is appended
   have same:ys=[]→(execOp ρ o).run P w = .ok (.value (.slice base sl sc)) w:=by
    intro hy0
    subst hy0
    have hm0:m=0:=by
     simp only [List.length_nil] at l2
     rcases Nat.eq_zero_or_pos m with h | h
     ·exact h
     ·have:=Nat.mul_pos h hs0;omega
    subst hm0
    have harr:arr = #[]:=by
     have:=f2.1
     exact Array.eq_empty_of_size_eq_zero (by simpa using this.symm)
    subst harr
    have hle:sl+0≤sc:=by
     rcases hcase with ⟨_,_,h1⟩ | ⟨_,_,_,_,h,_⟩<;>omega
    refine hZ ho hc hargs ?_
    rw [e1]
    have:=wL (P:=P) (w:=w) (w':=w) (base:=base) (ty:=o.type) ht l1 f1 hle (uP _)
    simpa using this
   split at he
   ·rename_i hbr
    split at he
    ·rename_i hy0
     simp only [Option.some.injEq] at he;subst he
     have hg:bQ P G w ρ o { v:=AV.sl br i.size xs }:=by
      refine aD ⟨_,same hy0,?_⟩
      rcases hcase with ⟨hbr1,rfl,rfl⟩ | ⟨bl,off,rfl,hnb,hle,hcs,h0,h3⟩
      ·exact .emp _ _ _ _ hbr1
      ·exact Rep.mk_sl hnb hs0 hlen hle hcs h0 (by omega)
     exact hg.does hW
    ·rename_i hy0
     simp only [Option.some.injEq] at he;subst he
     refine grow ?_
     have hm1:0<m:=by
      rcases Nat.eq_zero_or_pos m with h | h
      ·subst h
       exact absurd (List.length_eq_zero_iff.1 (by omega:ys.length=0)) hy0
      ·exact h
     rcases hcase with ⟨hbr1,_,h1⟩ | ⟨bl,off,_,hnb,hle,_,h0,_⟩
     ·unfold Emp at hbr1;omega
     ·have h5:=h0 (hbr.resolve_left hnb)
      rw [h5];exact Nat.lt_add_of_pos_right hm1
   ·rename_i hbr
    split at he
    ·rename_i hlive
     simp only [Option.some.injEq] at he;subst he
     obtain ⟨hb4,hlv⟩:=hlive
     have hne:br≠cb:=fun h=>by
      have:=wK hW hτ
      rw [h,this] at hlv;cases hlv
     rcases hcase with ⟨h0,_⟩ | ⟨bl,off,rfl,hnb,hle,hcs,h0,h3⟩
     ·unfold Emp at h0;omega
     obtain ⟨t1,E0,c0,t2,t3⟩:=h3 hb4
     by_cases hin:sl+m≤sc
     ·-- in place
      obtain ⟨_,b1,e2,cur,T0,fz,q1,q2,q3,q4,q5⟩:=hW.tip br hlv
      rw [t1] at q1
      simp only [Option.some.injEq,Prod.mk.injEq] at q1
      obtain ⟨rfl,rfl⟩:=q1
      have hc0:c0=cur.size:=by
       have:=gb w _ q2
       rw [t2] at this
       simp only [Option.some.injEq,Prod.mk.injEq] at this
       exact this.2
      have hmm:(sl+m)*i.size≤sc*i.size:=Nat.mul_le_mul_right _ hin
      have hsum:(sl+m)*i.size=sl*i.size+m*i.size:=Nat.add_mul _ _ _
      have hal:arr.size=m*i.size:=by rw [← f2.1,l2]
      obtain ⟨cur',r1,r2,r3⟩:=fA (P:=P) bl (off+xs.length) arr.toList 0 cur w q2 (by simp;omega) (by
       intro j hj
       simp only [Array.length_toList] at hj
       exact q3 _ (by omega)) f2.oneCells
      obtain ⟨w1,w2,w3⟩:=uN hW hlv t1 q2 (cs:=ys) (vs:=arr.toList) (by simpa using f2) l3 (by omega) r2 (by simpa using r3) hcb hτ
      have hrun:(execOp ρ o).run P w = .ok (.value (.slice (some ⟨bl,off,none⟩) (sl+m) sc)) (cH w bl (.cells cur' T0 fz)):=by
       refine hZ ho hc hargs ?_
       rw [e1]
       refine wL (P:=P) (ty:=o.type) ht l1 f1 hin ?_
       simp only [cS,← hlen]
       exact r1
      have hlive':Eff.live { v:=AV.sl cb i.size (xs++ys),use:=some br,nb:=1 } lv cb=(fun x=>if x=cb then true else if x=br then false else lv x):=by
       funext z
       simp only [Eff.live,Option.some.injEq]
       by_cases hz:z=cb
       ·rw [if_pos (by omega),if_pos hz]
       ·rw [if_neg (by omega),if_neg hz]
        by_cases hzb:br=z
        ·rw [if_pos hzb,if_pos hzb.symm]
        ·rw [if_neg hzb,if_neg (Ne.symm hzb)]
      refine ⟨_,_,{ G with σ:=fun b' z=>G.σ b' z∨(b'=bl∧off+xs.length≤z∧z<off+xs.length+ys.length),τ:=bH G.τ cb (bl,off+xs.length+ys.length) },.inl hrun,?_⟩
      refine ⟨by rw [hlive'];exact w1,by rw [hlive'];exact w2,?_,fun _ _=>rfl,fun z hz=>cG _ (by simp at hz;omega)⟩
      refine Rep.mk_sl (by omega) hs0 (by simp;omega) hin ?_ (by omega) (fun _=>⟨?_,T0,cur'.size,?_,by omega⟩)
      ·intro j z hz
       by_cases hj:j<xs.length
       ·rw [List.getElem?_append_left hj] at hz
        exact (hcs.mono w1.mono) j z hz
       ·rw [List.getElem?_append_right (by omega)] at hz
        have:=w3 (j-xs.length) z hz
        rw [show off+xs.length+(j-xs.length)=off+j by omega] at this
        exact this
      ·simp [bH,Nat.add_assoc]
      ·exact gb _ _ (dk (hW.τlt _ _ _ t1) _)
     ·-- a new row
      obtain ⟨v,w',G',g1,g2⟩:=grow (by omega)
      -- the old brand is used up all the same
      refine ⟨v,w',G',g1,?_⟩
      have hl1:Eff.live { v:=AV.sl cb i.size (xs++ys),nb:=1 } lv cb=gT lv (some cb):=kv _ _ _
      have sub:∀ z,Eff.live { v:=AV.sl cb i.size (xs++ys),use:=some br,nb:=1 } lv cb z=true→Eff.live { v:=AV.sl cb i.size (xs++ys),nb:=1 } lv cb z=true:=by
       intro z hz
       simp only [Eff.live] at hz ⊢
       split at hz
       ·rename_i h;rw [if_pos h]
       ·rename_i h
        rw [if_neg h]
        split at hz
        ·simp at hz
        ·simp;exact hz
      exact ⟨g2.ext.weaken sub,g2.rel.weaken sub,g2.rep,g2.β,g2.τ⟩
    ·split at he
     ·rename_i hnl hy0
      simp only [Option.some.injEq] at he;subst he
      have hg:bQ P G w ρ o { v:=csl i.size xs }:=by
       refine aD ⟨_,same hy0,(Rep.canon (br:=1) ?_).1⟩
       rcases hcase with ⟨h0,rfl,rfl⟩ | ⟨bl,off,rfl,hnb,hle,hcs,h0,h3⟩
       ·exact .emp _ _ _ _ (.inl rfl)
       ·exact Rep.mk_sl (by omega) hs0 hlen hle hcs (by omega) (by omega)
      exact hg.does hW
     ·simp at he
  ·simp at he
 ·simp at he
end
end Go.Abs
