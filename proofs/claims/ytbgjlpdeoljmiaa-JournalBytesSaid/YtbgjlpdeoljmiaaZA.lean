/- A clean machine: plain values, own memory, and what each operation gives there. Definitions alone; no condition. -/
import Derived.WalkKit
import Derived.WalkLawsBesides
namespace Go.Proofs.Ytbgjlpdeoljmiaa
set_option linter.unusedSimpArgs false
set_option linter.unusedVariables false
open Go.RowKit

def rfP:Code→Array Tmp
 | .rangeFunc _ ps _ _=>ps
 | _=>#[]
def rfA:Code→Code
 | .rangeFunc _ _ a _=>a
 | _=>.skip
def rfB:Code→Code
 | .rangeFunc _ _ _ b=>b
 | _=>.skip
inductive Fl where
 | nil | zc | any
inductive PV where
 | int (k:IntKind) (n:Int)
 | bool (b:Bool)
 | str (s:ByteArray)
 | agg (cs:List PV)
 | sl (f:Fl) (sz:Nat) (es:List (List PV))
 | fn (f:Nat)
 | nilf
 | nilp
 | nilm
 | nili
 | ifc (t:Nat) (v:PV)
inductive AV where
 | pl (v:PV)
 | un
 | agg (cs:List AV)
 | tup (vs:List AV)
 | clo (f:Nat) (cs:List AV)
 | own (o:Nat)
 | vw (o off len:Nat)
 | bp (o off:Nat)
 | ep (o i off:Nat)
 | ip (cs:List PV) (off:Nat)
 | mp (o:Nat)
 | it (o:Nat)
 | yl (o:Nat)
inductive Ob where
 | box (t:Nat) (cs:List AV)
 | abox (t:Nat) (cs:List AV) (es:List PV)
 | row (fz:Bool) (sz:Nat) (es:List (List PV))
 | drow (sz:Nat) (es:List (List PV))
 | brow (e:Nat) (s:ByteArray)
 | map (kvs:List (PV×PV))
 | iter (o n:Nat) (seen:List Nat)
 | lp (c:Code) (st:LoopState) (pend:Option Code) (cs:List AV)
abbrev Hp:=List (Option Ob)


inductive TK where
 | int (k:IntKind) | bool | str | ptr (e:Nat) | sl (e:Nat) | arr (n e:Nat) | map (k e:Nat) | struct (fs:List (Nat×Nat)) | func | ifc | other
structure TI where
 k:TK
 size:Nat
 bytes:Nat
 zero:List PV
def TK.row:TK→Bool
 | .struct _ | .arr _ _=>true
 | _=>false


inductive Tr where
 | leaf
 | node (v:AV) (l r:Tr)
def Tr.get:Nat→Tr→Nat→AV
 | 0,_,_=>.un
 | _+1,.leaf,_=>.un
 | f+1,.node v l r,n=>bif Nat.beq n 0 then v else bif Nat.beq (n % 2) 1 then Tr.get f l (n / 2) else Tr.get f r (n / 2-1)
def Tr.put:Nat→Tr→Nat→AV→Tr
 | 0,t,_,_=>t
 | f+1,.leaf,n,x=>bif Nat.beq n 0 then .node x .leaf .leaf else bif Nat.beq (n % 2) 1 then .node .un (Tr.put f .leaf (n / 2) x) .leaf else .node .un .leaf (Tr.put f .leaf (n / 2-1) x)
 | f+1,.node v l r,n,x=>bif Nat.beq n 0 then .node x l r else bif Nat.beq (n % 2) 1 then .node v (Tr.put f l (n / 2) x) r else .node v l (Tr.put f r (n / 2-1) x)


def hget(H:Hp)(o:Nat):Option Ob:=match H[o]? with | some (some x)=>some x | _=>none
def alive(H:Hp)(o:Nat):Bool:=match hget H o with | some _=>true | none=>false
def hset(H:Hp)(o:Nat)(x:Option Ob):Hp:=H.set o x
def hput(H:Hp)(n:Nat)(x:Ob):Hp:=bif Nat.blt n H.length then H.set n (some x) else H++[some x]

def AV.cells:AV→List AV
 | .agg cs=>cs
 | .pl (.agg cs)=>cs.map .pl
 | v=>[v]
def PV.cells:PV→List PV
 | .agg cs=>cs
 | v=>[v]
def allPl:List AV→Option (List PV)
 | []=>some []
 | .pl p::r=>(allPl r).map (p::·)
 | _::_=>none
def mkAgg(cs:List AV):AV:=match allPl cs with | some ps=>.pl (.agg ps) | none=>.agg cs
def elems(H:Hp):AV→Option (Nat×List (List PV))
 | .pl (.sl _ sz es)=>some (sz,es)
 | .own o=>match hget H o with | some (.row _ sz es)=>some (sz,es) | _=>none
 | .vw o off len=>match hget H o with | some (.row _ sz es)=>bif Nat.ble (off+len) es.length then some (sz,(es.drop off).take len) else none | _=>none
 | _=>none
def plain1(H:Hp):AV→Option (PV×Hp)
 | .pl p=>some (p,H)
 | .own o=>match hget H o with | some (.row _ sz es)=>some (.sl .any sz es,hset H o (some (.row true sz es))) | _=>none
 | .vw o off len=>match hget H o with | some (.row _ sz es)=>bif Nat.ble (off+len) es.length then some (.sl .any sz ((es.drop off).take len),hset H o (some (.row true sz es))) else none | _=>none
 | .clo f []=>some (.fn f,H)
 | _=>none
def plainL(H:Hp):List AV→Option (List PV×Hp)
 | []=>some ([],H)
 | v::r=>match plain1 H v with
  | some (p,H1)=>match plainL H1 r with
   | some (ps,H2)=>some (p::ps,H2)
   | none=>none
  | none=>none
def plain(H:Hp):AV→Option (PV×Hp)
 | .agg cs=>match plainL H cs with | some (ps,H1)=>some (.agg ps,H1) | none=>none
 | v=>plain1 H v
def plains(H:Hp):List AV→Option (List PV×Hp)
 | []=>some ([],H)
 | v::r=>match plain H v with
  | some (p,H1)=>match plains H1 r with
   | some (ps,H2)=>some (p::ps,H2)
   | none=>none
  | none=>none
def meltO(H:Hp)(o:Nat):Hp:=match hget H o with | some (.drow sz es)=>hset H o (some (.row true sz es)) | _=>H
def melt(H:Hp):List Nat→Hp
 | []=>H
 | o::r=>melt (meltO H o) r
def isD(H:Hp)(o:Nat):Bool:=match hget H o with | some (.drow _ _)=>true | _=>false


mutual
def flatP:PV→Bool
 | .int _ _=>true
 | .bool _=>true
 | .str _=>true
 | .agg cs=>flatPL cs
 | _=>false
def flatPL:List PV→Bool
 | []=>true
 | c::r=>flatP c&&flatPL r
end
def Qbp(H:Hp):AV→Option (PV×Hp)
 | .pl (.sl .nil sz es)=>some (.sl .nil sz es,H)
 | .pl p=>bif flatP p then some (p,H) else none
 | .own o=>match hget H o with | some (.row false sz es)=>bif es.all flatPL then some (.sl .any sz es,hset H o none) else none | _=>none
 | _=>none
def Qbw(H:Hp):List AV→Option (List PV×Hp)
 | []=>some ([],H)
 | v::r=>match Qbp H v with
  | some (p,H1)=>match Qbw H1 r with
   | some (ps,H2)=>some (p::ps,H2)
   | none=>none
  | none=>none

def bit(m i:Nat):Bool:=Nat.beq (Nat.land (Nat.shiftRight m i) 1) 1
def ref1:AV→List Nat
 | .own o=>[o]
 | .vw o _ _=>[o]
 | .bp o _=>[o]
 | .ep o _ _=>[o]
 | .mp o=>[o]
 | .it o=>[o]
 | .yl o=>[o]
 | _=>[]
mutual
def refD:AV→List Nat
 | .agg cs=>Qag cs
 | .tup cs=>Qag cs
 | .clo _ cs=>Qag cs
 | .own o=>[o]
 | .vw o _ _=>[o]
 | .bp o _=>[o]
 | .ep o _ _=>[o]
 | .mp o=>[o]
 | .it o=>[o]
 | .yl o=>[o]
 | .pl _=>[]
 | .un=>[]
 | .ip _ _=>[]
def Qag:List AV→List Nat
 | []=>[]
 | c::r=>refD c++Qag r
end
def refC(v:AV):List Nat:=v.cells.flatMap ref1
def pls(H:Hp)(l:List AV):Option (List PV×Hp):=plains (melt H (l.flatMap refC)) l
def plainR(H:Hp):AV→Option AV
 | .tup vs=>match pls H vs with | some (ps,_)=>some (.tup (ps.map .pl)) | none=>none
 | v=>match plain (melt H (refC v)) v with | some (p,_)=>some (.pl p) | none=>none
def obRefs:Ob→List Nat
 | .box _ cs=>Qag cs
 | .abox _ cs _=>Qag cs
 | .lp _ _ _ cs=>Qag cs
 | .iter o _ _=>[o]
 | _=>[]
def Qal(H:Hp):Nat→Nat→List Nat→Nat
 | 0,F,_=>F
 | _+1,F,[]=>F
 | f+1,F,o::r=>bif bit F o then Qal H f F r else Qal H f (Nat.lor F (Nat.shiftLeft 1 o)) (match hget H o with | some x=>obRefs x++r | none=>r)
def maskH(F:Nat):Nat→Hp→Hp
 | _,[]=>[]
 | i,x::r=>(bif bit F i then x else none)::maskH F (i+1) r
def Qay(F:Nat):Nat→Hp→Hp→Hp
 | _,[],H'=>H'
 | _,_::_,[]=>[]
 | i,x::r,y::r'=>(bif bit F i then y else x)::Qay F (i+1) r r'
def inF(F n:Nat)(l:List Nat):Bool:=l.all fun o=>bit F o||Nat.ble n o
def Qbu(F n:Nat):Hp→Bool
 | []=>true
 | x::r=>(match x with | some b=>inF F n (obRefs b) | none=>true)&&Qbu F n r


def bytesLt:List UInt8→List UInt8→Bool
 | _,[]=>false
 | [],_::_=>true
 | a::x,b::y=>Nat.blt a.toNat b.toNat||(Nat.beq a.toNat b.toNat&&bytesLt x y)
def kindEq:IntKind→IntKind→Bool
 | .i8,.i8 | .i16,.i16 | .i32,.i32 | .i64,.i64 | .u8,.u8 | .u16,.u16 | .u32,.u32 | .u64,.u64=>true
 | _,_=>false
def eqF(T:Nat→Option TI)(eq:Nat→List PV→List PV→Option Bool):List (Nat×Nat)→List PV→List PV→Option Bool
 | [],_,_=>some true
 | (t,off)::fs,x,y=>match T t with
  | some ti=>bif Nat.ble (off+ti.size) x.length&&Nat.ble (off+ti.size) y.length then
    match eq t ((x.drop off).take ti.size) ((y.drop off).take ti.size) with
    | some true=>eqF T eq fs x y
    | some false=>some false
    | none=>none
   else none
  | none=>none
def eqP(T:Nat→Option TI):Nat→Nat→List PV→List PV→Option Bool
 | 0=>fun _ _ _=>none
 | d+1=>fun t x y=>match T t with
  | some ti=>match ti.k,x,y with
   | .int _,[.int k a],[.int k' b]=>bif kindEq k k' then some (decide (a=b)) else none
   | .bool,[.bool a],[.bool b]=>some (a == b)
   | .str,[.str a],[.str b]=>some (decide (a.data.toList=b.data.toList))
   | .struct fs,x,y=>eqF T (eqP T d) fs x y
   | _,_,_=>none
  | none=>none
def binI(op:BinOp)(k:IntKind)(x y:Int):Option PV :=
 match op with
 | .add=>some (.int k (k.wrap (x+y)))
 | .sub=>some (.int k (k.wrap (x-y)))
 | .mul=>some (.int k (k.wrap (x*y)))
 | .quo=>bif decide (y=0) then none else some (.int k (k.wrap (x.tdiv y)))
 | .rem=>bif decide (y=0) then none else some (.int k (x.tmod y))
 | .and=>some (.int k (k.wrap (BitVec.ofInt k.bits x &&& BitVec.ofInt k.bits y).toNat))
 | .or=>some (.int k (k.wrap (BitVec.ofInt k.bits x ||| BitVec.ofInt k.bits y).toNat))
 | .xor=>some (.int k (k.wrap (BitVec.ofInt k.bits x ^^^ BitVec.ofInt k.bits y).toNat))
 | .eql=>some (.bool (decide (x=y)))
 | .neq=>some (.bool (!decide (x=y)))
 | .lss=>some (.bool (decide (x<y)))
 | .leq=>some (.bool (decide (x≤y)))
 | .gtr=>some (.bool (decide (y<x)))
 | .geq=>some (.bool (decide (y≤x)))
 | _=>none
def shI(op:BinOp)(k:IntKind)(x y:Int):Option PV :=
 bif decide (y<0) then none else
 match op with
 | .shl=>some (.int k (k.wrap (x*2 ^ (min y.toNat k.bits))))
 | .shr=>some (.int k (x.fdiv (2 ^ (min y.toNat k.bits))))
 | _=>none
def binS(op:BinOp)(x y:ByteArray):Option PV :=
 match op with
 | .add=>bif Nat.ble (x.size+y.size) 9223372036854775807 then some (.str ⟨(x.data.toList++y.data.toList).toArray⟩) else none
 | .eql=>some (.bool (decide (x.data.toList=y.data.toList)))
 | .neq=>some (.bool (!decide (x.data.toList=y.data.toList)))
 | .lss=>some (.bool (bytesLt x.data.toList y.data.toList))
 | .leq=>some (.bool (bytesLt x.data.toList y.data.toList||decide (x.data.toList=y.data.toList)))
 | .gtr=>some (.bool !(bytesLt x.data.toList y.data.toList||decide (x.data.toList=y.data.toList)))
 | .geq=>some (.bool !(bytesLt x.data.toList y.data.toList))
 | _=>none
def oneP:PV→Bool
 | .agg _=>false
 | _=>true
def eqV(T:Nat→Option TI)(t:Nat)(p q:PV):Option Bool :=
 match T t with
 | none=>none
 | some ti => bif ti.k.row then (match p, q with | .agg x, .agg y => eqP T 20 t x y | _, _ => none)
  else bif oneP p&&oneP q then eqP T 20 t [p] [q] else none


def simp1:PV→Bool
 | .int _ _ | .bool _ | .str _=>true
 | _=>false
def keyF(T:Nat→Option TI)(rec:Nat→List PV→Bool):List (Nat×Nat)→List PV→Bool
 | [],_=>true
 | (t,off)::fs,x=>(match T t with | some ti=>Nat.ble (off+ti.size) x.length&&(ti.k.row||Nat.blt 0 ti.size)&&rec t ((x.drop off).take ti.size) | none=>false)&&keyF T rec fs x
def keyP(T:Nat→Option TI):Nat→Nat→List PV→Bool
 | 0=>fun _ _=>false
 | d+1=>fun t x=>match T t with
  | some ti=>match ti.k,x with
   | .int k,[.int k' _]=>kindEq k k'
   | .bool,[.bool _]=>true
   | .str,[.str _]=>true
   | .struct fs,x=>x.all simp1&&keyF T (keyP T d) fs x
   | _,_=>false
  | none=>false
def keyV(T:Nat→Option TI)(t:Nat)(p:PV):Bool :=
 match T t with
 | none=>false
 | some ti=>bif ti.k.row then (match p with | .agg x=>keyP T 20 t x | _=>false) else oneP p&&keyP T 20 t [p]
def eqC1:PV→PV→Bool
 | .int k a,.int k' b=>kindEq k k'&&decide (a=b)
 | .bool a,.bool b=>a == b
 | .str a,.str b=>decide (a.data.toList=b.data.toList)
 | _,_=>false
def eqCL:List PV→List PV→Bool
 | [],[]=>true
 | a::x,b::y=>eqC1 a b&&eqCL x y
 | _,_=>false
def eqC:PV→PV→Bool
 | .agg x,.agg y=>eqCL x y
 | .agg _,_=>false
 | _,.agg _=>false
 | a,b=>eqC1 a b

structure Cfg where
 ty:Nat→Option TI
 fn:Nat→Option Func
 byref:Nat→Bool
 ext:Nat→Option (List PV→Option AV)
 keep:Nat→Nat→Option (List Nat)
 deep:Nat→Bool

def evEq(C:Cfg)(H:Hp)(t:Nat)(x y:AV):Option Bool :=
 match C.ty t with
 | none=>none
 | some ti=>match ti.k,x,y with
  | .sl _,.pl (.sl .nil _ _),.pl (.sl .nil _ _)=>some true
  | .sl _,.pl (.sl _ _ (_::_)),.pl (.sl .nil _ _)=>some false
  | .sl _,.own o,.pl (.sl .nil _ _)=>match hget H o with | some (.row _ _ (_::_))=>some false | _=>none
  | .sl _,.vw o _ (_+1),.pl (.sl .nil _ _)=>match hget H o with | some (.row _ _ _)=>some false | _=>none
  | .func,.pl .nilf,.pl .nilf=>some true
  | .func,.pl (.fn _),.pl .nilf=>some false
  | .func,.clo _ _,.pl .nilf=>some false
  | .map _ _,.pl .nilm,.pl .nilm=>some true
  | .map _ _,.mp o,.pl .nilm=>match hget H o with | some (.map _)=>some false | _=>none
  | _,.pl p,.pl q=>eqV C.ty t p q
  | _,_,_=>none
def evBin(C:Cfg)(H:Hp)(op:BinOp)(t:Nat)(x y:AV):Option AV :=
 match op,x,y with
 | .shl,.pl (.int k a),.pl (.int _ b)=>(shI .shl k a b).map .pl
 | .shr,.pl (.int k a),.pl (.int _ b)=>(shI .shr k a b).map .pl
 | op,.pl (.int k a),.pl (.int k' b)=>bif kindEq k k' then (binI op k a b).map .pl else none
 | op,.pl (.str a),.pl (.str b)=>(binS op a b).map .pl
 | .eql,x,y=>(evEq C H t x y).map fun b=>.pl (.bool b)
 | .neq,x,y=>(evEq C H t x y).map fun b=>.pl (.bool !b)
 | _,_,_=>none
def evUn:UnOp→AV→Option AV
 | .neg,.pl (.int k n)=>some (.pl (.int k (k.wrap (0-n))))
 | .not,.pl (.bool b)=>some (.pl (.bool !b))
 | .xor,.pl (.int k n)=>(binI .xor k (if k.signed then -1 else k.max) n).map .pl
 | _,_=>none

def natOf(n:Int):Option Nat:=match n with | .ofNat k=>some k | .negSucc _=>none
def putAt{α:Type}(l:List α)(off:Nat)(xs:List α):Option (List α) :=
 bif Nat.ble (off+xs.length) l.length then some (l.take off++xs++l.drop (off+xs.length)) else none
def oneA:AV→Bool
 | .agg _ | .tup _ | .un=>false
 | .pl (.agg _)=>false
 | _=>true
def fillA:List (Nat×Nat)→List AV→List (Nat×AV)→Option (List AV)
 | _,cs,[]=>some cs
 | pl,cs,(i,v)::r=>match pl[i]? with
  | some (off,size)=>bif Nat.beq v.cells.length size&&v.cells.all oneA then match putAt cs off v.cells with | some cs'=>fillA pl cs' r | none=>none else none
  | none=>none
def fillE(sz:Nat)(H:Hp):List (List PV)→List (Nat×AV)→Option (List (List PV)×Hp)
 | es,[]=>some (es,H)
 | es,(i,v)::r=>match plain H v with
  | some (p,H1)=>bif Nat.beq p.cells.length sz&&Nat.blt i es.length then fillE sz H1 (es.set i p.cells) r else none
  | none=>none

def evLoad(C:Cfg)(H:Hp)(t:Nat)(p:AV):Option AV :=
 match C.ty t with
 | none=>none
 | some ti =>
  match p with
  | .bp o off=>match hget H o with
   | some (.box _ cs)=>bif ti.k.row then (bif Nat.ble (off+ti.size) cs.length then some (mkAgg ((cs.drop off).take ti.size)) else none) else cs[off]?
   | some (.abox _ cs es)=>bif ti.k.row then none else bif Nat.blt off cs.length then cs[off]? else (es[off-cs.length]?).map .pl
   | _=>none
  | .ep o i off=>match hget H o with
   | some (.row _ _ es)=>match es[i]? with
    | some c=>bif ti.k.row then (bif Nat.ble (off+ti.size) c.length then some (.pl (.agg ((c.drop off).take ti.size))) else none) else (c[off]?).map .pl
    | none=>none
   | _=>none
  | .ip c off=>bif ti.k.row then (bif Nat.ble (off+ti.size) c.length then some (.pl (.agg ((c.drop off).take ti.size))) else none) else (c[off]?).map .pl
  | _=>none
def putB(sz:Nat)(v:AV)(off:Nat)(cs:List AV)(es:List PV):Option (List AV×List PV) :=
 bif Nat.beq sz 1&&oneA v then
  bif Nat.blt off cs.length then some (cs.set off v,es) else
  (match v with | .pl q=>bif Nat.blt (off-cs.length) es.length then some (cs,es.set (off-cs.length) q) else none | _=>none) else none
def evStore(C:Cfg)(H:Hp)(t:Nat)(p v:AV):Option Hp :=
 match C.ty t with
 | none=>none
 | some ti =>
  match p with
  | .bp o off=>match hget H o with
   | some (.box bt cs)=>bif Nat.beq v.cells.length ti.size&&v.cells.all oneA then match putAt cs off v.cells with | some cs'=>some (hset H o (some (.box bt cs'))) | none=>none else none
   | some (.abox bt cs es)=>match putB ti.size v off cs es with | some r=>some (hset H o (some (.abox bt r.1 r.2))) | none=>none
   | _=>none
  | .ep o i off=>match plain H v with
   | some (q,H1)=>match hget H1 o with
    | some (.row false sz es)=>match es[i]? with
     | some c=>bif Nat.beq q.cells.length ti.size then match putAt c off q.cells with | some c'=>some (hset H1 o (some (.row false sz (es.set i c')))) | none=>none else none
     | none=>none
    | _=>none
   | none=>none
  | _=>none
def evField(C:Cfg)(t f:Nat):Option (Nat×Nat) :=
 match C.ty t with
 | some ti=>match ti.k with | .struct fs=>fs[f]? | _=>none
 | none=>none
def elemTy(C:Cfg)(t:Nat):Option TI:=match C.ty t with | some ti=>(match ti.k with | .sl e=>C.ty e | _=>none) | none=>none
def posSize(C:Cfg)(t:Nat):Bool:=match C.ty t with | some ti=>!(Nat.beq ti.size 0) | none=>false
def isAggA:AV→Bool
 | .agg _=>true
 | .pl (.agg _)=>true
 | _=>false
def Qae(C:Cfg)(H:Hp)(t:Nat)(x i:AV):Option AV :=
 match C.ty t,i with
 | some ti,.pl (.int _ n)=>match natOf n with
  | none=>none
  | some i=>match ti.k with
   | .sl e=>match C.ty e with
    | none=>none
    | some te=>match x with
     | .pl (.sl _ sz es)=>bif Nat.beq sz te.size then (es[i]?).map fun c=>.ip c 0 else none
     | .own o=>match hget H o with | some (.row _ sz es)=>bif Nat.beq sz te.size&&Nat.blt i es.length then some (.ep o i 0) else none | _=>none
     | .vw o off len=>match hget H o with | some (.row _ sz es)=>bif Nat.beq sz te.size&&(Nat.blt i len&&Nat.ble (off+len) es.length) then some (.ep o (off+i) 0) else none | _=>none
     | _=>none
   | .arr m e=>match C.ty e with
    | none=>none
    | some te=>bif Nat.blt i m then (match x with
     | .bp o off=>bif alive H o then some (.bp o (off+i*te.size)) else none
     | .ip c off=>some (.ip c (off+i*te.size))
     | .ep o j off=>bif alive H o then some (.ep o j (off+i*te.size)) else none
     | _=>none) else none
   | _=>none
 | _,_=>none
def evIndex(C:Cfg)(t:Nat)(x i:AV):Option AV :=
 match C.ty t,x,i with
 | some ti,.pl (.str s),.pl (.int _ n)=>match ti.k,natOf n with
  | .str,some i=>(s.data.toList[i]?).map fun b=>.pl (.int .u8 (b.toNat:Int))
  | _,_=>none
 | some ti,.pl (.agg cs),.pl (.int _ n)=>match ti.k,natOf n with
  | .arr m e,some i=>match C.ty e with
   | some te=>bif Nat.blt i m&&Nat.ble ((i+1)*te.size) cs.length then (bif te.k.row then some (.pl (.agg ((cs.drop (i*te.size)).take te.size))) else (cs[i*te.size]?).map .pl) else none
   | none=>none
  | _,_=>none
 | _,_,_=>none
def optNat:Option AV→Option (Option Nat)
 | none=>some none
 | some (.pl (.int _ n))=>(natOf n).map some
 | _=>none
def vwOf(o off n m:Nat)(lo hi:Option Nat):Option AV :=
 bif Nat.ble (lo.getD 0) (hi.getD n)&&Nat.ble (hi.getD n) m then some (.vw o (off+lo.getD 0) (hi.getD n-lo.getD 0)) else none
def takeO{α:Type}(n:Option Nat)(l:List α):List α:=match n with | some k=>l.take k | none=>l
def evSlice(C:Cfg)(H:Hp)(t:Nat)(x:AV)(lo hi mx:Option AV):Option AV :=
 match C.ty t,optNat lo,optNat hi,optNat mx with
 | some ti,some lo,some hi,some mx =>
  match ti.k with
  | .str=>match x,mx with
   | .pl (.str s),none=>bif Nat.ble (lo.getD 0) (hi.getD s.size)&&Nat.ble (hi.getD s.size) s.size then some (.pl (.str ⟨((s.data.toList.take (hi.getD s.size)).drop (lo.getD 0)).toArray⟩)) else none
   | _,_=>none
  | .sl e=>match C.ty e with
   | none=>none
   | some te=>match x,mx with
    | .pl (.sl .nil sz es),none=>bif Nat.beq (lo.getD 0) 0&&Nat.beq (hi.getD 0) 0 then some (.pl (.sl .nil sz es)) else none
    | .pl (.sl .nil sz es),some m=>bif Nat.beq (lo.getD 0) 0&&Nat.beq (hi.getD 1) 0&&Nat.beq m 0 then some (.pl (.sl .nil sz es)) else none
    | .pl (.sl _ sz es),none=>bif !(Nat.beq sz te.size) then none else
     bif Nat.ble (lo.getD 0) (hi.getD es.length)&&Nat.ble (hi.getD es.length) es.length then some (.pl (.sl .any sz ((takeO hi es).drop (lo.getD 0)))) else none
    | .pl (.sl _ sz es),some m=>bif Nat.beq (lo.getD 0) m&&Nat.beq (hi.getD (m+1)) m&&Nat.ble m es.length then some (.pl (.sl .zc sz [])) else none
    | .own o,none=>match hget H o with
     | some (.row _ sz es)=>bif Nat.beq sz te.size then vwOf o 0 es.length es.length lo hi else none
     | _=>none
    | .own o,some m=>match hget H o with
     | some (.row _ sz es)=>bif Nat.beq (lo.getD 0) m&&Nat.beq (hi.getD (m+1)) m&&Nat.ble m es.length then some (.pl (.sl .zc sz [])) else none
     | _=>none
    | .vw o off len,none=>match hget H o with
     | some (.row _ sz es)=>bif Nat.beq sz te.size&&Nat.ble off es.length then vwOf o off len (es.length-off) lo hi else none
     | _=>none
    | _,_=>none
  | _=>none
 | _,_,_,_=>none

def arPl:List AV→Option (List PV)
 | []=>some []
 | .pl p::r=>(match arPl r with | some l=>some (p::l) | none=>none)
 | _=>none
def evSliceA(C:Cfg)(H:Hp)(t:Nat)(x:AV)(lo hi mx:Option AV):Option (AV×Hp) :=
 match x,mx with
 | .bp o i,none=>match C.ty t,optNat lo,optNat hi,hget H o with
  | some ti,some lo,some hi,some (.box _ cs)=>match ti.k with
   | .arr m e=>match C.ty e,arPl cs with
    | some te,some ps=>bif Nat.beq i 0&&Nat.beq te.size 1&&Nat.beq ps.length m&&Nat.ble m maxLen&&Nat.ble (lo.getD 0) (hi.getD m)&&Nat.ble (hi.getD m) m then
     some (.pl (.sl .any 1 (((takeO hi ps).drop (lo.getD 0)).map fun p=>[p])),hset H o none) else none
    | _,_=>none
   | _=>none
  | _,_,_,_=>none
 | _,_=>none
def isBp:AV→Bool
 | .bp _ _=>true
 | _=>false
abbrev Outs(α:Type):=Option (List α)

def mfind(T:Nat→Option TI)(kt:Nat)(k:PV):List (PV×PV)→Nat→Option (Option (Nat×PV))
 | [],_=>some none
 | (q,v)::r,i=>match eqV T kt k q with
  | some true=>some (some (i,v))
  | some false=>mfind T kt k r (i+1)
  | none=>none
def zeroOf(C:Cfg)(t:Nat):Option PV:=match C.ty t with | some ti=>bif ti.k.row then some (.agg ti.zero) else (match ti.zero with | [z]=>some z | _=>none) | none=>none
def mapOf(H:Hp):AV→Option (List (PV×PV))
 | .pl .nilm=>some []
 | .mp o=>match hget H o with | some (.map kvs)=>some kvs | _=>none
 | _=>none
def mapTy(C:Cfg)(t:Nat):Option (Nat×Nat):=match C.ty t with | some ti=>(match ti.k with | .map k e=>some (k,e) | _=>none) | none=>none
def Qcp(C:Cfg)(H:Hp)(t:Nat)(x k:AV)(ok:Bool):Option AV :=
 match mapTy C t,k,mapOf H x with
 | some (kt,e),.pl k,some kvs=>bif keyV C.ty kt k then (match mfind C.ty kt k kvs 0 with
   | some (some (_,v))=>some (bif ok then .tup [.pl v,.pl (.bool true)] else .pl v)
   | some none=>(match zeroOf C e with | some z=>some (bif ok then .tup [.pl z,.pl (.bool false)] else .pl z) | none=>none)
   | none=>none) else none
 | _,_,_=>none
def mset(T:Nat→Option TI)(kt:Nat)(k v:PV)(kvs:List (PV×PV)):Option (List (PV×PV)) :=
 bif keyV T kt k then (match mfind T kt k kvs 0 with
  | some (some (i,_))=>(match kvs[i]? with | some (q,_)=>bif eqC k q then some (kvs.set i (q,v)) else none | none=>none)
  | some none=>some (kvs++[(k,v)])
  | none=>none) else none
def Qbr(C:Cfg)(H:Hp)(t:Nat)(x k v:AV):Option Hp :=
 match mapTy C t,x,k,plain H v with
 | some (kt,_),.mp o,.pl k,some (v,H1)=>(match hget H1 o with
  | some (.map kvs)=>(match mset C.ty kt k v kvs with | some kvs'=>some (hset H1 o (some (.map kvs'))) | none=>none)
  | _=>none)
 | _,_,_,_=>none
def ment(C:Cfg)(kt e:Nat)(k:PV)(kvs:List (PV×PV)):Option (PV×Nat×List (PV×PV)) :=
 bif keyV C.ty kt k then (match mfind C.ty kt k kvs 0 with
  | some (some (i,v))=>(match kvs[i]? with | some (q,_)=>bif eqC k q then some (v,i,kvs) else none | none=>none)
  | some none=>(match zeroOf C e with | some z=>some (z,kvs.length,kvs++[(k,z)]) | none=>none)
  | none=>none) else none
def Qbb(C:Cfg)(H:Hp)(t:Nat)(x k:AV):Option (AV×Hp) :=
 match mapTy C t,x,k with
 | some (kt,e),.mp o,.pl k=>(match hget H o with
  | some (.map kvs)=>(match ment C kt e k kvs with | some (v,i,kvs')=>some (.tup [.pl v,.pl (.int .i64 (i:Int))],hset H o (some (.map kvs'))) | none=>none)
  | _=>none)
 | _,_,_=>none
def Qcb(H:Hp)(x s v:AV):Option Hp :=
 match x,s,plain H v with
 | .mp o,.pl (.int _ n),some (v,H1)=>(match hget H1 o,natOf n with
  | some (.map kvs),some i=>(match kvs[i]? with
   | some (k,_)=>some (hset H1 o (some (.map (kvs.set i (k,v)))))
   | none=>none)
  | _,_=>none)
 | _,_,_=>none
def evRange(C:Cfg)(nid:Nat)(H:Hp)(t:Nat):AV→Option (AV×Hp)
 | .mp o=>(match mapTy C t,hget H o with | some _,some (.map kvs)=>some (.it nid,hput H nid (.iter o kvs.length [])) | _,_=>none)
 | _=>none
def evEntry(H:Hp):AV→Option AV
 | .it i=>match hget H i with
  | some (.iter o n seen)=>(match hget H o,seen.getLast? with
   | some (.map kvs),some j=>bif Nat.beq kvs.length n then (match kvs[j]? with | some (k,v)=>some (.tup [.pl k,.pl v]) | none=>none) else none
   | _,_=>none)
  | _=>none
 | _=>none
def evNext(H:Hp):AV→Outs (AV×Hp)
 | .it i=>match hget H i with
  | some (.iter o n seen)=>(match hget H o with
   | some (.map kvs)=>bif Nat.beq kvs.length n then
     (match (List.range n).filter (fun j=>!(seen.any (Nat.beq j))) with
      | []=>some [(.tup [.pl (.bool false)],H)]
      | l=>some (l.map fun j=>match kvs[j]? with | some (k,v)=>(.tup [.pl (.bool true),.pl k,.pl v],hset H i (some (.iter o n (seen++[j])))) | none=>(.un,H)))
    else none
   | _=>none)
  | _=>none
 | _=>none


def Qbf(H:Hp):AV→Option (List (List PV))
 | .pl (.str s)=>some (s.data.toList.map fun b=>[.int .u8 (b.toNat:Int)])
 | v=>(elems H v).map (·.2)
def Qbg(n:Nat)(te:TI):Bool:=Nat.ble (n*te.bytes) 140737488355328&&Nat.ble n 9223372036854775807
def srcTy(C:Cfg)(t:Nat):AV→Bool
 | .pl (.str _)=>match C.ty t with | some ti=>(match ti.k with | .str=>true | _=>false) | none=>false
 | _=>match C.ty t with | some ti=>(match ti.k with | .sl _=>true | _=>false) | none=>false
def Qbo(C:Cfg)(nid:Nat)(H:Hp)(t t1:Nat)(x y:AV):Option (AV×Hp) :=
 match C.ty t,bif srcTy C t1 y then Qbf H y else none with
 | some ti,some news=>match ti.k with
  | .sl e=>match C.ty e with
   | none=>none
   | some te=>bif !(news.all fun c=>Nat.beq c.length te.size)||Nat.beq te.size 0 then none else
    match news with
    | []=>match x with | .pl (.sl f sz es)=>some (.pl (.sl f sz es),H) | .own o=>(match hget H o with | some (.row _ _ _)=>some (.own o,H) | _=>none) | .vw o a n=>(match hget H o with | some (.row _ _ _)=>some (.vw o a n,H) | _=>none) | _=>none
    | _::_ =>
     match x with
     | .pl (.sl .nil _ [])=>bif Qbg news.length te then some (.own nid,hput H nid (.row false te.size news)) else none
     | .pl (.sl .zc _ [])=>bif Qbg news.length te then some (.own nid,hput H nid (.row false te.size news)) else none
     | .own o=>match hget H o with
      | some (.row false sz es)=>bif Qbg (es.length+news.length) te&&Nat.beq sz te.size then some (.own nid,hput (hset H o none) nid (.row false sz (es++news))) else none
      | _=>none
     | .vw o off len=>match hget H o with
      | some (.row false sz es) =>
       bif !(Qbg (len+news.length) te&&Nat.beq sz te.size) then none
       else bif Nat.ble (off+len+news.length) es.length then some (.vw o off (len+news.length),hset H o (some (.row false sz (es.take (off+len)++news++es.drop (off+len+news.length)))))
       else bif Nat.beq (off+len) es.length then some (.own nid,hput (hset H o none) nid (.row false sz (es.drop off++news)))
       else none
      | _=>none
     | _=>none
  | _=>none
 | _,_=>none
def drowOf(H:Hp):AV→Option (Nat×Nat×List (List PV))
 | .own o=>match hget H o with | some (.drow sz es)=>some (o,sz,es) | _=>none
 | _=>none
def evAppendD(C:Cfg)(nid:Nat)(H:Hp)(t t1:Nat)(x y:AV)(o2 sz2:Nat)(news:List (List PV)):Option (AV×Hp) :=
 match C.ty t with
 | some ti=>match ti.k with
  | .sl e=>match C.ty e with
   | some te=>bif !(Nat.beq sz2 te.size&&srcTy C t1 y)||Nat.beq te.size 0 then none else
    match news,x with
    | _::_,.pl (.sl .nil _ [])=>bif Qbg news.length te then some (.own nid,hput (hset H o2 none) nid (.drow sz2 news)) else none
    | _::_,.own o=>match hget H o with
     | some (.drow sz es)=>bif !(Nat.beq o o2)&&(Nat.beq sz sz2&&Qbg (es.length+news.length) te) then some (.own nid,hput (hset (hset H o none) o2 none) nid (.drow sz2 (es++news))) else none
     | _=>none
    | _,_=>none
   | none=>none
  | _=>none
 | none=>none
def isDrow(H:Hp):AV→Bool
 | .pl (.sl .nil _ _)=>true
 | .own o=>match hget H o with | some (.drow _ _)=>true | _=>false
 | _=>false
def Qbv(C:Cfg)(nid:Nat)(H:Hp)(t t1:Nat)(x y:AV):Option (AV×Hp) :=
 match drowOf H y with
 | some (o2,sz2,news)=>bif isDrow H x then evAppendD C nid H t t1 x y o2 sz2 news else
  Qbo C nid (meltO H o2) t t1 x y
 | none=>Qbo C nid H t t1 x y
def rowPut(es:List (List PV))(off:Nat)(news:List (List PV)):List (List PV):=es.take off++news++es.drop (off+news.length)
def rowOf(H:Hp):AV→Option (Nat×Nat×Nat×Nat×List (List PV))
 | .own o=>match hget H o with | some (.row false sz es)=>some (o,0,es.length,sz,es) | _=>none
 | .vw o off len=>match hget H o with | some (.row false sz es)=>bif Nat.ble (off+len) es.length then some (o,off,len,sz,es) else none | _=>none
 | _=>none
def evCopy(C:Cfg)(H:Hp)(t t1:Nat)(x y:AV):Option (AV×Hp) :=
 match bif srcTy C t1 y then Qbf H y else none,elemTy C t with
 | some src,some te=>bif !(src.all fun c=>Nat.beq c.length te.size)||Nat.beq te.size 0 then none else match x with
  | .pl (.sl _ _ [])=>some (.pl (.int .i64 0),H)
  | x=>match rowOf H x with
   | some (o,off,len,sz,es)=>bif Nat.beq sz te.size then some (.pl (.int .i64 (Nat.min src.length len:Nat)),hset H o (some (.row false sz (rowPut es off (src.take (Nat.min src.length len)))))) else none
   | none=>none
 | _,_=>none
def evClear(C:Cfg)(H:Hp)(t:Nat)(x:AV):Option (AV×Hp) :=
 match elemTy C t with
 | some te=>bif Nat.beq te.size 0 then none else match x with
  | .pl (.sl _ _ [])=>some (.tup [],H)
  | x=>match rowOf H x with
   | some (o,off,len,sz,es)=>bif Nat.beq sz te.size then some (.tup [],hset H o (some (.row false sz (rowPut es off (List.replicate len te.zero))))) else none
   | none=>none
 | none=>none
def minI:List AV→Option AV
 | [.pl (.int k a),.pl (.int _ b)]=>some (.pl (.int k (bif decide (b<a) then b else a)))
 | _=>none
def maxI:List AV→Option AV
 | [.pl (.int k a),.pl (.int _ b)]=>some (.pl (.int k (bif decide (a<b) then b else a)))
 | _=>none
def lenA(C:Cfg)(H:Hp)(t:Nat)(x:AV):Option Nat :=
 match C.ty t with
 | none=>none
 | some ti=>match ti.k with
  | .str=>match x with | .pl (.str s)=>some s.size | _=>none
  | .map _ _=>match x with
   | .pl .nilm=>some 0
   | .mp o=>match hget H o with | some (.map kvs)=>some kvs.length | _=>none
   | _=>none
  | .sl _=>match x with
   | .pl (.sl _ _ es)=>some es.length
   | .own o=>match hget H o with | some (.row _ _ es)=>some es.length | _=>none
   | .vw o _ len=>bif alive H o then some len else none
   | _=>none
  | .arr n _=>some n
  | _=>none
def Qax(C:Cfg)(nid:Nat)(H:Hp)(b:Builtin)(ts:List Nat)(args:List AV):Option (AV×Hp) :=
 match b,ts,args with
 | .len,[t],[x]=>(lenA C H t x).map fun n=>(.pl (.int .i64 (n:Int)),H)
 | .append,[t,t1],[x,y]=>Qbv C nid H t t1 x y
 | .copy,[t,t1],[x,y]=>evCopy C H t t1 x y
 | .clear,[t],[x]=>evClear C H t x
 | .min,_,l=>(minI l).map fun v=>(v,H)
 | .max,_,l=>(maxI l).map fun v=>(v,H)
 | _,_,_=>none

def bytesOf:List (List PV)→Option (List UInt8)
 | []=>some []
 | [.int .u8 n]::r=>(bytesOf r).map (UInt8.ofNat n.toNat::·)
 | _::_=>none

def cst:Value→AV
 | .int k n=>.pl (.int k n)
 | .bool b=>.pl (.bool b)
 | .string s=>.pl (.str s)
 | .nilFunc=>.pl .nilf
 | .pointer none=>.pl .nilp
 | .map none=>.pl .nilm
 | .nilIface=>.pl .nili
 | .slice none 0 0=>.pl (.sl .nil 0 [])
 | _=>.un
def val(s:Tr):Operand→AV
 | .tmp t=>s.get 12 t
 | .const v=>cst v
 | .func f=>.pl (.fn f)
 | .global _=>.un
def evConv(C:Cfg)(s d:Nat)(a:AV):Option AV :=
 match C.ty s,C.ty d,a with
  | some _,some td,.pl (.int _ n)=>match td.k with | .int k=>some (.pl (.int k (k.wrap n))) | _=>none
  | some _,some td,.pl (.str b)=>match td.k with
   | .str=>some (.pl (.str b))
   | .sl e=>match C.ty e with
    | some te=>match te.k with
     | .int .u8=>bif Nat.ble b.size 9223372036854775807&&Nat.beq te.size 1 then some (.pl (.sl .any 1 (b.data.toList.map fun c=>[.int .u8 (c.toNat:Int)]))) else none
     | _=>none
    | none=>none
   | _=>none
  | some ts,some td,.pl (.sl _ sz es)=>match td.k,ts.k with
   | .str,.sl e=>match C.ty e with
    | some te=>match te.k,bytesOf es with
     | .int .u8,some bs=>bif Nat.beq sz 1 then some (.pl (.str ⟨bs.toArray⟩)) else none
     | _,_=>none
    | none=>none
   | _,_=>none
  | _,_,_=>none
def viewP(H:Hp):AV→AV
 | .own o=>(match elems H (.own o) with | some (sz,es)=>.pl (.sl .any sz es) | none=>.un)
 | v=>v
def evBuild(C:Cfg)(nid:Nat)(H:Hp)(t n:Nat)(l:List (Nat×AV)):Option (AV×Hp) :=
 match C.ty t with
 | some ti=>match ti.k with
  | .sl e=>match C.ty e with
   | some te=>match bif Nat.ble (n*te.size) 16777216&&!(Nat.beq te.size 0) then fillE te.size H (List.replicate n te.zero) l else none with
    | some (es,H1)=>some (.own nid,hput H1 nid (.row false te.size es))
    | none=>none
   | none=>none
  | _=>none
 | none=>none
def Qcw(C:Cfg)(nid:Nat)(H:Hp)(t:Nat):Nat→List (Nat×AV)→Option (AV×Hp)
 | 1,[(0,x)]=>match C.ty t with
  | some ti=>match ti.k with
   | .sl e=>match C.ty e with
    | some te=>bif Nat.ble te.size 16777216&&(!(Nat.beq te.size 0)&&x.cells.all oneA) then (match Qbw H x.cells with
     | some (ps,H1)=>bif Nat.beq ps.length te.size then some (.own nid,hput H1 nid (.drow te.size [ps])) else none
     | none=>none) else none
    | none=>none
   | _=>none
  | none=>none
 | _,_=>none
def evBuildS(C:Cfg)(nid:Nat)(H:Hp)(t n:Nat)(l:List (Nat×AV)):Option (AV×Hp) :=
 match bif C.deep t then Qcw C nid H t n l else none with
 | some r=>some r
 | none=>evBuild C nid H t n l
def Ql(C:Cfg)(nid:Nat)(ρ:Operand→AV)(H:Hp):Op→Option (AV×Hp)
 | .move x | .assign x=>some (ρ x,H)
 | .pick c a b=>match ρ c with | .pl (.bool t)=>some (bif t then ρ a else ρ b,H) | _=>none
 | .alloc e=>match C.ty e with | some ti=>some (.bp nid 0,hput H nid (.box e (ti.zero.map .pl))) | none=>none
 | .box e x=>bif (ρ x).cells.all oneA then some (.bp nid 0,hput H nid (.box e (ρ x).cells)) else none
 | .build t ps=>match C.ty t with
  | some ti=>match ti.k with
   | .struct fs=>match fs.mapM fun f=>(C.ty f.1).map fun tf=>(f.2,tf.size) with
    | some pl=>(fillA pl (ti.zero.map .pl) (ps.toList.map fun p=>(p.1,ρ p.2))).map fun cs=>(mkAgg cs,H)
    | none=>none
   | .arr n e=>match C.ty e with
    | some te=>(fillA ((List.range n).map fun i=>(i*te.size,te.size)) (ti.zero.map .pl) (ps.toList.map fun p=>(p.1,ρ p.2))).map fun cs=>(mkAgg cs,H)
    | none=>none
   | _=>none
  | none=>none
 | .buildSlice t n ps=>evBuildS C nid H t n (ps.toList.map fun p=>(p.1,ρ p.2))
 | .load t p=>(evLoad C H t (ρ p)).map fun v=>(v,H)
 | .store t p v=>(evStore C H t (ρ p) (ρ v)).map fun H1=>(.tup [],H1)
 | .nilCheck x=>match ρ x with
  | .pl (.fn f)=>some (.pl (.fn f),H)
  | .clo f cs=>some (.clo f cs,H)
  | .bp o i=>bif alive H o then some (.bp o i,H) else none
  | .ep o i j=>bif alive H o then some (.ep o i j,H) else none
  | .ip c i=>some (.ip c i,H)
  | _=>none
 | .binOp op t x y _=>(evBin C H op t (ρ x) (ρ y)).map fun v=>(v,H)
 | .unOp op _ x=>(evUn op (ρ x)).map fun v=>(v,H)
 | .convert s d x=>(evConv C s d (viewP H (ρ x))).map fun v=>(v,H)
 | .makeFunc (.func f) first cs=>bif first.isEmpty then (match cs.toList.map ρ with | []=>some (.pl (.fn f),H) | vs=>some (.clo f vs,H)) else none
 | .makeMap _ none=>some (.mp nid,hput H nid (.map []))
 | .makeSlice t l c=>match C.ty t,ρ l,ρ c with
  | some ti,.pl (.int _ n),.pl (.int _ m)=>match ti.k,natOf n with
   | .sl e,some n=>match C.ty e with
    | some te=>bif decide (m=(n:Int))&&Qbg n te&&!(Nat.beq te.size 0) then some (.own nid,hput H nid (.row false te.size (List.replicate n te.zero))) else none
    | none=>none
   | _,_=>none
  | _,_,_=>none
 | .slice t x lo hi mx=>bif isBp (ρ x) then evSliceA C H t (ρ x) (lo.map ρ) (hi.map ρ) (mx.map ρ) else (evSlice C H t (ρ x) (lo.map ρ) (hi.map ρ) (mx.map ρ)).map fun v=>(v,H)
 | .fieldAddr t x f=>match evField C t f with
  | some (ft,off)=>bif posSize C ft then (match ρ x with
   | .bp o i=>bif alive H o then some (.bp o (i+off),H) else none
   | .ep o j i=>bif alive H o then some (.ep o j (i+off),H) else none
   | .ip c i=>some (.ip c (i+off),H)
   | _=>none) else none
  | none=>none
 | .field t x f=>match evField C t f with
  | some (ft,off)=>match C.ty ft with
   | some tf=>bif Nat.ble (off+tf.size) (ρ x).cells.length&&isAggA (ρ x)&&!(Nat.beq tf.size 0) then (bif tf.k.row then some (mkAgg (((ρ x).cells.drop off).take tf.size),H) else ((ρ x).cells[off]?).map fun v=>(v,H)) else none
   | none=>none
  | none=>none
 | .indexAddr t x i=>(Qae C H t (ρ x) (ρ i)).map fun v=>(v,H)
 | .index t x i=>(evIndex C t (ρ x) (ρ i)).map fun v=>(v,H)
 | .lookup t x k ok=>(Qcp C H t (ρ x) (ρ k) ok).map fun v=>(v,H)
 | .mapUpdate t m k v | .insert t m k v=>(Qbr C H t (ρ m) (ρ k) (ρ v)).map fun H1=>(.tup [],H1)
 | .mapEntry t m k=>Qbb C H t (ρ m) (ρ k)
 | .entryStore _ m s v=>(Qcb H (ρ m) (ρ s) (ρ v)).map fun H1=>(.tup [],H1)
 | .range t x=>evRange C nid H t (ρ x)
 | .entry it=>(evEntry H (ρ it)).map fun v=>(v,H)
 | .extract t i=>match ρ t with | .tup vs=>(vs[i]?).map fun v=>(v,H) | _=>none
 | .call c=>match c.callee with
  | .builtin b=>Qax C nid H b c.argTypes.toList (c.args.toList.map ρ)
  | _=>none
 | _=>none

def flatO{α β:Type}(f:α→Outs β):List α→Outs β
 | []=>some []
 | x::l=>match f x with
  | some a=>match flatO f l with | some b=>some (a++b) | none=>none
  | none=>none
def bindO{α β:Type}(x:Outs α)(f:α→Outs β):Outs β :=
 match x with
 | none=>none
 | some [a]=>f a
 | some l=>flatO f l
def evShared(call:Bool→Nat→List AV→Hp→Outs (AV×Hp))(k:Nat)(args:List AV)(H:Hp)(F:Nat):Outs (AV×Hp) :=
 match call true k args (maskH F 0 H) with
 | some l=>bif l.all (fun r=>inF F H.length (refD r.1)&&Qbu F H.length r.2&&Nat.ble H.length r.2.length) then some (l.map fun r=>(r.1,Qay F 0 H r.2)) else none
 | none=>none
def flatT:List AV→Bool
 | []=>true
 | .pl p::r=>flatP p&&flatT r
 | _=>false
def flatA:AV→Bool
 | .pl p=>flatP p
 | .tup vs=>flatT vs
 | _=>false
def Qcl(C:Cfg)(call:Bool→Nat→List AV→Hp→Outs (AV×Hp))(k:Nat)(args:List AV)(H:Hp):Outs (AV×Hp) :=
 match C.ext k with
 | some f=>match pls H args with
  | some (ps,H1)=>match f ps with | some r=>some [(r,H1)] | none=>none
  | none=>none
 | none=>bif C.byref k then evShared call k args H (Qal H 100000 0 (Qag args)) else
  match pls H args with
  | some (ps,H1)=>match call false k (ps.map .pl) [] with
   | some l=>some (l.map fun r=>(r.1,bif flatA r.1 then H else H1))
   | none=>none
  | none=>evShared call k args H (Qal H 100000 0 (Qag args))
def evOp(C:Cfg)(call:Bool→Nat→List AV→Hp→Outs (AV×Hp))(nid:Nat)(ρ:Operand→AV)(H:Hp)(op:Op):Outs (AV×Hp) :=
 match op with
 | .call c=>match c.callee with
  | .value f=>match ρ f with
   | .pl (.fn k)=>Qcl C call k (c.args.toList.map ρ) H
   | .clo k cs=>Qcl C call k (c.args.toList.map ρ++cs) H
   | _=>none
  | _=>match Ql C nid ρ H op with | some r=>some [r] | none=>none
 | .next it false=>evNext H (ρ it)
 | op=>match Ql C nid ρ H op with | some r=>some [r] | none=>none


def putO(n:Nat)(s:Tr)(d:Option Nat)(v:AV):Tr:=match d with | some d=>bif Nat.blt d n then s.put 12 d v else s | none=>s
def dstOf(ops:List Oper)(j:Nat):Option Nat:=match ops[j]? with | some o=>o.dst | none=>none
def want(ops:List Oper)(s:Tr):Option (Nat×Bool)→Option Bool
 | none=>some true
 | some (j,b)=>match dstOf ops j with
  | some t=>match s.get 12 t with
   | .pl (.bool c)=>some (c == b)
   | .tup []=>some false
   | _=>none
  | none=>none
def bindsAny(e:Edge):Bool:=match e.ground with | .textOnly _=>false | .gcOnly _=>false | _=>true
def orBit(m i:Nat):Nat:=Nat.lor m (Nat.shiftLeft 1 i)
def needL:List Edge→Nat
 | []=>0
 | e::r=>bif bindsAny e then orBit (needL r) e.on else needL r
structure It where
 i:Nat
 need:Nat
 anc:Nat
 nid:Nat
 o:Oper
def items:Nat→List Oper→List It
 | _,[]=>[]
 | i,o::r=>⟨i,needL o.after.toList,0,0,o⟩::items (i+1) r
def takeReady(done:Nat):List It→Option (It×List It)
 | []=>none
 | x::r=>bif Nat.beq (Nat.land x.need done) x.need then some (x,r) else match takeReady done r with
  | some (y,r')=>some (y,x::r')
  | none=>none
def Qcz:Op→Bool
 | .alloc _ | .box .. | .buildSlice .. | .makeSlice .. | .makeMap .. | .range ..=>true
 | .call c=>match c.callee with | .builtin .append=>true | _=>false
 | _=>false
def ancOf(need:Nat):List (Nat×Nat)→Nat
 | []=>need
 | (j,a)::r=>bif bit need j then Nat.lor a (ancOf need r) else ancOf need r
def plan:Nat→Nat→Nat→List (Nat×Nat)→List It→Option (List It)
 | _,_,_,_,[]=>some []
 | 0,_,_,_,_=>none
 | f+1,done,k,tbl,l=>match takeReady done l with
  | none=>none
  | some (x,r)=>match plan f (orBit done x.i) (bif Qcz x.o.op then k+1 else k) ((x.i,ancOf x.need tbl)::tbl) r with
   | some L=>some (⟨x.i,x.need,ancOf x.need tbl,k,x.o⟩::L)
   | none=>none
def countNew:List Oper→Nat
 | []=>0
 | o::r=>bif Qcz o.op then countNew r+1 else countNew r
inductive Fp where
 | rd (R:List Nat)
 | wr (Z W:List Nat)
 | sh (F n:Nat)
 | all
def outF(F n:Nat)(l:List Nat):Bool:=l.all fun o=>!(bit F o)&&Nat.blt o n
def disj(a b:List Nat):Bool:=a.all fun x=>b.all fun y=>!(Nat.beq x y)
def okF:Fp→Fp→Bool
 | .rd _,.rd _=>true
 | .rd R,.wr _ W=>disj R W
 | .wr _ W,.rd R=>disj R W
 | .wr Z W,.wr Z' W'=>disj (Z++W) (Z'++W')
 | .rd R,.sh F n=>outF F n R
 | .sh F n,.rd R=>outF F n R
 | .wr Z W,.sh F n=>outF F n (Z++W)
 | .sh F n,.wr Z W=>outF F n (Z++W)
 | .all,.rd []=>true
 | .rd [],.all=>true
 | _,_=>false
def Qau(C:Cfg)(H:Hp)(k:Nat)(args:List AV):Fp :=
 bif C.byref k then .sh (Qal H 100000 0 (Qag args)) H.length else bif (args.flatMap refC).any (isD H) then .all else match plains H args with
  | some _=>.wr (args.flatMap refC) []
  | none=>.all
def foot(C:Cfg)(nid:Nat)(ρ:Operand→AV)(H:Hp)(op:Op):Fp :=
 match op with
 | .alloc _=>.wr [] [nid]
 | .box ..=>.wr [] [nid]
 | .makeSlice ..=>.wr [] [nid]
 | .buildSlice t _ ps=>bif C.deep t then .wr [] (nid::ps.toList.flatMap fun p=>refC (ρ p.2)) else .wr (ps.toList.flatMap fun p=>refC (ρ p.2)) [nid]
 | .store _ p v=>.wr (refC (ρ v)) (ref1 (ρ p))
 | .move _=>.rd []
 | .assign _=>.rd []
 | .pick ..=>.rd []
 | .build ..=>.rd []
 | .unOp ..=>.rd []
 | .makeFunc ..=>.rd []
 | .field ..=>.rd []
 | .index ..=>.rd []
 | .extract ..=>.rd []
 | .makeMap ..=>.wr [] [nid]
 | .mapUpdate _ m _ v=>.wr (refC (ρ v)) (ref1 (ρ m))
 | .insert _ m _ v=>.wr (refC (ρ v)) (ref1 (ρ m))
 | .mapEntry _ m _=>.wr [] (ref1 (ρ m))
 | .entryStore _ m _ v=>.wr (refC (ρ v)) (ref1 (ρ m))
 | .slice t x lo hi mx=>bif isBp (ρ x) then .all else .rd ((Op.slice t x lo hi mx).operands.toList.flatMap fun x=>ref1 (ρ x))
 | .range ..=>.all
 | .next ..=>.all
 | .entry ..=>.all
 | .call c=>match c.callee with
  | .builtin .append=>.wr [] (nid::c.args.toList.flatMap fun x=>ref1 (ρ x))
  | .builtin .len=>.rd (c.args.toList.flatMap fun x=>ref1 (ρ x))
  | .builtin .min=>.rd []
  | .builtin .max=>.rd []
  | .builtin .copy=>.wr [] (c.args.toList.flatMap fun x=>ref1 (ρ x))
  | .builtin .clear=>.wr [] (c.args.toList.flatMap fun x=>ref1 (ρ x))
  | .value f=>match ρ f with
   | .pl (.fn k)=>Qau C H k (c.args.toList.map ρ)
   | .clo k cs=>Qau C H k (c.args.toList.map ρ++cs)
   | _=>.all
  | _=>.all
 | op=>.rd (op.operands.toList.flatMap fun x=>ref1 (ρ x))
def okLen(H H':Hp):Fp→Bool
 | .all=>Nat.ble H.length H'.length
 | .sh _ _=>Nat.ble H.length H'.length
 | _=>true
def stepD(C:Cfg)(call:Bool→Nat→List AV→Hp→Outs (AV×Hp))(n:Nat)(ops:List Oper)(base:Nat)(x:It)(st:Tr×Hp):Option ((Tr×Hp)×Fp) :=
 match want ops st.1 x.o.guard with
 | none=>none
 | some false=>some ((putO n st.1 x.o.dst (.tup []),st.2),.rd [])
 | some true=>match evOp C call (base+x.nid) (val st.1) st.2 x.o.op with
  | some [r]=>bif okLen st.2 r.2 (foot C (base+x.nid) (val st.1) st.2 x.o.op) then some ((putO n st.1 x.o.dst r.1,r.2),foot C (base+x.nid) (val st.1) st.2 x.o.op) else none
  | _=>none
def okP(a b:Oper):Bool :=
 match a.guard,b.guard with
 | none,none=>(match a.op,b.op with
  | .lookup t _ _ false,.mapEntry t' _ _=>Nat.beq t t'
  | .mapEntry t' _ _,.lookup t _ _ false=>Nat.beq t t'
  | _,_=>false)
 | _,_=>false
def cross(q:It×Fp)(x:It)(fp:Fp):Bool:=bit x.anc q.1.i||(okP q.1.o x.o||okF q.2 fp)
def evDL(C:Cfg)(call:Bool→Nat→List AV→Hp→Outs (AV×Hp))(n:Nat)(ops:List Oper)(base:Nat):List It→List (It×Fp)→Tr×Hp→Option (Tr×Hp)
 | [],_,st=>some st
 | x::L,recs,st=>match stepD C call n ops base x st with
  | none=>none
  | some (st1,fp)=>bif recs.all (fun r=>cross r x fp) then evDL C call n ops base L ((x,fp)::recs) st1 else none
def evDrawn(C:Cfg)(call:Bool→Nat→List AV→Hp→Outs (AV×Hp))(n:Nat)(ops:List Oper)(st:Tr×Hp):Option (Tr×Hp) :=
 match plan ops.length 0 0 [] (items 0 ops) with
 | none=>none
 | some L=>evDL C call n ops st.2.length L [] (st.1,st.2++List.replicate (countNew ops+1) none)
inductive Ex where
 | norm | exit (i:Nat) | ret | pan (ch:List PanicEntry)
def iter(body:Tr×Hp→Outs (Ex×Tr×Hp)):Nat→Tr×Hp→Outs (Ex×Tr×Hp)
 | 0,_=>none
 | f+1,st=>bindO (body st) fun r=>match r.1 with
  | .norm=>iter body f r.2
  | _=>some [r]
def Qai:List AV→Nat→Tr→Tr
 | [],_,s=>s
 | v::r,i,s=>Qai r (i+1) (s.put 12 i v)
def evRes(C:Cfg)(s:Tr)(H:Hp):ResultVar→Option AV
 | .tmp t=>some (s.get 12 t)
 | .cell a t=>evLoad C H t (s.get 12 a)
def evResL(C:Cfg)(s:Tr)(H:Hp):List ResultVar→Option (List AV)
 | []=>some []
 | r::l=>match evRes C s H r with
  | some v=>(evResL C s H l).map (v::·)
  | none=>none
def evRet(C:Cfg)(s:Tr)(H:Hp)(l:List ResultVar):Option AV :=
 match evResL C s H l with
 | some [v]=>some v
 | some vs=>some (.tup vs)
 | none=>none

end Go.Proofs.Ytbgjlpdeoljmiaa
