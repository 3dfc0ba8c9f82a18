/- Several texts in one. No condition. -/
import Derived.WalkKit
import Derived.WalkLawsBesides
import Derived.Below
import Derived.Deep.MidRow
import Derived.WalkSpells
import Derived.Lib.ConvBytes
import Derived.Laws.AppendOwn
import Derived.Laws.BytesString
namespace Go.Proofs.Ytelblamgfbkhbaa
set_option linter.unusedSimpArgs false
set_option linter.unusedVariables false
open Go.RowKit

inductive Fl where
  | nil | zc | any
inductive PV where
  | int (k : IntKind) (n : Int)
  | bool (b : Bool)
  | str (s : ByteArray)
  | agg (cs : List PV)
  | sl (f : Fl) (sz : Nat) (es : List (List PV))
  | fn (f : Nat)
  | nilf
  | nilp
  | nilm
  | nili
  | ifc (t : Nat) (v : PV)
inductive AV where
  | pl (v : PV)
  | un
  | agg (cs : List AV)
  | tup (vs : List AV)
  | clo (f : Nat) (cs : List AV)
  | own (o : Nat)
  | vw (o off len : Nat)
  | bp (o off : Nat)
  | ep (o i off : Nat)
  | ip (cs : List PV) (off : Nat)
  | mp (o : Nat)
  | it (o : Nat)
inductive Ob where
  | box (cs : List AV)
  | row (fz : Bool) (sz : Nat) (es : List (List PV))
  | map (kvs : List (PV × PV))
  | iter (o n : Nat) (seen : List Nat)
abbrev Hp := List (Option Ob)


inductive TK where
  | int (k : IntKind) | bool | str | ptr (e : Nat) | sl (e : Nat) | arr (n e : Nat) | map (k e : Nat) | struct (fs : List (Nat × Nat)) | func | ifc | other
structure TI where
  k : TK
  size : Nat
  bytes : Nat
  zero : List PV
def TK.row : TK → Bool
  | .struct _ | .arr _ _ => true
  | _ => false


inductive Tr where
  | leaf
  | node (v : AV) (l r : Tr)
def Tr.get : Nat → Tr → Nat → AV
  | 0, _, _ => .un
  | _ + 1, .leaf, _ => .un
  | f + 1, .node v l r, n => bif Nat.beq n 0 then v else bif Nat.beq (n % 2) 1 then Tr.get f l (n / 2) else Tr.get f r (n / 2 - 1)
def Tr.put : Nat → Tr → Nat → AV → Tr
  | 0, t, _, _ => t
  | f + 1, .leaf, n, x => bif Nat.beq n 0 then .node x .leaf .leaf else bif Nat.beq (n % 2) 1 then .node .un (Tr.put f .leaf (n / 2) x) .leaf else .node .un .leaf (Tr.put f .leaf (n / 2 - 1) x)
  | f + 1, .node v l r, n, x => bif Nat.beq n 0 then .node x l r else bif Nat.beq (n % 2) 1 then .node v (Tr.put f l (n / 2) x) r else .node v l (Tr.put f r (n / 2 - 1) x)


def hget (H : Hp) (o : Nat) : Option Ob := match H[o]? with | some (some x) => some x | _ => none
def alive (H : Hp) (o : Nat) : Bool := match hget H o with | some _ => true | none => false
def hset (H : Hp) (o : Nat) (x : Option Ob) : Hp := H.set o x
def hput (H : Hp) (n : Nat) (x : Ob) : Hp := bif Nat.blt n H.length then H.set n (some x) else H ++ [some x]

def AV.cells : AV → List AV
  | .agg cs => cs
  | .pl (.agg cs) => cs.map .pl
  | v => [v]
def PV.cells : PV → List PV
  | .agg cs => cs
  | v => [v]
def allPl : List AV → Option (List PV)
  | [] => some []
  | .pl p :: r => (allPl r).map (p :: ·)
  | _ :: _ => none
def mkAgg (cs : List AV) : AV := match allPl cs with | some ps => .pl (.agg ps) | none => .agg cs
def elems (H : Hp) : AV → Option (Nat × List (List PV))
  | .pl (.sl _ sz es) => some (sz, es)
  | .own o => match hget H o with | some (.row _ sz es) => some (sz, es) | _ => none
  | .vw o off len => match hget H o with | some (.row _ sz es) => bif Nat.ble (off + len) es.length then some (sz, (es.drop off).take len) else none | _ => none
  | _ => none
def plain1 (H : Hp) : AV → Option (PV × Hp)
  | .pl p => some (p, H)
  | .own o => match hget H o with | some (.row _ sz es) => some (.sl .any sz es, hset H o (some (.row true sz es))) | _ => none
  | .vw o off len => match hget H o with | some (.row _ sz es) => bif Nat.ble (off + len) es.length then some (.sl .any sz ((es.drop off).take len), hset H o (some (.row true sz es))) else none | _ => none
  | .clo f [] => some (.fn f, H)
  | _ => none
def plainL (H : Hp) : List AV → Option (List PV × Hp)
  | [] => some ([], H)
  | v :: r => match plain1 H v with
    | some (p, H1) => match plainL H1 r with
      | some (ps, H2) => some (p :: ps, H2)
      | none => none
    | none => none
def plain (H : Hp) : AV → Option (PV × Hp)
  | .agg cs => match plainL H cs with | some (ps, H1) => some (.agg ps, H1) | none => none
  | v => plain1 H v
def plains (H : Hp) : List AV → Option (List PV × Hp)
  | [] => some ([], H)
  | v :: r => match plain H v with
    | some (p, H1) => match plains H1 r with
      | some (ps, H2) => some (p :: ps, H2)
      | none => none
    | none => none
def plainR (H : Hp) : AV → Option AV
  | .tup vs => match plains H vs with | some (ps, _) => some (.tup (ps.map .pl)) | none => none
  | v => match plain H v with | some (p, _) => some (.pl p) | none => none


def bit (m i : Nat) : Bool := Nat.beq (Nat.land (Nat.shiftRight m i) 1) 1
def ref1 : AV → List Nat
  | .own o => [o]
  | .vw o _ _ => [o]
  | .bp o _ => [o]
  | .ep o _ _ => [o]
  | .mp o => [o]
  | .it o => [o]
  | _ => []
mutual
def refD : AV → List Nat
  | .agg cs => refDL cs
  | .tup cs => refDL cs
  | .clo _ cs => refDL cs
  | .own o => [o]
  | .vw o _ _ => [o]
  | .bp o _ => [o]
  | .ep o _ _ => [o]
  | .mp o => [o]
  | .it o => [o]
  | .pl _ => []
  | .un => []
  | .ip _ _ => []
def refDL : List AV → List Nat
  | [] => []
  | c :: r => refD c ++ refDL r
end
def obRefs : Ob → List Nat
  | .box cs => refDL cs
  | .iter o _ _ => [o]
  | _ => []
def reach (H : Hp) : Nat → Nat → List Nat → Nat
  | 0, F, _ => F
  | _ + 1, F, [] => F
  | f + 1, F, o :: r => bif bit F o then reach H f F r else reach H f (Nat.lor F (Nat.shiftLeft 1 o)) (match hget H o with | some x => obRefs x ++ r | none => r)
def maskH (F : Nat) : Nat → Hp → Hp
  | _, [] => []
  | i, x :: r => (bif bit F i then x else none) :: maskH F (i + 1) r
def patchH (F : Nat) : Nat → Hp → Hp → Hp
  | _, [], H' => H'
  | _, _ :: _, [] => []
  | i, x :: r, y :: r' => (bif bit F i then y else x) :: patchH F (i + 1) r r'
def inF (F n : Nat) (l : List Nat) : Bool := l.all fun o => bit F o || Nat.ble n o
def objsIn (F n : Nat) : Hp → Bool
  | [] => true
  | x :: r => (match x with | some b => inF F n (obRefs b) | none => true) && objsIn F n r


def bytesLt : List UInt8 → List UInt8 → Bool
  | _, [] => false
  | [], _ :: _ => true
  | a :: x, b :: y => Nat.blt a.toNat b.toNat || (Nat.beq a.toNat b.toNat && bytesLt x y)
def kindEq : IntKind → IntKind → Bool
  | .i8, .i8 | .i16, .i16 | .i32, .i32 | .i64, .i64 | .u8, .u8 | .u16, .u16 | .u32, .u32 | .u64, .u64 => true
  | _, _ => false
def eqF (T : Nat → Option TI) (eq : Nat → List PV → List PV → Option Bool) : List (Nat × Nat) → List PV → List PV → Option Bool
  | [], _, _ => some true
  | (t, off) :: fs, x, y => match T t with
    | some ti => bif Nat.ble (off + ti.size) x.length && Nat.ble (off + ti.size) y.length then
        match eq t ((x.drop off).take ti.size) ((y.drop off).take ti.size) with
        | some true => eqF T eq fs x y
        | some false => some false
        | none => none
      else none
    | none => none
def eqP (T : Nat → Option TI) : Nat → Nat → List PV → List PV → Option Bool
  | 0 => fun _ _ _ => none
  | d + 1 => fun t x y => match T t with
    | some ti => match ti.k, x, y with
      | .int _, [.int k a], [.int k' b] => bif kindEq k k' then some (decide (a = b)) else none
      | .bool, [.bool a], [.bool b] => some (a == b)
      | .str, [.str a], [.str b] => some (decide (a.data.toList = b.data.toList))
      | .struct fs, x, y => eqF T (eqP T d) fs x y
      | _, _, _ => none
    | none => none
def binI (op : BinOp) (k : IntKind) (x y : Int) : Option PV :=
  match op with
  | .add => some (.int k (k.wrap (x + y)))
  | .sub => some (.int k (k.wrap (x - y)))
  | .mul => some (.int k (k.wrap (x * y)))
  | .quo => bif decide (y = 0) then none else some (.int k (k.wrap (x.tdiv y)))
  | .rem => bif decide (y = 0) then none else some (.int k (x.tmod y))
  | .and => some (.int k (k.wrap (BitVec.ofInt k.bits x &&& BitVec.ofInt k.bits y).toNat))
  | .or => some (.int k (k.wrap (BitVec.ofInt k.bits x ||| BitVec.ofInt k.bits y).toNat))
  | .xor => some (.int k (k.wrap (BitVec.ofInt k.bits x ^^^ BitVec.ofInt k.bits y).toNat))
  | .eql => some (.bool (decide (x = y)))
  | .neq => some (.bool (!decide (x = y)))
  | .lss => some (.bool (decide (x < y)))
  | .leq => some (.bool (decide (x ≤ y)))
  | .gtr => some (.bool (decide (y < x)))
  | .geq => some (.bool (decide (y ≤ x)))
  | _ => none
def shI (op : BinOp) (k : IntKind) (x y : Int) : Option PV :=
  bif decide (y < 0) then none else
  match op with
  | .shl => some (.int k (k.wrap (x * 2 ^ (min y.toNat k.bits))))
  | .shr => some (.int k (x.fdiv (2 ^ (min y.toNat k.bits))))
  | _ => none
def binS (op : BinOp) (x y : ByteArray) : Option PV :=
  match op with
  | .add => bif Nat.ble (x.size + y.size) 9223372036854775807 then some (.str ⟨(x.data.toList ++ y.data.toList).toArray⟩) else none
  | .eql => some (.bool (decide (x.data.toList = y.data.toList)))
  | .neq => some (.bool (!decide (x.data.toList = y.data.toList)))
  | .lss => some (.bool (bytesLt x.data.toList y.data.toList))
  | .leq => some (.bool (bytesLt x.data.toList y.data.toList || decide (x.data.toList = y.data.toList)))
  | .gtr => some (.bool !(bytesLt x.data.toList y.data.toList || decide (x.data.toList = y.data.toList)))
  | .geq => some (.bool !(bytesLt x.data.toList y.data.toList))
  | _ => none
def oneP : PV → Bool
  | .agg _ => false
  | _ => true
def eqV (T : Nat → Option TI) (t : Nat) (p q : PV) : Option Bool :=
  match T t with
  | none => none
  | some ti => bif ti.k.row then (match p, q with | .agg x, .agg y => eqP T 20 t x y | _, _ => none)
    else bif oneP p && oneP q then eqP T 20 t [p] [q] else none


def simp1 : PV → Bool
  | .int _ _ | .bool _ | .str _ => true
  | _ => false
def keyF (T : Nat → Option TI) (rec : Nat → List PV → Bool) : List (Nat × Nat) → List PV → Bool
  | [], _ => true
  | (t, off) :: fs, x => (match T t with | some ti => Nat.ble (off + ti.size) x.length && (ti.k.row || Nat.blt 0 ti.size) && rec t ((x.drop off).take ti.size) | none => false) && keyF T rec fs x
def keyP (T : Nat → Option TI) : Nat → Nat → List PV → Bool
  | 0 => fun _ _ => false
  | d + 1 => fun t x => match T t with
    | some ti => match ti.k, x with
      | .int k, [.int k' _] => kindEq k k'
      | .bool, [.bool _] => true
      | .str, [.str _] => true
      | .struct fs, x => x.all simp1 && keyF T (keyP T d) fs x
      | _, _ => false
    | none => false
def keyV (T : Nat → Option TI) (t : Nat) (p : PV) : Bool :=
  match T t with
  | none => false
  | some ti => bif ti.k.row then (match p with | .agg x => keyP T 20 t x | _ => false) else oneP p && keyP T 20 t [p]
def eqC1 : PV → PV → Bool
  | .int k a, .int k' b => kindEq k k' && decide (a = b)
  | .bool a, .bool b => a == b
  | .str a, .str b => decide (a.data.toList = b.data.toList)
  | _, _ => false
def eqCL : List PV → List PV → Bool
  | [], [] => true
  | a :: x, b :: y => eqC1 a b && eqCL x y
  | _, _ => false
def eqC : PV → PV → Bool
  | .agg x, .agg y => eqCL x y
  | .agg _, _ => false
  | _, .agg _ => false
  | a, b => eqC1 a b

structure Cfg where
  ty : Nat → Option TI
  fn : Nat → Option Func
  byref : Nat → Bool
  ext : Nat → Option (List PV → Option AV)
  keep : Nat → Nat → Option (List Nat)

def evEq (C : Cfg) (H : Hp) (t : Nat) (x y : AV) : Option Bool :=
  match C.ty t with
  | none => none
  | some ti => match ti.k, x, y with
    | .sl _, .pl (.sl .nil _ _), .pl (.sl .nil _ _) => some true
    | .sl _, .pl (.sl _ _ (_ :: _)), .pl (.sl .nil _ _) => some false
    | .sl _, .own o, .pl (.sl .nil _ _) => match hget H o with | some (.row _ _ (_ :: _)) => some false | _ => none
    | .sl _, .vw o _ (_ + 1), .pl (.sl .nil _ _) => match hget H o with | some (.row _ _ _) => some false | _ => none
    | .func, .pl .nilf, .pl .nilf => some true
    | .func, .pl (.fn _), .pl .nilf => some false
    | .func, .clo _ _, .pl .nilf => some false
    | .map _ _, .pl .nilm, .pl .nilm => some true
    | .map _ _, .mp o, .pl .nilm => match hget H o with | some (.map _) => some false | _ => none
    | _, .pl p, .pl q => eqV C.ty t p q
    | _, _, _ => none
def evBin (C : Cfg) (H : Hp) (op : BinOp) (t : Nat) (x y : AV) : Option AV :=
  match op, x, y with
  | .shl, .pl (.int k a), .pl (.int _ b) => (shI .shl k a b).map .pl
  | .shr, .pl (.int k a), .pl (.int _ b) => (shI .shr k a b).map .pl
  | op, .pl (.int k a), .pl (.int k' b) => bif kindEq k k' then (binI op k a b).map .pl else none
  | op, .pl (.str a), .pl (.str b) => (binS op a b).map .pl
  | .eql, x, y => (evEq C H t x y).map fun b => .pl (.bool b)
  | .neq, x, y => (evEq C H t x y).map fun b => .pl (.bool !b)
  | _, _, _ => none
def evUn : UnOp → AV → Option AV
  | .neg, .pl (.int k n) => some (.pl (.int k (k.wrap (0 - n))))
  | .not, .pl (.bool b) => some (.pl (.bool !b))
  | .xor, .pl (.int k n) => (binI .xor k (if k.signed then -1 else k.max) n).map .pl
  | _, _ => none

def natOf (n : Int) : Option Nat := match n with | .ofNat k => some k | .negSucc _ => none
def putAt {α : Type} (l : List α) (off : Nat) (xs : List α) : Option (List α) :=
  bif Nat.ble (off + xs.length) l.length then some (l.take off ++ xs ++ l.drop (off + xs.length)) else none
def oneA : AV → Bool
  | .agg _ | .tup _ | .un => false
  | .pl (.agg _) => false
  | _ => true
def fillA : List (Nat × Nat) → List AV → List (Nat × AV) → Option (List AV)
  | _, cs, [] => some cs
  | pl, cs, (i, v) :: r => match pl[i]? with
    | some (off, size) => bif Nat.beq v.cells.length size && v.cells.all oneA then match putAt cs off v.cells with | some cs' => fillA pl cs' r | none => none else none
    | none => none
def fillE (sz : Nat) (H : Hp) : List (List PV) → List (Nat × AV) → Option (List (List PV) × Hp)
  | es, [] => some (es, H)
  | es, (i, v) :: r => match plain H v with
    | some (p, H1) => bif Nat.beq p.cells.length sz && Nat.blt i es.length then fillE sz H1 (es.set i p.cells) r else none
    | none => none

def evLoad (C : Cfg) (H : Hp) (t : Nat) (p : AV) : Option AV :=
  match C.ty t with
  | none => none
  | some ti =>
    match p with
    | .bp o off => match hget H o with
      | some (.box cs) => bif ti.k.row then (bif Nat.ble (off + ti.size) cs.length then some (mkAgg ((cs.drop off).take ti.size)) else none) else cs[off]?
      | _ => none
    | .ep o i off => match hget H o with
      | some (.row _ _ es) => match es[i]? with
        | some c => bif ti.k.row then (bif Nat.ble (off + ti.size) c.length then some (.pl (.agg ((c.drop off).take ti.size))) else none) else (c[off]?).map .pl
        | none => none
      | _ => none
    | .ip c off => bif ti.k.row then (bif Nat.ble (off + ti.size) c.length then some (.pl (.agg ((c.drop off).take ti.size))) else none) else (c[off]?).map .pl
    | _ => none
def evStore (C : Cfg) (H : Hp) (t : Nat) (p v : AV) : Option Hp :=
  match C.ty t with
  | none => none
  | some ti =>
    match p with
    | .bp o off => match hget H o with
      | some (.box cs) => bif Nat.beq v.cells.length ti.size && v.cells.all oneA then match putAt cs off v.cells with | some cs' => some (hset H o (some (.box cs'))) | none => none else none
      | _ => none
    | .ep o i off => match plain H v with
      | some (q, H1) => match hget H1 o with
        | some (.row false sz es) => match es[i]? with
          | some c => bif Nat.beq q.cells.length ti.size then match putAt c off q.cells with | some c' => some (hset H1 o (some (.row false sz (es.set i c')))) | none => none else none
          | none => none
        | _ => none
      | none => none
    | _ => none
def evField (C : Cfg) (t f : Nat) : Option (Nat × Nat) :=
  match C.ty t with
  | some ti => match ti.k with | .struct fs => fs[f]? | _ => none
  | none => none
def elemTy (C : Cfg) (t : Nat) : Option TI := match C.ty t with | some ti => (match ti.k with | .sl e => C.ty e | _ => none) | none => none
def posSize (C : Cfg) (t : Nat) : Bool := match C.ty t with | some ti => !(Nat.beq ti.size 0) | none => false
def isAggA : AV → Bool
  | .agg _ => true
  | .pl (.agg _) => true
  | _ => false
def evIndexAddr (C : Cfg) (H : Hp) (t : Nat) (x i : AV) : Option AV :=
  match C.ty t, i with
  | some ti, .pl (.int _ n) => match natOf n with
    | none => none
    | some i => match ti.k with
      | .sl e => match C.ty e with
        | none => none
        | some te => match x with
          | .pl (.sl _ sz es) => bif Nat.beq sz te.size then (es[i]?).map fun c => .ip c 0 else none
          | .own o => match hget H o with | some (.row _ sz es) => bif Nat.beq sz te.size && Nat.blt i es.length then some (.ep o i 0) else none | _ => none
          | .vw o off len => match hget H o with | some (.row _ sz es) => bif Nat.beq sz te.size && (Nat.blt i len && Nat.ble (off + len) es.length) then some (.ep o (off + i) 0) else none | _ => none
          | _ => none
      | .arr m e => match C.ty e with
        | none => none
        | some te => bif Nat.blt i m then (match x with
          | .bp o off => bif alive H o then some (.bp o (off + i * te.size)) else none
          | .ip c off => some (.ip c (off + i * te.size))
          | .ep o j off => bif alive H o then some (.ep o j (off + i * te.size)) else none
          | _ => none) else none
      | _ => none
  | _, _ => none
def evIndex (C : Cfg) (t : Nat) (x i : AV) : Option AV :=
  match C.ty t, x, i with
  | some ti, .pl (.str s), .pl (.int _ n) => match ti.k, natOf n with
    | .str, some i => (s.data.toList[i]?).map fun b => .pl (.int .u8 (b.toNat : Int))
    | _, _ => none
  | some ti, .pl (.agg cs), .pl (.int _ n) => match ti.k, natOf n with
    | .arr m e, some i => match C.ty e with
      | some te => bif Nat.blt i m && Nat.ble ((i + 1) * te.size) cs.length then (bif te.k.row then some (.pl (.agg ((cs.drop (i * te.size)).take te.size))) else (cs[i * te.size]?).map .pl) else none
      | none => none
    | _, _ => none
  | _, _, _ => none
def optNat : Option AV → Option (Option Nat)
  | none => some none
  | some (.pl (.int _ n)) => (natOf n).map some
  | _ => none
def vwOf (o off n m : Nat) (lo hi : Option Nat) : Option AV :=
  bif Nat.ble (lo.getD 0) (hi.getD n) && Nat.ble (hi.getD n) m then some (.vw o (off + lo.getD 0) (hi.getD n - lo.getD 0)) else none
def takeO {α : Type} (n : Option Nat) (l : List α) : List α := match n with | some k => l.take k | none => l
def evSlice (C : Cfg) (H : Hp) (t : Nat) (x : AV) (lo hi mx : Option AV) : Option AV :=
  match C.ty t, optNat lo, optNat hi, optNat mx with
  | some ti, some lo, some hi, some mx =>
    match ti.k with
    | .str => match x, mx with
      | .pl (.str s), none => bif Nat.ble (lo.getD 0) (hi.getD s.size) && Nat.ble (hi.getD s.size) s.size then some (.pl (.str ⟨((s.data.toList.take (hi.getD s.size)).drop (lo.getD 0)).toArray⟩)) else none
      | _, _ => none
    | .sl e => match C.ty e with
      | none => none
      | some te => match x, mx with
        | .pl (.sl .nil sz es), none => bif Nat.beq (lo.getD 0) 0 && Nat.beq (hi.getD 0) 0 then some (.pl (.sl .nil sz es)) else none
        | .pl (.sl .nil sz es), some m => bif Nat.beq (lo.getD 0) 0 && Nat.beq (hi.getD 1) 0 && Nat.beq m 0 then some (.pl (.sl .nil sz es)) else none
        | .pl (.sl _ sz es), none => bif !(Nat.beq sz te.size) then none else
          bif Nat.ble (lo.getD 0) (hi.getD es.length) && Nat.ble (hi.getD es.length) es.length then some (.pl (.sl .any sz ((takeO hi es).drop (lo.getD 0)))) else none
        | .pl (.sl _ sz es), some m => bif Nat.beq (lo.getD 0) m && Nat.beq (hi.getD (m + 1)) m && Nat.ble m es.length then some (.pl (.sl .zc sz [])) else none
        | .own o, none => match hget H o with
          | some (.row _ sz es) => bif Nat.beq sz te.size then vwOf o 0 es.length es.length lo hi else none
          | _ => none
        | .own o, some m => match hget H o with
          | some (.row _ sz es) => bif Nat.beq (lo.getD 0) m && Nat.beq (hi.getD (m + 1)) m && Nat.ble m es.length then some (.pl (.sl .zc sz [])) else none
          | _ => none
        | .vw o off len, none => match hget H o with
          | some (.row _ sz es) => bif Nat.beq sz te.size && Nat.ble off es.length then vwOf o off len (es.length - off) lo hi else none
          | _ => none
        | _, _ => none
    | _ => none
  | _, _, _, _ => none

abbrev Outs (α : Type) := Option (List α)

def mfind (T : Nat → Option TI) (kt : Nat) (k : PV) : List (PV × PV) → Nat → Option (Option (Nat × PV))
  | [], _ => some none
  | (q, v) :: r, i => match eqV T kt k q with
    | some true => some (some (i, v))
    | some false => mfind T kt k r (i + 1)
    | none => none
def zeroOf (C : Cfg) (t : Nat) : Option PV := match C.ty t with | some ti => bif ti.k.row then some (.agg ti.zero) else (match ti.zero with | [z] => some z | _ => none) | none => none
def mapOf (H : Hp) : AV → Option (List (PV × PV))
  | .pl .nilm => some []
  | .mp o => match hget H o with | some (.map kvs) => some kvs | _ => none
  | _ => none
def mapTy (C : Cfg) (t : Nat) : Option (Nat × Nat) := match C.ty t with | some ti => (match ti.k with | .map k e => some (k, e) | _ => none) | none => none
def evLookup (C : Cfg) (H : Hp) (t : Nat) (x k : AV) (ok : Bool) : Option AV :=
  match mapTy C t, k, mapOf H x with
  | some (kt, e), .pl k, some kvs => bif keyV C.ty kt k then (match mfind C.ty kt k kvs 0 with
      | some (some (_, v)) => some (bif ok then .tup [.pl v, .pl (.bool true)] else .pl v)
      | some none => (match zeroOf C e with | some z => some (bif ok then .tup [.pl z, .pl (.bool false)] else .pl z) | none => none)
      | none => none) else none
  | _, _, _ => none
def mset (T : Nat → Option TI) (kt : Nat) (k v : PV) (kvs : List (PV × PV)) : Option (List (PV × PV)) :=
  bif keyV T kt k then (match mfind T kt k kvs 0 with
    | some (some (i, _)) => (match kvs[i]? with | some (q, _) => bif eqC k q then some (kvs.set i (q, v)) else none | none => none)
    | some none => some (kvs ++ [(k, v)])
    | none => none) else none
def evMapUpdate (C : Cfg) (H : Hp) (t : Nat) (x k v : AV) : Option Hp :=
  match mapTy C t, x, k, plain H v with
  | some (kt, _), .mp o, .pl k, some (v, H1) => (match hget H1 o with
    | some (.map kvs) => (match mset C.ty kt k v kvs with | some kvs' => some (hset H1 o (some (.map kvs'))) | none => none)
    | _ => none)
  | _, _, _, _ => none
def ment (C : Cfg) (kt e : Nat) (k : PV) (kvs : List (PV × PV)) : Option (PV × Nat × List (PV × PV)) :=
  bif keyV C.ty kt k then (match mfind C.ty kt k kvs 0 with
    | some (some (i, v)) => (match kvs[i]? with | some (q, _) => bif eqC k q then some (v, i, kvs) else none | none => none)
    | some none => (match zeroOf C e with | some z => some (z, kvs.length, kvs ++ [(k, z)]) | none => none)
    | none => none) else none
def evMapEntry (C : Cfg) (H : Hp) (t : Nat) (x k : AV) : Option (AV × Hp) :=
  match mapTy C t, x, k with
  | some (kt, e), .mp o, .pl k => (match hget H o with
    | some (.map kvs) => (match ment C kt e k kvs with | some (v, i, kvs') => some (.tup [.pl v, .pl (.int .i64 (i : Int))], hset H o (some (.map kvs'))) | none => none)
    | _ => none)
  | _, _, _ => none
def evEntryStore (H : Hp) (x s v : AV) : Option Hp :=
  match x, s, plain H v with
  | .mp o, .pl (.int _ n), some (v, H1) => (match hget H1 o, natOf n with
    | some (.map kvs), some i => (match kvs[i]? with
      | some (k, _) => some (hset H1 o (some (.map (kvs.set i (k, v)))))
      | none => none)
    | _, _ => none)
  | _, _, _ => none
def evRange (C : Cfg) (nid : Nat) (H : Hp) (t : Nat) : AV → Option (AV × Hp)
  | .mp o => (match mapTy C t, hget H o with | some _, some (.map kvs) => some (.it nid, hput H nid (.iter o kvs.length [])) | _, _ => none)
  | _ => none
def evEntry (H : Hp) : AV → Option AV
  | .it i => match hget H i with
    | some (.iter o n seen) => (match hget H o, seen.getLast? with
      | some (.map kvs), some j => bif Nat.beq kvs.length n then (match kvs[j]? with | some (k, v) => some (.tup [.pl k, .pl v]) | none => none) else none
      | _, _ => none)
    | _ => none
  | _ => none
def evNext (H : Hp) : AV → Outs (AV × Hp)
  | .it i => match hget H i with
    | some (.iter o n seen) => (match hget H o with
      | some (.map kvs) => bif Nat.beq kvs.length n then
          (match (List.range n).filter (fun j => !(seen.any (Nat.beq j))) with
            | [] => some [(.tup [.pl (.bool false)], H)]
            | l => some (l.map fun j => match kvs[j]? with | some (k, v) => (.tup [.pl (.bool true), .pl k, .pl v], hset H i (some (.iter o n (seen ++ [j])))) | none => (.un, H)))
        else none
      | _ => none)
    | _ => none
  | _ => none


def srcElems (H : Hp) : AV → Option (List (List PV))
  | .pl (.str s) => some (s.data.toList.map fun b => [.int .u8 (b.toNat : Int)])
  | v => (elems H v).map (·.2)
def fitsB (n : Nat) (te : TI) : Bool := Nat.ble (n * te.bytes) 140737488355328 && Nat.ble n 9223372036854775807
def srcTy (C : Cfg) (t : Nat) : AV → Bool
  | .pl (.str _) => match C.ty t with | some ti => (match ti.k with | .str => true | _ => false) | none => false
  | _ => match C.ty t with | some ti => (match ti.k with | .sl _ => true | _ => false) | none => false
def evAppend (C : Cfg) (nid : Nat) (H : Hp) (t t1 : Nat) (x y : AV) : Option (AV × Hp) :=
  match C.ty t, bif srcTy C t1 y then srcElems H y else none with
  | some ti, some news => match ti.k with
    | .sl e => match C.ty e with
      | none => none
      | some te => bif !(news.all fun c => Nat.beq c.length te.size) || Nat.beq te.size 0 then none else
        match news with
        | [] => match x with | .pl (.sl f sz es) => some (.pl (.sl f sz es), H) | .own o => (match hget H o with | some (.row _ _ _) => some (.own o, H) | _ => none) | .vw o a n => (match hget H o with | some (.row _ _ _) => some (.vw o a n, H) | _ => none) | _ => none
        | _ :: _ =>
          match x with
          | .pl (.sl .nil _ []) => bif fitsB news.length te then some (.own nid, hput H nid (.row false te.size news)) else none
          | .pl (.sl .zc _ []) => bif fitsB news.length te then some (.own nid, hput H nid (.row false te.size news)) else none
          | .own o => match hget H o with
            | some (.row false sz es) => bif fitsB (es.length + news.length) te && Nat.beq sz te.size then some (.own nid, hput (hset H o none) nid (.row false sz (es ++ news))) else none
            | _ => none
          | .vw o off len => match hget H o with
            | some (.row false sz es) =>
              bif !(fitsB (len + news.length) te && Nat.beq sz te.size) then none
              else bif Nat.ble (off + len + news.length) es.length then some (.vw o off (len + news.length), hset H o (some (.row false sz (es.take (off + len) ++ news ++ es.drop (off + len + news.length)))))
              else bif Nat.beq (off + len) es.length then some (.own nid, hput (hset H o none) nid (.row false sz (es.drop off ++ news)))
              else none
            | _ => none
          | _ => none
    | _ => none
  | _, _ => none
def rowPut (es : List (List PV)) (off : Nat) (news : List (List PV)) : List (List PV) := es.take off ++ news ++ es.drop (off + news.length)
def rowOf (H : Hp) : AV → Option (Nat × Nat × Nat × Nat × List (List PV))
  | .own o => match hget H o with | some (.row false sz es) => some (o, 0, es.length, sz, es) | _ => none
  | .vw o off len => match hget H o with | some (.row false sz es) => bif Nat.ble (off + len) es.length then some (o, off, len, sz, es) else none | _ => none
  | _ => none
def evCopy (C : Cfg) (H : Hp) (t t1 : Nat) (x y : AV) : Option (AV × Hp) :=
  match bif srcTy C t1 y then srcElems H y else none, elemTy C t with
  | some src, some te => bif !(src.all fun c => Nat.beq c.length te.size) || Nat.beq te.size 0 then none else match x with
    | .pl (.sl _ _ []) => some (.pl (.int .i64 0), H)
    | x => match rowOf H x with
      | some (o, off, len, sz, es) => bif Nat.beq sz te.size then some (.pl (.int .i64 (Nat.min src.length len : Nat)), hset H o (some (.row false sz (rowPut es off (src.take (Nat.min src.length len)))))) else none
      | none => none
  | _, _ => none
def evClear (C : Cfg) (H : Hp) (t : Nat) (x : AV) : Option (AV × Hp) :=
  match elemTy C t with
  | some te => bif Nat.beq te.size 0 then none else match x with
    | .pl (.sl _ _ []) => some (.tup [], H)
    | x => match rowOf H x with
      | some (o, off, len, sz, es) => bif Nat.beq sz te.size then some (.tup [], hset H o (some (.row false sz (rowPut es off (List.replicate len te.zero))))) else none
      | none => none
  | none => none
def minI : List AV → Option AV
  | [.pl (.int k a), .pl (.int _ b)] => some (.pl (.int k (bif decide (b < a) then b else a)))
  | _ => none
def maxI : List AV → Option AV
  | [.pl (.int k a), .pl (.int _ b)] => some (.pl (.int k (bif decide (a < b) then b else a)))
  | _ => none
def lenA (C : Cfg) (H : Hp) (t : Nat) (x : AV) : Option Nat :=
  match C.ty t with
  | none => none
  | some ti => match ti.k with
    | .str => match x with | .pl (.str s) => some s.size | _ => none
    | .map _ _ => match x with
      | .pl .nilm => some 0
      | .mp o => match hget H o with | some (.map kvs) => some kvs.length | _ => none
      | _ => none
    | .sl _ => match x with
      | .pl (.sl _ _ es) => some es.length
      | .own o => match hget H o with | some (.row _ _ es) => some es.length | _ => none
      | .vw o _ len => bif alive H o then some len else none
      | _ => none
    | .arr n _ => some n
    | _ => none
def evBuiltin (C : Cfg) (nid : Nat) (H : Hp) (b : Builtin) (ts : List Nat) (args : List AV) : Option (AV × Hp) :=
  match b, ts, args with
  | .len, [t], [x] => (lenA C H t x).map fun n => (.pl (.int .i64 (n : Int)), H)
  | .append, [t, t1], [x, y] => evAppend C nid H t t1 x y
  | .copy, [t, t1], [x, y] => evCopy C H t t1 x y
  | .clear, [t], [x] => evClear C H t x
  | .min, _, l => (minI l).map fun v => (v, H)
  | .max, _, l => (maxI l).map fun v => (v, H)
  | _, _, _ => none

def bytesOf : List (List PV) → Option (List UInt8)
  | [] => some []
  | [.int .u8 n] :: r => (bytesOf r).map (UInt8.ofNat n.toNat :: ·)
  | _ :: _ => none

def cst : Value → AV
  | .int k n => .pl (.int k n)
  | .bool b => .pl (.bool b)
  | .string s => .pl (.str s)
  | .nilFunc => .pl .nilf
  | .pointer none => .pl .nilp
  | .map none => .pl .nilm
  | .nilIface => .pl .nili
  | .slice none 0 0 => .pl (.sl .nil 0 [])
  | _ => .un
def val (s : Tr) : Operand → AV
  | .tmp t => s.get 12 t
  | .const v => cst v
  | .func f => .pl (.fn f)
  | .global _ => .un
def evConv (C : Cfg) (s d : Nat) (a : AV) : Option AV :=
  match C.ty s, C.ty d, a with
    | some _, some td, .pl (.int _ n) => match td.k with | .int k => some (.pl (.int k (k.wrap n))) | _ => none
    | some _, some td, .pl (.str b) => match td.k with
      | .str => some (.pl (.str b))
      | .sl e => match C.ty e with
        | some te => match te.k with
          | .int .u8 => bif Nat.ble b.size 9223372036854775807 && Nat.beq te.size 1 then some (.pl (.sl .any 1 (b.data.toList.map fun c => [.int .u8 (c.toNat : Int)]))) else none
          | _ => none
        | none => none
      | _ => none
    | some ts, some td, .pl (.sl _ sz es) => match td.k, ts.k with
      | .str, .sl e => match C.ty e with
        | some te => match te.k, bytesOf es with
          | .int .u8, some bs => bif Nat.beq sz 1 then some (.pl (.str ⟨bs.toArray⟩)) else none
          | _, _ => none
        | none => none
      | _, _ => none
    | _, _, _ => none
def evPure (C : Cfg) (nid : Nat) (ρ : Operand → AV) (H : Hp) : Op → Option (AV × Hp)
  | .move x | .assign x => some (ρ x, H)
  | .pick c a b => match ρ c with | .pl (.bool t) => some (bif t then ρ a else ρ b, H) | _ => none
  | .alloc e => match C.ty e with | some ti => some (.bp nid 0, hput H nid (.box (ti.zero.map .pl))) | none => none
  | .box _ x => bif (ρ x).cells.all oneA then some (.bp nid 0, hput H nid (.box (ρ x).cells)) else none
  | .build t ps => match C.ty t with
    | some ti => match ti.k with
      | .struct fs => match fs.mapM fun f => (C.ty f.1).map fun tf => (f.2, tf.size) with
        | some pl => (fillA pl (ti.zero.map .pl) (ps.toList.map fun p => (p.1, ρ p.2))).map fun cs => (mkAgg cs, H)
        | none => none
      | .arr n e => match C.ty e with
        | some te => (fillA ((List.range n).map fun i => (i * te.size, te.size)) (ti.zero.map .pl) (ps.toList.map fun p => (p.1, ρ p.2))).map fun cs => (mkAgg cs, H)
        | none => none
      | _ => none
    | none => none
  | .buildSlice t n ps => match C.ty t with
    | some ti => match ti.k with
      | .sl e => match C.ty e with
        | some te => match bif Nat.ble (n * te.size) 16777216 && !(Nat.beq te.size 0) then fillE te.size H (List.replicate n te.zero) (ps.toList.map fun p => (p.1, ρ p.2)) else none with
          | some (es, H1) => some (.own nid, hput H1 nid (.row false te.size es))
          | none => none
        | none => none
      | _ => none
    | none => none
  | .load t p => (evLoad C H t (ρ p)).map fun v => (v, H)
  | .store t p v => (evStore C H t (ρ p) (ρ v)).map fun H1 => (.tup [], H1)
  | .nilCheck x => match ρ x with
    | .pl (.fn f) => some (.pl (.fn f), H)
    | .clo f cs => some (.clo f cs, H)
    | .bp o i => bif alive H o then some (.bp o i, H) else none
    | .ep o i j => bif alive H o then some (.ep o i j, H) else none
    | .ip c i => some (.ip c i, H)
    | _ => none
  | .binOp op t x y _ => (evBin C H op t (ρ x) (ρ y)).map fun v => (v, H)
  | .unOp op _ x => (evUn op (ρ x)).map fun v => (v, H)
  | .convert s d x => (evConv C s d (ρ x)).map fun v => (v, H)
  | .makeFunc (.func f) first cs => bif first.isEmpty then (match cs.toList.map ρ with | [] => some (.pl (.fn f), H) | vs => some (.clo f vs, H)) else none
  | .makeMap _ none => some (.mp nid, hput H nid (.map []))
  | .makeSlice t l c => match C.ty t, ρ l, ρ c with
    | some ti, .pl (.int _ n), .pl (.int _ m) => match ti.k, natOf n with
      | .sl e, some n => match C.ty e with
        | some te => bif decide (m = (n : Int)) && fitsB n te && !(Nat.beq te.size 0) then some (.own nid, hput H nid (.row false te.size (List.replicate n te.zero))) else none
        | none => none
      | _, _ => none
    | _, _, _ => none
  | .slice t x lo hi mx => (evSlice C H t (ρ x) (lo.map ρ) (hi.map ρ) (mx.map ρ)).map fun v => (v, H)
  | .fieldAddr t x f => match evField C t f with
    | some (ft, off) => bif posSize C ft then (match ρ x with
      | .bp o i => bif alive H o then some (.bp o (i + off), H) else none
      | .ep o j i => bif alive H o then some (.ep o j (i + off), H) else none
      | .ip c i => some (.ip c (i + off), H)
      | _ => none) else none
    | none => none
  | .field t x f => match evField C t f with
    | some (ft, off) => match C.ty ft with
      | some tf => bif Nat.ble (off + tf.size) (ρ x).cells.length && isAggA (ρ x) && !(Nat.beq tf.size 0) then (bif tf.k.row then some (mkAgg (((ρ x).cells.drop off).take tf.size), H) else ((ρ x).cells[off]?).map fun v => (v, H)) else none
      | none => none
    | none => none
  | .indexAddr t x i => (evIndexAddr C H t (ρ x) (ρ i)).map fun v => (v, H)
  | .index t x i => (evIndex C t (ρ x) (ρ i)).map fun v => (v, H)
  | .lookup t x k ok => (evLookup C H t (ρ x) (ρ k) ok).map fun v => (v, H)
  | .mapUpdate t m k v | .insert t m k v => (evMapUpdate C H t (ρ m) (ρ k) (ρ v)).map fun H1 => (.tup [], H1)
  | .mapEntry t m k => evMapEntry C H t (ρ m) (ρ k)
  | .entryStore _ m s v => (evEntryStore H (ρ m) (ρ s) (ρ v)).map fun H1 => (.tup [], H1)
  | .range t x => evRange C nid H t (ρ x)
  | .entry it => (evEntry H (ρ it)).map fun v => (v, H)
  | .extract t i => match ρ t with | .tup vs => (vs[i]?).map fun v => (v, H) | _ => none
  | .call c => match c.callee with
    | .builtin b => evBuiltin C nid H b c.argTypes.toList (c.args.toList.map ρ)
    | _ => none
  | _ => none

def flatO {α β : Type} (f : α → Outs β) : List α → Outs β
  | [] => some []
  | x :: l => match f x with
    | some a => match flatO f l with | some b => some (a ++ b) | none => none
    | none => none
def bindO {α β : Type} (x : Outs α) (f : α → Outs β) : Outs β :=
  match x with
  | none => none
  | some [a] => f a
  | some l => flatO f l
def evShared (call : Bool → Nat → List AV → Hp → Outs (AV × Hp)) (k : Nat) (args : List AV) (H : Hp) (F : Nat) : Outs (AV × Hp) :=
  match call true k args (maskH F 0 H) with
  | some l => bif l.all (fun r => inF F H.length (refD r.1) && objsIn F H.length r.2 && Nat.ble H.length r.2.length) then some (l.map fun r => (r.1, patchH F 0 H r.2)) else none
  | none => none

mutual
def flatP : PV → Bool
  | .int _ _ => true
  | .bool _ => true
  | .str _ => true
  | .agg cs => flatPL cs
  | _ => false
def flatPL : List PV → Bool
  | [] => true
  | c :: r => flatP c && flatPL r
end
def flatT : List AV → Bool
  | [] => true
  | .pl p :: r => flatP p && flatT r
  | _ => false
def flatA : AV → Bool
  | .pl p => flatP p
  | .tup vs => flatT vs
  | _ => false
def evInvoke (C : Cfg) (call : Bool → Nat → List AV → Hp → Outs (AV × Hp)) (k : Nat) (args : List AV) (H : Hp) : Outs (AV × Hp) :=
  match C.ext k with
  | some f => match plains H args with
    | some (ps, H1) => match f ps with | some r => some [(r, H1)] | none => none
    | none => none
  | none => bif C.byref k then evShared call k args H (reach H 100000 0 (refDL args)) else
    match plains H args with
    | some (ps, H1) => match call false k (ps.map .pl) [] with
      | some l => some (l.map fun r => (r.1, bif flatA r.1 then H else H1))
      | none => none
    | none => evShared call k args H (reach H 100000 0 (refDL args))
def evOp (C : Cfg) (call : Bool → Nat → List AV → Hp → Outs (AV × Hp)) (nid : Nat) (ρ : Operand → AV) (H : Hp) (op : Op) : Outs (AV × Hp) :=
  match op with
  | .call c => match c.callee with
    | .value f => match ρ f with
      | .pl (.fn k) => evInvoke C call k (c.args.toList.map ρ) H
      | .clo k cs => evInvoke C call k (c.args.toList.map ρ ++ cs) H
      | _ => none
    | _ => match evPure C nid ρ H op with | some r => some [r] | none => none
  | .next it false => evNext H (ρ it)
  | op => match evPure C nid ρ H op with | some r => some [r] | none => none


def putO (n : Nat) (s : Tr) (d : Option Nat) (v : AV) : Tr := match d with | some d => bif Nat.blt d n then s.put 12 d v else s | none => s
def dstOf (ops : List Oper) (j : Nat) : Option Nat := match ops[j]? with | some o => o.dst | none => none
def want (ops : List Oper) (s : Tr) : Option (Nat × Bool) → Option Bool
  | none => some true
  | some (j, b) => match dstOf ops j with
    | some t => match s.get 12 t with
      | .pl (.bool c) => some (c == b)
      | .tup [] => some false
      | _ => none
    | none => none
def evOps (C : Cfg) (call : Bool → Nat → List AV → Hp → Outs (AV × Hp)) (n : Nat) (ops : List Oper) : List Oper → Tr × Hp → Outs (Tr × Hp)
  | [], st => some [st]
  | o :: r, st => match want ops st.1 o.guard with
    | none => none
    | some false => evOps C call n ops r (putO n st.1 o.dst (.tup []), st.2)
    | some true => bindO (evOp C call st.2.length (val st.1) st.2 o.op) fun x => evOps C call n ops r (putO n st.1 o.dst x.1, x.2)

def bindsAny (e : Edge) : Bool := match e.ground with | .textOnly _ => false | .gcOnly _ => false | _ => true
def orBit (m i : Nat) : Nat := Nat.lor m (Nat.shiftLeft 1 i)
def needL : List Edge → Nat
  | [] => 0
  | e :: r => bif bindsAny e then orBit (needL r) e.on else needL r
structure It where
  i : Nat
  need : Nat
  anc : Nat
  nid : Nat
  o : Oper
def items : Nat → List Oper → List It
  | _, [] => []
  | i, o :: r => ⟨i, needL o.after.toList, 0, 0, o⟩ :: items (i + 1) r
def takeReady (done : Nat) : List It → Option (It × List It)
  | [] => none
  | x :: r => bif Nat.beq (Nat.land x.need done) x.need then some (x, r) else match takeReady done r with
    | some (y, r') => some (y, x :: r')
    | none => none
def creates : Op → Bool
  | .alloc _ | .box .. | .buildSlice .. | .makeSlice .. | .makeMap .. | .range .. => true
  | .call c => match c.callee with | .builtin .append => true | _ => false
  | _ => false
def ancOf (need : Nat) : List (Nat × Nat) → Nat
  | [] => need
  | (j, a) :: r => bif bit need j then Nat.lor a (ancOf need r) else ancOf need r
def plan : Nat → Nat → Nat → List (Nat × Nat) → List It → Option (List It)
  | _, _, _, _, [] => some []
  | 0, _, _, _, _ => none
  | f + 1, done, k, tbl, l => match takeReady done l with
    | none => none
    | some (x, r) => match plan f (orBit done x.i) (bif creates x.o.op then k + 1 else k) ((x.i, ancOf x.need tbl) :: tbl) r with
      | some L => some (⟨x.i, x.need, ancOf x.need tbl, k, x.o⟩ :: L)
      | none => none
def countNew : List Oper → Nat
  | [] => 0
  | o :: r => bif creates o.op then countNew r + 1 else countNew r
def refC (v : AV) : List Nat := v.cells.flatMap ref1
inductive Fp where
  | rd (R : List Nat)
  | wr (Z W : List Nat)
  | sh (F n : Nat)
  | all
def outF (F n : Nat) (l : List Nat) : Bool := l.all fun o => !(bit F o) && Nat.blt o n
def disj (a b : List Nat) : Bool := a.all fun x => b.all fun y => !(Nat.beq x y)
def okF : Fp → Fp → Bool
  | .rd _, .rd _ => true
  | .rd R, .wr _ W => disj R W
  | .wr _ W, .rd R => disj R W
  | .wr Z W, .wr Z' W' => disj (Z ++ W) (Z' ++ W')
  | .rd R, .sh F n => outF F n R
  | .sh F n, .rd R => outF F n R
  | .wr Z W, .sh F n => outF F n (Z ++ W)
  | .sh F n, .wr Z W => outF F n (Z ++ W)
  | .all, .rd [] => true
  | .rd [], .all => true
  | _, _ => false
def footCall (C : Cfg) (H : Hp) (k : Nat) (args : List AV) : Fp :=
  bif C.byref k then .sh (reach H 100000 0 (refDL args)) H.length else match plains H args with
    | some _ => .wr (args.flatMap refC) []
    | none => .all
def foot (C : Cfg) (nid : Nat) (ρ : Operand → AV) (H : Hp) (op : Op) : Fp :=
  match op with
  | .alloc _ => .wr [] [nid]
  | .box .. => .wr [] [nid]
  | .makeSlice .. => .wr [] [nid]
  | .buildSlice _ _ ps => .wr (ps.toList.flatMap fun p => refC (ρ p.2)) [nid]
  | .store _ p v => .wr (refC (ρ v)) (ref1 (ρ p))
  | .move _ => .rd []
  | .assign _ => .rd []
  | .pick .. => .rd []
  | .build .. => .rd []
  | .unOp .. => .rd []
  | .convert .. => .rd []
  | .makeFunc .. => .rd []
  | .field .. => .rd []
  | .index .. => .rd []
  | .extract .. => .rd []
  | .makeMap .. => .wr [] [nid]
  | .mapUpdate _ m _ v => .wr (refC (ρ v)) (ref1 (ρ m))
  | .insert _ m _ v => .wr (refC (ρ v)) (ref1 (ρ m))
  | .mapEntry _ m _ => .wr [] (ref1 (ρ m))
  | .entryStore _ m _ v => .wr (refC (ρ v)) (ref1 (ρ m))
  | .range .. => .all
  | .next .. => .all
  | .entry .. => .all
  | .call c => match c.callee with
    | .builtin .append => .wr [] (nid :: c.args.toList.flatMap fun x => ref1 (ρ x))
    | .builtin .len => .rd (c.args.toList.flatMap fun x => ref1 (ρ x))
    | .builtin .min => .rd []
    | .builtin .max => .rd []
    | .builtin .copy => .wr [] (c.args.toList.flatMap fun x => ref1 (ρ x))
    | .builtin .clear => .wr [] (c.args.toList.flatMap fun x => ref1 (ρ x))
    | .value f => match ρ f with
      | .pl (.fn k) => footCall C H k (c.args.toList.map ρ)
      | .clo k cs => footCall C H k (c.args.toList.map ρ ++ cs)
      | _ => .all
    | _ => .all
  | op => .rd (op.operands.toList.flatMap fun x => ref1 (ρ x))
def okLen (H H' : Hp) : Fp → Bool
  | .all => Nat.ble H.length H'.length
  | .sh _ _ => Nat.ble H.length H'.length
  | _ => true
def stepD (C : Cfg) (call : Bool → Nat → List AV → Hp → Outs (AV × Hp)) (n : Nat) (ops : List Oper) (base : Nat) (x : It) (st : Tr × Hp) : Option ((Tr × Hp) × Fp) :=
  match want ops st.1 x.o.guard with
  | none => none
  | some false => some ((putO n st.1 x.o.dst (.tup []), st.2), .rd [])
  | some true => match evOp C call (base + x.nid) (val st.1) st.2 x.o.op with
    | some [r] => bif okLen st.2 r.2 (foot C (base + x.nid) (val st.1) st.2 x.o.op) then some ((putO n st.1 x.o.dst r.1, r.2), foot C (base + x.nid) (val st.1) st.2 x.o.op) else none
    | _ => none
def okP (a b : Oper) : Bool :=
  match a.guard, b.guard with
  | none, none => (match a.op, b.op with
    | .lookup t _ _ false, .mapEntry t' _ _ => Nat.beq t t'
    | .mapEntry t' _ _, .lookup t _ _ false => Nat.beq t t'
    | _, _ => false)
  | _, _ => false
def cross (q : It × Fp) (x : It) (fp : Fp) : Bool := bit x.anc q.1.i || (okP q.1.o x.o || okF q.2 fp)
def evDL (C : Cfg) (call : Bool → Nat → List AV → Hp → Outs (AV × Hp)) (n : Nat) (ops : List Oper) (base : Nat) : List It → List (It × Fp) → Tr × Hp → Option (Tr × Hp)
  | [], _, st => some st
  | x :: L, recs, st => match stepD C call n ops base x st with
    | none => none
    | some (st1, fp) => bif recs.all (fun r => cross r x fp) then evDL C call n ops base L ((x, fp) :: recs) st1 else none
def evDrawn (C : Cfg) (call : Bool → Nat → List AV → Hp → Outs (AV × Hp)) (n : Nat) (ops : List Oper) (st : Tr × Hp) : Option (Tr × Hp) :=
  match plan ops.length 0 0 [] (items 0 ops) with
  | none => none
  | some L => evDL C call n ops st.2.length L [] (st.1, st.2 ++ List.replicate (countNew ops + 1) none)
inductive Ex where
  | norm | exit (i : Nat) | ret | pan (ch : List PanicEntry)
def iter (body : Tr × Hp → Outs (Ex × Tr × Hp)) : Nat → Tr × Hp → Outs (Ex × Tr × Hp)
  | 0, _ => none
  | f + 1, st => bindO (body st) fun r => match r.1 with
    | .norm => iter body f r.2
    | _ => some [r]
def initS : List AV → Nat → Tr → Tr
  | [], _, s => s
  | v :: r, i, s => initS r (i + 1) (s.put 12 i v)
def evRes (C : Cfg) (s : Tr) (H : Hp) : ResultVar → Option AV
  | .tmp t => some (s.get 12 t)
  | .cell a t => evLoad C H t (s.get 12 a)
def evResL (C : Cfg) (s : Tr) (H : Hp) : List ResultVar → Option (List AV)
  | [] => some []
  | r :: l => match evRes C s H r with
    | some v => (evResL C s H l).map (v :: ·)
    | none => none
def evRet (C : Cfg) (s : Tr) (H : Hp) (l : List ResultVar) : Option AV :=
  match evResL C s H l with
  | some [v] => some v
  | some vs => some (.tup vs)
  | none => none

end Go.Proofs.Ytelblamgfbkhbaa
namespace Go.Proofs.Ytelblamgfbkhbaa
set_option linter.unusedSimpArgs false
set_option linter.unusedVariables false
open Go.RowKit

def flOk : Fl → Option Addr → Nat → Prop
  | .nil, A, c => A = none ∧ c = 0
  | .zc, _, c => c = 0
  | .any, _, _ => True
mutual
def PR (w : World) (Y : Nat → Prop) : PV → Value → Prop
  | .int k n, v => v = .int k n
  | .bool b, v => v = .bool b
  | .str s, v => v = .string s
  | .agg cs, v => ∃ vs : List Value, v = .agg vs.toArray ∧ PRL w Y cs vs
  | .sl f sz es, v => ∃ A c, v = .slice A es.length c ∧ es.length ≤ c ∧ c ≤ maxLen ∧ flOk f A c ∧ (es.length = 0 ∨ ∃ b o, A = some ⟨b, o, none⟩ ∧ ¬ Y b ∧ b < w.heap.size ∧ PRE w Y b sz o es)
  | .fn f, v => v = .func (.func f) #[] #[]
  | .nilf, v => v = .nilFunc
  | .nilp, v => v = .pointer none
  | .nilm, v => v = .map none
  | .nili, v => v = .nilIface
  | .ifc t x, v => ∃ y, v = .iface t y ∧ PR w Y x y
def PRL (w : World) (Y : Nat → Prop) : List PV → List Value → Prop
  | [], vs => vs = []
  | c :: cs, vs => ∃ v r, vs = v :: r ∧ oneP c = true ∧ PR w Y c v ∧ PRL w Y cs r
def PRC (w : World) (Y : Nat → Prop) (b : Nat) : Nat → List PV → Prop
  | _, [] => True
  | o, c :: cs => (∃ v, w.cell? ⟨b, o, none⟩ = some v ∧ oneP c = true ∧ PR w Y c v) ∧ PRC w Y b (o + 1) cs
def PRE (w : World) (Y : Nat → Prop) (b sz : Nat) : Nat → List (List PV) → Prop
  | _, [] => True
  | o, e :: es => e.length = sz ∧ PRC w Y b o e ∧ PRE w Y b sz (o + sz) es
end

structure Loc where
  A : Option (Nat × Nat)
  n : Nat
  c : Nat
  sz : Nat
inductive Pl where
  | fresh | dead | at (z : Bool) (l : Loc)
abbrev Phi := Nat → Pl
def Loc.addr (l : Loc) (i : Nat) : Option Addr := l.A.map fun a => ⟨a.1, a.2 + i * l.sz, none⟩
def blkOf (φ : Phi) (b : Nat) : Prop := ∃ o l p, φ o = .at false l ∧ l.A = some (b, p)
mutual
def VR (w : World) (Y : Nat → Prop) (φ : Phi) : AV → Value → Prop
  | .pl p, v => PR w Y p v
  | .un, _ => True
  | .agg cs, v => ∃ vs : List Value, v = .agg vs.toArray ∧ VRL w Y φ cs vs
  | .tup cs, v => ∃ vs : List Value, v = .tuple vs.toArray ∧ VRT w Y φ cs vs
  | .clo f cs, v => ∃ vs : List Value, v = .func (.func f) #[] vs.toArray ∧ VRT w Y φ cs vs
  | .own o, v => v.oneCell' = true ∧ φ o ≠ .fresh ∧ ∀ z l, φ o = .at z l → v = .slice (l.addr 0) l.n l.c
  | .vw o off len, v => v.oneCell' = true ∧ φ o ≠ .fresh ∧ ∀ z l, φ o = .at z l → ∃ A c, v = .slice A len c ∧ off + len ≤ l.n ∧ c + off = l.c ∧ (0 < c → A = l.addr off ∧ A ≠ none)
  | .bp o i, v => v.oneCell' = true ∧ φ o ≠ .fresh ∧ ∀ z l, φ o = .at z l → ∃ b, l.A = some (b, 0) ∧ v = .pointer (some ⟨b, i, none⟩)
  | .ep o i j, v => v.oneCell' = true ∧ φ o ≠ .fresh ∧ ∀ z l, φ o = .at z l → ∃ b p, l.A = some (b, p) ∧ v = .pointer (some ⟨b, p + i * l.sz + j, none⟩)
  | .ip cs i, v => ∃ b o, v = .pointer (some ⟨b, o + i, none⟩) ∧ ¬ Y b ∧ b < w.heap.size ∧ PRC w Y b o cs
  | .mp o, v => v.oneCell' = true ∧ φ o ≠ .fresh ∧ ∀ z l, φ o = .at z l → ∃ b, l.A = some (b, 0) ∧ v = .map (some b)
  | .it o, v => v.oneCell' = true ∧ φ o ≠ .fresh ∧ ∀ z l, φ o = .at z l → ∃ b, l.A = some (b, 0) ∧ v = .pointer (some ⟨b, 0, none⟩)
def VRL (w : World) (Y : Nat → Prop) (φ : Phi) : List AV → List Value → Prop
  | [], vs => vs = []
  | c :: cs, vs => ∃ v r, vs = v :: r ∧ oneA c = true ∧ VR w Y φ c v ∧ VRL w Y φ cs r
def VRT (w : World) (Y : Nat → Prop) (φ : Phi) : List AV → List Value → Prop
  | [], vs => vs = []
  | c :: cs, vs => ∃ v r, vs = v :: r ∧ VR w Y φ c v ∧ VRT w Y φ cs r
end

def MR (w : World) (Y : Nat → Prop) : Nat → List (PV × PV) → List MapEntry → Prop
  | _, [], es => es = []
  | i, (k, x) :: r, es => ∃ e es', es = e :: es' ∧ e.born = i ∧ PR w Y k e.key ∧ PR w Y x e.val ∧ MR w Y (i + 1) r es'
def OR (w : World) (Y : Nat → Prop) (φ : Phi) (z : Bool) (l : Loc) : Ob → Prop
  | .box cs => z = false ∧ ∃ b t vs, l.A = some (b, 0) ∧ w.heap[b]? = some (.cells vs.toArray t (0, 0)) ∧ VRL w Y φ cs vs
  | .row fz sz es => z = fz ∧ l.n = es.length ∧ l.sz = sz ∧ l.n ≤ l.c ∧ l.c ≤ maxLen ∧
    ((l.A = none ∧ l.c = 0) ∨ ∃ b p t cs, l.A = some (b, p) ∧ w.heap[b]? = some (.cells cs t (0, 0)) ∧ p + l.c * sz ≤ cs.size ∧ PRE w Y b sz p es ∧ (z = true → ¬ Y b))
  | .map kvs => z = false ∧ ∃ b es, l.A = some (b, 0) ∧ w.heap[b]? = some (.map es es.size) ∧ MR w Y 0 kvs es.toList
  | .iter o n seen => z = false ∧ ∃ b, l.A = some (b, 0) ∧ φ o ≠ .fresh ∧ ∀ z lo, φ o = .at z lo → ∃ m, lo.A = some (m, 0) ∧ w.heap[b]? = some (.mapIter (some m) n seen.toArray n)
def YOf (X : Nat → Prop) (φ : Phi) : Nat → Prop := fun b => X b ∨ blkOf φ b
structure HR (X : Nat → Prop) (φ : Phi) (H : Hp) (w : World) : Prop where
  fresh : ∀ o, H.length ≤ o → φ o = .fresh
  live : ∀ o z l, φ o = .at z l → ∃ x, hget H o = some x
  ob : ∀ o x, hget H o = some x → ∃ z l, φ o = .at z l ∧ OR w (YOf X φ) φ z l x
  inj : ∀ o o' l l' b p p', φ o = .at false l → φ o' = .at false l' → l.A = some (b, p) → l'.A = some (b, p') → o = o'
  out : ∀ o l b p, φ o = .at false l → l.A = some (b, p) → ¬ X b ∧ b < w.heap.size
  xlt : ∀ b, X b → b < w.heap.size
structure Ev (φ : Phi) (w : World) (φ' : Phi) (w' : World) : Prop where
  os : w'.os = w.os
  tape : w'.tape = w.tape
  output : w'.output = w.output ∧ w.drawn ≤ w'.drawn
  size : w.heap.size ≤ w'.heap.size
  heap : ∀ b, b < w.heap.size → ¬ blkOf φ b → w'.heap[b]? = w.heap[b]?
  blk : ∀ b, b < w.heap.size → blkOf φ' b → blkOf φ b
  ids : ∀ o, φ o ≠ .fresh → φ' o = φ o ∨ φ' o = .dead ∨ ∃ l, φ o = .at false l ∧ φ' o = .at true l

section
variable {w w' w'' : World} {Y Y' X : Nat → Prop} {φ φ' φ'' : Phi}
theorem Ev.refl (φ : Phi) (w : World) : Ev φ w φ w := ⟨rfl, rfl, ⟨rfl, Nat.le_refl _⟩, Nat.le_refl _, fun _ _ _ => rfl, fun _ _ h => h, fun _ _ => .inl rfl⟩
theorem Ev.trans (h : Ev φ w φ' w') (k : Ev φ' w' φ'' w'') : Ev φ w φ'' w'' where
  os := k.os.trans h.os
  tape := k.tape.trans h.tape
  output := ⟨k.output.1.trans h.output.1, Nat.le_trans h.output.2 k.output.2⟩
  size := Nat.le_trans h.size k.size
  heap b hb hn := (k.heap b (Nat.lt_of_lt_of_le hb h.size) (fun hc => hn (h.blk b hb hc))).trans (h.heap b hb hn)
  blk b hb hc := h.blk b hb (k.blk b (Nat.lt_of_lt_of_le hb h.size) hc)
  ids o hf := by
    rcases h.ids o hf with h1 | h1 | ⟨l, h0, h1⟩
    · rcases k.ids o (by rw [h1]; exact hf) with h2 | h2 | ⟨l, h2, h3⟩
      · exact .inl (h2.trans h1)
      · exact .inr (.inl h2)
      · exact .inr (.inr ⟨l, h1.symm.trans h2, h3⟩)
    · rcases k.ids o (by rw [h1]; intro h; cases h) with h2 | h2 | ⟨l, h2, _⟩
      · exact .inr (.inl (h2.trans h1))
      · exact .inr (.inl h2)
      · rw [h1] at h2; cases h2
    · rcases k.ids o (by rw [h1]; intro h; cases h) with h2 | h2 | ⟨l', h2, _⟩
      · exact .inr (.inr ⟨l, h0, h2.trans h1⟩)
      · exact .inr (.inl h2)
      · rw [h1] at h2; cases h2


structure Stay (w : World) (Y : Nat → Prop) (w' : World) (Y' : Nat → Prop) : Prop where
  size : w.heap.size ≤ w'.heap.size
  heap : ∀ b, b < w.heap.size → ¬ Y b → w'.heap[b]? = w.heap[b]?
  sub : ∀ b, b < w.heap.size → Y' b → Y b
theorem lt_of_cell {a : Addr} {v : Value} (h : w.cell? a = some v) : a.block < w.heap.size := by
  rcases Nat.lt_or_ge a.block w.heap.size with hlt | hge
  · exact hlt
  · simp [World.cell?, Array.getElem?_eq_none hge] at h
theorem Stay.cell (h : Stay w Y w' Y') {b o : Nat} {v : Value} (hb : ¬ Y b) (hc : w.cell? ⟨b, o, none⟩ = some v) : w'.cell? ⟨b, o, none⟩ = some v := by
  rw [← hc]; exact World.cell?_of_block (a := ⟨b, o, none⟩) (h.heap b (lt_of_cell hc) hb)
mutual
theorem PR.stay (h : Stay w Y w' Y') : ∀ (p : PV) (v : Value), PR w Y p v → PR w' Y' p v
  | .int _ _, _, hp => by simpa only [PR] using hp
  | .bool _, _, hp => by simpa only [PR] using hp
  | .str _, _, hp => by simpa only [PR] using hp
  | .agg cs, v, hp => by
    simp only [PR] at hp ⊢
    obtain ⟨vs, hv, hl⟩ := hp
    exact ⟨vs, hv, PRL.stay h cs vs hl⟩
  | .sl f sz es, v, hp => by
    simp only [PR] at hp ⊢
    obtain ⟨A, c, hv, h1, h2, h3, h4⟩ := hp
    refine ⟨A, c, hv, h1, h2, h3, ?_⟩
    rcases h4 with h4 | ⟨b, o, hA, hY, hlt, hE⟩
    · exact .inl h4
    · exact .inr ⟨b, o, hA, fun hc => hY (h.sub b hlt hc), Nat.lt_of_lt_of_le hlt h.size, PRE.stay h (fun _ _ => h.cell hY) o es hE⟩
  | .fn _, _, hp => by simpa only [PR] using hp
  | .nilf, _, hp => by simpa only [PR] using hp
  | .nilp, _, hp => by simpa only [PR] using hp
  | .nilm, _, hp => by simpa only [PR] using hp
  | .nili, _, hp => by simpa only [PR] using hp
  | .ifc _ x, v, hp => by
    simp only [PR] at hp ⊢
    obtain ⟨y, hv, hx⟩ := hp
    exact ⟨y, hv, PR.stay h x y hx⟩
theorem PRL.stay (h : Stay w Y w' Y') : ∀ (cs : List PV) (vs : List Value), PRL w Y cs vs → PRL w' Y' cs vs
  | [], _, hp => by simpa only [PRL] using hp
  | c :: cs, vs, hp => by
    simp only [PRL] at hp ⊢
    obtain ⟨v, r, e, ho, hc, hr⟩ := hp
    exact ⟨v, r, e, ho, PR.stay h c v hc, PRL.stay h cs r hr⟩
theorem PRC.stay (h : Stay w Y w' Y') {b : Nat} (hb : ∀ o v, w.cell? ⟨b, o, none⟩ = some v → w'.cell? ⟨b, o, none⟩ = some v) : ∀ (o : Nat) (cs : List PV), PRC w Y b o cs → PRC w' Y' b o cs
  | _, [], _ => by simp only [PRC]
  | o, c :: cs, hp => by
    simp only [PRC] at hp ⊢
    obtain ⟨⟨v, hv, ho, hc⟩, hr⟩ := hp
    exact ⟨⟨v, hb o v hv, ho, PR.stay h c v hc⟩, PRC.stay h hb (o + 1) cs hr⟩
theorem PRE.stay (h : Stay w Y w' Y') {b sz : Nat} (hb : ∀ o v, w.cell? ⟨b, o, none⟩ = some v → w'.cell? ⟨b, o, none⟩ = some v) : ∀ (o : Nat) (es : List (List PV)), PRE w Y b sz o es → PRE w' Y' b sz o es
  | _, [], _ => by simp only [PRE]
  | o, e :: es, hp => by
    simp only [PRE] at hp ⊢
    obtain ⟨hl, hc, hr⟩ := hp
    exact ⟨hl, PRC.stay h hb o e hc, PRE.stay h hb (o + sz) es hr⟩
end
theorem Ev.stay (h : Ev φ w φ' w') (X : Nat → Prop) : Stay w (YOf X φ) w' (YOf X φ') where
  size := h.size
  heap b hb hn := h.heap b hb fun hc => hn (.inr hc)
  sub b hb hc := hc.imp id (h.blk b hb)
theorem Ev.at (h : Ev φ w φ' w') {o : Nat} {p : Loc → Prop} (hp : φ o ≠ .fresh ∧ ∀ z l, φ o = .at z l → p l) : φ' o ≠ .fresh ∧ ∀ z l, φ' o = .at z l → p l := by
  rcases h.ids o hp.1 with e | e | ⟨l, e0, e⟩
  · rw [e]; exact hp
  · rw [e]; exact ⟨(fun k => by cases k), (fun z l k => by cases k)⟩
  · rw [e]; exact ⟨(fun k => by cases k), (fun z l' k => by cases k; exact hp.2 _ _ e0)⟩
mutual
theorem VR.stay (h : Ev φ w φ' w') (X : Nat → Prop) : ∀ (a : AV) (v : Value), VR w (YOf X φ) φ a v → VR w' (YOf X φ') φ' a v
  | .pl p, v, ha => by
    simp only [VR] at ha ⊢; exact PR.stay (h.stay X) p v ha
  | .un, _, _ => by simp only [VR]
  | .agg cs, v, ha => by
    simp only [VR] at ha ⊢
    obtain ⟨vs, e, hl⟩ := ha
    exact ⟨vs, e, VRL.stay h X cs vs hl⟩
  | .tup cs, v, ha => by
    simp only [VR] at ha ⊢
    obtain ⟨vs, e, hl⟩ := ha
    exact ⟨vs, e, VRT.stay h X cs vs hl⟩
  | .clo f cs, v, ha => by
    simp only [VR] at ha ⊢
    obtain ⟨vs, e, hl⟩ := ha
    exact ⟨vs, e, VRT.stay h X cs vs hl⟩
  | .own o, v, ha => by simp only [VR] at ha ⊢; exact ⟨ha.1, h.at ha.2⟩
  | .vw o off len, v, ha => by simp only [VR] at ha ⊢; exact ⟨ha.1, h.at ha.2⟩
  | .bp o i, v, ha => by simp only [VR] at ha ⊢; exact ⟨ha.1, h.at ha.2⟩
  | .ep o i j, v, ha => by simp only [VR] at ha ⊢; exact ⟨ha.1, h.at ha.2⟩
  | .ip cs i, v, ha => by
    simp only [VR] at ha ⊢
    obtain ⟨b, o, e, hY, hlt, hc⟩ := ha
    exact ⟨b, o, e, fun hc => hY ((h.stay X).sub b hlt hc), Nat.lt_of_lt_of_le hlt h.size, PRC.stay (h.stay X) (fun _ _ => (h.stay X).cell hY) o cs hc⟩
  | .mp o, v, ha => by simp only [VR] at ha ⊢; exact ⟨ha.1, h.at ha.2⟩
  | .it o, v, ha => by simp only [VR] at ha ⊢; exact ⟨ha.1, h.at ha.2⟩
theorem VRL.stay (h : Ev φ w φ' w') (X : Nat → Prop) : ∀ (cs : List AV) (vs : List Value), VRL w (YOf X φ) φ cs vs → VRL w' (YOf X φ') φ' cs vs
  | [], _, hp => by simpa only [VRL] using hp
  | c :: cs, vs, hp => by
    simp only [VRL] at hp ⊢
    obtain ⟨v, r, e, ho, hc, hr⟩ := hp
    exact ⟨v, r, e, ho, VR.stay h X c v hc, VRL.stay h X cs r hr⟩
theorem VRT.stay (h : Ev φ w φ' w') (X : Nat → Prop) : ∀ (cs : List AV) (vs : List Value), VRT w (YOf X φ) φ cs vs → VRT w' (YOf X φ') φ' cs vs
  | [], _, hp => by simpa only [VRT] using hp
  | c :: cs, vs, hp => by
    simp only [VRT] at hp ⊢
    obtain ⟨v, r, e, hc, hr⟩ := hp
    exact ⟨v, r, e, VR.stay h X c v hc, VRT.stay h X cs r hr⟩
end
theorem MR.stay (h : Stay w Y w' Y') : ∀ (i : Nat) (kvs : List (PV × PV)) (es : List MapEntry), MR w Y i kvs es → MR w' Y' i kvs es
  | _, [], _, hm => by simpa only [MR] using hm
  | i, (k, x) :: r, es, hm => by
    simp only [MR] at hm ⊢
    obtain ⟨e, es', he, hb, hk, hx, hr⟩ := hm
    exact ⟨e, es', he, hb, PR.stay h k _ hk, PR.stay h x _ hx, MR.stay h (i + 1) r es' hr⟩


theorem PRL.length : ∀ {cs : List PV} {vs : List Value}, PRL w Y cs vs → vs.length = cs.length
  | [], vs, h => by simp only [PRL] at h; subst h; rfl
  | c :: cs, vs, h => by
    simp only [PRL] at h
    obtain ⟨v, r, rfl, _, _, hr⟩ := h
    simp [PRL.length hr]
theorem VRL.length : ∀ {cs : List AV} {vs : List Value}, VRL w Y φ cs vs → vs.length = cs.length
  | [], vs, h => by simp only [VRL] at h; subst h; rfl
  | c :: cs, vs, h => by
    simp only [VRL] at h
    obtain ⟨v, r, rfl, _, _, hr⟩ := h
    simp [VRL.length hr]
theorem VRT.length : ∀ {cs : List AV} {vs : List Value}, VRT w Y φ cs vs → vs.length = cs.length
  | [], vs, h => by simp only [VRT] at h; subst h; rfl
  | c :: cs, vs, h => by
    simp only [VRT] at h
    obtain ⟨v, r, rfl, _, hr⟩ := h
    simp [VRT.length hr]
theorem VRL.at : ∀ {cs : List AV} {vs : List Value}, VRL w Y φ cs vs → ∀ {i : Nat} {c : AV}, cs[i]? = some c → ∃ v, vs[i]? = some v ∧ oneA c = true ∧ VR w Y φ c v
  | [], _, _, i, c, hi => by simp at hi
  | c :: cs, vs, h, i, d, hi => by
    simp only [VRL] at h
    obtain ⟨v, r, rfl, ho, hc, hr⟩ := h
    cases i with
    | zero => simp at hi; subst hi; exact ⟨v, by simp, ho, hc⟩
    | succ i => simp at hi; simpa using VRL.at hr hi
theorem VRT.at : ∀ {cs : List AV} {vs : List Value}, VRT w Y φ cs vs → ∀ {i : Nat} {c : AV}, cs[i]? = some c → ∃ v, vs[i]? = some v ∧ VR w Y φ c v
  | [], _, _, i, c, hi => by simp at hi
  | c :: cs, vs, h, i, d, hi => by
    simp only [VRT] at h
    obtain ⟨v, r, rfl, hc, hr⟩ := h
    cases i with
    | zero => simp at hi; subst hi; exact ⟨v, by simp, hc⟩
    | succ i => simp at hi; simpa using VRT.at hr hi
theorem VRL.append : ∀ {cs ds : List AV} {vs us : List Value}, VRL w Y φ cs vs → VRL w Y φ ds us → VRL w Y φ (cs ++ ds) (vs ++ us)
  | [], ds, vs, us, h, k => by simp only [VRL] at h; subst h; exact k
  | c :: cs, ds, vs, us, h, k => by
    simp only [VRL] at h
    obtain ⟨v, r, rfl, ho, hc, hr⟩ := h
    simp only [List.cons_append, VRL]
    exact ⟨v, r ++ us, rfl, ho, hc, VRL.append hr k⟩
theorem PRL.append : ∀ {cs ds : List PV} {vs us : List Value}, PRL w Y cs vs → PRL w Y ds us → PRL w Y (cs ++ ds) (vs ++ us)
  | [], ds, vs, us, h, k => by simp only [PRL] at h; subst h; exact k
  | c :: cs, ds, vs, us, h, k => by
    simp only [PRL] at h
    obtain ⟨v, r, rfl, ho, hc, hr⟩ := h
    simp only [List.cons_append, PRL]
    exact ⟨v, r ++ us, rfl, ho, hc, PRL.append hr k⟩
theorem VRT.append : ∀ {cs ds : List AV} {vs us : List Value}, VRT w Y φ cs vs → VRT w Y φ ds us → VRT w Y φ (cs ++ ds) (vs ++ us)
  | [], ds, vs, us, h, k => by simp only [VRT] at h; subst h; exact k
  | c :: cs, ds, vs, us, h, k => by
    simp only [VRT] at h
    obtain ⟨v, r, rfl, hc, hr⟩ := h
    simp only [List.cons_append, VRT]
    exact ⟨v, r ++ us, rfl, hc, VRT.append hr k⟩
theorem VRL.drop : ∀ {cs : List AV} {vs : List Value}, VRL w Y φ cs vs → ∀ n, VRL w Y φ (cs.drop n) (vs.drop n)
  | [], vs, h, n => by simp only [VRL] at h; subst h; simp [VRL]
  | c :: cs, vs, h, 0 => by simpa using h
  | c :: cs, vs, h, n + 1 => by
    simp only [VRL] at h
    obtain ⟨v, r, rfl, ho, hc, hr⟩ := h
    simpa using VRL.drop hr n
theorem VRL.take : ∀ {cs : List AV} {vs : List Value}, VRL w Y φ cs vs → ∀ n, VRL w Y φ (cs.take n) (vs.take n)
  | [], vs, h, n => by simp only [VRL] at h; subst h; simp [VRL]
  | c :: cs, vs, h, 0 => by simp [VRL]
  | c :: cs, vs, h, n + 1 => by
    simp only [VRL] at h
    obtain ⟨v, r, rfl, ho, hc, hr⟩ := h
    simp only [List.take_succ_cons, VRL]
    exact ⟨v, r.take n, rfl, ho, hc, VRL.take hr n⟩
theorem PRL.vrl : ∀ {cs : List PV} {vs : List Value}, PRL w Y cs vs → VRL w Y φ (cs.map .pl) vs
  | [], vs, h => by simp only [PRL] at h; subst h; simp [VRL]
  | c :: cs, vs, h => by
    simp only [PRL] at h
    obtain ⟨v, r, rfl, ho, hc, hr⟩ := h
    simp only [List.map_cons, VRL]
    exact ⟨v, r, rfl, by cases c <;> simp_all [oneA, oneP], by simpa only [VR] using hc, PRL.vrl hr⟩
theorem VRL.prl : ∀ {cs : List AV} {ps : List PV} {vs : List Value}, allPl cs = some ps → VRL w Y φ cs vs → PRL w Y ps vs
  | [], ps, vs, hp, h => by simp [allPl] at hp; subst hp; simp only [VRL] at h; subst h; simp [PRL]
  | .pl p :: cs, ps, vs, hp, h => by
    simp only [allPl, Option.map_eq_some_iff] at hp
    obtain ⟨qs, hq, rfl⟩ := hp
    simp only [VRL] at h
    obtain ⟨v, r, rfl, ho, hc, hr⟩ := h
    simp only [PRL]
    exact ⟨v, r, rfl, by cases p <;> simp_all [oneA, oneP], by simpa only [VR] using hc, VRL.prl hq hr⟩
  | .un :: cs, ps, vs, hp, h => by simp [allPl] at hp
  | .agg _ :: cs, ps, vs, hp, h => by simp [allPl] at hp
  | .tup _ :: cs, ps, vs, hp, h => by simp [allPl] at hp
  | .clo _ _ :: cs, ps, vs, hp, h => by simp [allPl] at hp
  | .own _ :: cs, ps, vs, hp, h => by simp [allPl] at hp
  | .vw _ _ _ :: cs, ps, vs, hp, h => by simp [allPl] at hp
  | .bp _ _ :: cs, ps, vs, hp, h => by simp [allPl] at hp
  | .ep _ _ _ :: cs, ps, vs, hp, h => by simp [allPl] at hp
  | .ip _ _ :: cs, ps, vs, hp, h => by simp [allPl] at hp
  | .mp _ :: cs, ps, vs, hp, h => by simp [allPl] at hp
  | .it _ :: cs, ps, vs, hp, h => by simp [allPl] at hp
theorem VR.mkAgg {cs : List AV} {vs : List Value} (h : VRL w Y φ cs vs) : VR w Y φ (mkAgg cs) (.agg vs.toArray) := by
  unfold Go.Proofs.Ytelblamgfbkhbaa.mkAgg
  split
  · rename_i ps hp
    simp only [VR, PR]
    exact ⟨vs, rfl, VRL.prl hp h⟩
  · simp only [VR]
    exact ⟨vs, rfl, h⟩


theorem hget_put {H : Hp} {x : Ob} {n o : Nat} (hn : n ≤ H.length) : hget (hput H n x) o = if o = n then some x else hget H o := by
  unfold hput
  cases hb : Nat.blt n H.length with
  | true =>
    rw [Nat.blt_eq] at hb
    simp only [cond_true]
    unfold hget
    by_cases h : o = n
    · subst h; rw [if_pos rfl, List.getElem?_set_self hb]
    · rw [if_neg h, List.getElem?_set_ne (fun e => h e.symm)]
  | false =>
    have he : n = H.length := by
      have : ¬ n < H.length := fun h => by rw [← Nat.blt_eq, hb] at h; cases h
      omega
    subst he
    simp only [cond_false]
    unfold hget
    by_cases h : o = H.length
    · subst h; simp
    · rw [if_neg h]
      rcases Nat.lt_or_ge o H.length with hlt | hge
      · rw [List.getElem?_append_left hlt]
      · rw [List.getElem?_eq_none (by simp; omega), List.getElem?_eq_none hge]
theorem length_put {H : Hp} {x : Ob} {n : Nat} : H.length ≤ (hput H n x).length ∧ n < (hput H n x).length ∨ ¬ n ≤ H.length := by
  unfold hput
  cases hb : Nat.blt n H.length with
  | true => rw [Nat.blt_eq] at hb; left; simp; omega
  | false =>
    by_cases h : n ≤ H.length
    · left; simp; omega
    · exact .inr h
theorem length_put' {H : Hp} {x : Ob} {n : Nat} (h : n ≤ H.length) : H.length ≤ (hput H n x).length ∧ n < (hput H n x).length := length_put.resolve_right fun k => k h
theorem hget_lt {H : Hp} {x : Ob} {o : Nat} (h : hget H o = some x) : o < H.length := by
  unfold hget at h
  rcases Nat.lt_or_ge o H.length with hlt | hge
  · exact hlt
  · rw [List.getElem?_eq_none hge] at h; cases h
theorem hget_set {H : Hp} {y : Option Ob} {o o' : Nat} (ho : o < H.length) : hget (hset H o y) o' = if o' = o then y else hget H o' := by
  unfold hget hset
  by_cases h : o' = o
  · subst h; rw [if_pos rfl, List.getElem?_set_self ho]; cases y <;> rfl
  · rw [if_neg h, List.getElem?_set_ne (fun e => h e.symm)]
theorem length_set {H : Hp} {y : Option Ob} {o : Nat} : (hset H o y).length = H.length := by simp [hset]
def Phi.set (φ : Phi) (o : Nat) (p : Pl) : Phi := fun k => if k = o then p else φ k
theorem Phi.set_self {o : Nat} {p : Pl} : φ.set o p o = p := by simp [Phi.set]
theorem Phi.set_ne {o k : Nat} {p : Pl} (h : k ≠ o) : φ.set o p k = φ k := by simp [Phi.set, h]
theorem HR.lt {H : Hp} (h : HR X φ H w) {o : Nat} {z : Bool} {l : Loc} (hl : φ o = .at z l) : o < H.length := by
  rcases Nat.lt_or_ge o H.length with hlt | hge
  · exact hlt
  · rw [h.fresh o hge] at hl; cases hl
theorem OR.stay (h : Ev φ w φ' w') (X : Nat → Prop) {z : Bool} {l : Loc} {x : Ob} (hb : z = false → ∀ b p, l.A = some (b, p) → w'.heap[b]? = w.heap[b]?) (ho : OR w (YOf X φ) φ z l x) : OR w' (YOf X φ') φ' z l x := by
  cases x with
  | box cs =>
    simp only [OR] at ho ⊢
    obtain ⟨hz, b, t, vs, hA, hg, hv⟩ := ho
    exact ⟨hz, b, t, vs, hA, by rw [hb hz b 0 hA]; exact hg, VRL.stay h X cs vs hv⟩
  | row fz sz es =>
    simp only [OR] at ho ⊢
    obtain ⟨hz, h1, h2, h3, h4, h5⟩ := ho
    refine ⟨hz, h1, h2, h3, h4, h5.imp id ?_⟩
    rintro ⟨b, p, t, cs, hA, hg, hs, hE, hY⟩
    have hlt : b < w.heap.size := by
      rcases Nat.lt_or_ge b w.heap.size with hlt | hge
      · exact hlt
      · rw [Array.getElem?_eq_none hge] at hg; cases hg
    have hbb : w'.heap[b]? = w.heap[b]? := by
      cases z with
      | false => exact hb rfl b p hA
      | true => exact (h.stay X).heap b hlt (hY rfl)
    exact ⟨b, p, t, cs, hA, by rw [hbb]; exact hg, hs, PRE.stay (h.stay X) (fun o v hv => by rw [World.cell?_of_block (w := w) (a := ⟨b, o, none⟩) hbb]; exact hv) p es hE, fun hz hc => hY hz ((h.stay X).sub b hlt hc)⟩
  | map kvs =>
    simp only [OR] at ho ⊢
    obtain ⟨hz, b, es, hA, hg, hm⟩ := ho
    exact ⟨hz, b, es, hA, by rw [hb hz b 0 hA]; exact hg, MR.stay (h.stay X) 0 kvs es.toList hm⟩
  | iter o n seen =>
    simp only [OR] at ho ⊢
    obtain ⟨hz, b, hA, hn, hm⟩ := ho
    have := h.at (p := fun lo => ∃ m, lo.A = some (m, 0) ∧ w.heap[b]? = some (.mapIter (some m) n seen.toArray n)) ⟨hn, hm⟩
    exact ⟨hz, b, hA, this.1, fun z lo hlo => by
      obtain ⟨m, h1, h2⟩ := this.2 z lo hlo
      exact ⟨m, h1, by rw [hb hz b 0 hA]; exact h2⟩⟩
theorem HR.next {H H' : Hp} (h : HR X φ H w) (ev : Ev φ w φ' w') (fresh : ∀ o, H'.length ≤ o → φ' o = .fresh) (live : ∀ o z l, φ' o = .at z l → ∃ x, hget H' o = some x)
    (ob : ∀ o x, hget H' o = some x → (hget H o = some x ∧ φ' o = φ o ∧ ∀ l b p, φ o = .at false l → l.A = some (b, p) → w'.heap[b]? = w.heap[b]?) ∨ ∃ z l, φ' o = .at z l ∧ OR w' (YOf X φ') φ' z l x)
    (at_ : ∀ o l b p, φ' o = .at false l → l.A = some (b, p) → φ o = .at false l ∨ (¬ X b ∧ b < w'.heap.size ∧ ∀ o' l' p', φ' o' = .at false l' → l'.A = some (b, p') → o' = o)) : HR X φ' H' w' where
  fresh := fresh
  live := live
  ob o x hx := by
    rcases ob o x hx with ⟨h1, h2, h3⟩ | h1
    · obtain ⟨z, l, hl, hO⟩ := h.ob o x h1
      exact ⟨z, l, h2.trans hl, OR.stay ev X (fun hz b p hA => h3 l b p (by rw [← hz]; exact hl) hA) hO⟩
    · exact h1
  inj o o' l l' b p p' ho ho' hA hA' := by
    rcases at_ o l b p ho hA with h1 | ⟨_, _, h1⟩
    · rcases at_ o' l' b p' ho' hA' with h2 | ⟨_, _, h2⟩
      · exact h.inj o o' l l' b p p' h1 h2 hA hA'
      · exact h2 o l p ho hA
    · exact (h1 o' l' p' ho' hA').symm
  out o l b p ho hA := by
    rcases at_ o l b p ho hA with h1 | ⟨h1, h2, _⟩
    · have := h.out o l b p h1 hA; exact ⟨this.1, Nat.lt_of_lt_of_le this.2 ev.size⟩
    · exact ⟨h1, h2⟩
  xlt b hb := Nat.lt_of_lt_of_le (h.xlt b hb) ev.size
structure Free (φ : Phi) (H : Hp) (n : Nat) : Prop where
  fr : φ n = .fresh
  le : n ≤ H.length
theorem HR.free {H : Hp} (h : HR X φ H w) : Free φ H H.length := ⟨h.fresh _ (Nat.le_refl _), Nat.le_refl _⟩
theorem Ev.new {n : Nat} (hf : φ n = .fresh) (ob : Obj) (l : Loc) (hA : ∀ b p, l.A = some (b, p) → w.heap.size ≤ b) : Ev φ w (φ.set n (.at false l)) (w.alloc ob) where
  os := rfl
  tape := rfl
  output := ⟨rfl, Nat.le_refl _⟩
  size := by simp
  heap b hb _ := Below.heap_alloc w ob b hb
  blk b hb hc := by
    obtain ⟨o, l', p, ho, hA'⟩ := hc
    by_cases e : o = n
    · subst e; rw [Phi.set_self] at ho; cases ho; have := hA b p hA'; omega
    · rw [Phi.set_ne e] at ho; exact ⟨o, l', p, ho, hA'⟩
  ids o hne := by
    left
    refine Phi.set_ne fun e => hne ?_
    rw [e]; exact hf
theorem HR.new {H : Hp} {n : Nat} (h : HR X φ H w) (hf : Free φ H n) (ob : Obj) (l : Loc) (x : Ob) (hA : ∀ b p, l.A = some (b, p) → b = w.heap.size)
    (hO : OR (w.alloc ob) (YOf X (φ.set n (.at false l))) (φ.set n (.at false l)) false l x) : HR X (φ.set n (.at false l)) (hput H n x) (w.alloc ob) := by
  have ev := Ev.new (w := w) hf.fr ob l (fun b p e => by rw [hA b p e]; exact Nat.le_refl _)
  have hlen := length_put' (x := x) hf.le
  refine h.next ev (fun o ho => ?_) (fun o z l' ho => ?_) (fun o y hy => ?_) (fun o l' b p ho hA' => ?_)
  · rw [Phi.set_ne (by omega)]; exact h.fresh o (by omega)
  · by_cases e : o = n
    · exact ⟨x, by rw [hget_put hf.le, if_pos e]⟩
    · rw [Phi.set_ne e] at ho
      obtain ⟨y, hy⟩ := h.live o z l' ho
      exact ⟨y, by rw [hget_put hf.le, if_neg e]; exact hy⟩
  · by_cases e : o = n
    · rw [hget_put hf.le, if_pos e] at hy; cases hy
      exact .inr ⟨false, l, by rw [e, Phi.set_self], hO⟩
    · rw [hget_put hf.le, if_neg e] at hy
      refine .inl ⟨hy, Phi.set_ne e, fun l' b p hl hA' => ?_⟩
      exact Below.heap_alloc w ob b (h.out o l' b p hl hA').2
  · by_cases e : o = n
    · subst e; rw [Phi.set_self] at ho; cases ho
      have hb := hA b p hA'
      subst hb
      refine .inr ⟨fun hx => by have := h.xlt _ hx; omega, by simp, fun o' l' p' ho' hA'' => ?_⟩
      by_cases e' : o' = o
      · exact e'
      · rw [Phi.set_ne e'] at ho'
        have := (h.out o' l' _ p' ho' hA'').2; omega
    · rw [Phi.set_ne e] at ho; exact .inl ho
theorem Ev.kill (o : Nat) (hl : φ o ≠ .fresh) : Ev φ w (φ.set o .dead) w where
  os := rfl
  tape := rfl
  output := ⟨rfl, Nat.le_refl _⟩
  size := Nat.le_refl _
  heap _ _ _ := rfl
  blk b _ hc := by
    obtain ⟨k, l', p, ho, hA'⟩ := hc
    by_cases e : k = o
    · subst e; rw [Phi.set_self] at ho; cases ho
    · rw [Phi.set_ne e] at ho; exact ⟨k, l', p, ho, hA'⟩
  ids k hf := by
    by_cases e : k = o
    · subst e; exact .inr (.inl Phi.set_self)
    · exact .inl (Phi.set_ne e)
theorem HR.kill {H : Hp} (h : HR X φ H w) {o : Nat} {z : Bool} {l : Loc} (hl : φ o = .at z l) : HR X (φ.set o .dead) (hset H o none) w := by
  have hlt := h.lt hl
  refine h.next (Ev.kill o (by rw [hl]; intro k; cases k)) (fun k => ?_) (fun k z l' hk => ?_) (fun k y hy => ?_) (fun k l' b p hk hA' => ?_)
  · intro hk
    rw [length_set] at hk
    rw [Phi.set_ne (by omega)]; exact h.fresh k hk
  · by_cases e : k = o
    · subst e; rw [Phi.set_self] at hk; cases hk
    · rw [Phi.set_ne e] at hk
      obtain ⟨y, hy⟩ := h.live k z l' hk
      exact ⟨y, by rw [hget_set hlt, if_neg e]; exact hy⟩
  · by_cases e : k = o
    · rw [hget_set hlt, if_pos e] at hy; cases hy
    · rw [hget_set hlt, if_neg e] at hy
      exact .inl ⟨hy, Phi.set_ne e, fun _ _ _ _ _ => rfl⟩
  · by_cases e : k = o
    · subst e; rw [Phi.set_self] at hk; cases hk
    · rw [Phi.set_ne e] at hk; exact .inl hk
theorem Ev.write {b : Nat} {l : Loc} {o p : Nat} (hl : φ o = .at false l) (hA : l.A = some (b, p)) (hos : w'.os = w.os) (htape : w'.tape = w.tape) (hout : w'.output = w.output ∧ w.drawn ≤ w'.drawn) (hsize : w'.heap.size = w.heap.size)
    (hg : ∀ k, k ≠ b → w'.heap[k]? = w.heap[k]?) : Ev φ w φ w' where
  os := hos
  tape := htape
  output := hout
  size := by omega
  heap k _ hn := hg k fun e => hn ⟨o, l, p, hl, by rw [e]; exact hA⟩
  blk _ _ h := h
  ids _ _ := .inl rfl
theorem HR.write {H : Hp} (h : HR X φ H w) {b : Nat} {l : Loc} {o p : Nat} {x : Ob} (hl : φ o = .at false l) (hA : l.A = some (b, p)) (hos : w'.os = w.os) (htape : w'.tape = w.tape) (hout : w'.output = w.output ∧ w.drawn ≤ w'.drawn) (hsize : w'.heap.size = w.heap.size)
    (hg : ∀ k, k ≠ b → w'.heap[k]? = w.heap[k]?) (hO : OR w' (YOf X φ) φ false l x) : HR X φ (hset H o (some x)) w' := by
  have hlt := h.lt hl
  refine h.next (Ev.write hl hA hos htape hout hsize hg) (fun k hk => h.fresh k (by rw [length_set] at hk; exact hk)) (fun k z l' hk => ?_) (fun k y hy => ?_) (fun k l' b' p' hk hA' => .inl hk)
  · by_cases e : k = o
    · exact ⟨x, by rw [hget_set hlt, if_pos e]⟩
    · obtain ⟨y, hy⟩ := h.live k z l' hk
      exact ⟨y, by rw [hget_set hlt, if_neg e]; exact hy⟩
  · by_cases e : k = o
    · rw [hget_set hlt, if_pos e] at hy; cases hy
      exact .inr ⟨false, l, by rw [e]; exact hl, hO⟩
    · rw [hget_set hlt, if_neg e] at hy
      refine .inl ⟨hy, rfl, fun l' b' p' hk hA' => hg b' fun eb => e ?_⟩
      subst eb
      exact h.inj k o l' l b' p' p hk hl hA' hA
theorem Ev.freeze {o : Nat} {l : Loc} (hl : φ o = .at false l) : Ev φ w (φ.set o (.at true l)) w where
  os := rfl
  tape := rfl
  output := ⟨rfl, Nat.le_refl _⟩
  size := Nat.le_refl _
  heap _ _ _ := rfl
  blk b _ hc := by
    obtain ⟨k, l', p, ho, hA'⟩ := hc
    by_cases e : k = o
    · subst e; rw [Phi.set_self] at ho; cases ho
    · rw [Phi.set_ne e] at ho; exact ⟨k, l', p, ho, hA'⟩
  ids k hf := by
    by_cases e : k = o
    · subst e; exact .inr (.inr ⟨l, hl, Phi.set_self⟩)
    · exact .inl (Phi.set_ne e)
theorem not_blk {H : Hp} (h : HR X φ H w) {o b p : Nat} {l : Loc} (hl : φ o = .at false l) (hA : l.A = some (b, p)) : ¬ YOf X (φ.set o (.at true l)) b := by
  rintro (hx | ⟨k, l', p', hk, hA'⟩)
  · exact (h.out o l b p hl hA).1 hx
  · by_cases e : k = o
    · subst e; rw [Phi.set_self] at hk; cases hk
    · rw [Phi.set_ne e] at hk
      exact e (h.inj k o l' l b p' p hk hl hA' hA)
theorem HR.freeze {H : Hp} (h : HR X φ H w) {o sz : Nat} {es : List (List PV)} {l : Loc} (hl : φ o = .at false l) (hO : OR w (YOf X φ) φ false l (.row false sz es)) : HR X (φ.set o (.at true l)) (hset H o (some (.row true sz es))) w := by
  have hlt := h.lt hl
  have ev : Ev φ w (φ.set o (.at true l)) w := Ev.freeze hl
  refine h.next ev (fun k => ?_) (fun k z l' hk => ?_) (fun k y hy => ?_) (fun k l' b p hk hA' => ?_)
  · intro hk
    rw [length_set] at hk
    rw [Phi.set_ne (by omega)]; exact h.fresh k hk
  · by_cases e : k = o
    · exact ⟨_, by rw [hget_set hlt, if_pos e]⟩
    · rw [Phi.set_ne e] at hk
      obtain ⟨y, hy⟩ := h.live k z l' hk
      exact ⟨y, by rw [hget_set hlt, if_neg e]; exact hy⟩
  · by_cases e : k = o
    · rw [hget_set hlt, if_pos e] at hy; cases hy
      refine .inr ⟨true, l, by rw [e, Phi.set_self], ?_⟩
      have h1 := OR.stay ev X (fun _ _ _ _ => rfl) hO
      simp only [OR] at h1 ⊢
      obtain ⟨_, h2, h3, h4, h5, h6⟩ := h1
      refine ⟨trivial, h2, h3, h4, h5, h6.imp id ?_⟩
      rintro ⟨b, p, t, cs, hA, hg, hs, hE, _⟩
      exact ⟨b, p, t, cs, hA, hg, hs, hE, fun _ => not_blk h hl hA⟩
    · rw [hget_set hlt, if_neg e] at hy
      exact .inl ⟨hy, Phi.set_ne e, fun _ _ _ _ _ => rfl⟩
  · by_cases e : k = o
    · subst e; rw [Phi.set_self] at hk; cases hk
    · rw [Phi.set_ne e] at hk; exact .inl hk
end
end Go.Proofs.Ytelblamgfbkhbaa
namespace Go.Proofs.Ytelblamgfbkhbaa
set_option linter.unusedSimpArgs false
set_option linter.unusedVariables false
open Go.RowKit
section
variable {P : Program} {ρ : Operand → Value} {w : World} {d : Option Tmp} {ty : TypeId} {pos : String} {af : Array Edge} {g : Option (Nat × Bool)}
theorem x_move {x : Operand} {v : Value} (hx : ρ x = v) : (execOp ρ ⟨d, .move x, ty, pos, af, g⟩).run P w = .ok (.value v) w := by rw [← hx]; rfl
theorem x_assign {x : Operand} {v : Value} (hx : ρ x = v) : (execOp ρ ⟨d, .assign x, ty, pos, af, g⟩).run P w = .ok (.value v) w := by rw [← hx]; rfl
theorem x_pick {c x y : Operand} {b : Bool} {v : Value} (hc : ρ c = .bool b) (hv : (if b then ρ x else ρ y) = v) : (execOp ρ ⟨d, .pick c x y, ty, pos, af, g⟩).run P w = .ok (.value v) w := by
  subst hv; simp [execOp, hc, go_sem]
theorem x_lss {t t' : TypeId} {k : IntKind} {x y : Operand} {p q : Int} (hx : ρ x = .int k p) (hy : ρ y = .int k q) : (execOp ρ ⟨d, .binOp .lss t x y t', ty, pos, af, g⟩).run P w = .ok (.value (.bool (decide (p < q)))) w := by
  simp [execOp, hx, hy, eqGuard, binOp, Op.intCmp]
theorem x_leq {t t' : TypeId} {k : IntKind} {x y : Operand} {p q : Int} (hx : ρ x = .int k p) (hy : ρ y = .int k q) : (execOp ρ ⟨d, .binOp .leq t x y t', ty, pos, af, g⟩).run P w = .ok (.value (.bool (decide (p ≤ q)))) w := by
  simp [execOp, hx, hy, eqGuard, binOp, Op.intCmp]
theorem x_gtr {t t' : TypeId} {k : IntKind} {x y : Operand} {p q : Int} (hx : ρ x = .int k p) (hy : ρ y = .int k q) : (execOp ρ ⟨d, .binOp .gtr t x y t', ty, pos, af, g⟩).run P w = .ok (.value (.bool (decide (q < p)))) w := by
  simp [execOp, hx, hy, eqGuard, binOp, Op.intCmp]
theorem x_geq {t t' : TypeId} {k : IntKind} {x y : Operand} {p q : Int} (hx : ρ x = .int k p) (hy : ρ y = .int k q) : (execOp ρ ⟨d, .binOp .geq t x y t', ty, pos, af, g⟩).run P w = .ok (.value (.bool (decide (q ≤ p)))) w := by
  simp [execOp, hx, hy, eqGuard, binOp, Op.intCmp]
theorem x_eql {t t' : TypeId} {k : IntKind} {x y : Operand} {p q : Int} (hx : ρ x = .int k p) (hy : ρ y = .int k q) : (execOp ρ ⟨d, .binOp .eql t x y t', ty, pos, af, g⟩).run P w = .ok (.value (.bool (decide (p = q)))) w := by
  simp [execOp, hx, hy, eqGuard, binOp, Op.intCmp]; rfl
theorem x_neq {t t' : TypeId} {k : IntKind} {x y : Operand} {p q : Int} (hx : ρ x = .int k p) (hy : ρ y = .int k q) : (execOp ρ ⟨d, .binOp .neq t x y t', ty, pos, af, g⟩).run P w = .ok (.value (.bool (!decide (p = q)))) w := by
  simp [execOp, hx, hy, eqGuard, binOp, Op.intCmp]; rfl
theorem x_add {t t' : TypeId} {k : IntKind} {x y : Operand} {p q : Int} (hx : ρ x = .int k p) (hy : ρ y = .int k q) : (execOp ρ ⟨d, .binOp .add t x y t', ty, pos, af, g⟩).run P w = .ok (.value (.int k (k.wrap (p + q)))) w := by
  simp [execOp, hx, hy, eqGuard, binOp, Op.intArith]
theorem x_sub {t t' : TypeId} {k : IntKind} {x y : Operand} {p q : Int} (hx : ρ x = .int k p) (hy : ρ y = .int k q) : (execOp ρ ⟨d, .binOp .sub t x y t', ty, pos, af, g⟩).run P w = .ok (.value (.int k (k.wrap (p - q)))) w := by
  simp [execOp, hx, hy, eqGuard, binOp, Op.intArith]
theorem x_mul {t t' : TypeId} {k : IntKind} {x y : Operand} {p q : Int} (hx : ρ x = .int k p) (hy : ρ y = .int k q) : (execOp ρ ⟨d, .binOp .mul t x y t', ty, pos, af, g⟩).run P w = .ok (.value (.int k (k.wrap (p * q)))) w := by
  simp [execOp, hx, hy, eqGuard, binOp, Op.intArith]
theorem w64 {x y : Int} (h : x = y) (h1 : -9223372036854775808 ≤ y) (h2 : y ≤ 9223372036854775807) : IntKind.i64.wrap x = y := by
  subst h; exact IntWalk.i64_in _ ⟨h1, h2⟩
theorem beq_bytes (a b : ByteArray) : (a.toList == b.toList) = decide (a.data.toList = b.data.toList) := by
  rw [Bool.eq_iff_iff, ByteArray.toList_eq, ByteArray.toList_eq, decide_eq_true_iff]; exact beq_iff_eq
theorem x_eqs {t t' : TypeId} {x y : Operand} {p q : ByteArray} (hx : ρ x = .string p) (hy : ρ y = .string q) : (execOp ρ ⟨d, .binOp .eql t x y t', ty, pos, af, g⟩).run P w = .ok (.value (.bool (decide (p.data.toList = q.data.toList)))) w := by
  rw [← beq_bytes]; simp [execOp, hx, hy, eqGuard, binOp, Op.stringOp]
theorem x_nes {t t' : TypeId} {x y : Operand} {p q : ByteArray} (hx : ρ x = .string p) (hy : ρ y = .string q) : (execOp ρ ⟨d, .binOp .neq t x y t', ty, pos, af, g⟩).run P w = .ok (.value (.bool (!decide (p.data.toList = q.data.toList)))) w := by
  rw [← beq_bytes]; simp [execOp, hx, hy, eqGuard, binOp, Op.stringOp]
theorem x_not {t : TypeId} {x : Operand} {b : Bool} (hx : ρ x = .bool b) : (execOp ρ ⟨d, .unOp .not t x, ty, pos, af, g⟩).run P w = .ok (.value (.bool (!b))) w := by
  simp [execOp, hx, go_sem]
theorem x_lensl {t e : TypeId} {x : Operand} {A : Option Addr} {n c : Nat} (ht : P.underlying t = some (.slice e)) (hx : ρ x = .slice A n c) :
    (execOp ρ ⟨d, .call { callee := .builtin .len, args := #[x], argTypes := #[t] }, ty, pos, af, g⟩).run P w = .ok (.value (.int .i64 n)) w := by
  simp [go_sem, hx, Builtin.len_, run_underlying ht, goInt]
theorem x_extract {x : Operand} {vs : Array Value} {i : Nat} {v : Value} (hx : ρ x = .tuple vs) (hv : vs[i]? = some v) : (execOp ρ ⟨d, .extract x i, ty, pos, af, g⟩).run P w = .ok (.value v) w := by
  simp [execOp, hx, Instr.extract, hv]
end
section
variable {P : Program} {ρ : Operand → Value} {w w' w0 : World} {d : Option Tmp} {ty : TypeId} {pos : String} {af : Array Edge} {g : Option (Nat × Bool)}
theorem x_box {t : TypeId} {x : Operand} {v : Value} (hx : ρ x = v) : (execOp ρ ⟨d, .box t x, ty, pos, af, g⟩).run P w = .ok (.value (.pointer (some ⟨w.heap.size, 0, none⟩))) (w.alloc (.cells v.cells t)) := by
  subst hx
  simp [go_sem]
theorem x_alloc {t : TypeId} {i : TypeInfo} {z : Value} (hi : P.info? t = some i) (hz : i.zero = some z) : (execOp ρ ⟨d, .alloc t, ty, pos, af, g⟩).run P w = .ok (.value (.pointer (some ⟨w.heap.size, 0, none⟩))) (w.alloc (.cells z.cells t)) := by
  simp [go_sem, zeroValue, typeInfo, hi, hz]
theorem run_isAgg_no {t : TypeId} {u : TypeDesc} (hu : P.underlying t = some u) (hd : u.isRow = false) : (isAgg t).run P w = .ok false w := by
  unfold isAgg
  rw [Sem.run_bind, run_underlying hu w]
  cases u <;> simp_all [TypeDesc.isRow]
theorem x_load1 {t : TypeId} {u : TypeDesc} {x : Operand} {a : Addr} {v : Value} (hu : P.underlying t = some u) (hd : u.isRow = false) (hx : ρ x = .pointer (some a)) (hc : w.cell? a = some v) :
    (execOp ρ ⟨d, .load t x, ty, pos, af, g⟩).run P w = .ok (.value v) w := by
  have h1 : (Instr.loadAt t (.pointer (some a))).run P w = .ok v w := by
    simp [Instr.loadAt, Instr.sureAddr, loadVar, Sem.run_bind, run_isAgg_no hu hd, run_load, hc]
  simp [execOp, hx, h1]
theorem x_loadn {t : TypeId} {u : TypeDesc} {x : Operand} {b o : Nat} {cs : List Value} (hu : P.underlying t = some u) (hd : u.isRow = true) (hi : (P.info? t).map (·.size) = some cs.length) (hx : ρ x = .pointer (some ⟨b, o, none⟩)) (hc : w.rangeAt b o cs) :
    (execOp ρ ⟨d, .load t x, ty, pos, af, g⟩).run P w = .ok (.value (.agg cs.toArray)) w := by
  simp [execOp, hx, run_loadAt_mid w b o t cs u hc hu hd hi]
def FieldAt (P : Program) (s f off : Nat) : Prop := ∀ (b o : Nat) (w : World), (Instr.fieldAt s (.pointer (some ⟨b, o, none⟩)) f).run P w = .ok (.pointer (some ⟨b, o + off, none⟩)) w
theorem fieldAt_of {s f : Nat} {fs : Array Field} {fd : Field} {off sz : Nat} (hs : P.underlying s = some (.struct fs)) (hf : fs[f]? = some fd) (hz : (P.info? fd.type).map (·.size) = some sz) (hsz : (sz == 0) = false) (ho : fd.offset = off) : FieldAt P s f off := by
  intro b o w
  cases hq : P.info? fd.type with
  | none => simp [hq] at hz
  | some i =>
    have hi' : i.size = sz := by simpa [hq] using hz
    have hne : sz ≠ 0 := by simpa using hsz
    simp [Instr.fieldAt, run_underlying hs, hf, Instr.sureAddr, fieldPlace, sizeOf, typeInfo, hq, hi', hne, ho, Addr.add_mid]
theorem x_field {s f off : Nat} {x : Operand} {b o : Nat} (hF : FieldAt P s f off) (hx : ρ x = .pointer (some ⟨b, o, none⟩)) :
    (execOp ρ ⟨d, .fieldAddr s x f, ty, pos, af, g⟩).run P w = .ok (.value (.pointer (some ⟨b, o + off, none⟩))) w := by
  simp [execOp, hx, hF b o w]

theorem run_info {e : TypeId} {i : TypeInfo} (hq : P.info? e = some i) : (typeInfo e).run P w = .ok i w := by simp [typeInfo, hq]
theorem x_build {t : TypeId} {parts : Array (Nat × Operand)} {cs : Array Value} (hb : P.built t (parts.map fun (i, x) => (i, ρ x)).toList = some cs) :
    (execOp ρ ⟨d, .build t parts, ty, pos, af, g⟩).run P w = .ok (.value (.agg cs)) w := by
  simp [execOp, run_build w t _ cs hb]

def builtSlice (P : Program) (e len : Nat) (parts : List (Nat × Value)) : Option (Array Value) :=
  match P.info? e with
  | some i => match i.zero with
    | some z => if len * i.size > 2 ^ 24 ∨ len * i.size = 0 then none else Instr.fill (fun k => some (k * i.size, i.size)) ((Array.range (len * i.size)).map (z.cells[· % z.cells.size]!)) parts
    | none => none
  | none => none
theorem x_buildSlice {t e len : Nat} {parts : Array (Nat × Operand)} {cs : Array Value} (ht : P.underlying t = some (.slice e)) (hb : builtSlice P e len (parts.map fun (i, x) => (i, ρ x)).toList = some cs) :
    (execOp ρ ⟨d, .buildSlice t len parts, ty, pos, af, g⟩).run P w = .ok (.value (.slice (some ⟨w.heap.size, 0, none⟩) len len)) (w.alloc (.cells cs e)) := by
  unfold builtSlice at hb
  cases hq : P.info? e with
  | none => simp [hq] at hb
  | some i =>
    cases hz : i.zero with
    | none => simp [hq, hz] at hb
    | some z =>
      simp only [hq, hz] at hb
      split at hb
      · cases hb
      · rename_i hn
        have h1 : ¬ len * i.size > 2 ^ 24 := fun h => hn (.inl h)
        have h2 : ¬ len * i.size = 0 := fun h => hn (.inr h)
        have hr : (Instr.buildSlice t len (parts.map fun (i, x) => (i, ρ x))).run P w = .ok (.slice (some ⟨w.heap.size, 0, none⟩) len len) (w.alloc (.cells cs e)) := by
          have ha : (newRow e cs).run P w = .ok ⟨w.heap.size, 0, none⟩ (w.alloc (.cells cs e)) := by simp [newRow, go_sem]
          have hs : (sizeOf e).run P w = .ok i.size w := by simp [sizeOf, run_info hq]
          have hzv : (zeroValue e).run P w = .ok z w := by simp [zeroValue, run_info hq, hz]
          simp only [Instr.buildSlice, Sem.run_bind, run_underlying ht, Result.andThen_ok, hs, h1, h2, if_false, Sem.run_pure, hzv, hb, ha]
        simp [execOp, hr]
theorem x_buildSlice0 {t e : Nat} {i : TypeInfo} (ht : P.underlying t = some (.slice e)) (hq : P.info? e = some i) :
    (execOp ρ ⟨d, .buildSlice t 0 #[], ty, pos, af, g⟩).run P w = .ok (.value (.slice (some ⟨w.heap.size, 0, none⟩) 0 0)) (w.alloc (.cells #[] e)) := by
  have hr : (Instr.buildSlice t 0 #[]).run P w = .ok (.slice (some ⟨w.heap.size, 0, none⟩) 0 0) (w.alloc (.cells #[] e)) := by
    simp [Instr.buildSlice, Sem.run_bind, run_underlying ht, sizeOf, typeInfo, hq, go_sem, Instr.fill]
  simp [execOp, hr]

theorem x_makeFunc {fn : Fn} {first captured : Array Operand} {fs cs : Array Value} (h1 : first.map ρ = fs) (h2 : captured.map ρ = cs) : (execOp ρ ⟨d, .makeFunc fn first captured, ty, pos, af, g⟩).run P w = .ok (.value (.func fn fs cs)) w := by
  subst h1; subst h2; rfl
theorem x_nilCheck {x : Operand} {a : Addr} (hx : ρ x = .pointer (some a)) : (execOp ρ ⟨d, .nilCheck x, ty, pos, af, g⟩).run P w = .ok (.value (.pointer (some a))) w := by
  simp [execOp, hx]

def Enters (P : Program) (k : Nat) : Prop := ∀ (args : Array Value) (w : World), (callFunc k args).run P w = .ok (.enter k args) w
theorem enters_of {k : Nat} {fn : Func} (hf : P.funcs[k]? = some fn) (hn : (fn.name == "runtime.NumGoroutine") = false) (hb : fn.body.isNone = false) : Enters P k := by
  intro args w
  have h1 : fn.name ≠ "runtime.NumGoroutine" := by simpa using hn
  have h2 : fn.body ≠ none := by intro h; simp [h] at hb
  simp [callFunc, hf, h1, h2]
theorem x_call {k : Nat} {f : Operand} {args : Array Operand} {ts : Array TypeId} {vs cap : Array Value} (hE : Enters P k) (hf : ρ f = .func (.func k) #[] cap) (ha : args.map ρ ++ cap = vs) :
    (execOp ρ ⟨d, .call { callee := .value f, args := args, argTypes := ts }, ty, pos, af, g⟩).run P w = .ok (.enter k vs) w := by
  subst ha
  have := hE (args.map ρ ++ cap) w
  simp [execOp, resolve, hf, Deferred.ofValue, invoke, this]
end

end Go.Proofs.Ytelblamgfbkhbaa
namespace Go.Proofs.Ytelblamgfbkhbaa
set_option linter.unusedSimpArgs false
set_option linter.unusedVariables false
open Go.RowKit

def litOK : PV → Value → Bool
  | .int k n, .int k' m => kindEq k k' && decide (n = m)
  | .bool b, .bool c => b == c
  | .str s, .string t => decide (s.data.toList = t.data.toList)
  | .nilf, .nilFunc => true
  | .nilp, .pointer none => true
  | .nilm, .map none => true
  | .nili, .nilIface => true
  | .sl .nil _ [], .slice none 0 0 => true
  | _, _ => false
def litsOK : List PV → List Value → Bool
  | [], [] => true
  | p :: ps, v :: vs => litOK p v && litsOK ps vs
  | _, _ => false
def fieldsOK : List (Nat × Nat) → List Field → Bool
  | [], [] => true
  | (t, o) :: fs, f :: gs => Nat.beq t f.type && Nat.beq o f.offset && f.name != "_" && fieldsOK fs gs
  | _, _ => false
def kindOK : TK → TypeDesc → Bool
  | .int k, .int k' => kindEq k k'
  | .bool, .bool => true
  | .str, .string => true
  | .ptr e, .pointer e' => Nat.beq e e'
  | .sl e, .slice e' => Nat.beq e e'
  | .arr n e, .array n' e' => Nat.beq n n' && Nat.beq e e'
  | .map k e, .map k' e' => Nat.beq k k' && Nat.beq e e'
  | .struct fs, .struct gs => fieldsOK fs gs.toList
  | .func, .func _ _ _ => true
  | .ifc, .interface _ => true
  | _, _ => false
def tyOKB (P : Program) (t : Nat) (ti : TI) : Bool :=
  (match P.info? t with
    | some i => Nat.beq i.size ti.size && Nat.beq i.bytes ti.bytes && (match i.zero with | some z => litsOK ti.zero z.cells.toList && (match z with | .agg _ => ti.k.row | _ => !ti.k.row) | none => false) && Nat.beq ti.zero.length ti.size
    | none => false) &&
  (match P.underlying t with
    | some u => kindOK ti.k u && (match u with | .struct _ => !(P.stoodInHeld t) && !(P.eqGuardType P.depth t) | _ => true)
    | none => false)
def chkL (ops : Array Oper) (m : Nat) : List (Nat × Nat) → List It → Nat → Nat → List It → Bool
  | _, _, _, k, [] => Nat.ble k m
  | tbl, prev, done, k, x :: L => Nat.beq x.anc (ancOf x.need tbl) && Nat.beq (Nat.land x.need done) x.need && !(bit done x.i) && Nat.beq x.nid k &&
    prev.all (fun y => bit x.anc y.i || Oper.apart ops y.o x.o) && chkL ops m ((x.i, x.anc) :: tbl) (x :: prev) (orBit done x.i) (bif creates x.o.op then k + 1 else k) L
def planOK (ops : List Oper) : Bool := match plan ops.length 0 0 [] (items 0 ops) with | some L => chkL ops.toArray (countNew ops) [] [] 0 0 L | none => true
def codeOK : Code → Bool
  | .region _ ops true => planOK ops.toList
  | .seq a b => codeOK a && codeOK b
  | .cond _ a b => codeOK a && codeOK b
  | .block _ a => codeOK a
  | .loop a => codeOK a
  | _ => true
structure CfgOK (P : Program) (C : Cfg) : Prop where
  ty : ∀ t ti, C.ty t = some ti → tyOKB P t ti = true
  fn : ∀ k f, C.fn k = some f → P.funcs[k]? = some f
  name : ∀ k f, C.fn k = some f → (f.name == "runtime.NumGoroutine") = false
  code : ∀ k f c, C.fn k = some f → f.body = some c → codeOK c = true
  mixed : P.follows .mixedOrders = true
  noext : ∀ k, C.ext k = none

theorem kindEq_eq {a b : IntKind} (h : kindEq a b = true) : a = b := by cases a <;> cases b <;> simp_all [kindEq]
theorem kindEq_refl (a : IntKind) : kindEq a a = true := by cases a <;> rfl
theorem bytes_eq {a b : ByteArray} (h : a.data.toList = b.data.toList) : a = b := by
  cases a; cases b; simp at h; rw [h]

section
variable {P : Program} {C : Cfg} {w : World} {Y : Nat → Prop}
theorem litOK_pr {p : PV} {v : Value} (h : litOK p v = true) : oneP p = true ∧ ∀ (w : World) (Y : Nat → Prop), PR w Y p v := by
  unfold litOK at h
  split at h
  · simp at h; obtain ⟨h1, h2⟩ := h; cases kindEq_eq h1; subst h2; exact ⟨rfl, fun _ _ => by simp only [PR]⟩
  · simp at h; subst h; exact ⟨rfl, fun _ _ => by simp only [PR]⟩
  · simp only [decide_eq_true_eq] at h; cases bytes_eq h; exact ⟨rfl, fun _ _ => by simp only [PR]⟩
  · exact ⟨rfl, fun _ _ => by simp only [PR]⟩
  · exact ⟨rfl, fun _ _ => by simp only [PR]⟩
  · exact ⟨rfl, fun _ _ => by simp only [PR]⟩
  · exact ⟨rfl, fun _ _ => by simp only [PR]⟩
  · exact ⟨rfl, fun _ _ => by simp only [PR]; exact ⟨none, 0, rfl, by simp, by simp [maxLen], ⟨rfl, rfl⟩, .inl rfl⟩⟩
  · cases h
theorem litsOK_prl : ∀ {ps : List PV} {vs : List Value}, litsOK ps vs = true → ∀ (w : World) (Y : Nat → Prop), PRL w Y ps vs
  | [], [], _, _, _ => by simp only [PRL]
  | p :: ps, v :: vs, h, w, Y => by
    simp only [litsOK, Bool.and_eq_true] at h
    simp only [PRL]
    exact ⟨v, vs, rfl, (litOK_pr h.1).1, (litOK_pr h.1).2 w Y, litsOK_prl h.2 w Y⟩
  | [], _ :: _, h, _, _ => by simp [litsOK] at h
  | _ :: _, [], h, _, _ => by simp [litsOK] at h
theorem tyOK_info {t : Nat} {ti : TI} (h : tyOKB P t ti = true) : ∃ i z, P.info? t = some i ∧ i.size = ti.size ∧ i.bytes = ti.bytes ∧ i.zero = some z ∧ ∀ (w : World) (Y : Nat → Prop), PRL w Y ti.zero z.cells.toList := by
  unfold tyOKB at h
  rw [Bool.and_eq_true] at h
  obtain ⟨h, _⟩ := h
  cases hi : P.info? t with
  | none => simp [hi] at h
  | some i =>
    cases hz : i.zero with
    | none => simp [hi, hz] at h
    | some z =>
      simp only [hi, hz, Bool.and_eq_true, Nat.beq_eq] at h
      exact ⟨i, z, rfl, h.1.1.1, h.1.1.2, hz, litsOK_prl h.1.2.1⟩
theorem tyOK_zero {t : Nat} {ti : TI} (h : tyOKB P t ti = true) : ∃ i z, P.info? t = some i ∧ i.zero = some z ∧ (ti.k.row = true → ∃ vs, z = .agg vs.toArray ∧ ∀ (w : World) (Y : Nat → Prop), PRL w Y ti.zero vs) ∧ (ti.k.row = false → ∀ (w : World) (Y : Nat → Prop), PRL w Y ti.zero [z]) := by
  unfold tyOKB at h
  rw [Bool.and_eq_true] at h
  obtain ⟨h, _⟩ := h
  cases hi : P.info? t with
  | none => simp [hi] at h
  | some i =>
    cases hz : i.zero with
    | none => simp [hi, hz] at h
    | some z =>
      simp only [hi, hz, Bool.and_eq_true, Nat.beq_eq] at h
      refine ⟨i, z, rfl, hz, fun hr => ?_, fun hr => ?_⟩
      · cases z <;> first | (simp [hr] at h; done) | skip
        rename_i cs
        exact ⟨cs.toList, rfl, litsOK_prl h.1.2.1⟩
      · have hp := litsOK_prl h.1.2.1
        cases z <;> first | exact hp | skip
        simp [hr] at h
theorem tyOK_len {t : Nat} {ti : TI} (h : tyOKB P t ti = true) : ti.zero.length = ti.size := by
  unfold tyOKB at h
  rw [Bool.and_eq_true] at h
  obtain ⟨h, _⟩ := h
  cases hi : P.info? t with
  | none => simp [hi] at h
  | some i => simp only [hi, Bool.and_eq_true, Nat.beq_eq] at h; exact h.2
theorem tyOK_und {t : Nat} {ti : TI} (h : tyOKB P t ti = true) : ∃ u, P.underlying t = some u ∧ kindOK ti.k u = true := by
  unfold tyOKB at h
  rw [Bool.and_eq_true] at h
  obtain ⟨_, h⟩ := h
  cases hu : P.underlying t with
  | none => simp [hu] at h
  | some u => simp only [hu, Bool.and_eq_true] at h; exact ⟨u, rfl, h.1⟩
theorem tyOK_held {t : Nat} {ti : TI} {fs : Array Field} (h : tyOKB P t ti = true) (hu : P.underlying t = some (.struct fs)) : P.stoodInHeld t = false := by
  unfold tyOKB at h
  rw [Bool.and_eq_true] at h
  obtain ⟨_, h⟩ := h
  simp only [hu, Bool.and_eq_true] at h
  simpa using h.2.1
theorem tyOK_guard {t : Nat} {ti : TI} {fs : Array Field} (h : tyOKB P t ti = true) (hu : P.underlying t = some (.struct fs)) : P.eqGuardType P.depth t = false := by
  unfold tyOKB at h
  rw [Bool.and_eq_true] at h
  obtain ⟨_, h⟩ := h
  simp only [hu, Bool.and_eq_true] at h
  simpa using h.2.2
theorem und_int {t : Nat} {ti : TI} {k : IntKind} (h : tyOKB P t ti = true) (hk : ti.k = .int k) : P.underlying t = some (.int k) := by
  obtain ⟨u, hu, hq⟩ := tyOK_und h
  rw [hk] at hq; cases u <;> simp [kindOK] at hq; cases kindEq_eq hq; exact hu
theorem und_bool {t : Nat} {ti : TI} (h : tyOKB P t ti = true) (hk : ti.k = .bool) : P.underlying t = some .bool := by
  obtain ⟨u, hu, hq⟩ := tyOK_und h
  rw [hk] at hq; cases u <;> simp [kindOK] at hq; exact hu
theorem und_str {t : Nat} {ti : TI} (h : tyOKB P t ti = true) (hk : ti.k = .str) : P.underlying t = some .string := by
  obtain ⟨u, hu, hq⟩ := tyOK_und h
  rw [hk] at hq; cases u <;> simp [kindOK] at hq; exact hu
theorem und_sl {t e : Nat} {ti : TI} (h : tyOKB P t ti = true) (hk : ti.k = .sl e) : P.underlying t = some (.slice e) := by
  obtain ⟨u, hu, hq⟩ := tyOK_und h
  rw [hk] at hq; cases u <;> simp [kindOK] at hq; subst hq; exact hu
theorem und_arr {t n e : Nat} {ti : TI} (h : tyOKB P t ti = true) (hk : ti.k = .arr n e) : P.underlying t = some (.array n e) := by
  obtain ⟨u, hu, hq⟩ := tyOK_und h
  rw [hk] at hq; cases u <;> simp [kindOK] at hq; obtain ⟨rfl, rfl⟩ := hq; exact hu
theorem und_map {t n e : Nat} {ti : TI} (h : tyOKB P t ti = true) (hk : ti.k = .map n e) : P.underlying t = some (.map n e) := by
  obtain ⟨u, hu, hq⟩ := tyOK_und h
  rw [hk] at hq; cases u <;> simp [kindOK] at hq; obtain ⟨rfl, rfl⟩ := hq; exact hu
theorem und_struct {t : Nat} {ti : TI} {fs : List (Nat × Nat)} (h : tyOKB P t ti = true) (hk : ti.k = .struct fs) : ∃ gs, P.underlying t = some (.struct gs) ∧ fieldsOK fs gs.toList = true := by
  obtain ⟨u, hu, hq⟩ := tyOK_und h
  rw [hk] at hq; cases u <;> simp [kindOK] at hq; exact ⟨_, hu, hq⟩
theorem und_row {t : Nat} {ti : TI} (h : tyOKB P t ti = true) : ∃ u, P.underlying t = some u ∧ u.isRow = ti.k.row := by
  obtain ⟨u, hu, hq⟩ := tyOK_und h
  refine ⟨u, hu, ?_⟩
  cases hk : ti.k <;> rw [hk] at hq <;> cases u <;> simp_all [kindOK, TypeDesc.isRow, TK.row]
theorem fieldsOK_at : ∀ {fs : List (Nat × Nat)} {gs : List Field}, fieldsOK fs gs = true → ∀ {i t o : Nat}, fs[i]? = some (t, o) → ∃ g, gs[i]? = some g ∧ g.type = t ∧ g.offset = o ∧ (g.name ≠ "_")
  | [], _, _, i, t, o, h => by simp at h
  | (t', o') :: fs, g :: gs, hf, i, t, o, h => by
    simp only [fieldsOK, Bool.and_eq_true, Nat.beq_eq] at hf
    cases i with
    | zero => simp at h; obtain ⟨rfl, rfl⟩ := h; exact ⟨g, by simp, hf.1.1.1.symm, hf.1.1.2.symm, by simpa using hf.1.2⟩
    | succ i => simp at h; simpa using fieldsOK_at hf.2 h
  | _ :: _, [], hf, _, _, _, _ => by simp [fieldsOK] at hf
theorem run_size {t : Nat} {ti : TI} (h : tyOKB P t ti = true) : (sizeOf t).run P w = .ok ti.size w := by
  obtain ⟨i, z, hi, hs, _⟩ := tyOK_info h
  simp [sizeOf, typeInfo, hi, hs]


def Good (nid : Nat) (H : Hp) (X : Nat → Prop) (φ : Phi) (w : World) (v : AV) (H' : Hp) (r : Result Next) : Prop :=
  ∃ nx v' w' φ', r = .ok nx w' ∧ (nx = .value v' ∨ (nx = .skip ∧ v' = undef)) ∧ VR w' (YOf X φ') φ' v v' ∧ HR X φ' H' w' ∧ Ev φ w φ' w' ∧ H.length ≤ H'.length ∧ ∀ k, k ≠ nid → φ k = .fresh → φ' k = .fresh
variable {X : Nat → Prop} {φ : Phi} {H : Hp}
theorem good_val {nid : Nat} {v : AV} {v' : Value} {r : Result Next} (hr : r = .ok (.value v') w) (hv : VR w (YOf X φ) φ v v') (hH : HR X φ H w) : Good nid H X φ w v H r :=
  ⟨_, v', w, φ, hr, .inl rfl, hv, hH, Ev.refl _ _, Nat.le_refl _, fun _ _ h => h⟩

variable {ρ : Operand → Value} {d : Option Tmp} {ty : TypeId} {pos : String} {af : Array Edge} {g : Option (Nat × Bool)}
theorem x_quo {t t' : TypeId} {k : IntKind} {x y : Operand} {p q : Int} (hx : ρ x = .int k p) (hy : ρ y = .int k q) (hq : q ≠ 0) : (execOp ρ ⟨d, .binOp .quo t x y t', ty, pos, af, g⟩).run P w = .ok (.value (.int k (k.wrap (p.tdiv q)))) w := by
  simp [execOp, hx, hy, eqGuard, binOp, Op.intDiv, hq]
theorem x_rem {t t' : TypeId} {k : IntKind} {x y : Operand} {p q : Int} (hx : ρ x = .int k p) (hy : ρ y = .int k q) (hq : q ≠ 0) : (execOp ρ ⟨d, .binOp .rem t x y t', ty, pos, af, g⟩).run P w = .ok (.value (.int k (p.tmod q))) w := by
  simp [execOp, hx, hy, eqGuard, binOp, Op.intDiv, hq]
theorem x_and {t t' : TypeId} {k : IntKind} {x y : Operand} {p q : Int} (hx : ρ x = .int k p) (hy : ρ y = .int k q) : (execOp ρ ⟨d, .binOp .and t x y t', ty, pos, af, g⟩).run P w = .ok (.value (.int k (k.wrap (BitVec.ofInt k.bits p &&& BitVec.ofInt k.bits q).toNat))) w := by
  simp [execOp, hx, hy, eqGuard, binOp, Op.intBits]
theorem x_or {t t' : TypeId} {k : IntKind} {x y : Operand} {p q : Int} (hx : ρ x = .int k p) (hy : ρ y = .int k q) : (execOp ρ ⟨d, .binOp .or t x y t', ty, pos, af, g⟩).run P w = .ok (.value (.int k (k.wrap (BitVec.ofInt k.bits p ||| BitVec.ofInt k.bits q).toNat))) w := by
  simp [execOp, hx, hy, eqGuard, binOp, Op.intBits]
theorem x_xor {t t' : TypeId} {k : IntKind} {x y : Operand} {p q : Int} (hx : ρ x = .int k p) (hy : ρ y = .int k q) : (execOp ρ ⟨d, .binOp .xor t x y t', ty, pos, af, g⟩).run P w = .ok (.value (.int k (k.wrap (BitVec.ofInt k.bits p ^^^ BitVec.ofInt k.bits q).toNat))) w := by
  simp [execOp, hx, hy, eqGuard, binOp, Op.intBits]
theorem x_shl {t t' : TypeId} {k k' : IntKind} {x y : Operand} {p q : Int} (hx : ρ x = .int k p) (hy : ρ y = .int k' q) (hq : ¬ q < 0) : (execOp ρ ⟨d, .binOp .shl t x y t', ty, pos, af, g⟩).run P w = .ok (.value (.int k (k.wrap (p * 2 ^ (min q.toNat k.bits))))) w := by
  simp [execOp, hx, hy, eqGuard, binOp, Op.shift, hq]
theorem x_shr {t t' : TypeId} {k k' : IntKind} {x y : Operand} {p q : Int} (hx : ρ x = .int k p) (hy : ρ y = .int k' q) (hq : ¬ q < 0) : (execOp ρ ⟨d, .binOp .shr t x y t', ty, pos, af, g⟩).run P w = .ok (.value (.int k (p.fdiv (2 ^ (min q.toNat k.bits))))) w := by
  simp [execOp, hx, hy, eqGuard, binOp, Op.shift, hq]
theorem x_binI {op : BinOp} {t t' : TypeId} {k : IntKind} {x y : Operand} {a b : Int} {p : PV} (h : binI op k a b = some p) (hx : ρ x = .int k a) (hy : ρ y = .int k b) :
    ∃ v, (execOp ρ ⟨d, .binOp op t x y t', ty, pos, af, g⟩).run P w = .ok (.value v) w ∧ PR w Y p v := by
  unfold binI at h
  split at h
  all_goals first | (simp only [Option.some.injEq] at h; subst h) | skip
  · exact ⟨_, x_add hx hy, by simp only [PR]⟩
  · exact ⟨_, x_sub hx hy, by simp only [PR]⟩
  · exact ⟨_, x_mul hx hy, by simp only [PR]⟩
  · by_cases hb : b = 0
    · simp [hb] at h
    · simp [hb] at h; subst h; exact ⟨_, x_quo hx hy hb, by simp only [PR]⟩
  · by_cases hb : b = 0
    · simp [hb] at h
    · simp [hb] at h; subst h; exact ⟨_, x_rem hx hy hb, by simp only [PR]⟩
  · exact ⟨_, x_and hx hy, by simp only [PR]⟩
  · exact ⟨_, x_or hx hy, by simp only [PR]⟩
  · exact ⟨_, x_xor hx hy, by simp only [PR]⟩
  · exact ⟨_, x_eql hx hy, by simp only [PR]⟩
  · exact ⟨_, x_neq hx hy, by simp only [PR]⟩
  · exact ⟨_, x_lss hx hy, by simp only [PR]⟩
  · exact ⟨_, x_leq hx hy, by simp only [PR]⟩
  · exact ⟨_, x_gtr hx hy, by simp only [PR]⟩
  · exact ⟨_, x_geq hx hy, by simp only [PR]⟩
  · cases h
theorem x_shI {op : BinOp} {t t' : TypeId} {k k' : IntKind} {x y : Operand} {a b : Int} {p : PV} (hop : op = .shl ∨ op = .shr) (h : shI op k a b = some p) (hx : ρ x = .int k a) (hy : ρ y = .int k' b) :
    ∃ v, (execOp ρ ⟨d, .binOp op t x y t', ty, pos, af, g⟩).run P w = .ok (.value v) w ∧ PR w Y p v := by
  unfold shI at h
  by_cases hb : b < 0
  · simp [hb] at h
  · rcases hop with rfl | rfl
    · simp [hb] at h; subst h; exact ⟨_, x_shl hx hy hb, by simp only [PR]⟩
    · simp [hb] at h; subst h; exact ⟨_, x_shr hx hy hb, by simp only [PR]⟩
theorem bytesLt_eq : ∀ (a b : List UInt8), Op.bytesLess a b = bytesLt a b
  | _, [] => by simp [Op.bytesLess, bytesLt]
  | [], _ :: _ => by simp [Op.bytesLess, bytesLt]
  | a :: x, b :: y => by
    simp only [Op.bytesLess, bytesLt, bytesLt_eq x y]
    congr 1
    · rw [Bool.eq_iff_iff]; simp [UInt8.lt_iff_toNat_lt, Nat.blt_eq]
    · congr 1
      rw [Bool.eq_iff_iff]; simp [UInt8.toNat_inj.symm]
theorem x_binS {op : BinOp} {t t' : TypeId} {x y : Operand} {a b : ByteArray} {p : PV} (h : binS op a b = some p) (hx : ρ x = .string a) (hy : ρ y = .string b) :
    ∃ v, (execOp ρ ⟨d, .binOp op t x y t', ty, pos, af, g⟩).run P w = .ok (.value v) w ∧ PR w Y p v := by
  unfold binS at h
  split at h
  · by_cases hb : a.size + b.size ≤ 9223372036854775807
    · rw [show Nat.ble (a.size + b.size) 9223372036854775807 = true from by simpa using hb] at h
      simp only [cond_true, Option.some.injEq] at h
      subst h
      have he : a ++ b = ⟨(a.data.toList ++ b.data.toList).toArray⟩ := by
        apply bytes_eq; simp [ByteArray.data_append]
      refine ⟨.string (a ++ b), ?_, by simp only [PR]; rw [he]⟩
      have hb' : (a.size : Int) + (b.size : Int) ≤ 9223372036854775807 := by omega
      have hm : IntKind.i64.max = 9223372036854775807 := by decide
      simp only [execOp, hx, hy, eqGuard, binOp, Op.stringOp]
      simp [hm, Int.not_lt.2 hb']
    · rw [show Nat.ble (a.size + b.size) 9223372036854775807 = false from by rw [Bool.eq_false_iff]; simpa using hb] at h
      simp at h
  all_goals first | (simp only [Option.some.injEq] at h; subst h) | skip
  · exact ⟨_, x_eqs hx hy, by simp only [PR]⟩
  · exact ⟨_, x_nes hx hy, by simp only [PR]⟩
  · exact ⟨.bool (Op.bytesLess a.toList b.toList), by simp [execOp, hx, hy, eqGuard, binOp, Op.stringOp], by simp only [PR]; rw [bytesLt_eq, ByteArray.toList_eq, ByteArray.toList_eq]⟩
  · exact ⟨.bool (Op.bytesLess a.toList b.toList || a.toList == b.toList), by simp [execOp, hx, hy, eqGuard, binOp, Op.stringOp], by simp only [PR]; rw [beq_bytes, bytesLt_eq, ByteArray.toList_eq, ByteArray.toList_eq]⟩
  · exact ⟨.bool !(Op.bytesLess a.toList b.toList || a.toList == b.toList), by simp [execOp, hx, hy, eqGuard, binOp, Op.stringOp], by simp only [PR]; rw [beq_bytes, bytesLt_eq, ByteArray.toList_eq, ByteArray.toList_eq]⟩
  · exact ⟨.bool !(Op.bytesLess a.toList b.toList), by simp [execOp, hx, hy, eqGuard, binOp, Op.stringOp], by simp only [PR]; rw [bytesLt_eq, ByteArray.toList_eq, ByteArray.toList_eq]⟩
  · cases h


def vAt (row : Bool) (vs : List Value) : Value := if row then .agg vs.toArray else vs.headD undef
theorem run_part {t off : Nat} {ti : TI} {vs : List Value} (h : tyOKB P t ti = true) (hl : off + ti.size ≤ vs.length) (h1 : ti.k.row = false → 0 < ti.size) :
    (part t vs.toArray off).run P w = .ok (vAt ti.k.row ((vs.drop off).take ti.size)) w := by
  obtain ⟨u, hu, hr⟩ := und_row h
  have hag : (isAgg t).run P w = .ok ti.k.row w := by
    rw [← hr]; unfold isAgg; rw [Sem.run_bind, run_underlying hu w]; cases u <;> simp [TypeDesc.isRow]
  unfold part
  rw [Sem.run_bind, hag]
  cases hrow : ti.k.row with
  | true =>
    simp only [Result.andThen_ok, if_true, Sem.run_bind, run_size h, Sem.run_pure, vAt]
    congr 3
    apply Array.ext'
    simp
  | false =>
    have h0 := h1 hrow
    have hlt : off < vs.length := by omega
    have e1 : vs.toArray[off]? = some vs[off] := by simp [hlt]
    have e2 : ((vs.drop off).take ti.size).headD undef = vs[off] := by
      rw [List.drop_eq_getElem_cons hlt]
      cases hs : ti.size with
      | zero => omega
      | succ n => rfl
    simp only [Result.andThen_ok, Bool.false_eq_true, if_false, e1, Sem.run_pure, vAt, e2]
theorem PRL.take : ∀ {cs : List PV} {vs : List Value}, PRL w Y cs vs → ∀ n, PRL w Y (cs.take n) (vs.take n)
  | [], vs, h, n => by simp only [PRL] at h; subst h; simp [PRL]
  | c :: cs, vs, h, 0 => by simp [PRL]
  | c :: cs, vs, h, n + 1 => by
    simp only [PRL] at h
    obtain ⟨v, r, rfl, ho, hc, hr⟩ := h
    simp only [List.take_succ_cons, PRL]
    exact ⟨v, r.take n, rfl, ho, hc, PRL.take hr n⟩
theorem PRL.drop : ∀ {cs : List PV} {vs : List Value}, PRL w Y cs vs → ∀ n, PRL w Y (cs.drop n) (vs.drop n)
  | [], vs, h, n => by simp only [PRL] at h; subst h; simp [PRL]
  | c :: cs, vs, h, 0 => by simpa using h
  | c :: cs, vs, h, n + 1 => by
    simp only [PRL] at h
    obtain ⟨v, r, rfl, ho, hc, hr⟩ := h
    simpa using PRL.drop hr n
theorem prl_one {p : PV} {vs : List Value} (h : PRL w Y [p] vs) : ∃ v, vs = [v] ∧ oneP p = true ∧ PR w Y p v := by
  simp only [PRL] at h
  obtain ⟨v, r, rfl, ho, hp, rfl⟩ := h
  exact ⟨v, rfl, ho, hp⟩
theorem eqF_ok (hC : CfgOK P C) {eq : Nat → List PV → List PV → Option Bool} {k : Nat} {x y : List PV} {vs us : List Value} (hx : PRL w Y x vs) (hy : PRL w Y y us)
    (ih : ∀ t x y b vs us, eq t x y = some b → PRL w Y x vs → PRL w Y y us → ∃ ti, C.ty t = some ti ∧ (ti.k.row = false → vs.length = 1 ∧ us.length = 1) ∧ (Op.equalIn k t (vAt ti.k.row vs) (vAt ti.k.row us)).run P w = .ok b w) :
    ∀ (fs : List (Nat × Nat)) (gs : List Field) (b : Bool), fieldsOK fs gs = true → eqF C.ty eq fs x y = some b → (Op.eqFields k vs.toArray us.toArray gs).run P w = .ok b w
  | [], [], b, _, h => by simp [eqF] at h; subst h; simp [Op.eqFields]
  | (t, o) :: fs, g :: gs, b, hf, h => by
    simp only [fieldsOK, Bool.and_eq_true, Nat.beq_eq] at hf
    obtain ⟨⟨⟨ht, ho⟩, hn⟩, hf⟩ := hf
    simp only [eqF] at h
    cases hti : C.ty t with
    | none => simp [hti] at h
    | some ti =>
      simp only [hti] at h
      by_cases hb0 : o + ti.size ≤ x.length ∧ o + ti.size ≤ y.length
      case neg =>
        rw [show (Nat.ble (o + ti.size) x.length && Nat.ble (o + ti.size) y.length) = false from by rw [Bool.eq_false_iff]; simpa using hb0] at h
        simp at h
      rw [show (Nat.ble (o + ti.size) x.length && Nat.ble (o + ti.size) y.length) = true from by simpa using hb0] at h
      simp only [cond_true] at h
      have hb1 : o + ti.size ≤ vs.length ∧ o + ti.size ≤ us.length := by rw [hx.length, hy.length]; exact hb0
      cases hq : eq t ((x.drop o).take ti.size) ((y.drop o).take ti.size) with
      | none => simp [hq] at h
      | some c =>
        obtain ⟨ti', hti', hlen, hrun⟩ := ih t _ _ c _ _ hq ((hx.drop o).take ti.size) ((hy.drop o).take ti.size)
        rw [hti] at hti'; cases hti'
        have h1 : ti.k.row = false → 0 < ti.size := fun hr => by
          have := (hlen hr).1
          simp at this; omega
        have e1 := run_part (w := w) (hC.ty t ti hti) hb1.1 h1
        have e2 := run_part (w := w) (hC.ty t ti hti) hb1.2 h1
        have hn' : g.name ≠ "_" := by simpa using hn
        subst ht; subst ho
        simp only [Op.eqFields, hn', ne_eq, not_false_eq_true, if_true, Sem.run_bind, e1, Result.andThen_ok, e2, hrun]
        cases c with
        | true =>
          simp only [hq] at h
          simpa using eqF_ok hC hx hy ih fs gs b hf h
        | false =>
          simp only [hq, Option.some.injEq] at h
          subst h
          simp
  | [], _ :: _, _, hf, _ => by simp [fieldsOK] at hf
  | _ :: _, [], _, hf, _ => by simp [fieldsOK] at hf
theorem eqP_ok (hC : CfgOK P C) : ∀ (d t : Nat) (x y : List PV) (b : Bool) (vs us : List Value), eqP C.ty d t x y = some b → PRL w Y x vs → PRL w Y y us →
    ∃ ti, C.ty t = some ti ∧ (ti.k.row = false → vs.length = 1 ∧ us.length = 1) ∧ ∀ k, d ≤ k → (Op.equalIn k t (vAt ti.k.row vs) (vAt ti.k.row us)).run P w = .ok b w
  | 0, t, x, y, b, vs, us, h, _, _ => by simp [eqP] at h
  | d + 1, t, x, y, b, vs, us, h, hx, hy => by
    simp only [eqP] at h
    cases hti : C.ty t with
    | none => simp [hti] at h
    | some ti =>
      simp only [hti] at h
      have hT := hC.ty t ti hti
      refine ⟨ti, rfl, ?_⟩
      split at h
      · rename_i k a k' b' hk
        cases hkk : kindEq k k' with
        | false => simp [hkk] at h
        | true =>
          simp [hkk] at h; subst h
          cases kindEq_eq hkk
          obtain ⟨v, rfl, _, hv⟩ := prl_one hx
          obtain ⟨u, rfl, _, hu⟩ := prl_one hy
          simp only [PR] at hv hu; subst hv; subst hu
          refine ⟨fun _ => ⟨rfl, rfl⟩, fun m hm => ?_⟩
          obtain ⟨m, rfl⟩ : ∃ m', m = m' + 1 := ⟨m - 1, by omega⟩
          rw [show ti.k.row = false from by rw [hk]; rfl]
          simp only [vAt, Bool.false_eq_true, if_false, List.headD_cons]
          simp [Op.equalIn, run_underlying (und_int hT hk)]
          rfl
      · rename_i a b' hk
        simp at h; subst h
        obtain ⟨v, rfl, _, hv⟩ := prl_one hx
        obtain ⟨u, rfl, _, hu⟩ := prl_one hy
        simp only [PR] at hv hu; subst hv; subst hu
        refine ⟨fun _ => ⟨rfl, rfl⟩, fun m hm => ?_⟩
        obtain ⟨m, rfl⟩ : ∃ m', m = m' + 1 := ⟨m - 1, by omega⟩
        rw [show ti.k.row = false from by rw [hk]; rfl]
        simp only [vAt, Bool.false_eq_true, if_false, List.headD_cons]
        simp [Op.equalIn, run_underlying (und_bool hT hk)]
      · rename_i a b' hk
        simp only [Option.some.injEq] at h; subst h
        obtain ⟨v, rfl, _, hv⟩ := prl_one hx
        obtain ⟨u, rfl, _, hu⟩ := prl_one hy
        simp only [PR] at hv hu; subst hv; subst hu
        refine ⟨fun _ => ⟨rfl, rfl⟩, fun m hm => ?_⟩
        obtain ⟨m, rfl⟩ : ∃ m', m = m' + 1 := ⟨m - 1, by omega⟩
        rw [show ti.k.row = false from by rw [hk]; rfl]
        simp only [vAt, Bool.false_eq_true, if_false, List.headD_cons]
        simp only [Op.equalIn, Sem.run_bind, run_underlying (und_str hT hk), Result.andThen_ok, Sem.run_pure]
        rw [beq_toListBytes, beq_bytes]
      · rename_i fs hk
        obtain ⟨gs, hu, hf⟩ := und_struct hT hk
        refine ⟨(fun hr => by rw [hk] at hr; cases hr), fun m hm => ?_⟩
        obtain ⟨m, rfl⟩ : ∃ m', m = m' + 1 := ⟨m - 1, by omega⟩
        rw [show ti.k.row = true from by rw [hk]; rfl]
        simp only [vAt, if_true]
        have hF : P.fieldsOf t = gs := by simp [Program.fieldsOf, hu]
        rw [run_equalIn_struct w m t vs.toArray us.toArray (by rw [hF]; exact hu) (tyOK_held hT hu), hF]
        exact eqF_ok hC hx hy (fun t x y b vs us he hx hy => by
          obtain ⟨ti, h1, h2, h3⟩ := eqP_ok hC d t x y b vs us he hx hy
          exact ⟨ti, h1, h2, h3 m (by omega)⟩) fs gs.toList b hf h
      · cases h
theorem pr_cells {p : PV} {v : Value} (ho : oneP p = true) (h : PR w Y p v) : PRL w Y [p] [v] := by
  simp only [PRL]; exact ⟨v, [], rfl, ho, h, rfl⟩
theorem eqV_ok (hC : CfgOK P C) {t : Nat} {p q : PV} {b : Bool} {v u : Value} (h : eqV C.ty t p q = some b) (hp : PR w Y p v) (hq : PR w Y q u) :
    (Op.equalIn 10000 t v u).run P w = .ok b w ∧ ((∃ xs ys, v = .agg xs ∧ u = .agg ys ∧ P.eqGuardType P.depth t = false) ∨ (oneP p = true ∧ oneP q = true)) := by
  unfold eqV at h
  cases hti : C.ty t with
  | none => simp [hti] at h
  | some ti =>
    simp only [hti] at h
    cases hr : ti.k.row with
    | true =>
      simp only [hr, cond_true] at h
      split at h
      · rename_i x y
        simp only [PR] at hp hq
        obtain ⟨vs, rfl, hvs⟩ := hp
        obtain ⟨us, rfl, hus⟩ := hq
        obtain ⟨ti', h1, _, h3⟩ := eqP_ok hC 20 t x y b vs us h hvs hus
        rw [hti] at h1; cases h1
        have h4 := h3 10000 (by omega)
        rw [hr] at h4
        simp only [vAt, if_true] at h4
        refine ⟨h4, .inl ⟨_, _, rfl, rfl, ?_⟩⟩
        cases hk : ti.k <;> rw [hk] at hr <;> simp [TK.row] at hr
        · simp [eqP, hti, hk] at h
        · obtain ⟨gs, hu, _⟩ := und_struct (hC.ty t ti hti) hk
          exact tyOK_guard (hC.ty t ti hti) hu
      · cases h
    | false =>
      simp only [hr, cond_false] at h
      cases ho : oneP p && oneP q with
      | false => simp [ho] at h
      | true =>
        simp only [ho, cond_true] at h
        rw [Bool.and_eq_true] at ho
        obtain ⟨ti', h1, _, h3⟩ := eqP_ok hC 20 t _ _ b _ _ h (pr_cells ho.1 hp) (pr_cells ho.2 hq)
        rw [hti] at h1; cases h1
        have h4 := h3 10000 (by omega)
        rw [hr] at h4
        simp only [vAt, Bool.false_eq_true, if_false, List.headD_cons] at h4
        exact ⟨h4, .inr ho⟩
theorem x_eql_of {t t' : TypeId} {x y : Operand} {v u : Value} {b : Bool} (hx : ρ x = v) (hy : ρ y = u) (h : (Op.equalIn 10000 t v u).run P w = .ok b w) (hg : (eqGuard .eql t x y v u).run P w = .ok () w)
    (hb : binOp .eql t v u = (do pure (.bool (← Op.equal t v u)))) : (execOp ρ ⟨d, .binOp .eql t x y t', ty, pos, af, g⟩).run P w = .ok (.value (.bool b)) w := by
  subst hx; subst hy
  simp only [execOp, Sem.run_bind, hg, Result.andThen_ok, hb, Op.equal, Op.maxDepth, h, Sem.run_pure]
theorem x_neq_of {t t' : TypeId} {x y : Operand} {v u : Value} {b : Bool} (hx : ρ x = v) (hy : ρ y = u) (h : (Op.equalIn 10000 t v u).run P w = .ok b w) (hg : (eqGuard .neq t x y v u).run P w = .ok () w)
    (hb : binOp .neq t v u = (do pure (.bool (!(← Op.equal t v u))))) : (execOp ρ ⟨d, .binOp .neq t x y t', ty, pos, af, g⟩).run P w = .ok (.value (.bool (!b))) w := by
  subst hx; subst hy
  simp only [execOp, Sem.run_bind, hg, Result.andThen_ok, hb, Op.equal, Op.maxDepth, h, Sem.run_pure]
def EqB (P : Program) (w : World) (t : Nat) (v u : Value) (b : Bool) : Prop :=
  (Op.equalIn 10000 t v u).run P w = .ok b w ∧ (∀ x y, (eqGuard .eql t x y v u).run P w = .ok () w ∧ (eqGuard .neq t x y v u).run P w = .ok () w) ∧
  binOp .eql t v u = (do pure (.bool (← Op.equal t v u))) ∧ binOp .neq t v u = (do pure (.bool (!(← Op.equal t v u))))
theorem eqI_sl {t e n : Nat} {A : Option Addr} {a c b e' : Nat} (ht : P.underlying t = some (.slice e)) : (Op.equalIn (n + 1) t (.slice A a c) (.slice none b e')).run P w = .ok A.isNone w := by
  cases A <;> simp [Op.equalIn, run_underlying ht]
theorem eqI_fn0 {t n : Nat} {u : TypeDesc} (hu : P.underlying t = some u) (hk : kindOK .func u = true) : (Op.equalIn (n + 1) t .nilFunc .nilFunc).run P w = .ok true w := by
  cases u <;> simp [kindOK] at hk
  simp [Op.equalIn, run_underlying hu]
theorem eqI_fn1 {t n : Nat} {u : TypeDesc} {f : Fn} {a b : Array Value} (hu : P.underlying t = some u) (hk : kindOK .func u = true) : (Op.equalIn (n + 1) t (.func f a b) .nilFunc).run P w = .ok false w := by
  cases u <;> simp [kindOK] at hk
  simp [Op.equalIn, run_underlying hu]
theorem eqI_map {t k e n : Nat} {m : Option Nat} (ht : P.underlying t = some (.map k e)) : (Op.equalIn (n + 1) t (.map m) (.map none)).run P w = .ok m.isNone w := by
  cases m <;> simp [Op.equalIn, run_underlying ht]
theorem evEq_ok (hC : CfgOK P C) (hH : HR X φ H w) {t : Nat} {x y : AV} {b : Bool} {v u : Value} (h : evEq C H t x y = some b) (hx : VR w (YOf X φ) φ x v) (hy : VR w (YOf X φ) φ y u)
    (hni : ∀ k a k' c, ¬ (x = .pl (.int k a) ∧ y = .pl (.int k' c))) (hns : ∀ a c, ¬ (x = .pl (.str a) ∧ y = .pl (.str c))) : EqB P w t v u b := by
  unfold evEq at h
  cases hti : C.ty t with
  | none => simp [hti] at h
  | some ti =>
    simp only [hti] at h
    have hT := hC.ty t ti hti
    split at h
    · rename_i e hk
      simp at h; subst h
      simp only [VR, PR, flOk] at hx hy
      obtain ⟨A, c, rfl, _, _, ⟨rfl, rfl⟩, _⟩ := hx
      obtain ⟨A, c, rfl, _, _, ⟨rfl, rfl⟩, _⟩ := hy
      exact ⟨eqI_sl (n := 9999) (und_sl hT hk), fun x y => ⟨by simp [eqGuard], by simp [eqGuard]⟩, rfl, rfl⟩
    · rename_i e f sz e0 es0 sz' es' hn hk
      simp at h; subst h
      simp only [VR, PR, flOk] at hx hy
      obtain ⟨A, c, rfl, _, _, _, hA⟩ := hx
      obtain ⟨A', c', rfl, _, _, ⟨rfl, rfl⟩, _⟩ := hy
      rcases hA with hA | ⟨b, o, rfl, _⟩
      · simp at hA
      · exact ⟨eqI_sl (n := 9999) (und_sl hT hk), fun x y => ⟨by simp [eqGuard], by simp [eqGuard]⟩, rfl, rfl⟩
    · rename_i e o sz' es' hk
      split at h
      · rename_i fz sz e0 es0 ho
        simp at h; subst h
        obtain ⟨z, l, hl, hO⟩ := hH.ob _ _ ho
        simp only [VR, PR, flOk] at hx hy
        obtain ⟨A', c', rfl, _, _, ⟨rfl, rfl⟩, _⟩ := hy
        have := hx.2.2 _ l hl; subst this
        simp only [OR] at hO
        obtain ⟨_, h1, _, h2, _, h3⟩ := hO
        rcases h3 with ⟨_, h4⟩ | ⟨b, p, _, _, h4, _⟩
        · simp at h1; omega
        · exact ⟨by have := eqI_sl (P := P) (w := w) (n := 9999) (A := l.addr 0) (a := l.n) (c := l.c) (b := es'.length) (e' := 0) (und_sl hT hk); simpa [Loc.addr, h4] using this, fun x y => ⟨by simp [eqGuard], by simp [eqGuard]⟩, rfl, rfl⟩
      · cases h
    · rename_i e o off len sz' es' hk
      split at h
      · rename_i fz sz es ho
        simp at h; subst h
        obtain ⟨z, l, hl, hO⟩ := hH.ob _ _ ho
        simp only [VR, PR, flOk] at hx hy
        obtain ⟨A', c', rfl, _, _, ⟨rfl, rfl⟩, _⟩ := hy
        obtain ⟨A, c, rfl, h5, h6, h7⟩ := hx.2.2 _ l hl
        simp only [OR] at hO
        obtain ⟨_, _, _, h2, _, _⟩ := hO
        obtain ⟨_, h8⟩ := h7 (by omega)
        cases A with
        | none => exact absurd rfl h8
        | some a => exact ⟨eqI_sl (n := 9999) (und_sl hT hk), fun x y => ⟨by simp [eqGuard], by simp [eqGuard]⟩, rfl, rfl⟩
      · cases h
    · rename_i hk
      simp at h; subst h
      simp only [VR, PR] at hx hy; subst hx; subst hy
      obtain ⟨u, hu, hq⟩ := tyOK_und hT
      rw [hk] at hq
      exact ⟨eqI_fn0 (n := 9999) hu hq, fun x y => ⟨by simp [eqGuard], by simp [eqGuard]⟩, rfl, rfl⟩
    · rename_i hk
      simp at h; subst h
      simp only [VR, PR] at hx hy; subst hx; subst hy
      obtain ⟨u, hu, hq⟩ := tyOK_und hT
      rw [hk] at hq
      exact ⟨eqI_fn1 (n := 9999) hu hq, fun x y => ⟨by simp [eqGuard], by simp [eqGuard]⟩, rfl, rfl⟩
    · rename_i hk
      simp at h; subst h
      simp only [VR, PR] at hx hy; subst hy
      obtain ⟨vs, rfl, _⟩ := hx
      obtain ⟨u, hu, hq⟩ := tyOK_und hT
      rw [hk] at hq
      exact ⟨eqI_fn1 (n := 9999) hu hq, fun x y => ⟨by simp [eqGuard], by simp [eqGuard]⟩, rfl, rfl⟩
    · rename_i k e hk
      simp at h; subst h
      simp only [VR, PR] at hx hy; subst hx; subst hy
      exact ⟨eqI_map (n := 9999) (und_map hT hk), fun x y => ⟨by simp [eqGuard], by simp [eqGuard]⟩, rfl, rfl⟩
    · rename_i k e o hk
      split at h
      · rename_i kvs ho
        simp at h; subst h
        obtain ⟨z, l, hl, hO⟩ := hH.ob _ _ ho
        simp only [VR, PR] at hx hy; subst hy
        obtain ⟨b, _, rfl⟩ := hx.2.2 _ l hl
        exact ⟨eqI_map (n := 9999) (und_map hT hk), fun x y => ⟨by simp [eqGuard], by simp [eqGuard]⟩, rfl, rfl⟩
      · cases h
    · rename_i p q _ _ _ _ _
      simp only [VR] at hx hy
      obtain ⟨h1, h2⟩ := eqV_ok hC h hx hy
      rcases h2 with ⟨xs, ys, rfl, rfl, hg⟩ | ⟨hp, hq⟩
      · exact ⟨h1, fun x y => ⟨run_eqGuard_agg w .eql t x y xs ys hg, run_eqGuard_agg w .neq t x y xs ys hg⟩, rfl, rfl⟩
      · unfold eqV at h
        simp only [hti, hp, hq, Bool.and_self, cond_true] at h
        cases hr : ti.k.row with
        | true => simp only [hr, cond_true] at h; cases p <;> cases q <;> simp_all [oneP]
        | false =>
          simp only [hr, cond_false, eqP, hti] at h
          split at h
          · rename_i heq1 heq2; simp only [List.cons.injEq, and_true] at heq1 heq2; exact absurd ⟨by rw [heq1], by rw [heq2]⟩ (hni _ _ _ _)
          · rename_i a c hk heq1 heq2
            simp only [List.cons.injEq, and_true] at heq1 heq2; subst heq1; subst heq2
            simp only [PR] at hx hy; subst hx; subst hy
            exact ⟨h1, fun x y => ⟨by simp [eqGuard], by simp [eqGuard]⟩, rfl, rfl⟩
          · rename_i heq1 heq2; simp only [List.cons.injEq, and_true] at heq1 heq2; exact absurd ⟨by rw [heq1], by rw [heq2]⟩ (hns _ _)
          · rename_i hk; rw [hk] at hr; cases hr
          · cases h
    · cases h
theorem evBin_ok (hC : CfgOK P C) (hH : HR X φ H w) {op : BinOp} {t t' : Nat} {x y : Operand} {a c r : AV} (h : evBin C H op t a c = some r) (hx : VR w (YOf X φ) φ a (ρ x)) (hy : VR w (YOf X φ) φ c (ρ y)) :
    ∃ v, (execOp ρ ⟨d, .binOp op t x y t', ty, pos, af, g⟩).run P w = .ok (.value v) w ∧ VR w (YOf X φ) φ r v := by
  unfold evBin at h
  split at h
  · simp only [VR, PR] at hx hy
    simp only [Option.map_eq_some_iff] at h
    obtain ⟨p, hp, rfl⟩ := h
    obtain ⟨v, h1, h2⟩ := x_shI (Y := YOf X φ) (.inl rfl) hp hx hy
    exact ⟨v, h1, by simpa only [VR] using h2⟩
  · simp only [VR, PR] at hx hy
    simp only [Option.map_eq_some_iff] at h
    obtain ⟨p, hp, rfl⟩ := h
    obtain ⟨v, h1, h2⟩ := x_shI (Y := YOf X φ) (.inr rfl) hp hx hy
    exact ⟨v, h1, by simpa only [VR] using h2⟩
  · rename_i k a k' b _ _
    cases hkk : kindEq k k' with
    | false => simp [hkk] at h
    | true =>
      cases kindEq_eq hkk
      simp only [hkk, cond_true, Option.map_eq_some_iff] at h
      obtain ⟨p, hp, rfl⟩ := h
      simp only [VR, PR] at hx hy
      obtain ⟨v, h1, h2⟩ := x_binI (Y := YOf X φ) hp hx hy
      exact ⟨v, h1, by simpa only [VR] using h2⟩
  · simp only [VR, PR] at hx hy
    simp only [Option.map_eq_some_iff] at h
    obtain ⟨p, hp, rfl⟩ := h
    obtain ⟨v, h1, h2⟩ := x_binS (Y := YOf X φ) hp hx hy
    exact ⟨v, h1, by simpa only [VR] using h2⟩
  · simp only [Option.map_eq_some_iff] at h
    obtain ⟨b, hb, rfl⟩ := h
    rename_i hni hns
    obtain ⟨h1, h2, h3, _⟩ := evEq_ok hC hH hb hx hy (fun k a k' c hc => hni _ _ _ _ hc.1 hc.2) (fun a c hc => hns _ _ hc.1 hc.2)
    exact ⟨.bool b, x_eql_of rfl rfl h1 (h2 x y).1 h3, by simp only [VR, PR]⟩
  · simp only [Option.map_eq_some_iff] at h
    obtain ⟨b, hb, rfl⟩ := h
    rename_i hni hns
    obtain ⟨h1, h2, _, h3⟩ := evEq_ok hC hH hb hx hy (fun k a k' c hc => hni _ _ _ _ hc.1 hc.2) (fun a c hc => hns _ _ hc.1 hc.2)
    exact ⟨.bool (!b), x_neq_of rfl rfl h1 (h2 x y).2 h3, by simp only [VR, PR]⟩
  · cases h
end
end Go.Proofs.Ytelblamgfbkhbaa
namespace Go.Proofs.Ytelblamgfbkhbaa
set_option linter.unusedSimpArgs false
set_option linter.unusedVariables false
open Go.RowKit
section
variable {P : Program} {C : Cfg} {w w' : World} {Y X : Nat → Prop} {φ : Phi} {H : Hp}
theorem pr_one {p : PV} {v : Value} (ho : oneP p = true) (h : PR w Y p v) : v.oneCell' = true ∧ v.cells = #[v] := by
  cases p <;> simp only [PR] at h <;> first
    | (simp [oneP] at ho; done)
    | (subst h; exact ⟨rfl, rfl⟩)
    | (obtain ⟨A, c, rfl, _⟩ := h; exact ⟨rfl, rfl⟩)
    | (obtain ⟨y, rfl, _⟩ := h; exact ⟨rfl, rfl⟩)
theorem vr_one {a : AV} {v : Value} (ho : oneA a = true) (h : VR w Y φ a v) : v.oneCell' = true ∧ v.cells = #[v] := by
  have key : v.oneCell' = true → v.oneCell' = true ∧ v.cells = #[v] := fun h1 => ⟨h1, by cases v <;> first | rfl | (simp [Value.oneCell'] at h1)⟩
  cases a <;> simp only [VR] at h <;> first
    | (simp [oneA] at ho; done)
    | exact key h.1
    | skip
  · exact pr_one (by rename_i p; cases p <;> simp_all [oneA, oneP]) h
  · obtain ⟨vs, rfl, _⟩ := h; exact ⟨rfl, rfl⟩
  · obtain ⟨b, o, rfl, _⟩ := h; exact ⟨rfl, rfl⟩
theorem VRL.one : ∀ {cs : List AV} {vs : List Value}, VRL w Y φ cs vs → ∀ v ∈ vs, v.oneCell' = true
  | [], vs, h, v, hv => by simp only [VRL] at h; subst h; cases hv
  | c :: cs, vs, h, v, hv => by
    simp only [VRL] at h
    obtain ⟨u, r, rfl, ho, hc, hr⟩ := h
    rcases List.mem_cons.1 hv with rfl | hv
    · exact (vr_one ho hc).1
    · exact VRL.one hr v hv
theorem vr_cells {a : AV} {v : Value} (ha : a.cells.all oneA = true) (h : VR w Y φ a v) : VRL w Y φ a.cells v.cells.toList := by
  have key : oneA a = true → a.cells = [a] → VRL w Y φ a.cells v.cells.toList := fun ho hc => by
    rw [hc, (vr_one ho h).2]
    simp only [VRL]
    exact ⟨v, [], rfl, ho, h, rfl⟩
  cases a with
  | agg cs => simp only [VR] at h; obtain ⟨vs, rfl, hl⟩ := h; exact hl
  | tup vs => simp [AV.cells, oneA] at ha
  | un => simp [AV.cells, oneA] at ha
  | pl p =>
    cases p with
    | agg cs => simp only [VR, PR] at h; obtain ⟨vs, rfl, hl⟩ := h; exact hl.vrl
    | _ => exact key rfl rfl
  | _ => exact key rfl rfl
theorem pr_cells_of {p : PV} {v : Value} (h : PR w Y p v) : PRL w Y p.cells v.cells.toList := by
  have key : oneP p = true → p.cells = [p] → PRL w Y p.cells v.cells.toList := fun ho hc => by
    rw [hc, (pr_one ho h).2]; exact pr_cells ho h
  cases p with
  | agg cs => simp only [PR] at h; obtain ⟨vs, rfl, hl⟩ := h; exact hl
  | _ => exact key rfl rfl


theorem PRC.at {b : Nat} : ∀ {cs : List PV} {o : Nat}, PRC w Y b o cs → ∀ {i : Nat} {c : PV}, cs[i]? = some c → ∃ v, w.cell? ⟨b, o + i, none⟩ = some v ∧ oneP c = true ∧ PR w Y c v
  | [], _, _, i, c, hi => by simp at hi
  | x :: cs, o, h, i, c, hi => by
    simp only [PRC] at h
    cases i with
    | zero => simp at hi; subst hi; exact h.1
    | succ i =>
      simp at hi
      have := PRC.at h.2 hi
      rwa [show o + 1 + i = o + (i + 1) from by omega] at this
theorem PRC.vals {b : Nat} : ∀ {cs : List PV} {o : Nat}, PRC w Y b o cs → ∃ vs, PRL w Y cs vs ∧ w.rangeAt b o vs
  | [], _, _ => ⟨[], by simp only [PRL], fun j v hj => by simp at hj⟩
  | x :: cs, o, h => by
    simp only [PRC] at h
    obtain ⟨⟨v, hv, ho, hx⟩, hr⟩ := h
    obtain ⟨vs, h1, h2⟩ := PRC.vals hr
    refine ⟨v :: vs, by simp only [PRL]; exact ⟨v, vs, rfl, ho, hx, h1⟩, fun j u hj => ?_⟩
    cases j with
    | zero => simp at hj; subst hj; exact hv
    | succ j =>
      simp at hj
      have := h2 j u hj
      rwa [show o + 1 + j = o + (j + 1) from by omega] at this
theorem PRC.of_vals {b : Nat} : ∀ {cs : List PV} {vs : List Value} {o : Nat}, PRL w Y cs vs → w.rangeAt b o vs → PRC w Y b o cs
  | [], _, _, _, _ => by simp only [PRC]
  | x :: cs, vs, o, h, hr => by
    simp only [PRL] at h
    obtain ⟨v, r, rfl, ho, hx, hl⟩ := h
    simp only [PRC]
    refine ⟨⟨v, hr 0 v rfl, ho, hx⟩, PRC.of_vals hl fun j u hj => ?_⟩
    have := hr (j + 1) u (by simpa using hj)
    rwa [show o + (j + 1) = o + 1 + j from by omega] at this
theorem rangeAt_sub {b o : Nat} {vs : List Value} (h : w.rangeAt b o vs) (k n : Nat) : w.rangeAt b (o + k) ((vs.drop k).take n) := fun j v hj => by
  have hj' : vs[k + j]? = some v := by
    rw [List.getElem?_take] at hj
    split at hj
    · simpa [List.getElem?_drop] using hj
    · cases hj
  have := h (k + j) v hj'
  rwa [show o + (k + j) = o + k + j from by omega] at this
theorem PRE.at {b sz : Nat} : ∀ {es : List (List PV)} {o : Nat}, PRE w Y b sz o es → ∀ {i : Nat} {e : List PV}, es[i]? = some e → e.length = sz ∧ PRC w Y b (o + i * sz) e
  | [], _, _, i, e, hi => by simp at hi
  | x :: es, o, h, i, e, hi => by
    simp only [PRE] at h
    cases i with
    | zero => simp at hi; subst hi; simpa using ⟨h.1, h.2.1⟩
    | succ i =>
      simp at hi
      have := PRE.at h.2.2 hi
      rwa [show o + sz + i * sz = o + (i + 1) * sz from by rw [Nat.succ_mul]; omega] at this
theorem PRE.of {b sz : Nat} : ∀ {es : List (List PV)} {o : Nat}, (∀ i e, es[i]? = some e → e.length = sz ∧ PRC w Y b (o + i * sz) e) → PRE w Y b sz o es
  | [], _, _ => by simp only [PRE]
  | x :: es, o, h => by
    simp only [PRE]
    have h0 := h 0 x rfl
    refine ⟨h0.1, by simpa using h0.2, PRE.of fun i e hi => ?_⟩
    have := h (i + 1) e (by simpa using hi)
    rwa [show o + (i + 1) * sz = o + sz + i * sz from by rw [Nat.succ_mul]; omega] at this
theorem PRE.drop {b sz : Nat} {es : List (List PV)} {o : Nat} (h : PRE w Y b sz o es) (n : Nat) : PRE w Y b sz (o + n * sz) (es.drop n) := PRE.of fun i e hi => by
  rw [List.getElem?_drop] at hi
  have := h.at hi
  rwa [show o + (n + i) * sz = o + n * sz + i * sz from by rw [Nat.add_mul]; omega] at this
theorem PRE.take {b sz : Nat} {es : List (List PV)} {o : Nat} (h : PRE w Y b sz o es) (n : Nat) : PRE w Y b sz o (es.take n) := PRE.of fun i e hi => by
  rw [List.getElem?_take] at hi
  split at hi
  · exact h.at hi
  · cases hi

variable {nid : Nat} {ρ : Operand → Value} {d : Option Tmp} {ty : TypeId} {pos : String} {af : Array Edge} {g : Option (Nat × Bool)}
theorem good_new {r : Result Next} {n t : Nat} {cs : Array Value} {as : List AV} (hH : HR X φ H w) (hf : Free φ H n) (hr : r = .ok (.value (.pointer (some ⟨w.heap.size, 0, none⟩))) (w.alloc (.cells cs t)))
    (hv : VRL w (YOf X φ) φ as cs.toList) : Good n H X φ w (.bp n 0) (hput H n (.box as)) r := by
  let l : Loc := ⟨some (w.heap.size, 0), 0, 0, 0⟩
  have ev : Ev φ w (φ.set n (.at false l)) (w.alloc (.cells cs t)) := Ev.new hf.fr _ l (fun b p e => by cases e; exact Nat.le_refl _)
  refine ⟨_, _, _, φ.set n (.at false l), hr, .inl rfl, ?_, hH.new hf _ l (.box as) (fun b p e => by cases e; rfl) ?_, ev, (length_put' hf.le).1, fun k hk h => by rw [Phi.set_ne hk]; exact h⟩
  · simp only [VR]
    refine ⟨rfl, (by rw [Phi.set_self]; intro h; cases h), fun _ l' hl' => ?_⟩
    rw [Phi.set_self] at hl'; cases hl'
    exact ⟨_, rfl, rfl⟩
  · simp only [OR]
    exact ⟨trivial, w.heap.size, t, cs.toList, rfl, heap_alloc_new w _, VRL.stay ev X as cs.toList hv⟩
theorem g_alloc {n e : Nat} {ti : TI} (hC : CfgOK P C) (hH : HR X φ H w) (hf : Free φ H n) (hti : C.ty e = some ti) : Good n H X φ w (.bp n 0) (hput H n (.box (ti.zero.map .pl))) ((execOp ρ ⟨d, .alloc e, ty, pos, af, g⟩).run P w) := by
  obtain ⟨i, z, hi, _, _, hz, hl⟩ := tyOK_info (hC.ty e ti hti)
  exact good_new hH hf (x_alloc hi hz) (hl w _).vrl
theorem g_box {n e : Nat} {x : Operand} {a : AV} (hH : HR X φ H w) (hf : Free φ H n) (hx : VR w (YOf X φ) φ a (ρ x)) (ha : a.cells.all oneA = true) : Good n H X φ w (.bp n 0) (hput H n (.box a.cells)) ((execOp ρ ⟨d, .box e x, ty, pos, af, g⟩).run P w) :=
  good_new hH hf (x_box rfl) (vr_cells ha hx)


theorem load_cells {t b o : Nat} {ti : TI} {x : Operand} {vs : List Value} (hT : tyOKB P t ti = true) (hr : ti.k.row = true) (hl : vs.length = ti.size) (hx : ρ x = .pointer (some ⟨b, o, none⟩)) (hc : w.rangeAt b o vs) :
    (execOp ρ ⟨d, .load t x, ty, pos, af, g⟩).run P w = .ok (.value (.agg vs.toArray)) w := by
  obtain ⟨i, z, hi, hs, _⟩ := tyOK_info hT
  obtain ⟨u, hu, hrow⟩ := und_row hT
  exact x_loadn hu (by rw [hrow, hr]) (by simp [hi, hs, hl]) hx hc
theorem load_cell {t : Nat} {ti : TI} {a : Addr} {x : Operand} {v : Value} (hT : tyOKB P t ti = true) (hr : ti.k.row = false) (hx : ρ x = .pointer (some a)) (hc : w.cell? a = some v) :
    (execOp ρ ⟨d, .load t x, ty, pos, af, g⟩).run P w = .ok (.value v) w := by
  obtain ⟨u, hu, hrow⟩ := und_row hT
  exact x_load1 hu (by rw [hrow, hr]) hx hc
theorem load_plain {t b o off : Nat} {ti : TI} {x : Operand} {c : List PV} {v : AV} (hT : tyOKB P t ti = true) (hx : ρ x = .pointer (some ⟨b, o + off, none⟩)) (hc : PRC w (YOf X φ) b o c)
    (h : (bif ti.k.row then (bif Nat.ble (off + ti.size) c.length then some (AV.pl (.agg ((c.drop off).take ti.size))) else none) else (c[off]?).map .pl) = some v) :
    ∃ u, (execOp ρ ⟨d, .load t x, ty, pos, af, g⟩).run P w = .ok (.value u) w ∧ VR w (YOf X φ) φ v u := by
  cases hr : ti.k.row with
  | true =>
    simp only [hr, cond_true] at h
    cases hb : Nat.ble (off + ti.size) c.length with
    | false => simp [hb] at h
    | true =>
      simp only [hb, cond_true, Option.some.injEq] at h; subst h
      obtain ⟨vs, h1, h2⟩ := PRC.vals hc
      have hlen : ((vs.drop off).take ti.size).length = ti.size := by
        have := h1.length; simp at hb; simp; omega
      refine ⟨_, load_cells hT hr hlen hx (rangeAt_sub h2 off ti.size), ?_⟩
      simp only [VR, PR]
      exact ⟨_, rfl, (h1.drop off).take ti.size⟩
  | false =>
    simp only [hr, cond_false, Option.map_eq_some_iff] at h
    obtain ⟨p, hp, rfl⟩ := h
    obtain ⟨u, h1, _, h2⟩ := PRC.at hc hp
    exact ⟨u, load_cell hT hr hx h1, by simpa only [VR] using h2⟩
theorem g_load {t : Nat} {x : Operand} {a v : AV} (hC : CfgOK P C) (hH : HR X φ H w) (h : evLoad C H t a = some v) (hx : VR w (YOf X φ) φ a (ρ x)) :
    ∃ u, (execOp ρ ⟨d, .load t x, ty, pos, af, g⟩).run P w = .ok (.value u) w ∧ VR w (YOf X φ) φ v u := by
  unfold evLoad at h
  cases hti : C.ty t with
  | none => simp [hti] at h
  | some ti =>
    simp only [hti] at h
    have hT := hC.ty t ti hti
    split at h
    · rename_i o off
      split at h
      · rename_i cs ho
        obtain ⟨z, l, hl, hO⟩ := hH.ob _ _ ho
        simp only [VR] at hx
        obtain ⟨b, hA, hx⟩ := hx.2.2 _ l hl
        simp only [OR] at hO
        obtain ⟨rfl, b', t', vs, hA', hg, hv⟩ := hO
        rw [hA] at hA'; cases hA'
        have hra : w.rangeAt b 0 vs := fun j u hj => by simp [World.cell?, hg, hj]
        cases hr : ti.k.row with
        | true =>
          simp only [hr, cond_true] at h
          cases hb : Nat.ble (off + ti.size) cs.length with
          | false => simp [hb] at h
          | true =>
            simp only [hb, cond_true, Option.some.injEq] at h; subst h
            have hlen : ((vs.drop off).take ti.size).length = ti.size := by
              have := hv.length; simp at hb; simp; omega
            have hra' := rangeAt_sub hra off ti.size
            rw [Nat.zero_add] at hra'
            exact ⟨_, load_cells hT hr hlen hx hra', VR.mkAgg ((hv.drop off).take ti.size)⟩
        | false =>
          simp only [hr, cond_false] at h
          obtain ⟨u, h1, _, h2⟩ := VRL.at hv h
          refine ⟨u, load_cell hT hr hx ?_, h2⟩
          have := hra off u h1
          rwa [Nat.zero_add] at this
      · cases h
    · rename_i o i off
      split at h
      · rename_i fz sz es ho
        obtain ⟨z, l, hl, hO⟩ := hH.ob _ _ ho
        simp only [VR] at hx
        obtain ⟨b, p, hA, hx⟩ := hx.2.2 _ l hl
        simp only [OR] at hO
        obtain ⟨_, _, hsz, _, _, h5⟩ := hO
        rcases h5 with ⟨h6, _⟩ | ⟨b', p', t', cs, hA', hg, _, hE, _⟩
        · rw [hA] at h6; cases h6
        · rw [hA] at hA'; cases hA'
          split at h
          · rename_i c hc
            have hE' := (hE.at hc).2
            rw [hsz] at hx
            exact load_plain hT hx hE' h
          · cases h
      · cases h
    · simp only [VR] at hx
      obtain ⟨b, o, hx, _, _, hc⟩ := hx
      exact load_plain hT hx hc h
    · cases h


theorem setCell_heap (w : World) {b t o : Nat} {cs : Array Value} (v : Value) (h : w.heap[b]? = some (.cells cs t (0, 0))) : (w.setCell ⟨b, o, none⟩ v).heap[b]? = some (.cells (cs.setIfInBounds o v) t (0, 0)) := by
  simp [World.setCell, Array.getElem?_modify, h]
theorem set_list (cs vs : List Value) (v : Value) (j : Nat) (hj : j < cs.length) : (cs.set j v).take (j + 1) ++ vs ++ (cs.set j v).drop (j + 1 + vs.length) = cs.take j ++ (v :: vs) ++ cs.drop (j + (vs.length + 1)) := by
  have h1 : (cs.set j v).take (j + 1) = cs.take j ++ [v] := by
    rw [List.take_succ_eq_append_getElem (by simpa using hj), List.take_set, List.set_eq_of_length_le (by simp; omega), List.getElem_set_self]
  have h2 : (cs.set j v).drop (j + 1 + vs.length) = cs.drop (j + (vs.length + 1)) := by
    rw [List.drop_set, if_pos (by omega)]
    congr 1; omega
  rw [h1, h2]; simp
theorem setCells_at {b t : Nat} : ∀ (vs cs : List Value) (j : Nat) (w : World), w.heap[b]? = some (.cells cs.toArray t (0, 0)) → j + vs.length ≤ cs.length →
    (w.setCells b j vs).heap[b]? = some (.cells (cs.take j ++ vs ++ cs.drop (j + vs.length)).toArray t (0, 0))
  | [], cs, j, w, h, _ => by
    simp only [World.setCells, List.append_nil, List.length_nil, Nat.add_zero, List.take_append_drop]
    exact h
  | v :: vs, cs, j, w, h, hl => by
    have hj : j < cs.length := by simp at hl; omega
    have h1 : (w.setCell ⟨b, j, none⟩ v).heap[b]? = some (.cells (cs.set j v).toArray t (0, 0)) := by
      rw [setCell_heap w v h]
      congr 2
      apply Array.ext'
      simp
    have h2 := setCells_at vs (cs.set j v) (j + 1) _ h1 (by simp at hl ⊢; omega)
    rw [World.setCells, h2, set_list cs vs v j hj]
    rfl
theorem setCells_far (b : Nat) : ∀ (vs : List Value) (o : Nat) (w : World), (w.setCells b o vs).os = w.os ∧ (w.setCells b o vs).tape = w.tape ∧ ((w.setCells b o vs).output = w.output ∧ w.drawn ≤ (w.setCells b o vs).drawn) ∧ (w.setCells b o vs).heap.size = w.heap.size ∧ ∀ k, k ≠ b → (w.setCells b o vs).heap[k]? = w.heap[k]?
  | [], _, w => ⟨rfl, rfl, ⟨rfl, Nat.le_refl _⟩, rfl, fun _ _ => rfl⟩
  | v :: vs, o, w => by
    rw [World.setCells]
    obtain ⟨h1, h2, h3, h4, h5⟩ := setCells_far b vs (o + 1) (w.setCell ⟨b, o, none⟩ v)
    exact ⟨h1, h2, h3, h4.trans (by simp [World.setCell]), fun k hk => (h5 k hk).trans (Below.heap_setCell w _ v k (by simpa using hk))⟩
theorem run_store_at {t b o : Nat} {v : Value} {n : Nat} (hi : (P.info? t).map (·.size) = some n) (hn : v.cells.size = n) (ht : w.there b o n) (h1 : ∀ u ∈ v.cells.toList, u.oneCell' = true) :
    (Instr.storeAt t (.pointer (some ⟨b, o, none⟩)) v).run P w = .ok () (w.setCells b o v.cells.toList) := by
  have := run_storeCells_cells (P := P) b o v.cells.toList 0 w (fun j hj => by simpa using (ht j (by simp at hj; omega)).1) (fun j hj => by simpa using (ht j (by simp at hj; omega)).2) h1
  cases hq : P.info? t with
  | none => simp [hq] at hi
  | some i =>
    have hs : v.cells.size = i.size := by simp [hq] at hi; omega
    simp only [Nat.add_zero] at this
    simp only [Instr.storeAt, Instr.sureAddr, Sem.run_bind, Sem.run_pure, Result.andThen_ok]
    simp [storeVar, sizeOf, typeInfo, hq, hs, this]
theorem putAt_eq {α : Type} {l xs l' : List α} {off : Nat} (h : putAt l off xs = some l') : off + xs.length ≤ l.length ∧ l' = l.take off ++ xs ++ l.drop (off + xs.length) := by
  unfold putAt at h
  cases hb : Nat.ble (off + xs.length) l.length with
  | false => simp [hb] at h
  | true => simp only [hb, cond_true, Option.some.injEq] at h; exact ⟨by simpa using hb, h.symm⟩
theorem good_write {r : Result Next} {o b p : Nat} {l : Loc} {x : Ob} (hH : HR X φ H w) (hl : φ o = .at false l) (hA : l.A = some (b, p)) (hr : r = .ok .skip w') (hos : w'.os = w.os) (htape : w'.tape = w.tape) (hout : w'.output = w.output ∧ w.drawn ≤ w'.drawn) (hsize : w'.heap.size = w.heap.size)
    (hg : ∀ k, k ≠ b → w'.heap[k]? = w.heap[k]?) (hO : Ev φ w φ w' → OR w' (YOf X φ) φ false l x) : Good nid H X φ w (.tup []) (hset H o (some x)) r := by
  have ev := Ev.write (w := w) (w' := w') hl hA hos htape hout hsize hg
  exact ⟨_, undef, w', φ, hr, .inr ⟨rfl, rfl⟩, by simp only [VR]; exact ⟨[], rfl, by simp only [VRT]⟩, hH.write hl hA hos htape hout hsize hg (hO ev), ev, by rw [length_set]; exact Nat.le_refl _, fun _ _ h => h⟩
def Kp (φ : Phi) (H : Hp) (φ1 : Phi) (H1 : Hp) : Prop := (∀ n, φ n = .fresh → φ1 n = .fresh) ∧ H1.length = H.length
theorem Kp.refl (φ : Phi) (H : Hp) : Kp φ H φ H := ⟨fun _ h => h, rfl⟩
theorem Kp.trans {φ1 φ2 : Phi} {H1 H2 : Hp} (h : Kp φ H φ1 H1) (k : Kp φ1 H1 φ2 H2) : Kp φ H φ2 H2 := ⟨fun n e => k.1 n (h.1 n e), k.2.trans h.2⟩
theorem Kp.free {φ1 : Phi} {H1 : Hp} {n : Nat} (h : Kp φ H φ1 H1) (hf : Free φ H n) : Free φ1 H1 n := ⟨h.1 n hf.fr, by rw [h.2]; exact hf.le⟩
theorem Kp.set {o : Nat} {p : Pl} {y : Option Ob} (ho : φ o ≠ .fresh) : Kp φ H (φ.set o p) (hset H o y) :=
  ⟨fun n e => by rw [Phi.set_ne (fun h => ho (by rw [← h]; exact e))]; exact e, length_set⟩
theorem Good.pre {φ1 : Phi} {w1 : World} {v : AV} {H' H1 : Hp} {r : Result Next} (ev : Ev φ w φ1 w1) (kp : Kp φ H φ1 H1) (h : Good nid H1 X φ1 w1 v H' r) : Good nid H X φ w v H' r := by
  obtain ⟨nx, v', w', φ', hr, h1, h2, h3, h4, h6, h5⟩ := h
  exact ⟨nx, v', w', φ', hr, h1, h2, h3, ev.trans h4, by rw [← kp.2]; exact h6, fun k hk e => h5 k hk (kp.1 k e)⟩


theorem row_plain {o sz : Nat} {z : Bool} {es : List (List PV)} {l : Loc} (hO : OR w Y φ true l (.row z sz es)) (off len : Nat) (hle : off + len ≤ es.length) {A : Option Addr} {c : Nat}
    (hc : c + off = l.c) (hA : 0 < c → A = l.addr off ∧ A ≠ none) : PR w Y (.sl .any sz ((es.drop off).take len)) (.slice A len c) := by
  simp only [OR] at hO
  obtain ⟨_, h1, h2, h3, h4, h5⟩ := hO
  simp only [PR]
  have hlen : ((es.drop off).take len).length = len := by simp; omega
  refine ⟨A, c, by rw [hlen], by omega, by omega, trivial, ?_⟩
  rw [hlen]
  rcases Nat.eq_zero_or_pos len with h0 | hpos
  · exact .inl h0
  · rcases h5 with ⟨_, h6⟩ | ⟨b, p, t, cs, hAl, hg, hs, hE, hY⟩
    · omega
    · obtain ⟨hA1, hA2⟩ := hA (by omega)
      have hlt : b < w.heap.size := by
        rcases Nat.lt_or_ge b w.heap.size with hlt | hge
        · exact hlt
        · rw [Array.getElem?_eq_none hge] at hg; cases hg
      exact .inr ⟨b, p + off * sz, by rw [hA1]; simp [Loc.addr, hAl, h2], hY trivial, hlt, (hE.drop off).take len⟩
theorem set_same {x : Ob} {o : Nat} (h : hget H o = some x) : hset H o (some x) = H := by
  unfold hget at h
  unfold hset
  apply List.ext_getElem?
  intro i
  by_cases e : i = o
  · subst e
    have hlt : i < H.length := hget_lt (x := x) (by unfold hget; exact h)
    rw [List.getElem?_set_self hlt]
    cases hg : H[i]? with
    | none => rw [hg] at h; cases h
    | some y =>
      rw [hg] at h
      cases y with
      | none => cases h
      | some y => simp only [Option.some.injEq] at h; rw [h]
  · rw [List.getElem?_set_ne (fun k => e k.symm)]
theorem set_phi {o : Nat} {p : Pl} (h : φ o = p) : φ.set o p = φ := by
  funext k
  by_cases e : k = o
  · subst e; rw [Phi.set_self, h]
  · rw [Phi.set_ne e]
theorem row_freeze (hH : HR X φ H w) {o sz : Nat} {z z' : Bool} {es : List (List PV)} {l : Loc} (ho : hget H o = some (.row z' sz es)) (hl : φ o = .at z l) (hO : OR w (YOf X φ) φ z l (.row z' sz es)) :
    HR X (φ.set o (.at true l)) (hset H o (some (.row true sz es))) w ∧ Ev φ w (φ.set o (.at true l)) w ∧ OR w (YOf X (φ.set o (.at true l))) (φ.set o (.at true l)) true l (.row true sz es) := by
  have hz : z = z' := by simp only [OR] at hO; exact hO.1
  subst hz
  cases z with
  | true =>
    rw [set_same ho, set_phi hl]
    exact ⟨hH, Ev.refl _ _, hO⟩
  | false =>
    have h1 := hH.freeze hl hO
    refine ⟨h1, Ev.freeze hl, ?_⟩
    obtain ⟨z2, l2, hl2, hO2⟩ := h1.ob o (.row true sz es) (by rw [hget_set (hget_lt ho), if_pos rfl])
    rw [Phi.set_self] at hl2; cases hl2
    exact hO2
theorem plain1_ok (hH : HR X φ H w) {a : AV} {p : PV} {H1 : Hp} {v : Value} (h : plain1 H a = some (p, H1)) (hv : VR w (YOf X φ) φ a v) :
    ∃ φ1, HR X φ1 H1 w ∧ Ev φ w φ1 w ∧ Kp φ H φ1 H1 ∧ PR w (YOf X φ1) p v := by
  unfold plain1 at h
  split at h
  · simp only [Option.some.injEq, Prod.mk.injEq] at h; obtain ⟨rfl, rfl⟩ := h
    exact ⟨φ, hH, Ev.refl _ _, Kp.refl _ _, by simpa only [VR] using hv⟩
  · rename_i o
    split at h
    · rename_i z' sz es ho
      simp only [Option.some.injEq, Prod.mk.injEq] at h; obtain ⟨rfl, rfl⟩ := h
      obtain ⟨z, l, hl, hO⟩ := hH.ob _ _ ho
      simp only [VR] at hv
      have hv := hv.2.2 _ l hl; subst hv
      obtain ⟨g1, g2, g3⟩ := row_freeze hH ho hl hO
      refine ⟨_, g1, g2, Kp.set (by rw [hl]; intro h; cases h), ?_⟩
      have hO' := hO
      simp only [OR] at hO'
      obtain ⟨_, h1, h2, h3, h4, h5⟩ := hO'
      have := row_plain (o := o) g3 0 es.length (by omega) (A := l.addr 0) (c := l.c) (by omega) (fun hc => ⟨rfl, by
        rcases h5 with ⟨_, h6⟩ | ⟨b, p, t, cs, hAl, _⟩
        · omega
        · simp [Loc.addr, hAl]⟩)
      rw [h1]
      simpa using this
    · cases h
  · rename_i o off len
    split at h
    · rename_i z' sz es ho
      cases hb : Nat.ble (off + len) es.length with
      | false => simp [hb] at h
      | true =>
        simp only [hb, cond_true, Option.some.injEq, Prod.mk.injEq] at h; obtain ⟨rfl, rfl⟩ := h
        obtain ⟨z, l, hl, hO⟩ := hH.ob _ _ ho
        simp only [VR] at hv
        obtain ⟨A, c, rfl, _, hc, hA⟩ := hv.2.2 _ l hl
        obtain ⟨g1, g2, g3⟩ := row_freeze hH ho hl hO
        exact ⟨_, g1, g2, Kp.set (by rw [hl]; intro h; cases h), row_plain (o := o) g3 off len (by simpa using hb) hc hA⟩
    · cases h
  · simp only [Option.some.injEq, Prod.mk.injEq] at h; obtain ⟨rfl, rfl⟩ := h
    simp only [VR] at hv
    obtain ⟨vs, rfl, hvs⟩ := hv
    simp only [VRT] at hvs; subst hvs
    exact ⟨φ, hH, Ev.refl _ _, Kp.refl _ _, by simp only [PR]⟩
  · cases h
theorem plain1_one {a : AV} {p : PV} {H1 : Hp} (h : plain1 H a = some (p, H1)) (ho : oneA a = true) : oneP p = true := by
  unfold plain1 at h
  split at h
  · simp only [Option.some.injEq, Prod.mk.injEq] at h; obtain ⟨rfl, rfl⟩ := h
    rename_i p; cases p <;> simp_all [oneA, oneP]
  · split at h
    · simp only [Option.some.injEq, Prod.mk.injEq] at h; obtain ⟨rfl, rfl⟩ := h; rfl
    · cases h
  · split at h
    · rename_i off len _ _ _ _
      revert h
      cases Nat.ble _ _ with
      | false => intro h; simp at h
      | true => intro h; simp only [cond_true, Option.some.injEq, Prod.mk.injEq] at h; obtain ⟨rfl, rfl⟩ := h; rfl
    · cases h
  · simp only [Option.some.injEq, Prod.mk.injEq] at h; obtain ⟨rfl, rfl⟩ := h; rfl
  · cases h
theorem plainL_ok : ∀ {as : List AV} {φ : Phi} {H : Hp} (_ : HR X φ H w) {ps : List PV} {H1 : Hp} {vs : List Value}, plainL H as = some (ps, H1) → VRL w (YOf X φ) φ as vs →
    ∃ φ1, HR X φ1 H1 w ∧ Ev φ w φ1 w ∧ Kp φ H φ1 H1 ∧ PRL w (YOf X φ1) ps vs
  | [], φ, H, hH, ps, H1, vs, h, hv => by
    simp only [plainL, Option.some.injEq, Prod.mk.injEq] at h; obtain ⟨rfl, rfl⟩ := h
    exact ⟨φ, hH, Ev.refl _ _, Kp.refl _ _, by simpa only [VRL, PRL] using hv⟩
  | a :: as, φ, H, hH, ps, H1, vs, h, hv => by
    simp only [VRL] at hv
    obtain ⟨v, r, rfl, ho, hva, hr⟩ := hv
    simp only [plainL] at h
    split at h
    · rename_i p H2 hp
      obtain ⟨φ2, hH2, ev2, kp2, hpr⟩ := plain1_ok hH hp hva
      split at h
      · rename_i ps' H3 hps
        simp only [Option.some.injEq, Prod.mk.injEq] at h; obtain ⟨rfl, rfl⟩ := h
        obtain ⟨φ3, hH3, ev3, kp3, hprs⟩ := plainL_ok hH2 hps (VRL.stay ev2 X _ _ hr)
        refine ⟨φ3, hH3, ev2.trans ev3, kp2.trans kp3, ?_⟩
        simp only [PRL]
        exact ⟨v, r, rfl, plain1_one hp ho, PR.stay (ev3.stay X) p v hpr, hprs⟩
      · cases h
    · cases h
theorem plain_ok (hH : HR X φ H w) {a : AV} {p : PV} {H1 : Hp} {v : Value} (h : plain H a = some (p, H1)) (hv : VR w (YOf X φ) φ a v) :
    ∃ φ1, HR X φ1 H1 w ∧ Ev φ w φ1 w ∧ Kp φ H φ1 H1 ∧ PR w (YOf X φ1) p v := by
  unfold plain at h
  split at h
  · split at h
    · rename_i ps H2 hp
      simp only [Option.some.injEq, Prod.mk.injEq] at h; obtain ⟨rfl, rfl⟩ := h
      simp only [VR] at hv
      obtain ⟨vs, rfl, hvs⟩ := hv
      obtain ⟨φ1, h1, h2, hk, h3⟩ := plainL_ok hH hp hvs
      exact ⟨φ1, h1, h2, hk, by simp only [PR]; exact ⟨vs, rfl, h3⟩⟩
    · cases h
  · exact plain1_ok hH h hv
theorem plains_ok : ∀ {as : List AV} {φ : Phi} {H : Hp} (_ : HR X φ H w) {ps : List PV} {H1 : Hp} {vs : List Value}, plains H as = some (ps, H1) → VRT w (YOf X φ) φ as vs →
    ∃ φ1, HR X φ1 H1 w ∧ Ev φ w φ1 w ∧ Kp φ H φ1 H1 ∧ ∀ φ0 : Phi, VRT w (YOf X φ1) φ0 (ps.map .pl) vs
  | [], φ, H, hH, ps, H1, vs, h, hv => by
    simp only [plains, Option.some.injEq, Prod.mk.injEq] at h; obtain ⟨rfl, rfl⟩ := h
    exact ⟨φ, hH, Ev.refl _ _, Kp.refl _ _, fun φ0 => by simpa only [VRT, List.map_nil] using hv⟩
  | a :: as, φ, H, hH, ps, H1, vs, h, hv => by
    simp only [VRT] at hv
    obtain ⟨v, r, rfl, hva, hr⟩ := hv
    simp only [plains] at h
    split at h
    · rename_i p H2 hp
      obtain ⟨φ2, hH2, ev2, kp2, hpr⟩ := plain_ok hH hp hva
      split at h
      · rename_i ps' H3 hps
        simp only [Option.some.injEq, Prod.mk.injEq] at h; obtain ⟨rfl, rfl⟩ := h
        obtain ⟨φ3, hH3, ev3, kp3, hprs⟩ := plains_ok hH2 hps (VRT.stay ev2 X _ _ hr)
        refine ⟨φ3, hH3, ev2.trans ev3, kp2.trans kp3, fun φ0 => ?_⟩
        simp only [List.map_cons, VRT]
        exact ⟨v, r, rfl, by simp only [VR]; exact PR.stay (ev3.stay X) p v hpr, hprs φ0⟩
      · cases h
    · cases h

theorem x_store_of {t : Nat} {x y : Operand} {b o : Nat} (hx : ρ x = .pointer (some ⟨b, o, none⟩)) (h : (Instr.storeAt t (.pointer (some ⟨b, o, none⟩)) (ρ y)).run P w = .ok () w') :
    (execOp ρ ⟨d, .store t x y, ty, pos, af, g⟩).run P w = .ok .skip w' := by
  simp [execOp, hx, h]
theorem g_store {t : Nat} {x y : Operand} {a v : AV} {H1 : Hp} (hC : CfgOK P C) (hH : HR X φ H w) (h : evStore C H t a v = some H1) (hx : VR w (YOf X φ) φ a (ρ x)) (hy : VR w (YOf X φ) φ v (ρ y)) :
    Good nid H X φ w (.tup []) H1 ((execOp ρ ⟨d, .store t x y, ty, pos, af, g⟩).run P w) := by
  unfold evStore at h
  cases hti : C.ty t with
  | none => simp [hti] at h
  | some ti =>
    simp only [hti] at h
    have hT := hC.ty t ti hti
    obtain ⟨i, z, hi, hs, _⟩ := tyOK_info hT
    have hsz : (P.info? t).map (·.size) = some ti.size := by simp [hi, hs]
    split at h
    · rename_i o off
      split at h
      · rename_i cs ho
        cases hb : (Nat.beq v.cells.length ti.size && v.cells.all oneA) with
        | false => simp [hb] at h
        | true =>
          simp only [hb, cond_true] at h
          rw [Bool.and_eq_true] at hb
          obtain ⟨hb1, hb2⟩ := hb
          simp only [Nat.beq_eq] at hb1
          split at h
          · rename_i cs' hput
            simp only [Option.some.injEq] at h; subst h
            obtain ⟨hle, rfl⟩ := putAt_eq hput
            obtain ⟨z, l, hl, hO⟩ := hH.ob _ _ ho
            simp only [VR] at hx
            obtain ⟨b, hA, hx⟩ := hx.2.2 _ l hl
            simp only [OR] at hO
            obtain ⟨rfl, b', t', vs, hA', hg, hv⟩ := hO
            rw [hA] at hA'; cases hA'
            have hvc := vr_cells hb2 hy
            have hlen := hv.length
            have hlen2 := hvc.length
            have hth : w.there b off ti.size := fun j hj => by
              have hj' : off + j < vs.length := by omega
              constructor
              · simp [World.cell?, hg, hj']
              · simp [World.frozen?, hg]
            have hrun := run_store_at (P := P) (w := w) (b := b) (o := off) hsz (by rw [← hb1, ← hlen2]; simp) hth (VRL.one hvc)
            obtain ⟨f1, f2, f3, f4, f5⟩ := setCells_far b (ρ y).cells.toList off w
            refine good_write hH hl hA (x_store_of hx hrun) f1 f2 f3 f4 f5 fun ev => ?_
            simp only [OR]
            have hset := setCells_at (b := b) (ρ y).cells.toList vs off w hg (by omega)
            refine ⟨trivial, b, t', _, hA, hset, ?_⟩
            have hv' := VRL.stay ev X _ _ hv
            have hvc' := VRL.stay ev X _ _ hvc
            have := ((hv'.take off).append hvc').append (hv'.drop (off + v.cells.length))
            rw [hlen2]; exact this
          · cases h
      · cases h
    · rename_i o k off
      split at h
      · rename_i q H2 hq
        obtain ⟨φ1, hH1, ev1, kp1, hpr⟩ := plain_ok hH hq hy
        refine Good.pre ev1 kp1 ?_
        have hx := VR.stay ev1 X _ _ hx
        split at h
        · rename_i sz es ho
          split at h
          · rename_i c hc
            cases hb : Nat.beq q.cells.length ti.size with
            | false => simp [hb] at h
            | true =>
              simp only [hb, cond_true] at h
              simp only [Nat.beq_eq] at hb
              split at h
              · rename_i c' hput
                simp only [Option.some.injEq] at h; subst h
                obtain ⟨hle, rfl⟩ := putAt_eq hput
                obtain ⟨z, l, hl, hO⟩ := hH1.ob _ _ ho
                simp only [VR] at hx
                obtain ⟨b, p, hA, hx⟩ := hx.2.2 _ l hl
                simp only [OR] at hO
                obtain ⟨rfl, h1, h2, h3, h4, h5⟩ := hO
                rcases h5 with ⟨h6, _⟩ | ⟨b', p', t', cs, hA', hg, hcs, hE, _⟩
                · rw [hA] at h6; cases h6
                · rw [hA] at hA'; cases hA'
                  have hki : k < es.length := (List.getElem?_eq_some_iff.1 hc).1
                  obtain ⟨hcl, hcc⟩ := hE.at hc
                  rw [h2] at hx
                  have hqc := pr_cells_of hpr
                  have hlen2 := hqc.length
                  have hfit : p + k * sz + off + ti.size ≤ cs.size := by
                    have : (k + 1) * sz ≤ l.c * sz := Nat.mul_le_mul_right sz (by omega)
                    rw [Nat.succ_mul] at this; omega
                  have hth : w.there b (p + k * sz + off) ti.size := fun j hj => by
                    have hj' : p + k * sz + off + j < cs.size := by omega
                    constructor
                    · simp [World.cell?, hg, hj']
                    · simp [World.frozen?, hg]
                  have hone : ∀ u ∈ (ρ y).cells.toList, u.oneCell' = true := VRL.one (φ := φ1) hqc.vrl
                  have hrun := run_store_at (P := P) (w := w) (b := b) (o := p + k * sz + off) hsz (by rw [← hb, ← hlen2]; simp) hth hone
                  obtain ⟨f1, f2, f3, f4, f5⟩ := setCells_far b (ρ y).cells.toList (p + k * sz + off) w
                  have hgl : w.heap[b]? = some (.cells cs.toList.toArray t' (0, 0)) := by simpa using hg
                  have hset := setCells_at (b := b) (ρ y).cells.toList cs.toList (p + k * sz + off) w hgl (by simp at hlen2 ⊢; omega)
                  refine good_write hH1 hl hA (x_store_of hx hrun) f1 f2 f3 f4 f5 fun ev => ?_
                  simp only [OR]
                  refine ⟨trivial, by simpa using h1, h2, h3, h4, .inr ⟨b, p, t', _, hA, hset, ?_, ?_, fun h => by cases h⟩⟩
                  · simp at hlen2 ⊢; omega
                  · have hE' : ∀ (o : Nat) (v : Value), w.cell? ⟨b, o, none⟩ = some v → (o < p + k * sz + off ∨ p + k * sz + off + ti.size ≤ o) → (w.setCells b (p + k * sz + off) (ρ y).cells.toList).cell? ⟨b, o, none⟩ = some v := by
                      intro o v hv ho
                      simp only [World.cell?, hset] at hv ⊢
                      rw [hg] at hv
                      simp only [Option.isSome_none, Bool.false_eq_true, if_false] at hv ⊢
                      have hov : cs.toList[o]? = some v := by simpa using hv
                      have hol : o < cs.toList.length := (List.getElem?_eq_some_iff.1 hov).1
                      rw [List.getElem?_toArray]
                      rcases ho with ho | ho
                      · rw [List.append_assoc, List.getElem?_append_left (by simp at hol ⊢; omega), List.getElem?_take, if_pos ho]; exact hov
                      · rw [List.getElem?_append_right (by simp at hlen2 hol ⊢; omega), List.getElem?_drop]
                        rw [← hov]; congr 1; simp at hlen2 hol ⊢; omega
                    refine PRE.of fun m e he => ?_
                    by_cases hmk : m = k
                    · subst hmk
                      rw [List.getElem?_set_self hki] at he; cases he
                      refine ⟨by simp; omega, ?_⟩
                      obtain ⟨us, hus, hra⟩ := PRC.vals hcc
                      have hul := hus.length
                      have hst := ev.stay X
                      have e1 : PRL (w.setCells b (p + m * sz + off) (ρ y).cells.toList) (YOf X φ1) (c.take off ++ q.cells ++ c.drop (off + q.cells.length)) (us.take off ++ (ρ y).cells.toList ++ us.drop (off + (ρ y).cells.toList.length)) := by
                        have a1 := PRL.stay hst _ _ (hus.take off)
                        have a2 := PRL.stay hst _ _ hqc
                        have a3 := PRL.stay hst _ _ (hus.drop (off + q.cells.length))
                        rw [hlen2]; exact (a1.append a2).append a3
                      refine PRC.of_vals e1 fun j u hj => ?_
                      rcases Nat.lt_or_ge j off with hj1 | hj1
                      · rw [List.append_assoc, List.getElem?_append_left (by simp; omega), List.getElem?_take, if_pos hj1] at hj
                        exact hE' _ _ (hra j u hj) (.inl (by omega))
                      · rcases Nat.lt_or_ge j (off + (ρ y).cells.toList.length) with hj2 | hj2
                        · rw [List.append_assoc, List.getElem?_append_right (by simp; omega), List.getElem?_append_left (by simp; simp at hj2; omega)] at hj
                          simp only [World.cell?, hset]
                          simp only [Option.isSome_none, Bool.false_eq_true, if_false, List.getElem?_toArray]
                          rw [List.append_assoc, List.getElem?_append_right (by simp; omega), List.getElem?_append_left (by simp at hj2 ⊢; omega)]
                          rw [← hj]; congr 1; simp; omega
                        · rw [List.getElem?_append_right (by simp at hj2 ⊢; omega), List.getElem?_drop] at hj
                          refine hE' _ _ (hra j u ?_) (.inr (by simp at hj2 hlen2; omega))
                          rw [← hj]; congr 1; simp at hj2 ⊢; omega
                    · rw [List.getElem?_set_ne (fun e => hmk e.symm)] at he
                      obtain ⟨g1, g2⟩ := hE.at he
                      refine ⟨g1, ?_⟩
                      obtain ⟨us, hus, hra⟩ := PRC.vals g2
                      have hul := hus.length
                      refine PRC.of_vals (PRL.stay (ev.stay X) _ _ hus) fun j u hj => hE' _ _ (hra j u hj) ?_
                      have hjl : j < sz := by have := (List.getElem?_eq_some_iff.1 hj).1; omega
                      rcases Nat.lt_or_gt_of_ne hmk with hm | hm
                      · left
                        have : (m + 1) * sz ≤ k * sz := Nat.mul_le_mul_right sz hm
                        rw [Nat.succ_mul] at this; omega
                      · right
                        have : (k + 1) * sz ≤ m * sz := Nat.mul_le_mul_right sz hm
                        rw [Nat.succ_mul] at this; omega
              · cases h
          · cases h
        · cases h
      · cases h
    · cases h
end
end Go.Proofs.Ytelblamgfbkhbaa
namespace Go.Proofs.Ytelblamgfbkhbaa
set_option linter.unusedSimpArgs false
set_option linter.unusedVariables false
open Go.RowKit
section
variable {P : Program} {C : Cfg} {w w' : World} {Y X : Nat → Prop} {φ : Phi} {H : Hp}
variable {nid : Nat} {ρ : Operand → Value} {ra : Operand → AV} {d : Option Tmp} {ty : TypeId} {pos : String} {af : Array Edge} {g : Option (Nat × Bool)}

theorem fill_fold : ∀ (us : List Value) (k off : Nat) (cs : List Value), off + k + us.length ≤ cs.length →
    (us.zipIdx k).foldl (fun (a : Array Value) (p : Value × Nat) => a.setIfInBounds (off + p.2) p.1) cs.toArray = (cs.take (off + k) ++ us ++ cs.drop (off + k + us.length)).toArray
  | [], k, off, cs, _ => by simp
  | u :: us, k, off, cs, h => by
    have hj : off + k < cs.length := by simp at h; omega
    rw [List.zipIdx_cons, List.foldl_cons]
    rw [show (cs.toArray.setIfInBounds (off + k) u) = (cs.set (off + k) u).toArray from by apply Array.ext'; simp]
    rw [fill_fold us (k + 1) off _ (by simp at h ⊢; omega)]
    rw [show off + (k + 1) = off + k + 1 from by omega, set_list cs us u (off + k) hj]
    rfl
def VRI (w : World) (Y : Nat → Prop) (φ : Phi) : List (Nat × AV) → List (Nat × Value) → Prop
  | [], l => l = []
  | (i, a) :: r, l => ∃ v l', l = (i, v) :: l' ∧ VR w Y φ a v ∧ VRI w Y φ r l'
theorem vri_of (hρ : ∀ x, VR w Y φ (ra x) (ρ x)) : ∀ ps : List (Nat × Operand), VRI w Y φ (ps.map fun p => (p.1, ra p.2)) (ps.map fun p => (p.1, ρ p.2))
  | [] => by simp [VRI]
  | p :: ps => by simp only [List.map_cons, VRI]; exact ⟨_, _, rfl, hρ p.2, vri_of hρ ps⟩
theorem VRI.stay {φ' : Phi} (h : Ev φ w φ' w') (X : Nat → Prop) : ∀ {as : List (Nat × AV)} {vs : List (Nat × Value)}, VRI w (YOf X φ) φ as vs → VRI w' (YOf X φ') φ' as vs
  | [], _, h' => by simpa only [VRI] using h'
  | (i, a) :: r, l, h' => by
    simp only [VRI] at h' ⊢
    obtain ⟨v, l', e, hv, hr⟩ := h'
    exact ⟨v, l', e, VR.stay h X a v hv, VRI.stay h X hr⟩
theorem fillA_ok {pl : List (Nat × Nat)} {place : Nat → Option (Nat × Nat)} (hpl : ∀ i o s, pl[i]? = some (o, s) → place i = some (o, s)) :
    ∀ {parts : List (Nat × AV)} {vparts : List (Nat × Value)} {cs cs' : List AV} {vs : List Value}, fillA pl cs parts = some cs' → VRI w Y φ parts vparts → VRL w Y φ cs vs →
      ∃ vs' : List Value, Instr.fill place vs.toArray vparts = some vs'.toArray ∧ VRL w Y φ cs' vs'
  | [], vparts, cs, cs', vs, h, hp, hc => by
    simp only [VRI] at hp; subst hp
    simp only [fillA, Option.some.injEq] at h; subst h
    exact ⟨vs, rfl, hc⟩
  | (i, a) :: r, vparts, cs, cs', vs, h, hp, hc => by
    simp only [VRI] at hp
    obtain ⟨v, l', rfl, hv, hr⟩ := hp
    simp only [fillA] at h
    split at h
    · rename_i off size hi
      cases hb : (Nat.beq a.cells.length size && a.cells.all oneA) with
      | false => simp [hb] at h
      | true =>
        simp only [hb, cond_true] at h
        rw [Bool.and_eq_true, Nat.beq_eq] at hb
        split at h
        · rename_i cs1 hput
          obtain ⟨hle, rfl⟩ := putAt_eq hput
          have hvc := vr_cells hb.2 hv
          have hl1 := hvc.length
          have hl2 := hc.length
          have hnew := ((hc.take off).append hvc).append (hc.drop (off + a.cells.length))
          obtain ⟨vs', h1, h2⟩ := fillA_ok hpl h hr hnew
          refine ⟨vs', ?_, h2⟩
          simp only [Instr.fill, hpl i off size hi]
          rw [if_neg (by simp at hl1 ⊢; omega)]
          rw [← h1]
          congr 1
          have := fill_fold v.cells.toList 0 off vs (by omega)
          rw [← Array.foldl_toList, Array.toList_zipIdx]
          rw [Nat.add_zero] at this
          rw [← hl1]
          exact this
        · cases h
    · cases h
theorem mapM_pl (hC : CfgOK P C) : ∀ {fs : List (Nat × Nat)} {gs : List Field} {pl : List (Nat × Nat)}, fieldsOK fs gs = true → (fs.mapM fun f => (C.ty f.1).map fun tf => (f.2, tf.size)) = some pl →
    gs.mapM (fun f => (P.info? f.type).map fun i => (f.offset, i.size)) = some pl
  | [], [], pl, _, h => by simpa using h
  | (t, o) :: fs, g :: gs, pl, hf, h => by
    simp only [fieldsOK, Bool.and_eq_true, Nat.beq_eq] at hf
    obtain ⟨⟨⟨rfl, rfl⟩, _⟩, hf⟩ := hf
    simp only [List.mapM_cons, Option.bind_eq_bind, Option.pure_def] at h ⊢
    cases hti : C.ty g.type with
    | none => simp [hti] at h
    | some ti =>
      obtain ⟨i, z, hi, hs, _⟩ := tyOK_info (hC.ty _ ti hti)
      cases hr : (fs.mapM fun f => (C.ty f.1).map fun tf => (f.2, tf.size)) with
      | none => simp [hti, hr] at h
      | some rest =>
        simp [hti, hr] at h; subst h
        have := mapM_pl hC hf hr
        simp only [this, hi]
        simp [hs]
  | [], _ :: _, _, hf, _ => by simp [fieldsOK] at hf
  | _ :: _, [], _, hf, _ => by simp [fieldsOK] at hf
theorem g_build {t : Nat} {ps : Array (Nat × Operand)} {v : AV} {H' : Hp} (hC : CfgOK P C) (hρ : ∀ x, VR w (YOf X φ) φ (ra x) (ρ x)) (h : evPure C nid ra H (.build t ps) = some (v, H')) :
    H' = H ∧ ∃ u, (execOp ρ ⟨d, .build t ps, ty, pos, af, g⟩).run P w = .ok (.value u) w ∧ VR w (YOf X φ) φ v u := by
  simp only [evPure] at h
  cases hti : C.ty t with
  | none => simp [hti] at h
  | some ti =>
    simp only [hti] at h
    have hT := hC.ty t ti hti
    obtain ⟨i, z, hi, hs, _, hz, hzl⟩ := tyOK_info hT
    have hparts := vri_of (w := w) (Y := YOf X φ) (φ := φ) hρ ps.toList
    have hmap : (ps.map fun (i, x) => (i, ρ x)).toList = ps.toList.map fun p => (p.1, ρ p.2) := by simp
    split at h
    · rename_i fs hk
      obtain ⟨gs, hu, hf⟩ := und_struct hT hk
      split at h
      · rename_i pl hpl
        simp only [Option.map_eq_some_iff, Prod.mk.injEq] at h
        obtain ⟨cs, hfill, rfl, rfl⟩ := h
        obtain ⟨vs', h1, h2⟩ := fillA_ok (place := (pl.toArray[·]?)) (fun i o s h => by simpa using h) hfill hparts (hzl w (YOf X φ)).vrl
        refine ⟨rfl, .agg vs'.toArray, x_build ?_, VR.mkAgg h2⟩
        rw [hmap]
        simp only [Program.built, hi, hu, hz, mapM_pl hC hf hpl]
        simpa using h1
      · cases h
    · rename_i n e hk
      have hu := und_arr hT hk
      split at h
      · rename_i te hte
        obtain ⟨ie, ze, hie, hse, _⟩ := tyOK_info (hC.ty e te hte)
        simp only [Option.map_eq_some_iff, Prod.mk.injEq] at h
        obtain ⟨cs, hfill, rfl, rfl⟩ := h
        obtain ⟨vs', h1, h2⟩ := fillA_ok (place := fun i => some (i * ie.size, ie.size)) (fun i o s h => by
          simp only [List.getElem?_map, Option.map_eq_some_iff, Prod.mk.injEq] at h
          obtain ⟨a, ha, rfl, rfl⟩ := h
          obtain ⟨_, ha⟩ := List.getElem?_eq_some_iff.1 ha
          rw [List.getElem_range] at ha
          rw [← ha, hse]) hfill hparts (hzl w (YOf X φ)).vrl
        refine ⟨rfl, .agg vs'.toArray, x_build ?_, VR.mkAgg h2⟩
        rw [hmap]
        simp only [Program.built, hi, hu, hz, hie]
        simpa using h1
      · cases h
    · cases h


def PRLL (w : World) (Y : Nat → Prop) (sz : Nat) : List (List PV) → List (List Value) → Prop
  | [], vss => vss = []
  | e :: es, vss => ∃ vs r, vss = vs :: r ∧ e.length = sz ∧ PRL w Y e vs ∧ PRLL w Y sz es r
theorem PRLL.length {sz : Nat} : ∀ {es : List (List PV)} {vss : List (List Value)}, PRLL w Y sz es vss → vss.length = es.length
  | [], vss, h => by simp only [PRLL] at h; subst h; rfl
  | e :: es, vss, h => by
    simp only [PRLL] at h
    obtain ⟨vs, r, rfl, _, _, hr⟩ := h
    simp [PRLL.length hr]
theorem PRLL.size {sz : Nat} : ∀ {es : List (List PV)} {vss : List (List Value)}, PRLL w Y sz es vss → ∀ vs ∈ vss, vs.length = sz
  | [], vss, h, vs, hv => by simp only [PRLL] at h; subst h; cases hv
  | e :: es, vss, h, vs, hv => by
    simp only [PRLL] at h
    obtain ⟨us, r, rfl, hl, hp, hr⟩ := h
    rcases List.mem_cons.1 hv with rfl | hv
    · rw [hp.length, hl]
    · exact PRLL.size hr vs hv
theorem PRLL.stay {Y' : Nat → Prop} (h : Stay w Y w' Y') {sz : Nat} : ∀ {es : List (List PV)} {vss : List (List Value)}, PRLL w Y sz es vss → PRLL w' Y' sz es vss
  | [], vss, hp => by simpa only [PRLL] using hp
  | e :: es, vss, hp => by
    simp only [PRLL] at hp ⊢
    obtain ⟨vs, r, e1, hl, hp, hr⟩ := hp
    exact ⟨vs, r, e1, hl, PRL.stay h _ _ hp, PRLL.stay h hr⟩
theorem flat_size {sz : Nat} : ∀ {vss : List (List Value)}, (∀ vs ∈ vss, vs.length = sz) → vss.flatten.length = vss.length * sz
  | [], _ => by simp
  | vs :: r, h => by
    rw [List.flatten_cons, List.length_append, h vs (by simp), flat_size fun v hv => h v (List.mem_cons_of_mem _ hv), List.length_cons, Nat.succ_mul]; omega
theorem PRE.of_flat {b sz : Nat} : ∀ {es : List (List PV)} {vss : List (List Value)} {o : Nat}, PRLL w Y sz es vss → w.rangeAt b o vss.flatten → PRE w Y b sz o es
  | [], _, _, _, _ => by simp only [PRE]
  | e :: es, vss, o, h, hr => by
    simp only [PRLL] at h
    obtain ⟨vs, r, rfl, hl, hp, hq⟩ := h
    have hvl : vs.length = sz := by rw [hp.length, hl]
    simp only [PRE]
    refine ⟨hl, PRC.of_vals hp fun j v hj => hr j v ?_, PRE.of_flat hq fun j v hj => ?_⟩
    · rw [List.flatten_cons, List.getElem?_append_left (List.getElem?_eq_some_iff.1 hj).1]; exact hj
    · have := hr (sz + j) v (by rw [List.flatten_cons, List.getElem?_append_right (by omega), hvl]; rw [← hj]; congr 1; omega)
      rwa [show o + (sz + j) = o + sz + j from by omega] at this
theorem PRE.flat {b sz : Nat} : ∀ {es : List (List PV)} {o : Nat}, PRE w Y b sz o es → ∃ vss, PRLL w Y sz es vss ∧ w.rangeAt b o vss.flatten
  | [], _, _ => ⟨[], by simp only [PRLL], fun j v hj => by simp at hj⟩
  | e :: es, o, h => by
    simp only [PRE] at h
    obtain ⟨hl, hc, hr⟩ := h
    obtain ⟨vs, h1, h2⟩ := PRC.vals hc
    obtain ⟨vss, h3, h4⟩ := PRE.flat hr
    have hvl : vs.length = sz := by rw [h1.length, hl]
    refine ⟨vs :: vss, by simp only [PRLL]; exact ⟨vs, vss, rfl, hl, h1, h3⟩, fun j v hj => ?_⟩
    rw [List.flatten_cons] at hj
    rcases Nat.lt_or_ge j vs.length with hlt | hge
    · rw [List.getElem?_append_left hlt] at hj; exact h2 j v hj
    · rw [List.getElem?_append_right hge] at hj
      have := h4 (j - vs.length) v hj
      rwa [show o + sz + (j - vs.length) = o + j from by omega] at this
theorem flatten_set {sz : Nat} : ∀ {vss : List (List Value)} {i : Nat} {us : List Value}, (∀ vs ∈ vss, vs.length = sz) → i < vss.length → (vss.set i us).flatten = vss.flatten.take (i * sz) ++ us ++ vss.flatten.drop (i * sz + sz)
  | [], i, us, _, h => by simp at h
  | vs :: r, 0, us, hs, _ => by
    have := hs vs (by simp)
    simp [← this]
  | vs :: r, i + 1, us, hs, h => by
    have h1 := hs vs (by simp)
    have h2 := flatten_set (i := i) (us := us) (fun v hv => hs v (List.mem_cons_of_mem _ hv)) (by simpa using h)
    rw [List.set_cons_succ, List.flatten_cons, h2, List.flatten_cons]
    rw [show (i + 1) * sz = vs.length + i * sz from by rw [Nat.succ_mul, h1]; omega]
    have e1 : vs.take (vs.length + i * sz) = vs := List.take_of_length_le (Nat.le_add_right _ _)
    have e2 : vs.drop (vs.length + i * sz + sz) = [] := List.drop_eq_nil_of_le (by rw [Nat.add_assoc]; exact Nat.le_add_right _ _)
    have e3 : vs.length + i * sz - vs.length = i * sz := Nat.add_sub_cancel_left _ _
    have e4 : vs.length + i * sz + sz - vs.length = i * sz + sz := by rw [Nat.add_assoc]; exact Nat.add_sub_cancel_left _ _
    rw [List.take_append, List.drop_append, e1, e2, e3, e4]
    simp
theorem PRLL.set {sz : Nat} : ∀ {es : List (List PV)} {vss : List (List Value)} {i : Nat} {e : List PV} {vs : List Value}, PRLL w Y sz es vss → e.length = sz → PRL w Y e vs → PRLL w Y sz (es.set i e) (vss.set i vs)
  | [], vss, i, e, vs, h, _, _ => by simp only [PRLL] at h; subst h; simp [PRLL]
  | e0 :: es, vss, 0, e, vs, h, hl, hp => by
    simp only [PRLL] at h
    obtain ⟨us, r, rfl, _, _, hr⟩ := h
    simp only [List.set_cons_zero, PRLL]
    exact ⟨vs, r, rfl, hl, hp, hr⟩
  | e0 :: es, vss, i + 1, e, vs, h, hl, hp => by
    simp only [PRLL] at h
    obtain ⟨us, r, rfl, hl0, hp0, hr⟩ := h
    simp only [List.set_cons_succ, PRLL]
    exact ⟨us, _, rfl, hl0, hp0, PRLL.set hr hl hp⟩
theorem PRLL.append {sz : Nat} : ∀ {es ds : List (List PV)} {vss uss : List (List Value)}, PRLL w Y sz es vss → PRLL w Y sz ds uss → PRLL w Y sz (es ++ ds) (vss ++ uss)
  | [], ds, vss, uss, h, k => by simp only [PRLL] at h; subst h; exact k
  | e :: es, ds, vss, uss, h, k => by
    simp only [PRLL] at h
    obtain ⟨vs, r, rfl, hl, hp, hr⟩ := h
    simp only [List.cons_append, PRLL]
    exact ⟨vs, r ++ uss, rfl, hl, hp, PRLL.append hr k⟩
theorem PRLL.replicate {sz n : Nat} {e : List PV} {vs : List Value} (hl : e.length = sz) (hp : PRL w Y e vs) : PRLL w Y sz (List.replicate n e) (List.replicate n vs) := by
  induction n with
  | zero => simp [PRLL]
  | succ n ih => simp only [List.replicate_succ, PRLL]; exact ⟨vs, _, rfl, hl, hp, ih⟩
theorem zeros_flat (z : List Value) (hz : 0 < z.length) : ∀ n : Nat, (List.range (n * z.length)).map (fun i => z.toArray[i % z.length]!) = (List.replicate n z).flatten
  | 0 => by simp
  | n + 1 => by
    rw [Nat.succ_mul, List.range_add, List.map_append, zeros_flat z hz n, List.replicate_succ', List.flatten_append]
    congr 1
    rw [List.map_map]
    simp only [List.flatten_cons, List.flatten_nil, List.append_nil]
    apply List.ext_getElem (by simp)
    intro i h1 h2
    have hi : i < z.length := by simpa using h1
    simp only [List.getElem_map, List.getElem_range, Function.comp]
    rw [show (n * z.length + i) % z.length = i from by rw [Nat.mul_comm, Nat.mul_add_mod, Nat.mod_eq_of_lt hi]]
    simp [hi]
theorem zeros_eq {z : Array Value} {n s : Nat} (hs : z.size = s) (hz : 0 < s) : (Array.range (n * s)).map (fun i => z[i % z.size]!) = (List.replicate n z.toList).flatten.toArray := by
  subst hs
  apply Array.ext'
  have := zeros_flat z.toList (by simpa using hz) n
  simpa using this
theorem good_row {r : Result Next} {i t n sz : Nat} {cs : Array Value} {es : List (List PV)} {vss : List (List Value)} (hH : HR X φ H w) (hf : Free φ H i) (hr : r = .ok (.value (.slice (some ⟨w.heap.size, 0, none⟩) n n)) (w.alloc (.cells cs t)))
    (hn : n = es.length) (hm : n ≤ maxLen) (hcs : cs.toList = vss.flatten) (hv : PRLL w (YOf X φ) sz es vss) : Good i H X φ w (.own i) (hput H i (.row false sz es)) r := by
  let l : Loc := ⟨some (w.heap.size, 0), n, n, sz⟩
  have ev : Ev φ w (φ.set i (.at false l)) (w.alloc (.cells cs t)) := Ev.new hf.fr _ l (fun b p e => by cases e; exact Nat.le_refl _)
  refine ⟨_, _, _, φ.set i (.at false l), hr, .inl rfl, ?_, hH.new hf _ l (.row false sz es) (fun b p e => by cases e; rfl) ?_, ev, (length_put' hf.le).1, fun k hk h => by rw [Phi.set_ne hk]; exact h⟩
  · simp only [VR]
    refine ⟨rfl, (by rw [Phi.set_self]; intro h; cases h), fun _ l' hl' => ?_⟩
    rw [Phi.set_self] at hl'; cases hl'
    simp [Loc.addr, l]
  · simp only [OR]
    have hfl := flat_size hv.size
    refine ⟨trivial, hn, rfl, Nat.le_refl _, hm, .inr ⟨w.heap.size, 0, t, cs, rfl, heap_alloc_new w _, ?_, ?_, fun h => by cases h⟩⟩
    · have : cs.size = n * sz := by rw [← Array.length_toList, hcs, hfl, hv.length, hn]
      show 0 + n * sz ≤ cs.size
      omega
    · refine PRE.of_flat (PRLL.stay (ev.stay X) hv) fun j v hj => ?_
      simp only [World.cell?, heap_alloc_new]
      simp only [Nat.zero_add, Option.isSome_none, Bool.false_eq_true, if_false]
      rw [← hcs] at hj
      simpa using hj
theorem fillE_ok {sz : Nat} : ∀ {parts : List (Nat × AV)} {vparts : List (Nat × Value)} {φ : Phi} {H H1 : Hp} {es es' : List (List PV)} {vss : List (List Value)}, HR X φ H w → fillE sz H es parts = some (es', H1) → VRI w (YOf X φ) φ parts vparts → PRLL w (YOf X φ) sz es vss →
      ∃ φ1 vss', HR X φ1 H1 w ∧ Ev φ w φ1 w ∧ Kp φ H φ1 H1 ∧ es'.length = es.length ∧ PRLL w (YOf X φ1) sz es' vss' ∧ Instr.fill (fun i => some (i * sz, sz)) vss.flatten.toArray vparts = some vss'.flatten.toArray
  | [], vparts, φ, H, H1, es, es', vss, hH, h, hp, hv => by
    simp only [VRI] at hp; subst hp
    simp only [fillE, Option.some.injEq, Prod.mk.injEq] at h; obtain ⟨rfl, rfl⟩ := h
    exact ⟨φ, vss, hH, Ev.refl _ _, Kp.refl _ _, rfl, hv, rfl⟩
  | (i, a) :: r, vparts, φ, H, H1, es, es', vss, hH, h, hp, hv => by
    simp only [VRI] at hp
    obtain ⟨v, l', rfl, hva, hr⟩ := hp
    simp only [fillE] at h
    split at h
    · rename_i p H2 hpl
      obtain ⟨φ2, hH2, ev2, kp2, hpr⟩ := plain_ok hH hpl hva
      cases hb : (Nat.beq p.cells.length sz && Nat.blt i es.length) with
      | false => simp [hb] at h
      | true =>
        simp only [hb, cond_true] at h
        rw [Bool.and_eq_true, Nat.beq_eq, Nat.blt_eq] at hb
        have hpc := pr_cells_of hpr
        have hv2 := PRLL.stay (ev2.stay X) hv
        have hi : i < vss.length := by rw [hv.length]; exact hb.2
        have hv3 := hv2.set (i := i) hb.1 hpc
        obtain ⟨φ3, vss', h1, h2, hk, h3, h4, h5⟩ := fillE_ok hH2 h (VRI.stay ev2 X hr) hv3
        refine ⟨φ3, vss', h1, ev2.trans h2, kp2.trans hk, by simpa using h3, h4, ?_⟩
        have hfl := flat_size hv.size
        have hcl := hpc.length
        have hle : i * sz + sz ≤ vss.flatten.length := by
          rw [hfl]
          have : (i + 1) * sz ≤ vss.length * sz := Nat.mul_le_mul_right sz hi
          rw [Nat.succ_mul] at this; exact this
        have hcs : v.cells.size = sz := by rw [← Array.length_toList, hcl, hb.1]
        rw [← h5, flatten_set hv.size hi]
        generalize vss.flatten = F at hle
        have := fill_fold v.cells.toList 0 (i * sz) F (by rw [Array.length_toList, hcs]; omega)
        simp only [Instr.fill]
        rw [if_neg (by simp [hcs]; omega)]
        congr 1
        rw [← Array.foldl_toList, Array.toList_zipIdx]
        rw [Nat.add_zero, Array.length_toList, hcs] at this
        rw [this]
    · cases h
theorem g_buildSlice {t n : Nat} {ps : Array (Nat × Operand)} {v : AV} {H' : Hp} (hC : CfgOK P C) (hH : HR X φ H w) (hf : Free φ H nid) (hρ : ∀ x, VR w (YOf X φ) φ (ra x) (ρ x)) (h : evPure C nid ra H (.buildSlice t n ps) = some (v, H')) :
    Good nid H X φ w v H' ((execOp ρ ⟨d, .buildSlice t n ps, ty, pos, af, g⟩).run P w) := by
  simp only [evPure] at h
  cases hti : C.ty t with
  | none => simp [hti] at h
  | some ti =>
    simp only [hti] at h
    have hT := hC.ty t ti hti
    split at h
    · rename_i e hk
      have hu := und_sl hT hk
      split at h
      · rename_i te hte
        obtain ⟨ie, ze, hie, hse, _, hze, hzl⟩ := tyOK_info (hC.ty e te hte)
        cases hb : (Nat.ble (n * te.size) 16777216 && !Nat.beq te.size 0) with
        | false => simp [hb] at h
        | true =>
          simp only [hb, cond_true] at h
          rw [Bool.and_eq_true] at hb
          have hb1 : n * te.size ≤ 16777216 := by simpa using hb.1
          have hb2 : te.size ≠ 0 := fun e => by rw [e] at hb; simp at hb
          split at h
          · rename_i es H1 hfill
            simp only [Option.some.injEq, Prod.mk.injEq] at h; obtain ⟨rfl, rfl⟩ := h
            have hzl2 := tyOK_len (hC.ty e te hte)
            have hzs : ze.cells.size = te.size := by rw [← hzl2, ← (hzl w (YOf X φ)).length, Array.length_toList]
            have hrep : PRLL w (YOf X φ) te.size (List.replicate n te.zero) (List.replicate n ze.cells.toList) := PRLL.replicate hzl2 (hzl w (YOf X φ))
            obtain ⟨φ1, vss', h1, h2, hk', h3, h4, h5⟩ := fillE_ok hH hfill (vri_of hρ ps.toList) hrep
            refine Good.pre h2 hk' ?_
            have hlen : n = es.length := by simpa using h3.symm
            have hmx : n ≤ maxLen := by
              have : n * 1 ≤ n * te.size := Nat.mul_le_mul_left n (by omega)
              unfold maxLen; omega
            refine good_row h1 (hk'.free hf) (cs := vss'.flatten.toArray) (t := e) ?_ hlen hmx (by simp) h4
            rcases Nat.eq_zero_or_pos n with h0 | hpos
            · subst h0
              have hps : ps = #[] := by
                rcases ps with ⟨l⟩
                cases l with
                | nil => rfl
                | cons q l =>
                  simp only [List.map_cons, fillE, List.replicate_zero, List.length_nil] at hfill
                  split at hfill
                  · rw [show Nat.blt q.1 0 = false from by rw [Bool.eq_false_iff]; simp [Nat.blt_eq]] at hfill
                    simp at hfill
                  · cases hfill
              subst hps
              have : vss'.flatten.toArray = #[] := by
                have h6 : vss'.length = 0 := by rw [h4.length]; omega
                rw [List.length_eq_zero_iff.1 h6]; rfl
              rw [this]
              exact x_buildSlice0 hu hie
            · refine x_buildSlice hu ?_
              unfold builtSlice
              simp only [hie, hze]
              rw [if_neg]
              · rw [hse, zeros_eq hzs (by omega)]
                have hmap : (ps.map fun (i, x) => (i, ρ x)).toList = ps.toList.map fun p => (p.1, ρ p.2) := by simp
                rw [hmap]; exact h5
              · rw [hse]
                rintro (h | h)
                · omega
                · rcases Nat.mul_eq_zero.1 h with h | h <;> omega
          · cases h
      · cases h
    · cases h
end
end Go.Proofs.Ytelblamgfbkhbaa
namespace Go.Proofs.Ytelblamgfbkhbaa
set_option linter.unusedSimpArgs false
set_option linter.unusedVariables false
open Go.RowKit
section
variable {P : Program} {C : Cfg} {w w' : World} {Y X : Nat → Prop} {φ : Phi} {H : Hp}
variable {nid : Nat} {ρ : Operand → Value} {ra : Operand → AV} {d : Option Tmp} {ty : TypeId} {pos : String} {af : Array Edge} {g : Option (Nat × Bool)}
theorem natOf_eq {n : Int} {k : Nat} (h : natOf n = some k) : n = (k : Int) := by
  cases n <;> simp [natOf] at h
  subst h; rfl
theorem fits_of {n : Nat} {te : TI} (h : fitsB n te = true) : n * te.bytes ≤ 140737488355328 ∧ n ≤ maxLen := by
  unfold fitsB at h
  rw [Bool.and_eq_true] at h
  exact ⟨by simpa using h.1, by unfold maxLen; simpa using h.2⟩
theorem g_makeSlice {t : Nat} {l c : Operand} {v : AV} {H' : Hp} (hC : CfgOK P C) (hH : HR X φ H w) (hfr : Free φ H nid) (hρ : ∀ x, VR w (YOf X φ) φ (ra x) (ρ x)) (h : evPure C nid ra H (.makeSlice t l c) = some (v, H')) :
    Good nid H X φ w v H' ((execOp ρ ⟨d, .makeSlice t l c, ty, pos, af, g⟩).run P w) := by
  simp only [evPure] at h
  split at h
  · rename_i ti k n k' m hti hl hc
    have h1 := hρ l
    have h2 := hρ c
    rw [hl] at h1; rw [hc] at h2
    simp only [VR, PR] at h1 h2
    split at h
    · rename_i e n' hk hn
      have hn' := natOf_eq hn
      subst hn'
      split at h
      · rename_i te hte
        cases hb : (decide (m = (n' : Int)) && fitsB n' te && !Nat.beq te.size 0) with
        | false => simp [hb] at h
        | true =>
          simp only [hb, cond_true, Option.some.injEq, Prod.mk.injEq] at h; obtain ⟨rfl, rfl⟩ := h
          rw [Bool.and_eq_true, Bool.and_eq_true] at hb
          obtain ⟨⟨hm, hf⟩, hz0⟩ := hb
          have hm : m = (n' : Int) := by simpa using hm
          subst hm
          obtain ⟨hf1, hf2⟩ := fits_of hf
          have hpos : te.size ≠ 0 := fun e => by rw [e] at hz0; simp at hz0
          obtain ⟨ie, ze, hie, hse, hbe, hze, hzl⟩ := tyOK_info (hC.ty e te hte)
          have hzl2 := tyOK_len (hC.ty e te hte)
          have hzs : ze.cells.size = te.size := by rw [← hzl2, ← (hzl w (YOf X φ)).length, Array.length_toList]
          have hb' : (ie.bytes : Int) * (n' : Int) ≤ 281474976710656 := by
            have : ie.bytes * n' ≤ 140737488355328 := by rw [hbe, Nat.mul_comm]; exact hf1
            have h3 : ((ie.bytes * n' : Nat) : Int) ≤ 281474976710656 := by omega
            rwa [Int.natCast_mul] at h3
          have hm63 : (n' : Int) ≤ 9223372036854775807 := by unfold maxLen at hf2; omega
          have hr := run_make (P := P) w t e ie ze (und_sl (hC.ty t ti hti) hk) hie hze k k' n' n' (by omega) (Int.le_refl _) hb' hm63
          simp only [Int.toNat_natCast] at hr
          have hrun : (execOp ρ ⟨d, .makeSlice t l c, ty, pos, af, g⟩).run P w = .ok (.value (.slice (some ⟨w.heap.size, 0, none⟩) n' n')) (w.alloc (.cells (madeCells ze.cells (n' * ie.size)) e)) := by
            simp [execOp, h1, h2, hr]
          refine good_row hH hfr hrun (by simp) hf2 (vss := List.replicate n' ze.cells.toList) ?_ (PRLL.replicate hzl2 (hzl w (YOf X φ)))
          unfold madeCells
          rw [hse, zeros_eq hzs (by omega)]
      · cases h
    · cases h
  · cases h

theorem alive_live (hH : HR X φ H w) {o : Nat} (h : alive H o = true) : ∃ z l, φ o = .at z l := by
  unfold alive at h
  cases hg : hget H o with
  | none => simp [hg] at h
  | some x => obtain ⟨z, l, hl, _⟩ := hH.ob o x hg; exact ⟨z, l, hl⟩
theorem g_fieldAddr {t f : Nat} {x : Operand} {v : AV} {H' : Hp} (hC : CfgOK P C) (hH : HR X φ H w) (hρ : ∀ x, VR w (YOf X φ) φ (ra x) (ρ x)) (h : evPure C nid ra H (.fieldAddr t x f) = some (v, H')) :
    H' = H ∧ ∃ u, (execOp ρ ⟨d, .fieldAddr t x f, ty, pos, af, g⟩).run P w = .ok (.value u) w ∧ VR w (YOf X φ) φ v u := by
  simp only [evPure] at h
  split at h
  · rename_i ft off hf
    cases hps : posSize C ft with
    | false => simp [hps] at h
    | true =>
      simp only [hps, cond_true] at h
      have hF : FieldAt P t f off := by
        unfold evField at hf
        cases hti : C.ty t with
        | none => simp [hti] at hf
        | some ti =>
          simp only [hti] at hf
          split at hf
          · rename_i fs hk
            obtain ⟨gs, hu, hfo⟩ := und_struct (hC.ty t ti hti) hk
            obtain ⟨fd, hfd, rfl, rfl, _⟩ := fieldsOK_at hfo hf
            unfold posSize at hps
            cases htf : C.ty fd.type with
            | none => simp [htf] at hps
            | some tf =>
              simp only [htf] at hps
              obtain ⟨i, z, hi, hs, _⟩ := tyOK_info (hC.ty _ tf htf)
              refine fieldAt_of hu (by simpa using hfd) (sz := tf.size) (by simp [hi, hs]) ?_ rfl
              rw [Bool.eq_false_iff]; intro e; simp at e; rw [e] at hps; simp at hps
          · cases hf
      have hx := hρ x
      split at h
      · rename_i o i hx'
        cases ha : alive H o with
        | false => simp [ha] at h
        | true =>
          simp only [ha, cond_true, Option.some.injEq, Prod.mk.injEq] at h; obtain ⟨rfl, rfl⟩ := h
          rw [hx'] at hx
          simp only [VR] at hx
          obtain ⟨_, l, hl⟩ := alive_live hH ha
          obtain ⟨b, hA, he⟩ := hx.2.2 _ l hl
          refine ⟨rfl, _, x_field hF he, ?_⟩
          simp only [VR]
          exact ⟨rfl, hx.2.1, fun _ l' hl' => by rw [hl] at hl'; cases hl'; exact ⟨b, hA, rfl⟩⟩
      · rename_i o k i hx'
        cases ha : alive H o with
        | false => simp [ha] at h
        | true =>
          simp only [ha, cond_true, Option.some.injEq, Prod.mk.injEq] at h; obtain ⟨rfl, rfl⟩ := h
          rw [hx'] at hx
          simp only [VR] at hx
          obtain ⟨_, l, hl⟩ := alive_live hH ha
          obtain ⟨b, p, hA, he⟩ := hx.2.2 _ l hl
          refine ⟨rfl, _, x_field hF he, ?_⟩
          simp only [VR]
          exact ⟨rfl, hx.2.1, fun _ l' hl' => by rw [hl] at hl'; cases hl'; exact ⟨b, p, hA, by rw [Nat.add_assoc]⟩⟩
      · rename_i c i hx'
        simp only [Option.some.injEq, Prod.mk.injEq] at h; obtain ⟨rfl, rfl⟩ := h
        rw [hx'] at hx
        simp only [VR] at hx
        obtain ⟨b, o, he, hY, hlt, hc⟩ := hx
        exact ⟨rfl, _, x_field hF he, by simp only [VR]; exact ⟨b, o, by rw [Nat.add_assoc], hY, hlt, hc⟩⟩
      · cases h
  · cases h
theorem agg_cells {a : AV} {v : Value} (ha : isAggA a = true) (h : VR w Y φ a v) : ∃ vs, v = .agg vs.toArray ∧ VRL w Y φ a.cells vs := by
  cases a with
  | agg cs => simp only [VR] at h; exact h
  | pl p =>
    cases p with
    | agg cs => simp only [VR, PR] at h; obtain ⟨vs, e, hl⟩ := h; exact ⟨vs, e, hl.vrl⟩
    | _ => simp [isAggA] at ha
  | _ => simp [isAggA] at ha
theorem g_field {t f : Nat} {x : Operand} {v : AV} {H' : Hp} (hC : CfgOK P C) (hρ : ∀ x, VR w (YOf X φ) φ (ra x) (ρ x)) (h : evPure C nid ra H (.field t x f) = some (v, H')) :
    H' = H ∧ ∃ u, (execOp ρ ⟨d, .field t x f, ty, pos, af, g⟩).run P w = .ok (.value u) w ∧ VR w (YOf X φ) φ v u := by
  simp only [evPure] at h
  split at h
  · rename_i ft off hf
    cases htf : C.ty ft with
    | none => simp [htf] at h
    | some tf =>
      simp only [htf] at h
      cases hb : (Nat.ble (off + tf.size) (ra x).cells.length && isAggA (ra x) && !Nat.beq tf.size 0) with
      | false => simp [hb] at h
      | true =>
        simp only [hb, cond_true] at h
        rw [Bool.and_eq_true, Bool.and_eq_true] at hb
        obtain ⟨⟨hb1, hb2⟩, hb3⟩ := hb
        obtain ⟨vs, hv, hl⟩ := agg_cells hb2 (hρ x)
        have hlen := hl.length
        have hpos : 0 < tf.size := by
          rcases Nat.eq_zero_or_pos tf.size with e | e
          · rw [e] at hb3; simp at hb3
          · exact e
        have hle : off + tf.size ≤ vs.length := by rw [hlen]; simpa using hb1
        have hrun : (execOp ρ ⟨d, .field t x f, ty, pos, af, g⟩).run P w = .ok (.value (vAt tf.k.row ((vs.drop off).take tf.size))) w := by
          unfold evField at hf
          cases hti : C.ty t with
          | none => simp [hti] at hf
          | some ti =>
            simp only [hti] at hf
            split at hf
            · rename_i fs hk
              obtain ⟨gs, hu, hfo⟩ := und_struct (hC.ty t ti hti) hk
              obtain ⟨fd, hfd, rfl, rfl, _⟩ := fieldsOK_at hfo hf
              have hp := run_part (w := w) (hC.ty _ tf htf) hle (fun _ => hpos)
              have hfd' : gs[f]? = some fd := by simpa using hfd
              simp [execOp, hv, Instr.field, run_underlying hu, hfd', asAgg, hp]
            · cases hf
        cases hr : tf.k.row with
        | true =>
          simp only [hr, cond_true, Option.some.injEq, Prod.mk.injEq] at h; obtain ⟨rfl, rfl⟩ := h
          rw [hr] at hrun
          exact ⟨rfl, _, hrun, VR.mkAgg ((hl.drop off).take tf.size)⟩
        | false =>
          simp only [hr, cond_false, Option.map_eq_some_iff, Prod.mk.injEq] at h
          obtain ⟨c, hc, rfl, rfl⟩ := h
          rw [hr] at hrun
          obtain ⟨u, h1, _, h2⟩ := VRL.at hl hc
          refine ⟨rfl, _, hrun, ?_⟩
          have : vAt false ((vs.drop off).take tf.size) = u := by
            have hlt : off < vs.length := by omega
            rw [List.getElem?_eq_getElem hlt] at h1
            cases h1
            simp only [vAt, Bool.false_eq_true, if_false]
            rw [List.drop_eq_getElem_cons hlt]
            obtain ⟨n, hn⟩ : ∃ n, tf.size = n + 1 := ⟨tf.size - 1, by omega⟩
            rw [hn]; rfl
          rw [this]; exact h2
  · cases h
theorem run_indexAt_sl {t e : Nat} {te : TI} {b o n c i : Nat} {k : IntKind} (ht : P.underlying t = some (.slice e)) (he : tyOKB P e te = true) (hi : i < n) :
    (Instr.indexAt t (.slice (some ⟨b, o, none⟩) n c) (.int k (i : Int))).run P w = .ok (.pointer (some ⟨b, o + i * te.size, none⟩)) w := by
  have h0 : (0 : Int) ≤ i := by omega
  have hs := run_size (w := w) he
  simp [Instr.indexAt, asIntOf, run_underlying ht, h0, hi, hs, Addr.add_mid]
theorem run_indexAt_arr {t m e : Nat} {te : TI} {b o i : Nat} {k : IntKind} (ht : P.underlying t = some (.array m e)) (he : tyOKB P e te = true) (hi : i < m) :
    (Instr.indexAt t (.pointer (some ⟨b, o, none⟩)) (.int k (i : Int))).run P w = .ok (.pointer (some ⟨b, o + i * te.size, none⟩)) w := by
  have h0 : (0 : Int) ≤ i := by omega
  have hs := run_size (w := w) he
  simp [Instr.indexAt, asIntOf, run_underlying ht, h0, hi, hs, Addr.add_mid, Instr.sureAddr]
theorem x_indexAddr {t : Nat} {x y : Operand} {v : Value} (h : (Instr.indexAt t (ρ x) (ρ y)).run P w = .ok v w) : (execOp ρ ⟨d, .indexAddr t x y, ty, pos, af, g⟩).run P w = .ok (.value v) w := by
  simp [execOp, h]
theorem g_indexAddr {t : Nat} {x y : Operand} {a i v : AV} (hC : CfgOK P C) (hH : HR X φ H w) (h : evIndexAddr C H t a i = some v) (hx : VR w (YOf X φ) φ a (ρ x)) (hy : VR w (YOf X φ) φ i (ρ y)) :
    ∃ u, (execOp ρ ⟨d, .indexAddr t x y, ty, pos, af, g⟩).run P w = .ok (.value u) w ∧ VR w (YOf X φ) φ v u := by
  unfold evIndexAddr at h
  split at h
  · rename_i ti k n hti
    simp only [VR, PR] at hy
    split at h
    · cases h
    · rename_i i' hi'
      have hn := natOf_eq hi'
      subst hn
      split at h
      · rename_i e hk
        have hu := und_sl (hC.ty t ti hti) hk
        split at h
        · cases h
        · rename_i te hte
          have hE := hC.ty e te hte
          split at h
          · rename_i f sz es
            cases hb : Nat.beq sz te.size with
            | false => simp [hb] at h
            | true =>
              simp only [hb, cond_true, Option.map_eq_some_iff] at h
              rw [Nat.beq_eq] at hb; subst hb
              obtain ⟨c, hc, rfl⟩ := h
              have hlt : i' < es.length := (List.getElem?_eq_some_iff.1 hc).1
              simp only [VR, PR] at hx
              obtain ⟨A, cp, hv, _, _, _, hA⟩ := hx
              rcases hA with hA | ⟨b, o, rfl, hY, hltb, hPE⟩
              · omega
              · refine ⟨_, x_indexAddr (by rw [hv, hy]; exact run_indexAt_sl hu hE hlt), ?_⟩
                simp only [VR]
                exact ⟨b, o + i' * te.size, rfl, hY, hltb, (hPE.at hc).2⟩
          · rename_i o
            split at h
            · rename_i fz sz es ho
              cases hb : (Nat.beq sz te.size && Nat.blt i' es.length) with
              | false => simp [hb] at h
              | true =>
                simp only [hb, cond_true, Option.some.injEq] at h; subst h
                rw [Bool.and_eq_true, Nat.beq_eq, Nat.blt_eq] at hb
                obtain ⟨rfl, hlt⟩ := hb
                obtain ⟨z, l, hl, hO⟩ := hH.ob _ _ ho
                simp only [VR] at hx
                have hv := hx.2.2 _ l hl
                simp only [OR] at hO
                obtain ⟨hz, h1, h2, h3, h4, h5⟩ := hO
                rcases h5 with ⟨_, h6⟩ | ⟨b, p, t', cs, hA, hg, hs, hPE, _⟩
                · omega
                · simp only [Loc.addr, hA, Option.map_some, Nat.zero_mul, Nat.add_zero] at hv
                  refine ⟨_, x_indexAddr (by rw [hv, hy]; exact run_indexAt_sl hu hE (by omega)), ?_⟩
                  simp only [VR]
                  exact ⟨rfl, hx.2.1, fun _ l' hl' => by rw [hl] at hl'; cases hl'; exact ⟨b, p, hA, by rw [h2, Nat.add_zero]⟩⟩
            · cases h
          · rename_i o off len
            split at h
            · rename_i fz sz es ho
              cases hb : (Nat.beq sz te.size && (Nat.blt i' len && Nat.ble (off + len) es.length)) with
              | false => simp [hb] at h
              | true =>
                simp only [hb, cond_true, Option.some.injEq] at h; subst h
                rw [Bool.and_eq_true, Bool.and_eq_true, Nat.beq_eq, Nat.blt_eq] at hb
                obtain ⟨rfl, hlt, hle⟩ := hb
                have hle : off + len ≤ es.length := by simpa using hle
                obtain ⟨z, l, hl, hO⟩ := hH.ob _ _ ho
                simp only [VR] at hx
                obtain ⟨A, c, hv, _, hc, hA0⟩ := hx.2.2 _ l hl
                simp only [OR] at hO
                obtain ⟨hz, h1, h2, h3, h4, h5⟩ := hO
                rcases h5 with ⟨_, h6⟩ | ⟨b, p, t', cs, hA, hg, hs, hPE, _⟩
                · omega
                · obtain ⟨hA1, _⟩ := hA0 (by omega)
                  simp only [Loc.addr, hA, Option.map_some] at hA1
                  subst hA1
                  refine ⟨_, x_indexAddr (by rw [hv, hy]; exact run_indexAt_sl hu hE hlt), ?_⟩
                  simp only [VR]
                  exact ⟨rfl, hx.2.1, fun _ l' hl' => by rw [hl] at hl'; cases hl'; exact ⟨b, p, hA, by rw [h2, Nat.add_zero, Nat.add_mul, Nat.add_assoc]⟩⟩
            · cases h
          · cases h
      · rename_i m e hk
        have hu := und_arr (hC.ty t ti hti) hk
        split at h
        · cases h
        · rename_i te hte
          have hE := hC.ty e te hte
          cases hb : Nat.blt i' m with
          | false => simp [hb] at h
          | true =>
            simp only [hb, cond_true] at h
            rw [Nat.blt_eq] at hb
            split at h
            · rename_i o off
              cases ha : alive H o with
              | false => simp [ha] at h
              | true =>
                simp only [ha, cond_true, Option.some.injEq] at h; subst h
                obtain ⟨_, l, hl⟩ := alive_live hH ha
                simp only [VR] at hx
                obtain ⟨b, hA, hv⟩ := hx.2.2 _ l hl
                refine ⟨_, x_indexAddr (by rw [hv, hy]; exact run_indexAt_arr hu hE hb), ?_⟩
                simp only [VR]
                exact ⟨rfl, hx.2.1, fun _ l' hl' => by rw [hl] at hl'; cases hl'; exact ⟨b, hA, rfl⟩⟩
            · rename_i c off
              simp only [Option.some.injEq] at h; subst h
              simp only [VR] at hx
              obtain ⟨b, o, hv, hY, hlt, hc⟩ := hx
              refine ⟨_, x_indexAddr (by rw [hv, hy]; exact run_indexAt_arr hu hE hb), ?_⟩
              simp only [VR]
              exact ⟨b, o, by rw [Nat.add_assoc], hY, hlt, hc⟩
            · rename_i o j off
              cases ha : alive H o with
              | false => simp [ha] at h
              | true =>
                simp only [ha, cond_true, Option.some.injEq] at h; subst h
                obtain ⟨_, l, hl⟩ := alive_live hH ha
                simp only [VR] at hx
                obtain ⟨b, p, hA, hv⟩ := hx.2.2 _ l hl
                refine ⟨_, x_indexAddr (by rw [hv, hy]; exact run_indexAt_arr hu hE hb), ?_⟩
                simp only [VR]
                exact ⟨rfl, hx.2.1, fun _ l' hl' => by rw [hl] at hl'; cases hl'; exact ⟨b, p, hA, by rw [Nat.add_assoc]⟩⟩
            · cases h
      · cases h
  · cases h
end
end Go.Proofs.Ytelblamgfbkhbaa
namespace Go.Proofs.Ytelblamgfbkhbaa
set_option linter.unusedSimpArgs false
set_option linter.unusedVariables false
open Go.RowKit
section
variable {P : Program} {C : Cfg} {w w' : World} {Y X : Nat → Prop} {φ : Phi} {H : Hp}
variable {nid : Nat} {ρ : Operand → Value} {ra : Operand → AV} {d : Option Tmp} {ty : TypeId} {pos : String} {af : Array Edge} {g : Option (Nat × Bool)}
theorem g_index {t : Nat} {x y : Operand} {a i v : AV} (hC : CfgOK P C) (h : evIndex C t a i = some v) (hx : VR w (YOf X φ) φ a (ρ x)) (hy : VR w (YOf X φ) φ i (ρ y)) :
    ∃ u, (execOp ρ ⟨d, .index t x y, ty, pos, af, g⟩).run P w = .ok (.value u) w ∧ VR w (YOf X φ) φ v u := by
  unfold evIndex at h
  split at h
  · rename_i ti s k n hti
    simp only [VR, PR] at hx hy
    split at h
    · rename_i i' hk hn
      have hn := natOf_eq hn
      subst hn
      simp only [Option.map_eq_some_iff] at h
      obtain ⟨b, hb, rfl⟩ := h
      have hlt : i' < s.size := by have := (List.getElem?_eq_some_iff.1 hb).1; simpa using this
      have hb2 : s[i']? = some b := by
        have : s.data[i']? = some b := by simpa using hb
        obtain ⟨h1, h2⟩ := Array.getElem?_eq_some_iff.1 this
        rw [getElem?_pos s i' hlt]; exact congrArg some h2
      have h0 : (0 : Int) ≤ i' := by omega
      refine ⟨.int .u8 b.toNat, ?_, by simp only [VR, PR]⟩
      simp [execOp, hx, hy, Instr.index, asIntOf, run_underlying (und_str (hC.ty t ti hti) hk), h0, hb2]
    · cases h
  · rename_i ti cs k n hti
    simp only [VR, PR] at hx hy
    obtain ⟨vs, hv, hl⟩ := hx
    split at h
    · rename_i m e i' hk hn
      have hn := natOf_eq hn
      subst hn
      split at h
      · rename_i te hte
        cases hb : (Nat.blt i' m && Nat.ble ((i' + 1) * te.size) cs.length) with
        | false => simp [hb] at h
        | true =>
          simp only [hb, cond_true] at h
          rw [Bool.and_eq_true, Nat.blt_eq] at hb
          obtain ⟨hb1, hb2⟩ := hb
          have hb2 : (i' + 1) * te.size ≤ cs.length := by simpa using hb2
          rw [Nat.succ_mul] at hb2
          have hlen := hl.length
          have hE := hC.ty e te hte
          have h0 : (0 : Int) ≤ i' := by omega
          have hz := run_size (w := w) hE
          cases hr : te.k.row with
          | true =>
            simp only [hr, cond_true, Option.some.injEq] at h; subst h
            have hp := run_part (w := w) (off := i' * te.size) hE (vs := vs) (by omega) (fun h => by rw [hr] at h; cases h)
            refine ⟨_, ?_, by simp only [VR, PR]; exact ⟨_, rfl, (hl.drop (i' * te.size)).take te.size⟩⟩
            rw [hr] at hp
            simp [execOp, hv, hy, Instr.index, asIntOf, run_underlying (und_arr (hC.ty t ti hti) hk), h0, hb1, hz, hp, vAt]
          | false =>
            simp only [hr, cond_false, Option.map_eq_some_iff] at h
            obtain ⟨c, hc, rfl⟩ := h
            have hlt : i' * te.size < cs.length := (List.getElem?_eq_some_iff.1 hc).1
            obtain ⟨u, h1, _, h2⟩ := VRL.at (φ := φ) hl.vrl (i := i' * te.size) (c := .pl c) (by rw [List.getElem?_map, hc]; rfl)
            have hag : (isAgg e).run P w = .ok false w := by
              obtain ⟨uu, hu, hrr⟩ := und_row hE
              exact run_isAgg_no hu (by rw [hrr, hr])
            refine ⟨u, ?_, h2⟩
            have h3 : vs.toArray[i' * te.size]? = some u := by simpa using h1
            simp [execOp, hv, hy, Instr.index, asIntOf, run_underlying (und_arr (hC.ty t ti hti) hk), h0, hb1, hz, part, hag]
            simp only [List.getElem?_toArray] at h3
            rw [h3]; simp
      · cases h
    · cases h
  · cases h
theorem g_pick {c x y : Operand} {v : AV} {H' : Hp} (hρ : ∀ x, VR w (YOf X φ) φ (ra x) (ρ x)) (h : evPure C nid ra H (.pick c x y) = some (v, H')) :
    H' = H ∧ ∃ u, (execOp ρ ⟨d, .pick c x y, ty, pos, af, g⟩).run P w = .ok (.value u) w ∧ VR w (YOf X φ) φ v u := by
  simp only [evPure] at h
  split at h
  · rename_i b hb
    simp only [Option.some.injEq, Prod.mk.injEq] at h; obtain ⟨rfl, rfl⟩ := h
    have hc := hρ c
    rw [hb] at hc
    simp only [VR, PR] at hc
    refine ⟨rfl, _, x_pick hc rfl, ?_⟩
    cases b
    · exact hρ y
    · exact hρ x
  · cases h
theorem g_extract {t : Operand} {i : Nat} {v : AV} {H' : Hp} (hρ : ∀ x, VR w (YOf X φ) φ (ra x) (ρ x)) (h : evPure C nid ra H (.extract t i) = some (v, H')) :
    H' = H ∧ ∃ u, (execOp ρ ⟨d, .extract t i, ty, pos, af, g⟩).run P w = .ok (.value u) w ∧ VR w (YOf X φ) φ v u := by
  simp only [evPure] at h
  split at h
  · rename_i vs hv
    simp only [Option.map_eq_some_iff, Prod.mk.injEq] at h
    obtain ⟨a, ha, rfl, rfl⟩ := h
    have ht := hρ t
    rw [hv] at ht
    simp only [VR] at ht
    obtain ⟨us, he, hl⟩ := ht
    obtain ⟨u, h1, h2⟩ := VRT.at hl ha
    exact ⟨rfl, u, x_extract he (by simpa using h1), h2⟩
  · cases h
theorem x_nilCheckF {x : Operand} {f : Nat} {a b : Array Value} (hx : ρ x = .func (.func f) a b) : (execOp ρ ⟨d, .nilCheck x, ty, pos, af, g⟩).run P w = .ok (.value (.func (.func f) a b)) w := by
  simp [execOp, hx]
theorem g_nilCheck {x : Operand} {v : AV} {H' : Hp} (hH : HR X φ H w) (hρ : ∀ x, VR w (YOf X φ) φ (ra x) (ρ x)) (h : evPure C nid ra H (.nilCheck x) = some (v, H')) :
    H' = H ∧ ∃ u, (execOp ρ ⟨d, .nilCheck x, ty, pos, af, g⟩).run P w = .ok (.value u) w ∧ VR w (YOf X φ) φ v u := by
  simp only [evPure] at h
  have hx := hρ x
  split at h
  · rename_i f hv
    simp only [Option.some.injEq, Prod.mk.injEq] at h; obtain ⟨rfl, rfl⟩ := h
    rw [hv] at hx
    have hx' := hx
    simp only [VR, PR] at hx
    exact ⟨rfl, _, x_nilCheckF hx, by rw [← hx]; exact hx'⟩
  · rename_i f cs hv
    simp only [Option.some.injEq, Prod.mk.injEq] at h; obtain ⟨rfl, rfl⟩ := h
    rw [hv] at hx
    have hx' := hx
    simp only [VR] at hx
    obtain ⟨us, he, _⟩ := hx
    exact ⟨rfl, _, x_nilCheckF he, by rw [← he]; exact hx'⟩
  · rename_i o i hv
    cases ha : alive H o with
    | false => simp [ha] at h
    | true =>
      simp only [ha, cond_true, Option.some.injEq, Prod.mk.injEq] at h; obtain ⟨rfl, rfl⟩ := h
      obtain ⟨_, l, hl⟩ := alive_live hH ha
      rw [hv] at hx
      have hx' := hx
      simp only [VR] at hx
      obtain ⟨b, _, he⟩ := hx.2.2 _ l hl
      exact ⟨rfl, _, x_nilCheck he, by rw [← he]; exact hx'⟩
  · rename_i o i j hv
    cases ha : alive H o with
    | false => simp [ha] at h
    | true =>
      simp only [ha, cond_true, Option.some.injEq, Prod.mk.injEq] at h; obtain ⟨rfl, rfl⟩ := h
      obtain ⟨_, l, hl⟩ := alive_live hH ha
      rw [hv] at hx
      have hx' := hx
      simp only [VR] at hx
      obtain ⟨b, p, _, he⟩ := hx.2.2 _ l hl
      exact ⟨rfl, _, x_nilCheck he, by rw [← he]; exact hx'⟩
  · rename_i c i hv
    simp only [Option.some.injEq, Prod.mk.injEq] at h; obtain ⟨rfl, rfl⟩ := h
    rw [hv] at hx
    have hx' := hx
    simp only [VR] at hx
    obtain ⟨b, o, he, _⟩ := hx
    exact ⟨rfl, _, x_nilCheck he, by rw [← he]; exact hx'⟩
  · cases h
theorem g_un {op : UnOp} {t : Nat} {x : Operand} {a v : AV} (h : evUn op a = some v) (hx : VR w (YOf X φ) φ a (ρ x)) :
    ∃ u, (execOp ρ ⟨d, .unOp op t x, ty, pos, af, g⟩).run P w = .ok (.value u) w ∧ VR w (YOf X φ) φ v u := by
  unfold evUn at h
  split at h
  · simp only [Option.some.injEq] at h; subst h
    simp only [VR, PR] at hx
    exact ⟨_, by simp [execOp, hx, Op.unary, Op.intArith]; rfl, by simp [VR, PR]⟩
  · simp only [Option.some.injEq] at h; subst h
    simp only [VR, PR] at hx
    exact ⟨_, x_not hx, by simp only [VR, PR]⟩
  · simp only [VR, PR] at hx
    rename_i k n
    simp only [binI, Option.map_some, Option.some.injEq] at h; subst h
    exact ⟨_, by simp [execOp, hx, Op.unary, Op.intBits]; rfl, by simp [VR, PR]⟩
  · cases h
theorem pre_bytes {b : Nat} : ∀ (l : List UInt8) (o : Nat), (∀ j c, l[j]? = some c → w.cell? ⟨b, o + j, none⟩ = some (.int .u8 (c.toNat : Int))) → PRE w Y b 1 o (l.map fun c => [.int .u8 (c.toNat : Int)])
  | [], o, _ => by simp only [List.map_nil, PRE]
  | c :: l, o, h => by
    simp only [List.map_cons, PRE, PRC, PR]
    refine ⟨rfl, ⟨⟨_, by simpa using h 0 c rfl, rfl, rfl⟩, trivial⟩, pre_bytes l (o + 1) fun j d hd => ?_⟩
    have := h (j + 1) d (by simpa using hd)
    rwa [show o + 1 + j = o + (j + 1) from by omega]
theorem bytes_cells {b : Nat} : ∀ {es : List (List PV)} {bs : List UInt8} {o : Nat}, bytesOf es = some bs → PRE w Y b 1 o es → ∃ ns : List Int, bs = ns.map (fun n => UInt8.ofNat n.toNat) ∧ ns.length = es.length ∧ ∀ j n, ns[j]? = some n → w.cell? ⟨b, o + j, none⟩ = some (.int .u8 n)
  | [], bs, o, h, _ => by
    simp only [bytesOf, Option.some.injEq] at h; subst h
    exact ⟨[], rfl, rfl, fun j n h => by simp at h⟩
  | e :: es, bs, o, h, hp => by
    unfold bytesOf at h
    split at h
    · simp at *
    · rename_i n r heq
      simp only [List.cons.injEq] at heq
      obtain ⟨rfl, rfl⟩ := heq
      obtain ⟨bs', h1, rfl⟩ := Option.map_eq_some_iff.1 h
      simp only [PRE, PRC, PR] at hp
      obtain ⟨_, ⟨⟨v, hv, _, rfl⟩, _⟩, hr⟩ := hp
      obtain ⟨ns, rfl, k2, k3⟩ := bytes_cells h1 hr
      refine ⟨n :: ns, rfl, by simp [k2], fun j m hj => ?_⟩
      cases j with
      | zero => simp at hj; subst hj; simpa using hv
      | succ j =>
        have := k3 j m (by simpa using hj)
        rwa [show o + (j + 1) = o + 1 + j from by omega]
    · cases h
theorem fold_push : ∀ (ns : List Int) (s : ByteArray), (ns.foldl (fun r n => r.push (UInt8.ofNat n.toNat)) s).data.toList = s.data.toList ++ ns.map (fun n => UInt8.ofNat n.toNat)
  | [], s => by simp
  | n :: ns, s => by rw [List.foldl_cons, fold_push ns]; simp [ByteArray.push]
theorem g_convert {s t : Nat} {x : Operand} {v : AV} {H' : Hp} (hC : CfgOK P C) (hH : HR X φ H w) (hρ : ∀ x, VR w (YOf X φ) φ (ra x) (ρ x)) (h : evPure C nid ra H (.convert s t x) = some (v, H')) :
    Good nid H X φ w v H' ((execOp ρ ⟨d, .convert s t x, ty, pos, af, g⟩).run P w) := by
  simp only [evPure, Option.map_eq_some_iff, Prod.mk.injEq] at h
  obtain ⟨v0, h, rfl, rfl⟩ := h
  unfold evConv at h
  have hx := hρ x
  split at h
  · rename_i ts td k n hs ht hv
    rw [hv] at hx
    simp only [VR, PR] at hx
    split at h
    · rename_i k' hk
      simp only [Option.some.injEq] at h; subst h
      obtain ⟨us, hu, _⟩ := tyOK_und (hC.ty s ts hs)
      refine good_val (v' := .int k' (k'.wrap n)) ?_ (by simp only [VR, PR]) hH
      cases us <;> simp [execOp, hx, convert, run_underlying hu, run_underlying (und_int (hC.ty t td ht) hk), Conv.intToInt]
    · cases h
  · rename_i ts td b hs ht hv
    rw [hv] at hx
    simp only [VR, PR] at hx
    obtain ⟨us, hu, _⟩ := tyOK_und (hC.ty s ts hs)
    split at h
    · rename_i hk
      simp only [Option.some.injEq] at h; subst h
      refine good_val (v' := .string b) ?_ (by simp only [VR, PR]) hH
      cases us <;> simp [execOp, hx, convert, run_underlying hu, run_underlying (und_str (hC.ty t td ht) hk)]
    · rename_i e hk
      split at h
      · rename_i te hte
        split at h
        · rename_i hke
          cases hb : (Nat.ble b.size 9223372036854775807 && Nat.beq te.size 1) with
          | false => simp [hb] at h
          | true =>
            simp only [hb, cond_true, Option.some.injEq] at h; subst h
            rw [Bool.and_eq_true] at hb
            have hmax : b.size ≤ maxLen := Nat.le_of_ble_eq_true hb.1
            have hlen : (b.data.toList.map fun c => ([.int .u8 (c.toNat : Int)] : List PV)).length = b.size := by rw [List.length_map]; exact Array.length_toList
            have hrun := Go.Lib.run_convert_string_bytes (P := P) w s t e b hu (und_sl (hC.ty t td ht) hk) (und_int (hC.ty e te hte) hke)
            have ev : Ev φ w φ (Go.Lib.bytesWorld w e b) := ⟨rfl, rfl, ⟨rfl, by unfold Go.Lib.bytesWorld; exact Nat.le_succ _⟩, by rw [Go.Lib.bytesWorld_size]; omega, fun q hq _ => Go.Lib.bytesWorld_at_old w e b q hq, fun _ _ h => h, fun _ _ => .inl rfl⟩
            have hnY : ¬ YOf X φ w.heap.size := fun hc => by
              rcases hc with hc | ⟨o, l, p, ho, hA⟩
              · exact absurd (hH.xlt _ hc) (Nat.lt_irrefl _)
              · exact absurd (hH.out o l _ p ho hA).2 (Nat.lt_irrefl _)
            refine ⟨_, .slice (some ⟨w.heap.size, 0, none⟩) b.size (grownCap w b.size 0 e), Go.Lib.bytesWorld w e b, φ, by simp [execOp, hx, hrun, Result.andThen], .inl rfl, ?_, ?_, ev, Nat.le_refl _, fun _ _ h => h⟩
            · simp only [VR, PR, flOk]
              refine ⟨some ⟨w.heap.size, 0, none⟩, grownCap w b.size 0 e, by rw [hlen], by rw [hlen]; exact grownCap_ge w b.size 0 e, grownCap_le_maxLen w _ _ e hmax, trivial, .inr ⟨w.heap.size, 0, rfl, hnY, by rw [Go.Lib.bytesWorld_size]; omega, pre_bytes _ 0 fun j c hj => ?_⟩⟩
              have hjl : j < b.size := by have := (List.getElem?_eq_some_iff.1 hj).1; rw [Array.length_toList] at this; exact this
              rw [Nat.zero_add, Go.Lib.bytesWorld_cell w e b j hjl, List.getD, hj]; rfl
            · exact hH.next ev hH.fresh hH.live (fun o x hx => .inl ⟨hx, rfl, fun l q p hl hA => Go.Lib.bytesWorld_at_old w e b q (hH.out o l q p hl hA).2⟩) (fun o l q p ho _ => .inl ho)
        · cases h
      · cases h
    · cases h
  · rename_i ts td f sz es hs ht hv
    rw [hv] at hx
    simp only [VR, PR] at hx
    obtain ⟨A, c, hxv, hle, hc, _, hA⟩ := hx
    split at h
    · rename_i e hk hks
      split at h
      · rename_i te hte
        split at h
        · rename_i bs hke hbs
          cases hb : Nat.beq sz 1 with
          | false => simp [hb] at h
          | true =>
            simp only [hb, cond_true, Option.some.injEq] at h; subst h
            have hrun : (Conv.bytesToString (ρ x)).run P w = .ok (.string ⟨bs.toArray⟩) w := by
              rw [hxv]
              cases A with
              | none =>
                have : es.length = 0 := hA.elim id fun ⟨b, o, e, _⟩ => by cases e
                have he : es = [] := List.eq_nil_of_length_eq_zero this
                subst he
                simp only [bytesOf, Option.some.injEq] at hbs; subst hbs
                rfl
              | some a =>
                rcases hA with h0 | ⟨b, o, e, _, _, hpre⟩
                · have he : es = [] := List.eq_nil_of_length_eq_zero h0
                  subst he
                  simp only [bytesOf, Option.some.injEq] at hbs; subst hbs
                  exact run_bytesToString (P := P) w a 0 c [] (run_loadCells_list w a [] (fun j v h => by simp at h))
                · cases e
                  have hsz : sz = 1 := Nat.eq_of_beq_eq_true hb
                  subst hsz
                  obtain ⟨ns, k1, k2, k3⟩ := bytes_cells hbs hpre
                  have hl := run_loadCells_list (P := P) w ⟨b, o, none⟩ (ns.map (Value.int .u8)) (fun j v hj => by
                    rw [List.getElem?_map] at hj
                    cases hn : ns[j]? with
                    | none => rw [hn] at hj; cases hj
                    | some n =>
                      rw [hn] at hj; simp only [Option.map_some, Option.some.injEq] at hj; subst hj
                      have := k3 j n hn
                      unfold Addr.add
                      split
                      · rename_i h0; subst h0; simpa using this
                      · exact this)
                  rw [List.length_map, k2] at hl
                  rw [run_bytesToString w ⟨b, o, none⟩ es.length c ns hl, k1]
                  congr 2
                  exact bytes_eq (by rw [fold_push]; simp)
            refine good_val (v' := .string ⟨bs.toArray⟩) ?_ (by simp only [VR, PR]) hH
            have hcv := run_convert_bytes_string (P := P) w s t e A es.length c (und_sl (hC.ty s ts hs) hks) (und_int (hC.ty e te hte) hke) (und_str (hC.ty t td ht) hk)
            rw [hxv] at hrun
            simp [execOp, hxv, hcv, hrun, Result.andThen]
        · cases h
      · cases h
    · cases h
  · cases h
theorem vrt_of (hρ : ∀ x, VR w Y φ (ra x) (ρ x)) : ∀ xs : List Operand, VRT w Y φ (xs.map ra) (xs.map ρ)
  | [] => by simp [VRT]
  | x :: xs => by simp only [List.map_cons, VRT]; exact ⟨_, _, rfl, hρ x, vrt_of hρ xs⟩
theorem g_makeFunc {fn : Fn} {first cs : Array Operand} {v : AV} {H' : Hp} (hρ : ∀ x, VR w (YOf X φ) φ (ra x) (ρ x)) (h : evPure C nid ra H (.makeFunc fn first cs) = some (v, H')) :
    H' = H ∧ ∃ u, (execOp ρ ⟨d, .makeFunc fn first cs, ty, pos, af, g⟩).run P w = .ok (.value u) w ∧ VR w (YOf X φ) φ v u := by
  obtain ⟨f, rfl⟩ : ∃ f, fn = .func f := by cases fn <;> first | exact ⟨_, rfl⟩ | cases h
  simp only [evPure] at h
  cases hf : first.isEmpty with
  | false => simp [hf] at h
  | true =>
    simp only [hf, cond_true] at h
    have hfe : first = #[] := Array.isEmpty_iff.1 hf
    subst hfe
    have hvs := vrt_of (w := w) (Y := YOf X φ) (φ := φ) hρ cs.toList
    have hmap : cs.map ρ = (cs.toList.map ρ).toArray := by rw [← List.map_toArray]
    split at h
    · rename_i hnil
      simp only [Option.some.injEq, Prod.mk.injEq] at h; obtain ⟨rfl, rfl⟩ := h
      have hcs : cs = #[] := by
        have : cs.toList = [] := List.map_eq_nil_iff.1 hnil
        exact Array.toList_eq_nil_iff.1 this
      subst hcs
      exact ⟨rfl, .func (.func f) #[] #[], x_makeFunc (by simp) (by simp), by simp only [VR, PR]⟩
    · simp only [Option.some.injEq, Prod.mk.injEq] at h; obtain ⟨rfl, rfl⟩ := h
      exact ⟨rfl, _, x_makeFunc (fs := #[]) (by simp) hmap, by simp only [VR]; exact ⟨_, rfl, hvs⟩⟩
end
end Go.Proofs.Ytelblamgfbkhbaa
namespace Go.Proofs.Ytelblamgfbkhbaa
set_option linter.unusedSimpArgs false
set_option linter.unusedVariables false
open Go.RowKit
section
variable {P : Program} {C : Cfg} {w w' : World} {Y X : Nat → Prop} {φ : Phi} {H : Hp}
variable {ρ : Operand → Value} {ra : Operand → AV} {d : Option Tmp} {ty : TypeId} {pos : String} {af : Array Edge} {g : Option (Nat × Bool)}
def optV : Option Nat → Option Value → Prop
  | none, none => True
  | some n, some v => ∃ k, v = .int k (n : Int)
  | _, _ => False
theorem optV_of (hρ : ∀ x, VR w Y φ (ra x) (ρ x)) {o : Option Operand} {n : Option Nat} (h : optNat (o.map ra) = some n) : optV n (o.map ρ) := by
  cases o with
  | none => simp [optNat] at h; subst h; trivial
  | some x =>
    have hx := hρ x
    simp only [Option.map_some] at h
    unfold optNat at h
    split at h
    · simp at *
    · rename_i k m heq
      simp only [Option.some.injEq] at heq
      simp only [Option.map_eq_some_iff] at h
      obtain ⟨q, hq, rfl⟩ := h
      rw [heq] at hx
      simp only [VR, PR] at hx
      exact ⟨k, by rw [hx, natOf_eq hq]⟩
    · cases h
theorem run_sliceBound {n y : Nat} {k : IntKind} {c : BoundsCode} (h : n ≤ y) : (Instr.sliceBound (.int k (n : Int)) y c).run P w = .ok n w := by
  have h0 : (0 : Int) ≤ n := by omega
  simp [Instr.sliceBound, asIntOf, h0, h]
theorem run_sliceBound0 {y : Nat} {k : IntKind} {c : BoundsCode} : (Instr.sliceBound (.int k 0) y c).run P w = .ok 0 w := run_sliceBound (n := 0) (Nat.zero_le y)
theorem run_bounds {isS : Bool} {len cap : Nat} {lo hi : Option Nat} {vl vh : Option Value} (hl : optV lo vl) (hh : optV hi vh) (h1 : lo.getD 0 ≤ hi.getD len) (h2 : hi.getD len ≤ cap) :
    (Instr.sliceBounds isS len cap vl vh none).run P w = .ok (lo.getD 0, hi.getD len, cap) w := by
  cases lo with
  | none =>
    cases vl with
    | some v => exact hl.elim
    | none =>
      cases hi with
      | none => cases vh with
        | some v => exact hh.elim
        | none => simp [Instr.sliceBounds]
      | some h => cases vh with
        | none => exact hh.elim
        | some v => obtain ⟨k, rfl⟩ := hh; simp only [Option.getD_some] at h2; simp [Instr.sliceBounds, run_sliceBound h2]
  | some l =>
    cases vl with
    | none => exact hl.elim
    | some v =>
      obtain ⟨k, rfl⟩ := hl
      cases hi with
      | none => cases vh with
        | some v => exact hh.elim
        | none => simp only [Option.getD_some, Option.getD_none] at h1; simp [Instr.sliceBounds, run_sliceBound h1]
      | some h => cases vh with
        | none => exact hh.elim
        | some v => obtain ⟨k', rfl⟩ := hh; simp only [Option.getD_some] at h1 h2; simp [Instr.sliceBounds, run_sliceBound h1, run_sliceBound h2]
theorem run_bounds3 {isS : Bool} {len cap m : Nat} {lo hi : Option Nat} {vl vh vm : Option Value} (hl : optV lo vl) (hh : optV hi vh) (hm : optV (some m) vm) (h1 : lo.getD 0 = m) (h2 : hi.getD (m + 1) = m) (h3 : m ≤ cap) :
    (Instr.sliceBounds isS len cap vl vh vm).run P w = .ok (m, m, m) w := by
  cases vm with
  | none => exact hm.elim
  | some v =>
    obtain ⟨k, rfl⟩ := hm
    cases hi with
    | none => simp at h2
    | some h =>
      cases vh with
      | none => exact hh.elim
      | some v =>
        obtain ⟨k', rfl⟩ := hh
        simp only [Option.getD_some] at h2; subst h2
        cases lo with
        | none =>
          cases vl with
          | some v => exact hl.elim
          | none => simp only [Option.getD_none] at h1; subst h1; simp [Instr.sliceBounds, run_sliceBound0]
        | some l =>
          cases vl with
          | none => exact hl.elim
          | some v =>
            obtain ⟨k'', rfl⟩ := hl
            simp only [Option.getD_some] at h1; subst h1
            simp [Instr.sliceBounds, run_sliceBound h3, run_sliceBound (Nat.le_refl _)]
theorem x_slice {t e : Nat} {te : TI} {x : Operand} {lo hi mx : Option Operand} {A : Option Addr} {len cap l h m : Nat} (ht : P.underlying t = some (.slice e)) (he : tyOKB P e te = true) (hx : ρ x = .slice A len cap)
    (hb : (Instr.sliceBounds true len cap (lo.map ρ) (hi.map ρ) (mx.map ρ)).run P w = .ok (l, h, m) w) :
    (execOp ρ ⟨d, .slice t x lo hi mx, ty, pos, af, g⟩).run P w = .ok (.value (.slice (if m = l then A else A.map (·.add (l * te.size))) (h - l) (m - l))) w := by
  have hs := run_size (w := w) he
  simp [execOp, hx, Instr.sliceAt, Instr.slice, run_underlying ht, hb, hs]
theorem x_sliceS {t : Nat} {x : Operand} {lo hi : Option Operand} {s : ByteArray} {l h m : Nat} (ht : P.underlying t = some .string) (hx : ρ x = .string s)
    (hb : (Instr.sliceBounds false s.size s.size (lo.map ρ) (hi.map ρ) none).run P w = .ok (l, h, m) w) :
    (execOp ρ ⟨d, .slice t x lo hi none, ty, pos, af, g⟩).run P w = .ok (.value (.string (s.extract l h))) w := by
  simp [execOp, hx, Instr.sliceAt, Instr.slice, run_underlying ht, hb]
theorem ble_t {a b : Nat} (h : Nat.ble a b = true) : a ≤ b := by simpa using h
theorem vw_ok {zz : Bool} {o off n m lc : Nat} {l : Loc} {lo hi : Option Nat} {a : AV} {A0 : Option Addr} (hl : φ o = .at zz l) (h : vwOf o off n m lo hi = some a) (hn : off + m ≤ l.n) (hc : lc + off = l.c) (hnc : l.n ≤ l.c) (hA : 0 < lc → A0 = l.addr off ∧ A0 ≠ none) :
    lo.getD 0 ≤ hi.getD n ∧ hi.getD n ≤ lc ∧ VR w Y φ a (.slice (if lc = lo.getD 0 then A0 else A0.map (·.add (lo.getD 0 * l.sz))) (hi.getD n - lo.getD 0) (lc - lo.getD 0)) := by
  unfold vwOf at h
  cases hb : (Nat.ble (lo.getD 0) (hi.getD n) && Nat.ble (hi.getD n) m) with
  | false => simp [hb] at h
  | true =>
    simp only [hb, cond_true, Option.some.injEq] at h; subst h
    rw [Bool.and_eq_true] at hb
    have h1 := ble_t hb.1
    have h2 := ble_t hb.2
    refine ⟨h1, by omega, ?_⟩
    simp only [VR]
    refine ⟨rfl, (by rw [hl]; intro k; cases k), fun _ l' hl' => ?_⟩
    rw [hl] at hl'; cases hl'
    refine ⟨_, _, rfl, by omega, by omega, fun hpos => ?_⟩
    rw [if_neg (by omega)]
    obtain ⟨h3, h4⟩ := hA (by omega)
    rw [h3] at h4 ⊢
    unfold Loc.addr at h4 ⊢
    cases hA' : l.A with
    | none => simp [hA'] at h4
    | some a =>
      simp only [Option.map_some, Addr.add_mid]
      exact ⟨by rw [Nat.add_mul, Nat.add_assoc], by simp⟩
theorem g_slice {t : Nat} {x : Operand} {lo hi mx : Option Operand} {v : AV} (hC : CfgOK P C) (hH : HR X φ H w) (hρ : ∀ x, VR w (YOf X φ) φ (ra x) (ρ x)) (h : evSlice C H t (ra x) (lo.map ra) (hi.map ra) (mx.map ra) = some v) :
    ∃ u, (execOp ρ ⟨d, .slice t x lo hi mx, ty, pos, af, g⟩).run P w = .ok (.value u) w ∧ VR w (YOf X φ) φ v u := by
  unfold evSlice at h
  have hx := hρ x
  split at h
  · rename_i ti lo' hi' mx' hti hlo hhi hmx
    have vlo := optV_of hρ hlo
    have vhi := optV_of hρ hhi
    have vmx := optV_of hρ hmx
    have mxn : mx' = none → mx.map ρ = none := fun e => by
      subst e
      cases hm : mx with
      | none => rfl
      | some q => rw [hm] at vmx; exact vmx.elim
    split at h
    · rename_i hk
      split at h
      · rename_i s hv
        rw [hv] at hx
        simp only [VR, PR] at hx
        have hmn := mxn rfl
        have : mx = none := by cases mx <;> simp_all
        subst this
        cases hb : (Nat.ble (lo'.getD 0) (hi'.getD s.size) && Nat.ble (hi'.getD s.size) s.size) with
        | false => simp [hb] at h
        | true =>
          simp only [hb, cond_true, Option.some.injEq] at h; subst h
          rw [Bool.and_eq_true] at hb
          refine ⟨_, x_sliceS (und_str (hC.ty t ti hti) hk) hx (run_bounds vlo vhi (ble_t hb.1) (ble_t hb.2)), ?_⟩
          simp only [VR, PR]
          congr 1
          apply bytes_eq
          rw [ByteArray.data_extract]
          simp [List.drop_take]
      · cases h
    · rename_i e hk
      have hu := und_sl (hC.ty t ti hti) hk
      split at h
      · cases h
      · rename_i te hte
        have hE := hC.ty e te hte
        split at h
        · rename_i sz es hv
          cases hb : (Nat.beq (lo'.getD 0) 0 && Nat.beq (hi'.getD 0) 0) with
          | false => simp [hb] at h
          | true =>
            simp only [hb, cond_true, Option.some.injEq] at h; subst h
            rw [Bool.and_eq_true, Nat.beq_eq, Nat.beq_eq] at hb
            rw [hv] at hx
            simp only [VR, PR, flOk] at hx
            obtain ⟨A, c, he, h1, h2, ⟨rfl, rfl⟩, h3⟩ := hx
            have hl0 : es.length = 0 := by omega
            rw [hl0] at he
            have hmn := mxn rfl
            refine ⟨_, x_slice hu hE he (by rw [hmn]; exact run_bounds vlo vhi (by omega) (by omega)), ?_⟩
            simp only [VR, PR, flOk]
            refine ⟨none, 0, ?_, by omega, by simp [maxLen], ⟨rfl, rfl⟩, .inl hl0⟩
            rw [hb.1, hb.2, hl0]; simp
        · rename_i sz es m hv
          cases hb : (Nat.beq (lo'.getD 0) 0 && Nat.beq (hi'.getD 1) 0 && Nat.beq m 0) with
          | false => simp [hb] at h
          | true =>
            simp only [hb, cond_true, Option.some.injEq] at h; subst h
            rw [Bool.and_eq_true, Bool.and_eq_true, Nat.beq_eq, Nat.beq_eq, Nat.beq_eq] at hb
            obtain ⟨⟨hb1, hb2⟩, rfl⟩ := hb
            rw [hv] at hx
            simp only [VR, PR, flOk] at hx
            obtain ⟨A, c, he, h1, h2, ⟨rfl, rfl⟩, h3⟩ := hx
            have hl0 : es.length = 0 := by omega
            rw [hl0] at he
            refine ⟨_, x_slice hu hE he (run_bounds3 vlo vhi vmx hb1 hb2 (Nat.le_refl _)), ?_⟩
            simp only [VR, PR, flOk]
            refine ⟨none, 0, ?_, by omega, by simp [maxLen], ⟨rfl, rfl⟩, .inl hl0⟩
            rw [hl0]; simp
        · rename_i f sz es _ hv
          cases hsz : Nat.beq sz te.size with
          | false => simp [hsz] at h
          | true =>
            rw [Nat.beq_eq] at hsz; subst hsz
            cases hb : (Nat.ble (lo'.getD 0) (hi'.getD es.length) && Nat.ble (hi'.getD es.length) es.length) with
            | false => simp [hb] at h
            | true =>
              simp [hb] at h; subst h
              rw [Bool.and_eq_true] at hb
              have hb1 := ble_t hb.1
              have hb2 := ble_t hb.2
              rw [hv] at hx
              simp only [VR, PR] at hx
              obtain ⟨A, c, he, h1, h2, _, h3⟩ := hx
              have hmn := mxn rfl
              refine ⟨_, x_slice hu hE he (by rw [hmn]; exact run_bounds vlo vhi hb1 (by omega)), ?_⟩
              simp only [VR, PR]
              have hlen : ((takeO hi' es).drop (lo'.getD 0)).length = hi'.getD es.length - lo'.getD 0 := by
                cases hi' with
                | none => simp [takeO]
                | some q => simp [takeO] at hb2 ⊢; omega
              refine ⟨_, c - lo'.getD 0, by rw [hlen], by omega, by omega, trivial, ?_⟩
              rw [hlen]
              rcases Nat.eq_zero_or_pos (hi'.getD es.length - lo'.getD 0) with h0 | hpos
              · exact .inl h0
              · rcases h3 with h3 | ⟨b, o, rfl, hY, hlt, hPE⟩
                · omega
                · right
                  rw [if_neg (by omega)]
                  refine ⟨b, o + lo'.getD 0 * te.size, by simp [Addr.add_mid], hY, hlt, PRE.drop ?_ _⟩
                  cases hi' with
                  | none => exact hPE
                  | some q => exact hPE.take q
        · rename_i f sz es m _ hv
          cases hb : (Nat.beq (lo'.getD 0) m && Nat.beq (hi'.getD (m + 1)) m && Nat.ble m es.length) with
          | false => simp [hb] at h
          | true =>
            simp only [hb, cond_true, Option.some.injEq] at h; subst h
            rw [Bool.and_eq_true, Bool.and_eq_true, Nat.beq_eq, Nat.beq_eq] at hb
            obtain ⟨⟨hb1, hb2⟩, hb3⟩ := hb
            have hb3 := ble_t hb3
            rw [hv] at hx
            simp only [VR, PR] at hx
            obtain ⟨A, c, he, h1, h2, _, h3⟩ := hx
            refine ⟨_, x_slice hu hE he (run_bounds3 vlo vhi vmx hb1 hb2 (by omega)), ?_⟩
            simp only [VR, PR, flOk]
            exact ⟨A, 0, by simp, by simp, by simp [maxLen], rfl, .inl rfl⟩
        · rename_i o hv
          split at h
          · rename_i fz sz es ho
            cases hsz : Nat.beq sz te.size with
            | false => simp [hsz] at h
            | true =>
              simp only [hsz, cond_true] at h
              rw [Nat.beq_eq] at hsz; subst hsz
              obtain ⟨z, l, hl, hO⟩ := hH.ob _ _ ho
              rw [hv] at hx
              simp only [VR] at hx
              have he := hx.2.2 _ l hl
              simp only [OR] at hO
              obtain ⟨hz, h1, h2, h3, h4, h5⟩ := hO
              have hmn := mxn rfl
              obtain ⟨k1, k2, k3⟩ := vw_ok (w := w) (Y := YOf X φ) (A0 := l.addr 0) (lc := l.c) hl h (by omega) (by omega) h3 (fun hc => ⟨rfl, by
                rcases h5 with ⟨_, h6⟩ | ⟨b, p, t, cs, hAl, _⟩
                · omega
                · simp [Loc.addr, hAl]⟩)
              rw [h1] at he
              refine ⟨_, x_slice hu hE he (by rw [hmn]; exact run_bounds vlo vhi k1 (by omega)), ?_⟩
              rw [← h2]; exact k3
          · cases h
        · rename_i o m hv
          split at h
          · rename_i fz sz es ho
            cases hb : (Nat.beq (lo'.getD 0) m && Nat.beq (hi'.getD (m + 1)) m && Nat.ble m es.length) with
            | false => simp [hb] at h
            | true =>
              simp only [hb, cond_true, Option.some.injEq] at h; subst h
              rw [Bool.and_eq_true, Bool.and_eq_true, Nat.beq_eq, Nat.beq_eq] at hb
              obtain ⟨⟨hb1, hb2⟩, hb3⟩ := hb
              have hb3 := ble_t hb3
              obtain ⟨z, l, hl, hO⟩ := hH.ob _ _ ho
              rw [hv] at hx
              simp only [VR] at hx
              have he := hx.2.2 _ l hl
              simp only [OR] at hO
              obtain ⟨hz, h1, h2, h3, h4, h5⟩ := hO
              refine ⟨_, x_slice hu hE he (run_bounds3 vlo vhi vmx hb1 hb2 (by omega)), ?_⟩
              simp only [VR, PR, flOk]
              exact ⟨l.addr 0, 0, by simp, by simp, by simp [maxLen], rfl, .inl rfl⟩
          · cases h
        · rename_i o off len hv
          split at h
          · rename_i fz sz es ho
            cases hsz : (Nat.beq sz te.size && Nat.ble off es.length) with
            | false => simp [hsz] at h
            | true =>
              simp only [hsz, cond_true] at h
              rw [Bool.and_eq_true, Nat.beq_eq] at hsz
              obtain ⟨hsz, hoff⟩ := hsz
              have hoff := ble_t hoff
              subst hsz
              obtain ⟨z, l, hl, hO⟩ := hH.ob _ _ ho
              rw [hv] at hx
              simp only [VR] at hx
              obtain ⟨A, c, he, hle, hc, hA⟩ := hx.2.2 _ l hl
              simp only [OR] at hO
              obtain ⟨hz, h1, h2, h3, h4, h5⟩ := hO
              have hmn := mxn rfl
              obtain ⟨k1, k2, k3⟩ := vw_ok (w := w) (Y := YOf X φ) hl h (by omega) hc h3 hA
              refine ⟨_, x_slice hu hE he (by rw [hmn]; exact run_bounds vlo vhi k1 k2), ?_⟩
              rw [← h2]; exact k3
          · cases h
        · cases h
    · cases h
  · cases h
end
end Go.Proofs.Ytelblamgfbkhbaa
namespace Go.Proofs.Ytelblamgfbkhbaa
set_option linter.unusedSimpArgs false
set_option linter.unusedVariables false
open Go.RowKit
section
variable {P : Program} {C : Cfg} {w w' : World} {Y X : Nat → Prop} {φ : Phi} {H : Hp}
variable {ρ : Operand → Value} {ra : Operand → AV} {d : Option Tmp} {ty : TypeId} {pos : String} {af : Array Edge} {g : Option (Nat × Bool)}
theorem x_bi {b : Builtin} {args : Array Operand} {ts : Array TypeId} {v : Value} {f : Array TypeId → TypeId → Array Value → Sem Value} (hb : ∀ ts ty cs args, builtin b ts ty cs args = (do pure (.value (← f ts ty args)))) (h : (f ts ty (args.map ρ)).run P w = .ok v w') :
    (execOp ρ ⟨d, .call { callee := .builtin b, args := args, argTypes := ts }, ty, pos, af, g⟩).run P w = .ok (.value v) w' := by
  simp [execOp, resolve, invoke, hb, h]
theorem MR.length : ∀ {i : Nat} {kvs : List (PV × PV)} {es : List MapEntry}, MR w Y i kvs es → es.length = kvs.length
  | _, [], es, h => by simp only [MR] at h; subst h; rfl
  | i, (k, x) :: r, es, h => by
    simp only [MR] at h
    obtain ⟨e, es', rfl, _, _, _, hr⟩ := h
    simp [MR.length hr]
theorem elems_ok (hH : HR X φ H w) {a : AV} {sz : Nat} {es : List (List PV)} {v : Value} (h : elems H a = some (sz, es)) (hv : VR w (YOf X φ) φ a v) :
    ∃ A c, v = .slice A es.length c ∧ es.length ≤ c ∧ c ≤ maxLen ∧ (es.length = 0 ∨ ∃ b o, A = some ⟨b, o, none⟩ ∧ PRE w (YOf X φ) b sz o es) := by
  unfold elems at h
  split at h
  · simp only [Option.some.injEq, Prod.mk.injEq] at h; obtain ⟨rfl, rfl⟩ := h
    simp only [VR, PR] at hv
    obtain ⟨A, c, rfl, h1, h2, _, h3⟩ := hv
    exact ⟨A, c, rfl, h1, h2, h3.imp id fun ⟨b, o, hA, _, _, hE⟩ => ⟨b, o, hA, hE⟩⟩
  · split at h
    · rename_i fz sz es ho
      simp only [Option.some.injEq, Prod.mk.injEq] at h; obtain ⟨rfl, rfl⟩ := h
      obtain ⟨z, l, hl, hO⟩ := hH.ob _ _ ho
      simp only [VR] at hv
      have he := hv.2.2 _ l hl
      simp only [OR] at hO
      obtain ⟨hz, h1, h2, h3, h4, h5⟩ := hO
      rw [h1] at he
      refine ⟨_, _, he, by omega, h4, ?_⟩
      rcases h5 with ⟨_, h6⟩ | ⟨b, p, t, cs, hA, _, _, hE, _⟩
      · exact .inl (by omega)
      · exact .inr ⟨b, p, by simp [Loc.addr, hA], hE⟩
    · cases h
  · rename_i o off len
    split at h
    · rename_i fz sz es ho
      cases hb : Nat.ble (off + len) es.length with
      | false => simp [hb] at h
      | true =>
        simp only [hb, cond_true, Option.some.injEq, Prod.mk.injEq] at h; obtain ⟨rfl, rfl⟩ := h
        have hb := ble_t hb
        obtain ⟨z, l, hl, hO⟩ := hH.ob _ _ ho
        simp only [VR] at hv
        obtain ⟨A, c, he, hle, hc, hA0⟩ := hv.2.2 _ l hl
        simp only [OR] at hO
        obtain ⟨hz, h1, h2, h3, h4, h5⟩ := hO
        have hlen : ((es.drop off).take len).length = len := by simp; omega
        refine ⟨A, c, by rw [hlen]; exact he, by rw [hlen]; omega, by omega, ?_⟩
        rw [hlen]
        rcases Nat.eq_zero_or_pos len with h0 | hpos
        · exact .inl h0
        · rcases h5 with ⟨_, h6⟩ | ⟨b, p, t, cs, hA, _, _, hE, _⟩
          · omega
          · obtain ⟨hA1, _⟩ := hA0 (by omega)
            exact .inr ⟨b, p + off * sz, by rw [hA1]; simp [Loc.addr, hA, h2], (hE.drop off).take len⟩
    · cases h
  · cases h
theorem g_len {t n : Nat} {x : Operand} {a : AV} (hC : CfgOK P C) (hH : HR X φ H w) (h : lenA C H t a = some n) (hx : VR w (YOf X φ) φ a (ρ x)) :
    (execOp ρ ⟨d, .call { callee := .builtin .len, args := #[x], argTypes := #[t] }, ty, pos, af, g⟩).run P w = .ok (.value (.int .i64 (n : Int))) w := by
  have key : ∀ v, (Builtin.len_ #[t] ty #[ρ x]).run P w = .ok v w → (execOp ρ ⟨d, .call { callee := .builtin .len, args := #[x], argTypes := #[t] }, ty, pos, af, g⟩).run P w = .ok (.value v) w := fun v hv =>
    x_bi (f := Builtin.len_) (fun _ _ _ _ => rfl) (by simpa using hv)
  refine key _ ?_
  unfold lenA at h
  cases hti : C.ty t with
  | none => simp [hti] at h
  | some ti =>
    simp only [hti] at h
    have hT := hC.ty t ti hti
    split at h
    · rename_i hk
      split at h
      · simp only [Option.some.injEq] at h; subst h
        simp only [VR, PR] at hx
        simp [Builtin.len_, hx, run_underlying (und_str hT hk), goInt]
      · cases h
    · rename_i k e hk
      split at h
      · simp only [Option.some.injEq] at h; subst h
        simp only [VR, PR] at hx
        simp [Builtin.len_, hx, run_underlying (und_map hT hk), goInt]
      · split at h
        · rename_i kvs ho
          simp only [Option.some.injEq] at h; subst h
          obtain ⟨z, l, hl, hO⟩ := hH.ob _ _ ho
          simp only [VR] at hx
          obtain ⟨b, hA, hv⟩ := hx.2.2 _ l hl
          simp only [OR] at hO
          obtain ⟨_, b', es, hA', hg, hm⟩ := hO
          rw [hA] at hA'; cases hA'
          have := hm.length
          simp at this
          simp [Builtin.len_, hv, run_underlying (und_map hT hk), goInt, getObj, Sem.run, hg, this]
        · cases h
      · cases h
    · rename_i e hk
      split at h
      · simp only [Option.some.injEq] at h; subst h
        simp only [VR, PR] at hx
        obtain ⟨A, c, hv, _⟩ := hx
        simp [Builtin.len_, hv, run_underlying (und_sl hT hk), goInt]
      · split at h
        · rename_i fz sz es ho
          simp only [Option.some.injEq] at h; subst h
          obtain ⟨z, l, hl, hO⟩ := hH.ob _ _ ho
          simp only [VR] at hx
          have hv := hx.2.2 _ l hl
          simp only [OR] at hO
          rw [hO.2.1] at hv
          simp [Builtin.len_, hv, run_underlying (und_sl hT hk), goInt]
        · cases h
      · rename_i o off len
        cases ha : alive H o with
        | false => simp [ha] at h
        | true =>
          simp only [ha, cond_true, Option.some.injEq] at h; subst h
          obtain ⟨_, l, hl⟩ := alive_live hH ha
          simp only [VR] at hx
          obtain ⟨A, c, hv, _⟩ := hx.2.2 _ l hl
          simp [Builtin.len_, hv, run_underlying (und_sl hT hk), goInt]
      · cases h
    · rename_i m e hk
      simp only [Option.some.injEq] at h; subst h
      simp [Builtin.len_, run_underlying (und_arr hT hk), goInt]
    · cases h
theorem g_minmax {b : Bool} {args : Array Operand} {ts : Array TypeId} {v : AV} (hρ : ∀ x, VR w (YOf X φ) φ (ra x) (ρ x)) (h : (if b then minI (args.toList.map ra) else maxI (args.toList.map ra)) = some v) :
    ∃ u, (execOp ρ ⟨d, .call { callee := .builtin (if b then .min else .max), args := args, argTypes := ts }, ty, pos, af, g⟩).run P w = .ok (.value u) w ∧ VR w (YOf X φ) φ v u := by
  rcases args with ⟨l⟩
  simp only at h
  match l, h with
  | [], h => cases b <;> simp [minI, maxI] at h
  | [x], h => cases b <;> simp [minI, maxI] at h
  | x :: y :: z :: l, h => cases b <;> simp [minI, maxI] at h
  | [x, y], h =>
    have hx := hρ x
    have hy := hρ y
    simp only [List.map_cons, List.map_nil] at h
    cases b
    · simp only [Bool.false_eq_true, if_false] at h ⊢
      unfold maxI at h
      split at h
      · rename_i k a k' c heq
        simp only [List.cons.injEq, and_true] at heq
        rw [heq.1] at hx; rw [heq.2] at hy
        simp only [VR, PR] at hx hy
        simp only [Option.some.injEq] at h; subst h
        refine ⟨.int k (if c > a then c else a), x_bi (f := Builtin.max_) (fun _ _ _ _ => rfl) ?_, ?_⟩
        · simp [Builtin.max_, hx, hy, Builtin.max2]
        · simp only [VR, PR]
          by_cases hc : a < c <;> simp [hc]
      · cases h
    · simp only [if_true] at h ⊢
      unfold minI at h
      split at h
      · rename_i k a k' c heq
        simp only [List.cons.injEq, and_true] at heq
        rw [heq.1] at hx; rw [heq.2] at hy
        simp only [VR, PR] at hx hy
        simp only [Option.some.injEq] at h; subst h
        refine ⟨.int k (if c < a then c else a), x_bi (f := Builtin.min_) (fun _ _ _ _ => rfl) ?_, ?_⟩
        · simp [Builtin.min_, hx, hy, Builtin.min2]
        · simp only [VR, PR]
          by_cases hc : c < a <;> simp [hc]
      · cases h
end
end Go.Proofs.Ytelblamgfbkhbaa
