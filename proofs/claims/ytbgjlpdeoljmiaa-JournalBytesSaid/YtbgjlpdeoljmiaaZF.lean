/- Several texts in one. No condition. -/
import Derived.Test.YtbgjlpdeoljmiaaZB
import Derived.Test.YtbgjlpdeoljmiaaZK
namespace Go.Proofs.Ytbgjlpdeoljmiaa
set_option linter.unusedSimpArgs false
set_option linter.unusedVariables false
open Go.RowKit

def litOK:PV→Value→Bool
 | .int k n,.int k' m=>kindEq k k'&&decide (n=m)
 | .bool b,.bool c=>b == c
 | .str s,.string t=>decide (s.data.toList=t.data.toList)
 | .nilf,.nilFunc=>true
 | .nilp,.pointer none=>true
 | .nilm,.map none=>true
 | .nili,.nilIface=>true
 | .sl .nil _ [],.slice none 0 0=>true
 | _,_=>false
def litsOK:List PV→List Value→Bool
 | [],[]=>true
 | p::ps,v::vs=>litOK p v&&litsOK ps vs
 | _,_=>false
def Qbe:List (Nat×Nat)→List Field→Bool
 | [],[]=>true
 | (t, o) :: fs, f :: gs => Nat.beq t f.type && Nat.beq o f.offset && f.name != "_" && Qbe fs gs
 | _,_=>false
def kindOK:TK→TypeDesc→Bool
 | .int k,.int k'=>kindEq k k'
 | .bool,.bool=>true
 | .str,.string=>true
 | .ptr e,.pointer e'=>Nat.beq e e'
 | .sl e,.slice e'=>Nat.beq e e'
 | .arr n e,.array n' e'=>Nat.beq n n'&&Nat.beq e e'
 | .map k e,.map k' e'=>Nat.beq k k'&&Nat.beq e e'
 | .struct fs,.struct gs=>Qbe fs gs.toList
 | .func,.func _ _ _=>true
 | .ifc,.interface _=>true
 | _,_=>false
def Qcn(P:Program)(t:Nat)(ti:TI):Bool :=
 (match P.info? t with
  | some i=>Nat.beq i.size ti.size&&Nat.beq i.bytes ti.bytes&&(match i.zero with | some z=>litsOK ti.zero z.cells.toList&&(match z with | .agg _=>ti.k.row | _=>!ti.k.row) | none=>false)&&Nat.beq ti.zero.length ti.size
  | none=>false) &&
 (match P.underlying t with
  | some u=>kindOK ti.k u&&(match u with | .struct _=>!(P.stoodInHeld t)&&!(P.eqGuardType P.depth t) | _=>true)
  | none=>false)
def chkL(ops:Array Oper)(m:Nat):List (Nat×Nat)→List It→Nat→Nat→List It→Bool
 | _,_,_,k,[]=>Nat.ble k m
 | tbl, prev, done, k, x :: L => Nat.beq x.anc (ancOf x.need tbl) && Nat.beq (Nat.land x.need done) x.need && !(bit done x.i) && Nat.beq x.nid k &&
  prev.all (fun y=>bit x.anc y.i||Oper.apart ops y.o x.o)&&chkL ops m ((x.i,x.anc)::tbl) (x::prev) (orBit done x.i) (bif Qcz x.o.op then k+1 else k) L
def planOK(ops:List Oper):Bool:=match plan ops.length 0 0 [] (items 0 ops) with | some L=>chkL ops.toArray (countNew ops) [] [] 0 0 L | none=>true
def codeOK:Code→Bool
 | .region _ ops true=>planOK ops.toList
 | .seq a b=>codeOK a&&codeOK b
 | .cond _ a b=>codeOK a&&codeOK b
 | .block _ a=>codeOK a
 | .loop a=>codeOK a
 | _=>true
structure Qad (P:Program) (C:Cfg):Prop where
 ty:∀t ti,C.ty t=some ti→Qcn P t ti=true
 fn:∀k f,C.fn k=some f→P.funcs[k]?=some f
 name : ∀ k f, C.fn k = some f → (f.name == "runtime.NumGoroutine") = false
 code:∀k f c,C.fn k=some f→f.body=some c→codeOK c=true
 mixed:P.follows .mixedOrders=true
 noext:∀k,C.ext k=none

theorem kindEq_eq{a b:IntKind}(h:kindEq a b=true):a=b:=by cases a<;>cases b<;>simp_all [kindEq]
theorem kindEq_refl(a:IntKind):kindEq a a=true:=by cases a<;>rfl
theorem bytes_eq{a b:ByteArray}(h:a.data.toList=b.data.toList):a=b:=by
 cases a; cases b; simp at h; rw [h]

section
variable {P:Program} {C:Cfg} {w:World} {Y:Nat→Prop}
theorem litOK_pr{p:PV}{v:Value}(h:litOK p v=true):oneP p=true∧∀(w:World)(Y:Nat→Prop),PR w Y p v:=by
 unfold litOK at h
 split at h
 ·simp at h; obtain ⟨h1,h2⟩:=h; cases kindEq_eq h1; subst h2; exact ⟨rfl,fun _ _=>by simp only [PR]⟩
 ·simp at h; subst h; exact ⟨rfl,fun _ _=>by simp only [PR]⟩
 ·simp only [decide_eq_true_eq] at h; cases bytes_eq h; exact ⟨rfl,fun _ _=>by simp only [PR]⟩
 ·exact ⟨rfl,fun _ _=>by simp only [PR]⟩
 ·exact ⟨rfl,fun _ _=>by simp only [PR]⟩
 ·exact ⟨rfl,fun _ _=>by simp only [PR]⟩
 ·exact ⟨rfl,fun _ _=>by simp only [PR]⟩
 ·exact ⟨rfl,fun _ _=>by simp only [PR]; exact ⟨none,0,rfl,by simp,by simp [maxLen],⟨rfl,rfl⟩,.inl rfl⟩⟩
 ·cases h
theorem litsOK_prl:∀{ps:List PV} {vs:List Value},litsOK ps vs=true→∀(w:World)(Y:Nat→Prop),PRL w Y ps vs
 | [],[],_,_,_=>by simp only [PRL]
 | p::ps,v::vs,h,w,Y=>by
  simp only [litsOK,Bool.and_eq_true] at h;simp only [PRL];exact ⟨v,vs,rfl,(litOK_pr h.1).1,(litOK_pr h.1).2 w Y,litsOK_prl h.2 w Y⟩
 | [],_::_,h,_,_=>by simp [litsOK] at h
 | _::_,[],h,_,_=>by simp [litsOK] at h
theorem Qbm{t:Nat}{ti:TI}(h:Qcn P t ti=true):∃i z,P.info? t=some i∧i.size=ti.size∧i.bytes=ti.bytes∧i.zero=some z∧∀(w:World)(Y:Nat→Prop),PRL w Y ti.zero z.cells.toList:=by
 unfold Qcn at h;rw [Bool.and_eq_true] at h;obtain ⟨h,_⟩:=h;cases hi:P.info? t with
 | none=>simp [hi] at h
 | some i =>
  cases hz:i.zero with
  | none=>simp [hi,hz] at h
  | some z =>
   simp only [hi,hz,Bool.and_eq_true,Nat.beq_eq] at h;exact ⟨i,z,rfl,h.1.1.1,h.1.1.2,hz,litsOK_prl h.1.2.1⟩
theorem tyOK_zero{t:Nat}{ti:TI}(h:Qcn P t ti=true):∃i z,P.info? t=some i∧i.zero=some z∧(ti.k.row=true→∃vs,z = .agg vs.toArray∧∀(w:World)(Y:Nat→Prop),PRL w Y ti.zero vs)∧(ti.k.row=false→∀(w:World)(Y:Nat→Prop),PRL w Y ti.zero [z]):=by
 unfold Qcn at h;rw [Bool.and_eq_true] at h;obtain ⟨h,_⟩:=h;cases hi:P.info? t with
 | none=>simp [hi] at h
 | some i =>
  cases hz:i.zero with
  | none=>simp [hi,hz] at h
  | some z =>
   simp only [hi,hz,Bool.and_eq_true,Nat.beq_eq] at h;refine ⟨i,z,rfl,hz,fun hr=>?_,fun hr=>?_⟩
   ·cases z<;>first | (simp [hr] at h; done) | skip
    rename_i cs;exact ⟨cs.toList,rfl,litsOK_prl h.1.2.1⟩
   ·have hp:=litsOK_prl h.1.2.1;cases z<;>first | exact hp | skip
    simp [hr] at h
theorem tyOK_len{t:Nat}{ti:TI}(h:Qcn P t ti=true):ti.zero.length=ti.size:=by
 unfold Qcn at h;rw [Bool.and_eq_true] at h;obtain ⟨h,_⟩:=h;cases hi:P.info? t with
 | none=>simp [hi] at h
 | some i=>simp only [hi,Bool.and_eq_true,Nat.beq_eq] at h; exact h.2
theorem Qci{t:Nat}{ti:TI}(h:Qcn P t ti=true):∃u,P.underlying t=some u∧kindOK ti.k u=true:=by
 unfold Qcn at h;rw [Bool.and_eq_true] at h;obtain ⟨_,h⟩:=h;cases hu:P.underlying t with
 | none=>simp [hu] at h
 | some u=>simp only [hu,Bool.and_eq_true] at h; exact ⟨u,rfl,h.1⟩
theorem tyOK_held{t:Nat}{ti:TI}{fs:Array Field}(h:Qcn P t ti=true)(hu:P.underlying t=some (.struct fs)):P.stoodInHeld t=false:=by
 unfold Qcn at h;rw [Bool.and_eq_true] at h;obtain ⟨_,h⟩:=h;simp only [hu,Bool.and_eq_true] at h;simpa using h.2.1
theorem tyOK_guard{t:Nat}{ti:TI}{fs:Array Field}(h:Qcn P t ti=true)(hu:P.underlying t=some (.struct fs)):P.eqGuardType P.depth t=false:=by
 unfold Qcn at h;rw [Bool.and_eq_true] at h;obtain ⟨_,h⟩:=h;simp only [hu,Bool.and_eq_true] at h;simpa using h.2.2
theorem und_int{t:Nat}{ti:TI}{k:IntKind}(h:Qcn P t ti=true)(hk:ti.k = .int k):P.underlying t=some (.int k):=by
 obtain ⟨u,hu,hq⟩:=Qci h;rw [hk] at hq; cases u<;>simp [kindOK] at hq; cases kindEq_eq hq; exact hu
theorem und_bool{t:Nat}{ti:TI}(h:Qcn P t ti=true)(hk:ti.k = .bool):P.underlying t=some .bool:=by
 obtain ⟨u,hu,hq⟩:=Qci h;rw [hk] at hq; cases u<;>simp [kindOK] at hq; exact hu
theorem und_str{t:Nat}{ti:TI}(h:Qcn P t ti=true)(hk:ti.k = .str):P.underlying t=some .string:=by
 obtain ⟨u,hu,hq⟩:=Qci h;rw [hk] at hq; cases u<;>simp [kindOK] at hq; exact hu
theorem Qct{t e:Nat}{ti:TI}(h:Qcn P t ti=true)(hk:ti.k = .sl e):P.underlying t=some (.slice e):=by
 obtain ⟨u,hu,hq⟩:=Qci h;rw [hk] at hq; cases u<;>simp [kindOK] at hq; subst hq; exact hu
theorem und_arr{t n e:Nat}{ti:TI}(h:Qcn P t ti=true)(hk:ti.k = .arr n e):P.underlying t=some (.array n e):=by
 obtain ⟨u,hu,hq⟩:=Qci h;rw [hk] at hq; cases u<;>simp [kindOK] at hq; obtain ⟨rfl,rfl⟩:=hq; exact hu
theorem und_map{t n e:Nat}{ti:TI}(h:Qcn P t ti=true)(hk:ti.k = .map n e):P.underlying t=some (.map n e):=by
 obtain ⟨u,hu,hq⟩:=Qci h;rw [hk] at hq; cases u<;>simp [kindOK] at hq; obtain ⟨rfl,rfl⟩:=hq; exact hu
theorem Qcq{t:Nat}{ti:TI}{fs:List (Nat×Nat)}(h:Qcn P t ti=true)(hk:ti.k = .struct fs):∃gs,P.underlying t=some (.struct gs)∧Qbe fs gs.toList=true:=by
 obtain ⟨u,hu,hq⟩:=Qci h;rw [hk] at hq; cases u<;>simp [kindOK] at hq; exact ⟨_,hu,hq⟩
theorem und_row{t:Nat}{ti:TI}(h:Qcn P t ti=true):∃u,P.underlying t=some u∧u.isRow=ti.k.row:=by
 obtain ⟨u,hu,hq⟩:=Qci h;refine ⟨u,hu,?_⟩;cases hk:ti.k<;>rw [hk] at hq<;>cases u<;>simp_all [kindOK,TypeDesc.isRow,TK.row]
theorem fieldsOK_at : ∀ {fs : List (Nat × Nat)} {gs : List Field}, Qbe fs gs = true → ∀ {i t o : Nat}, fs[i]? = some (t, o) → ∃ g, gs[i]? = some g ∧ g.type = t ∧ g.offset = o ∧ (g.name ≠ "_")
 | [],_,_,i,t,o,h=>by simp at h
 | (t',o')::fs,g::gs,hf,i,t,o,h=>by
  simp only [Qbe,Bool.and_eq_true,Nat.beq_eq] at hf;cases i with
  | zero=>simp at h; obtain ⟨rfl,rfl⟩:=h; exact ⟨g,by simp,hf.1.1.1.symm,hf.1.1.2.symm,by simpa using hf.1.2⟩
  | succ i=>simp at h; simpa using fieldsOK_at hf.2 h
 | _::_,[],hf,_,_,_,_=>by simp [Qbe] at hf
theorem run_size{t:Nat}{ti:TI}(h:Qcn P t ti=true):(sizeOf t).run P w = .ok ti.size w:=by
 obtain ⟨i,z,hi,hs,_⟩:=Qbm h;simp [sizeOf,typeInfo,hi,hs]


def Good(nid:Nat)(H:Hp)(X:Nat→Prop)(φ:Phi)(w:World)(v:AV)(H':Hp)(r:Result Next):Prop :=
 ∃nx v' w' φ',r = .ok nx w'∧(nx = .value v'∨(nx = .skip∧v'=undef))∧VR w' (YOf X φ') φ' v v'∧HR X φ' H' w'∧Ev φ w φ' w'∧H.length≤H'.length∧∀k,k≠nid→φ k = .fresh→φ' k = .fresh
variable {X:Nat→Prop} {φ:Phi} {H:Hp}
theorem Qcj{nid:Nat}{v:AV}{v':Value}{r:Result Next}(hr:r = .ok (.value v') w)(hv:VR w (YOf X φ) φ v v')(hH:HR X φ H w):Good nid H X φ w v H r :=
 ⟨_,v',w,φ,hr,.inl rfl,hv,hH,Ev.refl _ _,Nat.le_refl _,fun _ _ h=>h⟩

variable {ρ:Operand→Value} {d:Option Tmp} {ty:TypeId} {pos:String} {af:Array Edge} {g:Option (Nat×Bool)}
theorem x_quo{t t':TypeId}{k:IntKind}{x y:Operand}{p q:Int}(hx:ρ x = .int k p)(hy:ρ y = .int k q)(hq:q≠0):(execOp ρ ⟨d,.binOp .quo t x y t',ty,pos,af,g⟩).run P w = .ok (.value (.int k (k.wrap (p.tdiv q)))) w:=by
 simp [execOp,hx,hy,eqGuard,binOp,Op.intDiv,hq]
theorem x_rem{t t':TypeId}{k:IntKind}{x y:Operand}{p q:Int}(hx:ρ x = .int k p)(hy:ρ y = .int k q)(hq:q≠0):(execOp ρ ⟨d,.binOp .rem t x y t',ty,pos,af,g⟩).run P w = .ok (.value (.int k (p.tmod q))) w:=by
 simp [execOp,hx,hy,eqGuard,binOp,Op.intDiv,hq]
theorem x_and{t t':TypeId}{k:IntKind}{x y:Operand}{p q:Int}(hx:ρ x = .int k p)(hy:ρ y = .int k q):(execOp ρ ⟨d,.binOp .and t x y t',ty,pos,af,g⟩).run P w = .ok (.value (.int k (k.wrap (BitVec.ofInt k.bits p &&& BitVec.ofInt k.bits q).toNat))) w:=by
 simp [execOp,hx,hy,eqGuard,binOp,Op.intBits]
theorem x_or{t t':TypeId}{k:IntKind}{x y:Operand}{p q:Int}(hx:ρ x = .int k p)(hy:ρ y = .int k q):(execOp ρ ⟨d,.binOp .or t x y t',ty,pos,af,g⟩).run P w = .ok (.value (.int k (k.wrap (BitVec.ofInt k.bits p ||| BitVec.ofInt k.bits q).toNat))) w:=by
 simp [execOp,hx,hy,eqGuard,binOp,Op.intBits]
theorem x_xor{t t':TypeId}{k:IntKind}{x y:Operand}{p q:Int}(hx:ρ x = .int k p)(hy:ρ y = .int k q):(execOp ρ ⟨d,.binOp .xor t x y t',ty,pos,af,g⟩).run P w = .ok (.value (.int k (k.wrap (BitVec.ofInt k.bits p ^^^ BitVec.ofInt k.bits q).toNat))) w:=by
 simp [execOp,hx,hy,eqGuard,binOp,Op.intBits]
theorem x_shl{t t':TypeId}{k k':IntKind}{x y:Operand}{p q:Int}(hx:ρ x = .int k p)(hy:ρ y = .int k' q)(hq:¬q<0):(execOp ρ ⟨d,.binOp .shl t x y t',ty,pos,af,g⟩).run P w = .ok (.value (.int k (k.wrap (p*2 ^ (min q.toNat k.bits))))) w:=by
 simp [execOp,hx,hy,eqGuard,binOp,Op.shift,hq]
theorem x_shr{t t':TypeId}{k k':IntKind}{x y:Operand}{p q:Int}(hx:ρ x = .int k p)(hy:ρ y = .int k' q)(hq:¬q<0):(execOp ρ ⟨d,.binOp .shr t x y t',ty,pos,af,g⟩).run P w = .ok (.value (.int k (p.fdiv (2 ^ (min q.toNat k.bits))))) w:=by
 simp [execOp,hx,hy,eqGuard,binOp,Op.shift,hq]
theorem x_binI{op:BinOp}{t t':TypeId}{k:IntKind}{x y:Operand}{a b:Int}{p:PV}(h:binI op k a b=some p)(hx:ρ x = .int k a)(hy:ρ y = .int k b) :
  ∃v,(execOp ρ ⟨d,.binOp op t x y t',ty,pos,af,g⟩).run P w = .ok (.value v) w∧PR w Y p v:=by
 unfold binI at h
 split at h
 all_goals first | (simp only [Option.some.injEq] at h; subst h) | skip
 ·exact ⟨_,x_add hx hy,by simp only [PR]⟩
 ·exact ⟨_,x_sub hx hy,by simp only [PR]⟩
 ·exact ⟨_,x_mul hx hy,by simp only [PR]⟩
 ·by_cases hb:b=0
  ·simp [hb] at h
  ·simp [hb] at h; subst h; exact ⟨_,x_quo hx hy hb,by simp only [PR]⟩
 ·by_cases hb:b=0
  ·simp [hb] at h
  ·simp [hb] at h; subst h; exact ⟨_,x_rem hx hy hb,by simp only [PR]⟩
 ·exact ⟨_,x_and hx hy,by simp only [PR]⟩
 ·exact ⟨_,x_or hx hy,by simp only [PR]⟩
 ·exact ⟨_,x_xor hx hy,by simp only [PR]⟩
 ·exact ⟨_,x_eql hx hy,by simp only [PR]⟩
 ·exact ⟨_,x_neq hx hy,by simp only [PR]⟩
 ·exact ⟨_,x_lss hx hy,by simp only [PR]⟩
 ·exact ⟨_,x_leq hx hy,by simp only [PR]⟩
 ·exact ⟨_,x_gtr hx hy,by simp only [PR]⟩
 ·exact ⟨_,x_geq hx hy,by simp only [PR]⟩
 ·cases h
theorem x_shI{op:BinOp}{t t':TypeId}{k k':IntKind}{x y:Operand}{a b:Int}{p:PV}(hop:op = .shl∨op = .shr)(h:shI op k a b=some p)(hx:ρ x = .int k a)(hy:ρ y = .int k' b) :
  ∃v,(execOp ρ ⟨d,.binOp op t x y t',ty,pos,af,g⟩).run P w = .ok (.value v) w∧PR w Y p v:=by
 unfold shI at h
 by_cases hb:b<0
 ·simp [hb] at h
 ·rcases hop with rfl | rfl
  ·simp [hb] at h; subst h; exact ⟨_,x_shl hx hy hb,by simp only [PR]⟩
  ·simp [hb] at h; subst h; exact ⟨_,x_shr hx hy hb,by simp only [PR]⟩
theorem bytesLt_eq:∀(a b:List UInt8),Op.bytesLess a b=bytesLt a b
 | _,[]=>by simp [Op.bytesLess,bytesLt]
 | [],_::_=>by simp [Op.bytesLess,bytesLt]
 | a::x,b::y=>by
  simp only [Op.bytesLess,bytesLt,bytesLt_eq x y]
  congr 1
  ·rw [Bool.eq_iff_iff]; simp [UInt8.lt_iff_toNat_lt,Nat.blt_eq]
  ·congr 1
   rw [Bool.eq_iff_iff]; simp [UInt8.toNat_inj.symm]
theorem x_binS{op:BinOp}{t t':TypeId}{x y:Operand}{a b:ByteArray}{p:PV}(h:binS op a b=some p)(hx:ρ x = .string a)(hy:ρ y = .string b) :
  ∃v,(execOp ρ ⟨d,.binOp op t x y t',ty,pos,af,g⟩).run P w = .ok (.value v) w∧PR w Y p v:=by
 unfold binS at h
 split at h
 ·by_cases hb:a.size+b.size≤9223372036854775807
  ·rw [show Nat.ble (a.size+b.size) 9223372036854775807=true from by simpa using hb] at h;simp only [cond_true,Option.some.injEq] at h;subst h;have he:a++b=⟨(a.data.toList++b.data.toList).toArray⟩:=by
    apply bytes_eq; simp [ByteArray.data_append]
   refine ⟨.string (a++b),?_,by simp only [PR]; rw [he]⟩;have hb':(a.size:Int)+(b.size:Int)≤9223372036854775807:=by omega
   have hm:IntKind.i64.max=9223372036854775807:=by decide
   simp only [execOp,hx,hy,eqGuard,binOp,Op.stringOp];simp [hm,Int.not_lt.2 hb']
  ·rw [show Nat.ble (a.size+b.size) 9223372036854775807=false from by rw [Bool.eq_false_iff]; simpa using hb] at h;simp at h
 all_goals first | (simp only [Option.some.injEq] at h; subst h) | skip
 ·exact ⟨_,x_eqs hx hy,by simp only [PR]⟩
 ·exact ⟨_,x_nes hx hy,by simp only [PR]⟩
 ·exact ⟨.bool (Op.bytesLess a.toList b.toList),by simp [execOp,hx,hy,eqGuard,binOp,Op.stringOp],by simp only [PR]; rw [bytesLt_eq,ByteArray.toList_eq,ByteArray.toList_eq]⟩
 ·exact ⟨.bool (Op.bytesLess a.toList b.toList||a.toList == b.toList),by simp [execOp,hx,hy,eqGuard,binOp,Op.stringOp],by simp only [PR]; rw [beq_bytes,bytesLt_eq,ByteArray.toList_eq,ByteArray.toList_eq]⟩
 ·exact ⟨.bool !(Op.bytesLess a.toList b.toList||a.toList == b.toList),by simp [execOp,hx,hy,eqGuard,binOp,Op.stringOp],by simp only [PR]; rw [beq_bytes,bytesLt_eq,ByteArray.toList_eq,ByteArray.toList_eq]⟩
 ·exact ⟨.bool !(Op.bytesLess a.toList b.toList),by simp [execOp,hx,hy,eqGuard,binOp,Op.stringOp],by simp only [PR]; rw [bytesLt_eq,ByteArray.toList_eq,ByteArray.toList_eq]⟩
 ·cases h


def vAt(row:Bool)(vs:List Value):Value:=if row then .agg vs.toArray else vs.headD undef
theorem run_part{t off:Nat}{ti:TI}{vs:List Value}(h:Qcn P t ti=true)(hl:off+ti.size≤vs.length)(h1:ti.k.row=false→0<ti.size) :
  (part t vs.toArray off).run P w = .ok (vAt ti.k.row ((vs.drop off).take ti.size)) w:=by
 obtain ⟨u,hu,hr⟩:=und_row h;have hag:(isAgg t).run P w = .ok ti.k.row w:=by
  rw [←hr]; unfold isAgg; rw [Sem.run_bind,run_underlying hu w]; cases u<;>simp [TypeDesc.isRow]
 unfold part;rw [Sem.run_bind,hag];cases hrow:ti.k.row with
 | true =>
  simp only [Result.andThen_ok,if_true,Sem.run_bind,run_size h,Sem.run_pure,vAt]
  congr 3
  apply Array.ext'
  simp
 | false =>
  have h0:=h1 hrow;have hlt:off<vs.length:=by omega
  have e1:vs.toArray[off]?=some vs[off]:=by simp [hlt]
  have e2:((vs.drop off).take ti.size).headD undef=vs[off]:=by
   rw [List.drop_eq_getElem_cons hlt];cases hs:ti.size with
   | zero=>omega
   | succ n=>rfl
  simp only [Result.andThen_ok,Bool.false_eq_true,if_false,e1,Sem.run_pure,vAt,e2]
theorem PRL.take:∀{cs:List PV} {vs:List Value},PRL w Y cs vs→∀n,PRL w Y (cs.take n) (vs.take n)
 | [],vs,h,n=>by simp only [PRL] at h; subst h; simp [PRL]
 | c::cs,vs,h,0=>by simp [PRL]
 | c::cs,vs,h,n+1=>by
  simp only [PRL] at h;obtain ⟨v,r,rfl,ho,hc,hr⟩:=h;simp only [List.take_succ_cons,PRL];exact ⟨v,r.take n,rfl,ho,hc,PRL.take hr n⟩
theorem PRL.drop:∀{cs:List PV} {vs:List Value},PRL w Y cs vs→∀n,PRL w Y (cs.drop n) (vs.drop n)
 | [],vs,h,n=>by simp only [PRL] at h; subst h; simp [PRL]
 | c::cs,vs,h,0=>by simpa using h
 | c::cs,vs,h,n+1=>by
  simp only [PRL] at h;obtain ⟨v,r,rfl,ho,hc,hr⟩:=h;simpa using PRL.drop hr n
theorem prl_one{p:PV}{vs:List Value}(h:PRL w Y [p] vs):∃v,vs=[v]∧oneP p=true∧PR w Y p v:=by
 simp only [PRL] at h;obtain ⟨v,r,rfl,ho,hp,rfl⟩:=h;exact ⟨v,rfl,ho,hp⟩
theorem eqF_ok(hC:Qad P C){eq:Nat→List PV→List PV→Option Bool}{k:Nat}{x y:List PV}{vs us:List Value}(hx:PRL w Y x vs)(hy:PRL w Y y us)
  (ih:∀t x y b vs us,eq t x y=some b→PRL w Y x vs→PRL w Y y us→∃ti,C.ty t=some ti∧(ti.k.row=false→vs.length=1∧us.length=1)∧(Op.equalIn k t (vAt ti.k.row vs) (vAt ti.k.row us)).run P w = .ok b w) :
  ∀(fs:List (Nat×Nat))(gs:List Field)(b:Bool),Qbe fs gs=true→eqF C.ty eq fs x y=some b→(Op.eqFields k vs.toArray us.toArray gs).run P w = .ok b w
 | [],[],b,_,h=>by simp [eqF] at h; subst h; simp [Op.eqFields]
 | (t,o)::fs,g::gs,b,hf,h=>by
  simp only [Qbe,Bool.and_eq_true,Nat.beq_eq] at hf;obtain ⟨⟨⟨ht,ho⟩,hn⟩,hf⟩:=hf;simp only [eqF] at h;cases hti:C.ty t with
  | none=>simp [hti] at h
  | some ti =>
   simp only [hti] at h
   by_cases hb0:o+ti.size≤x.length∧o+ti.size≤y.length
   case neg =>
    rw [show (Nat.ble (o+ti.size) x.length&&Nat.ble (o+ti.size) y.length)=false from by rw [Bool.eq_false_iff]; simpa using hb0] at h;simp at h
   rw [show (Nat.ble (o+ti.size) x.length&&Nat.ble (o+ti.size) y.length)=true from by simpa using hb0] at h;simp only [cond_true] at h;have hb1:o+ti.size≤vs.length∧o+ti.size≤us.length:=by rw [hx.length,hy.length]; exact hb0
   cases hq:eq t ((x.drop o).take ti.size) ((y.drop o).take ti.size) with
   | none=>simp [hq] at h
   | some c =>
    obtain ⟨ti',hti',hlen,hrun⟩:=ih t _ _ c _ _ hq ((hx.drop o).take ti.size) ((hy.drop o).take ti.size);rw [hti] at hti'; cases hti';have h1:ti.k.row=false→0<ti.size:=fun hr=>by
     have:=(hlen hr).1;simp at this; omega
    have e1:=run_part (w:=w) (hC.ty t ti hti) hb1.1 h1;have e2:=run_part (w:=w) (hC.ty t ti hti) hb1.2 h1
    have hn' : g.name ≠ "_" := by simpa using hn
    subst ht; subst ho;simp only [Op.eqFields,hn',ne_eq,not_false_eq_true,if_true,Sem.run_bind,e1,Result.andThen_ok,e2,hrun];cases c with
    | true =>
     simp only [hq] at h;simpa using eqF_ok hC hx hy ih fs gs b hf h
    | false =>
     simp only [hq,Option.some.injEq] at h;subst h
     simp
 | [],_::_,_,hf,_=>by simp [Qbe] at hf
 | _::_,[],_,hf,_=>by simp [Qbe] at hf
theorem eqP_ok(hC:Qad P C):∀(d t:Nat)(x y:List PV)(b:Bool)(vs us:List Value),eqP C.ty d t x y=some b→PRL w Y x vs→PRL w Y y us →
  ∃ti,C.ty t=some ti∧(ti.k.row=false→vs.length=1∧us.length=1)∧∀k,d≤k→(Op.equalIn k t (vAt ti.k.row vs) (vAt ti.k.row us)).run P w = .ok b w
 | 0,t,x,y,b,vs,us,h,_,_=>by simp [eqP] at h
 | d+1,t,x,y,b,vs,us,h,hx,hy=>by
  simp only [eqP] at h;cases hti:C.ty t with
  | none=>simp [hti] at h
  | some ti =>
   simp only [hti] at h;have hT:=hC.ty t ti hti;refine ⟨ti,rfl,?_⟩
   split at h
   ·rename_i k a k' b' hk;cases hkk:kindEq k k' with
    | false=>simp [hkk] at h
    | true =>
     simp [hkk] at h; subst h;cases kindEq_eq hkk;obtain ⟨v,rfl,_,hv⟩:=prl_one hx;obtain ⟨u,rfl,_,hu⟩:=prl_one hy;simp only [PR] at hv hu; subst hv; subst hu;refine ⟨fun _=>⟨rfl,rfl⟩,fun m hm=>?_⟩;obtain ⟨m,rfl⟩:∃m',m=m'+1:=⟨m-1,by omega⟩;rw [show ti.k.row=false from by rw [hk]; rfl];simp only [vAt,Bool.false_eq_true,if_false,List.headD_cons];simp [Op.equalIn,run_underlying (und_int hT hk)];rfl
   ·rename_i a b' hk;simp at h; subst h;obtain ⟨v,rfl,_,hv⟩:=prl_one hx;obtain ⟨u,rfl,_,hu⟩:=prl_one hy;simp only [PR] at hv hu; subst hv; subst hu;refine ⟨fun _=>⟨rfl,rfl⟩,fun m hm=>?_⟩;obtain ⟨m,rfl⟩:∃m',m=m'+1:=⟨m-1,by omega⟩;rw [show ti.k.row=false from by rw [hk]; rfl];simp only [vAt,Bool.false_eq_true,if_false,List.headD_cons];simp [Op.equalIn,run_underlying (und_bool hT hk)]
   ·rename_i a b' hk;simp only [Option.some.injEq] at h; subst h;obtain ⟨v,rfl,_,hv⟩:=prl_one hx;obtain ⟨u,rfl,_,hu⟩:=prl_one hy;simp only [PR] at hv hu; subst hv; subst hu;refine ⟨fun _=>⟨rfl,rfl⟩,fun m hm=>?_⟩;obtain ⟨m,rfl⟩:∃m',m=m'+1:=⟨m-1,by omega⟩;rw [show ti.k.row=false from by rw [hk]; rfl];simp only [vAt,Bool.false_eq_true,if_false,List.headD_cons];simp only [Op.equalIn,Sem.run_bind,run_underlying (und_str hT hk),Result.andThen_ok,Sem.run_pure];rw [beq_toListBytes,beq_bytes]
   ·rename_i fs hk;obtain ⟨gs,hu,hf⟩:=Qcq hT hk;refine ⟨(fun hr=>by rw [hk] at hr; cases hr),fun m hm=>?_⟩;obtain ⟨m,rfl⟩:∃m',m=m'+1:=⟨m-1,by omega⟩;rw [show ti.k.row=true from by rw [hk]; rfl];simp only [vAt,if_true];have hF:P.fieldsOf t=gs:=by simp [Program.fieldsOf,hu]
    rw [run_equalIn_struct w m t vs.toArray us.toArray (by rw [hF]; exact hu) (tyOK_held hT hu),hF];exact eqF_ok hC hx hy (fun t x y b vs us he hx hy=>by
     obtain ⟨ti,h1,h2,h3⟩:=eqP_ok hC d t x y b vs us he hx hy;exact ⟨ti,h1,h2,h3 m (by omega)⟩) fs gs.toList b hf h
   ·cases h
theorem pr_cells{p:PV}{v:Value}(ho:oneP p=true)(h:PR w Y p v):PRL w Y [p] [v]:=by
 simp only [PRL]; exact ⟨v,[],rfl,ho,h,rfl⟩
theorem eqV_ok(hC:Qad P C){t:Nat}{p q:PV}{b:Bool}{v u:Value}(h:eqV C.ty t p q=some b)(hp:PR w Y p v)(hq:PR w Y q u) :
  (Op.equalIn 10000 t v u).run P w = .ok b w∧((∃xs ys,v = .agg xs∧u = .agg ys∧P.eqGuardType P.depth t=false)∨(oneP p=true∧oneP q=true)):=by
 unfold eqV at h;cases hti:C.ty t with
 | none=>simp [hti] at h
 | some ti =>
  simp only [hti] at h;cases hr:ti.k.row with
  | true =>
   simp only [hr,cond_true] at h
   split at h
   ·rename_i x y;simp only [PR] at hp hq;obtain ⟨vs,rfl,hvs⟩:=hp;obtain ⟨us,rfl,hus⟩:=hq;obtain ⟨ti',h1,_,h3⟩:=eqP_ok hC 20 t x y b vs us h hvs hus;rw [hti] at h1; cases h1;have h4:=h3 10000 (by omega);rw [hr] at h4;simp only [vAt,if_true] at h4;refine ⟨h4,.inl ⟨_,_,rfl,rfl,?_⟩⟩;cases hk:ti.k<;>rw [hk] at hr<;>simp [TK.row] at hr
    ·simp [eqP,hti,hk] at h
    ·obtain ⟨gs,hu,_⟩:=Qcq (hC.ty t ti hti) hk;exact tyOK_guard (hC.ty t ti hti) hu
   ·cases h
  | false =>
   simp only [hr,cond_false] at h;cases ho:oneP p&&oneP q with
   | false=>simp [ho] at h
   | true =>
    simp only [ho,cond_true] at h;rw [Bool.and_eq_true] at ho;obtain ⟨ti',h1,_,h3⟩:=eqP_ok hC 20 t _ _ b _ _ h (pr_cells ho.1 hp) (pr_cells ho.2 hq);rw [hti] at h1; cases h1;have h4:=h3 10000 (by omega);rw [hr] at h4;simp only [vAt,Bool.false_eq_true,if_false,List.headD_cons] at h4;exact ⟨h4,.inr ho⟩
theorem x_eql_of{t t':TypeId}{x y:Operand}{v u:Value}{b:Bool}(hx:ρ x=v)(hy:ρ y=u)(h:(Op.equalIn 10000 t v u).run P w = .ok b w)(hg:(eqGuard .eql t x y v u).run P w = .ok () w)
  (hb:binOp .eql t v u=(do pure (.bool (←Op.equal t v u)))):(execOp ρ ⟨d,.binOp .eql t x y t',ty,pos,af,g⟩).run P w = .ok (.value (.bool b)) w:=by
 subst hx; subst hy;simp only [execOp,Sem.run_bind,hg,Result.andThen_ok,hb,Op.equal,Op.maxDepth,h,Sem.run_pure]
theorem x_neq_of{t t':TypeId}{x y:Operand}{v u:Value}{b:Bool}(hx:ρ x=v)(hy:ρ y=u)(h:(Op.equalIn 10000 t v u).run P w = .ok b w)(hg:(eqGuard .neq t x y v u).run P w = .ok () w)
  (hb:binOp .neq t v u=(do pure (.bool (!(←Op.equal t v u))))):(execOp ρ ⟨d,.binOp .neq t x y t',ty,pos,af,g⟩).run P w = .ok (.value (.bool (!b))) w:=by
 subst hx; subst hy;simp only [execOp,Sem.run_bind,hg,Result.andThen_ok,hb,Op.equal,Op.maxDepth,h,Sem.run_pure]
def EqB(P:Program)(w:World)(t:Nat)(v u:Value)(b:Bool):Prop :=
 (Op.equalIn 10000 t v u).run P w = .ok b w∧(∀x y,(eqGuard .eql t x y v u).run P w = .ok () w∧(eqGuard .neq t x y v u).run P w = .ok () w) ∧
 binOp .eql t v u=(do pure (.bool (←Op.equal t v u)))∧binOp .neq t v u=(do pure (.bool (!(←Op.equal t v u))))
theorem eqI_sl{t e n:Nat}{A:Option Addr}{a c b e':Nat}(ht:P.underlying t=some (.slice e)):(Op.equalIn (n+1) t (.slice A a c) (.slice none b e')).run P w = .ok A.isNone w:=by
 cases A<;>simp [Op.equalIn,run_underlying ht]
theorem eqI_fn0{t n:Nat}{u:TypeDesc}(hu:P.underlying t=some u)(hk:kindOK .func u=true):(Op.equalIn (n+1) t .nilFunc .nilFunc).run P w = .ok true w:=by
 cases u<;>simp [kindOK] at hk;simp [Op.equalIn,run_underlying hu]
theorem eqI_fn1{t n:Nat}{u:TypeDesc}{f:Fn}{a b:Array Value}(hu:P.underlying t=some u)(hk:kindOK .func u=true):(Op.equalIn (n+1) t (.func f a b) .nilFunc).run P w = .ok false w:=by
 cases u<;>simp [kindOK] at hk;simp [Op.equalIn,run_underlying hu]
theorem eqI_map{t k e n:Nat}{m:Option Nat}(ht:P.underlying t=some (.map k e)):(Op.equalIn (n+1) t (.map m) (.map none)).run P w = .ok m.isNone w:=by
 cases m<;>simp [Op.equalIn,run_underlying ht]
theorem evEq_ok(hC:Qad P C)(hH:HR X φ H w){t:Nat}{x y:AV}{b:Bool}{v u:Value}(h:evEq C H t x y=some b)(hx:VR w (YOf X φ) φ x v)(hy:VR w (YOf X φ) φ y u)
  (hni:∀k a k' c,¬(x = .pl (.int k a)∧y = .pl (.int k' c))) (hns:∀a c,¬(x = .pl (.str a)∧y = .pl (.str c))):EqB P w t v u b:=by
 unfold evEq at h;cases hti:C.ty t with
 | none=>simp [hti] at h
 | some ti =>
  simp only [hti] at h;have hT:=hC.ty t ti hti
  split at h
  ·rename_i e hk;simp at h; subst h;simp only [VR,PR,flOk] at hx hy;obtain ⟨A,c,rfl,_,_,⟨rfl,rfl⟩,_⟩:=hx;obtain ⟨A,c,rfl,_,_,⟨rfl,rfl⟩,_⟩:=hy;exact ⟨eqI_sl (n:=9999) (Qct hT hk),fun x y=>⟨by simp [eqGuard],by simp [eqGuard]⟩,rfl,rfl⟩
  ·rename_i e f sz e0 es0 sz' es' hn hk;simp at h; subst h;simp only [VR,PR,flOk] at hx hy;obtain ⟨A,c,rfl,_,_,_,hA⟩:=hx;obtain ⟨A',c',rfl,_,_,⟨rfl,rfl⟩,_⟩:=hy;rcases hA with hA | ⟨b,o,rfl,_⟩
   ·simp at hA
   ·exact ⟨eqI_sl (n:=9999) (Qct hT hk),fun x y=>⟨by simp [eqGuard],by simp [eqGuard]⟩,rfl,rfl⟩
  ·rename_i e o sz' es' hk
   split at h
   ·rename_i fz sz e0 es0 ho;simp at h; subst h;obtain ⟨z,l,hl,hO⟩:=hH.ob _ _ ho;simp only [VR,PR,flOk] at hx hy;obtain ⟨A',c',rfl,_,_,⟨rfl,rfl⟩,_⟩:=hy;have:=hx.2.2 _ l hl; subst this;simp only [OR] at hO;obtain ⟨_,h1,_,h2,_,h3⟩:=hO;rcases h3 with ⟨_,h4⟩|⟨b,p,_,_,h4,_⟩
    ·simp at h1; omega
    ·exact ⟨by have:=eqI_sl (P:=P) (w:=w) (n:=9999) (A:=l.addr 0) (a:=l.n) (c:=l.c) (b:=es'.length) (e':=0) (Qct hT hk); simpa [Loc.addr,h4] using this,fun x y=>⟨by simp [eqGuard],by simp [eqGuard]⟩,rfl,rfl⟩
   ·cases h
  ·rename_i e o off len sz' es' hk
   split at h
   ·rename_i fz sz es ho;simp at h; subst h;obtain ⟨z,l,hl,hO⟩:=hH.ob _ _ ho;simp only [VR,PR,flOk] at hx hy;obtain ⟨A',c',rfl,_,_,⟨rfl,rfl⟩,_⟩:=hy;obtain ⟨A,c,rfl,h5,h6,h7⟩:=hx.2.2 _ l hl;simp only [OR] at hO;obtain ⟨_,_,_,h2,_,_⟩:=hO;obtain ⟨_,h8⟩:=h7 (by omega);cases A with
    | none=>exact absurd rfl h8
    | some a=>exact ⟨eqI_sl (n:=9999) (Qct hT hk),fun x y=>⟨by simp [eqGuard],by simp [eqGuard]⟩,rfl,rfl⟩
   ·cases h
  ·rename_i hk;simp at h; subst h;simp only [VR,PR] at hx hy; subst hx; subst hy;obtain ⟨u,hu,hq⟩:=Qci hT;rw [hk] at hq;exact ⟨eqI_fn0 (n:=9999) hu hq,fun x y=>⟨by simp [eqGuard],by simp [eqGuard]⟩,rfl,rfl⟩
  ·rename_i hk;simp at h; subst h;simp only [VR,PR] at hx hy; subst hx; subst hy;obtain ⟨u,hu,hq⟩:=Qci hT;rw [hk] at hq;exact ⟨eqI_fn1 (n:=9999) hu hq,fun x y=>⟨by simp [eqGuard],by simp [eqGuard]⟩,rfl,rfl⟩
  ·rename_i hk;simp at h; subst h;simp only [VR,PR] at hx hy; subst hy;obtain ⟨vs,rfl,_⟩:=hx;obtain ⟨u,hu,hq⟩:=Qci hT;rw [hk] at hq;exact ⟨eqI_fn1 (n:=9999) hu hq,fun x y=>⟨by simp [eqGuard],by simp [eqGuard]⟩,rfl,rfl⟩
  ·rename_i k e hk;simp at h; subst h;simp only [VR,PR] at hx hy; subst hx; subst hy;exact ⟨eqI_map (n:=9999) (und_map hT hk),fun x y=>⟨by simp [eqGuard],by simp [eqGuard]⟩,rfl,rfl⟩
  ·rename_i k e o hk
   split at h
   ·rename_i kvs ho;simp at h; subst h;obtain ⟨z,l,hl,hO⟩:=hH.ob _ _ ho;simp only [VR,PR] at hx hy; subst hy;obtain ⟨b,_,rfl⟩:=hx.2.2 _ l hl;exact ⟨eqI_map (n:=9999) (und_map hT hk),fun x y=>⟨by simp [eqGuard],by simp [eqGuard]⟩,rfl,rfl⟩
   ·cases h
  ·rename_i p q _ _ _ _ _;simp only [VR] at hx hy;obtain ⟨h1,h2⟩:=eqV_ok hC h hx hy;rcases h2 with ⟨xs,ys,rfl,rfl,hg⟩|⟨hp,hq⟩
   ·exact ⟨h1,fun x y=>⟨run_eqGuard_agg w .eql t x y xs ys hg,run_eqGuard_agg w .neq t x y xs ys hg⟩,rfl,rfl⟩
   ·unfold eqV at h;simp only [hti,hp,hq,Bool.and_self,cond_true] at h;cases hr:ti.k.row with
    | true=>simp only [hr,cond_true] at h; cases p<;>cases q<;>simp_all [oneP]
    | false =>
     simp only [hr,cond_false,eqP,hti] at h
     split at h
     ·rename_i heq1 heq2; simp only [List.cons.injEq,and_true] at heq1 heq2; exact absurd ⟨by rw [heq1],by rw [heq2]⟩ (hni _ _ _ _)
     ·rename_i a c hk heq1 heq2;simp only [List.cons.injEq,and_true] at heq1 heq2; subst heq1; subst heq2;simp only [PR] at hx hy; subst hx; subst hy;exact ⟨h1,fun x y=>⟨by simp [eqGuard],by simp [eqGuard]⟩,rfl,rfl⟩
     ·rename_i heq1 heq2; simp only [List.cons.injEq,and_true] at heq1 heq2; exact absurd ⟨by rw [heq1],by rw [heq2]⟩ (hns _ _)
     ·rename_i hk; rw [hk] at hr; cases hr
     ·cases h
  ·cases h
theorem evBin_ok(hC:Qad P C)(hH:HR X φ H w){op:BinOp}{t t':Nat}{x y:Operand}{a c r:AV}(h:evBin C H op t a c=some r)(hx:VR w (YOf X φ) φ a (ρ x))(hy:VR w (YOf X φ) φ c (ρ y)) :
  ∃v,(execOp ρ ⟨d,.binOp op t x y t',ty,pos,af,g⟩).run P w = .ok (.value v) w∧VR w (YOf X φ) φ r v:=by
 unfold evBin at h
 split at h
 ·simp only [VR,PR] at hx hy;simp only [Option.map_eq_some_iff] at h;obtain ⟨p,hp,rfl⟩:=h;obtain ⟨v,h1,h2⟩:=x_shI (Y:=YOf X φ) (.inl rfl) hp hx hy;exact ⟨v,h1,by simpa only [VR] using h2⟩
 ·simp only [VR,PR] at hx hy;simp only [Option.map_eq_some_iff] at h;obtain ⟨p,hp,rfl⟩:=h;obtain ⟨v,h1,h2⟩:=x_shI (Y:=YOf X φ) (.inr rfl) hp hx hy;exact ⟨v,h1,by simpa only [VR] using h2⟩
 ·rename_i k a k' b _ _;cases hkk:kindEq k k' with
  | false=>simp [hkk] at h
  | true =>
   cases kindEq_eq hkk;simp only [hkk,cond_true,Option.map_eq_some_iff] at h;obtain ⟨p,hp,rfl⟩:=h;simp only [VR,PR] at hx hy;obtain ⟨v,h1,h2⟩:=x_binI (Y:=YOf X φ) hp hx hy;exact ⟨v,h1,by simpa only [VR] using h2⟩
 ·simp only [VR,PR] at hx hy;simp only [Option.map_eq_some_iff] at h;obtain ⟨p,hp,rfl⟩:=h;obtain ⟨v,h1,h2⟩:=x_binS (Y:=YOf X φ) hp hx hy;exact ⟨v,h1,by simpa only [VR] using h2⟩
 ·simp only [Option.map_eq_some_iff] at h;obtain ⟨b,hb,rfl⟩:=h;rename_i hni hns;obtain ⟨h1,h2,h3,_⟩:=evEq_ok hC hH hb hx hy (fun k a k' c hc=>hni _ _ _ _ hc.1 hc.2) (fun a c hc=>hns _ _ hc.1 hc.2);exact ⟨.bool b,x_eql_of rfl rfl h1 (h2 x y).1 h3,by simp only [VR,PR]⟩
 ·simp only [Option.map_eq_some_iff] at h;obtain ⟨b,hb,rfl⟩:=h;rename_i hni hns;obtain ⟨h1,h2,_,h3⟩:=evEq_ok hC hH hb hx hy (fun k a k' c hc=>hni _ _ _ _ hc.1 hc.2) (fun a c hc=>hns _ _ hc.1 hc.2);exact ⟨.bool (!b),x_neq_of rfl rfl h1 (h2 x y).2 h3,by simp only [VR,PR]⟩
 ·cases h
end
end Go.Proofs.Ytbgjlpdeoljmiaa
namespace Go.Proofs.Ytbgjlpdeoljmiaa
set_option linter.unusedSimpArgs false
set_option linter.unusedVariables false
open Go.RowKit
section
variable {P:Program} {C:Cfg} {w w':World} {Y X:Nat→Prop} {φ:Phi} {H:Hp}
theorem pr_one{p:PV}{v:Value}(ho:oneP p=true)(h:PR w Y p v):v.oneCell'=true∧v.cells = #[v]:=by
 cases p<;>simp only [PR] at h<;>first
  | (simp [oneP] at ho; done)
  | (subst h; exact ⟨rfl,rfl⟩)
  | (obtain ⟨A,c,rfl,_⟩:=h; exact ⟨rfl,rfl⟩)
  | (obtain ⟨y,rfl,_⟩:=h; exact ⟨rfl,rfl⟩)
theorem vr_one{a:AV}{v:Value}(ho:oneA a=true)(h:VR w Y φ a v):v.oneCell'=true∧v.cells = #[v]:=by
 have key:v.oneCell'=true→v.oneCell'=true∧v.cells = #[v]:=fun h1=>⟨h1,by cases v<;>first | rfl | (simp [Value.oneCell'] at h1)⟩
 cases a<;>simp only [VR] at h<;>first
  | (simp [oneA] at ho; done)
  | exact key h.1
  | skip
 ·exact pr_one (by rename_i p; cases p<;>simp_all [oneA,oneP]) h
 ·obtain ⟨vs,rfl,_⟩:=h; exact ⟨rfl,rfl⟩
 ·obtain ⟨b,o,rfl,_⟩:=h; exact ⟨rfl,rfl⟩
theorem VRL.one:∀{cs:List AV} {vs:List Value},VRL w Y φ cs vs→∀v∈vs,v.oneCell'=true
 | [],vs,h,v,hv=>by simp only [VRL] at h; subst h; cases hv
 | c::cs,vs,h,v,hv=>by
  simp only [VRL] at h;obtain ⟨u,r,rfl,ho,hc,hr⟩:=h;rcases List.mem_cons.1 hv with rfl | hv
  ·exact (vr_one ho hc).1
  ·exact VRL.one hr v hv
theorem vr_cells{a:AV}{v:Value}(ha:a.cells.all oneA=true)(h:VR w Y φ a v):VRL w Y φ a.cells v.cells.toList:=by
 have key:oneA a=true→a.cells=[a]→VRL w Y φ a.cells v.cells.toList:=fun ho hc=>by
  rw [hc,(vr_one ho h).2];simp only [VRL];exact ⟨v,[],rfl,ho,h,rfl⟩
 cases a with
 | agg cs=>simp only [VR] at h; obtain ⟨vs,rfl,hl⟩:=h; exact hl
 | tup vs=>simp [AV.cells,oneA] at ha
 | un=>simp [AV.cells,oneA] at ha
 | pl p =>
  cases p with
  | agg cs=>simp only [VR,PR] at h; obtain ⟨vs,rfl,hl⟩:=h; exact hl.vrl
  | _=>exact key rfl rfl
 | _=>exact key rfl rfl
theorem pr_cells_of{p:PV}{v:Value}(h:PR w Y p v):PRL w Y p.cells v.cells.toList:=by
 have key:oneP p=true→p.cells=[p]→PRL w Y p.cells v.cells.toList:=fun ho hc=>by
  rw [hc,(pr_one ho h).2]; exact pr_cells ho h
 cases p with
 | agg cs=>simp only [PR] at h; obtain ⟨vs,rfl,hl⟩:=h; exact hl
 | _=>exact key rfl rfl


theorem PRC.at{b:Nat} : ∀{cs:List PV} {o:Nat},PRC w Y b o cs→∀{i:Nat} {c:PV},cs[i]?=some c→∃v,w.cell? ⟨b,o+i,none⟩=some v∧oneP c=true∧PR w Y c v
 | [],_,_,i,c,hi=>by simp at hi
 | x::cs,o,h,i,c,hi=>by
  simp only [PRC] at h;cases i with
  | zero=>simp at hi; subst hi; exact h.1
  | succ i =>
   simp at hi;have:=PRC.at h.2 hi
   rwa [show o+1+i=o+(i+1) from by omega] at this
theorem PRC.vals{b:Nat} : ∀{cs:List PV} {o:Nat},PRC w Y b o cs→∃vs,PRL w Y cs vs∧w.rangeAt b o vs
 | [],_,_=>⟨[],by simp only [PRL],fun j v hj=>by simp at hj⟩
 | x::cs,o,h=>by
  simp only [PRC] at h;obtain ⟨⟨v,hv,ho,hx⟩,hr⟩:=h;obtain ⟨vs,h1,h2⟩:=PRC.vals hr;refine ⟨v::vs,by simp only [PRL]; exact ⟨v,vs,rfl,ho,hx,h1⟩,fun j u hj=>?_⟩;cases j with
  | zero=>simp at hj; subst hj; exact hv
  | succ j =>
   simp at hj;have:=h2 j u hj
   rwa [show o+1+j=o+(j+1) from by omega] at this
theorem PRC.of_vals{b:Nat} : ∀{cs:List PV} {vs:List Value} {o:Nat},PRL w Y cs vs→w.rangeAt b o vs→PRC w Y b o cs
 | [],_,_,_,_=>by simp only [PRC]
 | x::cs,vs,o,h,hr=>by
  simp only [PRL] at h;obtain ⟨v,r,rfl,ho,hx,hl⟩:=h;simp only [PRC];refine ⟨⟨v,hr 0 v rfl,ho,hx⟩,PRC.of_vals hl fun j u hj=>?_⟩;have:=hr (j+1) u (by simpa using hj)
  rwa [show o+(j+1)=o+1+j from by omega] at this
theorem rangeAt_sub{b o:Nat}{vs:List Value}(h:w.rangeAt b o vs)(k n:Nat):w.rangeAt b (o+k) ((vs.drop k).take n):=fun j v hj=>by
 have hj':vs[k+j]?=some v:=by
  rw [List.getElem?_take] at hj
  split at hj
  ·simpa [List.getElem?_drop] using hj
  ·cases hj
 have:=h (k+j) v hj'
 rwa [show o+(k+j)=o+k+j from by omega] at this
theorem PRE.at{b sz:Nat} : ∀{es:List (List PV)} {o:Nat},PRE w Y b sz o es→∀{i:Nat} {e:List PV},es[i]?=some e→e.length=sz∧PRC w Y b (o+i*sz) e
 | [],_,_,i,e,hi=>by simp at hi
 | x::es,o,h,i,e,hi=>by
  simp only [PRE] at h;cases i with
  | zero=>simp at hi; subst hi; simpa using ⟨h.1,h.2.1⟩
  | succ i =>
   simp at hi;have:=PRE.at h.2.2 hi
   rwa [show o+sz+i*sz=o+(i+1)*sz from by rw [Nat.succ_mul]; omega] at this
theorem PRE.of{b sz:Nat} : ∀{es:List (List PV)} {o:Nat},(∀i e,es[i]?=some e→e.length=sz∧PRC w Y b (o+i*sz) e)→PRE w Y b sz o es
 | [],_,_=>by simp only [PRE]
 | x::es,o,h=>by
  simp only [PRE];have h0:=h 0 x rfl;refine ⟨h0.1,by simpa using h0.2,PRE.of fun i e hi=>?_⟩;have:=h (i+1) e (by simpa using hi)
  rwa [show o+(i+1)*sz=o+sz+i*sz from by rw [Nat.succ_mul]; omega] at this
theorem PRE.drop{b sz:Nat}{es:List (List PV)}{o:Nat}(h:PRE w Y b sz o es)(n:Nat):PRE w Y b sz (o+n*sz) (es.drop n):=PRE.of fun i e hi=>by
 rw [List.getElem?_drop] at hi;have:=h.at hi
 rwa [show o+(n+i)*sz=o+n*sz+i*sz from by rw [Nat.add_mul]; omega] at this
theorem PRE.take{b sz:Nat}{es:List (List PV)}{o:Nat}(h:PRE w Y b sz o es)(n:Nat):PRE w Y b sz o (es.take n):=PRE.of fun i e hi=>by
 rw [List.getElem?_take] at hi
 split at hi
 ·exact h.at hi
 ·cases hi

variable {nid:Nat} {ρ:Operand→Value} {d:Option Tmp} {ty:TypeId} {pos:String} {af:Array Edge} {g:Option (Nat×Bool)}
theorem good_new{r:Result Next}{n t:Nat}{cs:Array Value}{as:List AV}(hH:HR X φ H w)(hf:Free φ H n) (hr:r = .ok (.value (.pointer (some ⟨w.heap.size,0,none⟩))) (w.alloc (.cells cs t)))
  (hv:VRL w (YOf X φ) φ as cs.toList):Good n H X φ w (.bp n 0) (hput H n (.box t as)) r:=by
 let l:Loc:=⟨some (w.heap.size,0),0,0,0,noD⟩
 have ev:Ev φ w (φ.set n (.at false l)) (w.alloc (.cells cs t)):=Ev.new hf.fr _ l (fun b p e=>by cases Loc.has_no e; exact Nat.le_refl _);refine ⟨_,_,_,φ.set n (.at false l),hr,.inl rfl,?_,hH.new hf _ l (.box t as) (fun b p e=>by cases Loc.has_no e; rfl) ?_,ev,(Qar hf.le).1,fun k hk h=>by rw [Phi.set_ne hk]; exact h⟩
 ·simp only [VR];refine ⟨rfl,(by rw [Phi.set_self]; intro h; cases h),fun _ l' hl'=>?_⟩;rw [Phi.set_self] at hl'; cases hl';exact ⟨_,rfl,rfl⟩
 ·simp only [OR];exact ⟨trivial,w.heap.size,cs.toList,rfl,heap_alloc_new w _,VRL.stay ev X as cs.toList hv⟩
theorem g_alloc{n e:Nat}{ti:TI}(hC:Qad P C)(hH:HR X φ H w)(hf:Free φ H n)(hti:C.ty e=some ti):Good n H X φ w (.bp n 0) (hput H n (.box e (ti.zero.map .pl))) ((execOp ρ ⟨d,.alloc e,ty,pos,af,g⟩).run P w):=by
 obtain ⟨i,z,hi,_,_,hz,hl⟩:=Qbm (hC.ty e ti hti);exact good_new hH hf (x_alloc hi hz) (hl w _).vrl
theorem g_box{n e:Nat}{x:Operand}{a:AV}(hH:HR X φ H w)(hf:Free φ H n)(hx:VR w (YOf X φ) φ a (ρ x))(ha:a.cells.all oneA=true):Good n H X φ w (.bp n 0) (hput H n (.box e a.cells)) ((execOp ρ ⟨d,.box e x,ty,pos,af,g⟩).run P w) :=
 good_new hH hf (x_box rfl) (vr_cells ha hx)


theorem load_cells{t b o:Nat}{ti:TI}{x:Operand}{vs:List Value}(hT:Qcn P t ti=true)(hr:ti.k.row=true)(hl:vs.length=ti.size)(hx:ρ x = .pointer (some ⟨b,o,none⟩))(hc:w.rangeAt b o vs) :
  (execOp ρ ⟨d,.load t x,ty,pos,af,g⟩).run P w = .ok (.value (.agg vs.toArray)) w:=by
 obtain ⟨i,z,hi,hs,_⟩:=Qbm hT;obtain ⟨u,hu,hrow⟩:=und_row hT;exact x_loadn hu (by rw [hrow,hr]) (by simp [hi,hs,hl]) hx hc
theorem load_cell{t:Nat}{ti:TI}{a:Addr}{x:Operand}{v:Value}(hT:Qcn P t ti=true)(hr:ti.k.row=false)(hx:ρ x = .pointer (some a))(hc:w.cell? a=some v) :
  (execOp ρ ⟨d,.load t x,ty,pos,af,g⟩).run P w = .ok (.value v) w:=by
 obtain ⟨u,hu,hrow⟩:=und_row hT;exact x_load1 hu (by rw [hrow,hr]) hx hc
theorem load_plain{t b o off:Nat}{ti:TI}{x:Operand}{c:List PV}{v:AV}(hT:Qcn P t ti=true)(hx:ρ x = .pointer (some ⟨b,o+off,none⟩))(hc:PRC w (YOf X φ) b o c)
  (h:(bif ti.k.row then (bif Nat.ble (off+ti.size) c.length then some (AV.pl (.agg ((c.drop off).take ti.size))) else none) else (c[off]?).map .pl)=some v) :
  ∃u,(execOp ρ ⟨d,.load t x,ty,pos,af,g⟩).run P w = .ok (.value u) w∧VR w (YOf X φ) φ v u:=by
 cases hr:ti.k.row with
 | true =>
  simp only [hr,cond_true] at h;cases hb:Nat.ble (off+ti.size) c.length with
  | false=>simp [hb] at h
  | true =>
   simp only [hb,cond_true,Option.some.injEq] at h; subst h;obtain ⟨vs,h1,h2⟩:=PRC.vals hc;have hlen:((vs.drop off).take ti.size).length=ti.size:=by
    have:=h1.length; simp at hb; simp; omega
   refine ⟨_,load_cells hT hr hlen hx (rangeAt_sub h2 off ti.size),?_⟩;simp only [VR,PR];exact ⟨_,rfl,(h1.drop off).take ti.size⟩
 | false =>
  simp only [hr,cond_false,Option.map_eq_some_iff] at h;obtain ⟨p,hp,rfl⟩:=h;obtain ⟨u,h1,_,h2⟩:=PRC.at hc hp;exact ⟨u,load_cell hT hr hx h1,by simpa only [VR] using h2⟩
theorem g_load{t:Nat}{x:Operand}{a v:AV}(hC:Qad P C)(hH:HR X φ H w)(h:evLoad C H t a=some v)(hx:VR w (YOf X φ) φ a (ρ x)) :
  ∃u,(execOp ρ ⟨d,.load t x,ty,pos,af,g⟩).run P w = .ok (.value u) w∧VR w (YOf X φ) φ v u:=by
 unfold evLoad at h;cases hti:C.ty t with
 | none=>simp [hti] at h
 | some ti =>
  simp only [hti] at h;have hT:=hC.ty t ti hti
  split at h
  ·rename_i o off
   split at h
   ·rename_i bt cs ho;obtain ⟨z,l,hl,hO⟩:=hH.ob _ _ ho;simp only [VR] at hx;obtain ⟨b,hA,hx⟩:=hx.2.2 _ l hl;simp only [OR] at hO;obtain ⟨rfl,b',vs,hA',hg,hv⟩:=hO;rw [hA] at hA'; cases hA';have hra:w.rangeAt b 0 vs:=fun j u hj=>by simp [World.cell?,hg,hj]
    cases hr:ti.k.row with
    | true =>
     simp only [hr,cond_true] at h;cases hb:Nat.ble (off+ti.size) cs.length with
     | false=>simp [hb] at h
     | true =>
      simp only [hb,cond_true,Option.some.injEq] at h; subst h;have hlen:((vs.drop off).take ti.size).length=ti.size:=by
       have:=hv.length; simp at hb; simp; omega
      have hra':=rangeAt_sub hra off ti.size;rw [Nat.zero_add] at hra';exact ⟨_,load_cells hT hr hlen hx hra',VR.mkAgg ((hv.drop off).take ti.size)⟩
    | false =>
     simp only [hr,cond_false] at h;obtain ⟨u,h1,_,h2⟩:=VRL.at hv h;refine ⟨u,load_cell hT hr hx ?_,h2⟩;have:=hra off u h1
     rwa [Nat.zero_add] at this
   ·rename_i bt cs es ho;obtain ⟨z,l,hl,hO⟩:=hH.ob _ _ ho;simp only [VR] at hx;obtain ⟨b,hA,hx⟩:=hx.2.2 _ l hl;simp only [OR] at hO;obtain ⟨rfl,b',vs,hA',hg,hv⟩:=hO;rw [hA] at hA'; cases hA';have hra:w.rangeAt b 0 vs:=fun j u hj=>by simp [World.cell?,hg,hj]
    cases hr:ti.k.row with
    | true=>simp [hr] at h
    | false =>
     simp only [hr,cond_false] at h;have h':(cs++es.map AV.pl)[off]?=some v:=by
      cases hb:Nat.blt off cs.length with
      | true =>
       simp only [hb,cond_true] at h;rw [Nat.blt_eq] at hb;rw [List.getElem?_append_left hb]; exact h
      | false =>
       simp only [hb,cond_false] at h;have hge:cs.length≤off:=by
        rcases Nat.lt_or_ge off cs.length with k | k
        ·rw [show Nat.blt off cs.length=true from by rw [Nat.blt_eq]; exact k] at hb; cases hb
        ·exact k
       rw [List.getElem?_append_right hge,List.getElem?_map]; exact h
     obtain ⟨u,h1,_,h2⟩:=VRL.at hv h';refine ⟨u,load_cell hT hr hx ?_,h2⟩;have:=hra off u h1
     rwa [Nat.zero_add] at this
   ·cases h
  ·rename_i o i off
   split at h
   ·rename_i fz sz es ho;obtain ⟨z,l,hl,hO⟩:=hH.ob _ _ ho;simp only [VR] at hx;obtain ⟨b,p,hA,hx⟩:=hx.2.2 _ l hl;simp only [OR] at hO;obtain ⟨_,_,hsz,_,_,h5⟩:=hO;rcases h5 with ⟨h6,_⟩|⟨b',p',t',cs,hA',hg,_,hE,_⟩
    ·rw [hA] at h6; cases h6
    ·rw [hA] at hA'; cases hA'
     split at h
     ·rename_i c hc;have hE':=(hE.at hc).2;rw [hsz] at hx;exact load_plain hT hx hE' h
     ·cases h
   ·cases h
  ·simp only [VR] at hx;obtain ⟨b,o,hx,_,_,hc⟩:=hx;exact load_plain hT hx hc h
  ·cases h


theorem setCell_heap(w:World){b t o:Nat}{cs:Array Value}(v:Value) (h:w.heap[b]?=some (.cells cs t (0,0))):(w.setCell ⟨b,o,none⟩ v).heap[b]?=some (.cells (cs.setIfInBounds o v) t (0,0)):=by
 simp [World.setCell,Array.getElem?_modify,h]
theorem set_list(cs vs:List Value)(v:Value)(j:Nat)(hj:j<cs.length):(cs.set j v).take (j+1)++vs++(cs.set j v).drop (j+1+vs.length)=cs.take j++(v::vs)++cs.drop (j+(vs.length+1)):=by
 have h1:(cs.set j v).take (j+1)=cs.take j++[v]:=by
  rw [List.take_succ_eq_append_getElem (by simpa using hj),List.take_set,List.set_eq_of_length_le (by simp; omega),List.getElem_set_self]
 have h2:(cs.set j v).drop (j+1+vs.length)=cs.drop (j+(vs.length+1)):=by
  rw [List.drop_set,if_pos (by omega)]
  congr 1; omega
 rw [h1,h2]; simp
theorem setCells_at{b t:Nat} : ∀(vs cs:List Value)(j:Nat)(w:World),w.heap[b]?=some (.cells cs.toArray t (0,0))→j+vs.length≤cs.length →
  (w.setCells b j vs).heap[b]?=some (.cells (cs.take j++vs++cs.drop (j+vs.length)).toArray t (0,0))
 | [],cs,j,w,h,_=>by
  simp only [World.setCells,List.append_nil,List.length_nil,Nat.add_zero,List.take_append_drop];exact h
 | v::vs,cs,j,w,h,hl=>by
  have hj:j<cs.length:=by simp at hl; omega
  have h1:(w.setCell ⟨b,j,none⟩ v).heap[b]?=some (.cells (cs.set j v).toArray t (0,0)):=by
   rw [setCell_heap w v h]
   congr 2
   apply Array.ext'
   simp
  have h2:=setCells_at vs (cs.set j v) (j+1) _ h1 (by simp at hl ⊢; omega);rw [World.setCells,h2,set_list cs vs v j hj];rfl
theorem Qbl(b:Nat):∀(vs:List Value)(o:Nat)(w:World),(w.setCells b o vs).os=w.os∧(w.setCells b o vs).tape=w.tape∧((w.setCells b o vs).output=w.output∧w.drawn≤(w.setCells b o vs).drawn)∧(w.setCells b o vs).heap.size=w.heap.size∧∀k,k≠b→(w.setCells b o vs).heap[k]?=w.heap[k]?
 | [],_,w=>⟨rfl,rfl,⟨rfl,Nat.le_refl _⟩,rfl,fun _ _=>rfl⟩
 | v::vs,o,w=>by
  rw [World.setCells];obtain ⟨h1,h2,h3,h4,h5⟩:=Qbl b vs (o+1) (w.setCell ⟨b,o,none⟩ v);exact ⟨h1,h2,h3,h4.trans (by simp [World.setCell]),fun k hk=>(h5 k hk).trans (Below.heap_setCell w _ v k (by simpa using hk))⟩
theorem run_store_at{t b o:Nat}{v:Value}{n:Nat}(hi:(P.info? t).map (·.size)=some n)(hn:v.cells.size=n)(ht:w.there b o n)(h1:∀u∈v.cells.toList,u.oneCell'=true) :
  (Instr.storeAt t (.pointer (some ⟨b,o,none⟩)) v).run P w = .ok () (w.setCells b o v.cells.toList):=by
 have:=run_storeCells_cells (P:=P) b o v.cells.toList 0 w (fun j hj=>by simpa using (ht j (by simp at hj; omega)).1) (fun j hj=>by simpa using (ht j (by simp at hj; omega)).2) h1;cases hq:P.info? t with
 | none=>simp [hq] at hi
 | some i =>
  have hs:v.cells.size=i.size:=by simp [hq] at hi; omega
  simp only [Nat.add_zero] at this;simp only [Instr.storeAt,Instr.sureAddr,Sem.run_bind,Sem.run_pure,Result.andThen_ok];simp [storeVar,sizeOf,typeInfo,hq,hs,this]
theorem putAt_eq{α:Type}{l xs l':List α}{off:Nat}(h:putAt l off xs=some l'):off+xs.length≤l.length∧l'=l.take off++xs++l.drop (off+xs.length):=by
 unfold putAt at h;cases hb:Nat.ble (off+xs.length) l.length with
 | false=>simp [hb] at h
 | true=>simp only [hb,cond_true,Option.some.injEq] at h; exact ⟨by simpa using hb,h.symm⟩
theorem good_write{r:Result Next}{o b p:Nat}{l:Loc}{x:Ob}(hH:HR X φ H w)(hl:φ o = .at false l)(hA:l.A=some (b,p))(hr:r = .ok .skip w')(hos:w'.os=w.os)(htape:w'.tape=w.tape)(hout:w'.output=w.output∧w.drawn≤w'.drawn)(hsize:w'.heap.size=w.heap.size)
  (hg:∀k,k≠b→w'.heap[k]?=w.heap[k]?) (hO:Ev φ w φ w'→OR w' (YOf X φ) φ false l x):Good nid H X φ w (.tup []) (hset H o (some x)) r:=by
 have ev:=Ev.write (w:=w) (w':=w') hl hA hos htape hout hsize hg;exact ⟨_,undef,w',φ,hr,.inr ⟨rfl,rfl⟩,by simp only [VR]; exact ⟨[],rfl,by simp only [VRT]⟩,hH.write hl hA hos htape hout hsize hg (hO ev),ev,by rw [Qv]; exact Nat.le_refl _,fun _ _ h=>h⟩
def Kp(φ:Phi)(H:Hp)(φ1:Phi)(H1:Hp):Prop:=(∀n,φ n = .fresh→φ1 n = .fresh)∧H1.length=H.length
theorem Kp.refl(φ:Phi)(H:Hp):Kp φ H φ H:=⟨fun _ h=>h,rfl⟩
theorem Kp.trans{φ1 φ2:Phi}{H1 H2:Hp}(h:Kp φ H φ1 H1)(k:Kp φ1 H1 φ2 H2):Kp φ H φ2 H2:=⟨fun n e=>k.1 n (h.1 n e),k.2.trans h.2⟩
theorem Kp.free{φ1:Phi}{H1:Hp}{n:Nat}(h:Kp φ H φ1 H1)(hf:Free φ H n):Free φ1 H1 n:=⟨h.1 n hf.fr,by rw [h.2]; exact hf.le⟩
theorem Kp.set{o:Nat}{p:Pl}{y:Option Ob}(ho:φ o≠.fresh):Kp φ H (φ.set o p) (hset H o y) :=
 ⟨fun n e=>by rw [Phi.set_ne (fun h=>ho (by rw [←h]; exact e))]; exact e,Qv⟩
theorem Good.pre{φ1:Phi}{w1:World}{v:AV}{H' H1:Hp}{r:Result Next}(ev:Ev φ w φ1 w1)(kp:Kp φ H φ1 H1)(h:Good nid H1 X φ1 w1 v H' r):Good nid H X φ w v H' r:=by
 obtain ⟨nx,v',w',φ',hr,h1,h2,h3,h4,h6,h5⟩:=h;exact ⟨nx,v',w',φ',hr,h1,h2,h3,ev.trans h4,by rw [←kp.2]; exact h6,fun k hk e=>h5 k hk (kp.1 k e)⟩


theorem row_plain{o sz:Nat}{z:Bool}{es:List (List PV)}{l:Loc}(hO:OR w Y φ true l (.row z sz es))(off len:Nat)(hle:off+len≤es.length){A:Option Addr}{c:Nat}
  (hc:c+off=l.c) (hA:0<c→A=l.addr off∧A≠none):PR w Y (.sl .any sz ((es.drop off).take len)) (.slice A len c):=by
 simp only [OR] at hO;obtain ⟨_,h1,h2,h3,h4,h5⟩:=hO;simp only [PR];have hlen:((es.drop off).take len).length=len:=by simp; omega
 refine ⟨A,c,by rw [hlen],by omega,by omega,trivial,?_⟩;rw [hlen];rcases Nat.eq_zero_or_pos len with h0 | hpos
 ·exact .inl h0
 ·rcases h5 with ⟨_,h6⟩|⟨b,p,t,cs,hAl,hg,hs,hE,hY⟩
  ·omega
  ·obtain ⟨hA1,hA2⟩:=hA (by omega);have hlt:b<w.heap.size:=by
    rcases Nat.lt_or_ge b w.heap.size with hlt | hge
    ·exact hlt
    ·rw [Array.getElem?_eq_none hge] at hg; cases hg
   exact .inr ⟨b,p+off*sz,by rw [hA1]; simp [Loc.addr,hAl,h2],hY trivial,hlt,(hE.drop off).take len⟩
theorem set_same{x:Ob}{o:Nat}(h:hget H o=some x):hset H o (some x)=H:=by
 unfold hget at h;unfold hset
 apply List.ext_getElem?
 intro i
 by_cases e:i=o
 ·subst e;have hlt:i<H.length:=Qbh (x:=x) (by unfold hget; exact h);rw [List.getElem?_set_self hlt];cases hg:H[i]? with
  | none=>rw [hg] at h; cases h
  | some y =>
   rw [hg] at h;cases y with
   | none=>cases h
   | some y=>simp only [Option.some.injEq] at h; rw [h]
 ·rw [List.getElem?_set_ne (fun k=>e k.symm)]
theorem set_phi{o:Nat}{p:Pl}(h:φ o=p):φ.set o p=φ:=by
 funext k
 by_cases e:k=o
 ·subst e; rw [Phi.set_self,h]
 ·rw [Phi.set_ne e]
theorem row_freeze(hH:HR X φ H w){o sz:Nat}{z z':Bool}{es:List (List PV)}{l:Loc}(ho:hget H o=some (.row z' sz es))(hl:φ o = .at z l)(hO:OR w (YOf X φ) φ z l (.row z' sz es)) :
  HR X (φ.set o (.at true l)) (hset H o (some (.row true sz es))) w∧Ev φ w (φ.set o (.at true l)) w∧OR w (YOf X (φ.set o (.at true l))) (φ.set o (.at true l)) true l (.row true sz es):=by
 have hz:z=z':=by simp only [OR] at hO; exact hO.1
 subst hz;cases z with
 | true =>
  rw [set_same ho,set_phi hl];exact ⟨hH,Ev.refl _ _,hO⟩
 | false =>
  have h1:=hH.freeze hl hO;refine ⟨h1,Ev.freeze hl,?_⟩;obtain ⟨z2,l2,hl2,hO2⟩:=h1.ob o (.row true sz es) (by rw [Qaa (Qbh ho),if_pos rfl]);rw [Phi.set_self] at hl2; cases hl2;exact hO2
theorem drow_freeze(hH:HR X φ H w){o sz:Nat}{z:Bool}{es:List (List PV)}{l:Loc}(ho:hget H o=some (.drow sz es))(hl:φ o = .at z l)(hO:OR w (YOf X φ) φ z l (.drow sz es)) :
  HR X (φ.set o (.at true l)) (hset H o (some (.row true sz es))) w∧Ev φ w (φ.set o (.at true l)) w∧OR w (YOf X (φ.set o (.at true l))) (φ.set o (.at true l)) true l (.row true sz es):=by
 have hz:z=false:=by simp only [OR] at hO; exact hO.1
 subst hz;have hlt:=hH.lt hl;have ev:Ev φ w (φ.set o (.at true l)) w:=Ev.freeze hl;have hO2:OR w (YOf X (φ.set o (.at true l))) (φ.set o (.at true l)) true l (.row true sz es):=by
  simp only [OR] at hO ⊢;obtain ⟨_,_,h2,h3,h4,h5,h6⟩:=hO;refine ⟨trivial,h2,h3,h4,h5,h6.imp id ?_⟩
  rintro ⟨b,p,t,cs,hA,hg,hs,hE,_⟩
  exact ⟨b,p,t,cs,hA,hg,hs,PRE.stay (w:=w) (w':=w) (Y:=fun k=>¬l.D k) ⟨Nat.le_refl _,fun _ _ _ _=>rfl,fun k _ hk hd=>not_blk (p:=0) hH hl (.inr hd) hk⟩ (fun _ _ h=>h) p es hE,fun _=>not_blk hH hl (.inl hA)⟩
 refine ⟨?_,ev,hO2⟩;refine hH.next ev (fun k=>?_) (fun k z l' hk=>?_) (fun k y hy=>?_) (fun k l' b p hk hA'=>?_)
 ·intro hk;rw [Qv] at hk;rw [Phi.set_ne (by omega)]; exact hH.fresh k hk
 ·by_cases e:k=o
  ·exact ⟨_,by rw [Qaa hlt,if_pos e]⟩
  ·rw [Phi.set_ne e] at hk;obtain ⟨y,hy⟩:=hH.live k z l' hk;exact ⟨y,by rw [Qaa hlt,if_neg e]; exact hy⟩
 ·by_cases e:k=o
  ·rw [Qaa hlt,if_pos e] at hy; cases hy;exact .inr ⟨true,l,by rw [e,Phi.set_self],hO2⟩
  ·rw [Qaa hlt,if_neg e] at hy;exact .inl ⟨hy,Phi.set_ne e,fun _ _ _ _ _=>rfl⟩
 ·by_cases e:k=o
  ·subst e; rw [Phi.set_self] at hk; cases hk
  ·rw [Phi.set_ne e] at hk; exact .inl hk
theorem meltO_ok(hH:HR X φ H w)(o:Nat):∃φ1,HR X φ1 (meltO H o) w∧Ev φ w φ1 w∧Kp φ H φ1 (meltO H o):=by
 unfold meltO
 split
 ·rename_i sz es ho;obtain ⟨z,l,hl,hO⟩:=hH.ob _ _ ho;obtain ⟨g1,g2,_⟩:=drow_freeze hH ho hl hO;exact ⟨_,g1,g2,Kp.set (by rw [hl]; intro h; cases h)⟩
 ·exact ⟨φ,hH,Ev.refl _ _,Kp.refl _ _⟩
theorem melt_ok:∀(l:List Nat){φ:Phi}{H:Hp}(_:HR X φ H w),∃φ1,HR X φ1 (melt H l) w∧Ev φ w φ1 w∧Kp φ H φ1 (melt H l)
 | [],φ,H,hH=>⟨φ,hH,Ev.refl _ _,Kp.refl _ _⟩
 | o::r,φ,H,hH=>by
  obtain ⟨φ1,h1,h2,h3⟩:=meltO_ok hH o;obtain ⟨φ2,k1,k2,k3⟩:=melt_ok r h1;exact ⟨φ2,k1,h2.trans k2,h3.trans k3⟩
theorem melt_id:∀(l:List Nat){H:Hp},l.any (isD H)=false→melt H l=H
 | [],_,_=>rfl
 | o::r,H,h=>by
  rw [List.any_cons,Bool.or_eq_false_iff] at h;have e:meltO H o=H:=by
   unfold meltO;have:=h.1;unfold isD at this
   split
   ·rename_i ho; rw [ho] at this; cases this
   ·rfl
  rw [melt,e];exact melt_id r h.2
theorem plain1_ok(hH:HR X φ H w){a:AV}{p:PV}{H1:Hp}{v:Value}(h:plain1 H a=some (p,H1))(hv:VR w (YOf X φ) φ a v) :
  ∃φ1,HR X φ1 H1 w∧Ev φ w φ1 w∧Kp φ H φ1 H1∧PR w (YOf X φ1) p v:=by
 unfold plain1 at h
 split at h
 ·simp only [Option.some.injEq,Prod.mk.injEq] at h; obtain ⟨rfl,rfl⟩:=h;exact ⟨φ,hH,Ev.refl _ _,Kp.refl _ _,by simpa only [VR] using hv⟩
 ·rename_i o
  split at h
  ·rename_i z' sz es ho;simp only [Option.some.injEq,Prod.mk.injEq] at h; obtain ⟨rfl,rfl⟩:=h;obtain ⟨z,l,hl,hO⟩:=hH.ob _ _ ho;simp only [VR] at hv;have hv:=hv.2.2 _ l hl; subst hv;obtain ⟨g1,g2,g3⟩:=row_freeze hH ho hl hO;refine ⟨_,g1,g2,Kp.set (by rw [hl]; intro h; cases h),?_⟩;have hO':=hO;simp only [OR] at hO';obtain ⟨_,h1,h2,h3,h4,h5⟩:=hO';have:=row_plain (o:=o) g3 0 es.length (by omega) (A:=l.addr 0) (c:=l.c) (by omega) (fun hc=>⟨rfl,by
    rcases h5 with ⟨_,h6⟩|⟨b,p,t,cs,hAl,_⟩
    ·omega
    ·simp [Loc.addr,hAl]⟩)
   rw [h1];simpa using this
  ·cases h
 ·rename_i o off len
  split at h
  ·rename_i z' sz es ho;cases hb:Nat.ble (off+len) es.length with
   | false=>simp [hb] at h
   | true =>
    simp only [hb,cond_true,Option.some.injEq,Prod.mk.injEq] at h; obtain ⟨rfl,rfl⟩:=h;obtain ⟨z,l,hl,hO⟩:=hH.ob _ _ ho;simp only [VR] at hv;obtain ⟨A,c,rfl,_,hc,hA⟩:=hv.2.2 _ l hl;obtain ⟨g1,g2,g3⟩:=row_freeze hH ho hl hO;exact ⟨_,g1,g2,Kp.set (by rw [hl]; intro h; cases h),row_plain (o:=o) g3 off len (by simpa using hb) hc hA⟩
  ·cases h
 ·simp only [Option.some.injEq,Prod.mk.injEq] at h; obtain ⟨rfl,rfl⟩:=h;simp only [VR] at hv;obtain ⟨vs,rfl,hvs⟩:=hv;simp only [VRT] at hvs; subst hvs;exact ⟨φ,hH,Ev.refl _ _,Kp.refl _ _,by simp only [PR]⟩
 ·cases h
theorem plain1_one{a:AV}{p:PV}{H1:Hp}(h:plain1 H a=some (p,H1))(ho:oneA a=true):oneP p=true:=by
 unfold plain1 at h
 split at h
 ·simp only [Option.some.injEq,Prod.mk.injEq] at h; obtain ⟨rfl,rfl⟩:=h;rename_i p; cases p<;>simp_all [oneA,oneP]
 ·split at h
  ·simp only [Option.some.injEq,Prod.mk.injEq] at h; obtain ⟨rfl,rfl⟩:=h; rfl
  ·cases h
 ·split at h
  ·rename_i off len _ _ _ _
   revert h
   cases Nat.ble _ _ with
   | false=>intro h; simp at h
   | true=>intro h; simp only [cond_true,Option.some.injEq,Prod.mk.injEq] at h; obtain ⟨rfl,rfl⟩:=h; rfl
  ·cases h
 ·simp only [Option.some.injEq,Prod.mk.injEq] at h; obtain ⟨rfl,rfl⟩:=h; rfl
 ·cases h
theorem plainL_ok:∀{as:List AV} {φ:Phi} {H:Hp} (_:HR X φ H w) {ps:List PV} {H1:Hp} {vs:List Value},plainL H as=some (ps,H1)→VRL w (YOf X φ) φ as vs →
  ∃φ1,HR X φ1 H1 w∧Ev φ w φ1 w∧Kp φ H φ1 H1∧PRL w (YOf X φ1) ps vs
 | [],φ,H,hH,ps,H1,vs,h,hv=>by
  simp only [plainL,Option.some.injEq,Prod.mk.injEq] at h; obtain ⟨rfl,rfl⟩:=h;exact ⟨φ,hH,Ev.refl _ _,Kp.refl _ _,by simpa only [VRL,PRL] using hv⟩
 | a::as,φ,H,hH,ps,H1,vs,h,hv=>by
  simp only [VRL] at hv;obtain ⟨v,r,rfl,ho,hva,hr⟩:=hv;simp only [plainL] at h
  split at h
  ·rename_i p H2 hp;obtain ⟨φ2,hH2,ev2,kp2,hpr⟩:=plain1_ok hH hp hva
   split at h
   ·rename_i ps' H3 hps;simp only [Option.some.injEq,Prod.mk.injEq] at h; obtain ⟨rfl,rfl⟩:=h;obtain ⟨φ3,hH3,ev3,kp3,hprs⟩:=plainL_ok hH2 hps (VRL.stay ev2 X _ _ hr);refine ⟨φ3,hH3,ev2.trans ev3,kp2.trans kp3,?_⟩;simp only [PRL];exact ⟨v,r,rfl,plain1_one hp ho,PR.stay (ev3.stay X) p v hpr,hprs⟩
   ·cases h
  ·cases h
theorem plain_ok(hH:HR X φ H w){a:AV}{p:PV}{H1:Hp}{v:Value}(h:plain H a=some (p,H1))(hv:VR w (YOf X φ) φ a v) :
  ∃φ1,HR X φ1 H1 w∧Ev φ w φ1 w∧Kp φ H φ1 H1∧PR w (YOf X φ1) p v:=by
 unfold plain at h
 split at h
 ·split at h
  ·rename_i ps H2 hp;simp only [Option.some.injEq,Prod.mk.injEq] at h; obtain ⟨rfl,rfl⟩:=h;simp only [VR] at hv;obtain ⟨vs,rfl,hvs⟩:=hv;obtain ⟨φ1,h1,h2,hk,h3⟩:=plainL_ok hH hp hvs;exact ⟨φ1,h1,h2,hk,by simp only [PR]; exact ⟨vs,rfl,h3⟩⟩
  ·cases h
 ·exact plain1_ok hH h hv
theorem plains_ok:∀{as:List AV} {φ:Phi} {H:Hp} (_:HR X φ H w) {ps:List PV} {H1:Hp} {vs:List Value},plains H as=some (ps,H1)→VRT w (YOf X φ) φ as vs →
  ∃φ1,HR X φ1 H1 w∧Ev φ w φ1 w∧Kp φ H φ1 H1∧∀φ0:Phi,VRT w (YOf X φ1) φ0 (ps.map .pl) vs
 | [],φ,H,hH,ps,H1,vs,h,hv=>by
  simp only [plains,Option.some.injEq,Prod.mk.injEq] at h; obtain ⟨rfl,rfl⟩:=h;exact ⟨φ,hH,Ev.refl _ _,Kp.refl _ _,fun φ0=>by simpa only [VRT,List.map_nil] using hv⟩
 | a::as,φ,H,hH,ps,H1,vs,h,hv=>by
  simp only [VRT] at hv;obtain ⟨v,r,rfl,hva,hr⟩:=hv;simp only [plains] at h
  split at h
  ·rename_i p H2 hp;obtain ⟨φ2,hH2,ev2,kp2,hpr⟩:=plain_ok hH hp hva
   split at h
   ·rename_i ps' H3 hps;simp only [Option.some.injEq,Prod.mk.injEq] at h; obtain ⟨rfl,rfl⟩:=h;obtain ⟨φ3,hH3,ev3,kp3,hprs⟩:=plains_ok hH2 hps (VRT.stay ev2 X _ _ hr);refine ⟨φ3,hH3,ev2.trans ev3,kp2.trans kp3,fun φ0=>?_⟩;simp only [List.map_cons,VRT];exact ⟨v,r,rfl,by simp only [VR]; exact PR.stay (ev3.stay X) p v hpr,hprs φ0⟩
   ·cases h
  ·cases h

theorem x_store_of{t:Nat}{x y:Operand}{b o:Nat}(hx:ρ x = .pointer (some ⟨b,o,none⟩)) (h:(Instr.storeAt t (.pointer (some ⟨b,o,none⟩)) (ρ y)).run P w = .ok () w') :
  (execOp ρ ⟨d,.store t x y,ty,pos,af,g⟩).run P w = .ok .skip w':=by
 simp [execOp,hx,h]
theorem one_cells{v:AV}(h:oneA v=true):v.cells=[v]:=by
 cases v<;>first | rfl | (simp [oneA] at h; done) | skip
 rename_i p;cases p<;>first | rfl | (simp [oneA] at h; done)
theorem putB_eq{sz off:Nat}{v:AV}{cs:List AV}{es:List PV}{r:List AV×List PV}(h:putB sz v off cs es=some r):sz=1∧oneA v=true∧off<(cs++es.map AV.pl).length∧r.1++r.2.map AV.pl=(cs++es.map AV.pl).set off v:=by
 unfold putB at h;cases hb:(Nat.beq sz 1&&oneA v) with
 | false=>simp [hb] at h
 | true =>
  simp only [hb,cond_true] at h;rw [Bool.and_eq_true,Nat.beq_eq] at hb;refine ⟨hb.1,hb.2,?_⟩;cases hl:Nat.blt off cs.length with
  | true =>
   simp only [hl,cond_true,Option.some.injEq] at h; subst h;rw [Nat.blt_eq] at hl;exact ⟨by simp; omega,by rw [List.set_append_left _ _ hl]⟩
  | false =>
   simp only [hl,cond_false] at h;have hge:cs.length≤off:=by
    rcases Nat.lt_or_ge off cs.length with k | k
    ·rw [show Nat.blt off cs.length=true from by rw [Nat.blt_eq]; exact k] at hl; cases hl
    ·exact k
   split at h
   ·rename_i q;cases hk:Nat.blt (off-cs.length) es.length with
    | false=>simp [hk] at h
    | true =>
     simp only [hk,cond_true,Option.some.injEq] at h; subst h;rw [Nat.blt_eq] at hk;exact ⟨by simp; omega,by rw [List.set_append_right _ _ hge,List.map_set]⟩
   ·cases h
theorem g_store{t:Nat}{x y:Operand}{a v:AV}{H1:Hp}(hC:Qad P C)(hH:HR X φ H w)(h:evStore C H t a v=some H1)(hx:VR w (YOf X φ) φ a (ρ x))(hy:VR w (YOf X φ) φ v (ρ y)) :
  Good nid H X φ w (.tup []) H1 ((execOp ρ ⟨d,.store t x y,ty,pos,af,g⟩).run P w):=by
 unfold evStore at h;cases hti:C.ty t with
 | none=>simp [hti] at h
 | some ti =>
  simp only [hti] at h;have hT:=hC.ty t ti hti;obtain ⟨i,z,hi,hs,_⟩:=Qbm hT;have hsz:(P.info? t).map (·.size)=some ti.size:=by simp [hi,hs]
  split at h
  ·rename_i o off
   split at h
   ·rename_i bt cs ho;cases hb:(Nat.beq v.cells.length ti.size&&v.cells.all oneA) with
    | false=>simp [hb] at h
    | true =>
     simp only [hb,cond_true] at h;rw [Bool.and_eq_true] at hb;obtain ⟨hb1,hb2⟩:=hb;simp only [Nat.beq_eq] at hb1
     split at h
     ·rename_i cs' hput;simp only [Option.some.injEq] at h; subst h;obtain ⟨hle,rfl⟩:=putAt_eq hput;obtain ⟨z,l,hl,hO⟩:=hH.ob _ _ ho;simp only [VR] at hx;obtain ⟨b,hA,hx⟩:=hx.2.2 _ l hl;simp only [OR] at hO;obtain ⟨rfl,b',vs,hA',hg,hv⟩:=hO;rw [hA] at hA'; cases hA';have hvc:=vr_cells hb2 hy;have hlen:=hv.length;have hlen2:=hvc.length;have hth:w.there b off ti.size:=fun j hj=>by
       have hj':off+j<vs.length:=by omega
       constructor
       ·simp [World.cell?,hg,hj']
       ·simp [World.frozen?,hg]
      have hrun:=run_store_at (P:=P) (w:=w) (b:=b) (o:=off) hsz (by rw [←hb1,←hlen2]; simp) hth (VRL.one hvc);obtain ⟨f1,f2,f3,f4,f5⟩:=Qbl b (ρ y).cells.toList off w;refine good_write hH hl hA (x_store_of hx hrun) f1 f2 f3 f4 f5 fun ev=>?_;simp only [OR];have hset:=setCells_at (b:=b) (ρ y).cells.toList vs off w hg (by omega);refine ⟨trivial,b,_,hA,hset,?_⟩;have hv':=VRL.stay ev X _ _ hv;have hvc':=VRL.stay ev X _ _ hvc;have:=((hv'.take off).append hvc').append (hv'.drop (off+v.cells.length));rw [hlen2]; exact this
     ·cases h
   ·rename_i bt cs es ho
    split at h
    ·rename_i r hput;simp only [Option.some.injEq] at h; subst h;obtain ⟨hs1,ho1,hoff,hr⟩:=putB_eq hput;obtain ⟨z,l,hl,hO⟩:=hH.ob _ _ ho;simp only [VR] at hx;obtain ⟨b,hA,hx⟩:=hx.2.2 _ l hl;simp only [OR] at hO;obtain ⟨rfl,b',vs,hA',hg,hv⟩:=hO;rw [hA] at hA'; cases hA';have hc1:v.cells=[v]:=one_cells ho1;have hvc:=vr_cells (a:=v) (by rw [hc1]; simp [ho1]) hy;have hlen:=hv.length;have hlen2:=hvc.length;rw [hc1] at hvc hlen2;have hth:w.there b off ti.size:=fun j hj=>by
      have hj':off+j<vs.length:=by omega
      constructor
      ·simp [World.cell?,hg,hj']
      ·simp [World.frozen?,hg]
     have hrun:=run_store_at (P:=P) (w:=w) (b:=b) (o:=off) hsz (by rw [hs1]; simpa using hlen2) hth (VRL.one hvc);obtain ⟨f1,f2,f3,f4,f5⟩:=Qbl b (ρ y).cells.toList off w;refine good_write hH hl hA (x_store_of hx hrun) f1 f2 f3 f4 f5 fun ev=>?_;simp only [OR];simp only [List.length_cons,List.length_nil] at hlen2;have hset:=setCells_at (b:=b) (ρ y).cells.toList vs off w hg (by omega);refine ⟨trivial,b,_,hA,hset,?_⟩;have hv':=VRL.stay ev X _ _ hv;have hvc':=VRL.stay ev X _ _ hvc;have:=((hv'.take off).append hvc').append (hv'.drop (off+1));rw [hr,hlen2];rw [List.set_eq_take_append_cons_drop,if_pos hoff];rw [List.append_assoc] at this;exact (by simpa using this)
    ·cases h
   ·cases h
  ·rename_i o k off
   split at h
   ·rename_i q H2 hq;obtain ⟨φ1,hH1,ev1,kp1,hpr⟩:=plain_ok hH hq hy;refine Good.pre ev1 kp1 ?_;have hx:=VR.stay ev1 X _ _ hx
    split at h
    ·rename_i sz es ho
     split at h
     ·rename_i c hc;cases hb:Nat.beq q.cells.length ti.size with
      | false=>simp [hb] at h
      | true =>
       simp only [hb,cond_true] at h;simp only [Nat.beq_eq] at hb
       split at h
       ·rename_i c' hput;simp only [Option.some.injEq] at h; subst h;obtain ⟨hle,rfl⟩:=putAt_eq hput;obtain ⟨z,l,hl,hO⟩:=hH1.ob _ _ ho;simp only [VR] at hx;obtain ⟨b,p,hA,hx⟩:=hx.2.2 _ l hl;simp only [OR] at hO;obtain ⟨rfl,h1,h2,h3,h4,h5⟩:=hO;rcases h5 with ⟨h6,_⟩|⟨b',p',t',cs,hA',hg,hcs,hE,_⟩
        ·rw [hA] at h6; cases h6
        ·rw [hA] at hA'; cases hA';have hki:k<es.length:=(List.getElem?_eq_some_iff.1 hc).1;obtain ⟨hcl,hcc⟩:=hE.at hc;rw [h2] at hx;have hqc:=pr_cells_of hpr;have hlen2:=hqc.length;have hfit:p+k*sz+off+ti.size≤cs.size:=by
          have:(k+1)*sz≤l.c*sz:=Nat.mul_le_mul_right sz (by omega);rw [Nat.succ_mul] at this; omega
         have hth:w.there b (p+k*sz+off) ti.size:=fun j hj=>by
          have hj':p+k*sz+off+j<cs.size:=by omega
          constructor
          ·simp [World.cell?,hg,hj']
          ·simp [World.frozen?,hg]
         have hone:∀u∈(ρ y).cells.toList,u.oneCell'=true:=VRL.one (φ:=φ1) hqc.vrl;have hrun:=run_store_at (P:=P) (w:=w) (b:=b) (o:=p+k*sz+off) hsz (by rw [←hb,←hlen2]; simp) hth hone;obtain ⟨f1,f2,f3,f4,f5⟩:=Qbl b (ρ y).cells.toList (p+k*sz+off) w;have hgl:w.heap[b]?=some (.cells cs.toList.toArray t' (0,0)):=by simpa using hg
         have hset:=setCells_at (b:=b) (ρ y).cells.toList cs.toList (p+k*sz+off) w hgl (by simp at hlen2 ⊢; omega);refine good_write hH1 hl hA (x_store_of hx hrun) f1 f2 f3 f4 f5 fun ev=>?_;simp only [OR];refine ⟨trivial,by simpa using h1,h2,h3,h4,.inr ⟨b,p,t',_,hA,hset,?_,?_,fun h=>by cases h⟩⟩
         ·simp at hlen2 ⊢; omega
         ·have hE':∀(o:Nat)(v:Value),w.cell? ⟨b,o,none⟩=some v→(o<p+k*sz+off∨p+k*sz+off+ti.size≤o)→(w.setCells b (p+k*sz+off) (ρ y).cells.toList).cell? ⟨b,o,none⟩=some v:=by
           intro o v hv ho;simp only [World.cell?,hset] at hv ⊢;rw [hg] at hv;simp only [Option.isSome_none,Bool.false_eq_true,if_false] at hv ⊢;have hov:cs.toList[o]?=some v:=by simpa using hv
           have hol:o<cs.toList.length:=(List.getElem?_eq_some_iff.1 hov).1;rw [List.getElem?_toArray];rcases ho with ho | ho
           ·rw [List.append_assoc,List.getElem?_append_left (by simp at hol ⊢; omega),List.getElem?_take,if_pos ho]; exact hov
           ·rw [List.getElem?_append_right (by simp at hlen2 hol ⊢; omega),List.getElem?_drop];rw [←hov]; congr 1; simp at hlen2 hol ⊢; omega
          refine PRE.of fun m e he=>?_
          by_cases hmk:m=k
          ·subst hmk;rw [List.getElem?_set_self hki] at he; cases he;refine ⟨by simp; omega,?_⟩;obtain ⟨us,hus,hra⟩:=PRC.vals hcc;have hul:=hus.length;have hst:=ev.stay X;have e1:PRL (w.setCells b (p+m*sz+off) (ρ y).cells.toList) (YOf X φ1) (c.take off++q.cells++c.drop (off+q.cells.length)) (us.take off++(ρ y).cells.toList++us.drop (off+(ρ y).cells.toList.length)):=by
            have a1:=PRL.stay hst _ _ (hus.take off);have a2:=PRL.stay hst _ _ hqc;have a3:=PRL.stay hst _ _ (hus.drop (off+q.cells.length));rw [hlen2]; exact (a1.append a2).append a3
           refine PRC.of_vals e1 fun j u hj=>?_;rcases Nat.lt_or_ge j off with hj1 | hj1
           ·rw [List.append_assoc,List.getElem?_append_left (by simp; omega),List.getElem?_take,if_pos hj1] at hj;exact hE' _ _ (hra j u hj) (.inl (by omega))
           ·rcases Nat.lt_or_ge j (off+(ρ y).cells.toList.length) with hj2 | hj2
            ·rw [List.append_assoc,List.getElem?_append_right (by simp; omega),List.getElem?_append_left (by simp; simp at hj2; omega)] at hj;simp only [World.cell?,hset];simp only [Option.isSome_none,Bool.false_eq_true,if_false,List.getElem?_toArray];rw [List.append_assoc,List.getElem?_append_right (by simp; omega),List.getElem?_append_left (by simp at hj2 ⊢; omega)];rw [←hj]; congr 1; simp; omega
            ·rw [List.getElem?_append_right (by simp at hj2 ⊢; omega),List.getElem?_drop] at hj;refine hE' _ _ (hra j u ?_) (.inr (by simp at hj2 hlen2; omega));rw [←hj]; congr 1; simp at hj2 ⊢; omega
          ·rw [List.getElem?_set_ne (fun e=>hmk e.symm)] at he;obtain ⟨g1,g2⟩:=hE.at he;refine ⟨g1,?_⟩;obtain ⟨us,hus,hra⟩:=PRC.vals g2;have hul:=hus.length;refine PRC.of_vals (PRL.stay (ev.stay X) _ _ hus) fun j u hj=>hE' _ _ (hra j u hj) ?_;have hjl:j<sz:=by have:=(List.getElem?_eq_some_iff.1 hj).1; omega
           rcases Nat.lt_or_gt_of_ne hmk with hm | hm
           ·left
            have:(m+1)*sz≤k*sz:=Nat.mul_le_mul_right sz hm;rw [Nat.succ_mul] at this; omega
           ·right
            have:(k+1)*sz≤m*sz:=Nat.mul_le_mul_right sz hm;rw [Nat.succ_mul] at this; omega
       ·cases h
     ·cases h
    ·cases h
   ·cases h
  ·cases h
end
end Go.Proofs.Ytbgjlpdeoljmiaa
namespace Go.Proofs.Ytbgjlpdeoljmiaa
set_option linter.unusedSimpArgs false
set_option linter.unusedVariables false
open Go.RowKit
section
variable {P:Program} {C:Cfg} {w w':World} {Y X:Nat→Prop} {φ:Phi} {H:Hp}
variable {nid:Nat} {ρ:Operand→Value} {ra:Operand→AV} {d:Option Tmp} {ty:TypeId} {pos:String} {af:Array Edge} {g:Option (Nat×Bool)}

theorem fill_fold:∀(us:List Value)(k off:Nat)(cs:List Value),off+k+us.length≤cs.length →
  (us.zipIdx k).foldl (fun (a:Array Value) (p:Value×Nat)=>a.setIfInBounds (off+p.2) p.1) cs.toArray=(cs.take (off+k)++us++cs.drop (off+k+us.length)).toArray
 | [],k,off,cs,_=>by simp
 | u::us,k,off,cs,h=>by
  have hj:off+k<cs.length:=by simp at h; omega
  rw [List.zipIdx_cons,List.foldl_cons];rw [show (cs.toArray.setIfInBounds (off+k) u)=(cs.set (off+k) u).toArray from by apply Array.ext'; simp];rw [fill_fold us (k+1) off _ (by simp at h ⊢; omega)];rw [show off+(k+1)=off+k+1 from by omega,set_list cs us u (off+k) hj];rfl
def VRI(w:World)(Y:Nat→Prop)(φ:Phi):List (Nat×AV)→List (Nat×Value)→Prop
 | [],l=>l=[]
 | (i,a)::r,l=>∃v l',l=(i,v)::l'∧VR w Y φ a v∧VRI w Y φ r l'
theorem vri_of(hρ:∀x,VR w Y φ (ra x) (ρ x)):∀ps:List (Nat×Operand),VRI w Y φ (ps.map fun p=>(p.1,ra p.2)) (ps.map fun p=>(p.1,ρ p.2))
 | []=>by simp [VRI]
 | p::ps=>by simp only [List.map_cons,VRI]; exact ⟨_,_,rfl,hρ p.2,vri_of hρ ps⟩
theorem VRI.stay{φ':Phi}(h:Ev φ w φ' w')(X:Nat→Prop):∀{as:List (Nat×AV)} {vs:List (Nat×Value)},VRI w (YOf X φ) φ as vs→VRI w' (YOf X φ') φ' as vs
 | [],_,h'=>by simpa only [VRI] using h'
 | (i,a)::r,l,h'=>by
  simp only [VRI] at h' ⊢;obtain ⟨v,l',e,hv,hr⟩:=h';exact ⟨v,l',e,VR.stay h X a v hv,VRI.stay h X hr⟩
theorem fillA_ok{pl:List (Nat×Nat)}{place:Nat→Option (Nat×Nat)}(hpl:∀i o s,pl[i]?=some (o,s)→place i=some (o,s)) :
  ∀{parts:List (Nat×AV)} {vparts:List (Nat×Value)} {cs cs':List AV} {vs:List Value},fillA pl cs parts=some cs'→VRI w Y φ parts vparts→VRL w Y φ cs vs →
   ∃vs':List Value,Instr.fill place vs.toArray vparts=some vs'.toArray∧VRL w Y φ cs' vs'
 | [],vparts,cs,cs',vs,h,hp,hc=>by
  simp only [VRI] at hp; subst hp;simp only [fillA,Option.some.injEq] at h; subst h;exact ⟨vs,rfl,hc⟩
 | (i,a)::r,vparts,cs,cs',vs,h,hp,hc=>by
  simp only [VRI] at hp;obtain ⟨v,l',rfl,hv,hr⟩:=hp;simp only [fillA] at h
  split at h
  ·rename_i off size hi;cases hb:(Nat.beq a.cells.length size&&a.cells.all oneA) with
   | false=>simp [hb] at h
   | true =>
    simp only [hb,cond_true] at h;rw [Bool.and_eq_true,Nat.beq_eq] at hb
    split at h
    ·rename_i cs1 hput;obtain ⟨hle,rfl⟩:=putAt_eq hput;have hvc:=vr_cells hb.2 hv;have hl1:=hvc.length;have hl2:=hc.length;have hnew:=((hc.take off).append hvc).append (hc.drop (off+a.cells.length));obtain ⟨vs',h1,h2⟩:=fillA_ok hpl h hr hnew;refine ⟨vs',?_,h2⟩;simp only [Instr.fill,hpl i off size hi];rw [if_neg (by simp at hl1 ⊢; omega)];rw [←h1]
     congr 1
     have:=fill_fold v.cells.toList 0 off vs (by omega);rw [←Array.foldl_toList,Array.toList_zipIdx];rw [Nat.add_zero] at this;rw [←hl1];exact this
    ·cases h
  ·cases h
theorem mapM_pl(hC:Qad P C):∀{fs:List (Nat×Nat)} {gs:List Field} {pl:List (Nat×Nat)},Qbe fs gs=true→(fs.mapM fun f=>(C.ty f.1).map fun tf=>(f.2,tf.size))=some pl →
  gs.mapM (fun f=>(P.info? f.type).map fun i=>(f.offset,i.size))=some pl
 | [],[],pl,_,h=>by simpa using h
 | (t,o)::fs,g::gs,pl,hf,h=>by
  simp only [Qbe,Bool.and_eq_true,Nat.beq_eq] at hf;obtain ⟨⟨⟨rfl,rfl⟩,_⟩,hf⟩:=hf;simp only [List.mapM_cons,Option.bind_eq_bind,Option.pure_def] at h ⊢;cases hti:C.ty g.type with
  | none=>simp [hti] at h
  | some ti =>
   obtain ⟨i,z,hi,hs,_⟩:=Qbm (hC.ty _ ti hti);cases hr:(fs.mapM fun f=>(C.ty f.1).map fun tf=>(f.2,tf.size)) with
   | none=>simp [hti,hr] at h
   | some rest =>
    simp [hti,hr] at h; subst h;have:=mapM_pl hC hf hr;simp only [this,hi];simp [hs]
 | [],_::_,_,hf,_=>by simp [Qbe] at hf
 | _::_,[],_,hf,_=>by simp [Qbe] at hf
theorem g_build{t:Nat}{ps:Array (Nat×Operand)}{v:AV}{H':Hp}(hC:Qad P C)(hρ:∀x,VR w (YOf X φ) φ (ra x) (ρ x))(h:Ql C nid ra H (.build t ps)=some (v,H')) :
  H'=H∧∃u,(execOp ρ ⟨d,.build t ps,ty,pos,af,g⟩).run P w = .ok (.value u) w∧VR w (YOf X φ) φ v u:=by
 simp only [Ql] at h;cases hti:C.ty t with
 | none=>simp [hti] at h
 | some ti =>
  simp only [hti] at h;have hT:=hC.ty t ti hti;obtain ⟨i,z,hi,hs,_,hz,hzl⟩:=Qbm hT;have hparts:=vri_of (w:=w) (Y:=YOf X φ) (φ:=φ) hρ ps.toList;have hmap:(ps.map fun (i,x)=>(i,ρ x)).toList=ps.toList.map fun p=>(p.1,ρ p.2):=by simp
  split at h
  ·rename_i fs hk;obtain ⟨gs,hu,hf⟩:=Qcq hT hk
   split at h
   ·rename_i pl hpl;simp only [Option.map_eq_some_iff,Prod.mk.injEq] at h;obtain ⟨cs,hfill,rfl,rfl⟩:=h;obtain ⟨vs',h1,h2⟩:=fillA_ok (place:=(pl.toArray[·]?)) (fun i o s h=>by simpa using h) hfill hparts (hzl w (YOf X φ)).vrl;refine ⟨rfl,.agg vs'.toArray,x_build ?_,VR.mkAgg h2⟩;rw [hmap];simp only [Program.built,hi,hu,hz,mapM_pl hC hf hpl];simpa using h1
   ·cases h
  ·rename_i n e hk;have hu:=und_arr hT hk
   split at h
   ·rename_i te hte;obtain ⟨ie,ze,hie,hse,_⟩:=Qbm (hC.ty e te hte);simp only [Option.map_eq_some_iff,Prod.mk.injEq] at h;obtain ⟨cs,hfill,rfl,rfl⟩:=h;obtain ⟨vs',h1,h2⟩:=fillA_ok (place:=fun i=>some (i*ie.size,ie.size)) (fun i o s h=>by
     simp only [List.getElem?_map,Option.map_eq_some_iff,Prod.mk.injEq] at h;obtain ⟨a,ha,rfl,rfl⟩:=h;obtain ⟨_,ha⟩:=List.getElem?_eq_some_iff.1 ha;rw [List.getElem_range] at ha;rw [←ha,hse]) hfill hparts (hzl w (YOf X φ)).vrl
    refine ⟨rfl,.agg vs'.toArray,x_build ?_,VR.mkAgg h2⟩;rw [hmap];simp only [Program.built,hi,hu,hz,hie];simpa using h1
   ·cases h
  ·cases h


def PRLL(w:World)(Y:Nat→Prop)(sz:Nat):List (List PV)→List (List Value)→Prop
 | [],vss=>vss=[]
 | e::es,vss=>∃vs r,vss=vs::r∧e.length=sz∧PRL w Y e vs∧PRLL w Y sz es r
theorem PRLL.length{sz:Nat} : ∀{es:List (List PV)} {vss:List (List Value)},PRLL w Y sz es vss→vss.length=es.length
 | [],vss,h=>by simp only [PRLL] at h; subst h; rfl
 | e::es,vss,h=>by
  simp only [PRLL] at h;obtain ⟨vs,r,rfl,_,_,hr⟩:=h;simp [PRLL.length hr]
theorem PRLL.size{sz:Nat} : ∀{es:List (List PV)} {vss:List (List Value)},PRLL w Y sz es vss→∀vs∈vss,vs.length=sz
 | [],vss,h,vs,hv=>by simp only [PRLL] at h; subst h; cases hv
 | e::es,vss,h,vs,hv=>by
  simp only [PRLL] at h;obtain ⟨us,r,rfl,hl,hp,hr⟩:=h;rcases List.mem_cons.1 hv with rfl | hv
  ·rw [hp.length,hl]
  ·exact PRLL.size hr vs hv
theorem PRLL.stay{Y':Nat→Prop}(h:Stay w Y w' Y'){sz:Nat} : ∀{es:List (List PV)} {vss:List (List Value)},PRLL w Y sz es vss→PRLL w' Y' sz es vss
 | [],vss,hp=>by simpa only [PRLL] using hp
 | e::es,vss,hp=>by
  simp only [PRLL] at hp ⊢;obtain ⟨vs,r,e1,hl,hp,hr⟩:=hp;exact ⟨vs,r,e1,hl,PRL.stay h _ _ hp,PRLL.stay h hr⟩
theorem Qby{sz:Nat} : ∀{vss:List (List Value)},(∀vs∈vss,vs.length=sz)→vss.flatten.length=vss.length*sz
 | [],_=>by simp
 | vs::r,h=>by
  rw [List.flatten_cons,List.length_append,h vs (by simp),Qby fun v hv=>h v (List.mem_cons_of_mem _ hv),List.length_cons,Nat.succ_mul]; omega
theorem PRE.of_flat{b sz:Nat} : ∀{es:List (List PV)} {vss:List (List Value)} {o:Nat},PRLL w Y sz es vss→w.rangeAt b o vss.flatten→PRE w Y b sz o es
 | [],_,_,_,_=>by simp only [PRE]
 | e::es,vss,o,h,hr=>by
  simp only [PRLL] at h;obtain ⟨vs,r,rfl,hl,hp,hq⟩:=h;have hvl:vs.length=sz:=by rw [hp.length,hl]
  simp only [PRE];refine ⟨hl,PRC.of_vals hp fun j v hj=>hr j v ?_,PRE.of_flat hq fun j v hj=>?_⟩
  ·rw [List.flatten_cons,List.getElem?_append_left (List.getElem?_eq_some_iff.1 hj).1]; exact hj
  ·have:=hr (sz+j) v (by rw [List.flatten_cons,List.getElem?_append_right (by omega),hvl]; rw [←hj]; congr 1; omega)
   rwa [show o+(sz+j)=o+sz+j from by omega] at this
theorem PRE.flat{b sz:Nat} : ∀{es:List (List PV)} {o:Nat},PRE w Y b sz o es→∃vss,PRLL w Y sz es vss∧w.rangeAt b o vss.flatten
 | [],_,_=>⟨[],by simp only [PRLL],fun j v hj=>by simp at hj⟩
 | e::es,o,h=>by
  simp only [PRE] at h;obtain ⟨hl,hc,hr⟩:=h;obtain ⟨vs,h1,h2⟩:=PRC.vals hc;obtain ⟨vss,h3,h4⟩:=PRE.flat hr;have hvl:vs.length=sz:=by rw [h1.length,hl]
  refine ⟨vs::vss,by simp only [PRLL]; exact ⟨vs,vss,rfl,hl,h1,h3⟩,fun j v hj=>?_⟩;rw [List.flatten_cons] at hj;rcases Nat.lt_or_ge j vs.length with hlt | hge
  ·rw [List.getElem?_append_left hlt] at hj; exact h2 j v hj
  ·rw [List.getElem?_append_right hge] at hj;have:=h4 (j-vs.length) v hj
   rwa [show o+sz+(j-vs.length)=o+j from by omega] at this
theorem flatten_set{sz:Nat} : ∀{vss:List (List Value)} {i:Nat} {us:List Value},(∀vs∈vss,vs.length=sz)→i<vss.length→(vss.set i us).flatten=vss.flatten.take (i*sz)++us++vss.flatten.drop (i*sz+sz)
 | [],i,us,_,h=>by simp at h
 | vs::r,0,us,hs,_=>by
  have:=hs vs (by simp);simp [←this]
 | vs::r,i+1,us,hs,h=>by
  have h1:=hs vs (by simp);have h2:=flatten_set (i:=i) (us:=us) (fun v hv=>hs v (List.mem_cons_of_mem _ hv)) (by simpa using h);rw [List.set_cons_succ,List.flatten_cons,h2,List.flatten_cons];rw [show (i+1)*sz=vs.length+i*sz from by rw [Nat.succ_mul,h1]; omega];have e1:vs.take (vs.length+i*sz)=vs:=List.take_of_length_le (Nat.le_add_right _ _);have e2:vs.drop (vs.length+i*sz+sz)=[]:=List.drop_eq_nil_of_le (by rw [Nat.add_assoc]; exact Nat.le_add_right _ _);have e3:vs.length+i*sz-vs.length=i*sz:=Nat.add_sub_cancel_left _ _;have e4:vs.length+i*sz+sz-vs.length=i*sz+sz:=by rw [Nat.add_assoc]; exact Nat.add_sub_cancel_left _ _
  rw [List.take_append,List.drop_append,e1,e2,e3,e4]
  simp
theorem PRLL.set{sz:Nat} : ∀{es:List (List PV)} {vss:List (List Value)} {i:Nat} {e:List PV} {vs:List Value},PRLL w Y sz es vss→e.length=sz→PRL w Y e vs→PRLL w Y sz (es.set i e) (vss.set i vs)
 | [],vss,i,e,vs,h,_,_=>by simp only [PRLL] at h; subst h; simp [PRLL]
 | e0::es,vss,0,e,vs,h,hl,hp=>by
  simp only [PRLL] at h;obtain ⟨us,r,rfl,_,_,hr⟩:=h;simp only [List.set_cons_zero,PRLL];exact ⟨vs,r,rfl,hl,hp,hr⟩
 | e0::es,vss,i+1,e,vs,h,hl,hp=>by
  simp only [PRLL] at h;obtain ⟨us,r,rfl,hl0,hp0,hr⟩:=h;simp only [List.set_cons_succ,PRLL];exact ⟨us,_,rfl,hl0,hp0,PRLL.set hr hl hp⟩
theorem PRLL.append{sz:Nat} : ∀{es ds:List (List PV)} {vss uss:List (List Value)},PRLL w Y sz es vss→PRLL w Y sz ds uss→PRLL w Y sz (es++ds) (vss++uss)
 | [],ds,vss,uss,h,k=>by simp only [PRLL] at h; subst h; exact k
 | e::es,ds,vss,uss,h,k=>by
  simp only [PRLL] at h;obtain ⟨vs,r,rfl,hl,hp,hr⟩:=h;simp only [List.cons_append,PRLL];exact ⟨vs,r++uss,rfl,hl,hp,PRLL.append hr k⟩
theorem PRLL.replicate{sz n:Nat}{e:List PV}{vs:List Value}(hl:e.length=sz)(hp:PRL w Y e vs):PRLL w Y sz (List.replicate n e) (List.replicate n vs):=by
 induction n with
 | zero=>simp [PRLL]
 | succ n ih=>simp only [List.replicate_succ,PRLL]; exact ⟨vs,_,rfl,hl,hp,ih⟩
theorem zeros_flat(z:List Value)(hz:0<z.length):∀n:Nat,(List.range (n*z.length)).map (fun i=>z.toArray[i % z.length]!)=(List.replicate n z).flatten
 | 0=>by simp
 | n+1=>by
  rw [Nat.succ_mul,List.range_add,List.map_append,zeros_flat z hz n,List.replicate_succ',List.flatten_append]
  congr 1
  rw [List.map_map];simp only [List.flatten_cons,List.flatten_nil,List.append_nil]
  apply List.ext_getElem (by simp)
  intro i h1 h2;have hi:i<z.length:=by simpa using h1
  simp only [List.getElem_map,List.getElem_range,Function.comp];rw [show (n*z.length+i) % z.length=i from by rw [Nat.mul_comm,Nat.mul_add_mod,Nat.mod_eq_of_lt hi]];simp [hi]
theorem zeros_eq{z:Array Value}{n s:Nat}(hs:z.size=s)(hz:0<s):(Array.range (n*s)).map (fun i=>z[i % z.size]!)=(List.replicate n z.toList).flatten.toArray:=by
 subst hs
 apply Array.ext'
 have:=zeros_flat z.toList (by simpa using hz) n;simpa using this
theorem good_row{r:Result Next}{i t n sz:Nat}{cs:Array Value}{es:List (List PV)}{vss:List (List Value)}(hH:HR X φ H w)(hf:Free φ H i) (hr:r = .ok (.value (.slice (some ⟨w.heap.size,0,none⟩) n n)) (w.alloc (.cells cs t)))
  (hn:n=es.length) (hm:n≤maxLen) (hcs:cs.toList=vss.flatten) (hv:PRLL w (YOf X φ) sz es vss):Good i H X φ w (.own i) (hput H i (.row false sz es)) r:=by
 let l:Loc:=⟨some (w.heap.size,0),n,n,sz,noD⟩
 have ev:Ev φ w (φ.set i (.at false l)) (w.alloc (.cells cs t)):=Ev.new hf.fr _ l (fun b p e=>by cases Loc.has_no e; exact Nat.le_refl _);refine ⟨_,_,_,φ.set i (.at false l),hr,.inl rfl,?_,hH.new hf _ l (.row false sz es) (fun b p e=>by cases Loc.has_no e; rfl) ?_,ev,(Qar hf.le).1,fun k hk h=>by rw [Phi.set_ne hk]; exact h⟩
 ·simp only [VR];refine ⟨rfl,(by rw [Phi.set_self]; intro h; cases h),fun _ l' hl'=>?_⟩;rw [Phi.set_self] at hl'; cases hl';simp [Loc.addr,l]
 ·simp only [OR];have hfl:=Qby hv.size;refine ⟨trivial,hn,rfl,Nat.le_refl _,hm,.inr ⟨w.heap.size,0,t,cs,rfl,heap_alloc_new w _,?_,?_,fun h=>by cases h⟩⟩
  ·have:cs.size=n*sz:=by rw [←Array.length_toList,hcs,hfl,hv.length,hn]
   show 0+n*sz≤cs.size;omega
  ·refine PRE.of_flat (PRLL.stay (ev.stay X) hv) fun j v hj=>?_;simp only [World.cell?,heap_alloc_new];simp only [Nat.zero_add,Option.isSome_none,Bool.false_eq_true,if_false];rw [←hcs] at hj;simpa using hj
theorem fillE_ok{sz:Nat} : ∀{parts:List (Nat×AV)} {vparts:List (Nat×Value)} {φ:Phi} {H H1:Hp} {es es':List (List PV)} {vss:List (List Value)},HR X φ H w→fillE sz H es parts=some (es',H1)→VRI w (YOf X φ) φ parts vparts→PRLL w (YOf X φ) sz es vss →
   ∃φ1 vss',HR X φ1 H1 w∧Ev φ w φ1 w∧Kp φ H φ1 H1∧es'.length=es.length∧PRLL w (YOf X φ1) sz es' vss'∧Instr.fill (fun i=>some (i*sz,sz)) vss.flatten.toArray vparts=some vss'.flatten.toArray
 | [],vparts,φ,H,H1,es,es',vss,hH,h,hp,hv=>by
  simp only [VRI] at hp; subst hp;simp only [fillE,Option.some.injEq,Prod.mk.injEq] at h; obtain ⟨rfl,rfl⟩:=h;exact ⟨φ,vss,hH,Ev.refl _ _,Kp.refl _ _,rfl,hv,rfl⟩
 | (i,a)::r,vparts,φ,H,H1,es,es',vss,hH,h,hp,hv=>by
  simp only [VRI] at hp;obtain ⟨v,l',rfl,hva,hr⟩:=hp;simp only [fillE] at h
  split at h
  ·rename_i p H2 hpl;obtain ⟨φ2,hH2,ev2,kp2,hpr⟩:=plain_ok hH hpl hva;cases hb:(Nat.beq p.cells.length sz&&Nat.blt i es.length) with
   | false=>simp [hb] at h
   | true =>
    simp only [hb,cond_true] at h;rw [Bool.and_eq_true,Nat.beq_eq,Nat.blt_eq] at hb;have hpc:=pr_cells_of hpr;have hv2:=PRLL.stay (ev2.stay X) hv;have hi:i<vss.length:=by rw [hv.length]; exact hb.2
    have hv3:=hv2.set (i:=i) hb.1 hpc;obtain ⟨φ3,vss',h1,h2,hk,h3,h4,h5⟩:=fillE_ok hH2 h (VRI.stay ev2 X hr) hv3;refine ⟨φ3,vss',h1,ev2.trans h2,kp2.trans hk,by simpa using h3,h4,?_⟩;have hfl:=Qby hv.size;have hcl:=hpc.length;have hle:i*sz+sz≤vss.flatten.length:=by
     rw [hfl];have:(i+1)*sz≤vss.length*sz:=Nat.mul_le_mul_right sz hi;rw [Nat.succ_mul] at this; exact this
    have hcs:v.cells.size=sz:=by rw [←Array.length_toList,hcl,hb.1]
    rw [←h5,flatten_set hv.size hi];generalize vss.flatten=F at hle;have:=fill_fold v.cells.toList 0 (i*sz) F (by rw [Array.length_toList,hcs]; omega);simp only [Instr.fill];rw [if_neg (by simp [hcs]; omega)]
    congr 1
    rw [←Array.foldl_toList,Array.toList_zipIdx];rw [Nat.add_zero,Array.length_toList,hcs] at this;rw [this]
  ·cases h
theorem g_buildP{t n:Nat}{ps:Array (Nat×Operand)}{v:AV}{H':Hp}(hC:Qad P C)(hH:HR X φ H w)(hf:Free φ H nid)(hρ:∀x,VR w (YOf X φ) φ (ra x) (ρ x)) (h:evBuild C nid H t n (ps.toList.map fun p=>(p.1,ra p.2))=some (v,H')) :
  Good nid H X φ w v H' ((execOp ρ ⟨d,.buildSlice t n ps,ty,pos,af,g⟩).run P w):=by
 unfold evBuild at h;cases hti:C.ty t with
 | none=>simp [hti] at h
 | some ti =>
  simp only [hti] at h;have hT:=hC.ty t ti hti
  split at h
  ·rename_i e hk;have hu:=Qct hT hk
   split at h
   ·rename_i te hte;obtain ⟨ie,ze,hie,hse,_,hze,hzl⟩:=Qbm (hC.ty e te hte);cases hb:(Nat.ble (n*te.size) 16777216&&!Nat.beq te.size 0) with
    | false=>simp [hb] at h
    | true =>
     simp only [hb,cond_true] at h;rw [Bool.and_eq_true] at hb;have hb1:n*te.size≤16777216:=by simpa using hb.1
     have hb2:te.size≠0:=fun e=>by rw [e] at hb; simp at hb
     split at h
     ·rename_i es H1 hfill;simp only [Option.some.injEq,Prod.mk.injEq] at h; obtain ⟨rfl,rfl⟩:=h;have hzl2:=tyOK_len (hC.ty e te hte);have hzs:ze.cells.size=te.size:=by rw [←hzl2,←(hzl w (YOf X φ)).length,Array.length_toList]
      have hrep:PRLL w (YOf X φ) te.size (List.replicate n te.zero) (List.replicate n ze.cells.toList):=PRLL.replicate hzl2 (hzl w (YOf X φ));obtain ⟨φ1,vss',h1,h2,hk',h3,h4,h5⟩:=fillE_ok hH hfill (vri_of hρ ps.toList) hrep;refine Good.pre h2 hk' ?_;have hlen:n=es.length:=by simpa using h3.symm
      have hmx:n≤maxLen:=by
       have:n*1≤n*te.size:=Nat.mul_le_mul_left n (by omega);unfold maxLen; omega
      refine good_row h1 (hk'.free hf) (cs:=vss'.flatten.toArray) (t:=e) ?_ hlen hmx (by simp) h4;rcases Nat.eq_zero_or_pos n with h0 | hpos
      ·subst h0;have hps:ps = #[]:=by
        rcases ps with ⟨l⟩;cases l with
        | nil=>rfl
        | cons q l =>
         simp only [List.map_cons,fillE,List.replicate_zero,List.length_nil] at hfill
         split at hfill
         ·rw [show Nat.blt q.1 0=false from by rw [Bool.eq_false_iff]; simp [Nat.blt_eq]] at hfill;simp at hfill
         ·cases hfill
       subst hps;have:vss'.flatten.toArray = #[]:=by
        have h6:vss'.length=0:=by rw [h4.length]; omega
        rw [List.length_eq_zero_iff.1 h6]; rfl
       rw [this];exact x_buildSlice0 hu hie
      ·refine x_buildSlice hu ?_;unfold builtSlice;simp only [hie,hze];rw [if_neg]
       ·rw [hse,zeros_eq hzs (by omega)];have hmap:(ps.map fun (i,x)=>(i,ρ x)).toList=ps.toList.map fun p=>(p.1,ρ p.2):=by simp
        rw [hmap]; exact h5
       ·rw [hse]
        rintro (h | h)
        ·omega
        ·rcases Nat.mul_eq_zero.1 h with h | h<;>omega
     ·cases h
   ·cases h
  ·cases h
end
end Go.Proofs.Ytbgjlpdeoljmiaa
namespace Go.Proofs.Ytbgjlpdeoljmiaa
set_option linter.unusedSimpArgs false
set_option linter.unusedVariables false
open Go.RowKit
section
variable {P:Program} {C:Cfg} {w w':World} {Y X:Nat→Prop} {φ:Phi} {H:Hp}
variable {nid:Nat} {ρ:Operand→Value} {ra:Operand→AV} {d:Option Tmp} {ty:TypeId} {pos:String} {af:Array Edge} {g:Option (Nat×Bool)}
theorem natOf_eq{n:Int}{k:Nat}(h:natOf n=some k):n=(k:Int):=by
 cases n<;>simp [natOf] at h;subst h; rfl
theorem fits_of{n:Nat}{te:TI}(h:Qbg n te=true):n*te.bytes≤140737488355328∧n≤maxLen:=by
 unfold Qbg at h;rw [Bool.and_eq_true] at h;exact ⟨by simpa using h.1,by unfold maxLen; simpa using h.2⟩
theorem g_makeSlice{t:Nat}{l c:Operand}{v:AV}{H':Hp}(hC:Qad P C)(hH:HR X φ H w)(hfr:Free φ H nid)(hρ:∀x,VR w (YOf X φ) φ (ra x) (ρ x))(h:Ql C nid ra H (.makeSlice t l c)=some (v,H')) :
  Good nid H X φ w v H' ((execOp ρ ⟨d,.makeSlice t l c,ty,pos,af,g⟩).run P w):=by
 simp only [Ql] at h
 split at h
 ·rename_i ti k n k' m hti hl hc;have h1:=hρ l;have h2:=hρ c;rw [hl] at h1; rw [hc] at h2;simp only [VR,PR] at h1 h2
  split at h
  ·rename_i e n' hk hn;have hn':=natOf_eq hn;subst hn'
   split at h
   ·rename_i te hte;cases hb:(decide (m=(n':Int))&&Qbg n' te&&!Nat.beq te.size 0) with
    | false=>simp [hb] at h
    | true =>
     simp only [hb,cond_true,Option.some.injEq,Prod.mk.injEq] at h; obtain ⟨rfl,rfl⟩:=h;rw [Bool.and_eq_true,Bool.and_eq_true] at hb;obtain ⟨⟨hm,hf⟩,hz0⟩:=hb;have hm:m=(n':Int):=by simpa using hm
     subst hm;obtain ⟨hf1,hf2⟩:=fits_of hf;have hpos:te.size≠0:=fun e=>by rw [e] at hz0; simp at hz0
     obtain ⟨ie,ze,hie,hse,hbe,hze,hzl⟩:=Qbm (hC.ty e te hte);have hzl2:=tyOK_len (hC.ty e te hte);have hzs:ze.cells.size=te.size:=by rw [←hzl2,←(hzl w (YOf X φ)).length,Array.length_toList]
     have hb':(ie.bytes:Int)*(n':Int)≤281474976710656:=by
      have:ie.bytes*n'≤140737488355328:=by rw [hbe,Nat.mul_comm]; exact hf1
      have h3:((ie.bytes*n':Nat):Int)≤281474976710656:=by omega
      rwa [Int.natCast_mul] at h3
     have hm63:(n':Int)≤9223372036854775807:=by unfold maxLen at hf2; omega
     have hr:=run_make (P:=P) w t e ie ze (Qct (hC.ty t ti hti) hk) hie hze k k' n' n' (by omega) (Int.le_refl _) hb' hm63;simp only [Int.toNat_natCast] at hr;have hrun:(execOp ρ ⟨d,.makeSlice t l c,ty,pos,af,g⟩).run P w = .ok (.value (.slice (some ⟨w.heap.size,0,none⟩) n' n')) (w.alloc (.cells (madeCells ze.cells (n'*ie.size)) e)):=by
      simp [execOp,h1,h2,hr]
     refine good_row hH hfr hrun (by simp) hf2 (vss:=List.replicate n' ze.cells.toList) ?_ (PRLL.replicate hzl2 (hzl w (YOf X φ)));unfold madeCells;rw [hse,zeros_eq hzs (by omega)]
   ·cases h
  ·cases h
 ·cases h

theorem alive_live(hH:HR X φ H w){o:Nat}(h:alive H o=true):∃z l,φ o = .at z l:=by
 unfold alive at h;cases hg:hget H o with
 | none=>simp [hg] at h
 | some x=>obtain ⟨z,l,hl,_⟩:=hH.ob o x hg; exact ⟨z,l,hl⟩
theorem g_fieldAddr{t f:Nat}{x:Operand}{v:AV}{H':Hp}(hC:Qad P C)(hH:HR X φ H w)(hρ:∀x,VR w (YOf X φ) φ (ra x) (ρ x))(h:Ql C nid ra H (.fieldAddr t x f)=some (v,H')) :
  H'=H∧∃u,(execOp ρ ⟨d,.fieldAddr t x f,ty,pos,af,g⟩).run P w = .ok (.value u) w∧VR w (YOf X φ) φ v u:=by
 simp only [Ql] at h
 split at h
 ·rename_i ft off hf;cases hps:posSize C ft with
  | false=>simp [hps] at h
  | true =>
   simp only [hps,cond_true] at h;have hF:FieldAt P t f off:=by
    unfold evField at hf;cases hti:C.ty t with
    | none=>simp [hti] at hf
    | some ti =>
     simp only [hti] at hf
     split at hf
     ·rename_i fs hk;obtain ⟨gs,hu,hfo⟩:=Qcq (hC.ty t ti hti) hk;obtain ⟨fd,hfd,rfl,rfl,_⟩:=fieldsOK_at hfo hf;unfold posSize at hps;cases htf:C.ty fd.type with
      | none=>simp [htf] at hps
      | some tf =>
       simp only [htf] at hps;obtain ⟨i,z,hi,hs,_⟩:=Qbm (hC.ty _ tf htf);refine fieldAt_of hu (by simpa using hfd) (sz:=tf.size) (by simp [hi,hs]) ?_ rfl;rw [Bool.eq_false_iff]; intro e; simp at e; rw [e] at hps; simp at hps
     ·cases hf
   have hx:=hρ x
   split at h
   ·rename_i o i hx';cases ha:alive H o with
    | false=>simp [ha] at h
    | true =>
     simp only [ha,cond_true,Option.some.injEq,Prod.mk.injEq] at h; obtain ⟨rfl,rfl⟩:=h;rw [hx'] at hx;simp only [VR] at hx;obtain ⟨_,l,hl⟩:=alive_live hH ha;obtain ⟨b,hA,he⟩:=hx.2.2 _ l hl;refine ⟨rfl,_,x_field hF he,?_⟩;simp only [VR];exact ⟨rfl,hx.2.1,fun _ l' hl'=>by rw [hl] at hl'; cases hl'; exact ⟨b,hA,rfl⟩⟩
   ·rename_i o k i hx';cases ha:alive H o with
    | false=>simp [ha] at h
    | true =>
     simp only [ha,cond_true,Option.some.injEq,Prod.mk.injEq] at h; obtain ⟨rfl,rfl⟩:=h;rw [hx'] at hx;simp only [VR] at hx;obtain ⟨_,l,hl⟩:=alive_live hH ha;obtain ⟨b,p,hA,he⟩:=hx.2.2 _ l hl;refine ⟨rfl,_,x_field hF he,?_⟩;simp only [VR];exact ⟨rfl,hx.2.1,fun _ l' hl'=>by rw [hl] at hl'; cases hl'; exact ⟨b,p,hA,by rw [Nat.add_assoc]⟩⟩
   ·rename_i c i hx';simp only [Option.some.injEq,Prod.mk.injEq] at h; obtain ⟨rfl,rfl⟩:=h;rw [hx'] at hx;simp only [VR] at hx;obtain ⟨b,o,he,hY,hlt,hc⟩:=hx;exact ⟨rfl,_,x_field hF he,by simp only [VR]; exact ⟨b,o,by rw [Nat.add_assoc],hY,hlt,hc⟩⟩
   ·cases h
 ·cases h
theorem agg_cells{a:AV}{v:Value}(ha:isAggA a=true)(h:VR w Y φ a v):∃vs,v = .agg vs.toArray∧VRL w Y φ a.cells vs:=by
 cases a with
 | agg cs=>simp only [VR] at h; exact h
 | pl p =>
  cases p with
  | agg cs=>simp only [VR,PR] at h; obtain ⟨vs,e,hl⟩:=h; exact ⟨vs,e,hl.vrl⟩
  | _=>simp [isAggA] at ha
 | _=>simp [isAggA] at ha
theorem g_field{t f:Nat}{x:Operand}{v:AV}{H':Hp}(hC:Qad P C)(hρ:∀x,VR w (YOf X φ) φ (ra x) (ρ x))(h:Ql C nid ra H (.field t x f)=some (v,H')) :
  H'=H∧∃u,(execOp ρ ⟨d,.field t x f,ty,pos,af,g⟩).run P w = .ok (.value u) w∧VR w (YOf X φ) φ v u:=by
 simp only [Ql] at h
 split at h
 ·rename_i ft off hf;cases htf:C.ty ft with
  | none=>simp [htf] at h
  | some tf =>
   simp only [htf] at h;cases hb:(Nat.ble (off+tf.size) (ra x).cells.length&&isAggA (ra x)&&!Nat.beq tf.size 0) with
   | false=>simp [hb] at h
   | true =>
    simp only [hb,cond_true] at h;rw [Bool.and_eq_true,Bool.and_eq_true] at hb;obtain ⟨⟨hb1,hb2⟩,hb3⟩:=hb;obtain ⟨vs,hv,hl⟩:=agg_cells hb2 (hρ x);have hlen:=hl.length;have hpos:0<tf.size:=by
     rcases Nat.eq_zero_or_pos tf.size with e | e
     ·rw [e] at hb3; simp at hb3
     ·exact e
    have hle:off+tf.size≤vs.length:=by rw [hlen]; simpa using hb1
    have hrun:(execOp ρ ⟨d,.field t x f,ty,pos,af,g⟩).run P w = .ok (.value (vAt tf.k.row ((vs.drop off).take tf.size))) w:=by
     unfold evField at hf;cases hti:C.ty t with
     | none=>simp [hti] at hf
     | some ti =>
      simp only [hti] at hf
      split at hf
      ·rename_i fs hk;obtain ⟨gs,hu,hfo⟩:=Qcq (hC.ty t ti hti) hk;obtain ⟨fd,hfd,rfl,rfl,_⟩:=fieldsOK_at hfo hf;have hp:=run_part (w:=w) (hC.ty _ tf htf) hle (fun _=>hpos);have hfd':gs[f]?=some fd:=by simpa using hfd
       simp [execOp,hv,Instr.field,run_underlying hu,hfd',asAgg,hp]
      ·cases hf
    cases hr:tf.k.row with
    | true =>
     simp only [hr,cond_true,Option.some.injEq,Prod.mk.injEq] at h; obtain ⟨rfl,rfl⟩:=h;rw [hr] at hrun;exact ⟨rfl,_,hrun,VR.mkAgg ((hl.drop off).take tf.size)⟩
    | false =>
     simp only [hr,cond_false,Option.map_eq_some_iff,Prod.mk.injEq] at h;obtain ⟨c,hc,rfl,rfl⟩:=h;rw [hr] at hrun;obtain ⟨u,h1,_,h2⟩:=VRL.at hl hc;refine ⟨rfl,_,hrun,?_⟩;have:vAt false ((vs.drop off).take tf.size)=u:=by
      have hlt:off<vs.length:=by omega
      rw [List.getElem?_eq_getElem hlt] at h1;cases h1;simp only [vAt,Bool.false_eq_true,if_false];rw [List.drop_eq_getElem_cons hlt];obtain ⟨n,hn⟩:∃n,tf.size=n+1:=⟨tf.size-1,by omega⟩;rw [hn]; rfl
     rw [this]; exact h2
 ·cases h
theorem run_indexAt_sl{t e:Nat}{te:TI}{b o n c i:Nat}{k:IntKind}(ht:P.underlying t=some (.slice e))(he:Qcn P e te=true)(hi:i<n) :
  (Instr.indexAt t (.slice (some ⟨b,o,none⟩) n c) (.int k (i:Int))).run P w = .ok (.pointer (some ⟨b,o+i*te.size,none⟩)) w:=by
 have h0:(0:Int)≤i:=by omega
 have hs:=run_size (w:=w) he;simp [Instr.indexAt,asIntOf,run_underlying ht,h0,hi,hs,Addr.add_mid]
theorem run_indexAt_arr{t m e:Nat}{te:TI}{b o i:Nat}{k:IntKind}(ht:P.underlying t=some (.array m e))(he:Qcn P e te=true)(hi:i<m) :
  (Instr.indexAt t (.pointer (some ⟨b,o,none⟩)) (.int k (i:Int))).run P w = .ok (.pointer (some ⟨b,o+i*te.size,none⟩)) w:=by
 have h0:(0:Int)≤i:=by omega
 have hs:=run_size (w:=w) he;simp [Instr.indexAt,asIntOf,run_underlying ht,h0,hi,hs,Addr.add_mid,Instr.sureAddr]
theorem x_indexAddr{t:Nat}{x y:Operand}{v:Value} (h:(Instr.indexAt t (ρ x) (ρ y)).run P w = .ok v w):(execOp ρ ⟨d,.indexAddr t x y,ty,pos,af,g⟩).run P w = .ok (.value v) w:=by
 simp [execOp,h]
theorem g_indexAddr{t:Nat}{x y:Operand}{a i v:AV}(hC:Qad P C)(hH:HR X φ H w)(h:Qae C H t a i=some v)(hx:VR w (YOf X φ) φ a (ρ x))(hy:VR w (YOf X φ) φ i (ρ y)) :
  ∃u,(execOp ρ ⟨d,.indexAddr t x y,ty,pos,af,g⟩).run P w = .ok (.value u) w∧VR w (YOf X φ) φ v u:=by
 unfold Qae at h
 split at h
 ·rename_i ti k n hti;simp only [VR,PR] at hy
  split at h
  ·cases h
  ·rename_i i' hi';have hn:=natOf_eq hi';subst hn
   split at h
   ·rename_i e hk;have hu:=Qct (hC.ty t ti hti) hk
    split at h
    ·cases h
    ·rename_i te hte;have hE:=hC.ty e te hte
     split at h
     ·rename_i f sz es;cases hb:Nat.beq sz te.size with
      | false=>simp [hb] at h
      | true =>
       simp only [hb,cond_true,Option.map_eq_some_iff] at h;rw [Nat.beq_eq] at hb; subst hb;obtain ⟨c,hc,rfl⟩:=h;have hlt:i'<es.length:=(List.getElem?_eq_some_iff.1 hc).1;simp only [VR,PR] at hx;obtain ⟨A,cp,hv,_,_,_,hA⟩:=hx;rcases hA with hA | ⟨b,o,rfl,hY,hltb,hPE⟩
       ·omega
       ·refine ⟨_,x_indexAddr (by rw [hv,hy]; exact run_indexAt_sl hu hE hlt),?_⟩;simp only [VR];exact ⟨b,o+i'*te.size,rfl,hY,hltb,(hPE.at hc).2⟩
     ·rename_i o
      split at h
      ·rename_i fz sz es ho;cases hb:(Nat.beq sz te.size&&Nat.blt i' es.length) with
       | false=>simp [hb] at h
       | true =>
        simp only [hb,cond_true,Option.some.injEq] at h; subst h;rw [Bool.and_eq_true,Nat.beq_eq,Nat.blt_eq] at hb;obtain ⟨rfl,hlt⟩:=hb;obtain ⟨z,l,hl,hO⟩:=hH.ob _ _ ho;simp only [VR] at hx;have hv:=hx.2.2 _ l hl;simp only [OR] at hO;obtain ⟨hz,h1,h2,h3,h4,h5⟩:=hO;rcases h5 with ⟨_,h6⟩|⟨b,p,t',cs,hA,hg,hs,hPE,_⟩
        ·omega
        ·simp only [Loc.addr,hA,Option.map_some,Nat.zero_mul,Nat.add_zero] at hv;refine ⟨_,x_indexAddr (by rw [hv,hy]; exact run_indexAt_sl hu hE (by omega)),?_⟩;simp only [VR];exact ⟨rfl,hx.2.1,fun _ l' hl'=>by rw [hl] at hl'; cases hl'; exact ⟨b,p,hA,by rw [h2,Nat.add_zero]⟩⟩
      ·cases h
     ·rename_i o off len
      split at h
      ·rename_i fz sz es ho;cases hb:(Nat.beq sz te.size&&(Nat.blt i' len&&Nat.ble (off+len) es.length)) with
       | false=>simp [hb] at h
       | true =>
        simp only [hb,cond_true,Option.some.injEq] at h; subst h;rw [Bool.and_eq_true,Bool.and_eq_true,Nat.beq_eq,Nat.blt_eq] at hb;obtain ⟨rfl,hlt,hle⟩:=hb;have hle:off+len≤es.length:=by simpa using hle
        obtain ⟨z,l,hl,hO⟩:=hH.ob _ _ ho;simp only [VR] at hx;obtain ⟨A,c,hv,_,hc,hA0⟩:=hx.2.2 _ l hl;simp only [OR] at hO;obtain ⟨hz,h1,h2,h3,h4,h5⟩:=hO;rcases h5 with ⟨_,h6⟩|⟨b,p,t',cs,hA,hg,hs,hPE,_⟩
        ·omega
        ·obtain ⟨hA1,_⟩:=hA0 (by omega);simp only [Loc.addr,hA,Option.map_some] at hA1;subst hA1;refine ⟨_,x_indexAddr (by rw [hv,hy]; exact run_indexAt_sl hu hE hlt),?_⟩;simp only [VR];exact ⟨rfl,hx.2.1,fun _ l' hl'=>by rw [hl] at hl'; cases hl'; exact ⟨b,p,hA,by rw [h2,Nat.add_zero,Nat.add_mul,Nat.add_assoc]⟩⟩
      ·cases h
     ·cases h
   ·rename_i m e hk;have hu:=und_arr (hC.ty t ti hti) hk
    split at h
    ·cases h
    ·rename_i te hte;have hE:=hC.ty e te hte;cases hb:Nat.blt i' m with
     | false=>simp [hb] at h
     | true =>
      simp only [hb,cond_true] at h;rw [Nat.blt_eq] at hb
      split at h
      ·rename_i o off;cases ha:alive H o with
       | false=>simp [ha] at h
       | true =>
        simp only [ha,cond_true,Option.some.injEq] at h; subst h;obtain ⟨_,l,hl⟩:=alive_live hH ha;simp only [VR] at hx;obtain ⟨b,hA,hv⟩:=hx.2.2 _ l hl;refine ⟨_,x_indexAddr (by rw [hv,hy]; exact run_indexAt_arr hu hE hb),?_⟩;simp only [VR];exact ⟨rfl,hx.2.1,fun _ l' hl'=>by rw [hl] at hl'; cases hl'; exact ⟨b,hA,rfl⟩⟩
      ·rename_i c off;simp only [Option.some.injEq] at h; subst h;simp only [VR] at hx;obtain ⟨b,o,hv,hY,hlt,hc⟩:=hx;refine ⟨_,x_indexAddr (by rw [hv,hy]; exact run_indexAt_arr hu hE hb),?_⟩;simp only [VR];exact ⟨b,o,by rw [Nat.add_assoc],hY,hlt,hc⟩
      ·rename_i o j off;cases ha:alive H o with
       | false=>simp [ha] at h
       | true =>
        simp only [ha,cond_true,Option.some.injEq] at h; subst h;obtain ⟨_,l,hl⟩:=alive_live hH ha;simp only [VR] at hx;obtain ⟨b,p,hA,hv⟩:=hx.2.2 _ l hl;refine ⟨_,x_indexAddr (by rw [hv,hy]; exact run_indexAt_arr hu hE hb),?_⟩;simp only [VR];exact ⟨rfl,hx.2.1,fun _ l' hl'=>by rw [hl] at hl'; cases hl'; exact ⟨b,p,hA,by rw [Nat.add_assoc]⟩⟩
      ·cases h
   ·cases h
 ·cases h
end
end Go.Proofs.Ytbgjlpdeoljmiaa
