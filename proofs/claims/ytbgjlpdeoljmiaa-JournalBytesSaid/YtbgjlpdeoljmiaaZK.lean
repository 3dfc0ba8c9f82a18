/- The model's operations, one equation each. No condition. -/
import Derived.WalkKit
import Derived.WalkLawsBesides
import Derived.Deep.MidRow
import Derived.WalkSpells
namespace Go.Proofs.Ytbgjlpdeoljmiaa
set_option linter.unusedSimpArgs false
set_option linter.unusedVariables false
open Go.RowKit
section
variable {P:Program} {ρ:Operand→Value} {w:World} {d:Option Tmp} {ty:TypeId} {pos:String} {af:Array Edge} {g:Option (Nat×Bool)}
theorem x_move{x:Operand}{v:Value}(hx:ρ x=v):(execOp ρ ⟨d,.move x,ty,pos,af,g⟩).run P w = .ok (.value v) w:=by rw [←hx]; rfl
theorem x_assign{x:Operand}{v:Value}(hx:ρ x=v):(execOp ρ ⟨d,.assign x,ty,pos,af,g⟩).run P w = .ok (.value v) w:=by rw [←hx]; rfl
theorem x_pick{c x y:Operand}{b:Bool}{v:Value}(hc:ρ c = .bool b)(hv:(if b then ρ x else ρ y)=v):(execOp ρ ⟨d,.pick c x y,ty,pos,af,g⟩).run P w = .ok (.value v) w:=by
 subst hv; simp [execOp,hc,go_sem]
theorem x_lss{t t':TypeId}{k:IntKind}{x y:Operand}{p q:Int}(hx:ρ x = .int k p)(hy:ρ y = .int k q):(execOp ρ ⟨d,.binOp .lss t x y t',ty,pos,af,g⟩).run P w = .ok (.value (.bool (decide (p<q)))) w:=by
 simp [execOp,hx,hy,eqGuard,binOp,Op.intCmp]
theorem x_leq{t t':TypeId}{k:IntKind}{x y:Operand}{p q:Int}(hx:ρ x = .int k p)(hy:ρ y = .int k q):(execOp ρ ⟨d,.binOp .leq t x y t',ty,pos,af,g⟩).run P w = .ok (.value (.bool (decide (p≤q)))) w:=by
 simp [execOp,hx,hy,eqGuard,binOp,Op.intCmp]
theorem x_gtr{t t':TypeId}{k:IntKind}{x y:Operand}{p q:Int}(hx:ρ x = .int k p)(hy:ρ y = .int k q):(execOp ρ ⟨d,.binOp .gtr t x y t',ty,pos,af,g⟩).run P w = .ok (.value (.bool (decide (q<p)))) w:=by
 simp [execOp,hx,hy,eqGuard,binOp,Op.intCmp]
theorem x_geq{t t':TypeId}{k:IntKind}{x y:Operand}{p q:Int}(hx:ρ x = .int k p)(hy:ρ y = .int k q):(execOp ρ ⟨d,.binOp .geq t x y t',ty,pos,af,g⟩).run P w = .ok (.value (.bool (decide (q≤p)))) w:=by
 simp [execOp,hx,hy,eqGuard,binOp,Op.intCmp]
theorem x_eql{t t':TypeId}{k:IntKind}{x y:Operand}{p q:Int}(hx:ρ x = .int k p)(hy:ρ y = .int k q):(execOp ρ ⟨d,.binOp .eql t x y t',ty,pos,af,g⟩).run P w = .ok (.value (.bool (decide (p=q)))) w:=by
 simp [execOp,hx,hy,eqGuard,binOp,Op.intCmp]; rfl
theorem x_neq{t t':TypeId}{k:IntKind}{x y:Operand}{p q:Int}(hx:ρ x = .int k p)(hy:ρ y = .int k q):(execOp ρ ⟨d,.binOp .neq t x y t',ty,pos,af,g⟩).run P w = .ok (.value (.bool (!decide (p=q)))) w:=by
 simp [execOp,hx,hy,eqGuard,binOp,Op.intCmp]; rfl
theorem x_add{t t':TypeId}{k:IntKind}{x y:Operand}{p q:Int}(hx:ρ x = .int k p)(hy:ρ y = .int k q):(execOp ρ ⟨d,.binOp .add t x y t',ty,pos,af,g⟩).run P w = .ok (.value (.int k (k.wrap (p+q)))) w:=by
 simp [execOp,hx,hy,eqGuard,binOp,Op.intArith]
theorem x_sub{t t':TypeId}{k:IntKind}{x y:Operand}{p q:Int}(hx:ρ x = .int k p)(hy:ρ y = .int k q):(execOp ρ ⟨d,.binOp .sub t x y t',ty,pos,af,g⟩).run P w = .ok (.value (.int k (k.wrap (p-q)))) w:=by
 simp [execOp,hx,hy,eqGuard,binOp,Op.intArith]
theorem x_mul{t t':TypeId}{k:IntKind}{x y:Operand}{p q:Int}(hx:ρ x = .int k p)(hy:ρ y = .int k q):(execOp ρ ⟨d,.binOp .mul t x y t',ty,pos,af,g⟩).run P w = .ok (.value (.int k (k.wrap (p*q)))) w:=by
 simp [execOp,hx,hy,eqGuard,binOp,Op.intArith]
theorem w64{x y:Int}(h:x=y)(h1:-9223372036854775808≤y)(h2:y≤9223372036854775807):IntKind.i64.wrap x=y:=by
 subst h; exact IntWalk.i64_in _ ⟨h1,h2⟩
theorem beq_bytes(a b:ByteArray):(a.toList == b.toList)=decide (a.data.toList=b.data.toList):=by
 rw [Bool.eq_iff_iff,ByteArray.toList_eq,ByteArray.toList_eq,decide_eq_true_iff]; exact beq_iff_eq
theorem x_eqs{t t':TypeId}{x y:Operand}{p q:ByteArray}(hx:ρ x = .string p)(hy:ρ y = .string q):(execOp ρ ⟨d,.binOp .eql t x y t',ty,pos,af,g⟩).run P w = .ok (.value (.bool (decide (p.data.toList=q.data.toList)))) w:=by
 rw [←beq_bytes]; simp [execOp,hx,hy,eqGuard,binOp,Op.stringOp]
theorem x_nes{t t':TypeId}{x y:Operand}{p q:ByteArray}(hx:ρ x = .string p)(hy:ρ y = .string q):(execOp ρ ⟨d,.binOp .neq t x y t',ty,pos,af,g⟩).run P w = .ok (.value (.bool (!decide (p.data.toList=q.data.toList)))) w:=by
 rw [←beq_bytes]; simp [execOp,hx,hy,eqGuard,binOp,Op.stringOp]
theorem x_not{t:TypeId}{x:Operand}{b:Bool}(hx:ρ x = .bool b):(execOp ρ ⟨d,.unOp .not t x,ty,pos,af,g⟩).run P w = .ok (.value (.bool (!b))) w:=by
 simp [execOp,hx,go_sem]
theorem x_lensl{t e:TypeId}{x:Operand}{A:Option Addr}{n c:Nat}(ht:P.underlying t=some (.slice e))(hx:ρ x = .slice A n c) :
  (execOp ρ ⟨d,.call { callee:=.builtin .len,args:=#[x],argTypes:=#[t] },ty,pos,af,g⟩).run P w = .ok (.value (.int .i64 n)) w:=by
 simp [go_sem,hx,Builtin.len_,run_underlying ht,goInt]
theorem x_extract{x:Operand}{vs:Array Value}{i:Nat}{v:Value}(hx:ρ x = .tuple vs)(hv:vs[i]?=some v):(execOp ρ ⟨d,.extract x i,ty,pos,af,g⟩).run P w = .ok (.value v) w:=by
 simp [execOp,hx,Instr.extract,hv]
end
section
variable {P:Program} {ρ:Operand→Value} {w w' w0:World} {d:Option Tmp} {ty:TypeId} {pos:String} {af:Array Edge} {g:Option (Nat×Bool)}
theorem x_box{t:TypeId}{x:Operand}{v:Value}(hx:ρ x=v):(execOp ρ ⟨d,.box t x,ty,pos,af,g⟩).run P w = .ok (.value (.pointer (some ⟨w.heap.size,0,none⟩))) (w.alloc (.cells v.cells t)):=by
 subst hx;simp [go_sem]
theorem x_alloc{t:TypeId}{i:TypeInfo}{z:Value}(hi:P.info? t=some i)(hz:i.zero=some z):(execOp ρ ⟨d,.alloc t,ty,pos,af,g⟩).run P w = .ok (.value (.pointer (some ⟨w.heap.size,0,none⟩))) (w.alloc (.cells z.cells t)):=by
 simp [go_sem,zeroValue,typeInfo,hi,hz]
theorem run_isAgg_no{t:TypeId}{u:TypeDesc}(hu:P.underlying t=some u)(hd:u.isRow=false):(isAgg t).run P w = .ok false w:=by
 unfold isAgg;rw [Sem.run_bind,run_underlying hu w];cases u<;>simp_all [TypeDesc.isRow]
theorem x_load1{t:TypeId}{u:TypeDesc}{x:Operand}{a:Addr}{v:Value}(hu:P.underlying t=some u)(hd:u.isRow=false)(hx:ρ x = .pointer (some a))(hc:w.cell? a=some v) :
  (execOp ρ ⟨d,.load t x,ty,pos,af,g⟩).run P w = .ok (.value v) w:=by
 have h1:(Instr.loadAt t (.pointer (some a))).run P w = .ok v w:=by
  simp [Instr.loadAt,Instr.sureAddr,loadVar,Sem.run_bind,run_isAgg_no hu hd,run_load,hc]
 simp [execOp,hx,h1]
theorem x_loadn{t:TypeId}{u:TypeDesc}{x:Operand}{b o:Nat}{cs:List Value}(hu:P.underlying t=some u)(hd:u.isRow=true)(hi:(P.info? t).map (·.size)=some cs.length)(hx:ρ x = .pointer (some ⟨b,o,none⟩))(hc:w.rangeAt b o cs) :
  (execOp ρ ⟨d,.load t x,ty,pos,af,g⟩).run P w = .ok (.value (.agg cs.toArray)) w:=by
 simp [execOp,hx,run_loadAt_mid w b o t cs u hc hu hd hi]
theorem x_store1{t:TypeId}{x y:Operand}{b o:Nat}{v old:Value}(hi:(P.info? t).map (·.size)=some 1)(h1:v.oneCell'=true)(hv:v.cells = #[v])(hx:ρ x = .pointer (some ⟨b,o,none⟩))(hy:ρ y=v)
  (hc:w.cell? ⟨b,o,none⟩=some old) (hf:w.frozen? ⟨b,o,none⟩=false):(execOp ρ ⟨d,.store t x y,ty,pos,af,g⟩).run P w = .ok .skip (w.setCell ⟨b,o,none⟩ v):=by
 have hs:(store ⟨b,o,none⟩ v).run P w = .ok () (w.setCell ⟨b,o,none⟩ v):=by
  rw [run_store P w _ v _ h1,hc];simp [hf]
 have ha:(storeCells ⟨b,o,none⟩ [v]).run P w = .ok () (w.setCell ⟨b,o,none⟩ v):=by
  simp [storeCells,Addr.add,hs]
 cases hq:P.info? t with
 | none=>simp [hq] at hi
 | some i =>
  have hi':i.size=1:=by simpa [hq] using hi
  have h2:(Instr.storeAt t (.pointer (some ⟨b,o,none⟩)) v).run P w = .ok () (w.setCell ⟨b,o,none⟩ v):=by
   simp only [Instr.storeAt,Instr.sureAddr,Sem.run_bind,Sem.run_pure,Result.andThen_ok,storeVar,sizeOf,typeInfo,hv];simp [hq,hi',ha]
  simp [execOp,hx,hy,h2]

def FieldAt(P:Program)(s f off:Nat):Prop:=∀(b o:Nat)(w:World),(Instr.fieldAt s (.pointer (some ⟨b,o,none⟩)) f).run P w = .ok (.pointer (some ⟨b,o+off,none⟩)) w
theorem fieldAt_of{s f:Nat}{fs:Array Field}{fd:Field}{off sz:Nat}(hs:P.underlying s=some (.struct fs))(hf:fs[f]?=some fd)(hz:(P.info? fd.type).map (·.size)=some sz)(hsz:(sz == 0)=false)(ho:fd.offset=off):FieldAt P s f off:=by
 intro b o w;cases hq:P.info? fd.type with
 | none=>simp [hq] at hz
 | some i =>
  have hi':i.size=sz:=by simpa [hq] using hz
  have hne:sz≠0:=by simpa using hsz
  simp [Instr.fieldAt,run_underlying hs,hf,Instr.sureAddr,fieldPlace,sizeOf,typeInfo,hq,hi',hne,ho,Addr.add_mid]
theorem x_field{s f off:Nat}{x:Operand}{b o:Nat}(hF:FieldAt P s f off)(hx:ρ x = .pointer (some ⟨b,o,none⟩)) :
  (execOp ρ ⟨d,.fieldAddr s x f,ty,pos,af,g⟩).run P w = .ok (.value (.pointer (some ⟨b,o+off,none⟩))) w:=by
 simp [execOp,hx,hF b o w]

def ElemAt(P:Program)(t sz:Nat):Prop:=∀(b o n c k:Nat)(w:World),k<n→(Instr.indexAt t (.slice (some ⟨b,o,none⟩) n c) (.int .i64 (k:Int))).run P w = .ok (.pointer (some ⟨b,o+k*sz,none⟩)) w
theorem elemAt_of{t e sz:Nat}(ht:P.underlying t=some (.slice e))(hz:(P.info? e).map (·.size)=some sz):ElemAt P t sz:=by
 intro b o n c k w hk;cases hq:P.info? e with
 | none=>simp [hq] at hz
 | some i =>
  have hi':i.size=sz:=by simpa [hq] using hz
  have h0:(0:Int)≤k:=by omega
  simp [Instr.indexAt,asIntOf,run_underlying ht,h0,hk,sizeOf,typeInfo,hq,hi',Addr.add_mid]
theorem x_elem{t sz:Nat}{x y:Operand}{b o n c k:Nat}{i:Int}(hE:ElemAt P t sz)(hx:ρ x = .slice (some ⟨b,o,none⟩) n c)(hy:ρ y = .int .i64 i)(hi:i=(k:Int))(hk:k<n) :
  (execOp ρ ⟨d,.indexAddr t x y,ty,pos,af,g⟩).run P w = .ok (.value (.pointer (some ⟨b,o+k*sz,none⟩))) w:=by
 subst hi;simp [execOp,hx,hy,hE b o n c k w hk]

theorem run_info{e:TypeId}{i:TypeInfo}(hq:P.info? e=some i):(typeInfo e).run P w = .ok i w:=by simp [typeInfo,hq]
theorem x_build{t:TypeId}{parts:Array (Nat×Operand)}{cs:Array Value} (hb:P.built t (parts.map fun (i,x)=>(i,ρ x)).toList=some cs) :
  (execOp ρ ⟨d,.build t parts,ty,pos,af,g⟩).run P w = .ok (.value (.agg cs)) w:=by
 simp [execOp,run_build w t _ cs hb]

def builtSlice(P:Program)(e len:Nat)(parts:List (Nat×Value)):Option (Array Value) :=
 match P.info? e with
 | some i=>match i.zero with
  | some z=>if len*i.size > 2 ^ 24∨len*i.size=0 then none else Instr.fill (fun k=>some (k*i.size,i.size)) ((Array.range (len*i.size)).map (z.cells[· % z.cells.size]!)) parts
  | none=>none
 | none=>none
theorem x_buildSlice{t e len:Nat}{parts:Array (Nat×Operand)}{cs:Array Value}(ht:P.underlying t=some (.slice e)) (hb:builtSlice P e len (parts.map fun (i,x)=>(i,ρ x)).toList=some cs) :
  (execOp ρ ⟨d,.buildSlice t len parts,ty,pos,af,g⟩).run P w = .ok (.value (.slice (some ⟨w.heap.size,0,none⟩) len len)) (w.alloc (.cells cs e)):=by
 unfold builtSlice at hb;cases hq:P.info? e with
 | none=>simp [hq] at hb
 | some i =>
  cases hz:i.zero with
  | none=>simp [hq,hz] at hb
  | some z =>
   simp only [hq,hz] at hb
   split at hb
   ·cases hb
   ·rename_i hn;have h1:¬len*i.size > 2 ^ 24:=fun h=>hn (.inl h);have h2:¬len*i.size=0:=fun h=>hn (.inr h);have hr:(Instr.buildSlice t len (parts.map fun (i,x)=>(i,ρ x))).run P w = .ok (.slice (some ⟨w.heap.size,0,none⟩) len len) (w.alloc (.cells cs e)):=by
     have ha:(newRow e cs).run P w = .ok ⟨w.heap.size,0,none⟩ (w.alloc (.cells cs e)):=by simp [newRow,go_sem]
     have hs:(sizeOf e).run P w = .ok i.size w:=by simp [sizeOf,run_info hq]
     have hzv:(zeroValue e).run P w = .ok z w:=by simp [zeroValue,run_info hq,hz]
     simp only [Instr.buildSlice,Sem.run_bind,run_underlying ht,Result.andThen_ok,hs,h1,h2,if_false,Sem.run_pure,hzv,hb,ha]
    simp [execOp,hr]
theorem x_buildSlice0{t e:Nat}{i:TypeInfo}(ht:P.underlying t=some (.slice e))(hq:P.info? e=some i) :
  (execOp ρ ⟨d,.buildSlice t 0 #[],ty,pos,af,g⟩).run P w = .ok (.value (.slice (some ⟨w.heap.size,0,none⟩) 0 0)) (w.alloc (.cells #[] e)):=by
 have hr:(Instr.buildSlice t 0 #[]).run P w = .ok (.slice (some ⟨w.heap.size,0,none⟩) 0 0) (w.alloc (.cells #[] e)):=by
  simp [Instr.buildSlice,Sem.run_bind,run_underlying ht,sizeOf,typeInfo,hq,go_sem,Instr.fill]
 simp [execOp,hr]

theorem x_makeFunc{fn:Fn}{first captured:Array Operand}{fs cs:Array Value}(h1:first.map ρ=fs)(h2:captured.map ρ=cs):(execOp ρ ⟨d,.makeFunc fn first captured,ty,pos,af,g⟩).run P w = .ok (.value (.func fn fs cs)) w:=by
 subst h1; subst h2; rfl
theorem x_nilCheck{x:Operand}{a:Addr}(hx:ρ x = .pointer (some a)):(execOp ρ ⟨d,.nilCheck x,ty,pos,af,g⟩).run P w = .ok (.value (.pointer (some a))) w:=by
 simp [execOp,hx]

def Enters(P:Program)(k:Nat):Prop:=∀(args:Array Value)(w:World),(callFunc k args).run P w = .ok (.enter k args) w
theorem enters_of{k:Nat}{fn:Func}(hf:P.funcs[k]? = some fn)(hn:(fn.name == "runtime.NumGoroutine") = false)(hb:fn.body.isNone = false) : Enters P k := by
 intro args w
 have h1 : fn.name ≠ "runtime.NumGoroutine" := by simpa using hn
 have h2:fn.body≠none:=by intro h; simp [h] at hb
 simp [callFunc,hf,h1,h2]
theorem x_call{k:Nat}{f:Operand}{args:Array Operand}{ts:Array TypeId}{vs cap:Array Value}(hE:Enters P k)(hf:ρ f = .func (.func k) #[] cap)(ha:args.map ρ++cap=vs) :
  (execOp ρ ⟨d,.call { callee:=.value f,args:=args,argTypes:=ts },ty,pos,af,g⟩).run P w = .ok (.enter k vs) w:=by
 subst ha;have:=hE (args.map ρ++cap) w;simp [execOp,resolve,hf,Deferred.ofValue,invoke,this]
end

end Go.Proofs.Ytbgjlpdeoljmiaa
