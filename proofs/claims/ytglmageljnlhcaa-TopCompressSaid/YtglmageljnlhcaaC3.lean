/- Several texts in one. No condition. -/
import Derived.Test.YtglmageljnlhcaaProg
import Derived.Test.YtglmageljnlhcaaTU
import Derived.Test.YtglmageljnlhcaaTy
import Derived.Test.YtglmageljnlhcaaTV
namespace Go.Proofs.Ytglmageljnlhcaa
open Go.Shelf
def so_ren:Go.Shelf.Ren:=⟨fun | 6=>18 | 14=>30 | 15=>31 | 20=>40 | 21=>41 | 22=>42 | 23=>43 | 24=>44 | 25=>45 | 26=>46 | 27=>47 | 28=>48 | 29=>49 | 46=>52 | 47=>53 | 48=>54 | 49=>55 | 50=>56 | n=>n,fun | 22=>49 | 24=>53 | 25=>58 | 39=>67 | 45=>83 | 46=>84 | 50=>88 | 53=>91 | 55=>93 | 66=>97 | 70=>101 | 76=>103 | 77=>104 | n=>n,fun n=>n⟩
theorem so_lays:SlLaysF0.n6 Try.prog so_ren:={
 mixed:=by kernel_rfl,
 f6:=⟨Try.f18.name,by kernel_rfl,Try.func18.trans (congrArg some (by kernel_rfl))⟩,
 f14:=⟨Try.f30.name,by kernel_rfl,Try.func30.trans (congrArg some (by kernel_rfl))⟩,
 f15:=Try.func31.trans (congrArg some (by kernel_rfl)),
 f20:=⟨Try.f40.name,by kernel_rfl,Try.func40.trans (congrArg some (by kernel_rfl))⟩,
 f21:=⟨Try.f41.name,by kernel_rfl,Try.func41.trans (congrArg some (by kernel_rfl))⟩,
 f22:=⟨Try.f42.name,by kernel_rfl,Try.func42.trans (congrArg some (by kernel_rfl))⟩,
 f23:=⟨Try.f43.name,by kernel_rfl,Try.func43.trans (congrArg some (by kernel_rfl))⟩,
 f24:=⟨Try.f44.name,by kernel_rfl,Try.func44.trans (congrArg some (by kernel_rfl))⟩,
 f25:=⟨Try.f45.name,by kernel_rfl,Try.func45.trans (congrArg some (by kernel_rfl))⟩,
 f26:=⟨Try.f46.name,by kernel_rfl,Try.func46.trans (congrArg some (by kernel_rfl))⟩,
 f27:=⟨Try.f47.name,by kernel_rfl,Try.func47.trans (congrArg some (by kernel_rfl))⟩,
 f28:=Try.func48.trans (congrArg some (by kernel_rfl)),
 f29:=Try.func49.trans (congrArg some (by kernel_rfl)),
 f46:=⟨Try.f52.name,by kernel_rfl,Try.func52.trans (congrArg some (by kernel_rfl))⟩,
 f47:=Try.func53.trans (congrArg some (by kernel_rfl)),
 f48:=Try.func54.trans (congrArg some (by kernel_rfl)),
 f49:=⟨Try.f55.name,by kernel_rfl,Try.func55.trans (congrArg some (by kernel_rfl))⟩,
 f50:=⟨Try.f56.name,by kernel_rfl,Try.func56.trans (congrArg some (by kernel_rfl))⟩,
 f57:=⟨Try.f57.name,by kernel_rfl,Try.func57.trans (congrArg some (by kernel_rfl))⟩,
 t0:=Try.underlying0,
 a0:=Try.isAgg0,
 z0:=Try.sizeOf0,
 v0:=Try.zeroValue0,
 t3:=Try.underlying3,
 a3:=Try.isAgg3,
 z3:=Try.sizeOf3,
 v3:=Try.zeroValue3,
 t4:=Try.underlying4,
 a4:=Try.isAgg4,
 z4:=Try.sizeOf4,
 v4:=Try.zeroValue4,
 t5:=Try.underlying5,
 a5:=Try.isAgg5,
 z5:=Try.sizeOf5,
 v5:=Try.zeroValue5,
 t9:=Try.underlying9,
 a9:=Try.isAgg9,
 z9:=Try.sizeOf9,
 v9:=Try.zeroValue9,
 t22:=Try.underlying49,
 a22:=Try.isAgg49,
 z22:=Try.sizeOf49,
 v22:=Try.zeroValue49,
 t25:=Try.underlying58,
 a25:=Try.isAgg58,
 z25:=Try.sizeOf58,
 v25:=Try.zeroValue58,
 t39:=Try.underlying67,
 a39:=Try.isAgg67,
 z39:=Try.sizeOf67,
 v39:=Try.zeroValue67,
 t45:=Try.underlying83,
 a45:=Try.isAgg83,
 z45:=Try.sizeOf83,
 v45:=Try.zeroValue83,
 t46:=Try.underlying84,
 a46:=Try.isAgg84,
 z46:=Try.sizeOf84,
 v46:=Try.zeroValue84,
 t50:=Try.underlying88,
 a50:=Try.isAgg88,
 z50:=Try.sizeOf88,
 v50:=Try.zeroValue88,
 t53:=Try.underlying91,
 a53:=Try.isAgg91,
 z53:=Try.sizeOf91,
 v53:=Try.zeroValue91,
 t55:=Try.underlying93,
 a55:=Try.isAgg93,
 z55:=Try.sizeOf93,
 v55:=Try.zeroValue93,
 t66:=Try.underlying97,
 a66:=Try.isAgg97,
 z66:=Try.sizeOf97,
 v66:=Try.zeroValue97,
 t70:=Try.underlying101,
 a70:=Try.isAgg101,
 z70:=Try.sizeOf101,
 v70:=Try.zeroValue101,
 t76:=Try.underlying103,
 a76:=Try.isAgg103,
 z76:=Try.sizeOf103,
 v76:=Try.zeroValue103,
 t77:=Try.underlying104,
 a77:=Try.isAgg104,
 z77:=Try.sizeOf104,
 v77:=Try.zeroValue104 }
theorem so_agg:∀w,(isAgg (so_ren.t 24)).run Try.prog w = .ok true w:=Try.isAgg53
theorem so_size:∀w,(Go.sizeOf (so_ren.t 24)).run Try.prog w = .ok 7 w:=Try.sizeOf53
end Go.Proofs.Ytglmageljnlhcaa
namespace Go.Proofs.Ytglmageljnlhcaa
set_option linter.unusedVariables false
set_option linter.unusedSimpArgs false
set_option maxRecDepth 100000
open Go.RowKit
structure Qa where
 From:ByteArray
 To:ByteArray
 Contract:ByteArray
 Amount:Int
def Qa.cells(x:Qa):List PV:=[.str x.From,.str x.To,.str x.Contract,.int .i64 x.Amount]
theorem Qa.cells_eq(x y:Qa):(Qa.cells x=Qa.cells y)=(x=y):=propext ⟨fun h=>by
 cases x; cases y
 simp_all [Qa.cells],fun h=>by rw [h]⟩
theorem Qa.map_eq(x y:List Qa):(x.map Qa.cells=y.map Qa.cells)=(x=y):=map_eq_of fun a b h=>by rwa [Qa.cells_eq] at h
structure Way_ where
 party:ByteArray
 trades:List Int
def Way_.cells(x:Way_):List PV:=[.str x.party,.sl .any 1 (x.trades.map (cInt .i64))]
structure Qb where
 Date:Int
 Set:ByteArray
 Ccy:ByteArray
 From:ByteArray
 To:ByteArray
 Amount:Int
def Qb.cells(x:Qb):List PV:=[.int .i64 x.Date,.str x.Set,.str x.Ccy,.str x.From,.str x.To,.int .i64 x.Amount]
theorem Qb.cells_eq(x y:Qb):(Qb.cells x=Qb.cells y)=(x=y):=propext ⟨fun h=>by
 cases x; cases y
 simp_all [Qb.cells],fun h=>by rw [h]⟩
theorem Qb.map_eq(x y:List Qb):(x.map Qb.cells=y.map Qb.cells)=(x=y):=map_eq_of fun a b h=>by rwa [Qb.cells_eq] at h
structure Key_ where
 date:Int
 set:ByteArray
 ccy:ByteArray
def Key_.cells(x:Key_):List PV:=[.int .i64 x.date,.str x.set,.str x.ccy]
theorem Key_.cells_eq(x y:Key_):(Key_.cells x=Key_.cells y)=(x=y):=propext ⟨fun h=>by
 cases x; cases y
 simp_all [Key_.cells],fun h=>by rw [h]⟩
theorem Key_.map_eq(x y:List Key_):(x.map Key_.cells=y.map Key_.cells)=(x=y):=map_eq_of fun a b h=>by rwa [Key_.cells_eq] at h
structure Ql where
 party:ByteArray
 flow:Qb
def Ql.cells(x:Ql):List PV:=[.str x.party,.int .i64 x.flow.Date,.str x.flow.Set,.str x.flow.Ccy,.str x.flow.From,.str x.flow.To,.int .i64 x.flow.Amount]
def Key_.eqb(x y:Key_):Bool:=decide (x.date=y.date)&&seq x.set y.set&&seq x.ccy y.ccy
theorem Key_.eqb_ok(x y:Key_):eqV cfg.ty 48 (.agg (Key_.cells x)) (.agg (Key_.cells y))=some (Key_.eqb x y):=by
 unfold Key_.eqb;have e:eqV cfg.ty 48 (.agg (Key_.cells x)) (.agg (Key_.cells y))=(match some (decide (x.date=y.date)) with | some true=>(match some (decide (x.set.data.toList=y.set.data.toList)) with | some true=>(match some (decide (x.ccy.data.toList=y.ccy.data.toList)) with | some true=>(some true) | some false=>some false | none=>none) | some false=>some false | none=>none) | some false=>some false | none=>none):=by kernel_rfl
 rw [e]
 try simp only [seq]
 cases decide (x.date=y.date)<;>cases decide (x.set.data.toList=y.set.data.toList)<;>cases decide (x.ccy.data.toList=y.ccy.data.toList)<;>rfl
def Qb.eqb(x y:Qb):Bool:=decide (x.Date=y.Date)&&seq x.Set y.Set&&seq x.Ccy y.Ccy&&seq x.From y.From&&seq x.To y.To&&decide (x.Amount=y.Amount)
theorem Qb.eqb_ok(x y:Qb):eqV cfg.ty 46 (.agg (Qb.cells x)) (.agg (Qb.cells y))=some (Qb.eqb x y):=by
 unfold Qb.eqb;have e:eqV cfg.ty 46 (.agg (Qb.cells x)) (.agg (Qb.cells y))=(match some (decide (x.Date=y.Date)) with | some true=>(match some (decide (x.Set.data.toList=y.Set.data.toList)) with | some true=>(match some (decide (x.Ccy.data.toList=y.Ccy.data.toList)) with | some true=>(match some (decide (x.From.data.toList=y.From.data.toList)) with | some true=>(match some (decide (x.To.data.toList=y.To.data.toList)) with | some true=>(match some (decide (x.Amount=y.Amount)) with | some true=>(some true) | some false=>some false | none=>none) | some false=>some false | none=>none) | some false=>some false | none=>none) | some false=>some false | none=>none) | some false=>some false | none=>none) | some false=>some false | none=>none):=by kernel_rfl
 rw [e]
 try simp only [seq]
 cases decide (x.Date=y.Date)<;>cases decide (x.Set.data.toList=y.Set.data.toList)<;>cases decide (x.Ccy.data.toList=y.Ccy.data.toList)<;>cases decide (x.From.data.toList=y.From.data.toList)<;>cases decide (x.To.data.toList=y.To.data.toList)<;>cases decide (x.Amount=y.Amount)<;>rfl
theorem Key_.eqb_eq{x y:Key_}(h:Key_.eqb x y=true):x=y:=by
 cases x; cases y;simp only [Key_.eqb,Bool.and_eq_true,decide_eq_true_eq,beq_iff_eq] at h;simp only [Key_.mk.injEq];refine ⟨?_,?_,?_⟩<;>first | exact seq_eq' (by simp_all) | simp_all
theorem key_48:KeyOK cfg 48 (pAgg Key_.cells) Key_.eqb:=⟨fun a b=>Key_.eqb_ok a b,fun _=>by kernel_rfl,fun a b h=>Key_.eqb_eq h,fun a=>by simp [pAgg,Key_.cells,eqC,eqCL,eqC1,kindEq]⟩
def Qt:ByteArray:=⟨#[104,117,98]⟩
def str_USD:ByteArray:=⟨#[85,83,68]⟩
def str_C:ByteArray:=⟨#[67]⟩
def str_B:ByteArray:=⟨#[66]⟩
def str_A:ByteArray:=⟨#[65]⟩
def Qag:ByteArray:=⟨#[120]⟩
def Qau:ByteArray:=⟨#[]⟩
def ti26:TI:=⟨.struct [(9,0),(9,1),(9,2),(3,3)],4,56,[.str ByteArray.empty,.str ByteArray.empty,.str ByteArray.empty,.int .i64 0]⟩
def ti74:TI:=⟨.struct [(9,0),(38,1)],2,40,[.str ByteArray.empty,.sl .nil 0 []]⟩
def ti3:TI:=⟨.int .i64,1,8,[.int .i64 0]⟩
def ti9:TI:=⟨.str,1,16,[.str ByteArray.empty]⟩
def ti46:TI:=⟨.struct [(3,0),(9,1),(9,2),(9,3),(9,4),(3,5)],6,80,[.int .i64 0,.str ByteArray.empty,.str ByteArray.empty,.str ByteArray.empty,.str ByteArray.empty,.int .i64 0]⟩
def ti53:TI:=⟨.struct [(9,0),(46,1)],7,96,[.str ByteArray.empty,.int .i64 0,.str ByteArray.empty,.str ByteArray.empty,.str ByteArray.empty,.str ByteArray.empty,.int .i64 0]⟩
def ti22:TI:=⟨.sl 26,1,24,[.sl .nil 0 []]⟩
def ti5:TI:=⟨.int .u8,1,1,[.int .u8 0]⟩
def Qa.ok(x:Qa):Prop:=(fun s:ByteArray=>s.size≤maxLen) x.From∧(fun s:ByteArray=>s.size≤maxLen) x.To∧(fun s:ByteArray=>s.size≤maxLen) x.Contract∧(okInt .i64) x.Amount∧True
def Way_.ok(x:Way_):Prop:=(fun s:ByteArray=>s.size≤maxLen) x.party∧(fun l:List Int=>l.length≤maxLen∧∀x∈l,(okInt .i64) x) x.trades∧True
def Qb.ok(x:Qb):Prop:=(okInt .i64) x.Date∧(fun s:ByteArray=>s.size≤maxLen) x.Set∧(fun s:ByteArray=>s.size≤maxLen) x.Ccy∧(fun s:ByteArray=>s.size≤maxLen) x.From∧(fun s:ByteArray=>s.size≤maxLen) x.To∧(okInt .i64) x.Amount∧True
def Key_.ok(x:Key_):Prop:=(okInt .i64) x.date∧(fun s:ByteArray=>s.size≤maxLen) x.set∧(fun s:ByteArray=>s.size≤maxLen) x.ccy∧True
def Ql.ok(x:Ql):Prop:=(fun s:ByteArray=>s.size≤maxLen) x.party∧Qb.ok x.flow∧True
theorem of_9{d:Nat}{ps:List PV}(h:WT cfg.ty (d+1) 9 ps):∃x:ByteArray,ps=cStr x∧(fun s:ByteArray=>s.size≤maxLen) x:=by
 obtain ⟨n,rfl,k⟩:=wt_str (ti:=ti9) (by kernel_rfl) rfl h;exact ⟨n,rfl,k⟩
theorem of_3{d:Nat}{ps:List PV}(h:WT cfg.ty (d+1) 3 ps):∃x:Int,ps=(cInt .i64) x∧(okInt .i64) x:=by
 obtain ⟨n,rfl,k⟩:=wt_int (ti:=ti3) (by kernel_rfl) rfl h;exact ⟨n,rfl,k⟩
theorem of_26{d:Nat}{ps:List PV}(h:WT cfg.ty (d+2) 26 ps):∃x:Qa,ps=Qa.cells x∧Qa.ok x:=by
 have g:=wt_struct (ti:=ti26) (by kernel_rfl) rfl h
 clear h
 obtain ⟨_,_,_,rfl,_,_,h0,g0⟩:=g;obtain ⟨x0,rfl,k0⟩:=of_9 h0;obtain ⟨_,_,_,rfl,_,_,h1,g1⟩:=g0;obtain ⟨x1,rfl,k1⟩:=of_9 h1;obtain ⟨_,_,_,rfl,_,_,h2,g2⟩:=g1;obtain ⟨x2,rfl,k2⟩:=of_9 h2;obtain ⟨_,_,_,rfl,_,_,h3,g3⟩:=g2;obtain ⟨x3,rfl,k3⟩:=of_3 h3;have e:_=[]:=g3;subst e;exact ⟨⟨x0,x1,x2,x3⟩,rfl,k0,k1,k2,k3,trivial⟩
theorem of_22{d:Nat}{ps:List PV}(h:WT cfg.ty (d+3) 22 ps):∃x:List Qa,ps=(cLst 4 Qa.cells) x∧(fun l:List Qa=>l.length≤maxLen∧∀x∈l,Qa.ok x) x:=by
 obtain ⟨te,es,e1,rfl,hl,hh⟩:=wt_sl (ti:=ti22) (by kernel_rfl) rfl h;obtain rfl:te=ti26:=Qd (e1.symm.trans (by kernel_rfl:cfg.ty 26=some ti26));obtain ⟨xs,rfl,hx⟩:=list_of (c:=Qa.cells) (ok:=Qa.ok) (fun ps h=>of_26 h) es (fun c hc=>(hh c hc).2);exact ⟨xs,rfl,by simpa using hl,hx⟩
theorem arg_22{p:PV}(h:WV cfg.ty 3 22 p):∃x:List Qa,p=(.sl .any 4 (x.map Qa.cells))∧(fun l:List Qa=>l.length≤maxLen∧∀x∈l,Qa.ok x) x:=by
 obtain ⟨_,g⟩:=wv_one (ti:=ti22) (by kernel_rfl) rfl h;obtain ⟨x,e,k⟩:=of_22 (d:=0) g;exact ⟨x,(List.cons.inj e).1,k⟩
theorem of_5{d:Nat}{ps:List PV}(h:WT cfg.ty (d+1) 5 ps):∃x:Int,ps=(cInt .u8) x∧(okInt .u8) x:=by
 obtain ⟨n,rfl,k⟩:=wt_int (ti:=ti5) (by kernel_rfl) rfl h;exact ⟨n,rfl,k⟩
theorem arg_5{p:PV}(h:WV cfg.ty 1 5 p):∃x:Int,p=(.int .u8 x)∧(okInt .u8) x:=by
 obtain ⟨_,g⟩:=wv_one (ti:=ti5) (by kernel_rfl) rfl h;obtain ⟨x,e,k⟩:=of_5 (d:=0) g;exact ⟨x,(List.cons.inj e).1,k⟩
end Go.Proofs.Ytglmageljnlhcaa
namespace Go.Proofs.Ytglmageljnlhcaa
set_option linter.unusedVariables false
set_option linter.unusedSimpArgs false
set_option maxRecDepth 100000
open Go.RowKit
noncomputable def c29:Code:=Try.f29.body.getD .skip
inductive f29n0O where
 | ret (v10:Bool)
def f29n0E(a1:Int):f29n0O→Ex×Tr×Hp
 | .ret v10=>(.ret,mkS [(2,(jB v10))],[])
def f29n0S(a1:Int):Tr×Hp:=(Qad [(.pl (.int .u8 a1))] 0 .leaf,[])
noncomputable def f29n0(a1:Int):Option f29n0O :=
 bif decide (97≤a1) then
  bif decide (a1≤122) then
   some (.ret true)
  else
   bif decide (65≤a1) then
    some (.ret (decide (a1≤90)))
   else
    some (.ret false)
 else
  bif decide (65≤a1) then
   some (.ret (decide (a1≤90)))
  else
   some (.ret false)
theorem f29n0_ok(a1:Int){o:f29n0O}(h:f29n0 a1=some o):T Try.prog Try.f29.ntmps 0 c29 (f29n0S a1) (·=f29n0E a1 o):=by
 unfold f29n0 at h;rcases Qf h with ⟨h6,h⟩|⟨h6,h⟩
 ·rcases Qf h with ⟨h7,h⟩|⟨h7,h⟩
  ·obtain rfl:=Qd h;exact rE Qe [j3,(jT [3,4,7,8,9,12],[(5,.bool true),(13,.bool true)],[])] [] [] [] [2] (.ret,(f29n0E a1 (.ret true)).2) (ap3 h6 (ap h7 (ap4 h7 an))) rfl
  ·rcases Qf h with ⟨h8,h⟩|⟨h8,h⟩
   ·obtain rfl:=Qd h;exact rE Qe [j3,(jF [7,8,9,12]++jT [3,4,10,11],[(5,.bool true),(12,.bool true),(13,.bool false)],[])] [] [] [] [2] (.ret,(f29n0E a1 (.ret (decide (a1≤90)))).2) (ap3 h6 (ap3 h7 (ap2 h8 (ap h7 (ap h8 (ap h7 an)))))) rfl
   ·obtain rfl:=Qd h;exact rE Qe [j3,(jF [7,8,9,10,11,12]++jT [3,4],[(5,.bool true),(12,.bool false),(13,.bool false)],[])] [] [] [] [2] (.ret,(f29n0E a1 (.ret false)).2) (ap3 h6 (ap3 h7 (ap2 h8 (ap h7 (ap h8 (ap h7 an)))))) rfl
 ·rcases Qf h with ⟨h9,h⟩|⟨h9,h⟩
  ·obtain rfl:=Qd h;exact rE Qe [j3,(jF [3,4]++jT [10,11],[(5,.bool false),(12,.bool true)],[])] [] [] [] [2] (.ret,(f29n0E a1 (.ret (decide (a1≤90)))).2) (ap3 h6 (ap3 h9 an)) rfl
  ·obtain rfl:=Qd h;exact rE Qe [j3,(jF [3,4,10,11],[(5,.bool false),(12,.bool false)],[])] [] [] [] [2] (.ret,(f29n0E a1 (.ret false)).2) (ap3 h6 (ap3 h9 an)) rfl
noncomputable def f29(a1:Int):Option Bool:=(f29n0 a1).bind fun o=>match o with
 | .ret v10=>some v10
theorem f29_ok(a1:Int){r:Bool}(h:f29 a1=some r):Qk Try.prog false 29 [(.pl (.int .u8 a1))] [] (jB r) []:=by
 unfold f29 at h;obtain ⟨o,ho,h⟩:=Qc h;cases o with
 | ret v10 =>
  obtain rfl:=Qd h;exact Qk.plain Qe (f:=Try.f29) (c:=c29) (by kernel_rfl) (by kernel_rfl) (by kernel_rfl) (by kernel_rfl) ((f29n0_ok a1 ho).mono fun r e=>by subst e; exact ⟨.inl rfl,(jB v10),(jB v10),by kernel_rfl,by kernel_rfl,((Wk.refl _):Wk (jB v10) (jB v10))⟩)

noncomputable def c16:Code:=Try.f16.body.getD .skip
inductive f16n3O where
 | norm (v148:Bool)
def f16n3E(bb1:ByteArray)(bc2:UInt8)(bd3:Int):f16n3O→Ex×Tr×Hp
 | .norm v148=>(.norm,mkS [(0,(jS bb1)),(20,(jI (bb1.size:Int))),(21,(jI bd3)),(45,(jB v148))],[])
def f16n3S(bb1:ByteArray)(bc2:UInt8)(bd3:Int):Tr×Hp:=(mkS [(0,(jS bb1)),(4,(.pl (.int .u8 (bc2.toNat:Int)))),(20,(jI (bb1.size:Int))),(21,(jI bd3))],[])
noncomputable def f16n3(bb1:ByteArray)(bc2:UInt8)(bd3:Int):Option f16n3O :=
 (f29 (bc2.toNat:Int)).bind fun x141 =>
 bif x141 then
  some (.norm false)
 else
  bif decide ((bc2.toNat:Int)<48) then
   bif decide ((bc2.toNat:Int)=95) then
    some (.norm false)
   else
    some (.norm (!(decide ((bc2.toNat:Int)=45))))
  else
   bif decide (57<(bc2.toNat:Int)) then
    bif decide ((bc2.toNat:Int)=95) then
     some (.norm false)
    else
     some (.norm (!(decide ((bc2.toNat:Int)=45))))
   else
    some (.norm false)
theorem f16n3_ok(bb1:ByteArray)(bc2:UInt8)(bd3:Int){o:f16n3O}(h:f16n3 bb1 bc2 bd3=some o):T Try.prog Try.f16.ntmps 0 (cL (Qi 2 (cL (cL (Qi 2 (cL (cL (Qi 1 (cL (Qi 2 c16)))))))))) (f16n3S bb1 bc2 bd3) (·=f16n3E bb1 bc2 bd3 o):=by
 unfold f16n3 at h;obtain ⟨x141,h142,h⟩:=Qc h;rcases Qf h with ⟨h143,h⟩|⟨h143,h⟩
 ·obtain rfl:=Qd h;exact rE Qe [(jF [4,5,6,9],[jH 1 (jB x141),(10,.bool false)],[])] [] [] [] [0,20,21,45] (.norm,(f16n3E bb1 bc2 bd3 (.norm false)).2) (ap (Qab h143) (ap4 (Qab h143) (ap (f29_ok (bc2.toNat:Int) h142) an))) rfl
 ·rcases Qf h with ⟨h144,h⟩|⟨h144,h⟩
  ·rcases Qf h with ⟨h145,h⟩|⟨h145,h⟩
   ·obtain rfl:=Qd h;exact rE Qe [(jF [16,17]++jT [4,5,6,7,8,9],[jH 1 (jB x141),(9,.bool true),(10,.bool true),(18,.bool false)],[])] [] [] [] [0,20,21,45] (.norm,(f16n3E bb1 bc2 bd3 (.norm false)).2) (ap3 (Qbc h143) (ap2 h144 (ap (Qbc h143) (ap h144 (ap (Qbc h143) (ap3 (Qab h145) (ap (f29_ok (bc2.toNat:Int) h142) an))))))) rfl
   ·obtain rfl:=Qd h;exact rE Qe [(jT [4,5,6,7,8,9,16,17],[jH 1 (jB x141),(9,.bool true),(10,.bool true),(18,.bool true)],[])] [] [] [] [0,20,21,45] (.norm,(f16n3E bb1 bc2 bd3 (.norm (!(decide ((bc2.toNat:Int)=45))))).2) (ap3 (Qbc h143) (ap2 h144 (ap (Qbc h143) (ap h144 (ap (Qbc h143) (ap3 (Qbc h145) (ap (f29_ok (bc2.toNat:Int) h142) an))))))) rfl
  ·rcases Qf h with ⟨h146,h⟩|⟨h146,h⟩
   ·rcases Qf h with ⟨h147,h⟩|⟨h147,h⟩
    ·obtain rfl:=Qd h;exact rE Qe [(jF [7,8,16,17]++jT [4,5,6,9,12,13],[jH 1 (jB x141),(9,.bool false),(10,.bool true),(14,.bool true),(18,.bool false)],[])] [] [] [] [0,20,21,45] (.norm,(f16n3E bb1 bc2 bd3 (.norm false)).2) (ap3 (Qbc h143) (ap2 h144 (ap (Qbc h143) (ap h144 (ap (Qbc h143) (ap3 h146 (ap3 (Qab h147) (ap (f29_ok (bc2.toNat:Int) h142) an)))))))) rfl
    ·obtain rfl:=Qd h;exact rE Qe [(jF [7,8]++jT [4,5,6,9,12,13,16,17],[jH 1 (jB x141),(9,.bool false),(10,.bool true),(14,.bool true),(18,.bool true)],[])] [] [] [] [0,20,21,45] (.norm,(f16n3E bb1 bc2 bd3 (.norm (!(decide ((bc2.toNat:Int)=45))))).2) (ap3 (Qbc h143) (ap2 h144 (ap (Qbc h143) (ap h144 (ap (Qbc h143) (ap3 h146 (ap3 (Qbc h147) (ap (f29_ok (bc2.toNat:Int) h142) an)))))))) rfl
   ·obtain rfl:=Qd h;exact rE Qe [(jF [7,8,12,13]++jT [4,5,6,9],[jH 1 (jB x141),(9,.bool false),(10,.bool true),(14,.bool false)],[])] [] [] [] [0,20,21,45] (.norm,(f16n3E bb1 bc2 bd3 (.norm false)).2) (ap3 (Qbc h143) (ap2 h144 (ap (Qbc h143) (ap h144 (ap (Qbc h143) (ap3 h146 (ap (f29_ok (bc2.toNat:Int) h142) an))))))) rfl
inductive f16n2O where
 | norm
 | ret
def f16n2E(bb1:ByteArray)(bd2:Int):f16n2O→Ex×Tr×Hp
 | .norm=>(.norm,mkS [(0,(jS bb1)),(20,(jI (bb1.size:Int))),(21,(jI bd2))],[])
 | .ret=>(.ret,mkS [(2,(jB false))],[])
def f16n2S(bb1:ByteArray)(bd2:Int):Tr×Hp:=(mkS [(0,(jS bb1)),(20,(jI (bb1.size:Int))),(21,(jI bd2))],[])
noncomputable def f16n2(bb1:ByteArray)(bd2:Int):Option f16n2O :=
 (at? bb1.data.toList bd2).bind fun x125 =>
 (f16n3 bb1 x125 bd2).bind fun o149=>match o149 with
 | .norm v151=>bif v151 then
   some .ret
  else
   some .norm
theorem f16n2_ok(bb1:ByteArray)(bd2:Int){o:f16n2O}(h:f16n2 bb1 bd2=some o):T Try.prog Try.f16.ntmps 0 (cL (Qi 2 (cL (cL (Qi 1 (cL (Qi 2 c16))))))) (f16n2S bb1 bd2) (·=f16n2E bb1 bd2 o):=by
 unfold f16n2 at h;refine T.block' (i:=1) (by kernel_rfl) ?_;obtain ⟨x125,h126,h⟩:=Qc h;refine rN Qe 2 [j3,([],[(2,.byte (Int.toNat bd2) x125)],[])] [] [] [] [0,4,20,21] (f16n3S bb1 x125 bd2) (ap (Qg h126).1 (ap (Qg h126).2 an)) ?_;obtain ⟨o149,h150,h⟩:=Qc h;cases o149 with
 | norm v151 =>
  refine T.oneN (by kernel_rfl) (f16n3_ok bb1 x125 bd2 h150) (st2:=(f16n3E bb1 x125 bd2 (.norm v151)).2) rfl ?_;rcases Qf h with ⟨h153,h⟩|⟨h153,h⟩
  ·obtain rfl:=Qd h;exact rE Qe [j3] [some true] [] [] [2] (.ret,(f16n2E bb1 bd2 .ret).2) (ap h153 an) rfl
  ·obtain rfl:=Qd h;exact rE Qe [] [some false] [] [] [0,20,21] (.norm,(f16n2E bb1 bd2 .norm).2) (ap h153 an) rfl
inductive f16n4O where
 | exit0
 | ret
def f16n4E(bb1:ByteArray):f16n4O→Ex×Tr×Hp
 | .exit0=>((.exit 0),mkS [],[])
 | .ret=>(.ret,mkS [(2,(jB false))],[])
def f16n4S(bb1:ByteArray)(v109:Int):Tr×Hp:=(mkS [(0,(jS bb1)),(20,(jI (bb1.size:Int))),(21,(jI v109))],[])
noncomputable def f16n4:Nat→ByteArray→Int→Option f16n4O
 | 0,_,_=>none
 | f+1,bb1,v109 =>
  bif decide (v109<(bb1.size:Int)) then
   (f16n2 bb1 v109).bind fun o154=>match o154 with
   | .norm=>(f16n4 f bb1 (wr64 (v109+1)))
   | .ret=>some .ret
  else
   some .exit0
theorem f16n4_ok:∀(f:Nat)(bb1:ByteArray)(v109:Int){o:f16n4O},f16n4 f bb1 v109=some o→TL Try.prog Try.f16.ntmps 0 f (cL (cL (Qi 1 (cL (Qi 2 c16))))) (f16n4S bb1 v109) (·=f16n4E bb1 o)
 | 0,_,_,o,h=>by rw [f16n4] at h; cases h
 | f+1,bb1,v109,o,h=>by
  rw [f16n4] at h;refine TL.body (K:=fun s=>∃v109:Int,s=(f16n4S bb1 v109)∧f16n4 f bb1 v109=some o) ?_ (by rintro _ ⟨v109,rfl,hk⟩; exact f16n4_ok f _ _ hk);rcases Qf h with ⟨h111,h⟩|⟨h111,h⟩
  ·refine rN Qe 2 [j3] [some true] [] [] [0,20,21] (f16n2S bb1 v109) (ap h111 an) ?_;obtain ⟨o154,h155,h⟩:=Qc h;cases o154 with
   | norm =>
    refine T.oneN (by kernel_rfl) (f16n2_ok bb1 v109 h155) (st2:=(f16n2E bb1 v109 .norm).2) rfl ?_;exact rE Qe [j3] [] [] [] [0,20,21] (.norm,(f16n4S bb1 (wr64 (v109+1)))) an (Qv.norm ⟨(wr64 (v109+1)),rfl,h⟩)
   | ret =>
    obtain rfl:=Qd h;exact T.oneX' (by kernel_rfl) (f16n2_ok bb1 v109 h155) (tds:=[]) (m:=[]) (keep:=[2]) (st2:=(f16n4E bb1 .ret).2) (by kernel_rfl) an rfl (Qv.out rfl rfl)
  ·obtain rfl:=Qd h;exact rK Qe 2 [j3] [some false] [] [] [] (.exit 0) ((f16n4E bb1 .exit0).2) (ap h111 an) (Qv.out rfl rfl)
inductive f16n1O where
 | norm
 | ret
def f16n1E(bb1:ByteArray):f16n1O→Ex×Tr×Hp
 | .norm=>(.norm,mkS [],[])
 | .ret=>(.ret,mkS [(2,(jB false))],[])
def f16n1S(bb1:ByteArray):Tr×Hp:=(mkS [(0,(jS bb1))],[])
noncomputable def f16n1(bb1:ByteArray):Option f16n1O :=
 (f16n4 FUEL bb1 0).bind fun o156=>match o156 with
 | .exit0=>some .norm
 | .ret=>some .ret
theorem f16n1_ok(bb1:ByteArray){o:f16n1O}(h:f16n1 bb1=some o):T Try.prog Try.f16.ntmps 0 (cL (Qi 2 c16)) (f16n1S bb1) (·=f16n1E bb1 o):=by
 unfold f16n1 at h;refine rN Qe 1 [j3] [] [] [] [0,20,21] (f16n4S bb1 0) an ?_;obtain ⟨o156,h157,h⟩:=Qc h;cases o156 with
 | exit0 =>
  obtain rfl:=Qd h;exact T.last' (T.bl (i:=0) (by kernel_rfl) (by kernel_rfl) (f16n4_ok FUEL bb1 0 h157)) (tds:=[]) (m:=[]) (keep:=[]) (st2:=(f16n1E bb1 .norm).2) (by kernel_rfl) an rfl
 | ret =>
  obtain rfl:=Qd h;exact T.last' (T.bl (i:=0) (by kernel_rfl) (by kernel_rfl) (f16n4_ok FUEL bb1 0 h157)) (tds:=[]) (m:=[]) (keep:=[2]) (st2:=(f16n1E bb1 .ret).2) (by kernel_rfl) an rfl
inductive f16n0O where
 | ret (v160:Bool)
def f16n0E(a1:ByteArray):f16n0O→Ex×Tr×Hp
 | .ret v160=>(.ret,mkS [(2,(jB v160))],[])
def f16n0S(a1:ByteArray):Tr×Hp:=(Qad [(jS a1)] 0 .leaf,[])
noncomputable def f16n0(a1:ByteArray):Option f16n0O :=
 bif decide ((a1.size:Int)<1) then
  some (.ret false)
 else
  bif decide (40<(a1.size:Int)) then
   some (.ret false)
  else
   (at? a1.data.toList 0).bind fun x11 =>
   (f29 (x11.toNat:Int)).bind fun x13 =>
   bif x13 then
    (f16n1 a1).bind fun o158=>match o158 with
    | .norm=>some (.ret true)
    | .ret=>some (.ret false)
   else
    some (.ret false)
theorem f16n0_ok(a1:ByteArray){o:f16n0O}(h:f16n0 a1=some o):T Try.prog Try.f16.ntmps 0 c16 (f16n0S a1) (·=f16n0E a1 o):=by
 unfold f16n0 at h;rcases Qf h with ⟨h9,h⟩|⟨h9,h⟩
 ·obtain rfl:=Qd h;exact rK Qe 2 [j3,(jT [4,5,6],[(7,.bool true)],[]),j3] [none] [] [] [2] .ret ((f16n0E a1 (.ret false)).2) (ap4 h9 an) rfl
 ·rcases Qf h with ⟨h10,h⟩|⟨h10,h⟩
  ·obtain rfl:=Qd h;exact rK Qe 2 [j3,(jF [4,5,6]++jT [9,10,11,12],[(7,.bool false),(13,.bool true)],[]),j3] [none] [] [] [2] .ret ((f16n0E a1 (.ret false)).2) (ap4 h9 (ap h10 (ap4 h10 an))) rfl
  ·obtain ⟨x11,h12,h⟩:=Qc h;obtain ⟨x13,h14,h⟩:=Qc h;rcases Qf h with ⟨h15,h⟩|⟨h15,h⟩
   ·refine rN Qe 2 [j3,(jF [4,5,6,9,10,11,12],[(7,.bool false),(10,.byte (Int.toNat 0) x11),jH 11 (jB x13),(13,.bool false)],[])] [some false] [] [] [0] (f16n1S a1) (ap4 h9 (ap2 h10 (ap (Qg h12).1 (ap (Qg h12).2 (ap3 h10 (ap (f29_ok (x11.toNat:Int) h14) (ap (Qab h15) an))))))) ?_;obtain ⟨o158,h159,h⟩:=Qc h;cases o158 with
    | norm =>
     refine T.oneN (by kernel_rfl) (f16n1_ok a1 h159) (st2:=(f16n1E a1 .norm).2) rfl ?_;obtain rfl:=Qd h;exact rE Qe [j3] [] [] [] [2] (.ret,(f16n0E a1 (.ret true)).2) an rfl
    | ret =>
     obtain rfl:=Qd h;exact T.oneX' (by kernel_rfl) (f16n1_ok a1 h159) (tds:=[]) (m:=[]) (keep:=[2]) (st2:=(f16n0E a1 (.ret false)).2) (by kernel_rfl) an rfl rfl
   ·obtain rfl:=Qd h;exact rK Qe 2 [j3,(jF [4,5,6,9,10,11,12],[(7,.bool false),(10,.byte (Int.toNat 0) x11),jH 11 (jB x13),(13,.bool false)],[]),j3] [some true] [] [] [2] .ret ((f16n0E a1 (.ret false)).2) (ap4 h9 (ap2 h10 (ap (Qg h12).1 (ap (Qg h12).2 (ap3 h10 (ap (f29_ok (x11.toNat:Int) h14) (ap (Qbc h15) an))))))) rfl
noncomputable def f16(a1:ByteArray):Option Bool:=(f16n0 a1).bind fun o=>match o with
 | .ret v160=>some v160
theorem Qy(a1:ByteArray){r:Bool}(h:f16 a1=some r):Qk Try.prog false 16 [(jS a1)] [] (jB r) []:=by
 unfold f16 at h;obtain ⟨o,ho,h⟩:=Qc h;cases o with
 | ret v160 =>
  obtain rfl:=Qd h;exact Qk.plain Qe (f:=Try.f16) (c:=c16) (by kernel_rfl) (by kernel_rfl) (by kernel_rfl) (by kernel_rfl) ((f16n0_ok a1 ho).mono fun r e=>by subst e; exact ⟨.inl rfl,(jB v160),(jB v160),by kernel_rfl,by kernel_rfl,((Wk.refl _):Wk (jB v160) (jB v160))⟩)

noncomputable def c33:Code:=Try.f33.body.getD .skip
inductive f33n0O where
 | ret
def f33n0E(a1:ByteArray):f33n0O→Ex×Tr×Hp
 | .ret=>(.ret,mkS [(2,(.pl (.bool (!(seq a1 a1)))))],[])
def f33n0S(a1:ByteArray):Tr×Hp:=(Qad [(jS a1)] 0 .leaf,[])
noncomputable def f33n0(a1:ByteArray):Option f33n0O :=
 some .ret
theorem f33n0_ok(a1:ByteArray){o:f33n0O}(h:f33n0 a1=some o):T Try.prog Try.f33.ntmps 0 c33 (f33n0S a1) (·=f33n0E a1 o):=by
 unfold f33n0 at h;obtain rfl:=Qd h;exact rE Qe [j3,j3] [] [] [] [2] (.ret,(f33n0E a1 .ret).2) an rfl
noncomputable def f33(a1:ByteArray):Option Bool:=(f33n0 a1).bind fun o=>match o with
 | .ret=>some (!(seq a1 a1))
theorem f33_ok(a1:ByteArray){r:Bool}(h:f33 a1=some r):Qk Try.prog false 33 [(jS a1)] [] (jB r) []:=by
 unfold f33 at h;obtain ⟨o,ho,h⟩:=Qc h;cases o with
 | ret =>
  obtain rfl:=Qd h;exact Qk.plain Qe (f:=Try.f33) (c:=c33) (by kernel_rfl) (by kernel_rfl) (by kernel_rfl) (by kernel_rfl) ((f33n0_ok a1 ho).mono fun r e=>by subst e; exact ⟨.inl rfl,(.pl (.bool (!(seq a1 a1)))),(.pl (.bool (!(seq a1 a1)))),by kernel_rfl,by kernel_rfl,((Wk.refl _):Wk (.pl (.bool (!(seq a1 a1)))) (.pl (.bool (!(seq a1 a1)))))⟩)

noncomputable def c22:Code:=Try.f22.body.getD .skip
inductive f22n0O where
 | ret (v21:Int)
def f22n0E(a1 a2:ByteArray):f22n0O→Ex×Tr×Hp
 | .ret v21=>(.ret,mkS [(4,(jI v21))],[])
def f22n0S(a1 a2:ByteArray):Tr×Hp:=(Qad [(jS a1),(jS a2)] 0 .leaf,[])
noncomputable def f22n0(a1 a2:ByteArray):Option f22n0O :=
 (f33 a1).bind fun x5 =>
 (f33 a2).bind fun x9 =>
 bif x5 then
  bif x9 then
   some (.ret 0)
  else
   some (.ret (-1))
 else
  bif x9 then
   some (.ret 1)
  else
   bif (slt a1 a2) then
    some (.ret (-1))
   else
    bif (slt a1 a2||seq a1 a2) then
     some (.ret 0)
    else
     some (.ret 1)
theorem f22n0_ok(a1 a2:ByteArray){o:f22n0O}(h:f22n0 a1 a2=some o):T Try.prog Try.f22.ntmps 0 c22 (f22n0S a1 a2) (·=f22n0E a1 a2 o):=by
 unfold f22n0 at h;obtain ⟨x5,h6,h⟩:=Qc h;obtain ⟨x9,h10,h⟩:=Qc h;rcases Qf h with ⟨h13,h⟩|⟨h13,h⟩
 ·rcases Qf h with ⟨h14,h⟩|⟨h14,h⟩
  ·obtain rfl:=Qd h;exact rK Qe 4 [j3,([],[jH 1 (jB x5)],[]),([],[jH 1 (jB x9)],[]),j3,j3,j3] [some true,some true] [] [] [4] .ret ((f22n0E a1 a2 (.ret 0)).2) (ap (f33_ok a1 h6) (ap (f33_ok a2 h10) (ap h13 (ap h14 an)))) rfl
  ·obtain rfl:=Qd h;exact rK Qe 4 [j3,([],[jH 1 (jB x5)],[]),([],[jH 1 (jB x9)],[]),j3,j3,j3] [some true,some false] [] [] [4] .ret ((f22n0E a1 a2 (.ret (-1))).2) (ap (f33_ok a1 h6) (ap (f33_ok a2 h10) (ap h13 (ap h14 an)))) rfl
 ·rcases Qf h with ⟨h16,h⟩|⟨h16,h⟩
  ·obtain rfl:=Qd h;exact rK Qe 5 [j3,([],[jH 1 (jB x5)],[]),([],[jH 1 (jB x9)],[]),j3,j3,j3] [some false,some true] [] [] [4] .ret ((f22n0E a1 a2 (.ret 1)).2) (ap (f33_ok a1 h6) (ap (f33_ok a2 h10) (ap h13 (ap h16 an)))) rfl
  ·rcases Qf h with ⟨h18,h⟩|⟨h18,h⟩
   ·obtain rfl:=Qd h;exact rK Qe 6 [j3,([],[jH 1 (jB x5)],[]),([],[jH 1 (jB x9)],[]),j3,j3,j3,j3] [some false,some false,some true] [] [] [4] .ret ((f22n0E a1 a2 (.ret (-1))).2) (ap (f33_ok a1 h6) (ap (f33_ok a2 h10) (ap h13 (ap h16 (ap h18 an))))) rfl
   ·rcases Qf h with ⟨h20,h⟩|⟨h20,h⟩
    ·obtain rfl:=Qd h;exact rE Qe [j3,([],[jH 1 (jB x5)],[]),([],[jH 1 (jB x9)],[]),j3,j3,j3,j3,j3] [some false,some false,some false,some false] [] [] [4] (.ret,(f22n0E a1 a2 (.ret 0)).2) (ap (f33_ok a1 h6) (ap (f33_ok a2 h10) (ap h13 (ap h16 (ap h18 (ap (Qab h20) an)))))) rfl
    ·obtain rfl:=Qd h;exact rK Qe 7 [j3,([],[jH 1 (jB x5)],[]),([],[jH 1 (jB x9)],[]),j3,j3,j3,j3,j3] [some false,some false,some false,some true] [] [] [4] .ret ((f22n0E a1 a2 (.ret 1)).2) (ap (f33_ok a1 h6) (ap (f33_ok a2 h10) (ap h13 (ap h16 (ap h18 (ap (Qbc h20) an)))))) rfl
noncomputable def f22(a1 a2:ByteArray):Option Int:=(f22n0 a1 a2).bind fun o=>match o with
 | .ret v21=>some v21
theorem f22_ok(a1 a2:ByteArray){r:Int}(h:f22 a1 a2=some r):Qk Try.prog false 22 [(jS a1),(jS a2)] [] (jI r) []:=by
 unfold f22 at h;obtain ⟨o,ho,h⟩:=Qc h;cases o with
 | ret v21 =>
  obtain rfl:=Qd h;exact Qk.plain Qe (f:=Try.f22) (c:=c22) (by kernel_rfl) (by kernel_rfl) (by kernel_rfl) (by kernel_rfl) ((f22n0_ok a1 a2 ho).mono fun r e=>by subst e; exact ⟨.inl rfl,(jI v21),(jI v21),by kernel_rfl,by kernel_rfl,((Wk.refl _):Wk (jI v21) (jI v21))⟩)

noncomputable def c20:Code:=Try.f20.body.getD .skip
inductive f20n2O where
 | exit0
 | ret (v28:Int)
def f20n2E(bf1:List Int):f20n2O→Ex×Tr×Hp
 | .exit0=>((.exit 0),mkS [(3,(jI 0))],[])
 | .ret v28=>(.ret,mkS [(2,(jI v28))],[])
def f20n2S(bf1:List Int)(v19:Int):Tr×Hp:=(mkS [(3,(jI 0)),(6,(.pl (.sl .any 1 (bf1.map (cInt .i64))))),(7,(jI (bf1.length:Int))),(8,(jI v19))],[])
noncomputable def f20n2:Nat→List Int→Int→Option f20n2O
 | 0,_,_=>none
 | f+1,bf1,v19 =>
  bif decide (v19<(bf1.length:Int)) then
   (at? bf1 v19).bind fun x25 =>
   bif decide (x25=0) then
    (f20n2 f bf1 (wr64 (v19+1)))
   else
    some (.ret x25)
  else
   some .exit0
theorem f20n2_ok:∀(f:Nat)(bf1:List Int)(v19:Int){o:f20n2O},f20n2 f bf1 v19=some o→TL Try.prog Try.f20.ntmps 0 f (cL (cL (Qi 1 (cL (Qi 2 c20))))) (f20n2S bf1 v19) (·=f20n2E bf1 o)
 | 0,_,_,o,h=>by rw [f20n2] at h; cases h
 | f+1,bf1,v19,o,h=>by
  rw [f20n2] at h;refine TL.body (K:=fun s=>∃v19:Int,s=(f20n2S bf1 v19)∧f20n2 f bf1 v19=some o) ?_ (by rintro _ ⟨v19,rfl,hk⟩; exact f20n2_ok f _ _ hk);rcases Qf h with ⟨h21,h⟩|⟨h21,h⟩
  ·obtain ⟨x25,h26,h⟩:=Qc h;rcases Qf h with ⟨h27,h⟩|⟨h27,h⟩
   ·exact rE Qe [j3,([],[(0,.idx (Int.toNat v19) ((cInt .i64) x25))],[]),j3,j3] [some true,some false] [] [] [3,6,7,8] (.norm,(f20n2S bf1 (wr64 (v19+1)))) (ap h21 (ap (Qg h26).1 (ap (Qo (cInt .i64) (Qg h26).2) (ap (Qab h27) an)))) (Qv.norm ⟨(wr64 (v19+1)),rfl,h⟩)
   ·obtain rfl:=Qd h;exact rK Qe 3 [j3,([],[(0,.idx (Int.toNat v19) ((cInt .i64) x25))],[]),j3,j3] [some true,some true] [] [] [2] .ret ((f20n2E bf1 (.ret x25)).2) (ap h21 (ap (Qg h26).1 (ap (Qo (cInt .i64) (Qg h26).2) (ap (Qbc h27) an)))) (Qv.out rfl rfl)
  ·obtain rfl:=Qd h;exact rK Qe 2 [j3] [some false] [] [] [3] (.exit 0) ((f20n2E bf1 .exit0).2) (ap h21 an) (Qv.out rfl rfl)
noncomputable def f20n2L(bf1:List Int):List Int→Int→Option f20n2O
 | [],v19 =>
  some .exit0
 | x0::rest,v19 =>
  bif decide (x0=0) then
   (f20n2L bf1 rest (v19+1))
  else
   some (.ret x0)
theorem f20n2L_eq(bf1:List Int):∀(rest:List Int)(f k:Nat),bf1.drop k=rest→bf1.length≤maxLen→rest.length<f→f20n2 f bf1 (k:Int)=f20n2L bf1 rest (k:Int)
 | _,0,_,_,_,hf=>absurd hf (Nat.not_lt_zero _)
 | [],f+1,k,hd,hm,hf=>by
  have hk:¬((k:Int)<(bf1.length:Int)):=by have:=Qbp hd; omega
  rw [f20n2,f20n2L];simp only [decide_eq_false hk,cond_false]
 | x0::rest,f+1,k,hd,hm,hf=>by
  obtain ⟨hx,hlt,hd'⟩:=Qba hd;have hk:(k:Int)<(bf1.length:Int):=by omega
  have hw:wr64 ((k:Int)+1)=(k:Int)+1:=wr64_of (by omega) (by unfold maxLen at hm; omega);have ih:f20n2 f bf1 ((k:Int)+1)=f20n2L bf1 rest ((k:Int)+1):=f20n2L_eq bf1 rest f (k+1) hd' hm (by simpa using hf);rw [f20n2,f20n2L];simp only [decide_eq_true hk,cond_true,at_nat,hx,Option.bind_some,hw,ih]
theorem f20n2_run(bf1:List Int)(hm:bf1.length≤maxLen):f20n2 FUEL bf1 0=f20n2L bf1 bf1 0:=f20n2L_eq bf1 bf1 FUEL 0 List.drop_zero hm (lt_FUEL hm)
inductive f20n1O where
 | norm
 | ret (v32:Int)
def f20n1E(bf1:List Int):f20n1O→Ex×Tr×Hp
 | .norm=>(.norm,mkS [(3,(jI 0))],[])
 | .ret v32=>(.ret,mkS [(2,(jI v32))],[])
def f20n1S(bf1:List Int):Tr×Hp:=(mkS [(0,(.pl (.sl .any 1 (bf1.map (cInt .i64))))),(3,(jI 0))],[])
noncomputable def f20n1(bf1:List Int):Option f20n1O :=
 (f20n2 FUEL bf1 0).bind fun o29=>match o29 with
 | .exit0=>some .norm
 | .ret v31=>some (.ret v31)
theorem f20n1_ok(bf1:List Int){o:f20n1O}(h:f20n1 bf1=some o):T Try.prog Try.f20.ntmps 0 (cL (Qi 2 c20)) (f20n1S bf1) (·=f20n1E bf1 o):=by
 unfold f20n1 at h;refine rN Qe 1 [([],[],[(1,.val (jI (bf1.length:Int)))])] [] [] [] [3,6,7,8] (f20n2S bf1 0) (ap (Qu (xs:=bf1) (c:=(cInt .i64))) an) ?_;obtain ⟨o29,h30,h⟩:=Qc h;cases o29 with
 | exit0 =>
  obtain rfl:=Qd h;exact T.last' (T.bl (i:=0) (by kernel_rfl) (by kernel_rfl) (f20n2_ok FUEL bf1 0 h30)) (tds:=[]) (m:=[]) (keep:=[3]) (st2:=(f20n1E bf1 .norm).2) (by kernel_rfl) an rfl
 | ret v31 =>
  obtain rfl:=Qd h;exact T.last' (T.bl (i:=0) (by kernel_rfl) (by kernel_rfl) (f20n2_ok FUEL bf1 0 h30)) (tds:=[]) (m:=[]) (keep:=[2]) (st2:=(f20n1E bf1 (.ret v31)).2) (by kernel_rfl) an rfl
inductive f20n0O where
 | ret (v36:Int)
def f20n0E(a1:List Int):f20n0O→Ex×Tr×Hp
 | .ret v36=>(.ret,mkS [(2,(jI v36))],[])
def f20n0S(a1:List Int):Tr×Hp:=(Qad [(.pl (.sl .any 1 (a1.map (cInt .i64))))] 0 .leaf,[])
noncomputable def f20n0(a1:List Int):Option f20n0O :=
 (f20n1 a1).bind fun o33=>match o33 with
 | .norm=>some (.ret 0)
 | .ret v35=>some (.ret v35)
theorem f20n0_ok(a1:List Int){o:f20n0O}(h:f20n0 a1=some o):T Try.prog Try.f20.ntmps 0 c20 (f20n0S a1) (·=f20n0E a1 o):=by
 unfold f20n0 at h;refine rN Qe 2 [j3,j3] [] [] [] [0,3] (f20n1S a1) an ?_;obtain ⟨o33,h34,h⟩:=Qc h;cases o33 with
 | norm =>
  refine T.oneN (by kernel_rfl) (f20n1_ok a1 h34) (st2:=(f20n1E a1 .norm).2) rfl ?_;obtain rfl:=Qd h;exact rE Qe [j3] [] [] [] [2] (.ret,(f20n0E a1 (.ret 0)).2) an rfl
 | ret v35 =>
  obtain rfl:=Qd h;exact T.oneX' (by kernel_rfl) (f20n1_ok a1 h34) (tds:=[]) (m:=[]) (keep:=[2]) (st2:=(f20n0E a1 (.ret v35)).2) (by kernel_rfl) an rfl rfl
noncomputable def f20(a1:List Int):Option Int:=(f20n0 a1).bind fun o=>match o with
 | .ret v36=>some v36
theorem f20_ok(a1:List Int){r:Int}(h:f20 a1=some r):Qk Try.prog false 20 [(.pl (.sl .any 1 (a1.map (cInt .i64))))] [] (jI r) []:=by
 unfold f20 at h;obtain ⟨o,ho,h⟩:=Qc h;cases o with
 | ret v36 =>
  obtain rfl:=Qd h;exact Qk.plain Qe (f:=Try.f20) (c:=c20) (by kernel_rfl) (by kernel_rfl) (by kernel_rfl) (by kernel_rfl) ((f20n0_ok a1 ho).mono fun r e=>by subst e; exact ⟨.inl rfl,(jI v36),(jI v36),by kernel_rfl,by kernel_rfl,((Wk.refl _):Wk (jI v36) (jI v36))⟩)

noncomputable def c23:Code:=Try.f23.body.getD .skip
inductive f23n0O where
 | ret (v19:Int)
def f23n0E(a1 a2:Qa):f23n0O→Ex×Tr×Hp
 | .ret v19=>(.ret,mkS [(4,(jI v19))],[])
def f23n0S(a1 a2:Qa):Tr×Hp:=(Qad [(jA Qa.cells a1),(jA Qa.cells a2)] 0 .leaf,[])
noncomputable def f23n0(a1 a2:Qa):Option f23n0O :=
 (f22 a1.Contract a2.Contract).bind fun x11 =>
 (f22 a1.From a2.From).bind fun x13 =>
 (f22 a1.To a2.To).bind fun x15 =>
 (f20 [x11,x13,x15]).bind fun x17 =>
 some (.ret x17)
theorem f23n0_ok(a1 a2:Qa){o:f23n0O}(h:f23n0 a1 a2=some o):T Try.prog Try.f23.ntmps 0 c23 (f23n0S a1 a2) (·=f23n0E a1 a2 o):=by
 unfold f23n0 at h;obtain ⟨x11,h12,h⟩:=Qc h;obtain ⟨x13,h14,h⟩:=Qc h;obtain ⟨x15,h16,h⟩:=Qc h;obtain ⟨x17,h18,h⟩:=Qc h;obtain rfl:=Qd h
 exact rE Qe [j3,([],[jH 4 (jI x11),jH 9 (jI x13),jH 14 (jI x15),jH 16 (jI x17)],[])] [] [] [] [4] (.ret,(f23n0E a1 a2 (.ret x17)).2) (ap (Qac (e:=⟨false,22,[(jS a1.Contract),(jS a2.Contract)],[],(jI x11),[]⟩) (f:=⟨false,22,[(jS a1.From),(jS a2.From)],[],(jI x13),[]⟩) (fun k=>by simp only [jL,jS,jI,jB,jA,Qa.cells_eq,Qa.map_eq,Qb.cells_eq,Qb.map_eq,Key_.cells_eq,Key_.map_eq,List.cons.injEq,AV.pl.injEq,PV.str.injEq,PV.int.injEq,PV.bool.injEq,PV.agg.injEq,PV.sl.injEq,and_true,true_and] at k; have e0:x11=x13:=Option.some.inj (by rw [←h12,←h14]; first | exact congrArg _ k | (obtain ⟨k1,_⟩:=k; simp only [k1]; done) | simp only [k]); exact ⟨by rw [e0],rfl⟩)) (ap (Qac (e:=⟨false,22,[(jS a1.Contract),(jS a2.Contract)],[],(jI x11),[]⟩) (f:=⟨false,22,[(jS a1.To),(jS a2.To)],[],(jI x15),[]⟩) (fun k=>by simp only [jL,jS,jI,jB,jA,Qa.cells_eq,Qa.map_eq,Qb.cells_eq,Qb.map_eq,Key_.cells_eq,Key_.map_eq,List.cons.injEq,AV.pl.injEq,PV.str.injEq,PV.int.injEq,PV.bool.injEq,PV.agg.injEq,PV.sl.injEq,and_true,true_and] at k; have e0:x11=x15:=Option.some.inj (by rw [←h12,←h16]; first | exact congrArg _ k | (obtain ⟨k1,_⟩:=k; simp only [k1]; done) | simp only [k]); exact ⟨by rw [e0],rfl⟩)) (ap (Qac (e:=⟨false,22,[(jS a1.From),(jS a2.From)],[],(jI x13),[]⟩) (f:=⟨false,22,[(jS a1.To),(jS a2.To)],[],(jI x15),[]⟩) (fun k=>by simp only [jL,jS,jI,jB,jA,Qa.cells_eq,Qa.map_eq,Qb.cells_eq,Qb.map_eq,Key_.cells_eq,Key_.map_eq,List.cons.injEq,AV.pl.injEq,PV.str.injEq,PV.int.injEq,PV.bool.injEq,PV.agg.injEq,PV.sl.injEq,and_true,true_and] at k; have e0:x13=x15:=Option.some.inj (by rw [←h14,←h16]; first | exact congrArg _ k | (obtain ⟨k1,_⟩:=k; simp only [k1]; done) | simp only [k]); exact ⟨by rw [e0],rfl⟩)) (ap (f22_ok a1.Contract a2.Contract h12) (ap (f22_ok a1.From a2.From h14) (ap (f22_ok a1.To a2.To h16) (ap (f20_ok [x11,x13,x15] h18) an))))))) rfl
noncomputable def f23(a1 a2:Qa):Option Int:=(f23n0 a1 a2).bind fun o=>match o with
 | .ret v19=>some v19
theorem f23_ok(a1 a2:Qa){r:Int}(h:f23 a1 a2=some r):Qk Try.prog false 23 [(jA Qa.cells a1),(jA Qa.cells a2)] [] (jI r) []:=by
 unfold f23 at h;obtain ⟨o,ho,h⟩:=Qc h;cases o with
 | ret v19 =>
  obtain rfl:=Qd h;exact Qk.plain Qe (f:=Try.f23) (c:=c23) (by kernel_rfl) (by kernel_rfl) (by kernel_rfl) (by kernel_rfl) ((f23n0_ok a1 a2 ho).mono fun r e=>by subst e; exact ⟨.inl rfl,(jI v19),(jI v19),by kernel_rfl,by kernel_rfl,((Wk.refl _):Wk (jI v19) (jI v19))⟩)

noncomputable def c10:Code:=Try.f10.body.getD .skip
inductive f10n3O where
 | norm (v232:Bool)
def f10n3E(ba1:List Qa)(bd2:Int)(be3:Qa):f10n3O→Ex×Tr×Hp
 | .norm v232=>(.norm,mkS [(0,(jL 4 Qa.cells ba1)),(8,(jL 4 Qa.cells ba1)),(9,(jI (ba1.length:Int))),(10,(jI bd2)),(61,(jB v232))],[])
def f10n3S(ba1:List Qa)(bd2:Int)(be3:Qa):Tr×Hp:=(mkS [(0,(jL 4 Qa.cells ba1)),(3,(jI bd2)),(4,(.bp 0 0)),(8,(jL 4 Qa.cells ba1)),(9,(jI (ba1.length:Int))),(10,(jI bd2))],[some (.box 26 ((Qa.cells be3).map .pl))])
noncomputable def f10n3(ba1:List Qa)(bd2:Int)(be3:Qa):Option f10n3O :=
 (f16 be3.From).bind fun x215 =>
 bif x215 then
  (f16 be3.To).bind fun x218 =>
  bif x218 then
   (f16 be3.Contract).bind fun x221 =>
   bif x221 then
    bif (seq be3.From be3.To) then
     some (.norm true)
    else
     bif decide (be3.Amount<1) then
      some (.norm true)
     else
      bif decide (1125899906842624<be3.Amount) then
       some (.norm true)
      else
       bif decide (0<bd2) then
        (at? ba1 (wr64 (bd2-1))).bind fun x228 =>
        (f23 x228 be3).bind fun x230 =>
        some (.norm (decide (0≤x230)))
       else
        some (.norm false)
   else
    some (.norm true)
  else
   some (.norm true)
 else
  some (.norm true)
theorem f10n3_ok(ba1:List Qa)(bd2:Int)(be3:Qa){o:f10n3O}(h:f10n3 ba1 bd2 be3=some o):T Try.prog Try.f10.ntmps 0 (cL (Qi 1 (cL (cL (Qi 2 (cL (cL (Qi 1 (cL (Qi 2 c10)))))))))) (f10n3S ba1 bd2 be3) (·=f10n3E ba1 bd2 be3 o):=by
 unfold f10n3 at h;obtain ⟨x215,h216,h⟩:=Qc h;rcases Qf h with ⟨h217,h⟩|⟨h217,h⟩
 ·obtain ⟨x218,h219,h⟩:=Qc h;rcases Qf h with ⟨h220,h⟩|⟨h220,h⟩
  ·obtain ⟨x221,h222,h⟩:=Qc h;rcases Qf h with ⟨h223,h⟩|⟨h223,h⟩
   ·rcases Qf h with ⟨h224,h⟩|⟨h224,h⟩
    ·obtain rfl:=Qd h
     exact rE Qe [(jF [5,6,7,8,11,12,13,14,17,18,19,20,21]++jT [24,25,26],[jH 2 (jB x215),jH 7 (jB x218),(9,.bool false),jH 13 (jB x221),(15,.bool false),(22,.bool false),(27,.bool true)],[])] [] [] [] [0,8,9,10,61] (.norm,(f10n3E ba1 bd2 be3 (.norm true)).2) (ap (Qab h217) (ap4 (Qab h217) (ap (Qab h220) (ap4 (Qab h220) (ap2 (Qab h223) (ap4 (Qab h223) (ap4 h224 (ap (Qac (e:=⟨false,16,[(jS be3.From)],[],(jB x215),[]⟩) (f:=⟨false,16,[(jS be3.To)],[],(jB x218),[]⟩) (fun k=>by simp only [jL,jS,jI,jB,jA,Qa.cells_eq,Qa.map_eq,Qb.cells_eq,Qb.map_eq,Key_.cells_eq,Key_.map_eq,List.cons.injEq,AV.pl.injEq,PV.str.injEq,PV.int.injEq,PV.bool.injEq,PV.agg.injEq,PV.sl.injEq,and_true,true_and] at k; have e0:x215=x218:=Option.some.inj (by rw [←h216,←h219]; first | exact congrArg _ k | (obtain ⟨k1,_⟩:=k; simp only [k1]; done) | simp only [k]); exact ⟨by rw [e0],rfl⟩)) (ap (Qac (e:=⟨false,16,[(jS be3.From)],[],(jB x215),[]⟩) (f:=⟨false,16,[(jS be3.Contract)],[],(jB x221),[]⟩) (fun k=>by simp only [jL,jS,jI,jB,jA,Qa.cells_eq,Qa.map_eq,Qb.cells_eq,Qb.map_eq,Key_.cells_eq,Key_.map_eq,List.cons.injEq,AV.pl.injEq,PV.str.injEq,PV.int.injEq,PV.bool.injEq,PV.agg.injEq,PV.sl.injEq,and_true,true_and] at k; have e0:x215=x221:=Option.some.inj (by rw [←h216,←h222]; first | exact congrArg _ k | (obtain ⟨k1,_⟩:=k; simp only [k1]; done) | simp only [k]); exact ⟨by rw [e0],rfl⟩)) (ap (Qac (e:=⟨false,16,[(jS be3.To)],[],(jB x218),[]⟩) (f:=⟨false,16,[(jS be3.Contract)],[],(jB x221),[]⟩) (fun k=>by simp only [jL,jS,jI,jB,jA,Qa.cells_eq,Qa.map_eq,Qb.cells_eq,Qb.map_eq,Key_.cells_eq,Key_.map_eq,List.cons.injEq,AV.pl.injEq,PV.str.injEq,PV.int.injEq,PV.bool.injEq,PV.agg.injEq,PV.sl.injEq,and_true,true_and] at k; have e0:x218=x221:=Option.some.inj (by rw [←h219,←h222]; first | exact congrArg _ k | (obtain ⟨k1,_⟩:=k; simp only [k1]; done) | simp only [k]); exact ⟨by rw [e0],rfl⟩)) (ap (Qy be3.From h216) (ap (Qy be3.To h219) (ap (Qy be3.Contract h222) an))))))))))))) rfl
    ·rcases Qf h with ⟨h225,h⟩|⟨h225,h⟩
     ·obtain rfl:=Qd h
      exact rE Qe [(jF [5,6,7,8,11,12,13,14,17,18,19,20,21,24,25,26]++jT [29,30,31],[jH 2 (jB x215),jH 7 (jB x218),(9,.bool false),jH 13 (jB x221),(15,.bool false),(22,.bool false),(27,.bool false),(32,.bool true)],[])] [] [] [] [0,8,9,10,61] (.norm,(f10n3E ba1 bd2 be3 (.norm true)).2) (ap (Qab h217) (ap4 (Qab h217) (ap (Qab h220) (ap4 (Qab h220) (ap2 (Qab h223) (ap4 (Qab h223) (ap4 h224 (ap4 h225 (ap (Qac (e:=⟨false,16,[(jS be3.From)],[],(jB x215),[]⟩) (f:=⟨false,16,[(jS be3.To)],[],(jB x218),[]⟩) (fun k=>by simp only [jL,jS,jI,jB,jA,Qa.cells_eq,Qa.map_eq,Qb.cells_eq,Qb.map_eq,Key_.cells_eq,Key_.map_eq,List.cons.injEq,AV.pl.injEq,PV.str.injEq,PV.int.injEq,PV.bool.injEq,PV.agg.injEq,PV.sl.injEq,and_true,true_and] at k; have e0:x215=x218:=Option.some.inj (by rw [←h216,←h219]; first | exact congrArg _ k | (obtain ⟨k1,_⟩:=k; simp only [k1]; done) | simp only [k]); exact ⟨by rw [e0],rfl⟩)) (ap (Qac (e:=⟨false,16,[(jS be3.From)],[],(jB x215),[]⟩) (f:=⟨false,16,[(jS be3.Contract)],[],(jB x221),[]⟩) (fun k=>by simp only [jL,jS,jI,jB,jA,Qa.cells_eq,Qa.map_eq,Qb.cells_eq,Qb.map_eq,Key_.cells_eq,Key_.map_eq,List.cons.injEq,AV.pl.injEq,PV.str.injEq,PV.int.injEq,PV.bool.injEq,PV.agg.injEq,PV.sl.injEq,and_true,true_and] at k; have e0:x215=x221:=Option.some.inj (by rw [←h216,←h222]; first | exact congrArg _ k | (obtain ⟨k1,_⟩:=k; simp only [k1]; done) | simp only [k]); exact ⟨by rw [e0],rfl⟩)) (ap (Qac (e:=⟨false,16,[(jS be3.To)],[],(jB x218),[]⟩) (f:=⟨false,16,[(jS be3.Contract)],[],(jB x221),[]⟩) (fun k=>by simp only [jL,jS,jI,jB,jA,Qa.cells_eq,Qa.map_eq,Qb.cells_eq,Qb.map_eq,Key_.cells_eq,Key_.map_eq,List.cons.injEq,AV.pl.injEq,PV.str.injEq,PV.int.injEq,PV.bool.injEq,PV.agg.injEq,PV.sl.injEq,and_true,true_and] at k; have e0:x218=x221:=Option.some.inj (by rw [←h219,←h222]; first | exact congrArg _ k | (obtain ⟨k1,_⟩:=k; simp only [k1]; done) | simp only [k]); exact ⟨by rw [e0],rfl⟩)) (ap (Qy be3.From h216) (ap (Qy be3.To h219) (ap (Qy be3.Contract h222) an)))))))))))))) rfl
     ·rcases Qf h with ⟨h226,h⟩|⟨h226,h⟩
      ·obtain rfl:=Qd h
       exact rE Qe [(jF [5,6,7,8,11,12,13,14,17,18,19,20,21,24,25,26,29,30,31]++jT [34,35,36,45],[jH 2 (jB x215),jH 7 (jB x218),(9,.bool false),jH 13 (jB x221),(15,.bool false),(22,.bool false),(27,.bool false),(32,.bool false),(46,.bool true)],[])] [] [] [] [0,8,9,10,61] (.norm,(f10n3E ba1 bd2 be3 (.norm true)).2) (ap (Qab h217) (ap4 (Qab h217) (ap (Qab h220) (ap4 (Qab h220) (ap2 (Qab h223) (ap4 (Qab h223) (ap4 h224 (ap4 h225 (ap h226 (ap4 h226 (ap (Qac (e:=⟨false,16,[(jS be3.From)],[],(jB x215),[]⟩) (f:=⟨false,16,[(jS be3.To)],[],(jB x218),[]⟩) (fun k=>by simp only [jL,jS,jI,jB,jA,Qa.cells_eq,Qa.map_eq,Qb.cells_eq,Qb.map_eq,Key_.cells_eq,Key_.map_eq,List.cons.injEq,AV.pl.injEq,PV.str.injEq,PV.int.injEq,PV.bool.injEq,PV.agg.injEq,PV.sl.injEq,and_true,true_and] at k; have e0:x215=x218:=Option.some.inj (by rw [←h216,←h219]; first | exact congrArg _ k | (obtain ⟨k1,_⟩:=k; simp only [k1]; done) | simp only [k]); exact ⟨by rw [e0],rfl⟩)) (ap (Qac (e:=⟨false,16,[(jS be3.From)],[],(jB x215),[]⟩) (f:=⟨false,16,[(jS be3.Contract)],[],(jB x221),[]⟩) (fun k=>by simp only [jL,jS,jI,jB,jA,Qa.cells_eq,Qa.map_eq,Qb.cells_eq,Qb.map_eq,Key_.cells_eq,Key_.map_eq,List.cons.injEq,AV.pl.injEq,PV.str.injEq,PV.int.injEq,PV.bool.injEq,PV.agg.injEq,PV.sl.injEq,and_true,true_and] at k; have e0:x215=x221:=Option.some.inj (by rw [←h216,←h222]; first | exact congrArg _ k | (obtain ⟨k1,_⟩:=k; simp only [k1]; done) | simp only [k]); exact ⟨by rw [e0],rfl⟩)) (ap (Qac (e:=⟨false,16,[(jS be3.To)],[],(jB x218),[]⟩) (f:=⟨false,16,[(jS be3.Contract)],[],(jB x221),[]⟩) (fun k=>by simp only [jL,jS,jI,jB,jA,Qa.cells_eq,Qa.map_eq,Qb.cells_eq,Qb.map_eq,Key_.cells_eq,Key_.map_eq,List.cons.injEq,AV.pl.injEq,PV.str.injEq,PV.int.injEq,PV.bool.injEq,PV.agg.injEq,PV.sl.injEq,and_true,true_and] at k; have e0:x218=x221:=Option.some.inj (by rw [←h219,←h222]; first | exact congrArg _ k | (obtain ⟨k1,_⟩:=k; simp only [k1]; done) | simp only [k]); exact ⟨by rw [e0],rfl⟩)) (ap (Qy be3.From h216) (ap (Qy be3.To h219) (ap (Qy be3.Contract h222) an)))))))))))))))) rfl
      ·rcases Qf h with ⟨h227,h⟩|⟨h227,h⟩
       ·obtain ⟨x228,h229,h⟩:=Qc h;obtain ⟨x230,h231,h⟩:=Qc h;obtain rfl:=Qd h
        exact rE Qe [(jF [5,6,7,8,11,12,13,14,17,18,19,20,21,24,25,26,29,30,31,34,35,36,45]++jT [37,38,39,40,41,42,43,44],[jH 2 (jB x215),jH 7 (jB x218),(9,.bool false),jH 13 (jB x221),(15,.bool false),(22,.bool false),(27,.bool false),(32,.bool false),(40,.idx (Int.toNat (wr64 (bd2-1))) (Qa.cells x228)),jH 43 (jI x230),(45,.bool true),(46,.bool false)],[])] [] [] [] [0,8,9,10,61] (.norm,(f10n3E ba1 bd2 be3 (.norm (decide (0≤x230)))).2) (ap (Qab h217) (ap4 (Qab h217) (ap (Qab h220) (ap4 (Qab h220) (ap2 (Qab h223) (ap4 (Qab h223) (ap4 h224 (ap4 h225 (ap3 h226 (ap4 h227 (ap (Qg h229).1 (ap (Qo Qa.cells (Qg h229).2) (ap4 h227 (ap h226 (ap h227 (ap h226 (ap (Qac (e:=⟨false,16,[(jS be3.From)],[],(jB x215),[]⟩) (f:=⟨false,16,[(jS be3.To)],[],(jB x218),[]⟩) (fun k=>by simp only [jL,jS,jI,jB,jA,Qa.cells_eq,Qa.map_eq,Qb.cells_eq,Qb.map_eq,Key_.cells_eq,Key_.map_eq,List.cons.injEq,AV.pl.injEq,PV.str.injEq,PV.int.injEq,PV.bool.injEq,PV.agg.injEq,PV.sl.injEq,and_true,true_and] at k; have e0:x215=x218:=Option.some.inj (by rw [←h216,←h219]; first | exact congrArg _ k | (obtain ⟨k1,_⟩:=k; simp only [k1]; done) | simp only [k]); exact ⟨by rw [e0],rfl⟩)) (ap (Qac (e:=⟨false,16,[(jS be3.From)],[],(jB x215),[]⟩) (f:=⟨false,16,[(jS be3.Contract)],[],(jB x221),[]⟩) (fun k=>by simp only [jL,jS,jI,jB,jA,Qa.cells_eq,Qa.map_eq,Qb.cells_eq,Qb.map_eq,Key_.cells_eq,Key_.map_eq,List.cons.injEq,AV.pl.injEq,PV.str.injEq,PV.int.injEq,PV.bool.injEq,PV.agg.injEq,PV.sl.injEq,and_true,true_and] at k; have e0:x215=x221:=Option.some.inj (by rw [←h216,←h222]; first | exact congrArg _ k | (obtain ⟨k1,_⟩:=k; simp only [k1]; done) | simp only [k]); exact ⟨by rw [e0],rfl⟩)) (ap (Qac (e:=⟨false,16,[(jS be3.To)],[],(jB x218),[]⟩) (f:=⟨false,16,[(jS be3.Contract)],[],(jB x221),[]⟩) (fun k=>by simp only [jL,jS,jI,jB,jA,Qa.cells_eq,Qa.map_eq,Qb.cells_eq,Qb.map_eq,Key_.cells_eq,Key_.map_eq,List.cons.injEq,AV.pl.injEq,PV.str.injEq,PV.int.injEq,PV.bool.injEq,PV.agg.injEq,PV.sl.injEq,and_true,true_and] at k; have e0:x218=x221:=Option.some.inj (by rw [←h219,←h222]; first | exact congrArg _ k | (obtain ⟨k1,_⟩:=k; simp only [k1]; done) | simp only [k]); exact ⟨by rw [e0],rfl⟩)) (ap (Qy be3.From h216) (ap (Qy be3.To h219) (ap (Qy be3.Contract h222) (ap (f23_ok x228 be3 h231) an))))))))))))))))))))))) rfl
       ·obtain rfl:=Qd h
        exact rE Qe [(jF [5,6,7,8,11,12,13,14,17,18,19,20,21,24,25,26,29,30,31,34,35,36,37,38,39,40,41,42,43,44,45],[jH 2 (jB x215),jH 7 (jB x218),(9,.bool false),jH 13 (jB x221),(15,.bool false),(22,.bool false),(27,.bool false),(32,.bool false),(45,.bool false),(46,.bool false)],[])] [] [] [] [0,8,9,10,61] (.norm,(f10n3E ba1 bd2 be3 (.norm false)).2) (ap (Qab h217) (ap4 (Qab h217) (ap (Qab h220) (ap4 (Qab h220) (ap2 (Qab h223) (ap4 (Qab h223) (ap4 h224 (ap4 h225 (ap3 h226 (ap4 h227 (ap4 h227 (ap h226 (ap h227 (ap h226 (ap (Qac (e:=⟨false,16,[(jS be3.From)],[],(jB x215),[]⟩) (f:=⟨false,16,[(jS be3.To)],[],(jB x218),[]⟩) (fun k=>by simp only [jL,jS,jI,jB,jA,Qa.cells_eq,Qa.map_eq,Qb.cells_eq,Qb.map_eq,Key_.cells_eq,Key_.map_eq,List.cons.injEq,AV.pl.injEq,PV.str.injEq,PV.int.injEq,PV.bool.injEq,PV.agg.injEq,PV.sl.injEq,and_true,true_and] at k; have e0:x215=x218:=Option.some.inj (by rw [←h216,←h219]; first | exact congrArg _ k | (obtain ⟨k1,_⟩:=k; simp only [k1]; done) | simp only [k]); exact ⟨by rw [e0],rfl⟩)) (ap (Qac (e:=⟨false,16,[(jS be3.From)],[],(jB x215),[]⟩) (f:=⟨false,16,[(jS be3.Contract)],[],(jB x221),[]⟩) (fun k=>by simp only [jL,jS,jI,jB,jA,Qa.cells_eq,Qa.map_eq,Qb.cells_eq,Qb.map_eq,Key_.cells_eq,Key_.map_eq,List.cons.injEq,AV.pl.injEq,PV.str.injEq,PV.int.injEq,PV.bool.injEq,PV.agg.injEq,PV.sl.injEq,and_true,true_and] at k; have e0:x215=x221:=Option.some.inj (by rw [←h216,←h222]; first | exact congrArg _ k | (obtain ⟨k1,_⟩:=k; simp only [k1]; done) | simp only [k]); exact ⟨by rw [e0],rfl⟩)) (ap (Qac (e:=⟨false,16,[(jS be3.To)],[],(jB x218),[]⟩) (f:=⟨false,16,[(jS be3.Contract)],[],(jB x221),[]⟩) (fun k=>by simp only [jL,jS,jI,jB,jA,Qa.cells_eq,Qa.map_eq,Qb.cells_eq,Qb.map_eq,Key_.cells_eq,Key_.map_eq,List.cons.injEq,AV.pl.injEq,PV.str.injEq,PV.int.injEq,PV.bool.injEq,PV.agg.injEq,PV.sl.injEq,and_true,true_and] at k; have e0:x218=x221:=Option.some.inj (by rw [←h219,←h222]; first | exact congrArg _ k | (obtain ⟨k1,_⟩:=k; simp only [k1]; done) | simp only [k]); exact ⟨by rw [e0],rfl⟩)) (ap (Qy be3.From h216) (ap (Qy be3.To h219) (ap (Qy be3.Contract h222) an)))))))))))))))))))) rfl
   ·obtain rfl:=Qd h
    exact rE Qe [(jF [5,6,7,8,11,12,13,14]++jT [17,18,19,20,21],[jH 2 (jB x215),jH 7 (jB x218),(9,.bool false),jH 13 (jB x221),(15,.bool false),(22,.bool true)],[])] [] [] [] [0,8,9,10,61] (.norm,(f10n3E ba1 bd2 be3 (.norm true)).2) (ap (Qab h217) (ap4 (Qab h217) (ap (Qab h220) (ap4 (Qab h220) (ap2 (Qbc h223) (ap4 (Qbc h223) (ap (Qac (e:=⟨false,16,[(jS be3.From)],[],(jB x215),[]⟩) (f:=⟨false,16,[(jS be3.To)],[],(jB x218),[]⟩) (fun k=>by simp only [jL,jS,jI,jB,jA,Qa.cells_eq,Qa.map_eq,Qb.cells_eq,Qb.map_eq,Key_.cells_eq,Key_.map_eq,List.cons.injEq,AV.pl.injEq,PV.str.injEq,PV.int.injEq,PV.bool.injEq,PV.agg.injEq,PV.sl.injEq,and_true,true_and] at k; have e0:x215=x218:=Option.some.inj (by rw [←h216,←h219]; first | exact congrArg _ k | (obtain ⟨k1,_⟩:=k; simp only [k1]; done) | simp only [k]); exact ⟨by rw [e0],rfl⟩)) (ap (Qac (e:=⟨false,16,[(jS be3.From)],[],(jB x215),[]⟩) (f:=⟨false,16,[(jS be3.Contract)],[],(jB x221),[]⟩) (fun k=>by simp only [jL,jS,jI,jB,jA,Qa.cells_eq,Qa.map_eq,Qb.cells_eq,Qb.map_eq,Key_.cells_eq,Key_.map_eq,List.cons.injEq,AV.pl.injEq,PV.str.injEq,PV.int.injEq,PV.bool.injEq,PV.agg.injEq,PV.sl.injEq,and_true,true_and] at k; have e0:x215=x221:=Option.some.inj (by rw [←h216,←h222]; first | exact congrArg _ k | (obtain ⟨k1,_⟩:=k; simp only [k1]; done) | simp only [k]); exact ⟨by rw [e0],rfl⟩)) (ap (Qac (e:=⟨false,16,[(jS be3.To)],[],(jB x218),[]⟩) (f:=⟨false,16,[(jS be3.Contract)],[],(jB x221),[]⟩) (fun k=>by simp only [jL,jS,jI,jB,jA,Qa.cells_eq,Qa.map_eq,Qb.cells_eq,Qb.map_eq,Key_.cells_eq,Key_.map_eq,List.cons.injEq,AV.pl.injEq,PV.str.injEq,PV.int.injEq,PV.bool.injEq,PV.agg.injEq,PV.sl.injEq,and_true,true_and] at k; have e0:x218=x221:=Option.some.inj (by rw [←h219,←h222]; first | exact congrArg _ k | (obtain ⟨k1,_⟩:=k; simp only [k1]; done) | simp only [k]); exact ⟨by rw [e0],rfl⟩)) (ap (Qy be3.From h216) (ap (Qy be3.To h219) (ap (Qy be3.Contract h222) an)))))))))))) rfl
  ·obtain rfl:=Qd h;exact rE Qe [(jF [5,6,7,8]++jT [11,12,13,14],[jH 2 (jB x215),jH 7 (jB x218),(9,.bool false),(15,.bool true)],[])] [] [] [] [0,8,9,10,61] (.norm,(f10n3E ba1 bd2 be3 (.norm true)).2) (ap (Qab h217) (ap4 (Qab h217) (ap (Qbc h220) (ap4 (Qbc h220) (ap (Qac (e:=⟨false,16,[(jS be3.From)],[],(jB x215),[]⟩) (f:=⟨false,16,[(jS be3.To)],[],(jB x218),[]⟩) (fun k=>by simp only [jL,jS,jI,jB,jA,Qa.cells_eq,Qa.map_eq,Qb.cells_eq,Qb.map_eq,Key_.cells_eq,Key_.map_eq,List.cons.injEq,AV.pl.injEq,PV.str.injEq,PV.int.injEq,PV.bool.injEq,PV.agg.injEq,PV.sl.injEq,and_true,true_and] at k; have e0:x215=x218:=Option.some.inj (by rw [←h216,←h219]; first | exact congrArg _ k | (obtain ⟨k1,_⟩:=k; simp only [k1]; done) | simp only [k]); exact ⟨by rw [e0],rfl⟩)) (ap (Qy be3.From h216) (ap (Qy be3.To h219) an))))))) rfl
 ·obtain rfl:=Qd h;exact rE Qe [(jT [5,6,7,8],[jH 2 (jB x215),(9,.bool true)],[])] [] [] [] [0,8,9,10,61] (.norm,(f10n3E ba1 bd2 be3 (.norm true)).2) (ap (Qbc h217) (ap4 (Qbc h217) (ap (Qy be3.From h216) an))) rfl
inductive f10n2O where
 | norm
 | ret
def f10n2E(ba1:List Qa)(bd2:Int):f10n2O→Ex×Tr×Hp
 | .norm=>(.norm,mkS [(0,(jL 4 Qa.cells ba1)),(8,(jL 4 Qa.cells ba1)),(9,(jI (ba1.length:Int))),(10,(jI bd2))],[])
 | .ret=>(.ret,mkS [(2,(jI 8))],[])
def f10n2S(ba1:List Qa)(bd2:Int):Tr×Hp:=(mkS [(0,(jL 4 Qa.cells ba1)),(8,(jL 4 Qa.cells ba1)),(9,(jI (ba1.length:Int))),(10,(jI bd2))],[])
noncomputable def f10n2(ba1:List Qa)(bd2:Int):Option f10n2O :=
 (at? ba1 bd2).bind fun x179 =>
 (f10n3 ba1 bd2 x179).bind fun o233=>match o233 with
 | .norm v235=>bif v235 then
   some .ret
  else
   some .norm
theorem f10n2_ok(ba1:List Qa)(bd2:Int){o:f10n2O}(h:f10n2 ba1 bd2=some o):T Try.prog Try.f10.ntmps 0 (cL (Qi 2 (cL (cL (Qi 1 (cL (Qi 2 c10))))))) (f10n2S ba1 bd2) (·=f10n2E ba1 bd2 o):=by
 unfold f10n2 at h;refine T.block' (i:=1) (by kernel_rfl) ?_;obtain ⟨x179,h180,h⟩:=Qc h;refine rN Qe 1 [([],[(1,.idx (Int.toNat bd2) (Qa.cells x179))],[])] [] [] [0] [0,3,4,8,9,10] (f10n3S ba1 bd2 x179) (ap (Qg h180).1 (ap (Qo Qa.cells (Qg h180).2) an)) ?_;obtain ⟨o233,h234,h⟩:=Qc h;cases o233 with
 | norm v235 =>
  refine T.oneN (by kernel_rfl) (f10n3_ok ba1 bd2 x179 h234) (st2:=(f10n3E ba1 bd2 x179 (.norm v235)).2) rfl ?_;rcases Qf h with ⟨h237,h⟩|⟨h237,h⟩
  ·obtain rfl:=Qd h;exact rE Qe [j3] [some true] [] [] [2] (.ret,(f10n2E ba1 bd2 .ret).2) (ap h237 an) rfl
  ·obtain rfl:=Qd h;exact rE Qe [] [some false] [] [] [0,8,9,10] (.norm,(f10n2E ba1 bd2 .norm).2) (ap h237 an) rfl
inductive f10n4O where
 | exit0
 | ret
def f10n4E(ba1:List Qa):f10n4O→Ex×Tr×Hp
 | .exit0=>((.exit 0),mkS [],[])
 | .ret=>(.ret,mkS [(2,(jI 8))],[])
def f10n4S(ba1:List Qa)(v154:Int):Tr×Hp:=(mkS [(0,(jL 4 Qa.cells ba1)),(8,(jL 4 Qa.cells ba1)),(9,(jI (ba1.length:Int))),(10,(jI v154))],[])
noncomputable def f10n4:Nat→List Qa→Int→Option f10n4O
 | 0,_,_=>none
 | f+1,ba1,v154 =>
  bif decide (v154<(ba1.length:Int)) then
   (f10n2 ba1 v154).bind fun o238=>match o238 with
   | .norm=>(f10n4 f ba1 (wr64 (v154+1)))
   | .ret=>some .ret
  else
   some .exit0
theorem f10n4_ok:∀(f:Nat)(ba1:List Qa)(v154:Int){o:f10n4O},f10n4 f ba1 v154=some o→TL Try.prog Try.f10.ntmps 0 f (cL (cL (Qi 1 (cL (Qi 2 c10))))) (f10n4S ba1 v154) (·=f10n4E ba1 o)
 | 0,_,_,o,h=>by rw [f10n4] at h; cases h
 | f+1,ba1,v154,o,h=>by
  rw [f10n4] at h;refine TL.body (K:=fun s=>∃v154:Int,s=(f10n4S ba1 v154)∧f10n4 f ba1 v154=some o) ?_ (by rintro _ ⟨v154,rfl,hk⟩; exact f10n4_ok f _ _ hk);rcases Qf h with ⟨h156,h⟩|⟨h156,h⟩
  ·refine rN Qe 2 [j3] [some true] [] [] [0,8,9,10] (f10n2S ba1 v154) (ap h156 an) ?_;obtain ⟨o238,h239,h⟩:=Qc h;cases o238 with
   | norm =>
    refine T.oneN (by kernel_rfl) (f10n2_ok ba1 v154 h239) (st2:=(f10n2E ba1 v154 .norm).2) rfl ?_;exact rE Qe [j3] [] [] [] [0,8,9,10] (.norm,(f10n4S ba1 (wr64 (v154+1)))) an (Qv.norm ⟨(wr64 (v154+1)),rfl,h⟩)
   | ret =>
    obtain rfl:=Qd h;exact T.oneX' (by kernel_rfl) (f10n2_ok ba1 v154 h239) (tds:=[]) (m:=[]) (keep:=[2]) (st2:=(f10n4E ba1 .ret).2) (by kernel_rfl) an rfl (Qv.out rfl rfl)
  ·obtain rfl:=Qd h;exact rK Qe 2 [j3] [some false] [] [] [] (.exit 0) ((f10n4E ba1 .exit0).2) (ap h156 an) (Qv.out rfl rfl)
inductive f10n1O where
 | norm
 | ret
def f10n1E(ba1:List Qa):f10n1O→Ex×Tr×Hp
 | .norm=>(.norm,mkS [],[])
 | .ret=>(.ret,mkS [(2,(jI 8))],[])
def f10n1S(ba1:List Qa):Tr×Hp:=(mkS [(0,(jL 4 Qa.cells ba1))],[])
noncomputable def f10n1(ba1:List Qa):Option f10n1O :=
 (f10n4 FUEL ba1 0).bind fun o240=>match o240 with
 | .exit0=>some .norm
 | .ret=>some .ret
theorem f10n1_ok(ba1:List Qa){o:f10n1O}(h:f10n1 ba1=some o):T Try.prog Try.f10.ntmps 0 (cL (Qi 2 c10)) (f10n1S ba1) (·=f10n1E ba1 o):=by
 unfold f10n1 at h;refine rN Qe 1 [([],[],[(1,.val (jI (ba1.length:Int)))])] [] [] [] [0,8,9,10] (f10n4S ba1 0) (ap (Qu (xs:=ba1) (c:=Qa.cells)) an) ?_;obtain ⟨o240,h241,h⟩:=Qc h;cases o240 with
 | exit0 =>
  obtain rfl:=Qd h;exact T.last' (T.bl (i:=0) (by kernel_rfl) (by kernel_rfl) (f10n4_ok FUEL ba1 0 h241)) (tds:=[]) (m:=[]) (keep:=[]) (st2:=(f10n1E ba1 .norm).2) (by kernel_rfl) an rfl
 | ret =>
  obtain rfl:=Qd h;exact T.last' (T.bl (i:=0) (by kernel_rfl) (by kernel_rfl) (f10n4_ok FUEL ba1 0 h241)) (tds:=[]) (m:=[]) (keep:=[2]) (st2:=(f10n1E ba1 .ret).2) (by kernel_rfl) an rfl
inductive f10n0O where
 | ret (v244:Int)
def f10n0E(a1:List Qa):f10n0O→Ex×Tr×Hp
 | .ret v244=>(.ret,mkS [(2,(jI v244))],[])
def f10n0S(a1:List Qa):Tr×Hp:=(Qad [(jL 4 Qa.cells a1)] 0 .leaf,[])
noncomputable def f10n0(a1:List Qa):Option f10n0O :=
 bif decide (200<(a1.length:Int)) then
  some (.ret 4)
 else
  (f10n1 a1).bind fun o242=>match o242 with
  | .norm=>some (.ret 0)
  | .ret=>some (.ret 8)
theorem f10n0_ok(a1:List Qa){o:f10n0O}(h:f10n0 a1=some o):T Try.prog Try.f10.ntmps 0 c10 (f10n0S a1) (·=f10n0E a1 o):=by
 unfold f10n0 at h;rcases Qf h with ⟨h3,h⟩|⟨h3,h⟩
 ·obtain rfl:=Qd h;exact rK Qe 2 [j3,([],[],[(1,.val (jI (a1.length:Int)))]),j3] [some true] [] [] [2] .ret ((f10n0E a1 (.ret 4)).2) (ap (Qu (xs:=a1) (c:=Qa.cells)) (ap h3 an)) rfl
 ·refine rN Qe 2 [j3,([],[],[(1,.val (jI (a1.length:Int)))])] [some false] [] [] [0] (f10n1S a1) (ap (Qu (xs:=a1) (c:=Qa.cells)) (ap h3 an)) ?_;obtain ⟨o242,h243,h⟩:=Qc h;cases o242 with
  | norm =>
   refine T.oneN (by kernel_rfl) (f10n1_ok a1 h243) (st2:=(f10n1E a1 .norm).2) rfl ?_;obtain rfl:=Qd h;exact rE Qe [j3] [] [] [] [2] (.ret,(f10n0E a1 (.ret 0)).2) an rfl
  | ret =>
   obtain rfl:=Qd h;exact T.oneX' (by kernel_rfl) (f10n1_ok a1 h243) (tds:=[]) (m:=[]) (keep:=[2]) (st2:=(f10n0E a1 (.ret 8)).2) (by kernel_rfl) an rfl rfl
noncomputable def f10(a1:List Qa):Option Int:=(f10n0 a1).bind fun o=>match o with
 | .ret v244=>some v244
theorem f10_ok(a1:List Qa){r:Int}(h:f10 a1=some r):Qk Try.prog false 10 [(jL 4 Qa.cells a1)] [] (jI r) []:=by
 unfold f10 at h;obtain ⟨o,ho,h⟩:=Qc h;cases o with
 | ret v244 =>
  obtain rfl:=Qd h;exact Qk.plain Qe (f:=Try.f10) (c:=c10) (by kernel_rfl) (by kernel_rfl) (by kernel_rfl) (by kernel_rfl) ((f10n0_ok a1 ho).mono fun r e=>by subst e; exact ⟨.inl rfl,(jI v244),(jI v244),by kernel_rfl,by kernel_rfl,((Wk.refl _):Wk (jI v244) (jI v244))⟩)

noncomputable def c11:Code:=Try.f11.body.getD .skip
inductive f11r1n0O where
 | ret (v5:List Qa)
def f11r1n0E(a1:List Qa):f11r1n0O→Ex×Tr×Hp
 | .ret v5=>(.ret,mkS [(2,(.own 1))],[jR 4 Qa.cells a1,jR 4 Qa.cells v5])
def f11r1n0S(a1:List Qa):Tr×Hp:=(Qad [(.own 0)] 0 .leaf,[jR 4 Qa.cells a1])
noncomputable def f11r1n0(a1:List Qa):Option f11r1n0O :=
 bif (a1.isEmpty) then
  some (.ret [])
 else
  req (fit a1.length 56) <|
  some (.ret a1)
theorem f11r1n0_ok(a1:List Qa){o:f11r1n0O}(h:f11r1n0 a1=some o):T Try.prog Try.f11.ntmps 1 c11 (f11r1n0S a1) (·=f11r1n0E a1 o):=by
 unfold f11r1n0 at h;refine rN Qe 1 [j3] [] [] [] [0] (mkS [(0,(.own 0))],[jR 4 Qa.cells a1]) an ?_;refine T.nest (by kernel_rfl) ?_;rcases Qf h with ⟨h2,h⟩|⟨h2,h⟩
 ·refine rN Qe 0 [] [] [] [] [0] (mkS [(0,(.own 0))],[jR 4 Qa.cells a1]) an ?_;refine T.oneNil Qe (x:=.tmp 0) (t:=22) (t3:=3) (t4:=4) (sz:=4) (es:=(a1.map Qa.cells)) (by kernel_rfl) (by kernel_rfl) (by kernel_rfl) (by kernel_rfl) (by kernel_rfl) (fun b hb=>?_);cases b
  ·refine rE Qe [] [none] [] [] [0] (.norm,(mkS [(0,(.own 0))],[jR 4 Qa.cells a1])) an (ThenQ.norm ?_);obtain rfl:=Qd h;exact rE Qe [([],[(2,.app false)],[])] [] [] [1] [2] (.ret,(f11r1n0E a1 (.ret [])).2) (ap (nil_map (c:=Qa.cells) h2) an) rfl
  ·obtain rfl:=Qd h;exact rE Qe [j3] [none] [.mat 2 4] [1] [2] (.ret,(f11r1n0E a1 (.ret [])).2) an (ThenQ.out rfl rfl)
 ·refine rN Qe 0 [] [] [] [] [0] (mkS [(0,(.own 0))],[jR 4 Qa.cells a1]) an ?_;refine T.oneNil Qe (x:=.tmp 0) (t:=22) (t3:=3) (t4:=4) (sz:=4) (es:=(a1.map Qa.cells)) (by kernel_rfl) (by kernel_rfl) (by kernel_rfl) (by kernel_rfl) (by kernel_rfl) (fun b hb=>?_);cases b
  ·refine rE Qe [] [none] [] [] [0] (.norm,(mkS [(0,(.own 0))],[jR 4 Qa.cells a1])) an (ThenQ.norm ?_);obtain ⟨h4,h⟩:=Qm h;obtain rfl:=Qd h;exact rE Qe [([],[(2,.app true)],[])] [] [] [2] [2] (.ret,(f11r1n0E a1 (.ret a1)).2) (ap (fit_map0z (te:=ti26) (xs:=a1) (c:=Qa.cells) h4 rfl) (ap (ne_map (c:=Qa.cells) h2) (ap (len_all (c:=Qa.cells) (xs:=a1) (n:=4) (fun _=>rfl)) an))) rfl
  ·exact absurd (hb rfl) (ne_map (c:=Qa.cells) h2)
noncomputable def f11r1(a1:List Qa):Option (List Qa):=(f11r1n0 a1).bind fun o=>match o with
 | .ret v5=>some v5
theorem f11r1_ok(a1:List Qa){r:List Qa}(h:f11r1 a1=some r):Qk Try.prog true 11 [(.own 0)] [jR 4 Qa.cells a1] (.own 1) [jR 4 Qa.cells a1,jR 4 Qa.cells r]:=by
 unfold f11r1 at h;obtain ⟨o,ho,h⟩:=Qc h;cases o with
 | ret v5 =>
  obtain rfl:=Qd h;exact Qk.shared Qe (f:=Try.f11) (c:=c11) (by kernel_rfl) (by kernel_rfl) (by kernel_rfl) ((f11r1n0_ok a1 ho).mono fun r e=>by subst e; exact ⟨.inl rfl,by kernel_rfl,by kernel_rfl⟩)

noncomputable def c34:Code:=Try.f34.body.getD .skip
inductive f34r1n0O where
 | norm
def f34r1n0E(a1:ByteArray)(a2:List Int):f34r1n0O→Ex×Tr×Hp
 | .norm=>(.norm,mkS [],[some (.box 71 [(.own 2)]),some (.row true 1 (a2.map (cInt .i64))),some (.row false 2 ([(Way_.mk a1 a2)].map Way_.cells))])
def f34r1n0S(a1:ByteArray)(a2:List Int):Tr×Hp:=(Qad [(.bp 0 0),(.agg [(jS a1),(.own 1)])] 0 .leaf,[some (.box 71 [(.pl (.sl .nil 0 []))]),some (.row false 1 (a2.map (cInt .i64)))])
noncomputable def f34r1n0(a1:ByteArray)(a2:List Int):Option f34r1n0O :=
 some .norm
theorem f34r1n0_ok(a1:ByteArray)(a2:List Int){o:f34r1n0O}(h:f34r1n0 a1 a2=some o):T Try.prog Try.f34.ntmps 2 c34 (f34r1n0S a1 a2) (·=f34r1n0E a1 a2 o):=by
 unfold f34r1n0 at h;obtain rfl:=Qd h;exact rE Qe [j3,([],[(6,.fits)],[])] [] [] [4] [] (.norm,(f34r1n0E a1 a2 .norm).2) (ap (rfl:Qbk 1 ti74=true) an) rfl
noncomputable def f34r1(a1:ByteArray)(a2:List Int):Option Unit:=(f34r1n0 a1 a2).bind fun o=>match o with
 | .norm=>some ()
theorem f34r1_ok(a1:ByteArray)(a2:List Int){r:Unit}(h:f34r1 a1 a2=some r):Qk Try.prog true 34 [(.bp 0 0),(.agg [(jS a1),(.own 1)])] [some (.box 71 [(.pl (.sl .nil 0 []))]),some (.row false 1 (a2.map (cInt .i64)))] (.tup []) [some (.box 71 [(.own 2)]),some (.row true 1 (a2.map (cInt .i64))),some (.row false 2 ([(Way_.mk a1 a2)].map Way_.cells))]:=by
 unfold f34r1 at h;obtain ⟨o,ho,h⟩:=Qc h;cases o with
 | norm =>
  obtain rfl:=Qd h;exact Qk.shared Qe (f:=Try.f34) (c:=c34) (by kernel_rfl) (by kernel_rfl) (by kernel_rfl) ((f34r1n0_ok a1 a2 ho).mono fun r e=>by subst e; exact ⟨.inr rfl,by kernel_rfl,by kernel_rfl⟩)

noncomputable def c35:Code:=Try.f35.body.getD .skip

noncomputable def c36:Code:=Try.f36.body.getD .skip
inductive f36r1n0O where
 | ret
def f36r1n0E(a1 a2:ByteArray)(a3:List Qa):f36r1n0O→Ex×Tr×Hp
 | .ret=>(.ret,mkS [(6,(.clo 50 [(.bp 1 0),(.bp 2 0),(.bp 3 0)]))],[jR 4 Qa.cells a3,some (.box 22 [(.own 0)]),some (.box 9 ((cStr a1).map .pl)),some (.box 9 ((cStr a2).map .pl))])
def f36r1n0S(a1 a2:ByteArray)(a3:List Qa):Tr×Hp:=(Qad [(.own 0),(jS a1),(jS a2)] 0 .leaf,[jR 4 Qa.cells a3])
noncomputable def f36r1n0(a1 a2:ByteArray)(a3:List Qa):Option f36r1n0O :=
 some .ret
theorem f36r1n0_ok(a1 a2:ByteArray)(a3:List Qa){o:f36r1n0O}(h:f36r1n0 a1 a2 a3=some o):T Try.prog Try.f36.ntmps 1 c36 (f36r1n0S a1 a2 a3) (·=f36r1n0E a1 a2 a3 o):=by
 unfold f36r1n0 at h;obtain rfl:=Qd h;exact rE Qe [j3,j3] [] [] [1,2,3] [6] (.ret,(f36r1n0E a1 a2 a3 .ret).2) an rfl
noncomputable def f36r1(a1 a2:ByteArray)(a3:List Qa):Option Unit:=(f36r1n0 a1 a2 a3).bind fun o=>match o with
 | .ret=>some ()
theorem f36r1_ok(a1 a2:ByteArray)(a3:List Qa){r:Unit}(h:f36r1 a1 a2 a3=some r):Qk Try.prog true 36 [(.own 0),(jS a1),(jS a2)] [jR 4 Qa.cells a3] (.clo 50 [(.bp 1 0),(.bp 2 0),(.bp 3 0)]) [jR 4 Qa.cells a3,some (.box 22 [(.own 0)]),some (.box 9 ((cStr a1).map .pl)),some (.box 9 ((cStr a2).map .pl))]:=by
 unfold f36r1 at h;obtain ⟨o,ho,h⟩:=Qc h;cases o with
 | ret =>
  obtain rfl:=Qd h;exact Qk.shared Qe (f:=Try.f36) (c:=c36) (by kernel_rfl) (by kernel_rfl) (by kernel_rfl) ((f36r1n0_ok a1 a2 a3 ho).mono fun r e=>by subst e; exact ⟨.inl rfl,by kernel_rfl,by kernel_rfl⟩)

noncomputable def c37:Code:=Try.f37.body.getD .skip
inductive f37r1n0O where
 | ret (v5:List Int)
def f37r1n0E(a1:List Int):f37r1n0O→Ex×Tr×Hp
 | .ret v5=>(.ret,mkS [(2,(.own 0))],[some (.row false 1 (v5.map (cInt .i64)))])
def f37r1n0S(a1:List Int):Tr×Hp:=(Qad [(.pl (.sl .any 1 (a1.map (cInt .i64))))] 0 .leaf,[])
noncomputable def f37r1n0(a1:List Int):Option f37r1n0O :=
 bif (a1.isEmpty) then
  some (.ret [])
 else
  req (fit a1.length 8) <|
  some (.ret a1)
theorem f37r1n0_ok(a1:List Int){o:f37r1n0O}(h:f37r1n0 a1=some o):T Try.prog Try.f37.ntmps 0 c37 (f37r1n0S a1) (·=f37r1n0E a1 o):=by
 unfold f37r1n0 at h;refine rN Qe 1 [j3] [] [] [] [0] (mkS [(0,(.pl (.sl .any 1 (a1.map (cInt .i64)))))],[]) an ?_;refine T.nest (by kernel_rfl) ?_;rcases Qf h with ⟨h2,h⟩|⟨h2,h⟩
 ·refine rN Qe 0 [] [] [] [] [0] (mkS [(0,(.pl (.sl .any 1 (a1.map (cInt .i64)))))],[]) an ?_;refine T.oneNil Qe (x:=.tmp 0) (t:=38) (t3:=3) (t4:=4) (sz:=1) (es:=(a1.map (cInt .i64))) (by kernel_rfl) (by kernel_rfl) (by kernel_rfl) (by kernel_rfl) (by kernel_rfl) (fun b hb=>?_);cases b
  ·refine rE Qe [] [none] [] [] [0] (.norm,(mkS [(0,(.pl (.sl .any 1 (a1.map (cInt .i64)))))],[])) an (ThenQ.norm ?_);obtain rfl:=Qd h;exact rE Qe [([],[(2,.app false)],[])] [] [] [0] [2] (.ret,(f37r1n0E a1 (.ret [])).2) (ap (nil_map (c:=(cInt .i64)) h2) an) rfl
  ·obtain rfl:=Qd h;exact rE Qe [j3] [none] [.mat 2 1] [0] [2] (.ret,(f37r1n0E a1 (.ret [])).2) an (ThenQ.out rfl rfl)
 ·refine rN Qe 0 [] [] [] [] [0] (mkS [(0,(.pl (.sl .any 1 (a1.map (cInt .i64)))))],[]) an ?_;refine T.oneNil Qe (x:=.tmp 0) (t:=38) (t3:=3) (t4:=4) (sz:=1) (es:=(a1.map (cInt .i64))) (by kernel_rfl) (by kernel_rfl) (by kernel_rfl) (by kernel_rfl) (by kernel_rfl) (fun b hb=>?_);cases b
  ·refine rE Qe [] [none] [] [] [0] (.norm,(mkS [(0,(.pl (.sl .any 1 (a1.map (cInt .i64)))))],[])) an (ThenQ.norm ?_);obtain ⟨h4,h⟩:=Qm h;obtain rfl:=Qd h;exact rE Qe [([],[(2,.app true)],[])] [] [] [1] [2] (.ret,(f37r1n0E a1 (.ret a1)).2) (ap (fit_map0z (te:=ti3) (xs:=a1) (c:=(cInt .i64)) h4 rfl) (ap (ne_map (c:=(cInt .i64)) h2) (ap (len_all (c:=(cInt .i64)) (xs:=a1) (n:=1) (fun _=>rfl)) an))) rfl
  ·exact absurd (hb rfl) (ne_map (c:=(cInt .i64)) h2)
noncomputable def f37r1(a1:List Int):Option (List Int):=(f37r1n0 a1).bind fun o=>match o with
 | .ret v5=>some v5
theorem f37r1_ok(a1:List Int){r:List Int}(h:f37r1 a1=some r):Qk Try.prog true 37 [(.pl (.sl .any 1 (a1.map (cInt .i64))))] [] (.own 0) [some (.row false 1 (r.map (cInt .i64)))]:=by
 unfold f37r1 at h;obtain ⟨o,ho,h⟩:=Qc h;cases o with
 | ret v5 =>
  obtain rfl:=Qd h;exact Qk.shared Qe (f:=Try.f37) (c:=c37) (by kernel_rfl) (by kernel_rfl) (by kernel_rfl) ((f37r1n0_ok a1 ho).mono fun r e=>by subst e; exact ⟨.inl rfl,by kernel_rfl,by kernel_rfl⟩)

noncomputable def c51:Code:=Try.f51.body.getD .skip
inductive f51n2O where
 | exit0
 | ret (v29:Int)
def f51n2E(bi1:List ByteArray)(bb2:ByteArray):f51n2O→Ex×Tr×Hp
 | .exit0=>((.exit 0),mkS [],[])
 | .ret v29=>(.ret,mkS [(4,(jI v29))],[])
def f51n2S(bi1:List ByteArray)(bb2:ByteArray)(v20:Int):Tr×Hp:=(mkS [(0,(jL 1 cStr bi1)),(1,(jS bb2)),(7,(jI (bi1.length:Int))),(8,(jI v20))],[])
noncomputable def f51n2:Nat→List ByteArray→ByteArray→Int→Option f51n2O
 | 0,_,_,_=>none
 | f+1,bi1,bb2,v20 =>
  bif decide (v20<(bi1.length:Int)) then
   (at? bi1 v20).bind fun x26 =>
   bif (seq bb2 x26) then
    some (.ret v20)
   else
    (f51n2 f bi1 bb2 (wr64 (v20+1)))
  else
   some .exit0
theorem f51n2_ok:∀(f:Nat)(bi1:List ByteArray)(bb2:ByteArray)(v20:Int){o:f51n2O},f51n2 f bi1 bb2 v20=some o→TL Try.prog Try.f51.ntmps 0 f (cL (cL (Qi 1 (cL (Qi 1 c51))))) (f51n2S bi1 bb2 v20) (·=f51n2E bi1 bb2 o)
 | 0,_,_,_,o,h=>by rw [f51n2] at h; cases h
 | f+1,bi1,bb2,v20,o,h=>by
  rw [f51n2] at h;refine TL.body (K:=fun s=>∃v20:Int,s=(f51n2S bi1 bb2 v20)∧f51n2 f bi1 bb2 v20=some o) ?_ (by rintro _ ⟨v20,rfl,hk⟩; exact f51n2_ok f _ _ _ hk);rcases Qf h with ⟨h22,h⟩|⟨h22,h⟩
  ·obtain ⟨x26,h27,h⟩:=Qc h;rcases Qf h with ⟨h28,h⟩|⟨h28,h⟩
   ·obtain rfl:=Qd h;exact rK Qe 3 [j3,j3,([],[(3,.idx (Int.toNat v20) (cStr x26))],[]),j3] [some true,some true] [] [] [4] .ret ((f51n2E bi1 bb2 (.ret v20)).2) (ap h22 (ap (Qg h27).1 (ap (Qo cStr (Qg h27).2) (ap h28 an)))) (Qv.out rfl rfl)
   ·exact rE Qe [j3,j3,([],[(3,.idx (Int.toNat v20) (cStr x26))],[]),j3] [some true,some false] [] [] [0,1,7,8] (.norm,(f51n2S bi1 bb2 (wr64 (v20+1)))) (ap h22 (ap (Qg h27).1 (ap (Qo cStr (Qg h27).2) (ap h28 an)))) (Qv.norm ⟨(wr64 (v20+1)),rfl,h⟩)
  ·obtain rfl:=Qd h;exact rK Qe 2 [j3] [some false] [] [] [] (.exit 0) ((f51n2E bi1 bb2 .exit0).2) (ap h22 an) (Qv.out rfl rfl)
noncomputable def f51n2L(bi1:List ByteArray)(bb2:ByteArray):List ByteArray→Int→Option f51n2O
 | [],v20 =>
  some .exit0
 | x0::rest,v20 =>
  bif (seq bb2 x0) then
   some (.ret v20)
  else
   (f51n2L bi1 bb2 rest (v20+1))
theorem f51n2L_eq(bi1:List ByteArray)(bb2:ByteArray):∀(rest:List ByteArray)(f k:Nat),bi1.drop k=rest→bi1.length≤maxLen→rest.length<f→f51n2 f bi1 bb2 (k:Int)=f51n2L bi1 bb2 rest (k:Int)
 | _,0,_,_,_,hf=>absurd hf (Nat.not_lt_zero _)
 | [],f+1,k,hd,hm,hf=>by
  have hk:¬((k:Int)<(bi1.length:Int)):=by have:=Qbp hd; omega
  rw [f51n2,f51n2L];simp only [decide_eq_false hk,cond_false]
 | x0::rest,f+1,k,hd,hm,hf=>by
  obtain ⟨hx,hlt,hd'⟩:=Qba hd;have hk:(k:Int)<(bi1.length:Int):=by omega
  have hw:wr64 ((k:Int)+1)=(k:Int)+1:=wr64_of (by omega) (by unfold maxLen at hm; omega);have ih:f51n2 f bi1 bb2 ((k:Int)+1)=f51n2L bi1 bb2 rest ((k:Int)+1):=f51n2L_eq bi1 bb2 rest f (k+1) hd' hm (by simpa using hf);rw [f51n2,f51n2L];simp only [decide_eq_true hk,cond_true,at_nat,hx,Option.bind_some,hw,ih]
theorem f51n2_run(bi1:List ByteArray)(bb2:ByteArray)(hm:bi1.length≤maxLen):f51n2 FUEL bi1 bb2 0=f51n2L bi1 bb2 bi1 0:=f51n2L_eq bi1 bb2 bi1 FUEL 0 List.drop_zero hm (lt_FUEL hm)
inductive f51n1O where
 | norm
 | ret (v33:Int)
def f51n1E(bi1:List ByteArray)(bb2:ByteArray):f51n1O→Ex×Tr×Hp
 | .norm=>(.norm,mkS [],[])
 | .ret v33=>(.ret,mkS [(4,(jI v33))],[])
def f51n1S(bi1:List ByteArray)(bb2:ByteArray):Tr×Hp:=(mkS [(0,(jL 1 cStr bi1)),(1,(jS bb2))],[])
noncomputable def f51n1(bi1:List ByteArray)(bb2:ByteArray):Option f51n1O :=
 (f51n2 FUEL bi1 bb2 0).bind fun o30=>match o30 with
 | .exit0=>some .norm
 | .ret v32=>some (.ret v32)
theorem f51n1_ok(bi1:List ByteArray)(bb2:ByteArray){o:f51n1O}(h:f51n1 bi1 bb2=some o):T Try.prog Try.f51.ntmps 0 (cL (Qi 1 c51)) (f51n1S bi1 bb2) (·=f51n1E bi1 bb2 o):=by
 unfold f51n1 at h;refine rN Qe 1 [([],[],[(1,.val (jI (bi1.length:Int)))])] [] [] [] [0,1,7,8] (f51n2S bi1 bb2 0) (ap (Qu (xs:=bi1) (c:=cStr)) an) ?_;obtain ⟨o30,h31,h⟩:=Qc h;cases o30 with
 | exit0 =>
  obtain rfl:=Qd h;exact T.last' (T.bl (i:=0) (by kernel_rfl) (by kernel_rfl) (f51n2_ok FUEL bi1 bb2 0 h31)) (tds:=[]) (m:=[]) (keep:=[]) (st2:=(f51n1E bi1 bb2 .norm).2) (by kernel_rfl) an rfl
 | ret v32 =>
  obtain rfl:=Qd h;exact T.last' (T.bl (i:=0) (by kernel_rfl) (by kernel_rfl) (f51n2_ok FUEL bi1 bb2 0 h31)) (tds:=[]) (m:=[]) (keep:=[4]) (st2:=(f51n1E bi1 bb2 (.ret v32)).2) (by kernel_rfl) an rfl
inductive f51n0O where
 | ret (v37:Int)
def f51n0E(a1:List ByteArray)(a2:ByteArray):f51n0O→Ex×Tr×Hp
 | .ret v37=>(.ret,mkS [(4,(jI v37))],[])
def f51n0S(a1:List ByteArray)(a2:ByteArray):Tr×Hp:=(Qad [(jL 1 cStr a1),(jS a2)] 0 .leaf,[])
noncomputable def f51n0(a1:List ByteArray)(a2:ByteArray):Option f51n0O :=
 (f51n1 a1 a2).bind fun o34=>match o34 with
 | .norm=>some (.ret (-1))
 | .ret v36=>some (.ret v36)
theorem f51n0_ok(a1:List ByteArray)(a2:ByteArray){o:f51n0O}(h:f51n0 a1 a2=some o):T Try.prog Try.f51.ntmps 0 c51 (f51n0S a1 a2) (·=f51n0E a1 a2 o):=by
 unfold f51n0 at h;refine rN Qe 1 [j3] [] [] [] [0,1] (f51n1S a1 a2) an ?_;obtain ⟨o34,h35,h⟩:=Qc h;cases o34 with
 | norm =>
  refine T.oneN (by kernel_rfl) (f51n1_ok a1 a2 h35) (st2:=(f51n1E a1 a2 .norm).2) rfl ?_;obtain rfl:=Qd h;exact rE Qe [j3] [] [] [] [4] (.ret,(f51n0E a1 a2 (.ret (-1))).2) an rfl
 | ret v36 =>
  obtain rfl:=Qd h;exact T.oneX' (by kernel_rfl) (f51n1_ok a1 a2 h35) (tds:=[]) (m:=[]) (keep:=[4]) (st2:=(f51n0E a1 a2 (.ret v36)).2) (by kernel_rfl) an rfl rfl
noncomputable def f51(a1:List ByteArray)(a2:ByteArray):Option Int:=(f51n0 a1 a2).bind fun o=>match o with
 | .ret v37=>some v37
theorem f51_ok(a1:List ByteArray)(a2:ByteArray){r:Int}(h:f51 a1 a2=some r):Qk Try.prog false 51 [(jL 1 cStr a1),(jS a2)] [] (jI r) []:=by
 unfold f51 at h;obtain ⟨o,ho,h⟩:=Qc h;cases o with
 | ret v37 =>
  obtain rfl:=Qd h;exact Qk.plain Qe (f:=Try.f51) (c:=c51) (by kernel_rfl) (by kernel_rfl) (by kernel_rfl) (by kernel_rfl) ((f51n0_ok a1 a2 ho).mono fun r e=>by subst e; exact ⟨.inl rfl,(jI v37),(jI v37),by kernel_rfl,by kernel_rfl,((Wk.refl _):Wk (jI v37) (jI v37))⟩)

noncomputable def c38:Code:=Try.f38.body.getD .skip
inductive f38n0O where
 | ret (v7:Bool)
def f38n0E(a1:List ByteArray)(a2:ByteArray):f38n0O→Ex×Tr×Hp
 | .ret v7=>(.ret,mkS [(4,(jB v7))],[])
def f38n0S(a1:List ByteArray)(a2:ByteArray):Tr×Hp:=(Qad [(jL 1 cStr a1),(jS a2)] 0 .leaf,[])
noncomputable def f38n0(a1:List ByteArray)(a2:ByteArray):Option f38n0O :=
 (f51 a1 a2).bind fun x5 =>
 some (.ret (decide (0≤x5)))
theorem f38n0_ok(a1:List ByteArray)(a2:ByteArray){o:f38n0O}(h:f38n0 a1 a2=some o):T Try.prog Try.f38.ntmps 0 c38 (f38n0S a1 a2) (·=f38n0E a1 a2 o):=by
 unfold f38n0 at h;obtain ⟨x5,h6,h⟩:=Qc h;obtain rfl:=Qd h;exact rE Qe [j3,([],[jH 2 (jI x5)],[])] [] [] [] [4] (.ret,(f38n0E a1 a2 (.ret (decide (0≤x5)))).2) (ap (f51_ok a1 a2 h6) an) rfl
noncomputable def f38(a1:List ByteArray)(a2:ByteArray):Option Bool:=(f38n0 a1 a2).bind fun o=>match o with
 | .ret v7=>some v7
theorem f38_ok(a1:List ByteArray)(a2:ByteArray){r:Bool}(h:f38 a1 a2=some r):Qk Try.prog false 38 [(jL 1 cStr a1),(jS a2)] [] (jB r) []:=by
 unfold f38 at h;obtain ⟨o,ho,h⟩:=Qc h;cases o with
 | ret v7 =>
  obtain rfl:=Qd h;exact Qk.plain Qe (f:=Try.f38) (c:=c38) (by kernel_rfl) (by kernel_rfl) (by kernel_rfl) (by kernel_rfl) ((f38n0_ok a1 a2 ho).mono fun r e=>by subst e; exact ⟨.inl rfl,(jB v7),(jB v7),by kernel_rfl,by kernel_rfl,((Wk.refl _):Wk (jB v7) (jB v7))⟩)

inductive f34r2n0O where
 | norm
def f34r2n0E(a1:ByteArray)(a2 a3:Nat)(a4:List Int)(a5:List Way_):f34r2n0O→Ex×Tr×Hp
 | .norm=>(.norm,mkS [],[some (.box 71 [(.own 3)]),some (.row true 1 (a4.map (cInt .i64))),none,some (.row false 2 ((a5.drop a2++[(Way_.mk a1 a4)]).map Way_.cells))])
def f34r2n0S(a1:ByteArray)(a2 a3:Nat)(a4:List Int)(a5:List Way_):Tr×Hp:=(Qad [(.bp 0 0),(.agg [(jS a1),(.own 1)])] 0 .leaf,[some (.box 71 [(.vw 2 a2 a3)]),some (.row false 1 (a4.map (cInt .i64))),jR 2 Way_.cells a5])
noncomputable def f34r2n0(a1:ByteArray)(a2 a3:Nat)(a4:List Int)(a5:List Way_):Option f34r2n0O :=
 req (fit (a3+1) 40) <|
 req (decide (a2+a3=a5.length)) <|
 some .norm
theorem f34r2n0_ok(a1:ByteArray)(a2 a3:Nat)(a4:List Int)(a5:List Way_){o:f34r2n0O}(h:f34r2n0 a1 a2 a3 a4 a5=some o):T Try.prog Try.f34.ntmps 3 c34 (f34r2n0S a1 a2 a3 a4 a5) (·=f34r2n0E a1 a2 a3 a4 a5 o):=by
 unfold f34r2n0 at h;obtain ⟨h8,h⟩:=Qm h;obtain ⟨h9,h⟩:=Qm h;obtain rfl:=Qd h;exact rE Qe [j3,([],[(6,.fits)],[(6,.row 5 ((a5.drop a2++[(Way_.mk a1 a4)]).map Way_.cells))])] [] [] [5] [] (.norm,(f34r2n0E a1 a2 a3 a4 a5 .norm).2) (ap (fit_num (te:=ti74) (n:=a3) (k:=1) h8 rfl) (ap (vw_end (xs:=a5) (c:=Way_.cells) (a:=a2) (l:=a3) h9) (ap (app_cvd (xs:=a5) (ys:=[(Way_.mk a1 a4)]) (c:=Way_.cells) (a:=a2)) an))) rfl
noncomputable def f34r2(a1:ByteArray)(a2 a3:Nat)(a4:List Int)(a5:List Way_):Option Unit:=(f34r2n0 a1 a2 a3 a4 a5).bind fun o=>match o with
 | .norm=>some ()
theorem f34r2_ok(a1:ByteArray)(a2 a3:Nat)(a4:List Int)(a5:List Way_){r:Unit}(h:f34r2 a1 a2 a3 a4 a5=some r):Qk Try.prog true 34 [(.bp 0 0),(.agg [(jS a1),(.own 1)])] [some (.box 71 [(.vw 2 a2 a3)]),some (.row false 1 (a4.map (cInt .i64))),jR 2 Way_.cells a5] (.tup []) [some (.box 71 [(.own 3)]),some (.row true 1 (a4.map (cInt .i64))),none,some (.row false 2 ((a5.drop a2++[(Way_.mk a1 a4)]).map Way_.cells))]:=by
 unfold f34r2 at h;obtain ⟨o,ho,h⟩:=Qc h;cases o with
 | norm =>
  obtain rfl:=Qd h;exact Qk.shared Qe (f:=Try.f34) (c:=c34) (by kernel_rfl) (by kernel_rfl) (by kernel_rfl) ((f34r2n0_ok a1 a2 a3 a4 a5 ho).mono fun r e=>by subst e; exact ⟨.inr rfl,by kernel_rfl,by kernel_rfl⟩)

noncomputable def c24:Code:=Try.f24.body.getD .skip
noncomputable def Qp:Code:=(Qi 0 (cL (Qi 0 (Qi 2 (cL (Qi 1 (cL (cL (cL (Qi 0 (Qi 5 c24)))))))))))

noncomputable def c50:Code:=Try.f50.body.getD .skip
end Go.Proofs.Ytglmageljnlhcaa
namespace Go.Proofs.Ytglmageljnlhcaa
set_option linter.unusedVariables false
set_option linter.unusedSimpArgs false
set_option maxRecDepth 100000
open Go.RowKit
inductive f35r2n0O where
 | ret (v12:Way_)
def f35r2n0E(a1 a2:Nat)(a3:List Way_):f35r2n0O→Ex×Tr×Hp
 | .ret v12=>(.ret,mkS [(2,(.bp 2 0))],[some (.box 71 [(.vw 1 (a1+(Int.toNat 1)) (a2-(Int.toNat 1)))]),jR 2 Way_.cells a3,some (.box 74 ((Way_.cells v12).map .pl))])
def f35r2n0S(a1 a2:Nat)(a3:List Way_):Tr×Hp:=(Qad [(.bp 0 0)] 0 .leaf,[some (.box 71 [(.vw 1 a1 a2)]),jR 2 Way_.cells a3])
noncomputable def f35r2n0(a1 a2:Nat)(a3:List Way_):Option f35r2n0O :=
 req (decide (a1+a2≤a3.length)) <|
 (at? ((a3.drop a1).take a2) 0).bind fun x8 =>
 req (cutB 1 (a2:Int) a2) <|
 some (.ret x8)
theorem f35r2n0_ok(a1 a2:Nat)(a3:List Way_){o:f35r2n0O}(h:f35r2n0 a1 a2 a3=some o):T Try.prog Try.f35.ntmps 2 c35 (f35r2n0S a1 a2 a3) (·=f35r2n0E a1 a2 a3 o):=by
 unfold f35r2n0 at h;obtain ⟨h7,h⟩:=Qm h;obtain ⟨x8,h9,h⟩:=Qc h;obtain ⟨h11,h⟩:=Qm h;obtain rfl:=Qd h;exact rE Qe [j3,([],[(3,.at_ (Int.toNat 0)),(4,.idx 0 (Way_.cells x8))],[]),([],[(4,.cut (Int.toNat 1) a2)],[]),j3] [] [] [2] [2] (.ret,(f35r2n0E a1 a2 a3 (.ret x8)).2) (ap (Qg h9).1 (ap (vw_lt h9) (ap (Qae (c:=Way_.cells) h7) (ap (Qo Way_.cells (vw_at h9)) (ap (rfl:a2=a2) (ap (cut_nl_2 h11) (ap (cut_nl_3 h11) (ap (vw_cut (cut_nl_4 h11) (Qae (c:=Way_.cells) h7)) an)))))))) rfl
noncomputable def f35r2(a1 a2:Nat)(a3:List Way_):Option Way_:=(f35r2n0 a1 a2 a3).bind fun o=>match o with
 | .ret v12=>some v12
theorem f35r2_ok(a1 a2:Nat)(a3:List Way_){r:Way_}(h:f35r2 a1 a2 a3=some r):Qk Try.prog true 35 [(.bp 0 0)] [some (.box 71 [(.vw 1 a1 a2)]),jR 2 Way_.cells a3] (jA Way_.cells r) [some (.box 71 [(.vw 1 (a1+(Int.toNat 1)) (a2-(Int.toNat 1)))]),jR 2 Way_.cells a3,some (.box 74 ((Way_.cells r).map .pl))]:=by
 unfold f35r2 at h;obtain ⟨o,ho,h⟩:=Qc h;cases o with
 | ret v12 =>
  obtain rfl:=Qd h;exact Qk.shared Qe (f:=Try.f35) (c:=c35) (by kernel_rfl) (by kernel_rfl) (by kernel_rfl) ((f35r2n0_ok a1 a2 a3 ho).mono fun r e=>by subst e; exact ⟨.inl rfl,by kernel_rfl,by kernel_rfl⟩)

inductive f24y2n0O where
 | norm (v40:Nat) (v41:Nat) (v42:List ByteArray) (v43:List Way_)
 | ret (v44:List Int)
noncomputable def f24y2n0E(a1:Int)(a2:Qa)(a3:Int)(a4:Bool)(a5:List Int)(a6 a7:Nat)(a8:Way_)(a9:List Qa)(a10:List ByteArray)(a11:List Way_):f24y2n0O→Ex×Tr×Hp
 | .norm v40 v41 v42 v43=>(.norm,mkS [],[some (.lp Qp .busy none (kL 73 [(2,(.bp 1 0)),(3,(.bp 2 0)),(4,(.bp 3 0)),(6,(.bp 4 0)),(7,(.bp 5 0)),(8,(.bp 6 0))])),some (.box 22 [(.own 7)]),some (.box 3 (((cInt .i64) a3).map .pl)),some (.box 38 [(.pl (.sl (bif a4 then Fl.nil else Fl.any) 1 (a5.map (cInt .i64))))]),some (.box 69 [(.own 10)]),some (.box 71 [(.vw 11 v40 v41)]),some (.box 74 ((Way_.cells a8).map .pl)),jR 4 Qa.cells a9,none,none,jR 1 cStr v42,jR 2 Way_.cells v43])
 | .ret v44=>(.ret,mkS [],[some (.lp Qp .busy none (kL 73 [(2,(.bp 1 0)),(3,(.bp 2 0)),(4,(.bp 3 0)),(6,(.bp 4 0)),(7,(.bp 5 0)),(8,(.bp 6 0))])),some (.box 22 [(.own 7)]),some (.box 3 (((cInt .i64) a3).map .pl)),some (.box 38 [(.own 10)]),some (.box 69 [(.own 8)]),some (.box 71 [(.vw 9 a6 a7)]),some (.box 74 ((Way_.cells a8).map .pl)),jR 4 Qa.cells a9,jR 1 cStr a10,jR 2 Way_.cells a11,some (.row false 1 (v44.map (cInt .i64)))])
noncomputable def f24y2n0S(a1:Int)(a2:Qa)(a3:Int)(a4:Bool)(a5:List Int)(a6 a7:Nat)(a8:Way_)(a9:List Qa)(a10:List ByteArray)(a11:List Way_):Tr×Hp:=(mkS [(2,(.bp 1 0)),(3,(.bp 2 0)),(4,(.bp 3 0)),(6,(.bp 4 0)),(7,(.bp 5 0)),(8,(.bp 6 0)),(9,(jI a1)),(10,(.bp 10 0))],[some (.lp Qp .busy none (kL 73 [(2,(.bp 1 0)),(3,(.bp 2 0)),(4,(.bp 3 0)),(6,(.bp 4 0)),(7,(.bp 5 0)),(8,(.bp 6 0))])),some (.box 22 [(.own 7)]),some (.box 3 (((cInt .i64) a3).map .pl)),some (.box 38 [(.pl (.sl (bif a4 then Fl.nil else Fl.any) 1 (a5.map (cInt .i64))))]),some (.box 69 [(.own 8)]),some (.box 71 [(.vw 9 a6 a7)]),some (.box 74 ((Way_.cells a8).map .pl)),jR 4 Qa.cells a9,jR 1 cStr a10,jR 2 Way_.cells a11,some (.box 26 ((Qa.cells a2).map .pl))])
noncomputable def f24y2n0(a1:Int)(a2:Qa)(a3:Int)(a4:Bool)(a5:List Int)(a6 a7:Nat)(a8:Way_)(a9:List Qa)(a10:List ByteArray)(a11:List Way_):Option f24y2n0O :=
 (f37r1 a8.trades).bind fun x15 =>
 req (fit (x15.length+1) 8) <|
 (at? a9 a3).bind fun x21 =>
 bif (seq a2.To x21.From) then
  some (.ret (x15++[a1]))
 else
  (f38 a10 a2.To).bind fun x26 =>
  bif x26 then
   some (.norm a6 a7 a10 a11)
  else
   req (fit (a10.length+1) 16) <|
   (f34r2 a2.To a6 a7 (x15++[a1]) a11).bind fun x38 =>
   some (.norm 0 ((a11.drop a6++[(Way_.mk a2.To (x15++[a1]))]).length) (a10++[a2.To]) (a11.drop a6++[(Way_.mk a2.To (x15++[a1]))]))
theorem f24y2n0_ok(a1:Int)(a2:Qa)(a3:Int)(a4:Bool)(a5:List Int)(a6 a7:Nat)(a8:Way_)(a9:List Qa)(a10:List ByteArray)(a11:List Way_){o:f24y2n0O}(h:f24y2n0 a1 a2 a3 a4 a5 a6 a7 a8 a9 a10 a11=some o):T Try.prog Try.f24.ntmps 10 (rfB Qp) (f24y2n0S a1 a2 a3 a4 a5 a6 a7 a8 a9 a10 a11) (·=f24y2n0E a1 a2 a3 a4 a5 a6 a7 a8 a9 a10 a11 o):=by
 unfold f24y2n0 at h;refine T.block' (i:=3) (by kernel_rfl) ?_;obtain ⟨x15,h16,h⟩:=Qc h;obtain ⟨h17,h⟩:=Qm h;obtain ⟨x21,h22,h⟩:=Qc h;rcases Qf h with ⟨h23,h⟩|⟨h23,h⟩
 ·obtain rfl:=Qd h;exact rK Qe 2 [([],[(2,.call (.own 11) (jN 11 [some (.row false 1 (x15.map (cInt .i64)))])),(5,.fits)],[(5,.row 13 ((x15++[a1]).map (cInt .i64)))]),([],[(4,.at_ (Int.toNat a3)),(6,.idx 0 (Qa.cells x21))],[]),j3] [some true] [] [13] [] .ret ((f24y2n0E a1 a2 a3 a4 a5 a6 a7 a8 a9 a10 a11 (.ret (x15++[a1]))).2) (ap (fit_map (te:=ti3) (xs:=x15) (n:=1) (c:=(cInt .i64)) h17 rfl) (ap (app_cv (xs:=x15) (ys:=[a1]) (c:=(cInt .i64))) (ap (Qk.rn 11 [] (f37r1_ok a8.trades h16)) (ap (Qg h22).1 (ap (lt_map Qa.cells (Qg h22).2) (ap (Qo Qa.cells (Qg h22).2) (ap h23 an))))))) rfl
 ·obtain ⟨x26,h27,h⟩:=Qc h;rcases Qf h with ⟨h36,h⟩|⟨h36,h⟩
  ·obtain rfl:=Qd h;exact rE Qe [([],[(2,.call (.own 11) (jN 11 [some (.row false 1 (x15.map (cInt .i64)))])),(5,.fits)],[(5,.row 13 ((x15++[a1]).map (cInt .i64)))]),([],[(4,.at_ (Int.toNat a3)),(6,.idx 0 (Qa.cells x21))],[]),([],[jH 3 (jB x26)],[])] [some false,some false] [.movC 4 0,.movCv 5 0] [15,16] [] (.norm,(f24y2n0E a1 a2 a3 a4 a5 a6 a7 a8 a9 a10 a11 (.norm a6 a7 a10 a11)).2) (ap (fit_map (te:=ti3) (xs:=x15) (n:=1) (c:=(cInt .i64)) h17 rfl) (ap (app_cv (xs:=x15) (ys:=[a1]) (c:=(cInt .i64))) (ap (Qk.rn 11 [] (f37r1_ok a8.trades h16)) (ap (Qg h22).1 (ap (lt_map Qa.cells (Qg h22).2) (ap (Qo Qa.cells (Qg h22).2) (ap h23 (ap (f38_ok a10 a2.To h27) (ap (Qab h36) an))))))))) rfl
  ·obtain ⟨h37,h⟩:=Qm h;obtain ⟨x38,h39,h⟩:=Qc h;obtain rfl:=Qd h
   exact rE Qe [([],[(2,.call (.own 11) (jN 11 [some (.row false 1 (x15.map (cInt .i64)))])),(5,.fits)],[(5,.row 13 ((x15++[a1]).map (cInt .i64)))]),([],[(4,.at_ (Int.toNat a3)),(6,.idx 0 (Qa.cells x21))],[]),([],[jH 3 (jB x26)],[]),([],[(4,.fits)],[(4,.row 16 ((a10++[a2.To]).map cStr))]),([],[(4,.call (.tup []) (jN 5 [some (.box 71 [(.own 17)]),none,none,none,none,none,none,none,some (.row true 1 ((x15++[a1]).map (cInt .i64))),none,none,none,some (.row false 2 ((a11.drop a6++[(Way_.mk a2.To (x15++[a1]))]).map Way_.cells))]))],[])] [some false,some true] [.ovwC 5 0 ((a11.drop a6++[(Way_.mk a2.To (x15++[a1]))]).length)] [16,17] [] (.norm,(f24y2n0E a1 a2 a3 a4 a5 a6 a7 a8 a9 a10 a11 (.norm 0 ((a11.drop a6++[(Way_.mk a2.To (x15++[a1]))]).length) (a10++[a2.To]) (a11.drop a6++[(Way_.mk a2.To (x15++[a1]))]))).2) (ap (fit_map (te:=ti3) (xs:=x15) (n:=1) (c:=(cInt .i64)) h17 rfl) (ap (app_cv (xs:=x15) (ys:=[a1]) (c:=(cInt .i64))) (ap (Qk.rn 11 [] (f37r1_ok a8.trades h16)) (ap (Qg h22).1 (ap (lt_map Qa.cells (Qg h22).2) (ap (Qo Qa.cells (Qg h22).2) (ap h23 (ap (f38_ok a10 a2.To h27) (ap (Qbc h36) (ap (fit_map (te:=ti9) (xs:=a10) (n:=1) (c:=cStr) h37 rfl) (ap (app_cv (xs:=a10) (ys:=[a2.To]) (c:=cStr)) (ap (Qk.rn 17 [5,13,9] (f34r2_ok a2.To a6 a7 (x15++[a1]) a11 h39)) (ap (len_ov (xs:=(a11.drop a6++[(Way_.mk a2.To (x15++[a1]))])) (c:=Way_.cells)) an))))))))))))) rfl
theorem f24y2_norm(a1:Int)(a2:Qa)(a3:Int)(a4:Bool)(a5:List Int)(a6 a7:Nat)(a8:Way_)(a9:List Qa)(a10:List ByteArray)(a11:List Way_){v40 v41:Nat}{v42:List ByteArray}{v43:List Way_}(h:f24y2n0 a1 a2 a3 a4 a5 a6 a7 a8 a9 a10 a11=some (.norm v40 v41 v42 v43)):CallY Try.prog [(jI a1),(jA Qa.cells a2)] 0 [some (.lp Qp .ready none (kL 73 [(2,(.bp 1 0)),(3,(.bp 2 0)),(4,(.bp 3 0)),(6,(.bp 4 0)),(7,(.bp 5 0)),(8,(.bp 6 0))])),some (.box 22 [(.own 7)]),some (.box 3 (((cInt .i64) a3).map .pl)),some (.box 38 [(.pl (.sl (bif a4 then Fl.nil else Fl.any) 1 (a5.map (cInt .i64))))]),some (.box 69 [(.own 8)]),some (.box 71 [(.vw 9 a6 a7)]),some (.box 74 ((Way_.cells a8).map .pl)),jR 4 Qa.cells a9,jR 1 cStr a10,jR 2 Way_.cells a11] true [some (.lp Qp .ready none (kL 73 [(2,(.bp 1 0)),(3,(.bp 2 0)),(4,(.bp 3 0)),(6,(.bp 4 0)),(7,(.bp 5 0)),(8,(.bp 6 0))])),some (.box 22 [(.own 7)]),some (.box 3 (((cInt .i64) a3).map .pl)),some (.box 38 [(.pl (.sl (bif a4 then Fl.nil else Fl.any) 1 (a5.map (cInt .i64))))]),some (.box 69 [(.own 10)]),some (.box 71 [(.vw 11 v40 v41)]),some (.box 74 ((Way_.cells a8).map .pl)),jR 4 Qa.cells a9,none,none,jR 1 cStr v42,jR 2 Way_.cells v43] :=
 CallY.mk (c:=Qp) (n:=Try.f24.ntmps) (base:=10) (cs:=(kL 73 [(2,(.bp 1 0)),(3,(.bp 2 0)),(4,(.bp 3 0)),(6,(.bp 4 0)),(7,(.bp 5 0)),(8,(.bp 6 0))])) (cs2:=(kL 73 [(2,(.bp 1 0)),(3,(.bp 2 0)),(4,(.bp 3 0)),(6,(.bp 4 0)),(7,(.bp 5 0)),(8,(.bp 6 0))])) (cs3:=(kL 73 [(2,(.bp 1 0)),(3,(.bp 2 0)),(4,(.bp 3 0)),(6,(.bp 4 0)),(7,(.bp 5 0)),(8,(.bp 6 0))])) (st2:=(mkS [(2,(.bp 1 0)),(3,(.bp 2 0)),(4,(.bp 3 0)),(6,(.bp 4 0)),(7,(.bp 5 0)),(8,(.bp 6 0)),(9,(jI a1)),(10,(.bp 10 0))],[some (.lp Qp .ready none (kL 73 [(2,(.bp 1 0)),(3,(.bp 2 0)),(4,(.bp 3 0)),(6,(.bp 4 0)),(7,(.bp 5 0)),(8,(.bp 6 0))])),some (.box 22 [(.own 7)]),some (.box 3 (((cInt .i64) a3).map .pl)),some (.box 38 [(.pl (.sl (bif a4 then Fl.nil else Fl.any) 1 (a5.map (cInt .i64))))]),some (.box 69 [(.own 8)]),some (.box 71 [(.vw 9 a6 a7)]),some (.box 74 ((Way_.cells a8).map .pl)),jR 4 Qa.cells a9,jR 1 cStr a10,jR 2 Way_.cells a11,some (.box 26 ((Qa.cells a2).map .pl))])) (e:=(f24y2n0E a1 a2 a3 a4 a5 a6 a7 a8 a9 a10 a11 (.norm v40 v41 v42 v43))) (pend:=none)
  (run_ok (P:=Try.prog) (C:=cfg) Qe (c:=rfA Qp) (rs:=[j3,j3]) (ps:=[]) (tds:=[]) (m:=[10]) (keep:=[2,3,4,6,7,8,9,10]) (by kernel_rfl) an)
  (f24y2n0_ok a1 a2 a3 a4 a5 a6 a7 a8 a9 a10 a11 h)
theorem f24y2_ret(a1:Int)(a2:Qa)(a3:Int)(a4:Bool)(a5:List Int)(a6 a7:Nat)(a8:Way_)(a9:List Qa)(a10:List ByteArray)(a11:List Way_){v44:List Int}(h:f24y2n0 a1 a2 a3 a4 a5 a6 a7 a8 a9 a10 a11=some (.ret v44)):CallY Try.prog [(jI a1),(jA Qa.cells a2)] 0 [some (.lp Qp .ready none (kL 73 [(2,(.bp 1 0)),(3,(.bp 2 0)),(4,(.bp 3 0)),(6,(.bp 4 0)),(7,(.bp 5 0)),(8,(.bp 6 0))])),some (.box 22 [(.own 7)]),some (.box 3 (((cInt .i64) a3).map .pl)),some (.box 38 [(.pl (.sl (bif a4 then Fl.nil else Fl.any) 1 (a5.map (cInt .i64))))]),some (.box 69 [(.own 8)]),some (.box 71 [(.vw 9 a6 a7)]),some (.box 74 ((Way_.cells a8).map .pl)),jR 4 Qa.cells a9,jR 1 cStr a10,jR 2 Way_.cells a11] false [some (.lp Qp .done (some (.ret)) (kL 73 [(2,(.bp 1 0)),(3,(.bp 2 0)),(4,(.bp 3 0)),(6,(.bp 4 0)),(7,(.bp 5 0)),(8,(.bp 6 0))])),some (.box 22 [(.own 7)]),some (.box 3 (((cInt .i64) a3).map .pl)),some (.box 38 [(.own 10)]),some (.box 69 [(.own 8)]),some (.box 71 [(.vw 9 a6 a7)]),some (.box 74 ((Way_.cells a8).map .pl)),jR 4 Qa.cells a9,jR 1 cStr a10,jR 2 Way_.cells a11,some (.row false 1 (v44.map (cInt .i64)))] :=
 CallY.mk (c:=Qp) (n:=Try.f24.ntmps) (base:=10) (cs:=(kL 73 [(2,(.bp 1 0)),(3,(.bp 2 0)),(4,(.bp 3 0)),(6,(.bp 4 0)),(7,(.bp 5 0)),(8,(.bp 6 0))])) (cs2:=(kL 73 [(2,(.bp 1 0)),(3,(.bp 2 0)),(4,(.bp 3 0)),(6,(.bp 4 0)),(7,(.bp 5 0)),(8,(.bp 6 0))])) (cs3:=(kL 73 [(2,(.bp 1 0)),(3,(.bp 2 0)),(4,(.bp 3 0)),(6,(.bp 4 0)),(7,(.bp 5 0)),(8,(.bp 6 0))])) (st2:=(mkS [(2,(.bp 1 0)),(3,(.bp 2 0)),(4,(.bp 3 0)),(6,(.bp 4 0)),(7,(.bp 5 0)),(8,(.bp 6 0)),(9,(jI a1)),(10,(.bp 10 0))],[some (.lp Qp .ready none (kL 73 [(2,(.bp 1 0)),(3,(.bp 2 0)),(4,(.bp 3 0)),(6,(.bp 4 0)),(7,(.bp 5 0)),(8,(.bp 6 0))])),some (.box 22 [(.own 7)]),some (.box 3 (((cInt .i64) a3).map .pl)),some (.box 38 [(.pl (.sl (bif a4 then Fl.nil else Fl.any) 1 (a5.map (cInt .i64))))]),some (.box 69 [(.own 8)]),some (.box 71 [(.vw 9 a6 a7)]),some (.box 74 ((Way_.cells a8).map .pl)),jR 4 Qa.cells a9,jR 1 cStr a10,jR 2 Way_.cells a11,some (.box 26 ((Qa.cells a2).map .pl))])) (e:=(f24y2n0E a1 a2 a3 a4 a5 a6 a7 a8 a9 a10 a11 (.ret v44))) (pend:=some .ret)
  (run_ok (P:=Try.prog) (C:=cfg) Qe (c:=rfA Qp) (rs:=[j3,j3]) (ps:=[]) (tds:=[]) (m:=[10]) (keep:=[2,3,4,6,7,8,9,10]) (by kernel_rfl) an)
  (f24y2n0_ok a1 a2 a3 a4 a5 a6 a7 a8 a9 a10 a11 h)

inductive f50r2n1O where
 | norm (v91:Nat) (v92:Nat) (v93:List ByteArray) (v94:List Way_)
 | ret (v95:List Int)
noncomputable def f50r2n1E(ba1:List Qa)(bd2:Int)(bb3 bb4:ByteArray)(bd5:Int)(bk6:Bool)(bf7:List Int)(bh8 bh9:Nat)(bg10:Way_)(bi11:List ByteArray)(bj12:List Way_):f50r2n1O→Ex×Tr×Hp
 | .norm v91 v92 v93 v94=>(.norm,mkS [(0,(.yl 0)),(2,(.bp 2 0)),(3,(.bp 3 0)),(7,(.own 10)),(8,(jI (ba1.length:Int))),(9,(jI bd2))],[some (.lp Qp .ready none (kL 73 [(2,(.bp 4 0)),(3,(.bp 5 0)),(4,(.bp 6 0)),(6,(.bp 7 0)),(7,(.bp 8 0)),(8,(.bp 9 0))])),some (.box 22 [(.own 10)]),some (.box 9 ((cStr bb3).map .pl)),some (.box 9 ((cStr bb4).map .pl)),some (.box 22 [(.own 10)]),some (.box 3 (((cInt .i64) bd5).map .pl)),some (.box 38 [(.pl (.sl (bif bk6 then Fl.nil else Fl.any) 1 (bf7.map (cInt .i64))))]),some (.box 69 [(.own 13)]),some (.box 71 [(.vw 14 v91 v92)]),some (.box 74 ((Way_.cells bg10).map .pl)),jR 4 Qa.cells ba1,none,none,jR 1 cStr v93,jR 2 Way_.cells v94])
 | .ret v95=>(.ret,mkS [],[some (.lp Qp .done (some (.ret)) (kL 73 [(2,(.bp 4 0)),(3,(.bp 5 0)),(4,(.bp 6 0)),(6,(.bp 7 0)),(7,(.bp 8 0)),(8,(.bp 9 0))])),some (.box 22 [(.own 10)]),some (.box 9 ((cStr bb3).map .pl)),some (.box 9 ((cStr bb4).map .pl)),some (.box 22 [(.own 10)]),some (.box 3 (((cInt .i64) bd5).map .pl)),some (.box 38 [(.own 13)]),some (.box 69 [(.own 14)]),some (.box 71 [(.vw 15 bh8 bh9)]),some (.box 74 ((Way_.cells bg10).map .pl)),jR 4 Qa.cells ba1,none,none,some (.row false 1 (v95.map (cInt .i64))),jR 1 cStr bi11,jR 2 Way_.cells bj12])
noncomputable def f50r2n1S(ba1:List Qa)(bd2:Int)(bb3 bb4:ByteArray)(bd5:Int)(bk6:Bool)(bf7:List Int)(bh8 bh9:Nat)(bg10:Way_)(bi11:List ByteArray)(bj12:List Way_):Tr×Hp:=(mkS [(0,(.yl 0)),(2,(.bp 2 0)),(3,(.bp 3 0)),(7,(.own 10)),(8,(jI (ba1.length:Int))),(9,(jI bd2))],[some (.lp Qp .ready none (kL 73 [(2,(.bp 4 0)),(3,(.bp 5 0)),(4,(.bp 6 0)),(6,(.bp 7 0)),(7,(.bp 8 0)),(8,(.bp 9 0))])),some (.box 22 [(.own 10)]),some (.box 9 ((cStr bb3).map .pl)),some (.box 9 ((cStr bb4).map .pl)),some (.box 22 [(.own 10)]),some (.box 3 (((cInt .i64) bd5).map .pl)),some (.box 38 [(.pl (.sl (bif bk6 then Fl.nil else Fl.any) 1 (bf7.map (cInt .i64))))]),some (.box 69 [(.own 13)]),some (.box 71 [(.vw 14 bh8 bh9)]),some (.box 74 ((Way_.cells bg10).map .pl)),jR 4 Qa.cells ba1,none,none,jR 1 cStr bi11,jR 2 Way_.cells bj12])
noncomputable def f50r2n1(ba1:List Qa)(bd2:Int)(bb3 bb4:ByteArray)(bd5:Int)(bk6:Bool)(bf7:List Int)(bh8 bh9:Nat)(bg10:Way_)(bi11:List ByteArray)(bj12:List Way_):Option f50r2n1O :=
 (at? ba1 bd2).bind fun x80 =>
 bif (seq x80.Contract bb3) then
  bif (seq x80.From bb4) then
   (f24y2n0 bd2 x80 bd5 bk6 bf7 bh8 bh9 bg10 ba1 bi11 bj12).bind fun o84=>match o84 with
   | .norm v86 v87 v88 v89=>some (.norm v86 v87 v88 v89)
   | .ret v90=>some (.ret v90)
  else
   some (.norm bh8 bh9 bi11 bj12)
 else
  some (.norm bh8 bh9 bi11 bj12)
theorem f50r2n1_ok(ba1:List Qa)(bd2:Int)(bb3 bb4:ByteArray)(bd5:Int)(bk6:Bool)(bf7:List Int)(bh8 bh9:Nat)(bg10:Way_)(bi11:List ByteArray)(bj12:List Way_){o:f50r2n1O}(h:f50r2n1 ba1 bd2 bb3 bb4 bd5 bk6 bf7 bh8 bh9 bg10 bi11 bj12=some o):T Try.prog Try.f50.ntmps 13 (cL (Qi 2 (cL (cL (Qi 1 c50))))) (f50r2n1S ba1 bd2 bb3 bb4 bd5 bk6 bf7 bh8 bh9 bg10 bi11 bj12) (·=f50r2n1E ba1 bd2 bb3 bb4 bd5 bk6 bf7 bh8 bh9 bg10 bi11 bj12 o):=by
 unfold f50r2n1 at h;refine T.block' (i:=1) (by kernel_rfl) ?_;obtain ⟨x80,h81,h⟩:=Qc h
 refine rN Qe 1 [([],[(1,.at_ (Int.toNat bd2)),(2,.idx 0 (Qa.cells x80))],[])] [] [] [13,14,15] [0,2,3,5,6,7,8,9] (mkS [(0,(.yl 0)),(2,(.bp 2 0)),(3,(.bp 3 0)),(5,(jI bd2)),(6,(.bp 15 0)),(7,(.own 10)),(8,(jI (ba1.length:Int))),(9,(jI bd2))],[some (.lp Qp .ready none (kL 73 [(2,(.bp 4 0)),(3,(.bp 5 0)),(4,(.bp 6 0)),(6,(.bp 7 0)),(7,(.bp 8 0)),(8,(.bp 9 0))])),some (.box 22 [(.own 10)]),some (.box 9 ((cStr bb3).map .pl)),some (.box 9 ((cStr bb4).map .pl)),some (.box 22 [(.own 10)]),some (.box 3 (((cInt .i64) bd5).map .pl)),some (.box 38 [(.pl (.sl (bif bk6 then Fl.nil else Fl.any) 1 (bf7.map (cInt .i64))))]),some (.box 69 [(.own 13)]),some (.box 71 [(.vw 14 bh8 bh9)]),some (.box 74 ((Way_.cells bg10).map .pl)),jR 4 Qa.cells ba1,none,none,jR 1 cStr bi11,jR 2 Way_.cells bj12,some (.box 26 ((Qa.cells x80).map .pl))]) (ap (Qg h81).1 (ap (lt_map Qa.cells (Qg h81).2) (ap (Qo Qa.cells (Qg h81).2) an))) ?_
 rcases Qf h with ⟨h82,h⟩|⟨h82,h⟩
 ·rcases Qf h with ⟨h83,h⟩|⟨h83,h⟩
  ·obtain ⟨o84,h85,h⟩:=Qc h;cases o84 with
   | norm v86 v87 v88 v89 =>
    refine T.oneN (by kernel_rfl) (yN Qe (jT [5,6,7,8,11,12,13,14,15],[(9,.bool true),(16,.bool true)],[]) 14 true [some (.lp Qp .ready none (kL 73 [(2,(.bp 4 0)),(3,(.bp 5 0)),(4,(.bp 6 0)),(6,(.bp 7 0)),(7,(.bp 8 0)),(8,(.bp 9 0))])),none,none,none,some (.box 22 [(.own 10)]),some (.box 3 (((cInt .i64) bd5).map .pl)),some (.box 38 [(.pl (.sl (bif bk6 then Fl.nil else Fl.any) 1 (bf7.map (cInt .i64))))]),some (.box 69 [(.own 16)]),some (.box 71 [(.vw 17 v86 v87)]),some (.box 74 ((Way_.cells bg10).map .pl)),jR 4 Qa.cells ba1,none,none,none,none,none,jR 1 cStr v88,jR 2 Way_.cells v89] [] [16,17] [0,2,3,7,8,9,30] (mkS [(0,(.yl 0)),(2,(.bp 2 0)),(3,(.bp 3 0)),(7,(.own 10)),(8,(jI (ba1.length:Int))),(9,(jI bd2)),(30,(jB false))],[some (.lp Qp .ready none (kL 73 [(2,(.bp 4 0)),(3,(.bp 5 0)),(4,(.bp 6 0)),(6,(.bp 7 0)),(7,(.bp 8 0)),(8,(.bp 9 0))])),some (.box 22 [(.own 10)]),some (.box 9 ((cStr bb3).map .pl)),some (.box 9 ((cStr bb4).map .pl)),some (.box 22 [(.own 10)]),some (.box 3 (((cInt .i64) bd5).map .pl)),some (.box 38 [(.pl (.sl (bif bk6 then Fl.nil else Fl.any) 1 (bf7.map (cInt .i64))))]),some (.box 69 [(.own 13)]),some (.box 71 [(.vw 14 v86 v87)]),some (.box 74 ((Way_.cells bg10).map .pl)),jR 4 Qa.cells ba1,none,none,jR 1 cStr v88,jR 2 Way_.cells v89]) (ap h82 (ap4 h82 (ap4 h83 (ap (CallY.rn 16 [0,4,5,6,7,8,9,10,13,14] (f24y2_norm bd2 x80 bd5 bk6 bf7 bh8 bh9 bg10 ba1 bi11 bj12 h85)) (ap2 h83 an)))))) rfl ?_
    obtain rfl:=Qd h;exact rE Qe [] [none] [] [13,14] [0,2,3,7,8,9] (.norm,(f50r2n1E ba1 bd2 bb3 bb4 bd5 bk6 bf7 bh8 bh9 bg10 bi11 bj12 (.norm v86 v87 v88 v89)).2) an rfl
   | ret v90 =>
    refine T.oneN (by kernel_rfl) (yN Qe (jT [5,6,7,8,11,12,13,14,15],[(9,.bool true),(16,.bool true)],[]) 14 false [some (.lp Qp .done (some (.ret)) (kL 73 [(2,(.bp 4 0)),(3,(.bp 5 0)),(4,(.bp 6 0)),(6,(.bp 7 0)),(7,(.bp 8 0)),(8,(.bp 9 0))])),none,none,none,some (.box 22 [(.own 10)]),some (.box 3 (((cInt .i64) bd5).map .pl)),some (.box 38 [(.own 16)]),some (.box 69 [(.own 13)]),some (.box 71 [(.vw 14 bh8 bh9)]),some (.box 74 ((Way_.cells bg10).map .pl)),jR 4 Qa.cells ba1,none,none,jR 1 cStr bi11,jR 2 Way_.cells bj12,none,some (.row false 1 (v90.map (cInt .i64)))] [] [16,13,14] [0,2,3,7,8,9,30] (mkS [(0,(.yl 0)),(2,(.bp 2 0)),(3,(.bp 3 0)),(7,(.own 10)),(8,(jI (ba1.length:Int))),(9,(jI bd2)),(30,(jB true))],[some (.lp Qp .done (some (.ret)) (kL 73 [(2,(.bp 4 0)),(3,(.bp 5 0)),(4,(.bp 6 0)),(6,(.bp 7 0)),(7,(.bp 8 0)),(8,(.bp 9 0))])),some (.box 22 [(.own 10)]),some (.box 9 ((cStr bb3).map .pl)),some (.box 9 ((cStr bb4).map .pl)),some (.box 22 [(.own 10)]),some (.box 3 (((cInt .i64) bd5).map .pl)),some (.box 38 [(.own 13)]),some (.box 69 [(.own 14)]),some (.box 71 [(.vw 15 bh8 bh9)]),some (.box 74 ((Way_.cells bg10).map .pl)),jR 4 Qa.cells ba1,none,none,some (.row false 1 (v90.map (cInt .i64))),jR 1 cStr bi11,jR 2 Way_.cells bj12]) (ap h82 (ap4 h82 (ap4 h83 (ap (CallY.rn 16 [0,4,5,6,7,8,9,10,13,14] (f24y2_ret bd2 x80 bd5 bk6 bf7 bh8 bh9 bg10 ba1 bi11 bj12 h85)) (ap2 h83 an)))))) rfl ?_
    obtain rfl:=Qd h;exact rE Qe [] [none] [] [13,14,15] [] (.ret,(f50r2n1E ba1 bd2 bb3 bb4 bd5 bk6 bf7 bh8 bh9 bg10 bi11 bj12 (.ret v90)).2) an rfl
  ·obtain rfl:=Qd h;exact rE Qe [(jF [11,12,13,14,15]++jT [5,6,7,8],[(9,.bool true),(16,.bool false)],[])] [none] [] [13,14] [0,2,3,7,8,9] (.norm,(f50r2n1E ba1 bd2 bb3 bb4 bd5 bk6 bf7 bh8 bh9 bg10 bi11 bj12 (.norm bh8 bh9 bi11 bj12)).2) (ap h82 (ap4 h82 (ap2 h83 (ap4 h83 an)))) rfl
 ·obtain rfl:=Qd h;exact rE Qe [(jF [5,6,7,8],[(9,.bool false)],[])] [none] [] [13,14] [0,2,3,7,8,9] (.norm,(f50r2n1E ba1 bd2 bb3 bb4 bd5 bk6 bf7 bh8 bh9 bg10 bi11 bj12 (.norm bh8 bh9 bi11 bj12)).2) (ap h82 (ap4 h82 an)) rfl
inductive f50r2n2O where
 | exit0 (v103:Nat) (v104:Nat) (v105:List ByteArray) (v106:List Way_)
 | ret (v107:Nat) (v108:Nat) (v109:List Int) (v110:List ByteArray) (v111:List Way_)
noncomputable def f50r2n2E(a9:List Qa)(a1 a2:ByteArray)(a3:Int)(a4:Bool)(a5:List Int)(a8:Way_):f50r2n2O→Ex×Tr×Hp
 | .exit0 v103 v104 v105 v106=>((.exit 0),mkS [],[some (.lp Qp .ready none (kL 73 [(2,(.bp 4 0)),(3,(.bp 5 0)),(4,(.bp 6 0)),(6,(.bp 7 0)),(7,(.bp 8 0)),(8,(.bp 9 0))])),some (.box 22 [(.own 10)]),some (.box 9 ((cStr a1).map .pl)),some (.box 9 ((cStr a2).map .pl)),some (.box 22 [(.own 10)]),some (.box 3 (((cInt .i64) a3).map .pl)),some (.box 38 [(.pl (.sl (bif a4 then Fl.nil else Fl.any) 1 (a5.map (cInt .i64))))]),some (.box 69 [(.own 13)]),some (.box 71 [(.vw 14 v103 v104)]),some (.box 74 ((Way_.cells a8).map .pl)),jR 4 Qa.cells a9,none,none,jR 1 cStr v105,jR 2 Way_.cells v106])
 | .ret v107 v108 v109 v110 v111=>(.ret,mkS [],[some (.lp Qp .done (some (.ret)) (kL 73 [(2,(.bp 4 0)),(3,(.bp 5 0)),(4,(.bp 6 0)),(6,(.bp 7 0)),(7,(.bp 8 0)),(8,(.bp 9 0))])),some (.box 22 [(.own 10)]),some (.box 9 ((cStr a1).map .pl)),some (.box 9 ((cStr a2).map .pl)),some (.box 22 [(.own 10)]),some (.box 3 (((cInt .i64) a3).map .pl)),some (.box 38 [(.own 13)]),some (.box 69 [(.own 14)]),some (.box 71 [(.vw 15 v107 v108)]),some (.box 74 ((Way_.cells a8).map .pl)),jR 4 Qa.cells a9,none,none,some (.row false 1 (v109.map (cInt .i64))),jR 1 cStr v110,jR 2 Way_.cells v111])
noncomputable def f50r2n2S(a9:List Qa)(a1 a2:ByteArray)(a3:Int)(a4:Bool)(a5:List Int)(a8:Way_)(v71:Int)(v72 v73:Nat)(v74:List ByteArray)(v75:List Way_):Tr×Hp:=(mkS [(0,(.yl 0)),(2,(.bp 2 0)),(3,(.bp 3 0)),(7,(.own 10)),(8,(jI (a9.length:Int))),(9,(jI v71))],[some (.lp Qp .ready none (kL 73 [(2,(.bp 4 0)),(3,(.bp 5 0)),(4,(.bp 6 0)),(6,(.bp 7 0)),(7,(.bp 8 0)),(8,(.bp 9 0))])),some (.box 22 [(.own 10)]),some (.box 9 ((cStr a1).map .pl)),some (.box 9 ((cStr a2).map .pl)),some (.box 22 [(.own 10)]),some (.box 3 (((cInt .i64) a3).map .pl)),some (.box 38 [(.pl (.sl (bif a4 then Fl.nil else Fl.any) 1 (a5.map (cInt .i64))))]),some (.box 69 [(.own 13)]),some (.box 71 [(.vw 14 v72 v73)]),some (.box 74 ((Way_.cells a8).map .pl)),jR 4 Qa.cells a9,none,none,jR 1 cStr v74,jR 2 Way_.cells v75])
noncomputable def f50r2n2:Nat→List Qa→ByteArray→ByteArray→Int→Bool→List Int→Way_→Int→Nat→Nat→List ByteArray→List Way_→Option f50r2n2O
 | 0,_,_,_,_,_,_,_,_,_,_,_,_=>none
 | f+1,a9,a1,a2,a3,a4,a5,a8,v71,v72,v73,v74,v75 =>
  bif decide (v71<(a9.length:Int)) then
   (f50r2n1 a9 v71 a1 a2 a3 a4 a5 v72 v73 a8 v74 v75).bind fun o96=>match o96 with
   | .norm v98 v99 v100 v101=>(f50r2n2 f a9 a1 a2 a3 a4 a5 a8 (wr64 (v71+1)) v98 v99 v100 v101)
   | .ret v102=>some (.ret v72 v73 v102 v74 v75)
  else
   some (.exit0 v72 v73 v74 v75)
theorem f50r2n2_ok:∀(f:Nat)(a9:List Qa)(a1 a2:ByteArray)(a3:Int)(a4:Bool)(a5:List Int)(a8:Way_)(v71:Int)(v72 v73:Nat)(v74:List ByteArray)(v75:List Way_){o:f50r2n2O},f50r2n2 f a9 a1 a2 a3 a4 a5 a8 v71 v72 v73 v74 v75=some o→TL Try.prog Try.f50.ntmps 13 f (cL (cL (Qi 1 c50))) (f50r2n2S a9 a1 a2 a3 a4 a5 a8 v71 v72 v73 v74 v75) (·=f50r2n2E a9 a1 a2 a3 a4 a5 a8 o)
 | 0,_,_,_,_,_,_,_,_,_,_,_,_,o,h=>by rw [f50r2n2] at h; cases h
 | f+1,a9,a1,a2,a3,a4,a5,a8,v71,v72,v73,v74,v75,o,h=>by
  rw [f50r2n2] at h;refine TL.body (K:=fun s=>∃v71:Int,∃v72:Nat,∃v73:Nat,∃v74:List ByteArray,∃v75:List Way_,s=(f50r2n2S a9 a1 a2 a3 a4 a5 a8 v71 v72 v73 v74 v75)∧f50r2n2 f a9 a1 a2 a3 a4 a5 a8 v71 v72 v73 v74 v75=some o) ?_ (by rintro _ ⟨v71,v72,v73,v74,v75,rfl,hk⟩; exact f50r2n2_ok f _ _ _ _ _ _ _ _ _ _ _ _ hk);rcases Qf h with ⟨h77,h⟩|⟨h77,h⟩
  ·refine rN Qe 2 [j3] [some true] [] [13,14] [0,2,3,7,8,9] (f50r2n1S a9 v71 a1 a2 a3 a4 a5 v72 v73 a8 v74 v75) (ap h77 an) ?_;obtain ⟨o96,h97,h⟩:=Qc h;cases o96 with
   | norm v98 v99 v100 v101 =>
    refine T.oneN (by kernel_rfl) (f50r2n1_ok a9 v71 a1 a2 a3 a4 a5 v72 v73 a8 v74 v75 h97) (st2:=(f50r2n1E a9 v71 a1 a2 a3 a4 a5 v72 v73 a8 v74 v75 (.norm v98 v99 v100 v101)).2) rfl ?_;exact rE Qe [j3] [] [] [13,14] [0,2,3,7,8,9] (.norm,(f50r2n2S a9 a1 a2 a3 a4 a5 a8 (wr64 (v71+1)) v98 v99 v100 v101)) an (Qv.norm ⟨(wr64 (v71+1)),v98,v99,v100,v101,rfl,h⟩)
   | ret v102 =>
    obtain rfl:=Qd h;exact T.oneX' (by kernel_rfl) (f50r2n1_ok a9 v71 a1 a2 a3 a4 a5 v72 v73 a8 v74 v75 h97) (tds:=[]) (m:=[13,14,15]) (keep:=[]) (st2:=(f50r2n2E a9 a1 a2 a3 a4 a5 a8 (.ret v72 v73 v102 v74 v75)).2) (by kernel_rfl) an rfl (Qv.out rfl rfl)
  ·obtain rfl:=Qd h;exact rK Qe 2 [j3] [some false] [] [13,14] [] (.exit 0) ((f50r2n2E a9 a1 a2 a3 a4 a5 a8 (.exit0 v72 v73 v74 v75)).2) (ap h77 an) (Qv.out rfl rfl)
inductive f50r2n0O where
 | norm (v123:Nat) (v124:Nat) (v125:List ByteArray) (v126:List Way_)
 | ret (v127:List Int) (v128:Nat) (v129:Nat) (v130:List ByteArray) (v131:List Way_)
noncomputable def f50r2n0E(a1 a2:ByteArray)(a3:Int)(a4:Bool)(a5:List Int)(a6 a7:Nat)(a8:Way_)(a9:List Qa)(a10:List ByteArray)(a11:List Way_):f50r2n0O→Ex×Tr×Hp
 | .norm v123 v124 v125 v126=>(.norm,mkS [],[some (.lp Qp .ready none (kL 73 [(2,(.bp 4 0)),(3,(.bp 5 0)),(4,(.bp 6 0)),(6,(.bp 7 0)),(7,(.bp 8 0)),(8,(.bp 9 0))])),some (.box 22 [(.own 10)]),some (.box 9 ((cStr a1).map .pl)),some (.box 9 ((cStr a2).map .pl)),some (.box 22 [(.own 10)]),some (.box 3 (((cInt .i64) a3).map .pl)),some (.box 38 [(.pl (.sl (bif a4 then Fl.nil else Fl.any) 1 (a5.map (cInt .i64))))]),some (.box 69 [(.own 13)]),some (.box 71 [(.vw 14 v123 v124)]),some (.box 74 ((Way_.cells a8).map .pl)),jR 4 Qa.cells a9,none,none,jR 1 cStr v125,jR 2 Way_.cells v126])
 | .ret v127 v128 v129 v130 v131=>(.ret,mkS [],[some (.lp Qp .done (some (.ret)) (kL 73 [(2,(.bp 4 0)),(3,(.bp 5 0)),(4,(.bp 6 0)),(6,(.bp 7 0)),(7,(.bp 8 0)),(8,(.bp 9 0))])),some (.box 22 [(.own 10)]),some (.box 9 ((cStr a1).map .pl)),some (.box 9 ((cStr a2).map .pl)),some (.box 22 [(.own 10)]),some (.box 3 (((cInt .i64) a3).map .pl)),some (.box 38 (((cLst 1 (cInt .i64)) v127).map .pl)),some (.box 69 [(.own 13)]),some (.box 71 [(.vw 14 v128 v129)]),some (.box 74 ((Way_.cells a8).map .pl)),jR 4 Qa.cells a9,none,none,jR 1 cStr v130,jR 2 Way_.cells v131])
noncomputable def f50r2n0S(a1 a2:ByteArray)(a3:Int)(a4:Bool)(a5:List Int)(a6 a7:Nat)(a8:Way_)(a9:List Qa)(a10:List ByteArray)(a11:List Way_):Tr×Hp:=(Qad [(.yl 0),(.bp 1 0),(.bp 2 0),(.bp 3 0)] 0 .leaf,[some (.lp Qp .ready none (kL 73 [(2,(.bp 4 0)),(3,(.bp 5 0)),(4,(.bp 6 0)),(6,(.bp 7 0)),(7,(.bp 8 0)),(8,(.bp 9 0))])),some (.box 22 [(.own 10)]),some (.box 9 ((cStr a1).map .pl)),some (.box 9 ((cStr a2).map .pl)),some (.box 22 [(.own 10)]),some (.box 3 (((cInt .i64) a3).map .pl)),some (.box 38 [(.pl (.sl (bif a4 then Fl.nil else Fl.any) 1 (a5.map (cInt .i64))))]),some (.box 69 [(.own 11)]),some (.box 71 [(.vw 12 a6 a7)]),some (.box 74 ((Way_.cells a8).map .pl)),jR 4 Qa.cells a9,jR 1 cStr a10,jR 2 Way_.cells a11])
noncomputable def f50r2n0(a1 a2:ByteArray)(a3:Int)(a4:Bool)(a5:List Int)(a6 a7:Nat)(a8:Way_)(a9:List Qa)(a10:List ByteArray)(a11:List Way_):Option f50r2n0O :=
 (f50r2n2 FUEL a9 a1 a2 a3 a4 a5 a8 0 a6 a7 a10 a11).bind fun o112=>match o112 with
 | .exit0 v114 v115 v116 v117=>some (.norm v114 v115 v116 v117)
 | .ret v118 v119 v120 v121 v122=>some (.ret v120 v118 v119 v121 v122)
theorem f50r2n0_ok(a1 a2:ByteArray)(a3:Int)(a4:Bool)(a5:List Int)(a6 a7:Nat)(a8:Way_)(a9:List Qa)(a10:List ByteArray)(a11:List Way_){o:f50r2n0O}(h:f50r2n0 a1 a2 a3 a4 a5 a6 a7 a8 a9 a10 a11=some o):T Try.prog Try.f50.ntmps 13 c50 (f50r2n0S a1 a2 a3 a4 a5 a6 a7 a8 a9 a10 a11) (·=f50r2n0E a1 a2 a3 a4 a5 a6 a7 a8 a9 a10 a11 o):=by
 unfold f50r2n0 at h;refine rN Qe 1 [([],[],[(1,.val (jI (a9.length:Int)))])] [] [.movC 7 0,.movCv 8 0] [13,14] [0,2,3,7,8,9] (f50r2n2S a9 a1 a2 a3 a4 a5 a8 0 a6 a7 a10 a11) (ap (Qu (xs:=a9) (c:=Qa.cells)) an) ?_;obtain ⟨o112,h113,h⟩:=Qc h;cases o112 with
 | exit0 v114 v115 v116 v117 =>
  obtain rfl:=Qd h;exact T.last' (T.bl (i:=0) (by kernel_rfl) (by kernel_rfl) (f50r2n2_ok FUEL a9 a1 a2 a3 a4 a5 a8 0 a6 a7 a10 a11 h113)) (tds:=[]) (m:=[13,14]) (keep:=[]) (st2:=(f50r2n0E a1 a2 a3 a4 a5 a6 a7 a8 a9 a10 a11 (.norm v114 v115 v116 v117)).2) (by kernel_rfl) an rfl
 | ret v118 v119 v120 v121 v122 =>
  obtain rfl:=Qd h;exact T.last' (T.bl (i:=0) (by kernel_rfl) (by kernel_rfl) (f50r2n2_ok FUEL a9 a1 a2 a3 a4 a5 a8 0 a6 a7 a10 a11 h113)) (tds:=[.frzC 6 0]) (m:=[14,15]) (keep:=[]) (st2:=(f50r2n0E a1 a2 a3 a4 a5 a6 a7 a8 a9 a10 a11 (.ret v120 v118 v119 v121 v122)).2) (by kernel_rfl) an rfl
noncomputable def f50r2(a1 a2:ByteArray)(a3:Int)(a4:Bool)(a5:List Int)(a6 a7:Nat)(a8:Way_)(a9:List Qa)(a10:List ByteArray)(a11:List Way_):Option (Bool×Bool×(List Int)×Nat×Nat×(List ByteArray)×(List Way_)):=(f50r2n0 a1 a2 a3 a4 a5 a6 a7 a8 a9 a10 a11).bind fun o=>match o with
 | .norm v123 v124 v125 v126=>some (true,a4,a5,v123,v124,v125,v126)
 | .ret v127 v128 v129 v130 v131=>some (false,false,v127,v128,v129,v130,v131)
theorem f50r2_ok(a1 a2:ByteArray)(a3:Int)(a4:Bool)(a5:List Int)(a6 a7:Nat)(a8:Way_)(a9:List Qa)(a10:List ByteArray)(a11:List Way_){r:Bool×Bool×(List Int)×Nat×Nat×(List ByteArray)×(List Way_)}(h:f50r2 a1 a2 a3 a4 a5 a6 a7 a8 a9 a10 a11=some r):Qk Try.prog true 50 [(.yl 0),(.bp 1 0),(.bp 2 0),(.bp 3 0)] [some (.lp Qp .ready none (kL 73 [(2,(.bp 4 0)),(3,(.bp 5 0)),(4,(.bp 6 0)),(6,(.bp 7 0)),(7,(.bp 8 0)),(8,(.bp 9 0))])),some (.box 22 [(.own 10)]),some (.box 9 ((cStr a1).map .pl)),some (.box 9 ((cStr a2).map .pl)),some (.box 22 [(.own 10)]),some (.box 3 (((cInt .i64) a3).map .pl)),some (.box 38 [(.pl (.sl (bif a4 then Fl.nil else Fl.any) 1 (a5.map (cInt .i64))))]),some (.box 69 [(.own 11)]),some (.box 71 [(.vw 12 a6 a7)]),some (.box 74 ((Way_.cells a8).map .pl)),jR 4 Qa.cells a9,jR 1 cStr a10,jR 2 Way_.cells a11] (.tup []) [some (.lp Qp (lstOf r.1) (pdOf r.1 (.ret)) (kL 73 [(2,(.bp 4 0)),(3,(.bp 5 0)),(4,(.bp 6 0)),(6,(.bp 7 0)),(7,(.bp 8 0)),(8,(.bp 9 0))])),some (.box 22 [(.own 10)]),some (.box 9 ((cStr a1).map .pl)),some (.box 9 ((cStr a2).map .pl)),some (.box 22 [(.own 10)]),some (.box 3 (((cInt .i64) a3).map .pl)),some (.box 38 [(.pl (.sl (bif r.2.1 then Fl.nil else Fl.any) 1 (r.2.2.1.map (cInt .i64))))]),some (.box 69 [(.own 13)]),some (.box 71 [(.vw 14 r.2.2.2.1 r.2.2.2.2.1)]),some (.box 74 ((Way_.cells a8).map .pl)),jR 4 Qa.cells a9,none,none,jR 1 cStr r.2.2.2.2.2.1,jR 2 Way_.cells r.2.2.2.2.2.2]:=by
 unfold f50r2 at h;obtain ⟨o,ho,h⟩:=Qc h;cases o with
 | norm v123 v124 v125 v126 =>
  obtain rfl:=Qd h;exact Qk.shared Qe (f:=Try.f50) (c:=c50) (by kernel_rfl) (by kernel_rfl) (by kernel_rfl) ((f50r2n0_ok a1 a2 a3 a4 a5 a6 a7 a8 a9 a10 a11 ho).mono fun r e=>by subst e; exact ⟨.inr rfl,by kernel_rfl,by kernel_rfl⟩)
 | ret v127 v128 v129 v130 v131 =>
  obtain rfl:=Qd h;exact Qk.shared Qe (f:=Try.f50) (c:=c50) (by kernel_rfl) (by kernel_rfl) (by kernel_rfl) ((f50r2n0_ok a1 a2 a3 a4 a5 a6 a7 a8 a9 a10 a11 ho).mono fun r e=>by subst e; exact ⟨.inl rfl,by kernel_rfl,by kernel_rfl⟩)

inductive f24r1n2O where
 | norm (v132:Bool) (v133:List Int) (v134:Nat) (v135:Nat) (v136:List ByteArray) (v137:List Way_)
 | ret (v138:Bool) (v139:List Int)
def f24r1n2E(be1:Qa)(ba2:List Qa)(bd3:Int)(bk4:Bool)(bf5:List Int)(bh6 bh7:Nat)(bg8:Way_)(bi9:List ByteArray)(bj10:List Way_):f24r1n2O→Ex×Tr×Hp
 | .norm v132 v133 v134 v135 v136 v137=>(.norm,mkS [(2,(.bp 1 0)),(3,(.bp 2 0)),(4,(.bp 3 0)),(5,(jS be1.Contract)),(6,(.bp 4 0)),(7,(.bp 5 0))],[jR 4 Qa.cells ba2,some (.box 22 [(.own 0)]),some (.box 3 (((cInt .i64) bd3).map .pl)),some (.box 38 [(.pl (.sl (bif v132 then Fl.nil else Fl.any) 1 (v133.map (cInt .i64))))]),some (.box 69 [(.own 6)]),some (.box 71 [(.vw 7 v134 v135)]),jR 1 cStr v136,jR 2 Way_.cells v137])
 | .ret v138 v139=>(.ret,mkS [(4,(.bp 1 0))],[jR 4 Qa.cells ba2,some (.box 38 [(.pl (.sl (bif v138 then Fl.nil else Fl.any) 1 (v139.map (cInt .i64))))])])
def f24r1n2S(be1:Qa)(ba2:List Qa)(bd3:Int)(bk4:Bool)(bf5:List Int)(bh6 bh7:Nat)(bg8:Way_)(bi9:List ByteArray)(bj10:List Way_):Tr×Hp:=(mkS [(2,(.bp 1 0)),(3,(.bp 2 0)),(4,(.bp 3 0)),(5,(jS be1.Contract)),(6,(.bp 4 0)),(7,(.bp 5 0)),(8,(.bp 6 0)),(40,(.clo 50 [(.bp 7 0),(.bp 8 0),(.bp 9 0)]))],[jR 4 Qa.cells ba2,some (.box 22 [(.own 0)]),some (.box 3 (((cInt .i64) bd3).map .pl)),some (.box 38 [(.pl (.sl (bif bk4 then Fl.nil else Fl.any) 1 (bf5.map (cInt .i64))))]),some (.box 69 [(.own 10)]),some (.box 71 [(.vw 11 (bh6+(Int.toNat 1)) (bh7-(Int.toNat 1)))]),some (.box 74 ((Way_.cells bg8).map .pl)),some (.box 22 [(.own 0)]),some (.box 9 ((cStr be1.Contract).map .pl)),some (.box 9 ((cStr bg8.party).map .pl)),jR 1 cStr bi9,jR 2 Way_.cells bj10])
noncomputable def f24r1n2(be1:Qa)(ba2:List Qa)(bd3:Int)(bk4:Bool)(bf5:List Int)(bh6 bh7:Nat)(bg8:Way_)(bi9:List ByteArray)(bj10:List Way_):Option f24r1n2O :=
 (f50r2 be1.Contract bg8.party bd3 bk4 bf5 (bh6+(Int.toNat 1)) (bh7-(Int.toNat 1)) bg8 ba2 bi9 bj10).bind fun x129 =>
 bif x129.1 then
  some (.norm x129.2.1 x129.2.2.1 x129.2.2.2.1 x129.2.2.2.2.1 x129.2.2.2.2.2.1 x129.2.2.2.2.2.2)
 else
  some (.ret x129.2.1 x129.2.2.1)
theorem f24r1n2_ok(be1:Qa)(ba2:List Qa)(bd3:Int)(bk4:Bool)(bf5:List Int)(bh6 bh7:Nat)(bg8:Way_)(bi9:List ByteArray)(bj10:List Way_){o:f24r1n2O}(h:f24r1n2 be1 ba2 bd3 bk4 bf5 bh6 bh7 bg8 bi9 bj10=some o):T Try.prog Try.f24.ntmps 1 (Qi 2 (cL (Qi 1 (cL (cL (cL (Qi 0 (Qi 5 c24)))))))) (f24r1n2S be1 ba2 bd3 bk4 bf5 bh6 bh7 bg8 bi9 bj10) (·=f24r1n2E be1 ba2 bd3 bk4 bf5 bh6 bh7 bg8 bi9 bj10 o):=by
 unfold f24r1n2 at h;refine T.block' (i:=2) (by kernel_rfl) ?_;refine rN Qe 0 [] [] [] [1,2,3,4,5,6,7,8,9,10,11] [2,3,4,5,6,7,8,40] (mkS [(2,(.bp 1 0)),(3,(.bp 2 0)),(4,(.bp 3 0)),(5,(jS be1.Contract)),(6,(.bp 4 0)),(7,(.bp 5 0)),(8,(.bp 6 0)),(40,(.clo 50 [(.bp 7 0),(.bp 8 0),(.bp 9 0)]))],[jR 4 Qa.cells ba2,some (.box 22 [(.own 0)]),some (.box 3 (((cInt .i64) bd3).map .pl)),some (.box 38 [(.pl (.sl (bif bk4 then Fl.nil else Fl.any) 1 (bf5.map (cInt .i64))))]),some (.box 69 [(.own 10)]),some (.box 71 [(.vw 11 (bh6+(Int.toNat 1)) (bh7-(Int.toNat 1)))]),some (.box 74 ((Way_.cells bg8).map .pl)),some (.box 22 [(.own 0)]),some (.box 9 ((cStr be1.Contract).map .pl)),some (.box 9 ((cStr bg8.party).map .pl)),jR 1 cStr bi9,jR 2 Way_.cells bj10]) an ?_;obtain ⟨x129,h130,h⟩:=Qc h;rcases Qf h with ⟨h131,h⟩|⟨h131,h⟩
 ·obtain rfl:=Qd h
  exact T.last' (rgN 50 [(.bp 7 0),(.bp 8 0),(.bp 9 0)] [2,3,4,6,7,8] (.tup []) [jR 4 Qa.cells ba2,some (.box 22 [(.own 0)]),some (.box 3 (((cInt .i64) bd3).map .pl)),some (.box 38 [(.pl (.sl (bif x129.2.1 then Fl.nil else Fl.any) 1 (x129.2.2.1.map (cInt .i64))))]),some (.box 69 [(.own 13)]),some (.box 71 [(.vw 14 x129.2.2.2.1 x129.2.2.2.2.1)]),some (.box 74 ((Way_.cells bg8).map .pl)),some (.box 22 [(.own 0)]),some (.box 9 ((cStr be1.Contract).map .pl)),some (.box 9 ((cStr bg8.party).map .pl)),none,none,some (.lp Qp .ready none (kL 73 [(2,(.bp 1 0)),(3,(.bp 2 0)),(4,(.bp 3 0)),(6,(.bp 4 0)),(7,(.bp 5 0)),(8,(.bp 6 0))])),jR 1 cStr x129.2.2.2.2.2.1,jR 2 Way_.cells x129.2.2.2.2.2.2] none .ready (kL 73 [(2,(.bp 1 0)),(3,(.bp 2 0)),(4,(.bp 3 0)),(6,(.bp 4 0)),(7,(.bp 5 0)),(8,(.bp 6 0))]) .norm [] [1,2,3,4,5,13,14] [2,3,4,5,6,7] (mkS [(2,(.bp 1 0)),(3,(.bp 2 0)),(4,(.bp 3 0)),(5,(jS be1.Contract)),(6,(.bp 4 0)),(7,(.bp 5 0))],[jR 4 Qa.cells ba2,some (.box 22 [(.own 0)]),some (.box 3 (((cInt .i64) bd3).map .pl)),some (.box 38 [(.pl (.sl (bif x129.2.1 then Fl.nil else Fl.any) 1 (x129.2.2.1.map (cInt .i64))))]),some (.box 69 [(.own 6)]),some (.box 71 [(.vw 7 x129.2.2.2.1 x129.2.2.2.2.1)]),jR 1 cStr x129.2.2.2.2.2.1,jR 2 Way_.cells x129.2.2.2.2.2.2]) (by have t_:=(Qk.rn 13 [12,7,8,9,1,2,3,4,5,6,0,10,11] (f50r2_ok be1.Contract bg8.party bd3 bk4 bf5 (bh6+(Int.toNat 1)) (bh7-(Int.toNat 1)) bg8 ba2 bi9 bj10 h130)); rw [h131] at t_; exact t_) an) (tds:=[]) (m:=[1,2,3,4,5,6,7]) (keep:=[2,3,4,5,6,7]) (st2:=(f24r1n2E be1 ba2 bd3 bk4 bf5 bh6 bh7 bg8 bi9 bj10 (.norm x129.2.1 x129.2.2.1 x129.2.2.2.1 x129.2.2.2.2.1 x129.2.2.2.2.2.1 x129.2.2.2.2.2.2)).2) (by kernel_rfl) an rfl
 ·obtain rfl:=Qd h
  exact T.last' (rgN 50 [(.bp 7 0),(.bp 8 0),(.bp 9 0)] [2,3,4,6,7,8] (.tup []) [jR 4 Qa.cells ba2,some (.box 22 [(.own 0)]),some (.box 3 (((cInt .i64) bd3).map .pl)),some (.box 38 [(.pl (.sl (bif x129.2.1 then Fl.nil else Fl.any) 1 (x129.2.2.1.map (cInt .i64))))]),some (.box 69 [(.own 13)]),some (.box 71 [(.vw 14 x129.2.2.2.1 x129.2.2.2.2.1)]),some (.box 74 ((Way_.cells bg8).map .pl)),some (.box 22 [(.own 0)]),some (.box 9 ((cStr be1.Contract).map .pl)),some (.box 9 ((cStr bg8.party).map .pl)),none,none,some (.lp Qp .done (some (.ret)) (kL 73 [(2,(.bp 1 0)),(3,(.bp 2 0)),(4,(.bp 3 0)),(6,(.bp 4 0)),(7,(.bp 5 0)),(8,(.bp 6 0))])),jR 1 cStr x129.2.2.2.2.2.1,jR 2 Way_.cells x129.2.2.2.2.2.2] (some (.ret)) .done (kL 73 [(2,(.bp 1 0)),(3,(.bp 2 0)),(4,(.bp 3 0)),(6,(.bp 4 0)),(7,(.bp 5 0)),(8,(.bp 6 0))]) .ret [] [3] [4] (mkS [(4,(.bp 1 0))],[jR 4 Qa.cells ba2,some (.box 38 [(.pl (.sl (bif x129.2.1 then Fl.nil else Fl.any) 1 (x129.2.2.1.map (cInt .i64))))])]) (by have t_:=(Qk.rn 13 [12,7,8,9,1,2,3,4,5,6,0,10,11] (f50r2_ok be1.Contract bg8.party bd3 bk4 bf5 (bh6+(Int.toNat 1)) (bh7-(Int.toNat 1)) bg8 ba2 bi9 bj10 h130)); rw [h131] at t_; exact t_) an) (tds:=[]) (m:=[1]) (keep:=[4]) (st2:=(f24r1n2E be1 ba2 bd3 bk4 bf5 bh6 bh7 bg8 bi9 bj10 (.ret x129.2.1 x129.2.2.1)).2) (by kernel_rfl) an rfl
inductive f24r1n1O where
 | norm (v150:Bool) (v151:List Int) (v152:Nat) (v153:Nat) (v154:List ByteArray) (v155:List Way_)
 | ret (v156:Bool) (v157:List Int)
def f24r1n1E(be1:Qa)(ba2:List Qa)(bd3:Int)(bk4:Bool)(bf5:List Int)(bh6 bh7:Nat)(bi8:List ByteArray)(bj9:List Way_):f24r1n1O→Ex×Tr×Hp
 | .norm v150 v151 v152 v153 v154 v155=>(.norm,mkS [(2,(.bp 1 0)),(3,(.bp 2 0)),(4,(.bp 3 0)),(5,(jS be1.Contract)),(6,(.bp 4 0)),(7,(.bp 5 0))],[jR 4 Qa.cells ba2,some (.box 22 [(.own 0)]),some (.box 3 (((cInt .i64) bd3).map .pl)),some (.box 38 [(.pl (.sl (bif v150 then Fl.nil else Fl.any) 1 (v151.map (cInt .i64))))]),some (.box 69 [(.own 6)]),some (.box 71 [(.vw 7 v152 v153)]),jR 1 cStr v154,jR 2 Way_.cells v155])
 | .ret v156 v157=>(.ret,mkS [(4,(.bp 1 0))],[jR 4 Qa.cells ba2,some (.box 38 [(.pl (.sl (bif v156 then Fl.nil else Fl.any) 1 (v157.map (cInt .i64))))])])
def f24r1n1S(be1:Qa)(ba2:List Qa)(bd3:Int)(bk4:Bool)(bf5:List Int)(bh6 bh7:Nat)(bi8:List ByteArray)(bj9:List Way_):Tr×Hp:=(mkS [(2,(.bp 1 0)),(3,(.bp 2 0)),(4,(.bp 3 0)),(5,(jS be1.Contract)),(6,(.bp 4 0)),(7,(.bp 5 0))],[jR 4 Qa.cells ba2,some (.box 22 [(.own 0)]),some (.box 3 (((cInt .i64) bd3).map .pl)),some (.box 38 [(.pl (.sl (bif bk4 then Fl.nil else Fl.any) 1 (bf5.map (cInt .i64))))]),some (.box 69 [(.own 6)]),some (.box 71 [(.vw 7 bh6 bh7)]),jR 1 cStr bi8,jR 2 Way_.cells bj9])
noncomputable def f24r1n1(be1:Qa)(ba2:List Qa)(bd3:Int)(bk4:Bool)(bf5:List Int)(bh6 bh7:Nat)(bi8:List ByteArray)(bj9:List Way_):Option f24r1n1O :=
 (f35r2 bh6 bh7 bj9).bind fun x123 =>
 (f36r1 be1.Contract x123.party ba2).bind fun x127 =>
 (f24r1n2 be1 ba2 bd3 bk4 bf5 bh6 bh7 x123 bi8 bj9).bind fun o140=>match o140 with
 | .norm v142 v143 v144 v145 v146 v147=>some (.norm v142 v143 v144 v145 v146 v147)
 | .ret v148 v149=>some (.ret v148 v149)
theorem f24r1n1_ok(be1:Qa)(ba2:List Qa)(bd3:Int)(bk4:Bool)(bf5:List Int)(bh6 bh7:Nat)(bi8:List ByteArray)(bj9:List Way_){o:f24r1n1O}(h:f24r1n1 be1 ba2 bd3 bk4 bf5 bh6 bh7 bi8 bj9=some o):T Try.prog Try.f24.ntmps 1 (Qi 1 (cL (cL (cL (Qi 0 (Qi 5 c24)))))) (f24r1n1S be1 ba2 bd3 bk4 bf5 bh6 bh7 bi8 bj9) (·=f24r1n1E be1 ba2 bd3 bk4 bf5 bh6 bh7 bi8 bj9 o):=by
 unfold f24r1n1 at h;refine T.block' (i:=1) (by kernel_rfl) ?_;obtain ⟨x123,h124,h⟩:=Qc h;obtain ⟨x127,h128,h⟩:=Qc h;refine rN Qe 2 [([],[(0,.call (jA Way_.cells x123) (jN 5 [some (.box 71 [(.vw 7 (bh6+(Int.toNat 1)) (bh7-(Int.toNat 1)))]),none,jR 2 Way_.cells bj9,some (.box 74 ((Way_.cells x123).map .pl))]))],[]),([],[(4,.call (.clo 50 [(.bp 10 0),(.bp 11 0),(.bp 12 0)]) [jR 4 Qa.cells ba2,none,none,none,none,none,none,none,none,none,some (.box 22 [(.own 0)]),some (.box 9 ((cStr be1.Contract).map .pl)),some (.box 9 ((cStr x123.party).map .pl))])],[])] [] [] [1,2,3,4,5,9,10,11,12,6,7] [2,3,4,5,6,7,8,40] (f24r1n2S be1 ba2 bd3 bk4 bf5 bh6 bh7 x123 bi8 bj9) (ap (Qk.rn 8 [5,7] (f35r2_ok bh6 bh7 bj9 h124)) (ap (Qk.rn 10 [0] (f36r1_ok be1.Contract x123.party ba2 h128)) an)) ?_;obtain ⟨o140,h141,h⟩:=Qc h;cases o140 with
 | norm v142 v143 v144 v145 v146 v147 =>
  obtain rfl:=Qd h;exact T.last' (f24r1n2_ok be1 ba2 bd3 bk4 bf5 bh6 bh7 x123 bi8 bj9 h141) (tds:=[]) (m:=[1,2,3,4,5,6,7]) (keep:=[2,3,4,5,6,7]) (st2:=(f24r1n1E be1 ba2 bd3 bk4 bf5 bh6 bh7 bi8 bj9 (.norm v142 v143 v144 v145 v146 v147)).2) (by kernel_rfl) an rfl
 | ret v148 v149 =>
  obtain rfl:=Qd h;exact T.last' (f24r1n2_ok be1 ba2 bd3 bk4 bf5 bh6 bh7 x123 bi8 bj9 h141) (tds:=[]) (m:=[1]) (keep:=[4]) (st2:=(f24r1n1E be1 ba2 bd3 bk4 bf5 bh6 bh7 bi8 bj9 (.ret v148 v149)).2) (by kernel_rfl) an rfl
inductive f24r1n3O where
 | exit0 (v168:Bool) (v169:List Int)
 | ret (v170:Bool) (v171:List Int)
def f24r1n3E(x5:Qa)(a2:List Qa)(a1:Int):f24r1n3O→Ex×Tr×Hp
 | .exit0 v168 v169=>((.exit 0),mkS [(4,(.bp 1 0))],[jR 4 Qa.cells a2,some (.box 38 [(.pl (.sl (bif v168 then Fl.nil else Fl.any) 1 (v169.map (cInt .i64))))])])
 | .ret v170 v171=>(.ret,mkS [(4,(.bp 1 0))],[jR 4 Qa.cells a2,some (.box 38 [(.pl (.sl (bif v170 then Fl.nil else Fl.any) 1 (v171.map (cInt .i64))))])])
def f24r1n3S(x5:Qa)(a2:List Qa)(a1:Int)(v113:Bool)(v114:List Int)(v115 v116:Nat)(v117:List ByteArray)(v118:List Way_):Tr×Hp:=(mkS [(2,(.bp 1 0)),(3,(.bp 2 0)),(4,(.bp 3 0)),(5,(jS x5.Contract)),(6,(.bp 4 0)),(7,(.bp 5 0))],[jR 4 Qa.cells a2,some (.box 22 [(.own 0)]),some (.box 3 (((cInt .i64) a1).map .pl)),some (.box 38 [(.pl (.sl (bif v113 then Fl.nil else Fl.any) 1 (v114.map (cInt .i64))))]),some (.box 69 [(.own 6)]),some (.box 71 [(.vw 7 v115 v116)]),jR 1 cStr v117,jR 2 Way_.cells v118])
noncomputable def f24r1n3:Nat→Qa→List Qa→Int→Bool→List Int→Nat→Nat→List ByteArray→List Way_→Option f24r1n3O
 | 0,_,_,_,_,_,_,_,_,_=>none
 | f+1,x5,a2,a1,v113,v114,v115,v116,v117,v118 =>
  bif (decide (0<((v116:Nat):Int))) then
   (f24r1n1 x5 a2 a1 v113 v114 v115 v116 v117 v118).bind fun o158=>match o158 with
   | .norm v160 v161 v162 v163 v164 v165=>(f24r1n3 f x5 a2 a1 v160 v161 v162 v163 v164 v165)
   | .ret v166 v167=>some (.ret v166 v167)
  else
   some (.exit0 v113 v114)
theorem f24r1n3_ok:∀(f:Nat)(x5:Qa)(a2:List Qa)(a1:Int)(v113:Bool)(v114:List Int)(v115 v116:Nat)(v117:List ByteArray)(v118:List Way_){o:f24r1n3O},f24r1n3 f x5 a2 a1 v113 v114 v115 v116 v117 v118=some o→TL Try.prog Try.f24.ntmps 1 f (cL (cL (cL (Qi 0 (Qi 5 c24))))) (f24r1n3S x5 a2 a1 v113 v114 v115 v116 v117 v118) (·=f24r1n3E x5 a2 a1 o)
 | 0,_,_,_,_,_,_,_,_,_,o,h=>by rw [f24r1n3] at h; cases h
 | f+1,x5,a2,a1,v113,v114,v115,v116,v117,v118,o,h=>by
  rw [f24r1n3] at h;refine TL.body (K:=fun s=>∃v113:Bool,∃v114:List Int,∃v115:Nat,∃v116:Nat,∃v117:List ByteArray,∃v118:List Way_,s=(f24r1n3S x5 a2 a1 v113 v114 v115 v116 v117 v118)∧f24r1n3 f x5 a2 a1 v113 v114 v115 v116 v117 v118=some o) ?_ (by rintro _ ⟨v113,v114,v115,v116,v117,v118,rfl,hk⟩; exact f24r1n3_ok f _ _ _ _ _ _ _ _ _ hk);rcases Qf h with ⟨h120,h⟩|⟨h120,h⟩
  ·refine rN Qe 1 [j3] [some true] [] [1,2,3,4,5,6,7] [2,3,4,5,6,7] (f24r1n1S x5 a2 a1 v113 v114 v115 v116 v117 v118) (ap h120 an) ?_;obtain ⟨o158,h159,h⟩:=Qc h;cases o158 with
   | norm v160 v161 v162 v163 v164 v165 =>
    exact T.last' (f24r1n1_ok x5 a2 a1 v113 v114 v115 v116 v117 v118 h159) (tds:=[]) (m:=[1,2,3,4,5,6,7]) (keep:=[2,3,4,5,6,7]) (st2:=(f24r1n3S x5 a2 a1 v160 v161 v162 v163 v164 v165)) (by kernel_rfl) an (Qv.norm ⟨v160,v161,v162,v163,v164,v165,rfl,h⟩)
   | ret v166 v167 =>
    obtain rfl:=Qd h;exact T.last' (f24r1n1_ok x5 a2 a1 v113 v114 v115 v116 v117 v118 h159) (tds:=[]) (m:=[1]) (keep:=[4]) (st2:=(f24r1n3E x5 a2 a1 (.ret v166 v167)).2) (by kernel_rfl) an (Qv.out rfl rfl)
  ·obtain rfl:=Qd h;exact rK Qe 1 [j3] [some false] [] [3] [4] (.exit 0) ((f24r1n3E x5 a2 a1 (.exit0 v113 v114)).2) (ap h120 an) (Qv.out rfl rfl)
inductive f24r1n0O where
 | ret (v178:Bool) (v179:List Int)
def f24r1n0E(a1:Int)(a2:List Qa):f24r1n0O→Ex×Tr×Hp
 | .ret v178 v179=>(.ret,mkS [(4,(.bp 1 0))],[jR 4 Qa.cells a2,some (.box 38 [(.pl (.sl (bif v178 then Fl.nil else Fl.any) 1 (v179.map (cInt .i64))))])])
def f24r1n0S(a1:Int)(a2:List Qa):Tr×Hp:=(Qad [(.own 0),(jI a1)] 0 .leaf,[jR 4 Qa.cells a2])
noncomputable def f24r1n0(a1:Int)(a2:List Qa):Option f24r1n0O :=
 (at? a2 a1).bind fun x5 =>
 (f34r1 x5.To [a1]).bind fun x9 =>
 (f24r1n3 FUEL x5 a2 a1 true [] 0 1 [x5.To] [(Way_.mk x5.To [a1])]).bind fun o172=>match o172 with
 | .exit0 v174 v175=>some (.ret true [])
 | .ret v176 v177=>some (.ret v176 v177)
theorem f24r1n0_ok(a1:Int)(a2:List Qa){o:f24r1n0O}(h:f24r1n0 a1 a2=some o):T Try.prog Try.f24.ntmps 1 c24 (f24r1n0S a1 a2) (·=f24r1n0E a1 a2 o):=by
 unfold f24r1n0 at h;obtain ⟨x5,h6,h⟩:=Qc h;obtain ⟨x9,h10,h⟩:=Qc h
 refine rN Qe 5 [j3,([],[(2,.at_ (Int.toNat a1)),(4,.idx 0 (Qa.cells x5))],[]),([],[(2,.at_ (Int.toNat a1)),(4,.idx 0 (Qa.cells x5))],[]),j3,([],[(2,.at_ (Int.toNat a1)),(4,.idx 0 (Qa.cells x5)),(8,.call (.tup []) (jN 6 [some (.box 71 [(.own 9)]),some (.row true 1 ([a1].map (cInt .i64))),none,some (.row false 2 ([(Way_.mk x5.To [a1])].map Way_.cells))]))],[])] [] [] [1,2,3,5,6,4,9] [2,3,4,5,6,7] (mkS [(2,(.bp 1 0)),(3,(.bp 2 0)),(4,(.bp 3 0)),(5,(jS x5.Contract)),(6,(.bp 4 0)),(7,(.bp 5 0))],[jR 4 Qa.cells a2,some (.box 22 [(.own 0)]),some (.box 3 (((cInt .i64) a1).map .pl)),some (.box 38 [(.pl (.sl .nil 0 []))]),some (.box 69 [(.own 6)]),some (.box 71 [(.own 7)]),some (.row false 1 ([x5.To].map cStr)),some (.row false 2 ([(Way_.mk x5.To [a1])].map Way_.cells))]) (ap (Qg h6).1 (ap (lt_map Qa.cells (Qg h6).2) (ap (Qo Qa.cells (Qg h6).2) (ap (Qg h6).1 (ap (lt_map Qa.cells (Qg h6).2) (ap (Qo Qa.cells (Qg h6).2) (ap (Qg h6).1 (ap (lt_map Qa.cells (Qg h6).2) (ap (Qo Qa.cells (Qg h6).2) (ap (Qk.rn 9 [6,7] (f34r1_ok x5.To [a1] h10)) an)))))))))) ?_
 refine rN Qe 0 [] [] [.wkC 3 0 (.pl (.sl .nil 1 ([].map (cInt .i64)))),.ovwC 5 0 1] [1,2,3,4,5,6,7] [2,3,4,5,6,7] (f24r1n3S x5 a2 a1 true [] 0 1 [x5.To] [(Way_.mk x5.To [a1])]) (ap ((Wk.pl (WkP.nilz (sz:=0) (sz':=1))):Wk (.pl (.sl .nil 0 [])) (.pl (.sl .nil 1 ([].map (cInt .i64))))) (ap (len_ov (xs:=[(Way_.mk x5.To [a1])]) (c:=Way_.cells)) an)) ?_;obtain ⟨o172,h173,h⟩:=Qc h;cases o172 with
 | exit0 v174 v175 =>
  refine T.oneN (by kernel_rfl) (T.bl (i:=0) (by kernel_rfl) (by kernel_rfl) (f24r1n3_ok FUEL x5 a2 a1 true [] 0 1 [x5.To] [(Way_.mk x5.To [a1])] h173)) (st2:=(f24r1n3E x5 a2 a1 (.exit0 v174 v175)).2) rfl ?_;obtain rfl:=Qd h;exact rE Qe [j3] [] [.wkC 1 0 (.pl (.sl .nil 1 ([].map (cInt .i64))))] [1] [4] (.ret,(f24r1n0E a1 a2 (.ret true [])).2) (ap ((Wk.pl (WkP.nilz (sz:=0) (sz':=1))):Wk (.pl (.sl .nil 0 [])) (.pl (.sl .nil 1 ([].map (cInt .i64))))) an) rfl
 | ret v176 v177 =>
  obtain rfl:=Qd h;exact T.oneX' (by kernel_rfl) (T.bl (i:=0) (by kernel_rfl) (by kernel_rfl) (f24r1n3_ok FUEL x5 a2 a1 true [] 0 1 [x5.To] [(Way_.mk x5.To [a1])] h173)) (tds:=[]) (m:=[1]) (keep:=[4]) (st2:=(f24r1n0E a1 a2 (.ret v176 v177)).2) (by kernel_rfl) an rfl rfl
noncomputable def f24r1(a1:Int)(a2:List Qa):Option (Bool×(List Int)):=(f24r1n0 a1 a2).bind fun o=>match o with
 | .ret v178 v179=>some (v178,v179)
theorem f24r1_ok(a1:Int)(a2:List Qa){r:Bool×(List Int)}(h:f24r1 a1 a2=some r):Qk Try.prog true 24 [(.own 0),(jI a1)] [jR 4 Qa.cells a2] (.pl (.sl (bif r.1 then Fl.nil else Fl.any) 1 (r.2.map (cInt .i64)))) [jR 4 Qa.cells a2,some (.box 38 [(.pl (.sl (bif r.1 then Fl.nil else Fl.any) 1 (r.2.map (cInt .i64))))])]:=by
 unfold f24r1 at h;obtain ⟨o,ho,h⟩:=Qc h;cases o with
 | ret v178 v179 =>
  obtain rfl:=Qd h;exact Qk.shared Qe (f:=Try.f24) (c:=c24) (by kernel_rfl) (by kernel_rfl) (by kernel_rfl) ((f24r1n0_ok a1 a2 ho).mono fun r e=>by subst e; exact ⟨.inl rfl,by kernel_rfl,by kernel_rfl⟩)

noncomputable def c12:Code:=Try.f12.body.getD .skip
inductive f12r1n2O where
 | exit0
 | ret (v34:Bool) (v35:List Int)
def f12r1n2E(ba1:List Qa):f12r1n2O→Ex×Tr×Hp
 | .exit0=>((.exit 0),mkS [],[jR 4 Qa.cells ba1])
 | .ret v34 v35=>(.ret,mkS [(2,(.pl (.sl (bif v34 then Fl.nil else Fl.any) 1 (v35.map (cInt .i64)))))],[jR 4 Qa.cells ba1])
def f12r1n2S(ba1:List Qa)(v23:Int):Tr×Hp:=(mkS [(0,(.own 0)),(6,(jI (ba1.length:Int))),(7,(jI v23))],[jR 4 Qa.cells ba1])
noncomputable def f12r1n2:Nat→List Qa→Int→Option f12r1n2O
 | 0,_,_=>none
 | f+1,ba1,v23 =>
  bif decide (v23<(ba1.length:Int)) then
   (f24r1 v23 ba1).bind fun x30 =>
   bif x30.1 then
    (f12r1n2 f ba1 (wr64 (v23+1)))
   else
    req (!(x30.2.isEmpty)) <|
    some (.ret x30.1 x30.2)
  else
   some .exit0
theorem f12r1n2_ok:∀(f:Nat)(ba1:List Qa)(v23:Int){o:f12r1n2O},f12r1n2 f ba1 v23=some o→TL Try.prog Try.f12.ntmps 1 f (cL (cL (Qi 1 (cL (Qi 1 c12))))) (f12r1n2S ba1 v23) (·=f12r1n2E ba1 o)
 | 0,_,_,o,h=>by rw [f12r1n2] at h; cases h
 | f+1,ba1,v23,o,h=>by
  rw [f12r1n2] at h;refine TL.body (K:=fun s=>∃v23:Int,s=(f12r1n2S ba1 v23)∧f12r1n2 f ba1 v23=some o) ?_ (by rintro _ ⟨v23,rfl,hk⟩; exact f12r1n2_ok f _ _ hk);rcases Qf h with ⟨h25,h⟩|⟨h25,h⟩
  ·obtain ⟨x30,h31,h⟩:=Qc h;rcases Qf h with ⟨h32,h⟩|⟨h32,h⟩
   ·exact rE Qe [j3,j3,([],[(2,.call (.pl (.sl (bif x30.1 then Fl.nil else Fl.any) 1 (x30.2.map (cInt .i64)))) [jR 4 Qa.cells ba1,some (.box 38 [(.pl (.sl (bif x30.1 then Fl.nil else Fl.any) 1 (x30.2.map (cInt .i64))))])])],[]),([],[(1,.app true)],[]),j3] [some true,none] [] [] [0,6,7] (.norm,(f12r1n2S ba1 (wr64 (v23+1)))) (ap h25 (ap (f24r1_ok v23 ba1 h31) (ap (fl_t h32) an))) (Qv.norm ⟨(wr64 (v23+1)),rfl,h⟩)
   ·obtain ⟨h33,h⟩:=Qm h;obtain rfl:=Qd h;exact rK Qe 3 [j3,j3,([],[(2,.call (.pl (.sl (bif x30.1 then Fl.nil else Fl.any) 1 (x30.2.map (cInt .i64)))) [jR 4 Qa.cells ba1,some (.box 38 [(.pl (.sl (bif x30.1 then Fl.nil else Fl.any) 1 (x30.2.map (cInt .i64))))])])],[]),([],[(1,.app false)],[]),j3] [some true,none] [] [] [2] .ret ((f12r1n2E ba1 (.ret x30.1 x30.2)).2) (ap h25 (ap (f24r1_ok v23 ba1 h31) (ap (fl_f h32) (ap (ne_map (c:=(cInt .i64)) (by simpa using h33)) an)))) (Qv.out rfl rfl)
  ·obtain rfl:=Qd h;exact rK Qe 2 [j3] [some false] [] [] [] (.exit 0) ((f12r1n2E ba1 .exit0).2) (ap h25 an) (Qv.out rfl rfl)
inductive f12r1n1O where
 | norm
 | ret (v40:Bool) (v41:List Int)
def f12r1n1E(ba1:List Qa):f12r1n1O→Ex×Tr×Hp
 | .norm=>(.norm,mkS [],[jR 4 Qa.cells ba1])
 | .ret v40 v41=>(.ret,mkS [(2,(.pl (.sl (bif v40 then Fl.nil else Fl.any) 1 (v41.map (cInt .i64)))))],[jR 4 Qa.cells ba1])
def f12r1n1S(ba1:List Qa):Tr×Hp:=(mkS [(0,(.own 0))],[jR 4 Qa.cells ba1])
noncomputable def f12r1n1(ba1:List Qa):Option f12r1n1O :=
 (f12r1n2 FUEL ba1 0).bind fun o36=>match o36 with
 | .exit0=>some .norm
 | .ret v38 v39=>some (.ret v38 v39)
theorem f12r1n1_ok(ba1:List Qa){o:f12r1n1O}(h:f12r1n1 ba1=some o):T Try.prog Try.f12.ntmps 1 (cL (Qi 1 c12)) (f12r1n1S ba1) (·=f12r1n1E ba1 o):=by
 unfold f12r1n1 at h;refine rN Qe 1 [([],[],[(1,.val (jI (ba1.length:Int)))])] [] [] [] [0,6,7] (f12r1n2S ba1 0) (ap (Qu (xs:=ba1) (c:=Qa.cells)) an) ?_;obtain ⟨o36,h37,h⟩:=Qc h;cases o36 with
 | exit0 =>
  obtain rfl:=Qd h;exact T.last' (T.bl (i:=0) (by kernel_rfl) (by kernel_rfl) (f12r1n2_ok FUEL ba1 0 h37)) (tds:=[]) (m:=[]) (keep:=[]) (st2:=(f12r1n1E ba1 .norm).2) (by kernel_rfl) an rfl
 | ret v38 v39 =>
  obtain rfl:=Qd h;exact T.last' (T.bl (i:=0) (by kernel_rfl) (by kernel_rfl) (f12r1n2_ok FUEL ba1 0 h37)) (tds:=[]) (m:=[]) (keep:=[2]) (st2:=(f12r1n1E ba1 (.ret v38 v39)).2) (by kernel_rfl) an rfl
inductive f12r1n0O where
 | ret (v46:Bool) (v47:List Int)
def f12r1n0E(a1:List Qa):f12r1n0O→Ex×Tr×Hp
 | .ret v46 v47=>(.ret,mkS [(2,(.pl (.sl (bif v46 then Fl.nil else Fl.any) 1 (v47.map (cInt .i64)))))],[jR 4 Qa.cells a1])
def f12r1n0S(a1:List Qa):Tr×Hp:=(Qad [(.own 0)] 0 .leaf,[jR 4 Qa.cells a1])
noncomputable def f12r1n0(a1:List Qa):Option f12r1n0O :=
 (f12r1n1 a1).bind fun o42=>match o42 with
 | .norm=>some (.ret true [])
 | .ret v44 v45=>some (.ret v44 v45)
theorem f12r1n0_ok(a1:List Qa){o:f12r1n0O}(h:f12r1n0 a1=some o):T Try.prog Try.f12.ntmps 1 c12 (f12r1n0S a1) (·=f12r1n0E a1 o):=by
 unfold f12r1n0 at h;refine rN Qe 1 [j3] [] [] [] [0] (f12r1n1S a1) an ?_;obtain ⟨o42,h43,h⟩:=Qc h;cases o42 with
 | norm =>
  refine T.oneN (by kernel_rfl) (f12r1n1_ok a1 h43) (st2:=(f12r1n1E a1 .norm).2) rfl ?_;obtain rfl:=Qd h;exact rE Qe [j3] [] [.wk 2 (.pl (.sl .nil 1 ([].map (cInt .i64))))] [] [2] (.ret,(f12r1n0E a1 (.ret true [])).2) (ap ((Wk.pl (WkP.nilz (sz:=0) (sz':=1))):Wk (.pl (.sl .nil 0 [])) (.pl (.sl .nil 1 ([].map (cInt .i64))))) an) rfl
 | ret v44 v45 =>
  obtain rfl:=Qd h;exact T.oneX' (by kernel_rfl) (f12r1n1_ok a1 h43) (tds:=[]) (m:=[]) (keep:=[2]) (st2:=(f12r1n0E a1 (.ret v44 v45)).2) (by kernel_rfl) an rfl rfl
noncomputable def f12r1(a1:List Qa):Option (Bool×(List Int)):=(f12r1n0 a1).bind fun o=>match o with
 | .ret v46 v47=>some (v46,v47)
theorem f12r1_ok(a1:List Qa){r:Bool×(List Int)}(h:f12r1 a1=some r):Qk Try.prog true 12 [(.own 0)] [jR 4 Qa.cells a1] (.pl (.sl (bif r.1 then Fl.nil else Fl.any) 1 (r.2.map (cInt .i64)))) [jR 4 Qa.cells a1]:=by
 unfold f12r1 at h;obtain ⟨o,ho,h⟩:=Qc h;cases o with
 | ret v46 v47 =>
  obtain rfl:=Qd h;exact Qk.shared Qe (f:=Try.f12) (c:=c12) (by kernel_rfl) (by kernel_rfl) (by kernel_rfl) ((f12r1n0_ok a1 ho).mono fun r e=>by subst e; exact ⟨.inl rfl,by kernel_rfl,by kernel_rfl⟩)

noncomputable def c14:Code:=Try.f14.body.getD .skip
inductive f14n0O where
 | ret
def f14n0E(a1:Qa):f14n0O→Ex×Tr×Hp
 | .ret=>(.ret,mkS [(2,(.pl (.bool (decide (a1.Amount=0)))))],[])
def f14n0S(a1:Qa):Tr×Hp:=(Qad [(jA Qa.cells a1)] 0 .leaf,[])
noncomputable def f14n0(a1:Qa):Option f14n0O :=
 some .ret
theorem f14n0_ok(a1:Qa){o:f14n0O}(h:f14n0 a1=some o):T Try.prog Try.f14.ntmps 0 c14 (f14n0S a1) (·=f14n0E a1 o):=by
 unfold f14n0 at h;obtain rfl:=Qd h;exact rE Qe [j3,j3] [] [] [] [2] (.ret,(f14n0E a1 .ret).2) an rfl
noncomputable def f14(a1:Qa):Option Bool:=(f14n0 a1).bind fun o=>match o with
 | .ret=>some (decide (a1.Amount=0))
theorem f14_ok(a1:Qa){r:Bool}(h:f14 a1=some r):Qk Try.prog false 14 [(jA Qa.cells a1)] [] (jB r) []:=by
 unfold f14 at h;obtain ⟨o,ho,h⟩:=Qc h;cases o with
 | ret =>
  obtain rfl:=Qd h;exact Qk.plain Qe (f:=Try.f14) (c:=c14) (by kernel_rfl) (by kernel_rfl) (by kernel_rfl) (by kernel_rfl) ((f14n0_ok a1 ho).mono fun r e=>by subst e; exact ⟨.inl rfl,(.pl (.bool (decide (a1.Amount=0)))),(.pl (.bool (decide (a1.Amount=0)))),by kernel_rfl,by kernel_rfl,((Wk.refl _):Wk (.pl (.bool (decide (a1.Amount=0)))) (.pl (.bool (decide (a1.Amount=0)))))⟩)

noncomputable def c25:Code:=Try.f25.body.getD .skip
inductive f25_14n2O where
 | exit0
 | ret (v40:Int)
def f25_14n2E(ba1:List Qa):f25_14n2O→Ex×Tr×Hp
 | .exit0=>((.exit 0),mkS [],[])
 | .ret v40=>(.ret,mkS [(4,(jI v40))],[])
def f25_14n2S(ba1:List Qa)(v27:Int):Tr×Hp:=(mkS [(0,(jL 4 Qa.cells ba1)),(1,(.pl (.fn 14))),(7,(jI (ba1.length:Int))),(8,(jI v27))],[])
noncomputable def f25_14n2:Nat→List Qa→Int→Option f25_14n2O
 | 0,_,_=>none
 | f+1,ba1,v27 =>
  bif decide (v27<(ba1.length:Int)) then
   (at? ba1 v27).bind fun x35 =>
   (f14 x35).bind fun x37 =>
   bif x37 then
    some (.ret v27)
   else
    (f25_14n2 f ba1 (wr64 (v27+1)))
  else
   some .exit0
theorem f25_14n2_ok:∀(f:Nat)(ba1:List Qa)(v27:Int){o:f25_14n2O},f25_14n2 f ba1 v27=some o→TL Try.prog Try.f25.ntmps 0 f (cL (cL (Qi 1 (cL (Qi 1 c25))))) (f25_14n2S ba1 v27) (·=f25_14n2E ba1 o)
 | 0,_,_,o,h=>by rw [f25_14n2] at h; cases h
 | f+1,ba1,v27,o,h=>by
  rw [f25_14n2] at h;refine TL.body (K:=fun s=>∃v27:Int,s=(f25_14n2S ba1 v27)∧f25_14n2 f ba1 v27=some o) ?_ (by rintro _ ⟨v27,rfl,hk⟩; exact f25_14n2_ok f _ _ hk);rcases Qf h with ⟨h29,h⟩|⟨h29,h⟩
  ·obtain ⟨x35,h36,h⟩:=Qc h;obtain ⟨x37,h38,h⟩:=Qc h;rcases Qf h with ⟨h39,h⟩|⟨h39,h⟩
   ·obtain rfl:=Qd h;exact rK Qe 3 [j3,j3,([],[(3,.idx (Int.toNat v27) (Qa.cells x35)),jH 5 (jB x37)],[]),j3] [some true,some true] [] [] [4] .ret ((f25_14n2E ba1 (.ret v27)).2) (ap h29 (ap (Qg h36).1 (ap (Qo Qa.cells (Qg h36).2) (ap (f14_ok x35 h38) (ap h39 an))))) (Qv.out rfl rfl)
   ·exact rE Qe [j3,j3,([],[(3,.idx (Int.toNat v27) (Qa.cells x35)),jH 5 (jB x37)],[]),j3] [some true,some false] [] [] [0,1,7,8] (.norm,(f25_14n2S ba1 (wr64 (v27+1)))) (ap h29 (ap (Qg h36).1 (ap (Qo Qa.cells (Qg h36).2) (ap (f14_ok x35 h38) (ap h39 an))))) (Qv.norm ⟨(wr64 (v27+1)),rfl,h⟩)
  ·obtain rfl:=Qd h;exact rK Qe 2 [j3] [some false] [] [] [] (.exit 0) ((f25_14n2E ba1 .exit0).2) (ap h29 an) (Qv.out rfl rfl)
noncomputable def f25_14n2L(ba1:List Qa):List Qa→Int→Option f25_14n2O
 | [],v27 =>
  some .exit0
 | x0::rest,v27 =>
  (f14 x0).bind fun x37 =>
  bif x37 then
   some (.ret v27)
  else
   (f25_14n2L ba1 rest (v27+1))
theorem f25_14n2L_eq(ba1:List Qa):∀(rest:List Qa)(f k:Nat),ba1.drop k=rest→ba1.length≤maxLen→rest.length<f→f25_14n2 f ba1 (k:Int)=f25_14n2L ba1 rest (k:Int)
 | _,0,_,_,_,hf=>absurd hf (Nat.not_lt_zero _)
 | [],f+1,k,hd,hm,hf=>by
  have hk:¬((k:Int)<(ba1.length:Int)):=by have:=Qbp hd; omega
  rw [f25_14n2,f25_14n2L];simp only [decide_eq_false hk,cond_false]
 | x0::rest,f+1,k,hd,hm,hf=>by
  obtain ⟨hx,hlt,hd'⟩:=Qba hd;have hk:(k:Int)<(ba1.length:Int):=by omega
  have hw:wr64 ((k:Int)+1)=(k:Int)+1:=wr64_of (by omega) (by unfold maxLen at hm; omega);have ih:f25_14n2 f ba1 ((k:Int)+1)=f25_14n2L ba1 rest ((k:Int)+1):=f25_14n2L_eq ba1 rest f (k+1) hd' hm (by simpa using hf);rw [f25_14n2,f25_14n2L];simp only [decide_eq_true hk,cond_true,at_nat,hx,Option.bind_some,hw,ih]
theorem f25_14n2_run(ba1:List Qa)(hm:ba1.length≤maxLen):f25_14n2 FUEL ba1 0=f25_14n2L ba1 ba1 0:=f25_14n2L_eq ba1 ba1 FUEL 0 List.drop_zero hm (lt_FUEL hm)
inductive f25_14n1O where
 | norm
 | ret (v44:Int)
def f25_14n1E(ba1:List Qa):f25_14n1O→Ex×Tr×Hp
 | .norm=>(.norm,mkS [],[])
 | .ret v44=>(.ret,mkS [(4,(jI v44))],[])
def f25_14n1S(ba1:List Qa):Tr×Hp:=(mkS [(0,(jL 4 Qa.cells ba1)),(1,(.pl (.fn 14)))],[])
noncomputable def f25_14n1(ba1:List Qa):Option f25_14n1O :=
 (f25_14n2 FUEL ba1 0).bind fun o41=>match o41 with
 | .exit0=>some .norm
 | .ret v43=>some (.ret v43)
theorem f25_14n1_ok(ba1:List Qa){o:f25_14n1O}(h:f25_14n1 ba1=some o):T Try.prog Try.f25.ntmps 0 (cL (Qi 1 c25)) (f25_14n1S ba1) (·=f25_14n1E ba1 o):=by
 unfold f25_14n1 at h;refine rN Qe 1 [([],[],[(1,.val (jI (ba1.length:Int)))])] [] [] [] [0,1,7,8] (f25_14n2S ba1 0) (ap (Qu (xs:=ba1) (c:=Qa.cells)) an) ?_;obtain ⟨o41,h42,h⟩:=Qc h;cases o41 with
 | exit0 =>
  obtain rfl:=Qd h;exact T.last' (T.bl (i:=0) (by kernel_rfl) (by kernel_rfl) (f25_14n2_ok FUEL ba1 0 h42)) (tds:=[]) (m:=[]) (keep:=[]) (st2:=(f25_14n1E ba1 .norm).2) (by kernel_rfl) an rfl
 | ret v43 =>
  obtain rfl:=Qd h;exact T.last' (T.bl (i:=0) (by kernel_rfl) (by kernel_rfl) (f25_14n2_ok FUEL ba1 0 h42)) (tds:=[]) (m:=[]) (keep:=[4]) (st2:=(f25_14n1E ba1 (.ret v43)).2) (by kernel_rfl) an rfl
inductive f25_14n0O where
 | ret (v48:Int)
def f25_14n0E(a1:List Qa):f25_14n0O→Ex×Tr×Hp
 | .ret v48=>(.ret,mkS [(4,(jI v48))],[])
def f25_14n0S(a1:List Qa):Tr×Hp:=(Qad [(jL 4 Qa.cells a1),(.pl (.fn 14))] 0 .leaf,[])
noncomputable def f25_14n0(a1:List Qa):Option f25_14n0O :=
 (f25_14n1 a1).bind fun o45=>match o45 with
 | .norm=>some (.ret (-1))
 | .ret v47=>some (.ret v47)
theorem f25_14n0_ok(a1:List Qa){o:f25_14n0O}(h:f25_14n0 a1=some o):T Try.prog Try.f25.ntmps 0 c25 (f25_14n0S a1) (·=f25_14n0E a1 o):=by
 unfold f25_14n0 at h;refine rN Qe 1 [j3] [] [] [] [0,1] (f25_14n1S a1) an ?_;obtain ⟨o45,h46,h⟩:=Qc h;cases o45 with
 | norm =>
  refine T.oneN (by kernel_rfl) (f25_14n1_ok a1 h46) (st2:=(f25_14n1E a1 .norm).2) rfl ?_;obtain rfl:=Qd h;exact rE Qe [j3] [] [] [] [4] (.ret,(f25_14n0E a1 (.ret (-1))).2) an rfl
 | ret v47 =>
  obtain rfl:=Qd h;exact T.oneX' (by kernel_rfl) (f25_14n1_ok a1 h46) (tds:=[]) (m:=[]) (keep:=[4]) (st2:=(f25_14n0E a1 (.ret v47)).2) (by kernel_rfl) an rfl rfl
noncomputable def f25_14(a1:List Qa):Option Int:=(f25_14n0 a1).bind fun o=>match o with
 | .ret v48=>some v48
theorem f25_14_ok(a1:List Qa){r:Int}(h:f25_14 a1=some r):Qk Try.prog false 25 [(jL 4 Qa.cells a1),(.pl (.fn 14))] [] (jI r) []:=by
 unfold f25_14 at h;obtain ⟨o,ho,h⟩:=Qc h;cases o with
 | ret v48 =>
  obtain rfl:=Qd h;exact Qk.plain Qe (f:=Try.f25) (c:=c25) (by kernel_rfl) (by kernel_rfl) (by kernel_rfl) (by kernel_rfl) ((f25_14n0_ok a1 ho).mono fun r e=>by subst e; exact ⟨.inl rfl,(jI v48),(jI v48),by kernel_rfl,by kernel_rfl,((Wk.refl _):Wk (jI v48) (jI v48))⟩)

noncomputable def c13:Code:=Try.f13.body.getD .skip



end Go.Proofs.Ytglmageljnlhcaa
namespace Go.Proofs.Ytglmageljnlhcaa
set_option linter.unusedVariables false
set_option linter.unusedSimpArgs false
set_option maxRecDepth 100000
open Go.RowKit





inductive f36r3n0O where
 | ret
def f36r3n0E(a1 a2:Nat)(a3 a4:ByteArray)(a5:List Qa):f36r3n0O→Ex×Tr×Hp
 | .ret=>(.ret,mkS [(6,(.clo 50 [(.bp 1 0),(.bp 2 0),(.bp 3 0)]))],[jR 4 Qa.cells a5,some (.box 22 [(.vw 0 a1 a2)]),some (.box 9 ((cStr a3).map .pl)),some (.box 9 ((cStr a4).map .pl))])
def f36r3n0S(a1 a2:Nat)(a3 a4:ByteArray)(a5:List Qa):Tr×Hp:=(Qad [(.vw 0 a1 a2),(jS a3),(jS a4)] 0 .leaf,[jR 4 Qa.cells a5])
noncomputable def f36r3n0(a1 a2:Nat)(a3 a4:ByteArray)(a5:List Qa):Option f36r3n0O :=
 some .ret
theorem f36r3n0_ok(a1 a2:Nat)(a3 a4:ByteArray)(a5:List Qa){o:f36r3n0O}(h:f36r3n0 a1 a2 a3 a4 a5=some o):T Try.prog Try.f36.ntmps 1 c36 (f36r3n0S a1 a2 a3 a4 a5) (·=f36r3n0E a1 a2 a3 a4 a5 o):=by
 unfold f36r3n0 at h;obtain rfl:=Qd h;exact rE Qe [j3,j3] [] [] [1,2,3] [6] (.ret,(f36r3n0E a1 a2 a3 a4 a5 .ret).2) an rfl
noncomputable def f36r3(a1 a2:Nat)(a3 a4:ByteArray)(a5:List Qa):Option Unit:=(f36r3n0 a1 a2 a3 a4 a5).bind fun o=>match o with
 | .ret=>some ()
theorem f36r3_ok(a1 a2:Nat)(a3 a4:ByteArray)(a5:List Qa){r:Unit}(h:f36r3 a1 a2 a3 a4 a5=some r):Qk Try.prog true 36 [(.vw 0 a1 a2),(jS a3),(jS a4)] [jR 4 Qa.cells a5] (.clo 50 [(.bp 1 0),(.bp 2 0),(.bp 3 0)]) [jR 4 Qa.cells a5,some (.box 22 [(.vw 0 a1 a2)]),some (.box 9 ((cStr a3).map .pl)),some (.box 9 ((cStr a4).map .pl))]:=by
 unfold f36r3 at h;obtain ⟨o,ho,h⟩:=Qc h;cases o with
 | ret =>
  obtain rfl:=Qd h;exact Qk.shared Qe (f:=Try.f36) (c:=c36) (by kernel_rfl) (by kernel_rfl) (by kernel_rfl) ((f36r3n0_ok a1 a2 a3 a4 a5 ho).mono fun r e=>by subst e; exact ⟨.inl rfl,by kernel_rfl,by kernel_rfl⟩)



inductive f24y6n0O where
 | norm (v44:Nat) (v45:Nat) (v46:List ByteArray) (v47:List Way_)
 | ret (v48:List Int)
noncomputable def f24y6n0E(a1:Int)(a2:Qa)(a3 a4:Nat)(a5:Int)(a6:Bool)(a7:List Int)(a8 a9:Nat)(a10:Way_)(a11:List Qa)(a12:List ByteArray)(a13:List Way_):f24y6n0O→Ex×Tr×Hp
 | .norm v44 v45 v46 v47=>(.norm,mkS [],[some (.lp Qp .busy none (kL 73 [(2,(.bp 1 0)),(3,(.bp 2 0)),(4,(.bp 3 0)),(6,(.bp 4 0)),(7,(.bp 5 0)),(8,(.bp 6 0))])),some (.box 22 [(.vw 7 a3 a4)]),some (.box 3 (((cInt .i64) a5).map .pl)),some (.box 38 [(.pl (.sl (bif a6 then Fl.nil else Fl.any) 1 (a7.map (cInt .i64))))]),some (.box 69 [(.own 10)]),some (.box 71 [(.vw 11 v44 v45)]),some (.box 74 ((Way_.cells a10).map .pl)),jR 4 Qa.cells a11,none,none,jR 1 cStr v46,jR 2 Way_.cells v47])
 | .ret v48=>(.ret,mkS [],[some (.lp Qp .busy none (kL 73 [(2,(.bp 1 0)),(3,(.bp 2 0)),(4,(.bp 3 0)),(6,(.bp 4 0)),(7,(.bp 5 0)),(8,(.bp 6 0))])),some (.box 22 [(.vw 7 a3 a4)]),some (.box 3 (((cInt .i64) a5).map .pl)),some (.box 38 [(.own 10)]),some (.box 69 [(.own 8)]),some (.box 71 [(.vw 9 a8 a9)]),some (.box 74 ((Way_.cells a10).map .pl)),jR 4 Qa.cells a11,jR 1 cStr a12,jR 2 Way_.cells a13,some (.row false 1 (v48.map (cInt .i64)))])
noncomputable def f24y6n0S(a1:Int)(a2:Qa)(a3 a4:Nat)(a5:Int)(a6:Bool)(a7:List Int)(a8 a9:Nat)(a10:Way_)(a11:List Qa)(a12:List ByteArray)(a13:List Way_):Tr×Hp:=(mkS [(2,(.bp 1 0)),(3,(.bp 2 0)),(4,(.bp 3 0)),(6,(.bp 4 0)),(7,(.bp 5 0)),(8,(.bp 6 0)),(9,(jI a1)),(10,(.bp 10 0))],[some (.lp Qp .busy none (kL 73 [(2,(.bp 1 0)),(3,(.bp 2 0)),(4,(.bp 3 0)),(6,(.bp 4 0)),(7,(.bp 5 0)),(8,(.bp 6 0))])),some (.box 22 [(.vw 7 a3 a4)]),some (.box 3 (((cInt .i64) a5).map .pl)),some (.box 38 [(.pl (.sl (bif a6 then Fl.nil else Fl.any) 1 (a7.map (cInt .i64))))]),some (.box 69 [(.own 8)]),some (.box 71 [(.vw 9 a8 a9)]),some (.box 74 ((Way_.cells a10).map .pl)),jR 4 Qa.cells a11,jR 1 cStr a12,jR 2 Way_.cells a13,some (.box 26 ((Qa.cells a2).map .pl))])
noncomputable def f24y6n0(a1:Int)(a2:Qa)(a3 a4:Nat)(a5:Int)(a6:Bool)(a7:List Int)(a8 a9:Nat)(a10:Way_)(a11:List Qa)(a12:List ByteArray)(a13:List Way_):Option f24y6n0O :=
 (f37r1 a10.trades).bind fun x17 =>
 req (fit (x17.length+1) 8) <|
 req (decide (a3+a4≤a11.length)) <|
 (at? ((a11.drop a3).take a4) a5).bind fun x25 =>
 bif (seq a2.To x25.From) then
  some (.ret (x17++[a1]))
 else
  (f38 a12 a2.To).bind fun x30 =>
  bif x30 then
   some (.norm a8 a9 a12 a13)
  else
   req (fit (a12.length+1) 16) <|
   (f34r2 a2.To a8 a9 (x17++[a1]) a13).bind fun x42 =>
   some (.norm 0 ((a13.drop a8++[(Way_.mk a2.To (x17++[a1]))]).length) (a12++[a2.To]) (a13.drop a8++[(Way_.mk a2.To (x17++[a1]))]))
theorem f24y6n0_ok(a1:Int)(a2:Qa)(a3 a4:Nat)(a5:Int)(a6:Bool)(a7:List Int)(a8 a9:Nat)(a10:Way_)(a11:List Qa)(a12:List ByteArray)(a13:List Way_){o:f24y6n0O}(h:f24y6n0 a1 a2 a3 a4 a5 a6 a7 a8 a9 a10 a11 a12 a13=some o):T Try.prog Try.f24.ntmps 10 (rfB Qp) (f24y6n0S a1 a2 a3 a4 a5 a6 a7 a8 a9 a10 a11 a12 a13) (·=f24y6n0E a1 a2 a3 a4 a5 a6 a7 a8 a9 a10 a11 a12 a13 o):=by
 unfold f24y6n0 at h;refine T.block' (i:=3) (by kernel_rfl) ?_;obtain ⟨x17,h18,h⟩:=Qc h;obtain ⟨h19,h⟩:=Qm h;obtain ⟨h24,h⟩:=Qm h;obtain ⟨x25,h26,h⟩:=Qc h;rcases Qf h with ⟨h27,h⟩|⟨h27,h⟩
 ·obtain rfl:=Qd h;exact rK Qe 2 [([],[(2,.call (.own 11) (jN 11 [some (.row false 1 (x17.map (cInt .i64)))])),(5,.fits)],[(5,.row 13 ((x17++[a1]).map (cInt .i64)))]),([],[(4,.at_ (Int.toNat a5)),(6,.idx 0 (Qa.cells x25))],[]),j3] [some true] [] [13] [] .ret ((f24y6n0E a1 a2 a3 a4 a5 a6 a7 a8 a9 a10 a11 a12 a13 (.ret (x17++[a1]))).2) (ap (fit_map (te:=ti3) (xs:=x17) (n:=1) (c:=(cInt .i64)) h19 rfl) (ap (app_cv (xs:=x17) (ys:=[a1]) (c:=(cInt .i64))) (ap (Qk.rn 11 [] (f37r1_ok a10.trades h18)) (ap (Qg h26).1 (ap (vw_lt h26) (ap (Qae (c:=Qa.cells) h24) (ap (Qo Qa.cells (vw_at h26)) (ap h27 an)))))))) rfl
 ·obtain ⟨x30,h31,h⟩:=Qc h;rcases Qf h with ⟨h40,h⟩|⟨h40,h⟩
  ·obtain rfl:=Qd h;exact rE Qe [([],[(2,.call (.own 11) (jN 11 [some (.row false 1 (x17.map (cInt .i64)))])),(5,.fits)],[(5,.row 13 ((x17++[a1]).map (cInt .i64)))]),([],[(4,.at_ (Int.toNat a5)),(6,.idx 0 (Qa.cells x25))],[]),([],[jH 3 (jB x30)],[])] [some false,some false] [.movC 4 0,.movCv 5 0] [15,16] [] (.norm,(f24y6n0E a1 a2 a3 a4 a5 a6 a7 a8 a9 a10 a11 a12 a13 (.norm a8 a9 a12 a13)).2) (ap (fit_map (te:=ti3) (xs:=x17) (n:=1) (c:=(cInt .i64)) h19 rfl) (ap (app_cv (xs:=x17) (ys:=[a1]) (c:=(cInt .i64))) (ap (Qk.rn 11 [] (f37r1_ok a10.trades h18)) (ap (Qg h26).1 (ap (vw_lt h26) (ap (Qae (c:=Qa.cells) h24) (ap (Qo Qa.cells (vw_at h26)) (ap h27 (ap (f38_ok a12 a2.To h31) (ap (Qab h40) an)))))))))) rfl
  ·obtain ⟨h41,h⟩:=Qm h;obtain ⟨x42,h43,h⟩:=Qc h;obtain rfl:=Qd h
   exact rE Qe [([],[(2,.call (.own 11) (jN 11 [some (.row false 1 (x17.map (cInt .i64)))])),(5,.fits)],[(5,.row 13 ((x17++[a1]).map (cInt .i64)))]),([],[(4,.at_ (Int.toNat a5)),(6,.idx 0 (Qa.cells x25))],[]),([],[jH 3 (jB x30)],[]),([],[(4,.fits)],[(4,.row 16 ((a12++[a2.To]).map cStr))]),([],[(4,.call (.tup []) (jN 5 [some (.box 71 [(.own 17)]),none,none,none,none,none,none,none,some (.row true 1 ((x17++[a1]).map (cInt .i64))),none,none,none,some (.row false 2 ((a13.drop a8++[(Way_.mk a2.To (x17++[a1]))]).map Way_.cells))]))],[])] [some false,some true] [.ovwC 5 0 ((a13.drop a8++[(Way_.mk a2.To (x17++[a1]))]).length)] [16,17] [] (.norm,(f24y6n0E a1 a2 a3 a4 a5 a6 a7 a8 a9 a10 a11 a12 a13 (.norm 0 ((a13.drop a8++[(Way_.mk a2.To (x17++[a1]))]).length) (a12++[a2.To]) (a13.drop a8++[(Way_.mk a2.To (x17++[a1]))]))).2) (ap (fit_map (te:=ti3) (xs:=x17) (n:=1) (c:=(cInt .i64)) h19 rfl) (ap (app_cv (xs:=x17) (ys:=[a1]) (c:=(cInt .i64))) (ap (Qk.rn 11 [] (f37r1_ok a10.trades h18)) (ap (Qg h26).1 (ap (vw_lt h26) (ap (Qae (c:=Qa.cells) h24) (ap (Qo Qa.cells (vw_at h26)) (ap h27 (ap (f38_ok a12 a2.To h31) (ap (Qbc h40) (ap (fit_map (te:=ti9) (xs:=a12) (n:=1) (c:=cStr) h41 rfl) (ap (app_cv (xs:=a12) (ys:=[a2.To]) (c:=cStr)) (ap (Qk.rn 17 [5,13,9] (f34r2_ok a2.To a8 a9 (x17++[a1]) a13 h43)) (ap (len_ov (xs:=(a13.drop a8++[(Way_.mk a2.To (x17++[a1]))])) (c:=Way_.cells)) an)))))))))))))) rfl
theorem f24y6_norm(a1:Int)(a2:Qa)(a3 a4:Nat)(a5:Int)(a6:Bool)(a7:List Int)(a8 a9:Nat)(a10:Way_)(a11:List Qa)(a12:List ByteArray)(a13:List Way_){v44 v45:Nat}{v46:List ByteArray}{v47:List Way_}(h:f24y6n0 a1 a2 a3 a4 a5 a6 a7 a8 a9 a10 a11 a12 a13=some (.norm v44 v45 v46 v47)):CallY Try.prog [(jI a1),(jA Qa.cells a2)] 0 [some (.lp Qp .ready none (kL 73 [(2,(.bp 1 0)),(3,(.bp 2 0)),(4,(.bp 3 0)),(6,(.bp 4 0)),(7,(.bp 5 0)),(8,(.bp 6 0))])),some (.box 22 [(.vw 7 a3 a4)]),some (.box 3 (((cInt .i64) a5).map .pl)),some (.box 38 [(.pl (.sl (bif a6 then Fl.nil else Fl.any) 1 (a7.map (cInt .i64))))]),some (.box 69 [(.own 8)]),some (.box 71 [(.vw 9 a8 a9)]),some (.box 74 ((Way_.cells a10).map .pl)),jR 4 Qa.cells a11,jR 1 cStr a12,jR 2 Way_.cells a13] true [some (.lp Qp .ready none (kL 73 [(2,(.bp 1 0)),(3,(.bp 2 0)),(4,(.bp 3 0)),(6,(.bp 4 0)),(7,(.bp 5 0)),(8,(.bp 6 0))])),some (.box 22 [(.vw 7 a3 a4)]),some (.box 3 (((cInt .i64) a5).map .pl)),some (.box 38 [(.pl (.sl (bif a6 then Fl.nil else Fl.any) 1 (a7.map (cInt .i64))))]),some (.box 69 [(.own 10)]),some (.box 71 [(.vw 11 v44 v45)]),some (.box 74 ((Way_.cells a10).map .pl)),jR 4 Qa.cells a11,none,none,jR 1 cStr v46,jR 2 Way_.cells v47] :=
 CallY.mk (c:=Qp) (n:=Try.f24.ntmps) (base:=10) (cs:=(kL 73 [(2,(.bp 1 0)),(3,(.bp 2 0)),(4,(.bp 3 0)),(6,(.bp 4 0)),(7,(.bp 5 0)),(8,(.bp 6 0))])) (cs2:=(kL 73 [(2,(.bp 1 0)),(3,(.bp 2 0)),(4,(.bp 3 0)),(6,(.bp 4 0)),(7,(.bp 5 0)),(8,(.bp 6 0))])) (cs3:=(kL 73 [(2,(.bp 1 0)),(3,(.bp 2 0)),(4,(.bp 3 0)),(6,(.bp 4 0)),(7,(.bp 5 0)),(8,(.bp 6 0))])) (st2:=(mkS [(2,(.bp 1 0)),(3,(.bp 2 0)),(4,(.bp 3 0)),(6,(.bp 4 0)),(7,(.bp 5 0)),(8,(.bp 6 0)),(9,(jI a1)),(10,(.bp 10 0))],[some (.lp Qp .ready none (kL 73 [(2,(.bp 1 0)),(3,(.bp 2 0)),(4,(.bp 3 0)),(6,(.bp 4 0)),(7,(.bp 5 0)),(8,(.bp 6 0))])),some (.box 22 [(.vw 7 a3 a4)]),some (.box 3 (((cInt .i64) a5).map .pl)),some (.box 38 [(.pl (.sl (bif a6 then Fl.nil else Fl.any) 1 (a7.map (cInt .i64))))]),some (.box 69 [(.own 8)]),some (.box 71 [(.vw 9 a8 a9)]),some (.box 74 ((Way_.cells a10).map .pl)),jR 4 Qa.cells a11,jR 1 cStr a12,jR 2 Way_.cells a13,some (.box 26 ((Qa.cells a2).map .pl))])) (e:=(f24y6n0E a1 a2 a3 a4 a5 a6 a7 a8 a9 a10 a11 a12 a13 (.norm v44 v45 v46 v47))) (pend:=none)
  (run_ok (P:=Try.prog) (C:=cfg) Qe (c:=rfA Qp) (rs:=[j3,j3]) (ps:=[]) (tds:=[]) (m:=[10]) (keep:=[2,3,4,6,7,8,9,10]) (by kernel_rfl) an)
  (f24y6n0_ok a1 a2 a3 a4 a5 a6 a7 a8 a9 a10 a11 a12 a13 h)
theorem f24y6_ret(a1:Int)(a2:Qa)(a3 a4:Nat)(a5:Int)(a6:Bool)(a7:List Int)(a8 a9:Nat)(a10:Way_)(a11:List Qa)(a12:List ByteArray)(a13:List Way_){v48:List Int}(h:f24y6n0 a1 a2 a3 a4 a5 a6 a7 a8 a9 a10 a11 a12 a13=some (.ret v48)):CallY Try.prog [(jI a1),(jA Qa.cells a2)] 0 [some (.lp Qp .ready none (kL 73 [(2,(.bp 1 0)),(3,(.bp 2 0)),(4,(.bp 3 0)),(6,(.bp 4 0)),(7,(.bp 5 0)),(8,(.bp 6 0))])),some (.box 22 [(.vw 7 a3 a4)]),some (.box 3 (((cInt .i64) a5).map .pl)),some (.box 38 [(.pl (.sl (bif a6 then Fl.nil else Fl.any) 1 (a7.map (cInt .i64))))]),some (.box 69 [(.own 8)]),some (.box 71 [(.vw 9 a8 a9)]),some (.box 74 ((Way_.cells a10).map .pl)),jR 4 Qa.cells a11,jR 1 cStr a12,jR 2 Way_.cells a13] false [some (.lp Qp .done (some (.ret)) (kL 73 [(2,(.bp 1 0)),(3,(.bp 2 0)),(4,(.bp 3 0)),(6,(.bp 4 0)),(7,(.bp 5 0)),(8,(.bp 6 0))])),some (.box 22 [(.vw 7 a3 a4)]),some (.box 3 (((cInt .i64) a5).map .pl)),some (.box 38 [(.own 10)]),some (.box 69 [(.own 8)]),some (.box 71 [(.vw 9 a8 a9)]),some (.box 74 ((Way_.cells a10).map .pl)),jR 4 Qa.cells a11,jR 1 cStr a12,jR 2 Way_.cells a13,some (.row false 1 (v48.map (cInt .i64)))] :=
 CallY.mk (c:=Qp) (n:=Try.f24.ntmps) (base:=10) (cs:=(kL 73 [(2,(.bp 1 0)),(3,(.bp 2 0)),(4,(.bp 3 0)),(6,(.bp 4 0)),(7,(.bp 5 0)),(8,(.bp 6 0))])) (cs2:=(kL 73 [(2,(.bp 1 0)),(3,(.bp 2 0)),(4,(.bp 3 0)),(6,(.bp 4 0)),(7,(.bp 5 0)),(8,(.bp 6 0))])) (cs3:=(kL 73 [(2,(.bp 1 0)),(3,(.bp 2 0)),(4,(.bp 3 0)),(6,(.bp 4 0)),(7,(.bp 5 0)),(8,(.bp 6 0))])) (st2:=(mkS [(2,(.bp 1 0)),(3,(.bp 2 0)),(4,(.bp 3 0)),(6,(.bp 4 0)),(7,(.bp 5 0)),(8,(.bp 6 0)),(9,(jI a1)),(10,(.bp 10 0))],[some (.lp Qp .ready none (kL 73 [(2,(.bp 1 0)),(3,(.bp 2 0)),(4,(.bp 3 0)),(6,(.bp 4 0)),(7,(.bp 5 0)),(8,(.bp 6 0))])),some (.box 22 [(.vw 7 a3 a4)]),some (.box 3 (((cInt .i64) a5).map .pl)),some (.box 38 [(.pl (.sl (bif a6 then Fl.nil else Fl.any) 1 (a7.map (cInt .i64))))]),some (.box 69 [(.own 8)]),some (.box 71 [(.vw 9 a8 a9)]),some (.box 74 ((Way_.cells a10).map .pl)),jR 4 Qa.cells a11,jR 1 cStr a12,jR 2 Way_.cells a13,some (.box 26 ((Qa.cells a2).map .pl))])) (e:=(f24y6n0E a1 a2 a3 a4 a5 a6 a7 a8 a9 a10 a11 a12 a13 (.ret v48))) (pend:=some .ret)
  (run_ok (P:=Try.prog) (C:=cfg) Qe (c:=rfA Qp) (rs:=[j3,j3]) (ps:=[]) (tds:=[]) (m:=[10]) (keep:=[2,3,4,6,7,8,9,10]) (by kernel_rfl) an)
  (f24y6n0_ok a1 a2 a3 a4 a5 a6 a7 a8 a9 a10 a11 a12 a13 h)
end Go.Proofs.Ytglmageljnlhcaa
