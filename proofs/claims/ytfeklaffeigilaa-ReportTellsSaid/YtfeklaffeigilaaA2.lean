/- Several texts in one. No condition. -/
import Derived.Test.YtfeklaffeigilaaProg
import Derived.Test.YtfeklaffeigilaaTU
import Derived.Test.YtfeklaffeigilaaTy
import Derived.Test.YtfeklaffeigilaaTV
namespace Go.Proofs.Ytfeklaffeigilaa
open Go.Shelf
def so_ren:Go.Shelf.Ren:=⟨fun | 6=>23 | 14=>34 | 15=>35 | 20=>51 | 21=>52 | 22=>53 | 23=>54 | 24=>55 | 25=>56 | 26=>57 | 27=>58 | 28=>59 | 29=>60 | 46=>70 | 47=>71 | 48=>72 | 49=>73 | 50=>74 | 57=>77 | n=>n,fun | 22=>29 | 24=>50 | 25=>66 | 39=>80 | 45=>97 | 46=>98 | 50=>70 | 53=>104 | 55=>106 | 66=>111 | 70=>115 | 76=>119 | 77=>57 | n=>n,fun n=>n⟩
theorem so_lays:SlLaysF0.n6 Try.prog so_ren:={
 mixed:=by kernel_rfl,
 f6:=⟨Try.f23.name,by kernel_rfl,Try.func23.trans (congrArg some (by kernel_rfl))⟩,
 f14:=⟨Try.f34.name,by kernel_rfl,Try.func34.trans (congrArg some (by kernel_rfl))⟩,
 f15:=Try.func35.trans (congrArg some (by kernel_rfl)),
 f20:=⟨Try.f51.name,by kernel_rfl,Try.func51.trans (congrArg some (by kernel_rfl))⟩,
 f21:=⟨Try.f52.name,by kernel_rfl,Try.func52.trans (congrArg some (by kernel_rfl))⟩,
 f22:=⟨Try.f53.name,by kernel_rfl,Try.func53.trans (congrArg some (by kernel_rfl))⟩,
 f23:=⟨Try.f54.name,by kernel_rfl,Try.func54.trans (congrArg some (by kernel_rfl))⟩,
 f24:=⟨Try.f55.name,by kernel_rfl,Try.func55.trans (congrArg some (by kernel_rfl))⟩,
 f25:=⟨Try.f56.name,by kernel_rfl,Try.func56.trans (congrArg some (by kernel_rfl))⟩,
 f26:=⟨Try.f57.name,by kernel_rfl,Try.func57.trans (congrArg some (by kernel_rfl))⟩,
 f27:=⟨Try.f58.name,by kernel_rfl,Try.func58.trans (congrArg some (by kernel_rfl))⟩,
 f28:=Try.func59.trans (congrArg some (by kernel_rfl)),
 f29:=Try.func60.trans (congrArg some (by kernel_rfl)),
 f46:=⟨Try.f70.name,by kernel_rfl,Try.func70.trans (congrArg some (by kernel_rfl))⟩,
 f47:=Try.func71.trans (congrArg some (by kernel_rfl)),
 f48:=Try.func72.trans (congrArg some (by kernel_rfl)),
 f49:=⟨Try.f73.name,by kernel_rfl,Try.func73.trans (congrArg some (by kernel_rfl))⟩,
 f50:=⟨Try.f74.name,by kernel_rfl,Try.func74.trans (congrArg some (by kernel_rfl))⟩,
 f57:=⟨Try.f77.name,by kernel_rfl,Try.func77.trans (congrArg some (by kernel_rfl))⟩,
 t0:=Try.underlying0,
 a0:=Try.isAgg0,
 z0:=Try.sizeOf0,
 v0:=Try.zeroValue0,
 t3:=Try.underlying3,
 a3:=Try.isAgg3,
 z3:=Try.sizeOf3,
 v3:=Try.zeroValue3,
 t4:=Try.underlying4,
 a4:=Try.isAgg4,
 z4:=Try.sizeOf4,
 v4:=Try.zeroValue4,
 t5:=Try.underlying5,
 a5:=Try.isAgg5,
 z5:=Try.sizeOf5,
 v5:=Try.zeroValue5,
 t9:=Try.underlying9,
 a9:=Try.isAgg9,
 z9:=Try.sizeOf9,
 v9:=Try.zeroValue9,
 t22:=Try.underlying29,
 a22:=Try.isAgg29,
 z22:=Try.sizeOf29,
 v22:=Try.zeroValue29,
 t25:=Try.underlying66,
 a25:=Try.isAgg66,
 z25:=Try.sizeOf66,
 v25:=Try.zeroValue66,
 t39:=Try.underlying80,
 a39:=Try.isAgg80,
 z39:=Try.sizeOf80,
 v39:=Try.zeroValue80,
 t45:=Try.underlying97,
 a45:=Try.isAgg97,
 z45:=Try.sizeOf97,
 v45:=Try.zeroValue97,
 t46:=Try.underlying98,
 a46:=Try.isAgg98,
 z46:=Try.sizeOf98,
 v46:=Try.zeroValue98,
 t50:=Try.underlying70,
 a50:=Try.isAgg70,
 z50:=Try.sizeOf70,
 v50:=Try.zeroValue70,
 t53:=Try.underlying104,
 a53:=Try.isAgg104,
 z53:=Try.sizeOf104,
 v53:=Try.zeroValue104,
 t55:=Try.underlying106,
 a55:=Try.isAgg106,
 z55:=Try.sizeOf106,
 v55:=Try.zeroValue106,
 t66:=Try.underlying111,
 a66:=Try.isAgg111,
 z66:=Try.sizeOf111,
 v66:=Try.zeroValue111,
 t70:=Try.underlying115,
 a70:=Try.isAgg115,
 z70:=Try.sizeOf115,
 v70:=Try.zeroValue115,
 t76:=Try.underlying119,
 a76:=Try.isAgg119,
 z76:=Try.sizeOf119,
 v76:=Try.zeroValue119,
 t77:=Try.underlying57,
 a77:=Try.isAgg57,
 z77:=Try.sizeOf57,
 v77:=Try.zeroValue57 }
theorem so_agg:∀w,(isAgg (so_ren.t 24)).run Try.prog w = .ok true w:=Try.isAgg50
theorem so_size:∀w,(Go.sizeOf (so_ren.t 24)).run Try.prog w = .ok 4 w:=Try.sizeOf50
end Go.Proofs.Ytfeklaffeigilaa
namespace Go.Proofs.Ytfeklaffeigilaa
set_option linter.unusedVariables false
set_option linter.unusedSimpArgs false
set_option maxRecDepth 100000
open Go.RowKit
structure Qc where
 Account:ByteArray
 Ccy:ByteArray
 Amount:Int
def Qc.cells(x:Qc):List PV:=[.str x.Account,.str x.Ccy,.int .i64 x.Amount]
theorem Qc.cells_eq(x y:Qc):(Qc.cells x=Qc.cells y)=(x=y):=propext ⟨fun h=>by
 cases x; cases y
 simp_all [Qc.cells],fun h=>by rw [h]⟩
theorem Qc.map_eq(x y:List Qc):(x.map Qc.cells=y.map Qc.cells)=(x=y):=map_eq_of fun a b h=>by rwa [Qc.cells_eq] at h
structure Qa where
 Day:Int
 Text:ByteArray
 Lines:List Qc
def Qa.cells(x:Qa):List PV:=[.int .i64 x.Day,.str x.Text,.sl .any 3 (x.Lines.map Qc.cells)]
theorem Qa.cells_eq(x y:Qa):(Qa.cells x=Qa.cells y)=(x=y):=propext ⟨fun h=>by
 cases x; cases y
 simp_all [Qa.cells,Qc.cells,Qc.cells_eq,Qc.map_eq],fun h=>by rw [h]⟩
theorem Qa.map_eq(x y:List Qa):(x.map Qa.cells=y.map Qa.cells)=(x=y):=map_eq_of fun a b h=>by rwa [Qa.cells_eq] at h
structure Qj where
 Records:List Qa
def Qj.cells(x:Qj):List PV:=[.sl .any 3 (x.Records.map Qa.cells)]
theorem Qj.cells_eq(x y:Qj):(Qj.cells x=Qj.cells y)=(x=y):=propext ⟨fun h=>by
 cases x; cases y
 simp_all [Qj.cells,Qa.cells,Qa.cells_eq,Qa.map_eq],fun h=>by rw [h]⟩
theorem Qj.map_eq(x y:List Qj):(x.map Qj.cells=y.map Qj.cells)=(x=y):=map_eq_of fun a b h=>by rwa [Qj.cells_eq] at h
structure Qb where
 Account:ByteArray
 Ccy:ByteArray
 In:Int
 Out:Int
def Qb.cells(x:Qb):List PV:=[.str x.Account,.str x.Ccy,.int .i64 x.In,.int .i64 x.Out]
theorem Qb.cells_eq(x y:Qb):(Qb.cells x=Qb.cells y)=(x=y):=propext ⟨fun h=>by
 cases x; cases y
 simp_all [Qb.cells],fun h=>by rw [h]⟩
theorem Qb.map_eq(x y:List Qb):(x.map Qb.cells=y.map Qb.cells)=(x=y):=map_eq_of fun a b h=>by rwa [Qb.cells_eq] at h
structure Qm where
 From:Int
 To:Int
 Known:Int
 Rows:List Qb
def Qm.cells(x:Qm):List PV:=[.int .i64 x.From,.int .i64 x.To,.int .i64 x.Known,.sl .any 4 (x.Rows.map Qb.cells)]
theorem Qm.cells_eq(x y:Qm):(Qm.cells x=Qm.cells y)=(x=y):=propext ⟨fun h=>by
 cases x; cases y
 simp_all [Qm.cells,Qb.cells,Qb.cells_eq,Qb.map_eq],fun h=>by rw [h]⟩
theorem Qm.map_eq(x y:List Qm):(x.map Qm.cells=y.map Qm.cells)=(x=y):=map_eq_of fun a b h=>by rwa [Qm.cells_eq] at h
structure Qh where
 name:ByteArray
 ccy:ByteArray
def Qh.cells(x:Qh):List PV:=[.str x.name,.str x.ccy]
theorem Qh.cells_eq(x y:Qh):(Qh.cells x=Qh.cells y)=(x=y):=propext ⟨fun h=>by
 cases x; cases y
 simp_all [Qh.cells],fun h=>by rw [h]⟩
theorem Qh.map_eq(x y:List Qh):(x.map Qh.cells=y.map Qh.cells)=(x=y):=map_eq_of fun a b h=>by rwa [Qh.cells_eq] at h
structure Key_ where
 account:ByteArray
 ccy:ByteArray
def Key_.cells(x:Key_):List PV:=[.str x.account,.str x.ccy]
theorem Key_.cells_eq(x y:Key_):(Key_.cells x=Key_.cells y)=(x=y):=propext ⟨fun h=>by
 cases x; cases y
 simp_all [Key_.cells],fun h=>by rw [h]⟩
theorem Key_.map_eq(x y:List Key_):(x.map Key_.cells=y.map Key_.cells)=(x=y):=map_eq_of fun a b h=>by rwa [Key_.cells_eq] at h
structure Qae where
 e0:Int
 e1:Int
 e2:Int
 e3:Int
 e4:Int
 e5:Int
 e6:Int
 e7:Int
 e8:Int
 e9:Int
 e10:Int
 e11:Int
 e12:Int
def Qae.cells(x:Qae):List PV:=[.int .i64 x.e0,.int .i64 x.e1,.int .i64 x.e2,.int .i64 x.e3,.int .i64 x.e4,.int .i64 x.e5,.int .i64 x.e6,.int .i64 x.e7,.int .i64 x.e8,.int .i64 x.e9,.int .i64 x.e10,.int .i64 x.e11,.int .i64 x.e12]
theorem Qae.cells_eq(x y:Qae):(Qae.cells x=Qae.cells y)=(x=y):=propext ⟨fun h=>by
 cases x; cases y
 simp_all [Qae.cells],fun h=>by rw [h]⟩
theorem Qae.map_eq(x y:List Qae):(x.map Qae.cells=y.map Qae.cells)=(x=y):=map_eq_of fun a b h=>by rwa [Qae.cells_eq] at h
structure Qac where
 e0:Int
 e1:Int
 e2:Int
def Qac.cells(x:Qac):List PV:=[.int .i64 x.e0,.int .i64 x.e1,.int .i64 x.e2]
theorem Qac.cells_eq(x y:Qac):(Qac.cells x=Qac.cells y)=(x=y):=propext ⟨fun h=>by
 cases x; cases y
 simp_all [Qac.cells],fun h=>by rw [h]⟩
theorem Qac.map_eq(x y:List Qac):(x.map Qac.cells=y.map Qac.cells)=(x=y):=map_eq_of fun a b h=>by rwa [Qac.cells_eq] at h
def Qh.eqb(x y:Qh):Bool:=seq x.name y.name&&seq x.ccy y.ccy
theorem Qh.eqb_ok(x y:Qh):eqV cfg.ty 95 (.agg (Qh.cells x)) (.agg (Qh.cells y))=some (Qh.eqb x y):=by
 unfold Qh.eqb;have e:eqV cfg.ty 95 (.agg (Qh.cells x)) (.agg (Qh.cells y))=(match some (decide (x.name.data.toList=y.name.data.toList)) with | some true=>(match some (decide (x.ccy.data.toList=y.ccy.data.toList)) with | some true=>(some true) | some false=>some false | none=>none) | some false=>some false | none=>none):=by kernel_rfl
 rw [e]
 try simp only [seq]
 cases decide (x.name.data.toList=y.name.data.toList)<;>cases decide (x.ccy.data.toList=y.ccy.data.toList)<;>rfl
def Key_.eqb(x y:Key_):Bool:=seq x.account y.account&&seq x.ccy y.ccy
theorem Key_.eqb_ok(x y:Key_):eqV cfg.ty 64 (.agg (Key_.cells x)) (.agg (Key_.cells y))=some (Key_.eqb x y):=by
 unfold Key_.eqb;have e:eqV cfg.ty 64 (.agg (Key_.cells x)) (.agg (Key_.cells y))=(match some (decide (x.account.data.toList=y.account.data.toList)) with | some true=>(match some (decide (x.ccy.data.toList=y.ccy.data.toList)) with | some true=>(some true) | some false=>some false | none=>none) | some false=>some false | none=>none):=by kernel_rfl
 rw [e]
 try simp only [seq]
 cases decide (x.account.data.toList=y.account.data.toList)<;>cases decide (x.ccy.data.toList=y.ccy.data.toList)<;>rfl
def Qb.eqb(x y:Qb):Bool:=seq x.Account y.Account&&seq x.Ccy y.Ccy&&decide (x.In=y.In)&&decide (x.Out=y.Out)
theorem Qb.eqb_ok(x y:Qb):eqV cfg.ty 50 (.agg (Qb.cells x)) (.agg (Qb.cells y))=some (Qb.eqb x y):=by
 unfold Qb.eqb;have e:eqV cfg.ty 50 (.agg (Qb.cells x)) (.agg (Qb.cells y))=(match some (decide (x.Account.data.toList=y.Account.data.toList)) with | some true=>(match some (decide (x.Ccy.data.toList=y.Ccy.data.toList)) with | some true=>(match some (decide (x.In=y.In)) with | some true=>(match some (decide (x.Out=y.Out)) with | some true=>(some true) | some false=>some false | none=>none) | some false=>some false | none=>none) | some false=>some false | none=>none) | some false=>some false | none=>none):=by kernel_rfl
 rw [e]
 try simp only [seq]
 cases decide (x.Account.data.toList=y.Account.data.toList)<;>cases decide (x.Ccy.data.toList=y.Ccy.data.toList)<;>cases decide (x.In=y.In)<;>cases decide (x.Out=y.Out)<;>rfl
theorem key_9:KeyOK cfg 9 pStr seq:=key_str (fun _ _=>by kernel_rfl) (fun _=>by kernel_rfl)
theorem Qh.eqb_eq{x y:Qh}(h:Qh.eqb x y=true):x=y:=by
 cases x; cases y;simp only [Qh.eqb,Bool.and_eq_true,decide_eq_true_eq,beq_iff_eq] at h;simp only [Qh.mk.injEq];refine ⟨?_,?_⟩<;>first | exact seq_eq' (by simp_all) | simp_all
theorem key_95:KeyOK cfg 95 (pAgg Qh.cells) Qh.eqb:=⟨fun a b=>Qh.eqb_ok a b,fun _=>by kernel_rfl,fun a b h=>Qh.eqb_eq h,fun a=>by simp [pAgg,Qh.cells,eqC,eqCL,eqC1,kindEq]⟩
theorem Key_.eqb_eq{x y:Key_}(h:Key_.eqb x y=true):x=y:=by
 cases x; cases y;simp only [Key_.eqb,Bool.and_eq_true,decide_eq_true_eq,beq_iff_eq] at h;simp only [Key_.mk.injEq];refine ⟨?_,?_⟩<;>first | exact seq_eq' (by simp_all) | simp_all
theorem key_64:KeyOK cfg 64 (pAgg Key_.cells) Key_.eqb:=⟨fun a b=>Key_.eqb_ok a b,fun _=>by kernel_rfl,fun a b h=>Key_.eqb_eq h,fun a=>by simp [pAgg,Key_.cells,eqC,eqCL,eqC1,kindEq]⟩
def Qal:ByteArray:=⟨#[102,111,114,32]⟩
def Qav:ByteArray:=⟨#[]⟩
def ti50:TI:=⟨.struct [(9,0),(9,1),(3,2),(3,3)],4,48,[.str ByteArray.empty,.str ByteArray.empty,.int .i64 0,.int .i64 0]⟩
def ti3:TI:=⟨.int .i64,1,8,[.int .i64 0]⟩
def ti9:TI:=⟨.str,1,16,[.str ByteArray.empty]⟩
def ti45:TI:=⟨.struct [(9,0),(9,1),(3,2)],3,40,[.str ByteArray.empty,.str ByteArray.empty,.int .i64 0]⟩
def ti25:TI:=⟨.sl 45,1,24,[.sl .nil 0 []]⟩
def ti27:TI:=⟨.struct [(3,0),(9,1),(25,2)],3,48,[.int .i64 0,.str ByteArray.empty,.sl .nil 0 []]⟩
def ti22:TI:=⟨.sl 27,1,24,[.sl .nil 0 []]⟩
def ti24:TI:=⟨.struct [(22,0)],1,24,[.sl .nil 0 []]⟩
def Qc.ok(x:Qc):Prop:=(fun s:ByteArray=>s.size≤maxLen) x.Account∧(fun s:ByteArray=>s.size≤maxLen) x.Ccy∧(okInt .i64) x.Amount∧True
def Qa.ok(x:Qa):Prop:=(okInt .i64) x.Day∧(fun s:ByteArray=>s.size≤maxLen) x.Text∧(fun l:List Qc=>l.length≤maxLen∧∀x∈l,Qc.ok x) x.Lines∧True
def Qj.ok(x:Qj):Prop:=(fun l:List Qa=>l.length≤maxLen∧∀x∈l,Qa.ok x) x.Records∧True
def Qb.ok(x:Qb):Prop:=(fun s:ByteArray=>s.size≤maxLen) x.Account∧(fun s:ByteArray=>s.size≤maxLen) x.Ccy∧(okInt .i64) x.In∧(okInt .i64) x.Out∧True
def Qm.ok(x:Qm):Prop:=(okInt .i64) x.From∧(okInt .i64) x.To∧(okInt .i64) x.Known∧(fun l:List Qb=>l.length≤maxLen∧∀x∈l,Qb.ok x) x.Rows∧True
def Qh.ok(x:Qh):Prop:=(fun s:ByteArray=>s.size≤maxLen) x.name∧(fun s:ByteArray=>s.size≤maxLen) x.ccy∧True
def Key_.ok(x:Key_):Prop:=(fun s:ByteArray=>s.size≤maxLen) x.account∧(fun s:ByteArray=>s.size≤maxLen) x.ccy∧True
def Qae.ok(x:Qae):Prop:=(okInt .i64) x.e0∧(okInt .i64) x.e1∧(okInt .i64) x.e2∧(okInt .i64) x.e3∧(okInt .i64) x.e4∧(okInt .i64) x.e5∧(okInt .i64) x.e6∧(okInt .i64) x.e7∧(okInt .i64) x.e8∧(okInt .i64) x.e9∧(okInt .i64) x.e10∧(okInt .i64) x.e11∧(okInt .i64) x.e12∧True
def Qac.ok(x:Qac):Prop:=(okInt .i64) x.e0∧(okInt .i64) x.e1∧(okInt .i64) x.e2∧True
theorem of_3{d:Nat}{ps:List PV}(h:WT cfg.ty (d+1) 3 ps):∃x:Int,ps=(cInt .i64) x∧(okInt .i64) x:=by
 obtain ⟨n,rfl,k⟩:=wt_int (ti:=ti3) (by kernel_rfl) rfl h;exact ⟨n,rfl,k⟩
theorem of_9{d:Nat}{ps:List PV}(h:WT cfg.ty (d+1) 9 ps):∃x:ByteArray,ps=cStr x∧(fun s:ByteArray=>s.size≤maxLen) x:=by
 obtain ⟨n,rfl,k⟩:=wt_str (ti:=ti9) (by kernel_rfl) rfl h;exact ⟨n,rfl,k⟩
theorem of_45{d:Nat}{ps:List PV}(h:WT cfg.ty (d+2) 45 ps):∃x:Qc,ps=Qc.cells x∧Qc.ok x:=by
 have g:=wt_struct (ti:=ti45) (by kernel_rfl) rfl h
 clear h
 obtain ⟨_,_,_,rfl,_,_,h0,g0⟩:=g;obtain ⟨x0,rfl,k0⟩:=of_9 h0;obtain ⟨_,_,_,rfl,_,_,h1,g1⟩:=g0;obtain ⟨x1,rfl,k1⟩:=of_9 h1;obtain ⟨_,_,_,rfl,_,_,h2,g2⟩:=g1;obtain ⟨x2,rfl,k2⟩:=of_3 h2;have e:_=[]:=g2;subst e;exact ⟨⟨x0,x1,x2⟩,rfl,k0,k1,k2,trivial⟩
theorem of_25{d:Nat}{ps:List PV}(h:WT cfg.ty (d+3) 25 ps):∃x:List Qc,ps=(cLst 3 Qc.cells) x∧(fun l:List Qc=>l.length≤maxLen∧∀x∈l,Qc.ok x) x:=by
 obtain ⟨te,es,e1,rfl,hl,hh⟩:=wt_sl (ti:=ti25) (by kernel_rfl) rfl h;obtain rfl:te=ti45:=Qd (e1.symm.trans (by kernel_rfl:cfg.ty 45=some ti45));obtain ⟨xs,rfl,hx⟩:=list_of (c:=Qc.cells) (ok:=Qc.ok) (fun ps h=>of_45 h) es (fun c hc=>(hh c hc).2);exact ⟨xs,rfl,by simpa using hl,hx⟩
theorem of_27{d:Nat}{ps:List PV}(h:WT cfg.ty (d+4) 27 ps):∃x:Qa,ps=Qa.cells x∧Qa.ok x:=by
 have g:=wt_struct (ti:=ti27) (by kernel_rfl) rfl h
 clear h
 obtain ⟨_,_,_,rfl,_,_,h0,g0⟩:=g;obtain ⟨x0,rfl,k0⟩:=of_3 h0;obtain ⟨_,_,_,rfl,_,_,h1,g1⟩:=g0;obtain ⟨x1,rfl,k1⟩:=of_9 h1;obtain ⟨_,_,_,rfl,_,_,h2,g2⟩:=g1;obtain ⟨x2,rfl,k2⟩:=of_25 h2;have e:_=[]:=g2;subst e;exact ⟨⟨x0,x1,x2⟩,rfl,k0,k1,k2,trivial⟩
theorem of_22{d:Nat}{ps:List PV}(h:WT cfg.ty (d+5) 22 ps):∃x:List Qa,ps=(cLst 3 Qa.cells) x∧(fun l:List Qa=>l.length≤maxLen∧∀x∈l,Qa.ok x) x:=by
 obtain ⟨te,es,e1,rfl,hl,hh⟩:=wt_sl (ti:=ti22) (by kernel_rfl) rfl h;obtain rfl:te=ti27:=Qd (e1.symm.trans (by kernel_rfl:cfg.ty 27=some ti27));obtain ⟨xs,rfl,hx⟩:=list_of (c:=Qa.cells) (ok:=Qa.ok) (fun ps h=>of_27 h) es (fun c hc=>(hh c hc).2);exact ⟨xs,rfl,by simpa using hl,hx⟩
theorem of_24{d:Nat}{ps:List PV}(h:WT cfg.ty (d+6) 24 ps):∃x:Qj,ps=Qj.cells x∧Qj.ok x:=by
 have g:=wt_struct (ti:=ti24) (by kernel_rfl) rfl h
 clear h
 obtain ⟨_,_,_,rfl,_,_,h0,g0⟩:=g;obtain ⟨x0,rfl,k0⟩:=of_22 h0;have e:_=[]:=g0;subst e;exact ⟨⟨x0⟩,rfl,k0,trivial⟩
theorem arg_24{p:PV}(h:WV cfg.ty 6 24 p):∃x:Qj,p = .agg (Qj.cells x)∧Qj.ok x:=by
 obtain ⟨cs,rfl,g⟩:=wv_row (ti:=ti24) (by kernel_rfl) rfl h;obtain ⟨x,rfl,k⟩:=of_24 (d:=0) g;exact ⟨x,rfl,k⟩
theorem arg_3{p:PV}(h:WV cfg.ty 1 3 p):∃x:Int,p=(.int .i64 x)∧(okInt .i64) x:=by
 obtain ⟨_,g⟩:=wv_one (ti:=ti3) (by kernel_rfl) rfl h;obtain ⟨x,e,k⟩:=of_3 (d:=0) g;exact ⟨x,(List.cons.inj e).1,k⟩
theorem arg_27{p:PV}(h:WV cfg.ty 4 27 p):∃x:Qa,p = .agg (Qa.cells x)∧Qa.ok x:=by
 obtain ⟨cs,rfl,g⟩:=wv_row (ti:=ti27) (by kernel_rfl) rfl h;obtain ⟨x,rfl,k⟩:=of_27 (d:=0) g;exact ⟨x,rfl,k⟩
end Go.Proofs.Ytfeklaffeigilaa
namespace Go.Proofs.Ytfeklaffeigilaa
set_option linter.unusedVariables false
set_option linter.unusedSimpArgs false
set_option maxRecDepth 100000
open Go.RowKit
noncomputable def c21:Code:=Try.f21.body.getD .skip
inductive f21n2O where
 | exit0
 | ret
def f21n2E(bb1:List Qc):f21n2O→Ex×Tr×Hp
 | .exit0=>((.exit 0),mkS [(0,(jL 3 Qc.cells bb1))],[])
 | .ret=>(.ret,mkS [(2,(jB true))],[])
def f21n2S(bb1:List Qc)(v25:Int):Tr×Hp:=(mkS [(0,(jL 3 Qc.cells bb1)),(3,(jI v25))],[])
noncomputable def f21n2:Nat→List Qc→Int→Option f21n2O
 | 0,_,_=>none
 | f+1,bb1,v25 =>
  bif decide (v25<(bb1.length:Int)) then
   bif decide (v25≤40) then
    (at? bb1 v25).bind fun x34 =>
    bif decide (300<(x34.Account.size:Int)) then
     some .ret
    else
     bif decide (300<(x34.Ccy.size:Int)) then
      some .ret
     else
      (f21n2 f bb1 (wr64 (v25+1)))
   else
    some .exit0
  else
   some .exit0
theorem f21n2_ok:∀(f:Nat)(bb1:List Qc)(v25:Int){o:f21n2O},f21n2 f bb1 v25=some o→TL Try.prog Try.f21.ntmps 0 f (cL (cL (Ql 1 (cL (Ql 1 c21))))) (f21n2S bb1 v25) (·=f21n2E bb1 o)
 | 0,_,_,o,h=>by rw [f21n2] at h; cases h
 | f+1,bb1,v25,o,h=>by
  rw [f21n2] at h;refine TL.body (K:=fun s=>∃v25:Int,s=(f21n2S bb1 v25)∧f21n2 f bb1 v25=some o) ?_ (by rintro _ ⟨v25,rfl,hk⟩; exact f21n2_ok f _ _ hk);rcases Qf h with ⟨h28,h⟩|⟨h28,h⟩
  ·rcases Qf h with ⟨h29,h⟩|⟨h29,h⟩
   ·obtain ⟨x34,h35,h⟩:=Qe h;rcases Qf h with ⟨h36,h⟩|⟨h36,h⟩
    ·obtain rfl:=Qd h;exact rK Qg 2 [([(5,true),(6,true)],[(7,.bool true)],[(2,.val (jI (bb1.length:Int)))]),(jT [8,9,10,11,12,13,14],[(2,.idx (Int.toNat v25) (Qc.cells x34)),(15,.bool true)],[]),j3] [some true,none] [] [] [2] .ret ((f21n2E bb1 .ret).2) (ap (Qr (xs:=bb1) (c:=Qc.cells)) (ap3 h28 (ap h29 (ap (Qi h35).1 (ap (Qq Qc.cells (Qi h35).2) (ap4 h36 (ap4 h36 an))))))) (Qs.out rfl rfl)
    ·rcases Qf h with ⟨h37,h⟩|⟨h37,h⟩
     ·obtain rfl:=Qd h;exact rK Qg 2 [([(5,true),(6,true)],[(7,.bool true)],[(2,.val (jI (bb1.length:Int)))]),(jF [8,9,10,11,12,13,14],[(2,.idx (Int.toNat v25) (Qc.cells x34)),(10,.idx (Int.toNat v25) (Qc.cells x34)),(15,.bool false)],[]),j3] [some true,some true] [] [] [2] .ret ((f21n2E bb1 .ret).2) (ap (Qr (xs:=bb1) (c:=Qc.cells)) (ap3 h28 (ap h29 (ap (Qi h35).1 (ap (Qq Qc.cells (Qi h35).2) (ap3 h36 (ap (Qi h35).1 (ap (Qq Qc.cells (Qi h35).2) (ap h36 (ap4 h36 (ap h37 an))))))))))) (Qs.out rfl rfl)
     ·exact rE Qg [([(5,true),(6,true)],[(7,.bool true)],[(2,.val (jI (bb1.length:Int)))]),(jF [8,9,10,11,12,13,14],[(2,.idx (Int.toNat v25) (Qc.cells x34)),(10,.idx (Int.toNat v25) (Qc.cells x34)),(15,.bool false)],[]),j3] [some true,some false] [] [] [0,3] (.norm,(f21n2S bb1 (wr64 (v25+1)))) (ap (Qr (xs:=bb1) (c:=Qc.cells)) (ap3 h28 (ap h29 (ap (Qi h35).1 (ap (Qq Qc.cells (Qi h35).2) (ap3 h36 (ap (Qi h35).1 (ap (Qq Qc.cells (Qi h35).2) (ap h36 (ap4 h36 (ap h37 an))))))))))) (Qs.norm ⟨(wr64 (v25+1)),rfl,h⟩)
   ·obtain rfl:=Qd h;exact rK Qg 1 [([(5,true),(6,true)],[(7,.bool true)],[(2,.val (jI (bb1.length:Int)))])] [some false] [] [] [0] (.exit 0) ((f21n2E bb1 .exit0).2) (ap (Qr (xs:=bb1) (c:=Qc.cells)) (ap3 h28 (ap h29 an))) (Qs.out rfl rfl)
  ·obtain rfl:=Qd h;exact rK Qg 1 [([(5,false),(6,false)],[(7,.bool false)],[(2,.val (jI (bb1.length:Int)))])] [none] [] [] [0] (.exit 0) ((f21n2E bb1 .exit0).2) (ap (Qr (xs:=bb1) (c:=Qc.cells)) (ap3 h28 an)) (Qs.out rfl rfl)
noncomputable def f21n2L(bb1:List Qc):List Qc→Int→Option f21n2O
 | [],v25 =>
  some .exit0
 | x0::rest,v25 =>
  bif decide (v25≤40) then
   bif decide (300<(x0.Account.size:Int)) then
    some .ret
   else
    bif decide (300<(x0.Ccy.size:Int)) then
     some .ret
    else
     (f21n2L bb1 rest (v25+1))
  else
   some .exit0
theorem f21n2L_eq(bb1:List Qc):∀(rest:List Qc)(f k:Nat),bb1.drop k=rest→bb1.length≤maxLen→rest.length<f→f21n2 f bb1 (k:Int)=f21n2L bb1 rest (k:Int)
 | _,0,_,_,_,hf=>absurd hf (Nat.not_lt_zero _)
 | [],f+1,k,hd,hm,hf=>by
  have hk:¬((k:Int)<(bb1.length:Int)):=by have:=Qab hd; omega
  rw [f21n2,f21n2L];simp only [decide_eq_false hk,cond_false]
 | x0::rest,f+1,k,hd,hm,hf=>by
  obtain ⟨hx,hlt,hd'⟩:=Qah hd;have hk:(k:Int)<(bb1.length:Int):=by omega
  have hw:wr64 ((k:Int)+1)=(k:Int)+1:=Qbi (by omega) (by unfold maxLen at hm; omega);have ih:f21n2 f bb1 ((k:Int)+1)=f21n2L bb1 rest ((k:Int)+1):=f21n2L_eq bb1 rest f (k+1) hd' hm (by simpa using hf);rw [f21n2,f21n2L];simp only [decide_eq_true hk,cond_true,Qbt,hx,Option.bind_some,hw,ih]
theorem f21n2_run(bb1:List Qc)(hm:bb1.length≤maxLen):f21n2 FUEL bb1 0=f21n2L bb1 bb1 0:=f21n2L_eq bb1 bb1 FUEL 0 List.drop_zero hm (Qbe hm)
inductive f21n1O where
 | norm
 | ret
def f21n1E(bb1:List Qc):f21n1O→Ex×Tr×Hp
 | .norm=>(.norm,mkS [(0,(jL 3 Qc.cells bb1))],[])
 | .ret=>(.ret,mkS [(2,(jB true))],[])
def f21n1S(bb1:List Qc):Tr×Hp:=(mkS [(0,(jL 3 Qc.cells bb1))],[])
noncomputable def f21n1(bb1:List Qc):Option f21n1O :=
 (f21n2 FUEL bb1 0).bind fun o38=>match o38 with
 | .exit0=>some .norm
 | .ret=>some .ret
theorem f21n1_ok(bb1:List Qc){o:f21n1O}(h:f21n1 bb1=some o):T Try.prog Try.f21.ntmps 0 (cL (Ql 1 c21)) (f21n1S bb1) (·=f21n1E bb1 o):=by
 unfold f21n1 at h;refine rN Qg 1 [j3] [] [] [] [0,3] (f21n2S bb1 0) an ?_;obtain ⟨o38,h39,h⟩:=Qe h;cases o38 with
 | exit0 =>
  obtain rfl:=Qd h;exact T.last' (T.bl (i:=0) (by kernel_rfl) (by kernel_rfl) (f21n2_ok FUEL bb1 0 h39)) (tds:=[]) (m:=[]) (keep:=[0]) (st2:=(f21n1E bb1 .norm).2) (by kernel_rfl) an rfl
 | ret =>
  obtain rfl:=Qd h;exact T.last' (T.bl (i:=0) (by kernel_rfl) (by kernel_rfl) (f21n2_ok FUEL bb1 0 h39)) (tds:=[]) (m:=[]) (keep:=[2]) (st2:=(f21n1E bb1 .ret).2) (by kernel_rfl) an rfl
inductive f21n0O where
 | ret (v42:Bool)
def f21n0E(a1:List Qc):f21n0O→Ex×Tr×Hp
 | .ret v42=>(.ret,mkS [(2,(jB v42))],[])
def f21n0S(a1:List Qc):Tr×Hp:=(Qad [(jL 3 Qc.cells a1)] 0 .leaf,[])
noncomputable def f21n0(a1:List Qc):Option f21n0O :=
 (f21n1 a1).bind fun o40=>match o40 with
 | .norm=>some (.ret (decide (40<(a1.length:Int))))
 | .ret=>some (.ret true)
theorem f21n0_ok(a1:List Qc){o:f21n0O}(h:f21n0 a1=some o):T Try.prog Try.f21.ntmps 0 c21 (f21n0S a1) (·=f21n0E a1 o):=by
 unfold f21n0 at h;refine rN Qg 1 [j3] [] [] [] [0] (f21n1S a1) an ?_;obtain ⟨o40,h41,h⟩:=Qe h;cases o40 with
 | norm =>
  refine T.oneN (by kernel_rfl) (f21n1_ok a1 h41) (st2:=(f21n1E a1 .norm).2) rfl ?_;obtain rfl:=Qd h;exact rE Qg [([],[],[(1,.val (jI (a1.length:Int)))])] [] [] [] [2] (.ret,(f21n0E a1 (.ret (decide (40<(a1.length:Int))))).2) (ap (Qr (xs:=a1) (c:=Qc.cells)) an) rfl
 | ret =>
  obtain rfl:=Qd h;exact T.oneX' (by kernel_rfl) (f21n1_ok a1 h41) (tds:=[]) (m:=[]) (keep:=[2]) (st2:=(f21n0E a1 (.ret true)).2) (by kernel_rfl) an rfl rfl
noncomputable def f21(a1:List Qc):Option Bool:=(f21n0 a1).bind fun o=>match o with
 | .ret v42=>some v42
theorem f21_ok(a1:List Qc){r:Bool}(h:f21 a1=some r):Qo Try.prog false 21 [(jL 3 Qc.cells a1)] [] (jB r) []:=by
 unfold f21 at h;obtain ⟨o,ho,h⟩:=Qe h;cases o with
 | ret v42 =>
  obtain rfl:=Qd h;exact Qo.plain Qg (f:=Try.f21) (c:=c21) (by kernel_rfl) (by kernel_rfl) (by kernel_rfl) (by kernel_rfl) ((f21n0_ok a1 ho).mono fun r e=>by subst e; exact ⟨.inl rfl,(jB v42),(jB v42),by kernel_rfl,by kernel_rfl,((Wk.refl _):Wk (jB v42) (jB v42))⟩)

noncomputable def c10:Code:=Try.f10.body.getD .skip
inductive f10n2O where
 | exit0
 | ret
def f10n2E(ba1:Qj):f10n2O→Ex×Tr×Hp
 | .exit0=>((.exit 0),mkS [(1,(.bp 0 0))],[some (.box ((Qj.cells ba1).map .pl))])
 | .ret=>(.ret,mkS [(2,(jB true))],[])
def f10n2S(ba1:Qj)(v33:Int):Tr×Hp:=(mkS [(1,(.bp 0 0)),(3,(jI v33))],[some (.box ((Qj.cells ba1).map .pl))])
noncomputable def f10n2:Nat→Qj→Int→Option f10n2O
 | 0,_,_=>none
 | f+1,ba1,v33 =>
  bif decide (v33<(ba1.Records.length:Int)) then
   bif decide (v33≤220) then
    (at? ba1.Records v33).bind fun x44 =>
    (f21 x44.Lines).bind fun x46 =>
    bif x46 then
     some .ret
    else
     bif decide (300<(x44.Text.size:Int)) then
      some .ret
     else
      (f10n2 f ba1 (wr64 (v33+1)))
   else
    some .exit0
  else
   some .exit0
theorem f10n2_ok:∀(f:Nat)(ba1:Qj)(v33:Int){o:f10n2O},f10n2 f ba1 v33=some o→TL Try.prog Try.f10.ntmps 0 f (cL (cL (Ql 1 (cL (Ql 1 c10))))) (f10n2S ba1 v33) (·=f10n2E ba1 o)
 | 0,_,_,o,h=>by rw [f10n2] at h; cases h
 | f+1,ba1,v33,o,h=>by
  rw [f10n2] at h;refine TL.body (K:=fun s=>∃v33:Int,s=(f10n2S ba1 v33)∧f10n2 f ba1 v33=some o) ?_ (by rintro _ ⟨v33,rfl,hk⟩; exact f10n2_ok f _ _ hk);rcases Qf h with ⟨h36,h⟩|⟨h36,h⟩
  ·rcases Qf h with ⟨h37,h⟩|⟨h37,h⟩
   ·obtain ⟨x44,h45,h⟩:=Qe h;obtain ⟨x46,h47,h⟩:=Qe h;rcases Qf h with ⟨h48,h⟩|⟨h48,h⟩
    ·obtain rfl:=Qd h;exact rK Qg 2 [([(6,true),(7,true)],[(8,.bool true)],[(3,.val (jI (ba1.Records.length:Int)))]),(jT [8,9,10,11,12,13,14,15],[(3,.idx (Int.toNat v33) (Qa.cells x44)),jH 6 (jB x46),(16,.bool true)],[]),j3] [some true,none] [] [] [2] .ret ((f10n2E ba1 .ret).2) (ap (Qr (xs:=ba1.Records) (c:=Qa.cells)) (ap3 h36 (ap h37 (ap (Qi h45).1 (ap (Qq Qa.cells (Qi h45).2) (ap h48 (ap4 h48 (ap4 h48 (ap (f21_ok x44.Lines h47) an))))))))) (Qs.out rfl rfl)
    ·rcases Qf h with ⟨h49,h⟩|⟨h49,h⟩
     ·obtain rfl:=Qd h;exact rK Qg 2 [([(6,true),(7,true)],[(8,.bool true)],[(3,.val (jI (ba1.Records.length:Int)))]),(jF [8,9,10,11,12,13,14,15],[(3,.idx (Int.toNat v33) (Qa.cells x44)),jH 6 (jB x46),(11,.idx (Int.toNat v33) (Qa.cells x44)),(16,.bool false)],[]),j3] [some true,some true] [] [] [2] .ret ((f10n2E ba1 .ret).2) (ap (Qr (xs:=ba1.Records) (c:=Qa.cells)) (ap3 h36 (ap h37 (ap (Qi h45).1 (ap (Qq Qa.cells (Qi h45).2) (ap4 h48 (ap (Qi h45).1 (ap (Qq Qa.cells (Qi h45).2) (ap h48 (ap4 h48 (ap (f21_ok x44.Lines h47) (ap h49 an)))))))))))) (Qs.out rfl rfl)
     ·exact rE Qg [([(6,true),(7,true)],[(8,.bool true)],[(3,.val (jI (ba1.Records.length:Int)))]),(jF [8,9,10,11,12,13,14,15],[(3,.idx (Int.toNat v33) (Qa.cells x44)),jH 6 (jB x46),(11,.idx (Int.toNat v33) (Qa.cells x44)),(16,.bool false)],[]),j3] [some true,some false] [] [0] [1,3] (.norm,(f10n2S ba1 (wr64 (v33+1)))) (ap (Qr (xs:=ba1.Records) (c:=Qa.cells)) (ap3 h36 (ap h37 (ap (Qi h45).1 (ap (Qq Qa.cells (Qi h45).2) (ap4 h48 (ap (Qi h45).1 (ap (Qq Qa.cells (Qi h45).2) (ap h48 (ap4 h48 (ap (f21_ok x44.Lines h47) (ap h49 an)))))))))))) (Qs.norm ⟨(wr64 (v33+1)),rfl,h⟩)
   ·obtain rfl:=Qd h;exact rK Qg 1 [([(6,true),(7,true)],[(8,.bool true)],[(3,.val (jI (ba1.Records.length:Int)))])] [some false] [] [0] [1] (.exit 0) ((f10n2E ba1 .exit0).2) (ap (Qr (xs:=ba1.Records) (c:=Qa.cells)) (ap3 h36 (ap h37 an))) (Qs.out rfl rfl)
  ·obtain rfl:=Qd h;exact rK Qg 1 [([(6,false),(7,false)],[(8,.bool false)],[(3,.val (jI (ba1.Records.length:Int)))])] [none] [] [0] [1] (.exit 0) ((f10n2E ba1 .exit0).2) (ap (Qr (xs:=ba1.Records) (c:=Qa.cells)) (ap3 h36 an)) (Qs.out rfl rfl)
noncomputable def f10n2L(ba1:Qj):List Qa→Int→Option f10n2O
 | [],v33 =>
  some .exit0
 | x0::rest,v33 =>
  bif decide (v33≤220) then
   (f21 x0.Lines).bind fun x46 =>
   bif x46 then
    some .ret
   else
    bif decide (300<(x0.Text.size:Int)) then
     some .ret
    else
     (f10n2L ba1 rest (v33+1))
  else
   some .exit0
theorem f10n2L_eq(ba1:Qj):∀(rest:List Qa)(f k:Nat),ba1.Records.drop k=rest→ba1.Records.length≤maxLen→rest.length<f→f10n2 f ba1 (k:Int)=f10n2L ba1 rest (k:Int)
 | _,0,_,_,_,hf=>absurd hf (Nat.not_lt_zero _)
 | [],f+1,k,hd,hm,hf=>by
  have hk:¬((k:Int)<(ba1.Records.length:Int)):=by have:=Qab hd; omega
  rw [f10n2,f10n2L];simp only [decide_eq_false hk,cond_false]
 | x0::rest,f+1,k,hd,hm,hf=>by
  obtain ⟨hx,hlt,hd'⟩:=Qah hd;have hk:(k:Int)<(ba1.Records.length:Int):=by omega
  have hw:wr64 ((k:Int)+1)=(k:Int)+1:=Qbi (by omega) (by unfold maxLen at hm; omega);have ih:f10n2 f ba1 ((k:Int)+1)=f10n2L ba1 rest ((k:Int)+1):=f10n2L_eq ba1 rest f (k+1) hd' hm (by simpa using hf);rw [f10n2,f10n2L];simp only [decide_eq_true hk,cond_true,Qbt,hx,Option.bind_some,hw,ih]
theorem f10n2_run(ba1:Qj)(hm:ba1.Records.length≤maxLen):f10n2 FUEL ba1 0=f10n2L ba1 ba1.Records 0:=f10n2L_eq ba1 ba1.Records FUEL 0 List.drop_zero hm (Qbe hm)
inductive f10n1O where
 | norm
 | ret
def f10n1E(ba1:Qj):f10n1O→Ex×Tr×Hp
 | .norm=>(.norm,mkS [(1,(.bp 0 0))],[some (.box ((Qj.cells ba1).map .pl))])
 | .ret=>(.ret,mkS [(2,(jB true))],[])
def f10n1S(ba1:Qj):Tr×Hp:=(mkS [(1,(.bp 0 0))],[some (.box ((Qj.cells ba1).map .pl))])
noncomputable def f10n1(ba1:Qj):Option f10n1O :=
 (f10n2 FUEL ba1 0).bind fun o50=>match o50 with
 | .exit0=>some .norm
 | .ret=>some .ret
theorem f10n1_ok(ba1:Qj){o:f10n1O}(h:f10n1 ba1=some o):T Try.prog Try.f10.ntmps 0 (cL (Ql 1 c10)) (f10n1S ba1) (·=f10n1E ba1 o):=by
 unfold f10n1 at h;refine rN Qg 1 [j3] [] [] [0] [1,3] (f10n2S ba1 0) an ?_;obtain ⟨o50,h51,h⟩:=Qe h;cases o50 with
 | exit0 =>
  obtain rfl:=Qd h;exact T.last' (T.bl (i:=0) (by kernel_rfl) (by kernel_rfl) (f10n2_ok FUEL ba1 0 h51)) (tds:=[]) (m:=[0]) (keep:=[1]) (st2:=(f10n1E ba1 .norm).2) (by kernel_rfl) an rfl
 | ret =>
  obtain rfl:=Qd h;exact T.last' (T.bl (i:=0) (by kernel_rfl) (by kernel_rfl) (f10n2_ok FUEL ba1 0 h51)) (tds:=[]) (m:=[]) (keep:=[2]) (st2:=(f10n1E ba1 .ret).2) (by kernel_rfl) an rfl
inductive f10n0O where
 | ret (v54:Bool)
def f10n0E(a1:Qj):f10n0O→Ex×Tr×Hp
 | .ret v54=>(.ret,mkS [(2,(jB v54))],[])
def f10n0S(a1:Qj):Tr×Hp:=(Qad [(jA Qj.cells a1)] 0 .leaf,[])
noncomputable def f10n0(a1:Qj):Option f10n0O :=
 (f10n1 a1).bind fun o52=>match o52 with
 | .norm=>some (.ret (decide (220<(a1.Records.length:Int))))
 | .ret=>some (.ret true)
theorem f10n0_ok(a1:Qj){o:f10n0O}(h:f10n0 a1=some o):T Try.prog Try.f10.ntmps 0 c10 (f10n0S a1) (·=f10n0E a1 o):=by
 unfold f10n0 at h;refine rN Qg 1 [j3] [] [] [0] [1] (f10n1S a1) an ?_;obtain ⟨o52,h53,h⟩:=Qe h;cases o52 with
 | norm =>
  refine T.oneN (by kernel_rfl) (f10n1_ok a1 h53) (st2:=(f10n1E a1 .norm).2) rfl ?_;obtain rfl:=Qd h;exact rE Qg [([],[],[(2,.val (jI (a1.Records.length:Int)))])] [] [] [] [2] (.ret,(f10n0E a1 (.ret (decide (220<(a1.Records.length:Int))))).2) (ap (Qr (xs:=a1.Records) (c:=Qa.cells)) an) rfl
 | ret =>
  obtain rfl:=Qd h;exact T.oneX' (by kernel_rfl) (f10n1_ok a1 h53) (tds:=[]) (m:=[]) (keep:=[2]) (st2:=(f10n0E a1 (.ret true)).2) (by kernel_rfl) an rfl rfl
noncomputable def f10(a1:Qj):Option Bool:=(f10n0 a1).bind fun o=>match o with
 | .ret v54=>some v54
theorem f10_ok(a1:Qj){r:Bool}(h:f10 a1=some r):Qo Try.prog false 10 [(jA Qj.cells a1)] [] (jB r) []:=by
 unfold f10 at h;obtain ⟨o,ho,h⟩:=Qe h;cases o with
 | ret v54 =>
  obtain rfl:=Qd h;exact Qo.plain Qg (f:=Try.f10) (c:=c10) (by kernel_rfl) (by kernel_rfl) (by kernel_rfl) (by kernel_rfl) ((f10n0_ok a1 ho).mono fun r e=>by subst e; exact ⟨.inl rfl,(jB v54),(jB v54),by kernel_rfl,by kernel_rfl,((Wk.refl _):Wk (jB v54) (jB v54))⟩)

noncomputable def c4:Code:=Try.f4.body.getD .skip
inductive f4n0O where
 | ret (v8:Bool)
def f4n0E(a1:Qj):f4n0O→Ex×Tr×Hp
 | .ret v8=>(.ret,mkS [(2,(jB v8))],[])
def f4n0S(a1:Qj):Tr×Hp:=(Qad [(jA Qj.cells a1)] 0 .leaf,[])
noncomputable def f4n0(a1:Qj):Option f4n0O :=
 bif decide (30<(a1.Records.length:Int)) then
  some (.ret true)
 else
  (f10 a1).bind fun x6 =>
  some (.ret x6)
theorem f4n0_ok(a1:Qj){o:f4n0O}(h:f4n0 a1=some o):T Try.prog Try.f4.ntmps 0 c4 (f4n0S a1) (·=f4n0E a1 o):=by
 unfold f4n0 at h;rcases Qf h with ⟨h5,h⟩|⟨h5,h⟩
 ·obtain rfl:=Qd h;exact rE Qg [j3,([(5,true),(6,true)],[(7,.bool true)],[(2,.val (jI (a1.Records.length:Int)))])] [] [] [] [2] (.ret,(f4n0E a1 (.ret true)).2) (ap (Qr (xs:=a1.Records) (c:=Qa.cells)) (ap3 h5 an)) rfl
 ·obtain ⟨x6,h7,h⟩:=Qe h;obtain rfl:=Qd h;exact rE Qg [j3,([(5,false),(6,false)],[jH 6 (jB x6),(7,.bool false)],[(2,.val (jI (a1.Records.length:Int)))])] [] [] [] [2] (.ret,(f4n0E a1 (.ret x6)).2) (ap (Qr (xs:=a1.Records) (c:=Qa.cells)) (ap3 h5 (ap (f10_ok a1 h7) an))) rfl
noncomputable def f4(a1:Qj):Option Bool:=(f4n0 a1).bind fun o=>match o with
 | .ret v8=>some v8
theorem f4_ok(a1:Qj){r:Bool}(h:f4 a1=some r):Qo Try.prog false 4 [(jA Qj.cells a1)] [] (jB r) []:=by
 unfold f4 at h;obtain ⟨o,ho,h⟩:=Qe h;cases o with
 | ret v8 =>
  obtain rfl:=Qd h;exact Qo.plain Qg (f:=Try.f4) (c:=c4) (by kernel_rfl) (by kernel_rfl) (by kernel_rfl) (by kernel_rfl) ((f4n0_ok a1 ho).mono fun r e=>by subst e; exact ⟨.inl rfl,(jB v8),(jB v8),by kernel_rfl,by kernel_rfl,((Wk.refl _):Wk (jB v8) (jB v8))⟩)

noncomputable def c75:Code:=Try.f75.body.getD .skip
inductive f75n0O where
 | ret (v10:Bool)
def f75n0E(a1:Int):f75n0O→Ex×Tr×Hp
 | .ret v10=>(.ret,mkS [(2,(jB v10))],[])
def f75n0S(a1:Int):Tr×Hp:=(Qad [(.pl (.int .u8 a1))] 0 .leaf,[])
noncomputable def f75n0(a1:Int):Option f75n0O :=
 bif decide (97≤a1) then
  bif decide (a1≤122) then
   some (.ret true)
  else
   bif decide (65≤a1) then
    some (.ret (decide (a1≤90)))
   else
    some (.ret false)
 else
  bif decide (65≤a1) then
   some (.ret (decide (a1≤90)))
  else
   some (.ret false)
theorem f75n0_ok(a1:Int){o:f75n0O}(h:f75n0 a1=some o):T Try.prog Try.f75.ntmps 0 c75 (f75n0S a1) (·=f75n0E a1 o):=by
 unfold f75n0 at h;rcases Qf h with ⟨h6,h⟩|⟨h6,h⟩
 ·rcases Qf h with ⟨h7,h⟩|⟨h7,h⟩
  ·obtain rfl:=Qd h;exact rE Qg [j3,(jT [3,4,7,8,9,12],[(5,.bool true),(13,.bool true)],[])] [] [] [] [2] (.ret,(f75n0E a1 (.ret true)).2) (ap3 h6 (ap h7 (ap4 h7 an))) rfl
  ·rcases Qf h with ⟨h8,h⟩|⟨h8,h⟩
   ·obtain rfl:=Qd h;exact rE Qg [j3,(jF [7,8,9,12]++jT [3,4,10,11],[(5,.bool true),(12,.bool true),(13,.bool false)],[])] [] [] [] [2] (.ret,(f75n0E a1 (.ret (decide (a1≤90)))).2) (ap3 h6 (ap3 h7 (ap2 h8 (ap h7 (ap h8 (ap h7 an)))))) rfl
   ·obtain rfl:=Qd h;exact rE Qg [j3,(jF [7,8,9,10,11,12]++jT [3,4],[(5,.bool true),(12,.bool false),(13,.bool false)],[])] [] [] [] [2] (.ret,(f75n0E a1 (.ret false)).2) (ap3 h6 (ap3 h7 (ap2 h8 (ap h7 (ap h8 (ap h7 an)))))) rfl
 ·rcases Qf h with ⟨h9,h⟩|⟨h9,h⟩
  ·obtain rfl:=Qd h;exact rE Qg [j3,(jF [3,4]++jT [10,11],[(5,.bool false),(12,.bool true)],[])] [] [] [] [2] (.ret,(f75n0E a1 (.ret (decide (a1≤90)))).2) (ap3 h6 (ap3 h9 an)) rfl
  ·obtain rfl:=Qd h;exact rE Qg [j3,(jF [3,4,10,11],[(5,.bool false),(12,.bool false)],[])] [] [] [] [2] (.ret,(f75n0E a1 (.ret false)).2) (ap3 h6 (ap3 h9 an)) rfl
noncomputable def f75(a1:Int):Option Bool:=(f75n0 a1).bind fun o=>match o with
 | .ret v10=>some v10
theorem f75_ok(a1:Int){r:Bool}(h:f75 a1=some r):Qo Try.prog false 75 [(.pl (.int .u8 a1))] [] (jB r) []:=by
 unfold f75 at h;obtain ⟨o,ho,h⟩:=Qe h;cases o with
 | ret v10 =>
  obtain rfl:=Qd h;exact Qo.plain Qg (f:=Try.f75) (c:=c75) (by kernel_rfl) (by kernel_rfl) (by kernel_rfl) (by kernel_rfl) ((f75n0_ok a1 ho).mono fun r e=>by subst e; exact ⟨.inl rfl,(jB v10),(jB v10),by kernel_rfl,by kernel_rfl,((Wk.refl _):Wk (jB v10) (jB v10))⟩)

noncomputable def c66:Code:=Try.f66.body.getD .skip
inductive f66n3O where
 | norm (v148:Bool)
def f66n3E(bd1:ByteArray)(be2:UInt8)(bf3:Int):f66n3O→Ex×Tr×Hp
 | .norm v148=>(.norm,mkS [(0,(jS bd1)),(20,(jI (bd1.size:Int))),(21,(jI bf3)),(45,(jB v148))],[])
def f66n3S(bd1:ByteArray)(be2:UInt8)(bf3:Int):Tr×Hp:=(mkS [(0,(jS bd1)),(4,(.pl (.int .u8 (be2.toNat:Int)))),(20,(jI (bd1.size:Int))),(21,(jI bf3))],[])
noncomputable def f66n3(bd1:ByteArray)(be2:UInt8)(bf3:Int):Option f66n3O :=
 (f75 (be2.toNat:Int)).bind fun x141 =>
 bif x141 then
  some (.norm false)
 else
  bif decide ((be2.toNat:Int)<48) then
   bif decide ((be2.toNat:Int)=95) then
    some (.norm false)
   else
    some (.norm (!(decide ((be2.toNat:Int)=45))))
  else
   bif decide (57<(be2.toNat:Int)) then
    bif decide ((be2.toNat:Int)=95) then
     some (.norm false)
    else
     some (.norm (!(decide ((be2.toNat:Int)=45))))
   else
    some (.norm false)
theorem f66n3_ok(bd1:ByteArray)(be2:UInt8)(bf3:Int){o:f66n3O}(h:f66n3 bd1 be2 bf3=some o):T Try.prog Try.f66.ntmps 0 (cL (Ql 2 (cL (cL (Ql 2 (cL (cL (Ql 1 (cL (Ql 2 c66)))))))))) (f66n3S bd1 be2 bf3) (·=f66n3E bd1 be2 bf3 o):=by
 unfold f66n3 at h;obtain ⟨x141,h142,h⟩:=Qe h;rcases Qf h with ⟨h143,h⟩|⟨h143,h⟩
 ·obtain rfl:=Qd h;exact rE Qg [(jF [4,5,6,9],[jH 1 (jB x141),(10,.bool false)],[])] [] [] [] [0,20,21,45] (.norm,(f66n3E bd1 be2 bf3 (.norm false)).2) (ap (Qp h143) (ap4 (Qp h143) (ap (f75_ok (be2.toNat:Int) h142) an))) rfl
 ·rcases Qf h with ⟨h144,h⟩|⟨h144,h⟩
  ·rcases Qf h with ⟨h145,h⟩|⟨h145,h⟩
   ·obtain rfl:=Qd h;exact rE Qg [(jF [16,17]++jT [4,5,6,7,8,9],[jH 1 (jB x141),(9,.bool true),(10,.bool true),(18,.bool false)],[])] [] [] [] [0,20,21,45] (.norm,(f66n3E bd1 be2 bf3 (.norm false)).2) (ap3 (Qw h143) (ap2 h144 (ap (Qw h143) (ap h144 (ap (Qw h143) (ap3 (Qp h145) (ap (f75_ok (be2.toNat:Int) h142) an))))))) rfl
   ·obtain rfl:=Qd h;exact rE Qg [(jT [4,5,6,7,8,9,16,17],[jH 1 (jB x141),(9,.bool true),(10,.bool true),(18,.bool true)],[])] [] [] [] [0,20,21,45] (.norm,(f66n3E bd1 be2 bf3 (.norm (!(decide ((be2.toNat:Int)=45))))).2) (ap3 (Qw h143) (ap2 h144 (ap (Qw h143) (ap h144 (ap (Qw h143) (ap3 (Qw h145) (ap (f75_ok (be2.toNat:Int) h142) an))))))) rfl
  ·rcases Qf h with ⟨h146,h⟩|⟨h146,h⟩
   ·rcases Qf h with ⟨h147,h⟩|⟨h147,h⟩
    ·obtain rfl:=Qd h;exact rE Qg [(jF [7,8,16,17]++jT [4,5,6,9,12,13],[jH 1 (jB x141),(9,.bool false),(10,.bool true),(14,.bool true),(18,.bool false)],[])] [] [] [] [0,20,21,45] (.norm,(f66n3E bd1 be2 bf3 (.norm false)).2) (ap3 (Qw h143) (ap2 h144 (ap (Qw h143) (ap h144 (ap (Qw h143) (ap3 h146 (ap3 (Qp h147) (ap (f75_ok (be2.toNat:Int) h142) an)))))))) rfl
    ·obtain rfl:=Qd h;exact rE Qg [(jF [7,8]++jT [4,5,6,9,12,13,16,17],[jH 1 (jB x141),(9,.bool false),(10,.bool true),(14,.bool true),(18,.bool true)],[])] [] [] [] [0,20,21,45] (.norm,(f66n3E bd1 be2 bf3 (.norm (!(decide ((be2.toNat:Int)=45))))).2) (ap3 (Qw h143) (ap2 h144 (ap (Qw h143) (ap h144 (ap (Qw h143) (ap3 h146 (ap3 (Qw h147) (ap (f75_ok (be2.toNat:Int) h142) an)))))))) rfl
   ·obtain rfl:=Qd h;exact rE Qg [(jF [7,8,12,13]++jT [4,5,6,9],[jH 1 (jB x141),(9,.bool false),(10,.bool true),(14,.bool false)],[])] [] [] [] [0,20,21,45] (.norm,(f66n3E bd1 be2 bf3 (.norm false)).2) (ap3 (Qw h143) (ap2 h144 (ap (Qw h143) (ap h144 (ap (Qw h143) (ap3 h146 (ap (f75_ok (be2.toNat:Int) h142) an))))))) rfl
inductive f66n2O where
 | norm
 | ret
def f66n2E(bd1:ByteArray)(bf2:Int):f66n2O→Ex×Tr×Hp
 | .norm=>(.norm,mkS [(0,(jS bd1)),(20,(jI (bd1.size:Int))),(21,(jI bf2))],[])
 | .ret=>(.ret,mkS [(2,(jB false))],[])
def f66n2S(bd1:ByteArray)(bf2:Int):Tr×Hp:=(mkS [(0,(jS bd1)),(20,(jI (bd1.size:Int))),(21,(jI bf2))],[])
noncomputable def f66n2(bd1:ByteArray)(bf2:Int):Option f66n2O :=
 (at? bd1.data.toList bf2).bind fun x125 =>
 (f66n3 bd1 x125 bf2).bind fun o149=>match o149 with
 | .norm v151=>bif v151 then
   some .ret
  else
   some .norm
theorem f66n2_ok(bd1:ByteArray)(bf2:Int){o:f66n2O}(h:f66n2 bd1 bf2=some o):T Try.prog Try.f66.ntmps 0 (cL (Ql 2 (cL (cL (Ql 1 (cL (Ql 2 c66))))))) (f66n2S bd1 bf2) (·=f66n2E bd1 bf2 o):=by
 unfold f66n2 at h;refine T.block' (i:=1) (by kernel_rfl) ?_;obtain ⟨x125,h126,h⟩:=Qe h;refine rN Qg 2 [j3,([],[(2,.byte (Int.toNat bf2) x125)],[])] [] [] [] [0,4,20,21] (f66n3S bd1 x125 bf2) (ap (Qi h126).1 (ap (Qi h126).2 an)) ?_;obtain ⟨o149,h150,h⟩:=Qe h;cases o149 with
 | norm v151 =>
  refine T.oneN (by kernel_rfl) (f66n3_ok bd1 x125 bf2 h150) (st2:=(f66n3E bd1 x125 bf2 (.norm v151)).2) rfl ?_;rcases Qf h with ⟨h153,h⟩|⟨h153,h⟩
  ·obtain rfl:=Qd h;exact rE Qg [j3] [some true] [] [] [2] (.ret,(f66n2E bd1 bf2 .ret).2) (ap h153 an) rfl
  ·obtain rfl:=Qd h;exact rE Qg [] [some false] [] [] [0,20,21] (.norm,(f66n2E bd1 bf2 .norm).2) (ap h153 an) rfl
inductive f66n4O where
 | exit0
 | ret
def f66n4E(bd1:ByteArray):f66n4O→Ex×Tr×Hp
 | .exit0=>((.exit 0),mkS [],[])
 | .ret=>(.ret,mkS [(2,(jB false))],[])
def f66n4S(bd1:ByteArray)(v109:Int):Tr×Hp:=(mkS [(0,(jS bd1)),(20,(jI (bd1.size:Int))),(21,(jI v109))],[])
noncomputable def f66n4:Nat→ByteArray→Int→Option f66n4O
 | 0,_,_=>none
 | f+1,bd1,v109 =>
  bif decide (v109<(bd1.size:Int)) then
   (f66n2 bd1 v109).bind fun o154=>match o154 with
   | .norm=>(f66n4 f bd1 (wr64 (v109+1)))
   | .ret=>some .ret
  else
   some .exit0
theorem f66n4_ok:∀(f:Nat)(bd1:ByteArray)(v109:Int){o:f66n4O},f66n4 f bd1 v109=some o→TL Try.prog Try.f66.ntmps 0 f (cL (cL (Ql 1 (cL (Ql 2 c66))))) (f66n4S bd1 v109) (·=f66n4E bd1 o)
 | 0,_,_,o,h=>by rw [f66n4] at h; cases h
 | f+1,bd1,v109,o,h=>by
  rw [f66n4] at h;refine TL.body (K:=fun s=>∃v109:Int,s=(f66n4S bd1 v109)∧f66n4 f bd1 v109=some o) ?_ (by rintro _ ⟨v109,rfl,hk⟩; exact f66n4_ok f _ _ hk);rcases Qf h with ⟨h111,h⟩|⟨h111,h⟩
  ·refine rN Qg 2 [j3] [some true] [] [] [0,20,21] (f66n2S bd1 v109) (ap h111 an) ?_;obtain ⟨o154,h155,h⟩:=Qe h;cases o154 with
   | norm =>
    refine T.oneN (by kernel_rfl) (f66n2_ok bd1 v109 h155) (st2:=(f66n2E bd1 v109 .norm).2) rfl ?_;exact rE Qg [j3] [] [] [] [0,20,21] (.norm,(f66n4S bd1 (wr64 (v109+1)))) an (Qs.norm ⟨(wr64 (v109+1)),rfl,h⟩)
   | ret =>
    obtain rfl:=Qd h;exact T.oneX' (by kernel_rfl) (f66n2_ok bd1 v109 h155) (tds:=[]) (m:=[]) (keep:=[2]) (st2:=(f66n4E bd1 .ret).2) (by kernel_rfl) an rfl (Qs.out rfl rfl)
  ·obtain rfl:=Qd h;exact rK Qg 2 [j3] [some false] [] [] [] (.exit 0) ((f66n4E bd1 .exit0).2) (ap h111 an) (Qs.out rfl rfl)
inductive f66n1O where
 | norm
 | ret
def f66n1E(bd1:ByteArray):f66n1O→Ex×Tr×Hp
 | .norm=>(.norm,mkS [],[])
 | .ret=>(.ret,mkS [(2,(jB false))],[])
def f66n1S(bd1:ByteArray):Tr×Hp:=(mkS [(0,(jS bd1))],[])
noncomputable def f66n1(bd1:ByteArray):Option f66n1O :=
 (f66n4 FUEL bd1 0).bind fun o156=>match o156 with
 | .exit0=>some .norm
 | .ret=>some .ret
theorem f66n1_ok(bd1:ByteArray){o:f66n1O}(h:f66n1 bd1=some o):T Try.prog Try.f66.ntmps 0 (cL (Ql 2 c66)) (f66n1S bd1) (·=f66n1E bd1 o):=by
 unfold f66n1 at h;refine rN Qg 1 [j3] [] [] [] [0,20,21] (f66n4S bd1 0) an ?_;obtain ⟨o156,h157,h⟩:=Qe h;cases o156 with
 | exit0 =>
  obtain rfl:=Qd h;exact T.last' (T.bl (i:=0) (by kernel_rfl) (by kernel_rfl) (f66n4_ok FUEL bd1 0 h157)) (tds:=[]) (m:=[]) (keep:=[]) (st2:=(f66n1E bd1 .norm).2) (by kernel_rfl) an rfl
 | ret =>
  obtain rfl:=Qd h;exact T.last' (T.bl (i:=0) (by kernel_rfl) (by kernel_rfl) (f66n4_ok FUEL bd1 0 h157)) (tds:=[]) (m:=[]) (keep:=[2]) (st2:=(f66n1E bd1 .ret).2) (by kernel_rfl) an rfl
inductive f66n0O where
 | ret (v160:Bool)
def f66n0E(a1:ByteArray):f66n0O→Ex×Tr×Hp
 | .ret v160=>(.ret,mkS [(2,(jB v160))],[])
def f66n0S(a1:ByteArray):Tr×Hp:=(Qad [(jS a1)] 0 .leaf,[])
noncomputable def f66n0(a1:ByteArray):Option f66n0O :=
 bif decide ((a1.size:Int)<1) then
  some (.ret false)
 else
  bif decide (40<(a1.size:Int)) then
   some (.ret false)
  else
   (at? a1.data.toList 0).bind fun x11 =>
   (f75 (x11.toNat:Int)).bind fun x13 =>
   bif x13 then
    (f66n1 a1).bind fun o158=>match o158 with
    | .norm=>some (.ret true)
    | .ret=>some (.ret false)
   else
    some (.ret false)
theorem f66n0_ok(a1:ByteArray){o:f66n0O}(h:f66n0 a1=some o):T Try.prog Try.f66.ntmps 0 c66 (f66n0S a1) (·=f66n0E a1 o):=by
 unfold f66n0 at h;rcases Qf h with ⟨h9,h⟩|⟨h9,h⟩
 ·obtain rfl:=Qd h;exact rK Qg 2 [j3,(jT [4,5,6],[(7,.bool true)],[]),j3] [none] [] [] [2] .ret ((f66n0E a1 (.ret false)).2) (ap4 h9 an) rfl
 ·rcases Qf h with ⟨h10,h⟩|⟨h10,h⟩
  ·obtain rfl:=Qd h;exact rK Qg 2 [j3,(jF [4,5,6]++jT [9,10,11,12],[(7,.bool false),(13,.bool true)],[]),j3] [none] [] [] [2] .ret ((f66n0E a1 (.ret false)).2) (ap4 h9 (ap h10 (ap4 h10 an))) rfl
  ·obtain ⟨x11,h12,h⟩:=Qe h;obtain ⟨x13,h14,h⟩:=Qe h;rcases Qf h with ⟨h15,h⟩|⟨h15,h⟩
   ·refine rN Qg 2 [j3,(jF [4,5,6,9,10,11,12],[(7,.bool false),(10,.byte (Int.toNat 0) x11),jH 11 (jB x13),(13,.bool false)],[])] [some false] [] [] [0] (f66n1S a1) (ap4 h9 (ap2 h10 (ap (Qi h12).1 (ap (Qi h12).2 (ap3 h10 (ap (f75_ok (x11.toNat:Int) h14) (ap (Qp h15) an))))))) ?_;obtain ⟨o158,h159,h⟩:=Qe h;cases o158 with
    | norm =>
     refine T.oneN (by kernel_rfl) (f66n1_ok a1 h159) (st2:=(f66n1E a1 .norm).2) rfl ?_;obtain rfl:=Qd h;exact rE Qg [j3] [] [] [] [2] (.ret,(f66n0E a1 (.ret true)).2) an rfl
    | ret =>
     obtain rfl:=Qd h;exact T.oneX' (by kernel_rfl) (f66n1_ok a1 h159) (tds:=[]) (m:=[]) (keep:=[2]) (st2:=(f66n0E a1 (.ret false)).2) (by kernel_rfl) an rfl rfl
   ·obtain rfl:=Qd h;exact rK Qg 2 [j3,(jF [4,5,6,9,10,11,12],[(7,.bool false),(10,.byte (Int.toNat 0) x11),jH 11 (jB x13),(13,.bool false)],[]),j3] [some true] [] [] [2] .ret ((f66n0E a1 (.ret false)).2) (ap4 h9 (ap2 h10 (ap (Qi h12).1 (ap (Qi h12).2 (ap3 h10 (ap (f75_ok (x11.toNat:Int) h14) (ap (Qw h15) an))))))) rfl
noncomputable def f66(a1:ByteArray):Option Bool:=(f66n0 a1).bind fun o=>match o with
 | .ret v160=>some v160
theorem f66_ok(a1:ByteArray){r:Bool}(h:f66 a1=some r):Qo Try.prog false 66 [(jS a1)] [] (jB r) []:=by
 unfold f66 at h;obtain ⟨o,ho,h⟩:=Qe h;cases o with
 | ret v160 =>
  obtain rfl:=Qd h;exact Qo.plain Qg (f:=Try.f66) (c:=c66) (by kernel_rfl) (by kernel_rfl) (by kernel_rfl) (by kernel_rfl) ((f66n0_ok a1 ho).mono fun r e=>by subst e; exact ⟨.inl rfl,(jB v160),(jB v160),by kernel_rfl,by kernel_rfl,((Wk.refl _):Wk (jB v160) (jB v160))⟩)

noncomputable def c67:Code:=Try.f67.body.getD .skip
inductive f67n0O where
 | ret (v4:Bool)
def f67n0E(a1:Int):f67n0O→Ex×Tr×Hp
 | .ret v4=>(.ret,mkS [(2,(jB v4))],[])
def f67n0S(a1:Int):Tr×Hp:=(Qad [(jI a1)] 0 .leaf,[])
noncomputable def f67n0(a1:Int):Option f67n0O :=
 bif decide ((-1125899906842624)≤a1) then
  some (.ret (decide (a1≤1125899906842624)))
 else
  some (.ret false)
theorem f67n0_ok(a1:Int){o:f67n0O}(h:f67n0 a1=some o):T Try.prog Try.f67.ntmps 0 c67 (f67n0S a1) (·=f67n0E a1 o):=by
 unfold f67n0 at h;rcases Qf h with ⟨h3,h⟩|⟨h3,h⟩
 ·obtain rfl:=Qd h;exact rE Qg [j3,([(3,true),(4,true)],[(5,.bool true)],[])] [] [] [] [2] (.ret,(f67n0E a1 (.ret (decide (a1≤1125899906842624)))).2) (ap3 h3 an) rfl
 ·obtain rfl:=Qd h;exact rE Qg [j3,([(3,false),(4,false)],[(5,.bool false)],[])] [] [] [] [2] (.ret,(f67n0E a1 (.ret false)).2) (ap3 h3 an) rfl
noncomputable def f67(a1:Int):Option Bool:=(f67n0 a1).bind fun o=>match o with
 | .ret v4=>some v4
theorem f67_ok(a1:Int){r:Bool}(h:f67 a1=some r):Qo Try.prog false 67 [(jI a1)] [] (jB r) []:=by
 unfold f67 at h;obtain ⟨o,ho,h⟩:=Qe h;cases o with
 | ret v4 =>
  obtain rfl:=Qd h;exact Qo.plain Qg (f:=Try.f67) (c:=c67) (by kernel_rfl) (by kernel_rfl) (by kernel_rfl) (by kernel_rfl) ((f67n0_ok a1 ho).mono fun r e=>by subst e; exact ⟨.inl rfl,(jB v4),(jB v4),by kernel_rfl,by kernel_rfl,((Wk.refl _):Wk (jB v4) (jB v4))⟩)

noncomputable def c65:Code:=Try.f65.body.getD .skip
inductive f65n0O where
 | ret (v20:Bool)
def f65n0E(a1:Qc):f65n0O→Ex×Tr×Hp
 | .ret v20=>(.ret,mkS [(2,(jB v20))],[])
def f65n0S(a1:Qc):Tr×Hp:=(Qad [(jA Qc.cells a1)] 0 .leaf,[])
noncomputable def f65n0(a1:Qc):Option f65n0O :=
 (f66 a1.Account).bind fun x11 =>
 bif x11 then
  (f66 a1.Ccy).bind fun x14 =>
  bif x14 then
   bif decide (a1.Amount=0) then
    some (.ret true)
   else
    (f67 a1.Amount).bind fun x18 =>
    some (.ret (!x18))
  else
   some (.ret true)
 else
  some (.ret true)
theorem f65n0_ok(a1:Qc){o:f65n0O}(h:f65n0 a1=some o):T Try.prog Try.f65.ntmps 0 c65 (f65n0S a1) (·=f65n0E a1 o):=by
 unfold f65n0 at h;obtain ⟨x11,h12,h⟩:=Qe h;rcases Qf h with ⟨h13,h⟩|⟨h13,h⟩
 ·obtain ⟨x14,h15,h⟩:=Qe h;rcases Qf h with ⟨h16,h⟩|⟨h16,h⟩
  ·rcases Qf h with ⟨h17,h⟩|⟨h17,h⟩
   ·obtain rfl:=Qd h;exact rE Qg [j3,(jF [5,6,7,8,11,12,13]++jT [16,17,18,19],[jH 2 (jB x11),jH 7 (jB x14),(9,.bool false),(14,.bool false),(20,.bool true)],[])] [] [] [] [2] (.ret,(f65n0E a1 (.ret true)).2) (ap (Qp h13) (ap4 (Qp h13) (ap4 (Qp h16) (ap h17 (ap4 h17 (ap (f66_ok a1.Account h12) (ap (f66_ok a1.Ccy h15) an))))))) rfl
   ·obtain ⟨x18,h19,h⟩:=Qe h;obtain rfl:=Qd h;exact rE Qg [j3,(jF [5,6,7,8,11,12,13,16,17,18,19],[jH 2 (jB x11),jH 7 (jB x14),(9,.bool false),(14,.bool false),jH 18 (jB x18),(20,.bool false)],[])] [] [] [] [2] (.ret,(f65n0E a1 (.ret (!x18))).2) (ap (Qp h13) (ap4 (Qp h13) (ap4 (Qp h16) (ap h17 (ap4 h17 (ap (f66_ok a1.Account h12) (ap (f66_ok a1.Ccy h15) (ap (f67_ok a1.Amount h19) an)))))))) rfl
  ·obtain rfl:=Qd h;exact rE Qg [j3,(jF [5,6,7,8]++jT [11,12,13],[jH 2 (jB x11),jH 7 (jB x14),(9,.bool false),(14,.bool true)],[])] [] [] [] [2] (.ret,(f65n0E a1 (.ret true)).2) (ap (Qp h13) (ap4 (Qp h13) (ap4 (Qw h16) (ap (f66_ok a1.Account h12) (ap (f66_ok a1.Ccy h15) an))))) rfl
 ·obtain rfl:=Qd h;exact rE Qg [j3,(jT [5,6,7,8],[jH 2 (jB x11),(9,.bool true)],[])] [] [] [] [2] (.ret,(f65n0E a1 (.ret true)).2) (ap (Qw h13) (ap4 (Qw h13) (ap (f66_ok a1.Account h12) an))) rfl
noncomputable def f65(a1:Qc):Option Bool:=(f65n0 a1).bind fun o=>match o with
 | .ret v20=>some v20
theorem f65_ok(a1:Qc){r:Bool}(h:f65 a1=some r):Qo Try.prog false 65 [(jA Qc.cells a1)] [] (jB r) []:=by
 unfold f65 at h;obtain ⟨o,ho,h⟩:=Qe h;cases o with
 | ret v20 =>
  obtain rfl:=Qd h;exact Qo.plain Qg (f:=Try.f65) (c:=c65) (by kernel_rfl) (by kernel_rfl) (by kernel_rfl) (by kernel_rfl) ((f65n0_ok a1 ho).mono fun r e=>by subst e; exact ⟨.inl rfl,(jB v20),(jB v20),by kernel_rfl,by kernel_rfl,((Wk.refl _):Wk (jB v20) (jB v20))⟩)

noncomputable def c76:Code:=Try.f76.body.getD .skip
inductive f76_65n2O where
 | exit0
 | ret (v40:Int)
def f76_65n2E(bb1:List Qc):f76_65n2O→Ex×Tr×Hp
 | .exit0=>((.exit 0),mkS [],[])
 | .ret v40=>(.ret,mkS [(4,(jI v40))],[])
def f76_65n2S(bb1:List Qc)(v27:Int):Tr×Hp:=(mkS [(0,(jL 3 Qc.cells bb1)),(1,(.pl (.fn 65))),(7,(jI (bb1.length:Int))),(8,(jI v27))],[])
noncomputable def f76_65n2:Nat→List Qc→Int→Option f76_65n2O
 | 0,_,_=>none
 | f+1,bb1,v27 =>
  bif decide (v27<(bb1.length:Int)) then
   (at? bb1 v27).bind fun x35 =>
   (f65 x35).bind fun x37 =>
   bif x37 then
    some (.ret v27)
   else
    (f76_65n2 f bb1 (wr64 (v27+1)))
  else
   some .exit0
theorem f76_65n2_ok:∀(f:Nat)(bb1:List Qc)(v27:Int){o:f76_65n2O},f76_65n2 f bb1 v27=some o→TL Try.prog Try.f76.ntmps 0 f (cL (cL (Ql 1 (cL (Ql 1 c76))))) (f76_65n2S bb1 v27) (·=f76_65n2E bb1 o)
 | 0,_,_,o,h=>by rw [f76_65n2] at h; cases h
 | f+1,bb1,v27,o,h=>by
  rw [f76_65n2] at h;refine TL.body (K:=fun s=>∃v27:Int,s=(f76_65n2S bb1 v27)∧f76_65n2 f bb1 v27=some o) ?_ (by rintro _ ⟨v27,rfl,hk⟩; exact f76_65n2_ok f _ _ hk);rcases Qf h with ⟨h29,h⟩|⟨h29,h⟩
  ·obtain ⟨x35,h36,h⟩:=Qe h;obtain ⟨x37,h38,h⟩:=Qe h;rcases Qf h with ⟨h39,h⟩|⟨h39,h⟩
   ·obtain rfl:=Qd h;exact rK Qg 3 [j3,j3,([],[(3,.idx (Int.toNat v27) (Qc.cells x35)),jH 5 (jB x37)],[]),j3] [some true,some true] [] [] [4] .ret ((f76_65n2E bb1 (.ret v27)).2) (ap h29 (ap (Qi h36).1 (ap (Qq Qc.cells (Qi h36).2) (ap (f65_ok x35 h38) (ap h39 an))))) (Qs.out rfl rfl)
   ·exact rE Qg [j3,j3,([],[(3,.idx (Int.toNat v27) (Qc.cells x35)),jH 5 (jB x37)],[]),j3] [some true,some false] [] [] [0,1,7,8] (.norm,(f76_65n2S bb1 (wr64 (v27+1)))) (ap h29 (ap (Qi h36).1 (ap (Qq Qc.cells (Qi h36).2) (ap (f65_ok x35 h38) (ap h39 an))))) (Qs.norm ⟨(wr64 (v27+1)),rfl,h⟩)
  ·obtain rfl:=Qd h;exact rK Qg 2 [j3] [some false] [] [] [] (.exit 0) ((f76_65n2E bb1 .exit0).2) (ap h29 an) (Qs.out rfl rfl)
noncomputable def f76_65n2L(bb1:List Qc):List Qc→Int→Option f76_65n2O
 | [],v27 =>
  some .exit0
 | x0::rest,v27 =>
  (f65 x0).bind fun x37 =>
  bif x37 then
   some (.ret v27)
  else
   (f76_65n2L bb1 rest (v27+1))
theorem f76_65n2L_eq(bb1:List Qc):∀(rest:List Qc)(f k:Nat),bb1.drop k=rest→bb1.length≤maxLen→rest.length<f→f76_65n2 f bb1 (k:Int)=f76_65n2L bb1 rest (k:Int)
 | _,0,_,_,_,hf=>absurd hf (Nat.not_lt_zero _)
 | [],f+1,k,hd,hm,hf=>by
  have hk:¬((k:Int)<(bb1.length:Int)):=by have:=Qab hd; omega
  rw [f76_65n2,f76_65n2L];simp only [decide_eq_false hk,cond_false]
 | x0::rest,f+1,k,hd,hm,hf=>by
  obtain ⟨hx,hlt,hd'⟩:=Qah hd;have hk:(k:Int)<(bb1.length:Int):=by omega
  have hw:wr64 ((k:Int)+1)=(k:Int)+1:=Qbi (by omega) (by unfold maxLen at hm; omega);have ih:f76_65n2 f bb1 ((k:Int)+1)=f76_65n2L bb1 rest ((k:Int)+1):=f76_65n2L_eq bb1 rest f (k+1) hd' hm (by simpa using hf);rw [f76_65n2,f76_65n2L];simp only [decide_eq_true hk,cond_true,Qbt,hx,Option.bind_some,hw,ih]
theorem f76_65n2_run(bb1:List Qc)(hm:bb1.length≤maxLen):f76_65n2 FUEL bb1 0=f76_65n2L bb1 bb1 0:=f76_65n2L_eq bb1 bb1 FUEL 0 List.drop_zero hm (Qbe hm)
inductive f76_65n1O where
 | norm
 | ret (v44:Int)
def f76_65n1E(bb1:List Qc):f76_65n1O→Ex×Tr×Hp
 | .norm=>(.norm,mkS [],[])
 | .ret v44=>(.ret,mkS [(4,(jI v44))],[])
def f76_65n1S(bb1:List Qc):Tr×Hp:=(mkS [(0,(jL 3 Qc.cells bb1)),(1,(.pl (.fn 65)))],[])
noncomputable def f76_65n1(bb1:List Qc):Option f76_65n1O :=
 (f76_65n2 FUEL bb1 0).bind fun o41=>match o41 with
 | .exit0=>some .norm
 | .ret v43=>some (.ret v43)
theorem f76_65n1_ok(bb1:List Qc){o:f76_65n1O}(h:f76_65n1 bb1=some o):T Try.prog Try.f76.ntmps 0 (cL (Ql 1 c76)) (f76_65n1S bb1) (·=f76_65n1E bb1 o):=by
 unfold f76_65n1 at h;refine rN Qg 1 [([],[],[(1,.val (jI (bb1.length:Int)))])] [] [] [] [0,1,7,8] (f76_65n2S bb1 0) (ap (Qr (xs:=bb1) (c:=Qc.cells)) an) ?_;obtain ⟨o41,h42,h⟩:=Qe h;cases o41 with
 | exit0 =>
  obtain rfl:=Qd h;exact T.last' (T.bl (i:=0) (by kernel_rfl) (by kernel_rfl) (f76_65n2_ok FUEL bb1 0 h42)) (tds:=[]) (m:=[]) (keep:=[]) (st2:=(f76_65n1E bb1 .norm).2) (by kernel_rfl) an rfl
 | ret v43 =>
  obtain rfl:=Qd h;exact T.last' (T.bl (i:=0) (by kernel_rfl) (by kernel_rfl) (f76_65n2_ok FUEL bb1 0 h42)) (tds:=[]) (m:=[]) (keep:=[4]) (st2:=(f76_65n1E bb1 (.ret v43)).2) (by kernel_rfl) an rfl
inductive f76_65n0O where
 | ret (v48:Int)
def f76_65n0E(a1:List Qc):f76_65n0O→Ex×Tr×Hp
 | .ret v48=>(.ret,mkS [(4,(jI v48))],[])
def f76_65n0S(a1:List Qc):Tr×Hp:=(Qad [(jL 3 Qc.cells a1),(.pl (.fn 65))] 0 .leaf,[])
noncomputable def f76_65n0(a1:List Qc):Option f76_65n0O :=
 (f76_65n1 a1).bind fun o45=>match o45 with
 | .norm=>some (.ret (-1))
 | .ret v47=>some (.ret v47)
theorem f76_65n0_ok(a1:List Qc){o:f76_65n0O}(h:f76_65n0 a1=some o):T Try.prog Try.f76.ntmps 0 c76 (f76_65n0S a1) (·=f76_65n0E a1 o):=by
 unfold f76_65n0 at h;refine rN Qg 1 [j3] [] [] [] [0,1] (f76_65n1S a1) an ?_;obtain ⟨o45,h46,h⟩:=Qe h;cases o45 with
 | norm =>
  refine T.oneN (by kernel_rfl) (f76_65n1_ok a1 h46) (st2:=(f76_65n1E a1 .norm).2) rfl ?_;obtain rfl:=Qd h;exact rE Qg [j3] [] [] [] [4] (.ret,(f76_65n0E a1 (.ret (-1))).2) an rfl
 | ret v47 =>
  obtain rfl:=Qd h;exact T.oneX' (by kernel_rfl) (f76_65n1_ok a1 h46) (tds:=[]) (m:=[]) (keep:=[4]) (st2:=(f76_65n0E a1 (.ret v47)).2) (by kernel_rfl) an rfl rfl
noncomputable def f76_65(a1:List Qc):Option Int:=(f76_65n0 a1).bind fun o=>match o with
 | .ret v48=>some v48
theorem f76_65_ok(a1:List Qc){r:Int}(h:f76_65 a1=some r):Qo Try.prog false 76 [(jL 3 Qc.cells a1),(.pl (.fn 65))] [] (jI r) []:=by
 unfold f76_65 at h;obtain ⟨o,ho,h⟩:=Qe h;cases o with
 | ret v48 =>
  obtain rfl:=Qd h;exact Qo.plain Qg (f:=Try.f76) (c:=c76) (by kernel_rfl) (by kernel_rfl) (by kernel_rfl) (by kernel_rfl) ((f76_65n0_ok a1 ho).mono fun r e=>by subst e; exact ⟨.inl rfl,(jI v48),(jI v48),by kernel_rfl,by kernel_rfl,((Wk.refl _):Wk (jI v48) (jI v48))⟩)

noncomputable def c68:Code:=Try.f68.body.getD .skip
inductive f68_65n0O where
 | ret (v6:Bool)
def f68_65n0E(a1:List Qc):f68_65n0O→Ex×Tr×Hp
 | .ret v6=>(.ret,mkS [(4,(jB v6))],[])
def f68_65n0S(a1:List Qc):Tr×Hp:=(Qad [(jL 3 Qc.cells a1),(.pl (.fn 65))] 0 .leaf,[])
noncomputable def f68_65n0(a1:List Qc):Option f68_65n0O :=
 (f76_65 a1).bind fun x4 =>
 some (.ret (decide (0≤x4)))
theorem f68_65n0_ok(a1:List Qc){o:f68_65n0O}(h:f68_65n0 a1=some o):T Try.prog Try.f68.ntmps 0 c68 (f68_65n0S a1) (·=f68_65n0E a1 o):=by
 unfold f68_65n0 at h;obtain ⟨x4,h5,h⟩:=Qe h;obtain rfl:=Qd h;exact rE Qg [j3,([],[jH 2 (jI x4)],[])] [] [] [] [4] (.ret,(f68_65n0E a1 (.ret (decide (0≤x4)))).2) (ap (f76_65_ok a1 h5) an) rfl
noncomputable def f68_65(a1:List Qc):Option Bool:=(f68_65n0 a1).bind fun o=>match o with
 | .ret v6=>some v6
theorem f68_65_ok(a1:List Qc){r:Bool}(h:f68_65 a1=some r):Qo Try.prog false 68 [(jL 3 Qc.cells a1),(.pl (.fn 65))] [] (jB r) []:=by
 unfold f68_65 at h;obtain ⟨o,ho,h⟩:=Qe h;cases o with
 | ret v6 =>
  obtain rfl:=Qd h;exact Qo.plain Qg (f:=Try.f68) (c:=c68) (by kernel_rfl) (by kernel_rfl) (by kernel_rfl) (by kernel_rfl) ((f68_65n0_ok a1 ho).mono fun r e=>by subst e; exact ⟨.inl rfl,(jB v6),(jB v6),by kernel_rfl,by kernel_rfl,((Wk.refl _):Wk (jB v6) (jB v6))⟩)

noncomputable def c48:Code:=Try.f48.body.getD .skip
inductive f48n2O where
 | exit0
 | ret
def f48n2E(bc1:Qa):f48n2O→Ex×Tr×Hp
 | .exit0=>((.exit 0),mkS [(1,(.bp 0 0))],[some (.box ((Qa.cells bc1).map .pl))])
 | .ret=>(.ret,mkS [(2,(jB false))],[])
def f48n2S(bc1:Qa)(v25:Int):Tr×Hp:=(mkS [(1,(.bp 0 0)),(9,(.pl (.sl .any 1 ((ofB bc1.Text).map (cInt .u8))))),(10,(jI ((ofB bc1.Text).length:Int))),(11,(jI v25))],[some (.box ((Qa.cells bc1).map .pl))])
noncomputable def f48n2:Nat→Qa→Int→Option f48n2O
 | 0,_,_=>none
 | f+1,bc1,v25 =>
  bif (decide (v25<((ofB bc1.Text).length:Int))) then
   (at? (ofB bc1.Text) v25).bind fun x32 =>
   bif decide (x32<32) then
    some .ret
   else
    bif decide (126<x32) then
     some .ret
    else
     (f48n2 f bc1 (wr64 (v25+1)))
  else
   some .exit0
theorem f48n2_ok:∀(f:Nat)(bc1:Qa)(v25:Int){o:f48n2O},f48n2 f bc1 v25=some o→TL Try.prog Try.f48.ntmps 0 f (cL (cL (Ql 1 (cL (Ql 1 c48))))) (f48n2S bc1 v25) (·=f48n2E bc1 o)
 | 0,_,_,o,h=>by rw [f48n2] at h; cases h
 | f+1,bc1,v25,o,h=>by
  rw [f48n2] at h;refine TL.body (K:=fun s=>∃v25:Int,s=(f48n2S bc1 v25)∧f48n2 f bc1 v25=some o) ?_ (by rintro _ ⟨v25,rfl,hk⟩; exact f48n2_ok f _ _ hk);rcases Qf h with ⟨h27,h⟩|⟨h27,h⟩
  ·obtain ⟨x32,h33,h⟩:=Qe h;rcases Qf h with ⟨h34,h⟩|⟨h34,h⟩
   ·obtain rfl:=Qd h;exact rK Qg 3 [j3,([],[(0,.idx (Int.toNat v25) ((cInt .u8) x32))],[]),([(3,true),(4,true)],[(5,.bool true)],[]),j3] [some true,none] [] [] [2] .ret ((f48n2E bc1 .ret).2) (ap h27 (ap (Qi h33).1 (ap (Qq (cInt .u8) (Qi h33).2) (ap3 h34 an)))) (Qs.out rfl rfl)
   ·rcases Qf h with ⟨h35,h⟩|⟨h35,h⟩
    ·obtain rfl:=Qd h;exact rK Qg 3 [j3,([],[(0,.idx (Int.toNat v25) ((cInt .u8) x32))],[]),([(3,false),(4,false)],[(5,.bool false)],[]),j3] [some true,some true] [] [] [2] .ret ((f48n2E bc1 .ret).2) (ap h27 (ap (Qi h33).1 (ap (Qq (cInt .u8) (Qi h33).2) (ap3 h34 (ap h35 an))))) (Qs.out rfl rfl)
    ·exact rE Qg [j3,([],[(0,.idx (Int.toNat v25) ((cInt .u8) x32))],[]),([(3,false),(4,false)],[(5,.bool false)],[]),j3] [some true,some false] [] [0] [1,9,10,11] (.norm,(f48n2S bc1 (wr64 (v25+1)))) (ap h27 (ap (Qi h33).1 (ap (Qq (cInt .u8) (Qi h33).2) (ap3 h34 (ap h35 an))))) (Qs.norm ⟨(wr64 (v25+1)),rfl,h⟩)
  ·obtain rfl:=Qd h;exact rK Qg 2 [j3] [some false] [] [0] [1] (.exit 0) ((f48n2E bc1 .exit0).2) (ap h27 an) (Qs.out rfl rfl)
noncomputable def f48n2L(bc1:Qa):List Int→Int→Option f48n2O
 | [],v25 =>
  some .exit0
 | x0::rest,v25 =>
  bif decide (x0<32) then
   some .ret
  else
   bif decide (126<x0) then
    some .ret
   else
    (f48n2L bc1 rest (v25+1))
theorem f48n2L_eq(bc1:Qa):∀(rest:List Int)(f k:Nat),(ofB bc1.Text).drop k=rest→(ofB bc1.Text).length≤maxLen→rest.length<f→f48n2 f bc1 (k:Int)=f48n2L bc1 rest (k:Int)
 | _,0,_,_,_,hf=>absurd hf (Nat.not_lt_zero _)
 | [],f+1,k,hd,hm,hf=>by
  have hk:¬((k:Int)<((ofB bc1.Text).length:Int)):=by have:=Qab hd; omega
  rw [f48n2,f48n2L];simp only [decide_eq_false hk,cond_false]
 | x0::rest,f+1,k,hd,hm,hf=>by
  obtain ⟨hx,hlt,hd'⟩:=Qah hd;have hk:(k:Int)<((ofB bc1.Text).length:Int):=by omega
  have hw:wr64 ((k:Int)+1)=(k:Int)+1:=Qbi (by omega) (by unfold maxLen at hm; omega);have ih:f48n2 f bc1 ((k:Int)+1)=f48n2L bc1 rest ((k:Int)+1):=f48n2L_eq bc1 rest f (k+1) hd' hm (by simpa using hf);rw [f48n2,f48n2L];simp only [decide_eq_true hk,cond_true,Qbt,hx,Option.bind_some,hw,ih]
theorem f48n2_run(bc1:Qa)(hm:(ofB bc1.Text).length≤maxLen):f48n2 FUEL bc1 0=f48n2L bc1 (ofB bc1.Text) 0:=f48n2L_eq bc1 (ofB bc1.Text) FUEL 0 List.drop_zero hm (Qbe hm)
inductive f48n1O where
 | norm
 | ret
def f48n1E(bc1:Qa):f48n1O→Ex×Tr×Hp
 | .norm=>(.norm,mkS [(1,(.bp 0 0))],[some (.box ((Qa.cells bc1).map .pl))])
 | .ret=>(.ret,mkS [(2,(jB false))],[])
def f48n1S(bc1:Qa):Tr×Hp:=(mkS [(1,(.bp 0 0))],[some (.box ((Qa.cells bc1).map .pl))])
noncomputable def f48n1(bc1:Qa):Option f48n1O :=
 req (decide (bc1.Text.size≤9223372036854775807)) <|
 (f48n2 FUEL bc1 0).bind fun o36=>match o36 with
 | .exit0=>some .norm
 | .ret=>some .ret
theorem f48n1_ok(bc1:Qa){o:f48n1O}(h:f48n1 bc1=some o):T Try.prog Try.f48.ntmps 0 (cL (Ql 1 c48)) (f48n1S bc1) (·=f48n1E bc1 o):=by
 unfold f48n1 at h;obtain ⟨h3,h⟩:=Qaf h;refine rN Qg 1 [([],[(2,.fits)],[(2,.val (.pl (.sl .any 1 ((ofB bc1.Text).map (cInt .u8))))),(3,.val (jI ((ofB bc1.Text).length:Int)))])] [] [] [0] [1,9,10,11] (f48n2S bc1 0) (ap (of_decide_eq_true h3) (ap (congrArg (fun l=>AV.pl (.sl .any 1 l)) (ofB_cv (s:=bc1.Text))) (ap (Qr (xs:=(ofB bc1.Text)) (c:=(cInt .u8))) an))) ?_;obtain ⟨o36,h37,h⟩:=Qe h;cases o36 with
 | exit0 =>
  obtain rfl:=Qd h;exact T.last' (T.bl (i:=0) (by kernel_rfl) (by kernel_rfl) (f48n2_ok FUEL bc1 0 h37)) (tds:=[]) (m:=[0]) (keep:=[1]) (st2:=(f48n1E bc1 .norm).2) (by kernel_rfl) an rfl
 | ret =>
  obtain rfl:=Qd h;exact T.last' (T.bl (i:=0) (by kernel_rfl) (by kernel_rfl) (f48n2_ok FUEL bc1 0 h37)) (tds:=[]) (m:=[]) (keep:=[2]) (st2:=(f48n1E bc1 .ret).2) (by kernel_rfl) an rfl
inductive f48n0O where
 | ret (v54:Bool)
def f48n0E(a1:Qa):f48n0O→Ex×Tr×Hp
 | .ret v54=>(.ret,mkS [(2,(jB v54))],[])
def f48n0S(a1:Qa):Tr×Hp:=(Qad [(jA Qa.cells a1)] 0 .leaf,[])
noncomputable def f48n0(a1:Qa):Option f48n0O :=
 (f48n1 a1).bind fun o38=>match o38 with
 | .norm=>bif decide (0≤a1.Day) then
   bif decide (a1.Day≤99999) then
    bif decide ((a1.Text.size:Int)≤100) then
     bif decide (2≤(a1.Lines.length:Int)) then
      bif decide ((a1.Lines.length:Int)≤20) then
       (f68_65 a1.Lines).bind fun x52 =>
       some (.ret (!x52))
      else
       some (.ret false)
     else
      some (.ret false)
    else
     some (.ret false)
   else
    some (.ret false)
  else
   some (.ret false)
 | .ret=>some (.ret false)
theorem f48n0_ok(a1:Qa){o:f48n0O}(h:f48n0 a1=some o):T Try.prog Try.f48.ntmps 0 c48 (f48n0S a1) (·=f48n0E a1 o):=by
 unfold f48n0 at h;refine rN Qg 1 [j3] [] [] [0] [1] (f48n1S a1) an ?_;obtain ⟨o38,h39,h⟩:=Qe h;cases o38 with
 | norm =>
  refine T.oneN (by kernel_rfl) (f48n1_ok a1 h39) (st2:=(f48n1E a1 .norm).2) rfl ?_;rcases Qf h with ⟨h47,h⟩|⟨h47,h⟩
  ·rcases Qf h with ⟨h48,h⟩|⟨h48,h⟩
   ·rcases Qf h with ⟨h49,h⟩|⟨h49,h⟩
    ·rcases Qf h with ⟨h50,h⟩|⟨h50,h⟩
     ·rcases Qf h with ⟨h51,h⟩|⟨h51,h⟩
      ·obtain ⟨x52,h53,h⟩:=Qe h;obtain rfl:=Qd h;exact rE Qg [j3,([],[],[(2,.val (jI (a1.Lines.length:Int)))]),(jT [4,5,6,9,10,11,12,15,16,19,20,23,24,25,26,27],[(7,.bool true),(13,.bool true),(17,.bool true),(21,.bool true),jH 26 (jB x52),(28,.bool true)],[])] [] [] [] [2] (.ret,(f48n0E a1 (.ret (!x52))).2) (ap (Qr (xs:=a1.Lines) (c:=Qc.cells)) (ap4 h47 (ap h48 (ap4 h48 (ap3 h49 (ap3 h50 (ap2 h51 (ap4 h51 (ap (f68_65_ok a1.Lines h53) an))))))))) rfl
      ·obtain rfl:=Qd h;exact rE Qg [j3,([],[],[(2,.val (jI (a1.Lines.length:Int)))]),(jF [23,24,25,26,27]++jT [4,5,6,9,10,11,12,15,16,19,20],[(7,.bool true),(13,.bool true),(17,.bool true),(21,.bool true),(28,.bool false)],[])] [] [] [] [2] (.ret,(f48n0E a1 (.ret false)).2) (ap (Qr (xs:=a1.Lines) (c:=Qc.cells)) (ap4 h47 (ap h48 (ap4 h48 (ap3 h49 (ap3 h50 (ap2 h51 (ap4 h51 an)))))))) rfl
     ·obtain rfl:=Qd h;exact rE Qg [j3,([],[],[(2,.val (jI (a1.Lines.length:Int)))]),(jF [19,20]++jT [4,5,6,9,10,11,12,15,16],[(7,.bool true),(13,.bool true),(17,.bool true),(21,.bool false)],[])] [] [] [] [2] (.ret,(f48n0E a1 (.ret false)).2) (ap (Qr (xs:=a1.Lines) (c:=Qc.cells)) (ap4 h47 (ap h48 (ap4 h48 (ap3 h49 (ap3 h50 an)))))) rfl
    ·obtain rfl:=Qd h;exact rE Qg [j3,([],[],[(2,.val (jI (a1.Lines.length:Int)))]),(jF [15,16]++jT [4,5,6,9,10,11,12],[(7,.bool true),(13,.bool true),(17,.bool false)],[])] [] [] [] [2] (.ret,(f48n0E a1 (.ret false)).2) (ap (Qr (xs:=a1.Lines) (c:=Qc.cells)) (ap4 h47 (ap h48 (ap4 h48 (ap3 h49 an))))) rfl
   ·obtain rfl:=Qd h;exact rE Qg [j3,([],[],[(2,.val (jI (a1.Lines.length:Int)))]),(jF [9,10,11,12]++jT [4,5,6],[(7,.bool true),(13,.bool false)],[])] [] [] [] [2] (.ret,(f48n0E a1 (.ret false)).2) (ap (Qr (xs:=a1.Lines) (c:=Qc.cells)) (ap4 h47 (ap h48 (ap4 h48 an)))) rfl
  ·obtain rfl:=Qd h;exact rE Qg [j3,([],[],[(2,.val (jI (a1.Lines.length:Int)))]),(jF [4,5,6],[(7,.bool false)],[])] [] [] [] [2] (.ret,(f48n0E a1 (.ret false)).2) (ap (Qr (xs:=a1.Lines) (c:=Qc.cells)) (ap4 h47 an)) rfl
 | ret =>
  obtain rfl:=Qd h;exact T.oneX' (by kernel_rfl) (f48n1_ok a1 h39) (tds:=[]) (m:=[]) (keep:=[2]) (st2:=(f48n0E a1 (.ret false)).2) (by kernel_rfl) an rfl rfl
noncomputable def f48(a1:Qa):Option Bool:=(f48n0 a1).bind fun o=>match o with
 | .ret v54=>some v54
theorem f48_ok(a1:Qa){r:Bool}(h:f48 a1=some r):Qo Try.prog false 48 [(jA Qa.cells a1)] [] (jB r) []:=by
 unfold f48 at h;obtain ⟨o,ho,h⟩:=Qe h;cases o with
 | ret v54 =>
  obtain rfl:=Qd h;exact Qo.plain Qg (f:=Try.f48) (c:=c48) (by kernel_rfl) (by kernel_rfl) (by kernel_rfl) (by kernel_rfl) ((f48n0_ok a1 ho).mono fun r e=>by subst e; exact ⟨.inl rfl,(jB v54),(jB v54),by kernel_rfl,by kernel_rfl,((Wk.refl _):Wk (jB v54) (jB v54))⟩)

noncomputable def c49:Code:=Try.f49.body.getD .skip
inductive f49n2O where
 | exit0 (v24:List (ByteArray×Int))
def f49n2E(bc1:Qa):f49n2O→Ex×Tr×Hp
 | .exit0 v24=>((.exit 0),mkS [(3,(.mp 0))],[some (.map (v24.map (mkv pStr (pInt .i64))))])
def f49n2S(bc1:Qa)(v16:Int)(v17:List (ByteArray×Int)):Tr×Hp:=(mkS [(3,(.mp 0)),(10,(jL 3 Qc.cells bc1.Lines)),(11,(jI (bc1.Lines.length:Int))),(12,(jI v16))],[some (.map (v17.map (mkv pStr (pInt .i64))))])
noncomputable def f49n2:Nat→Qa→Int→List (ByteArray×Int)→Option f49n2O
 | 0,_,_,_=>none
 | f+1,bc1,v16,v17 =>
  bif decide (v16<(bc1.Lines.length:Int)) then
   (at? bc1.Lines v16).bind fun x22 =>
   (f49n2 f bc1 (wr64 (v16+1)) (mPut seq x22.Ccy (wr64 ((mGet seq 0 x22.Ccy v17)+x22.Amount)) v17))
  else
   some (.exit0 v17)
theorem f49n2_ok:∀(f:Nat)(bc1:Qa)(v16:Int)(v17:List (ByteArray×Int)){o:f49n2O},f49n2 f bc1 v16 v17=some o→TL Try.prog Try.f49.ntmps 0 f (cL (cL (Ql 1 (cL (Ql 2 c49))))) (f49n2S bc1 v16 v17) (·=f49n2E bc1 o)
 | 0,_,_,_,o,h=>by rw [f49n2] at h; cases h
 | f+1,bc1,v16,v17,o,h=>by
  rw [f49n2] at h;refine TL.body (K:=fun s=>∃v16:Int,∃v17:List (ByteArray×Int),s=(f49n2S bc1 v16 v17)∧f49n2 f bc1 v16 v17=some o) ?_ (by rintro _ ⟨v16,v17,rfl,hk⟩; exact f49n2_ok f _ _ _ hk);rcases Qf h with ⟨h19,h⟩|⟨h19,h⟩
  ·obtain ⟨x22,h23,h⟩:=Qe h;exact rE Qg [j3,([],[(0,.idx (Int.toNat v16) (Qc.cells x22))],[]),([],[(3,.look ((pInt .i64) (mGet seq 0 x22.Ccy v17)) (mHas seq x22.Ccy v17)),(7,.mset ((mPut seq x22.Ccy (wr64 ((mGet seq 0 x22.Ccy v17)+x22.Amount)) v17).map (mkv pStr (pInt .i64))))],[]),j3] [some true] [] [0] [3,10,11,12] (.norm,(f49n2S bc1 (wr64 (v16+1)) (mPut seq x22.Ccy (wr64 ((mGet seq 0 x22.Ccy v17)+x22.Amount)) v17))) (ap h19 (ap (Qi h23).1 (ap (Qq Qc.cells (Qi h23).2) (ap (look_map (vp:=(pInt .i64)) (e:=3) key_9 0 (by kernel_rfl) x22.Ccy v17) (ap (mset_map (vp:=(pInt .i64)) key_9 x22.Ccy (wr64 ((mGet seq 0 x22.Ccy v17)+x22.Amount)) v17) an))))) (Qs.norm ⟨(wr64 (v16+1)),(mPut seq x22.Ccy (wr64 ((mGet seq 0 x22.Ccy v17)+x22.Amount)) v17),rfl,h⟩)
  ·obtain rfl:=Qd h;exact rK Qg 2 [j3] [some false] [] [0] [3] (.exit 0) ((f49n2E bc1 (.exit0 v17)).2) (ap h19 an) (Qs.out rfl rfl)
noncomputable def f49n2L(bc1:Qa):List Qc→Int→(List (ByteArray×Int))→Option f49n2O
 | [],v16,v17 =>
  some (.exit0 v17)
 | x0::rest,v16,v17 =>
  (f49n2L bc1 rest (v16+1) (mPut seq x0.Ccy (wr64 ((mGet seq 0 x0.Ccy v17)+x0.Amount)) v17))
theorem f49n2L_eq(bc1:Qa):∀(rest:List Qc)(f k:Nat)(v17:List (ByteArray×Int)),bc1.Lines.drop k=rest→bc1.Lines.length≤maxLen→rest.length<f→f49n2 f bc1 (k:Int) v17=f49n2L bc1 rest (k:Int) v17
 | _,0,_,_,_,_,hf=>absurd hf (Nat.not_lt_zero _)
 | [],f+1,k,v17,hd,hm,hf=>by
  have hk:¬((k:Int)<(bc1.Lines.length:Int)):=by have:=Qab hd; omega
  rw [f49n2,f49n2L];simp only [decide_eq_false hk,cond_false]
 | x0::rest,f+1,k,v17,hd,hm,hf=>by
  obtain ⟨hx,hlt,hd'⟩:=Qah hd;have hk:(k:Int)<(bc1.Lines.length:Int):=by omega
  have hw:wr64 ((k:Int)+1)=(k:Int)+1:=Qbi (by omega) (by unfold maxLen at hm; omega);have ih:∀(v17:List (ByteArray×Int)),f49n2 f bc1 ((k:Int)+1) v17=f49n2L bc1 rest ((k:Int)+1) v17:=fun v17=>f49n2L_eq bc1 rest f (k+1) v17 hd' hm (by simpa using hf);rw [f49n2,f49n2L];simp only [decide_eq_true hk,cond_true,Qbt,hx,Option.bind_some,hw,ih]
theorem f49n2_run(bc1:Qa)(v17:List (ByteArray×Int))(hm:bc1.Lines.length≤maxLen):f49n2 FUEL bc1 0 v17=f49n2L bc1 bc1.Lines 0 v17:=f49n2L_eq bc1 bc1.Lines FUEL 0 v17 List.drop_zero hm (Qbe hm)
inductive f49n1O where
 | norm (v28:List (ByteArray×Int))
def f49n1E(bc1:Qa):f49n1O→Ex×Tr×Hp
 | .norm v28=>(.norm,mkS [(3,(.mp 0))],[some (.map (v28.map (mkv pStr (pInt .i64))))])
def f49n1S(bc1:Qa):Tr×Hp:=(mkS [(1,(.bp 0 0)),(3,(.mp 1))],[some (.box ((Qa.cells bc1).map .pl)),some (.map ([].map (mkv pStr (pInt .i64))))])
noncomputable def f49n1(bc1:Qa):Option f49n1O :=
 (f49n2 FUEL bc1 0 []).bind fun o25=>match o25 with
 | .exit0 v27=>some (.norm v27)
theorem f49n1_ok(bc1:Qa){o:f49n1O}(h:f49n1 bc1=some o):T Try.prog Try.f49.ntmps 0 (cL (Ql 2 c49)) (f49n1S bc1) (·=f49n1E bc1 o):=by
 unfold f49n1 at h;refine rN Qg 1 [([],[],[(2,.val (jI (bc1.Lines.length:Int)))])] [] [] [1] [3,10,11,12] (f49n2S bc1 0 []) (ap (Qr (xs:=bc1.Lines) (c:=Qc.cells)) an) ?_;obtain ⟨o25,h26,h⟩:=Qe h;cases o25 with
 | exit0 v27 =>
  obtain rfl:=Qd h;exact T.last' (T.bl (i:=0) (by kernel_rfl) (by kernel_rfl) (f49n2_ok FUEL bc1 0 [] h26)) (tds:=[]) (m:=[0]) (keep:=[3]) (st2:=(f49n1E bc1 (.norm v27)).2) (by kernel_rfl) an rfl
inductive f49n4O where
 | exit2
 | ret
def f49n4E(bg1:List (ByteArray×Int)):f49n4O→Ex×Tr×Hp
 | .exit2=>((.exit 2),mkS [],[])
 | .ret=>(.ret,mkS [(2,(jB false))],[])
def f49n4S(bg1:List (ByteArray×Int))(sn0:List Nat):Tr×Hp:=(mkS [(25,(.it 0))],[some (.iter 1 (bg1.map (mkv pStr (pInt .i64))).length sn0),some (.map (bg1.map (mkv pStr (pInt .i64))))])
noncomputable def f49n4(bg1:List (ByteArray×Int)):List (ByteArray×Int)→Option f49n4O
 | [] =>
  some .exit2
 | x38::rest =>
  bif decide (x38.2=0) then
   (f49n4 bg1 rest)
  else
   some .ret
theorem f49n4_ok(bg1:List (ByteArray×Int)):∀(f:Nat)(sn0 rem:List Nat){o:f49n4O},Rem bg1.length sn0 rem→rem.length<f→(∀p,p.Perm rem→f49n4 bg1 (ords bg1 p)=some o)→TL Try.prog Try.f49.ntmps 0 f (cL (cL (Ql 1 (cL (Ql 0 (Ql 1 (Ql 2 c49))))))) (f49n4S bg1 sn0) (·=f49n4E bg1 o)
 | 0,_,_,_,_,hf,_=>absurd hf (Nat.not_lt_zero _)
 | f+1,sn0,rem,o,hR,hf,H=>by
  refine TL.body (K:=fun s=>∃(sn0 rem:List Nat),s=f49n4S bg1 sn0∧Rem bg1.length sn0 rem∧rem.length<f∧(∀p,p.Perm rem→f49n4 bg1 (ords bg1 p)=some o)) ?_ (by rintro _ ⟨sn0,rem,rfl,h1,h2,h3⟩; exact f49n4_ok bg1 f sn0 rem h1 h2 h3);refine T.oneNext Qg (x:=.tmp 25) (t:=26) (tb:=27) (i:=0) (o:=1) (m:=(bg1.map (mkv pStr (pInt .i64))).length) (seen:=sn0) (kvs:=(bg1.map (mkv pStr (pInt .i64)))) (by kernel_rfl) (by kernel_rfl) (by kernel_rfl) (by kernel_rfl) (by kernel_rfl) (by kernel_rfl) rfl (fun hs=>?_) (fun j37 k v hj hs hx=>?_)
  ·obtain rfl:=hR.none (by simpa using hs);have h:f49n4 bg1 []=some o:=H [] (List.Perm.refl _);rw [f49n4] at h;obtain rfl:=Qd h;exact rK Qg 1 [] [none] [] [] [] (.exit 2) ((f49n4E bg1 .exit2).2) an (Qs.out rfl rfl)
  ·obtain ⟨x38,h39,rfl,rfl⟩:=mkv_at hx;obtain ⟨hR2,hlen,hP⟩:=hR.step (j:=j37) (by simpa using hj) hs;have H2:∀p,p.Perm (rem.erase j37)→f49n4 bg1 (x38::ords bg1 p)=some o:=fun p hp=>by have h:=H _ (hP p hp); rwa [ords_cons h39] at h
   have h:=H2 _ (List.Perm.refl _);rw [f49n4] at h;rcases Qf h with ⟨h41,h⟩|⟨h41,h⟩
   ·exact rE Qg [([],[(0,.entr j37 (pStr x38.1) ((pInt .i64) x38.2))],[]),j3] [none,some false] [] [0,1] [25] (.norm,(f49n4S bg1 (sn0++[j37]))) (ap (last_app (seen:=sn0) (j:=j37)) (ap (rfl:(bg1.map (mkv pStr (pInt .i64))).length=(bg1.map (mkv pStr (pInt .i64))).length) (ap (at_mkv (kp:=pStr) (vp:=(pInt .i64)) h39) (ap (Qp h41) an)))) (Qs.norm ⟨sn0++[j37],rem.erase j37,rfl,hR2,by omega,fun p hp=>by have h:=H2 p hp; rw [f49n4] at h; simp only [h41,cond_true,cond_false,Option.bind_some,req] at h; exact h⟩)
   ·obtain rfl:=Qd h;exact rE Qg [([],[(0,.entr j37 (pStr x38.1) ((pInt .i64) x38.2))],[]),j3,j3] [none,some true] [] [] [2] (.ret,(f49n4E bg1 .ret).2) (ap (last_app (seen:=sn0) (j:=j37)) (ap (rfl:(bg1.map (mkv pStr (pInt .i64))).length=(bg1.map (mkv pStr (pInt .i64))).length) (ap (at_mkv (kp:=pStr) (vp:=(pInt .i64)) h39) (ap (Qw h41) an)))) (Qs.out rfl rfl)
inductive f49n3O where
 | norm
 | ret
def f49n3E(bg1:List (ByteArray×Int)):f49n3O→Ex×Tr×Hp
 | .norm=>(.norm,mkS [],[])
 | .ret=>(.ret,mkS [(2,(jB false))],[])
def f49n3S(bg1:List (ByteArray×Int)):Tr×Hp:=(mkS [(3,(.mp 0))],[some (.map (bg1.map (mkv pStr (pInt .i64))))])
noncomputable def f49n3(bg1:List (ByteArray×Int)):Option f49n3O :=
 (anyOrder bg1 fun p=>(f49n4 bg1 p)).bind fun o42=>match o42 with
 | .exit2=>some .norm
 | .ret=>some .ret
theorem f49n3_ok(bg1:List (ByteArray×Int)){o:f49n3O}(h:f49n3 bg1=some o):T Try.prog Try.f49.ntmps 0 (cL (Ql 0 (Ql 1 (Ql 2 c49)))) (f49n3S bg1) (·=f49n3E bg1 o):=by
 unfold f49n3 at h;refine rN Qg 1 [j3] [] [] [1,0] [25] (f49n4S bg1 []) an ?_;obtain ⟨o42,h43,h⟩:=Qe h;cases o42 with
 | exit2 =>
  obtain rfl:=Qd h;exact T.last' (T.bl (i:=2) (by kernel_rfl) (by kernel_rfl) (f49n4_ok bg1 _ [] (List.range bg1.length) (Rem.start _) (Nat.lt_succ_self _) (fun p hp=>anyOrder_at h43 _ (ords_perm hp)))) (tds:=[]) (m:=[]) (keep:=[]) (st2:=(f49n3E bg1 .norm).2) (by kernel_rfl) an rfl
 | ret =>
  obtain rfl:=Qd h;exact T.last' (T.bl (i:=2) (by kernel_rfl) (by kernel_rfl) (f49n4_ok bg1 _ [] (List.range bg1.length) (Rem.start _) (Nat.lt_succ_self _) (fun p hp=>anyOrder_at h43 _ (ords_perm hp)))) (tds:=[]) (m:=[]) (keep:=[2]) (st2:=(f49n3E bg1 .ret).2) (by kernel_rfl) an rfl
inductive f49n0O where
 | ret (v46:Bool)
def f49n0E(a1:Qa):f49n0O→Ex×Tr×Hp
 | .ret v46=>(.ret,mkS [(2,(jB v46))],[])
def f49n0S(a1:Qa):Tr×Hp:=(Qad [(jA Qa.cells a1)] 0 .leaf,[])
noncomputable def f49n0(a1:Qa):Option f49n0O :=
 (f49n1 a1).bind fun o29=>match o29 with
 | .norm v31=>(f49n3 v31).bind fun o44=>match o44 with
  | .norm=>some (.ret true)
  | .ret=>some (.ret false)
theorem f49n0_ok(a1:Qa){o:f49n0O}(h:f49n0 a1=some o):T Try.prog Try.f49.ntmps 0 c49 (f49n0S a1) (·=f49n0E a1 o):=by
 unfold f49n0 at h;refine rN Qg 2 [j3,j3] [] [] [0,1] [1,3] (f49n1S a1) an ?_;obtain ⟨o29,h30,h⟩:=Qe h;cases o29 with
 | norm v31 =>
  refine T.oneN (by kernel_rfl) (f49n1_ok a1 h30) (st2:=(f49n1E a1 (.norm v31)).2) rfl ?_;refine rN Qg 0 [] [] [] [0] [3] (f49n3S v31) an ?_;obtain ⟨o44,h45,h⟩:=Qe h;cases o44 with
  | norm =>
   refine T.oneN (by kernel_rfl) (f49n3_ok v31 h45) (st2:=(f49n3E v31 .norm).2) rfl ?_;obtain rfl:=Qd h;exact rE Qg [j3] [] [] [] [2] (.ret,(f49n0E a1 (.ret true)).2) an rfl
  | ret =>
   obtain rfl:=Qd h;exact T.oneX' (by kernel_rfl) (f49n3_ok v31 h45) (tds:=[]) (m:=[]) (keep:=[2]) (st2:=(f49n0E a1 (.ret false)).2) (by kernel_rfl) an rfl rfl
noncomputable def f49(a1:Qa):Option Bool:=(f49n0 a1).bind fun o=>match o with
 | .ret v46=>some v46
theorem f49_ok(a1:Qa){r:Bool}(h:f49 a1=some r):Qo Try.prog false 49 [(jA Qa.cells a1)] [] (jB r) []:=by
 unfold f49 at h;obtain ⟨o,ho,h⟩:=Qe h;cases o with
 | ret v46 =>
  obtain rfl:=Qd h;exact Qo.plain Qg (f:=Try.f49) (c:=c49) (by kernel_rfl) (by kernel_rfl) (by kernel_rfl) (by kernel_rfl) ((f49n0_ok a1 ho).mono fun r e=>by subst e; exact ⟨.inl rfl,(jB v46),(jB v46),by kernel_rfl,by kernel_rfl,((Wk.refl _):Wk (jB v46) (jB v46))⟩)

noncomputable def c69:Code:=Try.f69.body.getD .skip
inductive f69r1n0O where
 | ret (v9:Bool)
def f69r1n0E(a1:Qc)(a2 a3:Int)(a4:List (Qh×Int)):f69r1n0O→Ex×Tr×Hp
 | .ret v9=>(.ret,mkS [(3,(jB v9))],[some (.box [(.bp 1 0)]),some (.box [(.mp 2),(jI a2),(jI a3)]),some (.map (a4.map (mkv (pAgg Qh.cells) (pInt .i64))))])
def f69r1n0S(a1:Qc)(a2 a3:Int)(a4:List (Qh×Int)):Tr×Hp:=(Qad [(jA Qc.cells a1),(.bp 0 0)] 0 .leaf,[some (.box [(.bp 1 0)]),some (.box [(.mp 2),(jI a2),(jI a3)]),some (.map (a4.map (mkv (pAgg Qh.cells) (pInt .i64))))])
noncomputable def f69r1n0(a1:Qc)(a2 a3:Int)(a4:List (Qh×Int)):Option f69r1n0O :=
 (f67 (mGet Qh.eqb 0 (Qh.mk a1.Account a1.Ccy) a4)).bind fun x7 =>
 some (.ret (!x7))
theorem f69r1n0_ok(a1:Qc)(a2 a3:Int)(a4:List (Qh×Int)){o:f69r1n0O}(h:f69r1n0 a1 a2 a3 a4=some o):T Try.prog Try.f69.ntmps 3 c69 (f69r1n0S a1 a2 a3 a4) (·=f69r1n0E a1 a2 a3 a4 o):=by
 unfold f69r1n0 at h;obtain ⟨x7,h8,h⟩:=Qe h;obtain rfl:=Qd h;exact rE Qg [j3,([],[(9,.look ((pInt .i64) (mGet Qh.eqb 0 (Qh.mk a1.Account a1.Ccy) a4)) (mHas Qh.eqb (Qh.mk a1.Account a1.Ccy) a4)),jH 10 (jB x7)],[])] [] [] [] [3] (.ret,(f69r1n0E a1 a2 a3 a4 (.ret (!x7))).2) (ap (look_map (vp:=(pInt .i64)) (e:=3) key_95 0 (by kernel_rfl) (Qh.mk a1.Account a1.Ccy) a4) (ap (f67_ok (mGet Qh.eqb 0 (Qh.mk a1.Account a1.Ccy) a4) h8) an)) rfl
noncomputable def f69r1(a1:Qc)(a2 a3:Int)(a4:List (Qh×Int)):Option Bool:=(f69r1n0 a1 a2 a3 a4).bind fun o=>match o with
 | .ret v9=>some v9
theorem f69r1_ok(a1:Qc)(a2 a3:Int)(a4:List (Qh×Int)){r:Bool}(h:f69r1 a1 a2 a3 a4=some r):Qo Try.prog true 69 [(jA Qc.cells a1),(.bp 0 0)] [some (.box [(.bp 1 0)]),some (.box [(.mp 2),(jI a2),(jI a3)]),some (.map (a4.map (mkv (pAgg Qh.cells) (pInt .i64))))] (jB r) [some (.box [(.bp 1 0)]),some (.box [(.mp 2),(jI a2),(jI a3)]),some (.map (a4.map (mkv (pAgg Qh.cells) (pInt .i64))))]:=by
 unfold f69r1 at h;obtain ⟨o,ho,h⟩:=Qe h;cases o with
 | ret v9 =>
  obtain rfl:=Qd h;exact Qo.shared Qg (f:=Try.f69) (c:=c69) (by kernel_rfl) (by kernel_rfl) (by kernel_rfl) ((f69r1n0_ok a1 a2 a3 a4 ho).mono fun r e=>by subst e; exact ⟨.inl rfl,by kernel_rfl,by kernel_rfl⟩)

inductive f76r1n2O where
 | exit0
 | ret (v43:Int)
def f76r1n2E(bb1:List Qc)(bf2 bf3:Int)(bh4:List (Qh×Int)):f76r1n2O→Ex×Tr×Hp
 | .exit0=>((.exit 0),mkS [],[some (.box [(.bp 1 0)]),some (.box [(.mp 2),(jI bf2),(jI bf3)]),some (.map (bh4.map (mkv (pAgg Qh.cells) (pInt .i64))))])
 | .ret v43=>(.ret,mkS [(4,(jI v43))],[some (.box [(.bp 1 0)]),some (.box [(.mp 2),(jI bf2),(jI bf3)]),some (.map (bh4.map (mkv (pAgg Qh.cells) (pInt .i64))))])
def f76r1n2S(bb1:List Qc)(bf2 bf3:Int)(bh4:List (Qh×Int))(v30:Int):Tr×Hp:=(mkS [(0,(jL 3 Qc.cells bb1)),(1,(.clo 69 [(.bp 0 0)])),(7,(jI (bb1.length:Int))),(8,(jI v30))],[some (.box [(.bp 1 0)]),some (.box [(.mp 2),(jI bf2),(jI bf3)]),some (.map (bh4.map (mkv (pAgg Qh.cells) (pInt .i64))))])
noncomputable def f76r1n2:Nat→List Qc→Int→Int→List (Qh×Int)→Int→Option f76r1n2O
 | 0,_,_,_,_,_=>none
 | f+1,bb1,bf2,bf3,bh4,v30 =>
  bif decide (v30<(bb1.length:Int)) then
   (at? bb1 v30).bind fun x38 =>
   (f69r1 x38 bf2 bf3 bh4).bind fun x40 =>
   bif x40 then
    some (.ret v30)
   else
    (f76r1n2 f bb1 bf2 bf3 bh4 (wr64 (v30+1)))
  else
   some .exit0
theorem f76r1n2_ok:∀(f:Nat)(bb1:List Qc)(bf2 bf3:Int)(bh4:List (Qh×Int))(v30:Int){o:f76r1n2O},f76r1n2 f bb1 bf2 bf3 bh4 v30=some o→TL Try.prog Try.f76.ntmps 3 f (cL (cL (Ql 1 (cL (Ql 1 c76))))) (f76r1n2S bb1 bf2 bf3 bh4 v30) (·=f76r1n2E bb1 bf2 bf3 bh4 o)
 | 0,_,_,_,_,_,o,h=>by rw [f76r1n2] at h; cases h
 | f+1,bb1,bf2,bf3,bh4,v30,o,h=>by
  rw [f76r1n2] at h;refine TL.body (K:=fun s=>∃v30:Int,s=(f76r1n2S bb1 bf2 bf3 bh4 v30)∧f76r1n2 f bb1 bf2 bf3 bh4 v30=some o) ?_ (by rintro _ ⟨v30,rfl,hk⟩; exact f76r1n2_ok f _ _ _ _ _ hk);rcases Qf h with ⟨h32,h⟩|⟨h32,h⟩
  ·obtain ⟨x38,h39,h⟩:=Qe h;obtain ⟨x40,h41,h⟩:=Qe h;rcases Qf h with ⟨h42,h⟩|⟨h42,h⟩
   ·obtain rfl:=Qd h;exact rK Qg 3 [j3,j3,([],[(3,.idx (Int.toNat v30) (Qc.cells x38)),(5,.call (jB x40) [some (.box [(.bp 1 0)]),some (.box [(.mp 2),(jI bf2),(jI bf3)]),some (.map (bh4.map (mkv (pAgg Qh.cells) (pInt .i64))))])],[]),j3] [some true,some true] [] [] [4] .ret ((f76r1n2E bb1 bf2 bf3 bh4 (.ret v30)).2) (ap h32 (ap (Qi h39).1 (ap (Qq Qc.cells (Qi h39).2) (ap (f69r1_ok x38 bf2 bf3 bh4 h41) (ap h42 an))))) (Qs.out rfl rfl)
   ·exact rE Qg [j3,j3,([],[(3,.idx (Int.toNat v30) (Qc.cells x38)),(5,.call (jB x40) [some (.box [(.bp 1 0)]),some (.box [(.mp 2),(jI bf2),(jI bf3)]),some (.map (bh4.map (mkv (pAgg Qh.cells) (pInt .i64))))])],[]),j3] [some true,some false] [] [] [0,1,7,8] (.norm,(f76r1n2S bb1 bf2 bf3 bh4 (wr64 (v30+1)))) (ap h32 (ap (Qi h39).1 (ap (Qq Qc.cells (Qi h39).2) (ap (f69r1_ok x38 bf2 bf3 bh4 h41) (ap h42 an))))) (Qs.norm ⟨(wr64 (v30+1)),rfl,h⟩)
  ·obtain rfl:=Qd h;exact rK Qg 2 [j3] [some false] [] [] [] (.exit 0) ((f76r1n2E bb1 bf2 bf3 bh4 .exit0).2) (ap h32 an) (Qs.out rfl rfl)
noncomputable def f76r1n2L(bb1:List Qc)(bf2 bf3:Int)(bh4:List (Qh×Int)):List Qc→Int→Option f76r1n2O
 | [],v30 =>
  some .exit0
 | x0::rest,v30 =>
  (f69r1 x0 bf2 bf3 bh4).bind fun x40 =>
  bif x40 then
   some (.ret v30)
  else
   (f76r1n2L bb1 bf2 bf3 bh4 rest (v30+1))
theorem f76r1n2L_eq(bb1:List Qc)(bf2 bf3:Int)(bh4:List (Qh×Int)):∀(rest:List Qc)(f k:Nat),bb1.drop k=rest→bb1.length≤maxLen→rest.length<f→f76r1n2 f bb1 bf2 bf3 bh4 (k:Int)=f76r1n2L bb1 bf2 bf3 bh4 rest (k:Int)
 | _,0,_,_,_,hf=>absurd hf (Nat.not_lt_zero _)
 | [],f+1,k,hd,hm,hf=>by
  have hk:¬((k:Int)<(bb1.length:Int)):=by have:=Qab hd; omega
  rw [f76r1n2,f76r1n2L];simp only [decide_eq_false hk,cond_false]
 | x0::rest,f+1,k,hd,hm,hf=>by
  obtain ⟨hx,hlt,hd'⟩:=Qah hd;have hk:(k:Int)<(bb1.length:Int):=by omega
  have hw:wr64 ((k:Int)+1)=(k:Int)+1:=Qbi (by omega) (by unfold maxLen at hm; omega);have ih:f76r1n2 f bb1 bf2 bf3 bh4 ((k:Int)+1)=f76r1n2L bb1 bf2 bf3 bh4 rest ((k:Int)+1):=f76r1n2L_eq bb1 bf2 bf3 bh4 rest f (k+1) hd' hm (by simpa using hf);rw [f76r1n2,f76r1n2L];simp only [decide_eq_true hk,cond_true,Qbt,hx,Option.bind_some,hw,ih]
theorem f76r1n2_run(bb1:List Qc)(bf2 bf3:Int)(bh4:List (Qh×Int))(hm:bb1.length≤maxLen):f76r1n2 FUEL bb1 bf2 bf3 bh4 0=f76r1n2L bb1 bf2 bf3 bh4 bb1 0:=f76r1n2L_eq bb1 bf2 bf3 bh4 bb1 FUEL 0 List.drop_zero hm (Qbe hm)
inductive f76r1n1O where
 | norm
 | ret (v47:Int)
def f76r1n1E(bb1:List Qc)(bf2 bf3:Int)(bh4:List (Qh×Int)):f76r1n1O→Ex×Tr×Hp
 | .norm=>(.norm,mkS [],[some (.box [(.bp 1 0)]),some (.box [(.mp 2),(jI bf2),(jI bf3)]),some (.map (bh4.map (mkv (pAgg Qh.cells) (pInt .i64))))])
 | .ret v47=>(.ret,mkS [(4,(jI v47))],[some (.box [(.bp 1 0)]),some (.box [(.mp 2),(jI bf2),(jI bf3)]),some (.map (bh4.map (mkv (pAgg Qh.cells) (pInt .i64))))])
def f76r1n1S(bb1:List Qc)(bf2 bf3:Int)(bh4:List (Qh×Int)):Tr×Hp:=(mkS [(0,(jL 3 Qc.cells bb1)),(1,(.clo 69 [(.bp 0 0)]))],[some (.box [(.bp 1 0)]),some (.box [(.mp 2),(jI bf2),(jI bf3)]),some (.map (bh4.map (mkv (pAgg Qh.cells) (pInt .i64))))])
noncomputable def f76r1n1(bb1:List Qc)(bf2 bf3:Int)(bh4:List (Qh×Int)):Option f76r1n1O :=
 (f76r1n2 FUEL bb1 bf2 bf3 bh4 0).bind fun o44=>match o44 with
 | .exit0=>some .norm
 | .ret v46=>some (.ret v46)
theorem f76r1n1_ok(bb1:List Qc)(bf2 bf3:Int)(bh4:List (Qh×Int)){o:f76r1n1O}(h:f76r1n1 bb1 bf2 bf3 bh4=some o):T Try.prog Try.f76.ntmps 3 (cL (Ql 1 c76)) (f76r1n1S bb1 bf2 bf3 bh4) (·=f76r1n1E bb1 bf2 bf3 bh4 o):=by
 unfold f76r1n1 at h;refine rN Qg 1 [([],[],[(1,.val (jI (bb1.length:Int)))])] [] [] [] [0,1,7,8] (f76r1n2S bb1 bf2 bf3 bh4 0) (ap (Qr (xs:=bb1) (c:=Qc.cells)) an) ?_;obtain ⟨o44,h45,h⟩:=Qe h;cases o44 with
 | exit0 =>
  obtain rfl:=Qd h;exact T.last' (T.bl (i:=0) (by kernel_rfl) (by kernel_rfl) (f76r1n2_ok FUEL bb1 bf2 bf3 bh4 0 h45)) (tds:=[]) (m:=[]) (keep:=[]) (st2:=(f76r1n1E bb1 bf2 bf3 bh4 .norm).2) (by kernel_rfl) an rfl
 | ret v46 =>
  obtain rfl:=Qd h;exact T.last' (T.bl (i:=0) (by kernel_rfl) (by kernel_rfl) (f76r1n2_ok FUEL bb1 bf2 bf3 bh4 0 h45)) (tds:=[]) (m:=[]) (keep:=[4]) (st2:=(f76r1n1E bb1 bf2 bf3 bh4 (.ret v46)).2) (by kernel_rfl) an rfl
inductive f76r1n0O where
 | ret (v51:Int)
def f76r1n0E(a1:List Qc)(a2 a3:Int)(a4:List (Qh×Int)):f76r1n0O→Ex×Tr×Hp
 | .ret v51=>(.ret,mkS [(4,(jI v51))],[some (.box [(.bp 1 0)]),some (.box [(.mp 2),(jI a2),(jI a3)]),some (.map (a4.map (mkv (pAgg Qh.cells) (pInt .i64))))])
def f76r1n0S(a1:List Qc)(a2 a3:Int)(a4:List (Qh×Int)):Tr×Hp:=(Qad [(jL 3 Qc.cells a1),(.clo 69 [(.bp 0 0)])] 0 .leaf,[some (.box [(.bp 1 0)]),some (.box [(.mp 2),(jI a2),(jI a3)]),some (.map (a4.map (mkv (pAgg Qh.cells) (pInt .i64))))])
noncomputable def f76r1n0(a1:List Qc)(a2 a3:Int)(a4:List (Qh×Int)):Option f76r1n0O :=
 (f76r1n1 a1 a2 a3 a4).bind fun o48=>match o48 with
 | .norm=>some (.ret (-1))
 | .ret v50=>some (.ret v50)
theorem f76r1n0_ok(a1:List Qc)(a2 a3:Int)(a4:List (Qh×Int)){o:f76r1n0O}(h:f76r1n0 a1 a2 a3 a4=some o):T Try.prog Try.f76.ntmps 3 c76 (f76r1n0S a1 a2 a3 a4) (·=f76r1n0E a1 a2 a3 a4 o):=by
 unfold f76r1n0 at h;refine rN Qg 1 [j3] [] [] [] [0,1] (f76r1n1S a1 a2 a3 a4) an ?_;obtain ⟨o48,h49,h⟩:=Qe h;cases o48 with
 | norm =>
  refine T.oneN (by kernel_rfl) (f76r1n1_ok a1 a2 a3 a4 h49) (st2:=(f76r1n1E a1 a2 a3 a4 .norm).2) rfl ?_;obtain rfl:=Qd h;exact rE Qg [j3] [] [] [] [4] (.ret,(f76r1n0E a1 a2 a3 a4 (.ret (-1))).2) an rfl
 | ret v50 =>
  obtain rfl:=Qd h;exact T.oneX' (by kernel_rfl) (f76r1n1_ok a1 a2 a3 a4 h49) (tds:=[]) (m:=[]) (keep:=[4]) (st2:=(f76r1n0E a1 a2 a3 a4 (.ret v50)).2) (by kernel_rfl) an rfl rfl
noncomputable def f76r1(a1:List Qc)(a2 a3:Int)(a4:List (Qh×Int)):Option Int:=(f76r1n0 a1 a2 a3 a4).bind fun o=>match o with
 | .ret v51=>some v51
theorem f76r1_ok(a1:List Qc)(a2 a3:Int)(a4:List (Qh×Int)){r:Int}(h:f76r1 a1 a2 a3 a4=some r):Qo Try.prog true 76 [(jL 3 Qc.cells a1),(.clo 69 [(.bp 0 0)])] [some (.box [(.bp 1 0)]),some (.box [(.mp 2),(jI a2),(jI a3)]),some (.map (a4.map (mkv (pAgg Qh.cells) (pInt .i64))))] (jI r) [some (.box [(.bp 1 0)]),some (.box [(.mp 2),(jI a2),(jI a3)]),some (.map (a4.map (mkv (pAgg Qh.cells) (pInt .i64))))]:=by
 unfold f76r1 at h;obtain ⟨o,ho,h⟩:=Qe h;cases o with
 | ret v51 =>
  obtain rfl:=Qd h;exact Qo.shared Qg (f:=Try.f76) (c:=c76) (by kernel_rfl) (by kernel_rfl) (by kernel_rfl) ((f76r1n0_ok a1 a2 a3 a4 ho).mono fun r e=>by subst e; exact ⟨.inl rfl,by kernel_rfl,by kernel_rfl⟩)

inductive f68r1n0O where
 | ret (v9:Bool)
def f68r1n0E(a1:List Qc)(a2 a3:Int)(a4:List (Qh×Int)):f68r1n0O→Ex×Tr×Hp
 | .ret v9=>(.ret,mkS [(4,(jB v9))],[some (.box [(.bp 1 0)]),some (.box [(.mp 2),(jI a2),(jI a3)]),some (.map (a4.map (mkv (pAgg Qh.cells) (pInt .i64))))])
def f68r1n0S(a1:List Qc)(a2 a3:Int)(a4:List (Qh×Int)):Tr×Hp:=(Qad [(jL 3 Qc.cells a1),(.clo 69 [(.bp 0 0)])] 0 .leaf,[some (.box [(.bp 1 0)]),some (.box [(.mp 2),(jI a2),(jI a3)]),some (.map (a4.map (mkv (pAgg Qh.cells) (pInt .i64))))])
noncomputable def f68r1n0(a1:List Qc)(a2 a3:Int)(a4:List (Qh×Int)):Option f68r1n0O :=
 (f76r1 a1 a2 a3 a4).bind fun x7 =>
 some (.ret (decide (0≤x7)))
theorem f68r1n0_ok(a1:List Qc)(a2 a3:Int)(a4:List (Qh×Int)){o:f68r1n0O}(h:f68r1n0 a1 a2 a3 a4=some o):T Try.prog Try.f68.ntmps 3 c68 (f68r1n0S a1 a2 a3 a4) (·=f68r1n0E a1 a2 a3 a4 o):=by
 unfold f68r1n0 at h;obtain ⟨x7,h8,h⟩:=Qe h;obtain rfl:=Qd h;exact rE Qg [j3,([],[(2,.call (jI x7) [some (.box [(.bp 1 0)]),some (.box [(.mp 2),(jI a2),(jI a3)]),some (.map (a4.map (mkv (pAgg Qh.cells) (pInt .i64))))])],[])] [] [] [] [4] (.ret,(f68r1n0E a1 a2 a3 a4 (.ret (decide (0≤x7)))).2) (ap (f76r1_ok a1 a2 a3 a4 h8) an) rfl
noncomputable def f68r1(a1:List Qc)(a2 a3:Int)(a4:List (Qh×Int)):Option Bool:=(f68r1n0 a1 a2 a3 a4).bind fun o=>match o with
 | .ret v9=>some v9
theorem f68r1_ok(a1:List Qc)(a2 a3:Int)(a4:List (Qh×Int)){r:Bool}(h:f68r1 a1 a2 a3 a4=some r):Qo Try.prog true 68 [(jL 3 Qc.cells a1),(.clo 69 [(.bp 0 0)])] [some (.box [(.bp 1 0)]),some (.box [(.mp 2),(jI a2),(jI a3)]),some (.map (a4.map (mkv (pAgg Qh.cells) (pInt .i64))))] (jB r) [some (.box [(.bp 1 0)]),some (.box [(.mp 2),(jI a2),(jI a3)]),some (.map (a4.map (mkv (pAgg Qh.cells) (pInt .i64))))]:=by
 unfold f68r1 at h;obtain ⟨o,ho,h⟩:=Qe h;cases o with
 | ret v9 =>
  obtain rfl:=Qd h;exact Qo.shared Qg (f:=Try.f68) (c:=c68) (by kernel_rfl) (by kernel_rfl) (by kernel_rfl) ((f68r1n0_ok a1 a2 a3 a4 ho).mono fun r e=>by subst e; exact ⟨.inl rfl,by kernel_rfl,by kernel_rfl⟩)

noncomputable def c50:Code:=Try.f50.body.getD .skip
inductive f50r1n0O where
 | ret (v9:Bool)
def f50r1n0E(a1:Qa)(a2 a3:Int)(a4:List (Qh×Int)):f50r1n0O→Ex×Tr×Hp
 | .ret v9=>(.ret,mkS [(4,(jB v9))],[some (.box [(.mp 1),(jI a2),(jI a3)]),some (.map (a4.map (mkv (pAgg Qh.cells) (pInt .i64))))])
def f50r1n0S(a1:Qa)(a2 a3:Int)(a4:List (Qh×Int)):Tr×Hp:=(Qad [(.bp 0 0),(jA Qa.cells a1)] 0 .leaf,[some (.box [(.mp 1),(jI a2),(jI a3)]),some (.map (a4.map (mkv (pAgg Qh.cells) (pInt .i64))))])
noncomputable def f50r1n0(a1:Qa)(a2 a3:Int)(a4:List (Qh×Int)):Option f50r1n0O :=
 (f68r1 a1.Lines a2 a3 a4).bind fun x7 =>
 some (.ret (!x7))
theorem f50r1n0_ok(a1:Qa)(a2 a3:Int)(a4:List (Qh×Int)){o:f50r1n0O}(h:f50r1n0 a1 a2 a3 a4=some o):T Try.prog Try.f50.ntmps 2 c50 (f50r1n0S a1 a2 a3 a4) (·=f50r1n0E a1 a2 a3 a4 o):=by
 unfold f50r1n0 at h;obtain ⟨x7,h8,h⟩:=Qe h;obtain rfl:=Qd h;exact rE Qg [j3,([],[(3,.call (jB x7) [some (.box [(.mp 1),(jI a2),(jI a3)]),some (.map (a4.map (mkv (pAgg Qh.cells) (pInt .i64)))),some (.box [(.bp 0 0)]),none])],[])] [] [] [] [4] (.ret,(f50r1n0E a1 a2 a3 a4 (.ret (!x7))).2) (ap (Qo.rn 4 [2,0,1] (f68r1_ok a1.Lines a2 a3 a4 h8)) an) rfl
noncomputable def f50r1(a1:Qa)(a2 a3:Int)(a4:List (Qh×Int)):Option Bool:=(f50r1n0 a1 a2 a3 a4).bind fun o=>match o with
 | .ret v9=>some v9
theorem f50r1_ok(a1:Qa)(a2 a3:Int)(a4:List (Qh×Int)){r:Bool}(h:f50r1 a1 a2 a3 a4=some r):Qo Try.prog true 50 [(.bp 0 0),(jA Qa.cells a1)] [some (.box [(.mp 1),(jI a2),(jI a3)]),some (.map (a4.map (mkv (pAgg Qh.cells) (pInt .i64))))] (jB r) [some (.box [(.mp 1),(jI a2),(jI a3)]),some (.map (a4.map (mkv (pAgg Qh.cells) (pInt .i64))))]:=by
 unfold f50r1 at h;obtain ⟨o,ho,h⟩:=Qe h;cases o with
 | ret v9 =>
  obtain rfl:=Qd h;exact Qo.shared Qg (f:=Try.f50) (c:=c50) (by kernel_rfl) (by kernel_rfl) (by kernel_rfl) ((f50r1n0_ok a1 a2 a3 a4 ho).mono fun r e=>by subst e; exact ⟨.inl rfl,by kernel_rfl,by kernel_rfl⟩)

noncomputable def c33:Code:=Try.f33.body.getD .skip

inductive f33r2n2O where
 | exit0 (v43:List (Qh×Int))
def f33r2n2E(bc4:Qa)(bf1 bf2:Int):f33r2n2O→Ex×Tr×Hp
 | .exit0 v43=>((.exit 0),mkS [(0,(.bp 0 0)),(3,(.bp 2 0))],[some (.box [(.mp 1),(jI bf1),(jI bf2)]),some (.map (v43.map (mkv (pAgg Qh.cells) (pInt .i64)))),some (.box ((Qa.cells bc4).map .pl))])
def f33r2n2S(bc4:Qa)(bf1 bf2 v35:Int)(v36:List (Qh×Int)):Tr×Hp:=(mkS [(0,(.bp 0 0)),(3,(.bp 2 0)),(32,(jL 3 Qc.cells bc4.Lines)),(33,(jI (bc4.Lines.length:Int))),(34,(jI v35))],[some (.box [(.mp 1),(jI bf1),(jI bf2)]),some (.map (v36.map (mkv (pAgg Qh.cells) (pInt .i64)))),some (.box ((Qa.cells bc4).map .pl))])
noncomputable def f33r2n2:Nat→Qa→Int→Int→Int→List (Qh×Int)→Option f33r2n2O
 | 0,_,_,_,_,_=>none
 | f+1,bc4,bf1,bf2,v35,v36 =>
  bif decide (v35<(bc4.Lines.length:Int)) then
   (at? bc4.Lines v35).bind fun x41 =>
   (f33r2n2 f bc4 bf1 bf2 (wr64 (v35+1)) (mPut Qh.eqb (Qh.mk x41.Account x41.Ccy) (wr64 ((mGet Qh.eqb 0 (Qh.mk x41.Account x41.Ccy) v36)+x41.Amount)) v36))
  else
   some (.exit0 v36)
theorem f33r2n2_ok:∀(f:Nat)(bc4:Qa)(bf1 bf2 v35:Int)(v36:List (Qh×Int)){o:f33r2n2O},f33r2n2 f bc4 bf1 bf2 v35 v36=some o→TL Try.prog Try.f33.ntmps 2 f (cL (cL (Ql 1 (cL (Ql 2 c33))))) (f33r2n2S bc4 bf1 bf2 v35 v36) (·=f33r2n2E bc4 bf1 bf2 o)
 | 0,_,_,_,_,_,o,h=>by rw [f33r2n2] at h; cases h
 | f+1,bc4,bf1,bf2,v35,v36,o,h=>by
  rw [f33r2n2] at h;refine TL.body (K:=fun s=>∃v35:Int,∃v36:List (Qh×Int),s=(f33r2n2S bc4 bf1 bf2 v35 v36)∧f33r2n2 f bc4 bf1 bf2 v35 v36=some o) ?_ (by rintro _ ⟨v35,v36,rfl,hk⟩; exact f33r2n2_ok f _ _ _ _ _ hk);rcases Qf h with ⟨h38,h⟩|⟨h38,h⟩
  ·obtain ⟨x41,h42,h⟩:=Qe h
   exact rE Qg [j3,([],[(0,.idx (Int.toNat v35) (Qc.cells x41))],[]),([],[(9,.look ((pInt .i64) (mGet Qh.eqb 0 (Qh.mk x41.Account x41.Ccy) v36)) (mHas Qh.eqb (Qh.mk x41.Account x41.Ccy) v36)),(13,.ment ((pInt .i64) (mGet Qh.eqb 0 (Qh.mk x41.Account x41.Ccy) v36)) (mIdx Qh.eqb (Qh.mk x41.Account x41.Ccy) v36) ((mEns Qh.eqb 0 (Qh.mk x41.Account x41.Ccy) v36).map (mkv (pAgg Qh.cells) (pInt .i64)))),(15,.mst (mIdx Qh.eqb (Qh.mk x41.Account x41.Ccy) v36) ((pAgg Qh.cells) (Qh.mk x41.Account x41.Ccy)) ((pInt .i64) (mGet Qh.eqb 0 (Qh.mk x41.Account x41.Ccy) v36)))],[(15,.map 1 ((mPut Qh.eqb (Qh.mk x41.Account x41.Ccy) (wr64 ((mGet Qh.eqb 0 (Qh.mk x41.Account x41.Ccy) v36)+x41.Amount)) v36).map (mkv (pAgg Qh.cells) (pInt .i64))))]),j3] [some true] [] [2] [0,3,32,33,34] (.norm,(f33r2n2S bc4 bf1 bf2 (wr64 (v35+1)) (mPut Qh.eqb (Qh.mk x41.Account x41.Ccy) (wr64 ((mGet Qh.eqb 0 (Qh.mk x41.Account x41.Ccy) v36)+x41.Amount)) v36))) (ap h38 (ap (Qi h42).1 (ap (Qq Qc.cells (Qi h42).2) (ap (look_map (vp:=(pInt .i64)) (e:=3) key_95 0 (by kernel_rfl) (Qh.mk x41.Account x41.Ccy) v36) (ap (ment_map (vp:=(pInt .i64)) (e:=3) key_95 0 (by kernel_rfl) (Qh.mk x41.Account x41.Ccy) v36) (ap (rfl:((mIdx Qh.eqb (Qh.mk x41.Account x41.Ccy) v36):Int)=(((mIdx Qh.eqb (Qh.mk x41.Account x41.Ccy) v36):Nat):Int)) (ap (mst_at (vp:=(pInt .i64)) key_95 0 (Qh.mk x41.Account x41.Ccy) v36) (ap (mst_put (vp:=(pInt .i64)) key_95 0 (wr64 ((mGet Qh.eqb 0 (Qh.mk x41.Account x41.Ccy) v36)+x41.Amount)) (Qh.mk x41.Account x41.Ccy) v36) an)))))))) (Qs.norm ⟨(wr64 (v35+1)),(mPut Qh.eqb (Qh.mk x41.Account x41.Ccy) (wr64 ((mGet Qh.eqb 0 (Qh.mk x41.Account x41.Ccy) v36)+x41.Amount)) v36),rfl,h⟩)
  ·obtain rfl:=Qd h;exact rK Qg 2 [j3] [some false] [] [2] [0,3] (.exit 0) ((f33r2n2E bc4 bf1 bf2 (.exit0 v36)).2) (ap h38 an) (Qs.out rfl rfl)
noncomputable def f33r2n2L(bc4:Qa)(bf1 bf2:Int):List Qc→Int→(List (Qh×Int))→Option f33r2n2O
 | [],v35,v36 =>
  some (.exit0 v36)
 | x0::rest,v35,v36 =>
  (f33r2n2L bc4 bf1 bf2 rest (v35+1) (mPut Qh.eqb (Qh.mk x0.Account x0.Ccy) (wr64 ((mGet Qh.eqb 0 (Qh.mk x0.Account x0.Ccy) v36)+x0.Amount)) v36))
theorem f33r2n2L_eq(bc4:Qa)(bf1 bf2:Int):∀(rest:List Qc)(f k:Nat)(v36:List (Qh×Int)),bc4.Lines.drop k=rest→bc4.Lines.length≤maxLen→rest.length<f→f33r2n2 f bc4 bf1 bf2 (k:Int) v36=f33r2n2L bc4 bf1 bf2 rest (k:Int) v36
 | _,0,_,_,_,_,hf=>absurd hf (Nat.not_lt_zero _)
 | [],f+1,k,v36,hd,hm,hf=>by
  have hk:¬((k:Int)<(bc4.Lines.length:Int)):=by have:=Qab hd; omega
  rw [f33r2n2,f33r2n2L];simp only [decide_eq_false hk,cond_false]
 | x0::rest,f+1,k,v36,hd,hm,hf=>by
  obtain ⟨hx,hlt,hd'⟩:=Qah hd;have hk:(k:Int)<(bc4.Lines.length:Int):=by omega
  have hw:wr64 ((k:Int)+1)=(k:Int)+1:=Qbi (by omega) (by unfold maxLen at hm; omega);have ih:∀(v36:List (Qh×Int)),f33r2n2 f bc4 bf1 bf2 ((k:Int)+1) v36=f33r2n2L bc4 bf1 bf2 rest ((k:Int)+1) v36:=fun v36=>f33r2n2L_eq bc4 bf1 bf2 rest f (k+1) v36 hd' hm (by simpa using hf);rw [f33r2n2,f33r2n2L];simp only [decide_eq_true hk,cond_true,Qbt,hx,Option.bind_some,hw,ih]
theorem f33r2n2_run(bc4:Qa)(bf1 bf2:Int)(v36:List (Qh×Int))(hm:bc4.Lines.length≤maxLen):f33r2n2 FUEL bc4 bf1 bf2 0 v36=f33r2n2L bc4 bf1 bf2 bc4.Lines 0 v36:=f33r2n2L_eq bc4 bf1 bf2 bc4.Lines FUEL 0 v36 List.drop_zero hm (Qbe hm)
inductive f33r2n1O where
 | norm (v47:List (Qh×Int))
def f33r2n1E(bf1 bf2:Int)(bh3:List (Qh×Int))(bc4:Qa):f33r2n1O→Ex×Tr×Hp
 | .norm v47=>(.norm,mkS [(0,(.bp 0 0)),(3,(.bp 2 0))],[some (.box [(.mp 1),(jI bf1),(jI bf2)]),some (.map (v47.map (mkv (pAgg Qh.cells) (pInt .i64)))),some (.box ((Qa.cells bc4).map .pl))])
def f33r2n1S(bf1 bf2:Int)(bh3:List (Qh×Int))(bc4:Qa):Tr×Hp:=(mkS [(0,(.bp 0 0)),(3,(.bp 2 0))],[some (.box [(.mp 1),(jI bf1),(jI bf2)]),some (.map (bh3.map (mkv (pAgg Qh.cells) (pInt .i64)))),some (.box ((Qa.cells bc4).map .pl))])
noncomputable def f33r2n1(bf1 bf2:Int)(bh3:List (Qh×Int))(bc4:Qa):Option f33r2n1O :=
 (f33r2n2 FUEL bc4 bf1 bf2 0 bh3).bind fun o44=>match o44 with
 | .exit0 v46=>some (.norm v46)
theorem f33r2n1_ok(bf1 bf2:Int)(bh3:List (Qh×Int))(bc4:Qa){o:f33r2n1O}(h:f33r2n1 bf1 bf2 bh3 bc4=some o):T Try.prog Try.f33.ntmps 2 (cL (Ql 2 c33)) (f33r2n1S bf1 bf2 bh3 bc4) (·=f33r2n1E bf1 bf2 bh3 bc4 o):=by
 unfold f33r2n1 at h;refine rN Qg 1 [([],[],[(2,.val (jI (bc4.Lines.length:Int)))])] [] [] [2] [0,3,32,33,34] (f33r2n2S bc4 bf1 bf2 0 bh3) (ap (Qr (xs:=bc4.Lines) (c:=Qc.cells)) an) ?_;obtain ⟨o44,h45,h⟩:=Qe h;cases o44 with
 | exit0 v46 =>
  obtain rfl:=Qd h;exact T.last' (T.bl (i:=0) (by kernel_rfl) (by kernel_rfl) (f33r2n2_ok FUEL bc4 bf1 bf2 0 bh3 h45)) (tds:=[]) (m:=[2]) (keep:=[0,3]) (st2:=(f33r2n1E bf1 bf2 bh3 bc4 (.norm v46)).2) (by kernel_rfl) an rfl
inductive f33r2n0O where
 | ret (v55:Bool) (v56:Int) (v57:Int) (v58:List (Qh×Int))
def f33r2n0E(a1:Qa)(a2 a3:Int)(a4:List (Qh×Int)):f33r2n0O→Ex×Tr×Hp
 | .ret v55 v56 v57 v58=>(.ret,mkS [(4,(jB v55))],[some (.box [(.mp 1),(jI v56),(jI v57)]),some (.map (v58.map (mkv (pAgg Qh.cells) (pInt .i64))))])
def f33r2n0S(a1:Qa)(a2 a3:Int)(a4:List (Qh×Int)):Tr×Hp:=(Qad [(.bp 0 0),(jA Qa.cells a1)] 0 .leaf,[some (.box [(.mp 1),(jI a2),(jI a3)]),some (.map (a4.map (mkv (pAgg Qh.cells) (pInt .i64))))])
noncomputable def f33r2n0(a1:Qa)(a2 a3:Int)(a4:List (Qh×Int)):Option f33r2n0O :=
 bif decide (a3=200) then
  some (.ret false a2 a3 a4)
 else
  (f48 a1).bind fun x14 =>
  bif x14 then
   (f49 a1).bind fun x17 =>
   bif x17 then
    bif decide (a1.Day<a2) then
     some (.ret false a2 a3 a4)
    else
     (f33r2n1 a2 a3 a4 a1).bind fun o48=>match o48 with
     | .norm v50=>(f50r1 a1 a1.Day (wr64 (a3+1)) v50).bind fun x53 =>
      some (.ret x53 a1.Day (wr64 (a3+1)) v50)
   else
    some (.ret false a2 a3 a4)
  else
   some (.ret false a2 a3 a4)
theorem f33r2n0_ok(a1:Qa)(a2 a3:Int)(a4:List (Qh×Int)){o:f33r2n0O}(h:f33r2n0 a1 a2 a3 a4=some o):T Try.prog Try.f33.ntmps 2 c33 (f33r2n0S a1 a2 a3 a4) (·=f33r2n0E a1 a2 a3 a4 o):=by
 unfold f33r2n0 at h;rcases Qf h with ⟨h13,h⟩|⟨h13,h⟩
 ·obtain rfl:=Qd h;exact rK Qg 2 [j3,(jT [6,7,8],[(9,.bool true)],[]),j3] [none] [] [] [4] .ret ((f33r2n0E a1 a2 a3 a4 (.ret false a2 a3 a4)).2) (ap4 h13 an) rfl
 ·obtain ⟨x14,h15,h⟩:=Qe h;rcases Qf h with ⟨h16,h⟩|⟨h16,h⟩
  ·obtain ⟨x17,h18,h⟩:=Qe h;rcases Qf h with ⟨h19,h⟩|⟨h19,h⟩
   ·rcases Qf h with ⟨h20,h⟩|⟨h20,h⟩
    ·obtain rfl:=Qd h;exact rK Qg 2 [j3,(jF [6,7,8,11,12,13,16,17,18,19,20,21,22],[jH 7 (jB x14),(9,.bool false),jH 12 (jB x17),(14,.bool false),(23,.bool false)],[]),j3] [some true] [] [] [4] .ret ((f33r2n0E a1 a2 a3 a4 (.ret false a2 a3 a4)).2) (ap4 h13 (ap4 (Qp h16) (ap4 (Qp h19) (ap4 (Qp h19) (ap (f48_ok a1 h15) (ap (f49_ok a1 h18) (ap h20 an))))))) rfl
    ·refine rN Qg 2 [j3,(jF [6,7,8,11,12,13,16,17,18,19,20,21,22],[jH 7 (jB x14),(9,.bool false),jH 12 (jB x17),(14,.bool false),(23,.bool false)],[])] [some false] [] [2] [0,3] (f33r2n1S a2 a3 a4 a1) (ap4 h13 (ap4 (Qp h16) (ap4 (Qp h19) (ap4 (Qp h19) (ap (f48_ok a1 h15) (ap (f49_ok a1 h18) (ap h20 an))))))) ?_;obtain ⟨o48,h49,h⟩:=Qe h;cases o48 with
     | norm v50 =>
      refine T.oneN (by kernel_rfl) (f33r2n1_ok a2 a3 a4 a1 h49) (st2:=(f33r2n1E a2 a3 a4 a1 (.norm v50)).2) rfl ?_;obtain ⟨x53,h54,h⟩:=Qe h;obtain rfl:=Qd h;exact rE Qg [j3,([],[(2,.call (jB x53) [some (.box [(.mp 1),(jI a1.Day),(jI (wr64 (a3+1)))]),some (.map (v50.map (mkv (pAgg Qh.cells) (pInt .i64)))),none,none])],[])] [] [] [] [4] (.ret,(f33r2n0E a1 a2 a3 a4 (.ret x53 a1.Day (wr64 (a3+1)) v50)).2) (ap (Qo.rn 4 [0,1] (f50r1_ok a1 a1.Day (wr64 (a3+1)) v50 h54)) an) rfl
   ·obtain rfl:=Qd h;exact rK Qg 2 [j3,(jF [6,7,8,11,12,13]++jT [16,17,18,19,20,21,22],[jH 7 (jB x14),(9,.bool false),jH 12 (jB x17),(14,.bool false),(23,.bool true)],[]),j3] [none] [] [] [4] .ret ((f33r2n0E a1 a2 a3 a4 (.ret false a2 a3 a4)).2) (ap4 h13 (ap4 (Qp h16) (ap4 (Qw h19) (ap4 (Qw h19) (ap (f48_ok a1 h15) (ap (f49_ok a1 h18) an)))))) rfl
  ·obtain rfl:=Qd h;exact rK Qg 2 [j3,(jF [6,7,8]++jT [11,12,13],[jH 7 (jB x14),(9,.bool false),(14,.bool true)],[]),j3] [none] [] [] [4] .ret ((f33r2n0E a1 a2 a3 a4 (.ret false a2 a3 a4)).2) (ap4 h13 (ap4 (Qw h16) (ap (f48_ok a1 h15) an))) rfl
noncomputable def f33r2(a1:Qa)(a2 a3:Int)(a4:List (Qh×Int)):Option (Bool×Int×Int×(List (Qh×Int))):=(f33r2n0 a1 a2 a3 a4).bind fun o=>match o with
 | .ret v55 v56 v57 v58=>some (v55,v56,v57,v58)
theorem f33r2_ok(a1:Qa)(a2 a3:Int)(a4:List (Qh×Int)) {r:Bool×Int×Int×(List (Qh×Int))} (h:f33r2 a1 a2 a3 a4=some r):Qo Try.prog true 33 [(.bp 0 0),(jA Qa.cells a1)] [some (.box [(.mp 1),(jI a2),(jI a3)]),some (.map (a4.map (mkv (pAgg Qh.cells) (pInt .i64))))] (jB r.1) [some (.box [(.mp 1),(jI r.2.1),(jI r.2.2.1)]),some (.map (r.2.2.2.map (mkv (pAgg Qh.cells) (pInt .i64))))]:=by
 unfold f33r2 at h;obtain ⟨o,ho,h⟩:=Qe h;cases o with
 | ret v55 v56 v57 v58 =>
  obtain rfl:=Qd h;exact Qo.shared Qg (f:=Try.f33) (c:=c33) (by kernel_rfl) (by kernel_rfl) (by kernel_rfl) ((f33r2n0_ok a1 a2 a3 a4 ho).mono fun r e=>by subst e; exact ⟨.inl rfl,by kernel_rfl,by kernel_rfl⟩)
end Go.Proofs.Ytfeklaffeigilaa
namespace Go.Proofs.Ytfeklaffeigilaa
set_option linter.unusedVariables false
set_option linter.unusedSimpArgs false
set_option maxRecDepth 100000
open Go.RowKit
noncomputable def c22:Code:=Try.f22.body.getD .skip
inductive f22r1n2O where
 | exit0 (v48:Int) (v49:Int) (v50:List (Qh×Int))
 | ret (v51:Int) (v52:Int) (v53:List (Qh×Int))
def f22r1n2E(ba1:Qj):f22r1n2O→Ex×Tr×Hp
 | .exit0 v48 v49 v50=>((.exit 0),mkS [(4,(.bp 0 0))],[some (.box [(.mp 1),(jI v48),(jI v49)]),some (.map (v50.map (mkv (pAgg Qh.cells) (pInt .i64))))])
 | .ret v51 v52 v53=>(.ret,mkS [(2,(.bp 0 0)),(3,(jB false))],[some (.box [(.mp 1),(jI v51),(jI v52)]),some (.map (v53.map (mkv (pAgg Qh.cells) (pInt .i64))))])
def f22r1n2S(ba1:Qj)(v32 v33 v34:Int)(v35:List (Qh×Int)):Tr×Hp:=(mkS [(4,(.bp 0 0)),(16,(jL 3 Qa.cells ba1.Records)),(17,(jI (ba1.Records.length:Int))),(18,(jI v32))],[some (.box [(.mp 1),(jI v33),(jI v34)]),some (.map (v35.map (mkv (pAgg Qh.cells) (pInt .i64))))])
noncomputable def f22r1n2:Nat→Qj→Int→Int→Int→List (Qh×Int)→Option f22r1n2O
 | 0,_,_,_,_,_=>none
 | f+1,ba1,v32,v33,v34,v35 =>
  bif decide (v32<(ba1.Records.length:Int)) then
   (at? ba1.Records v32).bind fun x43 =>
   (f33r2 x43 v33 v34 v35).bind fun x45 =>
   bif x45.1 then
    (f22r1n2 f ba1 (wr64 (v32+1)) x45.2.1 x45.2.2.1 x45.2.2.2)
   else
    some (.ret x45.2.1 x45.2.2.1 x45.2.2.2)
  else
   some (.exit0 v33 v34 v35)
theorem f22r1n2_ok:∀(f:Nat)(ba1:Qj)(v32 v33 v34:Int)(v35:List (Qh×Int)){o:f22r1n2O},f22r1n2 f ba1 v32 v33 v34 v35=some o→TL Try.prog Try.f22.ntmps 0 f (cL (cL (Ql 1 (cL (Ql 3 c22))))) (f22r1n2S ba1 v32 v33 v34 v35) (·=f22r1n2E ba1 o)
 | 0,_,_,_,_,_,o,h=>by rw [f22r1n2] at h; cases h
 | f+1,ba1,v32,v33,v34,v35,o,h=>by
  rw [f22r1n2] at h;refine TL.body (K:=fun s=>∃v32:Int,∃v33:Int,∃v34:Int,∃v35:List (Qh×Int),s=(f22r1n2S ba1 v32 v33 v34 v35)∧f22r1n2 f ba1 v32 v33 v34 v35=some o) ?_ (by rintro _ ⟨v32,v33,v34,v35,rfl,hk⟩; exact f22r1n2_ok f _ _ _ _ _ hk);rcases Qf h with ⟨h37,h⟩|⟨h37,h⟩
  ·obtain ⟨x43,h44,h⟩:=Qe h;obtain ⟨x45,h46,h⟩:=Qe h;rcases Qf h with ⟨h47,h⟩|⟨h47,h⟩
   ·exact rE Qg [j3,([],[(0,.idx (Int.toNat v32) (Qa.cells x43))],[]),([],[(2,.call (jB x45.1) [some (.box [(.mp 1),(jI x45.2.1),(jI x45.2.2.1)]),some (.map (x45.2.2.2.map (mkv (pAgg Qh.cells) (pInt .i64)))),none])],[]),j3] [some true,some false] [] [0,1] [4,16,17,18] (.norm,(f22r1n2S ba1 (wr64 (v32+1)) x45.2.1 x45.2.2.1 x45.2.2.2)) (ap h37 (ap (Qi h44).1 (ap (Qq Qa.cells (Qi h44).2) (ap (Qo.rn 3 [0,1] (f33r2_ok x43 v33 v34 v35 h46)) (ap (Qp h47) an))))) (Qs.norm ⟨(wr64 (v32+1)),x45.2.1,x45.2.2.1,x45.2.2.2,rfl,h⟩)
   ·obtain rfl:=Qd h;exact rK Qg 3 [j3,([],[(0,.idx (Int.toNat v32) (Qa.cells x43))],[]),([],[(2,.call (jB x45.1) [some (.box [(.mp 1),(jI x45.2.1),(jI x45.2.2.1)]),some (.map (x45.2.2.2.map (mkv (pAgg Qh.cells) (pInt .i64)))),none])],[]),j3] [some true,some true] [] [0,1] [2,3] .ret ((f22r1n2E ba1 (.ret x45.2.1 x45.2.2.1 x45.2.2.2)).2) (ap h37 (ap (Qi h44).1 (ap (Qq Qa.cells (Qi h44).2) (ap (Qo.rn 3 [0,1] (f33r2_ok x43 v33 v34 v35 h46)) (ap (Qw h47) an))))) (Qs.out rfl rfl)
  ·obtain rfl:=Qd h;exact rK Qg 2 [j3] [some false] [] [0,1] [4] (.exit 0) ((f22r1n2E ba1 (.exit0 v33 v34 v35)).2) (ap h37 an) (Qs.out rfl rfl)
noncomputable def f22r1n2L(ba1:Qj):List Qa→Int→Int→Int→(List (Qh×Int))→Option f22r1n2O
 | [],v32,v33,v34,v35 =>
  some (.exit0 v33 v34 v35)
 | x0::rest,v32,v33,v34,v35 =>
  (f33r2 x0 v33 v34 v35).bind fun x45 =>
  bif x45.1 then
   (f22r1n2L ba1 rest (v32+1) x45.2.1 x45.2.2.1 x45.2.2.2)
  else
   some (.ret x45.2.1 x45.2.2.1 x45.2.2.2)
theorem f22r1n2L_eq(ba1:Qj):∀(rest:List Qa)(f k:Nat)(v33 v34:Int)(v35:List (Qh×Int)),ba1.Records.drop k=rest→ba1.Records.length≤maxLen→rest.length<f→f22r1n2 f ba1 (k:Int) v33 v34 v35=f22r1n2L ba1 rest (k:Int) v33 v34 v35
 | _,0,_,_,_,_,_,_,hf=>absurd hf (Nat.not_lt_zero _)
 | [],f+1,k,v33,v34,v35,hd,hm,hf=>by
  have hk:¬((k:Int)<(ba1.Records.length:Int)):=by have:=Qab hd; omega
  rw [f22r1n2,f22r1n2L];simp only [decide_eq_false hk,cond_false]
 | x0::rest,f+1,k,v33,v34,v35,hd,hm,hf=>by
  obtain ⟨hx,hlt,hd'⟩:=Qah hd;have hk:(k:Int)<(ba1.Records.length:Int):=by omega
  have hw:wr64 ((k:Int)+1)=(k:Int)+1:=Qbi (by omega) (by unfold maxLen at hm; omega);have ih:∀(v33 v34:Int)(v35:List (Qh×Int)),f22r1n2 f ba1 ((k:Int)+1) v33 v34 v35=f22r1n2L ba1 rest ((k:Int)+1) v33 v34 v35:=fun v33 v34 v35=>f22r1n2L_eq ba1 rest f (k+1) v33 v34 v35 hd' hm (by simpa using hf);rw [f22r1n2,f22r1n2L];simp only [decide_eq_true hk,cond_true,Qbt,hx,Option.bind_some,hw,ih]
theorem f22r1n2_run(ba1:Qj)(v33 v34:Int)(v35:List (Qh×Int))(hm:ba1.Records.length≤maxLen):f22r1n2 FUEL ba1 0 v33 v34 v35=f22r1n2L ba1 ba1.Records 0 v33 v34 v35:=f22r1n2L_eq ba1 ba1.Records FUEL 0 v33 v34 v35 List.drop_zero hm (Qbe hm)
inductive f22r1n1O where
 | norm (v62:Int) (v63:Int) (v64:List (Qh×Int))
 | ret (v65:Int) (v66:Int) (v67:List (Qh×Int))
def f22r1n1E(ba1:Qj):f22r1n1O→Ex×Tr×Hp
 | .norm v62 v63 v64=>(.norm,mkS [(4,(.bp 0 0))],[some (.box [(.mp 1),(jI v62),(jI v63)]),some (.map (v64.map (mkv (pAgg Qh.cells) (pInt .i64))))])
 | .ret v65 v66 v67=>(.ret,mkS [(2,(.bp 0 0)),(3,(jB false))],[some (.box [(.mp 1),(jI v65),(jI v66)]),some (.map (v67.map (mkv (pAgg Qh.cells) (pInt .i64))))])
def f22r1n1S(ba1:Qj):Tr×Hp:=(mkS [(1,(.bp 0 0)),(4,(.bp 1 0))],[some (.box ((Qj.cells ba1).map .pl)),some (.box [(.mp 2),(jI 0),(jI 0)]),some (.map ([].map (mkv (pAgg Qh.cells) (pInt .i64))))])
noncomputable def f22r1n1(ba1:Qj):Option f22r1n1O :=
 (f22r1n2 FUEL ba1 0 0 0 []).bind fun o54=>match o54 with
 | .exit0 v56 v57 v58=>some (.norm v56 v57 v58)
 | .ret v59 v60 v61=>some (.ret v59 v60 v61)
theorem f22r1n1_ok(ba1:Qj){o:f22r1n1O}(h:f22r1n1 ba1=some o):T Try.prog Try.f22.ntmps 0 (cL (Ql 3 c22)) (f22r1n1S ba1) (·=f22r1n1E ba1 o):=by
 unfold f22r1n1 at h;refine rN Qg 1 [([],[],[(2,.val (jI (ba1.Records.length:Int)))])] [] [] [1,2] [4,16,17,18] (f22r1n2S ba1 0 0 0 []) (ap (Qr (xs:=ba1.Records) (c:=Qa.cells)) an) ?_;obtain ⟨o54,h55,h⟩:=Qe h;cases o54 with
 | exit0 v56 v57 v58 =>
  obtain rfl:=Qd h;exact T.last' (T.bl (i:=0) (by kernel_rfl) (by kernel_rfl) (f22r1n2_ok FUEL ba1 0 0 0 [] h55)) (tds:=[]) (m:=[0,1]) (keep:=[4]) (st2:=(f22r1n1E ba1 (.norm v56 v57 v58)).2) (by kernel_rfl) an rfl
 | ret v59 v60 v61 =>
  obtain rfl:=Qd h;exact T.last' (T.bl (i:=0) (by kernel_rfl) (by kernel_rfl) (f22r1n2_ok FUEL ba1 0 0 0 [] h55)) (tds:=[]) (m:=[0,1]) (keep:=[2,3]) (st2:=(f22r1n1E ba1 (.ret v59 v60 v61)).2) (by kernel_rfl) an rfl
inductive f22r1n0O where
 | ret (v76:Bool) (v77:Int) (v78:Int) (v79:List (Qh×Int))
def f22r1n0E(a1:Qj):f22r1n0O→Ex×Tr×Hp
 | .ret v76 v77 v78 v79=>(.ret,mkS [(2,(.bp 0 0)),(3,(jB v76))],[some (.box [(.mp 1),(jI v77),(jI v78)]),some (.map (v79.map (mkv (pAgg Qh.cells) (pInt .i64))))])
def f22r1n0S(a1:Qj):Tr×Hp:=(Qad [(jA Qj.cells a1)] 0 .leaf,[])
noncomputable def f22r1n0(a1:Qj):Option f22r1n0O :=
 bif decide (200<(a1.Records.length:Int)) then
  some (.ret false 0 0 [])
 else
  (f22r1n1 a1).bind fun o68=>match o68 with
  | .norm v70 v71 v72=>some (.ret true v70 v71 v72)
  | .ret v73 v74 v75=>some (.ret false v73 v74 v75)
theorem f22r1n0_ok(a1:Qj){o:f22r1n0O}(h:f22r1n0 a1=some o):T Try.prog Try.f22.ntmps 0 c22 (f22r1n0S a1) (·=f22r1n0E a1 o):=by
 unfold f22r1n0 at h;rcases Qf h with ⟨h3,h⟩|⟨h3,h⟩
 ·obtain rfl:=Qd h;exact rK Qg 3 [j3,j3,([],[],[(2,.val (jI (a1.Records.length:Int)))]),j3] [some true] [] [2,1] [2,3] .ret ((f22r1n0E a1 (.ret false 0 0 [])).2) (ap (Qr (xs:=a1.Records) (c:=Qa.cells)) (ap h3 an)) rfl
 ·refine rN Qg 3 [j3,j3,([],[],[(2,.val (jI (a1.Records.length:Int)))])] [some false] [] [0,2,1] [1,4] (f22r1n1S a1) (ap (Qr (xs:=a1.Records) (c:=Qa.cells)) (ap h3 an)) ?_;obtain ⟨o68,h69,h⟩:=Qe h;cases o68 with
  | norm v70 v71 v72 =>
   refine T.oneN (by kernel_rfl) (f22r1n1_ok a1 h69) (st2:=(f22r1n1E a1 (.norm v70 v71 v72)).2) rfl ?_;obtain rfl:=Qd h;exact rE Qg [j3] [] [] [0,1] [2,3] (.ret,(f22r1n0E a1 (.ret true v70 v71 v72)).2) an rfl
  | ret v73 v74 v75 =>
   obtain rfl:=Qd h;exact T.oneX' (by kernel_rfl) (f22r1n1_ok a1 h69) (tds:=[]) (m:=[0,1]) (keep:=[2,3]) (st2:=(f22r1n0E a1 (.ret false v73 v74 v75)).2) (by kernel_rfl) an rfl rfl
noncomputable def f22r1(a1:Qj):Option (Bool×Int×Int×(List (Qh×Int))):=(f22r1n0 a1).bind fun o=>match o with
 | .ret v76 v77 v78 v79=>some (v76,v77,v78,v79)
theorem f22r1_ok(a1:Qj) {r:Bool×Int×Int×(List (Qh×Int))} (h:f22r1 a1=some r):Qo Try.prog true 22 [(jA Qj.cells a1)] [] (.tup [(.bp 0 0),(jB r.1)]) [some (.box [(.mp 1),(jI r.2.1),(jI r.2.2.1)]),some (.map (r.2.2.2.map (mkv (pAgg Qh.cells) (pInt .i64))))]:=by
 unfold f22r1 at h;obtain ⟨o,ho,h⟩:=Qe h;cases o with
 | ret v76 v77 v78 v79 =>
  obtain rfl:=Qd h;exact Qo.shared Qg (f:=Try.f22) (c:=c22) (by kernel_rfl) (by kernel_rfl) (by kernel_rfl) ((f22r1n0_ok a1 ho).mono fun r e=>by subst e; exact ⟨.inl rfl,by kernel_rfl,by kernel_rfl⟩)

noncomputable def c11:Code:=Try.f11.body.getD .skip
inductive f11n0O where
 | ret (v8:Int)
def f11n0E(a1:Qj):f11n0O→Ex×Tr×Hp
 | .ret v8=>(.ret,mkS [(2,(jI v8))],[])
def f11n0S(a1:Qj):Tr×Hp:=(Qad [(jA Qj.cells a1)] 0 .leaf,[])
noncomputable def f11n0(a1:Qj):Option f11n0O :=
 (f22r1 a1).bind fun x5 =>
 bif x5.1 then
  some (.ret 0)
 else
  some (.ret 8)
theorem f11n0_ok(a1:Qj){o:f11n0O}(h:f11n0 a1=some o):T Try.prog Try.f11.ntmps 0 c11 (f11n0S a1) (·=f11n0E a1 o):=by
 unfold f11n0 at h;obtain ⟨x5,h6,h⟩:=Qe h;rcases Qf h with ⟨h7,h⟩|⟨h7,h⟩
 ·obtain rfl:=Qd h;exact rE Qg [j3,([],[(1,.call (.tup [(.bp 1 0),(jB x5.1)]) [none,some (.box [(.mp 2),(jI x5.2.1),(jI x5.2.2.1)]),some (.map (x5.2.2.2.map (mkv (pAgg Qh.cells) (pInt .i64))))])],[]),j3,j3] [some false] [] [] [2] (.ret,(f11n0E a1 (.ret 0)).2) (ap (Qo.rn 1 [] (f22r1_ok a1 h6)) (ap (Qp h7) an)) rfl
 ·obtain rfl:=Qd h;exact rK Qg 2 [j3,([],[(1,.call (.tup [(.bp 1 0),(jB x5.1)]) [none,some (.box [(.mp 2),(jI x5.2.1),(jI x5.2.2.1)]),some (.map (x5.2.2.2.map (mkv (pAgg Qh.cells) (pInt .i64))))])],[]),j3,j3] [some true] [] [] [2] .ret ((f11n0E a1 (.ret 8)).2) (ap (Qo.rn 1 [] (f22r1_ok a1 h6)) (ap (Qw h7) an)) rfl
noncomputable def f11(a1:Qj):Option Int:=(f11n0 a1).bind fun o=>match o with
 | .ret v8=>some v8
theorem f11_ok(a1:Qj){r:Int}(h:f11 a1=some r):Qo Try.prog false 11 [(jA Qj.cells a1)] [] (jI r) []:=by
 unfold f11 at h;obtain ⟨o,ho,h⟩:=Qe h;cases o with
 | ret v8 =>
  obtain rfl:=Qd h;exact Qo.plain Qg (f:=Try.f11) (c:=c11) (by kernel_rfl) (by kernel_rfl) (by kernel_rfl) (by kernel_rfl) ((f11n0_ok a1 ho).mono fun r e=>by subst e; exact ⟨.inl rfl,(jI v8),(jI v8),by kernel_rfl,by kernel_rfl,((Wk.refl _):Wk (jI v8) (jI v8))⟩)

noncomputable def c12:Code:=Try.f12.body.getD .skip
inductive f12n0O where
 | ret (v7:Bool)
def f12n0E(a1 a2:Int):f12n0O→Ex×Tr×Hp
 | .ret v7=>(.ret,mkS [(4,(jB v7))],[])
def f12n0S(a1 a2:Int):Tr×Hp:=(Qad [(jI a1),(jI a2)] 0 .leaf,[])
noncomputable def f12n0(a1 a2:Int):Option f12n0O :=
 bif decide (0≤a1) then
  bif decide (a1≤a2) then
   some (.ret (decide (a2≤100000)))
  else
   some (.ret false)
 else
  some (.ret false)
theorem f12n0_ok(a1 a2:Int){o:f12n0O}(h:f12n0 a1 a2=some o):T Try.prog Try.f12.ntmps 0 c12 (f12n0S a1 a2) (·=f12n0E a1 a2 o):=by
 unfold f12n0 at h;rcases Qf h with ⟨h5,h⟩|⟨h5,h⟩
 ·rcases Qf h with ⟨h6,h⟩|⟨h6,h⟩
  ·obtain rfl:=Qd h;exact rE Qg [j3,(jT [3,4,5,8,9],[(6,.bool true),(10,.bool true)],[])] [] [] [] [4] (.ret,(f12n0E a1 a2 (.ret (decide (a2≤100000)))).2) (ap4 h5 (ap3 h6 an)) rfl
  ·obtain rfl:=Qd h;exact rE Qg [j3,(jF [8,9]++jT [3,4,5],[(6,.bool true),(10,.bool false)],[])] [] [] [] [4] (.ret,(f12n0E a1 a2 (.ret false)).2) (ap4 h5 (ap3 h6 an)) rfl
 ·obtain rfl:=Qd h;exact rE Qg [j3,(jF [3,4,5],[(6,.bool false)],[])] [] [] [] [4] (.ret,(f12n0E a1 a2 (.ret false)).2) (ap4 h5 an) rfl
noncomputable def f12(a1 a2:Int):Option Bool:=(f12n0 a1 a2).bind fun o=>match o with
 | .ret v7=>some v7
theorem f12_ok(a1 a2:Int){r:Bool}(h:f12 a1 a2=some r):Qo Try.prog false 12 [(jI a1),(jI a2)] [] (jB r) []:=by
 unfold f12 at h;obtain ⟨o,ho,h⟩:=Qe h;cases o with
 | ret v7 =>
  obtain rfl:=Qd h;exact Qo.plain Qg (f:=Try.f12) (c:=c12) (by kernel_rfl) (by kernel_rfl) (by kernel_rfl) (by kernel_rfl) ((f12n0_ok a1 a2 ho).mono fun r e=>by subst e; exact ⟨.inl rfl,(jB v7),(jB v7),by kernel_rfl,by kernel_rfl,((Wk.refl _):Wk (jB v7) (jB v7))⟩)

noncomputable def c40:Code:=Try.f40.body.getD .skip
inductive f40n0O where
 | ret (v7:Bool)
def f40n0E(a1 a2:ByteArray):f40n0O→Ex×Tr×Hp
 | .ret v7=>(.ret,mkS [(4,(jB v7))],[])
def f40n0S(a1 a2:ByteArray):Tr×Hp:=(Qad [(jS a1),(jS a2)] 0 .leaf,[])
noncomputable def f40n0(a1 a2:ByteArray):Option f40n0O :=
 bif decide ((a2.size:Int)≤(a1.size:Int)) then
  req (cutB 0 (a2.size:Int) a1.size) <|
  some (.ret (seq (scut a1 0 (Int.toNat (a2.size:Int))) a2))
 else
  some (.ret false)
theorem f40n0_ok(a1 a2:ByteArray){o:f40n0O}(h:f40n0 a1 a2=some o):T Try.prog Try.f40.ntmps 0 c40 (f40n0S a1 a2) (·=f40n0E a1 a2 o):=by
 unfold f40n0 at h;rcases Qf h with ⟨h5,h⟩|⟨h5,h⟩
 ·obtain ⟨h6,h⟩:=Qaf h;obtain rfl:=Qd h;exact rE Qg [j3,(jT [6,7,8,9,10,11],[(9,.cut 0 (Int.toNat (a2.size:Int))),(12,.bool true)],[])] [] [] [] [4] (.ret,(f40n0E a1 a2 (.ret (seq (scut a1 0 (Int.toNat (a2.size:Int))) a2))).2) (ap4 h5 (ap (cut_hn_1 h6) (ap (Qbm h6) (ap (Qbq h6) (ap (cut_hn_4 h6) (ap3 h5 an)))))) rfl
 ·obtain rfl:=Qd h;exact rE Qg [j3,(jF [6,7,8,9,10,11],[(12,.bool false)],[])] [] [] [] [4] (.ret,(f40n0E a1 a2 (.ret false)).2) (ap3 h5 (ap4 h5 an)) rfl
noncomputable def f40(a1 a2:ByteArray):Option Bool:=(f40n0 a1 a2).bind fun o=>match o with
 | .ret v7=>some v7
theorem f40_ok(a1 a2:ByteArray){r:Bool}(h:f40 a1 a2=some r):Qo Try.prog false 40 [(jS a1),(jS a2)] [] (jB r) []:=by
 unfold f40 at h;obtain ⟨o,ho,h⟩:=Qe h;cases o with
 | ret v7 =>
  obtain rfl:=Qd h;exact Qo.plain Qg (f:=Try.f40) (c:=c40) (by kernel_rfl) (by kernel_rfl) (by kernel_rfl) (by kernel_rfl) ((f40n0_ok a1 a2 ho).mono fun r e=>by subst e; exact ⟨.inl rfl,(jB v7),(jB v7),by kernel_rfl,by kernel_rfl,((Wk.refl _):Wk (jB v7) (jB v7))⟩)

noncomputable def c29:Code:=Try.f29.body.getD .skip
inductive f29n0O where
 | ret (v11:ByteArray) (v12:Bool)
def f29n0E(a1 a2:ByteArray):f29n0O→Ex×Tr×Hp
 | .ret v11 v12=>(.ret,mkS [(4,(jS v11)),(5,(jB v12))],[])
def f29n0S(a1 a2:ByteArray):Tr×Hp:=(Qad [(jS a1),(jS a2)] 0 .leaf,[])
noncomputable def f29n0(a1 a2:ByteArray):Option f29n0O :=
 (f40 a1 a2).bind fun x6 =>
 bif x6 then
  req (cutB (a2.size:Int) (a1.size:Int) a1.size) <|
  some (.ret (scut a1 (Int.toNat (a2.size:Int)) a1.size) true)
 else
  some (.ret a1 false)
theorem f29n0_ok(a1 a2:ByteArray){o:f29n0O}(h:f29n0 a1 a2=some o):T Try.prog Try.f29.ntmps 0 c29 (f29n0S a1 a2) (·=f29n0E a1 a2 o):=by
 unfold f29n0 at h;obtain ⟨x6,h7,h⟩:=Qe h;rcases Qf h with ⟨h8,h⟩|⟨h8,h⟩
 ·obtain ⟨h10,h⟩:=Qaf h;obtain rfl:=Qd h;exact rE Qg [j3,([],[jH 2 (jB x6)],[]),([],[(3,.cut (Int.toNat (a2.size:Int)) a1.size)],[])] [some false] [] [] [4,5] (.ret,(f29n0E a1 a2 (.ret (scut a1 (Int.toNat (a2.size:Int)) a1.size) true)).2) (ap (f40_ok a1 a2 h7) (ap (Qp h8) (ap (cut_nl_1 h10) (ap (cut_nl_2 h10) (ap (cut_nl_3 h10) (ap (cut_nl_4 h10) an)))))) rfl
 ·obtain rfl:=Qd h;exact rK Qg 2 [j3,([],[jH 2 (jB x6)],[]),j3] [some true] [] [] [4,5] .ret ((f29n0E a1 a2 (.ret a1 false)).2) (ap (f40_ok a1 a2 h7) (ap (Qw h8) an)) rfl
noncomputable def f29(a1 a2:ByteArray):Option (ByteArray×Bool):=(f29n0 a1 a2).bind fun o=>match o with
 | .ret v11 v12=>some (v11,v12)
theorem f29_ok(a1 a2:ByteArray){r:ByteArray×Bool}(h:f29 a1 a2=some r):Qo Try.prog false 29 [(jS a1),(jS a2)] [] (.tup [(jS r.1),(jB r.2)]) []:=by
 unfold f29 at h;obtain ⟨o,ho,h⟩:=Qe h;cases o with
 | ret v11 v12 =>
  obtain rfl:=Qd h;exact Qo.plain Qg (f:=Try.f29) (c:=c29) (by kernel_rfl) (by kernel_rfl) (by kernel_rfl) (by kernel_rfl) ((f29n0_ok a1 a2 ho).mono fun r e=>by subst e; exact ⟨.inl rfl,(.tup [(jS v11),(jB v12)]),(.tup [(jS v11),(jB v12)]),by kernel_rfl,by kernel_rfl,((Wk.refl _):Wk (.tup [(jS v11),(jB v12)]) (.tup [(jS v11),(jB v12)]))⟩)

noncomputable def c18:Code:=Try.f18.body.getD .skip
inductive f18n0O where
 | ret (v7:ByteArray) (v8:Bool)
def f18n0E(a1 a2:ByteArray):f18n0O→Ex×Tr×Hp
 | .ret v7 v8=>(.ret,mkS [(4,(jS v7)),(5,(jB v8))],[])
def f18n0S(a1 a2:ByteArray):Tr×Hp:=(Qad [(jS a1),(jS a2)] 0 .leaf,[])
noncomputable def f18n0(a1 a2:ByteArray):Option f18n0O :=
 (f29 a1 a2).bind fun x5 =>
 some (.ret x5.1 x5.2)
theorem f18n0_ok(a1 a2:ByteArray){o:f18n0O}(h:f18n0 a1 a2=some o):T Try.prog Try.f18.ntmps 0 c18 (f18n0S a1 a2) (·=f18n0E a1 a2 o):=by
 unfold f18n0 at h;obtain ⟨x5,h6,h⟩:=Qe h;obtain rfl:=Qd h;exact rE Qg [j3,([],[jH 2 (.tup [(jS x5.1),(jB x5.2)])],[])] [] [] [] [4,5] (.ret,(f18n0E a1 a2 (.ret x5.1 x5.2)).2) (ap (f29_ok a1 a2 h6) an) rfl
noncomputable def f18(a1 a2:ByteArray):Option (ByteArray×Bool):=(f18n0 a1 a2).bind fun o=>match o with
 | .ret v7 v8=>some (v7,v8)
theorem f18_ok(a1 a2:ByteArray){r:ByteArray×Bool}(h:f18 a1 a2=some r):Qo Try.prog false 18 [(jS a1),(jS a2)] [] (.tup [(jS r.1),(jB r.2)]) []:=by
 unfold f18 at h;obtain ⟨o,ho,h⟩:=Qe h;cases o with
 | ret v7 v8 =>
  obtain rfl:=Qd h;exact Qo.plain Qg (f:=Try.f18) (c:=c18) (by kernel_rfl) (by kernel_rfl) (by kernel_rfl) (by kernel_rfl) ((f18n0_ok a1 a2 ho).mono fun r e=>by subst e; exact ⟨.inl rfl,(.tup [(jS v7),(jB v8)]),(.tup [(jS v7),(jB v8)]),by kernel_rfl,by kernel_rfl,((Wk.refl _):Wk (.tup [(jS v7),(jB v8)]) (.tup [(jS v7),(jB v8)]))⟩)

noncomputable def c30:Code:=Try.f30.body.getD .skip
inductive f30n2O where
 | exit0 (v36:Int)
 | ret
def f30n2E(bd1:ByteArray):f30n2O→Ex×Tr×Hp
 | .exit0 v36=>((.exit 0),mkS [(2,(jI v36))],[])
 | .ret=>(.ret,mkS [(2,(jI 0)),(3,(jB false))],[])
def f30n2S(bd1:ByteArray)(v24 v25:Int):Tr×Hp:=(mkS [(0,(jS bd1)),(2,(jI v24)),(6,(jI (bd1.size:Int))),(7,(jI v25))],[])
noncomputable def f30n2:Nat→ByteArray→Int→Int→Option f30n2O
 | 0,_,_,_=>none
 | f+1,bd1,v24,v25 =>
  bif decide (v25<(bd1.size:Int)) then
   (at? bd1.data.toList v25).bind fun x32 =>
   bif decide ((x32.toNat:Int)<48) then
    some .ret
   else
    bif decide (57<(x32.toNat:Int)) then
     some .ret
    else
     (f30n2 f bd1 (wr64 ((wr64 (10*v24))+(wr64 (wru8 ((x32.toNat:Int)-48))))) (wr64 (v25+1)))
  else
   some (.exit0 v24)
theorem f30n2_ok:∀(f:Nat)(bd1:ByteArray)(v24 v25:Int){o:f30n2O},f30n2 f bd1 v24 v25=some o→TL Try.prog Try.f30.ntmps 0 f (cL (cL (Ql 1 (cL (Ql 1 c30))))) (f30n2S bd1 v24 v25) (·=f30n2E bd1 o)
 | 0,_,_,_,o,h=>by rw [f30n2] at h; cases h
 | f+1,bd1,v24,v25,o,h=>by
  rw [f30n2] at h;refine TL.body (K:=fun s=>∃v24:Int,∃v25:Int,s=(f30n2S bd1 v24 v25)∧f30n2 f bd1 v24 v25=some o) ?_ (by rintro _ ⟨v24,v25,rfl,hk⟩; exact f30n2_ok f _ _ _ hk);rcases Qf h with ⟨h27,h⟩|⟨h27,h⟩
  ·obtain ⟨x32,h33,h⟩:=Qe h;rcases Qf h with ⟨h34,h⟩|⟨h34,h⟩
   ·obtain rfl:=Qd h;exact rK Qg 3 [j3,j3,(jT [5,6,7,8],[(2,.byte (Int.toNat v25) x32),(9,.bool true)],[]),j3] [some true,none] [] [] [2,3] .ret ((f30n2E bd1 .ret).2) (ap h27 (ap (Qi h33).1 (ap (Qi h33).2 (ap h34 (ap4 h34 an))))) (Qs.out rfl rfl)
   ·rcases Qf h with ⟨h35,h⟩|⟨h35,h⟩
    ·obtain rfl:=Qd h;exact rK Qg 3 [j3,j3,(jF [5,6,7,8],[(2,.byte (Int.toNat v25) x32),(7,.byte (Int.toNat v25) x32),(9,.bool false)],[]),j3] [some true,some true] [] [] [2,3] .ret ((f30n2E bd1 .ret).2) (ap h27 (ap (Qi h33).1 (ap (Qi h33).2 (ap3 h34 (ap (Qi h33).1 (ap (Qi h33).2 (ap2 h34 (ap h35 an)))))))) (Qs.out rfl rfl)
    ·exact rE Qg [j3,j3,(jF [5,6,7,8],[(2,.byte (Int.toNat v25) x32),(7,.byte (Int.toNat v25) x32),(9,.bool false)],[]),([],[(4,.byte (Int.toNat v25) x32)],[]),j3] [some true,some false] [] [] [0,2,6,7] (.norm,(f30n2S bd1 (wr64 ((wr64 (10*v24))+(wr64 (wru8 ((x32.toNat:Int)-48))))) (wr64 (v25+1)))) (ap h27 (ap (Qi h33).1 (ap (Qi h33).2 (ap3 h34 (ap (Qi h33).1 (ap (Qi h33).2 (ap2 h34 (ap h35 (ap (Qi h33).1 (ap (Qi h33).2 an)))))))))) (Qs.norm ⟨(wr64 ((wr64 (10*v24))+(wr64 (wru8 ((x32.toNat:Int)-48))))),(wr64 (v25+1)),rfl,h⟩)
  ·obtain rfl:=Qd h;exact rK Qg 2 [j3] [some false] [] [] [2] (.exit 0) ((f30n2E bd1 (.exit0 v24)).2) (ap h27 an) (Qs.out rfl rfl)
noncomputable def f30n2L(bd1:ByteArray):List UInt8→Int→Int→Option f30n2O
 | [],v24,v25 =>
  some (.exit0 v24)
 | x0::rest,v24,v25 =>
  bif decide ((x0.toNat:Int)<48) then
   some .ret
  else
   bif decide (57<(x0.toNat:Int)) then
    some .ret
   else
    (f30n2L bd1 rest (wr64 ((wr64 (10*v24))+(wr64 (wru8 ((x0.toNat:Int)-48))))) (v25+1))
theorem f30n2L_eq(bd1:ByteArray):∀(rest:List UInt8)(f k:Nat)(v24:Int),bd1.data.toList.drop k=rest→bd1.data.toList.length≤maxLen→rest.length<f→f30n2 f bd1 v24 (k:Int)=f30n2L bd1 rest v24 (k:Int)
 | _,0,_,_,_,_,hf=>absurd hf (Nat.not_lt_zero _)
 | [],f+1,k,v24,hd,hm,hf=>by
  have hk:¬((k:Int)<(bd1.data.toList.length:Int)):=by have:=Qab hd; omega
  rw [f30n2,f30n2L];simp only [size_list,decide_eq_false hk,cond_false]
 | x0::rest,f+1,k,v24,hd,hm,hf=>by
  obtain ⟨hx,hlt,hd'⟩:=Qah hd;have hk:(k:Int)<(bd1.data.toList.length:Int):=by omega
  have hw:wr64 ((k:Int)+1)=(k:Int)+1:=Qbi (by omega) (by unfold maxLen at hm; omega);have ih:∀(v24:Int),f30n2 f bd1 v24 ((k:Int)+1)=f30n2L bd1 rest v24 ((k:Int)+1):=fun v24=>f30n2L_eq bd1 rest f (k+1) v24 hd' hm (by simpa using hf);rw [f30n2,f30n2L];simp only [size_list,decide_eq_true hk,cond_true,Qbt,hx,Option.bind_some,hw,ih]
theorem f30n2_run(bd1:ByteArray)(v24:Int)(hm:bd1.data.toList.length≤maxLen):f30n2 FUEL bd1 v24 0=f30n2L bd1 bd1.data.toList v24 0:=f30n2L_eq bd1 bd1.data.toList FUEL 0 v24 List.drop_zero hm (Qbe hm)
inductive f30n1O where
 | norm (v40:Int)
 | ret
def f30n1E(bd1:ByteArray):f30n1O→Ex×Tr×Hp
 | .norm v40=>(.norm,mkS [(2,(jI v40))],[])
 | .ret=>(.ret,mkS [(2,(jI 0)),(3,(jB false))],[])
def f30n1S(bd1:ByteArray):Tr×Hp:=(mkS [(0,(jS bd1)),(2,(jI 0))],[])
noncomputable def f30n1(bd1:ByteArray):Option f30n1O :=
 (f30n2 FUEL bd1 0 0).bind fun o37=>match o37 with
 | .exit0 v39=>some (.norm v39)
 | .ret=>some .ret
theorem f30n1_ok(bd1:ByteArray){o:f30n1O}(h:f30n1 bd1=some o):T Try.prog Try.f30.ntmps 0 (cL (Ql 1 c30)) (f30n1S bd1) (·=f30n1E bd1 o):=by
 unfold f30n1 at h;refine rN Qg 1 [j3] [] [] [] [0,2,6,7] (f30n2S bd1 0 0) an ?_;obtain ⟨o37,h38,h⟩:=Qe h;cases o37 with
 | exit0 v39 =>
  obtain rfl:=Qd h;exact T.last' (T.bl (i:=0) (by kernel_rfl) (by kernel_rfl) (f30n2_ok FUEL bd1 0 0 h38)) (tds:=[]) (m:=[]) (keep:=[2]) (st2:=(f30n1E bd1 (.norm v39)).2) (by kernel_rfl) an rfl
 | ret =>
  obtain rfl:=Qd h;exact T.last' (T.bl (i:=0) (by kernel_rfl) (by kernel_rfl) (f30n2_ok FUEL bd1 0 0 h38)) (tds:=[]) (m:=[]) (keep:=[2,3]) (st2:=(f30n1E bd1 .ret).2) (by kernel_rfl) an rfl
inductive f30n0O where
 | ret (v44:Int) (v45:Bool)
def f30n0E(a1:ByteArray):f30n0O→Ex×Tr×Hp
 | .ret v44 v45=>(.ret,mkS [(2,(jI v44)),(3,(jB v45))],[])
def f30n0S(a1:ByteArray):Tr×Hp:=(Qad [(jS a1)] 0 .leaf,[])
noncomputable def f30n0(a1:ByteArray):Option f30n0O :=
 (f30n1 a1).bind fun o41=>match o41 with
 | .norm v43=>some (.ret v43 true)
 | .ret=>some (.ret 0 false)
theorem f30n0_ok(a1:ByteArray){o:f30n0O}(h:f30n0 a1=some o):T Try.prog Try.f30.ntmps 0 c30 (f30n0S a1) (·=f30n0E a1 o):=by
 unfold f30n0 at h;refine rN Qg 1 [j3] [] [] [] [0,2] (f30n1S a1) an ?_;obtain ⟨o41,h42,h⟩:=Qe h;cases o41 with
 | norm v43 =>
  refine T.oneN (by kernel_rfl) (f30n1_ok a1 h42) (st2:=(f30n1E a1 (.norm v43)).2) rfl ?_;obtain rfl:=Qd h;exact rE Qg [j3] [] [] [] [2,3] (.ret,(f30n0E a1 (.ret v43 true)).2) an rfl
 | ret =>
  obtain rfl:=Qd h;exact T.oneX' (by kernel_rfl) (f30n1_ok a1 h42) (tds:=[]) (m:=[]) (keep:=[2,3]) (st2:=(f30n0E a1 (.ret 0 false)).2) (by kernel_rfl) an rfl rfl
noncomputable def f30(a1:ByteArray):Option (Int×Bool):=(f30n0 a1).bind fun o=>match o with
 | .ret v44 v45=>some (v44,v45)
theorem f30_ok(a1:ByteArray){r:Int×Bool}(h:f30 a1=some r):Qo Try.prog false 30 [(jS a1)] [] (.tup [(jI r.1),(jB r.2)]) []:=by
 unfold f30 at h;obtain ⟨o,ho,h⟩:=Qe h;cases o with
 | ret v44 v45 =>
  obtain rfl:=Qd h;exact Qo.plain Qg (f:=Try.f30) (c:=c30) (by kernel_rfl) (by kernel_rfl) (by kernel_rfl) (by kernel_rfl) ((f30n0_ok a1 ho).mono fun r e=>by subst e; exact ⟨.inl rfl,(.tup [(jI v44),(jB v45)]),(.tup [(jI v44),(jB v45)]),by kernel_rfl,by kernel_rfl,((Wk.refl _):Wk (.tup [(jI v44),(jB v45)]) (.tup [(jI v44),(jB v45)]))⟩)

noncomputable def c62:Code:=Try.f62.body.getD .skip
inductive f62n0O where
 | ret (v4:Bool)
def f62n0E(a1:Int):f62n0O→Ex×Tr×Hp
 | .ret v4=>(.ret,mkS [(2,(jB v4))],[])
def f62n0S(a1:Int):Tr×Hp:=(Qad [(jI a1)] 0 .leaf,[])
noncomputable def f62n0(a1:Int):Option f62n0O :=
 bif decide (1900≤a1) then
  some (.ret (decide (a1≤2173)))
 else
  some (.ret false)
theorem f62n0_ok(a1:Int){o:f62n0O}(h:f62n0 a1=some o):T Try.prog Try.f62.ntmps 0 c62 (f62n0S a1) (·=f62n0E a1 o):=by
 unfold f62n0 at h;rcases Qf h with ⟨h3,h⟩|⟨h3,h⟩
 ·obtain rfl:=Qd h;exact rE Qg [j3,([(3,true),(4,true)],[(5,.bool true)],[])] [] [] [] [2] (.ret,(f62n0E a1 (.ret (decide (a1≤2173)))).2) (ap3 h3 an) rfl
 ·obtain rfl:=Qd h;exact rE Qg [j3,([(3,false),(4,false)],[(5,.bool false)],[])] [] [] [] [2] (.ret,(f62n0E a1 (.ret false)).2) (ap3 h3 an) rfl
noncomputable def f62(a1:Int):Option Bool:=(f62n0 a1).bind fun o=>match o with
 | .ret v4=>some v4
theorem f62_ok(a1:Int){r:Bool}(h:f62 a1=some r):Qo Try.prog false 62 [(jI a1)] [] (jB r) []:=by
 unfold f62 at h;obtain ⟨o,ho,h⟩:=Qe h;cases o with
 | ret v4 =>
  obtain rfl:=Qd h;exact Qo.plain Qg (f:=Try.f62) (c:=c62) (by kernel_rfl) (by kernel_rfl) (by kernel_rfl) (by kernel_rfl) ((f62n0_ok a1 ho).mono fun r e=>by subst e; exact ⟨.inl rfl,(jB v4),(jB v4),by kernel_rfl,by kernel_rfl,((Wk.refl _):Wk (jB v4) (jB v4))⟩)

noncomputable def c64:Code:=Try.f64.body.getD .skip
inductive f64n0O where
 | ret (v6:Bool)
def f64n0E(a1:Int):f64n0O→Ex×Tr×Hp
 | .ret v6=>(.ret,mkS [(2,(jB v6))],[])
def f64n0S(a1:Int):Tr×Hp:=(Qad [(jI a1)] 0 .leaf,[])
noncomputable def f64n0(a1:Int):Option f64n0O :=
 bif decide ((Int.tmod a1 4)=0) then
  bif decide ((Int.tmod a1 100)=0) then
   some (.ret (decide ((Int.tmod a1 400)=0)))
  else
   some (.ret true)
 else
  some (.ret false)
theorem f64n0_ok(a1:Int){o:f64n0O}(h:f64n0 a1=some o):T Try.prog Try.f64.ntmps 0 c64 (f64n0S a1) (·=f64n0E a1 o):=by
 unfold f64n0 at h;rcases Qf h with ⟨h4,h⟩|⟨h4,h⟩
 ·rcases Qf h with ⟨h5,h⟩|⟨h5,h⟩
  ·obtain rfl:=Qd h;exact rE Qg [j3,(jF [8,9,10]++jT [4,5,6,7,11],[(11,.bool false),(12,.bool true)],[])] [] [] [] [2] (.ret,(f64n0E a1 (.ret (decide ((Int.tmod a1 400)=0)))).2) (ap4 h4 (ap3 (Qp h5) (ap h4 (ap (Qp h5) (ap h4 an))))) rfl
  ·obtain rfl:=Qd h;exact rE Qg [j3,(jT [4,5,6,7,8,9,10,11],[(11,.bool true),(12,.bool true)],[])] [] [] [] [2] (.ret,(f64n0E a1 (.ret true)).2) (ap4 h4 (ap3 (Qw h5) (ap h4 (ap (Qw h5) (ap h4 an))))) rfl
 ·obtain rfl:=Qd h;exact rE Qg [j3,(jF [4,5,6,7,11],[(12,.bool false)],[])] [] [] [] [2] (.ret,(f64n0E a1 (.ret false)).2) (ap2 h4 (ap4 h4 an)) rfl
noncomputable def f64(a1:Int):Option Bool:=(f64n0 a1).bind fun o=>match o with
 | .ret v6=>some v6
theorem f64_ok(a1:Int){r:Bool}(h:f64 a1=some r):Qo Try.prog false 64 [(jI a1)] [] (jB r) []:=by
 unfold f64 at h;obtain ⟨o,ho,h⟩:=Qe h;cases o with
 | ret v6 =>
  obtain rfl:=Qd h;exact Qo.plain Qg (f:=Try.f64) (c:=c64) (by kernel_rfl) (by kernel_rfl) (by kernel_rfl) (by kernel_rfl) ((f64n0_ok a1 ho).mono fun r e=>by subst e; exact ⟨.inl rfl,(jB v6),(jB v6),by kernel_rfl,by kernel_rfl,((Wk.refl _):Wk (jB v6) (jB v6))⟩)

noncomputable def c43:Code:=Try.f43.body.getD .skip
inductive f43n0O where
 | ret (v8:Qae)
def f43n0E(a1:Int):f43n0O→Ex×Tr×Hp
 | .ret v8=>(.ret,mkS [(2,(.bp 0 0))],[some (.box ((Qae.cells v8).map .pl))])
def f43n0S(a1:Int):Tr×Hp:=(Qad [(jI a1)] 0 .leaf,[])
noncomputable def f43n0(a1:Int):Option f43n0O :=
 (f64 a1).bind fun x5 =>
 bif x5 then
  some (.ret (Qae.mk 0 31 29 31 30 31 30 31 31 30 31 30 31))
 else
  some (.ret (Qae.mk 0 31 28 31 30 31 30 31 31 30 31 30 31))
theorem f43n0_ok(a1:Int){o:f43n0O}(h:f43n0 a1=some o):T Try.prog Try.f43.ntmps 0 c43 (f43n0S a1) (·=f43n0E a1 o):=by
 unfold f43n0 at h;obtain ⟨x5,h6,h⟩:=Qe h;rcases Qf h with ⟨h7,h⟩|⟨h7,h⟩
 ·obtain rfl:=Qd h;exact rE Qg [j3,j3,([],[jH 1 (jB x5)],[]),j3,j3] [some true] [] [0] [2] (.ret,(f43n0E a1 (.ret (Qae.mk 0 31 29 31 30 31 30 31 31 30 31 30 31))).2) (ap (f64_ok a1 h6) (ap h7 an)) rfl
 ·obtain rfl:=Qd h;exact rE Qg [j3,j3,([],[jH 1 (jB x5)],[]),j3] [some false] [] [0] [2] (.ret,(f43n0E a1 (.ret (Qae.mk 0 31 28 31 30 31 30 31 31 30 31 30 31))).2) (ap (f64_ok a1 h6) (ap h7 an)) rfl
noncomputable def f43(a1:Int):Option Qae:=(f43n0 a1).bind fun o=>match o with
 | .ret v8=>some v8
theorem f43_ok(a1:Int){r:Qae}(h:f43 a1=some r):Qo Try.prog false 43 [(jI a1)] [] (jA Qae.cells r) []:=by
 unfold f43 at h;obtain ⟨o,ho,h⟩:=Qe h;cases o with
 | ret v8 =>
  obtain rfl:=Qd h;exact Qo.plain Qg (f:=Try.f43) (c:=c43) (by kernel_rfl) (by kernel_rfl) (by kernel_rfl) (by kernel_rfl) ((f43n0_ok a1 ho).mono fun r e=>by subst e; exact ⟨.inl rfl,(jA Qae.cells v8),(jA Qae.cells v8),by kernel_rfl,by kernel_rfl,((Wk.refl _):Wk (jA Qae.cells v8) (jA Qae.cells v8))⟩)

noncomputable def c41:Code:=Try.f41.body.getD .skip
inductive f41n0O where
 | ret (v43:Int) (v44:Int)
def f41n0E(a1 a2:Int):f41n0O→Ex×Tr×Hp
 | .ret v43 v44=>(.ret,mkS [(4,(jI v43)),(5,(jI v44))],[])
def f41n0S(a1 a2:Int):Tr×Hp:=(Qad [(jI a1),(jI a2)] 0 .leaf,[])
noncomputable def f41n0(a1 a2:Int):Option f41n0O :=
 (f62 a1).bind fun x8 =>
 bif x8 then
  bif decide (a2<1) then
   some (.ret 0 2)
  else
   bif decide (12<a2) then
    some (.ret 0 2)
   else
    (f43 a1).bind fun x28 =>
    bif decide (a2=0) then
     some (.ret x28.e0 0)
    else
     bif decide (a2=1) then
      some (.ret x28.e1 0)
     else
      bif decide (a2=2) then
       some (.ret x28.e2 0)
      else
       bif decide (a2=3) then
        some (.ret x28.e3 0)
       else
        bif decide (a2=4) then
         some (.ret x28.e4 0)
        else
         bif decide (a2=5) then
          some (.ret x28.e5 0)
         else
          bif decide (a2=6) then
           some (.ret x28.e6 0)
          else
           bif decide (a2=7) then
            some (.ret x28.e7 0)
           else
            bif decide (a2=8) then
             some (.ret x28.e8 0)
            else
             bif decide (a2=9) then
              some (.ret x28.e9 0)
             else
              bif decide (a2=10) then
               some (.ret x28.e10 0)
              else
               bif decide (a2=11) then
                some (.ret x28.e11 0)
               else
                bif decide (a2=12) then
                 some (.ret x28.e12 0)
                else
                 none
 else
  some (.ret 0 2)
theorem f41n0_ok(a1 a2:Int){o:f41n0O}(h:f41n0 a1 a2=some o):T Try.prog Try.f41.ntmps 0 c41 (f41n0S a1 a2) (·=f41n0E a1 a2 o):=by
 unfold f41n0 at h;obtain ⟨x8,h9,h⟩:=Qe h;rcases Qf h with ⟨h10,h⟩|⟨h10,h⟩
 ·rcases Qf h with ⟨h11,h⟩|⟨h11,h⟩
  ·obtain rfl:=Qd h;exact rK Qg 2 [j3,(jF [4,5]++jT [8,9],[jH 1 (jB x8),(6,.bool false),(10,.bool true)],[]),j3] [none] [] [] [4,5] .ret ((f41n0E a1 a2 (.ret 0 2)).2) (ap3 (Qp h10) (ap3 h11 (ap (f62_ok a1 h9) an))) rfl
  ·rcases Qf h with ⟨h12,h⟩|⟨h12,h⟩
   ·obtain rfl:=Qd h;exact rK Qg 2 [j3,(jF [4,5,8,9],[jH 1 (jB x8),(6,.bool false),(10,.bool false)],[]),j3] [some true] [] [] [4,5] .ret ((f41n0E a1 a2 (.ret 0 2)).2) (ap3 (Qp h10) (ap3 h11 (ap (f62_ok a1 h9) (ap h12 an)))) rfl
   ·obtain ⟨x28,h29,h⟩:=Qe h;rcases Qf h with ⟨h30,h⟩|⟨h30,h⟩
    ·obtain rfl:=Qd h;exact rE Qg [j3,(jF [4,5,8,9],[jH 1 (jB x8),(6,.bool false),(10,.bool false)],[]),([],[jH 1 (jA Qae.cells x28),(3,.at_ 0)],[])] [some false] [] [] [4,5] (.ret,(f41n0E a1 a2 (.ret x28.e0 0)).2) (ap3 (Qp h10) (ap3 h11 (ap (f62_ok a1 h9) (ap h12 (ap (of_decide_eq_true h30) (ap (f43_ok a1 h29) an)))))) rfl
    ·rcases Qf h with ⟨h31,h⟩|⟨h31,h⟩
     ·obtain rfl:=Qd h;exact rE Qg [j3,(jF [4,5,8,9],[jH 1 (jB x8),(6,.bool false),(10,.bool false)],[]),([],[jH 1 (jA Qae.cells x28),(3,.at_ 1)],[])] [some false] [] [] [4,5] (.ret,(f41n0E a1 a2 (.ret x28.e1 0)).2) (ap3 (Qp h10) (ap3 h11 (ap (f62_ok a1 h9) (ap h12 (ap (of_decide_eq_true h31) (ap (f43_ok a1 h29) an)))))) rfl
     ·rcases Qf h with ⟨h32,h⟩|⟨h32,h⟩
      ·obtain rfl:=Qd h;exact rE Qg [j3,(jF [4,5,8,9],[jH 1 (jB x8),(6,.bool false),(10,.bool false)],[]),([],[jH 1 (jA Qae.cells x28),(3,.at_ 2)],[])] [some false] [] [] [4,5] (.ret,(f41n0E a1 a2 (.ret x28.e2 0)).2) (ap3 (Qp h10) (ap3 h11 (ap (f62_ok a1 h9) (ap h12 (ap (of_decide_eq_true h32) (ap (f43_ok a1 h29) an)))))) rfl
      ·rcases Qf h with ⟨h33,h⟩|⟨h33,h⟩
       ·obtain rfl:=Qd h;exact rE Qg [j3,(jF [4,5,8,9],[jH 1 (jB x8),(6,.bool false),(10,.bool false)],[]),([],[jH 1 (jA Qae.cells x28),(3,.at_ 3)],[])] [some false] [] [] [4,5] (.ret,(f41n0E a1 a2 (.ret x28.e3 0)).2) (ap3 (Qp h10) (ap3 h11 (ap (f62_ok a1 h9) (ap h12 (ap (of_decide_eq_true h33) (ap (f43_ok a1 h29) an)))))) rfl
       ·rcases Qf h with ⟨h34,h⟩|⟨h34,h⟩
        ·obtain rfl:=Qd h;exact rE Qg [j3,(jF [4,5,8,9],[jH 1 (jB x8),(6,.bool false),(10,.bool false)],[]),([],[jH 1 (jA Qae.cells x28),(3,.at_ 4)],[])] [some false] [] [] [4,5] (.ret,(f41n0E a1 a2 (.ret x28.e4 0)).2) (ap3 (Qp h10) (ap3 h11 (ap (f62_ok a1 h9) (ap h12 (ap (of_decide_eq_true h34) (ap (f43_ok a1 h29) an)))))) rfl
        ·rcases Qf h with ⟨h35,h⟩|⟨h35,h⟩
         ·obtain rfl:=Qd h;exact rE Qg [j3,(jF [4,5,8,9],[jH 1 (jB x8),(6,.bool false),(10,.bool false)],[]),([],[jH 1 (jA Qae.cells x28),(3,.at_ 5)],[])] [some false] [] [] [4,5] (.ret,(f41n0E a1 a2 (.ret x28.e5 0)).2) (ap3 (Qp h10) (ap3 h11 (ap (f62_ok a1 h9) (ap h12 (ap (of_decide_eq_true h35) (ap (f43_ok a1 h29) an)))))) rfl
         ·rcases Qf h with ⟨h36,h⟩|⟨h36,h⟩
          ·obtain rfl:=Qd h;exact rE Qg [j3,(jF [4,5,8,9],[jH 1 (jB x8),(6,.bool false),(10,.bool false)],[]),([],[jH 1 (jA Qae.cells x28),(3,.at_ 6)],[])] [some false] [] [] [4,5] (.ret,(f41n0E a1 a2 (.ret x28.e6 0)).2) (ap3 (Qp h10) (ap3 h11 (ap (f62_ok a1 h9) (ap h12 (ap (of_decide_eq_true h36) (ap (f43_ok a1 h29) an)))))) rfl
          ·rcases Qf h with ⟨h37,h⟩|⟨h37,h⟩
           ·obtain rfl:=Qd h;exact rE Qg [j3,(jF [4,5,8,9],[jH 1 (jB x8),(6,.bool false),(10,.bool false)],[]),([],[jH 1 (jA Qae.cells x28),(3,.at_ 7)],[])] [some false] [] [] [4,5] (.ret,(f41n0E a1 a2 (.ret x28.e7 0)).2) (ap3 (Qp h10) (ap3 h11 (ap (f62_ok a1 h9) (ap h12 (ap (of_decide_eq_true h37) (ap (f43_ok a1 h29) an)))))) rfl
           ·rcases Qf h with ⟨h38,h⟩|⟨h38,h⟩
            ·obtain rfl:=Qd h;exact rE Qg [j3,(jF [4,5,8,9],[jH 1 (jB x8),(6,.bool false),(10,.bool false)],[]),([],[jH 1 (jA Qae.cells x28),(3,.at_ 8)],[])] [some false] [] [] [4,5] (.ret,(f41n0E a1 a2 (.ret x28.e8 0)).2) (ap3 (Qp h10) (ap3 h11 (ap (f62_ok a1 h9) (ap h12 (ap (of_decide_eq_true h38) (ap (f43_ok a1 h29) an)))))) rfl
            ·rcases Qf h with ⟨h39,h⟩|⟨h39,h⟩
             ·obtain rfl:=Qd h;exact rE Qg [j3,(jF [4,5,8,9],[jH 1 (jB x8),(6,.bool false),(10,.bool false)],[]),([],[jH 1 (jA Qae.cells x28),(3,.at_ 9)],[])] [some false] [] [] [4,5] (.ret,(f41n0E a1 a2 (.ret x28.e9 0)).2) (ap3 (Qp h10) (ap3 h11 (ap (f62_ok a1 h9) (ap h12 (ap (of_decide_eq_true h39) (ap (f43_ok a1 h29) an)))))) rfl
             ·rcases Qf h with ⟨h40,h⟩|⟨h40,h⟩
              ·obtain rfl:=Qd h;exact rE Qg [j3,(jF [4,5,8,9],[jH 1 (jB x8),(6,.bool false),(10,.bool false)],[]),([],[jH 1 (jA Qae.cells x28),(3,.at_ 10)],[])] [some false] [] [] [4,5] (.ret,(f41n0E a1 a2 (.ret x28.e10 0)).2) (ap3 (Qp h10) (ap3 h11 (ap (f62_ok a1 h9) (ap h12 (ap (of_decide_eq_true h40) (ap (f43_ok a1 h29) an)))))) rfl
              ·rcases Qf h with ⟨h41,h⟩|⟨h41,h⟩
               ·obtain rfl:=Qd h;exact rE Qg [j3,(jF [4,5,8,9],[jH 1 (jB x8),(6,.bool false),(10,.bool false)],[]),([],[jH 1 (jA Qae.cells x28),(3,.at_ 11)],[])] [some false] [] [] [4,5] (.ret,(f41n0E a1 a2 (.ret x28.e11 0)).2) (ap3 (Qp h10) (ap3 h11 (ap (f62_ok a1 h9) (ap h12 (ap (of_decide_eq_true h41) (ap (f43_ok a1 h29) an)))))) rfl
               ·rcases Qf h with ⟨h42,h⟩|⟨h42,h⟩
                ·obtain rfl:=Qd h;exact rE Qg [j3,(jF [4,5,8,9],[jH 1 (jB x8),(6,.bool false),(10,.bool false)],[]),([],[jH 1 (jA Qae.cells x28),(3,.at_ 12)],[])] [some false] [] [] [4,5] (.ret,(f41n0E a1 a2 (.ret x28.e12 0)).2) (ap3 (Qp h10) (ap3 h11 (ap (f62_ok a1 h9) (ap h12 (ap (of_decide_eq_true h42) (ap (f43_ok a1 h29) an)))))) rfl
                ·cases h
 ·obtain rfl:=Qd h;exact rK Qg 2 [j3,([(4,true),(5,true)],[jH 1 (jB x8),(6,.bool true)],[]),j3] [none] [] [] [4,5] .ret ((f41n0E a1 a2 (.ret 0 2)).2) (ap3 (Qw h10) (ap (f62_ok a1 h9) an)) rfl
noncomputable def f41(a1 a2:Int):Option (Int×Int):=(f41n0 a1 a2).bind fun o=>match o with
 | .ret v43 v44=>some (v43,v44)
theorem f41_ok(a1 a2:Int){r:Int×Int}(h:f41 a1 a2=some r):Qo Try.prog false 41 [(jI a1),(jI a2)] [] (.tup [(jI r.1),(jI r.2)]) []:=by
 unfold f41 at h;obtain ⟨o,ho,h⟩:=Qe h;cases o with
 | ret v43 v44 =>
  obtain rfl:=Qd h;exact Qo.plain Qg (f:=Try.f41) (c:=c41) (by kernel_rfl) (by kernel_rfl) (by kernel_rfl) (by kernel_rfl) ((f41n0_ok a1 a2 ho).mono fun r e=>by subst e; exact ⟨.inl rfl,(.tup [(jI v43),(jI v44)]),(.tup [(jI v43),(jI v44)]),by kernel_rfl,by kernel_rfl,((Wk.refl _):Wk (.tup [(jI v43),(jI v44)]) (.tup [(jI v43),(jI v44)]))⟩)

noncomputable def c63:Code:=Try.f63.body.getD .skip
inductive f63n0O where
 | ret
def f63n0E(a1:Int):f63n0O→Ex×Tr×Hp
 | .ret=>(.ret,mkS [(2,(.pl (.int .i64 (wr64 ((wr64 ((wr64 (Int.tdiv a1 4))-(wr64 (Int.tdiv a1 100))))+(wr64 (Int.tdiv a1 400)))))))],[])
def f63n0S(a1:Int):Tr×Hp:=(Qad [(jI a1)] 0 .leaf,[])
noncomputable def f63n0(a1:Int):Option f63n0O :=
 some .ret
theorem f63n0_ok(a1:Int){o:f63n0O}(h:f63n0 a1=some o):T Try.prog Try.f63.ntmps 0 c63 (f63n0S a1) (·=f63n0E a1 o):=by
 unfold f63n0 at h;obtain rfl:=Qd h;exact rE Qg [j3,j3] [] [] [] [2] (.ret,(f63n0E a1 .ret).2) an rfl
noncomputable def f63(a1:Int):Option Int:=(f63n0 a1).bind fun o=>match o with
 | .ret=>some (wr64 ((wr64 ((wr64 (Int.tdiv a1 4))-(wr64 (Int.tdiv a1 100))))+(wr64 (Int.tdiv a1 400))))
theorem f63_ok(a1:Int){r:Int}(h:f63 a1=some r):Qo Try.prog false 63 [(jI a1)] [] (jI r) []:=by
 unfold f63 at h;obtain ⟨o,ho,h⟩:=Qe h;cases o with
 | ret =>
  obtain rfl:=Qd h;exact Qo.plain Qg (f:=Try.f63) (c:=c63) (by kernel_rfl) (by kernel_rfl) (by kernel_rfl) (by kernel_rfl) ((f63n0_ok a1 ho).mono fun r e=>by subst e; exact ⟨.inl rfl,(.pl (.int .i64 (wr64 ((wr64 ((wr64 (Int.tdiv a1 4))-(wr64 (Int.tdiv a1 100))))+(wr64 (Int.tdiv a1 400)))))),(.pl (.int .i64 (wr64 ((wr64 ((wr64 (Int.tdiv a1 4))-(wr64 (Int.tdiv a1 100))))+(wr64 (Int.tdiv a1 400)))))),by kernel_rfl,by kernel_rfl,((Wk.refl _):Wk (.pl (.int .i64 (wr64 ((wr64 ((wr64 (Int.tdiv a1 4))-(wr64 (Int.tdiv a1 100))))+(wr64 (Int.tdiv a1 400)))))) (.pl (.int .i64 (wr64 ((wr64 ((wr64 (Int.tdiv a1 4))-(wr64 (Int.tdiv a1 100))))+(wr64 (Int.tdiv a1 400)))))))⟩)

noncomputable def c42:Code:=Try.f42.body.getD .skip
inductive f42n0O where
 | ret (v10:Int)
def f42n0E(a1:Int):f42n0O→Ex×Tr×Hp
 | .ret v10=>(.ret,mkS [(2,(jI v10))],[])
def f42n0S(a1:Int):Tr×Hp:=(Qad [(jI a1)] 0 .leaf,[])
noncomputable def f42n0(a1:Int):Option f42n0O :=
 (f63 (wr64 (a1-1))).bind fun x6 =>
 (f63 1899).bind fun x8 =>
 some (.ret (wr64 ((wr64 ((wr64 (365*(wr64 (a1-1900))))+x6))-x8)))
theorem f42n0_ok(a1:Int){o:f42n0O}(h:f42n0 a1=some o):T Try.prog Try.f42.ntmps 0 c42 (f42n0S a1) (·=f42n0E a1 o):=by
 unfold f42n0 at h;obtain ⟨x6,h7,h⟩:=Qe h;obtain ⟨x8,h9,h⟩:=Qe h;obtain rfl:=Qd h;exact rE Qg [j3,([],[jH 5 (jI x6),jH 7 (jI x8)],[])] [] [] [] [2] (.ret,(f42n0E a1 (.ret (wr64 ((wr64 ((wr64 (365*(wr64 (a1-1900))))+x6))-x8)))).2) (ap (f63_ok (wr64 (a1-1)) h7) (ap (f63_ok 1899 h9) an)) rfl
noncomputable def f42(a1:Int):Option Int:=(f42n0 a1).bind fun o=>match o with
 | .ret v10=>some v10
theorem f42_ok(a1:Int){r:Int}(h:f42 a1=some r):Qo Try.prog false 42 [(jI a1)] [] (jI r) []:=by
 unfold f42 at h;obtain ⟨o,ho,h⟩:=Qe h;cases o with
 | ret v10 =>
  obtain rfl:=Qd h;exact Qo.plain Qg (f:=Try.f42) (c:=c42) (by kernel_rfl) (by kernel_rfl) (by kernel_rfl) (by kernel_rfl) ((f42n0_ok a1 ho).mono fun r e=>by subst e; exact ⟨.inl rfl,(jI v10),(jI v10),by kernel_rfl,by kernel_rfl,((Wk.refl _):Wk (jI v10) (jI v10))⟩)

noncomputable def c31:Code:=Try.f31.body.getD .skip
inductive f31n2O where
 | exit0 (v46:Int)
def f31n2E(bi4:Qae)(bf1:Int):f31n2O→Ex×Tr×Hp
 | .exit0 v46=>((.exit 0),mkS [(10,(jI v46))],[])
def f31n2S(bi4:Qae)(bf1 v38 v39:Int):Tr×Hp:=(mkS [(10,(jI v38)),(39,(.pl (.sl .any 1 ((([bi4.e0,bi4.e1,bi4.e2,bi4.e3,bi4.e4,bi4.e5,bi4.e6,bi4.e7,bi4.e8,bi4.e9,bi4.e10,bi4.e11,bi4.e12].take (Int.toNat bf1)).drop 0).map (cInt .i64))))),(40,(.pl (.int .i64 ((([bi4.e0,bi4.e1,bi4.e2,bi4.e3,bi4.e4,bi4.e5,bi4.e6,bi4.e7,bi4.e8,bi4.e9,bi4.e10,bi4.e11,bi4.e12].take (Int.toNat bf1)).drop 0).length:Int)))),(41,(jI v39))],[])
noncomputable def f31n2:Nat→Qae→Int→Int→Int→Option f31n2O
 | 0,_,_,_,_=>none
 | f+1,bi4,bf1,v38,v39 =>
  bif (decide (v39<((([bi4.e0,bi4.e1,bi4.e2,bi4.e3,bi4.e4,bi4.e5,bi4.e6,bi4.e7,bi4.e8,bi4.e9,bi4.e10,bi4.e11,bi4.e12].take (Int.toNat bf1)).drop 0).length:Int))) then
   (at? (([bi4.e0,bi4.e1,bi4.e2,bi4.e3,bi4.e4,bi4.e5,bi4.e6,bi4.e7,bi4.e8,bi4.e9,bi4.e10,bi4.e11,bi4.e12].take (Int.toNat bf1)).drop 0) v39).bind fun x44 =>
   (f31n2 f bi4 bf1 (wr64 (v38+x44)) (wr64 (v39+1)))
  else
   some (.exit0 v38)
theorem f31n2_ok:∀(f:Nat)(bi4:Qae)(bf1 v38 v39:Int){o:f31n2O},f31n2 f bi4 bf1 v38 v39=some o→TL Try.prog Try.f31.ntmps 0 f (cL (cL (Ql 0 (Ql 1 (cL (Ql 5 c31)))))) (f31n2S bi4 bf1 v38 v39) (·=f31n2E bi4 bf1 o)
 | 0,_,_,_,_,o,h=>by rw [f31n2] at h; cases h
 | f+1,bi4,bf1,v38,v39,o,h=>by
  rw [f31n2] at h;refine TL.body (K:=fun s=>∃v38:Int,∃v39:Int,s=(f31n2S bi4 bf1 v38 v39)∧f31n2 f bi4 bf1 v38 v39=some o) ?_ (by rintro _ ⟨v38,v39,rfl,hk⟩; exact f31n2_ok f _ _ _ _ hk);rcases Qf h with ⟨h41,h⟩|⟨h41,h⟩
  ·obtain ⟨x44,h45,h⟩:=Qe h;exact rE Qg [j3,([],[(0,.idx (Int.toNat v39) ((cInt .i64) x44))],[]),j3,j3] [some true] [] [] [10,39,40,41] (.norm,(f31n2S bi4 bf1 (wr64 (v38+x44)) (wr64 (v39+1)))) (ap h41 (ap (Qi h45).1 (ap (Qq (cInt .i64) (Qi h45).2) an))) (Qs.norm ⟨(wr64 (v38+x44)),(wr64 (v39+1)),rfl,h⟩)
  ·obtain rfl:=Qd h;exact rK Qg 2 [j3] [some false] [] [] [10] (.exit 0) ((f31n2E bi4 bf1 (.exit0 v38)).2) (ap h41 an) (Qs.out rfl rfl)
noncomputable def f31n2L(bi4:Qae)(bf1:Int):List Int→Int→Int→Option f31n2O
 | [],v38,v39 =>
  some (.exit0 v38)
 | x0::rest,v38,v39 =>
  (f31n2L bi4 bf1 rest (wr64 (v38+x0)) (v39+1))
theorem f31n2L_eq(bi4:Qae)(bf1:Int):∀(rest:List Int)(f k:Nat)(v38:Int),(([bi4.e0,bi4.e1,bi4.e2,bi4.e3,bi4.e4,bi4.e5,bi4.e6,bi4.e7,bi4.e8,bi4.e9,bi4.e10,bi4.e11,bi4.e12].take (Int.toNat bf1)).drop 0).drop k=rest→(([bi4.e0,bi4.e1,bi4.e2,bi4.e3,bi4.e4,bi4.e5,bi4.e6,bi4.e7,bi4.e8,bi4.e9,bi4.e10,bi4.e11,bi4.e12].take (Int.toNat bf1)).drop 0).length≤maxLen→rest.length<f→f31n2 f bi4 bf1 v38 (k:Int)=f31n2L bi4 bf1 rest v38 (k:Int)
 | _,0,_,_,_,_,hf=>absurd hf (Nat.not_lt_zero _)
 | [],f+1,k,v38,hd,hm,hf=>by
  have hk:¬((k:Int)<((([bi4.e0,bi4.e1,bi4.e2,bi4.e3,bi4.e4,bi4.e5,bi4.e6,bi4.e7,bi4.e8,bi4.e9,bi4.e10,bi4.e11,bi4.e12].take (Int.toNat bf1)).drop 0).length:Int)):=by have:=Qab hd; omega
  rw [f31n2,f31n2L];simp only [decide_eq_false hk,cond_false]
 | x0::rest,f+1,k,v38,hd,hm,hf=>by
  obtain ⟨hx,hlt,hd'⟩:=Qah hd;have hk:(k:Int)<((([bi4.e0,bi4.e1,bi4.e2,bi4.e3,bi4.e4,bi4.e5,bi4.e6,bi4.e7,bi4.e8,bi4.e9,bi4.e10,bi4.e11,bi4.e12].take (Int.toNat bf1)).drop 0).length:Int):=by omega
  have hw:wr64 ((k:Int)+1)=(k:Int)+1:=Qbi (by omega) (by unfold maxLen at hm; omega);have ih:∀(v38:Int),f31n2 f bi4 bf1 v38 ((k:Int)+1)=f31n2L bi4 bf1 rest v38 ((k:Int)+1):=fun v38=>f31n2L_eq bi4 bf1 rest f (k+1) v38 hd' hm (by simpa using hf);rw [f31n2,f31n2L];simp only [decide_eq_true hk,cond_true,Qbt,hx,Option.bind_some,hw,ih]
theorem f31n2_run(bi4:Qae)(bf1 v38:Int) (hm:(([bi4.e0,bi4.e1,bi4.e2,bi4.e3,bi4.e4,bi4.e5,bi4.e6,bi4.e7,bi4.e8,bi4.e9,bi4.e10,bi4.e11,bi4.e12].take (Int.toNat bf1)).drop 0).length≤maxLen):f31n2 FUEL bi4 bf1 v38 0=f31n2L bi4 bf1 (([bi4.e0,bi4.e1,bi4.e2,bi4.e3,bi4.e4,bi4.e5,bi4.e6,bi4.e7,bi4.e8,bi4.e9,bi4.e10,bi4.e11,bi4.e12].take (Int.toNat bf1)).drop 0) v38 0:=f31n2L_eq bi4 bf1 (([bi4.e0,bi4.e1,bi4.e2,bi4.e3,bi4.e4,bi4.e5,bi4.e6,bi4.e7,bi4.e8,bi4.e9,bi4.e10,bi4.e11,bi4.e12].take (Int.toNat bf1)).drop 0) FUEL 0 v38 List.drop_zero hm (Qbe hm)
inductive f31n1O where
 | norm (v50:Int)
def f31n1E(bf1 bf2 bf3:Int)(bi4:Qae):f31n1O→Ex×Tr×Hp
 | .norm v50=>(.norm,mkS [(10,(jI v50))],[])
def f31n1S(bf1 bf2 bf3:Int)(bi4:Qae):Tr×Hp:=(mkS [(1,(jI bf1)),(10,(.pl (.int .i64 (wr64 ((wr64 (bf2+bf3))-1))))),(11,(.bp 0 0))],[some (.box ((Qae.cells bi4).map .pl))])
noncomputable def f31n1(bf1 bf2 bf3:Int)(bi4:Qae):Option f31n1O :=
 req (cutB 0 bf1 13) <|
 (f31n2 FUEL bi4 bf1 (wr64 ((wr64 (bf2+bf3))-1)) 0).bind fun o47=>match o47 with
 | .exit0 v49=>some (.norm v49)
theorem f31n1_ok(bf1 bf2 bf3:Int)(bi4:Qae){o:f31n1O}(h:f31n1 bf1 bf2 bf3 bi4=some o):T Try.prog Try.f31.ntmps 0 (cL (Ql 5 c31)) (f31n1S bf1 bf2 bf3 bi4) (·=f31n1E bf1 bf2 bf3 bi4 o):=by
 unfold f31n1 at h;obtain ⟨h23,h⟩:=Qaf h
 refine rN Qg 1 [([],[(1,.cut 0 (Int.toNat bf1))],[(1,.val (.pl (.sl .any 1 ((([bi4.e0,bi4.e1,bi4.e2,bi4.e3,bi4.e4,bi4.e5,bi4.e6,bi4.e7,bi4.e8,bi4.e9,bi4.e10,bi4.e11,bi4.e12].take (Int.toNat bf1)).drop 0).map (cInt .i64))))),(2,.val (.pl (.int .i64 ((([bi4.e0,bi4.e1,bi4.e2,bi4.e3,bi4.e4,bi4.e5,bi4.e6,bi4.e7,bi4.e8,bi4.e9,bi4.e10,bi4.e11,bi4.e12].take (Int.toNat bf1)).drop 0).length:Int))))])] [] [] [] [10,39,40,41] (mkS [(10,(.pl (.int .i64 (wr64 ((wr64 (bf2+bf3))-1))))),(39,(.pl (.sl .any 1 ((([bi4.e0,bi4.e1,bi4.e2,bi4.e3,bi4.e4,bi4.e5,bi4.e6,bi4.e7,bi4.e8,bi4.e9,bi4.e10,bi4.e11,bi4.e12].take (Int.toNat bf1)).drop 0).map (cInt .i64))))),(40,(.pl (.int .i64 ((([bi4.e0,bi4.e1,bi4.e2,bi4.e3,bi4.e4,bi4.e5,bi4.e6,bi4.e7,bi4.e8,bi4.e9,bi4.e10,bi4.e11,bi4.e12].take (Int.toNat bf1)).drop 0).length:Int)))),(41,(jI 0))],[]) (ap (cut_hn_1 h23) (ap (Qbm h23) (ap (Qbq h23) (ap (cut_hn_4 h23) (ap (congrArg (fun l=>AV.pl (.sl .any 1 l)) (cutA_cv (f:=PV.int .i64) (xs:=[bi4.e0,bi4.e1,bi4.e2,bi4.e3,bi4.e4,bi4.e5,bi4.e6,bi4.e7,bi4.e8,bi4.e9,bi4.e10,bi4.e11,bi4.e12]) (Int.toNat bf1) 0)) (ap (Qr (xs:=(([bi4.e0,bi4.e1,bi4.e2,bi4.e3,bi4.e4,bi4.e5,bi4.e6,bi4.e7,bi4.e8,bi4.e9,bi4.e10,bi4.e11,bi4.e12].take (Int.toNat bf1)).drop 0)) (c:=(cInt .i64))) an)))))) ?_
 refine rN Qg 0 [] [] [] [] [10,39,40,41] (f31n2S bi4 bf1 (wr64 ((wr64 (bf2+bf3))-1)) 0) an ?_;obtain ⟨o47,h48,h⟩:=Qe h;cases o47 with
 | exit0 v49 =>
  obtain rfl:=Qd h;exact T.last' (T.bl (i:=0) (by kernel_rfl) (by kernel_rfl) (f31n2_ok FUEL bi4 bf1 (wr64 ((wr64 (bf2+bf3))-1)) 0 h48)) (tds:=[]) (m:=[]) (keep:=[10]) (st2:=(f31n1E bf1 bf2 bf3 bi4 (.norm v49)).2) (by kernel_rfl) an rfl
inductive f31n0O where
 | ret (v56:Int) (v57:Int)
def f31n0E(a1 a2 a3:Int):f31n0O→Ex×Tr×Hp
 | .ret v56 v57=>(.ret,mkS [(6,(jI v56)),(7,(jI v57))],[])
def f31n0S(a1 a2 a3:Int):Tr×Hp:=(Qad [(jI a1),(jI a2),(jI a3)] 0 .leaf,[])
noncomputable def f31n0(a1 a2 a3:Int):Option f31n0O :=
 (f41 a1 a2).bind fun x6 =>
 bif decide (x6.2=0) then
  bif decide (a3<1) then
   some (.ret 0 2)
  else
   bif decide (x6.1<a3) then
    some (.ret 0 2)
   else
    (f42 a1).bind fun x16 =>
    (f43 a1).bind fun x20 =>
    (f31n1 a2 x16 a3 x20).bind fun o51=>match o51 with
    | .norm v53=>bif decide (99999<v53) then
      some (.ret 0 2)
     else
      some (.ret v53 0)
 else
  some (.ret 0 2)
theorem f31n0_ok(a1 a2 a3:Int){o:f31n0O}(h:f31n0 a1 a2 a3=some o):T Try.prog Try.f31.ntmps 0 c31 (f31n0S a1 a2 a3) (·=f31n0E a1 a2 a3 o):=by
 unfold f31n0 at h;obtain ⟨x6,h7,h⟩:=Qe h;rcases Qf h with ⟨h11,h⟩|⟨h11,h⟩
 ·rcases Qf h with ⟨h12,h⟩|⟨h12,h⟩
  ·obtain rfl:=Qd h;exact rK Qg 3 [j3,([],[jH 2 (.tup [(jI x6.1),(jI x6.2)])],[]),(jF [3,4]++jT [7,8,9],[(5,.bool false),(10,.bool true)],[]),j3] [none] [] [] [6,7] .ret ((f31n0E a1 a2 a3 (.ret 0 2)).2) (ap (f41_ok a1 a2 h7) (ap3 (Qp h11) (ap4 h12 an))) rfl
  ·rcases Qf h with ⟨h13,h⟩|⟨h13,h⟩
   ·obtain rfl:=Qd h;exact rK Qg 3 [j3,([],[jH 2 (.tup [(jI x6.1),(jI x6.2)])],[]),(jF [3,4,7,8,9],[(5,.bool false),(10,.bool false)],[]),j3] [some true] [] [] [6,7] .ret ((f31n0E a1 a2 a3 (.ret 0 2)).2) (ap (f41_ok a1 a2 h7) (ap3 (Qp h11) (ap4 h12 (ap h13 an)))) rfl
   ·obtain ⟨x16,h17,h⟩:=Qe h;obtain ⟨x20,h21,h⟩:=Qe h;refine rN Qg 5 [j3,([],[jH 2 (.tup [(jI x6.1),(jI x6.2)])],[]),(jF [3,4,7,8,9],[(5,.bool false),(10,.bool false)],[]),([],[jH 1 (jI x16)],[]),([],[jH 1 (jA Qae.cells x20)],[])] [some false] [] [0] [1,10,11] (f31n1S a2 x16 a3 x20) (ap (f41_ok a1 a2 h7) (ap3 (Qp h11) (ap4 h12 (ap h13 (ap (f42_ok a1 h17) (ap (f43_ok a1 h21) an)))))) ?_;obtain ⟨o51,h52,h⟩:=Qe h;cases o51 with
    | norm v53 =>
     refine T.oneN (by kernel_rfl) (f31n1_ok a2 x16 a3 x20 h52) (st2:=(f31n1E a2 x16 a3 x20 (.norm v53)).2) rfl ?_;rcases Qf h with ⟨h55,h⟩|⟨h55,h⟩
     ·obtain rfl:=Qd h;exact rK Qg 1 [j3,j3] [some true] [] [] [6,7] .ret ((f31n0E a1 a2 a3 (.ret 0 2)).2) (ap h55 an) rfl
     ·obtain rfl:=Qd h;exact rE Qg [j3,j3] [some false] [] [] [6,7] (.ret,(f31n0E a1 a2 a3 (.ret v53 0)).2) (ap h55 an) rfl
 ·obtain rfl:=Qd h;exact rK Qg 3 [j3,([],[jH 2 (.tup [(jI x6.1),(jI x6.2)])],[]),([(3,true),(4,true)],[(5,.bool true)],[]),j3] [none] [] [] [6,7] .ret ((f31n0E a1 a2 a3 (.ret 0 2)).2) (ap (f41_ok a1 a2 h7) (ap3 (Qw h11) an)) rfl
noncomputable def f31(a1 a2 a3:Int):Option (Int×Int):=(f31n0 a1 a2 a3).bind fun o=>match o with
 | .ret v56 v57=>some (v56,v57)
theorem f31_ok(a1 a2 a3:Int){r:Int×Int}(h:f31 a1 a2 a3=some r):Qo Try.prog false 31 [(jI a1),(jI a2),(jI a3)] [] (.tup [(jI r.1),(jI r.2)]) []:=by
 unfold f31 at h;obtain ⟨o,ho,h⟩:=Qe h;cases o with
 | ret v56 v57 =>
  obtain rfl:=Qd h;exact Qo.plain Qg (f:=Try.f31) (c:=c31) (by kernel_rfl) (by kernel_rfl) (by kernel_rfl) (by kernel_rfl) ((f31n0_ok a1 a2 a3 ho).mono fun r e=>by subst e; exact ⟨.inl rfl,(.tup [(jI v56),(jI v57)]),(.tup [(jI v56),(jI v57)]),by kernel_rfl,by kernel_rfl,((Wk.refl _):Wk (.tup [(jI v56),(jI v57)]) (.tup [(jI v56),(jI v57)]))⟩)

noncomputable def c19:Code:=Try.f19.body.getD .skip
inductive f19n0O where
 | ret (v57:Int) (v58:Int)
def f19n0E(a1:ByteArray):f19n0O→Ex×Tr×Hp
 | .ret v57 v58=>(.ret,mkS [(2,(jI v57)),(3,(jI v58))],[])
def f19n0S(a1:ByteArray):Tr×Hp:=(Qad [(jS a1)] 0 .leaf,[])
noncomputable def f19n0(a1:ByteArray):Option f19n0O :=
 bif decide ((a1.size:Int)=10) then
  (at? a1.data.toList 4).bind fun x10 =>
  bif decide ((x10.toNat:Int)=45) then
   (at? a1.data.toList 7).bind fun x13 =>
   bif decide ((x13.toNat:Int)=45) then
    req (cutB 0 4 a1.size) <|
    (f30 (scut a1 0 (Int.toNat 4))).bind fun x20 =>
    req (cutB 5 7 a1.size) <|
    (f30 (scut a1 (Int.toNat 5) (Int.toNat 7))).bind fun x37 =>
    req (cutB 8 (a1.size:Int) a1.size) <|
    (f30 (scut a1 (Int.toNat 8) a1.size)).bind fun x43 =>
    bif x20.2 then
     bif x37.2 then
      bif x43.2 then
       (f31 x20.1 x37.1 x43.1).bind fun x55 =>
       some (.ret x55.1 x55.2)
      else
       some (.ret 0 12)
     else
      some (.ret 0 12)
    else
     some (.ret 0 12)
   else
    some (.ret 0 12)
  else
   some (.ret 0 12)
 else
  some (.ret 0 12)
theorem f19n0_ok(a1:ByteArray){o:f19n0O}(h:f19n0 a1=some o):T Try.prog Try.f19.ntmps 0 c19 (f19n0S a1) (·=f19n0E a1 o):=by
 unfold f19n0 at h;rcases Qf h with ⟨h9,h⟩|⟨h9,h⟩
 ·obtain ⟨x10,h11,h⟩:=Qe h;rcases Qf h with ⟨h12,h⟩|⟨h12,h⟩
  ·obtain ⟨x13,h14,h⟩:=Qe h;rcases Qf h with ⟨h15,h⟩|⟨h15,h⟩
   ·obtain ⟨h19,h⟩:=Qaf h;obtain ⟨x20,h21,h⟩:=Qe h;refine rN Qg 3 [j3,(jF [4,5,6,9,10,11],[(5,.byte (Int.toNat 4) x10),(7,.bool false),(10,.byte (Int.toNat 7) x13),(12,.bool false)],[]),([],[(1,.cut 0 (Int.toNat 4)),jH 2 (.tup [(jI x20.1),(jB x20.2)])],[])] [some false] [] [] [0,4,5] (mkS [(0,(jS a1)),(4,(jI x20.1)),(5,(jB x20.2))],[]) (ap2 (Qp h9) (ap (Qi h11).1 (ap (Qi h11).2 (ap2 (Qp h9) (ap2 (Qp h12) (ap (Qi h14).1 (ap (Qi h14).2 (ap2 (Qp h12) (ap (Qp h15) (ap (cut_hn_1 h19) (ap (Qbm h19) (ap (Qbq h19) (ap (cut_hn_4 h19) (ap (f30_ok (scut a1 0 (Int.toNat 4)) h21) an)))))))))))))) ?_;obtain ⟨h36,h⟩:=Qaf h;obtain ⟨x37,h38,h⟩:=Qe h;obtain ⟨h42,h⟩:=Qaf h;obtain ⟨x43,h44,h⟩:=Qe h;rcases Qf h with ⟨h48,h⟩|⟨h48,h⟩
    ·rcases Qf h with ⟨h49,h⟩|⟨h49,h⟩
     ·rcases Qf h with ⟨h50,h⟩|⟨h50,h⟩
      ·obtain ⟨x55,h56,h⟩:=Qe h;obtain rfl:=Qd h;exact rE Qg [([],[(1,.cut (Int.toNat 5) (Int.toNat 7)),jH 2 (.tup [(jI x37.1),(jB x37.2)])],[]),([],[(1,.cut (Int.toNat 8) a1.size),jH 2 (.tup [(jI x43.1),(jB x43.2)])],[]),(jF [3,4,7,8],[(5,.bool false),(9,.bool false)],[]),([],[jH 3 (.tup [(jI x55.1),(jI x55.2)])],[])] [some false] [] [] [2,3] (.ret,(f19n0E a1 (.ret x55.1 x55.2)).2) (ap (cut_hl_1 h36) (ap (cut_hl_2 h36) (ap (cut_hl_3 h36) (ap (cut_hl_4 h36) (ap (f30_ok (scut a1 (Int.toNat 5) (Int.toNat 7)) h38) (ap (cut_nl_1 h42) (ap (cut_nl_2 h42) (ap (cut_nl_3 h42) (ap (cut_nl_4 h42) (ap (f30_ok (scut a1 (Int.toNat 8) a1.size) h44) (ap3 (Qp h48) (ap3 (Qp h49) (ap (Qp h50) (ap (f31_ok x20.1 x37.1 x43.1 h56) an)))))))))))))) rfl
      ·obtain rfl:=Qd h;exact rK Qg 3 [([],[(1,.cut (Int.toNat 5) (Int.toNat 7)),jH 2 (.tup [(jI x37.1),(jB x37.2)])],[]),([],[(1,.cut (Int.toNat 8) a1.size),jH 2 (.tup [(jI x43.1),(jB x43.2)])],[]),(jF [3,4,7,8],[(5,.bool false),(9,.bool false)],[]),j3] [some true] [] [] [2,3] .ret ((f19n0E a1 (.ret 0 12)).2) (ap (cut_hl_1 h36) (ap (cut_hl_2 h36) (ap (cut_hl_3 h36) (ap (cut_hl_4 h36) (ap (f30_ok (scut a1 (Int.toNat 5) (Int.toNat 7)) h38) (ap (cut_nl_1 h42) (ap (cut_nl_2 h42) (ap (cut_nl_3 h42) (ap (cut_nl_4 h42) (ap (f30_ok (scut a1 (Int.toNat 8) a1.size) h44) (ap3 (Qp h48) (ap3 (Qp h49) (ap (Qw h50) an))))))))))))) rfl
     ·obtain rfl:=Qd h;exact rK Qg 3 [([],[(1,.cut (Int.toNat 5) (Int.toNat 7)),jH 2 (.tup [(jI x37.1),(jB x37.2)])],[]),([],[(1,.cut (Int.toNat 8) a1.size),jH 2 (.tup [(jI x43.1),(jB x43.2)])],[]),(jF [3,4]++jT [7,8],[(5,.bool false),(9,.bool true)],[]),j3] [none] [] [] [2,3] .ret ((f19n0E a1 (.ret 0 12)).2) (ap (cut_hl_1 h36) (ap (cut_hl_2 h36) (ap (cut_hl_3 h36) (ap (cut_hl_4 h36) (ap (f30_ok (scut a1 (Int.toNat 5) (Int.toNat 7)) h38) (ap (cut_nl_1 h42) (ap (cut_nl_2 h42) (ap (cut_nl_3 h42) (ap (cut_nl_4 h42) (ap (f30_ok (scut a1 (Int.toNat 8) a1.size) h44) (ap3 (Qp h48) (ap3 (Qw h49) an)))))))))))) rfl
    ·obtain rfl:=Qd h;exact rK Qg 3 [([],[(1,.cut (Int.toNat 5) (Int.toNat 7)),jH 2 (.tup [(jI x37.1),(jB x37.2)])],[]),([],[(1,.cut (Int.toNat 8) a1.size),jH 2 (.tup [(jI x43.1),(jB x43.2)])],[]),([(3,true),(4,true)],[(5,.bool true)],[]),j3] [none] [] [] [2,3] .ret ((f19n0E a1 (.ret 0 12)).2) (ap (cut_hl_1 h36) (ap (cut_hl_2 h36) (ap (cut_hl_3 h36) (ap (cut_hl_4 h36) (ap (f30_ok (scut a1 (Int.toNat 5) (Int.toNat 7)) h38) (ap (cut_nl_1 h42) (ap (cut_nl_2 h42) (ap (cut_nl_3 h42) (ap (cut_nl_4 h42) (ap (f30_ok (scut a1 (Int.toNat 8) a1.size) h44) (ap3 (Qw h48) an))))))))))) rfl
   ·obtain rfl:=Qd h;exact rK Qg 2 [j3,(jF [4,5,6,9,10,11],[(5,.byte (Int.toNat 4) x10),(7,.bool false),(10,.byte (Int.toNat 7) x13),(12,.bool false)],[]),j3] [some true] [] [] [2,3] .ret ((f19n0E a1 (.ret 0 12)).2) (ap2 (Qp h9) (ap (Qi h11).1 (ap (Qi h11).2 (ap2 (Qp h9) (ap2 (Qp h12) (ap (Qi h14).1 (ap (Qi h14).2 (ap2 (Qp h12) (ap (Qw h15) an))))))))) rfl
  ·obtain rfl:=Qd h;exact rK Qg 2 [j3,(jF [4,5,6]++jT [9,10,11],[(5,.byte (Int.toNat 4) x10),(7,.bool false),(12,.bool true)],[]),j3] [none] [] [] [2,3] .ret ((f19n0E a1 (.ret 0 12)).2) (ap2 (Qp h9) (ap (Qi h11).1 (ap (Qi h11).2 (ap2 (Qp h9) (ap4 (Qw h12) an))))) rfl
 ·obtain rfl:=Qd h;exact rK Qg 2 [j3,(jT [4,5,6],[(7,.bool true)],[]),j3] [none] [] [] [2,3] .ret ((f19n0E a1 (.ret 0 12)).2) (ap4 (Qw h9) an) rfl
noncomputable def f19(a1:ByteArray):Option (Int×Int):=(f19n0 a1).bind fun o=>match o with
 | .ret v57 v58=>some (v57,v58)
theorem f19_ok(a1:ByteArray){r:Int×Int}(h:f19 a1=some r):Qo Try.prog false 19 [(jS a1)] [] (.tup [(jI r.1),(jI r.2)]) []:=by
 unfold f19 at h;obtain ⟨o,ho,h⟩:=Qe h;cases o with
 | ret v57 v58 =>
  obtain rfl:=Qd h;exact Qo.plain Qg (f:=Try.f19) (c:=c19) (by kernel_rfl) (by kernel_rfl) (by kernel_rfl) (by kernel_rfl) ((f19n0_ok a1 ho).mono fun r e=>by subst e; exact ⟨.inl rfl,(.tup [(jI v57),(jI v58)]),(.tup [(jI v57),(jI v58)]),by kernel_rfl,by kernel_rfl,((Wk.refl _):Wk (.tup [(jI v57),(jI v58)]) (.tup [(jI v57),(jI v58)]))⟩)

noncomputable def c8:Code:=Try.f8.body.getD .skip
inductive f8n0O where
 | ret (v20:Int)
def f8n0E(a1:Qa):f8n0O→Ex×Tr×Hp
 | .ret v20=>(.ret,mkS [(2,(jI v20))],[])
def f8n0S(a1:Qa):Tr×Hp:=(Qad [(jA Qa.cells a1)] 0 .leaf,[])
noncomputable def f8n0(a1:Qa):Option f8n0O :=
 (f18 a1.Text Qal).bind fun x11 =>
 bif x11.2 then
  bif decide (10≤(x11.1.size:Int)) then
   req (cutB 0 10 x11.1.size) <|
   (f19 (scut x11.1 0 (Int.toNat 10))).bind fun x16 =>
   bif decide (x16.2=0) then
    bif decide (x16.1≤a1.Day) then
     some (.ret x16.1)
    else
     some (.ret a1.Day)
   else
    some (.ret a1.Day)
  else
   some (.ret a1.Day)
 else
  some (.ret a1.Day)
theorem f8n0_ok(a1:Qa){o:f8n0O}(h:f8n0 a1=some o):T Try.prog Try.f8.ntmps 0 c8 (f8n0S a1) (·=f8n0E a1 o):=by
 unfold f8n0 at h;obtain ⟨x11,h12,h⟩:=Qe h;rcases Qf h with ⟨h13,h⟩|⟨h13,h⟩
 ·rcases Qf h with ⟨h14,h⟩|⟨h14,h⟩
  ·obtain ⟨h15,h⟩:=Qaf h;obtain ⟨x16,h17,h⟩:=Qe h;rcases Qf h with ⟨h18,h⟩|⟨h18,h⟩
   ·rcases Qf h with ⟨h19,h⟩|⟨h19,h⟩
    ·obtain rfl:=Qd h;exact rK Qg 2 [j3,([],[jH 2 (.tup [(jS x11.1),(jB x11.2)])],[]),(jT [2,3,4],[(5,.bool true)],[]),([],[(1,.cut 0 (Int.toNat 10)),jH 2 (.tup [(jI x16.1),(jI x16.2)])],[]),(jT [3,4,5,6],[(7,.bool true)],[]),j3] [some true,some true] [] [] [2] .ret ((f8n0E a1 (.ret x16.1)).2) (ap (f18_ok a1.Text Qal h12) (ap4 h13 (ap h14 (ap (cut_hn_1 h15) (ap (Qbm h15) (ap (Qbq h15) (ap (cut_hn_4 h15) (ap (f19_ok (scut x11.1 0 (Int.toNat 10)) h17) (ap h18 (ap4 h18 (ap h19 an))))))))))) rfl
    ·obtain rfl:=Qd h;exact rE Qg [j3,([],[jH 2 (.tup [(jS x11.1),(jB x11.2)])],[]),(jT [2,3,4],[(5,.bool true)],[]),([],[(1,.cut 0 (Int.toNat 10)),jH 2 (.tup [(jI x16.1),(jI x16.2)])],[]),(jT [3,4,5,6],[(7,.bool true)],[]),j3] [some true,some false] [] [] [2] (.ret,(f8n0E a1 (.ret a1.Day)).2) (ap (f18_ok a1.Text Qal h12) (ap4 h13 (ap h14 (ap (cut_hn_1 h15) (ap (Qbm h15) (ap (Qbq h15) (ap (cut_hn_4 h15) (ap (f19_ok (scut x11.1 0 (Int.toNat 10)) h17) (ap h18 (ap4 h18 (ap h19 an))))))))))) rfl
   ·obtain rfl:=Qd h;exact rE Qg [j3,([],[jH 2 (.tup [(jS x11.1),(jB x11.2)])],[]),(jT [2,3,4],[(5,.bool true)],[]),([],[(1,.cut 0 (Int.toNat 10)),jH 2 (.tup [(jI x16.1),(jI x16.2)])],[]),(jF [3,4,5,6],[(7,.bool false)],[]),j3] [some true,none] [] [] [2] (.ret,(f8n0E a1 (.ret a1.Day)).2) (ap (f18_ok a1.Text Qal h12) (ap4 h13 (ap h14 (ap (cut_hn_1 h15) (ap (Qbm h15) (ap (Qbq h15) (ap (cut_hn_4 h15) (ap (f19_ok (scut x11.1 0 (Int.toNat 10)) h17) (ap h18 (ap4 h18 an)))))))))) rfl
  ·obtain rfl:=Qd h;exact rE Qg [j3,([],[jH 2 (.tup [(jS x11.1),(jB x11.2)])],[]),(jT [2,3,4],[(5,.bool true)],[]),j3] [some false] [] [] [2] (.ret,(f8n0E a1 (.ret a1.Day)).2) (ap (f18_ok a1.Text Qal h12) (ap4 h13 (ap h14 an))) rfl
 ·obtain rfl:=Qd h;exact rE Qg [j3,([],[jH 2 (.tup [(jS x11.1),(jB x11.2)])],[]),(jF [2,3,4],[(5,.bool false)],[]),j3] [none] [] [] [2] (.ret,(f8n0E a1 (.ret a1.Day)).2) (ap (f18_ok a1.Text Qal h12) (ap4 h13 an)) rfl
noncomputable def f8(a1:Qa):Option Int:=(f8n0 a1).bind fun o=>match o with
 | .ret v20=>some v20
theorem f8_ok(a1:Qa){r:Int}(h:f8 a1=some r):Qo Try.prog false 8 [(jA Qa.cells a1)] [] (jI r) []:=by
 unfold f8 at h;obtain ⟨o,ho,h⟩:=Qe h;cases o with
 | ret v20 =>
  obtain rfl:=Qd h;exact Qo.plain Qg (f:=Try.f8) (c:=c8) (by kernel_rfl) (by kernel_rfl) (by kernel_rfl) (by kernel_rfl) ((f8n0_ok a1 ho).mono fun r e=>by subst e; exact ⟨.inl rfl,(jI v20),(jI v20),by kernel_rfl,by kernel_rfl,((Wk.refl _):Wk (jI v20) (jI v20))⟩)

noncomputable def c13:Code:=Try.f13.body.getD .skip

inductive f13r2n0O where
 | norm
def f13r2n0E(a1 a2:ByteArray)(a3 a4:Int)(a5:List (Key_×Qb)):f13r2n0O→Ex×Tr×Hp
 | .norm=>(.norm,mkS [],[some (.map ((mPut Key_.eqb (Key_.mk a1 a2) (Qb.mk a1 a2 (wr64 ((mGet Key_.eqb (Qb.mk Qav Qav 0 0) (Key_.mk a1 a2) a5).In+a3)) (wr64 ((mGet Key_.eqb (Qb.mk Qav Qav 0 0) (Key_.mk a1 a2) a5).Out+a4))) a5).map (mkv (pAgg Key_.cells) (pAgg Qb.cells))))])
def f13r2n0S(a1 a2:ByteArray)(a3 a4:Int)(a5:List (Key_×Qb)):Tr×Hp:=(Qad [(.mp 0),(jS a1),(jS a2),(jI a3),(jI a4)] 0 .leaf,[some (.map (a5.map (mkv (pAgg Key_.cells) (pAgg Qb.cells))))])
noncomputable def f13r2n0(a1 a2:ByteArray)(a3 a4:Int)(a5:List (Key_×Qb)):Option f13r2n0O :=
 some .norm
theorem f13r2n0_ok(a1 a2:ByteArray)(a3 a4:Int)(a5:List (Key_×Qb)){o:f13r2n0O}(h:f13r2n0 a1 a2 a3 a4 a5=some o):T Try.prog Try.f13.ntmps 1 c13 (f13r2n0S a1 a2 a3 a4 a5) (·=f13r2n0E a1 a2 a3 a4 a5 o):=by
 unfold f13r2n0 at h;obtain rfl:=Qd h
 exact rE Qg [([],[(4,.look ((pAgg Qb.cells) (mGet Key_.eqb (Qb.mk Qav Qav 0 0) (Key_.mk a1 a2) a5)) (mHas Key_.eqb (Key_.mk a1 a2) a5))],[]),([],[(15,.mset ((mPut Key_.eqb (Key_.mk a1 a2) (Qb.mk a1 a2 (wr64 ((mGet Key_.eqb (Qb.mk Qav Qav 0 0) (Key_.mk a1 a2) a5).In+a3)) (wr64 ((mGet Key_.eqb (Qb.mk Qav Qav 0 0) (Key_.mk a1 a2) a5).Out+a4))) a5).map (mkv (pAgg Key_.cells) (pAgg Qb.cells))))],[])] [] [] [] [] (.norm,(f13r2n0E a1 a2 a3 a4 a5 .norm).2) (ap (look_map (vp:=(pAgg Qb.cells)) (e:=50) key_64 (Qb.mk Qav Qav 0 0) (by kernel_rfl) (Key_.mk a1 a2) a5) (ap (mset_map (vp:=(pAgg Qb.cells)) key_64 (Key_.mk a1 a2) (Qb.mk a1 a2 (wr64 ((mGet Key_.eqb (Qb.mk Qav Qav 0 0) (Key_.mk a1 a2) a5).In+a3)) (wr64 ((mGet Key_.eqb (Qb.mk Qav Qav 0 0) (Key_.mk a1 a2) a5).Out+a4))) a5) an)) rfl
noncomputable def f13r2(a1 a2:ByteArray)(a3 a4:Int)(a5:List (Key_×Qb)):Option Unit:=(f13r2n0 a1 a2 a3 a4 a5).bind fun o=>match o with
 | .norm=>some ()
theorem f13r2_ok(a1 a2:ByteArray)(a3 a4:Int)(a5:List (Key_×Qb)){r:Unit}(h:f13r2 a1 a2 a3 a4 a5=some r):Qo Try.prog true 13 [(.mp 0),(jS a1),(jS a2),(jI a3),(jI a4)] [some (.map (a5.map (mkv (pAgg Key_.cells) (pAgg Qb.cells))))] (.tup []) [some (.map ((mPut Key_.eqb (Key_.mk a1 a2) (Qb.mk a1 a2 (wr64 ((mGet Key_.eqb (Qb.mk Qav Qav 0 0) (Key_.mk a1 a2) a5).In+a3)) (wr64 ((mGet Key_.eqb (Qb.mk Qav Qav 0 0) (Key_.mk a1 a2) a5).Out+a4))) a5).map (mkv (pAgg Key_.cells) (pAgg Qb.cells))))]:=by
 unfold f13r2 at h;obtain ⟨o,ho,h⟩:=Qe h;cases o with
 | norm =>
  obtain rfl:=Qd h;exact Qo.shared Qg (f:=Try.f13) (c:=c13) (by kernel_rfl) (by kernel_rfl) (by kernel_rfl) ((f13r2n0_ok a1 a2 a3 a4 a5 ho).mono fun r e=>by subst e; exact ⟨.inr rfl,by kernel_rfl,by kernel_rfl⟩)

noncomputable def c61:Code:=Try.f61.body.getD .skip
inductive f61n0O where
 | ret
def f61n0E(a1:ByteArray):f61n0O→Ex×Tr×Hp
 | .ret=>(.ret,mkS [(2,(.pl (.bool (!(seq a1 a1)))))],[])
def f61n0S(a1:ByteArray):Tr×Hp:=(Qad [(jS a1)] 0 .leaf,[])
noncomputable def f61n0(a1:ByteArray):Option f61n0O :=
 some .ret
theorem f61n0_ok(a1:ByteArray){o:f61n0O}(h:f61n0 a1=some o):T Try.prog Try.f61.ntmps 0 c61 (f61n0S a1) (·=f61n0E a1 o):=by
 unfold f61n0 at h;obtain rfl:=Qd h;exact rE Qg [j3,j3] [] [] [] [2] (.ret,(f61n0E a1 .ret).2) an rfl
noncomputable def f61(a1:ByteArray):Option Bool:=(f61n0 a1).bind fun o=>match o with
 | .ret=>some (!(seq a1 a1))
theorem f61_ok(a1:ByteArray){r:Bool}(h:f61 a1=some r):Qo Try.prog false 61 [(jS a1)] [] (jB r) []:=by
 unfold f61 at h;obtain ⟨o,ho,h⟩:=Qe h;cases o with
 | ret =>
  obtain rfl:=Qd h;exact Qo.plain Qg (f:=Try.f61) (c:=c61) (by kernel_rfl) (by kernel_rfl) (by kernel_rfl) (by kernel_rfl) ((f61n0_ok a1 ho).mono fun r e=>by subst e; exact ⟨.inl rfl,(.pl (.bool (!(seq a1 a1)))),(.pl (.bool (!(seq a1 a1)))),by kernel_rfl,by kernel_rfl,((Wk.refl _):Wk (.pl (.bool (!(seq a1 a1)))) (.pl (.bool (!(seq a1 a1)))))⟩)

noncomputable def c37:Code:=Try.f37.body.getD .skip
inductive f37n0O where
 | ret (v21:Int)
def f37n0E(a1 a2:ByteArray):f37n0O→Ex×Tr×Hp
 | .ret v21=>(.ret,mkS [(4,(jI v21))],[])
def f37n0S(a1 a2:ByteArray):Tr×Hp:=(Qad [(jS a1),(jS a2)] 0 .leaf,[])
noncomputable def f37n0(a1 a2:ByteArray):Option f37n0O :=
 (f61 a1).bind fun x5 =>
 (f61 a2).bind fun x9 =>
 bif x5 then
  bif x9 then
   some (.ret 0)
  else
   some (.ret (-1))
 else
  bif x9 then
   some (.ret 1)
  else
   bif (slt a1 a2) then
    some (.ret (-1))
   else
    bif (slt a1 a2||seq a1 a2) then
     some (.ret 0)
    else
     some (.ret 1)
theorem f37n0_ok(a1 a2:ByteArray){o:f37n0O}(h:f37n0 a1 a2=some o):T Try.prog Try.f37.ntmps 0 c37 (f37n0S a1 a2) (·=f37n0E a1 a2 o):=by
 unfold f37n0 at h;obtain ⟨x5,h6,h⟩:=Qe h;obtain ⟨x9,h10,h⟩:=Qe h;rcases Qf h with ⟨h13,h⟩|⟨h13,h⟩
 ·rcases Qf h with ⟨h14,h⟩|⟨h14,h⟩
  ·obtain rfl:=Qd h;exact rK Qg 4 [j3,([],[jH 1 (jB x5)],[]),([],[jH 1 (jB x9)],[]),j3,j3,j3] [some true,some true] [] [] [4] .ret ((f37n0E a1 a2 (.ret 0)).2) (ap (f61_ok a1 h6) (ap (f61_ok a2 h10) (ap h13 (ap h14 an)))) rfl
  ·obtain rfl:=Qd h;exact rK Qg 4 [j3,([],[jH 1 (jB x5)],[]),([],[jH 1 (jB x9)],[]),j3,j3,j3] [some true,some false] [] [] [4] .ret ((f37n0E a1 a2 (.ret (-1))).2) (ap (f61_ok a1 h6) (ap (f61_ok a2 h10) (ap h13 (ap h14 an)))) rfl
 ·rcases Qf h with ⟨h16,h⟩|⟨h16,h⟩
  ·obtain rfl:=Qd h;exact rK Qg 5 [j3,([],[jH 1 (jB x5)],[]),([],[jH 1 (jB x9)],[]),j3,j3,j3] [some false,some true] [] [] [4] .ret ((f37n0E a1 a2 (.ret 1)).2) (ap (f61_ok a1 h6) (ap (f61_ok a2 h10) (ap h13 (ap h16 an)))) rfl
  ·rcases Qf h with ⟨h18,h⟩|⟨h18,h⟩
   ·obtain rfl:=Qd h;exact rK Qg 6 [j3,([],[jH 1 (jB x5)],[]),([],[jH 1 (jB x9)],[]),j3,j3,j3,j3] [some false,some false,some true] [] [] [4] .ret ((f37n0E a1 a2 (.ret (-1))).2) (ap (f61_ok a1 h6) (ap (f61_ok a2 h10) (ap h13 (ap h16 (ap h18 an))))) rfl
   ·rcases Qf h with ⟨h20,h⟩|⟨h20,h⟩
    ·obtain rfl:=Qd h;exact rE Qg [j3,([],[jH 1 (jB x5)],[]),([],[jH 1 (jB x9)],[]),j3,j3,j3,j3,j3] [some false,some false,some false,some false] [] [] [4] (.ret,(f37n0E a1 a2 (.ret 0)).2) (ap (f61_ok a1 h6) (ap (f61_ok a2 h10) (ap h13 (ap h16 (ap h18 (ap (Qp h20) an)))))) rfl
    ·obtain rfl:=Qd h;exact rK Qg 7 [j3,([],[jH 1 (jB x5)],[]),([],[jH 1 (jB x9)],[]),j3,j3,j3,j3,j3] [some false,some false,some false,some true] [] [] [4] .ret ((f37n0E a1 a2 (.ret 1)).2) (ap (f61_ok a1 h6) (ap (f61_ok a2 h10) (ap h13 (ap h16 (ap h18 (ap (Qw h20) an)))))) rfl
noncomputable def f37(a1 a2:ByteArray):Option Int:=(f37n0 a1 a2).bind fun o=>match o with
 | .ret v21=>some v21
theorem f37_ok(a1 a2:ByteArray){r:Int}(h:f37 a1 a2=some r):Qo Try.prog false 37 [(jS a1),(jS a2)] [] (jI r) []:=by
 unfold f37 at h;obtain ⟨o,ho,h⟩:=Qe h;cases o with
 | ret v21 =>
  obtain rfl:=Qd h;exact Qo.plain Qg (f:=Try.f37) (c:=c37) (by kernel_rfl) (by kernel_rfl) (by kernel_rfl) (by kernel_rfl) ((f37n0_ok a1 a2 ho).mono fun r e=>by subst e; exact ⟨.inl rfl,(jI v21),(jI v21),by kernel_rfl,by kernel_rfl,((Wk.refl _):Wk (jI v21) (jI v21))⟩)

noncomputable def c36:Code:=Try.f36.body.getD .skip
inductive f36n2O where
 | exit0
 | ret (v28:Int)
def f36n2E(bk1:List Int):f36n2O→Ex×Tr×Hp
 | .exit0=>((.exit 0),mkS [(3,(jI 0))],[])
 | .ret v28=>(.ret,mkS [(2,(jI v28))],[])
def f36n2S(bk1:List Int)(v19:Int):Tr×Hp:=(mkS [(3,(jI 0)),(6,(.pl (.sl .any 1 (bk1.map (cInt .i64))))),(7,(jI (bk1.length:Int))),(8,(jI v19))],[])
noncomputable def f36n2:Nat→List Int→Int→Option f36n2O
 | 0,_,_=>none
 | f+1,bk1,v19 =>
  bif decide (v19<(bk1.length:Int)) then
   (at? bk1 v19).bind fun x25 =>
   bif decide (x25=0) then
    (f36n2 f bk1 (wr64 (v19+1)))
   else
    some (.ret x25)
  else
   some .exit0
theorem f36n2_ok:∀(f:Nat)(bk1:List Int)(v19:Int){o:f36n2O},f36n2 f bk1 v19=some o→TL Try.prog Try.f36.ntmps 0 f (cL (cL (Ql 1 (cL (Ql 2 c36))))) (f36n2S bk1 v19) (·=f36n2E bk1 o)
 | 0,_,_,o,h=>by rw [f36n2] at h; cases h
 | f+1,bk1,v19,o,h=>by
  rw [f36n2] at h;refine TL.body (K:=fun s=>∃v19:Int,s=(f36n2S bk1 v19)∧f36n2 f bk1 v19=some o) ?_ (by rintro _ ⟨v19,rfl,hk⟩; exact f36n2_ok f _ _ hk);rcases Qf h with ⟨h21,h⟩|⟨h21,h⟩
  ·obtain ⟨x25,h26,h⟩:=Qe h;rcases Qf h with ⟨h27,h⟩|⟨h27,h⟩
   ·exact rE Qg [j3,([],[(0,.idx (Int.toNat v19) ((cInt .i64) x25))],[]),j3,j3] [some true,some false] [] [] [3,6,7,8] (.norm,(f36n2S bk1 (wr64 (v19+1)))) (ap h21 (ap (Qi h26).1 (ap (Qq (cInt .i64) (Qi h26).2) (ap (Qp h27) an)))) (Qs.norm ⟨(wr64 (v19+1)),rfl,h⟩)
   ·obtain rfl:=Qd h;exact rK Qg 3 [j3,([],[(0,.idx (Int.toNat v19) ((cInt .i64) x25))],[]),j3,j3] [some true,some true] [] [] [2] .ret ((f36n2E bk1 (.ret x25)).2) (ap h21 (ap (Qi h26).1 (ap (Qq (cInt .i64) (Qi h26).2) (ap (Qw h27) an)))) (Qs.out rfl rfl)
  ·obtain rfl:=Qd h;exact rK Qg 2 [j3] [some false] [] [] [3] (.exit 0) ((f36n2E bk1 .exit0).2) (ap h21 an) (Qs.out rfl rfl)
noncomputable def f36n2L(bk1:List Int):List Int→Int→Option f36n2O
 | [],v19 =>
  some .exit0
 | x0::rest,v19 =>
  bif decide (x0=0) then
   (f36n2L bk1 rest (v19+1))
  else
   some (.ret x0)
theorem f36n2L_eq(bk1:List Int):∀(rest:List Int)(f k:Nat),bk1.drop k=rest→bk1.length≤maxLen→rest.length<f→f36n2 f bk1 (k:Int)=f36n2L bk1 rest (k:Int)
 | _,0,_,_,_,hf=>absurd hf (Nat.not_lt_zero _)
 | [],f+1,k,hd,hm,hf=>by
  have hk:¬((k:Int)<(bk1.length:Int)):=by have:=Qab hd; omega
  rw [f36n2,f36n2L];simp only [decide_eq_false hk,cond_false]
 | x0::rest,f+1,k,hd,hm,hf=>by
  obtain ⟨hx,hlt,hd'⟩:=Qah hd;have hk:(k:Int)<(bk1.length:Int):=by omega
  have hw:wr64 ((k:Int)+1)=(k:Int)+1:=Qbi (by omega) (by unfold maxLen at hm; omega);have ih:f36n2 f bk1 ((k:Int)+1)=f36n2L bk1 rest ((k:Int)+1):=f36n2L_eq bk1 rest f (k+1) hd' hm (by simpa using hf);rw [f36n2,f36n2L];simp only [decide_eq_true hk,cond_true,Qbt,hx,Option.bind_some,hw,ih]
theorem f36n2_run(bk1:List Int)(hm:bk1.length≤maxLen):f36n2 FUEL bk1 0=f36n2L bk1 bk1 0:=f36n2L_eq bk1 bk1 FUEL 0 List.drop_zero hm (Qbe hm)
inductive f36n1O where
 | norm
 | ret (v32:Int)
def f36n1E(bk1:List Int):f36n1O→Ex×Tr×Hp
 | .norm=>(.norm,mkS [(3,(jI 0))],[])
 | .ret v32=>(.ret,mkS [(2,(jI v32))],[])
def f36n1S(bk1:List Int):Tr×Hp:=(mkS [(0,(.pl (.sl .any 1 (bk1.map (cInt .i64))))),(3,(jI 0))],[])
noncomputable def f36n1(bk1:List Int):Option f36n1O :=
 (f36n2 FUEL bk1 0).bind fun o29=>match o29 with
 | .exit0=>some .norm
 | .ret v31=>some (.ret v31)
theorem f36n1_ok(bk1:List Int){o:f36n1O}(h:f36n1 bk1=some o):T Try.prog Try.f36.ntmps 0 (cL (Ql 2 c36)) (f36n1S bk1) (·=f36n1E bk1 o):=by
 unfold f36n1 at h;refine rN Qg 1 [([],[],[(1,.val (jI (bk1.length:Int)))])] [] [] [] [3,6,7,8] (f36n2S bk1 0) (ap (Qr (xs:=bk1) (c:=(cInt .i64))) an) ?_;obtain ⟨o29,h30,h⟩:=Qe h;cases o29 with
 | exit0 =>
  obtain rfl:=Qd h;exact T.last' (T.bl (i:=0) (by kernel_rfl) (by kernel_rfl) (f36n2_ok FUEL bk1 0 h30)) (tds:=[]) (m:=[]) (keep:=[3]) (st2:=(f36n1E bk1 .norm).2) (by kernel_rfl) an rfl
 | ret v31 =>
  obtain rfl:=Qd h;exact T.last' (T.bl (i:=0) (by kernel_rfl) (by kernel_rfl) (f36n2_ok FUEL bk1 0 h30)) (tds:=[]) (m:=[]) (keep:=[2]) (st2:=(f36n1E bk1 (.ret v31)).2) (by kernel_rfl) an rfl
inductive f36n0O where
 | ret (v36:Int)
def f36n0E(a1:List Int):f36n0O→Ex×Tr×Hp
 | .ret v36=>(.ret,mkS [(2,(jI v36))],[])
def f36n0S(a1:List Int):Tr×Hp:=(Qad [(.pl (.sl .any 1 (a1.map (cInt .i64))))] 0 .leaf,[])
noncomputable def f36n0(a1:List Int):Option f36n0O :=
 (f36n1 a1).bind fun o33=>match o33 with
 | .norm=>some (.ret 0)
 | .ret v35=>some (.ret v35)
theorem f36n0_ok(a1:List Int){o:f36n0O}(h:f36n0 a1=some o):T Try.prog Try.f36.ntmps 0 c36 (f36n0S a1) (·=f36n0E a1 o):=by
 unfold f36n0 at h;refine rN Qg 2 [j3,j3] [] [] [] [0,3] (f36n1S a1) an ?_;obtain ⟨o33,h34,h⟩:=Qe h;cases o33 with
 | norm =>
  refine T.oneN (by kernel_rfl) (f36n1_ok a1 h34) (st2:=(f36n1E a1 .norm).2) rfl ?_;obtain rfl:=Qd h;exact rE Qg [j3] [] [] [] [2] (.ret,(f36n0E a1 (.ret 0)).2) an rfl
 | ret v35 =>
  obtain rfl:=Qd h;exact T.oneX' (by kernel_rfl) (f36n1_ok a1 h34) (tds:=[]) (m:=[]) (keep:=[2]) (st2:=(f36n0E a1 (.ret v35)).2) (by kernel_rfl) an rfl rfl
noncomputable def f36(a1:List Int):Option Int:=(f36n0 a1).bind fun o=>match o with
 | .ret v36=>some v36
theorem f36_ok(a1:List Int){r:Int}(h:f36 a1=some r):Qo Try.prog false 36 [(.pl (.sl .any 1 (a1.map (cInt .i64))))] [] (jI r) []:=by
 unfold f36 at h;obtain ⟨o,ho,h⟩:=Qe h;cases o with
 | ret v36 =>
  obtain rfl:=Qd h;exact Qo.plain Qg (f:=Try.f36) (c:=c36) (by kernel_rfl) (by kernel_rfl) (by kernel_rfl) (by kernel_rfl) ((f36n0_ok a1 ho).mono fun r e=>by subst e; exact ⟨.inl rfl,(jI v36),(jI v36),by kernel_rfl,by kernel_rfl,((Wk.refl _):Wk (jI v36) (jI v36))⟩)

noncomputable def c24:Code:=Try.f24.body.getD .skip
inductive f24n0O where
 | ret (v15:Int)
def f24n0E(a1 a2:Qb):f24n0O→Ex×Tr×Hp
 | .ret v15=>(.ret,mkS [(4,(jI v15))],[])
def f24n0S(a1 a2:Qb):Tr×Hp:=(Qad [(jA Qb.cells a1),(jA Qb.cells a2)] 0 .leaf,[])
noncomputable def f24n0(a1 a2:Qb):Option f24n0O :=
 (f37 a1.Account a2.Account).bind fun x9 =>
 (f37 a1.Ccy a2.Ccy).bind fun x11 =>
 (f36 [x9,x11]).bind fun x13 =>
 some (.ret x13)
theorem f24n0_ok(a1 a2:Qb){o:f24n0O}(h:f24n0 a1 a2=some o):T Try.prog Try.f24.ntmps 0 c24 (f24n0S a1 a2) (·=f24n0E a1 a2 o):=by
 unfold f24n0 at h;obtain ⟨x9,h10,h⟩:=Qe h;obtain ⟨x11,h12,h⟩:=Qe h;obtain ⟨x13,h14,h⟩:=Qe h;obtain rfl:=Qd h
 exact rE Qg [j3,([],[jH 4 (jI x9),jH 9 (jI x11),jH 11 (jI x13)],[])] [] [] [] [4] (.ret,(f24n0E a1 a2 (.ret x13)).2) (ap (same_val (e:=⟨false,37,[(jS a1.Account),(jS a2.Account)],[],(jI x9),[]⟩) (f:=⟨false,37,[(jS a1.Ccy),(jS a2.Ccy)],[],(jI x11),[]⟩) (fun k=>by simp only [jL,jS,jI,jB,jA,Qc.cells_eq,Qc.map_eq,Qa.cells_eq,Qa.map_eq,Qj.cells_eq,Qj.map_eq,Qb.cells_eq,Qb.map_eq,Qm.cells_eq,Qm.map_eq,Qh.cells_eq,Qh.map_eq,Key_.cells_eq,Key_.map_eq,Qae.cells_eq,Qae.map_eq,Qac.cells_eq,Qac.map_eq,List.cons.injEq,AV.pl.injEq,PV.str.injEq,PV.int.injEq,PV.bool.injEq,PV.agg.injEq,PV.sl.injEq,and_true,true_and] at k; have e0:x9=x11:=Option.some.inj (by rw [←h10,←h12]; first | (obtain ⟨k1,_⟩:=k; simp only [k1]; done) | simp only [k]); exact ⟨by rw [e0],rfl⟩)) (ap (f37_ok a1.Account a2.Account h10) (ap (f37_ok a1.Ccy a2.Ccy h12) (ap (f36_ok [x9,x11] h14) an)))) rfl
noncomputable def f24(a1 a2:Qb):Option Int:=(f24n0 a1 a2).bind fun o=>match o with
 | .ret v15=>some v15
theorem f24_ok(a1 a2:Qb){r:Int}(h:f24 a1 a2=some r):Qo Try.prog false 24 [(jA Qb.cells a1),(jA Qb.cells a2)] [] (jI r) []:=by
 unfold f24 at h;obtain ⟨o,ho,h⟩:=Qe h;cases o with
 | ret v15 =>
  obtain rfl:=Qd h;exact Qo.plain Qg (f:=Try.f24) (c:=c24) (by kernel_rfl) (by kernel_rfl) (by kernel_rfl) (by kernel_rfl) ((f24n0_ok a1 a2 ho).mono fun r e=>by subst e; exact ⟨.inl rfl,(jI v15),(jI v15),by kernel_rfl,by kernel_rfl,((Wk.refl _):Wk (jI v15) (jI v15))⟩)

instance:Inhabited Qb:=⟨(Qb.mk Qav Qav 0 0)⟩
def so23_24_good(xs:List Qb):Prop:=∃c:Qb→Qb→Int,(∀x y,f24 x y=some (c x y))∧Go.Sort.SWO (ltOf c)∧xs.length<4611686018427387904
open Classical in
noncomputable def so23_24(xs:List Qb):Option (List Qb):=if h:so23_24_good xs then some (sortL h.choose xs) else none
theorem so23_24_val{xs:List Qb}{c:Qb→Qb→Int}(hc:∀x y,f24 x y=some (c x y))(o:Go.Sort.SWO (ltOf c))(hl:xs.length<4611686018427387904):so23_24 xs=some (sortL c xs):=by
 have h:so23_24_good xs:=⟨c,hc,o,hl⟩;unfold so23_24;rw [dif_pos h];have e:h.choose=c:=funext fun x=>funext fun y=>Option.some.inj ((h.choose_spec.1 x y).symm.trans (hc x y));rw [e]
theorem so23_24_ok(xs:List Qb){r:List Qb}(h:so23_24 xs=some r) :
  Qo Try.prog true 23 [.own 0,.pl (.fn 24)] [some (.row false 4 (xs.map Qb.cells))] (.tup []) [some (.row false 4 (r.map Qb.cells))]:=by
 unfold so23_24 at h
 by_cases hc:so23_24_good xs
 ·rw [dif_pos hc] at h;obtain rfl:=Qd h;have hs:=hc.choose_spec;exact sort_callS (cells:=Qb.cells) so_lays rfl so_agg so_size (enters_of Try.func23 (by kernel_rfl) rfl) (fun _=>rfl) (fun x q hq=>by
   simp only [Qb.cells,List.mem_cons,List.not_mem_nil,or_false] at hq;rcases hq with rfl | rfl | rfl | rfl<;>rfl) _ hs.2.1 (fun x y=>f24_ok _ _ (hs.1 x y)) xs hs.2.2
 ·rw [dif_neg hc] at h; cases h


noncomputable def c14:Code:=Try.f14.body.getD .skip
inductive f14r1n2O where
 | exit0 (v33:List Qb)
def f14r1n2E(bj1:List (Key_×Qb)):f14r1n2O→Ex×Tr×Hp
 | .exit0 v33=>((.exit 0),mkS [(3,(.own 1))],[some (.map (bj1.map (mkv (pAgg Key_.cells) (pAgg Qb.cells)))),jR 4 Qb.cells v33])
def f14r1n2S(bj1:List (Key_×Qb))(v21:List Qb)(sn0:List Nat):Tr×Hp:=(mkS [(3,(.own 1)),(7,(.it 2))],[some (.map (bj1.map (mkv (pAgg Key_.cells) (pAgg Qb.cells)))),jR 4 Qb.cells v21,some (.iter 0 (bj1.map (mkv (pAgg Key_.cells) (pAgg Qb.cells))).length sn0)])
noncomputable def Qbr(bj1:List (Key_×Qb)):List (Key_×Qb)→(List Qb)→Option f14r1n2O
 | [],v21 =>
  some (.exit0 v21)
 | x23::rest,v21 =>
  bif decide (x23.2.In=0) then
   bif decide (x23.2.Out=0) then
    (Qbr bj1 rest v21)
   else
    req (fit (v21.length+1) 48) <|
    (Qbr bj1 rest (v21++[x23.2]))
  else
   req (fit (v21.length+1) 48) <|
   (Qbr bj1 rest (v21++[x23.2]))
theorem f14r1n2_ok(bj1:List (Key_×Qb)):∀(f:Nat)(sn0 rem:List Nat)(v21:List Qb){Q:f14r1n2O→Prop},Rem bj1.length sn0 rem→rem.length<f→(∀p,p.Perm rem→∃o,Qbr bj1 (ords bj1 p) v21=some o∧Q o)→TL Try.prog Try.f14.ntmps 1 f (cL (cL (Ql 1 (cL (Ql 2 c14))))) (f14r1n2S bj1 v21 sn0) (fun r=>∃o,Q o∧r=f14r1n2E bj1 o)
 | 0,_,_,_,_,_,hf,_=>absurd hf (Nat.not_lt_zero _)
 | f+1,sn0,rem,v21,Q,hR,hf,H=>by
  refine TL.bodyQ (K:=fun s=>∃(sn0 rem:List Nat) (v21:List Qb),s=f14r1n2S bj1 v21 sn0∧Rem bj1.length sn0 rem∧rem.length<f∧(∀p,p.Perm rem→∃o,Qbr bj1 (ords bj1 p) v21=some o∧Q o)) ?_ (by rintro _ ⟨sn0,rem,v21,rfl,h1,h2,h3⟩; exact f14r1n2_ok bj1 f sn0 rem v21 h1 h2 h3);refine T.oneNext Qg (x:=.tmp 7) (t:=8) (tb:=9) (i:=2) (o:=0) (m:=(bj1.map (mkv (pAgg Key_.cells) (pAgg Qb.cells))).length) (seen:=sn0) (kvs:=(bj1.map (mkv (pAgg Key_.cells) (pAgg Qb.cells)))) (by kernel_rfl) (by kernel_rfl) (by kernel_rfl) (by kernel_rfl) (by kernel_rfl) (by kernel_rfl) rfl (fun hs=>?_) (fun j22 k v hj hs hx=>?_)
  ·obtain rfl:=hR.none (by simpa using hs);obtain ⟨o,h0,hq⟩:=H [] (List.Perm.refl _);have h:Qbr bj1 [] v21=some o:=h0;rw [Qbr] at h;obtain rfl:=Qd h;exact rK Qg 1 [] [none] [] [1] [3] (.exit 0) ((f14r1n2E bj1 (.exit0 v21)).2) an (LoopQ2.out ⟨_,hq,rfl⟩ rfl)
  ·obtain ⟨x23,h24,rfl,rfl⟩:=mkv_at hx;obtain ⟨hR2,hlen,hP⟩:=hR.step (j:=j22) (by simpa using hj) hs;have H2:∀p,p.Perm (rem.erase j22)→∃o,Qbr bj1 (x23::ords bj1 p) v21=some o∧Q o:=fun p hp=>by obtain ⟨o,h,hq⟩:=H _ (hP p hp); rw [ords_cons h24] at h; exact ⟨o,h,hq⟩
   obtain ⟨o,h,hq⟩:=H2 _ (List.Perm.refl _);rw [Qbr] at h;rcases Qf h with ⟨h29,h⟩|⟨h29,h⟩
   ·rcases Qf h with ⟨h30,h⟩|⟨h30,h⟩
    ·exact rE Qg [([],[(0,.entr j22 ((pAgg Key_.cells) x23.1) ((pAgg Qb.cells) x23.2))],[]),(jF [4,5,6],[(7,.bool false)],[])] [none,some false] [] [1,2] [3,7] (.norm,(f14r1n2S bj1 v21 (sn0++[j22]))) (ap (last_app (seen:=sn0) (j:=j22)) (ap (rfl:(bj1.map (mkv (pAgg Key_.cells) (pAgg Qb.cells))).length=(bj1.map (mkv (pAgg Key_.cells) (pAgg Qb.cells))).length) (ap (at_mkv (kp:=(pAgg Key_.cells)) (vp:=(pAgg Qb.cells)) h24) (ap4 (Qp h29) (ap (Qp h30) an))))) (LoopQ2.norm ⟨sn0++[j22],rem.erase j22,v21,rfl,hR2,by omega,fun p hp=>by obtain ⟨o,h,hq⟩:=H2 p hp; refine ⟨o,?_,hq⟩; rw [Qbr] at h; simp only [h29,h30,cond_true,cond_false,Option.bind_some,req] at h; exact h⟩)
    ·obtain ⟨h31,h⟩:=Qaf h
     exact rE Qg [([],[(0,.entr j22 ((pAgg Key_.cells) x23.1) ((pAgg Qb.cells) x23.2))],[]),(jF [4,5,6],[(7,.bool false)],[]),([],[(3,.fits)],[(3,.row 5 ((v21++[x23.2]).map Qb.cells))])] [none,some true] [] [5,2] [3,7] (.norm,(f14r1n2S bj1 (v21++[x23.2]) (sn0++[j22]))) (ap (last_app (seen:=sn0) (j:=j22)) (ap (rfl:(bj1.map (mkv (pAgg Key_.cells) (pAgg Qb.cells))).length=(bj1.map (mkv (pAgg Key_.cells) (pAgg Qb.cells))).length) (ap (at_mkv (kp:=(pAgg Key_.cells)) (vp:=(pAgg Qb.cells)) h24) (ap4 (Qp h29) (ap (Qw h30) (ap (fit_map (te:=ti50) (xs:=v21) (n:=1) (c:=Qb.cells) h31 rfl) (ap (app_cv (xs:=v21) (ys:=[x23.2]) (c:=Qb.cells)) an))))))) (LoopQ2.norm ⟨sn0++[j22],rem.erase j22,(v21++[x23.2]),rfl,hR2,by omega,fun p hp=>by obtain ⟨o,h,hq⟩:=H2 p hp; refine ⟨o,?_,hq⟩; rw [Qbr] at h; simp only [h29,h30,h31,cond_true,cond_false,Option.bind_some,req] at h; exact h⟩)
   ·obtain ⟨h32,h⟩:=Qaf h
    exact rE Qg [([],[(0,.entr j22 ((pAgg Key_.cells) x23.1) ((pAgg Qb.cells) x23.2))],[]),(jT [4,5,6],[(7,.bool true)],[]),([],[(3,.fits)],[(3,.row 5 ((v21++[x23.2]).map Qb.cells))])] [none,none] [] [5,2] [3,7] (.norm,(f14r1n2S bj1 (v21++[x23.2]) (sn0++[j22]))) (ap (last_app (seen:=sn0) (j:=j22)) (ap (rfl:(bj1.map (mkv (pAgg Key_.cells) (pAgg Qb.cells))).length=(bj1.map (mkv (pAgg Key_.cells) (pAgg Qb.cells))).length) (ap (at_mkv (kp:=(pAgg Key_.cells)) (vp:=(pAgg Qb.cells)) h24) (ap4 (Qw h29) (ap (fit_map (te:=ti50) (xs:=v21) (n:=1) (c:=Qb.cells) h32 rfl) (ap (app_cv (xs:=v21) (ys:=[x23.2]) (c:=Qb.cells)) an)))))) (LoopQ2.norm ⟨sn0++[j22],rem.erase j22,(v21++[x23.2]),rfl,hR2,by omega,fun p hp=>by obtain ⟨o,h,hq⟩:=H2 p hp; refine ⟨o,?_,hq⟩; rw [Qbr] at h; simp only [h29,h32,cond_true,cond_false,Option.bind_some,req] at h; exact h⟩)
inductive f14r1n1O where
 | norm (v37:List Qb)
def f14r1n1E(bj1:List (Key_×Qb)):f14r1n1O→Ex×Tr×Hp
 | .norm v37=>(.norm,mkS [(3,(.own 1))],[some (.map (bj1.map (mkv (pAgg Key_.cells) (pAgg Qb.cells)))),jR 4 Qb.cells v37])
def f14r1n1S(bj1:List (Key_×Qb)):Tr×Hp:=(mkS [(0,(.mp 0)),(3,(.pl (.sl .nil 0 [])))],[some (.map (bj1.map (mkv (pAgg Key_.cells) (pAgg Qb.cells))))])
noncomputable def f14r1n1(bj1 p:List (Key_×Qb)):Option f14r1n1O :=
 (Qbr bj1 p []).bind fun o34=>match o34 with
 | .exit0 v36=>some (.norm v36)
theorem f14r1n1_ok(bj1:List (Key_×Qb)){Q:f14r1n1O→Prop}(H:∀p,p.Perm bj1→∃o,f14r1n1 bj1 p=some o∧Q o):T Try.prog Try.f14.ntmps 1 (cL (Ql 2 c14)) (f14r1n1S bj1) (fun r=>∃o,Q o∧r=f14r1n1E bj1 o):=by
 refine rN Qg 1 [j3] [] [.mat 3 4] [2,1] [3,7] (f14r1n2S bj1 [] []) an ?_;refine T.lastQ (T.blQ (i:=0) (by kernel_rfl) (by kernel_rfl) (f14r1n2_ok bj1 _ [] (List.range bj1.length) [] (Rem.start _) (Nat.lt_succ_self _) (Q:=fun y=>∃o,(match y with | .exit0 v36=>some (.norm v36))=some o∧Q o) (fun p hp=>by obtain ⟨o,h,hq⟩:=H _ (ords_perm hp); unfold f14r1n1 at h; obtain ⟨y,hy,h⟩:=bind_ex h; exact ⟨y,hy,o,h,hq⟩))) ?_
 rintro y ⟨o,h,hq⟩
 cases y with
 | exit0 v36 =>
  obtain rfl:=Qd h;exact Tidy.of [] [1] [3] ((f14r1n1E bj1 (.norm v36)).2) (by kernel_rfl) an ⟨_,hq,rfl⟩
inductive f14r1n0O where
 | ret (v45:List Qb)
def f14r1n0E(a1:List (Key_×Qb)):f14r1n0O→Ex×Tr×Hp
 | .ret v45=>(.ret,mkS [(2,(.own 1))],[some (.map (a1.map (mkv (pAgg Key_.cells) (pAgg Qb.cells)))),jR 4 Qb.cells v45])
def f14r1n0S(a1:List (Key_×Qb)):Tr×Hp:=(Qad [(.mp 0)] 0 .leaf,[some (.map (a1.map (mkv (pAgg Key_.cells) (pAgg Qb.cells))))])
noncomputable def f14r1n0(a1:List (Key_×Qb)):Option f14r1n0O :=
 (anyOrder a1 fun p=>(f14r1n1 a1 p).bind fun o38=>match o38 with
 | .norm v40=>(so23_24 v40).bind fun x43 =>
  some (.ret x43))
theorem f14r1n0_ok(a1:List (Key_×Qb)){o:f14r1n0O}(h:f14r1n0 a1=some o):T Try.prog Try.f14.ntmps 1 c14 (f14r1n0S a1) (·=f14r1n0E a1 o):=by
 unfold f14r1n0 at h;refine rN Qg 2 [j3,j3] [] [] [] [0,3] (f14r1n1S a1) an ?_;refine T.oneQ (by kernel_rfl) (f14r1n1_ok a1 (fun p hp=>bind_ex (anyOrder_at h p hp))) ?_;intro o38 h;cases o38 with
 | norm v40 =>
  refine OneR.go ((f14r1n1E a1 (.norm v40)).2) rfl ?_;obtain ⟨x43,h44,h⟩:=Qe h;obtain rfl:=Qd h;exact rE Qg [([],[(1,.call (.tup []) [none,jR 4 Qb.cells x43])],[]),j3] [] [] [1] [2] (.ret,(f14r1n0E a1 (.ret x43)).2) (ap (Qo.rn 2 [1] (so23_24_ok v40 h44)) an) rfl
noncomputable def f14r1(a1:List (Key_×Qb)):Option (List Qb):=(f14r1n0 a1).bind fun o=>match o with
 | .ret v45=>some v45
theorem f14r1_ok(a1:List (Key_×Qb)){r:List Qb}(h:f14r1 a1=some r):Qo Try.prog true 14 [(.mp 0)] [some (.map (a1.map (mkv (pAgg Key_.cells) (pAgg Qb.cells))))] (.own 1) [some (.map (a1.map (mkv (pAgg Key_.cells) (pAgg Qb.cells)))),jR 4 Qb.cells r]:=by
 unfold f14r1 at h;obtain ⟨o,ho,h⟩:=Qe h;cases o with
 | ret v45 =>
  obtain rfl:=Qd h;exact Qo.shared Qg (f:=Try.f14) (c:=c14) (by kernel_rfl) (by kernel_rfl) (by kernel_rfl) ((f14r1n0_ok a1 ho).mono fun r e=>by subst e; exact ⟨.inl rfl,by kernel_rfl,by kernel_rfl⟩)

noncomputable def c5:Code:=Try.f5.body.getD .skip
inductive f5n3O where
 | exit2 (v187:List (Key_×Qb))
def f5n3E(bf1 bf2 bf3:Int)(ba4:Qj)(bf5:Int)(x143:Qa):f5n3O→Ex×Tr×Hp
 | .exit2 v187=>((.exit 2),mkS [(1,(jI bf1)),(2,(jI bf2)),(3,(jI bf3)),(8,(.bp 0 0)),(10,(.mp 1)),(40,(.pl (.sl .any 3 (((ba4.Records.take (Int.toNat bf3)).drop 0).map Qa.cells)))),(41,(.pl (.int .i64 (((ba4.Records.take (Int.toNat bf3)).drop 0).length:Int)))),(42,(jI bf5))],[some (.box [(jI 0),(jI 0),(jI 0),(.pl (.sl .nil 0 []))]),some (.map (v187.map (mkv (pAgg Key_.cells) (pAgg Qb.cells))))])
def f5n3S(bf1 bf2 bf3:Int)(ba4:Qj)(bf5:Int)(x143:Qa)(v175:Int)(v176:List (Key_×Qb)):Tr×Hp:=(mkS [(1,(jI bf1)),(2,(jI bf2)),(3,(jI bf3)),(8,(.bp 0 0)),(10,(.mp 1)),(40,(.pl (.sl .any 3 (((ba4.Records.take (Int.toNat bf3)).drop 0).map Qa.cells)))),(41,(.pl (.int .i64 (((ba4.Records.take (Int.toNat bf3)).drop 0).length:Int)))),(42,(jI bf5)),(57,(jL 3 Qc.cells x143.Lines)),(58,(jI (x143.Lines.length:Int))),(59,(jI v175))],[some (.box [(jI 0),(jI 0),(jI 0),(.pl (.sl .nil 0 []))]),some (.map (v176.map (mkv (pAgg Key_.cells) (pAgg Qb.cells))))])
noncomputable def f5n3:Nat→Int→Int→Int→Qj→Int→Qa→Int→List (Key_×Qb)→Option f5n3O
 | 0,_,_,_,_,_,_,_,_=>none
 | f+1,bf1,bf2,bf3,ba4,bf5,x143,v175,v176 =>
  bif decide (v175<(x143.Lines.length:Int)) then
   (at? x143.Lines v175).bind fun x183 =>
   (f13r2 x183.Account x183.Ccy (mxI x183.Amount 0) (mxI (wr64 (0-x183.Amount)) 0) v176).bind fun x185 =>
   (f5n3 f bf1 bf2 bf3 ba4 bf5 x143 (wr64 (v175+1)) (mPut Key_.eqb (Key_.mk x183.Account x183.Ccy) (Qb.mk x183.Account x183.Ccy (wr64 ((mGet Key_.eqb (Qb.mk Qav Qav 0 0) (Key_.mk x183.Account x183.Ccy) v176).In+(mxI x183.Amount 0))) (wr64 ((mGet Key_.eqb (Qb.mk Qav Qav 0 0) (Key_.mk x183.Account x183.Ccy) v176).Out+(mxI (wr64 (0-x183.Amount)) 0)))) v176))
  else
   some (.exit2 v176)
theorem f5n3_ok:∀(f:Nat)(bf1 bf2 bf3:Int)(ba4:Qj)(bf5:Int)(x143:Qa)(v175:Int)(v176:List (Key_×Qb)){o:f5n3O},f5n3 f bf1 bf2 bf3 ba4 bf5 x143 v175 v176=some o→TL Try.prog Try.f5.ntmps 0 f (cL (cL (Ql 3 (cL (cL (Ql 2 (cL (cL (Ql 1 (cL (Ql 4 c5))))))))))) (f5n3S bf1 bf2 bf3 ba4 bf5 x143 v175 v176) (·=f5n3E bf1 bf2 bf3 ba4 bf5 x143 o)
 | 0,_,_,_,_,_,_,_,_,o,h=>by rw [f5n3] at h; cases h
 | f+1,bf1,bf2,bf3,ba4,bf5,x143,v175,v176,o,h=>by
  rw [f5n3] at h;refine TL.body (K:=fun s=>∃v175:Int,∃v176:List (Key_×Qb),s=(f5n3S bf1 bf2 bf3 ba4 bf5 x143 v175 v176)∧f5n3 f bf1 bf2 bf3 ba4 bf5 x143 v175 v176=some o) ?_ (by rintro _ ⟨v175,v176,rfl,hk⟩; exact f5n3_ok f _ _ _ _ _ _ _ _ hk);rcases Qf h with ⟨h178,h⟩|⟨h178,h⟩
  ·obtain ⟨x183,h184,h⟩:=Qe h;obtain ⟨x185,h186,h⟩:=Qe h
   exact rE Qg [j3,([],[(0,.idx (Int.toNat v175) (Qc.cells x183))],[]),([],[(12,.call (.tup []) [none,some (.map ((mPut Key_.eqb (Key_.mk x183.Account x183.Ccy) (Qb.mk x183.Account x183.Ccy (wr64 ((mGet Key_.eqb (Qb.mk Qav Qav 0 0) (Key_.mk x183.Account x183.Ccy) v176).In+(mxI x183.Amount 0))) (wr64 ((mGet Key_.eqb (Qb.mk Qav Qav 0 0) (Key_.mk x183.Account x183.Ccy) v176).Out+(mxI (wr64 (0-x183.Amount)) 0)))) v176).map (mkv (pAgg Key_.cells) (pAgg Qb.cells)))),none])],[]),j3] [some true] [] [0,1] [1,2,3,8,10,40,41,42,57,58,59] (.norm,(f5n3S bf1 bf2 bf3 ba4 bf5 x143 (wr64 (v175+1)) (mPut Key_.eqb (Key_.mk x183.Account x183.Ccy) (Qb.mk x183.Account x183.Ccy (wr64 ((mGet Key_.eqb (Qb.mk Qav Qav 0 0) (Key_.mk x183.Account x183.Ccy) v176).In+(mxI x183.Amount 0))) (wr64 ((mGet Key_.eqb (Qb.mk Qav Qav 0 0) (Key_.mk x183.Account x183.Ccy) v176).Out+(mxI (wr64 (0-x183.Amount)) 0)))) v176))) (ap h178 (ap (Qi h184).1 (ap (Qq Qc.cells (Qi h184).2) (ap (Qo.rn 3 [1] (f13r2_ok x183.Account x183.Ccy (mxI x183.Amount 0) (mxI (wr64 (0-x183.Amount)) 0) v176 h186)) an)))) (Qs.norm ⟨(wr64 (v175+1)),(mPut Key_.eqb (Key_.mk x183.Account x183.Ccy) (Qb.mk x183.Account x183.Ccy (wr64 ((mGet Key_.eqb (Qb.mk Qav Qav 0 0) (Key_.mk x183.Account x183.Ccy) v176).In+(mxI x183.Amount 0))) (wr64 ((mGet Key_.eqb (Qb.mk Qav Qav 0 0) (Key_.mk x183.Account x183.Ccy) v176).Out+(mxI (wr64 (0-x183.Amount)) 0)))) v176),rfl,h⟩)
  ·obtain rfl:=Qd h;exact rK Qg 2 [j3] [some false] [] [0,1] [1,2,3,8,10,40,41,42] (.exit 2) ((f5n3E bf1 bf2 bf3 ba4 bf5 x143 (.exit2 v176)).2) (ap h178 an) (Qs.out rfl rfl)
noncomputable def f5n3L(bf1 bf2 bf3:Int)(ba4:Qj)(bf5:Int)(x143:Qa):List Qc→Int→(List (Key_×Qb))→Option f5n3O
 | [],v175,v176 =>
  some (.exit2 v176)
 | x0::rest,v175,v176 =>
  (f13r2 x0.Account x0.Ccy (mxI x0.Amount 0) (mxI (wr64 (0-x0.Amount)) 0) v176).bind fun x185 =>
  (f5n3L bf1 bf2 bf3 ba4 bf5 x143 rest (v175+1) (mPut Key_.eqb (Key_.mk x0.Account x0.Ccy) (Qb.mk x0.Account x0.Ccy (wr64 ((mGet Key_.eqb (Qb.mk Qav Qav 0 0) (Key_.mk x0.Account x0.Ccy) v176).In+(mxI x0.Amount 0))) (wr64 ((mGet Key_.eqb (Qb.mk Qav Qav 0 0) (Key_.mk x0.Account x0.Ccy) v176).Out+(mxI (wr64 (0-x0.Amount)) 0)))) v176))
theorem f5n3L_eq(bf1 bf2 bf3:Int)(ba4:Qj)(bf5:Int)(x143:Qa):∀(rest:List Qc)(f k:Nat)(v176:List (Key_×Qb)),x143.Lines.drop k=rest→x143.Lines.length≤maxLen→rest.length<f→f5n3 f bf1 bf2 bf3 ba4 bf5 x143 (k:Int) v176=f5n3L bf1 bf2 bf3 ba4 bf5 x143 rest (k:Int) v176
 | _,0,_,_,_,_,hf=>absurd hf (Nat.not_lt_zero _)
 | [],f+1,k,v176,hd,hm,hf=>by
  have hk:¬((k:Int)<(x143.Lines.length:Int)):=by have:=Qab hd; omega
  rw [f5n3,f5n3L];simp only [decide_eq_false hk,cond_false]
 | x0::rest,f+1,k,v176,hd,hm,hf=>by
  obtain ⟨hx,hlt,hd'⟩:=Qah hd;have hk:(k:Int)<(x143.Lines.length:Int):=by omega
  have hw:wr64 ((k:Int)+1)=(k:Int)+1:=Qbi (by omega) (by unfold maxLen at hm; omega);have ih:∀(v176:List (Key_×Qb)),f5n3 f bf1 bf2 bf3 ba4 bf5 x143 ((k:Int)+1) v176=f5n3L bf1 bf2 bf3 ba4 bf5 x143 rest ((k:Int)+1) v176:=fun v176=>f5n3L_eq bf1 bf2 bf3 ba4 bf5 x143 rest f (k+1) v176 hd' hm (by simpa using hf);rw [f5n3,f5n3L];simp only [decide_eq_true hk,cond_true,Qbt,hx,Option.bind_some,hw,ih]
theorem f5n3_run(bf1 bf2 bf3:Int)(ba4:Qj)(bf5:Int)(x143:Qa)(v176:List (Key_×Qb))(hm:x143.Lines.length≤maxLen):f5n3 FUEL bf1 bf2 bf3 ba4 bf5 x143 0 v176=f5n3L bf1 bf2 bf3 ba4 bf5 x143 x143.Lines 0 v176:=f5n3L_eq bf1 bf2 bf3 ba4 bf5 x143 x143.Lines FUEL 0 v176 List.drop_zero hm (Qbe hm)
inductive f5n2O where
 | norm (v191:List (Key_×Qb))
def f5n2E(bf1 bf2 bf3:Int)(ba4:Qj)(bf5:Int)(bj6:List (Key_×Qb)):f5n2O→Ex×Tr×Hp
 | .norm v191=>(.norm,mkS [(1,(jI bf1)),(2,(jI bf2)),(3,(jI bf3)),(8,(.bp 0 0)),(10,(.mp 1)),(40,(.pl (.sl .any 3 (((ba4.Records.take (Int.toNat bf3)).drop 0).map Qa.cells)))),(41,(.pl (.int .i64 (((ba4.Records.take (Int.toNat bf3)).drop 0).length:Int)))),(42,(jI bf5))],[some (.box [(jI 0),(jI 0),(jI 0),(.pl (.sl .nil 0 []))]),some (.map (v191.map (mkv (pAgg Key_.cells) (pAgg Qb.cells))))])
def f5n2S(bf1 bf2 bf3:Int)(ba4:Qj)(bf5:Int)(bj6:List (Key_×Qb)):Tr×Hp:=(mkS [(1,(jI bf1)),(2,(jI bf2)),(3,(jI bf3)),(8,(.bp 0 0)),(10,(.mp 1)),(40,(.pl (.sl .any 3 (((ba4.Records.take (Int.toNat bf3)).drop 0).map Qa.cells)))),(41,(.pl (.int .i64 (((ba4.Records.take (Int.toNat bf3)).drop 0).length:Int)))),(42,(jI bf5))],[some (.box [(jI 0),(jI 0),(jI 0),(.pl (.sl .nil 0 []))]),some (.map (bj6.map (mkv (pAgg Key_.cells) (pAgg Qb.cells))))])
noncomputable def f5n2(bf1 bf2 bf3:Int)(ba4:Qj)(bf5:Int)(bj6:List (Key_×Qb)):Option f5n2O :=
 (at? ((ba4.Records.take (Int.toNat bf3)).drop 0) bf5).bind fun x143 =>
 (f8 x143).bind fun x149 =>
 bif decide (x149<bf1) then
  some (.norm bj6)
 else
  bif decide (bf2≤x149) then
   some (.norm bj6)
  else
   (f5n3 FUEL bf1 bf2 bf3 ba4 bf5 x143 0 bj6).bind fun o188=>match o188 with
   | .exit2 v190=>some (.norm v190)
theorem f5n2_ok(bf1 bf2 bf3:Int)(ba4:Qj)(bf5:Int)(bj6:List (Key_×Qb)){o:f5n2O}(h:f5n2 bf1 bf2 bf3 ba4 bf5 bj6=some o):T Try.prog Try.f5.ntmps 0 (cL (Ql 2 (cL (cL (Ql 1 (cL (Ql 4 c5))))))) (f5n2S bf1 bf2 bf3 ba4 bf5 bj6) (·=f5n2E bf1 bf2 bf3 ba4 bf5 bj6 o):=by
 unfold f5n2 at h;refine T.block' (i:=1) (by kernel_rfl) ?_;obtain ⟨x143,h144,h⟩:=Qe h;obtain ⟨x149,h150,h⟩:=Qe h;rcases Qf h with ⟨h151,h⟩|⟨h151,h⟩
 ·obtain rfl:=Qd h;exact rK Qg 2 [([],[(0,.idx (Int.toNat bf5) (Qa.cells x143))],[]),([],[jH 1 (jI x149)],[]),(jT [4,5,6],[(7,.bool true)],[])] [none] [] [0,1] [1,2,3,8,10,40,41,42] (.exit 1) ((f5n2E bf1 bf2 bf3 ba4 bf5 bj6 (.norm bj6)).2) (ap (Qi h144).1 (ap (Qq Qa.cells (Qi h144).2) (ap (f8_ok x143 h150) (ap4 h151 an)))) rfl
 ·rcases Qf h with ⟨h152,h⟩|⟨h152,h⟩
  ·obtain rfl:=Qd h;exact rK Qg 2 [([],[(0,.idx (Int.toNat bf5) (Qa.cells x143))],[]),([],[jH 1 (jI x149)],[]),(jF [4,5,6],[(7,.bool false)],[])] [some true] [] [0,1] [1,2,3,8,10,40,41,42] (.exit 1) ((f5n2E bf1 bf2 bf3 ba4 bf5 bj6 (.norm bj6)).2) (ap (Qi h144).1 (ap (Qq Qa.cells (Qi h144).2) (ap (f8_ok x143 h150) (ap4 h151 (ap h152 an))))) rfl
  ·refine rN Qg 3 [([],[(0,.idx (Int.toNat bf5) (Qa.cells x143))],[]),([],[jH 1 (jI x149)],[]),(jF [4,5,6],[(7,.bool false)],[]),([],[],[(2,.val (jI (x143.Lines.length:Int)))])] [some false] [] [0,1] [1,2,3,8,10,40,41,42,57,58,59] (f5n3S bf1 bf2 bf3 ba4 bf5 x143 0 bj6) (ap (Qi h144).1 (ap (Qq Qa.cells (Qi h144).2) (ap (f8_ok x143 h150) (ap4 h151 (ap h152 (ap (Qr (xs:=x143.Lines) (c:=Qc.cells)) an)))))) ?_;obtain ⟨o188,h189,h⟩:=Qe h;cases o188 with
   | exit2 v190 =>
    obtain rfl:=Qd h;exact T.last' (T.bl (i:=2) (by kernel_rfl) (by kernel_rfl) (f5n3_ok FUEL bf1 bf2 bf3 ba4 bf5 x143 0 bj6 h189)) (tds:=[]) (m:=[0,1]) (keep:=[1,2,3,8,10,40,41,42]) (st2:=(f5n2E bf1 bf2 bf3 ba4 bf5 bj6 (.norm v190)).2) (by kernel_rfl) an rfl
inductive f5n4O where
 | exit0 (v195:List (Key_×Qb))
def f5n4E(bf1 bf2 bf3:Int)(ba4:Qj):f5n4O→Ex×Tr×Hp
 | .exit0 v195=>((.exit 0),mkS [(1,(jI bf1)),(2,(jI bf2)),(3,(jI bf3)),(8,(.bp 0 0)),(10,(.mp 1))],[some (.box [(jI 0),(jI 0),(jI 0),(.pl (.sl .nil 0 []))]),some (.map (v195.map (mkv (pAgg Key_.cells) (pAgg Qb.cells))))])
def f5n4S(bf1 bf2 bf3:Int)(ba4:Qj)(v137:Int)(v138:List (Key_×Qb)):Tr×Hp:=(mkS [(1,(jI bf1)),(2,(jI bf2)),(3,(jI bf3)),(8,(.bp 0 0)),(10,(.mp 1)),(40,(.pl (.sl .any 3 (((ba4.Records.take (Int.toNat bf3)).drop 0).map Qa.cells)))),(41,(.pl (.int .i64 (((ba4.Records.take (Int.toNat bf3)).drop 0).length:Int)))),(42,(jI v137))],[some (.box [(jI 0),(jI 0),(jI 0),(.pl (.sl .nil 0 []))]),some (.map (v138.map (mkv (pAgg Key_.cells) (pAgg Qb.cells))))])
noncomputable def f5n4:Nat→Int→Int→Int→Qj→Int→List (Key_×Qb)→Option f5n4O
 | 0,_,_,_,_,_,_=>none
 | f+1,bf1,bf2,bf3,ba4,v137,v138 =>
  bif (decide (v137<(((ba4.Records.take (Int.toNat bf3)).drop 0).length:Int))) then
   (f5n2 bf1 bf2 bf3 ba4 v137 v138).bind fun o192=>match o192 with
   | .norm v194=>(f5n4 f bf1 bf2 bf3 ba4 (wr64 (v137+1)) v194)
  else
   some (.exit0 v138)
theorem f5n4_ok:∀(f:Nat)(bf1 bf2 bf3:Int)(ba4:Qj)(v137:Int)(v138:List (Key_×Qb)){o:f5n4O},f5n4 f bf1 bf2 bf3 ba4 v137 v138=some o→TL Try.prog Try.f5.ntmps 0 f (cL (cL (Ql 1 (cL (Ql 4 c5))))) (f5n4S bf1 bf2 bf3 ba4 v137 v138) (·=f5n4E bf1 bf2 bf3 ba4 o)
 | 0,_,_,_,_,_,_,o,h=>by rw [f5n4] at h; cases h
 | f+1,bf1,bf2,bf3,ba4,v137,v138,o,h=>by
  rw [f5n4] at h;refine TL.body (K:=fun s=>∃v137:Int,∃v138:List (Key_×Qb),s=(f5n4S bf1 bf2 bf3 ba4 v137 v138)∧f5n4 f bf1 bf2 bf3 ba4 v137 v138=some o) ?_ (by rintro _ ⟨v137,v138,rfl,hk⟩; exact f5n4_ok f _ _ _ _ _ _ hk);rcases Qf h with ⟨h140,h⟩|⟨h140,h⟩
  ·refine rN Qg 2 [j3] [some true] [] [0,1] [1,2,3,8,10,40,41,42] (f5n2S bf1 bf2 bf3 ba4 v137 v138) (ap h140 an) ?_;obtain ⟨o192,h193,h⟩:=Qe h;cases o192 with
   | norm v194 =>
    refine T.oneN (by kernel_rfl) (f5n2_ok bf1 bf2 bf3 ba4 v137 v138 h193) (st2:=(f5n2E bf1 bf2 bf3 ba4 v137 v138 (.norm v194)).2) rfl ?_;exact rE Qg [j3] [] [] [0,1] [1,2,3,8,10,40,41,42] (.norm,(f5n4S bf1 bf2 bf3 ba4 (wr64 (v137+1)) v194)) an (Qs.norm ⟨(wr64 (v137+1)),v194,rfl,h⟩)
  ·obtain rfl:=Qd h;exact rK Qg 2 [j3] [some false] [] [0,1] [1,2,3,8,10] (.exit 0) ((f5n4E bf1 bf2 bf3 ba4 (.exit0 v138)).2) (ap h140 an) (Qs.out rfl rfl)
inductive f5n1O where
 | norm (v199:List (Key_×Qb))
def f5n1E(bf1 bf2 bf3:Int)(ba4:Qj):f5n1O→Ex×Tr×Hp
 | .norm v199=>(.norm,mkS [(1,(jI bf1)),(2,(jI bf2)),(3,(jI bf3)),(8,(.bp 0 0)),(10,(.mp 1))],[some (.box [(jI 0),(jI 0),(jI 0),(.pl (.sl .nil 0 []))]),some (.map (v199.map (mkv (pAgg Key_.cells) (pAgg Qb.cells))))])
def f5n1S(bf1 bf2 bf3:Int)(ba4:Qj):Tr×Hp:=(mkS [(1,(jI bf1)),(2,(jI bf2)),(3,(jI bf3)),(4,(.bp 0 0)),(8,(.bp 1 0)),(10,(.mp 2))],[some (.box ((Qj.cells ba4).map .pl)),some (.box [(jI 0),(jI 0),(jI 0),(.pl (.sl .nil 0 []))]),some (.map ([].map (mkv (pAgg Key_.cells) (pAgg Qb.cells))))])
noncomputable def f5n1(bf1 bf2 bf3:Int)(ba4:Qj):Option f5n1O :=
 req (cutB 0 bf3 ba4.Records.length) <|
 (f5n4 FUEL bf1 bf2 bf3 ba4 0 []).bind fun o196=>match o196 with
 | .exit0 v198=>some (.norm v198)
theorem f5n1_ok(bf1 bf2 bf3:Int)(ba4:Qj){o:f5n1O}(h:f5n1 bf1 bf2 bf3 ba4=some o):T Try.prog Try.f5.ntmps 0 (cL (Ql 4 c5)) (f5n1S bf1 bf2 bf3 ba4) (·=f5n1E bf1 bf2 bf3 ba4 o):=by
 unfold f5n1 at h;obtain ⟨h22,h⟩:=Qaf h;refine rN Qg 1 [([],[(3,.cut 0 (Int.toNat bf3))],[(3,.val (.pl (.sl .any 3 (((ba4.Records.take (Int.toNat bf3)).drop 0).map Qa.cells)))),(4,.val (.pl (.int .i64 (((ba4.Records.take (Int.toNat bf3)).drop 0).length:Int))))])] [] [] [1,2] [1,2,3,8,10,40,41,42] (f5n4S bf1 bf2 bf3 ba4 0 []) (ap (cut_hn_1_map (c:=Qa.cells) h22) (ap (Qbm h22) (ap (Qbq h22) (ap (cut_hn_4_map (c:=Qa.cells) h22) (ap (congrArg (fun l=>AV.pl (.sl .any 3 l)) (cut_cv (xs:=ba4.Records) (c:=Qa.cells) (n:=(Int.toNat bf3)) (m:=0))) (ap (Qr (xs:=((ba4.Records.take (Int.toNat bf3)).drop 0)) (c:=Qa.cells)) an)))))) ?_;obtain ⟨o196,h197,h⟩:=Qe h;cases o196 with
 | exit0 v198 =>
  obtain rfl:=Qd h;exact T.last' (T.bl (i:=0) (by kernel_rfl) (by kernel_rfl) (f5n4_ok FUEL bf1 bf2 bf3 ba4 0 [] h197)) (tds:=[]) (m:=[0,1]) (keep:=[1,2,3,8,10]) (st2:=(f5n1E bf1 bf2 bf3 ba4 (.norm v198)).2) (by kernel_rfl) an rfl
inductive f5n0O where
 | ret (v207:Int) (v208:Int) (v209:Int) (v210:Int) (v211:List Qb)
def f5n0E(a1:Qj)(a2 a3 a4:Int):f5n0O→Ex×Tr×Hp
 | .ret v207 v208 v209 v210 v211=>(.ret,mkS [(8,(.bp 0 0)),(9,(jI v207))],[some (.box [(jI v208),(jI v209),(jI v210),(.own 1)]),jR 4 Qb.cells v211])
def f5n0S(a1:Qj)(a2 a3 a4:Int):Tr×Hp:=(Qad [(jA Qj.cells a1),(jI a2),(jI a3),(jI a4)] 0 .leaf,[])
noncomputable def f5n0(a1:Qj)(a2 a3 a4:Int):Option f5n0O :=
 (f11 a1).bind fun x8 =>
 bif decide (x8=0) then
  (f12 a2 a3).bind fun x16 =>
  bif x16 then
   bif decide (a4<0) then
    some (.ret 2 0 0 0 [])
   else
    bif decide ((a1.Records.length:Int)<a4) then
     some (.ret 2 0 0 0 [])
    else
     (f5n1 a2 a3 a4 a1).bind fun o200=>match o200 with
     | .norm v202=>(f14r1 v202).bind fun x205 =>
      some (.ret 0 a2 a3 a4 x205)
  else
   some (.ret 2 0 0 0 [])
 else
  some (.ret 8 0 0 0 [])
theorem f5n0_ok(a1:Qj)(a2 a3 a4:Int){o:f5n0O}(h:f5n0 a1 a2 a3 a4=some o):T Try.prog Try.f5.ntmps 0 c5 (f5n0S a1 a2 a3 a4) (·=f5n0E a1 a2 a3 a4 o):=by
 unfold f5n0 at h;obtain ⟨x8,h9,h⟩:=Qe h;rcases Qf h with ⟨h10,h⟩|⟨h10,h⟩
 ·obtain ⟨x16,h17,h⟩:=Qe h;rcases Qf h with ⟨h18,h⟩|⟨h18,h⟩
  ·rcases Qf h with ⟨h19,h⟩|⟨h19,h⟩
   ·obtain rfl:=Qd h;exact rK Qg 3 [j3,([],[jH 1 (jI x8)],[]),(jF [5,6]++jT [9,10,11,12,13],[jH 2 (jB x16),(7,.bool false),(14,.bool true)],[]),j3] [some false,none] [.matC 1 3 4] [1,2] [8,9] .ret ((f5n0E a1 a2 a3 a4 (.ret 2 0 0 0 [])).2) (ap (f11_ok a1 h9) (ap (Qp h10) (ap3 (Qp h18) (ap2 h19 (ap4 h19 (ap (f12_ok a2 a3 h17) an)))))) rfl
   ·rcases Qf h with ⟨h20,h⟩|⟨h20,h⟩
    ·obtain rfl:=Qd h;exact rK Qg 3 [j3,([],[jH 1 (jI x8)],[]),(jF [5,6,9,10,11,12,13],[jH 2 (jB x16),(7,.bool false),(14,.bool false)],[(12,.val (jI (a1.Records.length:Int)))]),j3] [some false,some true] [.matC 1 3 4] [1,2] [8,9] .ret ((f5n0E a1 a2 a3 a4 (.ret 2 0 0 0 [])).2) (ap (f11_ok a1 h9) (ap (Qp h10) (ap3 (Qp h18) (ap4 h19 (ap (Qr (xs:=a1.Records) (c:=Qa.cells)) (ap2 h19 (ap (f12_ok a2 a3 h17) (ap h20 an)))))))) rfl
    ·refine rN Qg 4 [j3,([],[jH 1 (jI x8)],[]),(jF [5,6,9,10,11,12,13],[jH 2 (jB x16),(7,.bool false),(14,.bool false)],[(12,.val (jI (a1.Records.length:Int)))]),j3] [some false,some false] [] [0,1,2] [1,2,3,4,8,10] (f5n1S a2 a3 a4 a1) (ap (f11_ok a1 h9) (ap (Qp h10) (ap3 (Qp h18) (ap4 h19 (ap (Qr (xs:=a1.Records) (c:=Qa.cells)) (ap2 h19 (ap (f12_ok a2 a3 h17) (ap h20 an)))))))) ?_;obtain ⟨o200,h201,h⟩:=Qe h;cases o200 with
     | norm v202 =>
      refine T.oneN (by kernel_rfl) (f5n1_ok a2 a3 a4 a1 h201) (st2:=(f5n1E a2 a3 a4 a1 (.norm v202)).2) rfl ?_;obtain ⟨x205,h206,h⟩:=Qe h;obtain rfl:=Qd h;exact rE Qg [([],[(4,.call (.own 2) [none,some (.map (v202.map (mkv (pAgg Key_.cells) (pAgg Qb.cells)))),jR 4 Qb.cells x205])],[])] [] [] [0,2] [8,9] (.ret,(f5n0E a1 a2 a3 a4 (.ret 0 a2 a3 a4 x205)).2) (ap (Qo.rn 2 [1] (f14r1_ok v202 h206)) an) rfl
  ·obtain rfl:=Qd h;exact rK Qg 3 [j3,([],[jH 1 (jI x8)],[]),([(5,true),(6,true)],[jH 2 (jB x16),(7,.bool true)],[]),j3] [some false,none] [.matC 1 3 4] [1,2] [8,9] .ret ((f5n0E a1 a2 a3 a4 (.ret 2 0 0 0 [])).2) (ap (f11_ok a1 h9) (ap (Qp h10) (ap3 (Qw h18) (ap (f12_ok a2 a3 h17) an)))) rfl
 ·obtain rfl:=Qd h;exact rK Qg 2 [j3,([],[jH 1 (jI x8)],[]),j3] [some true] [.matC 1 3 4] [1,2] [8,9] .ret ((f5n0E a1 a2 a3 a4 (.ret 8 0 0 0 [])).2) (ap (f11_ok a1 h9) (ap (Qw h10) an)) rfl
noncomputable def f5(a1:Qj)(a2 a3 a4:Int):Option (Qm×Int):=(f5n0 a1 a2 a3 a4).bind fun o=>match o with
 | .ret v207 v208 v209 v210 v211=>some ((Qm.mk v208 v209 v210 v211),v207)
theorem f5_ok(a1:Qj)(a2 a3 a4:Int){r:Qm×Int}(h:f5 a1 a2 a3 a4=some r):Qo Try.prog false 5 [(jA Qj.cells a1),(jI a2),(jI a3),(jI a4)] [] (.tup [(jA Qm.cells r.1),(jI r.2)]) []:=by
 unfold f5 at h;obtain ⟨o,ho,h⟩:=Qe h;cases o with
 | ret v207 v208 v209 v210 v211 =>
  obtain rfl:=Qd h;exact Qo.plain Qg (f:=Try.f5) (c:=c5) (by kernel_rfl) (by kernel_rfl) (by kernel_rfl) (by kernel_rfl) ((f5n0_ok a1 a2 a3 a4 ho).mono fun r e=>by subst e; exact ⟨.inl rfl,(.tup [(.agg [(jI v208),(jI v209),(jI v210),(.own 1)]),(jI v207)]),(.tup [(.pl (.agg (Qm.cells (Qm.mk v208 v209 v210 v211)))),(jI v207)]),by kernel_rfl,by kernel_rfl,((Wk.refl _):Wk (.tup [(.pl (.agg (Qm.cells (Qm.mk v208 v209 v210 v211)))),(jI v207)]) (.tup [(.pl (.agg (Qm.cells (Qm.mk v208 v209 v210 v211)))),(jI v207)]))⟩)
end Go.Proofs.Ytfeklaffeigilaa
