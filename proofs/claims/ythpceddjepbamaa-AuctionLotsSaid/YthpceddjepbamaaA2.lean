/- Several texts in one. No condition. -/
import Derived.Test.YthpceddjepbamaaProg
import Derived.Test.YthpceddjepbamaaTU
import Derived.Test.YthpceddjepbamaaTy
import Derived.Test.YthpceddjepbamaaTV
namespace Go.Proofs.Ythpceddjepbamaa
open Go.Shelf
def so_ren:Go.Shelf.Ren:=⟨fun | 6=>37 | 14=>58 | 15=>59 | 20=>69 | 21=>70 | 22=>71 | 23=>72 | 24=>73 | 25=>74 | 26=>75 | 27=>76 | 28=>77 | 29=>78 | 46=>82 | 47=>83 | 48=>84 | 49=>85 | 50=>86 | 57=>88 | n=>n,fun | 22=>28 | 24=>36 | 25=>81 | 39=>96 | 45=>105 | 46=>106 | 50=>32 | 53=>112 | 55=>114 | 66=>117 | 70=>121 | 76=>123 | 77=>61 | n=>n,fun n=>n⟩
theorem so_lays:SlLaysF0.n6 Try.prog so_ren:={
 mixed:=by kernel_rfl,
 f6:=⟨Try.f37.name,by kernel_rfl,Try.func37.trans (congrArg some (by kernel_rfl))⟩,
 f14:=⟨Try.f58.name,by kernel_rfl,Try.func58.trans (congrArg some (by kernel_rfl))⟩,
 f15:=Try.func59.trans (congrArg some (by kernel_rfl)),
 f20:=⟨Try.f69.name,by kernel_rfl,Try.func69.trans (congrArg some (by kernel_rfl))⟩,
 f21:=⟨Try.f70.name,by kernel_rfl,Try.func70.trans (congrArg some (by kernel_rfl))⟩,
 f22:=⟨Try.f71.name,by kernel_rfl,Try.func71.trans (congrArg some (by kernel_rfl))⟩,
 f23:=⟨Try.f72.name,by kernel_rfl,Try.func72.trans (congrArg some (by kernel_rfl))⟩,
 f24:=⟨Try.f73.name,by kernel_rfl,Try.func73.trans (congrArg some (by kernel_rfl))⟩,
 f25:=⟨Try.f74.name,by kernel_rfl,Try.func74.trans (congrArg some (by kernel_rfl))⟩,
 f26:=⟨Try.f75.name,by kernel_rfl,Try.func75.trans (congrArg some (by kernel_rfl))⟩,
 f27:=⟨Try.f76.name,by kernel_rfl,Try.func76.trans (congrArg some (by kernel_rfl))⟩,
 f28:=Try.func77.trans (congrArg some (by kernel_rfl)),
 f29:=Try.func78.trans (congrArg some (by kernel_rfl)),
 f46:=⟨Try.f82.name,by kernel_rfl,Try.func82.trans (congrArg some (by kernel_rfl))⟩,
 f47:=Try.func83.trans (congrArg some (by kernel_rfl)),
 f48:=Try.func84.trans (congrArg some (by kernel_rfl)),
 f49:=⟨Try.f85.name,by kernel_rfl,Try.func85.trans (congrArg some (by kernel_rfl))⟩,
 f50:=⟨Try.f86.name,by kernel_rfl,Try.func86.trans (congrArg some (by kernel_rfl))⟩,
 f57:=⟨Try.f88.name,by kernel_rfl,Try.func88.trans (congrArg some (by kernel_rfl))⟩,
 t0:=Try.underlying0,
 a0:=Try.isAgg0,
 z0:=Try.sizeOf0,
 v0:=Try.zeroValue0,
 t3:=Try.underlying3,
 a3:=Try.isAgg3,
 z3:=Try.sizeOf3,
 v3:=Try.zeroValue3,
 t4:=Try.underlying4,
 a4:=Try.isAgg4,
 z4:=Try.sizeOf4,
 v4:=Try.zeroValue4,
 t5:=Try.underlying5,
 a5:=Try.isAgg5,
 z5:=Try.sizeOf5,
 v5:=Try.zeroValue5,
 t9:=Try.underlying9,
 a9:=Try.isAgg9,
 z9:=Try.sizeOf9,
 v9:=Try.zeroValue9,
 t22:=Try.underlying28,
 a22:=Try.isAgg28,
 z22:=Try.sizeOf28,
 v22:=Try.zeroValue28,
 t25:=Try.underlying81,
 a25:=Try.isAgg81,
 z25:=Try.sizeOf81,
 v25:=Try.zeroValue81,
 t39:=Try.underlying96,
 a39:=Try.isAgg96,
 z39:=Try.sizeOf96,
 v39:=Try.zeroValue96,
 t45:=Try.underlying105,
 a45:=Try.isAgg105,
 z45:=Try.sizeOf105,
 v45:=Try.zeroValue105,
 t46:=Try.underlying106,
 a46:=Try.isAgg106,
 z46:=Try.sizeOf106,
 v46:=Try.zeroValue106,
 t50:=Try.underlying32,
 a50:=Try.isAgg32,
 z50:=Try.sizeOf32,
 v50:=Try.zeroValue32,
 t53:=Try.underlying112,
 a53:=Try.isAgg112,
 z53:=Try.sizeOf112,
 v53:=Try.zeroValue112,
 t55:=Try.underlying114,
 a55:=Try.isAgg114,
 z55:=Try.sizeOf114,
 v55:=Try.zeroValue114,
 t66:=Try.underlying117,
 a66:=Try.isAgg117,
 z66:=Try.sizeOf117,
 v66:=Try.zeroValue117,
 t70:=Try.underlying121,
 a70:=Try.isAgg121,
 z70:=Try.sizeOf121,
 v70:=Try.zeroValue121,
 t76:=Try.underlying123,
 a76:=Try.isAgg123,
 z76:=Try.sizeOf123,
 v76:=Try.zeroValue123,
 t77:=Try.underlying61,
 a77:=Try.isAgg61,
 z77:=Try.sizeOf61,
 v77:=Try.zeroValue61 }
theorem so_agg:∀w,(isAgg (so_ren.t 24)).run Try.prog w = .ok true w:=Try.isAgg36
theorem so_size:∀w,(Go.sizeOf (so_ren.t 24)).run Try.prog w = .ok 3 w:=Try.sizeOf36
end Go.Proofs.Ythpceddjepbamaa
namespace Go.Proofs.Ythpceddjepbamaa
set_option linter.unusedVariables false
set_option linter.unusedSimpArgs false
set_option maxRecDepth 100000
open Go.RowKit
structure Qb where
 Name:ByteArray
 Units:Int
 Reserve:Int
def Qb.cells(x:Qb):List PV:=[.str x.Name,.int .i64 x.Units,.int .i64 x.Reserve]
theorem Qb.cells_eq(x y:Qb):(Qb.cells x=Qb.cells y)=(x=y):=propext ⟨fun h=>by
 cases x; cases y
 simp_all [Qb.cells],fun h=>by rw [h]⟩
theorem Qb.map_eq(x y:List Qb):(x.map Qb.cells=y.map Qb.cells)=(x=y):=map_eq_of fun a b h=>by rwa [Qb.cells_eq] at h
structure Qc where
 Member:ByteArray
 Lot:ByteArray
 Units:Int
 Price:Int
def Qc.cells(x:Qc):List PV:=[.str x.Member,.str x.Lot,.int .i64 x.Units,.int .i64 x.Price]
theorem Qc.cells_eq(x y:Qc):(Qc.cells x=Qc.cells y)=(x=y):=propext ⟨fun h=>by
 cases x; cases y
 simp_all [Qc.cells],fun h=>by rw [h]⟩
theorem Qc.map_eq(x y:List Qc):(x.map Qc.cells=y.map Qc.cells)=(x=y):=map_eq_of fun a b h=>by rwa [Qc.cells_eq] at h
structure Qe where
 Rule:Int
 Lots:List Qb
 Bids:List Qc
def Qe.cells(x:Qe):List PV:=[.int .u8 x.Rule,.sl .any 3 (x.Lots.map Qb.cells),.sl .any 4 (x.Bids.map Qc.cells)]
theorem Qe.cells_eq(x y:Qe):(Qe.cells x=Qe.cells y)=(x=y):=propext ⟨fun h=>by
 cases x; cases y
 simp_all [Qe.cells,Qb.cells,Qc.cells,Qb.cells_eq,Qb.map_eq,Qc.cells_eq,Qc.map_eq],fun h=>by rw [h]⟩
theorem Qe.map_eq(x y:List Qe):(x.map Qe.cells=y.map Qe.cells)=(x=y):=map_eq_of fun a b h=>by rwa [Qe.cells_eq] at h
structure Qa where
 Bid:Int
 Units:Int
 Price:Int
def Qa.cells(x:Qa):List PV:=[.int .i64 x.Bid,.int .i64 x.Units,.int .i64 x.Price]
theorem Qa.cells_eq(x y:Qa):(Qa.cells x=Qa.cells y)=(x=y):=propext ⟨fun h=>by
 cases x; cases y
 simp_all [Qa.cells],fun h=>by rw [h]⟩
theorem Qa.map_eq(x y:List Qa):(x.map Qa.cells=y.map Qa.cells)=(x=y):=map_eq_of fun a b h=>by rwa [Qa.cells_eq] at h
structure Qd where
 index:Int
 units:Int
 bid:Qc
def Qd.cells(x:Qd):List PV:=[.int .i64 x.index,.int .i64 x.units,.str x.bid.Member,.str x.bid.Lot,.int .i64 x.bid.Units,.int .i64 x.bid.Price]
theorem key_5:KeyOK cfg 5 (pInt .u8) (fun a b=>decide (a=b)):=key_int (fun _ _=>by kernel_rfl) (fun _=>by kernel_rfl)
def str_house:ByteArray:=⟨#[104,111,117,115,101]⟩
def Qaj:ByteArray:=⟨#[99]⟩
def Qaf:ByteArray:=⟨#[100]⟩
def Qaa:ByteArray:=⟨#[98]⟩
def Qx:ByteArray:=⟨#[97]⟩
def Ql:ByteArray:=⟨#[108]⟩
def str_x:ByteArray:=⟨#[]⟩
def ti42:TI:=⟨.struct [(9,0),(9,1),(3,2),(3,3)],4,48,[.str ByteArray.empty,.str ByteArray.empty,.int .i64 0,.int .i64 0]⟩
def ti78:TI:=⟨.struct [(3,0),(3,1),(42,2)],6,64,[.int .i64 0,.int .i64 0,.str ByteArray.empty,.str ByteArray.empty,.int .i64 0,.int .i64 0]⟩
def ti36:TI:=⟨.struct [(3,0),(3,1),(3,2)],3,24,[.int .i64 0,.int .i64 0,.int .i64 0]⟩
def ti39:TI:=⟨.struct [(9,0),(3,1),(3,2)],3,32,[.str ByteArray.empty,.int .i64 0,.int .i64 0]⟩
def ti3:TI:=⟨.int .i64,1,8,[.int .i64 0]⟩
def ti5:TI:=⟨.int .u8,1,1,[.int .u8 0]⟩
def ti9:TI:=⟨.str,1,16,[.str ByteArray.empty]⟩
def ti22:TI:=⟨.sl 39,1,24,[.sl .nil 0 []]⟩
def ti23:TI:=⟨.sl 42,1,24,[.sl .nil 0 []]⟩
def ti25:TI:=⟨.struct [(5,0),(22,1),(23,2)],3,56,[.int .u8 0,.sl .nil 0 [],.sl .nil 0 []]⟩
def Qb.ok(x:Qb):Prop:=(fun s:ByteArray=>s.size≤maxLen) x.Name∧(okInt .i64) x.Units∧(okInt .i64) x.Reserve∧True
def Qc.ok(x:Qc):Prop:=(fun s:ByteArray=>s.size≤maxLen) x.Member∧(fun s:ByteArray=>s.size≤maxLen) x.Lot∧(okInt .i64) x.Units∧(okInt .i64) x.Price∧True
def Qe.ok(x:Qe):Prop:=(okInt .u8) x.Rule∧(fun l:List Qb=>l.length≤maxLen∧∀x∈l,Qb.ok x) x.Lots∧(fun l:List Qc=>l.length≤maxLen∧∀x∈l,Qc.ok x) x.Bids∧True
def Qa.ok(x:Qa):Prop:=(okInt .i64) x.Bid∧(okInt .i64) x.Units∧(okInt .i64) x.Price∧True
def Qd.ok(x:Qd):Prop:=(okInt .i64) x.index∧(okInt .i64) x.units∧Qc.ok x.bid∧True
theorem of_5{d:Nat}{ps:List PV}(h:WT cfg.ty (d+1) 5 ps):∃x:Int,ps=(cInt .u8) x∧(okInt .u8) x:=by
 obtain ⟨n,rfl,k⟩:=wt_int (ti:=ti5) (by kernel_rfl) rfl h;exact ⟨n,rfl,k⟩
theorem of_9{d:Nat}{ps:List PV}(h:WT cfg.ty (d+1) 9 ps):∃x:ByteArray,ps=cStr x∧(fun s:ByteArray=>s.size≤maxLen) x:=by
 obtain ⟨n,rfl,k⟩:=wt_str (ti:=ti9) (by kernel_rfl) rfl h;exact ⟨n,rfl,k⟩
theorem of_3{d:Nat}{ps:List PV}(h:WT cfg.ty (d+1) 3 ps):∃x:Int,ps=(cInt .i64) x∧(okInt .i64) x:=by
 obtain ⟨n,rfl,k⟩:=wt_int (ti:=ti3) (by kernel_rfl) rfl h;exact ⟨n,rfl,k⟩
theorem of_39{d:Nat}{ps:List PV}(h:WT cfg.ty (d+2) 39 ps):∃x:Qb,ps=Qb.cells x∧Qb.ok x:=by
 have g:=wt_struct (ti:=ti39) (by kernel_rfl) rfl h
 clear h
 obtain ⟨_,_,_,rfl,_,_,h0,g0⟩:=g;obtain ⟨x0,rfl,k0⟩:=of_9 h0;obtain ⟨_,_,_,rfl,_,_,h1,g1⟩:=g0;obtain ⟨x1,rfl,k1⟩:=of_3 h1;obtain ⟨_,_,_,rfl,_,_,h2,g2⟩:=g1;obtain ⟨x2,rfl,k2⟩:=of_3 h2;have e:_=[]:=g2;subst e;exact ⟨⟨x0,x1,x2⟩,rfl,k0,k1,k2,trivial⟩
theorem of_22{d:Nat}{ps:List PV}(h:WT cfg.ty (d+3) 22 ps):∃x:List Qb,ps=(cLst 3 Qb.cells) x∧(fun l:List Qb=>l.length≤maxLen∧∀x∈l,Qb.ok x) x:=by
 obtain ⟨te,es,e1,rfl,hl,hh⟩:=wt_sl (ti:=ti22) (by kernel_rfl) rfl h;obtain rfl:te=ti39:=Qg (e1.symm.trans (by kernel_rfl:cfg.ty 39=some ti39));obtain ⟨xs,rfl,hx⟩:=list_of (c:=Qb.cells) (ok:=Qb.ok) (fun ps h=>of_39 h) es (fun c hc=>(hh c hc).2);exact ⟨xs,rfl,by simpa using hl,hx⟩
theorem of_42{d:Nat}{ps:List PV}(h:WT cfg.ty (d+2) 42 ps):∃x:Qc,ps=Qc.cells x∧Qc.ok x:=by
 have g:=wt_struct (ti:=ti42) (by kernel_rfl) rfl h
 clear h
 obtain ⟨_,_,_,rfl,_,_,h0,g0⟩:=g;obtain ⟨x0,rfl,k0⟩:=of_9 h0;obtain ⟨_,_,_,rfl,_,_,h1,g1⟩:=g0;obtain ⟨x1,rfl,k1⟩:=of_9 h1;obtain ⟨_,_,_,rfl,_,_,h2,g2⟩:=g1;obtain ⟨x2,rfl,k2⟩:=of_3 h2;obtain ⟨_,_,_,rfl,_,_,h3,g3⟩:=g2;obtain ⟨x3,rfl,k3⟩:=of_3 h3;have e:_=[]:=g3;subst e;exact ⟨⟨x0,x1,x2,x3⟩,rfl,k0,k1,k2,k3,trivial⟩
theorem of_23{d:Nat}{ps:List PV}(h:WT cfg.ty (d+3) 23 ps):∃x:List Qc,ps=(cLst 4 Qc.cells) x∧(fun l:List Qc=>l.length≤maxLen∧∀x∈l,Qc.ok x) x:=by
 obtain ⟨te,es,e1,rfl,hl,hh⟩:=wt_sl (ti:=ti23) (by kernel_rfl) rfl h;obtain rfl:te=ti42:=Qg (e1.symm.trans (by kernel_rfl:cfg.ty 42=some ti42));obtain ⟨xs,rfl,hx⟩:=list_of (c:=Qc.cells) (ok:=Qc.ok) (fun ps h=>of_42 h) es (fun c hc=>(hh c hc).2);exact ⟨xs,rfl,by simpa using hl,hx⟩
theorem of_25{d:Nat}{ps:List PV}(h:WT cfg.ty (d+4) 25 ps):∃x:Qe,ps=Qe.cells x∧Qe.ok x:=by
 have g:=wt_struct (ti:=ti25) (by kernel_rfl) rfl h
 clear h
 obtain ⟨_,_,_,rfl,_,_,h0,g0⟩:=g;obtain ⟨x0,rfl,k0⟩:=of_5 h0;obtain ⟨_,_,_,rfl,_,_,h1,g1⟩:=g0;obtain ⟨x1,rfl,k1⟩:=of_22 h1;obtain ⟨_,_,_,rfl,_,_,h2,g2⟩:=g1;obtain ⟨x2,rfl,k2⟩:=of_23 h2;have e:_=[]:=g2;subst e;exact ⟨⟨x0,x1,x2⟩,rfl,k0,k1,k2,trivial⟩
theorem arg_25{p:PV}(h:WV cfg.ty 4 25 p):∃x:Qe,p = .agg (Qe.cells x)∧Qe.ok x:=by
 obtain ⟨cs,rfl,g⟩:=wv_row (ti:=ti25) (by kernel_rfl) rfl h;obtain ⟨x,rfl,k⟩:=of_25 (d:=0) g;exact ⟨x,rfl,k⟩
theorem arg_3{p:PV}(h:WV cfg.ty 1 3 p):∃x:Int,p=(.int .i64 x)∧(okInt .i64) x:=by
 obtain ⟨_,g⟩:=wv_one (ti:=ti3) (by kernel_rfl) rfl h;obtain ⟨x,e,k⟩:=of_3 (d:=0) g;exact ⟨x,(List.cons.inj e).1,k⟩
end Go.Proofs.Ythpceddjepbamaa
namespace Go.Proofs.Ythpceddjepbamaa
set_option linter.unusedVariables false
set_option linter.unusedSimpArgs false
set_option maxRecDepth 100000
open Go.RowKit
noncomputable def c33:Code:=Try.f33.body.getD .skip
inductive f33r1n0O where
 | ret
def f33r1n0E(a1 a2:Int):f33r1n0O→Ex×Tr×Hp
 | .ret=>(.ret,mkS [(6,(.bp 0 0))],[some (.box [(.pl (.int .u8 a1)),(.own 1),(.own 2)]),some (.row false 3 ([(Qb.mk Ql 10 5)].map Qb.cells)),some (.row false 4 ([(Qc.mk Qx Ql 6 9),(Qc.mk Qaa Ql a2 7),(Qc.mk Qaf Ql 9 4),(Qc.mk Qaj Ql 3 7)].map Qc.cells))])
def f33r1n0S(a1 a2:Int):Tr×Hp:=(Qan [(.pl (.int .u8 a1)),(jI a2),(jB true)] 0 .leaf,[])
noncomputable def f33r1n0(a1 a2:Int):Option f33r1n0O :=
 some .ret
theorem f33r1n0_ok(a1 a2:Int){o:f33r1n0O}(h:f33r1n0 a1 a2=some o):T Try.prog Try.f33.ntmps 0 c33 (f33r1n0S a1 a2) (·=f33r1n0E a1 a2 o):=by
 unfold f33r1n0 at h;obtain rfl:=Qg h;exact rE Qh [j3,j3,j3,([],[(4,.fits)],[]),j3] [none] [] [0,1,5] [6] (.ret,(f33r1n0E a1 a2 .ret).2) (ap (rfl:Qbx 4 ti42=true) an) rfl
noncomputable def f33r1(a1 a2:Int):Option Unit:=(f33r1n0 a1 a2).bind fun o=>match o with
 | .ret=>some ()
theorem Qak(a1 a2:Int){r:Unit}(h:f33r1 a1 a2=some r):Qp Try.prog true 33 [(.pl (.int .u8 a1)),(jI a2),(jB true)] [] (.agg [(.pl (.int .u8 a1)),(.own 1),(.own 2)]) [some (.box [(.pl (.int .u8 a1)),(.own 1),(.own 2)]),some (.row false 3 ([(Qb.mk Ql 10 5)].map Qb.cells)),some (.row false 4 ([(Qc.mk Qx Ql 6 9),(Qc.mk Qaa Ql a2 7),(Qc.mk Qaf Ql 9 4),(Qc.mk Qaj Ql 3 7)].map Qc.cells))]:=by
 unfold f33r1 at h;obtain ⟨o,ho,h⟩:=Qf h;cases o with
 | ret =>
  obtain rfl:=Qg h;exact Qp.shared Qh (f:=Try.f33) (c:=c33) (by kernel_rfl) (by kernel_rfl) (by kernel_rfl) ((f33r1n0_ok a1 a2 ho).mono fun r e=>by subst e; exact ⟨.inl rfl,by kernel_rfl,by kernel_rfl⟩)

noncomputable def c67:Code:=Try.f67.body.getD .skip
inductive f67n0O where
 | ret (v10:Bool)
def f67n0E(a1:Int):f67n0O→Ex×Tr×Hp
 | .ret v10=>(.ret,mkS [(2,(jB v10))],[])
def f67n0S(a1:Int):Tr×Hp:=(Qan [(.pl (.int .u8 a1))] 0 .leaf,[])
noncomputable def f67n0(a1:Int):Option f67n0O :=
 bif decide (97≤a1) then
  bif decide (a1≤122) then
   some (.ret true)
  else
   bif decide (65≤a1) then
    some (.ret (decide (a1≤90)))
   else
    some (.ret false)
 else
  bif decide (65≤a1) then
   some (.ret (decide (a1≤90)))
  else
   some (.ret false)
theorem f67n0_ok(a1:Int){o:f67n0O}(h:f67n0 a1=some o):T Try.prog Try.f67.ntmps 0 c67 (f67n0S a1) (·=f67n0E a1 o):=by
 unfold f67n0 at h;rcases Qj h with ⟨h6,h⟩|⟨h6,h⟩
 ·rcases Qj h with ⟨h7,h⟩|⟨h7,h⟩
  ·obtain rfl:=Qg h;exact rE Qh [j3,(jT [3,4,7,8,9,12],[(5,.bool true),(13,.bool true)],[])] [] [] [] [2] (.ret,(f67n0E a1 (.ret true)).2) (ap3 h6 (ap h7 (ap4 h7 an))) rfl
  ·rcases Qj h with ⟨h8,h⟩|⟨h8,h⟩
   ·obtain rfl:=Qg h;exact rE Qh [j3,(jF [7,8,9,12]++jT [3,4,10,11],[(5,.bool true),(12,.bool true),(13,.bool false)],[])] [] [] [] [2] (.ret,(f67n0E a1 (.ret (decide (a1≤90)))).2) (ap3 h6 (ap3 h7 (ap2 h8 (ap h7 (ap h8 (ap h7 an)))))) rfl
   ·obtain rfl:=Qg h;exact rE Qh [j3,(jF [7,8,9,10,11,12]++jT [3,4],[(5,.bool true),(12,.bool false),(13,.bool false)],[])] [] [] [] [2] (.ret,(f67n0E a1 (.ret false)).2) (ap3 h6 (ap3 h7 (ap2 h8 (ap h7 (ap h8 (ap h7 an)))))) rfl
 ·rcases Qj h with ⟨h9,h⟩|⟨h9,h⟩
  ·obtain rfl:=Qg h;exact rE Qh [j3,(jF [3,4]++jT [10,11],[(5,.bool false),(12,.bool true)],[])] [] [] [] [2] (.ret,(f67n0E a1 (.ret (decide (a1≤90)))).2) (ap3 h6 (ap3 h9 an)) rfl
  ·obtain rfl:=Qg h;exact rE Qh [j3,(jF [3,4,10,11],[(5,.bool false),(12,.bool false)],[])] [] [] [] [2] (.ret,(f67n0E a1 (.ret false)).2) (ap3 h6 (ap3 h9 an)) rfl
noncomputable def f67(a1:Int):Option Bool:=(f67n0 a1).bind fun o=>match o with
 | .ret v10=>some v10
theorem f67_ok(a1:Int){r:Bool}(h:f67 a1=some r):Qp Try.prog false 67 [(.pl (.int .u8 a1))] [] (jB r) []:=by
 unfold f67 at h;obtain ⟨o,ho,h⟩:=Qf h;cases o with
 | ret v10 =>
  obtain rfl:=Qg h;exact Qp.plain Qh (f:=Try.f67) (c:=c67) (by kernel_rfl) (by kernel_rfl) (by kernel_rfl) (by kernel_rfl) ((f67n0_ok a1 ho).mono fun r e=>by subst e; exact ⟨.inl rfl,(jB v10),(jB v10),by kernel_rfl,by kernel_rfl,((Wk.refl _):Wk (jB v10) (jB v10))⟩)

noncomputable def c50:Code:=Try.f50.body.getD .skip
inductive f50n3O where
 | norm (v148:Bool)
def f50n3E(bb1:ByteArray)(bc2:UInt8)(bd3:Int):f50n3O→Ex×Tr×Hp
 | .norm v148=>(.norm,mkS [(0,(jS bb1)),(20,(jI (bb1.size:Int))),(21,(jI bd3)),(45,(jB v148))],[])
def f50n3S(bb1:ByteArray)(bc2:UInt8)(bd3:Int):Tr×Hp:=(mkS [(0,(jS bb1)),(4,(.pl (.int .u8 (bc2.toNat:Int)))),(20,(jI (bb1.size:Int))),(21,(jI bd3))],[])
noncomputable def f50n3(bb1:ByteArray)(bc2:UInt8)(bd3:Int):Option f50n3O :=
 (f67 (bc2.toNat:Int)).bind fun x141 =>
 bif x141 then
  some (.norm false)
 else
  bif decide ((bc2.toNat:Int)<48) then
   bif decide ((bc2.toNat:Int)=95) then
    some (.norm false)
   else
    some (.norm (!(decide ((bc2.toNat:Int)=45))))
  else
   bif decide (57<(bc2.toNat:Int)) then
    bif decide ((bc2.toNat:Int)=95) then
     some (.norm false)
    else
     some (.norm (!(decide ((bc2.toNat:Int)=45))))
   else
    some (.norm false)
theorem f50n3_ok(bb1:ByteArray)(bc2:UInt8)(bd3:Int){o:f50n3O}(h:f50n3 bb1 bc2 bd3=some o):T Try.prog Try.f50.ntmps 0 (cL (Qk 2 (cL (cL (Qk 2 (cL (cL (Qk 1 (cL (Qk 2 c50)))))))))) (f50n3S bb1 bc2 bd3) (·=f50n3E bb1 bc2 bd3 o):=by
 unfold f50n3 at h;obtain ⟨x141,h142,h⟩:=Qf h;rcases Qj h with ⟨h143,h⟩|⟨h143,h⟩
 ·obtain rfl:=Qg h;exact rE Qh [(jF [4,5,6,9],[jH 1 (jB x141),(10,.bool false)],[])] [] [] [] [0,20,21,45] (.norm,(f50n3E bb1 bc2 bd3 (.norm false)).2) (ap (Qal h143) (ap4 (Qal h143) (ap (f67_ok (bc2.toNat:Int) h142) an))) rfl
 ·rcases Qj h with ⟨h144,h⟩|⟨h144,h⟩
  ·rcases Qj h with ⟨h145,h⟩|⟨h145,h⟩
   ·obtain rfl:=Qg h;exact rE Qh [(jF [16,17]++jT [4,5,6,7,8,9],[jH 1 (jB x141),(9,.bool true),(10,.bool true),(18,.bool false)],[])] [] [] [] [0,20,21,45] (.norm,(f50n3E bb1 bc2 bd3 (.norm false)).2) (ap3 (Qau h143) (ap2 h144 (ap (Qau h143) (ap h144 (ap (Qau h143) (ap3 (Qal h145) (ap (f67_ok (bc2.toNat:Int) h142) an))))))) rfl
   ·obtain rfl:=Qg h;exact rE Qh [(jT [4,5,6,7,8,9,16,17],[jH 1 (jB x141),(9,.bool true),(10,.bool true),(18,.bool true)],[])] [] [] [] [0,20,21,45] (.norm,(f50n3E bb1 bc2 bd3 (.norm (!(decide ((bc2.toNat:Int)=45))))).2) (ap3 (Qau h143) (ap2 h144 (ap (Qau h143) (ap h144 (ap (Qau h143) (ap3 (Qau h145) (ap (f67_ok (bc2.toNat:Int) h142) an))))))) rfl
  ·rcases Qj h with ⟨h146,h⟩|⟨h146,h⟩
   ·rcases Qj h with ⟨h147,h⟩|⟨h147,h⟩
    ·obtain rfl:=Qg h;exact rE Qh [(jF [7,8,16,17]++jT [4,5,6,9,12,13],[jH 1 (jB x141),(9,.bool false),(10,.bool true),(14,.bool true),(18,.bool false)],[])] [] [] [] [0,20,21,45] (.norm,(f50n3E bb1 bc2 bd3 (.norm false)).2) (ap3 (Qau h143) (ap2 h144 (ap (Qau h143) (ap h144 (ap (Qau h143) (ap3 h146 (ap3 (Qal h147) (ap (f67_ok (bc2.toNat:Int) h142) an)))))))) rfl
    ·obtain rfl:=Qg h;exact rE Qh [(jF [7,8]++jT [4,5,6,9,12,13,16,17],[jH 1 (jB x141),(9,.bool false),(10,.bool true),(14,.bool true),(18,.bool true)],[])] [] [] [] [0,20,21,45] (.norm,(f50n3E bb1 bc2 bd3 (.norm (!(decide ((bc2.toNat:Int)=45))))).2) (ap3 (Qau h143) (ap2 h144 (ap (Qau h143) (ap h144 (ap (Qau h143) (ap3 h146 (ap3 (Qau h147) (ap (f67_ok (bc2.toNat:Int) h142) an)))))))) rfl
   ·obtain rfl:=Qg h;exact rE Qh [(jF [7,8,12,13]++jT [4,5,6,9],[jH 1 (jB x141),(9,.bool false),(10,.bool true),(14,.bool false)],[])] [] [] [] [0,20,21,45] (.norm,(f50n3E bb1 bc2 bd3 (.norm false)).2) (ap3 (Qau h143) (ap2 h144 (ap (Qau h143) (ap h144 (ap (Qau h143) (ap3 h146 (ap (f67_ok (bc2.toNat:Int) h142) an))))))) rfl
inductive f50n2O where
 | norm
 | ret
def f50n2E(bb1:ByteArray)(bd2:Int):f50n2O→Ex×Tr×Hp
 | .norm=>(.norm,mkS [(0,(jS bb1)),(20,(jI (bb1.size:Int))),(21,(jI bd2))],[])
 | .ret=>(.ret,mkS [(2,(jB false))],[])
def f50n2S(bb1:ByteArray)(bd2:Int):Tr×Hp:=(mkS [(0,(jS bb1)),(20,(jI (bb1.size:Int))),(21,(jI bd2))],[])
noncomputable def f50n2(bb1:ByteArray)(bd2:Int):Option f50n2O :=
 (at? bb1.data.toList bd2).bind fun x125 =>
 (f50n3 bb1 x125 bd2).bind fun o149=>match o149 with
 | .norm v151=>bif v151 then
   some .ret
  else
   some .norm
theorem f50n2_ok(bb1:ByteArray)(bd2:Int){o:f50n2O}(h:f50n2 bb1 bd2=some o):T Try.prog Try.f50.ntmps 0 (cL (Qk 2 (cL (cL (Qk 1 (cL (Qk 2 c50))))))) (f50n2S bb1 bd2) (·=f50n2E bb1 bd2 o):=by
 unfold f50n2 at h;refine T.block' (i:=1) (by kernel_rfl) ?_;obtain ⟨x125,h126,h⟩:=Qf h;refine rN Qh 2 [j3,([],[(2,.byte (Int.toNat bd2) x125)],[])] [] [] [] [0,4,20,21] (f50n3S bb1 x125 bd2) (ap (Qi h126).1 (ap (Qi h126).2 an)) ?_;obtain ⟨o149,h150,h⟩:=Qf h;cases o149 with
 | norm v151 =>
  refine T.oneN (by kernel_rfl) (f50n3_ok bb1 x125 bd2 h150) (st2:=(f50n3E bb1 x125 bd2 (.norm v151)).2) rfl ?_;rcases Qj h with ⟨h153,h⟩|⟨h153,h⟩
  ·obtain rfl:=Qg h;exact rE Qh [j3] [some true] [] [] [2] (.ret,(f50n2E bb1 bd2 .ret).2) (ap h153 an) rfl
  ·obtain rfl:=Qg h;exact rE Qh [] [some false] [] [] [0,20,21] (.norm,(f50n2E bb1 bd2 .norm).2) (ap h153 an) rfl
inductive f50n4O where
 | exit0
 | ret
def f50n4E(bb1:ByteArray):f50n4O→Ex×Tr×Hp
 | .exit0=>((.exit 0),mkS [],[])
 | .ret=>(.ret,mkS [(2,(jB false))],[])
def f50n4S(bb1:ByteArray)(v109:Int):Tr×Hp:=(mkS [(0,(jS bb1)),(20,(jI (bb1.size:Int))),(21,(jI v109))],[])
noncomputable def f50n4:Nat→ByteArray→Int→Option f50n4O
 | 0,_,_=>none
 | f+1,bb1,v109 =>
  bif decide (v109<(bb1.size:Int)) then
   (f50n2 bb1 v109).bind fun o154=>match o154 with
   | .norm=>(f50n4 f bb1 (wr64 (v109+1)))
   | .ret=>some .ret
  else
   some .exit0
theorem f50n4_ok:∀(f:Nat)(bb1:ByteArray)(v109:Int){o:f50n4O},f50n4 f bb1 v109=some o→TL Try.prog Try.f50.ntmps 0 f (cL (cL (Qk 1 (cL (Qk 2 c50))))) (f50n4S bb1 v109) (·=f50n4E bb1 o)
 | 0,_,_,o,h=>by rw [f50n4] at h; cases h
 | f+1,bb1,v109,o,h=>by
  rw [f50n4] at h;refine TL.body (K:=fun s=>∃v109:Int,s=(f50n4S bb1 v109)∧f50n4 f bb1 v109=some o) ?_ (by rintro _ ⟨v109,rfl,hk⟩; exact f50n4_ok f _ _ hk);rcases Qj h with ⟨h111,h⟩|⟨h111,h⟩
  ·refine rN Qh 2 [j3] [some true] [] [] [0,20,21] (f50n2S bb1 v109) (ap h111 an) ?_;obtain ⟨o154,h155,h⟩:=Qf h;cases o154 with
   | norm =>
    refine T.oneN (by kernel_rfl) (f50n2_ok bb1 v109 h155) (st2:=(f50n2E bb1 v109 .norm).2) rfl ?_;exact rE Qh [j3] [] [] [] [0,20,21] (.norm,(f50n4S bb1 (wr64 (v109+1)))) an (Qt.norm ⟨(wr64 (v109+1)),rfl,h⟩)
   | ret =>
    obtain rfl:=Qg h;exact T.oneX' (by kernel_rfl) (f50n2_ok bb1 v109 h155) (tds:=[]) (m:=[]) (keep:=[2]) (st2:=(f50n4E bb1 .ret).2) (by kernel_rfl) an rfl (Qt.out rfl rfl)
  ·obtain rfl:=Qg h;exact rK Qh 2 [j3] [some false] [] [] [] (.exit 0) ((f50n4E bb1 .exit0).2) (ap h111 an) (Qt.out rfl rfl)
inductive f50n1O where
 | norm
 | ret
def f50n1E(bb1:ByteArray):f50n1O→Ex×Tr×Hp
 | .norm=>(.norm,mkS [],[])
 | .ret=>(.ret,mkS [(2,(jB false))],[])
def f50n1S(bb1:ByteArray):Tr×Hp:=(mkS [(0,(jS bb1))],[])
noncomputable def f50n1(bb1:ByteArray):Option f50n1O :=
 (f50n4 FUEL bb1 0).bind fun o156=>match o156 with
 | .exit0=>some .norm
 | .ret=>some .ret
theorem f50n1_ok(bb1:ByteArray){o:f50n1O}(h:f50n1 bb1=some o):T Try.prog Try.f50.ntmps 0 (cL (Qk 2 c50)) (f50n1S bb1) (·=f50n1E bb1 o):=by
 unfold f50n1 at h;refine rN Qh 1 [j3] [] [] [] [0,20,21] (f50n4S bb1 0) an ?_;obtain ⟨o156,h157,h⟩:=Qf h;cases o156 with
 | exit0 =>
  obtain rfl:=Qg h;exact T.last' (T.bl (i:=0) (by kernel_rfl) (by kernel_rfl) (f50n4_ok FUEL bb1 0 h157)) (tds:=[]) (m:=[]) (keep:=[]) (st2:=(f50n1E bb1 .norm).2) (by kernel_rfl) an rfl
 | ret =>
  obtain rfl:=Qg h;exact T.last' (T.bl (i:=0) (by kernel_rfl) (by kernel_rfl) (f50n4_ok FUEL bb1 0 h157)) (tds:=[]) (m:=[]) (keep:=[2]) (st2:=(f50n1E bb1 .ret).2) (by kernel_rfl) an rfl
inductive f50n0O where
 | ret (v160:Bool)
def f50n0E(a1:ByteArray):f50n0O→Ex×Tr×Hp
 | .ret v160=>(.ret,mkS [(2,(jB v160))],[])
def f50n0S(a1:ByteArray):Tr×Hp:=(Qan [(jS a1)] 0 .leaf,[])
noncomputable def f50n0(a1:ByteArray):Option f50n0O :=
 bif decide ((a1.size:Int)<1) then
  some (.ret false)
 else
  bif decide (40<(a1.size:Int)) then
   some (.ret false)
  else
   (at? a1.data.toList 0).bind fun x11 =>
   (f67 (x11.toNat:Int)).bind fun x13 =>
   bif x13 then
    (f50n1 a1).bind fun o158=>match o158 with
    | .norm=>some (.ret true)
    | .ret=>some (.ret false)
   else
    some (.ret false)
theorem f50n0_ok(a1:ByteArray){o:f50n0O}(h:f50n0 a1=some o):T Try.prog Try.f50.ntmps 0 c50 (f50n0S a1) (·=f50n0E a1 o):=by
 unfold f50n0 at h;rcases Qj h with ⟨h9,h⟩|⟨h9,h⟩
 ·obtain rfl:=Qg h;exact rK Qh 2 [j3,(jT [4,5,6],[(7,.bool true)],[]),j3] [none] [] [] [2] .ret ((f50n0E a1 (.ret false)).2) (ap4 h9 an) rfl
 ·rcases Qj h with ⟨h10,h⟩|⟨h10,h⟩
  ·obtain rfl:=Qg h;exact rK Qh 2 [j3,(jF [4,5,6]++jT [9,10,11,12],[(7,.bool false),(13,.bool true)],[]),j3] [none] [] [] [2] .ret ((f50n0E a1 (.ret false)).2) (ap4 h9 (ap h10 (ap4 h10 an))) rfl
  ·obtain ⟨x11,h12,h⟩:=Qf h;obtain ⟨x13,h14,h⟩:=Qf h;rcases Qj h with ⟨h15,h⟩|⟨h15,h⟩
   ·refine rN Qh 2 [j3,(jF [4,5,6,9,10,11,12],[(7,.bool false),(10,.byte (Int.toNat 0) x11),jH 11 (jB x13),(13,.bool false)],[])] [some false] [] [] [0] (f50n1S a1) (ap4 h9 (ap2 h10 (ap (Qi h12).1 (ap (Qi h12).2 (ap3 h10 (ap (f67_ok (x11.toNat:Int) h14) (ap (Qal h15) an))))))) ?_;obtain ⟨o158,h159,h⟩:=Qf h;cases o158 with
    | norm =>
     refine T.oneN (by kernel_rfl) (f50n1_ok a1 h159) (st2:=(f50n1E a1 .norm).2) rfl ?_;obtain rfl:=Qg h;exact rE Qh [j3] [] [] [] [2] (.ret,(f50n0E a1 (.ret true)).2) an rfl
    | ret =>
     obtain rfl:=Qg h;exact T.oneX' (by kernel_rfl) (f50n1_ok a1 h159) (tds:=[]) (m:=[]) (keep:=[2]) (st2:=(f50n0E a1 (.ret false)).2) (by kernel_rfl) an rfl rfl
   ·obtain rfl:=Qg h;exact rK Qh 2 [j3,(jF [4,5,6,9,10,11,12],[(7,.bool false),(10,.byte (Int.toNat 0) x11),jH 11 (jB x13),(13,.bool false)],[]),j3] [some true] [] [] [2] .ret ((f50n0E a1 (.ret false)).2) (ap4 h9 (ap2 h10 (ap (Qi h12).1 (ap (Qi h12).2 (ap3 h10 (ap (f67_ok (x11.toNat:Int) h14) (ap (Qau h15) an))))))) rfl
noncomputable def f50(a1:ByteArray):Option Bool:=(f50n0 a1).bind fun o=>match o with
 | .ret v160=>some v160
theorem f50_ok(a1:ByteArray){r:Bool}(h:f50 a1=some r):Qp Try.prog false 50 [(jS a1)] [] (jB r) []:=by
 unfold f50 at h;obtain ⟨o,ho,h⟩:=Qf h;cases o with
 | ret v160 =>
  obtain rfl:=Qg h;exact Qp.plain Qh (f:=Try.f50) (c:=c50) (by kernel_rfl) (by kernel_rfl) (by kernel_rfl) (by kernel_rfl) ((f50n0_ok a1 ho).mono fun r e=>by subst e; exact ⟨.inl rfl,(jB v160),(jB v160),by kernel_rfl,by kernel_rfl,((Wk.refl _):Wk (jB v160) (jB v160))⟩)

noncomputable def c51:Code:=Try.f51.body.getD .skip
inductive f51n0O where
 | ret (v6:Bool)
def f51n0E(a1 a2 a3:Int):f51n0O→Ex×Tr×Hp
 | .ret v6=>(.ret,mkS [(6,(jB v6))],[])
def f51n0S(a1 a2 a3:Int):Tr×Hp:=(Qan [(jI a1),(jI a2),(jI a3)] 0 .leaf,[])
noncomputable def f51n0(a1 a2 a3:Int):Option f51n0O :=
 bif decide (a2≤a1) then
  some (.ret (decide (a1≤a3)))
 else
  some (.ret false)
theorem f51n0_ok(a1 a2 a3:Int){o:f51n0O}(h:f51n0 a1 a2 a3=some o):T Try.prog Try.f51.ntmps 0 c51 (f51n0S a1 a2 a3) (·=f51n0E a1 a2 a3 o):=by
 unfold f51n0 at h;rcases Qj h with ⟨h5,h⟩|⟨h5,h⟩
 ·obtain rfl:=Qg h;exact rE Qh [j3,(jT [4,5,6],[(7,.bool true)],[])] [] [] [] [6] (.ret,(f51n0E a1 a2 a3 (.ret (decide (a1≤a3)))).2) (ap4 h5 an) rfl
 ·obtain rfl:=Qg h;exact rE Qh [j3,(jF [4,5,6],[(7,.bool false)],[])] [] [] [] [6] (.ret,(f51n0E a1 a2 a3 (.ret false)).2) (ap4 h5 an) rfl
noncomputable def f51(a1 a2 a3:Int):Option Bool:=(f51n0 a1 a2 a3).bind fun o=>match o with
 | .ret v6=>some v6
theorem f51_ok(a1 a2 a3:Int){r:Bool}(h:f51 a1 a2 a3=some r):Qp Try.prog false 51 [(jI a1),(jI a2),(jI a3)] [] (jB r) []:=by
 unfold f51 at h;obtain ⟨o,ho,h⟩:=Qf h;cases o with
 | ret v6 =>
  obtain rfl:=Qg h;exact Qp.plain Qh (f:=Try.f51) (c:=c51) (by kernel_rfl) (by kernel_rfl) (by kernel_rfl) (by kernel_rfl) ((f51n0_ok a1 a2 a3 ho).mono fun r e=>by subst e; exact ⟨.inl rfl,(jB v6),(jB v6),by kernel_rfl,by kernel_rfl,((Wk.refl _):Wk (jB v6) (jB v6))⟩)

noncomputable def c79:Code:=Try.f79.body.getD .skip
inductive f79n0O where
 | ret
def f79n0E(a1:ByteArray):f79n0O→Ex×Tr×Hp
 | .ret=>(.ret,mkS [(2,(.pl (.bool (!(seq a1 a1)))))],[])
def f79n0S(a1:ByteArray):Tr×Hp:=(Qan [(jS a1)] 0 .leaf,[])
noncomputable def f79n0(a1:ByteArray):Option f79n0O :=
 some .ret
theorem f79n0_ok(a1:ByteArray){o:f79n0O}(h:f79n0 a1=some o):T Try.prog Try.f79.ntmps 0 c79 (f79n0S a1) (·=f79n0E a1 o):=by
 unfold f79n0 at h;obtain rfl:=Qg h;exact rE Qh [j3,j3] [] [] [] [2] (.ret,(f79n0E a1 .ret).2) an rfl
noncomputable def f79(a1:ByteArray):Option Bool:=(f79n0 a1).bind fun o=>match o with
 | .ret=>some (!(seq a1 a1))
theorem f79_ok(a1:ByteArray){r:Bool}(h:f79 a1=some r):Qp Try.prog false 79 [(jS a1)] [] (jB r) []:=by
 unfold f79 at h;obtain ⟨o,ho,h⟩:=Qf h;cases o with
 | ret =>
  obtain rfl:=Qg h;exact Qp.plain Qh (f:=Try.f79) (c:=c79) (by kernel_rfl) (by kernel_rfl) (by kernel_rfl) (by kernel_rfl) ((f79n0_ok a1 ho).mono fun r e=>by subst e; exact ⟨.inl rfl,(.pl (.bool (!(seq a1 a1)))),(.pl (.bool (!(seq a1 a1)))),by kernel_rfl,by kernel_rfl,((Wk.refl _):Wk (.pl (.bool (!(seq a1 a1)))) (.pl (.bool (!(seq a1 a1)))))⟩)

noncomputable def c63:Code:=Try.f63.body.getD .skip
inductive f63n0O where
 | ret (v21:Int)
def f63n0E(a1 a2:ByteArray):f63n0O→Ex×Tr×Hp
 | .ret v21=>(.ret,mkS [(4,(jI v21))],[])
def f63n0S(a1 a2:ByteArray):Tr×Hp:=(Qan [(jS a1),(jS a2)] 0 .leaf,[])
noncomputable def f63n0(a1 a2:ByteArray):Option f63n0O :=
 (f79 a1).bind fun x5 =>
 (f79 a2).bind fun x9 =>
 bif x5 then
  bif x9 then
   some (.ret 0)
  else
   some (.ret (-1))
 else
  bif x9 then
   some (.ret 1)
  else
   bif (slt a1 a2) then
    some (.ret (-1))
   else
    bif (slt a1 a2||seq a1 a2) then
     some (.ret 0)
    else
     some (.ret 1)
theorem f63n0_ok(a1 a2:ByteArray){o:f63n0O}(h:f63n0 a1 a2=some o):T Try.prog Try.f63.ntmps 0 c63 (f63n0S a1 a2) (·=f63n0E a1 a2 o):=by
 unfold f63n0 at h;obtain ⟨x5,h6,h⟩:=Qf h;obtain ⟨x9,h10,h⟩:=Qf h;rcases Qj h with ⟨h13,h⟩|⟨h13,h⟩
 ·rcases Qj h with ⟨h14,h⟩|⟨h14,h⟩
  ·obtain rfl:=Qg h;exact rK Qh 4 [j3,([],[jH 1 (jB x5)],[]),([],[jH 1 (jB x9)],[]),j3,j3,j3] [some true,some true] [] [] [4] .ret ((f63n0E a1 a2 (.ret 0)).2) (ap (f79_ok a1 h6) (ap (f79_ok a2 h10) (ap h13 (ap h14 an)))) rfl
  ·obtain rfl:=Qg h;exact rK Qh 4 [j3,([],[jH 1 (jB x5)],[]),([],[jH 1 (jB x9)],[]),j3,j3,j3] [some true,some false] [] [] [4] .ret ((f63n0E a1 a2 (.ret (-1))).2) (ap (f79_ok a1 h6) (ap (f79_ok a2 h10) (ap h13 (ap h14 an)))) rfl
 ·rcases Qj h with ⟨h16,h⟩|⟨h16,h⟩
  ·obtain rfl:=Qg h;exact rK Qh 5 [j3,([],[jH 1 (jB x5)],[]),([],[jH 1 (jB x9)],[]),j3,j3,j3] [some false,some true] [] [] [4] .ret ((f63n0E a1 a2 (.ret 1)).2) (ap (f79_ok a1 h6) (ap (f79_ok a2 h10) (ap h13 (ap h16 an)))) rfl
  ·rcases Qj h with ⟨h18,h⟩|⟨h18,h⟩
   ·obtain rfl:=Qg h;exact rK Qh 6 [j3,([],[jH 1 (jB x5)],[]),([],[jH 1 (jB x9)],[]),j3,j3,j3,j3] [some false,some false,some true] [] [] [4] .ret ((f63n0E a1 a2 (.ret (-1))).2) (ap (f79_ok a1 h6) (ap (f79_ok a2 h10) (ap h13 (ap h16 (ap h18 an))))) rfl
   ·rcases Qj h with ⟨h20,h⟩|⟨h20,h⟩
    ·obtain rfl:=Qg h;exact rE Qh [j3,([],[jH 1 (jB x5)],[]),([],[jH 1 (jB x9)],[]),j3,j3,j3,j3,j3] [some false,some false,some false,some false] [] [] [4] (.ret,(f63n0E a1 a2 (.ret 0)).2) (ap (f79_ok a1 h6) (ap (f79_ok a2 h10) (ap h13 (ap h16 (ap h18 (ap (Qal h20) an)))))) rfl
    ·obtain rfl:=Qg h;exact rK Qh 7 [j3,([],[jH 1 (jB x5)],[]),([],[jH 1 (jB x9)],[]),j3,j3,j3,j3,j3] [some false,some false,some false,some true] [] [] [4] .ret ((f63n0E a1 a2 (.ret 1)).2) (ap (f79_ok a1 h6) (ap (f79_ok a2 h10) (ap h13 (ap h16 (ap h18 (ap (Qau h20) an)))))) rfl
noncomputable def f63(a1 a2:ByteArray):Option Int:=(f63n0 a1 a2).bind fun o=>match o with
 | .ret v21=>some v21
theorem f63_ok(a1 a2:ByteArray){r:Int}(h:f63 a1 a2=some r):Qp Try.prog false 63 [(jS a1),(jS a2)] [] (jI r) []:=by
 unfold f63 at h;obtain ⟨o,ho,h⟩:=Qf h;cases o with
 | ret v21 =>
  obtain rfl:=Qg h;exact Qp.plain Qh (f:=Try.f63) (c:=c63) (by kernel_rfl) (by kernel_rfl) (by kernel_rfl) (by kernel_rfl) ((f63n0_ok a1 a2 ho).mono fun r e=>by subst e; exact ⟨.inl rfl,(jI v21),(jI v21),by kernel_rfl,by kernel_rfl,((Wk.refl _):Wk (jI v21) (jI v21))⟩)

noncomputable def c62:Code:=Try.f62.body.getD .skip
inductive f62n0O where
 | ret (v7:Int)
def f62n0E(a1:Qb)(a2:ByteArray):f62n0O→Ex×Tr×Hp
 | .ret v7=>(.ret,mkS [(4,(jI v7))],[])
def f62n0S(a1:Qb)(a2:ByteArray):Tr×Hp:=(Qan [(jA Qb.cells a1),(jS a2)] 0 .leaf,[])
noncomputable def f62n0(a1:Qb)(a2:ByteArray):Option f62n0O :=
 (f63 a1.Name a2).bind fun x5 =>
 some (.ret x5)
theorem f62n0_ok(a1:Qb)(a2:ByteArray){o:f62n0O}(h:f62n0 a1 a2=some o):T Try.prog Try.f62.ntmps 0 c62 (f62n0S a1 a2) (·=f62n0E a1 a2 o):=by
 unfold f62n0 at h;obtain ⟨x5,h6,h⟩:=Qf h;obtain rfl:=Qg h;exact rE Qh [j3,([],[jH 3 (jI x5)],[])] [] [] [] [4] (.ret,(f62n0E a1 a2 (.ret x5)).2) (ap (f63_ok a1.Name a2 h6) an) rfl
noncomputable def f62(a1:Qb)(a2:ByteArray):Option Int:=(f62n0 a1 a2).bind fun o=>match o with
 | .ret v7=>some v7
theorem f62_ok(a1:Qb)(a2:ByteArray){r:Int}(h:f62 a1 a2=some r):Qp Try.prog false 62 [(jA Qb.cells a1),(jS a2)] [] (jI r) []:=by
 unfold f62 at h;obtain ⟨o,ho,h⟩:=Qf h;cases o with
 | ret v7 =>
  obtain rfl:=Qg h;exact Qp.plain Qh (f:=Try.f62) (c:=c62) (by kernel_rfl) (by kernel_rfl) (by kernel_rfl) (by kernel_rfl) ((f62n0_ok a1 a2 ho).mono fun r e=>by subst e; exact ⟨.inl rfl,(jI v7),(jI v7),by kernel_rfl,by kernel_rfl,((Wk.refl _):Wk (jI v7) (jI v7))⟩)

noncomputable def c61:Code:=Try.f61.body.getD .skip
inductive f61_62n1O where
 | exit0 (v43:Int)
def f61_62n1E(a1:List Qb)(a2:ByteArray):f61_62n1O→Ex×Tr×Hp
 | .exit0 v43=>((.exit 0),mkS [(0,(jL 3 Qb.cells a1)),(1,(jS a2)),(2,(.pl (.fn 62))),(8,(jI (a1.length:Int))),(9,(jI v43))],[])
def f61_62n1S(a1:List Qb)(a2:ByteArray)(v29 v30:Int):Tr×Hp:=(mkS [(0,(jL 3 Qb.cells a1)),(1,(jS a2)),(2,(.pl (.fn 62))),(8,(jI (a1.length:Int))),(9,(jI v29)),(10,(jI v30))],[])
noncomputable def f61_62n1:Nat→List Qb→ByteArray→Int→Int→Option f61_62n1O
 | 0,_,_,_,_=>none
 | f+1,a1,a2,v29,v30 =>
  bif decide (v29<v30) then
   (at? a1 (wr64 (shrK .u64 (Qs (wr64 (v29+v30))) 1))).bind fun x38 =>
   (f62 x38 a2).bind fun x40 =>
   bif decide (x40<0) then
    (f61_62n1 f a1 a2 (wr64 ((wr64 (shrK .u64 (Qs (wr64 (v29+v30))) 1))+1)) v30)
   else
    (f61_62n1 f a1 a2 v29 (wr64 (shrK .u64 (Qs (wr64 (v29+v30))) 1)))
  else
   some (.exit0 v29)
theorem f61_62n1_ok:∀(f:Nat)(a1:List Qb)(a2:ByteArray)(v29 v30:Int){o:f61_62n1O},f61_62n1 f a1 a2 v29 v30=some o→TL Try.prog Try.f61.ntmps 0 f (cL (cL (cL (Qk 3 c61)))) (f61_62n1S a1 a2 v29 v30) (·=f61_62n1E a1 a2 o)
 | 0,_,_,_,_,o,h=>by rw [f61_62n1] at h; cases h
 | f+1,a1,a2,v29,v30,o,h=>by
  rw [f61_62n1] at h;refine TL.body (K:=fun s=>∃v29:Int,∃v30:Int,s=(f61_62n1S a1 a2 v29 v30)∧f61_62n1 f a1 a2 v29 v30=some o) ?_ (by rintro _ ⟨v29,v30,rfl,hk⟩; exact f61_62n1_ok f _ _ _ _ hk);rcases Qj h with ⟨h32,h⟩|⟨h32,h⟩
  ·obtain ⟨x38,h39,h⟩:=Qf h;obtain ⟨x40,h41,h⟩:=Qf h;rcases Qj h with ⟨h42,h⟩|⟨h42,h⟩
   ·exact rE Qh [j3,j3,([],[(3,.idx (Int.toNat (wr64 (shrK .u64 (Qs (wr64 (v29+v30))) 1))) (Qb.cells x38)),jH 6 (jI x40)],[]),j3] [some true,some true] [] [] [0,1,2,8,9,10] (.norm,(f61_62n1S a1 a2 (wr64 ((wr64 (shrK .u64 (Qs (wr64 (v29+v30))) 1))+1)) v30)) (ap h32 (ap (Qi h39).1 (ap (Qn Qb.cells (Qi h39).2) (ap (f62_ok x38 a2 h41) (ap h42 an))))) (Qt.norm ⟨(wr64 ((wr64 (shrK .u64 (Qs (wr64 (v29+v30))) 1))+1)),v30,rfl,h⟩)
   ·exact rE Qh [j3,j3,([],[(3,.idx (Int.toNat (wr64 (shrK .u64 (Qs (wr64 (v29+v30))) 1))) (Qb.cells x38)),jH 6 (jI x40)],[]),j3] [some true,some false] [] [] [0,1,2,8,9,10] (.norm,(f61_62n1S a1 a2 v29 (wr64 (shrK .u64 (Qs (wr64 (v29+v30))) 1)))) (ap h32 (ap (Qi h39).1 (ap (Qn Qb.cells (Qi h39).2) (ap (f62_ok x38 a2 h41) (ap h42 an))))) (Qt.norm ⟨v29,(wr64 (shrK .u64 (Qs (wr64 (v29+v30))) 1)),rfl,h⟩)
  ·obtain rfl:=Qg h;exact rK Qh 1 [j3] [some false] [] [] [0,1,2,8,9] (.exit 0) ((f61_62n1E a1 a2 (.exit0 v29)).2) (ap h32 an) (Qt.out rfl rfl)
inductive f61_62n0O where
 | ret (v57:Int) (v58:Bool)
def f61_62n0E(a1:List Qb)(a2:ByteArray):f61_62n0O→Ex×Tr×Hp
 | .ret v57 v58=>(.ret,mkS [(6,(jI v57)),(7,(jB v58))],[])
def f61_62n0S(a1:List Qb)(a2:ByteArray):Tr×Hp:=(Qan [(jL 3 Qb.cells a1),(jS a2),(.pl (.fn 62))] 0 .leaf,[])
noncomputable def f61_62n0(a1:List Qb)(a2:ByteArray):Option f61_62n0O :=
 (f61_62n1 FUEL a1 a2 0 (a1.length:Int)).bind fun o44=>match o44 with
 | .exit0 v46=>bif decide (v46<(a1.length:Int)) then
   (at? a1 v46).bind fun x53 =>
   (f62 x53 a2).bind fun x55 =>
   some (.ret v46 (decide (x55=0)))
  else
   some (.ret v46 false)
theorem f61_62n0_ok(a1:List Qb)(a2:ByteArray){o:f61_62n0O}(h:f61_62n0 a1 a2=some o):T Try.prog Try.f61.ntmps 0 c61 (f61_62n0S a1 a2) (·=f61_62n0E a1 a2 o):=by
 unfold f61_62n0 at h;refine rN Qh 3 [j3,([],[],[(1,.val (jI (a1.length:Int)))]),j3] [] [] [] [0,1,2,8,9,10] (f61_62n1S a1 a2 0 (a1.length:Int)) (ap (Qac (xs:=a1) (c:=Qb.cells)) an) ?_;obtain ⟨o44,h45,h⟩:=Qf h;cases o44 with
 | exit0 v46 =>
  refine T.oneN (by kernel_rfl) (T.bl (i:=0) (by kernel_rfl) (by kernel_rfl) (f61_62n1_ok FUEL a1 a2 0 (a1.length:Int) h45)) (st2:=(f61_62n1E a1 a2 (.exit0 v46)).2) rfl ?_;rcases Qj h with ⟨h52,h⟩|⟨h52,h⟩
  ·obtain ⟨x53,h54,h⟩:=Qf h;obtain ⟨x55,h56,h⟩:=Qf h;obtain rfl:=Qg h;exact rE Qh [(jT [5,6,7,8,9,10,11,12],[(8,.idx (Int.toNat v46) (Qb.cells x53)),jH 11 (jI x55),(13,.bool true)],[])] [] [] [] [6,7] (.ret,(f61_62n0E a1 a2 (.ret v46 (decide (x55=0)))).2) (ap4 h52 (ap (Qi h54).1 (ap (Qn Qb.cells (Qi h54).2) (ap h52 (ap4 h52 (ap (f62_ok x53 a2 h56) an)))))) rfl
  ·obtain rfl:=Qg h;exact rE Qh [(jF [5,6,7,8,9,10,11,12],[(13,.bool false)],[])] [] [] [] [6,7] (.ret,(f61_62n0E a1 a2 (.ret v46 false)).2) (ap h52 (ap4 h52 (ap4 h52 an))) rfl
noncomputable def f61_62(a1:List Qb)(a2:ByteArray):Option (Int×Bool):=(f61_62n0 a1 a2).bind fun o=>match o with
 | .ret v57 v58=>some (v57,v58)
theorem f61_62_ok(a1:List Qb)(a2:ByteArray){r:Int×Bool}(h:f61_62 a1 a2=some r):Qp Try.prog false 61 [(jL 3 Qb.cells a1),(jS a2),(.pl (.fn 62))] [] (.tup [(jI r.1),(jB r.2)]) []:=by
 unfold f61_62 at h;obtain ⟨o,ho,h⟩:=Qf h;cases o with
 | ret v57 v58 =>
  obtain rfl:=Qg h;exact Qp.plain Qh (f:=Try.f61) (c:=c61) (by kernel_rfl) (by kernel_rfl) (by kernel_rfl) (by kernel_rfl) ((f61_62n0_ok a1 a2 ho).mono fun r e=>by subst e; exact ⟨.inl rfl,(.tup [(jI v57),(jB v58)]),(.tup [(jI v57),(jB v58)]),by kernel_rfl,by kernel_rfl,((Wk.refl _):Wk (.tup [(jI v57),(jB v58)]) (.tup [(jI v57),(jB v58)]))⟩)

noncomputable def c44:Code:=Try.f44.body.getD .skip
inductive f44n0O where
 | ret (v7:Int) (v8:Bool)
def f44n0E(a1:List Qb)(a2:ByteArray):f44n0O→Ex×Tr×Hp
 | .ret v7 v8=>(.ret,mkS [(4,(jI v7)),(5,(jB v8))],[])
def f44n0S(a1:List Qb)(a2:ByteArray):Tr×Hp:=(Qan [(jL 3 Qb.cells a1),(jS a2)] 0 .leaf,[])
noncomputable def f44n0(a1:List Qb)(a2:ByteArray):Option f44n0O :=
 (f61_62 a1 a2).bind fun x5 =>
 some (.ret x5.1 x5.2)
theorem f44n0_ok(a1:List Qb)(a2:ByteArray){o:f44n0O}(h:f44n0 a1 a2=some o):T Try.prog Try.f44.ntmps 0 c44 (f44n0S a1 a2) (·=f44n0E a1 a2 o):=by
 unfold f44n0 at h;obtain ⟨x5,h6,h⟩:=Qf h;obtain rfl:=Qg h;exact rE Qh [j3,([],[jH 2 (.tup [(jI x5.1),(jB x5.2)])],[])] [] [] [] [4,5] (.ret,(f44n0E a1 a2 (.ret x5.1 x5.2)).2) (ap (f61_62_ok a1 a2 h6) an) rfl
noncomputable def f44(a1:List Qb)(a2:ByteArray):Option (Int×Bool):=(f44n0 a1 a2).bind fun o=>match o with
 | .ret v7 v8=>some (v7,v8)
theorem f44_ok(a1:List Qb)(a2:ByteArray){r:Int×Bool}(h:f44 a1 a2=some r):Qp Try.prog false 44 [(jL 3 Qb.cells a1),(jS a2)] [] (.tup [(jI r.1),(jB r.2)]) []:=by
 unfold f44 at h;obtain ⟨o,ho,h⟩:=Qf h;cases o with
 | ret v7 v8 =>
  obtain rfl:=Qg h;exact Qp.plain Qh (f:=Try.f44) (c:=c44) (by kernel_rfl) (by kernel_rfl) (by kernel_rfl) (by kernel_rfl) ((f44n0_ok a1 a2 ho).mono fun r e=>by subst e; exact ⟨.inl rfl,(.tup [(jI v7),(jB v8)]),(.tup [(jI v7),(jB v8)]),by kernel_rfl,by kernel_rfl,((Wk.refl _):Wk (.tup [(jI v7),(jB v8)]) (.tup [(jI v7),(jB v8)]))⟩)

noncomputable def c45:Code:=Try.f45.body.getD .skip
inductive f45n0O where
 | ret (v20:Bool)
def f45n0E(a1:Qc):f45n0O→Ex×Tr×Hp
 | .ret v20=>(.ret,mkS [(2,(jB v20))],[])
def f45n0S(a1:Qc):Tr×Hp:=(Qan [(jA Qc.cells a1)] 0 .leaf,[])
noncomputable def f45n0(a1:Qc):Option f45n0O :=
 (f50 a1.Member).bind fun x11 =>
 bif x11 then
  bif (seq a1.Member str_house) then
   some (.ret false)
  else
   (f51 a1.Units 1 1048576).bind fun x15 =>
   bif x15 then
    (f51 a1.Price 0 33554432).bind fun x18 =>
    some (.ret x18)
   else
    some (.ret false)
 else
  some (.ret false)
theorem f45n0_ok(a1:Qc){o:f45n0O}(h:f45n0 a1=some o):T Try.prog Try.f45.ntmps 0 c45 (f45n0S a1) (·=f45n0E a1 o):=by
 unfold f45n0 at h;obtain ⟨x11,h12,h⟩:=Qf h;rcases Qj h with ⟨h13,h⟩|⟨h13,h⟩
 ·rcases Qj h with ⟨h14,h⟩|⟨h14,h⟩
  ·obtain rfl:=Qg h;exact rE Qh [j3,(jF [9,10,11]++jT [4,5,6],[jH 2 (jB x11),(7,.bool true),(12,.bool false)],[])] [] [] [] [2] (.ret,(f45n0E a1 (.ret false)).2) (ap4 h13 (ap4 (Qal h14) (ap (f50_ok a1.Member h12) an))) rfl
  ·obtain ⟨x15,h16,h⟩:=Qf h;rcases Qj h with ⟨h17,h⟩|⟨h17,h⟩
   ·obtain ⟨x18,h19,h⟩:=Qf h;obtain rfl:=Qg h;exact rE Qh [j3,(jT [4,5,6,9,10,11,14,15,16],[jH 2 (jB x11),(7,.bool true),jH 11 (jB x15),(12,.bool true),jH 16 (jB x18),(17,.bool true)],[])] [] [] [] [2] (.ret,(f45n0E a1 (.ret x18)).2) (ap4 h13 (ap4 (Qau h14) (ap4 h17 (ap (f50_ok a1.Member h12) (ap (f51_ok a1.Units 1 1048576 h16) (ap (f51_ok a1.Price 0 33554432 h19) an)))))) rfl
   ·obtain rfl:=Qg h;exact rE Qh [j3,(jF [14,15,16]++jT [4,5,6,9,10,11],[jH 2 (jB x11),(7,.bool true),jH 11 (jB x15),(12,.bool true),(17,.bool false)],[])] [] [] [] [2] (.ret,(f45n0E a1 (.ret false)).2) (ap4 h13 (ap4 (Qau h14) (ap4 h17 (ap (f50_ok a1.Member h12) (ap (f51_ok a1.Units 1 1048576 h16) an))))) rfl
 ·obtain rfl:=Qg h;exact rE Qh [j3,(jF [4,5,6],[jH 2 (jB x11),(7,.bool false)],[])] [] [] [] [2] (.ret,(f45n0E a1 (.ret false)).2) (ap4 h13 (ap (f50_ok a1.Member h12) an)) rfl
noncomputable def f45(a1:Qc):Option Bool:=(f45n0 a1).bind fun o=>match o with
 | .ret v20=>some v20
theorem f45_ok(a1:Qc){r:Bool}(h:f45 a1=some r):Qp Try.prog false 45 [(jA Qc.cells a1)] [] (jB r) []:=by
 unfold f45 at h;obtain ⟨o,ho,h⟩:=Qf h;cases o with
 | ret v20 =>
  obtain rfl:=Qg h;exact Qp.plain Qh (f:=Try.f45) (c:=c45) (by kernel_rfl) (by kernel_rfl) (by kernel_rfl) (by kernel_rfl) ((f45n0_ok a1 ho).mono fun r e=>by subst e; exact ⟨.inl rfl,(jB v20),(jB v20),by kernel_rfl,by kernel_rfl,((Wk.refl _):Wk (jB v20) (jB v20))⟩)

noncomputable def c31:Code:=Try.f31.body.getD .skip
inductive f31n3O where
 | norm (v198:Bool)
def f31n3E(bd1:Int)(ba2:Qe)(be3:Qb):f31n3O→Ex×Tr×Hp
 | .norm v198=>(.norm,mkS [(1,(.bp 0 0)),(25,(jL 3 Qb.cells ba2.Lots)),(26,(jI (ba2.Lots.length:Int))),(27,(jI bd1)),(63,(jB v198))],[some (.box ((Qe.cells ba2).map .pl))])
def f31n3S(bd1:Int)(ba2:Qe)(be3:Qb):Tr×Hp:=(mkS [(1,(.bp 0 0)),(3,(jI bd1)),(4,(.bp 1 0)),(25,(jL 3 Qb.cells ba2.Lots)),(26,(jI (ba2.Lots.length:Int))),(27,(jI bd1))],[some (.box ((Qe.cells ba2).map .pl)),some (.box ((Qb.cells be3).map .pl))])
noncomputable def f31n3(bd1:Int)(ba2:Qe)(be3:Qb):Option f31n3O :=
 (f50 be3.Name).bind fun x181 =>
 bif x181 then
  bif decide (0<bd1) then
   (at? ba2.Lots (wr64 (bd1-1))).bind fun x185 =>
   bif (slt x185.Name be3.Name) then
    (f51 be3.Units 1 1048576).bind fun x188 =>
    bif x188 then
     (f51 be3.Reserve 0 33554432).bind fun x191 =>
     some (.norm (!x191))
    else
     some (.norm true)
   else
    some (.norm true)
  else
   (f51 be3.Units 1 1048576).bind fun x193 =>
   bif x193 then
    (f51 be3.Reserve 0 33554432).bind fun x196 =>
    some (.norm (!x196))
   else
    some (.norm true)
 else
  some (.norm true)
theorem f31n3_ok(bd1:Int)(ba2:Qe)(be3:Qb){o:f31n3O}(h:f31n3 bd1 ba2 be3=some o):T Try.prog Try.f31.ntmps 0 (cL (Qk 1 (cL (cL (Qk 2 (cL (cL (Qk 1 (cL (Qk 2 c31)))))))))) (f31n3S bd1 ba2 be3) (·=f31n3E bd1 ba2 be3 o):=by
 unfold f31n3 at h;obtain ⟨x181,h182,h⟩:=Qf h;rcases Qj h with ⟨h183,h⟩|⟨h183,h⟩
 ·rcases Qj h with ⟨h184,h⟩|⟨h184,h⟩
  ·obtain ⟨x185,h186,h⟩:=Qf h;rcases Qj h with ⟨h187,h⟩|⟨h187,h⟩
   ·obtain ⟨x188,h189,h⟩:=Qf h;rcases Qj h with ⟨h190,h⟩|⟨h190,h⟩
    ·obtain ⟨x191,h192,h⟩:=Qf h;obtain rfl:=Qg h
     exact rE Qh [(jF [5,6,7,18,21,22,23,24,27,28,29,30]++jT [8,9,10,11,12,13,14,15,16,17],[jH 2 (jB x181),(12,.idx (Int.toNat (wr64 (bd1-1))) (Qb.cells x185)),(18,.bool true),(19,.bool false),jH 23 (jB x188),(25,.bool false),jH 29 (jB x191),(31,.bool false)],[])] [] [] [0] [1,25,26,27,63] (.norm,(f31n3E bd1 ba2 be3 (.norm (!x191))).2) (ap3 (Qal h183) (ap h184 (ap4 h184 (ap (Qi h186).1 (ap (Qn Qb.cells (Qi h186).2) (ap h184 (ap4 h184 (ap (Qal h183) (ap h184 (ap (Qal h183) (ap (Qal h187) (ap4 (Qal h187) (ap (Qal h190) (ap4 (Qal h190) (ap (same_val (e:=⟨false,51,[(jI be3.Units),(jI 1),(jI 1048576)],[],(jB x188),[]⟩) (f:=⟨false,51,[(jI be3.Reserve),(jI 0),(jI 33554432)],[],(jB x191),[]⟩) (fun k=>by simp only [jL,jS,jI,jB,jA,Qb.cells_eq,Qb.map_eq,Qc.cells_eq,Qc.map_eq,Qe.cells_eq,Qe.map_eq,Qa.cells_eq,Qa.map_eq,List.cons.injEq,AV.pl.injEq,PV.str.injEq,PV.int.injEq,PV.bool.injEq,PV.agg.injEq,PV.sl.injEq,and_true,true_and] at k; have e0:x188=x191:=Option.some.inj (by rw [←h189,←h192]; simp only [k]); exact ⟨by rw [e0],rfl⟩)) (ap (f50_ok be3.Name h182) (ap (f51_ok be3.Units 1 1048576 h189) (ap (f51_ok be3.Reserve 0 33554432 h192) an)))))))))))))))))) rfl
    ·obtain rfl:=Qg h;exact rE Qh [(jF [5,6,7,18,21,22,23,24]++jT [8,9,10,11,12,13,14,15,16,17,27,28,29,30],[jH 2 (jB x181),(12,.idx (Int.toNat (wr64 (bd1-1))) (Qb.cells x185)),(18,.bool true),(19,.bool false),jH 23 (jB x188),(25,.bool false),(31,.bool true)],[])] [] [] [0] [1,25,26,27,63] (.norm,(f31n3E bd1 ba2 be3 (.norm true)).2) (ap3 (Qal h183) (ap h184 (ap4 h184 (ap (Qi h186).1 (ap (Qn Qb.cells (Qi h186).2) (ap h184 (ap4 h184 (ap (Qal h183) (ap h184 (ap (Qal h183) (ap (Qal h187) (ap4 (Qal h187) (ap (Qau h190) (ap4 (Qau h190) (ap (f50_ok be3.Name h182) (ap (f51_ok be3.Units 1 1048576 h189) an)))))))))))))))) rfl
   ·obtain rfl:=Qg h;exact rE Qh [(jF [5,6,7,18]++jT [8,9,10,11,12,13,14,15,16,17,21,22,23,24],[jH 2 (jB x181),(12,.idx (Int.toNat (wr64 (bd1-1))) (Qb.cells x185)),(18,.bool true),(19,.bool false),(25,.bool true)],[])] [] [] [0] [1,25,26,27,63] (.norm,(f31n3E bd1 ba2 be3 (.norm true)).2) (ap3 (Qal h183) (ap h184 (ap4 h184 (ap (Qi h186).1 (ap (Qn Qb.cells (Qi h186).2) (ap h184 (ap4 h184 (ap (Qal h183) (ap h184 (ap (Qal h183) (ap (Qau h187) (ap4 (Qau h187) (ap (f50_ok be3.Name h182) an))))))))))))) rfl
  ·obtain ⟨x193,h194,h⟩:=Qf h;rcases Qj h with ⟨h195,h⟩|⟨h195,h⟩
   ·obtain ⟨x196,h197,h⟩:=Qf h;obtain rfl:=Qg h
    exact rE Qh [(jF [5,6,7,8,9,10,11,12,13,14,15,16,17,18,27,28,29,30],[jH 2 (jB x181),(18,.bool false),(19,.bool false),jH 23 (jB x193),jH 29 (jB x196),(31,.bool false)],[])] [] [] [0] [1,25,26,27,63] (.norm,(f31n3E bd1 ba2 be3 (.norm (!x196))).2) (ap3 (Qal h183) (ap2 h184 (ap4 h184 (ap4 h184 (ap (Qal h183) (ap h184 (ap (Qal h183) (ap (Qal h195) (ap4 (Qal h195) (ap (same_val (e:=⟨false,51,[(jI be3.Units),(jI 1),(jI 1048576)],[],(jB x193),[]⟩) (f:=⟨false,51,[(jI be3.Reserve),(jI 0),(jI 33554432)],[],(jB x196),[]⟩) (fun k=>by simp only [jL,jS,jI,jB,jA,Qb.cells_eq,Qb.map_eq,Qc.cells_eq,Qc.map_eq,Qe.cells_eq,Qe.map_eq,Qa.cells_eq,Qa.map_eq,List.cons.injEq,AV.pl.injEq,PV.str.injEq,PV.int.injEq,PV.bool.injEq,PV.agg.injEq,PV.sl.injEq,and_true,true_and] at k; have e0:x193=x196:=Option.some.inj (by rw [←h194,←h197]; simp only [k]); exact ⟨by rw [e0],rfl⟩)) (ap (f50_ok be3.Name h182) (ap (f51_ok be3.Units 1 1048576 h194) (ap (f51_ok be3.Reserve 0 33554432 h197) an))))))))))))) rfl
   ·obtain rfl:=Qg h;exact rE Qh [(jF [5,6,7,8,9,10,11,12,13,14,15,16,17,18]++jT [27,28,29,30],[jH 2 (jB x181),(18,.bool false),(19,.bool false),jH 23 (jB x193),(31,.bool true)],[])] [] [] [0] [1,25,26,27,63] (.norm,(f31n3E bd1 ba2 be3 (.norm true)).2) (ap3 (Qal h183) (ap2 h184 (ap4 h184 (ap4 h184 (ap (Qal h183) (ap h184 (ap (Qal h183) (ap (Qau h195) (ap4 (Qau h195) (ap (f50_ok be3.Name h182) (ap (f51_ok be3.Units 1 1048576 h194) an))))))))))) rfl
 ·obtain rfl:=Qg h;exact rE Qh [(jT [5,6,7,18],[jH 2 (jB x181),(19,.bool true)],[])] [] [] [0] [1,25,26,27,63] (.norm,(f31n3E bd1 ba2 be3 (.norm true)).2) (ap (Qau h183) (ap4 (Qau h183) (ap (f50_ok be3.Name h182) an))) rfl
inductive f31n2O where
 | norm
 | ret
def f31n2E(ba1:Qe)(bd2:Int):f31n2O→Ex×Tr×Hp
 | .norm=>(.norm,mkS [(1,(.bp 0 0)),(25,(jL 3 Qb.cells ba1.Lots)),(26,(jI (ba1.Lots.length:Int))),(27,(jI bd2))],[some (.box ((Qe.cells ba1).map .pl))])
 | .ret=>(.ret,mkS [(2,(jI 8))],[])
def f31n2S(ba1:Qe)(bd2:Int):Tr×Hp:=(mkS [(1,(.bp 0 0)),(25,(jL 3 Qb.cells ba1.Lots)),(26,(jI (ba1.Lots.length:Int))),(27,(jI bd2))],[some (.box ((Qe.cells ba1).map .pl))])
noncomputable def f31n2(ba1:Qe)(bd2:Int):Option f31n2O :=
 (at? ba1.Lots bd2).bind fun x145 =>
 (f31n3 bd2 ba1 x145).bind fun o199=>match o199 with
 | .norm v201=>bif v201 then
   some .ret
  else
   some .norm
theorem f31n2_ok(ba1:Qe)(bd2:Int){o:f31n2O}(h:f31n2 ba1 bd2=some o):T Try.prog Try.f31.ntmps 0 (cL (Qk 2 (cL (cL (Qk 1 (cL (Qk 2 c31))))))) (f31n2S ba1 bd2) (·=f31n2E ba1 bd2 o):=by
 unfold f31n2 at h;refine T.block' (i:=1) (by kernel_rfl) ?_;obtain ⟨x145,h146,h⟩:=Qf h;refine rN Qh 1 [([],[(1,.idx (Int.toNat bd2) (Qb.cells x145))],[])] [] [] [0,1] [1,3,4,25,26,27] (f31n3S bd2 ba1 x145) (ap (Qi h146).1 (ap (Qn Qb.cells (Qi h146).2) an)) ?_;obtain ⟨o199,h200,h⟩:=Qf h;cases o199 with
 | norm v201 =>
  refine T.oneN (by kernel_rfl) (f31n3_ok bd2 ba1 x145 h200) (st2:=(f31n3E bd2 ba1 x145 (.norm v201)).2) rfl ?_;rcases Qj h with ⟨h203,h⟩|⟨h203,h⟩
  ·obtain rfl:=Qg h;exact rE Qh [j3] [some true] [] [] [2] (.ret,(f31n2E ba1 bd2 .ret).2) (ap h203 an) rfl
  ·obtain rfl:=Qg h;exact rE Qh [] [some false] [] [0] [1,25,26,27] (.norm,(f31n2E ba1 bd2 .norm).2) (ap h203 an) rfl
inductive f31n4O where
 | exit0
 | ret
def f31n4E(ba1:Qe):f31n4O→Ex×Tr×Hp
 | .exit0=>((.exit 0),mkS [(1,(.bp 0 0))],[some (.box ((Qe.cells ba1).map .pl))])
 | .ret=>(.ret,mkS [(2,(jI 8))],[])
def f31n4S(ba1:Qe)(v119:Int):Tr×Hp:=(mkS [(1,(.bp 0 0)),(25,(jL 3 Qb.cells ba1.Lots)),(26,(jI (ba1.Lots.length:Int))),(27,(jI v119))],[some (.box ((Qe.cells ba1).map .pl))])
noncomputable def f31n4:Nat→Qe→Int→Option f31n4O
 | 0,_,_=>none
 | f+1,ba1,v119 =>
  bif decide (v119<(ba1.Lots.length:Int)) then
   (f31n2 ba1 v119).bind fun o204=>match o204 with
   | .norm=>(f31n4 f ba1 (wr64 (v119+1)))
   | .ret=>some .ret
  else
   some .exit0
theorem f31n4_ok:∀(f:Nat)(ba1:Qe)(v119:Int){o:f31n4O},f31n4 f ba1 v119=some o→TL Try.prog Try.f31.ntmps 0 f (cL (cL (Qk 1 (cL (Qk 2 c31))))) (f31n4S ba1 v119) (·=f31n4E ba1 o)
 | 0,_,_,o,h=>by rw [f31n4] at h; cases h
 | f+1,ba1,v119,o,h=>by
  rw [f31n4] at h;refine TL.body (K:=fun s=>∃v119:Int,s=(f31n4S ba1 v119)∧f31n4 f ba1 v119=some o) ?_ (by rintro _ ⟨v119,rfl,hk⟩; exact f31n4_ok f _ _ hk);rcases Qj h with ⟨h121,h⟩|⟨h121,h⟩
  ·refine rN Qh 2 [j3] [some true] [] [0] [1,25,26,27] (f31n2S ba1 v119) (ap h121 an) ?_;obtain ⟨o204,h205,h⟩:=Qf h;cases o204 with
   | norm =>
    refine T.oneN (by kernel_rfl) (f31n2_ok ba1 v119 h205) (st2:=(f31n2E ba1 v119 .norm).2) rfl ?_;exact rE Qh [j3] [] [] [0] [1,25,26,27] (.norm,(f31n4S ba1 (wr64 (v119+1)))) an (Qt.norm ⟨(wr64 (v119+1)),rfl,h⟩)
   | ret =>
    obtain rfl:=Qg h;exact T.oneX' (by kernel_rfl) (f31n2_ok ba1 v119 h205) (tds:=[]) (m:=[]) (keep:=[2]) (st2:=(f31n4E ba1 .ret).2) (by kernel_rfl) an rfl (Qt.out rfl rfl)
  ·obtain rfl:=Qg h;exact rK Qh 2 [j3] [some false] [] [0] [1] (.exit 0) ((f31n4E ba1 .exit0).2) (ap h121 an) (Qt.out rfl rfl)
inductive f31n1O where
 | norm
 | ret
def f31n1E(ba1:Qe):f31n1O→Ex×Tr×Hp
 | .norm=>(.norm,mkS [(1,(.bp 0 0))],[some (.box ((Qe.cells ba1).map .pl))])
 | .ret=>(.ret,mkS [(2,(jI 8))],[])
def f31n1S(ba1:Qe):Tr×Hp:=(mkS [(1,(.bp 0 0))],[some (.box ((Qe.cells ba1).map .pl))])
noncomputable def f31n1(ba1:Qe):Option f31n1O :=
 (f31n4 FUEL ba1 0).bind fun o206=>match o206 with
 | .exit0=>some .norm
 | .ret=>some .ret
theorem f31n1_ok(ba1:Qe){o:f31n1O}(h:f31n1 ba1=some o):T Try.prog Try.f31.ntmps 0 (cL (Qk 2 c31)) (f31n1S ba1) (·=f31n1E ba1 o):=by
 unfold f31n1 at h;refine rN Qh 1 [([],[],[(2,.val (jI (ba1.Lots.length:Int)))])] [] [] [0] [1,25,26,27] (f31n4S ba1 0) (ap (Qac (xs:=ba1.Lots) (c:=Qb.cells)) an) ?_;obtain ⟨o206,h207,h⟩:=Qf h;cases o206 with
 | exit0 =>
  obtain rfl:=Qg h;exact T.last' (T.bl (i:=0) (by kernel_rfl) (by kernel_rfl) (f31n4_ok FUEL ba1 0 h207)) (tds:=[]) (m:=[0]) (keep:=[1]) (st2:=(f31n1E ba1 .norm).2) (by kernel_rfl) an rfl
 | ret =>
  obtain rfl:=Qg h;exact T.last' (T.bl (i:=0) (by kernel_rfl) (by kernel_rfl) (f31n4_ok FUEL ba1 0 h207)) (tds:=[]) (m:=[]) (keep:=[2]) (st2:=(f31n1E ba1 .ret).2) (by kernel_rfl) an rfl
inductive f31n6O where
 | exit2
 | ret
def f31n6E(ba1:Qe):f31n6O→Ex×Tr×Hp
 | .exit2=>((.exit 2),mkS [],[])
 | .ret=>(.ret,mkS [(2,(jI 8))],[])
def f31n6S(ba1:Qe)(v247:Int):Tr×Hp:=(mkS [(1,(.bp 0 0)),(66,(jL 4 Qc.cells ba1.Bids)),(67,(jI (ba1.Bids.length:Int))),(68,(jI v247))],[some (.box ((Qe.cells ba1).map .pl))])
noncomputable def f31n6:Nat→Qe→Int→Option f31n6O
 | 0,_,_=>none
 | f+1,ba1,v247 =>
  bif decide (v247<(ba1.Bids.length:Int)) then
   (at? ba1.Bids v247).bind fun x258 =>
   (f44 ba1.Lots x258.Lot).bind fun x260 =>
   bif x260.2 then
    (f45 x258).bind fun x263 =>
    bif x263 then
     (f31n6 f ba1 (wr64 (v247+1)))
    else
     some .ret
   else
    some .ret
  else
   some .exit2
theorem f31n6_ok:∀(f:Nat)(ba1:Qe)(v247:Int){o:f31n6O},f31n6 f ba1 v247=some o→TL Try.prog Try.f31.ntmps 0 f (cL (cL (Qk 1 (cL (Qk 0 (Qk 1 (Qk 2 c31))))))) (f31n6S ba1 v247) (·=f31n6E ba1 o)
 | 0,_,_,o,h=>by rw [f31n6] at h; cases h
 | f+1,ba1,v247,o,h=>by
  rw [f31n6] at h;refine TL.body (K:=fun s=>∃v247:Int,s=(f31n6S ba1 v247)∧f31n6 f ba1 v247=some o) ?_ (by rintro _ ⟨v247,rfl,hk⟩; exact f31n6_ok f _ _ hk);rcases Qj h with ⟨h249,h⟩|⟨h249,h⟩
  ·obtain ⟨x258,h259,h⟩:=Qf h;obtain ⟨x260,h261,h⟩:=Qf h;rcases Qj h with ⟨h262,h⟩|⟨h262,h⟩
   ·obtain ⟨x263,h264,h⟩:=Qf h;rcases Qj h with ⟨h265,h⟩|⟨h265,h⟩
    ·exact rE Qh [j3,([],[(0,.idx (Int.toNat v247) (Qc.cells x258))],[]),([],[jH 4 (.tup [(jI x260.1),(jB x260.2)])],[]),(jF [3,4,5],[jH 4 (jB x263),(6,.bool false)],[]),j3] [some true,some false] [] [0] [1,66,67,68] (.norm,(f31n6S ba1 (wr64 (v247+1)))) (ap h249 (ap (Qi h259).1 (ap (Qn Qc.cells (Qi h259).2) (ap (f44_ok ba1.Lots x258.Lot h261) (ap4 (Qal h262) (ap (f45_ok x258 h264) (ap (Qal h265) an))))))) (Qt.norm ⟨(wr64 (v247+1)),rfl,h⟩)
    ·obtain rfl:=Qg h;exact rK Qh 3 [j3,([],[(0,.idx (Int.toNat v247) (Qc.cells x258))],[]),([],[jH 4 (.tup [(jI x260.1),(jB x260.2)])],[]),(jF [3,4,5],[jH 4 (jB x263),(6,.bool false)],[]),j3] [some true,some true] [] [] [2] .ret ((f31n6E ba1 .ret).2) (ap h249 (ap (Qi h259).1 (ap (Qn Qc.cells (Qi h259).2) (ap (f44_ok ba1.Lots x258.Lot h261) (ap4 (Qal h262) (ap (f45_ok x258 h264) (ap (Qau h265) an))))))) (Qt.out rfl rfl)
   ·obtain rfl:=Qg h;exact rK Qh 3 [j3,([],[(0,.idx (Int.toNat v247) (Qc.cells x258))],[]),([],[jH 4 (.tup [(jI x260.1),(jB x260.2)])],[]),(jT [3,4,5],[(6,.bool true)],[]),j3] [some true,none] [] [] [2] .ret ((f31n6E ba1 .ret).2) (ap h249 (ap (Qi h259).1 (ap (Qn Qc.cells (Qi h259).2) (ap (f44_ok ba1.Lots x258.Lot h261) (ap4 (Qau h262) an))))) (Qt.out rfl rfl)
  ·obtain rfl:=Qg h;exact rK Qh 2 [j3] [some false] [] [] [] (.exit 2) ((f31n6E ba1 .exit2).2) (ap h249 an) (Qt.out rfl rfl)
noncomputable def f31n6L(ba1:Qe):List Qc→Int→Option f31n6O
 | [],v247 =>
  some .exit2
 | x0::rest,v247 =>
  (f44 ba1.Lots x0.Lot).bind fun x260 =>
  bif x260.2 then
   (f45 x0).bind fun x263 =>
   bif x263 then
    (f31n6L ba1 rest (v247+1))
   else
    some .ret
  else
   some .ret
theorem f31n6L_eq(ba1:Qe):∀(rest:List Qc)(f k:Nat),ba1.Bids.drop k=rest→ba1.Bids.length≤maxLen→rest.length<f→f31n6 f ba1 (k:Int)=f31n6L ba1 rest (k:Int)
 | _,0,_,_,_,hf=>absurd hf (Nat.not_lt_zero _)
 | [],f+1,k,hd,hm,hf=>by
  have hk:¬((k:Int)<(ba1.Bids.length:Int)):=by have:=Qbb hd; omega
  rw [f31n6,f31n6L];simp only [decide_eq_false hk,cond_false]
 | x0::rest,f+1,k,hd,hm,hf=>by
  obtain ⟨hx,hlt,hd'⟩:=drop_cons hd;have hk:(k:Int)<(ba1.Bids.length:Int):=by omega
  have hw:wr64 ((k:Int)+1)=(k:Int)+1:=wr64_of (by omega) (by unfold maxLen at hm; omega);have ih:f31n6 f ba1 ((k:Int)+1)=f31n6L ba1 rest ((k:Int)+1):=f31n6L_eq ba1 rest f (k+1) hd' hm (by simpa using hf);rw [f31n6,f31n6L];simp only [decide_eq_true hk,cond_true,at_nat,hx,Option.bind_some,hw,ih]
theorem f31n6_run(ba1:Qe)(hm:ba1.Bids.length≤maxLen):f31n6 FUEL ba1 0=f31n6L ba1 ba1.Bids 0:=f31n6L_eq ba1 ba1.Bids FUEL 0 List.drop_zero hm (Qba hm)
inductive f31n5O where
 | norm
 | ret
def f31n5E(ba1:Qe):f31n5O→Ex×Tr×Hp
 | .norm=>(.norm,mkS [],[])
 | .ret=>(.ret,mkS [(2,(jI 8))],[])
def f31n5S(ba1:Qe):Tr×Hp:=(mkS [(1,(.bp 0 0))],[some (.box ((Qe.cells ba1).map .pl))])
noncomputable def f31n5(ba1:Qe):Option f31n5O :=
 (f31n6 FUEL ba1 0).bind fun o266=>match o266 with
 | .exit2=>some .norm
 | .ret=>some .ret
theorem f31n5_ok(ba1:Qe){o:f31n5O}(h:f31n5 ba1=some o):T Try.prog Try.f31.ntmps 0 (cL (Qk 0 (Qk 1 (Qk 2 c31)))) (f31n5S ba1) (·=f31n5E ba1 o):=by
 unfold f31n5 at h;refine rN Qh 1 [([],[],[(2,.val (jI (ba1.Bids.length:Int)))])] [] [] [0] [1,66,67,68] (f31n6S ba1 0) (ap (Qac (xs:=ba1.Bids) (c:=Qc.cells)) an) ?_;obtain ⟨o266,h267,h⟩:=Qf h;cases o266 with
 | exit2 =>
  obtain rfl:=Qg h;exact T.last' (T.bl (i:=2) (by kernel_rfl) (by kernel_rfl) (f31n6_ok FUEL ba1 0 h267)) (tds:=[]) (m:=[]) (keep:=[]) (st2:=(f31n5E ba1 .norm).2) (by kernel_rfl) an rfl
 | ret =>
  obtain rfl:=Qg h;exact T.last' (T.bl (i:=2) (by kernel_rfl) (by kernel_rfl) (f31n6_ok FUEL ba1 0 h267)) (tds:=[]) (m:=[]) (keep:=[2]) (st2:=(f31n5E ba1 .ret).2) (by kernel_rfl) an rfl
inductive f31n0O where
 | ret (v270:Int)
def f31n0E(a1:Qe):f31n0O→Ex×Tr×Hp
 | .ret v270=>(.ret,mkS [(2,(jI v270))],[])
def f31n0S(a1:Qe):Tr×Hp:=(Qan [(jA Qe.cells a1)] 0 .leaf,[])
noncomputable def f31n0(a1:Qe):Option f31n0O :=
 bif decide (2<a1.Rule) then
  some (.ret 8)
 else
  bif decide (16<(a1.Lots.length:Int)) then
   some (.ret 8)
  else
   bif decide (100<(a1.Bids.length:Int)) then
    some (.ret 8)
   else
    (f31n1 a1).bind fun o208=>match o208 with
    | .norm=>(f31n5 a1).bind fun o268=>match o268 with
     | .norm=>some (.ret 0)
     | .ret=>some (.ret 8)
    | .ret=>some (.ret 8)
theorem f31n0_ok(a1:Qe){o:f31n0O}(h:f31n0 a1=some o):T Try.prog Try.f31.ntmps 0 c31 (f31n0S a1) (·=f31n0E a1 o):=by
 unfold f31n0 at h;rcases Qj h with ⟨h5,h⟩|⟨h5,h⟩
 ·obtain rfl:=Qg h;exact rK Qh 2 [j3,(jT [4,5,6,7],[(8,.bool true)],[]),j3] [none] [] [] [2] .ret ((f31n0E a1 (.ret 8)).2) (ap h5 (ap4 h5 an)) rfl
 ·rcases Qj h with ⟨h6,h⟩|⟨h6,h⟩
  ·obtain rfl:=Qg h;exact rK Qh 2 [j3,(jF [4,5,6,7]++jT [10,11,12,13],[(8,.bool false),(14,.bool true)],[(6,.val (jI (a1.Lots.length:Int)))]),j3] [none] [] [] [2] .ret ((f31n0E a1 (.ret 8)).2) (ap3 h5 (ap (Qac (xs:=a1.Lots) (c:=Qb.cells)) (ap2 h5 (ap h6 (ap4 h6 an))))) rfl
  ·rcases Qj h with ⟨h7,h⟩|⟨h7,h⟩
   ·obtain rfl:=Qg h;exact rK Qh 2 [j3,(jF [4,5,6,7,10,11,12,13],[(8,.bool false),(14,.bool false)],[(6,.val (jI (a1.Lots.length:Int))),(12,.val (jI (a1.Bids.length:Int)))]),j3] [some true] [] [] [2] .ret ((f31n0E a1 (.ret 8)).2) (ap3 h5 (ap (Qac (xs:=a1.Lots) (c:=Qb.cells)) (ap2 h5 (ap3 h6 (ap (Qac (xs:=a1.Bids) (c:=Qc.cells)) (ap2 h6 (ap h7 an))))))) rfl
   ·refine rN Qh 2 [j3,(jF [4,5,6,7,10,11,12,13],[(8,.bool false),(14,.bool false)],[(6,.val (jI (a1.Lots.length:Int))),(12,.val (jI (a1.Bids.length:Int)))])] [some false] [] [0] [1] (f31n1S a1) (ap3 h5 (ap (Qac (xs:=a1.Lots) (c:=Qb.cells)) (ap2 h5 (ap3 h6 (ap (Qac (xs:=a1.Bids) (c:=Qc.cells)) (ap2 h6 (ap h7 an))))))) ?_;obtain ⟨o208,h209,h⟩:=Qf h;cases o208 with
    | norm =>
     refine T.oneN (by kernel_rfl) (f31n1_ok a1 h209) (st2:=(f31n1E a1 .norm).2) rfl ?_;refine rN Qh 0 [] [] [] [0] [1] (f31n5S a1) an ?_;obtain ⟨o268,h269,h⟩:=Qf h;cases o268 with
     | norm =>
      refine T.oneN (by kernel_rfl) (f31n5_ok a1 h269) (st2:=(f31n5E a1 .norm).2) rfl ?_;obtain rfl:=Qg h;exact rE Qh [j3] [] [] [] [2] (.ret,(f31n0E a1 (.ret 0)).2) an rfl
     | ret =>
      obtain rfl:=Qg h;exact T.oneX' (by kernel_rfl) (f31n5_ok a1 h269) (tds:=[]) (m:=[]) (keep:=[2]) (st2:=(f31n0E a1 (.ret 8)).2) (by kernel_rfl) an rfl rfl
    | ret =>
     obtain rfl:=Qg h;exact T.oneX' (by kernel_rfl) (f31n1_ok a1 h209) (tds:=[]) (m:=[]) (keep:=[2]) (st2:=(f31n0E a1 (.ret 8)).2) (by kernel_rfl) an rfl rfl
noncomputable def f31(a1:Qe):Option Int:=(f31n0 a1).bind fun o=>match o with
 | .ret v270=>some v270
theorem f31_ok(a1:Qe){r:Int}(h:f31 a1=some r):Qp Try.prog false 31 [(jA Qe.cells a1)] [] (jI r) []:=by
 unfold f31 at h;obtain ⟨o,ho,h⟩:=Qf h;cases o with
 | ret v270 =>
  obtain rfl:=Qg h;exact Qp.plain Qh (f:=Try.f31) (c:=c31) (by kernel_rfl) (by kernel_rfl) (by kernel_rfl) (by kernel_rfl) ((f31n0_ok a1 ho).mono fun r e=>by subst e; exact ⟨.inl rfl,(jI v270),(jI v270),by kernel_rfl,by kernel_rfl,((Wk.refl _):Wk (jI v270) (jI v270))⟩)

noncomputable def c35:Code:=Try.f35.body.getD .skip
inductive f35r1n0O where
 | ret
def f35r1n0E(a1:Qe)(a2:Qb):f35r1n0O→Ex×Tr×Hp
 | .ret=>(.ret,mkS [(4,(.clo 53 [(.bp 0 0),(.bp 1 0)]))],[some (.box ((Qe.cells a1).map .pl)),some (.box ((Qb.cells a2).map .pl))])
def f35r1n0S(a1:Qe)(a2:Qb):Tr×Hp:=(Qan [(jA Qe.cells a1),(jA Qb.cells a2)] 0 .leaf,[])
noncomputable def f35r1n0(a1:Qe)(a2:Qb):Option f35r1n0O :=
 some .ret
theorem f35r1n0_ok(a1:Qe)(a2:Qb){o:f35r1n0O}(h:f35r1n0 a1 a2=some o):T Try.prog Try.f35.ntmps 0 c35 (f35r1n0S a1 a2) (·=f35r1n0E a1 a2 o):=by
 unfold f35r1n0 at h;obtain rfl:=Qg h;exact rE Qh [j3,j3] [] [] [0,1] [4] (.ret,(f35r1n0E a1 a2 .ret).2) an rfl
noncomputable def f35r1(a1:Qe)(a2:Qb):Option Unit:=(f35r1n0 a1 a2).bind fun o=>match o with
 | .ret=>some ()
theorem f35r1_ok(a1:Qe)(a2:Qb){r:Unit}(h:f35r1 a1 a2=some r):Qp Try.prog true 35 [(jA Qe.cells a1),(jA Qb.cells a2)] [] (.clo 53 [(.bp 0 0),(.bp 1 0)]) [some (.box ((Qe.cells a1).map .pl)),some (.box ((Qb.cells a2).map .pl))]:=by
 unfold f35r1 at h;obtain ⟨o,ho,h⟩:=Qf h;cases o with
 | ret =>
  obtain rfl:=Qg h;exact Qp.shared Qh (f:=Try.f35) (c:=c35) (by kernel_rfl) (by kernel_rfl) (by kernel_rfl) ((f35r1n0_ok a1 a2 ho).mono fun r e=>by subst e; exact ⟨.inl rfl,by kernel_rfl,by kernel_rfl⟩)

noncomputable def c36:Code:=Try.f36.body.getD .skip
inductive f36r1n0O where
 | ret
def f36r1n0E:f36r1n0O→Ex×Tr×Hp
 | .ret=>(.ret,mkS [(0,(.mp 0))],[some (.map [((.int .u8 1),(.fn 56)),((.int .u8 2),(.fn 57))])])
def f36r1n0S:Tr×Hp:=(Qan [] 0 .leaf,[])
noncomputable def f36r1n0:Option f36r1n0O :=
 some .ret
theorem f36r1n0_ok{o:f36r1n0O}(h:f36r1n0=some o):T Try.prog Try.f36.ntmps 0 c36 f36r1n0S (·=f36r1n0E o):=by
 unfold f36r1n0 at h;obtain rfl:=Qg h;exact rE Qh [j3,j3] [] [] [0] [0] (.ret,(f36r1n0E .ret).2) an rfl
noncomputable def f36r1:Option Unit:=f36r1n0.bind fun o=>match o with
 | .ret=>some ()
theorem f36r1_ok{r:Unit}(h:f36r1=some r):Qp Try.prog true 36 [] [] (.mp 0) [some (.map [((.int .u8 1),(.fn 56)),((.int .u8 2),(.fn 57))])]:=by
 unfold f36r1 at h;obtain ⟨o,ho,h⟩:=Qf h;cases o with
 | ret =>
  obtain rfl:=Qg h;exact Qp.shared Qh (f:=Try.f36) (c:=c36) (by kernel_rfl) (by kernel_rfl) (by kernel_rfl) ((f36r1n0_ok  ho).mono fun r e=>by subst e; exact ⟨.inl rfl,by kernel_rfl,by kernel_rfl⟩)

noncomputable def c60:Code:=Try.f60.body.getD .skip
inductive f60n0O where
 | ret
def f60n0E(a1:Int):f60n0O→Ex×Tr×Hp
 | .ret=>(.ret,mkS [(2,(.pl (.bool (!(decide (a1=a1))))))],[])
def f60n0S(a1:Int):Tr×Hp:=(Qan [(jI a1)] 0 .leaf,[])
noncomputable def f60n0(a1:Int):Option f60n0O :=
 some .ret
theorem f60n0_ok(a1:Int){o:f60n0O}(h:f60n0 a1=some o):T Try.prog Try.f60.ntmps 0 c60 (f60n0S a1) (·=f60n0E a1 o):=by
 unfold f60n0 at h;obtain rfl:=Qg h;exact rE Qh [j3,j3] [] [] [] [2] (.ret,(f60n0E a1 .ret).2) an rfl
noncomputable def f60(a1:Int):Option Bool:=(f60n0 a1).bind fun o=>match o with
 | .ret=>some (!(decide (a1=a1)))
theorem f60_ok(a1:Int){r:Bool}(h:f60 a1=some r):Qp Try.prog false 60 [(jI a1)] [] (jB r) []:=by
 unfold f60 at h;obtain ⟨o,ho,h⟩:=Qf h;cases o with
 | ret =>
  obtain rfl:=Qg h;exact Qp.plain Qh (f:=Try.f60) (c:=c60) (by kernel_rfl) (by kernel_rfl) (by kernel_rfl) (by kernel_rfl) ((f60n0_ok a1 ho).mono fun r e=>by subst e; exact ⟨.inl rfl,(.pl (.bool (!(decide (a1=a1))))),(.pl (.bool (!(decide (a1=a1))))),by kernel_rfl,by kernel_rfl,((Wk.refl _):Wk (.pl (.bool (!(decide (a1=a1))))) (.pl (.bool (!(decide (a1=a1))))))⟩)

noncomputable def c39:Code:=Try.f39.body.getD .skip
inductive f39n0O where
 | ret (v21:Int)
def f39n0E(a1 a2:Int):f39n0O→Ex×Tr×Hp
 | .ret v21=>(.ret,mkS [(4,(jI v21))],[])
def f39n0S(a1 a2:Int):Tr×Hp:=(Qan [(jI a1),(jI a2)] 0 .leaf,[])
noncomputable def f39n0(a1 a2:Int):Option f39n0O :=
 (f60 a1).bind fun x5 =>
 (f60 a2).bind fun x9 =>
 bif x5 then
  bif x9 then
   some (.ret 0)
  else
   some (.ret (-1))
 else
  bif x9 then
   some (.ret 1)
  else
   bif decide (a1<a2) then
    some (.ret (-1))
   else
    bif decide (a2<a1) then
     some (.ret 1)
    else
     some (.ret 0)
theorem f39n0_ok(a1 a2:Int){o:f39n0O}(h:f39n0 a1 a2=some o):T Try.prog Try.f39.ntmps 0 c39 (f39n0S a1 a2) (·=f39n0E a1 a2 o):=by
 unfold f39n0 at h;obtain ⟨x5,h6,h⟩:=Qf h;obtain ⟨x9,h10,h⟩:=Qf h;rcases Qj h with ⟨h13,h⟩|⟨h13,h⟩
 ·rcases Qj h with ⟨h14,h⟩|⟨h14,h⟩
  ·obtain rfl:=Qg h;exact rK Qh 4 [j3,([],[jH 1 (jB x5)],[]),([],[jH 1 (jB x9)],[]),j3,j3,j3] [some true,some true] [] [] [4] .ret ((f39n0E a1 a2 (.ret 0)).2) (ap (f60_ok a1 h6) (ap (f60_ok a2 h10) (ap h13 (ap h14 an)))) rfl
  ·obtain rfl:=Qg h;exact rK Qh 4 [j3,([],[jH 1 (jB x5)],[]),([],[jH 1 (jB x9)],[]),j3,j3,j3] [some true,some false] [] [] [4] .ret ((f39n0E a1 a2 (.ret (-1))).2) (ap (f60_ok a1 h6) (ap (f60_ok a2 h10) (ap h13 (ap h14 an)))) rfl
 ·rcases Qj h with ⟨h16,h⟩|⟨h16,h⟩
  ·obtain rfl:=Qg h;exact rK Qh 5 [j3,([],[jH 1 (jB x5)],[]),([],[jH 1 (jB x9)],[]),j3,j3,j3] [some false,some true] [] [] [4] .ret ((f39n0E a1 a2 (.ret 1)).2) (ap (f60_ok a1 h6) (ap (f60_ok a2 h10) (ap h13 (ap h16 an)))) rfl
  ·rcases Qj h with ⟨h18,h⟩|⟨h18,h⟩
   ·obtain rfl:=Qg h;exact rK Qh 6 [j3,([],[jH 1 (jB x5)],[]),([],[jH 1 (jB x9)],[]),j3,j3,j3,j3] [some false,some false,some true] [] [] [4] .ret ((f39n0E a1 a2 (.ret (-1))).2) (ap (f60_ok a1 h6) (ap (f60_ok a2 h10) (ap h13 (ap h16 (ap h18 an))))) rfl
   ·rcases Qj h with ⟨h20,h⟩|⟨h20,h⟩
    ·obtain rfl:=Qg h;exact rK Qh 7 [j3,([],[jH 1 (jB x5)],[]),([],[jH 1 (jB x9)],[]),j3,j3,j3,j3,j3] [some false,some false,some false,some true] [] [] [4] .ret ((f39n0E a1 a2 (.ret 1)).2) (ap (f60_ok a1 h6) (ap (f60_ok a2 h10) (ap h13 (ap h16 (ap h18 (ap h20 an)))))) rfl
    ·obtain rfl:=Qg h;exact rE Qh [j3,([],[jH 1 (jB x5)],[]),([],[jH 1 (jB x9)],[]),j3,j3,j3,j3,j3] [some false,some false,some false,some false] [] [] [4] (.ret,(f39n0E a1 a2 (.ret 0)).2) (ap (f60_ok a1 h6) (ap (f60_ok a2 h10) (ap h13 (ap h16 (ap h18 (ap h20 an)))))) rfl
noncomputable def f39(a1 a2:Int):Option Int:=(f39n0 a1 a2).bind fun o=>match o with
 | .ret v21=>some v21
theorem f39_ok(a1 a2:Int){r:Int}(h:f39 a1 a2=some r):Qp Try.prog false 39 [(jI a1),(jI a2)] [] (jI r) []:=by
 unfold f39 at h;obtain ⟨o,ho,h⟩:=Qf h;cases o with
 | ret v21 =>
  obtain rfl:=Qg h;exact Qp.plain Qh (f:=Try.f39) (c:=c39) (by kernel_rfl) (by kernel_rfl) (by kernel_rfl) (by kernel_rfl) ((f39n0_ok a1 a2 ho).mono fun r e=>by subst e; exact ⟨.inl rfl,(jI v21),(jI v21),by kernel_rfl,by kernel_rfl,((Wk.refl _):Wk (jI v21) (jI v21))⟩)

noncomputable def c55:Code:=Try.f55.body.getD .skip
inductive f55n0O where
 | ret (v7:Int)
def f55n0E(a1 a2:Qd):f55n0O→Ex×Tr×Hp
 | .ret v7=>(.ret,mkS [(4,(jI v7))],[])
def f55n0S(a1 a2:Qd):Tr×Hp:=(Qan [(jA Qd.cells a1),(jA Qd.cells a2)] 0 .leaf,[])
noncomputable def f55n0(a1 a2:Qd):Option f55n0O :=
 (f39 a2.bid.Price a1.bid.Price).bind fun x5 =>
 some (.ret x5)
theorem f55n0_ok(a1 a2:Qd){o:f55n0O}(h:f55n0 a1 a2=some o):T Try.prog Try.f55.ntmps 0 c55 (f55n0S a1 a2) (·=f55n0E a1 a2 o):=by
 unfold f55n0 at h;obtain ⟨x5,h6,h⟩:=Qf h;obtain rfl:=Qg h;exact rE Qh [j3,([],[jH 6 (jI x5)],[])] [] [] [] [4] (.ret,(f55n0E a1 a2 (.ret x5)).2) (ap (f39_ok a2.bid.Price a1.bid.Price h6) an) rfl
noncomputable def f55(a1 a2:Qd):Option Int:=(f55n0 a1 a2).bind fun o=>match o with
 | .ret v7=>some v7
theorem f55_ok(a1 a2:Qd){r:Int}(h:f55 a1 a2=some r):Qp Try.prog false 55 [(jA Qd.cells a1),(jA Qd.cells a2)] [] (jI r) []:=by
 unfold f55 at h;obtain ⟨o,ho,h⟩:=Qf h;cases o with
 | ret v7 =>
  obtain rfl:=Qg h;exact Qp.plain Qh (f:=Try.f55) (c:=c55) (by kernel_rfl) (by kernel_rfl) (by kernel_rfl) (by kernel_rfl) ((f55n0_ok a1 a2 ho).mono fun r e=>by subst e; exact ⟨.inl rfl,(jI v7),(jI v7),by kernel_rfl,by kernel_rfl,((Wk.refl _):Wk (jI v7) (jI v7))⟩)

noncomputable def c80:Code:=Try.f80.body.getD .skip
inductive f80r1n2O where
 | exit2 (v222:List Qd)
def f80r1n2E(bd1 bd2 bd3:Int):f80r1n2O→Ex×Tr×Hp
 | .exit2 v222=>((.exit 2),mkS [(0,(.own 0)),(1,(jI bd1)),(2,(jI bd2)),(3,(.pl (.fn 55))),(8,(jI bd3))],[jR 6 Qd.cells v222])
def f80r1n2S(bd1 bd2 bd3 v200:Int)(v201:List Qd):Tr×Hp:=(mkS [(0,(.own 0)),(1,(jI bd1)),(2,(jI bd2)),(3,(.pl (.fn 55))),(8,(jI bd3)),(9,(jI v200))],[jR 6 Qd.cells v201])
noncomputable def f80r1n2:Nat→Int→Int→Int→Int→List Qd→Option f80r1n2O
 | 0,_,_,_,_,_=>none
 | f+1,bd1,bd2,bd3,v200,v201 =>
  bif decide (bd1<v200) then
   (at? v201 v200).bind fun x211 =>
   (at? v201 (wr64 (v200-1))).bind fun x213 =>
   (f55 x211 x213).bind fun x215 =>
   bif decide (x215<0) then
    (at? (v201.set (Int.toNat v200) x213) (wr64 (v200-1))).bind fun x220 =>
    (f80r1n2 f bd1 bd2 bd3 (wr64 (v200-1)) ((v201.set (Int.toNat v200) x213).set (Int.toNat (wr64 (v200-1))) x211))
   else
    some (.exit2 v201)
  else
   some (.exit2 v201)
theorem f80r1n2_ok:∀(f:Nat)(bd1 bd2 bd3 v200:Int)(v201:List Qd){o:f80r1n2O},f80r1n2 f bd1 bd2 bd3 v200 v201=some o→TL Try.prog Try.f80.ntmps 1 f (cL (cL (Qk 1 (cL (cL (Qk 1 (cL (cL (Qk 1 c80))))))))) (f80r1n2S bd1 bd2 bd3 v200 v201) (·=f80r1n2E bd1 bd2 bd3 o)
 | 0,_,_,_,_,_,o,h=>by rw [f80r1n2] at h; cases h
 | f+1,bd1,bd2,bd3,v200,v201,o,h=>by
  rw [f80r1n2] at h;refine TL.body (K:=fun s=>∃v200:Int,∃v201:List Qd,s=(f80r1n2S bd1 bd2 bd3 v200 v201)∧f80r1n2 f bd1 bd2 bd3 v200 v201=some o) ?_ (by rintro _ ⟨v200,v201,rfl,hk⟩; exact f80r1n2_ok f _ _ _ _ _ hk);rcases Qj h with ⟨h210,h⟩|⟨h210,h⟩
  ·obtain ⟨x211,h212,h⟩:=Qf h;obtain ⟨x213,h214,h⟩:=Qf h;obtain ⟨x215,h216,h⟩:=Qf h;rcases Qj h with ⟨h217,h⟩|⟨h217,h⟩
   ·obtain ⟨x220,h221,h⟩:=Qf h
    exact rE Qh [(jT [4,5,6,7,8,9,10,11,12,13,14,15],[(7,.at_ (Int.toNat v200)),(8,.idx 0 (Qd.cells x211)),(12,.at_ (Int.toNat (wr64 (v200-1)))),(13,.idx 0 (Qd.cells x213)),jH 14 (jI x215),(16,.bool true)],[]),([],[(8,.at_ (Int.toNat (wr64 (v200-1)))),(9,.idx 0 (Qd.cells x213)),(12,.at_ (Int.toNat v200)),(13,.idx 0 (Qd.cells x211)),(14,.at_ (Int.toNat v200)),(15,.idx 0 (Qd.cells x211)),(16,.at_ (Int.toNat (wr64 (v200-1)))),(17,.idx 0 (Qd.cells x220))],[(15,.row 0 ((v201.set (Int.toNat v200) x213).map Qd.cells)),(17,.row 0 (((v201.set (Int.toNat v200) x213).set (Int.toNat (wr64 (v200-1))) x211).map Qd.cells))]),j3] [some true] [] [] [0,1,2,3,8,9] (.norm,(f80r1n2S bd1 bd2 bd3 (wr64 (v200-1)) ((v201.set (Int.toNat v200) x213).set (Int.toNat (wr64 (v200-1))) x211))) (ap4 h210 (ap (Qi h212).1 (ap (Qag Qd.cells (Qi h212).2) (ap h210 (ap (Qn Qd.cells (Qi h212).2) (ap4 h210 (ap (Qi h214).1 (ap (Qag Qd.cells (Qi h214).2) (ap h210 (ap (Qn Qd.cells (Qi h214).2) (ap3 h210 (ap (f55_ok x211 x213 h216) (ap h217 (ap (Qi h214).1 (ap (Qag Qd.cells (Qi h214).2) (ap (Qn Qd.cells (Qi h214).2) (ap (Qi h212).1 (ap (Qag Qd.cells (Qi h212).2) (ap (Qn Qd.cells (Qi h212).2) (ap (Qi h212).1 (ap (Qag Qd.cells (Qi h212).2) (ap (Qn Qd.cells (Qi h212).2) (ap (set_cv (xs:=v201) (c:=Qd.cells) (k:=(Int.toNat v200)) (x:=x213)) (ap (Qi h221).1 (ap (Qag Qd.cells (Qi h221).2) (ap (Qn Qd.cells (Qi h221).2) (ap (set_cv (xs:=(v201.set (Int.toNat v200) x213)) (c:=Qd.cells) (k:=(Int.toNat (wr64 (v200-1)))) (x:=x211)) an))))))))))))))))))))))))))) (Qt.norm ⟨(wr64 (v200-1)),((v201.set (Int.toNat v200) x213).set (Int.toNat (wr64 (v200-1))) x211),rfl,h⟩)
   ·obtain rfl:=Qg h;exact rK Qh 1 [(jT [4,5,6,7,8,9,10,11,12,13,14,15],[(7,.at_ (Int.toNat v200)),(8,.idx 0 (Qd.cells x211)),(12,.at_ (Int.toNat (wr64 (v200-1)))),(13,.idx 0 (Qd.cells x213)),jH 14 (jI x215),(16,.bool true)],[])] [some false] [] [] [0,1,2,3,8] (.exit 2) ((f80r1n2E bd1 bd2 bd3 (.exit2 v201)).2) (ap4 h210 (ap (Qi h212).1 (ap (Qag Qd.cells (Qi h212).2) (ap h210 (ap (Qn Qd.cells (Qi h212).2) (ap4 h210 (ap (Qi h214).1 (ap (Qag Qd.cells (Qi h214).2) (ap h210 (ap (Qn Qd.cells (Qi h214).2) (ap3 h210 (ap (f55_ok x211 x213 h216) (ap h217 an))))))))))))) (Qt.out rfl rfl)
  ·obtain rfl:=Qg h;exact rK Qh 1 [(jF [4,5,6,7,8,9,10,11,12,13,14,15],[(16,.bool false)],[])] [none] [] [] [0,1,2,3,8] (.exit 2) ((f80r1n2E bd1 bd2 bd3 (.exit2 v201)).2) (ap h210 (ap4 h210 (ap4 h210 (ap4 h210 an)))) (Qt.out rfl rfl)
inductive f80r1n1O where
 | norm (v226:List Qd)
def f80r1n1E(bd1 bd2 bd3:Int)(bf4:List Qd):f80r1n1O→Ex×Tr×Hp
 | .norm v226=>(.norm,mkS [(0,(.own 0)),(1,(jI bd1)),(2,(jI bd2)),(3,(.pl (.fn 55))),(8,(jI bd3))],[jR 6 Qd.cells v226])
def f80r1n1S(bd1 bd2 bd3:Int)(bf4:List Qd):Tr×Hp:=(mkS [(0,(.own 0)),(1,(jI bd1)),(2,(jI bd2)),(3,(.pl (.fn 55))),(8,(jI bd3))],[jR 6 Qd.cells bf4])
noncomputable def f80r1n1(bd1 bd2 bd3:Int)(bf4:List Qd):Option f80r1n1O :=
 (f80r1n2 FUEL bd1 bd2 bd3 bd3 bf4).bind fun o223=>match o223 with
 | .exit2 v225=>some (.norm v225)
theorem f80r1n1_ok(bd1 bd2 bd3:Int)(bf4:List Qd){o:f80r1n1O}(h:f80r1n1 bd1 bd2 bd3 bf4=some o):T Try.prog Try.f80.ntmps 1 (cL (Qk 1 (cL (cL (Qk 1 c80))))) (f80r1n1S bd1 bd2 bd3 bf4) (·=f80r1n1E bd1 bd2 bd3 bf4 o):=by
 unfold f80r1n1 at h;refine T.block' (i:=1) (by kernel_rfl) ?_;refine rN Qh 1 [j3] [] [] [] [0,1,2,3,8,9] (f80r1n2S bd1 bd2 bd3 bd3 bf4) an ?_;obtain ⟨o223,h224,h⟩:=Qf h;cases o223 with
 | exit2 v225 =>
  obtain rfl:=Qg h;exact T.last' (T.bl (i:=2) (by kernel_rfl) (by kernel_rfl) (f80r1n2_ok FUEL bd1 bd2 bd3 bd3 bf4 h224)) (tds:=[]) (m:=[]) (keep:=[0,1,2,3,8]) (st2:=(f80r1n1E bd1 bd2 bd3 bf4 (.norm v225)).2) (by kernel_rfl) an rfl
inductive f80r1n3O where
 | exit0 (v230:List Qd)
def f80r1n3E(a1 a2:Int):f80r1n3O→Ex×Tr×Hp
 | .exit0 v230=>((.exit 0),mkS [],[jR 6 Qd.cells v230])
def f80r1n3S(a1 a2 v154:Int)(v155:List Qd):Tr×Hp:=(mkS [(0,(.own 0)),(1,(jI a1)),(2,(jI a2)),(3,(.pl (.fn 55))),(8,(jI v154))],[jR 6 Qd.cells v155])
noncomputable def f80r1n3:Nat→Int→Int→Int→List Qd→Option f80r1n3O
 | 0,_,_,_,_=>none
 | f+1,a1,a2,v154,v155 =>
  bif decide (v154<a2) then
   (f80r1n1 a1 a2 v154 v155).bind fun o227=>match o227 with
   | .norm v229=>(f80r1n3 f a1 a2 (wr64 (v154+1)) v229)
  else
   some (.exit0 v155)
theorem f80r1n3_ok:∀(f:Nat)(a1 a2 v154:Int)(v155:List Qd){o:f80r1n3O},f80r1n3 f a1 a2 v154 v155=some o→TL Try.prog Try.f80.ntmps 1 f (cL (cL (Qk 1 c80))) (f80r1n3S a1 a2 v154 v155) (·=f80r1n3E a1 a2 o)
 | 0,_,_,_,_,o,h=>by rw [f80r1n3] at h; cases h
 | f+1,a1,a2,v154,v155,o,h=>by
  rw [f80r1n3] at h;refine TL.body (K:=fun s=>∃v154:Int,∃v155:List Qd,s=(f80r1n3S a1 a2 v154 v155)∧f80r1n3 f a1 a2 v154 v155=some o) ?_ (by rintro _ ⟨v154,v155,rfl,hk⟩; exact f80r1n3_ok f _ _ _ _ hk);rcases Qj h with ⟨h157,h⟩|⟨h157,h⟩
  ·refine rN Qh 1 [j3] [some true] [] [] [0,1,2,3,8] (f80r1n1S a1 a2 v154 v155) (ap h157 an) ?_;obtain ⟨o227,h228,h⟩:=Qf h;cases o227 with
   | norm v229 =>
    refine T.oneN (by kernel_rfl) (f80r1n1_ok a1 a2 v154 v155 h228) (st2:=(f80r1n1E a1 a2 v154 v155 (.norm v229)).2) rfl ?_;exact rE Qh [j3] [] [] [] [0,1,2,3,8] (.norm,(f80r1n3S a1 a2 (wr64 (v154+1)) v229)) an (Qt.norm ⟨(wr64 (v154+1)),v229,rfl,h⟩)
  ·obtain rfl:=Qg h;exact rK Qh 1 [j3] [some false] [] [] [] (.exit 0) ((f80r1n3E a1 a2 (.exit0 v155)).2) (ap h157 an) (Qt.out rfl rfl)
inductive f80r1n0O where
 | norm (v234:List Qd)
def f80r1n0E(a1 a2:Int)(a3:List Qd):f80r1n0O→Ex×Tr×Hp
 | .norm v234=>(.norm,mkS [],[jR 6 Qd.cells v234])
def f80r1n0S(a1 a2:Int)(a3:List Qd):Tr×Hp:=(Qan [(.own 0),(jI a1),(jI a2),(.pl (.fn 55))] 0 .leaf,[jR 6 Qd.cells a3])
noncomputable def f80r1n0(a1 a2:Int)(a3:List Qd):Option f80r1n0O :=
 (f80r1n3 FUEL a1 a2 (wr64 (a1+1)) a3).bind fun o231=>match o231 with
 | .exit0 v233=>some (.norm v233)
theorem f80r1n0_ok(a1 a2:Int)(a3:List Qd){o:f80r1n0O}(h:f80r1n0 a1 a2 a3=some o):T Try.prog Try.f80.ntmps 1 c80 (f80r1n0S a1 a2 a3) (·=f80r1n0E a1 a2 a3 o):=by
 unfold f80r1n0 at h;refine rN Qh 1 [j3] [] [] [] [0,1,2,3,8] (f80r1n3S a1 a2 (wr64 (a1+1)) a3) an ?_;obtain ⟨o231,h232,h⟩:=Qf h;cases o231 with
 | exit0 v233 =>
  obtain rfl:=Qg h;exact T.last' (T.bl (i:=0) (by kernel_rfl) (by kernel_rfl) (f80r1n3_ok FUEL a1 a2 (wr64 (a1+1)) a3 h232)) (tds:=[]) (m:=[]) (keep:=[]) (st2:=(f80r1n0E a1 a2 a3 (.norm v233)).2) (by kernel_rfl) an rfl
noncomputable def f80r1(a1 a2:Int)(a3:List Qd):Option (List Qd):=(f80r1n0 a1 a2 a3).bind fun o=>match o with
 | .norm v234=>some v234
theorem f80r1_ok(a1 a2:Int)(a3:List Qd){r:List Qd}(h:f80r1 a1 a2 a3=some r):Qp Try.prog true 80 [(.own 0),(jI a1),(jI a2),(.pl (.fn 55))] [jR 6 Qd.cells a3] (.tup []) [jR 6 Qd.cells r]:=by
 unfold f80r1 at h;obtain ⟨o,ho,h⟩:=Qf h;cases o with
 | norm v234 =>
  obtain rfl:=Qg h;exact Qp.shared Qh (f:=Try.f80) (c:=c80) (by kernel_rfl) (by kernel_rfl) (by kernel_rfl) ((f80r1n0_ok a1 a2 a3 ho).mono fun r e=>by subst e; exact ⟨.inr rfl,by kernel_rfl,by kernel_rfl⟩)

noncomputable def c89:Code:=Try.f89.body.getD .skip
inductive f89r1n1O where
 | exit0 (v51:List Qd)
def f89r1n1E(a1 a2 a3:Int):f89r1n1O→Ex×Tr×Hp
 | .exit0 v51=>((.exit 0),mkS [],[jR 6 Qd.cells v51])
def f89r1n1S(a1 a2 a3 v35:Int)(v36:List Qd):Tr×Hp:=(mkS [(0,(.own 0)),(1,(jI a1)),(2,(jI a2)),(3,(jI a3)),(10,(jI v35))],[jR 6 Qd.cells v36])
noncomputable def f89r1n1:Nat→Int→Int→Int→Int→List Qd→Option f89r1n1O
 | 0,_,_,_,_,_=>none
 | f+1,a1,a2,a3,v35,v36 =>
  bif decide (v35<a3) then
   (at? v36 (wr64 (a2+v35))).bind fun x45 =>
   (at? v36 (wr64 (a1+v35))).bind fun x47 =>
   (at? (v36.set (Int.toNat (wr64 (a1+v35))) x45) (wr64 (a2+v35))).bind fun x49 =>
   (f89r1n1 f a1 a2 a3 (wr64 (v35+1)) ((v36.set (Int.toNat (wr64 (a1+v35))) x45).set (Int.toNat (wr64 (a2+v35))) x47))
  else
   some (.exit0 v36)
theorem f89r1n1_ok:∀(f:Nat)(a1 a2 a3 v35:Int)(v36:List Qd){o:f89r1n1O},f89r1n1 f a1 a2 a3 v35 v36=some o→TL Try.prog Try.f89.ntmps 1 f (cL (cL (Qk 1 c89))) (f89r1n1S a1 a2 a3 v35 v36) (·=f89r1n1E a1 a2 a3 o)
 | 0,_,_,_,_,_,o,h=>by rw [f89r1n1] at h; cases h
 | f+1,a1,a2,a3,v35,v36,o,h=>by
  rw [f89r1n1] at h;refine TL.body (K:=fun s=>∃v35:Int,∃v36:List Qd,s=(f89r1n1S a1 a2 a3 v35 v36)∧f89r1n1 f a1 a2 a3 v35 v36=some o) ?_ (by rintro _ ⟨v35,v36,rfl,hk⟩; exact f89r1n1_ok f _ _ _ _ _ hk);rcases Qj h with ⟨h38,h⟩|⟨h38,h⟩
  ·obtain ⟨x45,h46,h⟩:=Qf h;obtain ⟨x47,h48,h⟩:=Qf h;obtain ⟨x49,h50,h⟩:=Qf h
   exact rE Qh [j3,([],[(12,.at_ (Int.toNat (wr64 (a2+v35)))),(13,.idx 0 (Qd.cells x45)),(18,.at_ (Int.toNat (wr64 (a1+v35)))),(19,.idx 0 (Qd.cells x47)),(20,.at_ (Int.toNat (wr64 (a1+v35)))),(21,.idx 0 (Qd.cells x47)),(22,.at_ (Int.toNat (wr64 (a2+v35)))),(23,.idx 0 (Qd.cells x49))],[(21,.row 0 ((v36.set (Int.toNat (wr64 (a1+v35))) x45).map Qd.cells)),(23,.row 0 (((v36.set (Int.toNat (wr64 (a1+v35))) x45).set (Int.toNat (wr64 (a2+v35))) x47).map Qd.cells))]),j3] [some true] [] [] [0,1,2,3,10] (.norm,(f89r1n1S a1 a2 a3 (wr64 (v35+1)) ((v36.set (Int.toNat (wr64 (a1+v35))) x45).set (Int.toNat (wr64 (a2+v35))) x47))) (ap h38 (ap (Qi h46).1 (ap (Qag Qd.cells (Qi h46).2) (ap (Qn Qd.cells (Qi h46).2) (ap (Qi h48).1 (ap (Qag Qd.cells (Qi h48).2) (ap (Qn Qd.cells (Qi h48).2) (ap (Qi h48).1 (ap (Qag Qd.cells (Qi h48).2) (ap (Qn Qd.cells (Qi h48).2) (ap (set_cv (xs:=v36) (c:=Qd.cells) (k:=(Int.toNat (wr64 (a1+v35)))) (x:=x45)) (ap (Qi h50).1 (ap (Qag Qd.cells (Qi h50).2) (ap (Qn Qd.cells (Qi h50).2) (ap (set_cv (xs:=(v36.set (Int.toNat (wr64 (a1+v35))) x45)) (c:=Qd.cells) (k:=(Int.toNat (wr64 (a2+v35)))) (x:=x47)) an))))))))))))))) (Qt.norm ⟨(wr64 (v35+1)),((v36.set (Int.toNat (wr64 (a1+v35))) x45).set (Int.toNat (wr64 (a2+v35))) x47),rfl,h⟩)
  ·obtain rfl:=Qg h;exact rK Qh 1 [j3] [some false] [] [] [] (.exit 0) ((f89r1n1E a1 a2 a3 (.exit0 v36)).2) (ap h38 an) (Qt.out rfl rfl)
inductive f89r1n0O where
 | norm (v55:List Qd)
def f89r1n0E(a1 a2 a3:Int)(a4:List Qd):f89r1n0O→Ex×Tr×Hp
 | .norm v55=>(.norm,mkS [],[jR 6 Qd.cells v55])
def f89r1n0S(a1 a2 a3:Int)(a4:List Qd):Tr×Hp:=(Qan [(.own 0),(jI a1),(jI a2),(jI a3),(.pl (.fn 55))] 0 .leaf,[jR 6 Qd.cells a4])
noncomputable def f89r1n0(a1 a2 a3:Int)(a4:List Qd):Option f89r1n0O :=
 (f89r1n1 FUEL a1 a2 a3 0 a4).bind fun o52=>match o52 with
 | .exit0 v54=>some (.norm v54)
theorem f89r1n0_ok(a1 a2 a3:Int)(a4:List Qd){o:f89r1n0O}(h:f89r1n0 a1 a2 a3 a4=some o):T Try.prog Try.f89.ntmps 1 c89 (f89r1n0S a1 a2 a3 a4) (·=f89r1n0E a1 a2 a3 a4 o):=by
 unfold f89r1n0 at h;refine rN Qh 1 [j3] [] [] [] [0,1,2,3,10] (f89r1n1S a1 a2 a3 0 a4) an ?_;obtain ⟨o52,h53,h⟩:=Qf h;cases o52 with
 | exit0 v54 =>
  obtain rfl:=Qg h;exact T.last' (T.bl (i:=0) (by kernel_rfl) (by kernel_rfl) (f89r1n1_ok FUEL a1 a2 a3 0 a4 h53)) (tds:=[]) (m:=[]) (keep:=[]) (st2:=(f89r1n0E a1 a2 a3 a4 (.norm v54)).2) (by kernel_rfl) an rfl
noncomputable def f89r1(a1 a2 a3:Int)(a4:List Qd):Option (List Qd):=(f89r1n0 a1 a2 a3 a4).bind fun o=>match o with
 | .norm v55=>some v55
theorem f89r1_ok(a1 a2 a3:Int)(a4:List Qd){r:List Qd}(h:f89r1 a1 a2 a3 a4=some r):Qp Try.prog true 89 [(.own 0),(jI a1),(jI a2),(jI a3),(.pl (.fn 55))] [jR 6 Qd.cells a4] (.tup []) [jR 6 Qd.cells r]:=by
 unfold f89r1 at h;obtain ⟨o,ho,h⟩:=Qf h;cases o with
 | norm v55 =>
  obtain rfl:=Qg h;exact Qp.shared Qh (f:=Try.f89) (c:=c89) (by kernel_rfl) (by kernel_rfl) (by kernel_rfl) ((f89r1n0_ok a1 a2 a3 a4 ho).mono fun r e=>by subst e; exact ⟨.inr rfl,by kernel_rfl,by kernel_rfl⟩)

noncomputable def c87:Code:=Try.f87.body.getD .skip
inductive f87r1n1O where
 | exit0 (v47:Int) (v48:List Qd)
def f87r1n1E(a2:Int):f87r1n1O→Ex×Tr×Hp
 | .exit0 v47 v48=>((.exit 0),mkS [(0,(.own 0)),(2,(jI a2)),(4,(.pl (.fn 55))),(10,(jI v47))],[jR 6 Qd.cells v48])
def f87r1n1S(a2 v32 v33:Int)(v34:List Qd):Tr×Hp:=(mkS [(0,(.own 0)),(2,(jI a2)),(4,(.pl (.fn 55))),(10,(jI v32)),(11,(jI v33))],[jR 6 Qd.cells v34])
noncomputable def f87r1n1:Nat→Int→Int→Int→List Qd→Option f87r1n1O
 | 0,_,_,_,_=>none
 | f+1,a2,v32,v33,v34 =>
  bif decide (v32=v33) then
   some (.exit0 v32 v34)
  else
   bif decide (v33<v32) then
    (f89r1 (wr64 (a2-v32)) a2 v33 v34).bind fun x43 =>
    (f87r1n1 f a2 (wr64 (v32-v33)) v33 x43)
   else
    (f89r1 (wr64 (a2-v32)) (wr64 ((wr64 (a2+v33))-v32)) v32 v34).bind fun x45 =>
    (f87r1n1 f a2 v32 (wr64 (v33-v32)) x45)
theorem f87r1n1_ok:∀(f:Nat)(a2 v32 v33:Int)(v34:List Qd){o:f87r1n1O},f87r1n1 f a2 v32 v33 v34=some o→TL Try.prog Try.f87.ntmps 1 f (cL (cL (cL (Qk 2 c87)))) (f87r1n1S a2 v32 v33 v34) (·=f87r1n1E a2 o)
 | 0,_,_,_,_,o,h=>by rw [f87r1n1] at h; cases h
 | f+1,a2,v32,v33,v34,o,h=>by
  rw [f87r1n1] at h;refine TL.body (K:=fun s=>∃v32:Int,∃v33:Int,∃v34:List Qd,s=(f87r1n1S a2 v32 v33 v34)∧f87r1n1 f a2 v32 v33 v34=some o) ?_ (by rintro _ ⟨v32,v33,v34,rfl,hk⟩; exact f87r1n1_ok f _ _ _ _ hk);rcases Qj h with ⟨h36,h⟩|⟨h36,h⟩
  ·obtain rfl:=Qg h;exact rK Qh 1 [j3] [some false] [] [] [0,2,4,10] (.exit 0) ((f87r1n1E a2 (.exit0 v32 v34)).2) (ap (Qal h36) an) (Qt.out rfl rfl)
  ·rcases Qj h with ⟨h42,h⟩|⟨h42,h⟩
   ·obtain ⟨x43,h44,h⟩:=Qf h;exact rE Qh [j3,j3,([],[(7,.call (.tup []) [jR 6 Qd.cells x43])],[]),j3] [some true,some true] [] [] [0,2,4,10,11] (.norm,(f87r1n1S a2 (wr64 (v32-v33)) v33 x43)) (ap (Qau h36) (ap h42 (ap (f89r1_ok (wr64 (a2-v32)) a2 v33 v34 h44) an))) (Qt.norm ⟨(wr64 (v32-v33)),v33,x43,rfl,h⟩)
   ·obtain ⟨x45,h46,h⟩:=Qf h;exact rE Qh [j3,j3,([],[(11,.call (.tup []) [jR 6 Qd.cells x45])],[]),j3] [some true,some false] [] [] [0,2,4,10,11] (.norm,(f87r1n1S a2 v32 (wr64 (v33-v32)) x45)) (ap (Qau h36) (ap h42 (ap (f89r1_ok (wr64 (a2-v32)) (wr64 ((wr64 (a2+v33))-v32)) v32 v34 h46) an))) (Qt.norm ⟨v32,(wr64 (v33-v32)),x45,rfl,h⟩)
inductive f87r1n0O where
 | norm (v57:List Qd)
def f87r1n0E(a1 a2 a3:Int)(a4:List Qd):f87r1n0O→Ex×Tr×Hp
 | .norm v57=>(.norm,mkS [],[jR 6 Qd.cells v57])
def f87r1n0S(a1 a2 a3:Int)(a4:List Qd):Tr×Hp:=(Qan [(.own 0),(jI a1),(jI a2),(jI a3),(.pl (.fn 55))] 0 .leaf,[jR 6 Qd.cells a4])
noncomputable def f87r1n0(a1 a2 a3:Int)(a4:List Qd):Option f87r1n0O :=
 (f87r1n1 FUEL a2 (wr64 (a2-a1)) (wr64 (a3-a2)) a4).bind fun o49=>match o49 with
 | .exit0 v51 v52=>(f89r1 (wr64 (a2-v51)) a2 v51 v52).bind fun x55 =>
  some (.norm x55)
theorem f87r1n0_ok(a1 a2 a3:Int)(a4:List Qd){o:f87r1n0O}(h:f87r1n0 a1 a2 a3 a4=some o):T Try.prog Try.f87.ntmps 1 c87 (f87r1n0S a1 a2 a3 a4) (·=f87r1n0E a1 a2 a3 a4 o):=by
 unfold f87r1n0 at h;refine rN Qh 2 [j3,j3] [] [] [] [0,2,4,10,11] (f87r1n1S a2 (wr64 (a2-a1)) (wr64 (a3-a2)) a4) an ?_;obtain ⟨o49,h50,h⟩:=Qf h;cases o49 with
 | exit0 v51 v52 =>
  refine T.oneN (by kernel_rfl) (T.bl (i:=0) (by kernel_rfl) (by kernel_rfl) (f87r1n1_ok FUEL a2 (wr64 (a2-a1)) (wr64 (a3-a2)) a4 h50)) (st2:=(f87r1n1E a2 (.exit0 v51 v52)).2) rfl ?_;obtain ⟨x55,h56,h⟩:=Qf h;obtain rfl:=Qg h;exact rE Qh [([],[(7,.call (.tup []) [jR 6 Qd.cells x55])],[])] [] [] [] [] (.norm,(f87r1n0E a1 a2 a3 a4 (.norm x55)).2) (ap (f89r1_ok (wr64 (a2-v51)) a2 v51 v52 h56) an) rfl
noncomputable def f87r1(a1 a2 a3:Int)(a4:List Qd):Option (List Qd):=(f87r1n0 a1 a2 a3 a4).bind fun o=>match o with
 | .norm v57=>some v57
theorem f87r1_ok(a1 a2 a3:Int)(a4:List Qd){r:List Qd}(h:f87r1 a1 a2 a3 a4=some r):Qp Try.prog true 87 [(.own 0),(jI a1),(jI a2),(jI a3),(.pl (.fn 55))] [jR 6 Qd.cells a4] (.tup []) [jR 6 Qd.cells r]:=by
 unfold f87r1 at h;obtain ⟨o,ho,h⟩:=Qf h;cases o with
 | norm v57 =>
  obtain rfl:=Qg h;exact Qp.shared Qh (f:=Try.f87) (c:=c87) (by kernel_rfl) (by kernel_rfl) (by kernel_rfl) ((f87r1n0_ok a1 a2 a3 a4 ho).mono fun r e=>by subst e; exact ⟨.inr rfl,by kernel_rfl,by kernel_rfl⟩)

noncomputable def c81:Code:=Try.f81.body.getD .skip
inductive f81r1n3O where
 | exit0 (v58:Int)
def f81r1n3E(bd1:Int)(bf4:List Qd):f81r1n3O→Ex×Tr×Hp
 | .exit0 v58=>((.exit 0),mkS [(0,(.own 0)),(1,(jI bd1)),(10,(jI v58))],[jR 6 Qd.cells bf4])
def f81r1n3S(bd1:Int)(bf4:List Qd)(v40 v41:Int):Tr×Hp:=(mkS [(0,(.own 0)),(1,(jI bd1)),(4,(.pl (.fn 55))),(10,(jI v40)),(11,(jI v41))],[jR 6 Qd.cells bf4])
noncomputable def f81r1n3 (self:(Int→Int→Int→List Qd→Option (List Qd))):Nat→Int→List Qd→Int→Int→Option f81r1n3O
 | 0,_,_,_,_=>none
 | f+1,bd1,bf4,v40,v41 =>
  bif decide (v40<v41) then
   (at? bf4 (wr64 (shrK .u64 (Qs (wr64 (v40+v41))) 1))).bind fun x51 =>
   (at? bf4 bd1).bind fun x53 =>
   (f55 x51 x53).bind fun x55 =>
   bif decide (x55<0) then
    (f81r1n3 self f bd1 bf4 (wr64 ((wr64 (shrK .u64 (Qs (wr64 (v40+v41))) 1))+1)) v41)
   else
    (f81r1n3 self f bd1 bf4 v40 (wr64 (shrK .u64 (Qs (wr64 (v40+v41))) 1)))
  else
   some (.exit0 v40)
theorem f81r1n3_ok {self:(Int→Int→Int→List Qd→Option (List Qd))} (self_ok:(∀(a1 a2 a3:Int)(a4:List Qd){r:List Qd},self a1 a2 a3 a4=some r→Qp Try.prog true 81 [(.own 0),(jI a1),(jI a2),(jI a3),(.pl (.fn 55))] [jR 6 Qd.cells a4] (.tup []) [jR 6 Qd.cells r])):∀(f:Nat)(bd1:Int)(bf4:List Qd)(v40 v41:Int){o:f81r1n3O},f81r1n3 self f bd1 bf4 v40 v41=some o→TL Try.prog Try.f81.ntmps 1 f (cL (cL (cL (Qk 2 (cL (Qk 1 (cL (Qk 0 c81)))))))) (f81r1n3S bd1 bf4 v40 v41) (·=f81r1n3E bd1 bf4 o)
 | 0,_,_,_,_,o,h=>by rw [f81r1n3] at h; cases h
 | f+1,bd1,bf4,v40,v41,o,h=>by
  rw [f81r1n3] at h;refine TL.body (K:=fun s=>∃v40:Int,∃v41:Int,s=(f81r1n3S bd1 bf4 v40 v41)∧f81r1n3 self f bd1 bf4 v40 v41=some o) ?_ (by rintro _ ⟨v40,v41,rfl,hk⟩; exact f81r1n3_ok self_ok f _ _ _ _ hk);rcases Qj h with ⟨h43,h⟩|⟨h43,h⟩
  ·obtain ⟨x51,h52,h⟩:=Qf h;obtain ⟨x53,h54,h⟩:=Qf h;obtain ⟨x55,h56,h⟩:=Qf h;rcases Qj h with ⟨h57,h⟩|⟨h57,h⟩
   ·exact rE Qh [j3,j3,([],[(3,.at_ (Int.toNat (wr64 (shrK .u64 (Qs (wr64 (v40+v41))) 1)))),(4,.idx 0 (Qd.cells x51)),(7,.at_ (Int.toNat bd1)),(8,.idx 0 (Qd.cells x53)),jH 9 (jI x55)],[]),j3] [some true,some true] [] [] [0,1,4,10,11] (.norm,(f81r1n3S bd1 bf4 (wr64 ((wr64 (shrK .u64 (Qs (wr64 (v40+v41))) 1))+1)) v41)) (ap h43 (ap (Qi h52).1 (ap (Qag Qd.cells (Qi h52).2) (ap (Qn Qd.cells (Qi h52).2) (ap (Qi h54).1 (ap (Qag Qd.cells (Qi h54).2) (ap (Qn Qd.cells (Qi h54).2) (ap (f55_ok x51 x53 h56) (ap h57 an))))))))) (Qt.norm ⟨(wr64 ((wr64 (shrK .u64 (Qs (wr64 (v40+v41))) 1))+1)),v41,rfl,h⟩)
   ·exact rE Qh [j3,j3,([],[(3,.at_ (Int.toNat (wr64 (shrK .u64 (Qs (wr64 (v40+v41))) 1)))),(4,.idx 0 (Qd.cells x51)),(7,.at_ (Int.toNat bd1)),(8,.idx 0 (Qd.cells x53)),jH 9 (jI x55)],[]),j3] [some true,some false] [] [] [0,1,4,10,11] (.norm,(f81r1n3S bd1 bf4 v40 (wr64 (shrK .u64 (Qs (wr64 (v40+v41))) 1)))) (ap h43 (ap (Qi h52).1 (ap (Qag Qd.cells (Qi h52).2) (ap (Qn Qd.cells (Qi h52).2) (ap (Qi h54).1 (ap (Qag Qd.cells (Qi h54).2) (ap (Qn Qd.cells (Qi h54).2) (ap (f55_ok x51 x53 h56) (ap h57 an))))))))) (Qt.norm ⟨v40,(wr64 (shrK .u64 (Qs (wr64 (v40+v41))) 1)),rfl,h⟩)
  ·obtain rfl:=Qg h;exact rK Qh 1 [j3] [some false] [] [] [0,1,10] (.exit 0) ((f81r1n3E bd1 bf4 (.exit0 v40)).2) (ap h43 an) (Qt.out rfl rfl)
inductive f81r1n5O where
 | exit2 (v108:List Qd)
def f81r1n5E(bd2:Int):f81r1n5O→Ex×Tr×Hp
 | .exit2 v108=>((.exit 2),mkS [],[jR 6 Qd.cells v108])
def f81r1n5S(bd2 v92:Int)(v93:List Qd):Tr×Hp:=(mkS [(0,(.own 0)),(10,(jI bd2)),(13,(jI v92))],[jR 6 Qd.cells v93])
noncomputable def f81r1n5 (self:(Int→Int→Int→List Qd→Option (List Qd))):Nat→Int→Int→List Qd→Option f81r1n5O
 | 0,_,_,_=>none
 | f+1,bd2,v92,v93 =>
  bif (decide (v92<(wr64 (bd2-1)))) then
   (at? v93 (wr64 (v92+1))).bind fun x102 =>
   (at? v93 v92).bind fun x104 =>
   (at? (v93.set (Int.toNat v92) x102) (wr64 (v92+1))).bind fun x106 =>
   (f81r1n5 self f bd2 (wr64 (v92+1)) ((v93.set (Int.toNat v92) x102).set (Int.toNat (wr64 (v92+1))) x104))
  else
   some (.exit2 v93)
theorem f81r1n5_ok {self:(Int→Int→Int→List Qd→Option (List Qd))} (self_ok:(∀(a1 a2 a3:Int)(a4:List Qd){r:List Qd},self a1 a2 a3 a4=some r→Qp Try.prog true 81 [(.own 0),(jI a1),(jI a2),(jI a3),(.pl (.fn 55))] [jR 6 Qd.cells a4] (.tup []) [jR 6 Qd.cells r])):∀(f:Nat)(bd2 v92:Int)(v93:List Qd){o:f81r1n5O},f81r1n5 self f bd2 v92 v93=some o→TL Try.prog Try.f81.ntmps 1 f (cL (cL (Qk 1 (cL (Qk 0 (Qk 1 (Qk 2 (cL (Qk 1 (cL (Qk 0 c81))))))))))) (f81r1n5S bd2 v92 v93) (·=f81r1n5E bd2 o)
 | 0,_,_,_,o,h=>by rw [f81r1n5] at h; cases h
 | f+1,bd2,v92,v93,o,h=>by
  rw [f81r1n5] at h;refine TL.body (K:=fun s=>∃v92:Int,∃v93:List Qd,s=(f81r1n5S bd2 v92 v93)∧f81r1n5 self f bd2 v92 v93=some o) ?_ (by rintro _ ⟨v92,v93,rfl,hk⟩; exact f81r1n5_ok self_ok f _ _ _ hk);rcases Qj h with ⟨h95,h⟩|⟨h95,h⟩
  ·obtain ⟨x102,h103,h⟩:=Qf h;obtain ⟨x104,h105,h⟩:=Qf h;obtain ⟨x106,h107,h⟩:=Qf h
   exact rE Qh [j3,([],[(8,.at_ (Int.toNat (wr64 (v92+1)))),(9,.idx 0 (Qd.cells x102)),(12,.at_ (Int.toNat v92)),(13,.idx 0 (Qd.cells x104)),(14,.at_ (Int.toNat v92)),(15,.idx 0 (Qd.cells x104)),(16,.at_ (Int.toNat (wr64 (v92+1)))),(17,.idx 0 (Qd.cells x106))],[(15,.row 0 ((v93.set (Int.toNat v92) x102).map Qd.cells)),(17,.row 0 (((v93.set (Int.toNat v92) x102).set (Int.toNat (wr64 (v92+1))) x104).map Qd.cells))]),j3] [some true] [] [] [0,10,13] (.norm,(f81r1n5S bd2 (wr64 (v92+1)) ((v93.set (Int.toNat v92) x102).set (Int.toNat (wr64 (v92+1))) x104))) (ap h95 (ap (Qi h103).1 (ap (Qag Qd.cells (Qi h103).2) (ap (Qn Qd.cells (Qi h103).2) (ap (Qi h105).1 (ap (Qag Qd.cells (Qi h105).2) (ap (Qn Qd.cells (Qi h105).2) (ap (Qi h105).1 (ap (Qag Qd.cells (Qi h105).2) (ap (Qn Qd.cells (Qi h105).2) (ap (set_cv (xs:=v93) (c:=Qd.cells) (k:=(Int.toNat v92)) (x:=x102)) (ap (Qi h107).1 (ap (Qag Qd.cells (Qi h107).2) (ap (Qn Qd.cells (Qi h107).2) (ap (set_cv (xs:=(v93.set (Int.toNat v92) x102)) (c:=Qd.cells) (k:=(Int.toNat (wr64 (v92+1)))) (x:=x104)) an))))))))))))))) (Qt.norm ⟨(wr64 (v92+1)),((v93.set (Int.toNat v92) x102).set (Int.toNat (wr64 (v92+1))) x104),rfl,h⟩)
  ·obtain rfl:=Qg h;exact rK Qh 1 [j3] [some false] [] [] [] (.exit 2) ((f81r1n5E bd2 (.exit2 v93)).2) (ap h95 an) (Qt.out rfl rfl)
inductive f81r1n4O where
 | norm (v112:List Qd)
def f81r1n4E(bd1 bd2:Int)(bf3:List Qd):f81r1n4O→Ex×Tr×Hp
 | .norm v112=>(.norm,mkS [],[jR 6 Qd.cells v112])
def f81r1n4S(bd1 bd2:Int)(bf3:List Qd):Tr×Hp:=(mkS [(0,(.own 0)),(1,(jI bd1)),(10,(jI bd2))],[jR 6 Qd.cells bf3])
noncomputable def f81r1n4 (self:(Int→Int→Int→List Qd→Option (List Qd))) (bd1:Int) (bd2:Int) (bf3:List Qd):Option f81r1n4O :=
 (f81r1n5 self FUEL bd2 bd1 bf3).bind fun o109=>match o109 with
 | .exit2 v111=>some (.norm v111)
theorem f81r1n4_ok {self:(Int→Int→Int→List Qd→Option (List Qd))} (self_ok:(∀(a1 a2 a3:Int)(a4:List Qd){r:List Qd},self a1 a2 a3 a4=some r→Qp Try.prog true 81 [(.own 0),(jI a1),(jI a2),(jI a3),(.pl (.fn 55))] [jR 6 Qd.cells a4] (.tup []) [jR 6 Qd.cells r])) (bd1:Int) (bd2:Int) (bf3:List Qd) {o:f81r1n4O} (h:f81r1n4 self bd1 bd2 bf3=some o):T Try.prog Try.f81.ntmps 1 (cL (Qk 0 (Qk 1 (Qk 2 (cL (Qk 1 (cL (Qk 0 c81)))))))) (f81r1n4S bd1 bd2 bf3) (·=f81r1n4E bd1 bd2 bf3 o):=by
 unfold f81r1n4 at h;refine rN Qh 1 [j3] [] [] [] [0,10,13] (f81r1n5S bd2 bd1 bf3) an ?_;obtain ⟨o109,h110,h⟩:=Qf h;cases o109 with
 | exit2 v111 =>
  obtain rfl:=Qg h;exact T.last' (T.bl (i:=2) (by kernel_rfl) (by kernel_rfl) (f81r1n5_ok self_ok FUEL bd2 bd1 bf3 h110)) (tds:=[]) (m:=[]) (keep:=[]) (st2:=(f81r1n4E bd1 bd2 bf3 (.norm v111)).2) (by kernel_rfl) an rfl
inductive f81r1n2O where
 | norm
 | ret (v116:List Qd)
def f81r1n2E(bd1 bd2 bd3:Int)(bf4:List Qd):f81r1n2O→Ex×Tr×Hp
 | .norm=>(.norm,mkS [(0,(.own 0)),(1,(jI bd1)),(2,(jI bd2)),(3,(jI bd3)),(4,(.pl (.fn 55)))],[jR 6 Qd.cells bf4])
 | .ret v116=>(.ret,mkS [],[jR 6 Qd.cells v116])
def f81r1n2S(bd1 bd2 bd3:Int)(bf4:List Qd):Tr×Hp:=(mkS [(0,(.own 0)),(1,(jI bd1)),(2,(jI bd2)),(3,(jI bd3)),(4,(.pl (.fn 55))),(28,(.pl (.bool (decide ((wr64 (bd2-bd1))=1)))))],[jR 6 Qd.cells bf4])
noncomputable def f81r1n2 (self:(Int→Int→Int→List Qd→Option (List Qd))) (bd1:Int) (bd2:Int) (bd3:Int) (bf4:List Qd):Option f81r1n2O :=
 bif (decide ((wr64 (bd2-bd1))=1)) then
  (f81r1n3 self FUEL bd1 bf4 bd2 bd3).bind fun o59=>match o59 with
  | .exit0 v61=>(f81r1n4 self bd1 v61 bf4).bind fun o113=>match o113 with
   | .norm v115=>some (.ret v115)
 else
  some .norm
theorem f81r1n2_ok {self:(Int→Int→Int→List Qd→Option (List Qd))} (self_ok:(∀(a1 a2 a3:Int)(a4:List Qd){r:List Qd},self a1 a2 a3 a4=some r→Qp Try.prog true 81 [(.own 0),(jI a1),(jI a2),(jI a3),(.pl (.fn 55))] [jR 6 Qd.cells a4] (.tup []) [jR 6 Qd.cells r])) (bd1:Int) (bd2:Int) (bd3:Int) (bf4:List Qd) {o:f81r1n2O} (h:f81r1n2 self bd1 bd2 bd3 bf4=some o):T Try.prog Try.f81.ntmps 1 (Qk 1 (cL (Qk 0 c81))) (f81r1n2S bd1 bd2 bd3 bf4) (·=f81r1n2E bd1 bd2 bd3 bf4 o):=by
 unfold f81r1n2 at h;rcases Qj h with ⟨h5,h⟩|⟨h5,h⟩
 ·refine T.condT (o:=.tmp 28) (b:=(decide ((wr64 (bd2-bd1))=1))) (by kernel_rfl) (by kernel_rfl) h5 ?_;refine rN Qh 2 [j3,j3] [] [] [] [0,1,4,10,11] (f81r1n3S bd1 bf4 bd2 bd3) an ?_;obtain ⟨o59,h60,h⟩:=Qf h;cases o59 with
  | exit0 v61 =>
   refine T.oneN (by kernel_rfl) (T.bl (i:=0) (by kernel_rfl) (by kernel_rfl) (f81r1n3_ok self_ok FUEL bd1 bf4 bd2 bd3 h60)) (st2:=(f81r1n3E bd1 bf4 (.exit0 v61)).2) rfl ?_;refine rN Qh 0 [] [] [] [] [0,1,10] (f81r1n4S bd1 v61 bf4) an ?_;obtain ⟨o113,h114,h⟩:=Qf h;cases o113 with
   | norm v115 =>
    refine T.oneN (by kernel_rfl) (f81r1n4_ok self_ok bd1 v61 bf4 h114) (st2:=(f81r1n4E bd1 v61 bf4 (.norm v115)).2) rfl ?_;obtain rfl:=Qg h;exact rE Qh [] [] [] [] [] (.ret,(f81r1n2E bd1 bd2 bd3 bf4 (.ret v115)).2) an rfl
 ·refine T.condF (o:=.tmp 28) (b:=(decide ((wr64 (bd2-bd1))=1))) (by kernel_rfl) (by kernel_rfl) h5 ?_;obtain rfl:=Qg h;exact rE Qh [] [] [] [] [0,1,2,3,4] (.norm,(f81r1n2E bd1 bd2 bd3 bf4 .norm).2) an rfl
inductive f81r1n1O where
 | norm
 | ret (v120:List Qd)
def f81r1n1E(bd1 bd2 bd3:Int)(bf4:List Qd):f81r1n1O→Ex×Tr×Hp
 | .norm=>(.norm,mkS [(0,(.own 0)),(1,(jI bd1)),(2,(jI bd2)),(3,(jI bd3)),(4,(.pl (.fn 55)))],[jR 6 Qd.cells bf4])
 | .ret v120=>(.ret,mkS [],[jR 6 Qd.cells v120])
def f81r1n1S(bd1 bd2 bd3:Int)(bf4:List Qd):Tr×Hp:=(mkS [(0,(.own 0)),(1,(jI bd1)),(2,(jI bd2)),(3,(jI bd3)),(4,(.pl (.fn 55)))],[jR 6 Qd.cells bf4])
noncomputable def f81r1n1 (self:(Int→Int→Int→List Qd→Option (List Qd))) (bd1:Int) (bd2:Int) (bd3:Int) (bf4:List Qd):Option f81r1n1O :=
 (f81r1n2 self bd1 bd2 bd3 bf4).bind fun o117=>match o117 with
 | .norm=>some .norm
 | .ret v119=>some (.ret v119)
theorem f81r1n1_ok {self:(Int→Int→Int→List Qd→Option (List Qd))} (self_ok:(∀(a1 a2 a3:Int)(a4:List Qd){r:List Qd},self a1 a2 a3 a4=some r→Qp Try.prog true 81 [(.own 0),(jI a1),(jI a2),(jI a3),(.pl (.fn 55))] [jR 6 Qd.cells a4] (.tup []) [jR 6 Qd.cells r])) (bd1:Int) (bd2:Int) (bd3:Int) (bf4:List Qd) {o:f81r1n1O} (h:f81r1n1 self bd1 bd2 bd3 bf4=some o):T Try.prog Try.f81.ntmps 1 (cL (Qk 0 c81)) (f81r1n1S bd1 bd2 bd3 bf4) (·=f81r1n1E bd1 bd2 bd3 bf4 o):=by
 unfold f81r1n1 at h;refine rN Qh 1 [j3] [] [] [] [0,1,2,3,4,28] (f81r1n2S bd1 bd2 bd3 bf4) an ?_;obtain ⟨o117,h118,h⟩:=Qf h;cases o117 with
 | norm =>
  obtain rfl:=Qg h;exact T.last' (f81r1n2_ok self_ok bd1 bd2 bd3 bf4 h118) (tds:=[]) (m:=[]) (keep:=[0,1,2,3,4]) (st2:=(f81r1n1E bd1 bd2 bd3 bf4 .norm).2) (by kernel_rfl) an rfl
 | ret v119 =>
  obtain rfl:=Qg h;exact T.last' (f81r1n2_ok self_ok bd1 bd2 bd3 bf4 h118) (tds:=[]) (m:=[]) (keep:=[]) (st2:=(f81r1n1E bd1 bd2 bd3 bf4 (.ret v119)).2) (by kernel_rfl) an rfl
inductive f81r1n8O where
 | exit4 (v176:Int)
def f81r1n8E(bd2:Int)(bf4:List Qd):f81r1n8O→Ex×Tr×Hp
 | .exit4 v176=>((.exit 4),mkS [(0,(.own 0)),(2,(jI bd2)),(14,(jI v176))],[jR 6 Qd.cells bf4])
def f81r1n8S(bd2:Int)(bf4:List Qd)(v158 v159:Int):Tr×Hp:=(mkS [(0,(.own 0)),(2,(jI bd2)),(4,(.pl (.fn 55))),(14,(jI v158)),(15,(jI v159))],[jR 6 Qd.cells bf4])
noncomputable def f81r1n8 (self:(Int→Int→Int→List Qd→Option (List Qd))):Nat→Int→List Qd→Int→Int→Option f81r1n8O
 | 0,_,_,_,_=>none
 | f+1,bd2,bf4,v158,v159 =>
  bif decide (v158<v159) then
   (at? bf4 bd2).bind fun x169 =>
   (at? bf4 (wr64 (shrK .u64 (Qs (wr64 (v158+v159))) 1))).bind fun x171 =>
   (f55 x169 x171).bind fun x173 =>
   bif decide (x173<0) then
    (f81r1n8 self f bd2 bf4 v158 (wr64 (shrK .u64 (Qs (wr64 (v158+v159))) 1)))
   else
    (f81r1n8 self f bd2 bf4 (wr64 ((wr64 (shrK .u64 (Qs (wr64 (v158+v159))) 1))+1)) v159)
  else
   some (.exit4 v158)
theorem f81r1n8_ok {self:(Int→Int→Int→List Qd→Option (List Qd))} (self_ok:(∀(a1 a2 a3:Int)(a4:List Qd){r:List Qd},self a1 a2 a3 a4=some r→Qp Try.prog true 81 [(.own 0),(jI a1),(jI a2),(jI a3),(.pl (.fn 55))] [jR 6 Qd.cells a4] (.tup []) [jR 6 Qd.cells r])):∀(f:Nat)(bd2:Int)(bf4:List Qd)(v158 v159:Int){o:f81r1n8O},f81r1n8 self f bd2 bf4 v158 v159=some o→TL Try.prog Try.f81.ntmps 1 f (cL (cL (cL (Qk 2 (cL (Qk 1 (cL (Qk 0 (Qk 1 (Qk 0 c81)))))))))) (f81r1n8S bd2 bf4 v158 v159) (·=f81r1n8E bd2 bf4 o)
 | 0,_,_,_,_,o,h=>by rw [f81r1n8] at h; cases h
 | f+1,bd2,bf4,v158,v159,o,h=>by
  rw [f81r1n8] at h;refine TL.body (K:=fun s=>∃v158:Int,∃v159:Int,s=(f81r1n8S bd2 bf4 v158 v159)∧f81r1n8 self f bd2 bf4 v158 v159=some o) ?_ (by rintro _ ⟨v158,v159,rfl,hk⟩; exact f81r1n8_ok self_ok f _ _ _ _ hk);rcases Qj h with ⟨h161,h⟩|⟨h161,h⟩
  ·obtain ⟨x169,h170,h⟩:=Qf h;obtain ⟨x171,h172,h⟩:=Qf h;obtain ⟨x173,h174,h⟩:=Qf h;rcases Qj h with ⟨h175,h⟩|⟨h175,h⟩
   ·exact rE Qh [j3,j3,([],[(3,.at_ (Int.toNat bd2)),(4,.idx 0 (Qd.cells x169)),(7,.at_ (Int.toNat (wr64 (shrK .u64 (Qs (wr64 (v158+v159))) 1)))),(8,.idx 0 (Qd.cells x171)),jH 9 (jI x173)],[]),j3] [some true,some false] [] [] [0,2,4,14,15] (.norm,(f81r1n8S bd2 bf4 v158 (wr64 (shrK .u64 (Qs (wr64 (v158+v159))) 1)))) (ap h161 (ap (Qi h170).1 (ap (Qag Qd.cells (Qi h170).2) (ap (Qn Qd.cells (Qi h170).2) (ap (Qi h172).1 (ap (Qag Qd.cells (Qi h172).2) (ap (Qn Qd.cells (Qi h172).2) (ap (f55_ok x169 x171 h174) (ap (Qal h175) an))))))))) (Qt.norm ⟨v158,(wr64 (shrK .u64 (Qs (wr64 (v158+v159))) 1)),rfl,h⟩)
   ·exact rE Qh [j3,j3,([],[(3,.at_ (Int.toNat bd2)),(4,.idx 0 (Qd.cells x169)),(7,.at_ (Int.toNat (wr64 (shrK .u64 (Qs (wr64 (v158+v159))) 1)))),(8,.idx 0 (Qd.cells x171)),jH 9 (jI x173)],[]),j3] [some true,some true] [] [] [0,2,4,14,15] (.norm,(f81r1n8S bd2 bf4 (wr64 ((wr64 (shrK .u64 (Qs (wr64 (v158+v159))) 1))+1)) v159)) (ap h161 (ap (Qi h170).1 (ap (Qag Qd.cells (Qi h170).2) (ap (Qn Qd.cells (Qi h170).2) (ap (Qi h172).1 (ap (Qag Qd.cells (Qi h172).2) (ap (Qn Qd.cells (Qi h172).2) (ap (f55_ok x169 x171 h174) (ap (Qau h175) an))))))))) (Qt.norm ⟨(wr64 ((wr64 (shrK .u64 (Qs (wr64 (v158+v159))) 1))+1)),v159,rfl,h⟩)
  ·obtain rfl:=Qg h;exact rK Qh 1 [j3] [some false] [] [] [0,2,14] (.exit 4) ((f81r1n8E bd2 bf4 (.exit4 v158)).2) (ap h161 an) (Qt.out rfl rfl)
inductive f81r1n10O where
 | exit6 (v226:List Qd)
def f81r1n10E(bd2:Int):f81r1n10O→Ex×Tr×Hp
 | .exit6 v226=>((.exit 6),mkS [],[jR 6 Qd.cells v226])
def f81r1n10S(bd2 v210:Int)(v211:List Qd):Tr×Hp:=(mkS [(0,(.own 0)),(14,(jI bd2)),(17,(jI v210))],[jR 6 Qd.cells v211])
noncomputable def f81r1n10 (self:(Int→Int→Int→List Qd→Option (List Qd))):Nat→Int→Int→List Qd→Option f81r1n10O
 | 0,_,_,_=>none
 | f+1,bd2,v210,v211 =>
  bif decide (bd2<v210) then
   (at? v211 (wr64 (v210-1))).bind fun x220 =>
   (at? v211 v210).bind fun x222 =>
   (at? (v211.set (Int.toNat v210) x220) (wr64 (v210-1))).bind fun x224 =>
   (f81r1n10 self f bd2 (wr64 (v210-1)) ((v211.set (Int.toNat v210) x220).set (Int.toNat (wr64 (v210-1))) x222))
  else
   some (.exit6 v211)
theorem f81r1n10_ok {self:(Int→Int→Int→List Qd→Option (List Qd))} (self_ok:(∀(a1 a2 a3:Int)(a4:List Qd){r:List Qd},self a1 a2 a3 a4=some r→Qp Try.prog true 81 [(.own 0),(jI a1),(jI a2),(jI a3),(.pl (.fn 55))] [jR 6 Qd.cells a4] (.tup []) [jR 6 Qd.cells r])):∀(f:Nat)(bd2 v210:Int)(v211:List Qd){o:f81r1n10O},f81r1n10 self f bd2 v210 v211=some o→TL Try.prog Try.f81.ntmps 1 f (cL (cL (Qk 1 (cL (Qk 0 (Qk 1 (Qk 2 (cL (Qk 1 (cL (Qk 0 (Qk 1 (Qk 0 c81))))))))))))) (f81r1n10S bd2 v210 v211) (·=f81r1n10E bd2 o)
 | 0,_,_,_,o,h=>by rw [f81r1n10] at h; cases h
 | f+1,bd2,v210,v211,o,h=>by
  rw [f81r1n10] at h;refine TL.body (K:=fun s=>∃v210:Int,∃v211:List Qd,s=(f81r1n10S bd2 v210 v211)∧f81r1n10 self f bd2 v210 v211=some o) ?_ (by rintro _ ⟨v210,v211,rfl,hk⟩; exact f81r1n10_ok self_ok f _ _ _ hk);rcases Qj h with ⟨h213,h⟩|⟨h213,h⟩
  ·obtain ⟨x220,h221,h⟩:=Qf h;obtain ⟨x222,h223,h⟩:=Qf h;obtain ⟨x224,h225,h⟩:=Qf h
   exact rE Qh [j3,([],[(8,.at_ (Int.toNat (wr64 (v210-1)))),(9,.idx 0 (Qd.cells x220)),(12,.at_ (Int.toNat v210)),(13,.idx 0 (Qd.cells x222)),(14,.at_ (Int.toNat v210)),(15,.idx 0 (Qd.cells x222)),(16,.at_ (Int.toNat (wr64 (v210-1)))),(17,.idx 0 (Qd.cells x224))],[(15,.row 0 ((v211.set (Int.toNat v210) x220).map Qd.cells)),(17,.row 0 (((v211.set (Int.toNat v210) x220).set (Int.toNat (wr64 (v210-1))) x222).map Qd.cells))]),j3] [some true] [] [] [0,14,17] (.norm,(f81r1n10S bd2 (wr64 (v210-1)) ((v211.set (Int.toNat v210) x220).set (Int.toNat (wr64 (v210-1))) x222))) (ap h213 (ap (Qi h221).1 (ap (Qag Qd.cells (Qi h221).2) (ap (Qn Qd.cells (Qi h221).2) (ap (Qi h223).1 (ap (Qag Qd.cells (Qi h223).2) (ap (Qn Qd.cells (Qi h223).2) (ap (Qi h223).1 (ap (Qag Qd.cells (Qi h223).2) (ap (Qn Qd.cells (Qi h223).2) (ap (set_cv (xs:=v211) (c:=Qd.cells) (k:=(Int.toNat v210)) (x:=x220)) (ap (Qi h225).1 (ap (Qag Qd.cells (Qi h225).2) (ap (Qn Qd.cells (Qi h225).2) (ap (set_cv (xs:=(v211.set (Int.toNat v210) x220)) (c:=Qd.cells) (k:=(Int.toNat (wr64 (v210-1)))) (x:=x222)) an))))))))))))))) (Qt.norm ⟨(wr64 (v210-1)),((v211.set (Int.toNat v210) x220).set (Int.toNat (wr64 (v210-1))) x222),rfl,h⟩)
  ·obtain rfl:=Qg h;exact rK Qh 1 [j3] [some false] [] [] [] (.exit 6) ((f81r1n10E bd2 (.exit6 v211)).2) (ap h213 an) (Qt.out rfl rfl)
inductive f81r1n9O where
 | norm (v230:List Qd)
def f81r1n9E(bd1 bd2:Int)(bf3:List Qd):f81r1n9O→Ex×Tr×Hp
 | .norm v230=>(.norm,mkS [],[jR 6 Qd.cells v230])
def f81r1n9S(bd1 bd2:Int)(bf3:List Qd):Tr×Hp:=(mkS [(0,(.own 0)),(2,(jI bd1)),(14,(jI bd2))],[jR 6 Qd.cells bf3])
noncomputable def f81r1n9 (self:(Int→Int→Int→List Qd→Option (List Qd))) (bd1:Int) (bd2:Int) (bf3:List Qd):Option f81r1n9O :=
 (f81r1n10 self FUEL bd2 bd1 bf3).bind fun o227=>match o227 with
 | .exit6 v229=>some (.norm v229)
theorem f81r1n9_ok {self:(Int→Int→Int→List Qd→Option (List Qd))} (self_ok:(∀(a1 a2 a3:Int)(a4:List Qd){r:List Qd},self a1 a2 a3 a4=some r→Qp Try.prog true 81 [(.own 0),(jI a1),(jI a2),(jI a3),(.pl (.fn 55))] [jR 6 Qd.cells a4] (.tup []) [jR 6 Qd.cells r])) (bd1:Int) (bd2:Int) (bf3:List Qd) {o:f81r1n9O} (h:f81r1n9 self bd1 bd2 bf3=some o):T Try.prog Try.f81.ntmps 1 (cL (Qk 0 (Qk 1 (Qk 2 (cL (Qk 1 (cL (Qk 0 (Qk 1 (Qk 0 c81)))))))))) (f81r1n9S bd1 bd2 bf3) (·=f81r1n9E bd1 bd2 bf3 o):=by
 unfold f81r1n9 at h;refine rN Qh 1 [j3] [] [] [] [0,14,17] (f81r1n10S bd2 bd1 bf3) an ?_;obtain ⟨o227,h228,h⟩:=Qf h;cases o227 with
 | exit6 v229 =>
  obtain rfl:=Qg h;exact T.last' (T.bl (i:=6) (by kernel_rfl) (by kernel_rfl) (f81r1n10_ok self_ok FUEL bd2 bd1 bf3 h228)) (tds:=[]) (m:=[]) (keep:=[]) (st2:=(f81r1n9E bd1 bd2 bf3 (.norm v229)).2) (by kernel_rfl) an rfl
inductive f81r1n7O where
 | norm
 | ret (v234:List Qd)
def f81r1n7E(bd1 bd2 bd3:Int)(bf4:List Qd):f81r1n7O→Ex×Tr×Hp
 | .norm=>(.norm,mkS [(0,(.own 0)),(1,(jI bd1)),(2,(jI bd2)),(3,(jI bd3)),(4,(.pl (.fn 55)))],[jR 6 Qd.cells bf4])
 | .ret v234=>(.ret,mkS [],[jR 6 Qd.cells v234])
def f81r1n7S(bd1 bd2 bd3:Int)(bf4:List Qd):Tr×Hp:=(mkS [(0,(.own 0)),(1,(jI bd1)),(2,(jI bd2)),(3,(jI bd3)),(4,(.pl (.fn 55))),(80,(.pl (.bool (decide ((wr64 (bd3-bd2))=1)))))],[jR 6 Qd.cells bf4])
noncomputable def f81r1n7 (self:(Int→Int→Int→List Qd→Option (List Qd))) (bd1:Int) (bd2:Int) (bd3:Int) (bf4:List Qd):Option f81r1n7O :=
 bif (decide ((wr64 (bd3-bd2))=1)) then
  (f81r1n8 self FUEL bd2 bf4 bd1 bd2).bind fun o177=>match o177 with
  | .exit4 v179=>(f81r1n9 self bd2 v179 bf4).bind fun o231=>match o231 with
   | .norm v233=>some (.ret v233)
 else
  some .norm
theorem f81r1n7_ok {self:(Int→Int→Int→List Qd→Option (List Qd))} (self_ok:(∀(a1 a2 a3:Int)(a4:List Qd){r:List Qd},self a1 a2 a3 a4=some r→Qp Try.prog true 81 [(.own 0),(jI a1),(jI a2),(jI a3),(.pl (.fn 55))] [jR 6 Qd.cells a4] (.tup []) [jR 6 Qd.cells r])) (bd1:Int) (bd2:Int) (bd3:Int) (bf4:List Qd) {o:f81r1n7O} (h:f81r1n7 self bd1 bd2 bd3 bf4=some o):T Try.prog Try.f81.ntmps 1 (Qk 1 (cL (Qk 0 (Qk 1 (Qk 0 c81))))) (f81r1n7S bd1 bd2 bd3 bf4) (·=f81r1n7E bd1 bd2 bd3 bf4 o):=by
 unfold f81r1n7 at h;rcases Qj h with ⟨h123,h⟩|⟨h123,h⟩
 ·refine T.condT (o:=.tmp 80) (b:=(decide ((wr64 (bd3-bd2))=1))) (by kernel_rfl) (by kernel_rfl) h123 ?_;refine rN Qh 2 [j3,j3] [] [] [] [0,2,4,14,15] (f81r1n8S bd2 bf4 bd1 bd2) an ?_;obtain ⟨o177,h178,h⟩:=Qf h;cases o177 with
  | exit4 v179 =>
   refine T.oneN (by kernel_rfl) (T.bl (i:=4) (by kernel_rfl) (by kernel_rfl) (f81r1n8_ok self_ok FUEL bd2 bf4 bd1 bd2 h178)) (st2:=(f81r1n8E bd2 bf4 (.exit4 v179)).2) rfl ?_;refine rN Qh 0 [] [] [] [] [0,2,14] (f81r1n9S bd2 v179 bf4) an ?_;obtain ⟨o231,h232,h⟩:=Qf h;cases o231 with
   | norm v233 =>
    refine T.oneN (by kernel_rfl) (f81r1n9_ok self_ok bd2 v179 bf4 h232) (st2:=(f81r1n9E bd2 v179 bf4 (.norm v233)).2) rfl ?_;obtain rfl:=Qg h;exact rE Qh [] [] [] [] [] (.ret,(f81r1n7E bd1 bd2 bd3 bf4 (.ret v233)).2) an rfl
 ·refine T.condF (o:=.tmp 80) (b:=(decide ((wr64 (bd3-bd2))=1))) (by kernel_rfl) (by kernel_rfl) h123 ?_;obtain rfl:=Qg h;exact rE Qh [] [] [] [] [0,1,2,3,4] (.norm,(f81r1n7E bd1 bd2 bd3 bf4 .norm).2) an rfl
inductive f81r1n6O where
 | norm
 | ret (v238:List Qd)
def f81r1n6E(bd1 bd2 bd3:Int)(bf4:List Qd):f81r1n6O→Ex×Tr×Hp
 | .norm=>(.norm,mkS [(0,(.own 0)),(1,(jI bd1)),(2,(jI bd2)),(3,(jI bd3)),(4,(.pl (.fn 55)))],[jR 6 Qd.cells bf4])
 | .ret v238=>(.ret,mkS [],[jR 6 Qd.cells v238])
def f81r1n6S(bd1 bd2 bd3:Int)(bf4:List Qd):Tr×Hp:=(mkS [(0,(.own 0)),(1,(jI bd1)),(2,(jI bd2)),(3,(jI bd3)),(4,(.pl (.fn 55)))],[jR 6 Qd.cells bf4])
noncomputable def f81r1n6 (self:(Int→Int→Int→List Qd→Option (List Qd))) (bd1:Int) (bd2:Int) (bd3:Int) (bf4:List Qd):Option f81r1n6O :=
 (f81r1n7 self bd1 bd2 bd3 bf4).bind fun o235=>match o235 with
 | .norm=>some .norm
 | .ret v237=>some (.ret v237)
theorem f81r1n6_ok {self:(Int→Int→Int→List Qd→Option (List Qd))} (self_ok:(∀(a1 a2 a3:Int)(a4:List Qd){r:List Qd},self a1 a2 a3 a4=some r→Qp Try.prog true 81 [(.own 0),(jI a1),(jI a2),(jI a3),(.pl (.fn 55))] [jR 6 Qd.cells a4] (.tup []) [jR 6 Qd.cells r])) (bd1:Int) (bd2:Int) (bd3:Int) (bf4:List Qd) {o:f81r1n6O} (h:f81r1n6 self bd1 bd2 bd3 bf4=some o):T Try.prog Try.f81.ntmps 1 (cL (Qk 0 (Qk 1 (Qk 0 c81)))) (f81r1n6S bd1 bd2 bd3 bf4) (·=f81r1n6E bd1 bd2 bd3 bf4 o):=by
 unfold f81r1n6 at h;refine rN Qh 1 [j3] [] [] [] [0,1,2,3,4,80] (f81r1n7S bd1 bd2 bd3 bf4) an ?_;obtain ⟨o235,h236,h⟩:=Qf h;cases o235 with
 | norm =>
  obtain rfl:=Qg h;exact T.last' (f81r1n7_ok self_ok bd1 bd2 bd3 bf4 h236) (tds:=[]) (m:=[]) (keep:=[0,1,2,3,4]) (st2:=(f81r1n6E bd1 bd2 bd3 bf4 .norm).2) (by kernel_rfl) an rfl
 | ret v237 =>
  obtain rfl:=Qg h;exact T.last' (f81r1n7_ok self_ok bd1 bd2 bd3 bf4 h236) (tds:=[]) (m:=[]) (keep:=[]) (st2:=(f81r1n6E bd1 bd2 bd3 bf4 (.ret v237)).2) (by kernel_rfl) an rfl
inductive f81r1n11O where
 | norm (v244:Int) (v245:Int)
def f81r1n11E(bd1 bd2 bd3:Int)(bf4:List Qd):f81r1n11O→Ex×Tr×Hp
 | .norm v244 v245=>(.norm,mkS [(0,(.own 0)),(1,(jI bd1)),(2,(jI bd2)),(3,(jI bd3)),(4,(.pl (.fn 55))),(18,(.pl (.int .i64 (wr64 (shrK .u64 (Qs (wr64 (bd1+bd3))) 1))))),(19,(.pl (.int .i64 (wr64 ((wr64 (shrK .u64 (Qs (wr64 (bd1+bd3))) 1))+bd2))))),(20,(jI v244)),(21,(jI v245))],[jR 6 Qd.cells bf4])
def f81r1n11S(bd1 bd2 bd3:Int)(bf4:List Qd):Tr×Hp:=(mkS [(0,(.own 0)),(1,(jI bd1)),(2,(jI bd2)),(3,(jI bd3)),(4,(.pl (.fn 55))),(18,(.pl (.int .i64 (wr64 (shrK .u64 (Qs (wr64 (bd1+bd3))) 1))))),(19,(.pl (.int .i64 (wr64 ((wr64 (shrK .u64 (Qs (wr64 (bd1+bd3))) 1))+bd2)))))],[jR 6 Qd.cells bf4])
noncomputable def f81r1n11 (self:(Int→Int→Int→List Qd→Option (List Qd))) (bd1:Int) (bd2:Int) (bd3:Int) (bf4:List Qd):Option f81r1n11O :=
 bif (decide ((wr64 (shrK .u64 (Qs (wr64 (bd1+bd3))) 1))<bd2)) then
  some (.norm (wr64 ((wr64 ((wr64 (shrK .u64 (Qs (wr64 (bd1+bd3))) 1))+bd2))-bd3)) (wr64 (shrK .u64 (Qs (wr64 (bd1+bd3))) 1)))
 else
  some (.norm bd1 bd2)
theorem f81r1n11_ok {self:(Int→Int→Int→List Qd→Option (List Qd))} (self_ok:(∀(a1 a2 a3:Int)(a4:List Qd){r:List Qd},self a1 a2 a3 a4=some r→Qp Try.prog true 81 [(.own 0),(jI a1),(jI a2),(jI a3),(.pl (.fn 55))] [jR 6 Qd.cells a4] (.tup []) [jR 6 Qd.cells r])) (bd1:Int) (bd2:Int) (bd3:Int) (bf4:List Qd) {o:f81r1n11O} (h:f81r1n11 self bd1 bd2 bd3 bf4=some o):T Try.prog Try.f81.ntmps 1 (cL (Qk 3 (Qk 1 (Qk 0 (Qk 1 (Qk 0 c81)))))) (f81r1n11S bd1 bd2 bd3 bf4) (·=f81r1n11E bd1 bd2 bd3 bf4 o):=by
 unfold f81r1n11 at h;rcases Qj h with ⟨h243,h⟩|⟨h243,h⟩
 ·obtain rfl:=Qg h;exact rE Qh [j3,j3,j3] [some true] [] [] [0,1,2,3,4,18,19,20,21] (.norm,(f81r1n11E bd1 bd2 bd3 bf4 (.norm (wr64 ((wr64 ((wr64 (shrK .u64 (Qs (wr64 (bd1+bd3))) 1))+bd2))-bd3)) (wr64 (shrK .u64 (Qs (wr64 (bd1+bd3))) 1)))).2) (ap h243 an) rfl
 ·obtain rfl:=Qg h;exact rE Qh [j3,j3,j3] [some false] [] [] [0,1,2,3,4,18,19,20,21] (.norm,(f81r1n11E bd1 bd2 bd3 bf4 (.norm bd1 bd2)).2) (ap h243 an) rfl
inductive f81r1n12O where
 | exit8 (v302:Int)
def f81r1n12E(a1 a2 a3:Int)(a4:List Qd):f81r1n12O→Ex×Tr×Hp
 | .exit8 v302=>((.exit 8),mkS [(0,(.own 0)),(1,(jI a1)),(2,(jI a2)),(3,(jI a3)),(4,(.pl (.fn 55))),(18,(.pl (.int .i64 (wr64 (shrK .u64 (Qs (wr64 (a1+a3))) 1))))),(19,(.pl (.int .i64 (wr64 ((wr64 (shrK .u64 (Qs (wr64 (a1+a3))) 1))+a2))))),(20,(jI v302))],[jR 6 Qd.cells a4])
def f81r1n12S(a1 a2 a3:Int)(a4:List Qd)(v284 v285:Int):Tr×Hp:=(mkS [(0,(.own 0)),(1,(jI a1)),(2,(jI a2)),(3,(jI a3)),(4,(.pl (.fn 55))),(18,(.pl (.int .i64 (wr64 (shrK .u64 (Qs (wr64 (a1+a3))) 1))))),(19,(.pl (.int .i64 (wr64 ((wr64 (shrK .u64 (Qs (wr64 (a1+a3))) 1))+a2))))),(20,(jI v284)),(21,(jI v285)),(22,(.pl (.int .i64 (wr64 ((wr64 ((wr64 (shrK .u64 (Qs (wr64 (a1+a3))) 1))+a2))-1)))))],[jR 6 Qd.cells a4])
noncomputable def f81r1n12 (self:(Int→Int→Int→List Qd→Option (List Qd))):Nat→Int→Int→Int→List Qd→Int→Int→Option f81r1n12O
 | 0,_,_,_,_,_,_=>none
 | f+1,a1,a2,a3,a4,v284,v285 =>
  bif decide (v284<v285) then
   (at? a4 (wr64 ((wr64 ((wr64 ((wr64 (shrK .u64 (Qs (wr64 (a1+a3))) 1))+a2))-1))-(wr64 (shrK .u64 (Qs (wr64 (v284+v285))) 1))))).bind fun x295 =>
   (at? a4 (wr64 (shrK .u64 (Qs (wr64 (v284+v285))) 1))).bind fun x297 =>
   (f55 x295 x297).bind fun x299 =>
   bif decide (x299<0) then
    (f81r1n12 self f a1 a2 a3 a4 v284 (wr64 (shrK .u64 (Qs (wr64 (v284+v285))) 1)))
   else
    (f81r1n12 self f a1 a2 a3 a4 (wr64 ((wr64 (shrK .u64 (Qs (wr64 (v284+v285))) 1))+1)) v285)
  else
   some (.exit8 v284)
theorem f81r1n12_ok {self:(Int→Int→Int→List Qd→Option (List Qd))} (self_ok:(∀(a1 a2 a3:Int)(a4:List Qd){r:List Qd},self a1 a2 a3 a4=some r→Qp Try.prog true 81 [(.own 0),(jI a1),(jI a2),(jI a3),(.pl (.fn 55))] [jR 6 Qd.cells a4] (.tup []) [jR 6 Qd.cells r])):∀(f:Nat)(a1 a2 a3:Int)(a4:List Qd)(v284 v285:Int){o:f81r1n12O},f81r1n12 self f a1 a2 a3 a4 v284 v285=some o→TL Try.prog Try.f81.ntmps 1 f (cL (cL (cL (Qk 1 (Qk 1 (Qk 3 (Qk 1 (Qk 0 (Qk 1 (Qk 0 c81)))))))))) (f81r1n12S a1 a2 a3 a4 v284 v285) (·=f81r1n12E a1 a2 a3 a4 o)
 | 0,_,_,_,_,_,_,o,h=>by rw [f81r1n12] at h; cases h
 | f+1,a1,a2,a3,a4,v284,v285,o,h=>by
  rw [f81r1n12] at h;refine TL.body (K:=fun s=>∃v284:Int,∃v285:Int,s=(f81r1n12S a1 a2 a3 a4 v284 v285)∧f81r1n12 self f a1 a2 a3 a4 v284 v285=some o) ?_ (by rintro _ ⟨v284,v285,rfl,hk⟩; exact f81r1n12_ok self_ok f _ _ _ _ _ _ hk);rcases Qj h with ⟨h287,h⟩|⟨h287,h⟩
  ·obtain ⟨x295,h296,h⟩:=Qf h;obtain ⟨x297,h298,h⟩:=Qf h;obtain ⟨x299,h300,h⟩:=Qf h;rcases Qj h with ⟨h301,h⟩|⟨h301,h⟩
   ·exact rE Qh [j3,j3,([],[(5,.at_ (Int.toNat (wr64 ((wr64 ((wr64 ((wr64 (shrK .u64 (Qs (wr64 (a1+a3))) 1))+a2))-1))-(wr64 (shrK .u64 (Qs (wr64 (v284+v285))) 1)))))),(6,.idx 0 (Qd.cells x295)),(9,.at_ (Int.toNat (wr64 (shrK .u64 (Qs (wr64 (v284+v285))) 1)))),(10,.idx 0 (Qd.cells x297)),jH 11 (jI x299)],[]),j3] [some true,some false] [] [] [0,1,2,3,4,18,19,20,21,22] (.norm,(f81r1n12S a1 a2 a3 a4 v284 (wr64 (shrK .u64 (Qs (wr64 (v284+v285))) 1)))) (ap h287 (ap (Qi h296).1 (ap (Qag Qd.cells (Qi h296).2) (ap (Qn Qd.cells (Qi h296).2) (ap (Qi h298).1 (ap (Qag Qd.cells (Qi h298).2) (ap (Qn Qd.cells (Qi h298).2) (ap (f55_ok x295 x297 h300) (ap (Qal h301) an))))))))) (Qt.norm ⟨v284,(wr64 (shrK .u64 (Qs (wr64 (v284+v285))) 1)),rfl,h⟩)
   ·exact rE Qh [j3,j3,([],[(5,.at_ (Int.toNat (wr64 ((wr64 ((wr64 ((wr64 (shrK .u64 (Qs (wr64 (a1+a3))) 1))+a2))-1))-(wr64 (shrK .u64 (Qs (wr64 (v284+v285))) 1)))))),(6,.idx 0 (Qd.cells x295)),(9,.at_ (Int.toNat (wr64 (shrK .u64 (Qs (wr64 (v284+v285))) 1)))),(10,.idx 0 (Qd.cells x297)),jH 11 (jI x299)],[]),j3] [some true,some true] [] [] [0,1,2,3,4,18,19,20,21,22] (.norm,(f81r1n12S a1 a2 a3 a4 (wr64 ((wr64 (shrK .u64 (Qs (wr64 (v284+v285))) 1))+1)) v285)) (ap h287 (ap (Qi h296).1 (ap (Qag Qd.cells (Qi h296).2) (ap (Qn Qd.cells (Qi h296).2) (ap (Qi h298).1 (ap (Qag Qd.cells (Qi h298).2) (ap (Qn Qd.cells (Qi h298).2) (ap (f55_ok x295 x297 h300) (ap (Qau h301) an))))))))) (Qt.norm ⟨(wr64 ((wr64 (shrK .u64 (Qs (wr64 (v284+v285))) 1))+1)),v285,rfl,h⟩)
  ·obtain rfl:=Qg h;exact rK Qh 1 [j3] [some false] [] [] [0,1,2,3,4,18,19,20] (.exit 8) ((f81r1n12E a1 a2 a3 a4 (.exit8 v284)).2) (ap h287 an) (Qt.out rfl rfl)
inductive f81r1n14O where
 | norm (v313:Bool)
def f81r1n14E(bd1 bd2 bd3 bd4:Int)(bf5:List Qd):f81r1n14O→Ex×Tr×Hp
 | .norm v313=>(.norm,mkS [(0,(.own 0)),(1,(jI bd1)),(2,(jI bd2)),(3,(jI bd3)),(4,(.pl (.fn 55))),(18,(.pl (.int .i64 (wr64 (shrK .u64 (Qs (wr64 (bd1+bd3))) 1))))),(20,(jI bd4)),(24,(.pl (.int .i64 (wr64 ((wr64 ((wr64 (shrK .u64 (Qs (wr64 (bd1+bd3))) 1))+bd2))-bd4))))),(185,(jB v313))],[jR 6 Qd.cells bf5])
def f81r1n14S(bd1 bd2 bd3 bd4:Int)(bf5:List Qd):Tr×Hp:=(mkS [(0,(.own 0)),(1,(jI bd1)),(2,(jI bd2)),(3,(jI bd3)),(4,(.pl (.fn 55))),(18,(.pl (.int .i64 (wr64 (shrK .u64 (Qs (wr64 (bd1+bd3))) 1))))),(20,(jI bd4)),(24,(.pl (.int .i64 (wr64 ((wr64 ((wr64 (shrK .u64 (Qs (wr64 (bd1+bd3))) 1))+bd2))-bd4)))))],[jR 6 Qd.cells bf5])
noncomputable def f81r1n14 (self:(Int→Int→Int→List Qd→Option (List Qd))) (bd1:Int) (bd2:Int) (bd3:Int) (bd4:Int) (bf5:List Qd):Option f81r1n14O :=
 bif decide (bd4<bd2) then
  some (.norm (decide (bd2<(wr64 ((wr64 ((wr64 (shrK .u64 (Qs (wr64 (bd1+bd3))) 1))+bd2))-bd4)))))
 else
  some (.norm false)
theorem f81r1n14_ok {self:(Int→Int→Int→List Qd→Option (List Qd))} (self_ok:(∀(a1 a2 a3:Int)(a4:List Qd){r:List Qd},self a1 a2 a3 a4=some r→Qp Try.prog true 81 [(.own 0),(jI a1),(jI a2),(jI a3),(.pl (.fn 55))] [jR 6 Qd.cells a4] (.tup []) [jR 6 Qd.cells r])) (bd1:Int) (bd2:Int) (bd3:Int) (bd4:Int) (bf5:List Qd) {o:f81r1n14O} (h:f81r1n14 self bd1 bd2 bd3 bd4 bf5=some o):T Try.prog Try.f81.ntmps 1 (cL (Qk 0 (cL (Qk 1 (Qk 1 (Qk 1 (Qk 1 (Qk 3 (Qk 1 (Qk 0 (Qk 1 (Qk 0 c81)))))))))))) (f81r1n14S bd1 bd2 bd3 bd4 bf5) (·=f81r1n14E bd1 bd2 bd3 bd4 bf5 o):=by
 unfold f81r1n14 at h;rcases Qj h with ⟨h312,h⟩|⟨h312,h⟩
 ·obtain rfl:=Qg h;exact rE Qh [(jT [4,5,6],[(7,.bool true)],[])] [] [] [] [0,1,2,3,4,18,20,24,185] (.norm,(f81r1n14E bd1 bd2 bd3 bd4 bf5 (.norm (decide (bd2<(wr64 ((wr64 ((wr64 (shrK .u64 (Qs (wr64 (bd1+bd3))) 1))+bd2))-bd4)))))).2) (ap4 h312 an) rfl
 ·obtain rfl:=Qg h;exact rE Qh [(jF [4,5,6],[(7,.bool false)],[])] [] [] [] [0,1,2,3,4,18,20,24,185] (.norm,(f81r1n14E bd1 bd2 bd3 bd4 bf5 (.norm false)).2) (ap4 h312 an) rfl
inductive f81r1n13O where
 | norm (v323:List Qd)
def f81r1n13E(bd1 bd2 bd3 bd4:Int)(bf5:List Qd):f81r1n13O→Ex×Tr×Hp
 | .norm v323=>(.norm,mkS [(0,(.own 0)),(1,(jI bd1)),(3,(jI bd3)),(4,(.pl (.fn 55))),(18,(.pl (.int .i64 (wr64 (shrK .u64 (Qs (wr64 (bd1+bd3))) 1))))),(20,(jI bd4)),(24,(.pl (.int .i64 (wr64 ((wr64 ((wr64 (shrK .u64 (Qs (wr64 (bd1+bd3))) 1))+bd2))-bd4)))))],[jR 6 Qd.cells v323])
def f81r1n13S(bd1 bd2 bd3 bd4:Int)(bf5:List Qd):Tr×Hp:=(mkS [(0,(.own 0)),(1,(jI bd1)),(2,(jI bd2)),(3,(jI bd3)),(4,(.pl (.fn 55))),(18,(.pl (.int .i64 (wr64 (shrK .u64 (Qs (wr64 (bd1+bd3))) 1))))),(20,(jI bd4)),(24,(.pl (.int .i64 (wr64 ((wr64 ((wr64 (shrK .u64 (Qs (wr64 (bd1+bd3))) 1))+bd2))-bd4)))))],[jR 6 Qd.cells bf5])
noncomputable def f81r1n13 (self:(Int→Int→Int→List Qd→Option (List Qd))) (bd1:Int) (bd2:Int) (bd3:Int) (bd4:Int) (bf5:List Qd):Option f81r1n13O :=
 (f81r1n14 self bd1 bd2 bd3 bd4 bf5).bind fun o314=>match o314 with
 | .norm v316=>bif v316 then
   (f87r1 bd4 bd2 (wr64 ((wr64 ((wr64 (shrK .u64 (Qs (wr64 (bd1+bd3))) 1))+bd2))-bd4)) bf5).bind fun x321 =>
   some (.norm x321)
  else
   some (.norm bf5)
theorem f81r1n13_ok {self:(Int→Int→Int→List Qd→Option (List Qd))} (self_ok:(∀(a1 a2 a3:Int)(a4:List Qd){r:List Qd},self a1 a2 a3 a4=some r→Qp Try.prog true 81 [(.own 0),(jI a1),(jI a2),(jI a3),(.pl (.fn 55))] [jR 6 Qd.cells a4] (.tup []) [jR 6 Qd.cells r])) (bd1:Int) (bd2:Int) (bd3:Int) (bd4:Int) (bf5:List Qd) {o:f81r1n13O} (h:f81r1n13 self bd1 bd2 bd3 bd4 bf5=some o):T Try.prog Try.f81.ntmps 1 (cL (Qk 1 (Qk 1 (Qk 1 (Qk 1 (Qk 3 (Qk 1 (Qk 0 (Qk 1 (Qk 0 c81)))))))))) (f81r1n13S bd1 bd2 bd3 bd4 bf5) (·=f81r1n13E bd1 bd2 bd3 bd4 bf5 o):=by
 unfold f81r1n13 at h;refine rN Qh 0 [] [] [] [] [0,1,2,3,4,18,20,24] (f81r1n14S bd1 bd2 bd3 bd4 bf5) an ?_;obtain ⟨o314,h315,h⟩:=Qf h;cases o314 with
 | norm v316 =>
  refine T.oneN (by kernel_rfl) (f81r1n14_ok self_ok bd1 bd2 bd3 bd4 bf5 h315) (st2:=(f81r1n14E bd1 bd2 bd3 bd4 bf5 (.norm v316)).2) rfl ?_;rcases Qj h with ⟨h320,h⟩|⟨h320,h⟩
  ·obtain ⟨x321,h322,h⟩:=Qf h;obtain rfl:=Qg h;exact rE Qh [([],[(5,.call (.tup []) [jR 6 Qd.cells x321])],[])] [some true] [] [] [0,1,3,4,18,20,24] (.norm,(f81r1n13E bd1 bd2 bd3 bd4 bf5 (.norm x321)).2) (ap h320 (ap (f87r1_ok bd4 bd2 (wr64 ((wr64 ((wr64 (shrK .u64 (Qs (wr64 (bd1+bd3))) 1))+bd2))-bd4)) bf5 h322) an)) rfl
  ·obtain rfl:=Qg h;exact rE Qh [] [some false] [] [] [0,1,3,4,18,20,24] (.norm,(f81r1n13E bd1 bd2 bd3 bd4 bf5 (.norm bf5)).2) (ap h320 an) rfl
inductive f81r1n16O where
 | norm (v334:Bool)
def f81r1n16E(bd1 bd2 bd3 bd4:Int)(bf5:List Qd):f81r1n16O→Ex×Tr×Hp
 | .norm v334=>(.norm,mkS [(0,(.own 0)),(1,(jI bd1)),(3,(jI bd2)),(4,(.pl (.fn 55))),(18,(.pl (.int .i64 (wr64 (shrK .u64 (Qs (wr64 (bd1+bd2))) 1))))),(20,(jI bd3)),(24,(.pl (.int .i64 (wr64 ((wr64 ((wr64 (shrK .u64 (Qs (wr64 (bd1+bd2))) 1))+bd4))-bd3))))),(199,(jB v334))],[jR 6 Qd.cells bf5])
def f81r1n16S(bd1 bd2 bd3 bd4:Int)(bf5:List Qd):Tr×Hp:=(mkS [(0,(.own 0)),(1,(jI bd1)),(3,(jI bd2)),(4,(.pl (.fn 55))),(18,(.pl (.int .i64 (wr64 (shrK .u64 (Qs (wr64 (bd1+bd2))) 1))))),(20,(jI bd3)),(24,(.pl (.int .i64 (wr64 ((wr64 ((wr64 (shrK .u64 (Qs (wr64 (bd1+bd2))) 1))+bd4))-bd3)))))],[jR 6 Qd.cells bf5])
noncomputable def f81r1n16 (self:(Int→Int→Int→List Qd→Option (List Qd))) (bd1:Int) (bd2:Int) (bd3:Int) (bd4:Int) (bf5:List Qd):Option f81r1n16O :=
 bif decide (bd1<bd3) then
  some (.norm (decide (bd3<(wr64 (shrK .u64 (Qs (wr64 (bd1+bd2))) 1)))))
 else
  some (.norm false)
theorem f81r1n16_ok {self:(Int→Int→Int→List Qd→Option (List Qd))} (self_ok:(∀(a1 a2 a3:Int)(a4:List Qd){r:List Qd},self a1 a2 a3 a4=some r→Qp Try.prog true 81 [(.own 0),(jI a1),(jI a2),(jI a3),(.pl (.fn 55))] [jR 6 Qd.cells a4] (.tup []) [jR 6 Qd.cells r])) (bd1:Int) (bd2:Int) (bd3:Int) (bd4:Int) (bf5:List Qd) {o:f81r1n16O} (h:f81r1n16 self bd1 bd2 bd3 bd4 bf5=some o):T Try.prog Try.f81.ntmps 1 (cL (Qk 0 (cL (Qk 0 (Qk 1 (Qk 1 (Qk 1 (Qk 1 (Qk 1 (Qk 3 (Qk 1 (Qk 0 (Qk 1 (Qk 0 c81)))))))))))))) (f81r1n16S bd1 bd2 bd3 bd4 bf5) (·=f81r1n16E bd1 bd2 bd3 bd4 bf5 o):=by
 unfold f81r1n16 at h;rcases Qj h with ⟨h333,h⟩|⟨h333,h⟩
 ·obtain rfl:=Qg h;exact rE Qh [(jT [4,5,6],[(7,.bool true)],[])] [] [] [] [0,1,3,4,18,20,24,199] (.norm,(f81r1n16E bd1 bd2 bd3 bd4 bf5 (.norm (decide (bd3<(wr64 (shrK .u64 (Qs (wr64 (bd1+bd2))) 1)))))).2) (ap4 h333 an) rfl
 ·obtain rfl:=Qg h;exact rE Qh [(jF [4,5,6],[(7,.bool false)],[])] [] [] [] [0,1,3,4,18,20,24,199] (.norm,(f81r1n16E bd1 bd2 bd3 bd4 bf5 (.norm false)).2) (ap4 h333 an) rfl
inductive f81r1n15O where
 | norm (v344:List Qd)
def f81r1n15E(bd1 bd2 bd3 bd4:Int)(bf5:List Qd):f81r1n15O→Ex×Tr×Hp
 | .norm v344=>(.norm,mkS [(0,(.own 0)),(3,(jI bd2)),(4,(.pl (.fn 55))),(18,(.pl (.int .i64 (wr64 (shrK .u64 (Qs (wr64 (bd1+bd2))) 1))))),(24,(.pl (.int .i64 (wr64 ((wr64 ((wr64 (shrK .u64 (Qs (wr64 (bd1+bd2))) 1))+bd4))-bd3)))))],[jR 6 Qd.cells v344])
def f81r1n15S(bd1 bd2 bd3 bd4:Int)(bf5:List Qd):Tr×Hp:=(mkS [(0,(.own 0)),(1,(jI bd1)),(3,(jI bd2)),(4,(.pl (.fn 55))),(18,(.pl (.int .i64 (wr64 (shrK .u64 (Qs (wr64 (bd1+bd2))) 1))))),(20,(jI bd3)),(24,(.pl (.int .i64 (wr64 ((wr64 ((wr64 (shrK .u64 (Qs (wr64 (bd1+bd2))) 1))+bd4))-bd3)))))],[jR 6 Qd.cells bf5])
noncomputable def f81r1n15 (self:(Int→Int→Int→List Qd→Option (List Qd))) (bd1:Int) (bd2:Int) (bd3:Int) (bd4:Int) (bf5:List Qd):Option f81r1n15O :=
 (f81r1n16 self bd1 bd2 bd3 bd4 bf5).bind fun o335=>match o335 with
 | .norm v337=>bif v337 then
   (self bd1 bd3 (wr64 (shrK .u64 (Qs (wr64 (bd1+bd2))) 1)) bf5).bind fun x342 =>
   some (.norm x342)
  else
   some (.norm bf5)
theorem f81r1n15_ok {self:(Int→Int→Int→List Qd→Option (List Qd))} (self_ok:(∀(a1 a2 a3:Int)(a4:List Qd){r:List Qd},self a1 a2 a3 a4=some r→Qp Try.prog true 81 [(.own 0),(jI a1),(jI a2),(jI a3),(.pl (.fn 55))] [jR 6 Qd.cells a4] (.tup []) [jR 6 Qd.cells r])) (bd1:Int) (bd2:Int) (bd3:Int) (bd4:Int) (bf5:List Qd) {o:f81r1n15O} (h:f81r1n15 self bd1 bd2 bd3 bd4 bf5=some o):T Try.prog Try.f81.ntmps 1 (cL (Qk 0 (Qk 1 (Qk 1 (Qk 1 (Qk 1 (Qk 1 (Qk 3 (Qk 1 (Qk 0 (Qk 1 (Qk 0 c81)))))))))))) (f81r1n15S bd1 bd2 bd3 bd4 bf5) (·=f81r1n15E bd1 bd2 bd3 bd4 bf5 o):=by
 unfold f81r1n15 at h;refine rN Qh 0 [] [] [] [] [0,1,3,4,18,20,24] (f81r1n16S bd1 bd2 bd3 bd4 bf5) an ?_;obtain ⟨o335,h336,h⟩:=Qf h;cases o335 with
 | norm v337 =>
  refine T.oneN (by kernel_rfl) (f81r1n16_ok self_ok bd1 bd2 bd3 bd4 bf5 h336) (st2:=(f81r1n16E bd1 bd2 bd3 bd4 bf5 (.norm v337)).2) rfl ?_;rcases Qj h with ⟨h341,h⟩|⟨h341,h⟩
  ·obtain ⟨x342,h343,h⟩:=Qf h;obtain rfl:=Qg h;exact rE Qh [([],[(5,.call (.tup []) [jR 6 Qd.cells x342])],[])] [some true] [] [] [0,3,4,18,24] (.norm,(f81r1n15E bd1 bd2 bd3 bd4 bf5 (.norm x342)).2) (ap h341 (ap (self_ok bd1 bd3 (wr64 (shrK .u64 (Qs (wr64 (bd1+bd2))) 1)) bf5 h343) an)) rfl
  ·obtain rfl:=Qg h;exact rE Qh [] [some false] [] [] [0,3,4,18,24] (.norm,(f81r1n15E bd1 bd2 bd3 bd4 bf5 (.norm bf5)).2) (ap h341 an) rfl
inductive f81r1n17O where
 | norm (v351:Bool)
def f81r1n17E(bd1 bd2 bd3 bd4:Int)(bf5:List Qd):f81r1n17O→Ex×Tr×Hp
 | .norm v351=>(.norm,mkS [(0,(.own 0)),(3,(jI bd1)),(4,(.pl (.fn 55))),(18,(.pl (.int .i64 (wr64 (shrK .u64 (Qs (wr64 (bd2+bd1))) 1))))),(24,(.pl (.int .i64 (wr64 ((wr64 ((wr64 (shrK .u64 (Qs (wr64 (bd2+bd1))) 1))+bd3))-bd4))))),(213,(jB v351))],[jR 6 Qd.cells bf5])
def f81r1n17S(bd1 bd2 bd3 bd4:Int)(bf5:List Qd):Tr×Hp:=(mkS [(0,(.own 0)),(3,(jI bd1)),(4,(.pl (.fn 55))),(18,(.pl (.int .i64 (wr64 (shrK .u64 (Qs (wr64 (bd2+bd1))) 1))))),(24,(.pl (.int .i64 (wr64 ((wr64 ((wr64 (shrK .u64 (Qs (wr64 (bd2+bd1))) 1))+bd3))-bd4)))))],[jR 6 Qd.cells bf5])
noncomputable def f81r1n17 (self:(Int→Int→Int→List Qd→Option (List Qd))) (bd1:Int) (bd2:Int) (bd3:Int) (bd4:Int) (bf5:List Qd):Option f81r1n17O :=
 bif (decide ((wr64 (shrK .u64 (Qs (wr64 (bd2+bd1))) 1))<(wr64 ((wr64 ((wr64 (shrK .u64 (Qs (wr64 (bd2+bd1))) 1))+bd3))-bd4)))) then
  some (.norm (decide ((wr64 ((wr64 ((wr64 (shrK .u64 (Qs (wr64 (bd2+bd1))) 1))+bd3))-bd4))<bd1)))
 else
  some (.norm false)
theorem f81r1n17_ok {self:(Int→Int→Int→List Qd→Option (List Qd))} (self_ok:(∀(a1 a2 a3:Int)(a4:List Qd){r:List Qd},self a1 a2 a3 a4=some r→Qp Try.prog true 81 [(.own 0),(jI a1),(jI a2),(jI a3),(.pl (.fn 55))] [jR 6 Qd.cells a4] (.tup []) [jR 6 Qd.cells r])) (bd1:Int) (bd2:Int) (bd3:Int) (bd4:Int) (bf5:List Qd) {o:f81r1n17O} (h:f81r1n17 self bd1 bd2 bd3 bd4 bf5=some o):T Try.prog Try.f81.ntmps 1 (cL (Qk 0 (Qk 1 (Qk 0 (Qk 1 (Qk 1 (Qk 1 (Qk 1 (Qk 1 (Qk 3 (Qk 1 (Qk 0 (Qk 1 (Qk 0 c81)))))))))))))) (f81r1n17S bd1 bd2 bd3 bd4 bf5) (·=f81r1n17E bd1 bd2 bd3 bd4 bf5 o):=by
 unfold f81r1n17 at h;rcases Qj h with ⟨h350,h⟩|⟨h350,h⟩
 ·obtain rfl:=Qg h;exact rE Qh [(jT [4,5,6],[(7,.bool true)],[])] [] [] [] [0,3,4,18,24,213] (.norm,(f81r1n17E bd1 bd2 bd3 bd4 bf5 (.norm (decide ((wr64 ((wr64 ((wr64 (shrK .u64 (Qs (wr64 (bd2+bd1))) 1))+bd3))-bd4))<bd1)))).2) (ap4 h350 an) rfl
 ·obtain rfl:=Qg h;exact rE Qh [(jF [4,5,6],[(7,.bool false)],[])] [] [] [] [0,3,4,18,24,213] (.norm,(f81r1n17E bd1 bd2 bd3 bd4 bf5 (.norm false)).2) (ap4 h350 an) rfl
inductive f81r1n0O where
 | norm (v363:List Qd)
 | ret (v364:List Qd)
def f81r1n0E(a1 a2 a3:Int)(a4:List Qd):f81r1n0O→Ex×Tr×Hp
 | .norm v363=>(.norm,mkS [],[jR 6 Qd.cells v363])
 | .ret v364=>(.ret,mkS [],[jR 6 Qd.cells v364])
def f81r1n0S(a1 a2 a3:Int)(a4:List Qd):Tr×Hp:=(Qan [(.own 0),(jI a1),(jI a2),(jI a3),(.pl (.fn 55))] 0 .leaf,[jR 6 Qd.cells a4])
noncomputable def f81r1n0 (self:(Int→Int→Int→List Qd→Option (List Qd))) (a1:Int) (a2:Int) (a3:Int) (a4:List Qd):Option f81r1n0O :=
 (f81r1n1 self a1 a2 a3 a4).bind fun o121=>match o121 with
 | .norm=>(f81r1n6 self a1 a2 a3 a4).bind fun o239=>match o239 with
  | .norm=>(f81r1n11 self a1 a2 a3 a4).bind fun o246=>match o246 with
   | .norm v248 v249=>(f81r1n12 self FUEL a1 a2 a3 a4 v248 v249).bind fun o303=>match o303 with
    | .exit8 v305=>(f81r1n13 self a1 a2 a3 v305 a4).bind fun o324=>match o324 with
     | .norm v326=>(f81r1n15 self a1 a3 v305 a2 v326).bind fun o345=>match o345 with
      | .norm v347=>(f81r1n17 self a3 a1 a2 v305 v347).bind fun o352=>match o352 with
       | .norm v354=>bif v354 then
         (self (wr64 (shrK .u64 (Qs (wr64 (a1+a3))) 1)) (wr64 ((wr64 ((wr64 (shrK .u64 (Qs (wr64 (a1+a3))) 1))+a2))-v305)) a3 v347).bind fun x359 =>
         some (.norm x359)
        else
         some (.norm v347)
  | .ret v361=>some (.ret v361)
 | .ret v362=>some (.ret v362)
theorem f81r1n0_ok {self:(Int→Int→Int→List Qd→Option (List Qd))} (self_ok:(∀(a1 a2 a3:Int)(a4:List Qd){r:List Qd},self a1 a2 a3 a4=some r→Qp Try.prog true 81 [(.own 0),(jI a1),(jI a2),(jI a3),(.pl (.fn 55))] [jR 6 Qd.cells a4] (.tup []) [jR 6 Qd.cells r])) (a1:Int) (a2:Int) (a3:Int) (a4:List Qd) {o:f81r1n0O} (h:f81r1n0 self a1 a2 a3 a4=some o):T Try.prog Try.f81.ntmps 1 c81 (f81r1n0S a1 a2 a3 a4) (·=f81r1n0E a1 a2 a3 a4 o):=by
 unfold f81r1n0 at h;refine rN Qh 0 [] [] [] [] [0,1,2,3,4] (f81r1n1S a1 a2 a3 a4) an ?_;obtain ⟨o121,h122,h⟩:=Qf h;cases o121 with
 | norm =>
  refine T.oneN (by kernel_rfl) (f81r1n1_ok self_ok a1 a2 a3 a4 h122) (st2:=(f81r1n1E a1 a2 a3 a4 .norm).2) rfl ?_;refine rN Qh 0 [] [] [] [] [0,1,2,3,4] (f81r1n6S a1 a2 a3 a4) an ?_;obtain ⟨o239,h240,h⟩:=Qf h;cases o239 with
  | norm =>
   refine T.oneN (by kernel_rfl) (f81r1n6_ok self_ok a1 a2 a3 a4 h240) (st2:=(f81r1n6E a1 a2 a3 a4 .norm).2) rfl ?_;refine rN Qh 3 [j3,j3,j3] [] [] [] [0,1,2,3,4,18,19] (f81r1n11S a1 a2 a3 a4) an ?_;obtain ⟨o246,h247,h⟩:=Qf h;cases o246 with
   | norm v248 v249 =>
    refine T.oneN (by kernel_rfl) (f81r1n11_ok self_ok a1 a2 a3 a4 h247) (st2:=(f81r1n11E a1 a2 a3 a4 (.norm v248 v249)).2) rfl ?_;refine rN Qh 1 [j3] [] [] [] [0,1,2,3,4,18,19,20,21,22] (f81r1n12S a1 a2 a3 a4 v248 v249) an ?_;obtain ⟨o303,h304,h⟩:=Qf h;cases o303 with
    | exit8 v305 =>
     refine T.oneN (by kernel_rfl) (T.bl (i:=8) (by kernel_rfl) (by kernel_rfl) (f81r1n12_ok self_ok FUEL a1 a2 a3 a4 v248 v249 h304)) (st2:=(f81r1n12E a1 a2 a3 a4 (.exit8 v305)).2) rfl ?_;refine rN Qh 1 [j3] [] [] [] [0,1,2,3,4,18,20,24] (f81r1n13S a1 a2 a3 v305 a4) an ?_;obtain ⟨o324,h325,h⟩:=Qf h;cases o324 with
     | norm v326 =>
      refine T.oneN (by kernel_rfl) (f81r1n13_ok self_ok a1 a2 a3 v305 a4 h325) (st2:=(f81r1n13E a1 a2 a3 v305 a4 (.norm v326)).2) rfl ?_;refine rN Qh 0 [] [] [] [] [0,1,3,4,18,20,24] (f81r1n15S a1 a3 v305 a2 v326) an ?_;obtain ⟨o345,h346,h⟩:=Qf h;cases o345 with
      | norm v347 =>
       refine T.oneN (by kernel_rfl) (f81r1n15_ok self_ok a1 a3 v305 a2 v326 h346) (st2:=(f81r1n15E a1 a3 v305 a2 v326 (.norm v347)).2) rfl ?_;refine rN Qh 0 [] [] [] [] [0,3,4,18,24] (f81r1n17S a3 a1 a2 v305 v347) an ?_;obtain ⟨o352,h353,h⟩:=Qf h;cases o352 with
       | norm v354 =>
        refine T.oneN (by kernel_rfl) (f81r1n17_ok self_ok a3 a1 a2 v305 v347 h353) (st2:=(f81r1n17E a3 a1 a2 v305 v347 (.norm v354)).2) rfl ?_;rcases Qj h with ⟨h358,h⟩|⟨h358,h⟩
        ·obtain ⟨x359,h360,h⟩:=Qf h;obtain rfl:=Qg h;exact rE Qh [([],[(5,.call (.tup []) [jR 6 Qd.cells x359])],[])] [some true] [] [] [] (.norm,(f81r1n0E a1 a2 a3 a4 (.norm x359)).2) (ap h358 (ap (self_ok (wr64 (shrK .u64 (Qs (wr64 (a1+a3))) 1)) (wr64 ((wr64 ((wr64 (shrK .u64 (Qs (wr64 (a1+a3))) 1))+a2))-v305)) a3 v347 h360) an)) rfl
        ·obtain rfl:=Qg h;exact rE Qh [] [some false] [] [] [] (.norm,(f81r1n0E a1 a2 a3 a4 (.norm v347)).2) (ap h358 an) rfl
  | ret v361 =>
   obtain rfl:=Qg h;exact T.oneX' (by kernel_rfl) (f81r1n6_ok self_ok a1 a2 a3 a4 h240) (tds:=[]) (m:=[]) (keep:=[]) (st2:=(f81r1n0E a1 a2 a3 a4 (.ret v361)).2) (by kernel_rfl) an rfl rfl
 | ret v362 =>
  obtain rfl:=Qg h;exact T.oneX' (by kernel_rfl) (f81r1n1_ok self_ok a1 a2 a3 a4 h122) (tds:=[]) (m:=[]) (keep:=[]) (st2:=(f81r1n0E a1 a2 a3 a4 (.ret v362)).2) (by kernel_rfl) an rfl rfl
noncomputable def f81r1F:Nat→Int→Int→Int→List Qd→Option (List Qd)
 | 0,_,_,_,_=>none
 | k+1,a1,a2,a3,a4=>(f81r1n0 (f81r1F k) a1 a2 a3 a4).bind fun o=>match o with
  | .norm v363=>some v363
  | .ret v364=>some v364
theorem f81r1F_ok:∀(k:Nat)(a1 a2 a3:Int)(a4:List Qd){r:List Qd},f81r1F k a1 a2 a3 a4=some r→Qp Try.prog true 81 [(.own 0),(jI a1),(jI a2),(jI a3),(.pl (.fn 55))] [jR 6 Qd.cells a4] (.tup []) [jR 6 Qd.cells r]
 | 0,_,_,_,_,_,h=>nomatch h
 | k+1,a1,a2,a3,a4,r,h=>by
  unfold f81r1F at h;obtain ⟨o,ho,h⟩:=Qf h;cases o with
  | norm v363 =>
   obtain rfl:=Qg h;exact Qp.shared Qh (f:=Try.f81) (c:=c81) (by kernel_rfl) (by kernel_rfl) (by kernel_rfl) ((f81r1n0_ok (fun _ _ _ _ {_} h=>f81r1F_ok k _ _ _ _ h) a1 a2 a3 a4 ho).mono fun r e=>by subst e; exact ⟨.inr rfl,by kernel_rfl,by kernel_rfl⟩)
  | ret v364 =>
   obtain rfl:=Qg h;exact Qp.shared Qh (f:=Try.f81) (c:=c81) (by kernel_rfl) (by kernel_rfl) (by kernel_rfl) ((f81r1n0_ok (fun _ _ _ _ {_} h=>f81r1F_ok k _ _ _ _ h) a1 a2 a3 a4 ho).mono fun r e=>by subst e; exact ⟨.inl rfl,by kernel_rfl,by kernel_rfl⟩)
noncomputable def f81r1(a1 a2 a3:Int)(a4:List Qd):Option (List Qd):=f81r1F 200 a1 a2 a3 a4
theorem f81r1_ok(a1 a2 a3:Int)(a4:List Qd){r:List Qd}(h:f81r1 a1 a2 a3 a4=some r):Qp Try.prog true 81 [(.own 0),(jI a1),(jI a2),(jI a3),(.pl (.fn 55))] [jR 6 Qd.cells a4] (.tup []) [jR 6 Qd.cells r]:=f81r1F_ok 200 a1 a2 a3 a4 h
end Go.Proofs.Ythpceddjepbamaa
namespace Go.Proofs.Ythpceddjepbamaa
set_option linter.unusedVariables false
set_option linter.unusedSimpArgs false
set_option maxRecDepth 100000
open Go.RowKit
noncomputable def c68:Code:=Try.f68.body.getD .skip
inductive f68r1n1O where
 | exit0 (v27:Int) (v28:List Qd)
def f68r1n1E(a1:Int):f68r1n1O→Ex×Tr×Hp
 | .exit0 v27 v28=>((.exit 0),mkS [(0,(.own 0)),(1,(jI a1)),(2,(.pl (.fn 55))),(6,(jI 20)),(7,(jI v27))],[jR 6 Qd.cells v28])
def f68r1n1S(a1 v18 v19:Int)(v20:List Qd):Tr×Hp:=(mkS [(0,(.own 0)),(1,(jI a1)),(2,(.pl (.fn 55))),(6,(jI 20)),(7,(jI v18)),(8,(jI v19))],[jR 6 Qd.cells v20])
noncomputable def f68r1n1:Nat→Int→Int→Int→List Qd→Option f68r1n1O
 | 0,_,_,_,_=>none
 | f+1,a1,v18,v19,v20 =>
  bif decide (v19≤a1) then
   (f80r1 v18 v19 v20).bind fun x25 =>
   (f68r1n1 f a1 v19 (wr64 (v19+20)) x25)
  else
   some (.exit0 v18 v20)
theorem f68r1n1_ok:∀(f:Nat)(a1 v18 v19:Int)(v20:List Qd){o:f68r1n1O},f68r1n1 f a1 v18 v19 v20=some o→TL Try.prog Try.f68.ntmps 1 f (cL (cL (cL (Qk 2 c68)))) (f68r1n1S a1 v18 v19 v20) (·=f68r1n1E a1 o)
 | 0,_,_,_,_,o,h=>by rw [f68r1n1] at h; cases h
 | f+1,a1,v18,v19,v20,o,h=>by
  rw [f68r1n1] at h;refine TL.body (K:=fun s=>∃v18:Int,∃v19:Int,∃v20:List Qd,s=(f68r1n1S a1 v18 v19 v20)∧f68r1n1 f a1 v18 v19 v20=some o) ?_ (by rintro _ ⟨v18,v19,v20,rfl,hk⟩; exact f68r1n1_ok f _ _ _ _ hk);rcases Qj h with ⟨h22,h⟩|⟨h22,h⟩
  ·obtain ⟨x25,h26,h⟩:=Qf h;exact rE Qh [j3,([],[(4,.call (.tup []) [jR 6 Qd.cells x25])],[]),j3,j3] [some true] [] [] [0,1,2,6,7,8] (.norm,(f68r1n1S a1 v19 (wr64 (v19+20)) x25)) (ap h22 (ap (f80r1_ok v18 v19 v20 h26) an)) (Qt.norm ⟨v19,(wr64 (v19+20)),x25,rfl,h⟩)
  ·obtain rfl:=Qg h;exact rK Qh 1 [j3] [some false] [] [] [0,1,2,6,7] (.exit 0) ((f68r1n1E a1 (.exit0 v18 v20)).2) (ap h22 an) (Qt.out rfl rfl)
inductive f68r1n3O where
 | exit4 (v151:Int) (v152:List Qd)
def f68r1n3E(bd1 bd2:Int):f68r1n3O→Ex×Tr×Hp
 | .exit4 v151 v152=>((.exit 4),mkS [(0,(.own 0)),(1,(jI bd1)),(2,(.pl (.fn 55))),(6,(jI bd2)),(7,(jI v151))],[jR 6 Qd.cells v152])
def f68r1n3S(bd1 bd2 v142 v143:Int)(v144:List Qd):Tr×Hp:=(mkS [(0,(.own 0)),(1,(jI bd1)),(2,(.pl (.fn 55))),(6,(jI bd2)),(7,(jI v142)),(8,(jI v143))],[jR 6 Qd.cells v144])
noncomputable def f68r1n3:Nat→Int→Int→Int→Int→List Qd→Option f68r1n3O
 | 0,_,_,_,_,_=>none
 | f+1,bd1,bd2,v142,v143,v144 =>
  bif decide (v143≤bd1) then
   (f81r1 v142 (wr64 (v142+bd2)) v143 v144).bind fun x149 =>
   (f68r1n3 f bd1 bd2 v143 (wr64 (v143+(wr64 (2*bd2)))) x149)
  else
   some (.exit4 v142 v144)
theorem f68r1n3_ok:∀(f:Nat)(bd1 bd2 v142 v143:Int)(v144:List Qd){o:f68r1n3O},f68r1n3 f bd1 bd2 v142 v143 v144=some o→TL Try.prog Try.f68.ntmps 1 f (cL (cL (cL (Qk 1 (cL (Qk 1 (cL (cL (Qk 1 (Qk 1 (Qk 2 c68))))))))))) (f68r1n3S bd1 bd2 v142 v143 v144) (·=f68r1n3E bd1 bd2 o)
 | 0,_,_,_,_,_,o,h=>by rw [f68r1n3] at h; cases h
 | f+1,bd1,bd2,v142,v143,v144,o,h=>by
  rw [f68r1n3] at h;refine TL.body (K:=fun s=>∃v142:Int,∃v143:Int,∃v144:List Qd,s=(f68r1n3S bd1 bd2 v142 v143 v144)∧f68r1n3 f bd1 bd2 v142 v143 v144=some o) ?_ (by rintro _ ⟨v142,v143,v144,rfl,hk⟩; exact f68r1n3_ok f _ _ _ _ _ hk);rcases Qj h with ⟨h146,h⟩|⟨h146,h⟩
  ·obtain ⟨x149,h150,h⟩:=Qf h;exact rE Qh [j3,([],[(7,.call (.tup []) [jR 6 Qd.cells x149])],[]),j3,j3] [some true] [] [] [0,1,2,6,7,8] (.norm,(f68r1n3S bd1 bd2 v143 (wr64 (v143+(wr64 (2*bd2)))) x149)) (ap h146 (ap (f81r1_ok v142 (wr64 (v142+bd2)) v143 v144 h150) an)) (Qt.norm ⟨v143,(wr64 (v143+(wr64 (2*bd2)))),x149,rfl,h⟩)
  ·obtain rfl:=Qg h;exact rK Qh 1 [j3] [some false] [] [] [0,1,2,6,7] (.exit 4) ((f68r1n3E bd1 bd2 (.exit4 v142 v144)).2) (ap h146 an) (Qt.out rfl rfl)
inductive f68r1n2O where
 | norm (v163:List Qd)
def f68r1n2E(bd1 bd2:Int)(bf3:List Qd):f68r1n2O→Ex×Tr×Hp
 | .norm v163=>(.norm,mkS [(0,(.own 0)),(1,(jI bd1)),(2,(.pl (.fn 55))),(6,(jI (wr64 (bd2*2))))],[jR 6 Qd.cells v163])
def f68r1n2S(bd1 bd2:Int)(bf3:List Qd):Tr×Hp:=(mkS [(0,(.own 0)),(1,(jI bd1)),(2,(.pl (.fn 55))),(6,(jI bd2))],[jR 6 Qd.cells bf3])
noncomputable def f68r1n2(bd1 bd2:Int)(bf3:List Qd):Option f68r1n2O :=
 (f68r1n3 FUEL bd1 bd2 0 (wr64 (2*bd2)) bf3).bind fun o153=>match o153 with
 | .exit4 v155 v156=>bif (decide ((wr64 (v155+bd2))<bd1)) then
   (f81r1 v155 (wr64 (v155+bd2)) bd1 v156).bind fun x161 =>
   some (.norm x161)
  else
   some (.norm v156)
theorem f68r1n2_ok(bd1 bd2:Int)(bf3:List Qd){o:f68r1n2O}(h:f68r1n2 bd1 bd2 bf3=some o):T Try.prog Try.f68.ntmps 1 (Qk 1 (cL (cL (Qk 1 (Qk 1 (Qk 2 c68)))))) (f68r1n2S bd1 bd2 bf3) (·=f68r1n2E bd1 bd2 bf3 o):=by
 unfold f68r1n2 at h;refine T.block' (i:=3) (by kernel_rfl) ?_;refine rN Qh 1 [j3] [] [] [] [0,1,2,6,7,8] (f68r1n3S bd1 bd2 0 (wr64 (2*bd2)) bf3) an ?_;obtain ⟨o153,h154,h⟩:=Qf h;cases o153 with
 | exit4 v155 v156 =>
  refine T.oneN (by kernel_rfl) (T.bl (i:=4) (by kernel_rfl) (by kernel_rfl) (f68r1n3_ok FUEL bd1 bd2 0 (wr64 (2*bd2)) bf3 h154)) (st2:=(f68r1n3E bd1 bd2 (.exit4 v155 v156)).2) rfl ?_;rcases Qj h with ⟨h160,h⟩|⟨h160,h⟩
  ·obtain ⟨x161,h162,h⟩:=Qf h;obtain rfl:=Qg h;exact rE Qh [j3,j3,([],[(5,.call (.tup []) [jR 6 Qd.cells x161])],[]),j3] [some true] [] [] [0,1,2,6] (.norm,(f68r1n2E bd1 bd2 bf3 (.norm x161)).2) (ap h160 (ap (f81r1_ok v155 (wr64 (v155+bd2)) bd1 v156 h162) an)) rfl
  ·obtain rfl:=Qg h;exact rE Qh [j3,j3,j3] [some false] [] [] [0,1,2,6] (.norm,(f68r1n2E bd1 bd2 bf3 (.norm v156)).2) (ap h160 an) rfl
inductive f68r1n4O where
 | exit2 (v167:List Qd)
def f68r1n4E(a1:Int):f68r1n4O→Ex×Tr×Hp
 | .exit2 v167=>((.exit 2),mkS [],[jR 6 Qd.cells v167])
def f68r1n4S(a1 v123:Int)(v124:List Qd):Tr×Hp:=(mkS [(0,(.own 0)),(1,(jI a1)),(2,(.pl (.fn 55))),(6,(jI v123))],[jR 6 Qd.cells v124])
noncomputable def f68r1n4:Nat→Int→Int→List Qd→Option f68r1n4O
 | 0,_,_,_=>none
 | f+1,a1,v123,v124 =>
  bif decide (v123<a1) then
   (f68r1n2 a1 v123 v124).bind fun o164=>match o164 with
   | .norm v166=>(f68r1n4 f a1 (wr64 (v123*2)) v166)
  else
   some (.exit2 v124)
theorem f68r1n4_ok:∀(f:Nat)(a1 v123:Int)(v124:List Qd){o:f68r1n4O},f68r1n4 f a1 v123 v124=some o→TL Try.prog Try.f68.ntmps 1 f (cL (cL (Qk 1 (Qk 1 (Qk 2 c68))))) (f68r1n4S a1 v123 v124) (·=f68r1n4E a1 o)
 | 0,_,_,_,o,h=>by rw [f68r1n4] at h; cases h
 | f+1,a1,v123,v124,o,h=>by
  rw [f68r1n4] at h;refine TL.body (K:=fun s=>∃v123:Int,∃v124:List Qd,s=(f68r1n4S a1 v123 v124)∧f68r1n4 f a1 v123 v124=some o) ?_ (by rintro _ ⟨v123,v124,rfl,hk⟩; exact f68r1n4_ok f _ _ _ hk);rcases Qj h with ⟨h126,h⟩|⟨h126,h⟩
  ·refine rN Qh 1 [j3] [some true] [] [] [0,1,2,6] (f68r1n2S a1 v123 v124) (ap h126 an) ?_;obtain ⟨o164,h165,h⟩:=Qf h;cases o164 with
   | norm v166 =>
    exact T.last' (f68r1n2_ok a1 v123 v124 h165) (tds:=[]) (m:=[]) (keep:=[0,1,2,6]) (st2:=(f68r1n4S a1 (wr64 (v123*2)) v166)) (by kernel_rfl) an (Qt.norm ⟨(wr64 (v123*2)),v166,rfl,h⟩)
  ·obtain rfl:=Qg h;exact rK Qh 1 [j3] [some false] [] [] [] (.exit 2) ((f68r1n4E a1 (.exit2 v124)).2) (ap h126 an) (Qt.out rfl rfl)
inductive f68r1n0O where
 | norm (v171:List Qd)
def f68r1n0E(a1:Int)(a2:List Qd):f68r1n0O→Ex×Tr×Hp
 | .norm v171=>(.norm,mkS [],[jR 6 Qd.cells v171])
def f68r1n0S(a1:Int)(a2:List Qd):Tr×Hp:=(Qan [(.own 0),(jI a1),(.pl (.fn 55))] 0 .leaf,[jR 6 Qd.cells a2])
noncomputable def f68r1n0(a1:Int)(a2:List Qd):Option f68r1n0O :=
 (f68r1n1 FUEL a1 0 20 a2).bind fun o29=>match o29 with
 | .exit0 v31 v32=>(f80r1 v31 a1 v32).bind fun x35 =>
  (f68r1n4 FUEL a1 20 x35).bind fun o168=>match o168 with
  | .exit2 v170=>some (.norm v170)
theorem f68r1n0_ok(a1:Int)(a2:List Qd){o:f68r1n0O}(h:f68r1n0 a1 a2=some o):T Try.prog Try.f68.ntmps 1 c68 (f68r1n0S a1 a2) (·=f68r1n0E a1 a2 o):=by
 unfold f68r1n0 at h;refine rN Qh 2 [j3,j3] [] [] [] [0,1,2,6,7,8] (f68r1n1S a1 0 20 a2) an ?_;obtain ⟨o29,h30,h⟩:=Qf h;cases o29 with
 | exit0 v31 v32 =>
  refine T.oneN (by kernel_rfl) (T.bl (i:=0) (by kernel_rfl) (by kernel_rfl) (f68r1n1_ok FUEL a1 0 20 a2 h30)) (st2:=(f68r1n1E a1 (.exit0 v31 v32)).2) rfl ?_;obtain ⟨x35,h36,h⟩:=Qf h;refine rN Qh 1 [([],[(4,.call (.tup []) [jR 6 Qd.cells x35])],[])] [] [] [] [0,1,2,6] (f68r1n4S a1 20 x35) (ap (f80r1_ok v31 a1 v32 h36) an) ?_;obtain ⟨o168,h169,h⟩:=Qf h;cases o168 with
  | exit2 v170 =>
   obtain rfl:=Qg h;exact T.last' (T.bl (i:=2) (by kernel_rfl) (by kernel_rfl) (f68r1n4_ok FUEL a1 20 x35 h169)) (tds:=[]) (m:=[]) (keep:=[]) (st2:=(f68r1n0E a1 a2 (.norm v170)).2) (by kernel_rfl) an rfl
noncomputable def f68r1(a1:Int)(a2:List Qd):Option (List Qd):=(f68r1n0 a1 a2).bind fun o=>match o with
 | .norm v171=>some v171
theorem f68r1_ok(a1:Int)(a2:List Qd){r:List Qd}(h:f68r1 a1 a2=some r):Qp Try.prog true 68 [(.own 0),(jI a1),(.pl (.fn 55))] [jR 6 Qd.cells a2] (.tup []) [jR 6 Qd.cells r]:=by
 unfold f68r1 at h;obtain ⟨o,ho,h⟩:=Qf h;cases o with
 | norm v171 =>
  obtain rfl:=Qg h;exact Qp.shared Qh (f:=Try.f68) (c:=c68) (by kernel_rfl) (by kernel_rfl) (by kernel_rfl) ((f68r1n0_ok a1 a2 ho).mono fun r e=>by subst e; exact ⟨.inr rfl,by kernel_rfl,by kernel_rfl⟩)

noncomputable def c54:Code:=Try.f54.body.getD .skip
inductive f54r1n0O where
 | norm (v6:List Qd)
def f54r1n0E(a1:List Qd):f54r1n0O→Ex×Tr×Hp
 | .norm v6=>(.norm,mkS [],[jR 6 Qd.cells v6])
def f54r1n0S(a1:List Qd):Tr×Hp:=(Qan [(.own 0),(.pl (.fn 55))] 0 .leaf,[jR 6 Qd.cells a1])
noncomputable def f54r1n0(a1:List Qd):Option f54r1n0O :=
 (f68r1 (a1.length:Int) a1).bind fun x4 =>
 some (.norm x4)
theorem f54r1n0_ok(a1:List Qd){o:f54r1n0O}(h:f54r1n0 a1=some o):T Try.prog Try.f54.ntmps 1 c54 (f54r1n0S a1) (·=f54r1n0E a1 o):=by
 unfold f54r1n0 at h;obtain ⟨x4,h5,h⟩:=Qf h;obtain rfl:=Qg h;exact rE Qh [([],[(4,.call (.tup []) [jR 6 Qd.cells x4])],[(2,.val (jI (a1.length:Int)))])] [] [] [] [] (.norm,(f54r1n0E a1 (.norm x4)).2) (ap (Qac (xs:=a1) (c:=Qd.cells)) (ap (f68r1_ok (a1.length:Int) a1 h5) an)) rfl
noncomputable def f54r1(a1:List Qd):Option (List Qd):=(f54r1n0 a1).bind fun o=>match o with
 | .norm v6=>some v6
theorem f54r1_ok(a1:List Qd){r:List Qd}(h:f54r1 a1=some r):Qp Try.prog true 54 [(.own 0),(.pl (.fn 55))] [jR 6 Qd.cells a1] (.tup []) [jR 6 Qd.cells r]:=by
 unfold f54r1 at h;obtain ⟨o,ho,h⟩:=Qf h;cases o with
 | norm v6 =>
  obtain rfl:=Qg h;exact Qp.shared Qh (f:=Try.f54) (c:=c54) (by kernel_rfl) (by kernel_rfl) (by kernel_rfl) ((f54r1n0_ok a1 ho).mono fun r e=>by subst e; exact ⟨.inr rfl,by kernel_rfl,by kernel_rfl⟩)

noncomputable def c56:Code:=Try.f56.body.getD .skip
noncomputable def Qbp:Code:=(Qk 0 (cL (Qk 1 (cL (Qk 2 c56)))))
inductive f56y1n0O where
 | norm (v5:Int)
noncomputable def f56y1n0E(a1:Qd)(a2:Int):f56y1n0O→Ex×Tr×Hp
 | .norm v5=>(.norm,mkS [],[some (.lp Qbp .busy none (kL 18 [(5,(.bp 1 0))])),some (.box (((cInt .i64) v5).map .pl))])
noncomputable def f56y1n0S(a1:Qd)(a2:Int):Tr×Hp:=(mkS [(5,(.bp 1 0)),(6,(.bp 2 0))],[some (.lp Qbp .busy none (kL 18 [(5,(.bp 1 0))])),some (.box (((cInt .i64) a2).map .pl)),some (.box ((Qd.cells a1).map .pl))])
noncomputable def f56y1n0(a1:Qd)(a2:Int):Option f56y1n0O :=
 bif decide (0<a1.units) then
  some (.norm a1.bid.Price)
 else
  some (.norm a2)
theorem f56y1n0_ok(a1:Qd)(a2:Int){o:f56y1n0O}(h:f56y1n0 a1 a2=some o):T Try.prog Try.f56.ntmps 2 (rfB Qbp) (f56y1n0S a1 a2) (·=f56y1n0E a1 a2 o):=by
 unfold f56y1n0 at h;refine T.block' (i:=1) (by kernel_rfl) ?_;rcases Qj h with ⟨h4,h⟩|⟨h4,h⟩
 ·obtain rfl:=Qg h;exact rE Qh [j3,j3] [some true] [] [] [] (.norm,(f56y1n0E a1 a2 (.norm a1.bid.Price)).2) (ap h4 an) rfl
 ·obtain rfl:=Qg h;exact rE Qh [j3] [some false] [] [] [] (.norm,(f56y1n0E a1 a2 (.norm a2)).2) (ap h4 an) rfl
theorem f56y1_norm(a1:Qd)(a2:Int){v5:Int}(h:f56y1n0 a1 a2=some (.norm v5)):Qbi Try.prog [(jA Qd.cells a1)] 0 [some (.lp Qbp .ready none (kL 18 [(5,(.bp 1 0))])),some (.box (((cInt .i64) a2).map .pl))] true [some (.lp Qbp .ready none (kL 18 [(5,(.bp 1 0))])),some (.box (((cInt .i64) v5).map .pl))] :=
 Qbi.mk (c:=Qbp) (n:=Try.f56.ntmps) (base:=2) (cs:=(kL 18 [(5,(.bp 1 0))])) (cs2:=(kL 18 [(5,(.bp 1 0))])) (cs3:=(kL 18 [(5,(.bp 1 0))])) (st2:=(mkS [(5,(.bp 1 0)),(6,(.bp 2 0))],[some (.lp Qbp .ready none (kL 18 [(5,(.bp 1 0))])),some (.box (((cInt .i64) a2).map .pl)),some (.box ((Qd.cells a1).map .pl))])) (e:=(f56y1n0E a1 a2 (.norm v5))) (pend:=none)
  (run_ok (P:=Try.prog) (C:=cfg) Qh (c:=rfA Qbp) (rs:=[j3]) (ps:=[]) (tds:=[]) (m:=[2]) (keep:=[5,6]) (by kernel_rfl) an)
  (f56y1n0_ok a1 a2 h)

noncomputable def c53:Code:=Try.f53.body.getD .skip
inductive f53r1n2O where
 | exit0 (v42:List Qd)
noncomputable def f53r1n2E(ba1:Qe)(be2:Qb)(bd3:Int):f53r1n2O→Ex×Tr×Hp
 | .exit0 v42=>((.exit 0),mkS [(0,(.yl 0)),(2,(.bp 2 0)),(4,(.own 4))],[some (.lp Qbp .ready none (kL 18 [(5,(.bp 3 0))])),some (.box ((Qe.cells ba1).map .pl)),some (.box ((Qb.cells be2).map .pl)),some (.box (((cInt .i64) bd3).map .pl)),jR 6 Qd.cells v42])
noncomputable def f53r1n2S(ba1:Qe)(be2:Qb)(bd3 v28:Int)(v29:List Qd):Tr×Hp:=(mkS [(0,(.yl 0)),(2,(.bp 2 0)),(4,(.own 4)),(11,(jL 4 Qc.cells ba1.Bids)),(12,(jI (ba1.Bids.length:Int))),(13,(jI v28))],[some (.lp Qbp .ready none (kL 18 [(5,(.bp 3 0))])),some (.box ((Qe.cells ba1).map .pl)),some (.box ((Qb.cells be2).map .pl)),some (.box (((cInt .i64) bd3).map .pl)),jR 6 Qd.cells v29])
noncomputable def f53r1n2:Nat→Qe→Qb→Int→Int→List Qd→Option f53r1n2O
 | 0,_,_,_,_,_=>none
 | f+1,ba1,be2,bd3,v28,v29 =>
  bif decide (v28<(ba1.Bids.length:Int)) then
   (at? ba1.Bids v28).bind fun x37 =>
   bif (seq x37.Lot be2.Name) then
    bif decide (be2.Reserve≤x37.Price) then
     req (fit (v29.length+1) 64) <|
     (f53r1n2 f ba1 be2 bd3 (wr64 (v28+1)) (v29++[(Qd.mk v28 0 x37)]))
    else
     (f53r1n2 f ba1 be2 bd3 (wr64 (v28+1)) v29)
   else
    (f53r1n2 f ba1 be2 bd3 (wr64 (v28+1)) v29)
  else
   some (.exit0 v29)
theorem f53r1n2_ok:∀(f:Nat)(ba1:Qe)(be2:Qb)(bd3 v28:Int)(v29:List Qd){o:f53r1n2O},f53r1n2 f ba1 be2 bd3 v28 v29=some o→TL Try.prog Try.f53.ntmps 4 f (cL (cL (Qk 1 (cL (Qk 1 c53))))) (f53r1n2S ba1 be2 bd3 v28 v29) (·=f53r1n2E ba1 be2 bd3 o)
 | 0,_,_,_,_,_,o,h=>by rw [f53r1n2] at h; cases h
 | f+1,ba1,be2,bd3,v28,v29,o,h=>by
  rw [f53r1n2] at h;refine TL.body (K:=fun s=>∃v28:Int,∃v29:List Qd,s=(f53r1n2S ba1 be2 bd3 v28 v29)∧f53r1n2 f ba1 be2 bd3 v28 v29=some o) ?_ (by rintro _ ⟨v28,v29,rfl,hk⟩; exact f53r1n2_ok f _ _ _ _ _ hk);rcases Qj h with ⟨h31,h⟩|⟨h31,h⟩
  ·obtain ⟨x37,h38,h⟩:=Qf h;rcases Qj h with ⟨h39,h⟩|⟨h39,h⟩
   ·rcases Qj h with ⟨h40,h⟩|⟨h40,h⟩
    ·obtain ⟨h41,h⟩:=Qcc h;exact rE Qh [j3,([],[(1,.idx (Int.toNat v28) (Qc.cells x37))],[]),(jT [6,7,8,9,10],[(11,.bool true)],[]),([],[(5,.fits)],[(5,.row 7 ((v29++[(Qd.mk v28 0 x37)]).map Qd.cells))]),j3] [some true,some true] [] [7] [0,2,4,11,12,13] (.norm,(f53r1n2S ba1 be2 bd3 (wr64 (v28+1)) (v29++[(Qd.mk v28 0 x37)]))) (ap h31 (ap (Qi h38).1 (ap (Qn Qc.cells (Qi h38).2) (ap2 h39 (ap4 h39 (ap h40 (ap (fit_map (te:=ti78) (xs:=v29) (n:=1) (c:=Qd.cells) h41 rfl) (ap (app_cv (xs:=v29) (ys:=[(Qd.mk v28 0 x37)]) (c:=Qd.cells)) an)))))))) (Qt.norm ⟨(wr64 (v28+1)),(v29++[(Qd.mk v28 0 x37)]),rfl,h⟩)
    ·exact rE Qh [j3,([],[(1,.idx (Int.toNat v28) (Qc.cells x37))],[]),(jT [6,7,8,9,10],[(11,.bool true)],[]),j3] [some true,some false] [] [4] [0,2,4,11,12,13] (.norm,(f53r1n2S ba1 be2 bd3 (wr64 (v28+1)) v29)) (ap h31 (ap (Qi h38).1 (ap (Qn Qc.cells (Qi h38).2) (ap2 h39 (ap4 h39 (ap h40 an)))))) (Qt.norm ⟨(wr64 (v28+1)),v29,rfl,h⟩)
   ·exact rE Qh [j3,([],[(1,.idx (Int.toNat v28) (Qc.cells x37))],[]),(jF [6,7,8,9,10],[(11,.bool false)],[]),j3] [some true,none] [] [4] [0,2,4,11,12,13] (.norm,(f53r1n2S ba1 be2 bd3 (wr64 (v28+1)) v29)) (ap h31 (ap (Qi h38).1 (ap (Qn Qc.cells (Qi h38).2) (ap2 h39 (ap4 h39 an))))) (Qt.norm ⟨(wr64 (v28+1)),v29,rfl,h⟩)
  ·obtain rfl:=Qg h;exact rK Qh 2 [j3] [some false] [] [4] [0,2,4] (.exit 0) ((f53r1n2E ba1 be2 bd3 (.exit0 v29)).2) (ap h31 an) (Qt.out rfl rfl)
noncomputable def f53r1n2L(ba1:Qe)(be2:Qb)(bd3:Int):List Qc→Int→(List Qd)→Option f53r1n2O
 | [],v28,v29 =>
  some (.exit0 v29)
 | x0::rest,v28,v29 =>
  bif (seq x0.Lot be2.Name) then
   bif decide (be2.Reserve≤x0.Price) then
    req (fit (v29.length+1) 64) <|
    (f53r1n2L ba1 be2 bd3 rest (v28+1) (v29++[(Qd.mk v28 0 x0)]))
   else
    (f53r1n2L ba1 be2 bd3 rest (v28+1) v29)
  else
   (f53r1n2L ba1 be2 bd3 rest (v28+1) v29)
theorem f53r1n2L_eq(ba1:Qe)(be2:Qb)(bd3:Int):∀(rest:List Qc)(f k:Nat)(v29:List Qd),ba1.Bids.drop k=rest→ba1.Bids.length≤maxLen→rest.length<f→f53r1n2 f ba1 be2 bd3 (k:Int) v29=f53r1n2L ba1 be2 bd3 rest (k:Int) v29
 | _,0,_,_,_,_,hf=>absurd hf (Nat.not_lt_zero _)
 | [],f+1,k,v29,hd,hm,hf=>by
  have hk:¬((k:Int)<(ba1.Bids.length:Int)):=by have:=Qbb hd; omega
  rw [f53r1n2,f53r1n2L];simp only [decide_eq_false hk,cond_false]
 | x0::rest,f+1,k,v29,hd,hm,hf=>by
  obtain ⟨hx,hlt,hd'⟩:=drop_cons hd;have hk:(k:Int)<(ba1.Bids.length:Int):=by omega
  have hw:wr64 ((k:Int)+1)=(k:Int)+1:=wr64_of (by omega) (by unfold maxLen at hm; omega);have ih:∀(v29:List Qd),f53r1n2 f ba1 be2 bd3 ((k:Int)+1) v29=f53r1n2L ba1 be2 bd3 rest ((k:Int)+1) v29:=fun v29=>f53r1n2L_eq ba1 be2 bd3 rest f (k+1) v29 hd' hm (by simpa using hf);rw [f53r1n2,f53r1n2L];simp only [decide_eq_true hk,cond_true,at_nat,hx,Option.bind_some,hw,ih]
theorem f53r1n2_run(ba1:Qe)(be2:Qb)(bd3:Int)(v29:List Qd)(hm:ba1.Bids.length≤maxLen):f53r1n2 FUEL ba1 be2 bd3 0 v29=f53r1n2L ba1 be2 bd3 ba1.Bids 0 v29:=f53r1n2L_eq ba1 be2 bd3 ba1.Bids FUEL 0 v29 List.drop_zero hm (Qba hm)
inductive f53r1n1O where
 | norm (v46:List Qd)
noncomputable def f53r1n1E(ba1:Qe)(be2:Qb)(bd3:Int):f53r1n1O→Ex×Tr×Hp
 | .norm v46=>(.norm,mkS [(0,(.yl 0)),(2,(.bp 2 0)),(4,(.own 4))],[some (.lp Qbp .ready none (kL 18 [(5,(.bp 3 0))])),some (.box ((Qe.cells ba1).map .pl)),some (.box ((Qb.cells be2).map .pl)),some (.box (((cInt .i64) bd3).map .pl)),jR 6 Qd.cells v46])
noncomputable def f53r1n1S(ba1:Qe)(be2:Qb)(bd3:Int):Tr×Hp:=(mkS [(0,(.yl 0)),(1,(.bp 1 0)),(2,(.bp 2 0)),(4,(.pl (.sl .nil 0 [])))],[some (.lp Qbp .ready none (kL 18 [(5,(.bp 3 0))])),some (.box ((Qe.cells ba1).map .pl)),some (.box ((Qb.cells be2).map .pl)),some (.box (((cInt .i64) bd3).map .pl))])
noncomputable def f53r1n1(ba1:Qe)(be2:Qb)(bd3:Int):Option f53r1n1O :=
 (f53r1n2 FUEL ba1 be2 bd3 0 []).bind fun o43=>match o43 with
 | .exit0 v45=>some (.norm v45)
theorem f53r1n1_ok(ba1:Qe)(be2:Qb)(bd3:Int){o:f53r1n1O}(h:f53r1n1 ba1 be2 bd3=some o):T Try.prog Try.f53.ntmps 4 (cL (Qk 1 c53)) (f53r1n1S ba1 be2 bd3) (·=f53r1n1E ba1 be2 bd3 o):=by
 unfold f53r1n1 at h;refine rN Qh 1 [([],[],[(2,.val (jI (ba1.Bids.length:Int)))])] [] [.mat 4 6] [4] [0,2,4,11,12,13] (f53r1n2S ba1 be2 bd3 0 []) (ap (Qac (xs:=ba1.Bids) (c:=Qc.cells)) an) ?_;obtain ⟨o43,h44,h⟩:=Qf h;cases o43 with
 | exit0 v45 =>
  obtain rfl:=Qg h;exact T.last' (T.bl (i:=0) (by kernel_rfl) (by kernel_rfl) (f53r1n2_ok FUEL ba1 be2 bd3 0 [] h44)) (tds:=[]) (m:=[4]) (keep:=[0,2,4]) (st2:=(f53r1n1E ba1 be2 bd3 (.norm v45)).2) (by kernel_rfl) an rfl
inductive f53r1n3O where
 | norm (v99:Int) (v100:Int)
noncomputable def f53r1n3E(bd1:Int)(bf2:List Qd)(bd3:Int)(ba4:Qe)(be5:Qb)(bd6:Int):f53r1n3O→Ex×Tr×Hp
 | .norm v99 v100=>(.norm,mkS [(0,(.yl 0)),(7,(jI v99)),(41,(.own 4)),(42,(jI (bf2.length:Int))),(43,(jI bd3))],[some (.lp Qbp .ready none (kL 18 [(5,(.bp 3 0))])),some (.box ((Qe.cells ba4).map .pl)),some (.box ((Qb.cells be5).map .pl)),some (.box (((cInt .i64) v100).map .pl)),jR 6 Qd.cells bf2])
noncomputable def f53r1n3S(bd1:Int)(bf2:List Qd)(bd3:Int)(ba4:Qe)(be5:Qb)(bd6:Int):Tr×Hp:=(mkS [(0,(.yl 0)),(7,(jI bd1)),(41,(.own 4)),(42,(jI (bf2.length:Int))),(43,(jI bd3))],[some (.lp Qbp .ready none (kL 18 [(5,(.bp 3 0))])),some (.box ((Qe.cells ba4).map .pl)),some (.box ((Qb.cells be5).map .pl)),some (.box (((cInt .i64) bd6).map .pl)),jR 6 Qd.cells bf2])
noncomputable def f53r1n3(bd1:Int)(bf2:List Qd)(bd3:Int)(ba4:Qe)(be5:Qb)(bd6:Int):Option f53r1n3O :=
 (at? bf2 bd3).bind fun x94 =>
 (f56y1n0 (Qd.mk x94.index (mnI bd1 x94.bid.Units) x94.bid) bd6).bind fun o96=>match o96 with
 | .norm v98=>some (.norm (wr64 (bd1-(mnI bd1 x94.bid.Units))) v98)
theorem f53r1n3_ok(bd1:Int)(bf2:List Qd)(bd3:Int)(ba4:Qe)(be5:Qb)(bd6:Int){o:f53r1n3O}(h:f53r1n3 bd1 bf2 bd3 ba4 be5 bd6=some o):T Try.prog Try.f53.ntmps 4 (cL (Qk 2 (cL (cL (Qk 3 (Qk 1 (Qk 1 c53))))))) (f53r1n3S bd1 bf2 bd3 ba4 be5 bd6) (·=f53r1n3E bd1 bf2 bd3 ba4 be5 bd6 o):=by
 unfold f53r1n3 at h;refine T.block' (i:=3) (by kernel_rfl) ?_;obtain ⟨x94,h95,h⟩:=Qf h;refine rN Qh 3 [([],[(0,.at_ (Int.toNat bd3)),(1,.idx 0 (Qd.cells x94))],[]),j3,j3] [] [] [5,4] [0,7,9,41,42,43] (mkS [(0,(.yl 0)),(7,(jI (wr64 (bd1-(mnI bd1 x94.bid.Units))))),(9,(.bp 4 0)),(41,(.own 5)),(42,(jI (bf2.length:Int))),(43,(jI bd3))],[some (.lp Qbp .ready none (kL 18 [(5,(.bp 3 0))])),some (.box ((Qe.cells ba4).map .pl)),some (.box ((Qb.cells be5).map .pl)),some (.box (((cInt .i64) bd6).map .pl)),some (.box ((Qd.cells (Qd.mk x94.index (mnI bd1 x94.bid.Units) x94.bid)).map .pl)),jR 6 Qd.cells bf2]) (ap (Qi h95).1 (ap (Qag Qd.cells (Qi h95).2) (ap (Qn Qd.cells (Qi h95).2) an))) ?_;obtain ⟨o96,h97,h⟩:=Qf h;cases o96 with
 | norm v98 =>
  refine T.oneN (by kernel_rfl) (yN Qh j3 2 true [some (.lp Qbp .ready none (kL 18 [(5,(.bp 3 0))])),none,none,some (.box (((cInt .i64) v98).map .pl)),none,none] [] [5] [0,7,41,42,43,60] (mkS [(0,(.yl 0)),(7,(jI (wr64 (bd1-(mnI bd1 x94.bid.Units))))),(41,(.own 4)),(42,(jI (bf2.length:Int))),(43,(jI bd3)),(60,(jB false))],[some (.lp Qbp .ready none (kL 18 [(5,(.bp 3 0))])),some (.box ((Qe.cells ba4).map .pl)),some (.box ((Qb.cells be5).map .pl)),some (.box (((cInt .i64) v98).map .pl)),jR 6 Qd.cells bf2]) (ap (Qbi.rn 6 [0,3] (f56y1_norm (Qd.mk x94.index (mnI bd1 x94.bid.Units) x94.bid) bd6 h97)) an)) rfl ?_;obtain rfl:=Qg h;exact rE Qh [] [none] [] [4] [0,7,41,42,43] (.norm,(f53r1n3E bd1 bf2 bd3 ba4 be5 bd6 (.norm (wr64 (bd1-(mnI bd1 x94.bid.Units))) v98)).2) an rfl
inductive f53r1n4O where
 | exit2 (v105:Int)
noncomputable def f53r1n4E(x52:List Qd)(a1:Qe)(a2:Qb):f53r1n4O→Ex×Tr×Hp
 | .exit2 v105=>((.exit 2),mkS [],[some (.lp Qbp .ready none (kL 18 [(5,(.bp 3 0))])),some (.box ((Qe.cells a1).map .pl)),some (.box ((Qb.cells a2).map .pl)),some (.box (((cInt .i64) v105).map .pl))])
noncomputable def f53r1n4S(x52:List Qd)(a1:Qe)(a2:Qb)(v87 v88 v89:Int):Tr×Hp:=(mkS [(0,(.yl 0)),(7,(jI v87)),(41,(.own 4)),(42,(jI (x52.length:Int))),(43,(jI v88))],[some (.lp Qbp .ready none (kL 18 [(5,(.bp 3 0))])),some (.box ((Qe.cells a1).map .pl)),some (.box ((Qb.cells a2).map .pl)),some (.box (((cInt .i64) v89).map .pl)),jR 6 Qd.cells x52])
noncomputable def f53r1n4:Nat→List Qd→Qe→Qb→Int→Int→Int→Option f53r1n4O
 | 0,_,_,_,_,_,_=>none
 | f+1,x52,a1,a2,v87,v88,v89 =>
  bif decide (v88<(x52.length:Int)) then
   (f53r1n3 v87 x52 v88 a1 a2 v89).bind fun o101=>match o101 with
   | .norm v103 v104=>(f53r1n4 f x52 a1 a2 v103 (wr64 (v88+1)) v104)
  else
   some (.exit2 v89)
theorem f53r1n4_ok:∀(f:Nat)(x52:List Qd)(a1:Qe)(a2:Qb)(v87 v88 v89:Int){o:f53r1n4O},f53r1n4 f x52 a1 a2 v87 v88 v89=some o→TL Try.prog Try.f53.ntmps 4 f (cL (cL (Qk 3 (Qk 1 (Qk 1 c53))))) (f53r1n4S x52 a1 a2 v87 v88 v89) (·=f53r1n4E x52 a1 a2 o)
 | 0,_,_,_,_,_,_,o,h=>by rw [f53r1n4] at h; cases h
 | f+1,x52,a1,a2,v87,v88,v89,o,h=>by
  rw [f53r1n4] at h;refine TL.body (K:=fun s=>∃v87:Int,∃v88:Int,∃v89:Int,s=(f53r1n4S x52 a1 a2 v87 v88 v89)∧f53r1n4 f x52 a1 a2 v87 v88 v89=some o) ?_ (by rintro _ ⟨v87,v88,v89,rfl,hk⟩; exact f53r1n4_ok f _ _ _ _ _ _ hk);rcases Qj h with ⟨h91,h⟩|⟨h91,h⟩
  ·refine rN Qh 2 [j3] [some true] [] [4] [0,7,41,42,43] (f53r1n3S v87 x52 v88 a1 a2 v89) (ap h91 an) ?_;obtain ⟨o101,h102,h⟩:=Qf h;cases o101 with
   | norm v103 v104 =>
    refine T.oneN (by kernel_rfl) (f53r1n3_ok v87 x52 v88 a1 a2 v89 h102) (st2:=(f53r1n3E v87 x52 v88 a1 a2 v89 (.norm v103 v104)).2) rfl ?_;exact rE Qh [j3] [] [] [4] [0,7,41,42,43] (.norm,(f53r1n4S x52 a1 a2 v103 (wr64 (v88+1)) v104)) an (Qt.norm ⟨v103,(wr64 (v88+1)),v104,rfl,h⟩)
  ·obtain rfl:=Qg h;exact rK Qh 2 [j3] [some false] [] [] [] (.exit 2) ((f53r1n4E x52 a1 a2 (.exit2 v89)).2) (ap h91 an) (Qt.out rfl rfl)
inductive f53r1n0O where
 | norm (v109:Int)
noncomputable def f53r1n0E(a1:Qe)(a2:Qb)(a3:Int):f53r1n0O→Ex×Tr×Hp
 | .norm v109=>(.norm,mkS [],[some (.lp Qbp .ready none (kL 18 [(5,(.bp 3 0))])),some (.box ((Qe.cells a1).map .pl)),some (.box ((Qb.cells a2).map .pl)),some (.box (((cInt .i64) v109).map .pl))])
noncomputable def f53r1n0S(a1:Qe)(a2:Qb)(a3:Int):Tr×Hp:=(Qan [(.yl 0),(.bp 1 0),(.bp 2 0)] 0 .leaf,[some (.lp Qbp .ready none (kL 18 [(5,(.bp 3 0))])),some (.box ((Qe.cells a1).map .pl)),some (.box ((Qb.cells a2).map .pl)),some (.box (((cInt .i64) a3).map .pl))])
noncomputable def f53r1n0(a1:Qe)(a2:Qb)(a3:Int):Option f53r1n0O :=
 (f53r1n1 a1 a2 a3).bind fun o47=>match o47 with
 | .norm v49=>(f54r1 v49).bind fun x52 =>
  (f53r1n4 FUEL x52 a1 a2 a2.Units 0 a3).bind fun o106=>match o106 with
  | .exit2 v108=>some (.norm v108)
theorem f53r1n0_ok(a1:Qe)(a2:Qb)(a3:Int){o:f53r1n0O}(h:f53r1n0 a1 a2 a3=some o):T Try.prog Try.f53.ntmps 4 c53 (f53r1n0S a1 a2 a3) (·=f53r1n0E a1 a2 a3 o):=by
 unfold f53r1n0 at h;refine rN Qh 1 [j3] [] [] [] [0,1,2,4] (f53r1n1S a1 a2 a3) an ?_;obtain ⟨o47,h48,h⟩:=Qf h;cases o47 with
 | norm v49 =>
  refine T.oneN (by kernel_rfl) (f53r1n1_ok a1 a2 a3 h48) (st2:=(f53r1n1E a1 a2 a3 (.norm v49)).2) rfl ?_;obtain ⟨x52,h53,h⟩:=Qf h;refine rN Qh 3 [([],[(1,.call (.tup []) (jN 4 [jR 6 Qd.cells x52]))],[]),j3,([],[],[(1,.val (jI (x52.length:Int)))])] [] [] [4] [0,7,41,42,43] (f53r1n4S x52 a1 a2 a2.Units 0 a3) (ap (Qp.rn 5 [4] (f54r1_ok v49 h53)) (ap (Qac (xs:=x52) (c:=Qd.cells)) an)) ?_;obtain ⟨o106,h107,h⟩:=Qf h;cases o106 with
  | exit2 v108 =>
   obtain rfl:=Qg h;exact T.last' (T.bl (i:=2) (by kernel_rfl) (by kernel_rfl) (f53r1n4_ok FUEL x52 a1 a2 a2.Units 0 a3 h107)) (tds:=[]) (m:=[]) (keep:=[]) (st2:=(f53r1n0E a1 a2 a3 (.norm v108)).2) (by kernel_rfl) an rfl
noncomputable def f53r1(a1:Qe)(a2:Qb)(a3:Int):Option Int:=(f53r1n0 a1 a2 a3).bind fun o=>match o with
 | .norm v109=>some v109
theorem f53r1_ok(a1:Qe)(a2:Qb)(a3:Int){r:Int}(h:f53r1 a1 a2 a3=some r):Qp Try.prog true 53 [(.yl 0),(.bp 1 0),(.bp 2 0)] [some (.lp Qbp .ready none (kL 18 [(5,(.bp 3 0))])),some (.box ((Qe.cells a1).map .pl)),some (.box ((Qb.cells a2).map .pl)),some (.box (((cInt .i64) a3).map .pl))] (.tup []) [some (.lp Qbp .ready none (kL 18 [(5,(.bp 3 0))])),some (.box ((Qe.cells a1).map .pl)),some (.box ((Qb.cells a2).map .pl)),some (.box (((cInt .i64) r).map .pl))]:=by
 unfold f53r1 at h;obtain ⟨o,ho,h⟩:=Qf h;cases o with
 | norm v109 =>
  obtain rfl:=Qg h;exact Qp.shared Qh (f:=Try.f53) (c:=c53) (by kernel_rfl) (by kernel_rfl) (by kernel_rfl) ((f53r1n0_ok a1 a2 a3 ho).mono fun r e=>by subst e; exact ⟨.inr rfl,by kernel_rfl,by kernel_rfl⟩)

inductive f56r1n2O where
 | norm (v5:Int)
def f56r1n2E(ba1:Qe)(be2:Qb):f56r1n2O→Ex×Tr×Hp
 | .norm v5=>(.norm,mkS [(5,(.bp 2 0))],[some (.box ((Qe.cells ba1).map .pl)),some (.box ((Qb.cells be2).map .pl)),some (.box (((cInt .i64) v5).map .pl))])
def f56r1n2S(ba1:Qe)(be2:Qb):Tr×Hp:=(mkS [(4,(jI 0)),(5,(.bp 2 0)),(9,(.clo 53 [(.bp 0 0),(.bp 1 0)]))],[some (.box ((Qe.cells ba1).map .pl)),some (.box ((Qb.cells be2).map .pl)),some (.box (((cInt .i64) be2.Reserve).map .pl))])
noncomputable def f56r1n2(ba1:Qe)(be2:Qb):Option f56r1n2O :=
 (f53r1 ba1 be2 be2.Reserve).bind fun x3 =>
 some (.norm x3)
theorem f56r1n2_ok(ba1:Qe)(be2:Qb){o:f56r1n2O}(h:f56r1n2 ba1 be2=some o):T Try.prog Try.f56.ntmps 2 (Qk 1 (cL (Qk 2 c56))) (f56r1n2S ba1 be2) (·=f56r1n2E ba1 be2 o):=by
 unfold f56r1n2 at h;refine T.block' (i:=0) (by kernel_rfl) ?_;refine rN Qh 0 [] [] [] [2] [4,5,9] (mkS [(4,(jI 0)),(5,(.bp 2 0)),(9,(.clo 53 [(.bp 0 0),(.bp 1 0)]))],[some (.box ((Qe.cells ba1).map .pl)),some (.box ((Qb.cells be2).map .pl)),some (.box (((cInt .i64) be2.Reserve).map .pl))]) an ?_;obtain ⟨x3,h4,h⟩:=Qf h;obtain rfl:=Qg h
 exact T.last' (rgN 53 [(.bp 0 0),(.bp 1 0)] [5] (.tup []) [some (.box ((Qe.cells ba1).map .pl)),some (.box ((Qb.cells be2).map .pl)),some (.box (((cInt .i64) x3).map .pl)),some (.lp Qbp .ready none (kL 18 [(5,(.bp 2 0))]))] none .ready (kL 18 [(5,(.bp 2 0))]) .norm [] [2] [5] (mkS [(5,(.bp 2 0))],[some (.box ((Qe.cells ba1).map .pl)),some (.box ((Qb.cells be2).map .pl)),some (.box (((cInt .i64) x3).map .pl))]) (Qp.rn 4 [3,0,1,2] (f53r1_ok ba1 be2 be2.Reserve h4)) an) (tds:=[]) (m:=[2]) (keep:=[5]) (st2:=(f56r1n2E ba1 be2 (.norm x3)).2) (by kernel_rfl) an rfl
inductive f56r1n1O where
 | norm (v9:Int)
def f56r1n1E(ba1:Qe)(be2:Qb):f56r1n1O→Ex×Tr×Hp
 | .norm v9=>(.norm,mkS [(5,(.bp 2 0))],[some (.box ((Qe.cells ba1).map .pl)),some (.box ((Qb.cells be2).map .pl)),some (.box (((cInt .i64) v9).map .pl))])
def f56r1n1S(ba1:Qe)(be2:Qb):Tr×Hp:=(mkS [(1,(.clo 53 [(.bp 0 0),(.bp 1 0)])),(4,(jI 0)),(5,(.bp 2 0))],[some (.box ((Qe.cells ba1).map .pl)),some (.box ((Qb.cells be2).map .pl)),some (.box (((cInt .i64) be2.Reserve).map .pl))])
noncomputable def f56r1n1(ba1:Qe)(be2:Qb):Option f56r1n1O :=
 (f56r1n2 ba1 be2).bind fun o6=>match o6 with
 | .norm v8=>some (.norm v8)
theorem f56r1n1_ok(ba1:Qe)(be2:Qb){o:f56r1n1O}(h:f56r1n1 ba1 be2=some o):T Try.prog Try.f56.ntmps 2 (cL (Qk 2 c56)) (f56r1n1S ba1 be2) (·=f56r1n1E ba1 be2 o):=by
 unfold f56r1n1 at h;refine rN Qh 1 [j3] [] [] [2] [4,5,9] (f56r1n2S ba1 be2) an ?_;obtain ⟨o6,h7,h⟩:=Qf h;cases o6 with
 | norm v8 =>
  obtain rfl:=Qg h;exact T.last' (f56r1n2_ok ba1 be2 h7) (tds:=[]) (m:=[2]) (keep:=[5]) (st2:=(f56r1n1E ba1 be2 (.norm v8)).2) (by kernel_rfl) an rfl
inductive f56r1n0O where
 | ret (v13:Int)
def f56r1n0E(a1:Qb)(a2:Qe):f56r1n0O→Ex×Tr×Hp
 | .ret v13=>(.ret,mkS [(4,(jI v13))],[some (.box ((Qe.cells a2).map .pl)),some (.box ((Qb.cells a1).map .pl))])
def f56r1n0S(a1:Qb)(a2:Qe):Tr×Hp:=(Qan [(jA Qb.cells a1),(.clo 53 [(.bp 0 0),(.bp 1 0)])] 0 .leaf,[some (.box ((Qe.cells a2).map .pl)),some (.box ((Qb.cells a1).map .pl))])
noncomputable def f56r1n0(a1:Qb)(a2:Qe):Option f56r1n0O :=
 (f56r1n1 a2 a1).bind fun o10=>match o10 with
 | .norm v12=>some (.ret v12)
theorem f56r1n0_ok(a1:Qb)(a2:Qe){o:f56r1n0O}(h:f56r1n0 a1 a2=some o):T Try.prog Try.f56.ntmps 2 c56 (f56r1n0S a1 a2) (·=f56r1n0E a1 a2 o):=by
 unfold f56r1n0 at h;refine rN Qh 2 [j3,j3] [] [] [3] [1,4,5] (f56r1n1S a2 a1) an ?_;obtain ⟨o10,h11,h⟩:=Qf h;cases o10 with
 | norm v12 =>
  refine T.oneN (by kernel_rfl) (f56r1n1_ok a2 a1 h11) (st2:=(f56r1n1E a2 a1 (.norm v12)).2) rfl ?_;obtain rfl:=Qg h;exact rE Qh [j3] [] [] [] [4] (.ret,(f56r1n0E a1 a2 (.ret v12)).2) an rfl
noncomputable def f56r1(a1:Qb)(a2:Qe):Option Int:=(f56r1n0 a1 a2).bind fun o=>match o with
 | .ret v13=>some v13
theorem f56r1_ok(a1:Qb)(a2:Qe){r:Int}(h:f56r1 a1 a2=some r):Qp Try.prog true 56 [(jA Qb.cells a1),(.clo 53 [(.bp 0 0),(.bp 1 0)])] [some (.box ((Qe.cells a2).map .pl)),some (.box ((Qb.cells a1).map .pl))] (jI r) [some (.box ((Qe.cells a2).map .pl)),some (.box ((Qb.cells a1).map .pl))]:=by
 unfold f56r1 at h;obtain ⟨o,ho,h⟩:=Qf h;cases o with
 | ret v13 =>
  obtain rfl:=Qg h;exact Qp.shared Qh (f:=Try.f56) (c:=c56) (by kernel_rfl) (by kernel_rfl) (by kernel_rfl) ((f56r1n0_ok a1 a2 ho).mono fun r e=>by subst e; exact ⟨.inl rfl,by kernel_rfl,by kernel_rfl⟩)

noncomputable def c12:Code:=Try.f12.body.getD .skip
noncomputable def Qo:Code:=(Qk 0 (cL (Qk 1 (Qk 4 (cL (cL (Qk 2 (cL (cL (Qk 1 (cL (Qk 3 c12))))))))))))

inductive f12y2n0O where
 | exit2
 | norm
noncomputable def f12y2n0E(a1:Qd)(a2:Int)(a3:List Qa):f12y2n0O→Ex×Tr×Hp
 | .exit2=>((.exit 2),mkS [],[some (.lp Qo .busy none (kL 63 [(5,(.bp 1 0)),(9,(.bp 2 0)),(10,(.bp 3 0))])),some (.box [(.own 4)]),some (.box (((cInt .i64) a2).map .pl)),some (.box [(.pl (.fn 56))]),jR 3 Qa.cells a3])
 | .norm=>(.norm,mkS [],[some (.lp Qo .busy none (kL 63 [(5,(.bp 1 0)),(9,(.bp 2 0)),(10,(.bp 3 0))])),some (.box [(.own 5)]),some (.box (((cInt .i64) a2).map .pl)),some (.box [(.pl (.fn 56))]),none,some (.row false 3 ((a3++[(Qa.mk a1.index a1.units a2)]).map Qa.cells))])
noncomputable def f12y2n0S(a1:Qd)(a2:Int)(a3:List Qa):Tr×Hp:=(mkS [(5,(.bp 1 0)),(9,(.bp 2 0)),(10,(.bp 3 0)),(11,(.bp 5 0))],[some (.lp Qo .busy none (kL 63 [(5,(.bp 1 0)),(9,(.bp 2 0)),(10,(.bp 3 0))])),some (.box [(.own 4)]),some (.box (((cInt .i64) a2).map .pl)),some (.box [(.pl (.fn 56))]),jR 3 Qa.cells a3,some (.box ((Qd.cells a1).map .pl))])
noncomputable def f12y2n0(a1:Qd)(a2:Int)(a3:List Qa):Option f12y2n0O :=
 bif decide (a1.units=0) then
  some .exit2
 else
  req (fit (a3.length+1) 24) <|
  some .norm
theorem f12y2n0_ok(a1:Qd)(a2:Int)(a3:List Qa){o:f12y2n0O}(h:f12y2n0 a1 a2 a3=some o):T Try.prog Try.f12.ntmps 5 (rfB Qo) (f12y2n0S a1 a2 a3) (·=f12y2n0E a1 a2 a3 o):=by
 unfold f12y2n0 at h;refine T.block' (i:=3) (by kernel_rfl) ?_;rcases Qj h with ⟨h5,h⟩|⟨h5,h⟩
 ·obtain rfl:=Qg h;exact rK Qh 1 [j3] [some true] [] [] [] (.exit 2) ((f12y2n0E a1 a2 a3 .exit2).2) (ap h5 an) rfl
 ·obtain ⟨h7,h⟩:=Qcc h;obtain rfl:=Qg h;exact rE Qh [j3,j3,j3,j3,([],[(3,.fits)],[(3,.row 8 ((a3++[(Qa.mk a1.index a1.units a2)]).map Qa.cells))])] [some false,none] [] [8] [] (.norm,(f12y2n0E a1 a2 a3 .norm).2) (ap h5 (ap (fit_map (te:=ti36) (xs:=a3) (n:=1) (c:=Qa.cells) h7 rfl) (ap (app_cv (xs:=a3) (ys:=[(Qa.mk a1.index a1.units a2)]) (c:=Qa.cells)) an))) rfl
theorem f12y2_exit2(a1:Qd)(a2:Int)(a3:List Qa)(h:f12y2n0 a1 a2 a3=some .exit2):Qbi Try.prog [(jA Qd.cells a1)] 0 [some (.lp Qo .ready none (kL 63 [(5,(.bp 1 0)),(9,(.bp 2 0)),(10,(.bp 3 0))])),some (.box [(.own 4)]),some (.box (((cInt .i64) a2).map .pl)),some (.box [(.pl (.fn 56))]),jR 3 Qa.cells a3] false [some (.lp Qo .done (some (.exit 2)) (kL 63 [(5,(.bp 1 0)),(9,(.bp 2 0)),(10,(.bp 3 0))])),some (.box [(.own 4)]),some (.box (((cInt .i64) a2).map .pl)),some (.box [(.pl (.fn 56))]),jR 3 Qa.cells a3] :=
 Qbi.mk (c:=Qo) (n:=Try.f12.ntmps) (base:=5) (cs:=(kL 63 [(5,(.bp 1 0)),(9,(.bp 2 0)),(10,(.bp 3 0))])) (cs2:=(kL 63 [(5,(.bp 1 0)),(9,(.bp 2 0)),(10,(.bp 3 0))])) (cs3:=(kL 63 [(5,(.bp 1 0)),(9,(.bp 2 0)),(10,(.bp 3 0))])) (st2:=(mkS [(5,(.bp 1 0)),(9,(.bp 2 0)),(10,(.bp 3 0)),(11,(.bp 5 0))],[some (.lp Qo .ready none (kL 63 [(5,(.bp 1 0)),(9,(.bp 2 0)),(10,(.bp 3 0))])),some (.box [(.own 4)]),some (.box (((cInt .i64) a2).map .pl)),some (.box [(.pl (.fn 56))]),jR 3 Qa.cells a3,some (.box ((Qd.cells a1).map .pl))])) (e:=(f12y2n0E a1 a2 a3 .exit2)) (pend:=(some (.exit 2)))
  (run_ok (P:=Try.prog) (C:=cfg) Qh (c:=rfA Qo) (rs:=[j3]) (ps:=[]) (tds:=[]) (m:=[5]) (keep:=[5,9,10,11]) (by kernel_rfl) an)
  (f12y2n0_ok a1 a2 a3 h)
theorem f12y2_norm(a1:Qd)(a2:Int)(a3:List Qa)(h:f12y2n0 a1 a2 a3=some .norm):Qbi Try.prog [(jA Qd.cells a1)] 0 [some (.lp Qo .ready none (kL 63 [(5,(.bp 1 0)),(9,(.bp 2 0)),(10,(.bp 3 0))])),some (.box [(.own 4)]),some (.box (((cInt .i64) a2).map .pl)),some (.box [(.pl (.fn 56))]),jR 3 Qa.cells a3] true [some (.lp Qo .ready none (kL 63 [(5,(.bp 1 0)),(9,(.bp 2 0)),(10,(.bp 3 0))])),some (.box [(.own 5)]),some (.box (((cInt .i64) a2).map .pl)),some (.box [(.pl (.fn 56))]),none,some (.row false 3 ((a3++[(Qa.mk a1.index a1.units a2)]).map Qa.cells))] :=
 Qbi.mk (c:=Qo) (n:=Try.f12.ntmps) (base:=5) (cs:=(kL 63 [(5,(.bp 1 0)),(9,(.bp 2 0)),(10,(.bp 3 0))])) (cs2:=(kL 63 [(5,(.bp 1 0)),(9,(.bp 2 0)),(10,(.bp 3 0))])) (cs3:=(kL 63 [(5,(.bp 1 0)),(9,(.bp 2 0)),(10,(.bp 3 0))])) (st2:=(mkS [(5,(.bp 1 0)),(9,(.bp 2 0)),(10,(.bp 3 0)),(11,(.bp 5 0))],[some (.lp Qo .ready none (kL 63 [(5,(.bp 1 0)),(9,(.bp 2 0)),(10,(.bp 3 0))])),some (.box [(.own 4)]),some (.box (((cInt .i64) a2).map .pl)),some (.box [(.pl (.fn 56))]),jR 3 Qa.cells a3,some (.box ((Qd.cells a1).map .pl))])) (e:=(f12y2n0E a1 a2 a3 .norm)) (pend:=none)
  (run_ok (P:=Try.prog) (C:=cfg) Qh (c:=rfA Qo) (rs:=[j3]) (ps:=[]) (tds:=[]) (m:=[5]) (keep:=[5,9,10,11]) (by kernel_rfl) an)
  (f12y2n0_ok a1 a2 a3 h)


noncomputable def c57:Code:=Try.f57.body.getD .skip
noncomputable def Qai:Code:=(Qk 0 (cL (Qk 1 (cL (Qk 1 c57)))))
inductive f57y1n0O where
 | norm
 | ret
noncomputable def f57y1n0E(a1:Qd)(a2:Int):f57y1n0O→Ex×Tr×Hp
 | .norm=>(.norm,mkS [],[some (.lp Qai .busy none (kL 19 [(4,(.bp 1 0))])),some (.box (((cInt .i64) a2).map .pl))])
 | .ret=>(.ret,mkS [],[some (.lp Qai .busy none (kL 19 [(4,(.bp 1 0))])),some (.box (((cInt .i64) a1.bid.Price).map .pl))])
noncomputable def f57y1n0S(a1:Qd)(a2:Int):Tr×Hp:=(mkS [(4,(.bp 1 0)),(5,(.bp 2 0))],[some (.lp Qai .busy none (kL 19 [(4,(.bp 1 0))])),some (.box (((cInt .i64) a2).map .pl)),some (.box ((Qd.cells a1).map .pl))])
noncomputable def f57y1n0(a1:Qd)(a2:Int):Option f57y1n0O :=
 bif decide (a1.units<a1.bid.Units) then
  some .ret
 else
  some .norm
theorem f57y1n0_ok(a1:Qd)(a2:Int){o:f57y1n0O}(h:f57y1n0 a1 a2=some o):T Try.prog Try.f57.ntmps 2 (rfB Qai) (f57y1n0S a1 a2) (·=f57y1n0E a1 a2 o):=by
 unfold f57y1n0 at h;refine T.block' (i:=1) (by kernel_rfl) ?_;rcases Qj h with ⟨h4,h⟩|⟨h4,h⟩
 ·obtain rfl:=Qg h;exact rE Qh [j3,j3] [some true] [] [] [] (.ret,(f57y1n0E a1 a2 .ret).2) (ap h4 an) rfl
 ·obtain rfl:=Qg h;exact rE Qh [j3] [some false] [] [] [] (.norm,(f57y1n0E a1 a2 .norm).2) (ap h4 an) rfl
theorem f57y1_norm(a1:Qd)(a2:Int)(h:f57y1n0 a1 a2=some .norm):Qbi Try.prog [(jA Qd.cells a1)] 0 [some (.lp Qai .ready none (kL 19 [(4,(.bp 1 0))])),some (.box (((cInt .i64) a2).map .pl))] true [some (.lp Qai .ready none (kL 19 [(4,(.bp 1 0))])),some (.box (((cInt .i64) a2).map .pl))] :=
 Qbi.mk (c:=Qai) (n:=Try.f57.ntmps) (base:=2) (cs:=(kL 19 [(4,(.bp 1 0))])) (cs2:=(kL 19 [(4,(.bp 1 0))])) (cs3:=(kL 19 [(4,(.bp 1 0))])) (st2:=(mkS [(4,(.bp 1 0)),(5,(.bp 2 0))],[some (.lp Qai .ready none (kL 19 [(4,(.bp 1 0))])),some (.box (((cInt .i64) a2).map .pl)),some (.box ((Qd.cells a1).map .pl))])) (e:=(f57y1n0E a1 a2 .norm)) (pend:=none)
  (run_ok (P:=Try.prog) (C:=cfg) Qh (c:=rfA Qai) (rs:=[j3]) (ps:=[]) (tds:=[]) (m:=[2]) (keep:=[4,5]) (by kernel_rfl) an)
  (f57y1n0_ok a1 a2 h)
theorem f57y1_ret(a1:Qd)(a2:Int)(h:f57y1n0 a1 a2=some .ret):Qbi Try.prog [(jA Qd.cells a1)] 0 [some (.lp Qai .ready none (kL 19 [(4,(.bp 1 0))])),some (.box (((cInt .i64) a2).map .pl))] false [some (.lp Qai .done (some (.ret)) (kL 19 [(4,(.bp 1 0))])),some (.box (((cInt .i64) a1.bid.Price).map .pl))] :=
 Qbi.mk (c:=Qai) (n:=Try.f57.ntmps) (base:=2) (cs:=(kL 19 [(4,(.bp 1 0))])) (cs2:=(kL 19 [(4,(.bp 1 0))])) (cs3:=(kL 19 [(4,(.bp 1 0))])) (st2:=(mkS [(4,(.bp 1 0)),(5,(.bp 2 0))],[some (.lp Qai .ready none (kL 19 [(4,(.bp 1 0))])),some (.box (((cInt .i64) a2).map .pl)),some (.box ((Qd.cells a1).map .pl))])) (e:=(f57y1n0E a1 a2 .ret)) (pend:=some .ret)
  (run_ok (P:=Try.prog) (C:=cfg) Qh (c:=rfA Qai) (rs:=[j3]) (ps:=[]) (tds:=[]) (m:=[2]) (keep:=[4,5]) (by kernel_rfl) an)
  (f57y1n0_ok a1 a2 h)

inductive f53r3n2O where
 | exit0 (v42:List Qd)
noncomputable def f53r3n2E(ba1:Qe)(be2:Qb)(bd3:Int):f53r3n2O→Ex×Tr×Hp
 | .exit0 v42=>((.exit 0),mkS [(0,(.yl 0)),(2,(.bp 2 0)),(4,(.own 4))],[some (.lp Qai .ready none (kL 19 [(4,(.bp 3 0))])),some (.box ((Qe.cells ba1).map .pl)),some (.box ((Qb.cells be2).map .pl)),some (.box (((cInt .i64) bd3).map .pl)),jR 6 Qd.cells v42])
noncomputable def f53r3n2S(ba1:Qe)(be2:Qb)(bd3 v28:Int)(v29:List Qd):Tr×Hp:=(mkS [(0,(.yl 0)),(2,(.bp 2 0)),(4,(.own 4)),(11,(jL 4 Qc.cells ba1.Bids)),(12,(jI (ba1.Bids.length:Int))),(13,(jI v28))],[some (.lp Qai .ready none (kL 19 [(4,(.bp 3 0))])),some (.box ((Qe.cells ba1).map .pl)),some (.box ((Qb.cells be2).map .pl)),some (.box (((cInt .i64) bd3).map .pl)),jR 6 Qd.cells v29])
noncomputable def f53r3n2:Nat→Qe→Qb→Int→Int→List Qd→Option f53r3n2O
 | 0,_,_,_,_,_=>none
 | f+1,ba1,be2,bd3,v28,v29 =>
  bif decide (v28<(ba1.Bids.length:Int)) then
   (at? ba1.Bids v28).bind fun x37 =>
   bif (seq x37.Lot be2.Name) then
    bif decide (be2.Reserve≤x37.Price) then
     req (fit (v29.length+1) 64) <|
     (f53r3n2 f ba1 be2 bd3 (wr64 (v28+1)) (v29++[(Qd.mk v28 0 x37)]))
    else
     (f53r3n2 f ba1 be2 bd3 (wr64 (v28+1)) v29)
   else
    (f53r3n2 f ba1 be2 bd3 (wr64 (v28+1)) v29)
  else
   some (.exit0 v29)
theorem f53r3n2_ok:∀(f:Nat)(ba1:Qe)(be2:Qb)(bd3 v28:Int)(v29:List Qd){o:f53r3n2O},f53r3n2 f ba1 be2 bd3 v28 v29=some o→TL Try.prog Try.f53.ntmps 4 f (cL (cL (Qk 1 (cL (Qk 1 c53))))) (f53r3n2S ba1 be2 bd3 v28 v29) (·=f53r3n2E ba1 be2 bd3 o)
 | 0,_,_,_,_,_,o,h=>by rw [f53r3n2] at h; cases h
 | f+1,ba1,be2,bd3,v28,v29,o,h=>by
  rw [f53r3n2] at h;refine TL.body (K:=fun s=>∃v28:Int,∃v29:List Qd,s=(f53r3n2S ba1 be2 bd3 v28 v29)∧f53r3n2 f ba1 be2 bd3 v28 v29=some o) ?_ (by rintro _ ⟨v28,v29,rfl,hk⟩; exact f53r3n2_ok f _ _ _ _ _ hk);rcases Qj h with ⟨h31,h⟩|⟨h31,h⟩
  ·obtain ⟨x37,h38,h⟩:=Qf h;rcases Qj h with ⟨h39,h⟩|⟨h39,h⟩
   ·rcases Qj h with ⟨h40,h⟩|⟨h40,h⟩
    ·obtain ⟨h41,h⟩:=Qcc h;exact rE Qh [j3,([],[(1,.idx (Int.toNat v28) (Qc.cells x37))],[]),(jT [6,7,8,9,10],[(11,.bool true)],[]),([],[(5,.fits)],[(5,.row 7 ((v29++[(Qd.mk v28 0 x37)]).map Qd.cells))]),j3] [some true,some true] [] [7] [0,2,4,11,12,13] (.norm,(f53r3n2S ba1 be2 bd3 (wr64 (v28+1)) (v29++[(Qd.mk v28 0 x37)]))) (ap h31 (ap (Qi h38).1 (ap (Qn Qc.cells (Qi h38).2) (ap2 h39 (ap4 h39 (ap h40 (ap (fit_map (te:=ti78) (xs:=v29) (n:=1) (c:=Qd.cells) h41 rfl) (ap (app_cv (xs:=v29) (ys:=[(Qd.mk v28 0 x37)]) (c:=Qd.cells)) an)))))))) (Qt.norm ⟨(wr64 (v28+1)),(v29++[(Qd.mk v28 0 x37)]),rfl,h⟩)
    ·exact rE Qh [j3,([],[(1,.idx (Int.toNat v28) (Qc.cells x37))],[]),(jT [6,7,8,9,10],[(11,.bool true)],[]),j3] [some true,some false] [] [4] [0,2,4,11,12,13] (.norm,(f53r3n2S ba1 be2 bd3 (wr64 (v28+1)) v29)) (ap h31 (ap (Qi h38).1 (ap (Qn Qc.cells (Qi h38).2) (ap2 h39 (ap4 h39 (ap h40 an)))))) (Qt.norm ⟨(wr64 (v28+1)),v29,rfl,h⟩)
   ·exact rE Qh [j3,([],[(1,.idx (Int.toNat v28) (Qc.cells x37))],[]),(jF [6,7,8,9,10],[(11,.bool false)],[]),j3] [some true,none] [] [4] [0,2,4,11,12,13] (.norm,(f53r3n2S ba1 be2 bd3 (wr64 (v28+1)) v29)) (ap h31 (ap (Qi h38).1 (ap (Qn Qc.cells (Qi h38).2) (ap2 h39 (ap4 h39 an))))) (Qt.norm ⟨(wr64 (v28+1)),v29,rfl,h⟩)
  ·obtain rfl:=Qg h;exact rK Qh 2 [j3] [some false] [] [4] [0,2,4] (.exit 0) ((f53r3n2E ba1 be2 bd3 (.exit0 v29)).2) (ap h31 an) (Qt.out rfl rfl)
noncomputable def f53r3n2L(ba1:Qe)(be2:Qb)(bd3:Int):List Qc→Int→(List Qd)→Option f53r3n2O
 | [],v28,v29 =>
  some (.exit0 v29)
 | x0::rest,v28,v29 =>
  bif (seq x0.Lot be2.Name) then
   bif decide (be2.Reserve≤x0.Price) then
    req (fit (v29.length+1) 64) <|
    (f53r3n2L ba1 be2 bd3 rest (v28+1) (v29++[(Qd.mk v28 0 x0)]))
   else
    (f53r3n2L ba1 be2 bd3 rest (v28+1) v29)
  else
   (f53r3n2L ba1 be2 bd3 rest (v28+1) v29)
theorem f53r3n2L_eq(ba1:Qe)(be2:Qb)(bd3:Int):∀(rest:List Qc)(f k:Nat)(v29:List Qd),ba1.Bids.drop k=rest→ba1.Bids.length≤maxLen→rest.length<f→f53r3n2 f ba1 be2 bd3 (k:Int) v29=f53r3n2L ba1 be2 bd3 rest (k:Int) v29
 | _,0,_,_,_,_,hf=>absurd hf (Nat.not_lt_zero _)
 | [],f+1,k,v29,hd,hm,hf=>by
  have hk:¬((k:Int)<(ba1.Bids.length:Int)):=by have:=Qbb hd; omega
  rw [f53r3n2,f53r3n2L];simp only [decide_eq_false hk,cond_false]
 | x0::rest,f+1,k,v29,hd,hm,hf=>by
  obtain ⟨hx,hlt,hd'⟩:=drop_cons hd;have hk:(k:Int)<(ba1.Bids.length:Int):=by omega
  have hw:wr64 ((k:Int)+1)=(k:Int)+1:=wr64_of (by omega) (by unfold maxLen at hm; omega);have ih:∀(v29:List Qd),f53r3n2 f ba1 be2 bd3 ((k:Int)+1) v29=f53r3n2L ba1 be2 bd3 rest ((k:Int)+1) v29:=fun v29=>f53r3n2L_eq ba1 be2 bd3 rest f (k+1) v29 hd' hm (by simpa using hf);rw [f53r3n2,f53r3n2L];simp only [decide_eq_true hk,cond_true,at_nat,hx,Option.bind_some,hw,ih]
theorem f53r3n2_run(ba1:Qe)(be2:Qb)(bd3:Int)(v29:List Qd)(hm:ba1.Bids.length≤maxLen):f53r3n2 FUEL ba1 be2 bd3 0 v29=f53r3n2L ba1 be2 bd3 ba1.Bids 0 v29:=f53r3n2L_eq ba1 be2 bd3 ba1.Bids FUEL 0 v29 List.drop_zero hm (Qba hm)
inductive f53r3n1O where
 | norm (v46:List Qd)
noncomputable def f53r3n1E(ba1:Qe)(be2:Qb)(bd3:Int):f53r3n1O→Ex×Tr×Hp
 | .norm v46=>(.norm,mkS [(0,(.yl 0)),(2,(.bp 2 0)),(4,(.own 4))],[some (.lp Qai .ready none (kL 19 [(4,(.bp 3 0))])),some (.box ((Qe.cells ba1).map .pl)),some (.box ((Qb.cells be2).map .pl)),some (.box (((cInt .i64) bd3).map .pl)),jR 6 Qd.cells v46])
noncomputable def f53r3n1S(ba1:Qe)(be2:Qb)(bd3:Int):Tr×Hp:=(mkS [(0,(.yl 0)),(1,(.bp 1 0)),(2,(.bp 2 0)),(4,(.pl (.sl .nil 0 [])))],[some (.lp Qai .ready none (kL 19 [(4,(.bp 3 0))])),some (.box ((Qe.cells ba1).map .pl)),some (.box ((Qb.cells be2).map .pl)),some (.box (((cInt .i64) bd3).map .pl))])
noncomputable def f53r3n1(ba1:Qe)(be2:Qb)(bd3:Int):Option f53r3n1O :=
 (f53r3n2 FUEL ba1 be2 bd3 0 []).bind fun o43=>match o43 with
 | .exit0 v45=>some (.norm v45)
theorem f53r3n1_ok(ba1:Qe)(be2:Qb)(bd3:Int){o:f53r3n1O}(h:f53r3n1 ba1 be2 bd3=some o):T Try.prog Try.f53.ntmps 4 (cL (Qk 1 c53)) (f53r3n1S ba1 be2 bd3) (·=f53r3n1E ba1 be2 bd3 o):=by
 unfold f53r3n1 at h;refine rN Qh 1 [([],[],[(2,.val (jI (ba1.Bids.length:Int)))])] [] [.mat 4 6] [4] [0,2,4,11,12,13] (f53r3n2S ba1 be2 bd3 0 []) (ap (Qac (xs:=ba1.Bids) (c:=Qc.cells)) an) ?_;obtain ⟨o43,h44,h⟩:=Qf h;cases o43 with
 | exit0 v45 =>
  obtain rfl:=Qg h;exact T.last' (T.bl (i:=0) (by kernel_rfl) (by kernel_rfl) (f53r3n2_ok FUEL ba1 be2 bd3 0 [] h44)) (tds:=[]) (m:=[4]) (keep:=[0,2,4]) (st2:=(f53r3n1E ba1 be2 bd3 (.norm v45)).2) (by kernel_rfl) an rfl
inductive f53r3n3O where
 | norm (v94:Int)
 | ret (v95:Int)
noncomputable def f53r3n3E(bd1:Int)(bf2:List Qd)(bd3:Int)(ba4:Qe)(be5:Qb)(bd6:Int):f53r3n3O→Ex×Tr×Hp
 | .norm v94=>(.norm,mkS [(0,(.yl 0)),(7,(jI v94)),(41,(.own 4)),(42,(jI (bf2.length:Int))),(43,(jI bd3))],[some (.lp Qai .ready none (kL 19 [(4,(.bp 3 0))])),some (.box ((Qe.cells ba4).map .pl)),some (.box ((Qb.cells be5).map .pl)),some (.box (((cInt .i64) bd6).map .pl)),jR 6 Qd.cells bf2])
 | .ret v95=>(.ret,mkS [],[some (.lp Qai .done (some (.ret)) (kL 19 [(4,(.bp 3 0))])),some (.box ((Qe.cells ba4).map .pl)),some (.box ((Qb.cells be5).map .pl)),some (.box (((cInt .i64) v95).map .pl))])
noncomputable def f53r3n3S(bd1:Int)(bf2:List Qd)(bd3:Int)(ba4:Qe)(be5:Qb)(bd6:Int):Tr×Hp:=(mkS [(0,(.yl 0)),(7,(jI bd1)),(41,(.own 4)),(42,(jI (bf2.length:Int))),(43,(jI bd3))],[some (.lp Qai .ready none (kL 19 [(4,(.bp 3 0))])),some (.box ((Qe.cells ba4).map .pl)),some (.box ((Qb.cells be5).map .pl)),some (.box (((cInt .i64) bd6).map .pl)),jR 6 Qd.cells bf2])
noncomputable def f53r3n3(bd1:Int)(bf2:List Qd)(bd3:Int)(ba4:Qe)(be5:Qb)(bd6:Int):Option f53r3n3O :=
 (at? bf2 bd3).bind fun x90 =>
 (f57y1n0 (Qd.mk x90.index (mnI bd1 x90.bid.Units) x90.bid) bd6).bind fun o92=>match o92 with
 | .norm=>some (.norm (wr64 (bd1-(mnI bd1 x90.bid.Units))))
 | .ret=>some (.ret x90.bid.Price)
theorem f53r3n3_ok(bd1:Int)(bf2:List Qd)(bd3:Int)(ba4:Qe)(be5:Qb)(bd6:Int){o:f53r3n3O}(h:f53r3n3 bd1 bf2 bd3 ba4 be5 bd6=some o):T Try.prog Try.f53.ntmps 4 (cL (Qk 2 (cL (cL (Qk 3 (Qk 1 (Qk 1 c53))))))) (f53r3n3S bd1 bf2 bd3 ba4 be5 bd6) (·=f53r3n3E bd1 bf2 bd3 ba4 be5 bd6 o):=by
 unfold f53r3n3 at h;refine T.block' (i:=3) (by kernel_rfl) ?_;obtain ⟨x90,h91,h⟩:=Qf h;refine rN Qh 3 [([],[(0,.at_ (Int.toNat bd3)),(1,.idx 0 (Qd.cells x90))],[]),j3,j3] [] [] [5,4] [0,7,9,41,42,43] (mkS [(0,(.yl 0)),(7,(jI (wr64 (bd1-(mnI bd1 x90.bid.Units))))),(9,(.bp 4 0)),(41,(.own 5)),(42,(jI (bf2.length:Int))),(43,(jI bd3))],[some (.lp Qai .ready none (kL 19 [(4,(.bp 3 0))])),some (.box ((Qe.cells ba4).map .pl)),some (.box ((Qb.cells be5).map .pl)),some (.box (((cInt .i64) bd6).map .pl)),some (.box ((Qd.cells (Qd.mk x90.index (mnI bd1 x90.bid.Units) x90.bid)).map .pl)),jR 6 Qd.cells bf2]) (ap (Qi h91).1 (ap (Qag Qd.cells (Qi h91).2) (ap (Qn Qd.cells (Qi h91).2) an))) ?_;obtain ⟨o92,h93,h⟩:=Qf h;cases o92 with
 | norm =>
  refine T.oneN (by kernel_rfl) (yN Qh j3 2 true [some (.lp Qai .ready none (kL 19 [(4,(.bp 3 0))])),none,none,some (.box (((cInt .i64) bd6).map .pl)),none,none] [] [5] [0,7,41,42,43,60] (mkS [(0,(.yl 0)),(7,(jI (wr64 (bd1-(mnI bd1 x90.bid.Units))))),(41,(.own 4)),(42,(jI (bf2.length:Int))),(43,(jI bd3)),(60,(jB false))],[some (.lp Qai .ready none (kL 19 [(4,(.bp 3 0))])),some (.box ((Qe.cells ba4).map .pl)),some (.box ((Qb.cells be5).map .pl)),some (.box (((cInt .i64) bd6).map .pl)),jR 6 Qd.cells bf2]) (ap (Qbi.rn 6 [0,3] (f57y1_norm (Qd.mk x90.index (mnI bd1 x90.bid.Units) x90.bid) bd6 h93)) an)) rfl ?_;obtain rfl:=Qg h;exact rE Qh [] [none] [] [4] [0,7,41,42,43] (.norm,(f53r3n3E bd1 bf2 bd3 ba4 be5 bd6 (.norm (wr64 (bd1-(mnI bd1 x90.bid.Units))))).2) an rfl
 | ret =>
  refine T.oneN (by kernel_rfl) (yN Qh j3 2 false [some (.lp Qai .done (some (.ret)) (kL 19 [(4,(.bp 3 0))])),none,none,some (.box (((cInt .i64) x90.bid.Price).map .pl)),none,none] [] [5] [0,7,41,42,43,60] (mkS [(0,(.yl 0)),(7,(jI (wr64 (bd1-(mnI bd1 x90.bid.Units))))),(41,(.own 4)),(42,(jI (bf2.length:Int))),(43,(jI bd3)),(60,(jB true))],[some (.lp Qai .done (some (.ret)) (kL 19 [(4,(.bp 3 0))])),some (.box ((Qe.cells ba4).map .pl)),some (.box ((Qb.cells be5).map .pl)),some (.box (((cInt .i64) x90.bid.Price).map .pl)),jR 6 Qd.cells bf2]) (ap (Qbi.rn 6 [0,3] (f57y1_ret (Qd.mk x90.index (mnI bd1 x90.bid.Units) x90.bid) bd6 h93)) an)) rfl ?_;obtain rfl:=Qg h;exact rE Qh [] [none] [] [] [] (.ret,(f53r3n3E bd1 bf2 bd3 ba4 be5 bd6 (.ret x90.bid.Price)).2) an rfl
inductive f53r3n4O where
 | exit2
 | ret (v100:Int)
noncomputable def f53r3n4E(x52:List Qd)(a1:Qe)(a2:Qb)(a3:Int):f53r3n4O→Ex×Tr×Hp
 | .exit2=>((.exit 2),mkS [],[some (.lp Qai .ready none (kL 19 [(4,(.bp 3 0))])),some (.box ((Qe.cells a1).map .pl)),some (.box ((Qb.cells a2).map .pl)),some (.box (((cInt .i64) a3).map .pl))])
 | .ret v100=>(.ret,mkS [],[some (.lp Qai .done (some (.ret)) (kL 19 [(4,(.bp 3 0))])),some (.box ((Qe.cells a1).map .pl)),some (.box ((Qb.cells a2).map .pl)),some (.box (((cInt .i64) v100).map .pl))])
noncomputable def f53r3n4S(x52:List Qd)(a1:Qe)(a2:Qb)(a3 v84 v85:Int):Tr×Hp:=(mkS [(0,(.yl 0)),(7,(jI v84)),(41,(.own 4)),(42,(jI (x52.length:Int))),(43,(jI v85))],[some (.lp Qai .ready none (kL 19 [(4,(.bp 3 0))])),some (.box ((Qe.cells a1).map .pl)),some (.box ((Qb.cells a2).map .pl)),some (.box (((cInt .i64) a3).map .pl)),jR 6 Qd.cells x52])
noncomputable def f53r3n4:Nat→List Qd→Qe→Qb→Int→Int→Int→Option f53r3n4O
 | 0,_,_,_,_,_,_=>none
 | f+1,x52,a1,a2,a3,v84,v85 =>
  bif decide (v85<(x52.length:Int)) then
   (f53r3n3 v84 x52 v85 a1 a2 a3).bind fun o96=>match o96 with
   | .norm v98=>(f53r3n4 f x52 a1 a2 a3 v98 (wr64 (v85+1)))
   | .ret v99=>some (.ret v99)
  else
   some .exit2
theorem f53r3n4_ok:∀(f:Nat)(x52:List Qd)(a1:Qe)(a2:Qb)(a3 v84 v85:Int){o:f53r3n4O},f53r3n4 f x52 a1 a2 a3 v84 v85=some o→TL Try.prog Try.f53.ntmps 4 f (cL (cL (Qk 3 (Qk 1 (Qk 1 c53))))) (f53r3n4S x52 a1 a2 a3 v84 v85) (·=f53r3n4E x52 a1 a2 a3 o)
 | 0,_,_,_,_,_,_,o,h=>by rw [f53r3n4] at h; cases h
 | f+1,x52,a1,a2,a3,v84,v85,o,h=>by
  rw [f53r3n4] at h;refine TL.body (K:=fun s=>∃v84:Int,∃v85:Int,s=(f53r3n4S x52 a1 a2 a3 v84 v85)∧f53r3n4 f x52 a1 a2 a3 v84 v85=some o) ?_ (by rintro _ ⟨v84,v85,rfl,hk⟩; exact f53r3n4_ok f _ _ _ _ _ _ hk);rcases Qj h with ⟨h87,h⟩|⟨h87,h⟩
  ·refine rN Qh 2 [j3] [some true] [] [4] [0,7,41,42,43] (f53r3n3S v84 x52 v85 a1 a2 a3) (ap h87 an) ?_;obtain ⟨o96,h97,h⟩:=Qf h;cases o96 with
   | norm v98 =>
    refine T.oneN (by kernel_rfl) (f53r3n3_ok v84 x52 v85 a1 a2 a3 h97) (st2:=(f53r3n3E v84 x52 v85 a1 a2 a3 (.norm v98)).2) rfl ?_;exact rE Qh [j3] [] [] [4] [0,7,41,42,43] (.norm,(f53r3n4S x52 a1 a2 a3 v98 (wr64 (v85+1)))) an (Qt.norm ⟨v98,(wr64 (v85+1)),rfl,h⟩)
   | ret v99 =>
    obtain rfl:=Qg h;exact T.oneX' (by kernel_rfl) (f53r3n3_ok v84 x52 v85 a1 a2 a3 h97) (tds:=[]) (m:=[]) (keep:=[]) (st2:=(f53r3n4E x52 a1 a2 a3 (.ret v99)).2) (by kernel_rfl) an rfl (Qt.out rfl rfl)
  ·obtain rfl:=Qg h;exact rK Qh 2 [j3] [some false] [] [] [] (.exit 2) ((f53r3n4E x52 a1 a2 a3 .exit2).2) (ap h87 an) (Qt.out rfl rfl)
inductive f53r3n0O where
 | norm
 | ret (v104:Int)
noncomputable def f53r3n0E(a1:Qe)(a2:Qb)(a3:Int):f53r3n0O→Ex×Tr×Hp
 | .norm=>(.norm,mkS [],[some (.lp Qai .ready none (kL 19 [(4,(.bp 3 0))])),some (.box ((Qe.cells a1).map .pl)),some (.box ((Qb.cells a2).map .pl)),some (.box (((cInt .i64) a3).map .pl))])
 | .ret v104=>(.ret,mkS [],[some (.lp Qai .done (some (.ret)) (kL 19 [(4,(.bp 3 0))])),some (.box ((Qe.cells a1).map .pl)),some (.box ((Qb.cells a2).map .pl)),some (.box (((cInt .i64) v104).map .pl))])
noncomputable def f53r3n0S(a1:Qe)(a2:Qb)(a3:Int):Tr×Hp:=(Qan [(.yl 0),(.bp 1 0),(.bp 2 0)] 0 .leaf,[some (.lp Qai .ready none (kL 19 [(4,(.bp 3 0))])),some (.box ((Qe.cells a1).map .pl)),some (.box ((Qb.cells a2).map .pl)),some (.box (((cInt .i64) a3).map .pl))])
noncomputable def f53r3n0(a1:Qe)(a2:Qb)(a3:Int):Option f53r3n0O :=
 (f53r3n1 a1 a2 a3).bind fun o47=>match o47 with
 | .norm v49=>(f54r1 v49).bind fun x52 =>
  (f53r3n4 FUEL x52 a1 a2 a3 a2.Units 0).bind fun o101=>match o101 with
  | .exit2=>some .norm
  | .ret v103=>some (.ret v103)
theorem f53r3n0_ok(a1:Qe)(a2:Qb)(a3:Int){o:f53r3n0O}(h:f53r3n0 a1 a2 a3=some o):T Try.prog Try.f53.ntmps 4 c53 (f53r3n0S a1 a2 a3) (·=f53r3n0E a1 a2 a3 o):=by
 unfold f53r3n0 at h;refine rN Qh 1 [j3] [] [] [] [0,1,2,4] (f53r3n1S a1 a2 a3) an ?_;obtain ⟨o47,h48,h⟩:=Qf h;cases o47 with
 | norm v49 =>
  refine T.oneN (by kernel_rfl) (f53r3n1_ok a1 a2 a3 h48) (st2:=(f53r3n1E a1 a2 a3 (.norm v49)).2) rfl ?_;obtain ⟨x52,h53,h⟩:=Qf h;refine rN Qh 3 [([],[(1,.call (.tup []) (jN 4 [jR 6 Qd.cells x52]))],[]),j3,([],[],[(1,.val (jI (x52.length:Int)))])] [] [] [4] [0,7,41,42,43] (f53r3n4S x52 a1 a2 a3 a2.Units 0) (ap (Qp.rn 5 [4] (f54r1_ok v49 h53)) (ap (Qac (xs:=x52) (c:=Qd.cells)) an)) ?_;obtain ⟨o101,h102,h⟩:=Qf h;cases o101 with
  | exit2 =>
   obtain rfl:=Qg h;exact T.last' (T.bl (i:=2) (by kernel_rfl) (by kernel_rfl) (f53r3n4_ok FUEL x52 a1 a2 a3 a2.Units 0 h102)) (tds:=[]) (m:=[]) (keep:=[]) (st2:=(f53r3n0E a1 a2 a3 .norm).2) (by kernel_rfl) an rfl
  | ret v103 =>
   obtain rfl:=Qg h;exact T.last' (T.bl (i:=2) (by kernel_rfl) (by kernel_rfl) (f53r3n4_ok FUEL x52 a1 a2 a3 a2.Units 0 h102)) (tds:=[]) (m:=[]) (keep:=[]) (st2:=(f53r3n0E a1 a2 a3 (.ret v103)).2) (by kernel_rfl) an rfl
noncomputable def f53r3(a1:Qe)(a2:Qb)(a3:Int):Option (Bool×Int):=(f53r3n0 a1 a2 a3).bind fun o=>match o with
 | .norm=>some (true,a3)
 | .ret v104=>some (false,v104)
theorem f53r3_ok(a1:Qe)(a2:Qb)(a3:Int){r:Bool×Int}(h:f53r3 a1 a2 a3=some r):Qp Try.prog true 53 [(.yl 0),(.bp 1 0),(.bp 2 0)] [some (.lp Qai .ready none (kL 19 [(4,(.bp 3 0))])),some (.box ((Qe.cells a1).map .pl)),some (.box ((Qb.cells a2).map .pl)),some (.box (((cInt .i64) a3).map .pl))] (.tup []) [some (.lp Qai (lstOf r.1) (pdOf r.1 (.ret)) (kL 19 [(4,(.bp 3 0))])),some (.box ((Qe.cells a1).map .pl)),some (.box ((Qb.cells a2).map .pl)),some (.box (((cInt .i64) r.2).map .pl))]:=by
 unfold f53r3 at h;obtain ⟨o,ho,h⟩:=Qf h;cases o with
 | norm =>
  obtain rfl:=Qg h;exact Qp.shared Qh (f:=Try.f53) (c:=c53) (by kernel_rfl) (by kernel_rfl) (by kernel_rfl) ((f53r3n0_ok a1 a2 a3 ho).mono fun r e=>by subst e; exact ⟨.inr rfl,by kernel_rfl,by kernel_rfl⟩)
 | ret v104 =>
  obtain rfl:=Qg h;exact Qp.shared Qh (f:=Try.f53) (c:=c53) (by kernel_rfl) (by kernel_rfl) (by kernel_rfl) ((f53r3n0_ok a1 a2 a3 ho).mono fun r e=>by subst e; exact ⟨.inl rfl,by kernel_rfl,by kernel_rfl⟩)

inductive f57r1n2O where
 | norm (v6:Int)
 | ret (v7:Int)
def f57r1n2E(ba1:Qe)(be2:Qb):f57r1n2O→Ex×Tr×Hp
 | .norm v6=>(.norm,mkS [(2,(.bp 2 0)),(4,(.bp 3 0))],[some (.box ((Qe.cells ba1).map .pl)),some (.box ((Qb.cells be2).map .pl)),some (.box ((Qb.cells be2).map .pl)),some (.box (((cInt .i64) v6).map .pl))])
 | .ret v7=>(.ret,mkS [(4,(.bp 2 0))],[some (.box ((Qe.cells ba1).map .pl)),some (.box ((Qb.cells be2).map .pl)),some (.box (((cInt .i64) v7).map .pl))])
def f57r1n2S(ba1:Qe)(be2:Qb):Tr×Hp:=(mkS [(2,(.bp 2 0)),(4,(.bp 3 0)),(6,(.clo 53 [(.bp 0 0),(.bp 1 0)]))],[some (.box ((Qe.cells ba1).map .pl)),some (.box ((Qb.cells be2).map .pl)),some (.box ((Qb.cells be2).map .pl)),some (.box (((cInt .i64) 0).map .pl))])
noncomputable def f57r1n2(ba1:Qe)(be2:Qb):Option f57r1n2O :=
 (f53r3 ba1 be2 0).bind fun x3 =>
 bif x3.1 then
  some (.norm x3.2)
 else
  some (.ret x3.2)
theorem f57r1n2_ok(ba1:Qe)(be2:Qb){o:f57r1n2O}(h:f57r1n2 ba1 be2=some o):T Try.prog Try.f57.ntmps 2 (Qk 1 (cL (Qk 1 c57))) (f57r1n2S ba1 be2) (·=f57r1n2E ba1 be2 o):=by
 unfold f57r1n2 at h;refine T.block' (i:=0) (by kernel_rfl) ?_;refine rN Qh 0 [] [] [] [2,3] [2,4,6] (mkS [(2,(.bp 2 0)),(4,(.bp 3 0)),(6,(.clo 53 [(.bp 0 0),(.bp 1 0)]))],[some (.box ((Qe.cells ba1).map .pl)),some (.box ((Qb.cells be2).map .pl)),some (.box ((Qb.cells be2).map .pl)),some (.box (((cInt .i64) 0).map .pl))]) an ?_;obtain ⟨x3,h4,h⟩:=Qf h;rcases Qj h with ⟨h5,h⟩|⟨h5,h⟩
 ·obtain rfl:=Qg h;exact T.last' (rgN 53 [(.bp 0 0),(.bp 1 0)] [4] (.tup []) [some (.box ((Qe.cells ba1).map .pl)),some (.box ((Qb.cells be2).map .pl)),none,some (.box (((cInt .i64) x3.2).map .pl)),some (.lp Qai .ready none (kL 19 [(4,(.bp 3 0))]))] none .ready (kL 19 [(4,(.bp 3 0))]) .norm [] [2,3] [2,4] (mkS [(2,(.bp 2 0)),(4,(.bp 3 0))],[some (.box ((Qe.cells ba1).map .pl)),some (.box ((Qb.cells be2).map .pl)),some (.box ((Qb.cells be2).map .pl)),some (.box (((cInt .i64) x3.2).map .pl))]) (by have t_:=(Qp.rn 5 [4,0,1,3] (f53r3_ok ba1 be2 0 h4)); rw [h5] at t_; exact t_) an) (tds:=[]) (m:=[2,3]) (keep:=[2,4]) (st2:=(f57r1n2E ba1 be2 (.norm x3.2)).2) (by kernel_rfl) an rfl
 ·obtain rfl:=Qg h;exact T.last' (rgN 53 [(.bp 0 0),(.bp 1 0)] [4] (.tup []) [some (.box ((Qe.cells ba1).map .pl)),some (.box ((Qb.cells be2).map .pl)),none,some (.box (((cInt .i64) x3.2).map .pl)),some (.lp Qai .done (some (.ret)) (kL 19 [(4,(.bp 3 0))]))] (some (.ret)) .done (kL 19 [(4,(.bp 3 0))]) .ret [] [3] [4] (mkS [(4,(.bp 2 0))],[some (.box ((Qe.cells ba1).map .pl)),some (.box ((Qb.cells be2).map .pl)),some (.box (((cInt .i64) x3.2).map .pl))]) (by have t_:=(Qp.rn 5 [4,0,1,3] (f53r3_ok ba1 be2 0 h4)); rw [h5] at t_; exact t_) an) (tds:=[]) (m:=[2]) (keep:=[4]) (st2:=(f57r1n2E ba1 be2 (.ret x3.2)).2) (by kernel_rfl) an rfl
inductive f57r1n1O where
 | norm (v12:Int)
 | ret (v13:Int)
def f57r1n1E(ba1:Qe)(be2:Qb):f57r1n1O→Ex×Tr×Hp
 | .norm v12=>(.norm,mkS [(2,(.bp 2 0)),(4,(.bp 3 0))],[some (.box ((Qe.cells ba1).map .pl)),some (.box ((Qb.cells be2).map .pl)),some (.box ((Qb.cells be2).map .pl)),some (.box (((cInt .i64) v12).map .pl))])
 | .ret v13=>(.ret,mkS [(4,(.bp 2 0))],[some (.box ((Qe.cells ba1).map .pl)),some (.box ((Qb.cells be2).map .pl)),some (.box (((cInt .i64) v13).map .pl))])
def f57r1n1S(ba1:Qe)(be2:Qb):Tr×Hp:=(mkS [(1,(.clo 53 [(.bp 0 0),(.bp 1 0)])),(2,(.bp 2 0)),(4,(.bp 3 0))],[some (.box ((Qe.cells ba1).map .pl)),some (.box ((Qb.cells be2).map .pl)),some (.box ((Qb.cells be2).map .pl)),some (.box (((cInt .i64) 0).map .pl))])
noncomputable def f57r1n1(ba1:Qe)(be2:Qb):Option f57r1n1O :=
 (f57r1n2 ba1 be2).bind fun o8=>match o8 with
 | .norm v10=>some (.norm v10)
 | .ret v11=>some (.ret v11)
theorem f57r1n1_ok(ba1:Qe)(be2:Qb){o:f57r1n1O}(h:f57r1n1 ba1 be2=some o):T Try.prog Try.f57.ntmps 2 (cL (Qk 1 c57)) (f57r1n1S ba1 be2) (·=f57r1n1E ba1 be2 o):=by
 unfold f57r1n1 at h;refine rN Qh 1 [j3] [] [] [2,3] [2,4,6] (f57r1n2S ba1 be2) an ?_;obtain ⟨o8,h9,h⟩:=Qf h;cases o8 with
 | norm v10 =>
  obtain rfl:=Qg h;exact T.last' (f57r1n2_ok ba1 be2 h9) (tds:=[]) (m:=[2,3]) (keep:=[2,4]) (st2:=(f57r1n1E ba1 be2 (.norm v10)).2) (by kernel_rfl) an rfl
 | ret v11 =>
  obtain rfl:=Qg h;exact T.last' (f57r1n2_ok ba1 be2 h9) (tds:=[]) (m:=[2]) (keep:=[4]) (st2:=(f57r1n1E ba1 be2 (.ret v11)).2) (by kernel_rfl) an rfl
inductive f57r1n0O where
 | ret (v18:Int)
def f57r1n0E(a1:Qb)(a2:Qe):f57r1n0O→Ex×Tr×Hp
 | .ret v18=>(.ret,mkS [(4,(.bp 2 0))],[some (.box ((Qe.cells a2).map .pl)),some (.box ((Qb.cells a1).map .pl)),some (.box (((cInt .i64) v18).map .pl))])
def f57r1n0S(a1:Qb)(a2:Qe):Tr×Hp:=(Qan [(jA Qb.cells a1),(.clo 53 [(.bp 0 0),(.bp 1 0)])] 0 .leaf,[some (.box ((Qe.cells a2).map .pl)),some (.box ((Qb.cells a1).map .pl))])
noncomputable def f57r1n0(a1:Qb)(a2:Qe):Option f57r1n0O :=
 (f57r1n1 a2 a1).bind fun o14=>match o14 with
 | .norm v16=>some (.ret a1.Reserve)
 | .ret v17=>some (.ret v17)
theorem f57r1n0_ok(a1:Qb)(a2:Qe){o:f57r1n0O}(h:f57r1n0 a1 a2=some o):T Try.prog Try.f57.ntmps 2 c57 (f57r1n0S a1 a2) (·=f57r1n0E a1 a2 o):=by
 unfold f57r1n0 at h;refine rN Qh 1 [j3] [] [] [2,3] [1,2,4] (f57r1n1S a2 a1) an ?_;obtain ⟨o14,h15,h⟩:=Qf h;cases o14 with
 | norm v16 =>
  refine T.oneN (by kernel_rfl) (f57r1n1_ok a2 a1 h15) (st2:=(f57r1n1E a2 a1 (.norm v16)).2) rfl ?_;obtain rfl:=Qg h;exact rE Qh [j3] [] [] [3] [4] (.ret,(f57r1n0E a1 a2 (.ret a1.Reserve)).2) an rfl
 | ret v17 =>
  obtain rfl:=Qg h;exact T.oneX' (by kernel_rfl) (f57r1n1_ok a2 a1 h15) (tds:=[]) (m:=[2]) (keep:=[4]) (st2:=(f57r1n0E a1 a2 (.ret v17)).2) (by kernel_rfl) an rfl rfl
noncomputable def f57r1(a1:Qb)(a2:Qe):Option Int:=(f57r1n0 a1 a2).bind fun o=>match o with
 | .ret v18=>some v18
theorem f57r1_ok(a1:Qb)(a2:Qe){r:Int}(h:f57r1 a1 a2=some r):Qp Try.prog true 57 [(jA Qb.cells a1),(.clo 53 [(.bp 0 0),(.bp 1 0)])] [some (.box ((Qe.cells a2).map .pl)),some (.box ((Qb.cells a1).map .pl))] (jI r) [some (.box ((Qe.cells a2).map .pl)),some (.box ((Qb.cells a1).map .pl)),some (.box (((cInt .i64) r).map .pl))]:=by
 unfold f57r1 at h;obtain ⟨o,ho,h⟩:=Qf h;cases o with
 | ret v18 =>
  obtain rfl:=Qg h;exact Qp.shared Qh (f:=Try.f57) (c:=c57) (by kernel_rfl) (by kernel_rfl) (by kernel_rfl) ((f57r1n0_ok a1 a2 ho).mono fun r e=>by subst e; exact ⟨.inl rfl,by kernel_rfl,by kernel_rfl⟩)


inductive f12y4n0O where
 | exit2
 | norm
noncomputable def f12y4n0E(a1:Qd)(a2:Int)(a3:List Qa):f12y4n0O→Ex×Tr×Hp
 | .exit2=>((.exit 2),mkS [],[some (.lp Qo .busy none (kL 63 [(5,(.bp 1 0)),(9,(.bp 2 0)),(10,(.bp 3 0))])),some (.box [(.own 4)]),some (.box (((cInt .i64) a2).map .pl)),some (.box [(.pl (.fn 57))]),jR 3 Qa.cells a3])
 | .norm=>(.norm,mkS [],[some (.lp Qo .busy none (kL 63 [(5,(.bp 1 0)),(9,(.bp 2 0)),(10,(.bp 3 0))])),some (.box [(.own 5)]),some (.box (((cInt .i64) a2).map .pl)),some (.box [(.pl (.fn 57))]),none,some (.row false 3 ((a3++[(Qa.mk a1.index a1.units a2)]).map Qa.cells))])
noncomputable def f12y4n0S(a1:Qd)(a2:Int)(a3:List Qa):Tr×Hp:=(mkS [(5,(.bp 1 0)),(9,(.bp 2 0)),(10,(.bp 3 0)),(11,(.bp 5 0))],[some (.lp Qo .busy none (kL 63 [(5,(.bp 1 0)),(9,(.bp 2 0)),(10,(.bp 3 0))])),some (.box [(.own 4)]),some (.box (((cInt .i64) a2).map .pl)),some (.box [(.pl (.fn 57))]),jR 3 Qa.cells a3,some (.box ((Qd.cells a1).map .pl))])
noncomputable def f12y4n0(a1:Qd)(a2:Int)(a3:List Qa):Option f12y4n0O :=
 bif decide (a1.units=0) then
  some .exit2
 else
  req (fit (a3.length+1) 24) <|
  some .norm
theorem f12y4n0_ok(a1:Qd)(a2:Int)(a3:List Qa){o:f12y4n0O}(h:f12y4n0 a1 a2 a3=some o):T Try.prog Try.f12.ntmps 5 (rfB Qo) (f12y4n0S a1 a2 a3) (·=f12y4n0E a1 a2 a3 o):=by
 unfold f12y4n0 at h;refine T.block' (i:=3) (by kernel_rfl) ?_;rcases Qj h with ⟨h5,h⟩|⟨h5,h⟩
 ·obtain rfl:=Qg h;exact rK Qh 1 [j3] [some true] [] [] [] (.exit 2) ((f12y4n0E a1 a2 a3 .exit2).2) (ap h5 an) rfl
 ·obtain ⟨h7,h⟩:=Qcc h;obtain rfl:=Qg h;exact rE Qh [j3,j3,j3,j3,([],[(3,.fits)],[(3,.row 8 ((a3++[(Qa.mk a1.index a1.units a2)]).map Qa.cells))])] [some false,none] [] [8] [] (.norm,(f12y4n0E a1 a2 a3 .norm).2) (ap h5 (ap (fit_map (te:=ti36) (xs:=a3) (n:=1) (c:=Qa.cells) h7 rfl) (ap (app_cv (xs:=a3) (ys:=[(Qa.mk a1.index a1.units a2)]) (c:=Qa.cells)) an))) rfl
theorem f12y4_exit2(a1:Qd)(a2:Int)(a3:List Qa)(h:f12y4n0 a1 a2 a3=some .exit2):Qbi Try.prog [(jA Qd.cells a1)] 0 [some (.lp Qo .ready none (kL 63 [(5,(.bp 1 0)),(9,(.bp 2 0)),(10,(.bp 3 0))])),some (.box [(.own 4)]),some (.box (((cInt .i64) a2).map .pl)),some (.box [(.pl (.fn 57))]),jR 3 Qa.cells a3] false [some (.lp Qo .done (some (.exit 2)) (kL 63 [(5,(.bp 1 0)),(9,(.bp 2 0)),(10,(.bp 3 0))])),some (.box [(.own 4)]),some (.box (((cInt .i64) a2).map .pl)),some (.box [(.pl (.fn 57))]),jR 3 Qa.cells a3] :=
 Qbi.mk (c:=Qo) (n:=Try.f12.ntmps) (base:=5) (cs:=(kL 63 [(5,(.bp 1 0)),(9,(.bp 2 0)),(10,(.bp 3 0))])) (cs2:=(kL 63 [(5,(.bp 1 0)),(9,(.bp 2 0)),(10,(.bp 3 0))])) (cs3:=(kL 63 [(5,(.bp 1 0)),(9,(.bp 2 0)),(10,(.bp 3 0))])) (st2:=(mkS [(5,(.bp 1 0)),(9,(.bp 2 0)),(10,(.bp 3 0)),(11,(.bp 5 0))],[some (.lp Qo .ready none (kL 63 [(5,(.bp 1 0)),(9,(.bp 2 0)),(10,(.bp 3 0))])),some (.box [(.own 4)]),some (.box (((cInt .i64) a2).map .pl)),some (.box [(.pl (.fn 57))]),jR 3 Qa.cells a3,some (.box ((Qd.cells a1).map .pl))])) (e:=(f12y4n0E a1 a2 a3 .exit2)) (pend:=(some (.exit 2)))
  (run_ok (P:=Try.prog) (C:=cfg) Qh (c:=rfA Qo) (rs:=[j3]) (ps:=[]) (tds:=[]) (m:=[5]) (keep:=[5,9,10,11]) (by kernel_rfl) an)
  (f12y4n0_ok a1 a2 a3 h)
theorem f12y4_norm(a1:Qd)(a2:Int)(a3:List Qa)(h:f12y4n0 a1 a2 a3=some .norm):Qbi Try.prog [(jA Qd.cells a1)] 0 [some (.lp Qo .ready none (kL 63 [(5,(.bp 1 0)),(9,(.bp 2 0)),(10,(.bp 3 0))])),some (.box [(.own 4)]),some (.box (((cInt .i64) a2).map .pl)),some (.box [(.pl (.fn 57))]),jR 3 Qa.cells a3] true [some (.lp Qo .ready none (kL 63 [(5,(.bp 1 0)),(9,(.bp 2 0)),(10,(.bp 3 0))])),some (.box [(.own 5)]),some (.box (((cInt .i64) a2).map .pl)),some (.box [(.pl (.fn 57))]),none,some (.row false 3 ((a3++[(Qa.mk a1.index a1.units a2)]).map Qa.cells))] :=
 Qbi.mk (c:=Qo) (n:=Try.f12.ntmps) (base:=5) (cs:=(kL 63 [(5,(.bp 1 0)),(9,(.bp 2 0)),(10,(.bp 3 0))])) (cs2:=(kL 63 [(5,(.bp 1 0)),(9,(.bp 2 0)),(10,(.bp 3 0))])) (cs3:=(kL 63 [(5,(.bp 1 0)),(9,(.bp 2 0)),(10,(.bp 3 0))])) (st2:=(mkS [(5,(.bp 1 0)),(9,(.bp 2 0)),(10,(.bp 3 0)),(11,(.bp 5 0))],[some (.lp Qo .ready none (kL 63 [(5,(.bp 1 0)),(9,(.bp 2 0)),(10,(.bp 3 0))])),some (.box [(.own 4)]),some (.box (((cInt .i64) a2).map .pl)),some (.box [(.pl (.fn 57))]),jR 3 Qa.cells a3,some (.box ((Qd.cells a1).map .pl))])) (e:=(f12y4n0E a1 a2 a3 .norm)) (pend:=none)
  (run_ok (P:=Try.prog) (C:=cfg) Qh (c:=rfA Qo) (rs:=[j3]) (ps:=[]) (tds:=[]) (m:=[5]) (keep:=[5,9,10,11]) (by kernel_rfl) an)
  (f12y4n0_ok a1 a2 a3 h)

end Go.Proofs.Ythpceddjepbamaa
