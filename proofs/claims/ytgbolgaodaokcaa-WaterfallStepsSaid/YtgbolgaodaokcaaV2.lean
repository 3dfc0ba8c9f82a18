/- Several texts in one. No condition. -/
import Derived.Test.YtgbolgaodaokcaaTyV
import Derived.Test.YtgbolgaodaokcaaTI
namespace Go.Proofs.Ytgbolgaodaokcaa
set_option linter.unusedVariables false
set_option linter.unusedSimpArgs false
set_option maxRecDepth 100000
open Go.RowKit
structure Qb where
 Level:Int
 Owner:ByteArray
 Size:Int
 Called:Bool
def Qb.cells(x:Qb):List PV:=[.int .i64 x.Level,.str x.Owner,.int .i64 x.Size,.bool x.Called]
theorem Qb.cells_eq(x y:Qb):(Qb.cells x=Qb.cells y)=(x=y):=propext ⟨fun h=>by
 cases x; cases y
 simp_all [Qb.cells],fun h=>by rw [h]⟩
theorem Qb.map_eq(x y:List Qb):(x.map Qb.cells=y.map Qb.cells)=(x=y):=map_eq_of fun a b h=>by rwa [Qb.cells_eq] at h
structure Qa where
 Level:Int
 Owner:ByteArray
 Amount:Int
def Qa.cells(x:Qa):List PV:=[.int .i64 x.Level,.str x.Owner,.int .i64 x.Amount]
theorem Qa.cells_eq(x y:Qa):(Qa.cells x=Qa.cells y)=(x=y):=propext ⟨fun h=>by
 cases x; cases y
 simp_all [Qa.cells],fun h=>by rw [h]⟩
theorem Qa.map_eq(x y:List Qa):(x.map Qa.cells=y.map Qa.cells)=(x=y):=map_eq_of fun a b h=>by rwa [Qa.cells_eq] at h
structure Key_ where
 level:Int
 owner:ByteArray
def Key_.cells(x:Key_):List PV:=[.int .i64 x.level,.str x.owner]
theorem Key_.cells_eq(x y:Key_):(Key_.cells x=Key_.cells y)=(x=y):=propext ⟨fun h=>by
 cases x; cases y
 simp_all [Key_.cells],fun h=>by rw [h]⟩
theorem Key_.map_eq(x y:List Key_):(x.map Key_.cells=y.map Key_.cells)=(x=y):=map_eq_of fun a b h=>by rwa [Key_.cells_eq] at h
structure Qn where
 e0:Int
 e1:Int
 e2:Int
 e3:Int
 e4:Int
 e5:Int
 e6:Int
 e7:Int
 e8:Int
 e9:Int
def Qn.cells(x:Qn):List PV:=[.int .i64 x.e0,.int .i64 x.e1,.int .i64 x.e2,.int .i64 x.e3,.int .i64 x.e4,.int .i64 x.e5,.int .i64 x.e6,.int .i64 x.e7,.int .i64 x.e8,.int .i64 x.e9]
theorem Qn.cells_eq(x y:Qn):(Qn.cells x=Qn.cells y)=(x=y):=propext ⟨fun h=>by
 cases x; cases y
 simp_all [Qn.cells],fun h=>by rw [h]⟩
theorem Qn.map_eq(x y:List Qn):(x.map Qn.cells=y.map Qn.cells)=(x=y):=map_eq_of fun a b h=>by rwa [Qn.cells_eq] at h
def Qa.eqb(x y:Qa):Bool:=decide (x.Level=y.Level)&&seq x.Owner y.Owner&&decide (x.Amount=y.Amount)
theorem Qa.eqb_ok(x y:Qa):eqV cfg.ty 59 (.agg (Qa.cells x)) (.agg (Qa.cells y))=some (Qa.eqb x y):=by
 unfold Qa.eqb;have e:eqV cfg.ty 59 (.agg (Qa.cells x)) (.agg (Qa.cells y))=(match some (decide (x.Level=y.Level)) with | some true=>(match some (decide (x.Owner.data.toList=y.Owner.data.toList)) with | some true=>(match some (decide (x.Amount=y.Amount)) with | some true=>(some true) | some false=>some false | none=>none) | some false=>some false | none=>none) | some false=>some false | none=>none):=by kernel_rfl
 rw [e]
 try simp only [seq]
 cases decide (x.Level=y.Level)<;>cases decide (x.Owner.data.toList=y.Owner.data.toList)<;>cases decide (x.Amount=y.Amount)<;>rfl
def Key_.eqb(x y:Key_):Bool:=decide (x.level=y.level)&&seq x.owner y.owner
theorem Key_.eqb_ok(x y:Key_):eqV cfg.ty 87 (.agg (Key_.cells x)) (.agg (Key_.cells y))=some (Key_.eqb x y):=by
 unfold Key_.eqb;have e:eqV cfg.ty 87 (.agg (Key_.cells x)) (.agg (Key_.cells y))=(match some (decide (x.level=y.level)) with | some true=>(match some (decide (x.owner.data.toList=y.owner.data.toList)) with | some true=>(some true) | some false=>some false | none=>none) | some false=>some false | none=>none):=by kernel_rfl
 rw [e]
 try simp only [seq]
 cases decide (x.level=y.level)<;>cases decide (x.owner.data.toList=y.owner.data.toList)<;>rfl
theorem Key_.eqb_eq{x y:Key_}(h:Key_.eqb x y=true):x=y:=by
 cases x; cases y;simp only [Key_.eqb,Bool.and_eq_true,decide_eq_true_eq,beq_iff_eq] at h;simp only [Key_.mk.injEq];refine ⟨?_,?_⟩<;>first | exact seq_eq' (by simp_all) | simp_all
theorem key_87:KeyOK cfg 87 (pAgg Key_.cells) Key_.eqb:=⟨fun a b=>Key_.eqb_ok a b,fun _=>by kernel_rfl,fun a b h=>Key_.eqb_eq h,fun a=>by simp [pAgg,Key_.cells,eqC,eqCL,eqC1,kindEq]⟩
def Qc:ByteArray:=⟨#[0,1,2,2,3,3,3,3,4,4,4,4,4,4,4,4,5,5,5,5,5,5,5,5,5,5,5,5,5,5,5,5,6,6,6,6,6,6,6,6,6,6,6,6,6,6,6,6,6,6,6,6,6,6,6,6,6,6,6,6,6,6,6,6,7,7,7,7,7,7,7,7,7,7,7,7,7,7,7,7,7,7,7,7,7,7,7,7,7,7,7,7,7,7,7,7,7,7,7,7,7,7,7,7,7,7,7,7,7,7,7,7,7,7,7,7,7,7,7,7,7,7,7,7,7,7,7,7,8,8,8,8,8,8,8,8,8,8,8,8,8,8,8,8,8,8,8,8,8,8,8,8,8,8,8,8,8,8,8,8,8,8,8,8,8,8,8,8,8,8,8,8,8,8,8,8,8,8,8,8,8,8,8,8,8,8,8,8,8,8,8,8,8,8,8,8,8,8,8,8,8,8,8,8,8,8,8,8,8,8,8,8,8,8,8,8,8,8,8,8,8,8,8,8,8,8,8,8,8,8,8,8,8,8,8,8,8,8,8,8,8,8,8,8,8,8,8,8,8,8,8,8,8,8,8,8]⟩
def Qbv:ByteArray:=⟨#[99]⟩
def Qbz:ByteArray:=⟨#[98]⟩
def Qbu:ByteArray:=⟨#[97]⟩
def Qbw:ByteArray:=⟨#[109]⟩
abbrev andU(a b:Int):Int:=IntKind.u64.wrap (BitVec.ofInt IntKind.u64.bits a &&& BitVec.ofInt IntKind.u64.bits b).toNat
abbrev orU(a b:Int):Int:=IntKind.u64.wrap (BitVec.ofInt IntKind.u64.bits a ||| BitVec.ofInt IntKind.u64.bits b).toNat
def ti3:TI:=⟨.int .i64,1,8,[.int .i64 0]⟩
def ti99:TI:=⟨.int .u64,1,8,[.int .u64 0]⟩
def ti59:TI:=⟨.struct [(3,0),(9,1),(3,2)],3,32,[.int .i64 0,.str ByteArray.empty,.int .i64 0]⟩
def ti33:TI:=⟨.struct [(3,0),(9,1),(3,2),(4,3)],4,40,[.int .i64 0,.str ByteArray.empty,.int .i64 0,.bool false]⟩
def ti9:TI:=⟨.str,1,16,[.str ByteArray.empty]⟩
def ti4:TI:=⟨.bool,1,1,[.bool false]⟩
def ti22:TI:=⟨.sl 33,1,24,[.sl .nil 0 []]⟩
def Qb.ok(x:Qb):Prop:=(okInt .i64) x.Level∧(fun s:ByteArray=>s.size≤maxLen) x.Owner∧(okInt .i64) x.Size∧(fun _:Bool=>True) x.Called∧True
def Qa.ok(x:Qa):Prop:=(okInt .i64) x.Level∧(fun s:ByteArray=>s.size≤maxLen) x.Owner∧(okInt .i64) x.Amount∧True
def Key_.ok(x:Key_):Prop:=(okInt .i64) x.level∧(fun s:ByteArray=>s.size≤maxLen) x.owner∧True
def Qn.ok(x:Qn):Prop:=(okInt .i64) x.e0∧(okInt .i64) x.e1∧(okInt .i64) x.e2∧(okInt .i64) x.e3∧(okInt .i64) x.e4∧(okInt .i64) x.e5∧(okInt .i64) x.e6∧(okInt .i64) x.e7∧(okInt .i64) x.e8∧(okInt .i64) x.e9∧True
theorem of_3{d:Nat}{ps:List PV}(h:WT cfg.ty (d+1) 3 ps):∃x:Int,ps=(cInt .i64) x∧(okInt .i64) x:=by
 obtain ⟨n,rfl,k⟩:=wt_int (ti:=ti3) (by kernel_rfl) rfl h;exact ⟨n,rfl,k⟩
theorem of_9{d:Nat}{ps:List PV}(h:WT cfg.ty (d+1) 9 ps):∃x:ByteArray,ps=cStr x∧(fun s:ByteArray=>s.size≤maxLen) x:=by
 obtain ⟨n,rfl,k⟩:=wt_str (ti:=ti9) (by kernel_rfl) rfl h;exact ⟨n,rfl,k⟩
theorem of_4{d:Nat}{ps:List PV}(h:WT cfg.ty (d+1) 4 ps):∃x:Bool,ps=Qaq x∧(fun _:Bool=>True) x:=by
 obtain ⟨n,rfl⟩:=wt_bool (ti:=ti4) (by kernel_rfl) rfl h;exact ⟨n,rfl,trivial⟩
theorem of_33{d:Nat}{ps:List PV}(h:WT cfg.ty (d+2) 33 ps):∃x:Qb,ps=Qb.cells x∧Qb.ok x:=by
 have g:=wt_struct (ti:=ti33) (by kernel_rfl) rfl h
 clear h
 obtain ⟨_,_,_,rfl,_,_,h0,g0⟩:=g;obtain ⟨x0,rfl,k0⟩:=of_3 h0;obtain ⟨_,_,_,rfl,_,_,h1,g1⟩:=g0;obtain ⟨x1,rfl,k1⟩:=of_9 h1;obtain ⟨_,_,_,rfl,_,_,h2,g2⟩:=g1;obtain ⟨x2,rfl,k2⟩:=of_3 h2;obtain ⟨_,_,_,rfl,_,_,h3,g3⟩:=g2;obtain ⟨x3,rfl,k3⟩:=of_4 h3;have e:_=[]:=g3;subst e;exact ⟨⟨x0,x1,x2,x3⟩,rfl,k0,k1,k2,k3,trivial⟩
theorem of_22{d:Nat}{ps:List PV}(h:WT cfg.ty (d+3) 22 ps):∃x:List Qb,ps=(cLst 4 Qb.cells) x∧(fun l:List Qb=>l.length≤maxLen∧∀x∈l,Qb.ok x) x:=by
 obtain ⟨te,es,e1,rfl,hl,hh⟩:=wt_sl (ti:=ti22) (by kernel_rfl) rfl h;obtain rfl:te=ti33:=Qe (e1.symm.trans (by kernel_rfl:cfg.ty 33=some ti33));obtain ⟨xs,rfl,hx⟩:=list_of (c:=Qb.cells) (ok:=Qb.ok) (fun ps h=>of_33 h) es (fun c hc=>(hh c hc).2);exact ⟨xs,rfl,by simpa using hl,hx⟩
theorem arg_22{p:PV}(h:WV cfg.ty 3 22 p):∃x:List Qb,p=(.sl .any 4 (x.map Qb.cells))∧(fun l:List Qb=>l.length≤maxLen∧∀x∈l,Qb.ok x) x:=by
 obtain ⟨_,g⟩:=wv_one (ti:=ti22) (by kernel_rfl) rfl h;obtain ⟨x,e,k⟩:=of_22 (d:=0) g;exact ⟨x,(List.cons.inj e).1,k⟩
theorem arg_3{p:PV}(h:WV cfg.ty 1 3 p):∃x:Int,p=(.int .i64 x)∧(okInt .i64) x:=by
 obtain ⟨_,g⟩:=wv_one (ti:=ti3) (by kernel_rfl) rfl h;obtain ⟨x,e,k⟩:=of_3 (d:=0) g;exact ⟨x,(List.cons.inj e).1,k⟩
end Go.Proofs.Ytgbolgaodaokcaa
namespace Go.Proofs.Ytgbolgaodaokcaa
set_option linter.unusedVariables false
set_option linter.unusedSimpArgs false
set_option maxRecDepth 100000
open Go.RowKit
noncomputable def c32:Code:=Try.f32.body.getD .skip
inductive f32r1n0O where
 | ret
def f32r1n0E:f32r1n0O→Ex×Tr×Hp
 | .ret=>(.ret,mkS [(0,(.own 0))],[some (.row false 4 ([(Qb.mk 0 Qbw 10 false),(Qb.mk 1 Qbu 5 false),(Qb.mk 1 Qbz 5 true),(Qb.mk 1 Qbv 20 false)].map Qb.cells))])
def f32r1n0S:Tr×Hp:=(Qaa [] 0 .leaf,[])
noncomputable def f32r1n0:Option f32r1n0O :=
 some .ret
theorem f32r1n0_ok{o:f32r1n0O}(h:f32r1n0=some o):T Try.prog Try.f32.ntmps 0 c32 f32r1n0S (·=f32r1n0E o):=by
 unfold f32r1n0 at h;obtain rfl:=Qe h;exact rE Qf [j3,j3] [] [] [0] [0] (.ret,(f32r1n0E .ret).2) an rfl
noncomputable def f32r1:Option Unit:=f32r1n0.bind fun o=>match o with
 | .ret=>some ()
theorem f32r1_ok{r:Unit}(h:f32r1=some r):Ql Try.prog true 32 [] [] (.own 0) [some (.row false 4 ([(Qb.mk 0 Qbw 10 false),(Qb.mk 1 Qbu 5 false),(Qb.mk 1 Qbz 5 true),(Qb.mk 1 Qbv 20 false)].map Qb.cells))]:=by
 unfold f32r1 at h;obtain ⟨o,ho,h⟩:=Qd h;cases o with
 | ret =>
  obtain rfl:=Qe h;exact Ql.shared Qf (f:=Try.f32) (c:=c32) (by kernel_rfl) (by kernel_rfl) (by kernel_rfl) ((f32r1n0_ok  ho).mono fun r e=>by subst e; exact ⟨.inl rfl,by kernel_rfl,by kernel_rfl⟩)

noncomputable def c36:Code:=Try.f36.body.getD .skip
inductive f36n0O where
 | ret
def f36n0E(a1:Qb):f36n0O→Ex×Tr×Hp
 | .ret=>(.ret,mkS [(2,(.bp 0 0))],[some (.box ((Key_.cells (Key_.mk a1.Level a1.Owner)).map .pl))])
def f36n0S(a1:Qb):Tr×Hp:=(Qaa [(jA Qb.cells a1)] 0 .leaf,[])
noncomputable def f36n0(a1:Qb):Option f36n0O :=
 some .ret
theorem f36n0_ok(a1:Qb){o:f36n0O}(h:f36n0 a1=some o):T Try.prog Try.f36.ntmps 0 c36 (f36n0S a1) (·=f36n0E a1 o):=by
 unfold f36n0 at h;obtain rfl:=Qe h;exact rE Qf [j3,j3] [] [] [1] [2] (.ret,(f36n0E a1 .ret).2) an rfl
noncomputable def f36(a1:Qb):Option Key_:=(f36n0 a1).bind fun o=>match o with
 | .ret=>some (Key_.mk a1.Level a1.Owner)
theorem f36_ok(a1:Qb){r:Key_}(h:f36 a1=some r):Ql Try.prog false 36 [(jA Qb.cells a1)] [] (jA Key_.cells r) []:=by
 unfold f36 at h;obtain ⟨o,ho,h⟩:=Qd h;cases o with
 | ret =>
  obtain rfl:=Qe h;exact Ql.plain Qf (f:=Try.f36) (c:=c36) (by kernel_rfl) (by kernel_rfl) (by kernel_rfl) (by kernel_rfl) ((f36n0_ok a1 ho).mono fun r e=>by subst e; exact ⟨.inl rfl,(.pl (.agg (Key_.cells (Key_.mk a1.Level a1.Owner)))),(.pl (.agg (Key_.cells (Key_.mk a1.Level a1.Owner)))),by kernel_rfl,by kernel_rfl,((Wk.refl _):Wk (.pl (.agg (Key_.cells (Key_.mk a1.Level a1.Owner)))) (.pl (.agg (Key_.cells (Key_.mk a1.Level a1.Owner)))))⟩)

noncomputable def c37:Code:=Try.f37.body.getD .skip
inductive f37n0O where
 | ret
def f37n0E(a1:Qb):f37n0O→Ex×Tr×Hp
 | .ret=>(.ret,mkS [(2,(jI a1.Size))],[])
def f37n0S(a1:Qb):Tr×Hp:=(Qaa [(jA Qb.cells a1)] 0 .leaf,[])
noncomputable def f37n0(a1:Qb):Option f37n0O :=
 some .ret
theorem f37n0_ok(a1:Qb){o:f37n0O}(h:f37n0 a1=some o):T Try.prog Try.f37.ntmps 0 c37 (f37n0S a1) (·=f37n0E a1 o):=by
 unfold f37n0 at h;obtain rfl:=Qe h;exact rE Qf [j3,j3] [] [] [] [2] (.ret,(f37n0E a1 .ret).2) an rfl
noncomputable def f37(a1:Qb):Option Int:=(f37n0 a1).bind fun o=>match o with
 | .ret=>some a1.Size
theorem f37_ok(a1:Qb){r:Int}(h:f37 a1=some r):Ql Try.prog false 37 [(jA Qb.cells a1)] [] (jI r) []:=by
 unfold f37 at h;obtain ⟨o,ho,h⟩:=Qd h;cases o with
 | ret =>
  obtain rfl:=Qe h;exact Ql.plain Qf (f:=Try.f37) (c:=c37) (by kernel_rfl) (by kernel_rfl) (by kernel_rfl) (by kernel_rfl) ((f37n0_ok a1 ho).mono fun r e=>by subst e; exact ⟨.inl rfl,(jI a1.Size),(jI a1.Size),by kernel_rfl,by kernel_rfl,((Wk.refl _):Wk (jI a1.Size) (jI a1.Size))⟩)

noncomputable def c71:Code:=Try.f71.body.getD .skip
inductive f71n0O where
 | ret (v10:Bool)
def f71n0E(a1:Int):f71n0O→Ex×Tr×Hp
 | .ret v10=>(.ret,mkS [(2,(jB v10))],[])
def f71n0S(a1:Int):Tr×Hp:=(Qaa [(.pl (.int .u8 a1))] 0 .leaf,[])
noncomputable def f71n0(a1:Int):Option f71n0O :=
 bif decide (97≤a1) then
  bif decide (a1≤122) then
   some (.ret true)
  else
   bif decide (65≤a1) then
    some (.ret (decide (a1≤90)))
   else
    some (.ret false)
 else
  bif decide (65≤a1) then
   some (.ret (decide (a1≤90)))
  else
   some (.ret false)
theorem f71n0_ok(a1:Int){o:f71n0O}(h:f71n0 a1=some o):T Try.prog Try.f71.ntmps 0 c71 (f71n0S a1) (·=f71n0E a1 o):=by
 unfold f71n0 at h;rcases Qh h with ⟨h6,h⟩|⟨h6,h⟩
 ·rcases Qh h with ⟨h7,h⟩|⟨h7,h⟩
  ·obtain rfl:=Qe h;exact rE Qf [j3,(jT [3,4,7,8,9,12],[(5,.bool true),(13,.bool true)],[])] [] [] [] [2] (.ret,(f71n0E a1 (.ret true)).2) (ap3 h6 (ap h7 (ap4 h7 an))) rfl
  ·rcases Qh h with ⟨h8,h⟩|⟨h8,h⟩
   ·obtain rfl:=Qe h;exact rE Qf [j3,(jF [7,8,9,12]++jT [3,4,10,11],[(5,.bool true),(12,.bool true),(13,.bool false)],[])] [] [] [] [2] (.ret,(f71n0E a1 (.ret (decide (a1≤90)))).2) (ap3 h6 (ap3 h7 (ap2 h8 (ap h7 (ap h8 (ap h7 an)))))) rfl
   ·obtain rfl:=Qe h;exact rE Qf [j3,(jF [7,8,9,10,11,12]++jT [3,4],[(5,.bool true),(12,.bool false),(13,.bool false)],[])] [] [] [] [2] (.ret,(f71n0E a1 (.ret false)).2) (ap3 h6 (ap3 h7 (ap2 h8 (ap h7 (ap h8 (ap h7 an)))))) rfl
 ·rcases Qh h with ⟨h9,h⟩|⟨h9,h⟩
  ·obtain rfl:=Qe h;exact rE Qf [j3,(jF [3,4]++jT [10,11],[(5,.bool false),(12,.bool true)],[])] [] [] [] [2] (.ret,(f71n0E a1 (.ret (decide (a1≤90)))).2) (ap3 h6 (ap3 h9 an)) rfl
  ·obtain rfl:=Qe h;exact rE Qf [j3,(jF [3,4,10,11],[(5,.bool false),(12,.bool false)],[])] [] [] [] [2] (.ret,(f71n0E a1 (.ret false)).2) (ap3 h6 (ap3 h9 an)) rfl
noncomputable def f71(a1:Int):Option Bool:=(f71n0 a1).bind fun o=>match o with
 | .ret v10=>some v10
theorem f71_ok(a1:Int){r:Bool}(h:f71 a1=some r):Ql Try.prog false 71 [(.pl (.int .u8 a1))] [] (jB r) []:=by
 unfold f71 at h;obtain ⟨o,ho,h⟩:=Qd h;cases o with
 | ret v10 =>
  obtain rfl:=Qe h;exact Ql.plain Qf (f:=Try.f71) (c:=c71) (by kernel_rfl) (by kernel_rfl) (by kernel_rfl) (by kernel_rfl) ((f71n0_ok a1 ho).mono fun r e=>by subst e; exact ⟨.inl rfl,(jB v10),(jB v10),by kernel_rfl,by kernel_rfl,((Wk.refl _):Wk (jB v10) (jB v10))⟩)

noncomputable def c56:Code:=Try.f56.body.getD .skip
inductive f56n3O where
 | norm (v148:Bool)
def f56n3E(bc1:ByteArray)(bd2:UInt8)(bb3:Int):f56n3O→Ex×Tr×Hp
 | .norm v148=>(.norm,mkS [(0,(jS bc1)),(20,(jI (bc1.size:Int))),(21,(jI bb3)),(45,(jB v148))],[])
def f56n3S(bc1:ByteArray)(bd2:UInt8)(bb3:Int):Tr×Hp:=(mkS [(0,(jS bc1)),(4,(.pl (.int .u8 (bd2.toNat:Int)))),(20,(jI (bc1.size:Int))),(21,(jI bb3))],[])
noncomputable def f56n3(bc1:ByteArray)(bd2:UInt8)(bb3:Int):Option f56n3O :=
 (f71 (bd2.toNat:Int)).bind fun x141 =>
 bif x141 then
  some (.norm false)
 else
  bif decide ((bd2.toNat:Int)<48) then
   bif decide ((bd2.toNat:Int)=95) then
    some (.norm false)
   else
    some (.norm (!(decide ((bd2.toNat:Int)=45))))
  else
   bif decide (57<(bd2.toNat:Int)) then
    bif decide ((bd2.toNat:Int)=95) then
     some (.norm false)
    else
     some (.norm (!(decide ((bd2.toNat:Int)=45))))
   else
    some (.norm false)
theorem f56n3_ok(bc1:ByteArray)(bd2:UInt8)(bb3:Int){o:f56n3O}(h:f56n3 bc1 bd2 bb3=some o):T Try.prog Try.f56.ntmps 0 (cL (Qj 2 (cL (cL (Qj 2 (cL (cL (Qj 1 (cL (Qj 2 c56)))))))))) (f56n3S bc1 bd2 bb3) (·=f56n3E bc1 bd2 bb3 o):=by
 unfold f56n3 at h;obtain ⟨x141,h142,h⟩:=Qd h;rcases Qh h with ⟨h143,h⟩|⟨h143,h⟩
 ·obtain rfl:=Qe h;exact rE Qf [(jF [4,5,6,9],[jH 1 (jB x141),(10,.bool false)],[])] [] [] [] [0,20,21,45] (.norm,(f56n3E bc1 bd2 bb3 (.norm false)).2) (ap (Qaf h143) (ap4 (Qaf h143) (ap (f71_ok (bd2.toNat:Int) h142) an))) rfl
 ·rcases Qh h with ⟨h144,h⟩|⟨h144,h⟩
  ·rcases Qh h with ⟨h145,h⟩|⟨h145,h⟩
   ·obtain rfl:=Qe h;exact rE Qf [(jF [16,17]++jT [4,5,6,7,8,9],[jH 1 (jB x141),(9,.bool true),(10,.bool true),(18,.bool false)],[])] [] [] [] [0,20,21,45] (.norm,(f56n3E bc1 bd2 bb3 (.norm false)).2) (ap3 (Qao h143) (ap2 h144 (ap (Qao h143) (ap h144 (ap (Qao h143) (ap3 (Qaf h145) (ap (f71_ok (bd2.toNat:Int) h142) an))))))) rfl
   ·obtain rfl:=Qe h;exact rE Qf [(jT [4,5,6,7,8,9,16,17],[jH 1 (jB x141),(9,.bool true),(10,.bool true),(18,.bool true)],[])] [] [] [] [0,20,21,45] (.norm,(f56n3E bc1 bd2 bb3 (.norm (!(decide ((bd2.toNat:Int)=45))))).2) (ap3 (Qao h143) (ap2 h144 (ap (Qao h143) (ap h144 (ap (Qao h143) (ap3 (Qao h145) (ap (f71_ok (bd2.toNat:Int) h142) an))))))) rfl
  ·rcases Qh h with ⟨h146,h⟩|⟨h146,h⟩
   ·rcases Qh h with ⟨h147,h⟩|⟨h147,h⟩
    ·obtain rfl:=Qe h;exact rE Qf [(jF [7,8,16,17]++jT [4,5,6,9,12,13],[jH 1 (jB x141),(9,.bool false),(10,.bool true),(14,.bool true),(18,.bool false)],[])] [] [] [] [0,20,21,45] (.norm,(f56n3E bc1 bd2 bb3 (.norm false)).2) (ap3 (Qao h143) (ap2 h144 (ap (Qao h143) (ap h144 (ap (Qao h143) (ap3 h146 (ap3 (Qaf h147) (ap (f71_ok (bd2.toNat:Int) h142) an)))))))) rfl
    ·obtain rfl:=Qe h;exact rE Qf [(jF [7,8]++jT [4,5,6,9,12,13,16,17],[jH 1 (jB x141),(9,.bool false),(10,.bool true),(14,.bool true),(18,.bool true)],[])] [] [] [] [0,20,21,45] (.norm,(f56n3E bc1 bd2 bb3 (.norm (!(decide ((bd2.toNat:Int)=45))))).2) (ap3 (Qao h143) (ap2 h144 (ap (Qao h143) (ap h144 (ap (Qao h143) (ap3 h146 (ap3 (Qao h147) (ap (f71_ok (bd2.toNat:Int) h142) an)))))))) rfl
   ·obtain rfl:=Qe h;exact rE Qf [(jF [7,8,12,13]++jT [4,5,6,9],[jH 1 (jB x141),(9,.bool false),(10,.bool true),(14,.bool false)],[])] [] [] [] [0,20,21,45] (.norm,(f56n3E bc1 bd2 bb3 (.norm false)).2) (ap3 (Qao h143) (ap2 h144 (ap (Qao h143) (ap h144 (ap (Qao h143) (ap3 h146 (ap (f71_ok (bd2.toNat:Int) h142) an))))))) rfl
inductive f56n2O where
 | norm
 | ret
def f56n2E(bc1:ByteArray)(bb2:Int):f56n2O→Ex×Tr×Hp
 | .norm=>(.norm,mkS [(0,(jS bc1)),(20,(jI (bc1.size:Int))),(21,(jI bb2))],[])
 | .ret=>(.ret,mkS [(2,(jB false))],[])
def f56n2S(bc1:ByteArray)(bb2:Int):Tr×Hp:=(mkS [(0,(jS bc1)),(20,(jI (bc1.size:Int))),(21,(jI bb2))],[])
noncomputable def f56n2(bc1:ByteArray)(bb2:Int):Option f56n2O :=
 (at? bc1.data.toList bb2).bind fun x125 =>
 (f56n3 bc1 x125 bb2).bind fun o149=>match o149 with
 | .norm v151=>bif v151 then
   some .ret
  else
   some .norm
theorem f56n2_ok(bc1:ByteArray)(bb2:Int){o:f56n2O}(h:f56n2 bc1 bb2=some o):T Try.prog Try.f56.ntmps 0 (cL (Qj 2 (cL (cL (Qj 1 (cL (Qj 2 c56))))))) (f56n2S bc1 bb2) (·=f56n2E bc1 bb2 o):=by
 unfold f56n2 at h;refine T.block' (i:=1) (by kernel_rfl) ?_;obtain ⟨x125,h126,h⟩:=Qd h;refine rN Qf 2 [j3,([],[(2,.byte (Int.toNat bb2) x125)],[])] [] [] [] [0,4,20,21] (f56n3S bc1 x125 bb2) (ap (Qg h126).1 (ap (Qg h126).2 an)) ?_;obtain ⟨o149,h150,h⟩:=Qd h;cases o149 with
 | norm v151 =>
  refine T.oneN (by kernel_rfl) (f56n3_ok bc1 x125 bb2 h150) (st2:=(f56n3E bc1 x125 bb2 (.norm v151)).2) rfl ?_;rcases Qh h with ⟨h153,h⟩|⟨h153,h⟩
  ·obtain rfl:=Qe h;exact rE Qf [j3] [some true] [] [] [2] (.ret,(f56n2E bc1 bb2 .ret).2) (ap h153 an) rfl
  ·obtain rfl:=Qe h;exact rE Qf [] [some false] [] [] [0,20,21] (.norm,(f56n2E bc1 bb2 .norm).2) (ap h153 an) rfl
inductive f56n4O where
 | exit0
 | ret
def f56n4E(bc1:ByteArray):f56n4O→Ex×Tr×Hp
 | .exit0=>((.exit 0),mkS [],[])
 | .ret=>(.ret,mkS [(2,(jB false))],[])
def f56n4S(bc1:ByteArray)(v109:Int):Tr×Hp:=(mkS [(0,(jS bc1)),(20,(jI (bc1.size:Int))),(21,(jI v109))],[])
noncomputable def f56n4:Nat→ByteArray→Int→Option f56n4O
 | 0,_,_=>none
 | f+1,bc1,v109 =>
  bif decide (v109<(bc1.size:Int)) then
   (f56n2 bc1 v109).bind fun o154=>match o154 with
   | .norm=>(f56n4 f bc1 (wr64 (v109+1)))
   | .ret=>some .ret
  else
   some .exit0
theorem f56n4_ok:∀(f:Nat)(bc1:ByteArray)(v109:Int){o:f56n4O},f56n4 f bc1 v109=some o→TL Try.prog Try.f56.ntmps 0 f (cL (cL (Qj 1 (cL (Qj 2 c56))))) (f56n4S bc1 v109) (·=f56n4E bc1 o)
 | 0,_,_,o,h=>by rw [f56n4] at h; cases h
 | f+1,bc1,v109,o,h=>by
  rw [f56n4] at h;refine TL.body (K:=fun s=>∃v109:Int,s=(f56n4S bc1 v109)∧f56n4 f bc1 v109=some o) ?_ (by rintro _ ⟨v109,rfl,hk⟩; exact f56n4_ok f _ _ hk);rcases Qh h with ⟨h111,h⟩|⟨h111,h⟩
  ·refine rN Qf 2 [j3] [some true] [] [] [0,20,21] (f56n2S bc1 v109) (ap h111 an) ?_;obtain ⟨o154,h155,h⟩:=Qd h;cases o154 with
   | norm =>
    refine T.oneN (by kernel_rfl) (f56n2_ok bc1 v109 h155) (st2:=(f56n2E bc1 v109 .norm).2) rfl ?_;exact rE Qf [j3] [] [] [] [0,20,21] (.norm,(f56n4S bc1 (wr64 (v109+1)))) an (Qp.norm ⟨(wr64 (v109+1)),rfl,h⟩)
   | ret =>
    obtain rfl:=Qe h;exact T.oneX' (by kernel_rfl) (f56n2_ok bc1 v109 h155) (tds:=[]) (m:=[]) (keep:=[2]) (st2:=(f56n4E bc1 .ret).2) (by kernel_rfl) an rfl (Qp.out rfl rfl)
  ·obtain rfl:=Qe h;exact rK Qf 2 [j3] [some false] [] [] [] (.exit 0) ((f56n4E bc1 .exit0).2) (ap h111 an) (Qp.out rfl rfl)
inductive f56n1O where
 | norm
 | ret
def f56n1E(bc1:ByteArray):f56n1O→Ex×Tr×Hp
 | .norm=>(.norm,mkS [],[])
 | .ret=>(.ret,mkS [(2,(jB false))],[])
def f56n1S(bc1:ByteArray):Tr×Hp:=(mkS [(0,(jS bc1))],[])
noncomputable def f56n1(bc1:ByteArray):Option f56n1O :=
 (f56n4 FUEL bc1 0).bind fun o156=>match o156 with
 | .exit0=>some .norm
 | .ret=>some .ret
theorem f56n1_ok(bc1:ByteArray){o:f56n1O}(h:f56n1 bc1=some o):T Try.prog Try.f56.ntmps 0 (cL (Qj 2 c56)) (f56n1S bc1) (·=f56n1E bc1 o):=by
 unfold f56n1 at h;refine rN Qf 1 [j3] [] [] [] [0,20,21] (f56n4S bc1 0) an ?_;obtain ⟨o156,h157,h⟩:=Qd h;cases o156 with
 | exit0 =>
  obtain rfl:=Qe h;exact T.last' (T.bl (i:=0) (by kernel_rfl) (by kernel_rfl) (f56n4_ok FUEL bc1 0 h157)) (tds:=[]) (m:=[]) (keep:=[]) (st2:=(f56n1E bc1 .norm).2) (by kernel_rfl) an rfl
 | ret =>
  obtain rfl:=Qe h;exact T.last' (T.bl (i:=0) (by kernel_rfl) (by kernel_rfl) (f56n4_ok FUEL bc1 0 h157)) (tds:=[]) (m:=[]) (keep:=[2]) (st2:=(f56n1E bc1 .ret).2) (by kernel_rfl) an rfl
inductive f56n0O where
 | ret (v160:Bool)
def f56n0E(a1:ByteArray):f56n0O→Ex×Tr×Hp
 | .ret v160=>(.ret,mkS [(2,(jB v160))],[])
def f56n0S(a1:ByteArray):Tr×Hp:=(Qaa [(jS a1)] 0 .leaf,[])
noncomputable def f56n0(a1:ByteArray):Option f56n0O :=
 bif decide ((a1.size:Int)<1) then
  some (.ret false)
 else
  bif decide (40<(a1.size:Int)) then
   some (.ret false)
  else
   (at? a1.data.toList 0).bind fun x11 =>
   (f71 (x11.toNat:Int)).bind fun x13 =>
   bif x13 then
    (f56n1 a1).bind fun o158=>match o158 with
    | .norm=>some (.ret true)
    | .ret=>some (.ret false)
   else
    some (.ret false)
theorem f56n0_ok(a1:ByteArray){o:f56n0O}(h:f56n0 a1=some o):T Try.prog Try.f56.ntmps 0 c56 (f56n0S a1) (·=f56n0E a1 o):=by
 unfold f56n0 at h;rcases Qh h with ⟨h9,h⟩|⟨h9,h⟩
 ·obtain rfl:=Qe h;exact rK Qf 2 [j3,(jT [4,5,6],[(7,.bool true)],[]),j3] [none] [] [] [2] .ret ((f56n0E a1 (.ret false)).2) (ap4 h9 an) rfl
 ·rcases Qh h with ⟨h10,h⟩|⟨h10,h⟩
  ·obtain rfl:=Qe h;exact rK Qf 2 [j3,(jF [4,5,6]++jT [9,10,11,12],[(7,.bool false),(13,.bool true)],[]),j3] [none] [] [] [2] .ret ((f56n0E a1 (.ret false)).2) (ap4 h9 (ap h10 (ap4 h10 an))) rfl
  ·obtain ⟨x11,h12,h⟩:=Qd h;obtain ⟨x13,h14,h⟩:=Qd h;rcases Qh h with ⟨h15,h⟩|⟨h15,h⟩
   ·refine rN Qf 2 [j3,(jF [4,5,6,9,10,11,12],[(7,.bool false),(10,.byte (Int.toNat 0) x11),jH 11 (jB x13),(13,.bool false)],[])] [some false] [] [] [0] (f56n1S a1) (ap4 h9 (ap2 h10 (ap (Qg h12).1 (ap (Qg h12).2 (ap3 h10 (ap (f71_ok (x11.toNat:Int) h14) (ap (Qaf h15) an))))))) ?_;obtain ⟨o158,h159,h⟩:=Qd h;cases o158 with
    | norm =>
     refine T.oneN (by kernel_rfl) (f56n1_ok a1 h159) (st2:=(f56n1E a1 .norm).2) rfl ?_;obtain rfl:=Qe h;exact rE Qf [j3] [] [] [] [2] (.ret,(f56n0E a1 (.ret true)).2) an rfl
    | ret =>
     obtain rfl:=Qe h;exact T.oneX' (by kernel_rfl) (f56n1_ok a1 h159) (tds:=[]) (m:=[]) (keep:=[2]) (st2:=(f56n0E a1 (.ret false)).2) (by kernel_rfl) an rfl rfl
   ·obtain rfl:=Qe h;exact rK Qf 2 [j3,(jF [4,5,6,9,10,11,12],[(7,.bool false),(10,.byte (Int.toNat 0) x11),jH 11 (jB x13),(13,.bool false)],[]),j3] [some true] [] [] [2] .ret ((f56n0E a1 (.ret false)).2) (ap4 h9 (ap2 h10 (ap (Qg h12).1 (ap (Qg h12).2 (ap3 h10 (ap (f71_ok (x11.toNat:Int) h14) (ap (Qao h15) an))))))) rfl
noncomputable def f56(a1:ByteArray):Option Bool:=(f56n0 a1).bind fun o=>match o with
 | .ret v160=>some v160
theorem f56_ok(a1:ByteArray){r:Bool}(h:f56 a1=some r):Ql Try.prog false 56 [(jS a1)] [] (jB r) []:=by
 unfold f56 at h;obtain ⟨o,ho,h⟩:=Qd h;cases o with
 | ret v160 =>
  obtain rfl:=Qe h;exact Ql.plain Qf (f:=Try.f56) (c:=c56) (by kernel_rfl) (by kernel_rfl) (by kernel_rfl) (by kernel_rfl) ((f56n0_ok a1 ho).mono fun r e=>by subst e; exact ⟨.inl rfl,(jB v160),(jB v160),by kernel_rfl,by kernel_rfl,((Wk.refl _):Wk (jB v160) (jB v160))⟩)

noncomputable def c80:Code:=Try.f80.body.getD .skip
inductive f80n0O where
 | ret
def f80n0E(a1:Int):f80n0O→Ex×Tr×Hp
 | .ret=>(.ret,mkS [(2,(.pl (.bool (!(decide (a1=a1))))))],[])
def f80n0S(a1:Int):Tr×Hp:=(Qaa [(jI a1)] 0 .leaf,[])
noncomputable def f80n0(a1:Int):Option f80n0O :=
 some .ret
theorem f80n0_ok(a1:Int){o:f80n0O}(h:f80n0 a1=some o):T Try.prog Try.f80.ntmps 0 c80 (f80n0S a1) (·=f80n0E a1 o):=by
 unfold f80n0 at h;obtain rfl:=Qe h;exact rE Qf [j3,j3] [] [] [] [2] (.ret,(f80n0E a1 .ret).2) an rfl
noncomputable def f80(a1:Int):Option Bool:=(f80n0 a1).bind fun o=>match o with
 | .ret=>some (!(decide (a1=a1)))
theorem f80_ok(a1:Int){r:Bool}(h:f80 a1=some r):Ql Try.prog false 80 [(jI a1)] [] (jB r) []:=by
 unfold f80 at h;obtain ⟨o,ho,h⟩:=Qd h;cases o with
 | ret =>
  obtain rfl:=Qe h;exact Ql.plain Qf (f:=Try.f80) (c:=c80) (by kernel_rfl) (by kernel_rfl) (by kernel_rfl) (by kernel_rfl) ((f80n0_ok a1 ho).mono fun r e=>by subst e; exact ⟨.inl rfl,(.pl (.bool (!(decide (a1=a1))))),(.pl (.bool (!(decide (a1=a1))))),by kernel_rfl,by kernel_rfl,((Wk.refl _):Wk (.pl (.bool (!(decide (a1=a1))))) (.pl (.bool (!(decide (a1=a1))))))⟩)

noncomputable def c73:Code:=Try.f73.body.getD .skip
inductive f73n0O where
 | ret (v21:Int)
def f73n0E(a1 a2:Int):f73n0O→Ex×Tr×Hp
 | .ret v21=>(.ret,mkS [(4,(jI v21))],[])
def f73n0S(a1 a2:Int):Tr×Hp:=(Qaa [(jI a1),(jI a2)] 0 .leaf,[])
noncomputable def f73n0(a1 a2:Int):Option f73n0O :=
 (f80 a1).bind fun x5 =>
 (f80 a2).bind fun x9 =>
 bif x5 then
  bif x9 then
   some (.ret 0)
  else
   some (.ret (-1))
 else
  bif x9 then
   some (.ret 1)
  else
   bif decide (a1<a2) then
    some (.ret (-1))
   else
    bif decide (a2<a1) then
     some (.ret 1)
    else
     some (.ret 0)
theorem f73n0_ok(a1 a2:Int){o:f73n0O}(h:f73n0 a1 a2=some o):T Try.prog Try.f73.ntmps 0 c73 (f73n0S a1 a2) (·=f73n0E a1 a2 o):=by
 unfold f73n0 at h;obtain ⟨x5,h6,h⟩:=Qd h;obtain ⟨x9,h10,h⟩:=Qd h;rcases Qh h with ⟨h13,h⟩|⟨h13,h⟩
 ·rcases Qh h with ⟨h14,h⟩|⟨h14,h⟩
  ·obtain rfl:=Qe h;exact rK Qf 4 [j3,([],[jH 1 (jB x5)],[]),([],[jH 1 (jB x9)],[]),j3,j3,j3] [some true,some true] [] [] [4] .ret ((f73n0E a1 a2 (.ret 0)).2) (ap (f80_ok a1 h6) (ap (f80_ok a2 h10) (ap h13 (ap h14 an)))) rfl
  ·obtain rfl:=Qe h;exact rK Qf 4 [j3,([],[jH 1 (jB x5)],[]),([],[jH 1 (jB x9)],[]),j3,j3,j3] [some true,some false] [] [] [4] .ret ((f73n0E a1 a2 (.ret (-1))).2) (ap (f80_ok a1 h6) (ap (f80_ok a2 h10) (ap h13 (ap h14 an)))) rfl
 ·rcases Qh h with ⟨h16,h⟩|⟨h16,h⟩
  ·obtain rfl:=Qe h;exact rK Qf 5 [j3,([],[jH 1 (jB x5)],[]),([],[jH 1 (jB x9)],[]),j3,j3,j3] [some false,some true] [] [] [4] .ret ((f73n0E a1 a2 (.ret 1)).2) (ap (f80_ok a1 h6) (ap (f80_ok a2 h10) (ap h13 (ap h16 an)))) rfl
  ·rcases Qh h with ⟨h18,h⟩|⟨h18,h⟩
   ·obtain rfl:=Qe h;exact rK Qf 6 [j3,([],[jH 1 (jB x5)],[]),([],[jH 1 (jB x9)],[]),j3,j3,j3,j3] [some false,some false,some true] [] [] [4] .ret ((f73n0E a1 a2 (.ret (-1))).2) (ap (f80_ok a1 h6) (ap (f80_ok a2 h10) (ap h13 (ap h16 (ap h18 an))))) rfl
   ·rcases Qh h with ⟨h20,h⟩|⟨h20,h⟩
    ·obtain rfl:=Qe h;exact rK Qf 7 [j3,([],[jH 1 (jB x5)],[]),([],[jH 1 (jB x9)],[]),j3,j3,j3,j3,j3] [some false,some false,some false,some true] [] [] [4] .ret ((f73n0E a1 a2 (.ret 1)).2) (ap (f80_ok a1 h6) (ap (f80_ok a2 h10) (ap h13 (ap h16 (ap h18 (ap h20 an)))))) rfl
    ·obtain rfl:=Qe h;exact rE Qf [j3,([],[jH 1 (jB x5)],[]),([],[jH 1 (jB x9)],[]),j3,j3,j3,j3,j3] [some false,some false,some false,some false] [] [] [4] (.ret,(f73n0E a1 a2 (.ret 0)).2) (ap (f80_ok a1 h6) (ap (f80_ok a2 h10) (ap h13 (ap h16 (ap h18 (ap h20 an)))))) rfl
noncomputable def f73(a1 a2:Int):Option Int:=(f73n0 a1 a2).bind fun o=>match o with
 | .ret v21=>some v21
theorem f73_ok(a1 a2:Int){r:Int}(h:f73 a1 a2=some r):Ql Try.prog false 73 [(jI a1),(jI a2)] [] (jI r) []:=by
 unfold f73 at h;obtain ⟨o,ho,h⟩:=Qd h;cases o with
 | ret v21 =>
  obtain rfl:=Qe h;exact Ql.plain Qf (f:=Try.f73) (c:=c73) (by kernel_rfl) (by kernel_rfl) (by kernel_rfl) (by kernel_rfl) ((f73n0_ok a1 a2 ho).mono fun r e=>by subst e; exact ⟨.inl rfl,(jI v21),(jI v21),by kernel_rfl,by kernel_rfl,((Wk.refl _):Wk (jI v21) (jI v21))⟩)

noncomputable def c81:Code:=Try.f81.body.getD .skip
inductive f81n0O where
 | ret
def f81n0E(a1:ByteArray):f81n0O→Ex×Tr×Hp
 | .ret=>(.ret,mkS [(2,(.pl (.bool (!(seq a1 a1)))))],[])
def f81n0S(a1:ByteArray):Tr×Hp:=(Qaa [(jS a1)] 0 .leaf,[])
noncomputable def f81n0(a1:ByteArray):Option f81n0O :=
 some .ret
theorem f81n0_ok(a1:ByteArray){o:f81n0O}(h:f81n0 a1=some o):T Try.prog Try.f81.ntmps 0 c81 (f81n0S a1) (·=f81n0E a1 o):=by
 unfold f81n0 at h;obtain rfl:=Qe h;exact rE Qf [j3,j3] [] [] [] [2] (.ret,(f81n0E a1 .ret).2) an rfl
noncomputable def f81(a1:ByteArray):Option Bool:=(f81n0 a1).bind fun o=>match o with
 | .ret=>some (!(seq a1 a1))
theorem f81_ok(a1:ByteArray){r:Bool}(h:f81 a1=some r):Ql Try.prog false 81 [(jS a1)] [] (jB r) []:=by
 unfold f81 at h;obtain ⟨o,ho,h⟩:=Qd h;cases o with
 | ret =>
  obtain rfl:=Qe h;exact Ql.plain Qf (f:=Try.f81) (c:=c81) (by kernel_rfl) (by kernel_rfl) (by kernel_rfl) (by kernel_rfl) ((f81n0_ok a1 ho).mono fun r e=>by subst e; exact ⟨.inl rfl,(.pl (.bool (!(seq a1 a1)))),(.pl (.bool (!(seq a1 a1)))),by kernel_rfl,by kernel_rfl,((Wk.refl _):Wk (.pl (.bool (!(seq a1 a1)))) (.pl (.bool (!(seq a1 a1)))))⟩)

noncomputable def c74:Code:=Try.f74.body.getD .skip
inductive f74n0O where
 | ret (v21:Int)
def f74n0E(a1 a2:ByteArray):f74n0O→Ex×Tr×Hp
 | .ret v21=>(.ret,mkS [(4,(jI v21))],[])
def f74n0S(a1 a2:ByteArray):Tr×Hp:=(Qaa [(jS a1),(jS a2)] 0 .leaf,[])
noncomputable def f74n0(a1 a2:ByteArray):Option f74n0O :=
 (f81 a1).bind fun x5 =>
 (f81 a2).bind fun x9 =>
 bif x5 then
  bif x9 then
   some (.ret 0)
  else
   some (.ret (-1))
 else
  bif x9 then
   some (.ret 1)
  else
   bif (slt a1 a2) then
    some (.ret (-1))
   else
    bif (slt a1 a2||seq a1 a2) then
     some (.ret 0)
    else
     some (.ret 1)
theorem f74n0_ok(a1 a2:ByteArray){o:f74n0O}(h:f74n0 a1 a2=some o):T Try.prog Try.f74.ntmps 0 c74 (f74n0S a1 a2) (·=f74n0E a1 a2 o):=by
 unfold f74n0 at h;obtain ⟨x5,h6,h⟩:=Qd h;obtain ⟨x9,h10,h⟩:=Qd h;rcases Qh h with ⟨h13,h⟩|⟨h13,h⟩
 ·rcases Qh h with ⟨h14,h⟩|⟨h14,h⟩
  ·obtain rfl:=Qe h;exact rK Qf 4 [j3,([],[jH 1 (jB x5)],[]),([],[jH 1 (jB x9)],[]),j3,j3,j3] [some true,some true] [] [] [4] .ret ((f74n0E a1 a2 (.ret 0)).2) (ap (f81_ok a1 h6) (ap (f81_ok a2 h10) (ap h13 (ap h14 an)))) rfl
  ·obtain rfl:=Qe h;exact rK Qf 4 [j3,([],[jH 1 (jB x5)],[]),([],[jH 1 (jB x9)],[]),j3,j3,j3] [some true,some false] [] [] [4] .ret ((f74n0E a1 a2 (.ret (-1))).2) (ap (f81_ok a1 h6) (ap (f81_ok a2 h10) (ap h13 (ap h14 an)))) rfl
 ·rcases Qh h with ⟨h16,h⟩|⟨h16,h⟩
  ·obtain rfl:=Qe h;exact rK Qf 5 [j3,([],[jH 1 (jB x5)],[]),([],[jH 1 (jB x9)],[]),j3,j3,j3] [some false,some true] [] [] [4] .ret ((f74n0E a1 a2 (.ret 1)).2) (ap (f81_ok a1 h6) (ap (f81_ok a2 h10) (ap h13 (ap h16 an)))) rfl
  ·rcases Qh h with ⟨h18,h⟩|⟨h18,h⟩
   ·obtain rfl:=Qe h;exact rK Qf 6 [j3,([],[jH 1 (jB x5)],[]),([],[jH 1 (jB x9)],[]),j3,j3,j3,j3] [some false,some false,some true] [] [] [4] .ret ((f74n0E a1 a2 (.ret (-1))).2) (ap (f81_ok a1 h6) (ap (f81_ok a2 h10) (ap h13 (ap h16 (ap h18 an))))) rfl
   ·rcases Qh h with ⟨h20,h⟩|⟨h20,h⟩
    ·obtain rfl:=Qe h;exact rE Qf [j3,([],[jH 1 (jB x5)],[]),([],[jH 1 (jB x9)],[]),j3,j3,j3,j3,j3] [some false,some false,some false,some false] [] [] [4] (.ret,(f74n0E a1 a2 (.ret 0)).2) (ap (f81_ok a1 h6) (ap (f81_ok a2 h10) (ap h13 (ap h16 (ap h18 (ap (Qaf h20) an)))))) rfl
    ·obtain rfl:=Qe h;exact rK Qf 7 [j3,([],[jH 1 (jB x5)],[]),([],[jH 1 (jB x9)],[]),j3,j3,j3,j3,j3] [some false,some false,some false,some true] [] [] [4] .ret ((f74n0E a1 a2 (.ret 1)).2) (ap (f81_ok a1 h6) (ap (f81_ok a2 h10) (ap h13 (ap h16 (ap h18 (ap (Qao h20) an)))))) rfl
noncomputable def f74(a1 a2:ByteArray):Option Int:=(f74n0 a1 a2).bind fun o=>match o with
 | .ret v21=>some v21
theorem f74_ok(a1 a2:ByteArray){r:Int}(h:f74 a1 a2=some r):Ql Try.prog false 74 [(jS a1),(jS a2)] [] (jI r) []:=by
 unfold f74 at h;obtain ⟨o,ho,h⟩:=Qd h;cases o with
 | ret v21 =>
  obtain rfl:=Qe h;exact Ql.plain Qf (f:=Try.f74) (c:=c74) (by kernel_rfl) (by kernel_rfl) (by kernel_rfl) (by kernel_rfl) ((f74n0_ok a1 a2 ho).mono fun r e=>by subst e; exact ⟨.inl rfl,(jI v21),(jI v21),by kernel_rfl,by kernel_rfl,((Wk.refl _):Wk (jI v21) (jI v21))⟩)

noncomputable def c72:Code:=Try.f72.body.getD .skip
inductive f72n2O where
 | exit0
 | ret (v28:Int)
def f72n2E(be1:List Int):f72n2O→Ex×Tr×Hp
 | .exit0=>((.exit 0),mkS [(3,(jI 0))],[])
 | .ret v28=>(.ret,mkS [(2,(jI v28))],[])
def f72n2S(be1:List Int)(v19:Int):Tr×Hp:=(mkS [(3,(jI 0)),(6,(.pl (.sl .any 1 (be1.map (cInt .i64))))),(7,(jI (be1.length:Int))),(8,(jI v19))],[])
noncomputable def f72n2:Nat→List Int→Int→Option f72n2O
 | 0,_,_=>none
 | f+1,be1,v19 =>
  bif decide (v19<(be1.length:Int)) then
   (at? be1 v19).bind fun x25 =>
   bif decide (x25=0) then
    (f72n2 f be1 (wr64 (v19+1)))
   else
    some (.ret x25)
  else
   some .exit0
theorem f72n2_ok:∀(f:Nat)(be1:List Int)(v19:Int){o:f72n2O},f72n2 f be1 v19=some o→TL Try.prog Try.f72.ntmps 0 f (cL (cL (Qj 1 (cL (Qj 2 c72))))) (f72n2S be1 v19) (·=f72n2E be1 o)
 | 0,_,_,o,h=>by rw [f72n2] at h; cases h
 | f+1,be1,v19,o,h=>by
  rw [f72n2] at h;refine TL.body (K:=fun s=>∃v19:Int,s=(f72n2S be1 v19)∧f72n2 f be1 v19=some o) ?_ (by rintro _ ⟨v19,rfl,hk⟩; exact f72n2_ok f _ _ hk);rcases Qh h with ⟨h21,h⟩|⟨h21,h⟩
  ·obtain ⟨x25,h26,h⟩:=Qd h;rcases Qh h with ⟨h27,h⟩|⟨h27,h⟩
   ·exact rE Qf [j3,([],[(0,.idx (Int.toNat v19) ((cInt .i64) x25))],[]),j3,j3] [some true,some false] [] [] [3,6,7,8] (.norm,(f72n2S be1 (wr64 (v19+1)))) (ap h21 (ap (Qg h26).1 (ap (Qm (cInt .i64) (Qg h26).2) (ap (Qaf h27) an)))) (Qp.norm ⟨(wr64 (v19+1)),rfl,h⟩)
   ·obtain rfl:=Qe h;exact rK Qf 3 [j3,([],[(0,.idx (Int.toNat v19) ((cInt .i64) x25))],[]),j3,j3] [some true,some true] [] [] [2] .ret ((f72n2E be1 (.ret x25)).2) (ap h21 (ap (Qg h26).1 (ap (Qm (cInt .i64) (Qg h26).2) (ap (Qao h27) an)))) (Qp.out rfl rfl)
  ·obtain rfl:=Qe h;exact rK Qf 2 [j3] [some false] [] [] [3] (.exit 0) ((f72n2E be1 .exit0).2) (ap h21 an) (Qp.out rfl rfl)
noncomputable def f72n2L(be1:List Int):List Int→Int→Option f72n2O
 | [],v19 =>
  some .exit0
 | x0::rest,v19 =>
  bif decide (x0=0) then
   (f72n2L be1 rest (v19+1))
  else
   some (.ret x0)
theorem f72n2L_eq(be1:List Int):∀(rest:List Int)(f k:Nat),be1.drop k=rest→be1.length≤maxLen→rest.length<f→f72n2 f be1 (k:Int)=f72n2L be1 rest (k:Int)
 | _,0,_,_,_,hf=>absurd hf (Nat.not_lt_zero _)
 | [],f+1,k,hd,hm,hf=>by
  have hk:¬((k:Int)<(be1.length:Int)):=by have:=Qcb hd; omega
  rw [f72n2,f72n2L];simp only [decide_eq_false hk,cond_false]
 | x0::rest,f+1,k,hd,hm,hf=>by
  obtain ⟨hx,hlt,hd'⟩:=Qbl hd;have hk:(k:Int)<(be1.length:Int):=by omega
  have hw:wr64 ((k:Int)+1)=(k:Int)+1:=wr64_of (by omega) (by unfold maxLen at hm; omega);have ih:f72n2 f be1 ((k:Int)+1)=f72n2L be1 rest ((k:Int)+1):=f72n2L_eq be1 rest f (k+1) hd' hm (by simpa using hf);rw [f72n2,f72n2L];simp only [decide_eq_true hk,cond_true,at_nat,hx,Option.bind_some,hw,ih]
theorem f72n2_run(be1:List Int)(hm:be1.length≤maxLen):f72n2 FUEL be1 0=f72n2L be1 be1 0:=f72n2L_eq be1 be1 FUEL 0 List.drop_zero hm (Qam hm)
inductive f72n1O where
 | norm
 | ret (v32:Int)
def f72n1E(be1:List Int):f72n1O→Ex×Tr×Hp
 | .norm=>(.norm,mkS [(3,(jI 0))],[])
 | .ret v32=>(.ret,mkS [(2,(jI v32))],[])
def f72n1S(be1:List Int):Tr×Hp:=(mkS [(0,(.pl (.sl .any 1 (be1.map (cInt .i64))))),(3,(jI 0))],[])
noncomputable def f72n1(be1:List Int):Option f72n1O :=
 (f72n2 FUEL be1 0).bind fun o29=>match o29 with
 | .exit0=>some .norm
 | .ret v31=>some (.ret v31)
theorem f72n1_ok(be1:List Int){o:f72n1O}(h:f72n1 be1=some o):T Try.prog Try.f72.ntmps 0 (cL (Qj 2 c72)) (f72n1S be1) (·=f72n1E be1 o):=by
 unfold f72n1 at h;refine rN Qf 1 [([],[],[(1,.val (jI (be1.length:Int)))])] [] [] [] [3,6,7,8] (f72n2S be1 0) (ap (Qx (xs:=be1) (c:=(cInt .i64))) an) ?_;obtain ⟨o29,h30,h⟩:=Qd h;cases o29 with
 | exit0 =>
  obtain rfl:=Qe h;exact T.last' (T.bl (i:=0) (by kernel_rfl) (by kernel_rfl) (f72n2_ok FUEL be1 0 h30)) (tds:=[]) (m:=[]) (keep:=[3]) (st2:=(f72n1E be1 .norm).2) (by kernel_rfl) an rfl
 | ret v31 =>
  obtain rfl:=Qe h;exact T.last' (T.bl (i:=0) (by kernel_rfl) (by kernel_rfl) (f72n2_ok FUEL be1 0 h30)) (tds:=[]) (m:=[]) (keep:=[2]) (st2:=(f72n1E be1 (.ret v31)).2) (by kernel_rfl) an rfl
inductive f72n0O where
 | ret (v36:Int)
def f72n0E(a1:List Int):f72n0O→Ex×Tr×Hp
 | .ret v36=>(.ret,mkS [(2,(jI v36))],[])
def f72n0S(a1:List Int):Tr×Hp:=(Qaa [(.pl (.sl .any 1 (a1.map (cInt .i64))))] 0 .leaf,[])
noncomputable def f72n0(a1:List Int):Option f72n0O :=
 (f72n1 a1).bind fun o33=>match o33 with
 | .norm=>some (.ret 0)
 | .ret v35=>some (.ret v35)
theorem f72n0_ok(a1:List Int){o:f72n0O}(h:f72n0 a1=some o):T Try.prog Try.f72.ntmps 0 c72 (f72n0S a1) (·=f72n0E a1 o):=by
 unfold f72n0 at h;refine rN Qf 2 [j3,j3] [] [] [] [0,3] (f72n1S a1) an ?_;obtain ⟨o33,h34,h⟩:=Qd h;cases o33 with
 | norm =>
  refine T.oneN (by kernel_rfl) (f72n1_ok a1 h34) (st2:=(f72n1E a1 .norm).2) rfl ?_;obtain rfl:=Qe h;exact rE Qf [j3] [] [] [] [2] (.ret,(f72n0E a1 (.ret 0)).2) an rfl
 | ret v35 =>
  obtain rfl:=Qe h;exact T.oneX' (by kernel_rfl) (f72n1_ok a1 h34) (tds:=[]) (m:=[]) (keep:=[2]) (st2:=(f72n0E a1 (.ret v35)).2) (by kernel_rfl) an rfl rfl
noncomputable def f72(a1:List Int):Option Int:=(f72n0 a1).bind fun o=>match o with
 | .ret v36=>some v36
theorem f72_ok(a1:List Int){r:Int}(h:f72 a1=some r):Ql Try.prog false 72 [(.pl (.sl .any 1 (a1.map (cInt .i64))))] [] (jI r) []:=by
 unfold f72 at h;obtain ⟨o,ho,h⟩:=Qd h;cases o with
 | ret v36 =>
  obtain rfl:=Qe h;exact Ql.plain Qf (f:=Try.f72) (c:=c72) (by kernel_rfl) (by kernel_rfl) (by kernel_rfl) (by kernel_rfl) ((f72n0_ok a1 ho).mono fun r e=>by subst e; exact ⟨.inl rfl,(jI v36),(jI v36),by kernel_rfl,by kernel_rfl,((Wk.refl _):Wk (jI v36) (jI v36))⟩)

noncomputable def c57:Code:=Try.f57.body.getD .skip
inductive f57n0O where
 | ret (v15:Int)
def f57n0E(a1 a2:Key_):f57n0O→Ex×Tr×Hp
 | .ret v15=>(.ret,mkS [(4,(jI v15))],[])
def f57n0S(a1 a2:Key_):Tr×Hp:=(Qaa [(jA Key_.cells a1),(jA Key_.cells a2)] 0 .leaf,[])
noncomputable def f57n0(a1 a2:Key_):Option f57n0O :=
 (f73 a1.level a2.level).bind fun x9 =>
 (f74 a1.owner a2.owner).bind fun x11 =>
 (f72 [x9,x11]).bind fun x13 =>
 some (.ret x13)
theorem f57n0_ok(a1 a2:Key_){o:f57n0O}(h:f57n0 a1 a2=some o):T Try.prog Try.f57.ntmps 0 c57 (f57n0S a1 a2) (·=f57n0E a1 a2 o):=by
 unfold f57n0 at h;obtain ⟨x9,h10,h⟩:=Qd h;obtain ⟨x11,h12,h⟩:=Qd h;obtain ⟨x13,h14,h⟩:=Qd h;obtain rfl:=Qe h;exact rE Qf [j3,([],[jH 4 (jI x9),jH 9 (jI x11),jH 11 (jI x13)],[])] [] [] [] [4] (.ret,(f57n0E a1 a2 (.ret x13)).2) (ap (f73_ok a1.level a2.level h10) (ap (f74_ok a1.owner a2.owner h12) (ap (f72_ok [x9,x11] h14) an))) rfl
noncomputable def f57(a1 a2:Key_):Option Int:=(f57n0 a1 a2).bind fun o=>match o with
 | .ret v15=>some v15
theorem f57_ok(a1 a2:Key_){r:Int}(h:f57 a1 a2=some r):Ql Try.prog false 57 [(jA Key_.cells a1),(jA Key_.cells a2)] [] (jI r) []:=by
 unfold f57 at h;obtain ⟨o,ho,h⟩:=Qd h;cases o with
 | ret v15 =>
  obtain rfl:=Qe h;exact Ql.plain Qf (f:=Try.f57) (c:=c57) (by kernel_rfl) (by kernel_rfl) (by kernel_rfl) (by kernel_rfl) ((f57n0_ok a1 a2 ho).mono fun r e=>by subst e; exact ⟨.inl rfl,(jI v15),(jI v15),by kernel_rfl,by kernel_rfl,((Wk.refl _):Wk (jI v15) (jI v15))⟩)

noncomputable def c46:Code:=Try.f46.body.getD .skip
inductive f46_36_37n4O where
 | norm (v233:Bool)
def Qar(ba1:List Qb)(bb2 bb3 bb4 bb5:Int)(bf6:Key_):f46_36_37n4O→Ex×Tr×Hp
 | .norm v233=>(.norm,mkS [(0,(jL 4 Qb.cells ba1)),(1,(.pl (.fn 36))),(2,(.pl (.fn 37))),(3,(jI bb2)),(9,(jI bb3)),(13,(jI bb5)),(17,(jL 4 Qb.cells ba1)),(18,(jI (ba1.length:Int))),(19,(jI bb4)),(68,(jB v233))],[])
def f46_36_37n4S(ba1:List Qb)(bb2 bb3 bb4 bb5:Int)(bf6:Key_):Tr×Hp:=(mkS [(0,(jL 4 Qb.cells ba1)),(1,(.pl (.fn 36))),(2,(.pl (.fn 37))),(3,(jI bb2)),(9,(jI bb3)),(10,(jI bb4)),(12,(.bp 0 0)),(13,(jI bb5)),(17,(jL 4 Qb.cells ba1)),(18,(jI (ba1.length:Int))),(19,(jI bb4))],[some (.box ((Key_.cells bf6).map .pl))])
noncomputable def f46_36_37n4(ba1:List Qb)(bb2 bb3 bb4 bb5:Int)(bf6:Key_):Option f46_36_37n4O :=
 bif decide (bf6.level<0) then
  some (.norm true)
 else
  bif decide (10≤bf6.level) then
   some (.norm true)
  else
   (f56 bf6.owner).bind fun x221 =>
   bif x221 then
    bif decide (bb5<bb2) then
     some (.norm true)
    else
     bif decide (1125899906842624<bb5) then
      some (.norm true)
     else
      bif decide (0<bb4) then
       (at? ba1 (wr64 (bb4-1))).bind fun x227 =>
       (f36 x227).bind fun x229 =>
       (f57 x229 bf6).bind fun x231 =>
       some (.norm (decide (0≤x231)))
      else
       some (.norm false)
   else
    some (.norm true)
theorem f46_36_37n4_ok(ba1:List Qb)(bb2 bb3 bb4 bb5:Int)(bf6:Key_){o:f46_36_37n4O}(h:f46_36_37n4 ba1 bb2 bb3 bb4 bb5 bf6=some o):T Try.prog Try.f46.ntmps 0 (cL (Qj 0 (cL (Qj 2 (cL (cL (Qj 2 (cL (cL (Qj 1 (cL (Qj 3 c46)))))))))))) (f46_36_37n4S ba1 bb2 bb3 bb4 bb5 bf6) (·=Qar ba1 bb2 bb3 bb4 bb5 bf6 o):=by
 unfold f46_36_37n4 at h;rcases Qh h with ⟨h219,h⟩|⟨h219,h⟩
 ·obtain rfl:=Qe h;exact rE Qf [(jT [4,5,6],[(7,.bool true)],[])] [] [] [] [0,1,2,3,9,13,17,18,19,68] (.norm,(Qar ba1 bb2 bb3 bb4 bb5 bf6 (.norm true)).2) (ap4 h219 an) rfl
 ·rcases Qh h with ⟨h220,h⟩|⟨h220,h⟩
  ·obtain rfl:=Qe h;exact rE Qf [(jF [4,5,6]++jT [9,10,11,12],[(7,.bool false),(13,.bool true)],[])] [] [] [] [0,1,2,3,9,13,17,18,19,68] (.norm,(Qar ba1 bb2 bb3 bb4 bb5 bf6 (.norm true)).2) (ap4 h219 (ap h220 (ap4 h220 an))) rfl
  ·obtain ⟨x221,h222,h⟩:=Qd h;rcases Qh h with ⟨h223,h⟩|⟨h223,h⟩
   ·rcases Qh h with ⟨h224,h⟩|⟨h224,h⟩
    ·obtain rfl:=Qe h;exact rE Qf [(jF [4,5,6,9,10,11,12,15,16,17]++jT [20,21],[(7,.bool false),jH 11 (jB x221),(13,.bool false),(18,.bool false),(22,.bool true)],[])] [] [] [] [0,1,2,3,9,13,17,18,19,68] (.norm,(Qar ba1 bb2 bb3 bb4 bb5 bf6 (.norm true)).2) (ap4 h219 (ap h220 (ap4 h220 (ap4 (Qaf h223) (ap3 h224 (ap (f56_ok bf6.owner h222) an)))))) rfl
    ·rcases Qh h with ⟨h225,h⟩|⟨h225,h⟩
     ·obtain rfl:=Qe h;exact rE Qf [(jF [4,5,6,9,10,11,12,15,16,17,20,21]++jT [24,25,26,37],[(7,.bool false),jH 11 (jB x221),(13,.bool false),(18,.bool false),(22,.bool false),(38,.bool true)],[])] [] [] [] [0,1,2,3,9,13,17,18,19,68] (.norm,(Qar ba1 bb2 bb3 bb4 bb5 bf6 (.norm true)).2) (ap4 h219 (ap h220 (ap4 h220 (ap4 (Qaf h223) (ap3 h224 (ap h225 (ap4 h225 (ap (f56_ok bf6.owner h222) an)))))))) rfl
     ·rcases Qh h with ⟨h226,h⟩|⟨h226,h⟩
      ·obtain ⟨x227,h228,h⟩:=Qd h;obtain ⟨x229,h230,h⟩:=Qd h;obtain ⟨x231,h232,h⟩:=Qd h;obtain rfl:=Qe h;exact rE Qf [(jF [4,5,6,9,10,11,12,15,16,17,20,21,24,25,26,37]++jT [27,28,29,30,31,32,33,34,35,36],[(7,.bool false),jH 11 (jB x221),(13,.bool false),(18,.bool false),(22,.bool false),(31,.idx (Int.toNat (wr64 (bb4-1))) (Qb.cells x227)),jH 33 (jA Key_.cells x229),jH 35 (jI x231),(37,.bool true),(38,.bool false)],[])] [] [] [] [0,1,2,3,9,13,17,18,19,68] (.norm,(Qar ba1 bb2 bb3 bb4 bb5 bf6 (.norm (decide (0≤x231)))).2) (ap4 h219 (ap h220 (ap4 h220 (ap4 (Qaf h223) (ap3 h224 (ap3 h225 (ap h226 (ap4 h226 (ap (Qg h228).1 (ap (Qm Qb.cells (Qg h228).2) (ap h226 (ap4 h226 (ap h225 (ap h226 (ap h225 (ap (f56_ok bf6.owner h222) (ap (f36_ok x227 h230) (ap (f57_ok x229 bf6 h232) an)))))))))))))))))) rfl
      ·obtain rfl:=Qe h;exact rE Qf [(jF [4,5,6,9,10,11,12,15,16,17,20,21,24,25,26,27,28,29,30,31,32,33,34,35,36,37],[(7,.bool false),jH 11 (jB x221),(13,.bool false),(18,.bool false),(22,.bool false),(37,.bool false),(38,.bool false)],[])] [] [] [] [0,1,2,3,9,13,17,18,19,68] (.norm,(Qar ba1 bb2 bb3 bb4 bb5 bf6 (.norm false)).2) (ap4 h219 (ap h220 (ap4 h220 (ap4 (Qaf h223) (ap3 h224 (ap3 h225 (ap2 h226 (ap4 h226 (ap4 h226 (ap h225 (ap h226 (ap h225 (ap (f56_ok bf6.owner h222) an))))))))))))) rfl
   ·obtain rfl:=Qe h;exact rE Qf [(jF [4,5,6,9,10,11,12]++jT [15,16,17],[(7,.bool false),jH 11 (jB x221),(13,.bool false),(18,.bool true)],[])] [] [] [] [0,1,2,3,9,13,17,18,19,68] (.norm,(Qar ba1 bb2 bb3 bb4 bb5 bf6 (.norm true)).2) (ap4 h219 (ap h220 (ap4 h220 (ap4 (Qao h223) (ap (f56_ok bf6.owner h222) an))))) rfl
inductive f46_36_37n3O where
 | norm
 | ret
def f46_36_37n3E(ba1:List Qb)(bb2 bb3 bb4 bb5:Int)(bf6:Key_):f46_36_37n3O→Ex×Tr×Hp
 | .norm=>(.norm,mkS [(0,(jL 4 Qb.cells ba1)),(1,(.pl (.fn 36))),(2,(.pl (.fn 37))),(3,(jI bb2)),(9,(jI bb3)),(13,(jI bb5)),(17,(jL 4 Qb.cells ba1)),(18,(jI (ba1.length:Int))),(19,(jI bb4))],[])
 | .ret=>(.ret,mkS [(8,(jB false))],[])
def f46_36_37n3S(ba1:List Qb)(bb2 bb3 bb4 bb5:Int)(bf6:Key_):Tr×Hp:=(mkS [(0,(jL 4 Qb.cells ba1)),(1,(.pl (.fn 36))),(2,(.pl (.fn 37))),(3,(jI bb2)),(9,(jI bb3)),(10,(jI bb4)),(12,(.bp 0 0)),(13,(jI bb5)),(17,(jL 4 Qb.cells ba1)),(18,(jI (ba1.length:Int))),(19,(jI bb4))],[some (.box ((Key_.cells bf6).map .pl))])
noncomputable def f46_36_37n3(ba1:List Qb)(bb2 bb3 bb4 bb5:Int)(bf6:Key_):Option f46_36_37n3O :=
 (f46_36_37n4 ba1 bb2 bb3 bb4 bb5 bf6).bind fun o234=>match o234 with
 | .norm v236=>bif v236 then
   some .ret
  else
   some .norm
theorem f46_36_37n3_ok(ba1:List Qb)(bb2 bb3 bb4 bb5:Int)(bf6:Key_){o:f46_36_37n3O}(h:f46_36_37n3 ba1 bb2 bb3 bb4 bb5 bf6=some o):T Try.prog Try.f46.ntmps 0 (cL (Qj 2 (cL (cL (Qj 2 (cL (cL (Qj 1 (cL (Qj 3 c46)))))))))) (f46_36_37n3S ba1 bb2 bb3 bb4 bb5 bf6) (·=f46_36_37n3E ba1 bb2 bb3 bb4 bb5 bf6 o):=by
 unfold f46_36_37n3 at h;refine rN Qf 0 [] [] [] [0] [0,1,2,3,9,10,12,13,17,18,19] (f46_36_37n4S ba1 bb2 bb3 bb4 bb5 bf6) an ?_;obtain ⟨o234,h235,h⟩:=Qd h;cases o234 with
 | norm v236 =>
  refine T.oneN (by kernel_rfl) (f46_36_37n4_ok ba1 bb2 bb3 bb4 bb5 bf6 h235) (st2:=(Qar ba1 bb2 bb3 bb4 bb5 bf6 (.norm v236)).2) rfl ?_;rcases Qh h with ⟨h238,h⟩|⟨h238,h⟩
  ·obtain rfl:=Qe h;exact rE Qf [j3] [some true] [] [] [8] (.ret,(f46_36_37n3E ba1 bb2 bb3 bb4 bb5 bf6 .ret).2) (ap h238 an) rfl
  ·obtain rfl:=Qe h;exact rE Qf [] [some false] [] [] [0,1,2,3,9,13,17,18,19] (.norm,(f46_36_37n3E ba1 bb2 bb3 bb4 bb5 bf6 .norm).2) (ap h238 an) rfl
inductive f46_36_37n2O where
 | norm (v241:Int)
 | ret
def f46_36_37n2E(ba1:List Qb)(bb2 bb3 bb4:Int):f46_36_37n2O→Ex×Tr×Hp
 | .norm v241=>(.norm,mkS [(0,(jL 4 Qb.cells ba1)),(1,(.pl (.fn 36))),(2,(.pl (.fn 37))),(3,(jI bb2)),(9,(jI v241)),(17,(jL 4 Qb.cells ba1)),(18,(jI (ba1.length:Int))),(19,(jI bb4))],[])
 | .ret=>(.ret,mkS [(8,(jB false))],[])
def f46_36_37n2S(ba1:List Qb)(bb2 bb3 bb4:Int):Tr×Hp:=(mkS [(0,(jL 4 Qb.cells ba1)),(1,(.pl (.fn 36))),(2,(.pl (.fn 37))),(3,(jI bb2)),(9,(jI bb3)),(17,(jL 4 Qb.cells ba1)),(18,(jI (ba1.length:Int))),(19,(jI bb4))],[])
noncomputable def f46_36_37n2(ba1:List Qb)(bb2 bb3 bb4:Int):Option f46_36_37n2O :=
 (at? ba1 bb4).bind fun x166 =>
 (f36 x166).bind fun x172 =>
 (f37 x166).bind fun x174 =>
 (f46_36_37n3 ba1 bb2 bb3 bb4 x174 x172).bind fun o239=>match o239 with
 | .norm=>some (.norm (wr64 (bb3+x174)))
 | .ret=>some .ret
theorem f46_36_37n2_ok(ba1:List Qb)(bb2 bb3 bb4:Int){o:f46_36_37n2O}(h:f46_36_37n2 ba1 bb2 bb3 bb4=some o):T Try.prog Try.f46.ntmps 0 (cL (Qj 2 (cL (cL (Qj 1 (cL (Qj 3 c46))))))) (f46_36_37n2S ba1 bb2 bb3 bb4) (·=f46_36_37n2E ba1 bb2 bb3 bb4 o):=by
 unfold f46_36_37n2 at h;refine T.block' (i:=1) (by kernel_rfl) ?_;obtain ⟨x166,h167,h⟩:=Qd h;obtain ⟨x172,h173,h⟩:=Qd h;obtain ⟨x174,h175,h⟩:=Qd h;refine rN Qf 2 [([],[(1,.idx (Int.toNat bb4) (Qb.cells x166))],[]),([],[jH 2 (jA Key_.cells x172),jH 5 (jI x174)],[])] [] [] [1] [0,1,2,3,9,10,12,13,17,18,19] (f46_36_37n3S ba1 bb2 bb3 bb4 x174 x172) (ap (Qg h167).1 (ap (Qm Qb.cells (Qg h167).2) (ap (f36_ok x166 h173) (ap (f37_ok x166 h175) an)))) ?_;obtain ⟨o239,h240,h⟩:=Qd h;cases o239 with
 | norm =>
  refine T.oneN (by kernel_rfl) (f46_36_37n3_ok ba1 bb2 bb3 bb4 x174 x172 h240) (st2:=(f46_36_37n3E ba1 bb2 bb3 bb4 x174 x172 .norm).2) rfl ?_;obtain rfl:=Qe h;exact rE Qf [j3] [] [] [] [0,1,2,3,9,17,18,19] (.norm,(f46_36_37n2E ba1 bb2 bb3 bb4 (.norm (wr64 (bb3+x174)))).2) an rfl
 | ret =>
  obtain rfl:=Qe h;exact T.oneX' (by kernel_rfl) (f46_36_37n3_ok ba1 bb2 bb3 bb4 x174 x172 h240) (tds:=[]) (m:=[]) (keep:=[8]) (st2:=(f46_36_37n2E ba1 bb2 bb3 bb4 .ret).2) (by kernel_rfl) an rfl rfl
inductive f46_36_37n5O where
 | exit0 (v245:Int)
 | ret
def f46_36_37n5E(ba1:List Qb)(bb2:Int):f46_36_37n5O→Ex×Tr×Hp
 | .exit0 v245=>((.exit 0),mkS [(9,(jI v245))],[])
 | .ret=>(.ret,mkS [(8,(jB false))],[])
def f46_36_37n5S(ba1:List Qb)(bb2 v139 v140:Int):Tr×Hp:=(mkS [(0,(jL 4 Qb.cells ba1)),(1,(.pl (.fn 36))),(2,(.pl (.fn 37))),(3,(jI bb2)),(9,(jI v139)),(17,(jL 4 Qb.cells ba1)),(18,(jI (ba1.length:Int))),(19,(jI v140))],[])
noncomputable def Qbf:Nat→List Qb→Int→Int→Int→Option f46_36_37n5O
 | 0,_,_,_,_=>none
 | f+1,ba1,bb2,v139,v140 =>
  bif decide (v140<(ba1.length:Int)) then
   (f46_36_37n2 ba1 bb2 v139 v140).bind fun o242=>match o242 with
   | .norm v244=>(Qbf f ba1 bb2 v244 (wr64 (v140+1)))
   | .ret=>some .ret
  else
   some (.exit0 v139)
theorem f46_36_37n5_ok:∀(f:Nat)(ba1:List Qb)(bb2 v139 v140:Int){o:f46_36_37n5O},Qbf f ba1 bb2 v139 v140=some o→TL Try.prog Try.f46.ntmps 0 f (cL (cL (Qj 1 (cL (Qj 3 c46))))) (f46_36_37n5S ba1 bb2 v139 v140) (·=f46_36_37n5E ba1 bb2 o)
 | 0,_,_,_,_,o,h=>by rw [Qbf] at h; cases h
 | f+1,ba1,bb2,v139,v140,o,h=>by
  rw [Qbf] at h;refine TL.body (K:=fun s=>∃v139:Int,∃v140:Int,s=(f46_36_37n5S ba1 bb2 v139 v140)∧Qbf f ba1 bb2 v139 v140=some o) ?_ (by rintro _ ⟨v139,v140,rfl,hk⟩; exact f46_36_37n5_ok f _ _ _ _ hk);rcases Qh h with ⟨h142,h⟩|⟨h142,h⟩
  ·refine rN Qf 2 [j3] [some true] [] [] [0,1,2,3,9,17,18,19] (f46_36_37n2S ba1 bb2 v139 v140) (ap h142 an) ?_;obtain ⟨o242,h243,h⟩:=Qd h;cases o242 with
   | norm v244 =>
    refine T.oneN (by kernel_rfl) (f46_36_37n2_ok ba1 bb2 v139 v140 h243) (st2:=(f46_36_37n2E ba1 bb2 v139 v140 (.norm v244)).2) rfl ?_;exact rE Qf [j3] [] [] [] [0,1,2,3,9,17,18,19] (.norm,(f46_36_37n5S ba1 bb2 v244 (wr64 (v140+1)))) an (Qp.norm ⟨v244,(wr64 (v140+1)),rfl,h⟩)
   | ret =>
    obtain rfl:=Qe h;exact T.oneX' (by kernel_rfl) (f46_36_37n2_ok ba1 bb2 v139 v140 h243) (tds:=[]) (m:=[]) (keep:=[8]) (st2:=(f46_36_37n5E ba1 bb2 .ret).2) (by kernel_rfl) an rfl (Qp.out rfl rfl)
  ·obtain rfl:=Qe h;exact rK Qf 2 [j3] [some false] [] [] [9] (.exit 0) ((f46_36_37n5E ba1 bb2 (.exit0 v139)).2) (ap h142 an) (Qp.out rfl rfl)
inductive f46_36_37n1O where
 | norm (v249:Int)
 | ret
def f46_36_37n1E(ba1:List Qb)(bb2:Int):f46_36_37n1O→Ex×Tr×Hp
 | .norm v249=>(.norm,mkS [(9,(jI v249))],[])
 | .ret=>(.ret,mkS [(8,(jB false))],[])
def f46_36_37n1S(ba1:List Qb)(bb2:Int):Tr×Hp:=(mkS [(0,(jL 4 Qb.cells ba1)),(1,(.pl (.fn 36))),(2,(.pl (.fn 37))),(3,(jI bb2)),(9,(jI 0))],[])
noncomputable def f46_36_37n1(ba1:List Qb)(bb2:Int):Option f46_36_37n1O :=
 (Qbf FUEL ba1 bb2 0 0).bind fun o246=>match o246 with
 | .exit0 v248=>some (.norm v248)
 | .ret=>some .ret
theorem f46_36_37n1_ok(ba1:List Qb)(bb2:Int){o:f46_36_37n1O}(h:f46_36_37n1 ba1 bb2=some o):T Try.prog Try.f46.ntmps 0 (cL (Qj 3 c46)) (f46_36_37n1S ba1 bb2) (·=f46_36_37n1E ba1 bb2 o):=by
 unfold f46_36_37n1 at h;refine rN Qf 1 [([],[],[(1,.val (jI (ba1.length:Int)))])] [] [] [] [0,1,2,3,9,17,18,19] (f46_36_37n5S ba1 bb2 0 0) (ap (Qx (xs:=ba1) (c:=Qb.cells)) an) ?_;obtain ⟨o246,h247,h⟩:=Qd h;cases o246 with
 | exit0 v248 =>
  obtain rfl:=Qe h;exact T.last' (T.bl (i:=0) (by kernel_rfl) (by kernel_rfl) (f46_36_37n5_ok FUEL ba1 bb2 0 0 h247)) (tds:=[]) (m:=[]) (keep:=[9]) (st2:=(f46_36_37n1E ba1 bb2 (.norm v248)).2) (by kernel_rfl) an rfl
 | ret =>
  obtain rfl:=Qe h;exact T.last' (T.bl (i:=0) (by kernel_rfl) (by kernel_rfl) (f46_36_37n5_ok FUEL ba1 bb2 0 0 h247)) (tds:=[]) (m:=[]) (keep:=[8]) (st2:=(f46_36_37n1E ba1 bb2 .ret).2) (by kernel_rfl) an rfl
inductive f46_36_37n0O where
 | ret (v253:Bool)
def f46_36_37n0E(a1:List Qb)(a2:Int):f46_36_37n0O→Ex×Tr×Hp
 | .ret v253=>(.ret,mkS [(8,(jB v253))],[])
def f46_36_37n0S(a1:List Qb)(a2:Int):Tr×Hp:=(Qaa [(jL 4 Qb.cells a1),(.pl (.fn 36)),(.pl (.fn 37)),(jI a2)] 0 .leaf,[])
noncomputable def f46_36_37n0(a1:List Qb)(a2:Int):Option f46_36_37n0O :=
 bif decide (100<(a1.length:Int)) then
  some (.ret false)
 else
  (f46_36_37n1 a1 a2).bind fun o250=>match o250 with
  | .norm v252=>some (.ret (decide (v252≤1125899906842624)))
  | .ret=>some (.ret false)
theorem f46_36_37n0_ok(a1:List Qb)(a2:Int){o:f46_36_37n0O}(h:f46_36_37n0 a1 a2=some o):T Try.prog Try.f46.ntmps 0 c46 (f46_36_37n0S a1 a2) (·=f46_36_37n0E a1 a2 o):=by
 unfold f46_36_37n0 at h;rcases Qh h with ⟨h4,h⟩|⟨h4,h⟩
 ·obtain rfl:=Qe h;exact rK Qf 2 [j3,([],[],[(1,.val (jI (a1.length:Int)))]),j3] [some true] [] [] [8] .ret ((f46_36_37n0E a1 a2 (.ret false)).2) (ap (Qx (xs:=a1) (c:=Qb.cells)) (ap h4 an)) rfl
 ·refine rN Qf 3 [j3,([],[],[(1,.val (jI (a1.length:Int)))]),j3] [some false] [] [] [0,1,2,3,9] (f46_36_37n1S a1 a2) (ap (Qx (xs:=a1) (c:=Qb.cells)) (ap h4 an)) ?_;obtain ⟨o250,h251,h⟩:=Qd h;cases o250 with
  | norm v252 =>
   refine T.oneN (by kernel_rfl) (f46_36_37n1_ok a1 a2 h251) (st2:=(f46_36_37n1E a1 a2 (.norm v252)).2) rfl ?_;obtain rfl:=Qe h;exact rE Qf [j3] [] [] [] [8] (.ret,(f46_36_37n0E a1 a2 (.ret (decide (v252≤1125899906842624)))).2) an rfl
  | ret =>
   obtain rfl:=Qe h;exact T.oneX' (by kernel_rfl) (f46_36_37n1_ok a1 a2 h251) (tds:=[]) (m:=[]) (keep:=[8]) (st2:=(f46_36_37n0E a1 a2 (.ret false)).2) (by kernel_rfl) an rfl rfl
noncomputable def f46_36_37(a1:List Qb)(a2:Int):Option Bool:=(f46_36_37n0 a1 a2).bind fun o=>match o with
 | .ret v253=>some v253
theorem f46_36_37_ok(a1:List Qb)(a2:Int){r:Bool}(h:f46_36_37 a1 a2=some r):Ql Try.prog false 46 [(jL 4 Qb.cells a1),(.pl (.fn 36)),(.pl (.fn 37)),(jI a2)] [] (jB r) []:=by
 unfold f46_36_37 at h;obtain ⟨o,ho,h⟩:=Qd h;cases o with
 | ret v253 =>
  obtain rfl:=Qe h;exact Ql.plain Qf (f:=Try.f46) (c:=c46) (by kernel_rfl) (by kernel_rfl) (by kernel_rfl) (by kernel_rfl) ((f46_36_37n0_ok a1 a2 ho).mono fun r e=>by subst e; exact ⟨.inl rfl,(jB v253),(jB v253),by kernel_rfl,by kernel_rfl,((Wk.refl _):Wk (jB v253) (jB v253))⟩)

noncomputable def c23:Code:=Try.f23.body.getD .skip
inductive f23n0O where
 | ret (v8:Int)
def f23n0E(a1:List Qb):f23n0O→Ex×Tr×Hp
 | .ret v8=>(.ret,mkS [(2,(jI v8))],[])
def f23n0S(a1:List Qb):Tr×Hp:=(Qaa [(jL 4 Qb.cells a1)] 0 .leaf,[])
noncomputable def f23n0(a1:List Qb):Option f23n0O :=
 (f46_36_37 a1 0).bind fun x5 =>
 bif x5 then
  some (.ret 0)
 else
  some (.ret 8)
theorem f23n0_ok(a1:List Qb){o:f23n0O}(h:f23n0 a1=some o):T Try.prog Try.f23.ntmps 0 c23 (f23n0S a1) (·=f23n0E a1 o):=by
 unfold f23n0 at h;obtain ⟨x5,h6,h⟩:=Qd h;rcases Qh h with ⟨h7,h⟩|⟨h7,h⟩
 ·obtain rfl:=Qe h;exact rE Qf [j3,([],[jH 1 (jB x5)],[]),j3] [some false] [] [] [2] (.ret,(f23n0E a1 (.ret 0)).2) (ap (f46_36_37_ok a1 0 h6) (ap (Qaf h7) an)) rfl
 ·obtain rfl:=Qe h;exact rK Qf 2 [j3,([],[jH 1 (jB x5)],[]),j3] [some true] [] [] [2] .ret ((f23n0E a1 (.ret 8)).2) (ap (f46_36_37_ok a1 0 h6) (ap (Qao h7) an)) rfl
noncomputable def f23(a1:List Qb):Option Int:=(f23n0 a1).bind fun o=>match o with
 | .ret v8=>some v8
theorem f23_ok(a1:List Qb){r:Int}(h:f23 a1=some r):Ql Try.prog false 23 [(jL 4 Qb.cells a1)] [] (jI r) []:=by
 unfold f23 at h;obtain ⟨o,ho,h⟩:=Qd h;cases o with
 | ret v8 =>
  obtain rfl:=Qe h;exact Ql.plain Qf (f:=Try.f23) (c:=c23) (by kernel_rfl) (by kernel_rfl) (by kernel_rfl) (by kernel_rfl) ((f23n0_ok a1 ho).mono fun r e=>by subst e; exact ⟨.inl rfl,(jI v8),(jI v8),by kernel_rfl,by kernel_rfl,((Wk.refl _):Wk (jI v8) (jI v8))⟩)

noncomputable def c34:Code:=Try.f34.body.getD .skip
inductive f34n0O where
 | ret (v4:Bool)
def f34n0E(a1:Int):f34n0O→Ex×Tr×Hp
 | .ret v4=>(.ret,mkS [(2,(jB v4))],[])
def f34n0S(a1:Int):Tr×Hp:=(Qaa [(jI a1)] 0 .leaf,[])
noncomputable def f34n0(a1:Int):Option f34n0O :=
 bif decide (0≤a1) then
  some (.ret (decide (a1≤1125899906842624)))
 else
  some (.ret false)
theorem f34n0_ok(a1:Int){o:f34n0O}(h:f34n0 a1=some o):T Try.prog Try.f34.ntmps 0 c34 (f34n0S a1) (·=f34n0E a1 o):=by
 unfold f34n0 at h;rcases Qh h with ⟨h3,h⟩|⟨h3,h⟩
 ·obtain rfl:=Qe h;exact rE Qf [j3,([(3,true),(4,true)],[(5,.bool true)],[])] [] [] [] [2] (.ret,(f34n0E a1 (.ret (decide (a1≤1125899906842624)))).2) (ap3 h3 an) rfl
 ·obtain rfl:=Qe h;exact rE Qf [j3,([(3,false),(4,false)],[(5,.bool false)],[])] [] [] [] [2] (.ret,(f34n0E a1 (.ret false)).2) (ap3 h3 an) rfl
noncomputable def f34(a1:Int):Option Bool:=(f34n0 a1).bind fun o=>match o with
 | .ret v4=>some v4
theorem f34_ok(a1:Int){r:Bool}(h:f34 a1=some r):Ql Try.prog false 34 [(jI a1)] [] (jB r) []:=by
 unfold f34 at h;obtain ⟨o,ho,h⟩:=Qd h;cases o with
 | ret v4 =>
  obtain rfl:=Qe h;exact Ql.plain Qf (f:=Try.f34) (c:=c34) (by kernel_rfl) (by kernel_rfl) (by kernel_rfl) (by kernel_rfl) ((f34n0_ok a1 ho).mono fun r e=>by subst e; exact ⟨.inl rfl,(jB v4),(jB v4),by kernel_rfl,by kernel_rfl,((Wk.refl _):Wk (jB v4) (jB v4))⟩)

noncomputable def c54:Code:=Try.f54.body.getD .skip
inductive f54r1n0O where
 | ret
def f54r1n0E(a1:List Qb):f54r1n0O→Ex×Tr×Hp
 | .ret=>(.ret,mkS [(6,(.clo 63 [(.bp 0 0),(.bp 1 0),(.bp 2 0)]))],[some (.box (((cLst 4 Qb.cells) a1).map .pl)),some (.box [(.pl (.fn 36))]),some (.box ((Qaq false).map .pl))])
def f54r1n0S(a1:List Qb):Tr×Hp:=(Qaa [(jL 4 Qb.cells a1),(.pl (.fn 36)),(jB false)] 0 .leaf,[])
noncomputable def f54r1n0(a1:List Qb):Option f54r1n0O :=
 some .ret
theorem f54r1n0_ok(a1:List Qb){o:f54r1n0O}(h:f54r1n0 a1=some o):T Try.prog Try.f54.ntmps 0 c54 (f54r1n0S a1) (·=f54r1n0E a1 o):=by
 unfold f54r1n0 at h;obtain rfl:=Qe h;exact rE Qf [j3,j3] [] [] [0,1,2] [6] (.ret,(f54r1n0E a1 .ret).2) an rfl
noncomputable def f54r1(a1:List Qb):Option Unit:=(f54r1n0 a1).bind fun o=>match o with
 | .ret=>some ()
theorem f54r1_ok(a1:List Qb){r:Unit}(h:f54r1 a1=some r):Ql Try.prog true 54 [(jL 4 Qb.cells a1),(.pl (.fn 36)),(jB false)] [] (.clo 63 [(.bp 0 0),(.bp 1 0),(.bp 2 0)]) [some (.box (((cLst 4 Qb.cells) a1).map .pl)),some (.box [(.pl (.fn 36))]),some (.box ((Qaq false).map .pl))]:=by
 unfold f54r1 at h;obtain ⟨o,ho,h⟩:=Qd h;cases o with
 | ret =>
  obtain rfl:=Qe h;exact Ql.shared Qf (f:=Try.f54) (c:=c54) (by kernel_rfl) (by kernel_rfl) (by kernel_rfl) ((f54r1n0_ok a1 ho).mono fun r e=>by subst e; exact ⟨.inl rfl,by kernel_rfl,by kernel_rfl⟩)

noncomputable def c45:Code:=Try.f45.body.getD .skip
inductive f45_37n2O where
 | exit0 (v36:Int)
def f45_37n2E(ba1:List Qb):f45_37n2O→Ex×Tr×Hp
 | .exit0 v36=>((.exit 0),mkS [(5,(jI v36))],[])
def f45_37n2S(ba1:List Qb)(v24 v25:Int):Tr×Hp:=(mkS [(1,(.pl (.fn 37))),(5,(jI v24)),(8,(jL 4 Qb.cells ba1)),(9,(jI (ba1.length:Int))),(10,(jI v25))],[])
noncomputable def f45_37n2:Nat→List Qb→Int→Int→Option f45_37n2O
 | 0,_,_,_=>none
 | f+1,ba1,v24,v25 =>
  bif decide (v25<(ba1.length:Int)) then
   (at? ba1 v25).bind fun x32 =>
   (f37 x32).bind fun x34 =>
   (f45_37n2 f ba1 (wr64 (v24+x34)) (wr64 (v25+1)))
  else
   some (.exit0 v24)
theorem f45_37n2_ok:∀(f:Nat)(ba1:List Qb)(v24 v25:Int){o:f45_37n2O},f45_37n2 f ba1 v24 v25=some o→TL Try.prog Try.f45.ntmps 0 f (cL (cL (Qj 1 (cL (Qj 2 c45))))) (f45_37n2S ba1 v24 v25) (·=f45_37n2E ba1 o)
 | 0,_,_,_,o,h=>by rw [f45_37n2] at h; cases h
 | f+1,ba1,v24,v25,o,h=>by
  rw [f45_37n2] at h;refine TL.body (K:=fun s=>∃v24:Int,∃v25:Int,s=(f45_37n2S ba1 v24 v25)∧f45_37n2 f ba1 v24 v25=some o) ?_ (by rintro _ ⟨v24,v25,rfl,hk⟩; exact f45_37n2_ok f _ _ _ hk);rcases Qh h with ⟨h27,h⟩|⟨h27,h⟩
  ·obtain ⟨x32,h33,h⟩:=Qd h;obtain ⟨x34,h35,h⟩:=Qd h;exact rE Qf [j3,([],[(0,.idx (Int.toNat v25) (Qb.cells x32))],[]),([],[jH 3 (jI x34)],[]),j3] [some true] [] [] [1,5,8,9,10] (.norm,(f45_37n2S ba1 (wr64 (v24+x34)) (wr64 (v25+1)))) (ap h27 (ap (Qg h33).1 (ap (Qm Qb.cells (Qg h33).2) (ap (f37_ok x32 h35) an)))) (Qp.norm ⟨(wr64 (v24+x34)),(wr64 (v25+1)),rfl,h⟩)
  ·obtain rfl:=Qe h;exact rK Qf 2 [j3] [some false] [] [] [5] (.exit 0) ((f45_37n2E ba1 (.exit0 v24)).2) (ap h27 an) (Qp.out rfl rfl)
noncomputable def f45_37n2L(ba1:List Qb):List Qb→Int→Int→Option f45_37n2O
 | [],v24,v25 =>
  some (.exit0 v24)
 | x0::rest,v24,v25 =>
  (f37 x0).bind fun x34 =>
  (f45_37n2L ba1 rest (wr64 (v24+x34)) (v25+1))
theorem f45_37n2L_eq(ba1:List Qb):∀(rest:List Qb)(f k:Nat)(v24:Int),ba1.drop k=rest→ba1.length≤maxLen→rest.length<f→f45_37n2 f ba1 v24 (k:Int)=f45_37n2L ba1 rest v24 (k:Int)
 | _,0,_,_,_,_,hf=>absurd hf (Nat.not_lt_zero _)
 | [],f+1,k,v24,hd,hm,hf=>by
  have hk:¬((k:Int)<(ba1.length:Int)):=by have:=Qcb hd; omega
  rw [f45_37n2,f45_37n2L];simp only [decide_eq_false hk,cond_false]
 | x0::rest,f+1,k,v24,hd,hm,hf=>by
  obtain ⟨hx,hlt,hd'⟩:=Qbl hd;have hk:(k:Int)<(ba1.length:Int):=by omega
  have hw:wr64 ((k:Int)+1)=(k:Int)+1:=wr64_of (by omega) (by unfold maxLen at hm; omega);have ih:∀(v24:Int),f45_37n2 f ba1 v24 ((k:Int)+1)=f45_37n2L ba1 rest v24 ((k:Int)+1):=fun v24=>f45_37n2L_eq ba1 rest f (k+1) v24 hd' hm (by simpa using hf);rw [f45_37n2,f45_37n2L];simp only [decide_eq_true hk,cond_true,at_nat,hx,Option.bind_some,hw,ih]
theorem f45_37n2_run(ba1:List Qb)(v24:Int)(hm:ba1.length≤maxLen):f45_37n2 FUEL ba1 v24 0=f45_37n2L ba1 ba1 v24 0:=f45_37n2L_eq ba1 ba1 FUEL 0 v24 List.drop_zero hm (Qam hm)
inductive f45_37n1O where
 | norm (v40:Int)
def f45_37n1E(ba1:List Qb):f45_37n1O→Ex×Tr×Hp
 | .norm v40=>(.norm,mkS [(5,(jI v40))],[])
def f45_37n1S(ba1:List Qb):Tr×Hp:=(mkS [(0,(jL 4 Qb.cells ba1)),(1,(.pl (.fn 37))),(5,(jI 0))],[])
noncomputable def f45_37n1(ba1:List Qb):Option f45_37n1O :=
 (f45_37n2 FUEL ba1 0 0).bind fun o37=>match o37 with
 | .exit0 v39=>some (.norm v39)
theorem f45_37n1_ok(ba1:List Qb){o:f45_37n1O}(h:f45_37n1 ba1=some o):T Try.prog Try.f45.ntmps 0 (cL (Qj 2 c45)) (f45_37n1S ba1) (·=f45_37n1E ba1 o):=by
 unfold f45_37n1 at h;refine rN Qf 1 [([],[],[(1,.val (jI (ba1.length:Int)))])] [] [] [] [1,5,8,9,10] (f45_37n2S ba1 0 0) (ap (Qx (xs:=ba1) (c:=Qb.cells)) an) ?_;obtain ⟨o37,h38,h⟩:=Qd h;cases o37 with
 | exit0 v39 =>
  obtain rfl:=Qe h;exact T.last' (T.bl (i:=0) (by kernel_rfl) (by kernel_rfl) (f45_37n2_ok FUEL ba1 0 0 h38)) (tds:=[]) (m:=[]) (keep:=[5]) (st2:=(f45_37n1E ba1 (.norm v39)).2) (by kernel_rfl) an rfl
inductive f45_37n0O where
 | ret (v44:Int)
def f45_37n0E(a1:List Qb):f45_37n0O→Ex×Tr×Hp
 | .ret v44=>(.ret,mkS [(4,(jI v44))],[])
def f45_37n0S(a1:List Qb):Tr×Hp:=(Qaa [(jL 4 Qb.cells a1),(.pl (.fn 37))] 0 .leaf,[])
noncomputable def f45_37n0(a1:List Qb):Option f45_37n0O :=
 (f45_37n1 a1).bind fun o41=>match o41 with
 | .norm v43=>some (.ret v43)
theorem f45_37n0_ok(a1:List Qb){o:f45_37n0O}(h:f45_37n0 a1=some o):T Try.prog Try.f45.ntmps 0 c45 (f45_37n0S a1) (·=f45_37n0E a1 o):=by
 unfold f45_37n0 at h;refine rN Qf 2 [j3,j3] [] [] [] [0,1,5] (f45_37n1S a1) an ?_;obtain ⟨o41,h42,h⟩:=Qd h;cases o41 with
 | norm v43 =>
  refine T.oneN (by kernel_rfl) (f45_37n1_ok a1 h42) (st2:=(f45_37n1E a1 (.norm v43)).2) rfl ?_;obtain rfl:=Qe h;exact rE Qf [j3] [] [] [] [4] (.ret,(f45_37n0E a1 (.ret v43)).2) an rfl
noncomputable def f45_37(a1:List Qb):Option Int:=(f45_37n0 a1).bind fun o=>match o with
 | .ret v44=>some v44
theorem f45_37_ok(a1:List Qb){r:Int}(h:f45_37 a1=some r):Ql Try.prog false 45 [(jL 4 Qb.cells a1),(.pl (.fn 37))] [] (jI r) []:=by
 unfold f45_37 at h;obtain ⟨o,ho,h⟩:=Qd h;cases o with
 | ret v44 =>
  obtain rfl:=Qe h;exact Ql.plain Qf (f:=Try.f45) (c:=c45) (by kernel_rfl) (by kernel_rfl) (by kernel_rfl) (by kernel_rfl) ((f45_37n0_ok a1 ho).mono fun r e=>by subst e; exact ⟨.inl rfl,(jI v44),(jI v44),by kernel_rfl,by kernel_rfl,((Wk.refl _):Wk (jI v44) (jI v44))⟩)

noncomputable def c65:Code:=Try.f65.body.getD .skip
inductive f65n0O where
 | ret
def f65n0E(a1:Int):f65n0O→Ex×Tr×Hp
 | .ret=>(.ret,mkS [(2,(jI a1))],[])
def f65n0S(a1:Int):Tr×Hp:=(Qaa [(jI a1)] 0 .leaf,[])
noncomputable def f65n0(a1:Int):Option f65n0O :=
 some .ret
theorem f65n0_ok(a1:Int){o:f65n0O}(h:f65n0 a1=some o):T Try.prog Try.f65.ntmps 0 c65 (f65n0S a1) (·=f65n0E a1 o):=by
 unfold f65n0 at h;obtain rfl:=Qe h;exact rE Qf [j3,j3] [] [] [] [2] (.ret,(f65n0E a1 .ret).2) an rfl
noncomputable def f65(a1:Int):Option Int:=(f65n0 a1).bind fun o=>match o with
 | .ret=>some a1
theorem f65_ok(a1:Int){r:Int}(h:f65 a1=some r):Ql Try.prog false 65 [(jI a1)] [] (jI r) []:=by
 unfold f65 at h;obtain ⟨o,ho,h⟩:=Qd h;cases o with
 | ret =>
  obtain rfl:=Qe h;exact Ql.plain Qf (f:=Try.f65) (c:=c65) (by kernel_rfl) (by kernel_rfl) (by kernel_rfl) (by kernel_rfl) ((f65n0_ok a1 ho).mono fun r e=>by subst e; exact ⟨.inl rfl,(jI a1),(jI a1),by kernel_rfl,by kernel_rfl,((Wk.refl _):Wk (jI a1) (jI a1))⟩)

noncomputable def c64:Code:=Try.f64.body.getD .skip
inductive f64_65n2O where
 | exit0 (v36:Int)
def f64_65n2E(be1:List Int):f64_65n2O→Ex×Tr×Hp
 | .exit0 v36=>((.exit 0),mkS [(5,(jI v36))],[])
def f64_65n2S(be1:List Int)(v24 v25:Int):Tr×Hp:=(mkS [(1,(.pl (.fn 65))),(5,(jI v24)),(8,(.pl (.sl .any 1 (be1.map (cInt .i64))))),(9,(jI (be1.length:Int))),(10,(jI v25))],[])
noncomputable def f64_65n2:Nat→List Int→Int→Int→Option f64_65n2O
 | 0,_,_,_=>none
 | f+1,be1,v24,v25 =>
  bif decide (v25<(be1.length:Int)) then
   (at? be1 v25).bind fun x32 =>
   (f65 x32).bind fun x34 =>
   (f64_65n2 f be1 (wr64 (v24+x34)) (wr64 (v25+1)))
  else
   some (.exit0 v24)
theorem f64_65n2_ok:∀(f:Nat)(be1:List Int)(v24 v25:Int){o:f64_65n2O},f64_65n2 f be1 v24 v25=some o→TL Try.prog Try.f64.ntmps 0 f (cL (cL (Qj 1 (cL (Qj 2 c64))))) (f64_65n2S be1 v24 v25) (·=f64_65n2E be1 o)
 | 0,_,_,_,o,h=>by rw [f64_65n2] at h; cases h
 | f+1,be1,v24,v25,o,h=>by
  rw [f64_65n2] at h;refine TL.body (K:=fun s=>∃v24:Int,∃v25:Int,s=(f64_65n2S be1 v24 v25)∧f64_65n2 f be1 v24 v25=some o) ?_ (by rintro _ ⟨v24,v25,rfl,hk⟩; exact f64_65n2_ok f _ _ _ hk);rcases Qh h with ⟨h27,h⟩|⟨h27,h⟩
  ·obtain ⟨x32,h33,h⟩:=Qd h;obtain ⟨x34,h35,h⟩:=Qd h;exact rE Qf [j3,([],[(0,.idx (Int.toNat v25) ((cInt .i64) x32))],[]),([],[jH 3 (jI x34)],[]),j3] [some true] [] [] [1,5,8,9,10] (.norm,(f64_65n2S be1 (wr64 (v24+x34)) (wr64 (v25+1)))) (ap h27 (ap (Qg h33).1 (ap (Qm (cInt .i64) (Qg h33).2) (ap (f65_ok x32 h35) an)))) (Qp.norm ⟨(wr64 (v24+x34)),(wr64 (v25+1)),rfl,h⟩)
  ·obtain rfl:=Qe h;exact rK Qf 2 [j3] [some false] [] [] [5] (.exit 0) ((f64_65n2E be1 (.exit0 v24)).2) (ap h27 an) (Qp.out rfl rfl)
noncomputable def f64_65n2L(be1:List Int):List Int→Int→Int→Option f64_65n2O
 | [],v24,v25 =>
  some (.exit0 v24)
 | x0::rest,v24,v25 =>
  (f65 x0).bind fun x34 =>
  (f64_65n2L be1 rest (wr64 (v24+x34)) (v25+1))
theorem f64_65n2L_eq(be1:List Int):∀(rest:List Int)(f k:Nat)(v24:Int),be1.drop k=rest→be1.length≤maxLen→rest.length<f→f64_65n2 f be1 v24 (k:Int)=f64_65n2L be1 rest v24 (k:Int)
 | _,0,_,_,_,_,hf=>absurd hf (Nat.not_lt_zero _)
 | [],f+1,k,v24,hd,hm,hf=>by
  have hk:¬((k:Int)<(be1.length:Int)):=by have:=Qcb hd; omega
  rw [f64_65n2,f64_65n2L];simp only [decide_eq_false hk,cond_false]
 | x0::rest,f+1,k,v24,hd,hm,hf=>by
  obtain ⟨hx,hlt,hd'⟩:=Qbl hd;have hk:(k:Int)<(be1.length:Int):=by omega
  have hw:wr64 ((k:Int)+1)=(k:Int)+1:=wr64_of (by omega) (by unfold maxLen at hm; omega);have ih:∀(v24:Int),f64_65n2 f be1 v24 ((k:Int)+1)=f64_65n2L be1 rest v24 ((k:Int)+1):=fun v24=>f64_65n2L_eq be1 rest f (k+1) v24 hd' hm (by simpa using hf);rw [f64_65n2,f64_65n2L];simp only [decide_eq_true hk,cond_true,at_nat,hx,Option.bind_some,hw,ih]
theorem f64_65n2_run(be1:List Int)(v24:Int)(hm:be1.length≤maxLen):f64_65n2 FUEL be1 v24 0=f64_65n2L be1 be1 v24 0:=f64_65n2L_eq be1 be1 FUEL 0 v24 List.drop_zero hm (Qam hm)
inductive f64_65n1O where
 | norm (v40:Int)
def f64_65n1E(be1:List Int):f64_65n1O→Ex×Tr×Hp
 | .norm v40=>(.norm,mkS [(5,(jI v40))],[])
def f64_65n1S(be1:List Int):Tr×Hp:=(mkS [(0,(.pl (.sl .any 1 (be1.map (cInt .i64))))),(1,(.pl (.fn 65))),(5,(jI 0))],[])
noncomputable def f64_65n1(be1:List Int):Option f64_65n1O :=
 (f64_65n2 FUEL be1 0 0).bind fun o37=>match o37 with
 | .exit0 v39=>some (.norm v39)
theorem f64_65n1_ok(be1:List Int){o:f64_65n1O}(h:f64_65n1 be1=some o):T Try.prog Try.f64.ntmps 0 (cL (Qj 2 c64)) (f64_65n1S be1) (·=f64_65n1E be1 o):=by
 unfold f64_65n1 at h;refine rN Qf 1 [([],[],[(1,.val (jI (be1.length:Int)))])] [] [] [] [1,5,8,9,10] (f64_65n2S be1 0 0) (ap (Qx (xs:=be1) (c:=(cInt .i64))) an) ?_;obtain ⟨o37,h38,h⟩:=Qd h;cases o37 with
 | exit0 v39 =>
  obtain rfl:=Qe h;exact T.last' (T.bl (i:=0) (by kernel_rfl) (by kernel_rfl) (f64_65n2_ok FUEL be1 0 0 h38)) (tds:=[]) (m:=[]) (keep:=[5]) (st2:=(f64_65n1E be1 (.norm v39)).2) (by kernel_rfl) an rfl
inductive f64_65n0O where
 | ret (v44:Int)
def f64_65n0E(a1:List Int):f64_65n0O→Ex×Tr×Hp
 | .ret v44=>(.ret,mkS [(4,(jI v44))],[])
def f64_65n0S(a1:List Int):Tr×Hp:=(Qaa [(.pl (.sl .any 1 (a1.map (cInt .i64)))),(.pl (.fn 65))] 0 .leaf,[])
noncomputable def f64_65n0(a1:List Int):Option f64_65n0O :=
 (f64_65n1 a1).bind fun o41=>match o41 with
 | .norm v43=>some (.ret v43)
theorem f64_65n0_ok(a1:List Int){o:f64_65n0O}(h:f64_65n0 a1=some o):T Try.prog Try.f64.ntmps 0 c64 (f64_65n0S a1) (·=f64_65n0E a1 o):=by
 unfold f64_65n0 at h;refine rN Qf 2 [j3,j3] [] [] [] [0,1,5] (f64_65n1S a1) an ?_;obtain ⟨o41,h42,h⟩:=Qd h;cases o41 with
 | norm v43 =>
  refine T.oneN (by kernel_rfl) (f64_65n1_ok a1 h42) (st2:=(f64_65n1E a1 (.norm v43)).2) rfl ?_;obtain rfl:=Qe h;exact rE Qf [j3] [] [] [] [4] (.ret,(f64_65n0E a1 (.ret v43)).2) an rfl
noncomputable def f64_65(a1:List Int):Option Int:=(f64_65n0 a1).bind fun o=>match o with
 | .ret v44=>some v44
theorem f64_65_ok(a1:List Int){r:Int}(h:f64_65 a1=some r):Ql Try.prog false 64 [(.pl (.sl .any 1 (a1.map (cInt .i64)))),(.pl (.fn 65))] [] (jI r) []:=by
 unfold f64_65 at h;obtain ⟨o,ho,h⟩:=Qd h;cases o with
 | ret v44 =>
  obtain rfl:=Qe h;exact Ql.plain Qf (f:=Try.f64) (c:=c64) (by kernel_rfl) (by kernel_rfl) (by kernel_rfl) (by kernel_rfl) ((f64_65n0_ok a1 ho).mono fun r e=>by subst e; exact ⟨.inl rfl,(jI v44),(jI v44),by kernel_rfl,by kernel_rfl,((Wk.refl _):Wk (jI v44) (jI v44))⟩)

noncomputable def c66:Code:=Try.f66.body.getD .skip
inductive f66n0O where
 | ret
def f66n0E(a1 a2:Int):f66n0O→Ex×Tr×Hp
 | .ret=>(.ret,mkS [(4,(.pl (.int .u64 (Qi ((Qi ((Qi ((shrK .u64 a1 32)*(shrK .u64 a2 32)))+(shrK .u64 (Qi ((Qi ((shrK .u64 a1 32)*(andU a2 4294967295)))+(shrK .u64 (Qi ((andU a1 4294967295)*(andU a2 4294967295))) 32))) 32)))+(shrK .u64 (Qi ((andU (Qi ((Qi ((shrK .u64 a1 32)*(andU a2 4294967295)))+(shrK .u64 (Qi ((andU a1 4294967295)*(andU a2 4294967295))) 32))) 4294967295)+(Qi ((andU a1 4294967295)*(shrK .u64 a2 32))))) 32)))))),(5,(.pl (.int .u64 (Qi (a1*a2)))))],[])
def f66n0S(a1 a2:Int):Tr×Hp:=(Qaa [(.pl (.int .u64 a1)),(.pl (.int .u64 a2))] 0 .leaf,[])
noncomputable def f66n0(a1 a2:Int):Option f66n0O :=
 some .ret
theorem f66n0_ok(a1 a2:Int){o:f66n0O}(h:f66n0 a1 a2=some o):T Try.prog Try.f66.ntmps 0 c66 (f66n0S a1 a2) (·=f66n0E a1 a2 o):=by
 unfold f66n0 at h;obtain rfl:=Qe h;exact rE Qf [j3,j3,j3,j3,j3,j3,j3,j3,j3,j3,j3,j3] [] [] [] [4,5] (.ret,(f66n0E a1 a2 .ret).2) an rfl
noncomputable def f66(a1 a2:Int):Option (Int×Int):=(f66n0 a1 a2).bind fun o=>match o with
 | .ret=>some ((Qi ((Qi ((Qi ((shrK .u64 a1 32)*(shrK .u64 a2 32)))+(shrK .u64 (Qi ((Qi ((shrK .u64 a1 32)*(andU a2 4294967295)))+(shrK .u64 (Qi ((andU a1 4294967295)*(andU a2 4294967295))) 32))) 32)))+(shrK .u64 (Qi ((andU (Qi ((Qi ((shrK .u64 a1 32)*(andU a2 4294967295)))+(shrK .u64 (Qi ((andU a1 4294967295)*(andU a2 4294967295))) 32))) 4294967295)+(Qi ((andU a1 4294967295)*(shrK .u64 a2 32))))) 32))),(Qi (a1*a2)))
theorem f66_ok(a1 a2:Int){r:Int×Int}(h:f66 a1 a2=some r):Ql Try.prog false 66 [(.pl (.int .u64 a1)),(.pl (.int .u64 a2))] [] (.tup [(.pl (.int .u64 r.1)),(.pl (.int .u64 r.2))]) []:=by
 unfold f66 at h;obtain ⟨o,ho,h⟩:=Qd h;cases o with
 | ret =>
  obtain rfl:=Qe h
  exact Ql.plain Qf (f:=Try.f66) (c:=c66) (by kernel_rfl) (by kernel_rfl) (by kernel_rfl) (by kernel_rfl) ((f66n0_ok a1 a2 ho).mono fun r e=>by subst e; exact ⟨.inl rfl,(.tup [(.pl (.int .u64 (Qi ((Qi ((Qi ((shrK .u64 a1 32)*(shrK .u64 a2 32)))+(shrK .u64 (Qi ((Qi ((shrK .u64 a1 32)*(andU a2 4294967295)))+(shrK .u64 (Qi ((andU a1 4294967295)*(andU a2 4294967295))) 32))) 32)))+(shrK .u64 (Qi ((andU (Qi ((Qi ((shrK .u64 a1 32)*(andU a2 4294967295)))+(shrK .u64 (Qi ((andU a1 4294967295)*(andU a2 4294967295))) 32))) 4294967295)+(Qi ((andU a1 4294967295)*(shrK .u64 a2 32))))) 32))))),(.pl (.int .u64 (Qi (a1*a2))))]),(.tup [(.pl (.int .u64 (Qi ((Qi ((Qi ((shrK .u64 a1 32)*(shrK .u64 a2 32)))+(shrK .u64 (Qi ((Qi ((shrK .u64 a1 32)*(andU a2 4294967295)))+(shrK .u64 (Qi ((andU a1 4294967295)*(andU a2 4294967295))) 32))) 32)))+(shrK .u64 (Qi ((andU (Qi ((Qi ((shrK .u64 a1 32)*(andU a2 4294967295)))+(shrK .u64 (Qi ((andU a1 4294967295)*(andU a2 4294967295))) 32))) 4294967295)+(Qi ((andU a1 4294967295)*(shrK .u64 a2 32))))) 32))))),(.pl (.int .u64 (Qi (a1*a2))))]),by kernel_rfl,by kernel_rfl,((Wk.refl _):Wk (.tup [(.pl (.int .u64 (Qi ((Qi ((Qi ((shrK .u64 a1 32)*(shrK .u64 a2 32)))+(shrK .u64 (Qi ((Qi ((shrK .u64 a1 32)*(andU a2 4294967295)))+(shrK .u64 (Qi ((andU a1 4294967295)*(andU a2 4294967295))) 32))) 32)))+(shrK .u64 (Qi ((andU (Qi ((Qi ((shrK .u64 a1 32)*(andU a2 4294967295)))+(shrK .u64 (Qi ((andU a1 4294967295)*(andU a2 4294967295))) 32))) 4294967295)+(Qi ((andU a1 4294967295)*(shrK .u64 a2 32))))) 32))))),(.pl (.int .u64 (Qi (a1*a2))))]) (.tup [(.pl (.int .u64 (Qi ((Qi ((Qi ((shrK .u64 a1 32)*(shrK .u64 a2 32)))+(shrK .u64 (Qi ((Qi ((shrK .u64 a1 32)*(andU a2 4294967295)))+(shrK .u64 (Qi ((andU a1 4294967295)*(andU a2 4294967295))) 32))) 32)))+(shrK .u64 (Qi ((andU (Qi ((Qi ((shrK .u64 a1 32)*(andU a2 4294967295)))+(shrK .u64 (Qi ((andU a1 4294967295)*(andU a2 4294967295))) 32))) 4294967295)+(Qi ((andU a1 4294967295)*(shrK .u64 a2 32))))) 32))))),(.pl (.int .u64 (Qi (a1*a2))))]))⟩)

noncomputable def c82:Code:=Try.f82.body.getD .skip
inductive f82n1O where
 | norm (v5:Int) (v6:Int)
def f82n1E(bb1:Int):f82n1O→Ex×Tr×Hp
 | .norm v5 v6=>(.norm,mkS [(0,(.pl (.int .u64 v5))),(2,(jI v6))],[])
def f82n1S(bb1:Int):Tr×Hp:=(mkS [(0,(.pl (.int .u64 bb1))),(2,(jI 0))],[])
noncomputable def f82n1(bb1:Int):Option f82n1O :=
 bif decide (4294967296≤bb1) then
  some (.norm (shrK .u64 bb1 32) 32)
 else
  some (.norm bb1 0)
theorem f82n1_ok(bb1:Int){o:f82n1O}(h:f82n1 bb1=some o):T Try.prog Try.f82.ntmps 0 (cL (Qj 1 c82)) (f82n1S bb1) (·=f82n1E bb1 o):=by
 unfold f82n1 at h;rcases Qh h with ⟨h4,h⟩|⟨h4,h⟩
 ·obtain rfl:=Qe h;exact rE Qf [j3,j3,j3] [some true] [] [] [0,2] (.norm,(f82n1E bb1 (.norm (shrK .u64 bb1 32) 32)).2) (ap h4 an) rfl
 ·obtain rfl:=Qe h;exact rE Qf [j3] [some false] [] [] [0,2] (.norm,(f82n1E bb1 (.norm bb1 0)).2) (ap h4 an) rfl
inductive f82n2O where
 | norm (v14:Int) (v15:Int)
def f82n2E(bb1 bb2:Int):f82n2O→Ex×Tr×Hp
 | .norm v14 v15=>(.norm,mkS [(0,(.pl (.int .u64 v14))),(2,(jI v15))],[])
def f82n2S(bb1 bb2:Int):Tr×Hp:=(mkS [(0,(.pl (.int .u64 bb1))),(2,(jI bb2))],[])
noncomputable def f82n2(bb1 bb2:Int):Option f82n2O :=
 bif decide (65536≤bb1) then
  some (.norm (shrK .u64 bb1 16) (wr64 (bb2+16)))
 else
  some (.norm bb1 bb2)
theorem f82n2_ok(bb1 bb2:Int){o:f82n2O}(h:f82n2 bb1 bb2=some o):T Try.prog Try.f82.ntmps 0 (cL (Qj 0 (Qj 1 (Qj 1 c82)))) (f82n2S bb1 bb2) (·=f82n2E bb1 bb2 o):=by
 unfold f82n2 at h;rcases Qh h with ⟨h13,h⟩|⟨h13,h⟩
 ·obtain rfl:=Qe h;exact rE Qf [j3,j3,j3] [some true] [] [] [0,2] (.norm,(f82n2E bb1 bb2 (.norm (shrK .u64 bb1 16) (wr64 (bb2+16)))).2) (ap h13 an) rfl
 ·obtain rfl:=Qe h;exact rE Qf [j3] [some false] [] [] [0,2] (.norm,(f82n2E bb1 bb2 (.norm bb1 bb2)).2) (ap h13 an) rfl
inductive f82n0O where
 | ret (v30:Int)
def f82n0E(a1:Int):f82n0O→Ex×Tr×Hp
 | .ret v30=>(.ret,mkS [(2,(jI v30))],[])
def f82n0S(a1:Int):Tr×Hp:=(Qaa [(.pl (.int .u64 a1))] 0 .leaf,[])
noncomputable def f82n0(a1:Int):Option f82n0O :=
 (f82n1 a1).bind fun o7=>match o7 with
 | .norm v9 v10=>(f82n2 v9 v10).bind fun o16=>match o16 with
  | .norm v18 v19=>bif decide (256≤v18) then
    (at? Qc.data.toList (wru8 (shrK .u64 v18 8))).bind fun x24 =>
    some (.ret (wr64 ((wr64 (v19+8))+(wr64 (x24.toNat:Int)))))
   else
    (at? Qc.data.toList (wru8 v18)).bind fun x28 =>
    some (.ret (wr64 (v19+(wr64 (x28.toNat:Int)))))
theorem f82n0_ok(a1:Int){o:f82n0O}(h:f82n0 a1=some o):T Try.prog Try.f82.ntmps 0 c82 (f82n0S a1) (·=f82n0E a1 o):=by
 unfold f82n0 at h;refine rN Qf 1 [j3] [] [] [] [0,2] (f82n1S a1) an ?_;obtain ⟨o7,h8,h⟩:=Qd h;cases o7 with
 | norm v9 v10 =>
  refine T.oneN (by kernel_rfl) (f82n1_ok a1 h8) (st2:=(f82n1E a1 (.norm v9 v10)).2) rfl ?_;refine rN Qf 0 [] [] [] [] [0,2] (f82n2S v9 v10) an ?_;obtain ⟨o16,h17,h⟩:=Qd h;cases o16 with
  | norm v18 v19 =>
   refine T.oneN (by kernel_rfl) (f82n2_ok v9 v10 h17) (st2:=(f82n2E v9 v10 (.norm v18 v19)).2) rfl ?_;rcases Qh h with ⟨h21,h⟩|⟨h21,h⟩
   ·obtain ⟨x24,h25,h⟩:=Qd h;obtain rfl:=Qe h;exact rE Qf [j3,j3,j3,([],[(3,.byte (Int.toNat (wru8 (shrK .u64 v18 8))) x24)],[])] [some true] [] [] [2] (.ret,(f82n0E a1 (.ret (wr64 ((wr64 (v19+8))+(wr64 (x24.toNat:Int)))))).2) (ap h21 (ap (Qg h25).1 (ap (Qg h25).2 an))) rfl
   ·obtain ⟨x28,h29,h⟩:=Qd h;obtain rfl:=Qe h;exact rE Qf [j3,([],[(3,.byte (Int.toNat (wru8 v18)) x28)],[])] [some false] [] [] [2] (.ret,(f82n0E a1 (.ret (wr64 (v19+(wr64 (x28.toNat:Int)))))).2) (ap h21 (ap (Qg h29).1 (ap (Qg h29).2 an))) rfl
noncomputable def f82(a1:Int):Option Int:=(f82n0 a1).bind fun o=>match o with
 | .ret v30=>some v30
theorem f82_ok(a1:Int){r:Int}(h:f82 a1=some r):Ql Try.prog false 82 [(.pl (.int .u64 a1))] [] (jI r) []:=by
 unfold f82 at h;obtain ⟨o,ho,h⟩:=Qd h;cases o with
 | ret v30 =>
  obtain rfl:=Qe h;exact Ql.plain Qf (f:=Try.f82) (c:=c82) (by kernel_rfl) (by kernel_rfl) (by kernel_rfl) (by kernel_rfl) ((f82n0_ok a1 ho).mono fun r e=>by subst e; exact ⟨.inl rfl,(jI v30),(jI v30),by kernel_rfl,by kernel_rfl,((Wk.refl _):Wk (jI v30) (jI v30))⟩)

noncomputable def c77:Code:=Try.f77.body.getD .skip
inductive f77n0O where
 | ret (v6:Int)
def f77n0E(a1:Int):f77n0O→Ex×Tr×Hp
 | .ret v6=>(.ret,mkS [(2,(jI v6))],[])
def f77n0S(a1:Int):Tr×Hp:=(Qaa [(.pl (.int .u64 a1))] 0 .leaf,[])
noncomputable def f77n0(a1:Int):Option f77n0O :=
 (f82 a1).bind fun x4 =>
 some (.ret (wr64 (64-x4)))
theorem f77n0_ok(a1:Int){o:f77n0O}(h:f77n0 a1=some o):T Try.prog Try.f77.ntmps 0 c77 (f77n0S a1) (·=f77n0E a1 o):=by
 unfold f77n0 at h;obtain ⟨x4,h5,h⟩:=Qd h;obtain rfl:=Qe h;exact rE Qf [j3,([],[jH 1 (jI x4)],[])] [] [] [] [2] (.ret,(f77n0E a1 (.ret (wr64 (64-x4)))).2) (ap (f82_ok a1 h5) an) rfl
noncomputable def f77(a1:Int):Option Int:=(f77n0 a1).bind fun o=>match o with
 | .ret v6=>some v6
theorem f77_ok(a1:Int){r:Int}(h:f77 a1=some r):Ql Try.prog false 77 [(.pl (.int .u64 a1))] [] (jI r) []:=by
 unfold f77 at h;obtain ⟨o,ho,h⟩:=Qd h;cases o with
 | ret v6 =>
  obtain rfl:=Qe h;exact Ql.plain Qf (f:=Try.f77) (c:=c77) (by kernel_rfl) (by kernel_rfl) (by kernel_rfl) (by kernel_rfl) ((f77n0_ok a1 ho).mono fun r e=>by subst e; exact ⟨.inl rfl,(jI v6),(jI v6),by kernel_rfl,by kernel_rfl,((Wk.refl _):Wk (jI v6) (jI v6))⟩)

noncomputable def c67:Code:=Try.f67.body.getD .skip
inductive f67n2O where
 | norm (v61:Bool)
def f67n2E(bb1 bb2 bb3 bb4 bb5 bb6:Int):f67n2O→Ex×Tr×Hp
 | .norm v61=>(.norm,mkS [(2,(.pl (.int .u64 (shlK .u64 bb1 (Qi bb2))))),(8,(.pl (.int .u64 (Qi bb2)))),(9,(.pl (.int .u64 (shrK .u64 (shlK .u64 bb1 (Qi bb2)) 32)))),(10,(.pl (.int .u64 (andU (shlK .u64 bb1 (Qi bb2)) 4294967295)))),(11,(.pl (.int .u64 (orU (shlK .u64 bb3 (Qi bb2)) (shrK .u64 bb4 (Qi (64-(Qi bb2)))))))),(13,(.pl (.int .u64 (shrK .u64 (shlK .u64 bb4 (Qi bb2)) 32)))),(14,(.pl (.int .u64 (andU (shlK .u64 bb4 (Qi bb2)) 4294967295)))),(15,(.pl (.int .u64 bb5))),(16,(.pl (.int .u64 bb6))),(78,(jB v61))],[])
def f67n2S(bb1 bb2 bb3 bb4 bb5 bb6:Int):Tr×Hp:=(mkS [(2,(.pl (.int .u64 (shlK .u64 bb1 (Qi bb2))))),(8,(.pl (.int .u64 (Qi bb2)))),(9,(.pl (.int .u64 (shrK .u64 (shlK .u64 bb1 (Qi bb2)) 32)))),(10,(.pl (.int .u64 (andU (shlK .u64 bb1 (Qi bb2)) 4294967295)))),(11,(.pl (.int .u64 (orU (shlK .u64 bb3 (Qi bb2)) (shrK .u64 bb4 (Qi (64-(Qi bb2)))))))),(13,(.pl (.int .u64 (shrK .u64 (shlK .u64 bb4 (Qi bb2)) 32)))),(14,(.pl (.int .u64 (andU (shlK .u64 bb4 (Qi bb2)) 4294967295)))),(15,(.pl (.int .u64 bb5))),(16,(.pl (.int .u64 bb6)))],[])
noncomputable def f67n2(bb1 bb2 bb3 bb4 bb5 bb6:Int):Option f67n2O :=
 bif decide (4294967296≤bb5) then
  some (.norm true)
 else
  some (.norm (decide ((Qi ((Qi (4294967296*bb6))+(shrK .u64 (shlK .u64 bb4 (Qi bb2)) 32)))<(Qi (bb5*(andU (shlK .u64 bb1 (Qi bb2)) 4294967295))))))
theorem f67n2_ok(bb1 bb2 bb3 bb4 bb5 bb6:Int){o:f67n2O}(h:f67n2 bb1 bb2 bb3 bb4 bb5 bb6=some o):T Try.prog Try.f67.ntmps 0 (cL (Qj 0 (cL (Qj 0 (cL (cL (cL (Qj 14 c67)))))))) (f67n2S bb1 bb2 bb3 bb4 bb5 bb6) (·=f67n2E bb1 bb2 bb3 bb4 bb5 bb6 o):=by
 unfold f67n2 at h;rcases Qh h with ⟨h60,h⟩|⟨h60,h⟩
 ·obtain rfl:=Qe h;exact rE Qf [(jT [3,4,5,6,7,8,9,10],[(11,.bool true)],[])] [] [] [] [2,8,9,10,11,13,14,15,16,78] (.norm,(f67n2E bb1 bb2 bb3 bb4 bb5 bb6 (.norm true)).2) (ap h60 (ap4 h60 (ap4 h60 an))) rfl
 ·obtain rfl:=Qe h;exact rE Qf [(jF [3,4,5,6,7,8,9,10],[(11,.bool false)],[])] [] [] [] [2,8,9,10,11,13,14,15,16,78] (.norm,(f67n2E bb1 bb2 bb3 bb4 bb5 bb6 (.norm (decide ((Qi ((Qi (4294967296*bb6))+(shrK .u64 (shlK .u64 bb4 (Qi bb2)) 32)))<(Qi (bb5*(andU (shlK .u64 bb1 (Qi bb2)) 4294967295))))))).2) (ap h60 (ap4 h60 (ap4 h60 an))) rfl
inductive f67n1O where
 | exit0
 | norm
def f67n1E(bb1 bb2 bb3 bb4 bb5 bb6:Int):f67n1O→Ex×Tr×Hp
 | .exit0=>((.exit 0),mkS [(2,(.pl (.int .u64 (shlK .u64 bb1 (Qi bb2))))),(8,(.pl (.int .u64 (Qi bb2)))),(9,(.pl (.int .u64 (shrK .u64 (shlK .u64 bb1 (Qi bb2)) 32)))),(10,(.pl (.int .u64 (andU (shlK .u64 bb1 (Qi bb2)) 4294967295)))),(11,(.pl (.int .u64 (orU (shlK .u64 bb3 (Qi bb2)) (shrK .u64 bb4 (Qi (64-(Qi bb2)))))))),(13,(.pl (.int .u64 (shrK .u64 (shlK .u64 bb4 (Qi bb2)) 32)))),(14,(.pl (.int .u64 (andU (shlK .u64 bb4 (Qi bb2)) 4294967295)))),(15,(.pl (.int .u64 bb5)))],[])
 | .norm=>(.norm,mkS [(2,(.pl (.int .u64 (shlK .u64 bb1 (Qi bb2))))),(8,(.pl (.int .u64 (Qi bb2)))),(9,(.pl (.int .u64 (shrK .u64 (shlK .u64 bb1 (Qi bb2)) 32)))),(10,(.pl (.int .u64 (andU (shlK .u64 bb1 (Qi bb2)) 4294967295)))),(11,(.pl (.int .u64 (orU (shlK .u64 bb3 (Qi bb2)) (shrK .u64 bb4 (Qi (64-(Qi bb2)))))))),(13,(.pl (.int .u64 (shrK .u64 (shlK .u64 bb4 (Qi bb2)) 32)))),(14,(.pl (.int .u64 (andU (shlK .u64 bb4 (Qi bb2)) 4294967295)))),(15,(.pl (.int .u64 bb5))),(16,(.pl (.int .u64 bb6)))],[])
def f67n1S(bb1 bb2 bb3 bb4 bb5 bb6:Int):Tr×Hp:=(mkS [(2,(.pl (.int .u64 (shlK .u64 bb1 (Qi bb2))))),(8,(.pl (.int .u64 (Qi bb2)))),(9,(.pl (.int .u64 (shrK .u64 (shlK .u64 bb1 (Qi bb2)) 32)))),(10,(.pl (.int .u64 (andU (shlK .u64 bb1 (Qi bb2)) 4294967295)))),(11,(.pl (.int .u64 (orU (shlK .u64 bb3 (Qi bb2)) (shrK .u64 bb4 (Qi (64-(Qi bb2)))))))),(13,(.pl (.int .u64 (shrK .u64 (shlK .u64 bb4 (Qi bb2)) 32)))),(14,(.pl (.int .u64 (andU (shlK .u64 bb4 (Qi bb2)) 4294967295)))),(15,(.pl (.int .u64 bb5))),(16,(.pl (.int .u64 bb6)))],[])
noncomputable def f67n1(bb1 bb2 bb3 bb4 bb5 bb6:Int):Option f67n1O :=
 (f67n2 bb1 bb2 bb3 bb4 bb5 bb6).bind fun o62=>match o62 with
 | .norm v64=>bif v64 then
   some .norm
  else
   some .exit0
theorem f67n1_ok(bb1 bb2 bb3 bb4 bb5 bb6:Int){o:f67n1O}(h:f67n1 bb1 bb2 bb3 bb4 bb5 bb6=some o):T Try.prog Try.f67.ntmps 0 (cL (Qj 0 (cL (cL (cL (Qj 14 c67)))))) (f67n1S bb1 bb2 bb3 bb4 bb5 bb6) (·=f67n1E bb1 bb2 bb3 bb4 bb5 bb6 o):=by
 unfold f67n1 at h;refine rN Qf 0 [] [] [] [] [2,8,9,10,11,13,14,15,16] (f67n2S bb1 bb2 bb3 bb4 bb5 bb6) an ?_;obtain ⟨o62,h63,h⟩:=Qd h;cases o62 with
 | norm v64 =>
  refine T.oneN (by kernel_rfl) (f67n2_ok bb1 bb2 bb3 bb4 bb5 bb6 h63) (st2:=(f67n2E bb1 bb2 bb3 bb4 bb5 bb6 (.norm v64)).2) rfl ?_;rcases Qh h with ⟨h66,h⟩|⟨h66,h⟩
  ·obtain rfl:=Qe h;exact rE Qf [] [some true] [] [] [2,8,9,10,11,13,14,15,16] (.norm,(f67n1E bb1 bb2 bb3 bb4 bb5 bb6 .norm).2) (ap h66 an) rfl
  ·obtain rfl:=Qe h;exact rE Qf [] [some false] [] [] [2,8,9,10,11,13,14,15] ((.exit 0),(f67n1E bb1 bb2 bb3 bb4 bb5 bb6 .exit0).2) (ap h66 an) rfl
inductive f67n3O where
 | exit0 (v71:Int)
def f67n3E(a3 x12 a1 a2:Int):f67n3O→Ex×Tr×Hp
 | .exit0 v71=>((.exit 0),mkS [(2,(.pl (.int .u64 (shlK .u64 a3 (Qi x12))))),(8,(.pl (.int .u64 (Qi x12)))),(9,(.pl (.int .u64 (shrK .u64 (shlK .u64 a3 (Qi x12)) 32)))),(10,(.pl (.int .u64 (andU (shlK .u64 a3 (Qi x12)) 4294967295)))),(11,(.pl (.int .u64 (orU (shlK .u64 a1 (Qi x12)) (shrK .u64 a2 (Qi (64-(Qi x12)))))))),(13,(.pl (.int .u64 (shrK .u64 (shlK .u64 a2 (Qi x12)) 32)))),(14,(.pl (.int .u64 (andU (shlK .u64 a2 (Qi x12)) 4294967295)))),(15,(.pl (.int .u64 v71)))],[])
def f67n3S(a3 x12 a1 a2 v54 v55:Int):Tr×Hp:=(mkS [(2,(.pl (.int .u64 (shlK .u64 a3 (Qi x12))))),(8,(.pl (.int .u64 (Qi x12)))),(9,(.pl (.int .u64 (shrK .u64 (shlK .u64 a3 (Qi x12)) 32)))),(10,(.pl (.int .u64 (andU (shlK .u64 a3 (Qi x12)) 4294967295)))),(11,(.pl (.int .u64 (orU (shlK .u64 a1 (Qi x12)) (shrK .u64 a2 (Qi (64-(Qi x12)))))))),(13,(.pl (.int .u64 (shrK .u64 (shlK .u64 a2 (Qi x12)) 32)))),(14,(.pl (.int .u64 (andU (shlK .u64 a2 (Qi x12)) 4294967295)))),(15,(.pl (.int .u64 v54))),(16,(.pl (.int .u64 v55)))],[])
noncomputable def f67n3:Nat→Int→Int→Int→Int→Int→Int→Option f67n3O
 | 0,_,_,_,_,_,_=>none
 | f+1,a3,x12,a1,a2,v54,v55 =>
  (f67n1 a3 x12 a1 a2 v54 v55).bind fun o67=>match o67 with
  | .exit0=>some (.exit0 v54)
  | .norm=>bif (decide (4294967296≤(Qi (v55+(shrK .u64 (shlK .u64 a3 (Qi x12)) 32))))) then
    some (.exit0 (Qi (v54-1)))
   else
    (f67n3 f a3 x12 a1 a2 (Qi (v54-1)) (Qi (v55+(shrK .u64 (shlK .u64 a3 (Qi x12)) 32))))
theorem f67n3_ok:∀(f:Nat)(a3 x12 a1 a2 v54 v55:Int){o:f67n3O},f67n3 f a3 x12 a1 a2 v54 v55=some o→TL Try.prog Try.f67.ntmps 0 f (cL (cL (cL (Qj 14 c67)))) (f67n3S a3 x12 a1 a2 v54 v55) (·=f67n3E a3 x12 a1 a2 o)
 | 0,_,_,_,_,_,_,o,h=>by rw [f67n3] at h; cases h
 | f+1,a3,x12,a1,a2,v54,v55,o,h=>by
  rw [f67n3] at h;refine TL.body (K:=fun s=>∃v54:Int,∃v55:Int,s=(f67n3S a3 x12 a1 a2 v54 v55)∧f67n3 f a3 x12 a1 a2 v54 v55=some o) ?_ (by rintro _ ⟨v54,v55,rfl,hk⟩; exact f67n3_ok f _ _ _ _ _ _ hk);refine rN Qf 0 [] [] [] [] [2,8,9,10,11,13,14,15,16] (f67n1S a3 x12 a1 a2 v54 v55) an ?_;obtain ⟨o67,h68,h⟩:=Qd h;cases o67 with
  | exit0 =>
   obtain rfl:=Qe h;exact T.oneX' (by kernel_rfl) (f67n1_ok a3 x12 a1 a2 v54 v55 h68) (tds:=[]) (m:=[]) (keep:=[2,8,9,10,11,13,14,15]) (st2:=(f67n3E a3 x12 a1 a2 (.exit0 v54)).2) (by kernel_rfl) an rfl (Qp.out rfl rfl)
  | norm =>
   refine T.oneN (by kernel_rfl) (f67n1_ok a3 x12 a1 a2 v54 v55 h68) (st2:=(f67n1E a3 x12 a1 a2 v54 v55 .norm).2) rfl ?_;rcases Qh h with ⟨h70,h⟩|⟨h70,h⟩
   ·obtain rfl:=Qe h;exact rE Qf [j3,j3,j3] [some true] [] [] [2,8,9,10,11,13,14,15] ((.exit 0),(f67n3E a3 x12 a1 a2 (.exit0 (Qi (v54-1)))).2) (ap h70 an) (Qp.out rfl rfl)
   ·exact rE Qf [j3,j3,j3] [some false] [] [] [2,8,9,10,11,13,14,15,16] (.norm,(f67n3S a3 x12 a1 a2 (Qi (v54-1)) (Qi (v55+(shrK .u64 (shlK .u64 a3 (Qi x12)) 32))))) (ap h70 an) (Qp.norm ⟨(Qi (v54-1)),(Qi (v55+(shrK .u64 (shlK .u64 a3 (Qi x12)) 32))),rfl,h⟩)
inductive f67n5O where
 | norm (v119:Bool)
def f67n5E(bb1 bb2 bb3 bb4 bb5 bb6 bb7:Int):f67n5O→Ex×Tr×Hp
 | .norm v119=>(.norm,mkS [(2,(.pl (.int .u64 (shlK .u64 bb1 (Qi bb2))))),(8,(.pl (.int .u64 (Qi bb2)))),(9,(.pl (.int .u64 (shrK .u64 (shlK .u64 bb1 (Qi bb2)) 32)))),(10,(.pl (.int .u64 (andU (shlK .u64 bb1 (Qi bb2)) 4294967295)))),(14,(.pl (.int .u64 (andU (shlK .u64 bb3 (Qi bb2)) 4294967295)))),(15,(.pl (.int .u64 bb4))),(16,(.pl (.int .u64 bb5))),(17,(.pl (.int .u64 bb6))),(18,(.pl (.int .u64 bb7))),(113,(jB v119))],[])
def f67n5S(bb1 bb2 bb3 bb4 bb5 bb6 bb7:Int):Tr×Hp:=(mkS [(2,(.pl (.int .u64 (shlK .u64 bb1 (Qi bb2))))),(8,(.pl (.int .u64 (Qi bb2)))),(9,(.pl (.int .u64 (shrK .u64 (shlK .u64 bb1 (Qi bb2)) 32)))),(10,(.pl (.int .u64 (andU (shlK .u64 bb1 (Qi bb2)) 4294967295)))),(14,(.pl (.int .u64 (andU (shlK .u64 bb3 (Qi bb2)) 4294967295)))),(15,(.pl (.int .u64 bb4))),(16,(.pl (.int .u64 bb5))),(17,(.pl (.int .u64 bb6))),(18,(.pl (.int .u64 bb7)))],[])
noncomputable def f67n5(bb1 bb2 bb3 bb4 bb5 bb6 bb7:Int):Option f67n5O :=
 bif decide (4294967296≤bb7) then
  some (.norm true)
 else
  some (.norm (decide ((Qi ((Qi (4294967296*bb5))+(andU (shlK .u64 bb3 (Qi bb2)) 4294967295)))<(Qi (bb7*(andU (shlK .u64 bb1 (Qi bb2)) 4294967295))))))
theorem f67n5_ok(bb1 bb2 bb3 bb4 bb5 bb6 bb7:Int){o:f67n5O}(h:f67n5 bb1 bb2 bb3 bb4 bb5 bb6 bb7=some o):T Try.prog Try.f67.ntmps 0 (cL (Qj 0 (cL (Qj 0 (cL (cL (cL (Qj 3 (Qj 1 (Qj 14 c67)))))))))) (f67n5S bb1 bb2 bb3 bb4 bb5 bb6 bb7) (·=f67n5E bb1 bb2 bb3 bb4 bb5 bb6 bb7 o):=by
 unfold f67n5 at h;rcases Qh h with ⟨h118,h⟩|⟨h118,h⟩
 ·obtain rfl:=Qe h;exact rE Qf [(jT [3,4,5,6,7,8,9,10],[(11,.bool true)],[])] [] [] [] [2,8,9,10,14,15,16,17,18,113] (.norm,(f67n5E bb1 bb2 bb3 bb4 bb5 bb6 bb7 (.norm true)).2) (ap h118 (ap4 h118 (ap4 h118 an))) rfl
 ·obtain rfl:=Qe h;exact rE Qf [(jF [3,4,5,6,7,8,9,10],[(11,.bool false)],[])] [] [] [] [2,8,9,10,14,15,16,17,18,113] (.norm,(f67n5E bb1 bb2 bb3 bb4 bb5 bb6 bb7 (.norm (decide ((Qi ((Qi (4294967296*bb5))+(andU (shlK .u64 bb3 (Qi bb2)) 4294967295)))<(Qi (bb7*(andU (shlK .u64 bb1 (Qi bb2)) 4294967295))))))).2) (ap h118 (ap4 h118 (ap4 h118 an))) rfl
inductive f67n4O where
 | exit2
 | norm
def f67n4E(bb1 bb2 bb3 bb4 bb5 bb6 bb7:Int):f67n4O→Ex×Tr×Hp
 | .exit2=>((.exit 2),mkS [(2,(.pl (.int .u64 (shlK .u64 bb1 (Qi bb2))))),(8,(.pl (.int .u64 (Qi bb2)))),(14,(.pl (.int .u64 (andU (shlK .u64 bb3 (Qi bb2)) 4294967295)))),(15,(.pl (.int .u64 bb4))),(17,(.pl (.int .u64 bb6))),(18,(.pl (.int .u64 bb7)))],[])
 | .norm=>(.norm,mkS [(2,(.pl (.int .u64 (shlK .u64 bb1 (Qi bb2))))),(8,(.pl (.int .u64 (Qi bb2)))),(9,(.pl (.int .u64 (shrK .u64 (shlK .u64 bb1 (Qi bb2)) 32)))),(10,(.pl (.int .u64 (andU (shlK .u64 bb1 (Qi bb2)) 4294967295)))),(14,(.pl (.int .u64 (andU (shlK .u64 bb3 (Qi bb2)) 4294967295)))),(15,(.pl (.int .u64 bb4))),(16,(.pl (.int .u64 bb5))),(17,(.pl (.int .u64 bb6))),(18,(.pl (.int .u64 bb7)))],[])
def f67n4S(bb1 bb2 bb3 bb4 bb5 bb6 bb7:Int):Tr×Hp:=(mkS [(2,(.pl (.int .u64 (shlK .u64 bb1 (Qi bb2))))),(8,(.pl (.int .u64 (Qi bb2)))),(9,(.pl (.int .u64 (shrK .u64 (shlK .u64 bb1 (Qi bb2)) 32)))),(10,(.pl (.int .u64 (andU (shlK .u64 bb1 (Qi bb2)) 4294967295)))),(14,(.pl (.int .u64 (andU (shlK .u64 bb3 (Qi bb2)) 4294967295)))),(15,(.pl (.int .u64 bb4))),(16,(.pl (.int .u64 bb5))),(17,(.pl (.int .u64 bb6))),(18,(.pl (.int .u64 bb7)))],[])
noncomputable def f67n4(bb1 bb2 bb3 bb4 bb5 bb6 bb7:Int):Option f67n4O :=
 (f67n5 bb1 bb2 bb3 bb4 bb5 bb6 bb7).bind fun o120=>match o120 with
 | .norm v122=>bif v122 then
   some .norm
  else
   some .exit2
theorem f67n4_ok(bb1 bb2 bb3 bb4 bb5 bb6 bb7:Int){o:f67n4O}(h:f67n4 bb1 bb2 bb3 bb4 bb5 bb6 bb7=some o):T Try.prog Try.f67.ntmps 0 (cL (Qj 0 (cL (cL (cL (Qj 3 (Qj 1 (Qj 14 c67)))))))) (f67n4S bb1 bb2 bb3 bb4 bb5 bb6 bb7) (·=f67n4E bb1 bb2 bb3 bb4 bb5 bb6 bb7 o):=by
 unfold f67n4 at h;refine rN Qf 0 [] [] [] [] [2,8,9,10,14,15,16,17,18] (f67n5S bb1 bb2 bb3 bb4 bb5 bb6 bb7) an ?_;obtain ⟨o120,h121,h⟩:=Qd h;cases o120 with
 | norm v122 =>
  refine T.oneN (by kernel_rfl) (f67n5_ok bb1 bb2 bb3 bb4 bb5 bb6 bb7 h121) (st2:=(f67n5E bb1 bb2 bb3 bb4 bb5 bb6 bb7 (.norm v122)).2) rfl ?_;rcases Qh h with ⟨h124,h⟩|⟨h124,h⟩
  ·obtain rfl:=Qe h;exact rE Qf [] [some true] [] [] [2,8,9,10,14,15,16,17,18] (.norm,(f67n4E bb1 bb2 bb3 bb4 bb5 bb6 bb7 .norm).2) (ap h124 an) rfl
  ·obtain rfl:=Qe h;exact rE Qf [] [some false] [] [] [2,8,14,15,17,18] ((.exit 2),(f67n4E bb1 bb2 bb3 bb4 bb5 bb6 bb7 .exit2).2) (ap h124 an) rfl
inductive f67n6O where
 | exit2 (v129:Int)
def f67n6E(a3 x12 a2 v74 a1:Int):f67n6O→Ex×Tr×Hp
 | .exit2 v129=>((.exit 2),mkS [(2,(.pl (.int .u64 (shlK .u64 a3 (Qi x12))))),(8,(.pl (.int .u64 (Qi x12)))),(14,(.pl (.int .u64 (andU (shlK .u64 a2 (Qi x12)) 4294967295)))),(15,(.pl (.int .u64 v74))),(17,(.pl (.int .u64 (Qi ((Qi ((Qi ((orU (shlK .u64 a1 (Qi x12)) (shrK .u64 a2 (Qi (64-(Qi x12)))))*4294967296))+(shrK .u64 (shlK .u64 a2 (Qi x12)) 32)))-(Qi (v74*(shlK .u64 a3 (Qi x12))))))))),(18,(.pl (.int .u64 v129)))],[])
def f67n6S(a3 x12 a2 v74 a1 v111 v112:Int):Tr×Hp:=(mkS [(2,(.pl (.int .u64 (shlK .u64 a3 (Qi x12))))),(8,(.pl (.int .u64 (Qi x12)))),(9,(.pl (.int .u64 (shrK .u64 (shlK .u64 a3 (Qi x12)) 32)))),(10,(.pl (.int .u64 (andU (shlK .u64 a3 (Qi x12)) 4294967295)))),(14,(.pl (.int .u64 (andU (shlK .u64 a2 (Qi x12)) 4294967295)))),(15,(.pl (.int .u64 v74))),(16,(.pl (.int .u64 v111))),(17,(.pl (.int .u64 (Qi ((Qi ((Qi ((orU (shlK .u64 a1 (Qi x12)) (shrK .u64 a2 (Qi (64-(Qi x12)))))*4294967296))+(shrK .u64 (shlK .u64 a2 (Qi x12)) 32)))-(Qi (v74*(shlK .u64 a3 (Qi x12))))))))),(18,(.pl (.int .u64 v112)))],[])
noncomputable def f67n6:Nat→Int→Int→Int→Int→Int→Int→Int→Option f67n6O
 | 0,_,_,_,_,_,_,_=>none
 | f+1,a3,x12,a2,v74,a1,v111,v112 =>
  (f67n4 a3 x12 a2 v74 v111 (Qi ((Qi ((Qi ((orU (shlK .u64 a1 (Qi x12)) (shrK .u64 a2 (Qi (64-(Qi x12)))))*4294967296))+(shrK .u64 (shlK .u64 a2 (Qi x12)) 32)))-(Qi (v74*(shlK .u64 a3 (Qi x12)))))) v112).bind fun o125=>match o125 with
  | .exit2=>some (.exit2 v112)
  | .norm=>bif (decide (4294967296≤(Qi (v111+(shrK .u64 (shlK .u64 a3 (Qi x12)) 32))))) then
    some (.exit2 (Qi (v112-1)))
   else
    (f67n6 f a3 x12 a2 v74 a1 (Qi (v111+(shrK .u64 (shlK .u64 a3 (Qi x12)) 32))) (Qi (v112-1)))
theorem f67n6_ok:∀(f:Nat)(a3 x12 a2 v74 a1 v111 v112:Int){o:f67n6O},f67n6 f a3 x12 a2 v74 a1 v111 v112=some o→TL Try.prog Try.f67.ntmps 0 f (cL (cL (cL (Qj 3 (Qj 1 (Qj 14 c67)))))) (f67n6S a3 x12 a2 v74 a1 v111 v112) (·=f67n6E a3 x12 a2 v74 a1 o)
 | 0,_,_,_,_,_,_,_,o,h=>by rw [f67n6] at h; cases h
 | f+1,a3,x12,a2,v74,a1,v111,v112,o,h=>by
  rw [f67n6] at h;refine TL.body (K:=fun s=>∃v111:Int,∃v112:Int,s=(f67n6S a3 x12 a2 v74 a1 v111 v112)∧f67n6 f a3 x12 a2 v74 a1 v111 v112=some o) ?_ (by rintro _ ⟨v111,v112,rfl,hk⟩; exact f67n6_ok f _ _ _ _ _ _ _ hk);refine rN Qf 0 [] [] [] [] [2,8,9,10,14,15,16,17,18] (f67n4S a3 x12 a2 v74 v111 (Qi ((Qi ((Qi ((orU (shlK .u64 a1 (Qi x12)) (shrK .u64 a2 (Qi (64-(Qi x12)))))*4294967296))+(shrK .u64 (shlK .u64 a2 (Qi x12)) 32)))-(Qi (v74*(shlK .u64 a3 (Qi x12)))))) v112) an ?_;obtain ⟨o125,h126,h⟩:=Qd h;cases o125 with
  | exit2 =>
   obtain rfl:=Qe h;exact T.oneX' (by kernel_rfl) (f67n4_ok a3 x12 a2 v74 v111 (Qi ((Qi ((Qi ((orU (shlK .u64 a1 (Qi x12)) (shrK .u64 a2 (Qi (64-(Qi x12)))))*4294967296))+(shrK .u64 (shlK .u64 a2 (Qi x12)) 32)))-(Qi (v74*(shlK .u64 a3 (Qi x12)))))) v112 h126) (tds:=[]) (m:=[]) (keep:=[2,8,14,15,17,18]) (st2:=(f67n6E a3 x12 a2 v74 a1 (.exit2 v112)).2) (by kernel_rfl) an rfl (Qp.out rfl rfl)
  | norm =>
   refine T.oneN (by kernel_rfl) (f67n4_ok a3 x12 a2 v74 v111 (Qi ((Qi ((Qi ((orU (shlK .u64 a1 (Qi x12)) (shrK .u64 a2 (Qi (64-(Qi x12)))))*4294967296))+(shrK .u64 (shlK .u64 a2 (Qi x12)) 32)))-(Qi (v74*(shlK .u64 a3 (Qi x12)))))) v112 h126) (st2:=(f67n4E a3 x12 a2 v74 v111 (Qi ((Qi ((Qi ((orU (shlK .u64 a1 (Qi x12)) (shrK .u64 a2 (Qi (64-(Qi x12)))))*4294967296))+(shrK .u64 (shlK .u64 a2 (Qi x12)) 32)))-(Qi (v74*(shlK .u64 a3 (Qi x12)))))) v112 .norm).2) rfl ?_;rcases Qh h with ⟨h128,h⟩|⟨h128,h⟩
   ·obtain rfl:=Qe h;exact rE Qf [j3,j3,j3] [some true] [] [] [2,8,14,15,17,18] ((.exit 2),(f67n6E a3 x12 a2 v74 a1 (.exit2 (Qi (v112-1)))).2) (ap h128 an) (Qp.out rfl rfl)
   ·exact rE Qf [j3,j3,j3] [some false] [] [] [2,8,9,10,14,15,16,17,18] (.norm,(f67n6S a3 x12 a2 v74 a1 (Qi (v111+(shrK .u64 (shlK .u64 a3 (Qi x12)) 32))) (Qi (v112-1)))) (ap h128 an) (Qp.norm ⟨(Qi (v111+(shrK .u64 (shlK .u64 a3 (Qi x12)) 32))),(Qi (v112-1)),rfl,h⟩)
inductive f67n0O where
 | ret (v133:Int) (v134:Int)
def f67n0E(a1 a2 a3:Int):f67n0O→Ex×Tr×Hp
 | .ret v133 v134=>(.ret,mkS [(6,(.pl (.int .u64 v133))),(7,(.pl (.int .u64 v134)))],[])
def f67n0S(a1 a2 a3:Int):Tr×Hp:=(Qaa [(.pl (.int .u64 a1)),(.pl (.int .u64 a2)),(.pl (.int .u64 a3))] 0 .leaf,[])
noncomputable def f67n0(a1 a2 a3:Int):Option f67n0O :=
 bif decide (a3=0) then
  none
 else
  bif decide (a3≤a1) then
   none
  else
   bif decide (a1=0) then
    some (.ret (Qi (Int.tdiv a2 a3)) (Int.tmod a2 a3))
   else
    (f77 a3).bind fun x12 =>
    req (decide (0≤(Qi x12))) <|
    req (decide (0≤(Qi (64-(Qi x12))))) <|
    req (!(decide ((shrK .u64 (shlK .u64 a3 (Qi x12)) 32)=0))) <|
    (f67n3 FUEL a3 x12 a1 a2 (Qi (Int.tdiv (orU (shlK .u64 a1 (Qi x12)) (shrK .u64 a2 (Qi (64-(Qi x12))))) (shrK .u64 (shlK .u64 a3 (Qi x12)) 32))) (Qi ((orU (shlK .u64 a1 (Qi x12)) (shrK .u64 a2 (Qi (64-(Qi x12)))))-(Qi ((Qi (Int.tdiv (orU (shlK .u64 a1 (Qi x12)) (shrK .u64 a2 (Qi (64-(Qi x12))))) (shrK .u64 (shlK .u64 a3 (Qi x12)) 32)))*(shrK .u64 (shlK .u64 a3 (Qi x12)) 32)))))).bind fun o72=>match o72 with
    | .exit0 v74=>(f67n6 FUEL a3 x12 a2 v74 a1 (Qi ((Qi ((Qi ((Qi ((orU (shlK .u64 a1 (Qi x12)) (shrK .u64 a2 (Qi (64-(Qi x12)))))*4294967296))+(shrK .u64 (shlK .u64 a2 (Qi x12)) 32)))-(Qi (v74*(shlK .u64 a3 (Qi x12))))))-(Qi ((Qi (Int.tdiv (Qi ((Qi ((Qi ((orU (shlK .u64 a1 (Qi x12)) (shrK .u64 a2 (Qi (64-(Qi x12)))))*4294967296))+(shrK .u64 (shlK .u64 a2 (Qi x12)) 32)))-(Qi (v74*(shlK .u64 a3 (Qi x12)))))) (shrK .u64 (shlK .u64 a3 (Qi x12)) 32)))*(shrK .u64 (shlK .u64 a3 (Qi x12)) 32))))) (Qi (Int.tdiv (Qi ((Qi ((Qi ((orU (shlK .u64 a1 (Qi x12)) (shrK .u64 a2 (Qi (64-(Qi x12)))))*4294967296))+(shrK .u64 (shlK .u64 a2 (Qi x12)) 32)))-(Qi (v74*(shlK .u64 a3 (Qi x12)))))) (shrK .u64 (shlK .u64 a3 (Qi x12)) 32)))).bind fun o130=>match o130 with
     | .exit2 v132=>some (.ret (Qi ((Qi (v74*4294967296))+v132)) (shrK .u64 (Qi ((Qi ((Qi ((Qi ((Qi ((Qi ((orU (shlK .u64 a1 (Qi x12)) (shrK .u64 a2 (Qi (64-(Qi x12)))))*4294967296))+(shrK .u64 (shlK .u64 a2 (Qi x12)) 32)))-(Qi (v74*(shlK .u64 a3 (Qi x12))))))*4294967296))+(andU (shlK .u64 a2 (Qi x12)) 4294967295)))-(Qi (v132*(shlK .u64 a3 (Qi x12)))))) (Qi x12)))
theorem f67n0_ok(a1 a2 a3:Int){o:f67n0O}(h:f67n0 a1 a2 a3=some o):T Try.prog Try.f67.ntmps 0 c67 (f67n0S a1 a2 a3) (·=f67n0E a1 a2 a3 o):=by
 unfold f67n0 at h;rcases Qh h with ⟨h5,h⟩|⟨h5,h⟩
 ·cases h
 ·rcases Qh h with ⟨h7,h⟩|⟨h7,h⟩
  ·cases h
  ·rcases Qh h with ⟨h9,h⟩|⟨h9,h⟩
   ·obtain rfl:=Qe h;exact rK Qf 4 [j3,j3,j3,j3,([],[(2,.nz),(5,.nz)],[])] [some false,some false,some true] [] [] [6,7] .ret ((f67n0E a1 a2 a3 (.ret (Qi (Int.tdiv a2 a3)) (Int.tmod a2 a3))).2) (ap h5 (ap h7 (ap h9 (ap2 (ne_of (Qao h5)) an)))) rfl
   ·obtain ⟨x12,h13,h⟩:=Qd h;obtain ⟨h15,h⟩:=Qt h;obtain ⟨h17,h⟩:=Qt h;obtain ⟨h19,h⟩:=Qt h;refine rN Qf 14 [j3,j3,j3,j3,([],[jH 1 (jI x12)],[]),([],[(2,.fits)],[]),j3,j3,([],[(2,.fits),(6,.fits)],[]),([],[(2,.fits)],[]),j3,j3,([],[(2,.nz)],[]),j3] [some false,some false,some false] [] [] [2,8,9,10,11,13,14,15,16] (f67n3S a3 x12 a1 a2 (Qi (Int.tdiv (orU (shlK .u64 a1 (Qi x12)) (shrK .u64 a2 (Qi (64-(Qi x12))))) (shrK .u64 (shlK .u64 a3 (Qi x12)) 32))) (Qi ((orU (shlK .u64 a1 (Qi x12)) (shrK .u64 a2 (Qi (64-(Qi x12)))))-(Qi ((Qi (Int.tdiv (orU (shlK .u64 a1 (Qi x12)) (shrK .u64 a2 (Qi (64-(Qi x12))))) (shrK .u64 (shlK .u64 a3 (Qi x12)) 32)))*(shrK .u64 (shlK .u64 a3 (Qi x12)) 32)))))) (ap h5 (ap h7 (ap h9 (ap (f77_ok a3 h13) (ap2 (le_of h15) (ap (le_of h17) (ap (le_of h15) (ap (ne_of h19) an)))))))) ?_
    obtain ⟨o72,h73,h⟩:=Qd h;cases o72 with
    | exit0 v74 =>
     refine T.oneN (by kernel_rfl) (T.bl (i:=0) (by kernel_rfl) (by kernel_rfl) (f67n3_ok FUEL a3 x12 a1 a2 (Qi (Int.tdiv (orU (shlK .u64 a1 (Qi x12)) (shrK .u64 a2 (Qi (64-(Qi x12))))) (shrK .u64 (shlK .u64 a3 (Qi x12)) 32))) (Qi ((orU (shlK .u64 a1 (Qi x12)) (shrK .u64 a2 (Qi (64-(Qi x12)))))-(Qi ((Qi (Int.tdiv (orU (shlK .u64 a1 (Qi x12)) (shrK .u64 a2 (Qi (64-(Qi x12))))) (shrK .u64 (shlK .u64 a3 (Qi x12)) 32)))*(shrK .u64 (shlK .u64 a3 (Qi x12)) 32))))) h73)) (st2:=(f67n3E a3 x12 a1 a2 (.exit0 v74)).2) rfl ?_
     refine rN Qf 3 [j3,([],[(2,.nz)],[]),j3] [] [] [] [2,8,9,10,14,15,16,17,18] (f67n6S a3 x12 a2 v74 a1 (Qi ((Qi ((Qi ((Qi ((orU (shlK .u64 a1 (Qi x12)) (shrK .u64 a2 (Qi (64-(Qi x12)))))*4294967296))+(shrK .u64 (shlK .u64 a2 (Qi x12)) 32)))-(Qi (v74*(shlK .u64 a3 (Qi x12))))))-(Qi ((Qi (Int.tdiv (Qi ((Qi ((Qi ((orU (shlK .u64 a1 (Qi x12)) (shrK .u64 a2 (Qi (64-(Qi x12)))))*4294967296))+(shrK .u64 (shlK .u64 a2 (Qi x12)) 32)))-(Qi (v74*(shlK .u64 a3 (Qi x12)))))) (shrK .u64 (shlK .u64 a3 (Qi x12)) 32)))*(shrK .u64 (shlK .u64 a3 (Qi x12)) 32))))) (Qi (Int.tdiv (Qi ((Qi ((Qi ((orU (shlK .u64 a1 (Qi x12)) (shrK .u64 a2 (Qi (64-(Qi x12)))))*4294967296))+(shrK .u64 (shlK .u64 a2 (Qi x12)) 32)))-(Qi (v74*(shlK .u64 a3 (Qi x12)))))) (shrK .u64 (shlK .u64 a3 (Qi x12)) 32)))) (ap (ne_of h19) an) ?_
     obtain ⟨o130,h131,h⟩:=Qd h;cases o130 with
     | exit2 v132 =>
      refine T.oneN (by kernel_rfl) (T.bl (i:=2) (by kernel_rfl) (by kernel_rfl) (f67n6_ok FUEL a3 x12 a2 v74 a1 (Qi ((Qi ((Qi ((Qi ((orU (shlK .u64 a1 (Qi x12)) (shrK .u64 a2 (Qi (64-(Qi x12)))))*4294967296))+(shrK .u64 (shlK .u64 a2 (Qi x12)) 32)))-(Qi (v74*(shlK .u64 a3 (Qi x12))))))-(Qi ((Qi (Int.tdiv (Qi ((Qi ((Qi ((orU (shlK .u64 a1 (Qi x12)) (shrK .u64 a2 (Qi (64-(Qi x12)))))*4294967296))+(shrK .u64 (shlK .u64 a2 (Qi x12)) 32)))-(Qi (v74*(shlK .u64 a3 (Qi x12)))))) (shrK .u64 (shlK .u64 a3 (Qi x12)) 32)))*(shrK .u64 (shlK .u64 a3 (Qi x12)) 32))))) (Qi (Int.tdiv (Qi ((Qi ((Qi ((orU (shlK .u64 a1 (Qi x12)) (shrK .u64 a2 (Qi (64-(Qi x12)))))*4294967296))+(shrK .u64 (shlK .u64 a2 (Qi x12)) 32)))-(Qi (v74*(shlK .u64 a3 (Qi x12)))))) (shrK .u64 (shlK .u64 a3 (Qi x12)) 32))) h131)) (st2:=(f67n6E a3 x12 a2 v74 a1 (.exit2 v132)).2) rfl ?_
      obtain rfl:=Qe h;exact rE Qf [([],[(13,.fits)],[])] [] [] [] [6,7] (.ret,(f67n0E a1 a2 a3 (.ret (Qi ((Qi (v74*4294967296))+v132)) (shrK .u64 (Qi ((Qi ((Qi ((Qi ((Qi ((Qi ((orU (shlK .u64 a1 (Qi x12)) (shrK .u64 a2 (Qi (64-(Qi x12)))))*4294967296))+(shrK .u64 (shlK .u64 a2 (Qi x12)) 32)))-(Qi (v74*(shlK .u64 a3 (Qi x12))))))*4294967296))+(andU (shlK .u64 a2 (Qi x12)) 4294967295)))-(Qi (v132*(shlK .u64 a3 (Qi x12)))))) (Qi x12)))).2) (ap (le_of h15) an) rfl
noncomputable def f67(a1 a2 a3:Int):Option (Int×Int):=(f67n0 a1 a2 a3).bind fun o=>match o with
 | .ret v133 v134=>some (v133,v134)
theorem f67_ok(a1 a2 a3:Int){r:Int×Int}(h:f67 a1 a2 a3=some r):Ql Try.prog false 67 [(.pl (.int .u64 a1)),(.pl (.int .u64 a2)),(.pl (.int .u64 a3))] [] (.tup [(.pl (.int .u64 r.1)),(.pl (.int .u64 r.2))]) []:=by
 unfold f67 at h;obtain ⟨o,ho,h⟩:=Qd h;cases o with
 | ret v133 v134 =>
  obtain rfl:=Qe h;exact Ql.plain Qf (f:=Try.f67) (c:=c67) (by kernel_rfl) (by kernel_rfl) (by kernel_rfl) (by kernel_rfl) ((f67n0_ok a1 a2 a3 ho).mono fun r e=>by subst e; exact ⟨.inl rfl,(.tup [(.pl (.int .u64 v133)),(.pl (.int .u64 v134))]),(.tup [(.pl (.int .u64 v133)),(.pl (.int .u64 v134))]),by kernel_rfl,by kernel_rfl,((Wk.refl _):Wk (.tup [(.pl (.int .u64 v133)),(.pl (.int .u64 v134))]) (.tup [(.pl (.int .u64 v133)),(.pl (.int .u64 v134))]))⟩)
end Go.Proofs.Ytgbolgaodaokcaa
namespace Go.Proofs.Ytgbolgaodaokcaa
set_option linter.unusedVariables false
set_option linter.unusedSimpArgs false
set_option maxRecDepth 100000
open Go.RowKit
noncomputable def c79:Code:=Try.f79.body.getD .skip
inductive f79n0O where
 | ret
def f79n0E(a1:Int):f79n0O→Ex×Tr×Hp
 | .ret=>(.ret,mkS [(2,(.pl (.bool (!(decide (a1=a1))))))],[])
def f79n0S(a1:Int):Tr×Hp:=(Qaa [(.pl (.int .u64 a1))] 0 .leaf,[])
noncomputable def f79n0(a1:Int):Option f79n0O :=
 some .ret
theorem f79n0_ok(a1:Int){o:f79n0O}(h:f79n0 a1=some o):T Try.prog Try.f79.ntmps 0 c79 (f79n0S a1) (·=f79n0E a1 o):=by
 unfold f79n0 at h;obtain rfl:=Qe h;exact rE Qf [j3,j3] [] [] [] [2] (.ret,(f79n0E a1 .ret).2) an rfl
noncomputable def f79(a1:Int):Option Bool:=(f79n0 a1).bind fun o=>match o with
 | .ret=>some (!(decide (a1=a1)))
theorem f79_ok(a1:Int){r:Bool}(h:f79 a1=some r):Ql Try.prog false 79 [(.pl (.int .u64 a1))] [] (jB r) []:=by
 unfold f79 at h;obtain ⟨o,ho,h⟩:=Qd h;cases o with
 | ret =>
  obtain rfl:=Qe h;exact Ql.plain Qf (f:=Try.f79) (c:=c79) (by kernel_rfl) (by kernel_rfl) (by kernel_rfl) (by kernel_rfl) ((f79n0_ok a1 ho).mono fun r e=>by subst e; exact ⟨.inl rfl,(.pl (.bool (!(decide (a1=a1))))),(.pl (.bool (!(decide (a1=a1))))),by kernel_rfl,by kernel_rfl,((Wk.refl _):Wk (.pl (.bool (!(decide (a1=a1))))) (.pl (.bool (!(decide (a1=a1))))))⟩)

noncomputable def c70:Code:=Try.f70.body.getD .skip
inductive f70n0O where
 | ret (v21:Int)
def f70n0E(a1 a2:Int):f70n0O→Ex×Tr×Hp
 | .ret v21=>(.ret,mkS [(4,(jI v21))],[])
def f70n0S(a1 a2:Int):Tr×Hp:=(Qaa [(.pl (.int .u64 a1)),(.pl (.int .u64 a2))] 0 .leaf,[])
noncomputable def f70n0(a1 a2:Int):Option f70n0O :=
 (f79 a1).bind fun x5 =>
 (f79 a2).bind fun x9 =>
 bif x5 then
  bif x9 then
   some (.ret 0)
  else
   some (.ret (-1))
 else
  bif x9 then
   some (.ret 1)
  else
   bif decide (a1<a2) then
    some (.ret (-1))
   else
    bif decide (a2<a1) then
     some (.ret 1)
    else
     some (.ret 0)
theorem f70n0_ok(a1 a2:Int){o:f70n0O}(h:f70n0 a1 a2=some o):T Try.prog Try.f70.ntmps 0 c70 (f70n0S a1 a2) (·=f70n0E a1 a2 o):=by
 unfold f70n0 at h;obtain ⟨x5,h6,h⟩:=Qd h;obtain ⟨x9,h10,h⟩:=Qd h;rcases Qh h with ⟨h13,h⟩|⟨h13,h⟩
 ·rcases Qh h with ⟨h14,h⟩|⟨h14,h⟩
  ·obtain rfl:=Qe h;exact rK Qf 4 [j3,([],[jH 1 (jB x5)],[]),([],[jH 1 (jB x9)],[]),j3,j3,j3] [some true,some true] [] [] [4] .ret ((f70n0E a1 a2 (.ret 0)).2) (ap (f79_ok a1 h6) (ap (f79_ok a2 h10) (ap h13 (ap h14 an)))) rfl
  ·obtain rfl:=Qe h;exact rK Qf 4 [j3,([],[jH 1 (jB x5)],[]),([],[jH 1 (jB x9)],[]),j3,j3,j3] [some true,some false] [] [] [4] .ret ((f70n0E a1 a2 (.ret (-1))).2) (ap (f79_ok a1 h6) (ap (f79_ok a2 h10) (ap h13 (ap h14 an)))) rfl
 ·rcases Qh h with ⟨h16,h⟩|⟨h16,h⟩
  ·obtain rfl:=Qe h;exact rK Qf 5 [j3,([],[jH 1 (jB x5)],[]),([],[jH 1 (jB x9)],[]),j3,j3,j3] [some false,some true] [] [] [4] .ret ((f70n0E a1 a2 (.ret 1)).2) (ap (f79_ok a1 h6) (ap (f79_ok a2 h10) (ap h13 (ap h16 an)))) rfl
  ·rcases Qh h with ⟨h18,h⟩|⟨h18,h⟩
   ·obtain rfl:=Qe h;exact rK Qf 6 [j3,([],[jH 1 (jB x5)],[]),([],[jH 1 (jB x9)],[]),j3,j3,j3,j3] [some false,some false,some true] [] [] [4] .ret ((f70n0E a1 a2 (.ret (-1))).2) (ap (f79_ok a1 h6) (ap (f79_ok a2 h10) (ap h13 (ap h16 (ap h18 an))))) rfl
   ·rcases Qh h with ⟨h20,h⟩|⟨h20,h⟩
    ·obtain rfl:=Qe h;exact rK Qf 7 [j3,([],[jH 1 (jB x5)],[]),([],[jH 1 (jB x9)],[]),j3,j3,j3,j3,j3] [some false,some false,some false,some true] [] [] [4] .ret ((f70n0E a1 a2 (.ret 1)).2) (ap (f79_ok a1 h6) (ap (f79_ok a2 h10) (ap h13 (ap h16 (ap h18 (ap h20 an)))))) rfl
    ·obtain rfl:=Qe h;exact rE Qf [j3,([],[jH 1 (jB x5)],[]),([],[jH 1 (jB x9)],[]),j3,j3,j3,j3,j3] [some false,some false,some false,some false] [] [] [4] (.ret,(f70n0E a1 a2 (.ret 0)).2) (ap (f79_ok a1 h6) (ap (f79_ok a2 h10) (ap h13 (ap h16 (ap h18 (ap h20 an)))))) rfl
noncomputable def f70(a1 a2:Int):Option Int:=(f70n0 a1 a2).bind fun o=>match o with
 | .ret v21=>some v21
theorem f70_ok(a1 a2:Int){r:Int}(h:f70 a1 a2=some r):Ql Try.prog false 70 [(.pl (.int .u64 a1)),(.pl (.int .u64 a2))] [] (jI r) []:=by
 unfold f70 at h;obtain ⟨o,ho,h⟩:=Qd h;cases o with
 | ret v21 =>
  obtain rfl:=Qe h;exact Ql.plain Qf (f:=Try.f70) (c:=c70) (by kernel_rfl) (by kernel_rfl) (by kernel_rfl) (by kernel_rfl) ((f70n0_ok a1 a2 ho).mono fun r e=>by subst e; exact ⟨.inl rfl,(jI v21),(jI v21),by kernel_rfl,by kernel_rfl,((Wk.refl _):Wk (jI v21) (jI v21))⟩)

noncomputable def c69:Code:=Try.f69.body.getD .skip
inductive f69r1n0O where
 | ret (v16:Int)
def f69r1n0E(a1 a2:Int)(a3:List Int):f69r1n0O→Ex×Tr×Hp
 | .ret v16=>(.ret,mkS [(5,(jI v16))],[some (.box [(.own 1)]),some (.row false 1 (a3.map (cInt .u64)))])
def f69r1n0S(a1 a2:Int)(a3:List Int):Tr×Hp:=(Qaa [(jI a1),(jI a2),(.bp 0 0)] 0 .leaf,[some (.box [(.own 1)]),some (.row false 1 (a3.map (cInt .u64)))])
noncomputable def f69r1n0(a1 a2:Int)(a3:List Int):Option f69r1n0O :=
 (at? a3 a2).bind fun x10 =>
 (at? a3 a1).bind fun x12 =>
 (f70 x10 x12).bind fun x14 =>
 some (.ret x14)
theorem f69r1n0_ok(a1 a2:Int)(a3:List Int){o:f69r1n0O}(h:f69r1n0 a1 a2 a3=some o):T Try.prog Try.f69.ntmps 2 c69 (f69r1n0S a1 a2 a3) (·=f69r1n0E a1 a2 a3 o):=by
 unfold f69r1n0 at h;obtain ⟨x10,h11,h⟩:=Qd h;obtain ⟨x12,h13,h⟩:=Qd h;obtain ⟨x14,h15,h⟩:=Qd h;obtain rfl:=Qe h;exact rE Qf [j3,([],[(2,.at_ (Int.toNat a2)),(3,.idx 0 ((cInt .u64) x10)),(6,.at_ (Int.toNat a1)),(7,.idx 0 ((cInt .u64) x12)),jH 8 (jI x14)],[])] [] [] [] [5] (.ret,(f69r1n0E a1 a2 a3 (.ret x14)).2) (ap (Qg h11).1 (ap (Qs (cInt .u64) (Qg h11).2) (ap (Qm (cInt .u64) (Qg h11).2) (ap (Qg h13).1 (ap (Qs (cInt .u64) (Qg h13).2) (ap (Qm (cInt .u64) (Qg h13).2) (ap (f70_ok x10 x12 h15) an))))))) rfl
noncomputable def f69r1(a1 a2:Int)(a3:List Int):Option Int:=(f69r1n0 a1 a2 a3).bind fun o=>match o with
 | .ret v16=>some v16
theorem f69r1_ok(a1 a2:Int)(a3:List Int){r:Int}(h:f69r1 a1 a2 a3=some r):Ql Try.prog true 69 [(jI a1),(jI a2),(.bp 0 0)] [some (.box [(.own 1)]),some (.row false 1 (a3.map (cInt .u64)))] (jI r) [some (.box [(.own 1)]),some (.row false 1 (a3.map (cInt .u64)))]:=by
 unfold f69r1 at h;obtain ⟨o,ho,h⟩:=Qd h;cases o with
 | ret v16 =>
  obtain rfl:=Qe h;exact Ql.shared Qf (f:=Try.f69) (c:=c69) (by kernel_rfl) (by kernel_rfl) (by kernel_rfl) ((f69r1n0_ok a1 a2 a3 ho).mono fun r e=>by subst e; exact ⟨.inl rfl,by kernel_rfl,by kernel_rfl⟩)

noncomputable def c83:Code:=Try.f83.body.getD .skip
inductive f83r1n2O where
 | exit2 (v223:List Int)
def f83r1n2E(bb1 bb2 bb3:Int)(be5:List Int):f83r1n2O→Ex×Tr×Hp
 | .exit2 v223=>((.exit 2),mkS [(0,(.own 0)),(1,(jI bb1)),(2,(jI bb2)),(3,(.clo 69 [(.bp 1 0)])),(8,(jI bb3))],[some (.row false 1 (v223.map (cInt .i64))),some (.box [(.own 2)]),some (.row false 1 (be5.map (cInt .u64)))])
def f83r1n2S(bb1 bb2 bb3:Int)(be5:List Int)(v201:Int)(v202:List Int):Tr×Hp:=(mkS [(0,(.own 0)),(1,(jI bb1)),(2,(jI bb2)),(3,(.clo 69 [(.bp 1 0)])),(8,(jI bb3)),(9,(jI v201))],[some (.row false 1 (v202.map (cInt .i64))),some (.box [(.own 2)]),some (.row false 1 (be5.map (cInt .u64)))])
noncomputable def f83r1n2:Nat→Int→Int→Int→List Int→Int→List Int→Option f83r1n2O
 | 0,_,_,_,_,_,_=>none
 | f+1,bb1,bb2,bb3,be5,v201,v202 =>
  bif decide (bb1<v201) then
   (at? v202 v201).bind fun x212 =>
   (at? v202 (wr64 (v201-1))).bind fun x214 =>
   (f69r1 x212 x214 be5).bind fun x216 =>
   bif decide (x216<0) then
    (at? (v202.set (Int.toNat v201) x214) (wr64 (v201-1))).bind fun x221 =>
    (f83r1n2 f bb1 bb2 bb3 be5 (wr64 (v201-1)) ((v202.set (Int.toNat v201) x214).set (Int.toNat (wr64 (v201-1))) x212))
   else
    some (.exit2 v202)
  else
   some (.exit2 v202)
theorem f83r1n2_ok:∀(f:Nat)(bb1 bb2 bb3:Int)(be5:List Int)(v201:Int)(v202:List Int){o:f83r1n2O},f83r1n2 f bb1 bb2 bb3 be5 v201 v202=some o→TL Try.prog Try.f83.ntmps 3 f (cL (cL (Qj 1 (cL (cL (Qj 1 (cL (cL (Qj 1 c83))))))))) (f83r1n2S bb1 bb2 bb3 be5 v201 v202) (·=f83r1n2E bb1 bb2 bb3 be5 o)
 | 0,_,_,_,_,_,_,o,h=>by rw [f83r1n2] at h; cases h
 | f+1,bb1,bb2,bb3,be5,v201,v202,o,h=>by
  rw [f83r1n2] at h;refine TL.body (K:=fun s=>∃v201:Int,∃v202:List Int,s=(f83r1n2S bb1 bb2 bb3 be5 v201 v202)∧f83r1n2 f bb1 bb2 bb3 be5 v201 v202=some o) ?_ (by rintro _ ⟨v201,v202,rfl,hk⟩; exact f83r1n2_ok f _ _ _ _ _ _ hk);rcases Qh h with ⟨h211,h⟩|⟨h211,h⟩
  ·obtain ⟨x212,h213,h⟩:=Qd h;obtain ⟨x214,h215,h⟩:=Qd h;obtain ⟨x216,h217,h⟩:=Qd h;rcases Qh h with ⟨h218,h⟩|⟨h218,h⟩
   ·obtain ⟨x221,h222,h⟩:=Qd h
    exact rE Qf [(jT [4,5,6,7,8,9,10,11,12,13,14,15],[(7,.at_ (Int.toNat v201)),(8,.idx 0 ((cInt .i64) x212)),(12,.at_ (Int.toNat (wr64 (v201-1)))),(13,.idx 0 ((cInt .i64) x214)),(14,.call (jI x216) [none,some (.box [(.own 2)]),some (.row false 1 (be5.map (cInt .u64))),none]),(16,.bool true)],[]),([],[(8,.at_ (Int.toNat (wr64 (v201-1)))),(9,.idx 0 ((cInt .i64) x214)),(12,.at_ (Int.toNat v201)),(13,.idx 0 ((cInt .i64) x212)),(14,.at_ (Int.toNat v201)),(15,.idx 0 ((cInt .i64) x212)),(16,.at_ (Int.toNat (wr64 (v201-1)))),(17,.idx 0 ((cInt .i64) x221))],[(15,.row 0 ((v202.set (Int.toNat v201) x214).map (cInt .i64))),(17,.row 0 (((v202.set (Int.toNat v201) x214).set (Int.toNat (wr64 (v201-1))) x212).map (cInt .i64)))]),j3] [some true] [] [] [0,1,2,3,8,9] (.norm,(f83r1n2S bb1 bb2 bb3 be5 (wr64 (v201-1)) ((v202.set (Int.toNat v201) x214).set (Int.toNat (wr64 (v201-1))) x212))) (ap4 h211 (ap (Qg h213).1 (ap (Qs (cInt .i64) (Qg h213).2) (ap h211 (ap (Qm (cInt .i64) (Qg h213).2) (ap4 h211 (ap (Qg h215).1 (ap (Qs (cInt .i64) (Qg h215).2) (ap h211 (ap (Qm (cInt .i64) (Qg h215).2) (ap3 h211 (ap (Ql.rn 4 [1,2] (f69r1_ok x212 x214 be5 h217)) (ap h218 (ap (Qg h215).1 (ap (Qs (cInt .i64) (Qg h215).2) (ap (Qm (cInt .i64) (Qg h215).2) (ap (Qg h213).1 (ap (Qs (cInt .i64) (Qg h213).2) (ap (Qm (cInt .i64) (Qg h213).2) (ap (Qg h213).1 (ap (Qs (cInt .i64) (Qg h213).2) (ap (Qm (cInt .i64) (Qg h213).2) (ap (set_cv (xs:=v202) (c:=(cInt .i64)) (k:=(Int.toNat v201)) (x:=x214)) (ap (Qg h222).1 (ap (Qs (cInt .i64) (Qg h222).2) (ap (Qm (cInt .i64) (Qg h222).2) (ap (set_cv (xs:=(v202.set (Int.toNat v201) x214)) (c:=(cInt .i64)) (k:=(Int.toNat (wr64 (v201-1)))) (x:=x212)) an))))))))))))))))))))))))))) (Qp.norm ⟨(wr64 (v201-1)),((v202.set (Int.toNat v201) x214).set (Int.toNat (wr64 (v201-1))) x212),rfl,h⟩)
   ·obtain rfl:=Qe h;exact rK Qf 1 [(jT [4,5,6,7,8,9,10,11,12,13,14,15],[(7,.at_ (Int.toNat v201)),(8,.idx 0 ((cInt .i64) x212)),(12,.at_ (Int.toNat (wr64 (v201-1)))),(13,.idx 0 ((cInt .i64) x214)),(14,.call (jI x216) [none,some (.box [(.own 2)]),some (.row false 1 (be5.map (cInt .u64))),none]),(16,.bool true)],[])] [some false] [] [] [0,1,2,3,8] (.exit 2) ((f83r1n2E bb1 bb2 bb3 be5 (.exit2 v202)).2) (ap4 h211 (ap (Qg h213).1 (ap (Qs (cInt .i64) (Qg h213).2) (ap h211 (ap (Qm (cInt .i64) (Qg h213).2) (ap4 h211 (ap (Qg h215).1 (ap (Qs (cInt .i64) (Qg h215).2) (ap h211 (ap (Qm (cInt .i64) (Qg h215).2) (ap3 h211 (ap (Ql.rn 4 [1,2] (f69r1_ok x212 x214 be5 h217)) (ap h218 an))))))))))))) (Qp.out rfl rfl)
  ·obtain rfl:=Qe h;exact rK Qf 1 [(jF [4,5,6,7,8,9,10,11,12,13,14,15],[(16,.bool false)],[])] [none] [] [] [0,1,2,3,8] (.exit 2) ((f83r1n2E bb1 bb2 bb3 be5 (.exit2 v202)).2) (ap h211 (ap4 h211 (ap4 h211 (ap4 h211 an)))) (Qp.out rfl rfl)
inductive f83r1n1O where
 | norm (v227:List Int)
def f83r1n1E(bb1 bb2 bb3:Int)(be4 be5:List Int):f83r1n1O→Ex×Tr×Hp
 | .norm v227=>(.norm,mkS [(0,(.own 0)),(1,(jI bb1)),(2,(jI bb2)),(3,(.clo 69 [(.bp 1 0)])),(8,(jI bb3))],[some (.row false 1 (v227.map (cInt .i64))),some (.box [(.own 2)]),some (.row false 1 (be5.map (cInt .u64)))])
def f83r1n1S(bb1 bb2 bb3:Int)(be4 be5:List Int):Tr×Hp:=(mkS [(0,(.own 0)),(1,(jI bb1)),(2,(jI bb2)),(3,(.clo 69 [(.bp 1 0)])),(8,(jI bb3))],[some (.row false 1 (be4.map (cInt .i64))),some (.box [(.own 2)]),some (.row false 1 (be5.map (cInt .u64)))])
noncomputable def f83r1n1(bb1 bb2 bb3:Int)(be4 be5:List Int):Option f83r1n1O :=
 (f83r1n2 FUEL bb1 bb2 bb3 be5 bb3 be4).bind fun o224=>match o224 with
 | .exit2 v226=>some (.norm v226)
theorem f83r1n1_ok(bb1 bb2 bb3:Int)(be4 be5:List Int){o:f83r1n1O}(h:f83r1n1 bb1 bb2 bb3 be4 be5=some o):T Try.prog Try.f83.ntmps 3 (cL (Qj 1 (cL (cL (Qj 1 c83))))) (f83r1n1S bb1 bb2 bb3 be4 be5) (·=f83r1n1E bb1 bb2 bb3 be4 be5 o):=by
 unfold f83r1n1 at h;refine T.block' (i:=1) (by kernel_rfl) ?_;refine rN Qf 1 [j3] [] [] [] [0,1,2,3,8,9] (f83r1n2S bb1 bb2 bb3 be5 bb3 be4) an ?_;obtain ⟨o224,h225,h⟩:=Qd h;cases o224 with
 | exit2 v226 =>
  obtain rfl:=Qe h;exact T.last' (T.bl (i:=2) (by kernel_rfl) (by kernel_rfl) (f83r1n2_ok FUEL bb1 bb2 bb3 be5 bb3 be4 h225)) (tds:=[]) (m:=[]) (keep:=[0,1,2,3,8]) (st2:=(f83r1n1E bb1 bb2 bb3 be4 be5 (.norm v226)).2) (by kernel_rfl) an rfl
inductive f83r1n3O where
 | exit0 (v231:List Int)
def f83r1n3E(a1 a2:Int)(a4:List Int):f83r1n3O→Ex×Tr×Hp
 | .exit0 v231=>((.exit 0),mkS [],[some (.row false 1 (v231.map (cInt .i64))),some (.box [(.own 2)]),some (.row false 1 (a4.map (cInt .u64)))])
def f83r1n3S(a1 a2:Int)(a4:List Int)(v155:Int)(v156:List Int):Tr×Hp:=(mkS [(0,(.own 0)),(1,(jI a1)),(2,(jI a2)),(3,(.clo 69 [(.bp 1 0)])),(8,(jI v155))],[some (.row false 1 (v156.map (cInt .i64))),some (.box [(.own 2)]),some (.row false 1 (a4.map (cInt .u64)))])
noncomputable def f83r1n3:Nat→Int→Int→List Int→Int→List Int→Option f83r1n3O
 | 0,_,_,_,_,_=>none
 | f+1,a1,a2,a4,v155,v156 =>
  bif decide (v155<a2) then
   (f83r1n1 a1 a2 v155 v156 a4).bind fun o228=>match o228 with
   | .norm v230=>(f83r1n3 f a1 a2 a4 (wr64 (v155+1)) v230)
  else
   some (.exit0 v156)
theorem f83r1n3_ok:∀(f:Nat)(a1 a2:Int)(a4:List Int)(v155:Int)(v156:List Int){o:f83r1n3O},f83r1n3 f a1 a2 a4 v155 v156=some o→TL Try.prog Try.f83.ntmps 3 f (cL (cL (Qj 1 c83))) (f83r1n3S a1 a2 a4 v155 v156) (·=f83r1n3E a1 a2 a4 o)
 | 0,_,_,_,_,_,o,h=>by rw [f83r1n3] at h; cases h
 | f+1,a1,a2,a4,v155,v156,o,h=>by
  rw [f83r1n3] at h;refine TL.body (K:=fun s=>∃v155:Int,∃v156:List Int,s=(f83r1n3S a1 a2 a4 v155 v156)∧f83r1n3 f a1 a2 a4 v155 v156=some o) ?_ (by rintro _ ⟨v155,v156,rfl,hk⟩; exact f83r1n3_ok f _ _ _ _ _ hk);rcases Qh h with ⟨h158,h⟩|⟨h158,h⟩
  ·refine rN Qf 1 [j3] [some true] [] [] [0,1,2,3,8] (f83r1n1S a1 a2 v155 v156 a4) (ap h158 an) ?_;obtain ⟨o228,h229,h⟩:=Qd h;cases o228 with
   | norm v230 =>
    refine T.oneN (by kernel_rfl) (f83r1n1_ok a1 a2 v155 v156 a4 h229) (st2:=(f83r1n1E a1 a2 v155 v156 a4 (.norm v230)).2) rfl ?_;exact rE Qf [j3] [] [] [] [0,1,2,3,8] (.norm,(f83r1n3S a1 a2 a4 (wr64 (v155+1)) v230)) an (Qp.norm ⟨(wr64 (v155+1)),v230,rfl,h⟩)
  ·obtain rfl:=Qe h;exact rK Qf 1 [j3] [some false] [] [] [] (.exit 0) ((f83r1n3E a1 a2 a4 (.exit0 v156)).2) (ap h158 an) (Qp.out rfl rfl)
inductive f83r1n0O where
 | norm (v235:List Int)
def f83r1n0E(a1 a2:Int)(a3 a4:List Int):f83r1n0O→Ex×Tr×Hp
 | .norm v235=>(.norm,mkS [],[some (.row false 1 (v235.map (cInt .i64))),some (.box [(.own 2)]),some (.row false 1 (a4.map (cInt .u64)))])
def f83r1n0S(a1 a2:Int)(a3 a4:List Int):Tr×Hp:=(Qaa [(.own 0),(jI a1),(jI a2),(.clo 69 [(.bp 1 0)])] 0 .leaf,[some (.row false 1 (a3.map (cInt .i64))),some (.box [(.own 2)]),some (.row false 1 (a4.map (cInt .u64)))])
noncomputable def f83r1n0(a1 a2:Int)(a3 a4:List Int):Option f83r1n0O :=
 (f83r1n3 FUEL a1 a2 a4 (wr64 (a1+1)) a3).bind fun o232=>match o232 with
 | .exit0 v234=>some (.norm v234)
theorem f83r1n0_ok(a1 a2:Int)(a3 a4:List Int){o:f83r1n0O}(h:f83r1n0 a1 a2 a3 a4=some o):T Try.prog Try.f83.ntmps 3 c83 (f83r1n0S a1 a2 a3 a4) (·=f83r1n0E a1 a2 a3 a4 o):=by
 unfold f83r1n0 at h;refine rN Qf 1 [j3] [] [] [] [0,1,2,3,8] (f83r1n3S a1 a2 a4 (wr64 (a1+1)) a3) an ?_;obtain ⟨o232,h233,h⟩:=Qd h;cases o232 with
 | exit0 v234 =>
  obtain rfl:=Qe h;exact T.last' (T.bl (i:=0) (by kernel_rfl) (by kernel_rfl) (f83r1n3_ok FUEL a1 a2 a4 (wr64 (a1+1)) a3 h233)) (tds:=[]) (m:=[]) (keep:=[]) (st2:=(f83r1n0E a1 a2 a3 a4 (.norm v234)).2) (by kernel_rfl) an rfl
noncomputable def f83r1(a1 a2:Int)(a3 a4:List Int):Option (List Int):=(f83r1n0 a1 a2 a3 a4).bind fun o=>match o with
 | .norm v235=>some v235
theorem f83r1_ok(a1 a2:Int)(a3 a4:List Int){r:List Int}(h:f83r1 a1 a2 a3 a4=some r):Ql Try.prog true 83 [(.own 0),(jI a1),(jI a2),(.clo 69 [(.bp 1 0)])] [some (.row false 1 (a3.map (cInt .i64))),some (.box [(.own 2)]),some (.row false 1 (a4.map (cInt .u64)))] (.tup []) [some (.row false 1 (r.map (cInt .i64))),some (.box [(.own 2)]),some (.row false 1 (a4.map (cInt .u64)))]:=by
 unfold f83r1 at h;obtain ⟨o,ho,h⟩:=Qd h;cases o with
 | norm v235 =>
  obtain rfl:=Qe h;exact Ql.shared Qf (f:=Try.f83) (c:=c83) (by kernel_rfl) (by kernel_rfl) (by kernel_rfl) ((f83r1n0_ok a1 a2 a3 a4 ho).mono fun r e=>by subst e; exact ⟨.inr rfl,by kernel_rfl,by kernel_rfl⟩)

noncomputable def c86:Code:=Try.f86.body.getD .skip
inductive f86r1n1O where
 | exit0 (v52:List Int)
def f86r1n1E(a1 a2 a3:Int)(a5:List Int):f86r1n1O→Ex×Tr×Hp
 | .exit0 v52=>((.exit 0),mkS [],[some (.row false 1 (v52.map (cInt .i64))),some (.box [(.own 2)]),some (.row false 1 (a5.map (cInt .u64)))])
def f86r1n1S(a1 a2 a3:Int)(a5:List Int)(v36:Int)(v37:List Int):Tr×Hp:=(mkS [(0,(.own 0)),(1,(jI a1)),(2,(jI a2)),(3,(jI a3)),(10,(jI v36))],[some (.row false 1 (v37.map (cInt .i64))),some (.box [(.own 2)]),some (.row false 1 (a5.map (cInt .u64)))])
noncomputable def f86r1n1:Nat→Int→Int→Int→List Int→Int→List Int→Option f86r1n1O
 | 0,_,_,_,_,_,_=>none
 | f+1,a1,a2,a3,a5,v36,v37 =>
  bif decide (v36<a3) then
   (at? v37 (wr64 (a2+v36))).bind fun x46 =>
   (at? v37 (wr64 (a1+v36))).bind fun x48 =>
   (at? (v37.set (Int.toNat (wr64 (a1+v36))) x46) (wr64 (a2+v36))).bind fun x50 =>
   (f86r1n1 f a1 a2 a3 a5 (wr64 (v36+1)) ((v37.set (Int.toNat (wr64 (a1+v36))) x46).set (Int.toNat (wr64 (a2+v36))) x48))
  else
   some (.exit0 v37)
theorem f86r1n1_ok:∀(f:Nat)(a1 a2 a3:Int)(a5:List Int)(v36:Int)(v37:List Int){o:f86r1n1O},f86r1n1 f a1 a2 a3 a5 v36 v37=some o→TL Try.prog Try.f86.ntmps 3 f (cL (cL (Qj 1 c86))) (f86r1n1S a1 a2 a3 a5 v36 v37) (·=f86r1n1E a1 a2 a3 a5 o)
 | 0,_,_,_,_,_,_,o,h=>by rw [f86r1n1] at h; cases h
 | f+1,a1,a2,a3,a5,v36,v37,o,h=>by
  rw [f86r1n1] at h;refine TL.body (K:=fun s=>∃v36:Int,∃v37:List Int,s=(f86r1n1S a1 a2 a3 a5 v36 v37)∧f86r1n1 f a1 a2 a3 a5 v36 v37=some o) ?_ (by rintro _ ⟨v36,v37,rfl,hk⟩; exact f86r1n1_ok f _ _ _ _ _ _ hk);rcases Qh h with ⟨h39,h⟩|⟨h39,h⟩
  ·obtain ⟨x46,h47,h⟩:=Qd h;obtain ⟨x48,h49,h⟩:=Qd h;obtain ⟨x50,h51,h⟩:=Qd h
   exact rE Qf [j3,([],[(12,.at_ (Int.toNat (wr64 (a2+v36)))),(13,.idx 0 ((cInt .i64) x46)),(18,.at_ (Int.toNat (wr64 (a1+v36)))),(19,.idx 0 ((cInt .i64) x48)),(20,.at_ (Int.toNat (wr64 (a1+v36)))),(21,.idx 0 ((cInt .i64) x48)),(22,.at_ (Int.toNat (wr64 (a2+v36)))),(23,.idx 0 ((cInt .i64) x50))],[(21,.row 0 ((v37.set (Int.toNat (wr64 (a1+v36))) x46).map (cInt .i64))),(23,.row 0 (((v37.set (Int.toNat (wr64 (a1+v36))) x46).set (Int.toNat (wr64 (a2+v36))) x48).map (cInt .i64)))]),j3] [some true] [] [] [0,1,2,3,10] (.norm,(f86r1n1S a1 a2 a3 a5 (wr64 (v36+1)) ((v37.set (Int.toNat (wr64 (a1+v36))) x46).set (Int.toNat (wr64 (a2+v36))) x48))) (ap h39 (ap (Qg h47).1 (ap (Qs (cInt .i64) (Qg h47).2) (ap (Qm (cInt .i64) (Qg h47).2) (ap (Qg h49).1 (ap (Qs (cInt .i64) (Qg h49).2) (ap (Qm (cInt .i64) (Qg h49).2) (ap (Qg h49).1 (ap (Qs (cInt .i64) (Qg h49).2) (ap (Qm (cInt .i64) (Qg h49).2) (ap (set_cv (xs:=v37) (c:=(cInt .i64)) (k:=(Int.toNat (wr64 (a1+v36)))) (x:=x46)) (ap (Qg h51).1 (ap (Qs (cInt .i64) (Qg h51).2) (ap (Qm (cInt .i64) (Qg h51).2) (ap (set_cv (xs:=(v37.set (Int.toNat (wr64 (a1+v36))) x46)) (c:=(cInt .i64)) (k:=(Int.toNat (wr64 (a2+v36)))) (x:=x48)) an))))))))))))))) (Qp.norm ⟨(wr64 (v36+1)),((v37.set (Int.toNat (wr64 (a1+v36))) x46).set (Int.toNat (wr64 (a2+v36))) x48),rfl,h⟩)
  ·obtain rfl:=Qe h;exact rK Qf 1 [j3] [some false] [] [] [] (.exit 0) ((f86r1n1E a1 a2 a3 a5 (.exit0 v37)).2) (ap h39 an) (Qp.out rfl rfl)
inductive f86r1n0O where
 | norm (v56:List Int)
def f86r1n0E(a1 a2 a3:Int)(a4 a5:List Int):f86r1n0O→Ex×Tr×Hp
 | .norm v56=>(.norm,mkS [],[some (.row false 1 (v56.map (cInt .i64))),some (.box [(.own 2)]),some (.row false 1 (a5.map (cInt .u64)))])
def f86r1n0S(a1 a2 a3:Int)(a4 a5:List Int):Tr×Hp:=(Qaa [(.own 0),(jI a1),(jI a2),(jI a3),(.clo 69 [(.bp 1 0)])] 0 .leaf,[some (.row false 1 (a4.map (cInt .i64))),some (.box [(.own 2)]),some (.row false 1 (a5.map (cInt .u64)))])
noncomputable def f86r1n0(a1 a2 a3:Int)(a4 a5:List Int):Option f86r1n0O :=
 (f86r1n1 FUEL a1 a2 a3 a5 0 a4).bind fun o53=>match o53 with
 | .exit0 v55=>some (.norm v55)
theorem f86r1n0_ok(a1 a2 a3:Int)(a4 a5:List Int){o:f86r1n0O}(h:f86r1n0 a1 a2 a3 a4 a5=some o):T Try.prog Try.f86.ntmps 3 c86 (f86r1n0S a1 a2 a3 a4 a5) (·=f86r1n0E a1 a2 a3 a4 a5 o):=by
 unfold f86r1n0 at h;refine rN Qf 1 [j3] [] [] [] [0,1,2,3,10] (f86r1n1S a1 a2 a3 a5 0 a4) an ?_;obtain ⟨o53,h54,h⟩:=Qd h;cases o53 with
 | exit0 v55 =>
  obtain rfl:=Qe h;exact T.last' (T.bl (i:=0) (by kernel_rfl) (by kernel_rfl) (f86r1n1_ok FUEL a1 a2 a3 a5 0 a4 h54)) (tds:=[]) (m:=[]) (keep:=[]) (st2:=(f86r1n0E a1 a2 a3 a4 a5 (.norm v55)).2) (by kernel_rfl) an rfl
noncomputable def f86r1(a1 a2 a3:Int)(a4 a5:List Int):Option (List Int):=(f86r1n0 a1 a2 a3 a4 a5).bind fun o=>match o with
 | .norm v56=>some v56
theorem f86r1_ok(a1 a2 a3:Int)(a4 a5:List Int){r:List Int}(h:f86r1 a1 a2 a3 a4 a5=some r):Ql Try.prog true 86 [(.own 0),(jI a1),(jI a2),(jI a3),(.clo 69 [(.bp 1 0)])] [some (.row false 1 (a4.map (cInt .i64))),some (.box [(.own 2)]),some (.row false 1 (a5.map (cInt .u64)))] (.tup []) [some (.row false 1 (r.map (cInt .i64))),some (.box [(.own 2)]),some (.row false 1 (a5.map (cInt .u64)))]:=by
 unfold f86r1 at h;obtain ⟨o,ho,h⟩:=Qd h;cases o with
 | norm v56 =>
  obtain rfl:=Qe h;exact Ql.shared Qf (f:=Try.f86) (c:=c86) (by kernel_rfl) (by kernel_rfl) (by kernel_rfl) ((f86r1n0_ok a1 a2 a3 a4 a5 ho).mono fun r e=>by subst e; exact ⟨.inr rfl,by kernel_rfl,by kernel_rfl⟩)

noncomputable def c85:Code:=Try.f85.body.getD .skip
inductive f85r1n1O where
 | exit0 (v48:Int) (v49:List Int)
def f85r1n1E(a2:Int)(a5:List Int):f85r1n1O→Ex×Tr×Hp
 | .exit0 v48 v49=>((.exit 0),mkS [(0,(.own 0)),(2,(jI a2)),(4,(.clo 69 [(.bp 1 0)])),(10,(jI v48))],[some (.row false 1 (v49.map (cInt .i64))),some (.box [(.own 2)]),some (.row false 1 (a5.map (cInt .u64)))])
def f85r1n1S(a2:Int)(a5:List Int)(v33 v34:Int)(v35:List Int):Tr×Hp:=(mkS [(0,(.own 0)),(2,(jI a2)),(4,(.clo 69 [(.bp 1 0)])),(10,(jI v33)),(11,(jI v34))],[some (.row false 1 (v35.map (cInt .i64))),some (.box [(.own 2)]),some (.row false 1 (a5.map (cInt .u64)))])
noncomputable def f85r1n1:Nat→Int→List Int→Int→Int→List Int→Option f85r1n1O
 | 0,_,_,_,_,_=>none
 | f+1,a2,a5,v33,v34,v35 =>
  bif decide (v33=v34) then
   some (.exit0 v33 v35)
  else
   bif decide (v34<v33) then
    (f86r1 (wr64 (a2-v33)) a2 v34 v35 a5).bind fun x44 =>
    (f85r1n1 f a2 a5 (wr64 (v33-v34)) v34 x44)
   else
    (f86r1 (wr64 (a2-v33)) (wr64 ((wr64 (a2+v34))-v33)) v33 v35 a5).bind fun x46 =>
    (f85r1n1 f a2 a5 v33 (wr64 (v34-v33)) x46)
theorem f85r1n1_ok:∀(f:Nat)(a2:Int)(a5:List Int)(v33 v34:Int)(v35:List Int){o:f85r1n1O},f85r1n1 f a2 a5 v33 v34 v35=some o→TL Try.prog Try.f85.ntmps 3 f (cL (cL (cL (Qj 2 c85)))) (f85r1n1S a2 a5 v33 v34 v35) (·=f85r1n1E a2 a5 o)
 | 0,_,_,_,_,_,o,h=>by rw [f85r1n1] at h; cases h
 | f+1,a2,a5,v33,v34,v35,o,h=>by
  rw [f85r1n1] at h;refine TL.body (K:=fun s=>∃v33:Int,∃v34:Int,∃v35:List Int,s=(f85r1n1S a2 a5 v33 v34 v35)∧f85r1n1 f a2 a5 v33 v34 v35=some o) ?_ (by rintro _ ⟨v33,v34,v35,rfl,hk⟩; exact f85r1n1_ok f _ _ _ _ _ hk);rcases Qh h with ⟨h37,h⟩|⟨h37,h⟩
  ·obtain rfl:=Qe h;exact rK Qf 1 [j3] [some false] [] [] [0,2,4,10] (.exit 0) ((f85r1n1E a2 a5 (.exit0 v33 v35)).2) (ap (Qaf h37) an) (Qp.out rfl rfl)
  ·rcases Qh h with ⟨h43,h⟩|⟨h43,h⟩
   ·obtain ⟨x44,h45,h⟩:=Qd h;exact rE Qf [j3,j3,([],[(7,.call (.tup []) [some (.row false 1 (x44.map (cInt .i64))),some (.box [(.own 2)]),some (.row false 1 (a5.map (cInt .u64)))])],[]),j3] [some true,some true] [] [] [0,2,4,10,11] (.norm,(f85r1n1S a2 a5 (wr64 (v33-v34)) v34 x44)) (ap (Qao h37) (ap h43 (ap (f86r1_ok (wr64 (a2-v33)) a2 v34 v35 a5 h45) an))) (Qp.norm ⟨(wr64 (v33-v34)),v34,x44,rfl,h⟩)
   ·obtain ⟨x46,h47,h⟩:=Qd h;exact rE Qf [j3,j3,([],[(11,.call (.tup []) [some (.row false 1 (x46.map (cInt .i64))),some (.box [(.own 2)]),some (.row false 1 (a5.map (cInt .u64)))])],[]),j3] [some true,some false] [] [] [0,2,4,10,11] (.norm,(f85r1n1S a2 a5 v33 (wr64 (v34-v33)) x46)) (ap (Qao h37) (ap h43 (ap (f86r1_ok (wr64 (a2-v33)) (wr64 ((wr64 (a2+v34))-v33)) v33 v35 a5 h47) an))) (Qp.norm ⟨v33,(wr64 (v34-v33)),x46,rfl,h⟩)
inductive f85r1n0O where
 | norm (v58:List Int)
def f85r1n0E(a1 a2 a3:Int)(a4 a5:List Int):f85r1n0O→Ex×Tr×Hp
 | .norm v58=>(.norm,mkS [],[some (.row false 1 (v58.map (cInt .i64))),some (.box [(.own 2)]),some (.row false 1 (a5.map (cInt .u64)))])
def f85r1n0S(a1 a2 a3:Int)(a4 a5:List Int):Tr×Hp:=(Qaa [(.own 0),(jI a1),(jI a2),(jI a3),(.clo 69 [(.bp 1 0)])] 0 .leaf,[some (.row false 1 (a4.map (cInt .i64))),some (.box [(.own 2)]),some (.row false 1 (a5.map (cInt .u64)))])
noncomputable def f85r1n0(a1 a2 a3:Int)(a4 a5:List Int):Option f85r1n0O :=
 (f85r1n1 FUEL a2 a5 (wr64 (a2-a1)) (wr64 (a3-a2)) a4).bind fun o50=>match o50 with
 | .exit0 v52 v53=>(f86r1 (wr64 (a2-v52)) a2 v52 v53 a5).bind fun x56 =>
  some (.norm x56)
theorem f85r1n0_ok(a1 a2 a3:Int)(a4 a5:List Int){o:f85r1n0O}(h:f85r1n0 a1 a2 a3 a4 a5=some o):T Try.prog Try.f85.ntmps 3 c85 (f85r1n0S a1 a2 a3 a4 a5) (·=f85r1n0E a1 a2 a3 a4 a5 o):=by
 unfold f85r1n0 at h;refine rN Qf 2 [j3,j3] [] [] [] [0,2,4,10,11] (f85r1n1S a2 a5 (wr64 (a2-a1)) (wr64 (a3-a2)) a4) an ?_;obtain ⟨o50,h51,h⟩:=Qd h;cases o50 with
 | exit0 v52 v53 =>
  refine T.oneN (by kernel_rfl) (T.bl (i:=0) (by kernel_rfl) (by kernel_rfl) (f85r1n1_ok FUEL a2 a5 (wr64 (a2-a1)) (wr64 (a3-a2)) a4 h51)) (st2:=(f85r1n1E a2 a5 (.exit0 v52 v53)).2) rfl ?_;obtain ⟨x56,h57,h⟩:=Qd h;obtain rfl:=Qe h;exact rE Qf [([],[(7,.call (.tup []) [some (.row false 1 (x56.map (cInt .i64))),some (.box [(.own 2)]),some (.row false 1 (a5.map (cInt .u64)))])],[])] [] [] [] [] (.norm,(f85r1n0E a1 a2 a3 a4 a5 (.norm x56)).2) (ap (f86r1_ok (wr64 (a2-v52)) a2 v52 v53 a5 h57) an) rfl
noncomputable def f85r1(a1 a2 a3:Int)(a4 a5:List Int):Option (List Int):=(f85r1n0 a1 a2 a3 a4 a5).bind fun o=>match o with
 | .norm v58=>some v58
theorem f85r1_ok(a1 a2 a3:Int)(a4 a5:List Int){r:List Int}(h:f85r1 a1 a2 a3 a4 a5=some r):Ql Try.prog true 85 [(.own 0),(jI a1),(jI a2),(jI a3),(.clo 69 [(.bp 1 0)])] [some (.row false 1 (a4.map (cInt .i64))),some (.box [(.own 2)]),some (.row false 1 (a5.map (cInt .u64)))] (.tup []) [some (.row false 1 (r.map (cInt .i64))),some (.box [(.own 2)]),some (.row false 1 (a5.map (cInt .u64)))]:=by
 unfold f85r1 at h;obtain ⟨o,ho,h⟩:=Qd h;cases o with
 | norm v58 =>
  obtain rfl:=Qe h;exact Ql.shared Qf (f:=Try.f85) (c:=c85) (by kernel_rfl) (by kernel_rfl) (by kernel_rfl) ((f85r1n0_ok a1 a2 a3 a4 a5 ho).mono fun r e=>by subst e; exact ⟨.inr rfl,by kernel_rfl,by kernel_rfl⟩)

noncomputable def c84:Code:=Try.f84.body.getD .skip
inductive f84r1n3O where
 | exit0 (v59:Int)
def f84r1n3E(bb1:Int)(be4 be5:List Int):f84r1n3O→Ex×Tr×Hp
 | .exit0 v59=>((.exit 0),mkS [(0,(.own 0)),(1,(jI bb1)),(10,(jI v59))],[some (.row false 1 (be4.map (cInt .i64))),some (.box [(.own 2)]),some (.row false 1 (be5.map (cInt .u64)))])
def f84r1n3S(bb1:Int)(be4 be5:List Int)(v41 v42:Int):Tr×Hp:=(mkS [(0,(.own 0)),(1,(jI bb1)),(4,(.clo 69 [(.bp 1 0)])),(10,(jI v41)),(11,(jI v42))],[some (.row false 1 (be4.map (cInt .i64))),some (.box [(.own 2)]),some (.row false 1 (be5.map (cInt .u64)))])
noncomputable def f84r1n3 (self:(Int→Int→Int→List Int→List Int→Option (List Int))):Nat→Int→List Int→List Int→Int→Int→Option f84r1n3O
 | 0,_,_,_,_,_=>none
 | f+1,bb1,be4,be5,v41,v42 =>
  bif decide (v41<v42) then
   (at? be4 (wr64 (shrK .u64 (Qi (wr64 (v41+v42))) 1))).bind fun x52 =>
   (at? be4 bb1).bind fun x54 =>
   (f69r1 x52 x54 be5).bind fun x56 =>
   bif decide (x56<0) then
    (f84r1n3 self f bb1 be4 be5 (wr64 ((wr64 (shrK .u64 (Qi (wr64 (v41+v42))) 1))+1)) v42)
   else
    (f84r1n3 self f bb1 be4 be5 v41 (wr64 (shrK .u64 (Qi (wr64 (v41+v42))) 1)))
  else
   some (.exit0 v41)
theorem f84r1n3_ok {self:(Int→Int→Int→List Int→List Int→Option (List Int))} (self_ok:(∀(a1 a2 a3:Int)(a4 a5:List Int){r:List Int},self a1 a2 a3 a4 a5=some r→Ql Try.prog true 84 [(.own 0),(jI a1),(jI a2),(jI a3),(.clo 69 [(.bp 1 0)])] [some (.row false 1 (a4.map (cInt .i64))),some (.box [(.own 2)]),some (.row false 1 (a5.map (cInt .u64)))] (.tup []) [some (.row false 1 (r.map (cInt .i64))),some (.box [(.own 2)]),some (.row false 1 (a5.map (cInt .u64)))])):∀(f:Nat)(bb1:Int)(be4 be5:List Int)(v41 v42:Int){o:f84r1n3O},f84r1n3 self f bb1 be4 be5 v41 v42=some o→TL Try.prog Try.f84.ntmps 3 f (cL (cL (cL (Qj 2 (cL (Qj 1 (cL (Qj 0 c84)))))))) (f84r1n3S bb1 be4 be5 v41 v42) (·=f84r1n3E bb1 be4 be5 o)
 | 0,_,_,_,_,_,o,h=>by rw [f84r1n3] at h; cases h
 | f+1,bb1,be4,be5,v41,v42,o,h=>by
  rw [f84r1n3] at h;refine TL.body (K:=fun s=>∃v41:Int,∃v42:Int,s=(f84r1n3S bb1 be4 be5 v41 v42)∧f84r1n3 self f bb1 be4 be5 v41 v42=some o) ?_ (by rintro _ ⟨v41,v42,rfl,hk⟩; exact f84r1n3_ok self_ok f _ _ _ _ _ hk);rcases Qh h with ⟨h44,h⟩|⟨h44,h⟩
  ·obtain ⟨x52,h53,h⟩:=Qd h;obtain ⟨x54,h55,h⟩:=Qd h;obtain ⟨x56,h57,h⟩:=Qd h;rcases Qh h with ⟨h58,h⟩|⟨h58,h⟩
   ·exact rE Qf [j3,j3,([],[(3,.at_ (Int.toNat (wr64 (shrK .u64 (Qi (wr64 (v41+v42))) 1)))),(4,.idx 0 ((cInt .i64) x52)),(7,.at_ (Int.toNat bb1)),(8,.idx 0 ((cInt .i64) x54)),(9,.call (jI x56) [none,some (.box [(.own 2)]),some (.row false 1 (be5.map (cInt .u64))),none])],[]),j3] [some true,some true] [] [] [0,1,4,10,11] (.norm,(f84r1n3S bb1 be4 be5 (wr64 ((wr64 (shrK .u64 (Qi (wr64 (v41+v42))) 1))+1)) v42)) (ap h44 (ap (Qg h53).1 (ap (Qs (cInt .i64) (Qg h53).2) (ap (Qm (cInt .i64) (Qg h53).2) (ap (Qg h55).1 (ap (Qs (cInt .i64) (Qg h55).2) (ap (Qm (cInt .i64) (Qg h55).2) (ap (Ql.rn 4 [1,2] (f69r1_ok x52 x54 be5 h57)) (ap h58 an))))))))) (Qp.norm ⟨(wr64 ((wr64 (shrK .u64 (Qi (wr64 (v41+v42))) 1))+1)),v42,rfl,h⟩)
   ·exact rE Qf [j3,j3,([],[(3,.at_ (Int.toNat (wr64 (shrK .u64 (Qi (wr64 (v41+v42))) 1)))),(4,.idx 0 ((cInt .i64) x52)),(7,.at_ (Int.toNat bb1)),(8,.idx 0 ((cInt .i64) x54)),(9,.call (jI x56) [none,some (.box [(.own 2)]),some (.row false 1 (be5.map (cInt .u64))),none])],[]),j3] [some true,some false] [] [] [0,1,4,10,11] (.norm,(f84r1n3S bb1 be4 be5 v41 (wr64 (shrK .u64 (Qi (wr64 (v41+v42))) 1)))) (ap h44 (ap (Qg h53).1 (ap (Qs (cInt .i64) (Qg h53).2) (ap (Qm (cInt .i64) (Qg h53).2) (ap (Qg h55).1 (ap (Qs (cInt .i64) (Qg h55).2) (ap (Qm (cInt .i64) (Qg h55).2) (ap (Ql.rn 4 [1,2] (f69r1_ok x52 x54 be5 h57)) (ap h58 an))))))))) (Qp.norm ⟨v41,(wr64 (shrK .u64 (Qi (wr64 (v41+v42))) 1)),rfl,h⟩)
  ·obtain rfl:=Qe h;exact rK Qf 1 [j3] [some false] [] [] [0,1,10] (.exit 0) ((f84r1n3E bb1 be4 be5 (.exit0 v41)).2) (ap h44 an) (Qp.out rfl rfl)
inductive f84r1n5O where
 | exit2 (v109:List Int)
def f84r1n5E(bb2:Int)(be4:List Int):f84r1n5O→Ex×Tr×Hp
 | .exit2 v109=>((.exit 2),mkS [],[some (.row false 1 (v109.map (cInt .i64))),some (.box [(.own 2)]),some (.row false 1 (be4.map (cInt .u64)))])
def f84r1n5S(bb2:Int)(be4:List Int)(v93:Int)(v94:List Int):Tr×Hp:=(mkS [(0,(.own 0)),(10,(jI bb2)),(13,(jI v93))],[some (.row false 1 (v94.map (cInt .i64))),some (.box [(.own 2)]),some (.row false 1 (be4.map (cInt .u64)))])
noncomputable def f84r1n5 (self:(Int→Int→Int→List Int→List Int→Option (List Int))):Nat→Int→List Int→Int→List Int→Option f84r1n5O
 | 0,_,_,_,_=>none
 | f+1,bb2,be4,v93,v94 =>
  bif (decide (v93<(wr64 (bb2-1)))) then
   (at? v94 (wr64 (v93+1))).bind fun x103 =>
   (at? v94 v93).bind fun x105 =>
   (at? (v94.set (Int.toNat v93) x103) (wr64 (v93+1))).bind fun x107 =>
   (f84r1n5 self f bb2 be4 (wr64 (v93+1)) ((v94.set (Int.toNat v93) x103).set (Int.toNat (wr64 (v93+1))) x105))
  else
   some (.exit2 v94)
theorem f84r1n5_ok {self:(Int→Int→Int→List Int→List Int→Option (List Int))} (self_ok:(∀(a1 a2 a3:Int)(a4 a5:List Int){r:List Int},self a1 a2 a3 a4 a5=some r→Ql Try.prog true 84 [(.own 0),(jI a1),(jI a2),(jI a3),(.clo 69 [(.bp 1 0)])] [some (.row false 1 (a4.map (cInt .i64))),some (.box [(.own 2)]),some (.row false 1 (a5.map (cInt .u64)))] (.tup []) [some (.row false 1 (r.map (cInt .i64))),some (.box [(.own 2)]),some (.row false 1 (a5.map (cInt .u64)))])):∀(f:Nat)(bb2:Int)(be4:List Int)(v93:Int)(v94:List Int){o:f84r1n5O},f84r1n5 self f bb2 be4 v93 v94=some o→TL Try.prog Try.f84.ntmps 3 f (cL (cL (Qj 1 (cL (Qj 0 (Qj 1 (Qj 2 (cL (Qj 1 (cL (Qj 0 c84))))))))))) (f84r1n5S bb2 be4 v93 v94) (·=f84r1n5E bb2 be4 o)
 | 0,_,_,_,_,o,h=>by rw [f84r1n5] at h; cases h
 | f+1,bb2,be4,v93,v94,o,h=>by
  rw [f84r1n5] at h;refine TL.body (K:=fun s=>∃v93:Int,∃v94:List Int,s=(f84r1n5S bb2 be4 v93 v94)∧f84r1n5 self f bb2 be4 v93 v94=some o) ?_ (by rintro _ ⟨v93,v94,rfl,hk⟩; exact f84r1n5_ok self_ok f _ _ _ _ hk);rcases Qh h with ⟨h96,h⟩|⟨h96,h⟩
  ·obtain ⟨x103,h104,h⟩:=Qd h;obtain ⟨x105,h106,h⟩:=Qd h;obtain ⟨x107,h108,h⟩:=Qd h
   exact rE Qf [j3,([],[(8,.at_ (Int.toNat (wr64 (v93+1)))),(9,.idx 0 ((cInt .i64) x103)),(12,.at_ (Int.toNat v93)),(13,.idx 0 ((cInt .i64) x105)),(14,.at_ (Int.toNat v93)),(15,.idx 0 ((cInt .i64) x105)),(16,.at_ (Int.toNat (wr64 (v93+1)))),(17,.idx 0 ((cInt .i64) x107))],[(15,.row 0 ((v94.set (Int.toNat v93) x103).map (cInt .i64))),(17,.row 0 (((v94.set (Int.toNat v93) x103).set (Int.toNat (wr64 (v93+1))) x105).map (cInt .i64)))]),j3] [some true] [] [] [0,10,13] (.norm,(f84r1n5S bb2 be4 (wr64 (v93+1)) ((v94.set (Int.toNat v93) x103).set (Int.toNat (wr64 (v93+1))) x105))) (ap h96 (ap (Qg h104).1 (ap (Qs (cInt .i64) (Qg h104).2) (ap (Qm (cInt .i64) (Qg h104).2) (ap (Qg h106).1 (ap (Qs (cInt .i64) (Qg h106).2) (ap (Qm (cInt .i64) (Qg h106).2) (ap (Qg h106).1 (ap (Qs (cInt .i64) (Qg h106).2) (ap (Qm (cInt .i64) (Qg h106).2) (ap (set_cv (xs:=v94) (c:=(cInt .i64)) (k:=(Int.toNat v93)) (x:=x103)) (ap (Qg h108).1 (ap (Qs (cInt .i64) (Qg h108).2) (ap (Qm (cInt .i64) (Qg h108).2) (ap (set_cv (xs:=(v94.set (Int.toNat v93) x103)) (c:=(cInt .i64)) (k:=(Int.toNat (wr64 (v93+1)))) (x:=x105)) an))))))))))))))) (Qp.norm ⟨(wr64 (v93+1)),((v94.set (Int.toNat v93) x103).set (Int.toNat (wr64 (v93+1))) x105),rfl,h⟩)
  ·obtain rfl:=Qe h;exact rK Qf 1 [j3] [some false] [] [] [] (.exit 2) ((f84r1n5E bb2 be4 (.exit2 v94)).2) (ap h96 an) (Qp.out rfl rfl)
inductive f84r1n4O where
 | norm (v113:List Int)
def f84r1n4E(bb1 bb2:Int)(be3 be4:List Int):f84r1n4O→Ex×Tr×Hp
 | .norm v113=>(.norm,mkS [],[some (.row false 1 (v113.map (cInt .i64))),some (.box [(.own 2)]),some (.row false 1 (be4.map (cInt .u64)))])
def f84r1n4S(bb1 bb2:Int)(be3 be4:List Int):Tr×Hp:=(mkS [(0,(.own 0)),(1,(jI bb1)),(10,(jI bb2))],[some (.row false 1 (be3.map (cInt .i64))),some (.box [(.own 2)]),some (.row false 1 (be4.map (cInt .u64)))])
noncomputable def f84r1n4 (self:(Int→Int→Int→List Int→List Int→Option (List Int))) (bb1:Int) (bb2:Int) (be3:List Int) (be4:List Int):Option f84r1n4O :=
 (f84r1n5 self FUEL bb2 be4 bb1 be3).bind fun o110=>match o110 with
 | .exit2 v112=>some (.norm v112)
theorem f84r1n4_ok {self:(Int→Int→Int→List Int→List Int→Option (List Int))} (self_ok:(∀(a1 a2 a3:Int)(a4 a5:List Int){r:List Int},self a1 a2 a3 a4 a5=some r→Ql Try.prog true 84 [(.own 0),(jI a1),(jI a2),(jI a3),(.clo 69 [(.bp 1 0)])] [some (.row false 1 (a4.map (cInt .i64))),some (.box [(.own 2)]),some (.row false 1 (a5.map (cInt .u64)))] (.tup []) [some (.row false 1 (r.map (cInt .i64))),some (.box [(.own 2)]),some (.row false 1 (a5.map (cInt .u64)))])) (bb1:Int) (bb2:Int) (be3:List Int) (be4:List Int) {o:f84r1n4O} (h:f84r1n4 self bb1 bb2 be3 be4=some o):T Try.prog Try.f84.ntmps 3 (cL (Qj 0 (Qj 1 (Qj 2 (cL (Qj 1 (cL (Qj 0 c84)))))))) (f84r1n4S bb1 bb2 be3 be4) (·=f84r1n4E bb1 bb2 be3 be4 o):=by
 unfold f84r1n4 at h;refine rN Qf 1 [j3] [] [] [] [0,10,13] (f84r1n5S bb2 be4 bb1 be3) an ?_;obtain ⟨o110,h111,h⟩:=Qd h;cases o110 with
 | exit2 v112 =>
  obtain rfl:=Qe h;exact T.last' (T.bl (i:=2) (by kernel_rfl) (by kernel_rfl) (f84r1n5_ok self_ok FUEL bb2 be4 bb1 be3 h111)) (tds:=[]) (m:=[]) (keep:=[]) (st2:=(f84r1n4E bb1 bb2 be3 be4 (.norm v112)).2) (by kernel_rfl) an rfl
inductive f84r1n2O where
 | norm
 | ret (v117:List Int)
def f84r1n2E(bb1 bb2 bb3:Int)(be4 be5:List Int):f84r1n2O→Ex×Tr×Hp
 | .norm=>(.norm,mkS [(0,(.own 0)),(1,(jI bb1)),(2,(jI bb2)),(3,(jI bb3)),(4,(.clo 69 [(.bp 1 0)]))],[some (.row false 1 (be4.map (cInt .i64))),some (.box [(.own 2)]),some (.row false 1 (be5.map (cInt .u64)))])
 | .ret v117=>(.ret,mkS [],[some (.row false 1 (v117.map (cInt .i64))),some (.box [(.own 2)]),some (.row false 1 (be5.map (cInt .u64)))])
def f84r1n2S(bb1 bb2 bb3:Int)(be4 be5:List Int):Tr×Hp:=(mkS [(0,(.own 0)),(1,(jI bb1)),(2,(jI bb2)),(3,(jI bb3)),(4,(.clo 69 [(.bp 1 0)])),(28,(.pl (.bool (decide ((wr64 (bb2-bb1))=1)))))],[some (.row false 1 (be4.map (cInt .i64))),some (.box [(.own 2)]),some (.row false 1 (be5.map (cInt .u64)))])
noncomputable def f84r1n2 (self:(Int→Int→Int→List Int→List Int→Option (List Int))) (bb1:Int) (bb2:Int) (bb3:Int) (be4:List Int) (be5:List Int):Option f84r1n2O :=
 bif (decide ((wr64 (bb2-bb1))=1)) then
  (f84r1n3 self FUEL bb1 be4 be5 bb2 bb3).bind fun o60=>match o60 with
  | .exit0 v62=>(f84r1n4 self bb1 v62 be4 be5).bind fun o114=>match o114 with
   | .norm v116=>some (.ret v116)
 else
  some .norm
theorem f84r1n2_ok {self:(Int→Int→Int→List Int→List Int→Option (List Int))} (self_ok:(∀(a1 a2 a3:Int)(a4 a5:List Int){r:List Int},self a1 a2 a3 a4 a5=some r→Ql Try.prog true 84 [(.own 0),(jI a1),(jI a2),(jI a3),(.clo 69 [(.bp 1 0)])] [some (.row false 1 (a4.map (cInt .i64))),some (.box [(.own 2)]),some (.row false 1 (a5.map (cInt .u64)))] (.tup []) [some (.row false 1 (r.map (cInt .i64))),some (.box [(.own 2)]),some (.row false 1 (a5.map (cInt .u64)))])) (bb1:Int) (bb2:Int) (bb3:Int) (be4:List Int) (be5:List Int) {o:f84r1n2O} (h:f84r1n2 self bb1 bb2 bb3 be4 be5=some o):T Try.prog Try.f84.ntmps 3 (Qj 1 (cL (Qj 0 c84))) (f84r1n2S bb1 bb2 bb3 be4 be5) (·=f84r1n2E bb1 bb2 bb3 be4 be5 o):=by
 unfold f84r1n2 at h;rcases Qh h with ⟨h6,h⟩|⟨h6,h⟩
 ·refine T.condT (o:=.tmp 28) (b:=(decide ((wr64 (bb2-bb1))=1))) (by kernel_rfl) (by kernel_rfl) h6 ?_;refine rN Qf 2 [j3,j3] [] [] [] [0,1,4,10,11] (f84r1n3S bb1 be4 be5 bb2 bb3) an ?_;obtain ⟨o60,h61,h⟩:=Qd h;cases o60 with
  | exit0 v62 =>
   refine T.oneN (by kernel_rfl) (T.bl (i:=0) (by kernel_rfl) (by kernel_rfl) (f84r1n3_ok self_ok FUEL bb1 be4 be5 bb2 bb3 h61)) (st2:=(f84r1n3E bb1 be4 be5 (.exit0 v62)).2) rfl ?_;refine rN Qf 0 [] [] [] [] [0,1,10] (f84r1n4S bb1 v62 be4 be5) an ?_;obtain ⟨o114,h115,h⟩:=Qd h;cases o114 with
   | norm v116 =>
    refine T.oneN (by kernel_rfl) (f84r1n4_ok self_ok bb1 v62 be4 be5 h115) (st2:=(f84r1n4E bb1 v62 be4 be5 (.norm v116)).2) rfl ?_;obtain rfl:=Qe h;exact rE Qf [] [] [] [] [] (.ret,(f84r1n2E bb1 bb2 bb3 be4 be5 (.ret v116)).2) an rfl
 ·refine T.condF (o:=.tmp 28) (b:=(decide ((wr64 (bb2-bb1))=1))) (by kernel_rfl) (by kernel_rfl) h6 ?_;obtain rfl:=Qe h;exact rE Qf [] [] [] [] [0,1,2,3,4] (.norm,(f84r1n2E bb1 bb2 bb3 be4 be5 .norm).2) an rfl
inductive f84r1n1O where
 | norm
 | ret (v121:List Int)
def f84r1n1E(bb1 bb2 bb3:Int)(be4 be5:List Int):f84r1n1O→Ex×Tr×Hp
 | .norm=>(.norm,mkS [(0,(.own 0)),(1,(jI bb1)),(2,(jI bb2)),(3,(jI bb3)),(4,(.clo 69 [(.bp 1 0)]))],[some (.row false 1 (be4.map (cInt .i64))),some (.box [(.own 2)]),some (.row false 1 (be5.map (cInt .u64)))])
 | .ret v121=>(.ret,mkS [],[some (.row false 1 (v121.map (cInt .i64))),some (.box [(.own 2)]),some (.row false 1 (be5.map (cInt .u64)))])
def f84r1n1S(bb1 bb2 bb3:Int)(be4 be5:List Int):Tr×Hp:=(mkS [(0,(.own 0)),(1,(jI bb1)),(2,(jI bb2)),(3,(jI bb3)),(4,(.clo 69 [(.bp 1 0)]))],[some (.row false 1 (be4.map (cInt .i64))),some (.box [(.own 2)]),some (.row false 1 (be5.map (cInt .u64)))])
noncomputable def f84r1n1 (self:(Int→Int→Int→List Int→List Int→Option (List Int))) (bb1:Int) (bb2:Int) (bb3:Int) (be4:List Int) (be5:List Int):Option f84r1n1O :=
 (f84r1n2 self bb1 bb2 bb3 be4 be5).bind fun o118=>match o118 with
 | .norm=>some .norm
 | .ret v120=>some (.ret v120)
theorem f84r1n1_ok {self:(Int→Int→Int→List Int→List Int→Option (List Int))} (self_ok:(∀(a1 a2 a3:Int)(a4 a5:List Int){r:List Int},self a1 a2 a3 a4 a5=some r→Ql Try.prog true 84 [(.own 0),(jI a1),(jI a2),(jI a3),(.clo 69 [(.bp 1 0)])] [some (.row false 1 (a4.map (cInt .i64))),some (.box [(.own 2)]),some (.row false 1 (a5.map (cInt .u64)))] (.tup []) [some (.row false 1 (r.map (cInt .i64))),some (.box [(.own 2)]),some (.row false 1 (a5.map (cInt .u64)))])) (bb1:Int) (bb2:Int) (bb3:Int) (be4:List Int) (be5:List Int) {o:f84r1n1O} (h:f84r1n1 self bb1 bb2 bb3 be4 be5=some o):T Try.prog Try.f84.ntmps 3 (cL (Qj 0 c84)) (f84r1n1S bb1 bb2 bb3 be4 be5) (·=f84r1n1E bb1 bb2 bb3 be4 be5 o):=by
 unfold f84r1n1 at h;refine rN Qf 1 [j3] [] [] [] [0,1,2,3,4,28] (f84r1n2S bb1 bb2 bb3 be4 be5) an ?_;obtain ⟨o118,h119,h⟩:=Qd h;cases o118 with
 | norm =>
  obtain rfl:=Qe h;exact T.last' (f84r1n2_ok self_ok bb1 bb2 bb3 be4 be5 h119) (tds:=[]) (m:=[]) (keep:=[0,1,2,3,4]) (st2:=(f84r1n1E bb1 bb2 bb3 be4 be5 .norm).2) (by kernel_rfl) an rfl
 | ret v120 =>
  obtain rfl:=Qe h;exact T.last' (f84r1n2_ok self_ok bb1 bb2 bb3 be4 be5 h119) (tds:=[]) (m:=[]) (keep:=[]) (st2:=(f84r1n1E bb1 bb2 bb3 be4 be5 (.ret v120)).2) (by kernel_rfl) an rfl
inductive f84r1n8O where
 | exit4 (v177:Int)
def f84r1n8E(bb2:Int)(be4 be5:List Int):f84r1n8O→Ex×Tr×Hp
 | .exit4 v177=>((.exit 4),mkS [(0,(.own 0)),(2,(jI bb2)),(14,(jI v177))],[some (.row false 1 (be4.map (cInt .i64))),some (.box [(.own 2)]),some (.row false 1 (be5.map (cInt .u64)))])
def f84r1n8S(bb2:Int)(be4 be5:List Int)(v159 v160:Int):Tr×Hp:=(mkS [(0,(.own 0)),(2,(jI bb2)),(4,(.clo 69 [(.bp 1 0)])),(14,(jI v159)),(15,(jI v160))],[some (.row false 1 (be4.map (cInt .i64))),some (.box [(.own 2)]),some (.row false 1 (be5.map (cInt .u64)))])
noncomputable def f84r1n8 (self:(Int→Int→Int→List Int→List Int→Option (List Int))):Nat→Int→List Int→List Int→Int→Int→Option f84r1n8O
 | 0,_,_,_,_,_=>none
 | f+1,bb2,be4,be5,v159,v160 =>
  bif decide (v159<v160) then
   (at? be4 bb2).bind fun x170 =>
   (at? be4 (wr64 (shrK .u64 (Qi (wr64 (v159+v160))) 1))).bind fun x172 =>
   (f69r1 x170 x172 be5).bind fun x174 =>
   bif decide (x174<0) then
    (f84r1n8 self f bb2 be4 be5 v159 (wr64 (shrK .u64 (Qi (wr64 (v159+v160))) 1)))
   else
    (f84r1n8 self f bb2 be4 be5 (wr64 ((wr64 (shrK .u64 (Qi (wr64 (v159+v160))) 1))+1)) v160)
  else
   some (.exit4 v159)
theorem f84r1n8_ok {self:(Int→Int→Int→List Int→List Int→Option (List Int))} (self_ok:(∀(a1 a2 a3:Int)(a4 a5:List Int){r:List Int},self a1 a2 a3 a4 a5=some r→Ql Try.prog true 84 [(.own 0),(jI a1),(jI a2),(jI a3),(.clo 69 [(.bp 1 0)])] [some (.row false 1 (a4.map (cInt .i64))),some (.box [(.own 2)]),some (.row false 1 (a5.map (cInt .u64)))] (.tup []) [some (.row false 1 (r.map (cInt .i64))),some (.box [(.own 2)]),some (.row false 1 (a5.map (cInt .u64)))])):∀(f:Nat)(bb2:Int)(be4 be5:List Int)(v159 v160:Int){o:f84r1n8O},f84r1n8 self f bb2 be4 be5 v159 v160=some o→TL Try.prog Try.f84.ntmps 3 f (cL (cL (cL (Qj 2 (cL (Qj 1 (cL (Qj 0 (Qj 1 (Qj 0 c84)))))))))) (f84r1n8S bb2 be4 be5 v159 v160) (·=f84r1n8E bb2 be4 be5 o)
 | 0,_,_,_,_,_,o,h=>by rw [f84r1n8] at h; cases h
 | f+1,bb2,be4,be5,v159,v160,o,h=>by
  rw [f84r1n8] at h;refine TL.body (K:=fun s=>∃v159:Int,∃v160:Int,s=(f84r1n8S bb2 be4 be5 v159 v160)∧f84r1n8 self f bb2 be4 be5 v159 v160=some o) ?_ (by rintro _ ⟨v159,v160,rfl,hk⟩; exact f84r1n8_ok self_ok f _ _ _ _ _ hk);rcases Qh h with ⟨h162,h⟩|⟨h162,h⟩
  ·obtain ⟨x170,h171,h⟩:=Qd h;obtain ⟨x172,h173,h⟩:=Qd h;obtain ⟨x174,h175,h⟩:=Qd h;rcases Qh h with ⟨h176,h⟩|⟨h176,h⟩
   ·exact rE Qf [j3,j3,([],[(3,.at_ (Int.toNat bb2)),(4,.idx 0 ((cInt .i64) x170)),(7,.at_ (Int.toNat (wr64 (shrK .u64 (Qi (wr64 (v159+v160))) 1)))),(8,.idx 0 ((cInt .i64) x172)),(9,.call (jI x174) [none,some (.box [(.own 2)]),some (.row false 1 (be5.map (cInt .u64))),none])],[]),j3] [some true,some false] [] [] [0,2,4,14,15] (.norm,(f84r1n8S bb2 be4 be5 v159 (wr64 (shrK .u64 (Qi (wr64 (v159+v160))) 1)))) (ap h162 (ap (Qg h171).1 (ap (Qs (cInt .i64) (Qg h171).2) (ap (Qm (cInt .i64) (Qg h171).2) (ap (Qg h173).1 (ap (Qs (cInt .i64) (Qg h173).2) (ap (Qm (cInt .i64) (Qg h173).2) (ap (Ql.rn 4 [1,2] (f69r1_ok x170 x172 be5 h175)) (ap (Qaf h176) an))))))))) (Qp.norm ⟨v159,(wr64 (shrK .u64 (Qi (wr64 (v159+v160))) 1)),rfl,h⟩)
   ·exact rE Qf [j3,j3,([],[(3,.at_ (Int.toNat bb2)),(4,.idx 0 ((cInt .i64) x170)),(7,.at_ (Int.toNat (wr64 (shrK .u64 (Qi (wr64 (v159+v160))) 1)))),(8,.idx 0 ((cInt .i64) x172)),(9,.call (jI x174) [none,some (.box [(.own 2)]),some (.row false 1 (be5.map (cInt .u64))),none])],[]),j3] [some true,some true] [] [] [0,2,4,14,15] (.norm,(f84r1n8S bb2 be4 be5 (wr64 ((wr64 (shrK .u64 (Qi (wr64 (v159+v160))) 1))+1)) v160)) (ap h162 (ap (Qg h171).1 (ap (Qs (cInt .i64) (Qg h171).2) (ap (Qm (cInt .i64) (Qg h171).2) (ap (Qg h173).1 (ap (Qs (cInt .i64) (Qg h173).2) (ap (Qm (cInt .i64) (Qg h173).2) (ap (Ql.rn 4 [1,2] (f69r1_ok x170 x172 be5 h175)) (ap (Qao h176) an))))))))) (Qp.norm ⟨(wr64 ((wr64 (shrK .u64 (Qi (wr64 (v159+v160))) 1))+1)),v160,rfl,h⟩)
  ·obtain rfl:=Qe h;exact rK Qf 1 [j3] [some false] [] [] [0,2,14] (.exit 4) ((f84r1n8E bb2 be4 be5 (.exit4 v159)).2) (ap h162 an) (Qp.out rfl rfl)
inductive f84r1n10O where
 | exit6 (v227:List Int)
def f84r1n10E(bb2:Int)(be4:List Int):f84r1n10O→Ex×Tr×Hp
 | .exit6 v227=>((.exit 6),mkS [],[some (.row false 1 (v227.map (cInt .i64))),some (.box [(.own 2)]),some (.row false 1 (be4.map (cInt .u64)))])
def f84r1n10S(bb2:Int)(be4:List Int)(v211:Int)(v212:List Int):Tr×Hp:=(mkS [(0,(.own 0)),(14,(jI bb2)),(17,(jI v211))],[some (.row false 1 (v212.map (cInt .i64))),some (.box [(.own 2)]),some (.row false 1 (be4.map (cInt .u64)))])
noncomputable def f84r1n10 (self:(Int→Int→Int→List Int→List Int→Option (List Int))):Nat→Int→List Int→Int→List Int→Option f84r1n10O
 | 0,_,_,_,_=>none
 | f+1,bb2,be4,v211,v212 =>
  bif decide (bb2<v211) then
   (at? v212 (wr64 (v211-1))).bind fun x221 =>
   (at? v212 v211).bind fun x223 =>
   (at? (v212.set (Int.toNat v211) x221) (wr64 (v211-1))).bind fun x225 =>
   (f84r1n10 self f bb2 be4 (wr64 (v211-1)) ((v212.set (Int.toNat v211) x221).set (Int.toNat (wr64 (v211-1))) x223))
  else
   some (.exit6 v212)
theorem f84r1n10_ok {self:(Int→Int→Int→List Int→List Int→Option (List Int))} (self_ok:(∀(a1 a2 a3:Int)(a4 a5:List Int){r:List Int},self a1 a2 a3 a4 a5=some r→Ql Try.prog true 84 [(.own 0),(jI a1),(jI a2),(jI a3),(.clo 69 [(.bp 1 0)])] [some (.row false 1 (a4.map (cInt .i64))),some (.box [(.own 2)]),some (.row false 1 (a5.map (cInt .u64)))] (.tup []) [some (.row false 1 (r.map (cInt .i64))),some (.box [(.own 2)]),some (.row false 1 (a5.map (cInt .u64)))])):∀(f:Nat)(bb2:Int)(be4:List Int)(v211:Int)(v212:List Int){o:f84r1n10O},f84r1n10 self f bb2 be4 v211 v212=some o→TL Try.prog Try.f84.ntmps 3 f (cL (cL (Qj 1 (cL (Qj 0 (Qj 1 (Qj 2 (cL (Qj 1 (cL (Qj 0 (Qj 1 (Qj 0 c84))))))))))))) (f84r1n10S bb2 be4 v211 v212) (·=f84r1n10E bb2 be4 o)
 | 0,_,_,_,_,o,h=>by rw [f84r1n10] at h; cases h
 | f+1,bb2,be4,v211,v212,o,h=>by
  rw [f84r1n10] at h;refine TL.body (K:=fun s=>∃v211:Int,∃v212:List Int,s=(f84r1n10S bb2 be4 v211 v212)∧f84r1n10 self f bb2 be4 v211 v212=some o) ?_ (by rintro _ ⟨v211,v212,rfl,hk⟩; exact f84r1n10_ok self_ok f _ _ _ _ hk);rcases Qh h with ⟨h214,h⟩|⟨h214,h⟩
  ·obtain ⟨x221,h222,h⟩:=Qd h;obtain ⟨x223,h224,h⟩:=Qd h;obtain ⟨x225,h226,h⟩:=Qd h
   exact rE Qf [j3,([],[(8,.at_ (Int.toNat (wr64 (v211-1)))),(9,.idx 0 ((cInt .i64) x221)),(12,.at_ (Int.toNat v211)),(13,.idx 0 ((cInt .i64) x223)),(14,.at_ (Int.toNat v211)),(15,.idx 0 ((cInt .i64) x223)),(16,.at_ (Int.toNat (wr64 (v211-1)))),(17,.idx 0 ((cInt .i64) x225))],[(15,.row 0 ((v212.set (Int.toNat v211) x221).map (cInt .i64))),(17,.row 0 (((v212.set (Int.toNat v211) x221).set (Int.toNat (wr64 (v211-1))) x223).map (cInt .i64)))]),j3] [some true] [] [] [0,14,17] (.norm,(f84r1n10S bb2 be4 (wr64 (v211-1)) ((v212.set (Int.toNat v211) x221).set (Int.toNat (wr64 (v211-1))) x223))) (ap h214 (ap (Qg h222).1 (ap (Qs (cInt .i64) (Qg h222).2) (ap (Qm (cInt .i64) (Qg h222).2) (ap (Qg h224).1 (ap (Qs (cInt .i64) (Qg h224).2) (ap (Qm (cInt .i64) (Qg h224).2) (ap (Qg h224).1 (ap (Qs (cInt .i64) (Qg h224).2) (ap (Qm (cInt .i64) (Qg h224).2) (ap (set_cv (xs:=v212) (c:=(cInt .i64)) (k:=(Int.toNat v211)) (x:=x221)) (ap (Qg h226).1 (ap (Qs (cInt .i64) (Qg h226).2) (ap (Qm (cInt .i64) (Qg h226).2) (ap (set_cv (xs:=(v212.set (Int.toNat v211) x221)) (c:=(cInt .i64)) (k:=(Int.toNat (wr64 (v211-1)))) (x:=x223)) an))))))))))))))) (Qp.norm ⟨(wr64 (v211-1)),((v212.set (Int.toNat v211) x221).set (Int.toNat (wr64 (v211-1))) x223),rfl,h⟩)
  ·obtain rfl:=Qe h;exact rK Qf 1 [j3] [some false] [] [] [] (.exit 6) ((f84r1n10E bb2 be4 (.exit6 v212)).2) (ap h214 an) (Qp.out rfl rfl)
inductive f84r1n9O where
 | norm (v231:List Int)
def f84r1n9E(bb1 bb2:Int)(be3 be4:List Int):f84r1n9O→Ex×Tr×Hp
 | .norm v231=>(.norm,mkS [],[some (.row false 1 (v231.map (cInt .i64))),some (.box [(.own 2)]),some (.row false 1 (be4.map (cInt .u64)))])
def f84r1n9S(bb1 bb2:Int)(be3 be4:List Int):Tr×Hp:=(mkS [(0,(.own 0)),(2,(jI bb1)),(14,(jI bb2))],[some (.row false 1 (be3.map (cInt .i64))),some (.box [(.own 2)]),some (.row false 1 (be4.map (cInt .u64)))])
noncomputable def f84r1n9 (self:(Int→Int→Int→List Int→List Int→Option (List Int))) (bb1:Int) (bb2:Int) (be3:List Int) (be4:List Int):Option f84r1n9O :=
 (f84r1n10 self FUEL bb2 be4 bb1 be3).bind fun o228=>match o228 with
 | .exit6 v230=>some (.norm v230)
theorem f84r1n9_ok {self:(Int→Int→Int→List Int→List Int→Option (List Int))} (self_ok:(∀(a1 a2 a3:Int)(a4 a5:List Int){r:List Int},self a1 a2 a3 a4 a5=some r→Ql Try.prog true 84 [(.own 0),(jI a1),(jI a2),(jI a3),(.clo 69 [(.bp 1 0)])] [some (.row false 1 (a4.map (cInt .i64))),some (.box [(.own 2)]),some (.row false 1 (a5.map (cInt .u64)))] (.tup []) [some (.row false 1 (r.map (cInt .i64))),some (.box [(.own 2)]),some (.row false 1 (a5.map (cInt .u64)))])) (bb1:Int) (bb2:Int) (be3:List Int) (be4:List Int) {o:f84r1n9O} (h:f84r1n9 self bb1 bb2 be3 be4=some o):T Try.prog Try.f84.ntmps 3 (cL (Qj 0 (Qj 1 (Qj 2 (cL (Qj 1 (cL (Qj 0 (Qj 1 (Qj 0 c84)))))))))) (f84r1n9S bb1 bb2 be3 be4) (·=f84r1n9E bb1 bb2 be3 be4 o):=by
 unfold f84r1n9 at h;refine rN Qf 1 [j3] [] [] [] [0,14,17] (f84r1n10S bb2 be4 bb1 be3) an ?_;obtain ⟨o228,h229,h⟩:=Qd h;cases o228 with
 | exit6 v230 =>
  obtain rfl:=Qe h;exact T.last' (T.bl (i:=6) (by kernel_rfl) (by kernel_rfl) (f84r1n10_ok self_ok FUEL bb2 be4 bb1 be3 h229)) (tds:=[]) (m:=[]) (keep:=[]) (st2:=(f84r1n9E bb1 bb2 be3 be4 (.norm v230)).2) (by kernel_rfl) an rfl
inductive f84r1n7O where
 | norm
 | ret (v235:List Int)
def f84r1n7E(bb1 bb2 bb3:Int)(be4 be5:List Int):f84r1n7O→Ex×Tr×Hp
 | .norm=>(.norm,mkS [(0,(.own 0)),(1,(jI bb1)),(2,(jI bb2)),(3,(jI bb3)),(4,(.clo 69 [(.bp 1 0)]))],[some (.row false 1 (be4.map (cInt .i64))),some (.box [(.own 2)]),some (.row false 1 (be5.map (cInt .u64)))])
 | .ret v235=>(.ret,mkS [],[some (.row false 1 (v235.map (cInt .i64))),some (.box [(.own 2)]),some (.row false 1 (be5.map (cInt .u64)))])
def f84r1n7S(bb1 bb2 bb3:Int)(be4 be5:List Int):Tr×Hp:=(mkS [(0,(.own 0)),(1,(jI bb1)),(2,(jI bb2)),(3,(jI bb3)),(4,(.clo 69 [(.bp 1 0)])),(80,(.pl (.bool (decide ((wr64 (bb3-bb2))=1)))))],[some (.row false 1 (be4.map (cInt .i64))),some (.box [(.own 2)]),some (.row false 1 (be5.map (cInt .u64)))])
noncomputable def f84r1n7 (self:(Int→Int→Int→List Int→List Int→Option (List Int))) (bb1:Int) (bb2:Int) (bb3:Int) (be4:List Int) (be5:List Int):Option f84r1n7O :=
 bif (decide ((wr64 (bb3-bb2))=1)) then
  (f84r1n8 self FUEL bb2 be4 be5 bb1 bb2).bind fun o178=>match o178 with
  | .exit4 v180=>(f84r1n9 self bb2 v180 be4 be5).bind fun o232=>match o232 with
   | .norm v234=>some (.ret v234)
 else
  some .norm
theorem f84r1n7_ok {self:(Int→Int→Int→List Int→List Int→Option (List Int))} (self_ok:(∀(a1 a2 a3:Int)(a4 a5:List Int){r:List Int},self a1 a2 a3 a4 a5=some r→Ql Try.prog true 84 [(.own 0),(jI a1),(jI a2),(jI a3),(.clo 69 [(.bp 1 0)])] [some (.row false 1 (a4.map (cInt .i64))),some (.box [(.own 2)]),some (.row false 1 (a5.map (cInt .u64)))] (.tup []) [some (.row false 1 (r.map (cInt .i64))),some (.box [(.own 2)]),some (.row false 1 (a5.map (cInt .u64)))])) (bb1:Int) (bb2:Int) (bb3:Int) (be4:List Int) (be5:List Int) {o:f84r1n7O} (h:f84r1n7 self bb1 bb2 bb3 be4 be5=some o):T Try.prog Try.f84.ntmps 3 (Qj 1 (cL (Qj 0 (Qj 1 (Qj 0 c84))))) (f84r1n7S bb1 bb2 bb3 be4 be5) (·=f84r1n7E bb1 bb2 bb3 be4 be5 o):=by
 unfold f84r1n7 at h;rcases Qh h with ⟨h124,h⟩|⟨h124,h⟩
 ·refine T.condT (o:=.tmp 80) (b:=(decide ((wr64 (bb3-bb2))=1))) (by kernel_rfl) (by kernel_rfl) h124 ?_;refine rN Qf 2 [j3,j3] [] [] [] [0,2,4,14,15] (f84r1n8S bb2 be4 be5 bb1 bb2) an ?_;obtain ⟨o178,h179,h⟩:=Qd h;cases o178 with
  | exit4 v180 =>
   refine T.oneN (by kernel_rfl) (T.bl (i:=4) (by kernel_rfl) (by kernel_rfl) (f84r1n8_ok self_ok FUEL bb2 be4 be5 bb1 bb2 h179)) (st2:=(f84r1n8E bb2 be4 be5 (.exit4 v180)).2) rfl ?_;refine rN Qf 0 [] [] [] [] [0,2,14] (f84r1n9S bb2 v180 be4 be5) an ?_;obtain ⟨o232,h233,h⟩:=Qd h;cases o232 with
   | norm v234 =>
    refine T.oneN (by kernel_rfl) (f84r1n9_ok self_ok bb2 v180 be4 be5 h233) (st2:=(f84r1n9E bb2 v180 be4 be5 (.norm v234)).2) rfl ?_;obtain rfl:=Qe h;exact rE Qf [] [] [] [] [] (.ret,(f84r1n7E bb1 bb2 bb3 be4 be5 (.ret v234)).2) an rfl
 ·refine T.condF (o:=.tmp 80) (b:=(decide ((wr64 (bb3-bb2))=1))) (by kernel_rfl) (by kernel_rfl) h124 ?_;obtain rfl:=Qe h;exact rE Qf [] [] [] [] [0,1,2,3,4] (.norm,(f84r1n7E bb1 bb2 bb3 be4 be5 .norm).2) an rfl
inductive f84r1n6O where
 | norm
 | ret (v239:List Int)
def f84r1n6E(bb1 bb2 bb3:Int)(be4 be5:List Int):f84r1n6O→Ex×Tr×Hp
 | .norm=>(.norm,mkS [(0,(.own 0)),(1,(jI bb1)),(2,(jI bb2)),(3,(jI bb3)),(4,(.clo 69 [(.bp 1 0)]))],[some (.row false 1 (be4.map (cInt .i64))),some (.box [(.own 2)]),some (.row false 1 (be5.map (cInt .u64)))])
 | .ret v239=>(.ret,mkS [],[some (.row false 1 (v239.map (cInt .i64))),some (.box [(.own 2)]),some (.row false 1 (be5.map (cInt .u64)))])
def f84r1n6S(bb1 bb2 bb3:Int)(be4 be5:List Int):Tr×Hp:=(mkS [(0,(.own 0)),(1,(jI bb1)),(2,(jI bb2)),(3,(jI bb3)),(4,(.clo 69 [(.bp 1 0)]))],[some (.row false 1 (be4.map (cInt .i64))),some (.box [(.own 2)]),some (.row false 1 (be5.map (cInt .u64)))])
noncomputable def f84r1n6 (self:(Int→Int→Int→List Int→List Int→Option (List Int))) (bb1:Int) (bb2:Int) (bb3:Int) (be4:List Int) (be5:List Int):Option f84r1n6O :=
 (f84r1n7 self bb1 bb2 bb3 be4 be5).bind fun o236=>match o236 with
 | .norm=>some .norm
 | .ret v238=>some (.ret v238)
theorem f84r1n6_ok {self:(Int→Int→Int→List Int→List Int→Option (List Int))} (self_ok:(∀(a1 a2 a3:Int)(a4 a5:List Int){r:List Int},self a1 a2 a3 a4 a5=some r→Ql Try.prog true 84 [(.own 0),(jI a1),(jI a2),(jI a3),(.clo 69 [(.bp 1 0)])] [some (.row false 1 (a4.map (cInt .i64))),some (.box [(.own 2)]),some (.row false 1 (a5.map (cInt .u64)))] (.tup []) [some (.row false 1 (r.map (cInt .i64))),some (.box [(.own 2)]),some (.row false 1 (a5.map (cInt .u64)))])) (bb1:Int) (bb2:Int) (bb3:Int) (be4:List Int) (be5:List Int) {o:f84r1n6O} (h:f84r1n6 self bb1 bb2 bb3 be4 be5=some o):T Try.prog Try.f84.ntmps 3 (cL (Qj 0 (Qj 1 (Qj 0 c84)))) (f84r1n6S bb1 bb2 bb3 be4 be5) (·=f84r1n6E bb1 bb2 bb3 be4 be5 o):=by
 unfold f84r1n6 at h;refine rN Qf 1 [j3] [] [] [] [0,1,2,3,4,80] (f84r1n7S bb1 bb2 bb3 be4 be5) an ?_;obtain ⟨o236,h237,h⟩:=Qd h;cases o236 with
 | norm =>
  obtain rfl:=Qe h;exact T.last' (f84r1n7_ok self_ok bb1 bb2 bb3 be4 be5 h237) (tds:=[]) (m:=[]) (keep:=[0,1,2,3,4]) (st2:=(f84r1n6E bb1 bb2 bb3 be4 be5 .norm).2) (by kernel_rfl) an rfl
 | ret v238 =>
  obtain rfl:=Qe h;exact T.last' (f84r1n7_ok self_ok bb1 bb2 bb3 be4 be5 h237) (tds:=[]) (m:=[]) (keep:=[]) (st2:=(f84r1n6E bb1 bb2 bb3 be4 be5 (.ret v238)).2) (by kernel_rfl) an rfl
inductive f84r1n11O where
 | norm (v245:Int) (v246:Int)
def f84r1n11E(bb1 bb2 bb3:Int)(be4 be5:List Int):f84r1n11O→Ex×Tr×Hp
 | .norm v245 v246=>(.norm,mkS [(0,(.own 0)),(1,(jI bb1)),(2,(jI bb2)),(3,(jI bb3)),(4,(.clo 69 [(.bp 1 0)])),(18,(.pl (.int .i64 (wr64 (shrK .u64 (Qi (wr64 (bb1+bb3))) 1))))),(19,(.pl (.int .i64 (wr64 ((wr64 (shrK .u64 (Qi (wr64 (bb1+bb3))) 1))+bb2))))),(20,(jI v245)),(21,(jI v246))],[some (.row false 1 (be4.map (cInt .i64))),some (.box [(.own 2)]),some (.row false 1 (be5.map (cInt .u64)))])
def f84r1n11S(bb1 bb2 bb3:Int)(be4 be5:List Int):Tr×Hp:=(mkS [(0,(.own 0)),(1,(jI bb1)),(2,(jI bb2)),(3,(jI bb3)),(4,(.clo 69 [(.bp 1 0)])),(18,(.pl (.int .i64 (wr64 (shrK .u64 (Qi (wr64 (bb1+bb3))) 1))))),(19,(.pl (.int .i64 (wr64 ((wr64 (shrK .u64 (Qi (wr64 (bb1+bb3))) 1))+bb2)))))],[some (.row false 1 (be4.map (cInt .i64))),some (.box [(.own 2)]),some (.row false 1 (be5.map (cInt .u64)))])
noncomputable def f84r1n11 (self:(Int→Int→Int→List Int→List Int→Option (List Int))) (bb1:Int) (bb2:Int) (bb3:Int) (be4:List Int) (be5:List Int):Option f84r1n11O :=
 bif (decide ((wr64 (shrK .u64 (Qi (wr64 (bb1+bb3))) 1))<bb2)) then
  some (.norm (wr64 ((wr64 ((wr64 (shrK .u64 (Qi (wr64 (bb1+bb3))) 1))+bb2))-bb3)) (wr64 (shrK .u64 (Qi (wr64 (bb1+bb3))) 1)))
 else
  some (.norm bb1 bb2)
theorem f84r1n11_ok {self:(Int→Int→Int→List Int→List Int→Option (List Int))} (self_ok:(∀(a1 a2 a3:Int)(a4 a5:List Int){r:List Int},self a1 a2 a3 a4 a5=some r→Ql Try.prog true 84 [(.own 0),(jI a1),(jI a2),(jI a3),(.clo 69 [(.bp 1 0)])] [some (.row false 1 (a4.map (cInt .i64))),some (.box [(.own 2)]),some (.row false 1 (a5.map (cInt .u64)))] (.tup []) [some (.row false 1 (r.map (cInt .i64))),some (.box [(.own 2)]),some (.row false 1 (a5.map (cInt .u64)))])) (bb1:Int) (bb2:Int) (bb3:Int) (be4:List Int) (be5:List Int) {o:f84r1n11O} (h:f84r1n11 self bb1 bb2 bb3 be4 be5=some o):T Try.prog Try.f84.ntmps 3 (cL (Qj 3 (Qj 1 (Qj 0 (Qj 1 (Qj 0 c84)))))) (f84r1n11S bb1 bb2 bb3 be4 be5) (·=f84r1n11E bb1 bb2 bb3 be4 be5 o):=by
 unfold f84r1n11 at h;rcases Qh h with ⟨h244,h⟩|⟨h244,h⟩
 ·obtain rfl:=Qe h;exact rE Qf [j3,j3,j3] [some true] [] [] [0,1,2,3,4,18,19,20,21] (.norm,(f84r1n11E bb1 bb2 bb3 be4 be5 (.norm (wr64 ((wr64 ((wr64 (shrK .u64 (Qi (wr64 (bb1+bb3))) 1))+bb2))-bb3)) (wr64 (shrK .u64 (Qi (wr64 (bb1+bb3))) 1)))).2) (ap h244 an) rfl
 ·obtain rfl:=Qe h;exact rE Qf [j3,j3,j3] [some false] [] [] [0,1,2,3,4,18,19,20,21] (.norm,(f84r1n11E bb1 bb2 bb3 be4 be5 (.norm bb1 bb2)).2) (ap h244 an) rfl
inductive f84r1n12O where
 | exit8 (v303:Int)
def f84r1n12E(a1 a2 a3:Int)(a4 a5:List Int):f84r1n12O→Ex×Tr×Hp
 | .exit8 v303=>((.exit 8),mkS [(0,(.own 0)),(1,(jI a1)),(2,(jI a2)),(3,(jI a3)),(4,(.clo 69 [(.bp 1 0)])),(18,(.pl (.int .i64 (wr64 (shrK .u64 (Qi (wr64 (a1+a3))) 1))))),(19,(.pl (.int .i64 (wr64 ((wr64 (shrK .u64 (Qi (wr64 (a1+a3))) 1))+a2))))),(20,(jI v303))],[some (.row false 1 (a4.map (cInt .i64))),some (.box [(.own 2)]),some (.row false 1 (a5.map (cInt .u64)))])
def f84r1n12S(a1 a2 a3:Int)(a4 a5:List Int)(v285 v286:Int):Tr×Hp:=(mkS [(0,(.own 0)),(1,(jI a1)),(2,(jI a2)),(3,(jI a3)),(4,(.clo 69 [(.bp 1 0)])),(18,(.pl (.int .i64 (wr64 (shrK .u64 (Qi (wr64 (a1+a3))) 1))))),(19,(.pl (.int .i64 (wr64 ((wr64 (shrK .u64 (Qi (wr64 (a1+a3))) 1))+a2))))),(20,(jI v285)),(21,(jI v286)),(22,(.pl (.int .i64 (wr64 ((wr64 ((wr64 (shrK .u64 (Qi (wr64 (a1+a3))) 1))+a2))-1)))))],[some (.row false 1 (a4.map (cInt .i64))),some (.box [(.own 2)]),some (.row false 1 (a5.map (cInt .u64)))])
noncomputable def f84r1n12 (self:(Int→Int→Int→List Int→List Int→Option (List Int))):Nat→Int→Int→Int→List Int→List Int→Int→Int→Option f84r1n12O
 | 0,_,_,_,_,_,_,_=>none
 | f+1,a1,a2,a3,a4,a5,v285,v286 =>
  bif decide (v285<v286) then
   (at? a4 (wr64 ((wr64 ((wr64 ((wr64 (shrK .u64 (Qi (wr64 (a1+a3))) 1))+a2))-1))-(wr64 (shrK .u64 (Qi (wr64 (v285+v286))) 1))))).bind fun x296 =>
   (at? a4 (wr64 (shrK .u64 (Qi (wr64 (v285+v286))) 1))).bind fun x298 =>
   (f69r1 x296 x298 a5).bind fun x300 =>
   bif decide (x300<0) then
    (f84r1n12 self f a1 a2 a3 a4 a5 v285 (wr64 (shrK .u64 (Qi (wr64 (v285+v286))) 1)))
   else
    (f84r1n12 self f a1 a2 a3 a4 a5 (wr64 ((wr64 (shrK .u64 (Qi (wr64 (v285+v286))) 1))+1)) v286)
  else
   some (.exit8 v285)
theorem f84r1n12_ok {self:(Int→Int→Int→List Int→List Int→Option (List Int))} (self_ok:(∀(a1 a2 a3:Int)(a4 a5:List Int){r:List Int},self a1 a2 a3 a4 a5=some r→Ql Try.prog true 84 [(.own 0),(jI a1),(jI a2),(jI a3),(.clo 69 [(.bp 1 0)])] [some (.row false 1 (a4.map (cInt .i64))),some (.box [(.own 2)]),some (.row false 1 (a5.map (cInt .u64)))] (.tup []) [some (.row false 1 (r.map (cInt .i64))),some (.box [(.own 2)]),some (.row false 1 (a5.map (cInt .u64)))])):∀(f:Nat)(a1 a2 a3:Int)(a4 a5:List Int)(v285 v286:Int){o:f84r1n12O},f84r1n12 self f a1 a2 a3 a4 a5 v285 v286=some o→TL Try.prog Try.f84.ntmps 3 f (cL (cL (cL (Qj 1 (Qj 1 (Qj 3 (Qj 1 (Qj 0 (Qj 1 (Qj 0 c84)))))))))) (f84r1n12S a1 a2 a3 a4 a5 v285 v286) (·=f84r1n12E a1 a2 a3 a4 a5 o)
 | 0,_,_,_,_,_,_,_,o,h=>by rw [f84r1n12] at h; cases h
 | f+1,a1,a2,a3,a4,a5,v285,v286,o,h=>by
  rw [f84r1n12] at h;refine TL.body (K:=fun s=>∃v285:Int,∃v286:Int,s=(f84r1n12S a1 a2 a3 a4 a5 v285 v286)∧f84r1n12 self f a1 a2 a3 a4 a5 v285 v286=some o) ?_ (by rintro _ ⟨v285,v286,rfl,hk⟩; exact f84r1n12_ok self_ok f _ _ _ _ _ _ _ hk);rcases Qh h with ⟨h288,h⟩|⟨h288,h⟩
  ·obtain ⟨x296,h297,h⟩:=Qd h;obtain ⟨x298,h299,h⟩:=Qd h;obtain ⟨x300,h301,h⟩:=Qd h;rcases Qh h with ⟨h302,h⟩|⟨h302,h⟩
   ·exact rE Qf [j3,j3,([],[(5,.at_ (Int.toNat (wr64 ((wr64 ((wr64 ((wr64 (shrK .u64 (Qi (wr64 (a1+a3))) 1))+a2))-1))-(wr64 (shrK .u64 (Qi (wr64 (v285+v286))) 1)))))),(6,.idx 0 ((cInt .i64) x296)),(9,.at_ (Int.toNat (wr64 (shrK .u64 (Qi (wr64 (v285+v286))) 1)))),(10,.idx 0 ((cInt .i64) x298)),(11,.call (jI x300) [none,some (.box [(.own 2)]),some (.row false 1 (a5.map (cInt .u64))),none])],[]),j3] [some true,some false] [] [] [0,1,2,3,4,18,19,20,21,22] (.norm,(f84r1n12S a1 a2 a3 a4 a5 v285 (wr64 (shrK .u64 (Qi (wr64 (v285+v286))) 1)))) (ap h288 (ap (Qg h297).1 (ap (Qs (cInt .i64) (Qg h297).2) (ap (Qm (cInt .i64) (Qg h297).2) (ap (Qg h299).1 (ap (Qs (cInt .i64) (Qg h299).2) (ap (Qm (cInt .i64) (Qg h299).2) (ap (Ql.rn 4 [1,2] (f69r1_ok x296 x298 a5 h301)) (ap (Qaf h302) an))))))))) (Qp.norm ⟨v285,(wr64 (shrK .u64 (Qi (wr64 (v285+v286))) 1)),rfl,h⟩)
   ·exact rE Qf [j3,j3,([],[(5,.at_ (Int.toNat (wr64 ((wr64 ((wr64 ((wr64 (shrK .u64 (Qi (wr64 (a1+a3))) 1))+a2))-1))-(wr64 (shrK .u64 (Qi (wr64 (v285+v286))) 1)))))),(6,.idx 0 ((cInt .i64) x296)),(9,.at_ (Int.toNat (wr64 (shrK .u64 (Qi (wr64 (v285+v286))) 1)))),(10,.idx 0 ((cInt .i64) x298)),(11,.call (jI x300) [none,some (.box [(.own 2)]),some (.row false 1 (a5.map (cInt .u64))),none])],[]),j3] [some true,some true] [] [] [0,1,2,3,4,18,19,20,21,22] (.norm,(f84r1n12S a1 a2 a3 a4 a5 (wr64 ((wr64 (shrK .u64 (Qi (wr64 (v285+v286))) 1))+1)) v286)) (ap h288 (ap (Qg h297).1 (ap (Qs (cInt .i64) (Qg h297).2) (ap (Qm (cInt .i64) (Qg h297).2) (ap (Qg h299).1 (ap (Qs (cInt .i64) (Qg h299).2) (ap (Qm (cInt .i64) (Qg h299).2) (ap (Ql.rn 4 [1,2] (f69r1_ok x296 x298 a5 h301)) (ap (Qao h302) an))))))))) (Qp.norm ⟨(wr64 ((wr64 (shrK .u64 (Qi (wr64 (v285+v286))) 1))+1)),v286,rfl,h⟩)
  ·obtain rfl:=Qe h;exact rK Qf 1 [j3] [some false] [] [] [0,1,2,3,4,18,19,20] (.exit 8) ((f84r1n12E a1 a2 a3 a4 a5 (.exit8 v285)).2) (ap h288 an) (Qp.out rfl rfl)
inductive f84r1n14O where
 | norm (v314:Bool)
def f84r1n14E(bb1 bb2 bb3 bb4:Int)(be5 be6:List Int):f84r1n14O→Ex×Tr×Hp
 | .norm v314=>(.norm,mkS [(0,(.own 0)),(1,(jI bb1)),(2,(jI bb2)),(3,(jI bb3)),(4,(.clo 69 [(.bp 1 0)])),(18,(.pl (.int .i64 (wr64 (shrK .u64 (Qi (wr64 (bb1+bb3))) 1))))),(20,(jI bb4)),(24,(.pl (.int .i64 (wr64 ((wr64 ((wr64 (shrK .u64 (Qi (wr64 (bb1+bb3))) 1))+bb2))-bb4))))),(185,(jB v314))],[some (.row false 1 (be5.map (cInt .i64))),some (.box [(.own 2)]),some (.row false 1 (be6.map (cInt .u64)))])
def f84r1n14S(bb1 bb2 bb3 bb4:Int)(be5 be6:List Int):Tr×Hp:=(mkS [(0,(.own 0)),(1,(jI bb1)),(2,(jI bb2)),(3,(jI bb3)),(4,(.clo 69 [(.bp 1 0)])),(18,(.pl (.int .i64 (wr64 (shrK .u64 (Qi (wr64 (bb1+bb3))) 1))))),(20,(jI bb4)),(24,(.pl (.int .i64 (wr64 ((wr64 ((wr64 (shrK .u64 (Qi (wr64 (bb1+bb3))) 1))+bb2))-bb4)))))],[some (.row false 1 (be5.map (cInt .i64))),some (.box [(.own 2)]),some (.row false 1 (be6.map (cInt .u64)))])
noncomputable def f84r1n14 (self:(Int→Int→Int→List Int→List Int→Option (List Int))) (bb1:Int) (bb2:Int) (bb3:Int) (bb4:Int) (be5:List Int) (be6:List Int):Option f84r1n14O :=
 bif decide (bb4<bb2) then
  some (.norm (decide (bb2<(wr64 ((wr64 ((wr64 (shrK .u64 (Qi (wr64 (bb1+bb3))) 1))+bb2))-bb4)))))
 else
  some (.norm false)
theorem f84r1n14_ok {self:(Int→Int→Int→List Int→List Int→Option (List Int))} (self_ok:(∀(a1 a2 a3:Int)(a4 a5:List Int){r:List Int},self a1 a2 a3 a4 a5=some r→Ql Try.prog true 84 [(.own 0),(jI a1),(jI a2),(jI a3),(.clo 69 [(.bp 1 0)])] [some (.row false 1 (a4.map (cInt .i64))),some (.box [(.own 2)]),some (.row false 1 (a5.map (cInt .u64)))] (.tup []) [some (.row false 1 (r.map (cInt .i64))),some (.box [(.own 2)]),some (.row false 1 (a5.map (cInt .u64)))])) (bb1:Int) (bb2:Int) (bb3:Int) (bb4:Int) (be5:List Int) (be6:List Int) {o:f84r1n14O} (h:f84r1n14 self bb1 bb2 bb3 bb4 be5 be6=some o):T Try.prog Try.f84.ntmps 3 (cL (Qj 0 (cL (Qj 1 (Qj 1 (Qj 1 (Qj 1 (Qj 3 (Qj 1 (Qj 0 (Qj 1 (Qj 0 c84)))))))))))) (f84r1n14S bb1 bb2 bb3 bb4 be5 be6) (·=f84r1n14E bb1 bb2 bb3 bb4 be5 be6 o):=by
 unfold f84r1n14 at h;rcases Qh h with ⟨h313,h⟩|⟨h313,h⟩
 ·obtain rfl:=Qe h;exact rE Qf [(jT [4,5,6],[(7,.bool true)],[])] [] [] [] [0,1,2,3,4,18,20,24,185] (.norm,(f84r1n14E bb1 bb2 bb3 bb4 be5 be6 (.norm (decide (bb2<(wr64 ((wr64 ((wr64 (shrK .u64 (Qi (wr64 (bb1+bb3))) 1))+bb2))-bb4)))))).2) (ap4 h313 an) rfl
 ·obtain rfl:=Qe h;exact rE Qf [(jF [4,5,6],[(7,.bool false)],[])] [] [] [] [0,1,2,3,4,18,20,24,185] (.norm,(f84r1n14E bb1 bb2 bb3 bb4 be5 be6 (.norm false)).2) (ap4 h313 an) rfl
inductive f84r1n13O where
 | norm (v324:List Int)
def f84r1n13E(bb1 bb2 bb3 bb4:Int)(be5 be6:List Int):f84r1n13O→Ex×Tr×Hp
 | .norm v324=>(.norm,mkS [(0,(.own 0)),(1,(jI bb1)),(3,(jI bb3)),(4,(.clo 69 [(.bp 1 0)])),(18,(.pl (.int .i64 (wr64 (shrK .u64 (Qi (wr64 (bb1+bb3))) 1))))),(20,(jI bb4)),(24,(.pl (.int .i64 (wr64 ((wr64 ((wr64 (shrK .u64 (Qi (wr64 (bb1+bb3))) 1))+bb2))-bb4)))))],[some (.row false 1 (v324.map (cInt .i64))),some (.box [(.own 2)]),some (.row false 1 (be6.map (cInt .u64)))])
def f84r1n13S(bb1 bb2 bb3 bb4:Int)(be5 be6:List Int):Tr×Hp:=(mkS [(0,(.own 0)),(1,(jI bb1)),(2,(jI bb2)),(3,(jI bb3)),(4,(.clo 69 [(.bp 1 0)])),(18,(.pl (.int .i64 (wr64 (shrK .u64 (Qi (wr64 (bb1+bb3))) 1))))),(20,(jI bb4)),(24,(.pl (.int .i64 (wr64 ((wr64 ((wr64 (shrK .u64 (Qi (wr64 (bb1+bb3))) 1))+bb2))-bb4)))))],[some (.row false 1 (be5.map (cInt .i64))),some (.box [(.own 2)]),some (.row false 1 (be6.map (cInt .u64)))])
noncomputable def f84r1n13 (self:(Int→Int→Int→List Int→List Int→Option (List Int))) (bb1:Int) (bb2:Int) (bb3:Int) (bb4:Int) (be5:List Int) (be6:List Int):Option f84r1n13O :=
 (f84r1n14 self bb1 bb2 bb3 bb4 be5 be6).bind fun o315=>match o315 with
 | .norm v317=>bif v317 then
   (f85r1 bb4 bb2 (wr64 ((wr64 ((wr64 (shrK .u64 (Qi (wr64 (bb1+bb3))) 1))+bb2))-bb4)) be5 be6).bind fun x322 =>
   some (.norm x322)
  else
   some (.norm be5)
theorem f84r1n13_ok {self:(Int→Int→Int→List Int→List Int→Option (List Int))} (self_ok:(∀(a1 a2 a3:Int)(a4 a5:List Int){r:List Int},self a1 a2 a3 a4 a5=some r→Ql Try.prog true 84 [(.own 0),(jI a1),(jI a2),(jI a3),(.clo 69 [(.bp 1 0)])] [some (.row false 1 (a4.map (cInt .i64))),some (.box [(.own 2)]),some (.row false 1 (a5.map (cInt .u64)))] (.tup []) [some (.row false 1 (r.map (cInt .i64))),some (.box [(.own 2)]),some (.row false 1 (a5.map (cInt .u64)))])) (bb1:Int) (bb2:Int) (bb3:Int) (bb4:Int) (be5:List Int) (be6:List Int) {o:f84r1n13O} (h:f84r1n13 self bb1 bb2 bb3 bb4 be5 be6=some o):T Try.prog Try.f84.ntmps 3 (cL (Qj 1 (Qj 1 (Qj 1 (Qj 1 (Qj 3 (Qj 1 (Qj 0 (Qj 1 (Qj 0 c84)))))))))) (f84r1n13S bb1 bb2 bb3 bb4 be5 be6) (·=f84r1n13E bb1 bb2 bb3 bb4 be5 be6 o):=by
 unfold f84r1n13 at h;refine rN Qf 0 [] [] [] [] [0,1,2,3,4,18,20,24] (f84r1n14S bb1 bb2 bb3 bb4 be5 be6) an ?_;obtain ⟨o315,h316,h⟩:=Qd h;cases o315 with
 | norm v317 =>
  refine T.oneN (by kernel_rfl) (f84r1n14_ok self_ok bb1 bb2 bb3 bb4 be5 be6 h316) (st2:=(f84r1n14E bb1 bb2 bb3 bb4 be5 be6 (.norm v317)).2) rfl ?_;rcases Qh h with ⟨h321,h⟩|⟨h321,h⟩
  ·obtain ⟨x322,h323,h⟩:=Qd h;obtain rfl:=Qe h;exact rE Qf [([],[(5,.call (.tup []) [some (.row false 1 (x322.map (cInt .i64))),some (.box [(.own 2)]),some (.row false 1 (be6.map (cInt .u64)))])],[])] [some true] [] [] [0,1,3,4,18,20,24] (.norm,(f84r1n13E bb1 bb2 bb3 bb4 be5 be6 (.norm x322)).2) (ap h321 (ap (f85r1_ok bb4 bb2 (wr64 ((wr64 ((wr64 (shrK .u64 (Qi (wr64 (bb1+bb3))) 1))+bb2))-bb4)) be5 be6 h323) an)) rfl
  ·obtain rfl:=Qe h;exact rE Qf [] [some false] [] [] [0,1,3,4,18,20,24] (.norm,(f84r1n13E bb1 bb2 bb3 bb4 be5 be6 (.norm be5)).2) (ap h321 an) rfl
inductive f84r1n16O where
 | norm (v335:Bool)
def f84r1n16E(bb1 bb2 bb3 bb4:Int)(be5 be6:List Int):f84r1n16O→Ex×Tr×Hp
 | .norm v335=>(.norm,mkS [(0,(.own 0)),(1,(jI bb1)),(3,(jI bb2)),(4,(.clo 69 [(.bp 1 0)])),(18,(.pl (.int .i64 (wr64 (shrK .u64 (Qi (wr64 (bb1+bb2))) 1))))),(20,(jI bb3)),(24,(.pl (.int .i64 (wr64 ((wr64 ((wr64 (shrK .u64 (Qi (wr64 (bb1+bb2))) 1))+bb4))-bb3))))),(199,(jB v335))],[some (.row false 1 (be5.map (cInt .i64))),some (.box [(.own 2)]),some (.row false 1 (be6.map (cInt .u64)))])
def f84r1n16S(bb1 bb2 bb3 bb4:Int)(be5 be6:List Int):Tr×Hp:=(mkS [(0,(.own 0)),(1,(jI bb1)),(3,(jI bb2)),(4,(.clo 69 [(.bp 1 0)])),(18,(.pl (.int .i64 (wr64 (shrK .u64 (Qi (wr64 (bb1+bb2))) 1))))),(20,(jI bb3)),(24,(.pl (.int .i64 (wr64 ((wr64 ((wr64 (shrK .u64 (Qi (wr64 (bb1+bb2))) 1))+bb4))-bb3)))))],[some (.row false 1 (be5.map (cInt .i64))),some (.box [(.own 2)]),some (.row false 1 (be6.map (cInt .u64)))])
noncomputable def f84r1n16 (self:(Int→Int→Int→List Int→List Int→Option (List Int))) (bb1:Int) (bb2:Int) (bb3:Int) (bb4:Int) (be5:List Int) (be6:List Int):Option f84r1n16O :=
 bif decide (bb1<bb3) then
  some (.norm (decide (bb3<(wr64 (shrK .u64 (Qi (wr64 (bb1+bb2))) 1)))))
 else
  some (.norm false)
theorem f84r1n16_ok {self:(Int→Int→Int→List Int→List Int→Option (List Int))} (self_ok:(∀(a1 a2 a3:Int)(a4 a5:List Int){r:List Int},self a1 a2 a3 a4 a5=some r→Ql Try.prog true 84 [(.own 0),(jI a1),(jI a2),(jI a3),(.clo 69 [(.bp 1 0)])] [some (.row false 1 (a4.map (cInt .i64))),some (.box [(.own 2)]),some (.row false 1 (a5.map (cInt .u64)))] (.tup []) [some (.row false 1 (r.map (cInt .i64))),some (.box [(.own 2)]),some (.row false 1 (a5.map (cInt .u64)))])) (bb1:Int) (bb2:Int) (bb3:Int) (bb4:Int) (be5:List Int) (be6:List Int) {o:f84r1n16O} (h:f84r1n16 self bb1 bb2 bb3 bb4 be5 be6=some o):T Try.prog Try.f84.ntmps 3 (cL (Qj 0 (cL (Qj 0 (Qj 1 (Qj 1 (Qj 1 (Qj 1 (Qj 1 (Qj 3 (Qj 1 (Qj 0 (Qj 1 (Qj 0 c84)))))))))))))) (f84r1n16S bb1 bb2 bb3 bb4 be5 be6) (·=f84r1n16E bb1 bb2 bb3 bb4 be5 be6 o):=by
 unfold f84r1n16 at h;rcases Qh h with ⟨h334,h⟩|⟨h334,h⟩
 ·obtain rfl:=Qe h;exact rE Qf [(jT [4,5,6],[(7,.bool true)],[])] [] [] [] [0,1,3,4,18,20,24,199] (.norm,(f84r1n16E bb1 bb2 bb3 bb4 be5 be6 (.norm (decide (bb3<(wr64 (shrK .u64 (Qi (wr64 (bb1+bb2))) 1)))))).2) (ap4 h334 an) rfl
 ·obtain rfl:=Qe h;exact rE Qf [(jF [4,5,6],[(7,.bool false)],[])] [] [] [] [0,1,3,4,18,20,24,199] (.norm,(f84r1n16E bb1 bb2 bb3 bb4 be5 be6 (.norm false)).2) (ap4 h334 an) rfl
inductive f84r1n15O where
 | norm (v345:List Int)
def f84r1n15E(bb1 bb2 bb3 bb4:Int)(be5 be6:List Int):f84r1n15O→Ex×Tr×Hp
 | .norm v345=>(.norm,mkS [(0,(.own 0)),(3,(jI bb2)),(4,(.clo 69 [(.bp 1 0)])),(18,(.pl (.int .i64 (wr64 (shrK .u64 (Qi (wr64 (bb1+bb2))) 1))))),(24,(.pl (.int .i64 (wr64 ((wr64 ((wr64 (shrK .u64 (Qi (wr64 (bb1+bb2))) 1))+bb4))-bb3)))))],[some (.row false 1 (v345.map (cInt .i64))),some (.box [(.own 2)]),some (.row false 1 (be6.map (cInt .u64)))])
def f84r1n15S(bb1 bb2 bb3 bb4:Int)(be5 be6:List Int):Tr×Hp:=(mkS [(0,(.own 0)),(1,(jI bb1)),(3,(jI bb2)),(4,(.clo 69 [(.bp 1 0)])),(18,(.pl (.int .i64 (wr64 (shrK .u64 (Qi (wr64 (bb1+bb2))) 1))))),(20,(jI bb3)),(24,(.pl (.int .i64 (wr64 ((wr64 ((wr64 (shrK .u64 (Qi (wr64 (bb1+bb2))) 1))+bb4))-bb3)))))],[some (.row false 1 (be5.map (cInt .i64))),some (.box [(.own 2)]),some (.row false 1 (be6.map (cInt .u64)))])
noncomputable def f84r1n15 (self:(Int→Int→Int→List Int→List Int→Option (List Int))) (bb1:Int) (bb2:Int) (bb3:Int) (bb4:Int) (be5:List Int) (be6:List Int):Option f84r1n15O :=
 (f84r1n16 self bb1 bb2 bb3 bb4 be5 be6).bind fun o336=>match o336 with
 | .norm v338=>bif v338 then
   (self bb1 bb3 (wr64 (shrK .u64 (Qi (wr64 (bb1+bb2))) 1)) be5 be6).bind fun x343 =>
   some (.norm x343)
  else
   some (.norm be5)
theorem f84r1n15_ok {self:(Int→Int→Int→List Int→List Int→Option (List Int))} (self_ok:(∀(a1 a2 a3:Int)(a4 a5:List Int){r:List Int},self a1 a2 a3 a4 a5=some r→Ql Try.prog true 84 [(.own 0),(jI a1),(jI a2),(jI a3),(.clo 69 [(.bp 1 0)])] [some (.row false 1 (a4.map (cInt .i64))),some (.box [(.own 2)]),some (.row false 1 (a5.map (cInt .u64)))] (.tup []) [some (.row false 1 (r.map (cInt .i64))),some (.box [(.own 2)]),some (.row false 1 (a5.map (cInt .u64)))])) (bb1:Int) (bb2:Int) (bb3:Int) (bb4:Int) (be5:List Int) (be6:List Int) {o:f84r1n15O} (h:f84r1n15 self bb1 bb2 bb3 bb4 be5 be6=some o):T Try.prog Try.f84.ntmps 3 (cL (Qj 0 (Qj 1 (Qj 1 (Qj 1 (Qj 1 (Qj 1 (Qj 3 (Qj 1 (Qj 0 (Qj 1 (Qj 0 c84)))))))))))) (f84r1n15S bb1 bb2 bb3 bb4 be5 be6) (·=f84r1n15E bb1 bb2 bb3 bb4 be5 be6 o):=by
 unfold f84r1n15 at h;refine rN Qf 0 [] [] [] [] [0,1,3,4,18,20,24] (f84r1n16S bb1 bb2 bb3 bb4 be5 be6) an ?_;obtain ⟨o336,h337,h⟩:=Qd h;cases o336 with
 | norm v338 =>
  refine T.oneN (by kernel_rfl) (f84r1n16_ok self_ok bb1 bb2 bb3 bb4 be5 be6 h337) (st2:=(f84r1n16E bb1 bb2 bb3 bb4 be5 be6 (.norm v338)).2) rfl ?_;rcases Qh h with ⟨h342,h⟩|⟨h342,h⟩
  ·obtain ⟨x343,h344,h⟩:=Qd h;obtain rfl:=Qe h;exact rE Qf [([],[(5,.call (.tup []) [some (.row false 1 (x343.map (cInt .i64))),some (.box [(.own 2)]),some (.row false 1 (be6.map (cInt .u64)))])],[])] [some true] [] [] [0,3,4,18,24] (.norm,(f84r1n15E bb1 bb2 bb3 bb4 be5 be6 (.norm x343)).2) (ap h342 (ap (self_ok bb1 bb3 (wr64 (shrK .u64 (Qi (wr64 (bb1+bb2))) 1)) be5 be6 h344) an)) rfl
  ·obtain rfl:=Qe h;exact rE Qf [] [some false] [] [] [0,3,4,18,24] (.norm,(f84r1n15E bb1 bb2 bb3 bb4 be5 be6 (.norm be5)).2) (ap h342 an) rfl
inductive f84r1n17O where
 | norm (v352:Bool)
def f84r1n17E(bb1 bb2 bb3 bb4:Int)(be5 be6:List Int):f84r1n17O→Ex×Tr×Hp
 | .norm v352=>(.norm,mkS [(0,(.own 0)),(3,(jI bb1)),(4,(.clo 69 [(.bp 1 0)])),(18,(.pl (.int .i64 (wr64 (shrK .u64 (Qi (wr64 (bb2+bb1))) 1))))),(24,(.pl (.int .i64 (wr64 ((wr64 ((wr64 (shrK .u64 (Qi (wr64 (bb2+bb1))) 1))+bb3))-bb4))))),(213,(jB v352))],[some (.row false 1 (be5.map (cInt .i64))),some (.box [(.own 2)]),some (.row false 1 (be6.map (cInt .u64)))])
def f84r1n17S(bb1 bb2 bb3 bb4:Int)(be5 be6:List Int):Tr×Hp:=(mkS [(0,(.own 0)),(3,(jI bb1)),(4,(.clo 69 [(.bp 1 0)])),(18,(.pl (.int .i64 (wr64 (shrK .u64 (Qi (wr64 (bb2+bb1))) 1))))),(24,(.pl (.int .i64 (wr64 ((wr64 ((wr64 (shrK .u64 (Qi (wr64 (bb2+bb1))) 1))+bb3))-bb4)))))],[some (.row false 1 (be5.map (cInt .i64))),some (.box [(.own 2)]),some (.row false 1 (be6.map (cInt .u64)))])
noncomputable def f84r1n17 (self:(Int→Int→Int→List Int→List Int→Option (List Int))) (bb1:Int) (bb2:Int) (bb3:Int) (bb4:Int) (be5:List Int) (be6:List Int):Option f84r1n17O :=
 bif (decide ((wr64 (shrK .u64 (Qi (wr64 (bb2+bb1))) 1))<(wr64 ((wr64 ((wr64 (shrK .u64 (Qi (wr64 (bb2+bb1))) 1))+bb3))-bb4)))) then
  some (.norm (decide ((wr64 ((wr64 ((wr64 (shrK .u64 (Qi (wr64 (bb2+bb1))) 1))+bb3))-bb4))<bb1)))
 else
  some (.norm false)
theorem f84r1n17_ok {self:(Int→Int→Int→List Int→List Int→Option (List Int))} (self_ok:(∀(a1 a2 a3:Int)(a4 a5:List Int){r:List Int},self a1 a2 a3 a4 a5=some r→Ql Try.prog true 84 [(.own 0),(jI a1),(jI a2),(jI a3),(.clo 69 [(.bp 1 0)])] [some (.row false 1 (a4.map (cInt .i64))),some (.box [(.own 2)]),some (.row false 1 (a5.map (cInt .u64)))] (.tup []) [some (.row false 1 (r.map (cInt .i64))),some (.box [(.own 2)]),some (.row false 1 (a5.map (cInt .u64)))])) (bb1:Int) (bb2:Int) (bb3:Int) (bb4:Int) (be5:List Int) (be6:List Int) {o:f84r1n17O} (h:f84r1n17 self bb1 bb2 bb3 bb4 be5 be6=some o):T Try.prog Try.f84.ntmps 3 (cL (Qj 0 (Qj 1 (Qj 0 (Qj 1 (Qj 1 (Qj 1 (Qj 1 (Qj 1 (Qj 3 (Qj 1 (Qj 0 (Qj 1 (Qj 0 c84)))))))))))))) (f84r1n17S bb1 bb2 bb3 bb4 be5 be6) (·=f84r1n17E bb1 bb2 bb3 bb4 be5 be6 o):=by
 unfold f84r1n17 at h;rcases Qh h with ⟨h351,h⟩|⟨h351,h⟩
 ·obtain rfl:=Qe h;exact rE Qf [(jT [4,5,6],[(7,.bool true)],[])] [] [] [] [0,3,4,18,24,213] (.norm,(f84r1n17E bb1 bb2 bb3 bb4 be5 be6 (.norm (decide ((wr64 ((wr64 ((wr64 (shrK .u64 (Qi (wr64 (bb2+bb1))) 1))+bb3))-bb4))<bb1)))).2) (ap4 h351 an) rfl
 ·obtain rfl:=Qe h;exact rE Qf [(jF [4,5,6],[(7,.bool false)],[])] [] [] [] [0,3,4,18,24,213] (.norm,(f84r1n17E bb1 bb2 bb3 bb4 be5 be6 (.norm false)).2) (ap4 h351 an) rfl
inductive f84r1n0O where
 | norm (v364:List Int)
 | ret (v365:List Int)
def f84r1n0E(a1 a2 a3:Int)(a4 a5:List Int):f84r1n0O→Ex×Tr×Hp
 | .norm v364=>(.norm,mkS [],[some (.row false 1 (v364.map (cInt .i64))),some (.box [(.own 2)]),some (.row false 1 (a5.map (cInt .u64)))])
 | .ret v365=>(.ret,mkS [],[some (.row false 1 (v365.map (cInt .i64))),some (.box [(.own 2)]),some (.row false 1 (a5.map (cInt .u64)))])
def f84r1n0S(a1 a2 a3:Int)(a4 a5:List Int):Tr×Hp:=(Qaa [(.own 0),(jI a1),(jI a2),(jI a3),(.clo 69 [(.bp 1 0)])] 0 .leaf,[some (.row false 1 (a4.map (cInt .i64))),some (.box [(.own 2)]),some (.row false 1 (a5.map (cInt .u64)))])
noncomputable def f84r1n0 (self:(Int→Int→Int→List Int→List Int→Option (List Int))) (a1:Int) (a2:Int) (a3:Int) (a4:List Int) (a5:List Int):Option f84r1n0O :=
 (f84r1n1 self a1 a2 a3 a4 a5).bind fun o122=>match o122 with
 | .norm=>(f84r1n6 self a1 a2 a3 a4 a5).bind fun o240=>match o240 with
  | .norm=>(f84r1n11 self a1 a2 a3 a4 a5).bind fun o247=>match o247 with
   | .norm v249 v250=>(f84r1n12 self FUEL a1 a2 a3 a4 a5 v249 v250).bind fun o304=>match o304 with
    | .exit8 v306=>(f84r1n13 self a1 a2 a3 v306 a4 a5).bind fun o325=>match o325 with
     | .norm v327=>(f84r1n15 self a1 a3 v306 a2 v327 a5).bind fun o346=>match o346 with
      | .norm v348=>(f84r1n17 self a3 a1 a2 v306 v348 a5).bind fun o353=>match o353 with
       | .norm v355=>bif v355 then
         (self (wr64 (shrK .u64 (Qi (wr64 (a1+a3))) 1)) (wr64 ((wr64 ((wr64 (shrK .u64 (Qi (wr64 (a1+a3))) 1))+a2))-v306)) a3 v348 a5).bind fun x360 =>
         some (.norm x360)
        else
         some (.norm v348)
  | .ret v362=>some (.ret v362)
 | .ret v363=>some (.ret v363)
theorem f84r1n0_ok {self:(Int→Int→Int→List Int→List Int→Option (List Int))} (self_ok:(∀(a1 a2 a3:Int)(a4 a5:List Int){r:List Int},self a1 a2 a3 a4 a5=some r→Ql Try.prog true 84 [(.own 0),(jI a1),(jI a2),(jI a3),(.clo 69 [(.bp 1 0)])] [some (.row false 1 (a4.map (cInt .i64))),some (.box [(.own 2)]),some (.row false 1 (a5.map (cInt .u64)))] (.tup []) [some (.row false 1 (r.map (cInt .i64))),some (.box [(.own 2)]),some (.row false 1 (a5.map (cInt .u64)))])) (a1:Int) (a2:Int) (a3:Int) (a4:List Int) (a5:List Int) {o:f84r1n0O} (h:f84r1n0 self a1 a2 a3 a4 a5=some o):T Try.prog Try.f84.ntmps 3 c84 (f84r1n0S a1 a2 a3 a4 a5) (·=f84r1n0E a1 a2 a3 a4 a5 o):=by
 unfold f84r1n0 at h;refine rN Qf 0 [] [] [] [] [0,1,2,3,4] (f84r1n1S a1 a2 a3 a4 a5) an ?_;obtain ⟨o122,h123,h⟩:=Qd h;cases o122 with
 | norm =>
  refine T.oneN (by kernel_rfl) (f84r1n1_ok self_ok a1 a2 a3 a4 a5 h123) (st2:=(f84r1n1E a1 a2 a3 a4 a5 .norm).2) rfl ?_;refine rN Qf 0 [] [] [] [] [0,1,2,3,4] (f84r1n6S a1 a2 a3 a4 a5) an ?_;obtain ⟨o240,h241,h⟩:=Qd h;cases o240 with
  | norm =>
   refine T.oneN (by kernel_rfl) (f84r1n6_ok self_ok a1 a2 a3 a4 a5 h241) (st2:=(f84r1n6E a1 a2 a3 a4 a5 .norm).2) rfl ?_;refine rN Qf 3 [j3,j3,j3] [] [] [] [0,1,2,3,4,18,19] (f84r1n11S a1 a2 a3 a4 a5) an ?_;obtain ⟨o247,h248,h⟩:=Qd h;cases o247 with
   | norm v249 v250 =>
    refine T.oneN (by kernel_rfl) (f84r1n11_ok self_ok a1 a2 a3 a4 a5 h248) (st2:=(f84r1n11E a1 a2 a3 a4 a5 (.norm v249 v250)).2) rfl ?_;refine rN Qf 1 [j3] [] [] [] [0,1,2,3,4,18,19,20,21,22] (f84r1n12S a1 a2 a3 a4 a5 v249 v250) an ?_;obtain ⟨o304,h305,h⟩:=Qd h;cases o304 with
    | exit8 v306 =>
     refine T.oneN (by kernel_rfl) (T.bl (i:=8) (by kernel_rfl) (by kernel_rfl) (f84r1n12_ok self_ok FUEL a1 a2 a3 a4 a5 v249 v250 h305)) (st2:=(f84r1n12E a1 a2 a3 a4 a5 (.exit8 v306)).2) rfl ?_;refine rN Qf 1 [j3] [] [] [] [0,1,2,3,4,18,20,24] (f84r1n13S a1 a2 a3 v306 a4 a5) an ?_;obtain ⟨o325,h326,h⟩:=Qd h;cases o325 with
     | norm v327 =>
      refine T.oneN (by kernel_rfl) (f84r1n13_ok self_ok a1 a2 a3 v306 a4 a5 h326) (st2:=(f84r1n13E a1 a2 a3 v306 a4 a5 (.norm v327)).2) rfl ?_;refine rN Qf 0 [] [] [] [] [0,1,3,4,18,20,24] (f84r1n15S a1 a3 v306 a2 v327 a5) an ?_;obtain ⟨o346,h347,h⟩:=Qd h;cases o346 with
      | norm v348 =>
       refine T.oneN (by kernel_rfl) (f84r1n15_ok self_ok a1 a3 v306 a2 v327 a5 h347) (st2:=(f84r1n15E a1 a3 v306 a2 v327 a5 (.norm v348)).2) rfl ?_;refine rN Qf 0 [] [] [] [] [0,3,4,18,24] (f84r1n17S a3 a1 a2 v306 v348 a5) an ?_;obtain ⟨o353,h354,h⟩:=Qd h;cases o353 with
       | norm v355 =>
        refine T.oneN (by kernel_rfl) (f84r1n17_ok self_ok a3 a1 a2 v306 v348 a5 h354) (st2:=(f84r1n17E a3 a1 a2 v306 v348 a5 (.norm v355)).2) rfl ?_;rcases Qh h with ⟨h359,h⟩|⟨h359,h⟩
        ·obtain ⟨x360,h361,h⟩:=Qd h;obtain rfl:=Qe h;exact rE Qf [([],[(5,.call (.tup []) [some (.row false 1 (x360.map (cInt .i64))),some (.box [(.own 2)]),some (.row false 1 (a5.map (cInt .u64)))])],[])] [some true] [] [] [] (.norm,(f84r1n0E a1 a2 a3 a4 a5 (.norm x360)).2) (ap h359 (ap (self_ok (wr64 (shrK .u64 (Qi (wr64 (a1+a3))) 1)) (wr64 ((wr64 ((wr64 (shrK .u64 (Qi (wr64 (a1+a3))) 1))+a2))-v306)) a3 v348 a5 h361) an)) rfl
        ·obtain rfl:=Qe h;exact rE Qf [] [some false] [] [] [] (.norm,(f84r1n0E a1 a2 a3 a4 a5 (.norm v348)).2) (ap h359 an) rfl
  | ret v362 =>
   obtain rfl:=Qe h;exact T.oneX' (by kernel_rfl) (f84r1n6_ok self_ok a1 a2 a3 a4 a5 h241) (tds:=[]) (m:=[]) (keep:=[]) (st2:=(f84r1n0E a1 a2 a3 a4 a5 (.ret v362)).2) (by kernel_rfl) an rfl rfl
 | ret v363 =>
  obtain rfl:=Qe h;exact T.oneX' (by kernel_rfl) (f84r1n1_ok self_ok a1 a2 a3 a4 a5 h123) (tds:=[]) (m:=[]) (keep:=[]) (st2:=(f84r1n0E a1 a2 a3 a4 a5 (.ret v363)).2) (by kernel_rfl) an rfl rfl
noncomputable def f84r1F:Nat→Int→Int→Int→List Int→List Int→Option (List Int)
 | 0,_,_,_,_,_=>none
 | k+1,a1,a2,a3,a4,a5=>(f84r1n0 (f84r1F k) a1 a2 a3 a4 a5).bind fun o=>match o with
  | .norm v364=>some v364
  | .ret v365=>some v365
theorem f84r1F_ok:∀(k:Nat)(a1 a2 a3:Int)(a4 a5:List Int){r:List Int},f84r1F k a1 a2 a3 a4 a5=some r→Ql Try.prog true 84 [(.own 0),(jI a1),(jI a2),(jI a3),(.clo 69 [(.bp 1 0)])] [some (.row false 1 (a4.map (cInt .i64))),some (.box [(.own 2)]),some (.row false 1 (a5.map (cInt .u64)))] (.tup []) [some (.row false 1 (r.map (cInt .i64))),some (.box [(.own 2)]),some (.row false 1 (a5.map (cInt .u64)))]
 | 0,_,_,_,_,_,_,h=>nomatch h
 | k+1,a1,a2,a3,a4,a5,r,h=>by
  unfold f84r1F at h;obtain ⟨o,ho,h⟩:=Qd h;cases o with
  | norm v364 =>
   obtain rfl:=Qe h;exact Ql.shared Qf (f:=Try.f84) (c:=c84) (by kernel_rfl) (by kernel_rfl) (by kernel_rfl) ((f84r1n0_ok (fun _ _ _ _ _ {_} h=>f84r1F_ok k _ _ _ _ _ h) a1 a2 a3 a4 a5 ho).mono fun r e=>by subst e; exact ⟨.inr rfl,by kernel_rfl,by kernel_rfl⟩)
  | ret v365 =>
   obtain rfl:=Qe h;exact Ql.shared Qf (f:=Try.f84) (c:=c84) (by kernel_rfl) (by kernel_rfl) (by kernel_rfl) ((f84r1n0_ok (fun _ _ _ _ _ {_} h=>f84r1F_ok k _ _ _ _ _ h) a1 a2 a3 a4 a5 ho).mono fun r e=>by subst e; exact ⟨.inl rfl,by kernel_rfl,by kernel_rfl⟩)
noncomputable def f84r1(a1 a2 a3:Int)(a4 a5:List Int):Option (List Int):=f84r1F 200 a1 a2 a3 a4 a5
theorem f84r1_ok(a1 a2 a3:Int)(a4 a5:List Int){r:List Int}(h:f84r1 a1 a2 a3 a4 a5=some r):Ql Try.prog true 84 [(.own 0),(jI a1),(jI a2),(jI a3),(.clo 69 [(.bp 1 0)])] [some (.row false 1 (a4.map (cInt .i64))),some (.box [(.own 2)]),some (.row false 1 (a5.map (cInt .u64)))] (.tup []) [some (.row false 1 (r.map (cInt .i64))),some (.box [(.own 2)]),some (.row false 1 (a5.map (cInt .u64)))]:=f84r1F_ok 200 a1 a2 a3 a4 a5 h

noncomputable def c78:Code:=Try.f78.body.getD .skip
inductive f78r1n1O where
 | exit0 (v28:Int) (v29:List Int)
def f78r1n1E(a1:Int)(a3:List Int):f78r1n1O→Ex×Tr×Hp
 | .exit0 v28 v29=>((.exit 0),mkS [(0,(.own 0)),(1,(jI a1)),(2,(.clo 69 [(.bp 1 0)])),(6,(jI 20)),(7,(jI v28))],[some (.row false 1 (v29.map (cInt .i64))),some (.box [(.own 2)]),some (.row false 1 (a3.map (cInt .u64)))])
def f78r1n1S(a1:Int)(a3:List Int)(v19 v20:Int)(v21:List Int):Tr×Hp:=(mkS [(0,(.own 0)),(1,(jI a1)),(2,(.clo 69 [(.bp 1 0)])),(6,(jI 20)),(7,(jI v19)),(8,(jI v20))],[some (.row false 1 (v21.map (cInt .i64))),some (.box [(.own 2)]),some (.row false 1 (a3.map (cInt .u64)))])
noncomputable def f78r1n1:Nat→Int→List Int→Int→Int→List Int→Option f78r1n1O
 | 0,_,_,_,_,_=>none
 | f+1,a1,a3,v19,v20,v21 =>
  bif decide (v20≤a1) then
   (f83r1 v19 v20 v21 a3).bind fun x26 =>
   (f78r1n1 f a1 a3 v20 (wr64 (v20+20)) x26)
  else
   some (.exit0 v19 v21)
theorem f78r1n1_ok:∀(f:Nat)(a1:Int)(a3:List Int)(v19 v20:Int)(v21:List Int){o:f78r1n1O},f78r1n1 f a1 a3 v19 v20 v21=some o→TL Try.prog Try.f78.ntmps 3 f (cL (cL (cL (Qj 2 c78)))) (f78r1n1S a1 a3 v19 v20 v21) (·=f78r1n1E a1 a3 o)
 | 0,_,_,_,_,_,o,h=>by rw [f78r1n1] at h; cases h
 | f+1,a1,a3,v19,v20,v21,o,h=>by
  rw [f78r1n1] at h;refine TL.body (K:=fun s=>∃v19:Int,∃v20:Int,∃v21:List Int,s=(f78r1n1S a1 a3 v19 v20 v21)∧f78r1n1 f a1 a3 v19 v20 v21=some o) ?_ (by rintro _ ⟨v19,v20,v21,rfl,hk⟩; exact f78r1n1_ok f _ _ _ _ _ hk);rcases Qh h with ⟨h23,h⟩|⟨h23,h⟩
  ·obtain ⟨x26,h27,h⟩:=Qd h;exact rE Qf [j3,([],[(4,.call (.tup []) [some (.row false 1 (x26.map (cInt .i64))),some (.box [(.own 2)]),some (.row false 1 (a3.map (cInt .u64)))])],[]),j3,j3] [some true] [] [] [0,1,2,6,7,8] (.norm,(f78r1n1S a1 a3 v20 (wr64 (v20+20)) x26)) (ap h23 (ap (f83r1_ok v19 v20 v21 a3 h27) an)) (Qp.norm ⟨v20,(wr64 (v20+20)),x26,rfl,h⟩)
  ·obtain rfl:=Qe h;exact rK Qf 1 [j3] [some false] [] [] [0,1,2,6,7] (.exit 0) ((f78r1n1E a1 a3 (.exit0 v19 v21)).2) (ap h23 an) (Qp.out rfl rfl)
inductive f78r1n3O where
 | exit4 (v152:Int) (v153:List Int)
def f78r1n3E(bb1 bb2:Int)(be4:List Int):f78r1n3O→Ex×Tr×Hp
 | .exit4 v152 v153=>((.exit 4),mkS [(0,(.own 0)),(1,(jI bb1)),(2,(.clo 69 [(.bp 1 0)])),(6,(jI bb2)),(7,(jI v152))],[some (.row false 1 (v153.map (cInt .i64))),some (.box [(.own 2)]),some (.row false 1 (be4.map (cInt .u64)))])
def f78r1n3S(bb1 bb2:Int)(be4:List Int)(v143 v144:Int)(v145:List Int):Tr×Hp:=(mkS [(0,(.own 0)),(1,(jI bb1)),(2,(.clo 69 [(.bp 1 0)])),(6,(jI bb2)),(7,(jI v143)),(8,(jI v144))],[some (.row false 1 (v145.map (cInt .i64))),some (.box [(.own 2)]),some (.row false 1 (be4.map (cInt .u64)))])
noncomputable def f78r1n3:Nat→Int→Int→List Int→Int→Int→List Int→Option f78r1n3O
 | 0,_,_,_,_,_,_=>none
 | f+1,bb1,bb2,be4,v143,v144,v145 =>
  bif decide (v144≤bb1) then
   (f84r1 v143 (wr64 (v143+bb2)) v144 v145 be4).bind fun x150 =>
   (f78r1n3 f bb1 bb2 be4 v144 (wr64 (v144+(wr64 (2*bb2)))) x150)
  else
   some (.exit4 v143 v145)
theorem f78r1n3_ok:∀(f:Nat)(bb1 bb2:Int)(be4:List Int)(v143 v144:Int)(v145:List Int){o:f78r1n3O},f78r1n3 f bb1 bb2 be4 v143 v144 v145=some o→TL Try.prog Try.f78.ntmps 3 f (cL (cL (cL (Qj 1 (cL (Qj 1 (cL (cL (Qj 1 (Qj 1 (Qj 2 c78))))))))))) (f78r1n3S bb1 bb2 be4 v143 v144 v145) (·=f78r1n3E bb1 bb2 be4 o)
 | 0,_,_,_,_,_,_,o,h=>by rw [f78r1n3] at h; cases h
 | f+1,bb1,bb2,be4,v143,v144,v145,o,h=>by
  rw [f78r1n3] at h;refine TL.body (K:=fun s=>∃v143:Int,∃v144:Int,∃v145:List Int,s=(f78r1n3S bb1 bb2 be4 v143 v144 v145)∧f78r1n3 f bb1 bb2 be4 v143 v144 v145=some o) ?_ (by rintro _ ⟨v143,v144,v145,rfl,hk⟩; exact f78r1n3_ok f _ _ _ _ _ _ hk);rcases Qh h with ⟨h147,h⟩|⟨h147,h⟩
  ·obtain ⟨x150,h151,h⟩:=Qd h;exact rE Qf [j3,([],[(7,.call (.tup []) [some (.row false 1 (x150.map (cInt .i64))),some (.box [(.own 2)]),some (.row false 1 (be4.map (cInt .u64)))])],[]),j3,j3] [some true] [] [] [0,1,2,6,7,8] (.norm,(f78r1n3S bb1 bb2 be4 v144 (wr64 (v144+(wr64 (2*bb2)))) x150)) (ap h147 (ap (f84r1_ok v143 (wr64 (v143+bb2)) v144 v145 be4 h151) an)) (Qp.norm ⟨v144,(wr64 (v144+(wr64 (2*bb2)))),x150,rfl,h⟩)
  ·obtain rfl:=Qe h;exact rK Qf 1 [j3] [some false] [] [] [0,1,2,6,7] (.exit 4) ((f78r1n3E bb1 bb2 be4 (.exit4 v143 v145)).2) (ap h147 an) (Qp.out rfl rfl)
inductive f78r1n2O where
 | norm (v164:List Int)
def f78r1n2E(bb1 bb2:Int)(be3 be4:List Int):f78r1n2O→Ex×Tr×Hp
 | .norm v164=>(.norm,mkS [(0,(.own 0)),(1,(jI bb1)),(2,(.clo 69 [(.bp 1 0)])),(6,(jI (wr64 (bb2*2))))],[some (.row false 1 (v164.map (cInt .i64))),some (.box [(.own 2)]),some (.row false 1 (be4.map (cInt .u64)))])
def f78r1n2S(bb1 bb2:Int)(be3 be4:List Int):Tr×Hp:=(mkS [(0,(.own 0)),(1,(jI bb1)),(2,(.clo 69 [(.bp 1 0)])),(6,(jI bb2))],[some (.row false 1 (be3.map (cInt .i64))),some (.box [(.own 2)]),some (.row false 1 (be4.map (cInt .u64)))])
noncomputable def f78r1n2(bb1 bb2:Int)(be3 be4:List Int):Option f78r1n2O :=
 (f78r1n3 FUEL bb1 bb2 be4 0 (wr64 (2*bb2)) be3).bind fun o154=>match o154 with
 | .exit4 v156 v157=>bif (decide ((wr64 (v156+bb2))<bb1)) then
   (f84r1 v156 (wr64 (v156+bb2)) bb1 v157 be4).bind fun x162 =>
   some (.norm x162)
  else
   some (.norm v157)
theorem f78r1n2_ok(bb1 bb2:Int)(be3 be4:List Int){o:f78r1n2O}(h:f78r1n2 bb1 bb2 be3 be4=some o):T Try.prog Try.f78.ntmps 3 (Qj 1 (cL (cL (Qj 1 (Qj 1 (Qj 2 c78)))))) (f78r1n2S bb1 bb2 be3 be4) (·=f78r1n2E bb1 bb2 be3 be4 o):=by
 unfold f78r1n2 at h;refine T.block' (i:=3) (by kernel_rfl) ?_;refine rN Qf 1 [j3] [] [] [] [0,1,2,6,7,8] (f78r1n3S bb1 bb2 be4 0 (wr64 (2*bb2)) be3) an ?_;obtain ⟨o154,h155,h⟩:=Qd h;cases o154 with
 | exit4 v156 v157 =>
  refine T.oneN (by kernel_rfl) (T.bl (i:=4) (by kernel_rfl) (by kernel_rfl) (f78r1n3_ok FUEL bb1 bb2 be4 0 (wr64 (2*bb2)) be3 h155)) (st2:=(f78r1n3E bb1 bb2 be4 (.exit4 v156 v157)).2) rfl ?_;rcases Qh h with ⟨h161,h⟩|⟨h161,h⟩
  ·obtain ⟨x162,h163,h⟩:=Qd h;obtain rfl:=Qe h;exact rE Qf [j3,j3,([],[(5,.call (.tup []) [some (.row false 1 (x162.map (cInt .i64))),some (.box [(.own 2)]),some (.row false 1 (be4.map (cInt .u64)))])],[]),j3] [some true] [] [] [0,1,2,6] (.norm,(f78r1n2E bb1 bb2 be3 be4 (.norm x162)).2) (ap h161 (ap (f84r1_ok v156 (wr64 (v156+bb2)) bb1 v157 be4 h163) an)) rfl
  ·obtain rfl:=Qe h;exact rE Qf [j3,j3,j3] [some false] [] [] [0,1,2,6] (.norm,(f78r1n2E bb1 bb2 be3 be4 (.norm v157)).2) (ap h161 an) rfl
inductive f78r1n4O where
 | exit2 (v168:List Int)
def f78r1n4E(a1:Int)(a3:List Int):f78r1n4O→Ex×Tr×Hp
 | .exit2 v168=>((.exit 2),mkS [],[some (.row false 1 (v168.map (cInt .i64))),some (.box [(.own 2)]),some (.row false 1 (a3.map (cInt .u64)))])
def f78r1n4S(a1:Int)(a3:List Int)(v124:Int)(v125:List Int):Tr×Hp:=(mkS [(0,(.own 0)),(1,(jI a1)),(2,(.clo 69 [(.bp 1 0)])),(6,(jI v124))],[some (.row false 1 (v125.map (cInt .i64))),some (.box [(.own 2)]),some (.row false 1 (a3.map (cInt .u64)))])
noncomputable def f78r1n4:Nat→Int→List Int→Int→List Int→Option f78r1n4O
 | 0,_,_,_,_=>none
 | f+1,a1,a3,v124,v125 =>
  bif decide (v124<a1) then
   (f78r1n2 a1 v124 v125 a3).bind fun o165=>match o165 with
   | .norm v167=>(f78r1n4 f a1 a3 (wr64 (v124*2)) v167)
  else
   some (.exit2 v125)
theorem f78r1n4_ok:∀(f:Nat)(a1:Int)(a3:List Int)(v124:Int)(v125:List Int){o:f78r1n4O},f78r1n4 f a1 a3 v124 v125=some o→TL Try.prog Try.f78.ntmps 3 f (cL (cL (Qj 1 (Qj 1 (Qj 2 c78))))) (f78r1n4S a1 a3 v124 v125) (·=f78r1n4E a1 a3 o)
 | 0,_,_,_,_,o,h=>by rw [f78r1n4] at h; cases h
 | f+1,a1,a3,v124,v125,o,h=>by
  rw [f78r1n4] at h;refine TL.body (K:=fun s=>∃v124:Int,∃v125:List Int,s=(f78r1n4S a1 a3 v124 v125)∧f78r1n4 f a1 a3 v124 v125=some o) ?_ (by rintro _ ⟨v124,v125,rfl,hk⟩; exact f78r1n4_ok f _ _ _ _ hk);rcases Qh h with ⟨h127,h⟩|⟨h127,h⟩
  ·refine rN Qf 1 [j3] [some true] [] [] [0,1,2,6] (f78r1n2S a1 v124 v125 a3) (ap h127 an) ?_;obtain ⟨o165,h166,h⟩:=Qd h;cases o165 with
   | norm v167 =>
    exact T.last' (f78r1n2_ok a1 v124 v125 a3 h166) (tds:=[]) (m:=[]) (keep:=[0,1,2,6]) (st2:=(f78r1n4S a1 a3 (wr64 (v124*2)) v167)) (by kernel_rfl) an (Qp.norm ⟨(wr64 (v124*2)),v167,rfl,h⟩)
  ·obtain rfl:=Qe h;exact rK Qf 1 [j3] [some false] [] [] [] (.exit 2) ((f78r1n4E a1 a3 (.exit2 v125)).2) (ap h127 an) (Qp.out rfl rfl)
inductive f78r1n0O where
 | norm (v172:List Int)
def f78r1n0E(a1:Int)(a2 a3:List Int):f78r1n0O→Ex×Tr×Hp
 | .norm v172=>(.norm,mkS [],[some (.row false 1 (v172.map (cInt .i64))),some (.box [(.own 2)]),some (.row false 1 (a3.map (cInt .u64)))])
def f78r1n0S(a1:Int)(a2 a3:List Int):Tr×Hp:=(Qaa [(.own 0),(jI a1),(.clo 69 [(.bp 1 0)])] 0 .leaf,[some (.row false 1 (a2.map (cInt .i64))),some (.box [(.own 2)]),some (.row false 1 (a3.map (cInt .u64)))])
noncomputable def f78r1n0(a1:Int)(a2 a3:List Int):Option f78r1n0O :=
 (f78r1n1 FUEL a1 a3 0 20 a2).bind fun o30=>match o30 with
 | .exit0 v32 v33=>(f83r1 v32 a1 v33 a3).bind fun x36 =>
  (f78r1n4 FUEL a1 a3 20 x36).bind fun o169=>match o169 with
  | .exit2 v171=>some (.norm v171)
theorem f78r1n0_ok(a1:Int)(a2 a3:List Int){o:f78r1n0O}(h:f78r1n0 a1 a2 a3=some o):T Try.prog Try.f78.ntmps 3 c78 (f78r1n0S a1 a2 a3) (·=f78r1n0E a1 a2 a3 o):=by
 unfold f78r1n0 at h;refine rN Qf 2 [j3,j3] [] [] [] [0,1,2,6,7,8] (f78r1n1S a1 a3 0 20 a2) an ?_;obtain ⟨o30,h31,h⟩:=Qd h;cases o30 with
 | exit0 v32 v33 =>
  refine T.oneN (by kernel_rfl) (T.bl (i:=0) (by kernel_rfl) (by kernel_rfl) (f78r1n1_ok FUEL a1 a3 0 20 a2 h31)) (st2:=(f78r1n1E a1 a3 (.exit0 v32 v33)).2) rfl ?_;obtain ⟨x36,h37,h⟩:=Qd h;refine rN Qf 1 [([],[(4,.call (.tup []) [some (.row false 1 (x36.map (cInt .i64))),some (.box [(.own 2)]),some (.row false 1 (a3.map (cInt .u64)))])],[])] [] [] [] [0,1,2,6] (f78r1n4S a1 a3 20 x36) (ap (f83r1_ok v32 a1 v33 a3 h37) an) ?_;obtain ⟨o169,h170,h⟩:=Qd h;cases o169 with
  | exit2 v171 =>
   obtain rfl:=Qe h;exact T.last' (T.bl (i:=2) (by kernel_rfl) (by kernel_rfl) (f78r1n4_ok FUEL a1 a3 20 x36 h170)) (tds:=[]) (m:=[]) (keep:=[]) (st2:=(f78r1n0E a1 a2 a3 (.norm v171)).2) (by kernel_rfl) an rfl
noncomputable def f78r1(a1:Int)(a2 a3:List Int):Option (List Int):=(f78r1n0 a1 a2 a3).bind fun o=>match o with
 | .norm v172=>some v172
theorem f78r1_ok(a1:Int)(a2 a3:List Int){r:List Int}(h:f78r1 a1 a2 a3=some r):Ql Try.prog true 78 [(.own 0),(jI a1),(.clo 69 [(.bp 1 0)])] [some (.row false 1 (a2.map (cInt .i64))),some (.box [(.own 2)]),some (.row false 1 (a3.map (cInt .u64)))] (.tup []) [some (.row false 1 (r.map (cInt .i64))),some (.box [(.own 2)]),some (.row false 1 (a3.map (cInt .u64)))]:=by
 unfold f78r1 at h;obtain ⟨o,ho,h⟩:=Qd h;cases o with
 | norm v172 =>
  obtain rfl:=Qe h;exact Ql.shared Qf (f:=Try.f78) (c:=c78) (by kernel_rfl) (by kernel_rfl) (by kernel_rfl) ((f78r1n0_ok a1 a2 a3 ho).mono fun r e=>by subst e; exact ⟨.inr rfl,by kernel_rfl,by kernel_rfl⟩)
end Go.Proofs.Ytgbolgaodaokcaa
