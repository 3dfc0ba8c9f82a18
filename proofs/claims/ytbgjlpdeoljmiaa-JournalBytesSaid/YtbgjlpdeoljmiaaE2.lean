/- Several texts in one. No condition. -/
import Derived.Test.YtbgjlpdeoljmiaaTyD
import Derived.Test.YtbgjlpdeoljmiaaTV
import Derived.Test.YtbgjlpdeoljmiaaTU
import Derived.Test.YtbgjlpdeoljmiaaIn
namespace Go.Proofs.Ytbgjlpdeoljmiaa
set_option linter.unusedVariables false
set_option linter.unusedSimpArgs false
set_option maxRecDepth 100000
open Go.RowKit
structure Qb where
 Account:ByteArray
 Ccy:ByteArray
 Amount:Int
def Qb.cells(x:Qb):List PV:=[.str x.Account,.str x.Ccy,.int .i64 x.Amount]
theorem Qb.cells_eq(x y:Qb):(Qb.cells x=Qb.cells y)=(x=y):=propext ⟨fun h=>by
 cases x; cases y
 simp_all [Qb.cells],fun h=>by rw [h]⟩
theorem Qb.map_eq(x y:List Qb):(x.map Qb.cells=y.map Qb.cells)=(x=y):=map_eq_of fun a b h=>by rwa [Qb.cells_eq] at h
structure Qa where
 Day:Int
 Text:ByteArray
 Lines:List Qb
def Qa.cells(x:Qa):List PV:=[.int .i64 x.Day,.str x.Text,.sl .any 3 (x.Lines.map Qb.cells)]
theorem Qa.cells_eq(x y:Qa):(Qa.cells x=Qa.cells y)=(x=y):=propext ⟨fun h=>by
 cases x; cases y
 simp_all [Qa.cells,Qb.cells,Qb.cells_eq,Qb.map_eq],fun h=>by rw [h]⟩
theorem Qa.map_eq(x y:List Qa):(x.map Qa.cells=y.map Qa.cells)=(x=y):=map_eq_of fun a b h=>by rwa [Qa.cells_eq] at h
structure Qh where
 Records:List Qa
def Qh.cells(x:Qh):List PV:=[.sl .any 3 (x.Records.map Qa.cells)]
theorem Qh.cells_eq(x y:Qh):(Qh.cells x=Qh.cells y)=(x=y):=propext ⟨fun h=>by
 cases x; cases y
 simp_all [Qh.cells,Qa.cells,Qa.cells_eq,Qa.map_eq],fun h=>by rw [h]⟩
theorem Qh.map_eq(x y:List Qh):(x.map Qh.cells=y.map Qh.cells)=(x=y):=map_eq_of fun a b h=>by rwa [Qh.cells_eq] at h
structure Qe where
 name:ByteArray
 ccy:ByteArray
def Qe.cells(x:Qe):List PV:=[.str x.name,.str x.ccy]
theorem Qe.cells_eq(x y:Qe):(Qe.cells x=Qe.cells y)=(x=y):=propext ⟨fun h=>by
 cases x; cases y
 simp_all [Qe.cells],fun h=>by rw [h]⟩
theorem Qe.map_eq(x y:List Qe):(x.map Qe.cells=y.map Qe.cells)=(x=y):=map_eq_of fun a b h=>by rwa [Qe.cells_eq] at h
structure Qi where
 b:List Int
def Qi.cells(x:Qi):List PV:=[.sl .any 1 (x.b.map (cInt .u8))]
def Qe.eqb(x y:Qe):Bool:=seq x.name y.name&&seq x.ccy y.ccy
theorem Qe.eqb_ok(x y:Qe):eqV cfg.ty 95 (.agg (Qe.cells x)) (.agg (Qe.cells y))=some (Qe.eqb x y):=by
 unfold Qe.eqb;have e:eqV cfg.ty 95 (.agg (Qe.cells x)) (.agg (Qe.cells y))=(match some (decide (x.name.data.toList=y.name.data.toList)) with | some true=>(match some (decide (x.ccy.data.toList=y.ccy.data.toList)) with | some true=>(some true) | some false=>some false | none=>none) | some false=>some false | none=>none):=by kernel_rfl
 rw [e]
 try simp only [seq]
 cases decide (x.name.data.toList=y.name.data.toList)<;>cases decide (x.ccy.data.toList=y.ccy.data.toList)<;>rfl
def Qb.eqb(x y:Qb):Bool:=seq x.Account y.Account&&seq x.Ccy y.Ccy&&decide (x.Amount=y.Amount)
theorem Qb.eqb_ok(x y:Qb):eqV cfg.ty 49 (.agg (Qb.cells x)) (.agg (Qb.cells y))=some (Qb.eqb x y):=by
 unfold Qb.eqb;have e:eqV cfg.ty 49 (.agg (Qb.cells x)) (.agg (Qb.cells y))=(match some (decide (x.Account.data.toList=y.Account.data.toList)) with | some true=>(match some (decide (x.Ccy.data.toList=y.Ccy.data.toList)) with | some true=>(match some (decide (x.Amount=y.Amount)) with | some true=>(some true) | some false=>some false | none=>none) | some false=>some false | none=>none) | some false=>some false | none=>none):=by kernel_rfl
 rw [e]
 try simp only [seq]
 cases decide (x.Account.data.toList=y.Account.data.toList)<;>cases decide (x.Ccy.data.toList=y.Ccy.data.toList)<;>cases decide (x.Amount=y.Amount)<;>rfl
theorem key_9:KeyOK cfg 9 pStr seq:=key_str (fun _ _=>by kernel_rfl) (fun _=>by kernel_rfl)
theorem Qe.eqb_eq{x y:Qe}(h:Qe.eqb x y=true):x=y:=by
 cases x; cases y;simp only [Qe.eqb,Bool.and_eq_true,decide_eq_true_eq,beq_iff_eq] at h;simp only [Qe.mk.injEq];refine ⟨?_,?_⟩<;>first | exact seq_eq' (by simp_all) | simp_all
theorem key_95:KeyOK cfg 95 (pAgg Qe.cells) Qe.eqb:=⟨fun a b=>Qe.eqb_ok a b,fun _=>by kernel_rfl,fun a b h=>Qe.eqb_eq h,fun a=>by simp [pAgg,Qe.cells,eqC,eqCL,eqC1,kindEq]⟩
theorem cInt_inj:∀{xs ys:List Int},xs.map (cInt .u8)=ys.map (cInt .u8)→xs=ys
 | [],[],_=>rfl
 | x::xs,y::ys,h=>by
  simp only [List.map_cons,List.cons.injEq,cInt,PV.int.injEq,true_and,and_true] at h;rw [h.1,cInt_inj (xs:=xs) (ys:=ys) h.2]
 | [],_::_,h=>by cases h
 | _::_,[],h=>by cases h
def str_x78:ByteArray:=⟨#[120]⟩
def str_b:ByteArray:=⟨#[98]⟩
def Qch:ByteArray:=⟨#[69,85,82]⟩
def str_a:ByteArray:=⟨#[97]⟩
def Qbz:ByteArray:=⟨#[]⟩
def panV:List PanicEntry:=[{ v:=.iface 103 (.agg #[]),recovered:=false }]
def ti49:TI:=⟨.struct [(9,0),(9,1),(3,2)],3,40,[.str ByteArray.empty,.str ByteArray.empty,.int .i64 0]⟩
def ti47:TI:=⟨.struct [(3,0),(9,1),(45,2)],3,48,[.int .i64 0,.str ByteArray.empty,.sl .nil 0 []]⟩
def ti5:TI:=⟨.int .u8,1,1,[.int .u8 0]⟩
def ti3:TI:=⟨.int .i64,1,8,[.int .i64 0]⟩
def ti9:TI:=⟨.str,1,16,[.str ByteArray.empty]⟩
def ti45:TI:=⟨.sl 49,1,24,[.sl .nil 0 []]⟩
def ti22:TI:=⟨.sl 47,1,24,[.sl .nil 0 []]⟩
def ti24:TI:=⟨.struct [(22,0)],1,24,[.sl .nil 0 []]⟩
def ti25:TI:=⟨.sl 5,1,24,[.sl .nil 0 []]⟩
def ti26:TI:=⟨.int .u64,1,8,[.int .u64 0]⟩
def Qb.ok(x:Qb):Prop:=(fun s:ByteArray=>s.size≤maxLen) x.Account∧(fun s:ByteArray=>s.size≤maxLen) x.Ccy∧(okInt .i64) x.Amount∧True
def Qa.ok(x:Qa):Prop:=(okInt .i64) x.Day∧(fun s:ByteArray=>s.size≤maxLen) x.Text∧(fun l:List Qb=>l.length≤maxLen∧∀x∈l,Qb.ok x) x.Lines∧True
def Qh.ok(x:Qh):Prop:=(fun l:List Qa=>l.length≤maxLen∧∀x∈l,Qa.ok x) x.Records∧True
def Qe.ok(x:Qe):Prop:=(fun s:ByteArray=>s.size≤maxLen) x.name∧(fun s:ByteArray=>s.size≤maxLen) x.ccy∧True
def Qi.ok(x:Qi):Prop:=(fun l:List Int=>l.length≤maxLen∧∀x∈l,(okInt .u8) x) x.b∧True
theorem of_3{d:Nat}{ps:List PV}(h:WT cfg.ty (d+1) 3 ps):∃x:Int,ps=(cInt .i64) x∧(okInt .i64) x:=by
 obtain ⟨n,rfl,k⟩:=wt_int (ti:=ti3) (by kernel_rfl) rfl h;exact ⟨n,rfl,k⟩
theorem of_9{d:Nat}{ps:List PV}(h:WT cfg.ty (d+1) 9 ps):∃x:ByteArray,ps=cStr x∧(fun s:ByteArray=>s.size≤maxLen) x:=by
 obtain ⟨n,rfl,k⟩:=wt_str (ti:=ti9) (by kernel_rfl) rfl h;exact ⟨n,rfl,k⟩
theorem of_49{d:Nat}{ps:List PV}(h:WT cfg.ty (d+2) 49 ps):∃x:Qb,ps=Qb.cells x∧Qb.ok x:=by
 have g:=wt_struct (ti:=ti49) (by kernel_rfl) rfl h
 clear h
 obtain ⟨_,_,_,rfl,_,_,h0,g0⟩:=g;obtain ⟨x0,rfl,k0⟩:=of_9 h0;obtain ⟨_,_,_,rfl,_,_,h1,g1⟩:=g0;obtain ⟨x1,rfl,k1⟩:=of_9 h1;obtain ⟨_,_,_,rfl,_,_,h2,g2⟩:=g1;obtain ⟨x2,rfl,k2⟩:=of_3 h2;have e:_=[]:=g2;subst e;exact ⟨⟨x0,x1,x2⟩,rfl,k0,k1,k2,trivial⟩
theorem of_45{d:Nat}{ps:List PV}(h:WT cfg.ty (d+3) 45 ps):∃x:List Qb,ps=(cLst 3 Qb.cells) x∧(fun l:List Qb=>l.length≤maxLen∧∀x∈l,Qb.ok x) x:=by
 obtain ⟨te,es,e1,rfl,hl,hh⟩:=wt_sl (ti:=ti45) (by kernel_rfl) rfl h;obtain rfl:te=ti49:=Qd (e1.symm.trans (by kernel_rfl:cfg.ty 49=some ti49));obtain ⟨xs,rfl,hx⟩:=list_of (c:=Qb.cells) (ok:=Qb.ok) (fun ps h=>of_49 h) es (fun c hc=>(hh c hc).2);exact ⟨xs,rfl,by simpa using hl,hx⟩
theorem of_47{d:Nat}{ps:List PV}(h:WT cfg.ty (d+4) 47 ps):∃x:Qa,ps=Qa.cells x∧Qa.ok x:=by
 have g:=wt_struct (ti:=ti47) (by kernel_rfl) rfl h
 clear h
 obtain ⟨_,_,_,rfl,_,_,h0,g0⟩:=g;obtain ⟨x0,rfl,k0⟩:=of_3 h0;obtain ⟨_,_,_,rfl,_,_,h1,g1⟩:=g0;obtain ⟨x1,rfl,k1⟩:=of_9 h1;obtain ⟨_,_,_,rfl,_,_,h2,g2⟩:=g1;obtain ⟨x2,rfl,k2⟩:=of_45 h2;have e:_=[]:=g2;subst e;exact ⟨⟨x0,x1,x2⟩,rfl,k0,k1,k2,trivial⟩
theorem of_22{d:Nat}{ps:List PV}(h:WT cfg.ty (d+5) 22 ps):∃x:List Qa,ps=(cLst 3 Qa.cells) x∧(fun l:List Qa=>l.length≤maxLen∧∀x∈l,Qa.ok x) x:=by
 obtain ⟨te,es,e1,rfl,hl,hh⟩:=wt_sl (ti:=ti22) (by kernel_rfl) rfl h;obtain rfl:te=ti47:=Qd (e1.symm.trans (by kernel_rfl:cfg.ty 47=some ti47));obtain ⟨xs,rfl,hx⟩:=list_of (c:=Qa.cells) (ok:=Qa.ok) (fun ps h=>of_47 h) es (fun c hc=>(hh c hc).2);exact ⟨xs,rfl,by simpa using hl,hx⟩
theorem of_24{d:Nat}{ps:List PV}(h:WT cfg.ty (d+6) 24 ps):∃x:Qh,ps=Qh.cells x∧Qh.ok x:=by
 have g:=wt_struct (ti:=ti24) (by kernel_rfl) rfl h
 clear h
 obtain ⟨_,_,_,rfl,_,_,h0,g0⟩:=g;obtain ⟨x0,rfl,k0⟩:=of_22 h0;have e:_=[]:=g0;subst e;exact ⟨⟨x0⟩,rfl,k0,trivial⟩
theorem arg_24{p:PV}(h:WV cfg.ty 6 24 p):∃x:Qh,p = .agg (Qh.cells x)∧Qh.ok x:=by
 obtain ⟨cs,rfl,g⟩:=wv_row (ti:=ti24) (by kernel_rfl) rfl h;obtain ⟨x,rfl,k⟩:=of_24 (d:=0) g;exact ⟨x,rfl,k⟩
theorem of_5{d:Nat}{ps:List PV}(h:WT cfg.ty (d+1) 5 ps):∃x:Int,ps=(cInt .u8) x∧(okInt .u8) x:=by
 obtain ⟨n,rfl,k⟩:=wt_int (ti:=ti5) (by kernel_rfl) rfl h;exact ⟨n,rfl,k⟩
theorem of_25{d:Nat}{ps:List PV}(h:WT cfg.ty (d+2) 25 ps):∃x:List Int,ps=(cLst 1 (cInt .u8)) x∧(fun l:List Int=>l.length≤maxLen∧∀x∈l,(okInt .u8) x) x:=by
 obtain ⟨te,es,e1,rfl,hl,hh⟩:=wt_sl (ti:=ti25) (by kernel_rfl) rfl h;obtain rfl:te=ti5:=Qd (e1.symm.trans (by kernel_rfl:cfg.ty 5=some ti5));obtain ⟨xs,rfl,hx⟩:=list_of (c:=(cInt .u8)) (ok:=(okInt .u8)) (fun ps h=>of_5 h) es (fun c hc=>(hh c hc).2);exact ⟨xs,rfl,by simpa using hl,hx⟩
theorem arg_25{p:PV}(h:WV cfg.ty 2 25 p):∃x:List Int,p=(.sl .any 1 (x.map (cInt .u8)))∧(fun l:List Int=>l.length≤maxLen∧∀x∈l,(okInt .u8) x) x:=by
 obtain ⟨_,g⟩:=wv_one (ti:=ti25) (by kernel_rfl) rfl h;obtain ⟨x,e,k⟩:=of_25 (d:=0) g;exact ⟨x,(List.cons.inj e).1,k⟩
theorem of_26{d:Nat}{ps:List PV}(h:WT cfg.ty (d+1) 26 ps):∃x:Int,ps=(cInt .u64) x∧(okInt .u64) x:=by
 obtain ⟨n,rfl,k⟩:=wt_int (ti:=ti26) (by kernel_rfl) rfl h;exact ⟨n,rfl,k⟩
theorem arg_26{p:PV}(h:WV cfg.ty 1 26 p):∃x:Int,p=(.int .u64 x)∧(okInt .u64) x:=by
 obtain ⟨_,g⟩:=wv_one (ti:=ti26) (by kernel_rfl) rfl h;obtain ⟨x,e,k⟩:=of_26 (d:=0) g;exact ⟨x,(List.cons.inj e).1,k⟩
end Go.Proofs.Ytbgjlpdeoljmiaa
namespace Go.Proofs.Ytbgjlpdeoljmiaa
set_option linter.unusedVariables false
set_option linter.unusedSimpArgs false
set_option maxRecDepth 100000
open Go.RowKit
noncomputable def c36:Code:=Try.f36.body.getD .skip
inductive f36n0O where
 | ret
def f36n0E:f36n0O→Ex×Tr×Hp
 | .ret=>(.ret,mkS [(0,(.bp 0 0))],[some (.box 24 [(.pl (.sl .nil 0 []))])])
def f36n0S:Tr×Hp:=(Qai [] 0 .leaf,[])
noncomputable def f36n0:Option f36n0O :=
 some .ret
theorem f36n0_ok{o:f36n0O}(h:f36n0=some o):T Try.prog Try.f36.ntmps 0 c36 f36n0S (·=f36n0E o):=by
 unfold f36n0 at h;obtain rfl:=Qd h;exact rE Qf [j3,j3] [] [] [0] [0] (.ret,(f36n0E .ret).2) an rfl
noncomputable def f36:Option Qh:=f36n0.bind fun o=>match o with
 | .ret=>some (Qh.mk [])
theorem f36_ok{r:Qh}(h:f36=some r):Qm Try.prog false 36 [] [] (jA Qh.cells r) []:=by
 unfold f36 at h;obtain ⟨o,ho,h⟩:=Qc h;cases o with
 | ret =>
  obtain rfl:=Qd h;exact Qm.plain Qf (f:=Try.f36) (c:=c36) (by kernel_rfl) (by kernel_rfl) (by kernel_rfl) (by kernel_rfl) ((f36n0_ok  ho).mono fun r e=>by subst e; exact ⟨.inl rfl,(.pl (.agg [(.sl .nil 0 [])])),(.pl (.agg [(.sl .nil 0 [])])),by kernel_rfl,by kernel_rfl,((Wk.pl (WkP.agg (wpc (WkP.nil (f:=.nil) (sz:=0) (sz':=3)) wpn))):Wk (.pl (.agg [(.sl .nil 0 [])])) (.pl (.agg (Qh.cells (Qh.mk [])))))⟩)

noncomputable def c37:Code:=Try.f37.body.getD .skip
inductive f37r1n0O where
 | ret
def f37r1n0E(a1:Int):f37r1n0O→Ex×Tr×Hp
 | .ret=>(.ret,mkS [(2,(.own 0))],[some (.row false 3 ([(Qb.mk str_a Qch a1),(Qb.mk str_b Qch (wr64 (0-a1)))].map Qb.cells))])
def f37r1n0S(a1:Int):Tr×Hp:=(Qai [(jI a1)] 0 .leaf,[])
noncomputable def f37r1n0(a1:Int):Option f37r1n0O :=
 some .ret
theorem f37r1n0_ok(a1:Int){o:f37r1n0O}(h:f37r1n0 a1=some o):T Try.prog Try.f37.ntmps 0 c37 (f37r1n0S a1) (·=f37r1n0E a1 o):=by
 unfold f37r1n0 at h;obtain rfl:=Qd h;exact rE Qf [j3,j3] [] [] [0] [2] (.ret,(f37r1n0E a1 .ret).2) an rfl
noncomputable def f37r1(a1:Int):Option Unit:=(f37r1n0 a1).bind fun o=>match o with
 | .ret=>some ()
theorem f37r1_ok(a1:Int){r:Unit}(h:f37r1 a1=some r):Qm Try.prog true 37 [(jI a1)] [] (.own 0) [some (.row false 3 ([(Qb.mk str_a Qch a1),(Qb.mk str_b Qch (wr64 (0-a1)))].map Qb.cells))]:=by
 unfold f37r1 at h;obtain ⟨o,ho,h⟩:=Qc h;cases o with
 | ret =>
  obtain rfl:=Qd h;exact Qm.shared Qf (f:=Try.f37) (c:=c37) (by kernel_rfl) (by kernel_rfl) (by kernel_rfl) ((f37r1n0_ok a1 ho).mono fun r e=>by subst e; exact ⟨.inl rfl,by kernel_rfl,by kernel_rfl⟩)

noncomputable def c48:Code:=Try.f48.body.getD .skip
inductive f48r1n0O where
 | ret (v5:List Qb)
def f48r1n0E(a1:List Qb):f48r1n0O→Ex×Tr×Hp
 | .ret v5=>(.ret,mkS [(2,(.own 1))],[jR 3 Qb.cells a1,jR 3 Qb.cells v5])
def f48r1n0S(a1:List Qb):Tr×Hp:=(Qai [(.own 0)] 0 .leaf,[jR 3 Qb.cells a1])
noncomputable def f48r1n0(a1:List Qb):Option f48r1n0O :=
 bif (a1.isEmpty) then
  some (.ret [])
 else
  req (fit a1.length 40) <|
  some (.ret a1)
theorem f48r1n0_ok(a1:List Qb){o:f48r1n0O}(h:f48r1n0 a1=some o):T Try.prog Try.f48.ntmps 1 c48 (f48r1n0S a1) (·=f48r1n0E a1 o):=by
 unfold f48r1n0 at h;refine rN Qf 1 [j3] [] [] [] [0] (mkS [(0,(.own 0))],[jR 3 Qb.cells a1]) an ?_;refine T.nest (by kernel_rfl) ?_;rcases Qg h with ⟨h2,h⟩|⟨h2,h⟩
 ·refine rN Qf 0 [] [] [] [] [0] (mkS [(0,(.own 0))],[jR 3 Qb.cells a1]) an ?_;refine T.oneNil Qf (x:=.tmp 0) (t:=45) (t3:=3) (t4:=4) (sz:=3) (es:=(a1.map Qb.cells)) (by kernel_rfl) (by kernel_rfl) (by kernel_rfl) (by kernel_rfl) (by kernel_rfl) (fun b hb=>?_);cases b
  ·refine rE Qf [] [none] [] [] [0] (.norm,(mkS [(0,(.own 0))],[jR 3 Qb.cells a1])) an (ThenQ.norm ?_);obtain rfl:=Qd h;exact rE Qf [([],[(2,.app false)],[])] [] [] [1] [2] (.ret,(f48r1n0E a1 (.ret [])).2) (ap (Qbc (c:=Qb.cells) h2) an) rfl
  ·obtain rfl:=Qd h;exact rE Qf [j3] [none] [.mat 2 3] [1] [2] (.ret,(f48r1n0E a1 (.ret [])).2) an (ThenQ.out rfl rfl)
 ·refine rN Qf 0 [] [] [] [] [0] (mkS [(0,(.own 0))],[jR 3 Qb.cells a1]) an ?_;refine T.oneNil Qf (x:=.tmp 0) (t:=45) (t3:=3) (t4:=4) (sz:=3) (es:=(a1.map Qb.cells)) (by kernel_rfl) (by kernel_rfl) (by kernel_rfl) (by kernel_rfl) (by kernel_rfl) (fun b hb=>?_);cases b
  ·refine rE Qf [] [none] [] [] [0] (.norm,(mkS [(0,(.own 0))],[jR 3 Qb.cells a1])) an (ThenQ.norm ?_);obtain ⟨h4,h⟩:=Qp h;obtain rfl:=Qd h;exact rE Qf [([],[(2,.app true)],[])] [] [] [2] [2] (.ret,(f48r1n0E a1 (.ret a1)).2) (ap (fit_map0z (te:=ti49) (xs:=a1) (c:=Qb.cells) h4 rfl) (ap (Qcf (c:=Qb.cells) h2) (ap (Qbd (c:=Qb.cells) (xs:=a1) (n:=3) (fun _=>rfl)) an))) rfl
  ·exact absurd (hb rfl) (Qcf (c:=Qb.cells) h2)
noncomputable def f48r1(a1:List Qb):Option (List Qb):=(f48r1n0 a1).bind fun o=>match o with
 | .ret v5=>some v5
theorem f48r1_ok(a1:List Qb){r:List Qb}(h:f48r1 a1=some r):Qm Try.prog true 48 [(.own 0)] [jR 3 Qb.cells a1] (.own 1) [jR 3 Qb.cells a1,jR 3 Qb.cells r]:=by
 unfold f48r1 at h;obtain ⟨o,ho,h⟩:=Qc h;cases o with
 | ret v5 =>
  obtain rfl:=Qd h;exact Qm.shared Qf (f:=Try.f48) (c:=c48) (by kernel_rfl) (by kernel_rfl) (by kernel_rfl) ((f48r1n0_ok a1 ho).mono fun r e=>by subst e; exact ⟨.inl rfl,by kernel_rfl,by kernel_rfl⟩)

noncomputable def c70:Code:=Try.f70.body.getD .skip
inductive f70n0O where
 | ret (v10:Bool)
def f70n0E(a1:Int):f70n0O→Ex×Tr×Hp
 | .ret v10=>(.ret,mkS [(2,(jB v10))],[])
def f70n0S(a1:Int):Tr×Hp:=(Qai [(.pl (.int .u8 a1))] 0 .leaf,[])
noncomputable def f70n0(a1:Int):Option f70n0O :=
 bif decide (97≤a1) then
  bif decide (a1≤122) then
   some (.ret true)
  else
   bif decide (65≤a1) then
    some (.ret (decide (a1≤90)))
   else
    some (.ret false)
 else
  bif decide (65≤a1) then
   some (.ret (decide (a1≤90)))
  else
   some (.ret false)
theorem f70n0_ok(a1:Int){o:f70n0O}(h:f70n0 a1=some o):T Try.prog Try.f70.ntmps 0 c70 (f70n0S a1) (·=f70n0E a1 o):=by
 unfold f70n0 at h;rcases Qg h with ⟨h6,h⟩|⟨h6,h⟩
 ·rcases Qg h with ⟨h7,h⟩|⟨h7,h⟩
  ·obtain rfl:=Qd h;exact rE Qf [j3,(jT [3,4,7,8,9,12],[(5,.bool true),(13,.bool true)],[])] [] [] [] [2] (.ret,(f70n0E a1 (.ret true)).2) (ap3 h6 (ap h7 (ap4 h7 an))) rfl
  ·rcases Qg h with ⟨h8,h⟩|⟨h8,h⟩
   ·obtain rfl:=Qd h;exact rE Qf [j3,(jF [7,8,9,12]++jT [3,4,10,11],[(5,.bool true),(12,.bool true),(13,.bool false)],[])] [] [] [] [2] (.ret,(f70n0E a1 (.ret (decide (a1≤90)))).2) (ap3 h6 (ap3 h7 (ap2 h8 (ap h7 (ap h8 (ap h7 an)))))) rfl
   ·obtain rfl:=Qd h;exact rE Qf [j3,(jF [7,8,9,10,11,12]++jT [3,4],[(5,.bool true),(12,.bool false),(13,.bool false)],[])] [] [] [] [2] (.ret,(f70n0E a1 (.ret false)).2) (ap3 h6 (ap3 h7 (ap2 h8 (ap h7 (ap h8 (ap h7 an)))))) rfl
 ·rcases Qg h with ⟨h9,h⟩|⟨h9,h⟩
  ·obtain rfl:=Qd h;exact rE Qf [j3,(jF [3,4]++jT [10,11],[(5,.bool false),(12,.bool true)],[])] [] [] [] [2] (.ret,(f70n0E a1 (.ret (decide (a1≤90)))).2) (ap3 h6 (ap3 h9 an)) rfl
  ·obtain rfl:=Qd h;exact rE Qf [j3,(jF [3,4,10,11],[(5,.bool false),(12,.bool false)],[])] [] [] [] [2] (.ret,(f70n0E a1 (.ret false)).2) (ap3 h6 (ap3 h9 an)) rfl
noncomputable def f70(a1:Int):Option Bool:=(f70n0 a1).bind fun o=>match o with
 | .ret v10=>some v10
theorem f70_ok(a1:Int){r:Bool}(h:f70 a1=some r):Qm Try.prog false 70 [(.pl (.int .u8 a1))] [] (jB r) []:=by
 unfold f70 at h;obtain ⟨o,ho,h⟩:=Qc h;cases o with
 | ret v10 =>
  obtain rfl:=Qd h;exact Qm.plain Qf (f:=Try.f70) (c:=c70) (by kernel_rfl) (by kernel_rfl) (by kernel_rfl) (by kernel_rfl) ((f70n0_ok a1 ho).mono fun r e=>by subst e; exact ⟨.inl rfl,(jB v10),(jB v10),by kernel_rfl,by kernel_rfl,((Wk.refl _):Wk (jB v10) (jB v10))⟩)

noncomputable def c64:Code:=Try.f64.body.getD .skip
inductive f64n3O where
 | norm (v148:Bool)
def f64n3E(bd1:ByteArray)(be2:UInt8)(bf3:Int):f64n3O→Ex×Tr×Hp
 | .norm v148=>(.norm,mkS [(0,(jS bd1)),(20,(jI (bd1.size:Int))),(21,(jI bf3)),(45,(jB v148))],[])
def f64n3S(bd1:ByteArray)(be2:UInt8)(bf3:Int):Tr×Hp:=(mkS [(0,(jS bd1)),(4,(.pl (.int .u8 (be2.toNat:Int)))),(20,(jI (bd1.size:Int))),(21,(jI bf3))],[])
noncomputable def f64n3(bd1:ByteArray)(be2:UInt8)(bf3:Int):Option f64n3O :=
 (f70 (be2.toNat:Int)).bind fun x141 =>
 bif x141 then
  some (.norm false)
 else
  bif decide ((be2.toNat:Int)<48) then
   bif decide ((be2.toNat:Int)=95) then
    some (.norm false)
   else
    some (.norm (!(decide ((be2.toNat:Int)=45))))
  else
   bif decide (57<(be2.toNat:Int)) then
    bif decide ((be2.toNat:Int)=95) then
     some (.norm false)
    else
     some (.norm (!(decide ((be2.toNat:Int)=45))))
   else
    some (.norm false)
theorem f64n3_ok(bd1:ByteArray)(be2:UInt8)(bf3:Int){o:f64n3O}(h:f64n3 bd1 be2 bf3=some o):T Try.prog Try.f64.ntmps 0 (cL (Qk 2 (cL (cL (Qk 2 (cL (cL (Qk 1 (cL (Qk 2 c64)))))))))) (f64n3S bd1 be2 bf3) (·=f64n3E bd1 be2 bf3 o):=by
 unfold f64n3 at h;obtain ⟨x141,h142,h⟩:=Qc h;rcases Qg h with ⟨h143,h⟩|⟨h143,h⟩
 ·obtain rfl:=Qd h;exact rE Qf [(jF [4,5,6,9],[jH 1 (jB x141),(10,.bool false)],[])] [] [] [] [0,20,21,45] (.norm,(f64n3E bd1 be2 bf3 (.norm false)).2) (ap (Qq h143) (ap4 (Qq h143) (ap (f70_ok (be2.toNat:Int) h142) an))) rfl
 ·rcases Qg h with ⟨h144,h⟩|⟨h144,h⟩
  ·rcases Qg h with ⟨h145,h⟩|⟨h145,h⟩
   ·obtain rfl:=Qd h;exact rE Qf [(jF [16,17]++jT [4,5,6,7,8,9],[jH 1 (jB x141),(9,.bool true),(10,.bool true),(18,.bool false)],[])] [] [] [] [0,20,21,45] (.norm,(f64n3E bd1 be2 bf3 (.norm false)).2) (ap3 (Qac h143) (ap2 h144 (ap (Qac h143) (ap h144 (ap (Qac h143) (ap3 (Qq h145) (ap (f70_ok (be2.toNat:Int) h142) an))))))) rfl
   ·obtain rfl:=Qd h;exact rE Qf [(jT [4,5,6,7,8,9,16,17],[jH 1 (jB x141),(9,.bool true),(10,.bool true),(18,.bool true)],[])] [] [] [] [0,20,21,45] (.norm,(f64n3E bd1 be2 bf3 (.norm (!(decide ((be2.toNat:Int)=45))))).2) (ap3 (Qac h143) (ap2 h144 (ap (Qac h143) (ap h144 (ap (Qac h143) (ap3 (Qac h145) (ap (f70_ok (be2.toNat:Int) h142) an))))))) rfl
  ·rcases Qg h with ⟨h146,h⟩|⟨h146,h⟩
   ·rcases Qg h with ⟨h147,h⟩|⟨h147,h⟩
    ·obtain rfl:=Qd h;exact rE Qf [(jF [7,8,16,17]++jT [4,5,6,9,12,13],[jH 1 (jB x141),(9,.bool false),(10,.bool true),(14,.bool true),(18,.bool false)],[])] [] [] [] [0,20,21,45] (.norm,(f64n3E bd1 be2 bf3 (.norm false)).2) (ap3 (Qac h143) (ap2 h144 (ap (Qac h143) (ap h144 (ap (Qac h143) (ap3 h146 (ap3 (Qq h147) (ap (f70_ok (be2.toNat:Int) h142) an)))))))) rfl
    ·obtain rfl:=Qd h;exact rE Qf [(jF [7,8]++jT [4,5,6,9,12,13,16,17],[jH 1 (jB x141),(9,.bool false),(10,.bool true),(14,.bool true),(18,.bool true)],[])] [] [] [] [0,20,21,45] (.norm,(f64n3E bd1 be2 bf3 (.norm (!(decide ((be2.toNat:Int)=45))))).2) (ap3 (Qac h143) (ap2 h144 (ap (Qac h143) (ap h144 (ap (Qac h143) (ap3 h146 (ap3 (Qac h147) (ap (f70_ok (be2.toNat:Int) h142) an)))))))) rfl
   ·obtain rfl:=Qd h;exact rE Qf [(jF [7,8,12,13]++jT [4,5,6,9],[jH 1 (jB x141),(9,.bool false),(10,.bool true),(14,.bool false)],[])] [] [] [] [0,20,21,45] (.norm,(f64n3E bd1 be2 bf3 (.norm false)).2) (ap3 (Qac h143) (ap2 h144 (ap (Qac h143) (ap h144 (ap (Qac h143) (ap3 h146 (ap (f70_ok (be2.toNat:Int) h142) an))))))) rfl
inductive f64n2O where
 | norm
 | ret
def f64n2E(bd1:ByteArray)(bf2:Int):f64n2O→Ex×Tr×Hp
 | .norm=>(.norm,mkS [(0,(jS bd1)),(20,(jI (bd1.size:Int))),(21,(jI bf2))],[])
 | .ret=>(.ret,mkS [(2,(jB false))],[])
def f64n2S(bd1:ByteArray)(bf2:Int):Tr×Hp:=(mkS [(0,(jS bd1)),(20,(jI (bd1.size:Int))),(21,(jI bf2))],[])
noncomputable def f64n2(bd1:ByteArray)(bf2:Int):Option f64n2O :=
 (at? bd1.data.toList bf2).bind fun x125 =>
 (f64n3 bd1 x125 bf2).bind fun o149=>match o149 with
 | .norm v151=>bif v151 then
   some .ret
  else
   some .norm
theorem f64n2_ok(bd1:ByteArray)(bf2:Int){o:f64n2O}(h:f64n2 bd1 bf2=some o):T Try.prog Try.f64.ntmps 0 (cL (Qk 2 (cL (cL (Qk 1 (cL (Qk 2 c64))))))) (f64n2S bd1 bf2) (·=f64n2E bd1 bf2 o):=by
 unfold f64n2 at h;refine T.block' (i:=1) (by kernel_rfl) ?_;obtain ⟨x125,h126,h⟩:=Qc h;refine rN Qf 2 [j3,([],[(2,.byte (Int.toNat bf2) x125)],[])] [] [] [] [0,4,20,21] (f64n3S bd1 x125 bf2) (ap (Qj h126).1 (ap (Qj h126).2 an)) ?_;obtain ⟨o149,h150,h⟩:=Qc h;cases o149 with
 | norm v151 =>
  refine T.oneN (by kernel_rfl) (f64n3_ok bd1 x125 bf2 h150) (st2:=(f64n3E bd1 x125 bf2 (.norm v151)).2) rfl ?_;rcases Qg h with ⟨h153,h⟩|⟨h153,h⟩
  ·obtain rfl:=Qd h;exact rE Qf [j3] [some true] [] [] [2] (.ret,(f64n2E bd1 bf2 .ret).2) (ap h153 an) rfl
  ·obtain rfl:=Qd h;exact rE Qf [] [some false] [] [] [0,20,21] (.norm,(f64n2E bd1 bf2 .norm).2) (ap h153 an) rfl
inductive f64n4O where
 | exit0
 | ret
def f64n4E(bd1:ByteArray):f64n4O→Ex×Tr×Hp
 | .exit0=>((.exit 0),mkS [],[])
 | .ret=>(.ret,mkS [(2,(jB false))],[])
def f64n4S(bd1:ByteArray)(v109:Int):Tr×Hp:=(mkS [(0,(jS bd1)),(20,(jI (bd1.size:Int))),(21,(jI v109))],[])
noncomputable def f64n4:Nat→ByteArray→Int→Option f64n4O
 | 0,_,_=>none
 | f+1,bd1,v109 =>
  bif decide (v109<(bd1.size:Int)) then
   (f64n2 bd1 v109).bind fun o154=>match o154 with
   | .norm=>(f64n4 f bd1 (wr64 (v109+1)))
   | .ret=>some .ret
  else
   some .exit0
theorem f64n4_ok:∀(f:Nat)(bd1:ByteArray)(v109:Int){o:f64n4O},f64n4 f bd1 v109=some o→TL Try.prog Try.f64.ntmps 0 f (cL (cL (Qk 1 (cL (Qk 2 c64))))) (f64n4S bd1 v109) (·=f64n4E bd1 o)
 | 0,_,_,o,h=>by rw [f64n4] at h; cases h
 | f+1,bd1,v109,o,h=>by
  rw [f64n4] at h;refine TL.body (K:=fun s=>∃v109:Int,s=(f64n4S bd1 v109)∧f64n4 f bd1 v109=some o) ?_ (by rintro _ ⟨v109,rfl,hk⟩; exact f64n4_ok f _ _ hk);rcases Qg h with ⟨h111,h⟩|⟨h111,h⟩
  ·refine rN Qf 2 [j3] [some true] [] [] [0,20,21] (f64n2S bd1 v109) (ap h111 an) ?_;obtain ⟨o154,h155,h⟩:=Qc h;cases o154 with
   | norm =>
    refine T.oneN (by kernel_rfl) (f64n2_ok bd1 v109 h155) (st2:=(f64n2E bd1 v109 .norm).2) rfl ?_;exact rE Qf [j3] [] [] [] [0,20,21] (.norm,(f64n4S bd1 (wr64 (v109+1)))) an (Qt.norm ⟨(wr64 (v109+1)),rfl,h⟩)
   | ret =>
    obtain rfl:=Qd h;exact T.oneX' (by kernel_rfl) (f64n2_ok bd1 v109 h155) (tds:=[]) (m:=[]) (keep:=[2]) (st2:=(f64n4E bd1 .ret).2) (by kernel_rfl) an rfl (Qt.out rfl rfl)
  ·obtain rfl:=Qd h;exact rK Qf 2 [j3] [some false] [] [] [] (.exit 0) ((f64n4E bd1 .exit0).2) (ap h111 an) (Qt.out rfl rfl)
inductive f64n1O where
 | norm
 | ret
def f64n1E(bd1:ByteArray):f64n1O→Ex×Tr×Hp
 | .norm=>(.norm,mkS [],[])
 | .ret=>(.ret,mkS [(2,(jB false))],[])
def f64n1S(bd1:ByteArray):Tr×Hp:=(mkS [(0,(jS bd1))],[])
noncomputable def f64n1(bd1:ByteArray):Option f64n1O :=
 (f64n4 FUEL bd1 0).bind fun o156=>match o156 with
 | .exit0=>some .norm
 | .ret=>some .ret
theorem f64n1_ok(bd1:ByteArray){o:f64n1O}(h:f64n1 bd1=some o):T Try.prog Try.f64.ntmps 0 (cL (Qk 2 c64)) (f64n1S bd1) (·=f64n1E bd1 o):=by
 unfold f64n1 at h;refine rN Qf 1 [j3] [] [] [] [0,20,21] (f64n4S bd1 0) an ?_;obtain ⟨o156,h157,h⟩:=Qc h;cases o156 with
 | exit0 =>
  obtain rfl:=Qd h;exact T.last' (T.bl (i:=0) (by kernel_rfl) (by kernel_rfl) (f64n4_ok FUEL bd1 0 h157)) (tds:=[]) (m:=[]) (keep:=[]) (st2:=(f64n1E bd1 .norm).2) (by kernel_rfl) an rfl
 | ret =>
  obtain rfl:=Qd h;exact T.last' (T.bl (i:=0) (by kernel_rfl) (by kernel_rfl) (f64n4_ok FUEL bd1 0 h157)) (tds:=[]) (m:=[]) (keep:=[2]) (st2:=(f64n1E bd1 .ret).2) (by kernel_rfl) an rfl
inductive f64n0O where
 | ret (v160:Bool)
def f64n0E(a1:ByteArray):f64n0O→Ex×Tr×Hp
 | .ret v160=>(.ret,mkS [(2,(jB v160))],[])
def f64n0S(a1:ByteArray):Tr×Hp:=(Qai [(jS a1)] 0 .leaf,[])
noncomputable def f64n0(a1:ByteArray):Option f64n0O :=
 bif decide ((a1.size:Int)<1) then
  some (.ret false)
 else
  bif decide (40<(a1.size:Int)) then
   some (.ret false)
  else
   (at? a1.data.toList 0).bind fun x11 =>
   (f70 (x11.toNat:Int)).bind fun x13 =>
   bif x13 then
    (f64n1 a1).bind fun o158=>match o158 with
    | .norm=>some (.ret true)
    | .ret=>some (.ret false)
   else
    some (.ret false)
theorem f64n0_ok(a1:ByteArray){o:f64n0O}(h:f64n0 a1=some o):T Try.prog Try.f64.ntmps 0 c64 (f64n0S a1) (·=f64n0E a1 o):=by
 unfold f64n0 at h;rcases Qg h with ⟨h9,h⟩|⟨h9,h⟩
 ·obtain rfl:=Qd h;exact rK Qf 2 [j3,(jT [4,5,6],[(7,.bool true)],[]),j3] [none] [] [] [2] .ret ((f64n0E a1 (.ret false)).2) (ap4 h9 an) rfl
 ·rcases Qg h with ⟨h10,h⟩|⟨h10,h⟩
  ·obtain rfl:=Qd h;exact rK Qf 2 [j3,(jF [4,5,6]++jT [9,10,11,12],[(7,.bool false),(13,.bool true)],[]),j3] [none] [] [] [2] .ret ((f64n0E a1 (.ret false)).2) (ap4 h9 (ap h10 (ap4 h10 an))) rfl
  ·obtain ⟨x11,h12,h⟩:=Qc h;obtain ⟨x13,h14,h⟩:=Qc h;rcases Qg h with ⟨h15,h⟩|⟨h15,h⟩
   ·refine rN Qf 2 [j3,(jF [4,5,6,9,10,11,12],[(7,.bool false),(10,.byte (Int.toNat 0) x11),jH 11 (jB x13),(13,.bool false)],[])] [some false] [] [] [0] (f64n1S a1) (ap4 h9 (ap2 h10 (ap (Qj h12).1 (ap (Qj h12).2 (ap3 h10 (ap (f70_ok (x11.toNat:Int) h14) (ap (Qq h15) an))))))) ?_;obtain ⟨o158,h159,h⟩:=Qc h;cases o158 with
    | norm =>
     refine T.oneN (by kernel_rfl) (f64n1_ok a1 h159) (st2:=(f64n1E a1 .norm).2) rfl ?_;obtain rfl:=Qd h;exact rE Qf [j3] [] [] [] [2] (.ret,(f64n0E a1 (.ret true)).2) an rfl
    | ret =>
     obtain rfl:=Qd h;exact T.oneX' (by kernel_rfl) (f64n1_ok a1 h159) (tds:=[]) (m:=[]) (keep:=[2]) (st2:=(f64n0E a1 (.ret false)).2) (by kernel_rfl) an rfl rfl
   ·obtain rfl:=Qd h;exact rK Qf 2 [j3,(jF [4,5,6,9,10,11,12],[(7,.bool false),(10,.byte (Int.toNat 0) x11),jH 11 (jB x13),(13,.bool false)],[]),j3] [some true] [] [] [2] .ret ((f64n0E a1 (.ret false)).2) (ap4 h9 (ap2 h10 (ap (Qj h12).1 (ap (Qj h12).2 (ap3 h10 (ap (f70_ok (x11.toNat:Int) h14) (ap (Qac h15) an))))))) rfl
noncomputable def f64(a1:ByteArray):Option Bool:=(f64n0 a1).bind fun o=>match o with
 | .ret v160=>some v160
theorem f64_ok(a1:ByteArray){r:Bool}(h:f64 a1=some r):Qm Try.prog false 64 [(jS a1)] [] (jB r) []:=by
 unfold f64 at h;obtain ⟨o,ho,h⟩:=Qc h;cases o with
 | ret v160 =>
  obtain rfl:=Qd h;exact Qm.plain Qf (f:=Try.f64) (c:=c64) (by kernel_rfl) (by kernel_rfl) (by kernel_rfl) (by kernel_rfl) ((f64n0_ok a1 ho).mono fun r e=>by subst e; exact ⟨.inl rfl,(jB v160),(jB v160),by kernel_rfl,by kernel_rfl,((Wk.refl _):Wk (jB v160) (jB v160))⟩)

noncomputable def c65:Code:=Try.f65.body.getD .skip
inductive f65n0O where
 | ret (v4:Bool)
def f65n0E(a1:Int):f65n0O→Ex×Tr×Hp
 | .ret v4=>(.ret,mkS [(2,(jB v4))],[])
def f65n0S(a1:Int):Tr×Hp:=(Qai [(jI a1)] 0 .leaf,[])
noncomputable def f65n0(a1:Int):Option f65n0O :=
 bif decide ((-1125899906842624)≤a1) then
  some (.ret (decide (a1≤1125899906842624)))
 else
  some (.ret false)
theorem f65n0_ok(a1:Int){o:f65n0O}(h:f65n0 a1=some o):T Try.prog Try.f65.ntmps 0 c65 (f65n0S a1) (·=f65n0E a1 o):=by
 unfold f65n0 at h;rcases Qg h with ⟨h3,h⟩|⟨h3,h⟩
 ·obtain rfl:=Qd h;exact rE Qf [j3,([(3,true),(4,true)],[(5,.bool true)],[])] [] [] [] [2] (.ret,(f65n0E a1 (.ret (decide (a1≤1125899906842624)))).2) (ap3 h3 an) rfl
 ·obtain rfl:=Qd h;exact rE Qf [j3,([(3,false),(4,false)],[(5,.bool false)],[])] [] [] [] [2] (.ret,(f65n0E a1 (.ret false)).2) (ap3 h3 an) rfl
noncomputable def f65(a1:Int):Option Bool:=(f65n0 a1).bind fun o=>match o with
 | .ret v4=>some v4
theorem f65_ok(a1:Int){r:Bool}(h:f65 a1=some r):Qm Try.prog false 65 [(jI a1)] [] (jB r) []:=by
 unfold f65 at h;obtain ⟨o,ho,h⟩:=Qc h;cases o with
 | ret v4 =>
  obtain rfl:=Qd h;exact Qm.plain Qf (f:=Try.f65) (c:=c65) (by kernel_rfl) (by kernel_rfl) (by kernel_rfl) (by kernel_rfl) ((f65n0_ok a1 ho).mono fun r e=>by subst e; exact ⟨.inl rfl,(jB v4),(jB v4),by kernel_rfl,by kernel_rfl,((Wk.refl _):Wk (jB v4) (jB v4))⟩)

noncomputable def c63:Code:=Try.f63.body.getD .skip
inductive f63n0O where
 | ret (v20:Bool)
def f63n0E(a1:Qb):f63n0O→Ex×Tr×Hp
 | .ret v20=>(.ret,mkS [(2,(jB v20))],[])
def f63n0S(a1:Qb):Tr×Hp:=(Qai [(jA Qb.cells a1)] 0 .leaf,[])
noncomputable def f63n0(a1:Qb):Option f63n0O :=
 (f64 a1.Account).bind fun x11 =>
 bif x11 then
  (f64 a1.Ccy).bind fun x14 =>
  bif x14 then
   bif decide (a1.Amount=0) then
    some (.ret true)
   else
    (f65 a1.Amount).bind fun x18 =>
    some (.ret (!x18))
  else
   some (.ret true)
 else
  some (.ret true)
theorem f63n0_ok(a1:Qb){o:f63n0O}(h:f63n0 a1=some o):T Try.prog Try.f63.ntmps 0 c63 (f63n0S a1) (·=f63n0E a1 o):=by
 unfold f63n0 at h;obtain ⟨x11,h12,h⟩:=Qc h;rcases Qg h with ⟨h13,h⟩|⟨h13,h⟩
 ·obtain ⟨x14,h15,h⟩:=Qc h;rcases Qg h with ⟨h16,h⟩|⟨h16,h⟩
  ·rcases Qg h with ⟨h17,h⟩|⟨h17,h⟩
   ·obtain rfl:=Qd h;exact rE Qf [j3,(jF [5,6,7,8,11,12,13]++jT [16,17,18,19],[jH 2 (jB x11),jH 7 (jB x14),(9,.bool false),(14,.bool false),(20,.bool true)],[])] [] [] [] [2] (.ret,(f63n0E a1 (.ret true)).2) (ap (Qq h13) (ap4 (Qq h13) (ap4 (Qq h16) (ap h17 (ap4 h17 (ap (f64_ok a1.Account h12) (ap (f64_ok a1.Ccy h15) an))))))) rfl
   ·obtain ⟨x18,h19,h⟩:=Qc h;obtain rfl:=Qd h;exact rE Qf [j3,(jF [5,6,7,8,11,12,13,16,17,18,19],[jH 2 (jB x11),jH 7 (jB x14),(9,.bool false),(14,.bool false),jH 18 (jB x18),(20,.bool false)],[])] [] [] [] [2] (.ret,(f63n0E a1 (.ret (!x18))).2) (ap (Qq h13) (ap4 (Qq h13) (ap4 (Qq h16) (ap h17 (ap4 h17 (ap (f64_ok a1.Account h12) (ap (f64_ok a1.Ccy h15) (ap (f65_ok a1.Amount h19) an)))))))) rfl
  ·obtain rfl:=Qd h;exact rE Qf [j3,(jF [5,6,7,8]++jT [11,12,13],[jH 2 (jB x11),jH 7 (jB x14),(9,.bool false),(14,.bool true)],[])] [] [] [] [2] (.ret,(f63n0E a1 (.ret true)).2) (ap (Qq h13) (ap4 (Qq h13) (ap4 (Qac h16) (ap (f64_ok a1.Account h12) (ap (f64_ok a1.Ccy h15) an))))) rfl
 ·obtain rfl:=Qd h;exact rE Qf [j3,(jT [5,6,7,8],[jH 2 (jB x11),(9,.bool true)],[])] [] [] [] [2] (.ret,(f63n0E a1 (.ret true)).2) (ap (Qac h13) (ap4 (Qac h13) (ap (f64_ok a1.Account h12) an))) rfl
noncomputable def f63(a1:Qb):Option Bool:=(f63n0 a1).bind fun o=>match o with
 | .ret v20=>some v20
theorem f63_ok(a1:Qb){r:Bool}(h:f63 a1=some r):Qm Try.prog false 63 [(jA Qb.cells a1)] [] (jB r) []:=by
 unfold f63 at h;obtain ⟨o,ho,h⟩:=Qc h;cases o with
 | ret v20 =>
  obtain rfl:=Qd h;exact Qm.plain Qf (f:=Try.f63) (c:=c63) (by kernel_rfl) (by kernel_rfl) (by kernel_rfl) (by kernel_rfl) ((f63n0_ok a1 ho).mono fun r e=>by subst e; exact ⟨.inl rfl,(jB v20),(jB v20),by kernel_rfl,by kernel_rfl,((Wk.refl _):Wk (jB v20) (jB v20))⟩)

noncomputable def c71:Code:=Try.f71.body.getD .skip
inductive f71_63n2O where
 | exit0
 | ret (v40:Int)
def f71_63n2E(bc1:List Qb):f71_63n2O→Ex×Tr×Hp
 | .exit0=>((.exit 0),mkS [],[])
 | .ret v40=>(.ret,mkS [(4,(jI v40))],[])
def f71_63n2S(bc1:List Qb)(v27:Int):Tr×Hp:=(mkS [(0,(jL 3 Qb.cells bc1)),(1,(.pl (.fn 63))),(7,(jI (bc1.length:Int))),(8,(jI v27))],[])
noncomputable def f71_63n2:Nat→List Qb→Int→Option f71_63n2O
 | 0,_,_=>none
 | f+1,bc1,v27 =>
  bif decide (v27<(bc1.length:Int)) then
   (at? bc1 v27).bind fun x35 =>
   (f63 x35).bind fun x37 =>
   bif x37 then
    some (.ret v27)
   else
    (f71_63n2 f bc1 (wr64 (v27+1)))
  else
   some .exit0
theorem f71_63n2_ok:∀(f:Nat)(bc1:List Qb)(v27:Int){o:f71_63n2O},f71_63n2 f bc1 v27=some o→TL Try.prog Try.f71.ntmps 0 f (cL (cL (Qk 1 (cL (Qk 1 c71))))) (f71_63n2S bc1 v27) (·=f71_63n2E bc1 o)
 | 0,_,_,o,h=>by rw [f71_63n2] at h; cases h
 | f+1,bc1,v27,o,h=>by
  rw [f71_63n2] at h;refine TL.body (K:=fun s=>∃v27:Int,s=(f71_63n2S bc1 v27)∧f71_63n2 f bc1 v27=some o) ?_ (by rintro _ ⟨v27,rfl,hk⟩; exact f71_63n2_ok f _ _ hk);rcases Qg h with ⟨h29,h⟩|⟨h29,h⟩
  ·obtain ⟨x35,h36,h⟩:=Qc h;obtain ⟨x37,h38,h⟩:=Qc h;rcases Qg h with ⟨h39,h⟩|⟨h39,h⟩
   ·obtain rfl:=Qd h;exact rK Qf 3 [j3,j3,([],[(3,.idx (Int.toNat v27) (Qb.cells x35)),jH 5 (jB x37)],[]),j3] [some true,some true] [] [] [4] .ret ((f71_63n2E bc1 (.ret v27)).2) (ap h29 (ap (Qj h36).1 (ap (Qs Qb.cells (Qj h36).2) (ap (f63_ok x35 h38) (ap h39 an))))) (Qt.out rfl rfl)
   ·exact rE Qf [j3,j3,([],[(3,.idx (Int.toNat v27) (Qb.cells x35)),jH 5 (jB x37)],[]),j3] [some true,some false] [] [] [0,1,7,8] (.norm,(f71_63n2S bc1 (wr64 (v27+1)))) (ap h29 (ap (Qj h36).1 (ap (Qs Qb.cells (Qj h36).2) (ap (f63_ok x35 h38) (ap h39 an))))) (Qt.norm ⟨(wr64 (v27+1)),rfl,h⟩)
  ·obtain rfl:=Qd h;exact rK Qf 2 [j3] [some false] [] [] [] (.exit 0) ((f71_63n2E bc1 .exit0).2) (ap h29 an) (Qt.out rfl rfl)
noncomputable def f71_63n2L(bc1:List Qb):List Qb→Int→Option f71_63n2O
 | [],v27 =>
  some .exit0
 | x0::rest,v27 =>
  (f63 x0).bind fun x37 =>
  bif x37 then
   some (.ret v27)
  else
   (f71_63n2L bc1 rest (v27+1))
theorem f71_63n2L_eq(bc1:List Qb):∀(rest:List Qb)(f k:Nat),bc1.drop k=rest→bc1.length≤maxLen→rest.length<f→f71_63n2 f bc1 (k:Int)=f71_63n2L bc1 rest (k:Int)
 | _,0,_,_,_,hf=>absurd hf (Nat.not_lt_zero _)
 | [],f+1,k,hd,hm,hf=>by
  have hk:¬((k:Int)<(bc1.length:Int)):=by have:=Qaj hd; omega
  rw [f71_63n2,f71_63n2L];simp only [decide_eq_false hk,cond_false]
 | x0::rest,f+1,k,hd,hm,hf=>by
  obtain ⟨hx,hlt,hd'⟩:=Qx hd;have hk:(k:Int)<(bc1.length:Int):=by omega
  have hw:wr64 ((k:Int)+1)=(k:Int)+1:=Qr (by omega) (by unfold maxLen at hm; omega);have ih:f71_63n2 f bc1 ((k:Int)+1)=f71_63n2L bc1 rest ((k:Int)+1):=f71_63n2L_eq bc1 rest f (k+1) hd' hm (by simpa using hf);rw [f71_63n2,f71_63n2L];simp only [decide_eq_true hk,cond_true,Qaq,hx,Option.bind_some,hw,ih]
theorem f71_63n2_run(bc1:List Qb)(hm:bc1.length≤maxLen):f71_63n2 FUEL bc1 0=f71_63n2L bc1 bc1 0:=f71_63n2L_eq bc1 bc1 FUEL 0 List.drop_zero hm (Qao hm)
inductive f71_63n1O where
 | norm
 | ret (v44:Int)
def f71_63n1E(bc1:List Qb):f71_63n1O→Ex×Tr×Hp
 | .norm=>(.norm,mkS [],[])
 | .ret v44=>(.ret,mkS [(4,(jI v44))],[])
def f71_63n1S(bc1:List Qb):Tr×Hp:=(mkS [(0,(jL 3 Qb.cells bc1)),(1,(.pl (.fn 63)))],[])
noncomputable def f71_63n1(bc1:List Qb):Option f71_63n1O :=
 (f71_63n2 FUEL bc1 0).bind fun o41=>match o41 with
 | .exit0=>some .norm
 | .ret v43=>some (.ret v43)
theorem f71_63n1_ok(bc1:List Qb){o:f71_63n1O}(h:f71_63n1 bc1=some o):T Try.prog Try.f71.ntmps 0 (cL (Qk 1 c71)) (f71_63n1S bc1) (·=f71_63n1E bc1 o):=by
 unfold f71_63n1 at h;refine rN Qf 1 [([],[],[(1,.val (jI (bc1.length:Int)))])] [] [] [] [0,1,7,8] (f71_63n2S bc1 0) (ap (Qn (xs:=bc1) (c:=Qb.cells)) an) ?_;obtain ⟨o41,h42,h⟩:=Qc h;cases o41 with
 | exit0 =>
  obtain rfl:=Qd h;exact T.last' (T.bl (i:=0) (by kernel_rfl) (by kernel_rfl) (f71_63n2_ok FUEL bc1 0 h42)) (tds:=[]) (m:=[]) (keep:=[]) (st2:=(f71_63n1E bc1 .norm).2) (by kernel_rfl) an rfl
 | ret v43 =>
  obtain rfl:=Qd h;exact T.last' (T.bl (i:=0) (by kernel_rfl) (by kernel_rfl) (f71_63n2_ok FUEL bc1 0 h42)) (tds:=[]) (m:=[]) (keep:=[4]) (st2:=(f71_63n1E bc1 (.ret v43)).2) (by kernel_rfl) an rfl
inductive f71_63n0O where
 | ret (v48:Int)
def f71_63n0E(a1:List Qb):f71_63n0O→Ex×Tr×Hp
 | .ret v48=>(.ret,mkS [(4,(jI v48))],[])
def f71_63n0S(a1:List Qb):Tr×Hp:=(Qai [(jL 3 Qb.cells a1),(.pl (.fn 63))] 0 .leaf,[])
noncomputable def f71_63n0(a1:List Qb):Option f71_63n0O :=
 (f71_63n1 a1).bind fun o45=>match o45 with
 | .norm=>some (.ret (-1))
 | .ret v47=>some (.ret v47)
theorem f71_63n0_ok(a1:List Qb){o:f71_63n0O}(h:f71_63n0 a1=some o):T Try.prog Try.f71.ntmps 0 c71 (f71_63n0S a1) (·=f71_63n0E a1 o):=by
 unfold f71_63n0 at h;refine rN Qf 1 [j3] [] [] [] [0,1] (f71_63n1S a1) an ?_;obtain ⟨o45,h46,h⟩:=Qc h;cases o45 with
 | norm =>
  refine T.oneN (by kernel_rfl) (f71_63n1_ok a1 h46) (st2:=(f71_63n1E a1 .norm).2) rfl ?_;obtain rfl:=Qd h;exact rE Qf [j3] [] [] [] [4] (.ret,(f71_63n0E a1 (.ret (-1))).2) an rfl
 | ret v47 =>
  obtain rfl:=Qd h;exact T.oneX' (by kernel_rfl) (f71_63n1_ok a1 h46) (tds:=[]) (m:=[]) (keep:=[4]) (st2:=(f71_63n0E a1 (.ret v47)).2) (by kernel_rfl) an rfl rfl
noncomputable def f71_63(a1:List Qb):Option Int:=(f71_63n0 a1).bind fun o=>match o with
 | .ret v48=>some v48
theorem f71_63_ok(a1:List Qb){r:Int}(h:f71_63 a1=some r):Qm Try.prog false 71 [(jL 3 Qb.cells a1),(.pl (.fn 63))] [] (jI r) []:=by
 unfold f71_63 at h;obtain ⟨o,ho,h⟩:=Qc h;cases o with
 | ret v48 =>
  obtain rfl:=Qd h;exact Qm.plain Qf (f:=Try.f71) (c:=c71) (by kernel_rfl) (by kernel_rfl) (by kernel_rfl) (by kernel_rfl) ((f71_63n0_ok a1 ho).mono fun r e=>by subst e; exact ⟨.inl rfl,(jI v48),(jI v48),by kernel_rfl,by kernel_rfl,((Wk.refl _):Wk (jI v48) (jI v48))⟩)

noncomputable def c66:Code:=Try.f66.body.getD .skip
inductive f66_63n0O where
 | ret (v6:Bool)
def f66_63n0E(a1:List Qb):f66_63n0O→Ex×Tr×Hp
 | .ret v6=>(.ret,mkS [(4,(jB v6))],[])
def f66_63n0S(a1:List Qb):Tr×Hp:=(Qai [(jL 3 Qb.cells a1),(.pl (.fn 63))] 0 .leaf,[])
noncomputable def f66_63n0(a1:List Qb):Option f66_63n0O :=
 (f71_63 a1).bind fun x4 =>
 some (.ret (decide (0≤x4)))
theorem f66_63n0_ok(a1:List Qb){o:f66_63n0O}(h:f66_63n0 a1=some o):T Try.prog Try.f66.ntmps 0 c66 (f66_63n0S a1) (·=f66_63n0E a1 o):=by
 unfold f66_63n0 at h;obtain ⟨x4,h5,h⟩:=Qc h;obtain rfl:=Qd h;exact rE Qf [j3,([],[jH 2 (jI x4)],[])] [] [] [] [4] (.ret,(f66_63n0E a1 (.ret (decide (0≤x4)))).2) (ap (f71_63_ok a1 h5) an) rfl
noncomputable def f66_63(a1:List Qb):Option Bool:=(f66_63n0 a1).bind fun o=>match o with
 | .ret v6=>some v6
theorem f66_63_ok(a1:List Qb){r:Bool}(h:f66_63 a1=some r):Qm Try.prog false 66 [(jL 3 Qb.cells a1),(.pl (.fn 63))] [] (jB r) []:=by
 unfold f66_63 at h;obtain ⟨o,ho,h⟩:=Qc h;cases o with
 | ret v6 =>
  obtain rfl:=Qd h;exact Qm.plain Qf (f:=Try.f66) (c:=c66) (by kernel_rfl) (by kernel_rfl) (by kernel_rfl) (by kernel_rfl) ((f66_63n0_ok a1 ho).mono fun r e=>by subst e; exact ⟨.inl rfl,(jB v6),(jB v6),by kernel_rfl,by kernel_rfl,((Wk.refl _):Wk (jB v6) (jB v6))⟩)

noncomputable def c49:Code:=Try.f49.body.getD .skip
inductive f49n2O where
 | exit0
 | ret
def f49n2E(bb1:Qa):f49n2O→Ex×Tr×Hp
 | .exit0=>((.exit 0),mkS [(1,(.bp 0 0))],[some (.box 47 ((Qa.cells bb1).map .pl))])
 | .ret=>(.ret,mkS [(2,(jB false))],[])
def f49n2S(bb1:Qa)(v25:Int):Tr×Hp:=(mkS [(1,(.bp 0 0)),(9,(.pl (.sl .any 1 ((ofB bb1.Text).map (cInt .u8))))),(10,(jI ((ofB bb1.Text).length:Int))),(11,(jI v25))],[some (.box 47 ((Qa.cells bb1).map .pl))])
noncomputable def f49n2:Nat→Qa→Int→Option f49n2O
 | 0,_,_=>none
 | f+1,bb1,v25 =>
  bif (decide (v25<((ofB bb1.Text).length:Int))) then
   (at? (ofB bb1.Text) v25).bind fun x32 =>
   bif decide (x32<32) then
    some .ret
   else
    bif decide (126<x32) then
     some .ret
    else
     (f49n2 f bb1 (wr64 (v25+1)))
  else
   some .exit0
theorem f49n2_ok:∀(f:Nat)(bb1:Qa)(v25:Int){o:f49n2O},f49n2 f bb1 v25=some o→TL Try.prog Try.f49.ntmps 0 f (cL (cL (Qk 1 (cL (Qk 1 c49))))) (f49n2S bb1 v25) (·=f49n2E bb1 o)
 | 0,_,_,o,h=>by rw [f49n2] at h; cases h
 | f+1,bb1,v25,o,h=>by
  rw [f49n2] at h;refine TL.body (K:=fun s=>∃v25:Int,s=(f49n2S bb1 v25)∧f49n2 f bb1 v25=some o) ?_ (by rintro _ ⟨v25,rfl,hk⟩; exact f49n2_ok f _ _ hk);rcases Qg h with ⟨h27,h⟩|⟨h27,h⟩
  ·obtain ⟨x32,h33,h⟩:=Qc h;rcases Qg h with ⟨h34,h⟩|⟨h34,h⟩
   ·obtain rfl:=Qd h;exact rK Qf 3 [j3,([],[(0,.idx (Int.toNat v25) ((cInt .u8) x32))],[]),([(3,true),(4,true)],[(5,.bool true)],[]),j3] [some true,none] [] [] [2] .ret ((f49n2E bb1 .ret).2) (ap h27 (ap (Qj h33).1 (ap (Qs (cInt .u8) (Qj h33).2) (ap3 h34 an)))) (Qt.out rfl rfl)
   ·rcases Qg h with ⟨h35,h⟩|⟨h35,h⟩
    ·obtain rfl:=Qd h;exact rK Qf 3 [j3,([],[(0,.idx (Int.toNat v25) ((cInt .u8) x32))],[]),([(3,false),(4,false)],[(5,.bool false)],[]),j3] [some true,some true] [] [] [2] .ret ((f49n2E bb1 .ret).2) (ap h27 (ap (Qj h33).1 (ap (Qs (cInt .u8) (Qj h33).2) (ap3 h34 (ap h35 an))))) (Qt.out rfl rfl)
    ·exact rE Qf [j3,([],[(0,.idx (Int.toNat v25) ((cInt .u8) x32))],[]),([(3,false),(4,false)],[(5,.bool false)],[]),j3] [some true,some false] [] [0] [1,9,10,11] (.norm,(f49n2S bb1 (wr64 (v25+1)))) (ap h27 (ap (Qj h33).1 (ap (Qs (cInt .u8) (Qj h33).2) (ap3 h34 (ap h35 an))))) (Qt.norm ⟨(wr64 (v25+1)),rfl,h⟩)
  ·obtain rfl:=Qd h;exact rK Qf 2 [j3] [some false] [] [0] [1] (.exit 0) ((f49n2E bb1 .exit0).2) (ap h27 an) (Qt.out rfl rfl)
noncomputable def f49n2L(bb1:Qa):List Int→Int→Option f49n2O
 | [],v25 =>
  some .exit0
 | x0::rest,v25 =>
  bif decide (x0<32) then
   some .ret
  else
   bif decide (126<x0) then
    some .ret
   else
    (f49n2L bb1 rest (v25+1))
theorem f49n2L_eq(bb1:Qa):∀(rest:List Int)(f k:Nat),(ofB bb1.Text).drop k=rest→(ofB bb1.Text).length≤maxLen→rest.length<f→f49n2 f bb1 (k:Int)=f49n2L bb1 rest (k:Int)
 | _,0,_,_,_,hf=>absurd hf (Nat.not_lt_zero _)
 | [],f+1,k,hd,hm,hf=>by
  have hk:¬((k:Int)<((ofB bb1.Text).length:Int)):=by have:=Qaj hd; omega
  rw [f49n2,f49n2L];simp only [decide_eq_false hk,cond_false]
 | x0::rest,f+1,k,hd,hm,hf=>by
  obtain ⟨hx,hlt,hd'⟩:=Qx hd;have hk:(k:Int)<((ofB bb1.Text).length:Int):=by omega
  have hw:wr64 ((k:Int)+1)=(k:Int)+1:=Qr (by omega) (by unfold maxLen at hm; omega);have ih:f49n2 f bb1 ((k:Int)+1)=f49n2L bb1 rest ((k:Int)+1):=f49n2L_eq bb1 rest f (k+1) hd' hm (by simpa using hf);rw [f49n2,f49n2L];simp only [decide_eq_true hk,cond_true,Qaq,hx,Option.bind_some,hw,ih]
theorem f49n2_run(bb1:Qa)(hm:(ofB bb1.Text).length≤maxLen):f49n2 FUEL bb1 0=f49n2L bb1 (ofB bb1.Text) 0:=f49n2L_eq bb1 (ofB bb1.Text) FUEL 0 List.drop_zero hm (Qao hm)
inductive f49n1O where
 | norm
 | ret
def f49n1E(bb1:Qa):f49n1O→Ex×Tr×Hp
 | .norm=>(.norm,mkS [(1,(.bp 0 0))],[some (.box 47 ((Qa.cells bb1).map .pl))])
 | .ret=>(.ret,mkS [(2,(jB false))],[])
def f49n1S(bb1:Qa):Tr×Hp:=(mkS [(1,(.bp 0 0))],[some (.box 47 ((Qa.cells bb1).map .pl))])
noncomputable def f49n1(bb1:Qa):Option f49n1O :=
 req (decide (bb1.Text.size≤9223372036854775807)) <|
 (f49n2 FUEL bb1 0).bind fun o36=>match o36 with
 | .exit0=>some .norm
 | .ret=>some .ret
theorem f49n1_ok(bb1:Qa){o:f49n1O}(h:f49n1 bb1=some o):T Try.prog Try.f49.ntmps 0 (cL (Qk 1 c49)) (f49n1S bb1) (·=f49n1E bb1 o):=by
 unfold f49n1 at h;obtain ⟨h3,h⟩:=Qp h;refine rN Qf 1 [([],[(2,.fits)],[(2,.val (.pl (.sl .any 1 ((ofB bb1.Text).map (cInt .u8))))),(3,.val (jI ((ofB bb1.Text).length:Int)))])] [] [] [0] [1,9,10,11] (f49n2S bb1 0) (ap (of_decide_eq_true h3) (ap (congrArg (fun l=>AV.pl (.sl .any 1 l)) (ofB_cv (s:=bb1.Text))) (ap (Qn (xs:=(ofB bb1.Text)) (c:=(cInt .u8))) an))) ?_;obtain ⟨o36,h37,h⟩:=Qc h;cases o36 with
 | exit0 =>
  obtain rfl:=Qd h;exact T.last' (T.bl (i:=0) (by kernel_rfl) (by kernel_rfl) (f49n2_ok FUEL bb1 0 h37)) (tds:=[]) (m:=[0]) (keep:=[1]) (st2:=(f49n1E bb1 .norm).2) (by kernel_rfl) an rfl
 | ret =>
  obtain rfl:=Qd h;exact T.last' (T.bl (i:=0) (by kernel_rfl) (by kernel_rfl) (f49n2_ok FUEL bb1 0 h37)) (tds:=[]) (m:=[]) (keep:=[2]) (st2:=(f49n1E bb1 .ret).2) (by kernel_rfl) an rfl
inductive f49n0O where
 | ret (v54:Bool)
def f49n0E(a1:Qa):f49n0O→Ex×Tr×Hp
 | .ret v54=>(.ret,mkS [(2,(jB v54))],[])
def f49n0S(a1:Qa):Tr×Hp:=(Qai [(jA Qa.cells a1)] 0 .leaf,[])
noncomputable def f49n0(a1:Qa):Option f49n0O :=
 (f49n1 a1).bind fun o38=>match o38 with
 | .norm=>bif decide (0≤a1.Day) then
   bif decide (a1.Day≤99999) then
    bif decide ((a1.Text.size:Int)≤100) then
     bif decide (2≤(a1.Lines.length:Int)) then
      bif decide ((a1.Lines.length:Int)≤20) then
       (f66_63 a1.Lines).bind fun x52 =>
       some (.ret (!x52))
      else
       some (.ret false)
     else
      some (.ret false)
    else
     some (.ret false)
   else
    some (.ret false)
  else
   some (.ret false)
 | .ret=>some (.ret false)
theorem f49n0_ok(a1:Qa){o:f49n0O}(h:f49n0 a1=some o):T Try.prog Try.f49.ntmps 0 c49 (f49n0S a1) (·=f49n0E a1 o):=by
 unfold f49n0 at h;refine rN Qf 1 [j3] [] [] [0] [1] (f49n1S a1) an ?_;obtain ⟨o38,h39,h⟩:=Qc h;cases o38 with
 | norm =>
  refine T.oneN (by kernel_rfl) (f49n1_ok a1 h39) (st2:=(f49n1E a1 .norm).2) rfl ?_;rcases Qg h with ⟨h47,h⟩|⟨h47,h⟩
  ·rcases Qg h with ⟨h48,h⟩|⟨h48,h⟩
   ·rcases Qg h with ⟨h49,h⟩|⟨h49,h⟩
    ·rcases Qg h with ⟨h50,h⟩|⟨h50,h⟩
     ·rcases Qg h with ⟨h51,h⟩|⟨h51,h⟩
      ·obtain ⟨x52,h53,h⟩:=Qc h;obtain rfl:=Qd h;exact rE Qf [j3,([],[],[(2,.val (jI (a1.Lines.length:Int)))]),(jT [4,5,6,9,10,11,12,15,16,19,20,23,24,25,26,27],[(7,.bool true),(13,.bool true),(17,.bool true),(21,.bool true),jH 26 (jB x52),(28,.bool true)],[])] [] [] [] [2] (.ret,(f49n0E a1 (.ret (!x52))).2) (ap (Qn (xs:=a1.Lines) (c:=Qb.cells)) (ap4 h47 (ap h48 (ap4 h48 (ap3 h49 (ap3 h50 (ap2 h51 (ap4 h51 (ap (f66_63_ok a1.Lines h53) an))))))))) rfl
      ·obtain rfl:=Qd h;exact rE Qf [j3,([],[],[(2,.val (jI (a1.Lines.length:Int)))]),(jF [23,24,25,26,27]++jT [4,5,6,9,10,11,12,15,16,19,20],[(7,.bool true),(13,.bool true),(17,.bool true),(21,.bool true),(28,.bool false)],[])] [] [] [] [2] (.ret,(f49n0E a1 (.ret false)).2) (ap (Qn (xs:=a1.Lines) (c:=Qb.cells)) (ap4 h47 (ap h48 (ap4 h48 (ap3 h49 (ap3 h50 (ap2 h51 (ap4 h51 an)))))))) rfl
     ·obtain rfl:=Qd h;exact rE Qf [j3,([],[],[(2,.val (jI (a1.Lines.length:Int)))]),(jF [19,20]++jT [4,5,6,9,10,11,12,15,16],[(7,.bool true),(13,.bool true),(17,.bool true),(21,.bool false)],[])] [] [] [] [2] (.ret,(f49n0E a1 (.ret false)).2) (ap (Qn (xs:=a1.Lines) (c:=Qb.cells)) (ap4 h47 (ap h48 (ap4 h48 (ap3 h49 (ap3 h50 an)))))) rfl
    ·obtain rfl:=Qd h;exact rE Qf [j3,([],[],[(2,.val (jI (a1.Lines.length:Int)))]),(jF [15,16]++jT [4,5,6,9,10,11,12],[(7,.bool true),(13,.bool true),(17,.bool false)],[])] [] [] [] [2] (.ret,(f49n0E a1 (.ret false)).2) (ap (Qn (xs:=a1.Lines) (c:=Qb.cells)) (ap4 h47 (ap h48 (ap4 h48 (ap3 h49 an))))) rfl
   ·obtain rfl:=Qd h;exact rE Qf [j3,([],[],[(2,.val (jI (a1.Lines.length:Int)))]),(jF [9,10,11,12]++jT [4,5,6],[(7,.bool true),(13,.bool false)],[])] [] [] [] [2] (.ret,(f49n0E a1 (.ret false)).2) (ap (Qn (xs:=a1.Lines) (c:=Qb.cells)) (ap4 h47 (ap h48 (ap4 h48 an)))) rfl
  ·obtain rfl:=Qd h;exact rE Qf [j3,([],[],[(2,.val (jI (a1.Lines.length:Int)))]),(jF [4,5,6],[(7,.bool false)],[])] [] [] [] [2] (.ret,(f49n0E a1 (.ret false)).2) (ap (Qn (xs:=a1.Lines) (c:=Qb.cells)) (ap4 h47 an)) rfl
 | ret =>
  obtain rfl:=Qd h;exact T.oneX' (by kernel_rfl) (f49n1_ok a1 h39) (tds:=[]) (m:=[]) (keep:=[2]) (st2:=(f49n0E a1 (.ret false)).2) (by kernel_rfl) an rfl rfl
noncomputable def f49(a1:Qa):Option Bool:=(f49n0 a1).bind fun o=>match o with
 | .ret v54=>some v54
theorem f49_ok(a1:Qa){r:Bool}(h:f49 a1=some r):Qm Try.prog false 49 [(jA Qa.cells a1)] [] (jB r) []:=by
 unfold f49 at h;obtain ⟨o,ho,h⟩:=Qc h;cases o with
 | ret v54 =>
  obtain rfl:=Qd h;exact Qm.plain Qf (f:=Try.f49) (c:=c49) (by kernel_rfl) (by kernel_rfl) (by kernel_rfl) (by kernel_rfl) ((f49n0_ok a1 ho).mono fun r e=>by subst e; exact ⟨.inl rfl,(jB v54),(jB v54),by kernel_rfl,by kernel_rfl,((Wk.refl _):Wk (jB v54) (jB v54))⟩)

noncomputable def c50:Code:=Try.f50.body.getD .skip
inductive f50n2O where
 | exit0 (v24:List (ByteArray×Int))
def f50n2E(bb1:Qa):f50n2O→Ex×Tr×Hp
 | .exit0 v24=>((.exit 0),mkS [(3,(.mp 0))],[some (.map (v24.map (mkv pStr (pInt .i64))))])
def f50n2S(bb1:Qa)(v16:Int)(v17:List (ByteArray×Int)):Tr×Hp:=(mkS [(3,(.mp 0)),(10,(jL 3 Qb.cells bb1.Lines)),(11,(jI (bb1.Lines.length:Int))),(12,(jI v16))],[some (.map (v17.map (mkv pStr (pInt .i64))))])
noncomputable def f50n2:Nat→Qa→Int→List (ByteArray×Int)→Option f50n2O
 | 0,_,_,_=>none
 | f+1,bb1,v16,v17 =>
  bif decide (v16<(bb1.Lines.length:Int)) then
   (at? bb1.Lines v16).bind fun x22 =>
   (f50n2 f bb1 (wr64 (v16+1)) (mPut seq x22.Ccy (wr64 ((mGet seq 0 x22.Ccy v17)+x22.Amount)) v17))
  else
   some (.exit0 v17)
theorem f50n2_ok:∀(f:Nat)(bb1:Qa)(v16:Int)(v17:List (ByteArray×Int)){o:f50n2O},f50n2 f bb1 v16 v17=some o→TL Try.prog Try.f50.ntmps 0 f (cL (cL (Qk 1 (cL (Qk 2 c50))))) (f50n2S bb1 v16 v17) (·=f50n2E bb1 o)
 | 0,_,_,_,o,h=>by rw [f50n2] at h; cases h
 | f+1,bb1,v16,v17,o,h=>by
  rw [f50n2] at h;refine TL.body (K:=fun s=>∃v16:Int,∃v17:List (ByteArray×Int),s=(f50n2S bb1 v16 v17)∧f50n2 f bb1 v16 v17=some o) ?_ (by rintro _ ⟨v16,v17,rfl,hk⟩; exact f50n2_ok f _ _ _ hk);rcases Qg h with ⟨h19,h⟩|⟨h19,h⟩
  ·obtain ⟨x22,h23,h⟩:=Qc h;exact rE Qf [j3,([],[(0,.idx (Int.toNat v16) (Qb.cells x22))],[]),([],[(3,.look ((pInt .i64) (mGet seq 0 x22.Ccy v17)) (mHas seq x22.Ccy v17)),(7,.mset ((mPut seq x22.Ccy (wr64 ((mGet seq 0 x22.Ccy v17)+x22.Amount)) v17).map (mkv pStr (pInt .i64))))],[]),j3] [some true] [] [0] [3,10,11,12] (.norm,(f50n2S bb1 (wr64 (v16+1)) (mPut seq x22.Ccy (wr64 ((mGet seq 0 x22.Ccy v17)+x22.Amount)) v17))) (ap h19 (ap (Qj h23).1 (ap (Qs Qb.cells (Qj h23).2) (ap (look_map (vp:=(pInt .i64)) (e:=3) key_9 0 (by kernel_rfl) x22.Ccy v17) (ap (mset_map (vp:=(pInt .i64)) key_9 x22.Ccy (wr64 ((mGet seq 0 x22.Ccy v17)+x22.Amount)) v17) an))))) (Qt.norm ⟨(wr64 (v16+1)),(mPut seq x22.Ccy (wr64 ((mGet seq 0 x22.Ccy v17)+x22.Amount)) v17),rfl,h⟩)
  ·obtain rfl:=Qd h;exact rK Qf 2 [j3] [some false] [] [0] [3] (.exit 0) ((f50n2E bb1 (.exit0 v17)).2) (ap h19 an) (Qt.out rfl rfl)
noncomputable def f50n2L(bb1:Qa):List Qb→Int→(List (ByteArray×Int))→Option f50n2O
 | [],v16,v17 =>
  some (.exit0 v17)
 | x0::rest,v16,v17 =>
  (f50n2L bb1 rest (v16+1) (mPut seq x0.Ccy (wr64 ((mGet seq 0 x0.Ccy v17)+x0.Amount)) v17))
theorem f50n2L_eq(bb1:Qa):∀(rest:List Qb)(f k:Nat)(v17:List (ByteArray×Int)),bb1.Lines.drop k=rest→bb1.Lines.length≤maxLen→rest.length<f→f50n2 f bb1 (k:Int) v17=f50n2L bb1 rest (k:Int) v17
 | _,0,_,_,_,_,hf=>absurd hf (Nat.not_lt_zero _)
 | [],f+1,k,v17,hd,hm,hf=>by
  have hk:¬((k:Int)<(bb1.Lines.length:Int)):=by have:=Qaj hd; omega
  rw [f50n2,f50n2L];simp only [decide_eq_false hk,cond_false]
 | x0::rest,f+1,k,v17,hd,hm,hf=>by
  obtain ⟨hx,hlt,hd'⟩:=Qx hd;have hk:(k:Int)<(bb1.Lines.length:Int):=by omega
  have hw:wr64 ((k:Int)+1)=(k:Int)+1:=Qr (by omega) (by unfold maxLen at hm; omega);have ih:∀(v17:List (ByteArray×Int)),f50n2 f bb1 ((k:Int)+1) v17=f50n2L bb1 rest ((k:Int)+1) v17:=fun v17=>f50n2L_eq bb1 rest f (k+1) v17 hd' hm (by simpa using hf);rw [f50n2,f50n2L];simp only [decide_eq_true hk,cond_true,Qaq,hx,Option.bind_some,hw,ih]
theorem f50n2_run(bb1:Qa)(v17:List (ByteArray×Int))(hm:bb1.Lines.length≤maxLen):f50n2 FUEL bb1 0 v17=f50n2L bb1 bb1.Lines 0 v17:=f50n2L_eq bb1 bb1.Lines FUEL 0 v17 List.drop_zero hm (Qao hm)
inductive f50n1O where
 | norm (v28:List (ByteArray×Int))
def f50n1E(bb1:Qa):f50n1O→Ex×Tr×Hp
 | .norm v28=>(.norm,mkS [(3,(.mp 0))],[some (.map (v28.map (mkv pStr (pInt .i64))))])
def f50n1S(bb1:Qa):Tr×Hp:=(mkS [(1,(.bp 0 0)),(3,(.mp 1))],[some (.box 47 ((Qa.cells bb1).map .pl)),some (.map ([].map (mkv pStr (pInt .i64))))])
noncomputable def f50n1(bb1:Qa):Option f50n1O :=
 (f50n2 FUEL bb1 0 []).bind fun o25=>match o25 with
 | .exit0 v27=>some (.norm v27)
theorem f50n1_ok(bb1:Qa){o:f50n1O}(h:f50n1 bb1=some o):T Try.prog Try.f50.ntmps 0 (cL (Qk 2 c50)) (f50n1S bb1) (·=f50n1E bb1 o):=by
 unfold f50n1 at h;refine rN Qf 1 [([],[],[(2,.val (jI (bb1.Lines.length:Int)))])] [] [] [1] [3,10,11,12] (f50n2S bb1 0 []) (ap (Qn (xs:=bb1.Lines) (c:=Qb.cells)) an) ?_;obtain ⟨o25,h26,h⟩:=Qc h;cases o25 with
 | exit0 v27 =>
  obtain rfl:=Qd h;exact T.last' (T.bl (i:=0) (by kernel_rfl) (by kernel_rfl) (f50n2_ok FUEL bb1 0 [] h26)) (tds:=[]) (m:=[0]) (keep:=[3]) (st2:=(f50n1E bb1 (.norm v27)).2) (by kernel_rfl) an rfl
inductive f50n4O where
 | exit2
 | ret
def f50n4E(bg1:List (ByteArray×Int)):f50n4O→Ex×Tr×Hp
 | .exit2=>((.exit 2),mkS [],[])
 | .ret=>(.ret,mkS [(2,(jB false))],[])
def f50n4S(bg1:List (ByteArray×Int))(sn0:List Nat):Tr×Hp:=(mkS [(25,(.it 0))],[some (.iter 1 (bg1.map (mkv pStr (pInt .i64))).length sn0),some (.map (bg1.map (mkv pStr (pInt .i64))))])
noncomputable def f50n4(bg1:List (ByteArray×Int)):List (ByteArray×Int)→Option f50n4O
 | [] =>
  some .exit2
 | x38::rest =>
  bif decide (x38.2=0) then
   (f50n4 bg1 rest)
  else
   some .ret
theorem f50n4_ok(bg1:List (ByteArray×Int)):∀(f:Nat)(sn0 rem:List Nat){o:f50n4O},Rem bg1.length sn0 rem→rem.length<f→(∀p,p.Perm rem→f50n4 bg1 (ords bg1 p)=some o)→TL Try.prog Try.f50.ntmps 0 f (cL (cL (Qk 1 (cL (Qk 0 (Qk 1 (Qk 2 c50))))))) (f50n4S bg1 sn0) (·=f50n4E bg1 o)
 | 0,_,_,_,_,hf,_=>absurd hf (Nat.not_lt_zero _)
 | f+1,sn0,rem,o,hR,hf,H=>by
  refine TL.body (K:=fun s=>∃(sn0 rem:List Nat),s=f50n4S bg1 sn0∧Rem bg1.length sn0 rem∧rem.length<f∧(∀p,p.Perm rem→f50n4 bg1 (ords bg1 p)=some o)) ?_ (by rintro _ ⟨sn0,rem,rfl,h1,h2,h3⟩; exact f50n4_ok bg1 f sn0 rem h1 h2 h3);refine T.oneNext Qf (x:=.tmp 25) (t:=26) (tb:=27) (i:=0) (o:=1) (m:=(bg1.map (mkv pStr (pInt .i64))).length) (seen:=sn0) (kvs:=(bg1.map (mkv pStr (pInt .i64)))) (by kernel_rfl) (by kernel_rfl) (by kernel_rfl) (by kernel_rfl) (by kernel_rfl) (by kernel_rfl) rfl (fun hs=>?_) (fun j37 k v hj hs hx=>?_)
  ·obtain rfl:=hR.none (by simpa using hs);have h:f50n4 bg1 []=some o:=H [] (List.Perm.refl _);rw [f50n4] at h;obtain rfl:=Qd h;exact rK Qf 1 [] [none] [] [] [] (.exit 2) ((f50n4E bg1 .exit2).2) an (Qt.out rfl rfl)
  ·obtain ⟨x38,h39,rfl,rfl⟩:=mkv_at hx;obtain ⟨hR2,hlen,hP⟩:=hR.step (j:=j37) (by simpa using hj) hs;have H2:∀p,p.Perm (rem.erase j37)→f50n4 bg1 (x38::ords bg1 p)=some o:=fun p hp=>by have h:=H _ (hP p hp); rwa [ords_cons h39] at h
   have h:=H2 _ (List.Perm.refl _);rw [f50n4] at h;rcases Qg h with ⟨h41,h⟩|⟨h41,h⟩
   ·exact rE Qf [([],[(0,.entr j37 (pStr x38.1) ((pInt .i64) x38.2))],[]),j3] [none,some false] [] [0,1] [25] (.norm,(f50n4S bg1 (sn0++[j37]))) (ap (last_app (seen:=sn0) (j:=j37)) (ap (rfl:(bg1.map (mkv pStr (pInt .i64))).length=(bg1.map (mkv pStr (pInt .i64))).length) (ap (at_mkv (kp:=pStr) (vp:=(pInt .i64)) h39) (ap (Qq h41) an)))) (Qt.norm ⟨sn0++[j37],rem.erase j37,rfl,hR2,by omega,fun p hp=>by have h:=H2 p hp; rw [f50n4] at h; simp only [h41,cond_true,cond_false,Option.bind_some,req] at h; exact h⟩)
   ·obtain rfl:=Qd h;exact rE Qf [([],[(0,.entr j37 (pStr x38.1) ((pInt .i64) x38.2))],[]),j3,j3] [none,some true] [] [] [2] (.ret,(f50n4E bg1 .ret).2) (ap (last_app (seen:=sn0) (j:=j37)) (ap (rfl:(bg1.map (mkv pStr (pInt .i64))).length=(bg1.map (mkv pStr (pInt .i64))).length) (ap (at_mkv (kp:=pStr) (vp:=(pInt .i64)) h39) (ap (Qac h41) an)))) (Qt.out rfl rfl)
inductive f50n3O where
 | norm
 | ret
def f50n3E(bg1:List (ByteArray×Int)):f50n3O→Ex×Tr×Hp
 | .norm=>(.norm,mkS [],[])
 | .ret=>(.ret,mkS [(2,(jB false))],[])
def f50n3S(bg1:List (ByteArray×Int)):Tr×Hp:=(mkS [(3,(.mp 0))],[some (.map (bg1.map (mkv pStr (pInt .i64))))])
noncomputable def f50n3(bg1:List (ByteArray×Int)):Option f50n3O :=
 (anyOrder bg1 fun p=>(f50n4 bg1 p)).bind fun o42=>match o42 with
 | .exit2=>some .norm
 | .ret=>some .ret
theorem f50n3_ok(bg1:List (ByteArray×Int)){o:f50n3O}(h:f50n3 bg1=some o):T Try.prog Try.f50.ntmps 0 (cL (Qk 0 (Qk 1 (Qk 2 c50)))) (f50n3S bg1) (·=f50n3E bg1 o):=by
 unfold f50n3 at h;refine rN Qf 1 [j3] [] [] [1,0] [25] (f50n4S bg1 []) an ?_;obtain ⟨o42,h43,h⟩:=Qc h;cases o42 with
 | exit2 =>
  obtain rfl:=Qd h;exact T.last' (T.bl (i:=2) (by kernel_rfl) (by kernel_rfl) (f50n4_ok bg1 _ [] (List.range bg1.length) (Rem.start _) (Nat.lt_succ_self _) (fun p hp=>anyOrder_at h43 _ (ords_perm hp)))) (tds:=[]) (m:=[]) (keep:=[]) (st2:=(f50n3E bg1 .norm).2) (by kernel_rfl) an rfl
 | ret =>
  obtain rfl:=Qd h;exact T.last' (T.bl (i:=2) (by kernel_rfl) (by kernel_rfl) (f50n4_ok bg1 _ [] (List.range bg1.length) (Rem.start _) (Nat.lt_succ_self _) (fun p hp=>anyOrder_at h43 _ (ords_perm hp)))) (tds:=[]) (m:=[]) (keep:=[2]) (st2:=(f50n3E bg1 .ret).2) (by kernel_rfl) an rfl
inductive f50n0O where
 | ret (v46:Bool)
def f50n0E(a1:Qa):f50n0O→Ex×Tr×Hp
 | .ret v46=>(.ret,mkS [(2,(jB v46))],[])
def f50n0S(a1:Qa):Tr×Hp:=(Qai [(jA Qa.cells a1)] 0 .leaf,[])
noncomputable def f50n0(a1:Qa):Option f50n0O :=
 (f50n1 a1).bind fun o29=>match o29 with
 | .norm v31=>(f50n3 v31).bind fun o44=>match o44 with
  | .norm=>some (.ret true)
  | .ret=>some (.ret false)
theorem f50n0_ok(a1:Qa){o:f50n0O}(h:f50n0 a1=some o):T Try.prog Try.f50.ntmps 0 c50 (f50n0S a1) (·=f50n0E a1 o):=by
 unfold f50n0 at h;refine rN Qf 2 [j3,j3] [] [] [0,1] [1,3] (f50n1S a1) an ?_;obtain ⟨o29,h30,h⟩:=Qc h;cases o29 with
 | norm v31 =>
  refine T.oneN (by kernel_rfl) (f50n1_ok a1 h30) (st2:=(f50n1E a1 (.norm v31)).2) rfl ?_;refine rN Qf 0 [] [] [] [0] [3] (f50n3S v31) an ?_;obtain ⟨o44,h45,h⟩:=Qc h;cases o44 with
  | norm =>
   refine T.oneN (by kernel_rfl) (f50n3_ok v31 h45) (st2:=(f50n3E v31 .norm).2) rfl ?_;obtain rfl:=Qd h;exact rE Qf [j3] [] [] [] [2] (.ret,(f50n0E a1 (.ret true)).2) an rfl
  | ret =>
   obtain rfl:=Qd h;exact T.oneX' (by kernel_rfl) (f50n3_ok v31 h45) (tds:=[]) (m:=[]) (keep:=[2]) (st2:=(f50n0E a1 (.ret false)).2) (by kernel_rfl) an rfl rfl
noncomputable def f50(a1:Qa):Option Bool:=(f50n0 a1).bind fun o=>match o with
 | .ret v46=>some v46
theorem f50_ok(a1:Qa){r:Bool}(h:f50 a1=some r):Qm Try.prog false 50 [(jA Qa.cells a1)] [] (jB r) []:=by
 unfold f50 at h;obtain ⟨o,ho,h⟩:=Qc h;cases o with
 | ret v46 =>
  obtain rfl:=Qd h;exact Qm.plain Qf (f:=Try.f50) (c:=c50) (by kernel_rfl) (by kernel_rfl) (by kernel_rfl) (by kernel_rfl) ((f50n0_ok a1 ho).mono fun r e=>by subst e; exact ⟨.inl rfl,(jB v46),(jB v46),by kernel_rfl,by kernel_rfl,((Wk.refl _):Wk (jB v46) (jB v46))⟩)

noncomputable def c69:Code:=Try.f69.body.getD .skip
inductive f69r1n0O where
 | ret (v9:Bool)
def f69r1n0E(a1:Qb)(a2 a3:Int)(a4:List (Qe×Int)):f69r1n0O→Ex×Tr×Hp
 | .ret v9=>(.ret,mkS [(3,(jB v9))],[some (.box 77 [(.bp 1 0)]),some (.box 80 [(.mp 2),(jI a2),(jI a3)]),some (.map (a4.map (mkv (pAgg Qe.cells) (pInt .i64))))])
def f69r1n0S(a1:Qb)(a2 a3:Int)(a4:List (Qe×Int)):Tr×Hp:=(Qai [(jA Qb.cells a1),(.bp 0 0)] 0 .leaf,[some (.box 77 [(.bp 1 0)]),some (.box 80 [(.mp 2),(jI a2),(jI a3)]),some (.map (a4.map (mkv (pAgg Qe.cells) (pInt .i64))))])
noncomputable def f69r1n0(a1:Qb)(a2 a3:Int)(a4:List (Qe×Int)):Option f69r1n0O :=
 (f65 (mGet Qe.eqb 0 (Qe.mk a1.Account a1.Ccy) a4)).bind fun x7 =>
 some (.ret (!x7))
theorem f69r1n0_ok(a1:Qb)(a2 a3:Int)(a4:List (Qe×Int)){o:f69r1n0O}(h:f69r1n0 a1 a2 a3 a4=some o):T Try.prog Try.f69.ntmps 3 c69 (f69r1n0S a1 a2 a3 a4) (·=f69r1n0E a1 a2 a3 a4 o):=by
 unfold f69r1n0 at h;obtain ⟨x7,h8,h⟩:=Qc h;obtain rfl:=Qd h;exact rE Qf [j3,([],[(9,.look ((pInt .i64) (mGet Qe.eqb 0 (Qe.mk a1.Account a1.Ccy) a4)) (mHas Qe.eqb (Qe.mk a1.Account a1.Ccy) a4)),jH 10 (jB x7)],[])] [] [] [] [3] (.ret,(f69r1n0E a1 a2 a3 a4 (.ret (!x7))).2) (ap (look_map (vp:=(pInt .i64)) (e:=3) key_95 0 (by kernel_rfl) (Qe.mk a1.Account a1.Ccy) a4) (ap (f65_ok (mGet Qe.eqb 0 (Qe.mk a1.Account a1.Ccy) a4) h8) an)) rfl
noncomputable def f69r1(a1:Qb)(a2 a3:Int)(a4:List (Qe×Int)):Option Bool:=(f69r1n0 a1 a2 a3 a4).bind fun o=>match o with
 | .ret v9=>some v9
theorem f69r1_ok(a1:Qb)(a2 a3:Int)(a4:List (Qe×Int)){r:Bool}(h:f69r1 a1 a2 a3 a4=some r):Qm Try.prog true 69 [(jA Qb.cells a1),(.bp 0 0)] [some (.box 77 [(.bp 1 0)]),some (.box 80 [(.mp 2),(jI a2),(jI a3)]),some (.map (a4.map (mkv (pAgg Qe.cells) (pInt .i64))))] (jB r) [some (.box 77 [(.bp 1 0)]),some (.box 80 [(.mp 2),(jI a2),(jI a3)]),some (.map (a4.map (mkv (pAgg Qe.cells) (pInt .i64))))]:=by
 unfold f69r1 at h;obtain ⟨o,ho,h⟩:=Qc h;cases o with
 | ret v9 =>
  obtain rfl:=Qd h;exact Qm.shared Qf (f:=Try.f69) (c:=c69) (by kernel_rfl) (by kernel_rfl) (by kernel_rfl) ((f69r1n0_ok a1 a2 a3 a4 ho).mono fun r e=>by subst e; exact ⟨.inl rfl,by kernel_rfl,by kernel_rfl⟩)

inductive f71r1n2O where
 | exit0
 | ret (v43:Int)
def f71r1n2E(bc1:List Qb)(bf2 bf3:Int)(bh4:List (Qe×Int)):f71r1n2O→Ex×Tr×Hp
 | .exit0=>((.exit 0),mkS [],[some (.box 77 [(.bp 1 0)]),some (.box 80 [(.mp 2),(jI bf2),(jI bf3)]),some (.map (bh4.map (mkv (pAgg Qe.cells) (pInt .i64))))])
 | .ret v43=>(.ret,mkS [(4,(jI v43))],[some (.box 77 [(.bp 1 0)]),some (.box 80 [(.mp 2),(jI bf2),(jI bf3)]),some (.map (bh4.map (mkv (pAgg Qe.cells) (pInt .i64))))])
def f71r1n2S(bc1:List Qb)(bf2 bf3:Int)(bh4:List (Qe×Int))(v30:Int):Tr×Hp:=(mkS [(0,(jL 3 Qb.cells bc1)),(1,(.clo 69 [(.bp 0 0)])),(7,(jI (bc1.length:Int))),(8,(jI v30))],[some (.box 77 [(.bp 1 0)]),some (.box 80 [(.mp 2),(jI bf2),(jI bf3)]),some (.map (bh4.map (mkv (pAgg Qe.cells) (pInt .i64))))])
noncomputable def f71r1n2:Nat→List Qb→Int→Int→List (Qe×Int)→Int→Option f71r1n2O
 | 0,_,_,_,_,_=>none
 | f+1,bc1,bf2,bf3,bh4,v30 =>
  bif decide (v30<(bc1.length:Int)) then
   (at? bc1 v30).bind fun x38 =>
   (f69r1 x38 bf2 bf3 bh4).bind fun x40 =>
   bif x40 then
    some (.ret v30)
   else
    (f71r1n2 f bc1 bf2 bf3 bh4 (wr64 (v30+1)))
  else
   some .exit0
theorem f71r1n2_ok:∀(f:Nat)(bc1:List Qb)(bf2 bf3:Int)(bh4:List (Qe×Int))(v30:Int){o:f71r1n2O},f71r1n2 f bc1 bf2 bf3 bh4 v30=some o→TL Try.prog Try.f71.ntmps 3 f (cL (cL (Qk 1 (cL (Qk 1 c71))))) (f71r1n2S bc1 bf2 bf3 bh4 v30) (·=f71r1n2E bc1 bf2 bf3 bh4 o)
 | 0,_,_,_,_,_,o,h=>by rw [f71r1n2] at h; cases h
 | f+1,bc1,bf2,bf3,bh4,v30,o,h=>by
  rw [f71r1n2] at h;refine TL.body (K:=fun s=>∃v30:Int,s=(f71r1n2S bc1 bf2 bf3 bh4 v30)∧f71r1n2 f bc1 bf2 bf3 bh4 v30=some o) ?_ (by rintro _ ⟨v30,rfl,hk⟩; exact f71r1n2_ok f _ _ _ _ _ hk);rcases Qg h with ⟨h32,h⟩|⟨h32,h⟩
  ·obtain ⟨x38,h39,h⟩:=Qc h;obtain ⟨x40,h41,h⟩:=Qc h;rcases Qg h with ⟨h42,h⟩|⟨h42,h⟩
   ·obtain rfl:=Qd h;exact rK Qf 3 [j3,j3,([],[(3,.idx (Int.toNat v30) (Qb.cells x38)),(5,.call (jB x40) [some (.box 77 [(.bp 1 0)]),some (.box 80 [(.mp 2),(jI bf2),(jI bf3)]),some (.map (bh4.map (mkv (pAgg Qe.cells) (pInt .i64))))])],[]),j3] [some true,some true] [] [] [4] .ret ((f71r1n2E bc1 bf2 bf3 bh4 (.ret v30)).2) (ap h32 (ap (Qj h39).1 (ap (Qs Qb.cells (Qj h39).2) (ap (f69r1_ok x38 bf2 bf3 bh4 h41) (ap h42 an))))) (Qt.out rfl rfl)
   ·exact rE Qf [j3,j3,([],[(3,.idx (Int.toNat v30) (Qb.cells x38)),(5,.call (jB x40) [some (.box 77 [(.bp 1 0)]),some (.box 80 [(.mp 2),(jI bf2),(jI bf3)]),some (.map (bh4.map (mkv (pAgg Qe.cells) (pInt .i64))))])],[]),j3] [some true,some false] [] [] [0,1,7,8] (.norm,(f71r1n2S bc1 bf2 bf3 bh4 (wr64 (v30+1)))) (ap h32 (ap (Qj h39).1 (ap (Qs Qb.cells (Qj h39).2) (ap (f69r1_ok x38 bf2 bf3 bh4 h41) (ap h42 an))))) (Qt.norm ⟨(wr64 (v30+1)),rfl,h⟩)
  ·obtain rfl:=Qd h;exact rK Qf 2 [j3] [some false] [] [] [] (.exit 0) ((f71r1n2E bc1 bf2 bf3 bh4 .exit0).2) (ap h32 an) (Qt.out rfl rfl)
noncomputable def f71r1n2L(bc1:List Qb)(bf2 bf3:Int)(bh4:List (Qe×Int)):List Qb→Int→Option f71r1n2O
 | [],v30 =>
  some .exit0
 | x0::rest,v30 =>
  (f69r1 x0 bf2 bf3 bh4).bind fun x40 =>
  bif x40 then
   some (.ret v30)
  else
   (f71r1n2L bc1 bf2 bf3 bh4 rest (v30+1))
theorem f71r1n2L_eq(bc1:List Qb)(bf2 bf3:Int)(bh4:List (Qe×Int)):∀(rest:List Qb)(f k:Nat),bc1.drop k=rest→bc1.length≤maxLen→rest.length<f→f71r1n2 f bc1 bf2 bf3 bh4 (k:Int)=f71r1n2L bc1 bf2 bf3 bh4 rest (k:Int)
 | _,0,_,_,_,hf=>absurd hf (Nat.not_lt_zero _)
 | [],f+1,k,hd,hm,hf=>by
  have hk:¬((k:Int)<(bc1.length:Int)):=by have:=Qaj hd; omega
  rw [f71r1n2,f71r1n2L];simp only [decide_eq_false hk,cond_false]
 | x0::rest,f+1,k,hd,hm,hf=>by
  obtain ⟨hx,hlt,hd'⟩:=Qx hd;have hk:(k:Int)<(bc1.length:Int):=by omega
  have hw:wr64 ((k:Int)+1)=(k:Int)+1:=Qr (by omega) (by unfold maxLen at hm; omega);have ih:f71r1n2 f bc1 bf2 bf3 bh4 ((k:Int)+1)=f71r1n2L bc1 bf2 bf3 bh4 rest ((k:Int)+1):=f71r1n2L_eq bc1 bf2 bf3 bh4 rest f (k+1) hd' hm (by simpa using hf);rw [f71r1n2,f71r1n2L];simp only [decide_eq_true hk,cond_true,Qaq,hx,Option.bind_some,hw,ih]
theorem f71r1n2_run(bc1:List Qb)(bf2 bf3:Int)(bh4:List (Qe×Int))(hm:bc1.length≤maxLen):f71r1n2 FUEL bc1 bf2 bf3 bh4 0=f71r1n2L bc1 bf2 bf3 bh4 bc1 0:=f71r1n2L_eq bc1 bf2 bf3 bh4 bc1 FUEL 0 List.drop_zero hm (Qao hm)
inductive f71r1n1O where
 | norm
 | ret (v47:Int)
def f71r1n1E(bc1:List Qb)(bf2 bf3:Int)(bh4:List (Qe×Int)):f71r1n1O→Ex×Tr×Hp
 | .norm=>(.norm,mkS [],[some (.box 77 [(.bp 1 0)]),some (.box 80 [(.mp 2),(jI bf2),(jI bf3)]),some (.map (bh4.map (mkv (pAgg Qe.cells) (pInt .i64))))])
 | .ret v47=>(.ret,mkS [(4,(jI v47))],[some (.box 77 [(.bp 1 0)]),some (.box 80 [(.mp 2),(jI bf2),(jI bf3)]),some (.map (bh4.map (mkv (pAgg Qe.cells) (pInt .i64))))])
def f71r1n1S(bc1:List Qb)(bf2 bf3:Int)(bh4:List (Qe×Int)):Tr×Hp:=(mkS [(0,(jL 3 Qb.cells bc1)),(1,(.clo 69 [(.bp 0 0)]))],[some (.box 77 [(.bp 1 0)]),some (.box 80 [(.mp 2),(jI bf2),(jI bf3)]),some (.map (bh4.map (mkv (pAgg Qe.cells) (pInt .i64))))])
noncomputable def f71r1n1(bc1:List Qb)(bf2 bf3:Int)(bh4:List (Qe×Int)):Option f71r1n1O :=
 (f71r1n2 FUEL bc1 bf2 bf3 bh4 0).bind fun o44=>match o44 with
 | .exit0=>some .norm
 | .ret v46=>some (.ret v46)
theorem f71r1n1_ok(bc1:List Qb)(bf2 bf3:Int)(bh4:List (Qe×Int)){o:f71r1n1O}(h:f71r1n1 bc1 bf2 bf3 bh4=some o):T Try.prog Try.f71.ntmps 3 (cL (Qk 1 c71)) (f71r1n1S bc1 bf2 bf3 bh4) (·=f71r1n1E bc1 bf2 bf3 bh4 o):=by
 unfold f71r1n1 at h;refine rN Qf 1 [([],[],[(1,.val (jI (bc1.length:Int)))])] [] [] [] [0,1,7,8] (f71r1n2S bc1 bf2 bf3 bh4 0) (ap (Qn (xs:=bc1) (c:=Qb.cells)) an) ?_;obtain ⟨o44,h45,h⟩:=Qc h;cases o44 with
 | exit0 =>
  obtain rfl:=Qd h;exact T.last' (T.bl (i:=0) (by kernel_rfl) (by kernel_rfl) (f71r1n2_ok FUEL bc1 bf2 bf3 bh4 0 h45)) (tds:=[]) (m:=[]) (keep:=[]) (st2:=(f71r1n1E bc1 bf2 bf3 bh4 .norm).2) (by kernel_rfl) an rfl
 | ret v46 =>
  obtain rfl:=Qd h;exact T.last' (T.bl (i:=0) (by kernel_rfl) (by kernel_rfl) (f71r1n2_ok FUEL bc1 bf2 bf3 bh4 0 h45)) (tds:=[]) (m:=[]) (keep:=[4]) (st2:=(f71r1n1E bc1 bf2 bf3 bh4 (.ret v46)).2) (by kernel_rfl) an rfl
inductive f71r1n0O where
 | ret (v51:Int)
def f71r1n0E(a1:List Qb)(a2 a3:Int)(a4:List (Qe×Int)):f71r1n0O→Ex×Tr×Hp
 | .ret v51=>(.ret,mkS [(4,(jI v51))],[some (.box 77 [(.bp 1 0)]),some (.box 80 [(.mp 2),(jI a2),(jI a3)]),some (.map (a4.map (mkv (pAgg Qe.cells) (pInt .i64))))])
def f71r1n0S(a1:List Qb)(a2 a3:Int)(a4:List (Qe×Int)):Tr×Hp:=(Qai [(jL 3 Qb.cells a1),(.clo 69 [(.bp 0 0)])] 0 .leaf,[some (.box 77 [(.bp 1 0)]),some (.box 80 [(.mp 2),(jI a2),(jI a3)]),some (.map (a4.map (mkv (pAgg Qe.cells) (pInt .i64))))])
noncomputable def f71r1n0(a1:List Qb)(a2 a3:Int)(a4:List (Qe×Int)):Option f71r1n0O :=
 (f71r1n1 a1 a2 a3 a4).bind fun o48=>match o48 with
 | .norm=>some (.ret (-1))
 | .ret v50=>some (.ret v50)
theorem f71r1n0_ok(a1:List Qb)(a2 a3:Int)(a4:List (Qe×Int)){o:f71r1n0O}(h:f71r1n0 a1 a2 a3 a4=some o):T Try.prog Try.f71.ntmps 3 c71 (f71r1n0S a1 a2 a3 a4) (·=f71r1n0E a1 a2 a3 a4 o):=by
 unfold f71r1n0 at h;refine rN Qf 1 [j3] [] [] [] [0,1] (f71r1n1S a1 a2 a3 a4) an ?_;obtain ⟨o48,h49,h⟩:=Qc h;cases o48 with
 | norm =>
  refine T.oneN (by kernel_rfl) (f71r1n1_ok a1 a2 a3 a4 h49) (st2:=(f71r1n1E a1 a2 a3 a4 .norm).2) rfl ?_;obtain rfl:=Qd h;exact rE Qf [j3] [] [] [] [4] (.ret,(f71r1n0E a1 a2 a3 a4 (.ret (-1))).2) an rfl
 | ret v50 =>
  obtain rfl:=Qd h;exact T.oneX' (by kernel_rfl) (f71r1n1_ok a1 a2 a3 a4 h49) (tds:=[]) (m:=[]) (keep:=[4]) (st2:=(f71r1n0E a1 a2 a3 a4 (.ret v50)).2) (by kernel_rfl) an rfl rfl
noncomputable def f71r1(a1:List Qb)(a2 a3:Int)(a4:List (Qe×Int)):Option Int:=(f71r1n0 a1 a2 a3 a4).bind fun o=>match o with
 | .ret v51=>some v51
theorem f71r1_ok(a1:List Qb)(a2 a3:Int)(a4:List (Qe×Int)){r:Int}(h:f71r1 a1 a2 a3 a4=some r):Qm Try.prog true 71 [(jL 3 Qb.cells a1),(.clo 69 [(.bp 0 0)])] [some (.box 77 [(.bp 1 0)]),some (.box 80 [(.mp 2),(jI a2),(jI a3)]),some (.map (a4.map (mkv (pAgg Qe.cells) (pInt .i64))))] (jI r) [some (.box 77 [(.bp 1 0)]),some (.box 80 [(.mp 2),(jI a2),(jI a3)]),some (.map (a4.map (mkv (pAgg Qe.cells) (pInt .i64))))]:=by
 unfold f71r1 at h;obtain ⟨o,ho,h⟩:=Qc h;cases o with
 | ret v51 =>
  obtain rfl:=Qd h;exact Qm.shared Qf (f:=Try.f71) (c:=c71) (by kernel_rfl) (by kernel_rfl) (by kernel_rfl) ((f71r1n0_ok a1 a2 a3 a4 ho).mono fun r e=>by subst e; exact ⟨.inl rfl,by kernel_rfl,by kernel_rfl⟩)

inductive f66r1n0O where
 | ret (v9:Bool)
def f66r1n0E(a1:List Qb)(a2 a3:Int)(a4:List (Qe×Int)):f66r1n0O→Ex×Tr×Hp
 | .ret v9=>(.ret,mkS [(4,(jB v9))],[some (.box 77 [(.bp 1 0)]),some (.box 80 [(.mp 2),(jI a2),(jI a3)]),some (.map (a4.map (mkv (pAgg Qe.cells) (pInt .i64))))])
def f66r1n0S(a1:List Qb)(a2 a3:Int)(a4:List (Qe×Int)):Tr×Hp:=(Qai [(jL 3 Qb.cells a1),(.clo 69 [(.bp 0 0)])] 0 .leaf,[some (.box 77 [(.bp 1 0)]),some (.box 80 [(.mp 2),(jI a2),(jI a3)]),some (.map (a4.map (mkv (pAgg Qe.cells) (pInt .i64))))])
noncomputable def f66r1n0(a1:List Qb)(a2 a3:Int)(a4:List (Qe×Int)):Option f66r1n0O :=
 (f71r1 a1 a2 a3 a4).bind fun x7 =>
 some (.ret (decide (0≤x7)))
theorem f66r1n0_ok(a1:List Qb)(a2 a3:Int)(a4:List (Qe×Int)){o:f66r1n0O}(h:f66r1n0 a1 a2 a3 a4=some o):T Try.prog Try.f66.ntmps 3 c66 (f66r1n0S a1 a2 a3 a4) (·=f66r1n0E a1 a2 a3 a4 o):=by
 unfold f66r1n0 at h;obtain ⟨x7,h8,h⟩:=Qc h;obtain rfl:=Qd h;exact rE Qf [j3,([],[(2,.call (jI x7) [some (.box 77 [(.bp 1 0)]),some (.box 80 [(.mp 2),(jI a2),(jI a3)]),some (.map (a4.map (mkv (pAgg Qe.cells) (pInt .i64))))])],[])] [] [] [] [4] (.ret,(f66r1n0E a1 a2 a3 a4 (.ret (decide (0≤x7)))).2) (ap (f71r1_ok a1 a2 a3 a4 h8) an) rfl
noncomputable def f66r1(a1:List Qb)(a2 a3:Int)(a4:List (Qe×Int)):Option Bool:=(f66r1n0 a1 a2 a3 a4).bind fun o=>match o with
 | .ret v9=>some v9
theorem f66r1_ok(a1:List Qb)(a2 a3:Int)(a4:List (Qe×Int)){r:Bool}(h:f66r1 a1 a2 a3 a4=some r):Qm Try.prog true 66 [(jL 3 Qb.cells a1),(.clo 69 [(.bp 0 0)])] [some (.box 77 [(.bp 1 0)]),some (.box 80 [(.mp 2),(jI a2),(jI a3)]),some (.map (a4.map (mkv (pAgg Qe.cells) (pInt .i64))))] (jB r) [some (.box 77 [(.bp 1 0)]),some (.box 80 [(.mp 2),(jI a2),(jI a3)]),some (.map (a4.map (mkv (pAgg Qe.cells) (pInt .i64))))]:=by
 unfold f66r1 at h;obtain ⟨o,ho,h⟩:=Qc h;cases o with
 | ret v9 =>
  obtain rfl:=Qd h;exact Qm.shared Qf (f:=Try.f66) (c:=c66) (by kernel_rfl) (by kernel_rfl) (by kernel_rfl) ((f66r1n0_ok a1 a2 a3 a4 ho).mono fun r e=>by subst e; exact ⟨.inl rfl,by kernel_rfl,by kernel_rfl⟩)

noncomputable def c61:Code:=Try.f61.body.getD .skip
inductive f61r1n0O where
 | ret (v9:Bool)
def f61r1n0E(a1:Qa)(a2 a3:Int)(a4:List (Qe×Int)):f61r1n0O→Ex×Tr×Hp
 | .ret v9=>(.ret,mkS [(4,(jB v9))],[some (.box 80 [(.mp 1),(jI a2),(jI a3)]),some (.map (a4.map (mkv (pAgg Qe.cells) (pInt .i64))))])
def f61r1n0S(a1:Qa)(a2 a3:Int)(a4:List (Qe×Int)):Tr×Hp:=(Qai [(.bp 0 0),(jA Qa.cells a1)] 0 .leaf,[some (.box 80 [(.mp 1),(jI a2),(jI a3)]),some (.map (a4.map (mkv (pAgg Qe.cells) (pInt .i64))))])
noncomputable def f61r1n0(a1:Qa)(a2 a3:Int)(a4:List (Qe×Int)):Option f61r1n0O :=
 (f66r1 a1.Lines a2 a3 a4).bind fun x7 =>
 some (.ret (!x7))
theorem f61r1n0_ok(a1:Qa)(a2 a3:Int)(a4:List (Qe×Int)){o:f61r1n0O}(h:f61r1n0 a1 a2 a3 a4=some o):T Try.prog Try.f61.ntmps 2 c61 (f61r1n0S a1 a2 a3 a4) (·=f61r1n0E a1 a2 a3 a4 o):=by
 unfold f61r1n0 at h;obtain ⟨x7,h8,h⟩:=Qc h;obtain rfl:=Qd h;exact rE Qf [j3,([],[(3,.call (jB x7) [some (.box 80 [(.mp 1),(jI a2),(jI a3)]),some (.map (a4.map (mkv (pAgg Qe.cells) (pInt .i64)))),some (.box 77 [(.bp 0 0)]),none])],[])] [] [] [] [4] (.ret,(f61r1n0E a1 a2 a3 a4 (.ret (!x7))).2) (ap (Qm.rn 4 [2,0,1] (f66r1_ok a1.Lines a2 a3 a4 h8)) an) rfl
noncomputable def f61r1(a1:Qa)(a2 a3:Int)(a4:List (Qe×Int)):Option Bool:=(f61r1n0 a1 a2 a3 a4).bind fun o=>match o with
 | .ret v9=>some v9
theorem f61r1_ok(a1:Qa)(a2 a3:Int)(a4:List (Qe×Int)){r:Bool}(h:f61r1 a1 a2 a3 a4=some r):Qm Try.prog true 61 [(.bp 0 0),(jA Qa.cells a1)] [some (.box 80 [(.mp 1),(jI a2),(jI a3)]),some (.map (a4.map (mkv (pAgg Qe.cells) (pInt .i64))))] (jB r) [some (.box 80 [(.mp 1),(jI a2),(jI a3)]),some (.map (a4.map (mkv (pAgg Qe.cells) (pInt .i64))))]:=by
 unfold f61r1 at h;obtain ⟨o,ho,h⟩:=Qc h;cases o with
 | ret v9 =>
  obtain rfl:=Qd h;exact Qm.shared Qf (f:=Try.f61) (c:=c61) (by kernel_rfl) (by kernel_rfl) (by kernel_rfl) ((f61r1n0_ok a1 a2 a3 a4 ho).mono fun r e=>by subst e; exact ⟨.inl rfl,by kernel_rfl,by kernel_rfl⟩)

noncomputable def c44:Code:=Try.f44.body.getD .skip

inductive f44r2n2O where
 | exit0 (v43:List (Qe×Int))
def f44r2n2E(bb4:Qa)(bf1 bf2:Int):f44r2n2O→Ex×Tr×Hp
 | .exit0 v43=>((.exit 0),mkS [(0,(.bp 0 0)),(3,(.bp 2 0))],[some (.box 80 [(.mp 1),(jI bf1),(jI bf2)]),some (.map (v43.map (mkv (pAgg Qe.cells) (pInt .i64)))),some (.box 47 ((Qa.cells bb4).map .pl))])
def f44r2n2S(bb4:Qa)(bf1 bf2 v35:Int)(v36:List (Qe×Int)):Tr×Hp:=(mkS [(0,(.bp 0 0)),(3,(.bp 2 0)),(32,(jL 3 Qb.cells bb4.Lines)),(33,(jI (bb4.Lines.length:Int))),(34,(jI v35))],[some (.box 80 [(.mp 1),(jI bf1),(jI bf2)]),some (.map (v36.map (mkv (pAgg Qe.cells) (pInt .i64)))),some (.box 47 ((Qa.cells bb4).map .pl))])
noncomputable def f44r2n2:Nat→Qa→Int→Int→Int→List (Qe×Int)→Option f44r2n2O
 | 0,_,_,_,_,_=>none
 | f+1,bb4,bf1,bf2,v35,v36 =>
  bif decide (v35<(bb4.Lines.length:Int)) then
   (at? bb4.Lines v35).bind fun x41 =>
   (f44r2n2 f bb4 bf1 bf2 (wr64 (v35+1)) (mPut Qe.eqb (Qe.mk x41.Account x41.Ccy) (wr64 ((mGet Qe.eqb 0 (Qe.mk x41.Account x41.Ccy) v36)+x41.Amount)) v36))
  else
   some (.exit0 v36)
theorem f44r2n2_ok:∀(f:Nat)(bb4:Qa)(bf1 bf2 v35:Int)(v36:List (Qe×Int)){o:f44r2n2O},f44r2n2 f bb4 bf1 bf2 v35 v36=some o→TL Try.prog Try.f44.ntmps 2 f (cL (cL (Qk 1 (cL (Qk 2 c44))))) (f44r2n2S bb4 bf1 bf2 v35 v36) (·=f44r2n2E bb4 bf1 bf2 o)
 | 0,_,_,_,_,_,o,h=>by rw [f44r2n2] at h; cases h
 | f+1,bb4,bf1,bf2,v35,v36,o,h=>by
  rw [f44r2n2] at h;refine TL.body (K:=fun s=>∃v35:Int,∃v36:List (Qe×Int),s=(f44r2n2S bb4 bf1 bf2 v35 v36)∧f44r2n2 f bb4 bf1 bf2 v35 v36=some o) ?_ (by rintro _ ⟨v35,v36,rfl,hk⟩; exact f44r2n2_ok f _ _ _ _ _ hk);rcases Qg h with ⟨h38,h⟩|⟨h38,h⟩
  ·obtain ⟨x41,h42,h⟩:=Qc h
   exact rE Qf [j3,([],[(0,.idx (Int.toNat v35) (Qb.cells x41))],[]),([],[(9,.look ((pInt .i64) (mGet Qe.eqb 0 (Qe.mk x41.Account x41.Ccy) v36)) (mHas Qe.eqb (Qe.mk x41.Account x41.Ccy) v36)),(13,.ment ((pInt .i64) (mGet Qe.eqb 0 (Qe.mk x41.Account x41.Ccy) v36)) (mIdx Qe.eqb (Qe.mk x41.Account x41.Ccy) v36) ((mEns Qe.eqb 0 (Qe.mk x41.Account x41.Ccy) v36).map (mkv (pAgg Qe.cells) (pInt .i64)))),(15,.mst (mIdx Qe.eqb (Qe.mk x41.Account x41.Ccy) v36) ((pAgg Qe.cells) (Qe.mk x41.Account x41.Ccy)) ((pInt .i64) (mGet Qe.eqb 0 (Qe.mk x41.Account x41.Ccy) v36)))],[(15,.map 1 ((mPut Qe.eqb (Qe.mk x41.Account x41.Ccy) (wr64 ((mGet Qe.eqb 0 (Qe.mk x41.Account x41.Ccy) v36)+x41.Amount)) v36).map (mkv (pAgg Qe.cells) (pInt .i64))))]),j3] [some true] [] [2] [0,3,32,33,34] (.norm,(f44r2n2S bb4 bf1 bf2 (wr64 (v35+1)) (mPut Qe.eqb (Qe.mk x41.Account x41.Ccy) (wr64 ((mGet Qe.eqb 0 (Qe.mk x41.Account x41.Ccy) v36)+x41.Amount)) v36))) (ap h38 (ap (Qj h42).1 (ap (Qs Qb.cells (Qj h42).2) (ap (look_map (vp:=(pInt .i64)) (e:=3) key_95 0 (by kernel_rfl) (Qe.mk x41.Account x41.Ccy) v36) (ap (ment_map (vp:=(pInt .i64)) (e:=3) key_95 0 (by kernel_rfl) (Qe.mk x41.Account x41.Ccy) v36) (ap (rfl:((mIdx Qe.eqb (Qe.mk x41.Account x41.Ccy) v36):Int)=(((mIdx Qe.eqb (Qe.mk x41.Account x41.Ccy) v36):Nat):Int)) (ap (mst_at (vp:=(pInt .i64)) key_95 0 (Qe.mk x41.Account x41.Ccy) v36) (ap (mst_put (vp:=(pInt .i64)) key_95 0 (wr64 ((mGet Qe.eqb 0 (Qe.mk x41.Account x41.Ccy) v36)+x41.Amount)) (Qe.mk x41.Account x41.Ccy) v36) an)))))))) (Qt.norm ⟨(wr64 (v35+1)),(mPut Qe.eqb (Qe.mk x41.Account x41.Ccy) (wr64 ((mGet Qe.eqb 0 (Qe.mk x41.Account x41.Ccy) v36)+x41.Amount)) v36),rfl,h⟩)
  ·obtain rfl:=Qd h;exact rK Qf 2 [j3] [some false] [] [2] [0,3] (.exit 0) ((f44r2n2E bb4 bf1 bf2 (.exit0 v36)).2) (ap h38 an) (Qt.out rfl rfl)
noncomputable def f44r2n2L(bb4:Qa)(bf1 bf2:Int):List Qb→Int→(List (Qe×Int))→Option f44r2n2O
 | [],v35,v36 =>
  some (.exit0 v36)
 | x0::rest,v35,v36 =>
  (f44r2n2L bb4 bf1 bf2 rest (v35+1) (mPut Qe.eqb (Qe.mk x0.Account x0.Ccy) (wr64 ((mGet Qe.eqb 0 (Qe.mk x0.Account x0.Ccy) v36)+x0.Amount)) v36))
theorem f44r2n2L_eq(bb4:Qa)(bf1 bf2:Int):∀(rest:List Qb)(f k:Nat)(v36:List (Qe×Int)),bb4.Lines.drop k=rest→bb4.Lines.length≤maxLen→rest.length<f→f44r2n2 f bb4 bf1 bf2 (k:Int) v36=f44r2n2L bb4 bf1 bf2 rest (k:Int) v36
 | _,0,_,_,_,_,hf=>absurd hf (Nat.not_lt_zero _)
 | [],f+1,k,v36,hd,hm,hf=>by
  have hk:¬((k:Int)<(bb4.Lines.length:Int)):=by have:=Qaj hd; omega
  rw [f44r2n2,f44r2n2L];simp only [decide_eq_false hk,cond_false]
 | x0::rest,f+1,k,v36,hd,hm,hf=>by
  obtain ⟨hx,hlt,hd'⟩:=Qx hd;have hk:(k:Int)<(bb4.Lines.length:Int):=by omega
  have hw:wr64 ((k:Int)+1)=(k:Int)+1:=Qr (by omega) (by unfold maxLen at hm; omega);have ih:∀(v36:List (Qe×Int)),f44r2n2 f bb4 bf1 bf2 ((k:Int)+1) v36=f44r2n2L bb4 bf1 bf2 rest ((k:Int)+1) v36:=fun v36=>f44r2n2L_eq bb4 bf1 bf2 rest f (k+1) v36 hd' hm (by simpa using hf);rw [f44r2n2,f44r2n2L];simp only [decide_eq_true hk,cond_true,Qaq,hx,Option.bind_some,hw,ih]
theorem f44r2n2_run(bb4:Qa)(bf1 bf2:Int)(v36:List (Qe×Int))(hm:bb4.Lines.length≤maxLen):f44r2n2 FUEL bb4 bf1 bf2 0 v36=f44r2n2L bb4 bf1 bf2 bb4.Lines 0 v36:=f44r2n2L_eq bb4 bf1 bf2 bb4.Lines FUEL 0 v36 List.drop_zero hm (Qao hm)
inductive f44r2n1O where
 | norm (v47:List (Qe×Int))
def f44r2n1E(bf1 bf2:Int)(bh3:List (Qe×Int))(bb4:Qa):f44r2n1O→Ex×Tr×Hp
 | .norm v47=>(.norm,mkS [(0,(.bp 0 0)),(3,(.bp 2 0))],[some (.box 80 [(.mp 1),(jI bf1),(jI bf2)]),some (.map (v47.map (mkv (pAgg Qe.cells) (pInt .i64)))),some (.box 47 ((Qa.cells bb4).map .pl))])
def f44r2n1S(bf1 bf2:Int)(bh3:List (Qe×Int))(bb4:Qa):Tr×Hp:=(mkS [(0,(.bp 0 0)),(3,(.bp 2 0))],[some (.box 80 [(.mp 1),(jI bf1),(jI bf2)]),some (.map (bh3.map (mkv (pAgg Qe.cells) (pInt .i64)))),some (.box 47 ((Qa.cells bb4).map .pl))])
noncomputable def f44r2n1(bf1 bf2:Int)(bh3:List (Qe×Int))(bb4:Qa):Option f44r2n1O :=
 (f44r2n2 FUEL bb4 bf1 bf2 0 bh3).bind fun o44=>match o44 with
 | .exit0 v46=>some (.norm v46)
theorem f44r2n1_ok(bf1 bf2:Int)(bh3:List (Qe×Int))(bb4:Qa){o:f44r2n1O}(h:f44r2n1 bf1 bf2 bh3 bb4=some o):T Try.prog Try.f44.ntmps 2 (cL (Qk 2 c44)) (f44r2n1S bf1 bf2 bh3 bb4) (·=f44r2n1E bf1 bf2 bh3 bb4 o):=by
 unfold f44r2n1 at h;refine rN Qf 1 [([],[],[(2,.val (jI (bb4.Lines.length:Int)))])] [] [] [2] [0,3,32,33,34] (f44r2n2S bb4 bf1 bf2 0 bh3) (ap (Qn (xs:=bb4.Lines) (c:=Qb.cells)) an) ?_;obtain ⟨o44,h45,h⟩:=Qc h;cases o44 with
 | exit0 v46 =>
  obtain rfl:=Qd h;exact T.last' (T.bl (i:=0) (by kernel_rfl) (by kernel_rfl) (f44r2n2_ok FUEL bb4 bf1 bf2 0 bh3 h45)) (tds:=[]) (m:=[2]) (keep:=[0,3]) (st2:=(f44r2n1E bf1 bf2 bh3 bb4 (.norm v46)).2) (by kernel_rfl) an rfl
inductive f44r2n0O where
 | ret (v55:Bool) (v56:Int) (v57:Int) (v58:List (Qe×Int))
def f44r2n0E(a1:Qa)(a2 a3:Int)(a4:List (Qe×Int)):f44r2n0O→Ex×Tr×Hp
 | .ret v55 v56 v57 v58=>(.ret,mkS [(4,(jB v55))],[some (.box 80 [(.mp 1),(jI v56),(jI v57)]),some (.map (v58.map (mkv (pAgg Qe.cells) (pInt .i64))))])
def f44r2n0S(a1:Qa)(a2 a3:Int)(a4:List (Qe×Int)):Tr×Hp:=(Qai [(.bp 0 0),(jA Qa.cells a1)] 0 .leaf,[some (.box 80 [(.mp 1),(jI a2),(jI a3)]),some (.map (a4.map (mkv (pAgg Qe.cells) (pInt .i64))))])
noncomputable def f44r2n0(a1:Qa)(a2 a3:Int)(a4:List (Qe×Int)):Option f44r2n0O :=
 bif decide (a3=200) then
  some (.ret false a2 a3 a4)
 else
  (f49 a1).bind fun x14 =>
  bif x14 then
   (f50 a1).bind fun x17 =>
   bif x17 then
    bif decide (a1.Day<a2) then
     some (.ret false a2 a3 a4)
    else
     (f44r2n1 a2 a3 a4 a1).bind fun o48=>match o48 with
     | .norm v50=>(f61r1 a1 a1.Day (wr64 (a3+1)) v50).bind fun x53 =>
      some (.ret x53 a1.Day (wr64 (a3+1)) v50)
   else
    some (.ret false a2 a3 a4)
  else
   some (.ret false a2 a3 a4)
theorem f44r2n0_ok(a1:Qa)(a2 a3:Int)(a4:List (Qe×Int)){o:f44r2n0O}(h:f44r2n0 a1 a2 a3 a4=some o):T Try.prog Try.f44.ntmps 2 c44 (f44r2n0S a1 a2 a3 a4) (·=f44r2n0E a1 a2 a3 a4 o):=by
 unfold f44r2n0 at h;rcases Qg h with ⟨h13,h⟩|⟨h13,h⟩
 ·obtain rfl:=Qd h;exact rK Qf 2 [j3,(jT [6,7,8],[(9,.bool true)],[]),j3] [none] [] [] [4] .ret ((f44r2n0E a1 a2 a3 a4 (.ret false a2 a3 a4)).2) (ap4 h13 an) rfl
 ·obtain ⟨x14,h15,h⟩:=Qc h;rcases Qg h with ⟨h16,h⟩|⟨h16,h⟩
  ·obtain ⟨x17,h18,h⟩:=Qc h;rcases Qg h with ⟨h19,h⟩|⟨h19,h⟩
   ·rcases Qg h with ⟨h20,h⟩|⟨h20,h⟩
    ·obtain rfl:=Qd h;exact rK Qf 2 [j3,(jF [6,7,8,11,12,13,16,17,18,19,20,21,22],[jH 7 (jB x14),(9,.bool false),jH 12 (jB x17),(14,.bool false),(23,.bool false)],[]),j3] [some true] [] [] [4] .ret ((f44r2n0E a1 a2 a3 a4 (.ret false a2 a3 a4)).2) (ap4 h13 (ap4 (Qq h16) (ap4 (Qq h19) (ap4 (Qq h19) (ap (f49_ok a1 h15) (ap (f50_ok a1 h18) (ap h20 an))))))) rfl
    ·refine rN Qf 2 [j3,(jF [6,7,8,11,12,13,16,17,18,19,20,21,22],[jH 7 (jB x14),(9,.bool false),jH 12 (jB x17),(14,.bool false),(23,.bool false)],[])] [some false] [] [2] [0,3] (f44r2n1S a2 a3 a4 a1) (ap4 h13 (ap4 (Qq h16) (ap4 (Qq h19) (ap4 (Qq h19) (ap (f49_ok a1 h15) (ap (f50_ok a1 h18) (ap h20 an))))))) ?_;obtain ⟨o48,h49,h⟩:=Qc h;cases o48 with
     | norm v50 =>
      refine T.oneN (by kernel_rfl) (f44r2n1_ok a2 a3 a4 a1 h49) (st2:=(f44r2n1E a2 a3 a4 a1 (.norm v50)).2) rfl ?_;obtain ⟨x53,h54,h⟩:=Qc h;obtain rfl:=Qd h;exact rE Qf [j3,([],[(2,.call (jB x53) [some (.box 80 [(.mp 1),(jI a1.Day),(jI (wr64 (a3+1)))]),some (.map (v50.map (mkv (pAgg Qe.cells) (pInt .i64)))),none,none])],[])] [] [] [] [4] (.ret,(f44r2n0E a1 a2 a3 a4 (.ret x53 a1.Day (wr64 (a3+1)) v50)).2) (ap (Qm.rn 4 [0,1] (f61r1_ok a1 a1.Day (wr64 (a3+1)) v50 h54)) an) rfl
   ·obtain rfl:=Qd h;exact rK Qf 2 [j3,(jF [6,7,8,11,12,13]++jT [16,17,18,19,20,21,22],[jH 7 (jB x14),(9,.bool false),jH 12 (jB x17),(14,.bool false),(23,.bool true)],[]),j3] [none] [] [] [4] .ret ((f44r2n0E a1 a2 a3 a4 (.ret false a2 a3 a4)).2) (ap4 h13 (ap4 (Qq h16) (ap4 (Qac h19) (ap4 (Qac h19) (ap (f49_ok a1 h15) (ap (f50_ok a1 h18) an)))))) rfl
  ·obtain rfl:=Qd h;exact rK Qf 2 [j3,(jF [6,7,8]++jT [11,12,13],[jH 7 (jB x14),(9,.bool false),(14,.bool true)],[]),j3] [none] [] [] [4] .ret ((f44r2n0E a1 a2 a3 a4 (.ret false a2 a3 a4)).2) (ap4 h13 (ap4 (Qac h16) (ap (f49_ok a1 h15) an))) rfl
noncomputable def f44r2(a1:Qa)(a2 a3:Int)(a4:List (Qe×Int)):Option (Bool×Int×Int×(List (Qe×Int))):=(f44r2n0 a1 a2 a3 a4).bind fun o=>match o with
 | .ret v55 v56 v57 v58=>some (v55,v56,v57,v58)
theorem f44r2_ok(a1:Qa)(a2 a3:Int)(a4:List (Qe×Int)) {r:Bool×Int×Int×(List (Qe×Int))} (h:f44r2 a1 a2 a3 a4=some r):Qm Try.prog true 44 [(.bp 0 0),(jA Qa.cells a1)] [some (.box 80 [(.mp 1),(jI a2),(jI a3)]),some (.map (a4.map (mkv (pAgg Qe.cells) (pInt .i64))))] (jB r.1) [some (.box 80 [(.mp 1),(jI r.2.1),(jI r.2.2.1)]),some (.map (r.2.2.2.map (mkv (pAgg Qe.cells) (pInt .i64))))]:=by
 unfold f44r2 at h;obtain ⟨o,ho,h⟩:=Qc h;cases o with
 | ret v55 v56 v57 v58 =>
  obtain rfl:=Qd h;exact Qm.shared Qf (f:=Try.f44) (c:=c44) (by kernel_rfl) (by kernel_rfl) (by kernel_rfl) ((f44r2n0_ok a1 a2 a3 a4 ho).mono fun r e=>by subst e; exact ⟨.inl rfl,by kernel_rfl,by kernel_rfl⟩)

noncomputable def c47:Code:=Try.f47.body.getD .skip
inductive f47r1n2O where
 | exit0 (v48:Int) (v49:Int) (v50:List (Qe×Int))
 | ret (v51:Int) (v52:Int) (v53:List (Qe×Int))
def f47r1n2E(ba1:Qh):f47r1n2O→Ex×Tr×Hp
 | .exit0 v48 v49 v50=>((.exit 0),mkS [(4,(.bp 0 0))],[some (.box 80 [(.mp 1),(jI v48),(jI v49)]),some (.map (v50.map (mkv (pAgg Qe.cells) (pInt .i64))))])
 | .ret v51 v52 v53=>(.ret,mkS [(2,(.bp 0 0)),(3,(jB false))],[some (.box 80 [(.mp 1),(jI v51),(jI v52)]),some (.map (v53.map (mkv (pAgg Qe.cells) (pInt .i64))))])
def f47r1n2S(ba1:Qh)(v32 v33 v34:Int)(v35:List (Qe×Int)):Tr×Hp:=(mkS [(4,(.bp 0 0)),(16,(jL 3 Qa.cells ba1.Records)),(17,(jI (ba1.Records.length:Int))),(18,(jI v32))],[some (.box 80 [(.mp 1),(jI v33),(jI v34)]),some (.map (v35.map (mkv (pAgg Qe.cells) (pInt .i64))))])
noncomputable def f47r1n2:Nat→Qh→Int→Int→Int→List (Qe×Int)→Option f47r1n2O
 | 0,_,_,_,_,_=>none
 | f+1,ba1,v32,v33,v34,v35 =>
  bif decide (v32<(ba1.Records.length:Int)) then
   (at? ba1.Records v32).bind fun x43 =>
   (f44r2 x43 v33 v34 v35).bind fun x45 =>
   bif x45.1 then
    (f47r1n2 f ba1 (wr64 (v32+1)) x45.2.1 x45.2.2.1 x45.2.2.2)
   else
    some (.ret x45.2.1 x45.2.2.1 x45.2.2.2)
  else
   some (.exit0 v33 v34 v35)
theorem f47r1n2_ok:∀(f:Nat)(ba1:Qh)(v32 v33 v34:Int)(v35:List (Qe×Int)){o:f47r1n2O},f47r1n2 f ba1 v32 v33 v34 v35=some o→TL Try.prog Try.f47.ntmps 0 f (cL (cL (Qk 1 (cL (Qk 3 c47))))) (f47r1n2S ba1 v32 v33 v34 v35) (·=f47r1n2E ba1 o)
 | 0,_,_,_,_,_,o,h=>by rw [f47r1n2] at h; cases h
 | f+1,ba1,v32,v33,v34,v35,o,h=>by
  rw [f47r1n2] at h;refine TL.body (K:=fun s=>∃v32:Int,∃v33:Int,∃v34:Int,∃v35:List (Qe×Int),s=(f47r1n2S ba1 v32 v33 v34 v35)∧f47r1n2 f ba1 v32 v33 v34 v35=some o) ?_ (by rintro _ ⟨v32,v33,v34,v35,rfl,hk⟩; exact f47r1n2_ok f _ _ _ _ _ hk);rcases Qg h with ⟨h37,h⟩|⟨h37,h⟩
  ·obtain ⟨x43,h44,h⟩:=Qc h;obtain ⟨x45,h46,h⟩:=Qc h;rcases Qg h with ⟨h47,h⟩|⟨h47,h⟩
   ·exact rE Qf [j3,([],[(0,.idx (Int.toNat v32) (Qa.cells x43))],[]),([],[(2,.call (jB x45.1) [some (.box 80 [(.mp 1),(jI x45.2.1),(jI x45.2.2.1)]),some (.map (x45.2.2.2.map (mkv (pAgg Qe.cells) (pInt .i64)))),none])],[]),j3] [some true,some false] [] [0,1] [4,16,17,18] (.norm,(f47r1n2S ba1 (wr64 (v32+1)) x45.2.1 x45.2.2.1 x45.2.2.2)) (ap h37 (ap (Qj h44).1 (ap (Qs Qa.cells (Qj h44).2) (ap (Qm.rn 3 [0,1] (f44r2_ok x43 v33 v34 v35 h46)) (ap (Qq h47) an))))) (Qt.norm ⟨(wr64 (v32+1)),x45.2.1,x45.2.2.1,x45.2.2.2,rfl,h⟩)
   ·obtain rfl:=Qd h;exact rK Qf 3 [j3,([],[(0,.idx (Int.toNat v32) (Qa.cells x43))],[]),([],[(2,.call (jB x45.1) [some (.box 80 [(.mp 1),(jI x45.2.1),(jI x45.2.2.1)]),some (.map (x45.2.2.2.map (mkv (pAgg Qe.cells) (pInt .i64)))),none])],[]),j3] [some true,some true] [] [0,1] [2,3] .ret ((f47r1n2E ba1 (.ret x45.2.1 x45.2.2.1 x45.2.2.2)).2) (ap h37 (ap (Qj h44).1 (ap (Qs Qa.cells (Qj h44).2) (ap (Qm.rn 3 [0,1] (f44r2_ok x43 v33 v34 v35 h46)) (ap (Qac h47) an))))) (Qt.out rfl rfl)
  ·obtain rfl:=Qd h;exact rK Qf 2 [j3] [some false] [] [0,1] [4] (.exit 0) ((f47r1n2E ba1 (.exit0 v33 v34 v35)).2) (ap h37 an) (Qt.out rfl rfl)
noncomputable def f47r1n2L(ba1:Qh):List Qa→Int→Int→Int→(List (Qe×Int))→Option f47r1n2O
 | [],v32,v33,v34,v35 =>
  some (.exit0 v33 v34 v35)
 | x0::rest,v32,v33,v34,v35 =>
  (f44r2 x0 v33 v34 v35).bind fun x45 =>
  bif x45.1 then
   (f47r1n2L ba1 rest (v32+1) x45.2.1 x45.2.2.1 x45.2.2.2)
  else
   some (.ret x45.2.1 x45.2.2.1 x45.2.2.2)
theorem f47r1n2L_eq(ba1:Qh):∀(rest:List Qa)(f k:Nat)(v33 v34:Int)(v35:List (Qe×Int)),ba1.Records.drop k=rest→ba1.Records.length≤maxLen→rest.length<f→f47r1n2 f ba1 (k:Int) v33 v34 v35=f47r1n2L ba1 rest (k:Int) v33 v34 v35
 | _,0,_,_,_,_,_,_,hf=>absurd hf (Nat.not_lt_zero _)
 | [],f+1,k,v33,v34,v35,hd,hm,hf=>by
  have hk:¬((k:Int)<(ba1.Records.length:Int)):=by have:=Qaj hd; omega
  rw [f47r1n2,f47r1n2L];simp only [decide_eq_false hk,cond_false]
 | x0::rest,f+1,k,v33,v34,v35,hd,hm,hf=>by
  obtain ⟨hx,hlt,hd'⟩:=Qx hd;have hk:(k:Int)<(ba1.Records.length:Int):=by omega
  have hw:wr64 ((k:Int)+1)=(k:Int)+1:=Qr (by omega) (by unfold maxLen at hm; omega);have ih:∀(v33 v34:Int)(v35:List (Qe×Int)),f47r1n2 f ba1 ((k:Int)+1) v33 v34 v35=f47r1n2L ba1 rest ((k:Int)+1) v33 v34 v35:=fun v33 v34 v35=>f47r1n2L_eq ba1 rest f (k+1) v33 v34 v35 hd' hm (by simpa using hf);rw [f47r1n2,f47r1n2L];simp only [decide_eq_true hk,cond_true,Qaq,hx,Option.bind_some,hw,ih]
theorem f47r1n2_run(ba1:Qh)(v33 v34:Int)(v35:List (Qe×Int))(hm:ba1.Records.length≤maxLen):f47r1n2 FUEL ba1 0 v33 v34 v35=f47r1n2L ba1 ba1.Records 0 v33 v34 v35:=f47r1n2L_eq ba1 ba1.Records FUEL 0 v33 v34 v35 List.drop_zero hm (Qao hm)
inductive f47r1n1O where
 | norm (v62:Int) (v63:Int) (v64:List (Qe×Int))
 | ret (v65:Int) (v66:Int) (v67:List (Qe×Int))
def f47r1n1E(ba1:Qh):f47r1n1O→Ex×Tr×Hp
 | .norm v62 v63 v64=>(.norm,mkS [(4,(.bp 0 0))],[some (.box 80 [(.mp 1),(jI v62),(jI v63)]),some (.map (v64.map (mkv (pAgg Qe.cells) (pInt .i64))))])
 | .ret v65 v66 v67=>(.ret,mkS [(2,(.bp 0 0)),(3,(jB false))],[some (.box 80 [(.mp 1),(jI v65),(jI v66)]),some (.map (v67.map (mkv (pAgg Qe.cells) (pInt .i64))))])
def f47r1n1S(ba1:Qh):Tr×Hp:=(mkS [(1,(.bp 0 0)),(4,(.bp 1 0))],[some (.box 24 ((Qh.cells ba1).map .pl)),some (.box 80 [(.mp 2),(jI 0),(jI 0)]),some (.map ([].map (mkv (pAgg Qe.cells) (pInt .i64))))])
noncomputable def f47r1n1(ba1:Qh):Option f47r1n1O :=
 (f47r1n2 FUEL ba1 0 0 0 []).bind fun o54=>match o54 with
 | .exit0 v56 v57 v58=>some (.norm v56 v57 v58)
 | .ret v59 v60 v61=>some (.ret v59 v60 v61)
theorem f47r1n1_ok(ba1:Qh){o:f47r1n1O}(h:f47r1n1 ba1=some o):T Try.prog Try.f47.ntmps 0 (cL (Qk 3 c47)) (f47r1n1S ba1) (·=f47r1n1E ba1 o):=by
 unfold f47r1n1 at h;refine rN Qf 1 [([],[],[(2,.val (jI (ba1.Records.length:Int)))])] [] [] [1,2] [4,16,17,18] (f47r1n2S ba1 0 0 0 []) (ap (Qn (xs:=ba1.Records) (c:=Qa.cells)) an) ?_;obtain ⟨o54,h55,h⟩:=Qc h;cases o54 with
 | exit0 v56 v57 v58 =>
  obtain rfl:=Qd h;exact T.last' (T.bl (i:=0) (by kernel_rfl) (by kernel_rfl) (f47r1n2_ok FUEL ba1 0 0 0 [] h55)) (tds:=[]) (m:=[0,1]) (keep:=[4]) (st2:=(f47r1n1E ba1 (.norm v56 v57 v58)).2) (by kernel_rfl) an rfl
 | ret v59 v60 v61 =>
  obtain rfl:=Qd h;exact T.last' (T.bl (i:=0) (by kernel_rfl) (by kernel_rfl) (f47r1n2_ok FUEL ba1 0 0 0 [] h55)) (tds:=[]) (m:=[0,1]) (keep:=[2,3]) (st2:=(f47r1n1E ba1 (.ret v59 v60 v61)).2) (by kernel_rfl) an rfl
inductive f47r1n0O where
 | ret (v76:Bool) (v77:Int) (v78:Int) (v79:List (Qe×Int))
def f47r1n0E(a1:Qh):f47r1n0O→Ex×Tr×Hp
 | .ret v76 v77 v78 v79=>(.ret,mkS [(2,(.bp 0 0)),(3,(jB v76))],[some (.box 80 [(.mp 1),(jI v77),(jI v78)]),some (.map (v79.map (mkv (pAgg Qe.cells) (pInt .i64))))])
def f47r1n0S(a1:Qh):Tr×Hp:=(Qai [(jA Qh.cells a1)] 0 .leaf,[])
noncomputable def f47r1n0(a1:Qh):Option f47r1n0O :=
 bif decide (200<(a1.Records.length:Int)) then
  some (.ret false 0 0 [])
 else
  (f47r1n1 a1).bind fun o68=>match o68 with
  | .norm v70 v71 v72=>some (.ret true v70 v71 v72)
  | .ret v73 v74 v75=>some (.ret false v73 v74 v75)
theorem f47r1n0_ok(a1:Qh){o:f47r1n0O}(h:f47r1n0 a1=some o):T Try.prog Try.f47.ntmps 0 c47 (f47r1n0S a1) (·=f47r1n0E a1 o):=by
 unfold f47r1n0 at h;rcases Qg h with ⟨h3,h⟩|⟨h3,h⟩
 ·obtain rfl:=Qd h;exact rK Qf 3 [j3,j3,([],[],[(2,.val (jI (a1.Records.length:Int)))]),j3] [some true] [] [2,1] [2,3] .ret ((f47r1n0E a1 (.ret false 0 0 [])).2) (ap (Qn (xs:=a1.Records) (c:=Qa.cells)) (ap h3 an)) rfl
 ·refine rN Qf 3 [j3,j3,([],[],[(2,.val (jI (a1.Records.length:Int)))])] [some false] [] [0,2,1] [1,4] (f47r1n1S a1) (ap (Qn (xs:=a1.Records) (c:=Qa.cells)) (ap h3 an)) ?_;obtain ⟨o68,h69,h⟩:=Qc h;cases o68 with
  | norm v70 v71 v72 =>
   refine T.oneN (by kernel_rfl) (f47r1n1_ok a1 h69) (st2:=(f47r1n1E a1 (.norm v70 v71 v72)).2) rfl ?_;obtain rfl:=Qd h;exact rE Qf [j3] [] [] [0,1] [2,3] (.ret,(f47r1n0E a1 (.ret true v70 v71 v72)).2) an rfl
  | ret v73 v74 v75 =>
   obtain rfl:=Qd h;exact T.oneX' (by kernel_rfl) (f47r1n1_ok a1 h69) (tds:=[]) (m:=[0,1]) (keep:=[2,3]) (st2:=(f47r1n0E a1 (.ret false v73 v74 v75)).2) (by kernel_rfl) an rfl rfl
noncomputable def f47r1(a1:Qh):Option (Bool×Int×Int×(List (Qe×Int))):=(f47r1n0 a1).bind fun o=>match o with
 | .ret v76 v77 v78 v79=>some (v76,v77,v78,v79)
theorem f47r1_ok(a1:Qh) {r:Bool×Int×Int×(List (Qe×Int))} (h:f47r1 a1=some r):Qm Try.prog true 47 [(jA Qh.cells a1)] [] (.tup [(.bp 0 0),(jB r.1)]) [some (.box 80 [(.mp 1),(jI r.2.1),(jI r.2.2.1)]),some (.map (r.2.2.2.map (mkv (pAgg Qe.cells) (pInt .i64))))]:=by
 unfold f47r1 at h;obtain ⟨o,ho,h⟩:=Qc h;cases o with
 | ret v76 v77 v78 v79 =>
  obtain rfl:=Qd h;exact Qm.shared Qf (f:=Try.f47) (c:=c47) (by kernel_rfl) (by kernel_rfl) (by kernel_rfl) ((f47r1n0_ok a1 ho).mono fun r e=>by subst e; exact ⟨.inl rfl,by kernel_rfl,by kernel_rfl⟩)
end Go.Proofs.Ytbgjlpdeoljmiaa
namespace Go.Proofs.Ytbgjlpdeoljmiaa
set_option linter.unusedVariables false
set_option linter.unusedSimpArgs false
set_option maxRecDepth 100000
open Go.RowKit
inductive f71r2n2O where
 | exit0
 | ret (v43:Int)
def f71r2n2E(bc1:List Qb)(bf2 bf3:Int)(bh4:List (Qe×Int)):f71r2n2O→Ex×Tr×Hp
 | .exit0=>((.exit 0),mkS [],[jR 3 Qb.cells bc1,some (.box 77 [(.bp 2 0)]),some (.box 80 [(.mp 3),(jI bf2),(jI bf3)]),some (.map (bh4.map (mkv (pAgg Qe.cells) (pInt .i64))))])
 | .ret v43=>(.ret,mkS [(4,(jI v43))],[jR 3 Qb.cells bc1,some (.box 77 [(.bp 2 0)]),some (.box 80 [(.mp 3),(jI bf2),(jI bf3)]),some (.map (bh4.map (mkv (pAgg Qe.cells) (pInt .i64))))])
def f71r2n2S(bc1:List Qb)(bf2 bf3:Int)(bh4:List (Qe×Int))(v30:Int):Tr×Hp:=(mkS [(0,(.own 0)),(1,(.clo 69 [(.bp 1 0)])),(7,(jI (bc1.length:Int))),(8,(jI v30))],[jR 3 Qb.cells bc1,some (.box 77 [(.bp 2 0)]),some (.box 80 [(.mp 3),(jI bf2),(jI bf3)]),some (.map (bh4.map (mkv (pAgg Qe.cells) (pInt .i64))))])
noncomputable def f71r2n2:Nat→List Qb→Int→Int→List (Qe×Int)→Int→Option f71r2n2O
 | 0,_,_,_,_,_=>none
 | f+1,bc1,bf2,bf3,bh4,v30 =>
  bif decide (v30<(bc1.length:Int)) then
   (at? bc1 v30).bind fun x38 =>
   (f69r1 x38 bf2 bf3 bh4).bind fun x40 =>
   bif x40 then
    some (.ret v30)
   else
    (f71r2n2 f bc1 bf2 bf3 bh4 (wr64 (v30+1)))
  else
   some .exit0
theorem f71r2n2_ok:∀(f:Nat)(bc1:List Qb)(bf2 bf3:Int)(bh4:List (Qe×Int))(v30:Int){o:f71r2n2O},f71r2n2 f bc1 bf2 bf3 bh4 v30=some o→TL Try.prog Try.f71.ntmps 4 f (cL (cL (Qk 1 (cL (Qk 1 c71))))) (f71r2n2S bc1 bf2 bf3 bh4 v30) (·=f71r2n2E bc1 bf2 bf3 bh4 o)
 | 0,_,_,_,_,_,o,h=>by rw [f71r2n2] at h; cases h
 | f+1,bc1,bf2,bf3,bh4,v30,o,h=>by
  rw [f71r2n2] at h;refine TL.body (K:=fun s=>∃v30:Int,s=(f71r2n2S bc1 bf2 bf3 bh4 v30)∧f71r2n2 f bc1 bf2 bf3 bh4 v30=some o) ?_ (by rintro _ ⟨v30,rfl,hk⟩; exact f71r2n2_ok f _ _ _ _ _ hk);rcases Qg h with ⟨h32,h⟩|⟨h32,h⟩
  ·obtain ⟨x38,h39,h⟩:=Qc h;obtain ⟨x40,h41,h⟩:=Qc h;rcases Qg h with ⟨h42,h⟩|⟨h42,h⟩
   ·obtain rfl:=Qd h;exact rK Qf 3 [j3,j3,([],[(3,.at_ (Int.toNat v30)),(4,.idx 0 (Qb.cells x38)),(5,.call (jB x40) [none,some (.box 77 [(.bp 2 0)]),some (.box 80 [(.mp 3),(jI bf2),(jI bf3)]),some (.map (bh4.map (mkv (pAgg Qe.cells) (pInt .i64))))])],[]),j3] [some true,some true] [] [] [4] .ret ((f71r2n2E bc1 bf2 bf3 bh4 (.ret v30)).2) (ap h32 (ap (Qj h39).1 (ap (lt_map Qb.cells (Qj h39).2) (ap (Qs Qb.cells (Qj h39).2) (ap (Qm.rn 4 [1,2,3] (f69r1_ok x38 bf2 bf3 bh4 h41)) (ap h42 an)))))) (Qt.out rfl rfl)
   ·exact rE Qf [j3,j3,([],[(3,.at_ (Int.toNat v30)),(4,.idx 0 (Qb.cells x38)),(5,.call (jB x40) [none,some (.box 77 [(.bp 2 0)]),some (.box 80 [(.mp 3),(jI bf2),(jI bf3)]),some (.map (bh4.map (mkv (pAgg Qe.cells) (pInt .i64))))])],[]),j3] [some true,some false] [] [] [0,1,7,8] (.norm,(f71r2n2S bc1 bf2 bf3 bh4 (wr64 (v30+1)))) (ap h32 (ap (Qj h39).1 (ap (lt_map Qb.cells (Qj h39).2) (ap (Qs Qb.cells (Qj h39).2) (ap (Qm.rn 4 [1,2,3] (f69r1_ok x38 bf2 bf3 bh4 h41)) (ap h42 an)))))) (Qt.norm ⟨(wr64 (v30+1)),rfl,h⟩)
  ·obtain rfl:=Qd h;exact rK Qf 2 [j3] [some false] [] [] [] (.exit 0) ((f71r2n2E bc1 bf2 bf3 bh4 .exit0).2) (ap h32 an) (Qt.out rfl rfl)
noncomputable def f71r2n2L(bc1:List Qb)(bf2 bf3:Int)(bh4:List (Qe×Int)):List Qb→Int→Option f71r2n2O
 | [],v30 =>
  some .exit0
 | x0::rest,v30 =>
  (f69r1 x0 bf2 bf3 bh4).bind fun x40 =>
  bif x40 then
   some (.ret v30)
  else
   (f71r2n2L bc1 bf2 bf3 bh4 rest (v30+1))
theorem f71r2n2L_eq(bc1:List Qb)(bf2 bf3:Int)(bh4:List (Qe×Int)):∀(rest:List Qb)(f k:Nat),bc1.drop k=rest→bc1.length≤maxLen→rest.length<f→f71r2n2 f bc1 bf2 bf3 bh4 (k:Int)=f71r2n2L bc1 bf2 bf3 bh4 rest (k:Int)
 | _,0,_,_,_,hf=>absurd hf (Nat.not_lt_zero _)
 | [],f+1,k,hd,hm,hf=>by
  have hk:¬((k:Int)<(bc1.length:Int)):=by have:=Qaj hd; omega
  rw [f71r2n2,f71r2n2L];simp only [decide_eq_false hk,cond_false]
 | x0::rest,f+1,k,hd,hm,hf=>by
  obtain ⟨hx,hlt,hd'⟩:=Qx hd;have hk:(k:Int)<(bc1.length:Int):=by omega
  have hw:wr64 ((k:Int)+1)=(k:Int)+1:=Qr (by omega) (by unfold maxLen at hm; omega);have ih:f71r2n2 f bc1 bf2 bf3 bh4 ((k:Int)+1)=f71r2n2L bc1 bf2 bf3 bh4 rest ((k:Int)+1):=f71r2n2L_eq bc1 bf2 bf3 bh4 rest f (k+1) hd' hm (by simpa using hf);rw [f71r2n2,f71r2n2L];simp only [decide_eq_true hk,cond_true,Qaq,hx,Option.bind_some,hw,ih]
theorem f71r2n2_run(bc1:List Qb)(bf2 bf3:Int)(bh4:List (Qe×Int))(hm:bc1.length≤maxLen):f71r2n2 FUEL bc1 bf2 bf3 bh4 0=f71r2n2L bc1 bf2 bf3 bh4 bc1 0:=f71r2n2L_eq bc1 bf2 bf3 bh4 bc1 FUEL 0 List.drop_zero hm (Qao hm)
inductive f71r2n1O where
 | norm
 | ret (v47:Int)
def f71r2n1E(bc1:List Qb)(bf2 bf3:Int)(bh4:List (Qe×Int)):f71r2n1O→Ex×Tr×Hp
 | .norm=>(.norm,mkS [],[jR 3 Qb.cells bc1,some (.box 77 [(.bp 2 0)]),some (.box 80 [(.mp 3),(jI bf2),(jI bf3)]),some (.map (bh4.map (mkv (pAgg Qe.cells) (pInt .i64))))])
 | .ret v47=>(.ret,mkS [(4,(jI v47))],[jR 3 Qb.cells bc1,some (.box 77 [(.bp 2 0)]),some (.box 80 [(.mp 3),(jI bf2),(jI bf3)]),some (.map (bh4.map (mkv (pAgg Qe.cells) (pInt .i64))))])
def f71r2n1S(bc1:List Qb)(bf2 bf3:Int)(bh4:List (Qe×Int)):Tr×Hp:=(mkS [(0,(.own 0)),(1,(.clo 69 [(.bp 1 0)]))],[jR 3 Qb.cells bc1,some (.box 77 [(.bp 2 0)]),some (.box 80 [(.mp 3),(jI bf2),(jI bf3)]),some (.map (bh4.map (mkv (pAgg Qe.cells) (pInt .i64))))])
noncomputable def f71r2n1(bc1:List Qb)(bf2 bf3:Int)(bh4:List (Qe×Int)):Option f71r2n1O :=
 (f71r2n2 FUEL bc1 bf2 bf3 bh4 0).bind fun o44=>match o44 with
 | .exit0=>some .norm
 | .ret v46=>some (.ret v46)
theorem f71r2n1_ok(bc1:List Qb)(bf2 bf3:Int)(bh4:List (Qe×Int)){o:f71r2n1O}(h:f71r2n1 bc1 bf2 bf3 bh4=some o):T Try.prog Try.f71.ntmps 4 (cL (Qk 1 c71)) (f71r2n1S bc1 bf2 bf3 bh4) (·=f71r2n1E bc1 bf2 bf3 bh4 o):=by
 unfold f71r2n1 at h;refine rN Qf 1 [([],[],[(1,.val (jI (bc1.length:Int)))])] [] [] [] [0,1,7,8] (f71r2n2S bc1 bf2 bf3 bh4 0) (ap (Qn (xs:=bc1) (c:=Qb.cells)) an) ?_;obtain ⟨o44,h45,h⟩:=Qc h;cases o44 with
 | exit0 =>
  obtain rfl:=Qd h;exact T.last' (T.bl (i:=0) (by kernel_rfl) (by kernel_rfl) (f71r2n2_ok FUEL bc1 bf2 bf3 bh4 0 h45)) (tds:=[]) (m:=[]) (keep:=[]) (st2:=(f71r2n1E bc1 bf2 bf3 bh4 .norm).2) (by kernel_rfl) an rfl
 | ret v46 =>
  obtain rfl:=Qd h;exact T.last' (T.bl (i:=0) (by kernel_rfl) (by kernel_rfl) (f71r2n2_ok FUEL bc1 bf2 bf3 bh4 0 h45)) (tds:=[]) (m:=[]) (keep:=[4]) (st2:=(f71r2n1E bc1 bf2 bf3 bh4 (.ret v46)).2) (by kernel_rfl) an rfl
inductive f71r2n0O where
 | ret (v51:Int)
def f71r2n0E(a1:List Qb)(a2 a3:Int)(a4:List (Qe×Int)):f71r2n0O→Ex×Tr×Hp
 | .ret v51=>(.ret,mkS [(4,(jI v51))],[jR 3 Qb.cells a1,some (.box 77 [(.bp 2 0)]),some (.box 80 [(.mp 3),(jI a2),(jI a3)]),some (.map (a4.map (mkv (pAgg Qe.cells) (pInt .i64))))])
def f71r2n0S(a1:List Qb)(a2 a3:Int)(a4:List (Qe×Int)):Tr×Hp:=(Qai [(.own 0),(.clo 69 [(.bp 1 0)])] 0 .leaf,[jR 3 Qb.cells a1,some (.box 77 [(.bp 2 0)]),some (.box 80 [(.mp 3),(jI a2),(jI a3)]),some (.map (a4.map (mkv (pAgg Qe.cells) (pInt .i64))))])
noncomputable def f71r2n0(a1:List Qb)(a2 a3:Int)(a4:List (Qe×Int)):Option f71r2n0O :=
 (f71r2n1 a1 a2 a3 a4).bind fun o48=>match o48 with
 | .norm=>some (.ret (-1))
 | .ret v50=>some (.ret v50)
theorem f71r2n0_ok(a1:List Qb)(a2 a3:Int)(a4:List (Qe×Int)){o:f71r2n0O}(h:f71r2n0 a1 a2 a3 a4=some o):T Try.prog Try.f71.ntmps 4 c71 (f71r2n0S a1 a2 a3 a4) (·=f71r2n0E a1 a2 a3 a4 o):=by
 unfold f71r2n0 at h;refine rN Qf 1 [j3] [] [] [] [0,1] (f71r2n1S a1 a2 a3 a4) an ?_;obtain ⟨o48,h49,h⟩:=Qc h;cases o48 with
 | norm =>
  refine T.oneN (by kernel_rfl) (f71r2n1_ok a1 a2 a3 a4 h49) (st2:=(f71r2n1E a1 a2 a3 a4 .norm).2) rfl ?_;obtain rfl:=Qd h;exact rE Qf [j3] [] [] [] [4] (.ret,(f71r2n0E a1 a2 a3 a4 (.ret (-1))).2) an rfl
 | ret v50 =>
  obtain rfl:=Qd h;exact T.oneX' (by kernel_rfl) (f71r2n1_ok a1 a2 a3 a4 h49) (tds:=[]) (m:=[]) (keep:=[4]) (st2:=(f71r2n0E a1 a2 a3 a4 (.ret v50)).2) (by kernel_rfl) an rfl rfl
noncomputable def f71r2(a1:List Qb)(a2 a3:Int)(a4:List (Qe×Int)):Option Int:=(f71r2n0 a1 a2 a3 a4).bind fun o=>match o with
 | .ret v51=>some v51
theorem f71r2_ok(a1:List Qb)(a2 a3:Int)(a4:List (Qe×Int)){r:Int}(h:f71r2 a1 a2 a3 a4=some r):Qm Try.prog true 71 [(.own 0),(.clo 69 [(.bp 1 0)])] [jR 3 Qb.cells a1,some (.box 77 [(.bp 2 0)]),some (.box 80 [(.mp 3),(jI a2),(jI a3)]),some (.map (a4.map (mkv (pAgg Qe.cells) (pInt .i64))))] (jI r) [jR 3 Qb.cells a1,some (.box 77 [(.bp 2 0)]),some (.box 80 [(.mp 3),(jI a2),(jI a3)]),some (.map (a4.map (mkv (pAgg Qe.cells) (pInt .i64))))]:=by
 unfold f71r2 at h;obtain ⟨o,ho,h⟩:=Qc h;cases o with
 | ret v51 =>
  obtain rfl:=Qd h;exact Qm.shared Qf (f:=Try.f71) (c:=c71) (by kernel_rfl) (by kernel_rfl) (by kernel_rfl) ((f71r2n0_ok a1 a2 a3 a4 ho).mono fun r e=>by subst e; exact ⟨.inl rfl,by kernel_rfl,by kernel_rfl⟩)

inductive f66r2n0O where
 | ret (v9:Bool)
def f66r2n0E(a1:List Qb)(a2 a3:Int)(a4:List (Qe×Int)):f66r2n0O→Ex×Tr×Hp
 | .ret v9=>(.ret,mkS [(4,(jB v9))],[jR 3 Qb.cells a1,some (.box 77 [(.bp 2 0)]),some (.box 80 [(.mp 3),(jI a2),(jI a3)]),some (.map (a4.map (mkv (pAgg Qe.cells) (pInt .i64))))])
def f66r2n0S(a1:List Qb)(a2 a3:Int)(a4:List (Qe×Int)):Tr×Hp:=(Qai [(.own 0),(.clo 69 [(.bp 1 0)])] 0 .leaf,[jR 3 Qb.cells a1,some (.box 77 [(.bp 2 0)]),some (.box 80 [(.mp 3),(jI a2),(jI a3)]),some (.map (a4.map (mkv (pAgg Qe.cells) (pInt .i64))))])
noncomputable def f66r2n0(a1:List Qb)(a2 a3:Int)(a4:List (Qe×Int)):Option f66r2n0O :=
 (f71r2 a1 a2 a3 a4).bind fun x7 =>
 some (.ret (decide (0≤x7)))
theorem f66r2n0_ok(a1:List Qb)(a2 a3:Int)(a4:List (Qe×Int)){o:f66r2n0O}(h:f66r2n0 a1 a2 a3 a4=some o):T Try.prog Try.f66.ntmps 4 c66 (f66r2n0S a1 a2 a3 a4) (·=f66r2n0E a1 a2 a3 a4 o):=by
 unfold f66r2n0 at h;obtain ⟨x7,h8,h⟩:=Qc h;obtain rfl:=Qd h;exact rE Qf [j3,([],[(2,.call (jI x7) [jR 3 Qb.cells a1,some (.box 77 [(.bp 2 0)]),some (.box 80 [(.mp 3),(jI a2),(jI a3)]),some (.map (a4.map (mkv (pAgg Qe.cells) (pInt .i64))))])],[])] [] [] [] [4] (.ret,(f66r2n0E a1 a2 a3 a4 (.ret (decide (0≤x7)))).2) (ap (f71r2_ok a1 a2 a3 a4 h8) an) rfl
noncomputable def f66r2(a1:List Qb)(a2 a3:Int)(a4:List (Qe×Int)):Option Bool:=(f66r2n0 a1 a2 a3 a4).bind fun o=>match o with
 | .ret v9=>some v9
theorem f66r2_ok(a1:List Qb)(a2 a3:Int)(a4:List (Qe×Int)){r:Bool}(h:f66r2 a1 a2 a3 a4=some r):Qm Try.prog true 66 [(.own 0),(.clo 69 [(.bp 1 0)])] [jR 3 Qb.cells a1,some (.box 77 [(.bp 2 0)]),some (.box 80 [(.mp 3),(jI a2),(jI a3)]),some (.map (a4.map (mkv (pAgg Qe.cells) (pInt .i64))))] (jB r) [jR 3 Qb.cells a1,some (.box 77 [(.bp 2 0)]),some (.box 80 [(.mp 3),(jI a2),(jI a3)]),some (.map (a4.map (mkv (pAgg Qe.cells) (pInt .i64))))]:=by
 unfold f66r2 at h;obtain ⟨o,ho,h⟩:=Qc h;cases o with
 | ret v9 =>
  obtain rfl:=Qd h;exact Qm.shared Qf (f:=Try.f66) (c:=c66) (by kernel_rfl) (by kernel_rfl) (by kernel_rfl) ((f66r2n0_ok a1 a2 a3 a4 ho).mono fun r e=>by subst e; exact ⟨.inl rfl,by kernel_rfl,by kernel_rfl⟩)

inductive f61r2n0O where
 | ret (v10:Bool)
def f61r2n0E(a1:Int)(a2:ByteArray)(a3:Int)(a4:List Qb)(a5:List (Qe×Int)):f61r2n0O→Ex×Tr×Hp
 | .ret v10=>(.ret,mkS [(4,(jB v10))],[some (.box 80 [(.mp 2),(jI a1),(jI a3)]),jR 3 Qb.cells a4,some (.map (a5.map (mkv (pAgg Qe.cells) (pInt .i64))))])
def f61r2n0S(a1:Int)(a2:ByteArray)(a3:Int)(a4:List Qb)(a5:List (Qe×Int)):Tr×Hp:=(Qai [(.bp 0 0),(.agg [(jI a1),(jS a2),(.own 1)])] 0 .leaf,[some (.box 80 [(.mp 2),(jI a1),(jI a3)]),jR 3 Qb.cells a4,some (.map (a5.map (mkv (pAgg Qe.cells) (pInt .i64))))])
noncomputable def f61r2n0(a1:Int)(a2:ByteArray)(a3:Int)(a4:List Qb)(a5:List (Qe×Int)):Option f61r2n0O :=
 (f66r2 a4 a1 a3 a5).bind fun x8 =>
 some (.ret (!x8))
theorem f61r2n0_ok(a1:Int)(a2:ByteArray)(a3:Int)(a4:List Qb)(a5:List (Qe×Int)){o:f61r2n0O}(h:f61r2n0 a1 a2 a3 a4 a5=some o):T Try.prog Try.f61.ntmps 3 c61 (f61r2n0S a1 a2 a3 a4 a5) (·=f61r2n0E a1 a2 a3 a4 a5 o):=by
 unfold f61r2n0 at h;obtain ⟨x8,h9,h⟩:=Qc h;obtain rfl:=Qd h;exact rE Qf [j3,([],[(3,.call (jB x8) [some (.box 80 [(.mp 2),(jI a1),(jI a3)]),jR 3 Qb.cells a4,some (.map (a5.map (mkv (pAgg Qe.cells) (pInt .i64)))),some (.box 77 [(.bp 0 0)]),none])],[])] [] [] [] [4] (.ret,(f61r2n0E a1 a2 a3 a4 a5 (.ret (!x8))).2) (ap (Qm.rn 5 [1,3,0,2] (f66r2_ok a4 a1 a3 a5 h9)) an) rfl
noncomputable def f61r2(a1:Int)(a2:ByteArray)(a3:Int)(a4:List Qb)(a5:List (Qe×Int)):Option Bool:=(f61r2n0 a1 a2 a3 a4 a5).bind fun o=>match o with
 | .ret v10=>some v10
theorem f61r2_ok(a1:Int)(a2:ByteArray)(a3:Int)(a4:List Qb)(a5:List (Qe×Int)){r:Bool}(h:f61r2 a1 a2 a3 a4 a5=some r):Qm Try.prog true 61 [(.bp 0 0),(.agg [(jI a1),(jS a2),(.own 1)])] [some (.box 80 [(.mp 2),(jI a1),(jI a3)]),jR 3 Qb.cells a4,some (.map (a5.map (mkv (pAgg Qe.cells) (pInt .i64))))] (jB r) [some (.box 80 [(.mp 2),(jI a1),(jI a3)]),jR 3 Qb.cells a4,some (.map (a5.map (mkv (pAgg Qe.cells) (pInt .i64))))]:=by
 unfold f61r2 at h;obtain ⟨o,ho,h⟩:=Qc h;cases o with
 | ret v10 =>
  obtain rfl:=Qd h;exact Qm.shared Qf (f:=Try.f61) (c:=c61) (by kernel_rfl) (by kernel_rfl) (by kernel_rfl) ((f61r2n0_ok a1 a2 a3 a4 a5 ho).mono fun r e=>by subst e; exact ⟨.inl rfl,by kernel_rfl,by kernel_rfl⟩)

inductive f44r3n2O where
 | exit0 (v45:List (Qe×Int))
def f44r3n2E(bc3:List Qb)(bf1 bf2 bf5:Int)(bd6:ByteArray):f44r3n2O→Ex×Tr×Hp
 | .exit0 v45=>((.exit 0),mkS [(0,(.bp 0 0)),(3,(.bp 3 0))],[some (.box 80 [(.mp 2),(jI bf1),(jI bf2)]),jR 3 Qb.cells bc3,some (.map (v45.map (mkv (pAgg Qe.cells) (pInt .i64)))),some (.box 47 [(jI bf5),(jS bd6),(.own 1)])])
def f44r3n2S(bc3:List Qb)(bf1 bf2 bf5:Int)(bd6:ByteArray)(v37:Int)(v38:List (Qe×Int)):Tr×Hp:=(mkS [(0,(.bp 0 0)),(3,(.bp 3 0)),(32,(.own 1)),(33,(jI (bc3.length:Int))),(34,(jI v37))],[some (.box 80 [(.mp 2),(jI bf1),(jI bf2)]),jR 3 Qb.cells bc3,some (.map (v38.map (mkv (pAgg Qe.cells) (pInt .i64)))),some (.box 47 [(jI bf5),(jS bd6),(.own 1)])])
noncomputable def f44r3n2:Nat→List Qb→Int→Int→Int→ByteArray→Int→List (Qe×Int)→Option f44r3n2O
 | 0,_,_,_,_,_,_,_=>none
 | f+1,bc3,bf1,bf2,bf5,bd6,v37,v38 =>
  bif decide (v37<(bc3.length:Int)) then
   (at? bc3 v37).bind fun x43 =>
   (f44r3n2 f bc3 bf1 bf2 bf5 bd6 (wr64 (v37+1)) (mPut Qe.eqb (Qe.mk x43.Account x43.Ccy) (wr64 ((mGet Qe.eqb 0 (Qe.mk x43.Account x43.Ccy) v38)+x43.Amount)) v38))
  else
   some (.exit0 v38)
theorem f44r3n2_ok:∀(f:Nat)(bc3:List Qb)(bf1 bf2 bf5:Int)(bd6:ByteArray)(v37:Int)(v38:List (Qe×Int)){o:f44r3n2O},f44r3n2 f bc3 bf1 bf2 bf5 bd6 v37 v38=some o→TL Try.prog Try.f44.ntmps 3 f (cL (cL (Qk 1 (cL (Qk 0 (Qk 2 c44)))))) (f44r3n2S bc3 bf1 bf2 bf5 bd6 v37 v38) (·=f44r3n2E bc3 bf1 bf2 bf5 bd6 o)
 | 0,_,_,_,_,_,_,_,o,h=>by rw [f44r3n2] at h; cases h
 | f+1,bc3,bf1,bf2,bf5,bd6,v37,v38,o,h=>by
  rw [f44r3n2] at h;refine TL.body (K:=fun s=>∃v37:Int,∃v38:List (Qe×Int),s=(f44r3n2S bc3 bf1 bf2 bf5 bd6 v37 v38)∧f44r3n2 f bc3 bf1 bf2 bf5 bd6 v37 v38=some o) ?_ (by rintro _ ⟨v37,v38,rfl,hk⟩; exact f44r3n2_ok f _ _ _ _ _ _ _ hk);rcases Qg h with ⟨h40,h⟩|⟨h40,h⟩
  ·obtain ⟨x43,h44,h⟩:=Qc h
   exact rE Qf [j3,([],[(0,.at_ (Int.toNat v37)),(1,.idx 0 (Qb.cells x43))],[]),([],[(9,.look ((pInt .i64) (mGet Qe.eqb 0 (Qe.mk x43.Account x43.Ccy) v38)) (mHas Qe.eqb (Qe.mk x43.Account x43.Ccy) v38)),(13,.ment ((pInt .i64) (mGet Qe.eqb 0 (Qe.mk x43.Account x43.Ccy) v38)) (mIdx Qe.eqb (Qe.mk x43.Account x43.Ccy) v38) ((mEns Qe.eqb 0 (Qe.mk x43.Account x43.Ccy) v38).map (mkv (pAgg Qe.cells) (pInt .i64)))),(15,.mst (mIdx Qe.eqb (Qe.mk x43.Account x43.Ccy) v38) ((pAgg Qe.cells) (Qe.mk x43.Account x43.Ccy)) ((pInt .i64) (mGet Qe.eqb 0 (Qe.mk x43.Account x43.Ccy) v38)))],[(15,.map 2 ((mPut Qe.eqb (Qe.mk x43.Account x43.Ccy) (wr64 ((mGet Qe.eqb 0 (Qe.mk x43.Account x43.Ccy) v38)+x43.Amount)) v38).map (mkv (pAgg Qe.cells) (pInt .i64))))]),j3] [some true] [] [3] [0,3,32,33,34] (.norm,(f44r3n2S bc3 bf1 bf2 bf5 bd6 (wr64 (v37+1)) (mPut Qe.eqb (Qe.mk x43.Account x43.Ccy) (wr64 ((mGet Qe.eqb 0 (Qe.mk x43.Account x43.Ccy) v38)+x43.Amount)) v38))) (ap h40 (ap (Qj h44).1 (ap (lt_map Qb.cells (Qj h44).2) (ap (Qs Qb.cells (Qj h44).2) (ap (look_map (vp:=(pInt .i64)) (e:=3) key_95 0 (by kernel_rfl) (Qe.mk x43.Account x43.Ccy) v38) (ap (ment_map (vp:=(pInt .i64)) (e:=3) key_95 0 (by kernel_rfl) (Qe.mk x43.Account x43.Ccy) v38) (ap (rfl:((mIdx Qe.eqb (Qe.mk x43.Account x43.Ccy) v38):Int)=(((mIdx Qe.eqb (Qe.mk x43.Account x43.Ccy) v38):Nat):Int)) (ap (mst_at (vp:=(pInt .i64)) key_95 0 (Qe.mk x43.Account x43.Ccy) v38) (ap (mst_put (vp:=(pInt .i64)) key_95 0 (wr64 ((mGet Qe.eqb 0 (Qe.mk x43.Account x43.Ccy) v38)+x43.Amount)) (Qe.mk x43.Account x43.Ccy) v38) an))))))))) (Qt.norm ⟨(wr64 (v37+1)),(mPut Qe.eqb (Qe.mk x43.Account x43.Ccy) (wr64 ((mGet Qe.eqb 0 (Qe.mk x43.Account x43.Ccy) v38)+x43.Amount)) v38),rfl,h⟩)
  ·obtain rfl:=Qd h;exact rK Qf 2 [j3] [some false] [] [3] [0,3] (.exit 0) ((f44r3n2E bc3 bf1 bf2 bf5 bd6 (.exit0 v38)).2) (ap h40 an) (Qt.out rfl rfl)
noncomputable def f44r3n2L(bc3:List Qb)(bf1 bf2 bf5:Int)(bd6:ByteArray):List Qb→Int→(List (Qe×Int))→Option f44r3n2O
 | [],v37,v38 =>
  some (.exit0 v38)
 | x0::rest,v37,v38 =>
  (f44r3n2L bc3 bf1 bf2 bf5 bd6 rest (v37+1) (mPut Qe.eqb (Qe.mk x0.Account x0.Ccy) (wr64 ((mGet Qe.eqb 0 (Qe.mk x0.Account x0.Ccy) v38)+x0.Amount)) v38))
theorem f44r3n2L_eq(bc3:List Qb)(bf1 bf2 bf5:Int)(bd6:ByteArray):∀(rest:List Qb)(f k:Nat)(v38:List (Qe×Int)),bc3.drop k=rest→bc3.length≤maxLen→rest.length<f→f44r3n2 f bc3 bf1 bf2 bf5 bd6 (k:Int) v38=f44r3n2L bc3 bf1 bf2 bf5 bd6 rest (k:Int) v38
 | _,0,_,_,_,_,hf=>absurd hf (Nat.not_lt_zero _)
 | [],f+1,k,v38,hd,hm,hf=>by
  have hk:¬((k:Int)<(bc3.length:Int)):=by have:=Qaj hd; omega
  rw [f44r3n2,f44r3n2L];simp only [decide_eq_false hk,cond_false]
 | x0::rest,f+1,k,v38,hd,hm,hf=>by
  obtain ⟨hx,hlt,hd'⟩:=Qx hd;have hk:(k:Int)<(bc3.length:Int):=by omega
  have hw:wr64 ((k:Int)+1)=(k:Int)+1:=Qr (by omega) (by unfold maxLen at hm; omega);have ih:∀(v38:List (Qe×Int)),f44r3n2 f bc3 bf1 bf2 bf5 bd6 ((k:Int)+1) v38=f44r3n2L bc3 bf1 bf2 bf5 bd6 rest ((k:Int)+1) v38:=fun v38=>f44r3n2L_eq bc3 bf1 bf2 bf5 bd6 rest f (k+1) v38 hd' hm (by simpa using hf);rw [f44r3n2,f44r3n2L];simp only [decide_eq_true hk,cond_true,Qaq,hx,Option.bind_some,hw,ih]
theorem f44r3n2_run(bc3:List Qb)(bf1 bf2 bf5:Int)(bd6:ByteArray)(v38:List (Qe×Int))(hm:bc3.length≤maxLen):f44r3n2 FUEL bc3 bf1 bf2 bf5 bd6 0 v38=f44r3n2L bc3 bf1 bf2 bf5 bd6 bc3 0 v38:=f44r3n2L_eq bc3 bf1 bf2 bf5 bd6 bc3 FUEL 0 v38 List.drop_zero hm (Qao hm)
inductive f44r3n1O where
 | norm (v49:List (Qe×Int))
def f44r3n1E(bf1 bf2:Int)(bc3:List Qb)(bh4:List (Qe×Int))(bf5:Int)(bd6:ByteArray):f44r3n1O→Ex×Tr×Hp
 | .norm v49=>(.norm,mkS [(0,(.bp 0 0)),(3,(.bp 3 0))],[some (.box 80 [(.mp 2),(jI bf1),(jI bf2)]),jR 3 Qb.cells bc3,some (.map (v49.map (mkv (pAgg Qe.cells) (pInt .i64)))),some (.box 47 [(jI bf5),(jS bd6),(.own 1)])])
def f44r3n1S(bf1 bf2:Int)(bc3:List Qb)(bh4:List (Qe×Int))(bf5:Int)(bd6:ByteArray):Tr×Hp:=(mkS [(0,(.bp 0 0)),(3,(.bp 3 0))],[some (.box 80 [(.mp 2),(jI bf1),(jI bf2)]),jR 3 Qb.cells bc3,some (.map (bh4.map (mkv (pAgg Qe.cells) (pInt .i64)))),some (.box 47 [(jI bf5),(jS bd6),(.own 1)])])
noncomputable def f44r3n1(bf1 bf2:Int)(bc3:List Qb)(bh4:List (Qe×Int))(bf5:Int)(bd6:ByteArray):Option f44r3n1O :=
 (f44r3n2 FUEL bc3 bf1 bf2 bf5 bd6 0 bh4).bind fun o46=>match o46 with
 | .exit0 v48=>some (.norm v48)
theorem f44r3n1_ok(bf1 bf2:Int)(bc3:List Qb)(bh4:List (Qe×Int))(bf5:Int)(bd6:ByteArray){o:f44r3n1O}(h:f44r3n1 bf1 bf2 bc3 bh4 bf5 bd6=some o):T Try.prog Try.f44.ntmps 3 (cL (Qk 0 (Qk 2 c44))) (f44r3n1S bf1 bf2 bc3 bh4 bf5 bd6) (·=f44r3n1E bf1 bf2 bc3 bh4 bf5 bd6 o):=by
 unfold f44r3n1 at h;refine rN Qf 1 [([],[],[(2,.val (jI (bc3.length:Int)))])] [] [] [3] [0,3,32,33,34] (f44r3n2S bc3 bf1 bf2 bf5 bd6 0 bh4) (ap (Qn (xs:=bc3) (c:=Qb.cells)) an) ?_;obtain ⟨o46,h47,h⟩:=Qc h;cases o46 with
 | exit0 v48 =>
  obtain rfl:=Qd h;exact T.last' (T.bl (i:=0) (by kernel_rfl) (by kernel_rfl) (f44r3n2_ok FUEL bc3 bf1 bf2 bf5 bd6 0 bh4 h47)) (tds:=[]) (m:=[3]) (keep:=[0,3]) (st2:=(f44r3n1E bf1 bf2 bc3 bh4 bf5 bd6 (.norm v48)).2) (by kernel_rfl) an rfl
inductive f44r3n0O where
 | ret (v57:Bool) (v58:Int) (v59:Int) (v60:List (Qe×Int))
def f44r3n0E(a1:Int)(a2:ByteArray)(a3 a4:Int)(a5:List Qb)(a6:List (Qe×Int)):f44r3n0O→Ex×Tr×Hp
 | .ret v57 v58 v59 v60=>(.ret,mkS [(4,(jB v57))],[some (.box 80 [(.mp 2),(jI v58),(jI v59)]),jR 3 Qb.cells a5,some (.map (v60.map (mkv (pAgg Qe.cells) (pInt .i64))))])
def f44r3n0S(a1:Int)(a2:ByteArray)(a3 a4:Int)(a5:List Qb)(a6:List (Qe×Int)):Tr×Hp:=(Qai [(.bp 0 0),(.agg [(jI a1),(jS a2),(.own 1)])] 0 .leaf,[some (.box 80 [(.mp 2),(jI a3),(jI a4)]),jR 3 Qb.cells a5,some (.map (a6.map (mkv (pAgg Qe.cells) (pInt .i64))))])
noncomputable def f44r3n0(a1:Int)(a2:ByteArray)(a3 a4:Int)(a5:List Qb)(a6:List (Qe×Int)):Option f44r3n0O :=
 bif decide (a4=200) then
  some (.ret false a3 a4 a6)
 else
  (f49 (Qa.mk a1 a2 a5)).bind fun x16 =>
  bif x16 then
   (f50 (Qa.mk a1 a2 a5)).bind fun x19 =>
   bif x19 then
    bif decide (a1<a3) then
     some (.ret false a3 a4 a6)
    else
     (f44r3n1 a3 a4 a5 a6 a1 a2).bind fun o50=>match o50 with
     | .norm v52=>(f61r2 a1 a2 (wr64 (a4+1)) a5 v52).bind fun x55 =>
      some (.ret x55 a1 (wr64 (a4+1)) v52)
   else
    some (.ret false a3 a4 a6)
  else
   some (.ret false a3 a4 a6)
theorem f44r3n0_ok(a1:Int)(a2:ByteArray)(a3 a4:Int)(a5:List Qb)(a6:List (Qe×Int)){o:f44r3n0O}(h:f44r3n0 a1 a2 a3 a4 a5 a6=some o):T Try.prog Try.f44.ntmps 3 c44 (f44r3n0S a1 a2 a3 a4 a5 a6) (·=f44r3n0E a1 a2 a3 a4 a5 a6 o):=by
 unfold f44r3n0 at h;rcases Qg h with ⟨h15,h⟩|⟨h15,h⟩
 ·obtain rfl:=Qd h;exact rK Qf 2 [j3,(jT [6,7,8],[(9,.bool true)],[]),j3] [none] [] [] [4] .ret ((f44r3n0E a1 a2 a3 a4 a5 a6 (.ret false a3 a4 a6)).2) (ap4 h15 an) rfl
 ·obtain ⟨x16,h17,h⟩:=Qc h;rcases Qg h with ⟨h18,h⟩|⟨h18,h⟩
  ·obtain ⟨x19,h20,h⟩:=Qc h;rcases Qg h with ⟨h21,h⟩|⟨h21,h⟩
   ·rcases Qg h with ⟨h22,h⟩|⟨h22,h⟩
    ·obtain rfl:=Qd h;exact rK Qf 2 [j3,(jF [6,7,8,11,12,13,16,17,18,19,20,21,22],[jH 7 (jB x16),(9,.bool false),jH 12 (jB x19),(14,.bool false),(23,.bool false)],[]),j3] [some true] [] [] [4] .ret ((f44r3n0E a1 a2 a3 a4 a5 a6 (.ret false a3 a4 a6)).2) (ap4 h15 (ap4 (Qq h18) (ap4 (Qq h21) (ap4 (Qq h21) (ap (f49_ok (Qa.mk a1 a2 a5) h17) (ap (f50_ok (Qa.mk a1 a2 a5) h20) (ap h22 an))))))) rfl
    ·refine rN Qf 2 [j3,(jF [6,7,8,11,12,13,16,17,18,19,20,21,22],[jH 7 (jB x16),(9,.bool false),jH 12 (jB x19),(14,.bool false),(23,.bool false)],[])] [some false] [] [3] [0,3] (mkS [(0,(.bp 0 0)),(3,(.bp 3 0))],[some (.box 80 [(.mp 2),(jI a3),(jI a4)]),jR 3 Qb.cells a5,some (.map (a6.map (mkv (pAgg Qe.cells) (pInt .i64)))),some (.box 47 [(jI a1),(jS a2),(.own 1)])]) (ap4 h15 (ap4 (Qq h18) (ap4 (Qq h21) (ap4 (Qq h21) (ap (f49_ok (Qa.mk a1 a2 a5) h17) (ap (f50_ok (Qa.mk a1 a2 a5) h20) (ap h22 an))))))) ?_;refine rN Qf 0 [] [] [] [3] [0,3] (f44r3n1S a3 a4 a5 a6 a1 a2) an ?_;obtain ⟨o50,h51,h⟩:=Qc h;cases o50 with
     | norm v52 =>
      refine T.oneN (by kernel_rfl) (f44r3n1_ok a3 a4 a5 a6 a1 a2 h51) (st2:=(f44r3n1E a3 a4 a5 a6 a1 a2 (.norm v52)).2) rfl ?_;obtain ⟨x55,h56,h⟩:=Qc h;obtain rfl:=Qd h;exact rE Qf [j3,([],[(2,.call (jB x55) [some (.box 80 [(.mp 2),(jI a1),(jI (wr64 (a4+1)))]),jR 3 Qb.cells a5,some (.map (v52.map (mkv (pAgg Qe.cells) (pInt .i64)))),none,none])],[])] [] [] [] [4] (.ret,(f44r3n0E a1 a2 a3 a4 a5 a6 (.ret x55 a1 (wr64 (a4+1)) v52)).2) (ap (Qm.rn 5 [0,1,2] (f61r2_ok a1 a2 (wr64 (a4+1)) a5 v52 h56)) an) rfl
   ·obtain rfl:=Qd h;exact rK Qf 2 [j3,(jF [6,7,8,11,12,13]++jT [16,17,18,19,20,21,22],[jH 7 (jB x16),(9,.bool false),jH 12 (jB x19),(14,.bool false),(23,.bool true)],[]),j3] [none] [] [] [4] .ret ((f44r3n0E a1 a2 a3 a4 a5 a6 (.ret false a3 a4 a6)).2) (ap4 h15 (ap4 (Qq h18) (ap4 (Qac h21) (ap4 (Qac h21) (ap (f49_ok (Qa.mk a1 a2 a5) h17) (ap (f50_ok (Qa.mk a1 a2 a5) h20) an)))))) rfl
  ·obtain rfl:=Qd h;exact rK Qf 2 [j3,(jF [6,7,8]++jT [11,12,13],[jH 7 (jB x16),(9,.bool false),(14,.bool true)],[]),j3] [none] [] [] [4] .ret ((f44r3n0E a1 a2 a3 a4 a5 a6 (.ret false a3 a4 a6)).2) (ap4 h15 (ap4 (Qac h18) (ap (f49_ok (Qa.mk a1 a2 a5) h17) an))) rfl
noncomputable def f44r3(a1:Int)(a2:ByteArray)(a3 a4:Int)(a5:List Qb)(a6:List (Qe×Int)):Option (Bool×Int×Int×(List (Qe×Int))):=(f44r3n0 a1 a2 a3 a4 a5 a6).bind fun o=>match o with
 | .ret v57 v58 v59 v60=>some (v57,v58,v59,v60)
theorem f44r3_ok(a1:Int)(a2:ByteArray)(a3 a4:Int)(a5:List Qb)(a6:List (Qe×Int)) {r:Bool×Int×Int×(List (Qe×Int))} (h:f44r3 a1 a2 a3 a4 a5 a6=some r):Qm Try.prog true 44 [(.bp 0 0),(.agg [(jI a1),(jS a2),(.own 1)])] [some (.box 80 [(.mp 2),(jI a3),(jI a4)]),jR 3 Qb.cells a5,some (.map (a6.map (mkv (pAgg Qe.cells) (pInt .i64))))] (jB r.1) [some (.box 80 [(.mp 2),(jI r.2.1),(jI r.2.2.1)]),jR 3 Qb.cells a5,some (.map (r.2.2.2.map (mkv (pAgg Qe.cells) (pInt .i64))))]:=by
 unfold f44r3 at h;obtain ⟨o,ho,h⟩:=Qc h;cases o with
 | ret v57 v58 v59 v60 =>
  obtain rfl:=Qd h;exact Qm.shared Qf (f:=Try.f44) (c:=c44) (by kernel_rfl) (by kernel_rfl) (by kernel_rfl) ((f44r3n0_ok a1 a2 a3 a4 a5 a6 ho).mono fun r e=>by subst e; exact ⟨.inl rfl,by kernel_rfl,by kernel_rfl⟩)

inductive f48r2n0O where
 | ret (v5:List Qb)
def f48r2n0E(a1:List Qb):f48r2n0O→Ex×Tr×Hp
 | .ret v5=>(.ret,mkS [(2,(.own 0))],[jR 3 Qb.cells v5])
def f48r2n0S(a1:List Qb):Tr×Hp:=(Qai [(jL 3 Qb.cells a1)] 0 .leaf,[])
noncomputable def f48r2n0(a1:List Qb):Option f48r2n0O :=
 bif (a1.isEmpty) then
  some (.ret [])
 else
  req (fit a1.length 40) <|
  some (.ret a1)
theorem f48r2n0_ok(a1:List Qb){o:f48r2n0O}(h:f48r2n0 a1=some o):T Try.prog Try.f48.ntmps 0 c48 (f48r2n0S a1) (·=f48r2n0E a1 o):=by
 unfold f48r2n0 at h;refine rN Qf 1 [j3] [] [] [] [0] (mkS [(0,(jL 3 Qb.cells a1))],[]) an ?_;refine T.nest (by kernel_rfl) ?_;rcases Qg h with ⟨h2,h⟩|⟨h2,h⟩
 ·refine rN Qf 0 [] [] [] [] [0] (mkS [(0,(jL 3 Qb.cells a1))],[]) an ?_;refine T.oneNil Qf (x:=.tmp 0) (t:=45) (t3:=3) (t4:=4) (sz:=3) (es:=(a1.map Qb.cells)) (by kernel_rfl) (by kernel_rfl) (by kernel_rfl) (by kernel_rfl) (by kernel_rfl) (fun b hb=>?_);cases b
  ·refine rE Qf [] [none] [] [] [0] (.norm,(mkS [(0,(jL 3 Qb.cells a1))],[])) an (ThenQ.norm ?_);obtain rfl:=Qd h;exact rE Qf [([],[(2,.app false)],[])] [] [] [0] [2] (.ret,(f48r2n0E a1 (.ret [])).2) (ap (Qbc (c:=Qb.cells) h2) an) rfl
  ·obtain rfl:=Qd h;exact rE Qf [j3] [none] [.mat 2 3] [0] [2] (.ret,(f48r2n0E a1 (.ret [])).2) an (ThenQ.out rfl rfl)
 ·refine rN Qf 0 [] [] [] [] [0] (mkS [(0,(jL 3 Qb.cells a1))],[]) an ?_;refine T.oneNil Qf (x:=.tmp 0) (t:=45) (t3:=3) (t4:=4) (sz:=3) (es:=(a1.map Qb.cells)) (by kernel_rfl) (by kernel_rfl) (by kernel_rfl) (by kernel_rfl) (by kernel_rfl) (fun b hb=>?_);cases b
  ·refine rE Qf [] [none] [] [] [0] (.norm,(mkS [(0,(jL 3 Qb.cells a1))],[])) an (ThenQ.norm ?_);obtain ⟨h4,h⟩:=Qp h;obtain rfl:=Qd h;exact rE Qf [([],[(2,.app true)],[])] [] [] [1] [2] (.ret,(f48r2n0E a1 (.ret a1)).2) (ap (fit_map0z (te:=ti49) (xs:=a1) (c:=Qb.cells) h4 rfl) (ap (Qcf (c:=Qb.cells) h2) (ap (Qbd (c:=Qb.cells) (xs:=a1) (n:=3) (fun _=>rfl)) an))) rfl
  ·exact absurd (hb rfl) (Qcf (c:=Qb.cells) h2)
noncomputable def f48r2(a1:List Qb):Option (List Qb):=(f48r2n0 a1).bind fun o=>match o with
 | .ret v5=>some v5
theorem f48r2_ok(a1:List Qb){r:List Qb}(h:f48r2 a1=some r):Qm Try.prog true 48 [(jL 3 Qb.cells a1)] [] (.own 0) [jR 3 Qb.cells r]:=by
 unfold f48r2 at h;obtain ⟨o,ho,h⟩:=Qc h;cases o with
 | ret v5 =>
  obtain rfl:=Qd h;exact Qm.shared Qf (f:=Try.f48) (c:=c48) (by kernel_rfl) (by kernel_rfl) (by kernel_rfl) ((f48r2n0_ok a1 ho).mono fun r e=>by subst e; exact ⟨.inl rfl,by kernel_rfl,by kernel_rfl⟩)

noncomputable def c51:Code:=Try.f51.body.getD .skip
inductive f51r1n2O where
 | exit0 (v40:List Qa)
def f51r1n2E(bj1:List Qa):f51r1n2O→Ex×Tr×Hp
 | .exit0 v40=>((.exit 0),mkS [(3,(.own 0))],[some (.drow 3 (v40.map Qa.cells))])
def f51r1n2S(bj1:List Qa)(v26:Int)(v27:List Qa):Tr×Hp:=(mkS [(3,(.own 0)),(6,(jL 3 Qa.cells bj1)),(7,(jI (bj1.length:Int))),(8,(jI v26))],[some (.drow 3 (v27.map Qa.cells))])
noncomputable def f51r1n2:Nat→List Qa→Int→List Qa→Option f51r1n2O
 | 0,_,_,_=>none
 | f+1,bj1,v26,v27 =>
  bif decide (v26<(bj1.length:Int)) then
   (at? bj1 v26).bind fun x35 =>
   (f48r2 x35.Lines).bind fun x37 =>
   req (fit (v27.length+1) 48) <|
   (f51r1n2 f bj1 (wr64 (v26+1)) (v27++[(Qa.mk x35.Day x35.Text x37)]))
  else
   some (.exit0 v27)
theorem f51r1n2_ok:∀(f:Nat)(bj1:List Qa)(v26:Int)(v27:List Qa){o:f51r1n2O},f51r1n2 f bj1 v26 v27=some o→TL Try.prog Try.f51.ntmps 0 f (cL (cL (Qk 1 (cL (Qk 2 c51))))) (f51r1n2S bj1 v26 v27) (·=f51r1n2E bj1 o)
 | 0,_,_,_,o,h=>by rw [f51r1n2] at h; cases h
 | f+1,bj1,v26,v27,o,h=>by
  rw [f51r1n2] at h;refine TL.body (K:=fun s=>∃v26:Int,∃v27:List Qa,s=(f51r1n2S bj1 v26 v27)∧f51r1n2 f bj1 v26 v27=some o) ?_ (by rintro _ ⟨v26,v27,rfl,hk⟩; exact f51r1n2_ok f _ _ _ hk);rcases Qg h with ⟨h29,h⟩|⟨h29,h⟩
  ·obtain ⟨x35,h36,h⟩:=Qc h;obtain ⟨x37,h38,h⟩:=Qc h;obtain ⟨h39,h⟩:=Qp h
   exact rE Qf [j3,([],[(0,.idx (Int.toNat v26) (Qa.cells x35))],[]),([],[(2,.call (.own 2) [none,none,jR 3 Qb.cells x37])],[]),([],[(2,.nz),(3,.fits)],[(3,.drw 4 ((v27++[(Qa.mk x35.Day x35.Text x37)]).map Qa.cells))]),j3] [some true] [] [4] [3,6,7,8] (.norm,(f51r1n2S bj1 (wr64 (v26+1)) (v27++[(Qa.mk x35.Day x35.Text x37)]))) (ap h29 (ap (Qj h36).1 (ap (Qs Qa.cells (Qj h36).2) (ap (Qm.rn 2 [] (f48r2_ok x35.Lines h38)) (ap (flat_cv (c:=Qb.cells) (fun _=>rfl) x37) (ap (Qbq (te:=ti47) (xs:=v27) (n:=1) (c:=Qa.cells) h39 rfl) (ap (Qap (xs:=v27) (ys:=[(Qa.mk x35.Day x35.Text x37)]) (c:=Qa.cells)) an))))))) (Qt.norm ⟨(wr64 (v26+1)),(v27++[(Qa.mk x35.Day x35.Text x37)]),rfl,h⟩)
  ·obtain rfl:=Qd h;exact rK Qf 2 [j3] [some false] [] [0] [3] (.exit 0) ((f51r1n2E bj1 (.exit0 v27)).2) (ap h29 an) (Qt.out rfl rfl)
inductive f51r1n1O where
 | norm (v44:List Qa)
def f51r1n1E(bj1:List Qa):f51r1n1O→Ex×Tr×Hp
 | .norm v44=>(.norm,mkS [(3,(.own 0))],[some (.drow 3 (v44.map Qa.cells))])
def f51r1n1S(bj1:List Qa):Tr×Hp:=(mkS [(0,(jL 3 Qa.cells bj1)),(3,(.pl (.sl .nil 0 [])))],[])
noncomputable def f51r1n1(bj1:List Qa):Option f51r1n1O :=
 (f51r1n2 FUEL bj1 0 []).bind fun o41=>match o41 with
 | .exit0 v43=>some (.norm v43)
theorem f51r1n1_ok(bj1:List Qa){o:f51r1n1O}(h:f51r1n1 bj1=some o):T Try.prog Try.f51.ntmps 0 (cL (Qk 2 c51)) (f51r1n1S bj1) (·=f51r1n1E bj1 o):=by
 unfold f51r1n1 at h;refine rN Qf 1 [([],[],[(1,.val (jI (bj1.length:Int)))])] [] [.mat 3 1003] [0] [3,6,7,8] (f51r1n2S bj1 0 []) (ap (Qn (xs:=bj1) (c:=Qa.cells)) an) ?_;obtain ⟨o41,h42,h⟩:=Qc h;cases o41 with
 | exit0 v43 =>
  obtain rfl:=Qd h;exact T.last' (T.bl (i:=0) (by kernel_rfl) (by kernel_rfl) (f51r1n2_ok FUEL bj1 0 [] h42)) (tds:=[]) (m:=[0]) (keep:=[3]) (st2:=(f51r1n1E bj1 (.norm v43)).2) (by kernel_rfl) an rfl
inductive f51r1n0O where
 | ret (v48:List Qa)
def f51r1n0E(a1:List Qa):f51r1n0O→Ex×Tr×Hp
 | .ret v48=>(.ret,mkS [(2,(.own 0))],[some (.drow 3 (v48.map Qa.cells))])
def f51r1n0S(a1:List Qa):Tr×Hp:=(Qai [(jL 3 Qa.cells a1)] 0 .leaf,[])
noncomputable def f51r1n0(a1:List Qa):Option f51r1n0O :=
 (f51r1n1 a1).bind fun o45=>match o45 with
 | .norm v47=>some (.ret v47)
theorem f51r1n0_ok(a1:List Qa){o:f51r1n0O}(h:f51r1n0 a1=some o):T Try.prog Try.f51.ntmps 0 c51 (f51r1n0S a1) (·=f51r1n0E a1 o):=by
 unfold f51r1n0 at h;refine rN Qf 2 [j3,j3] [] [] [] [0,3] (f51r1n1S a1) an ?_;obtain ⟨o45,h46,h⟩:=Qc h;cases o45 with
 | norm v47 =>
  refine T.oneN (by kernel_rfl) (f51r1n1_ok a1 h46) (st2:=(f51r1n1E a1 (.norm v47)).2) rfl ?_;obtain rfl:=Qd h;exact rE Qf [j3] [] [] [0] [2] (.ret,(f51r1n0E a1 (.ret v47)).2) an rfl
noncomputable def f51r1(a1:List Qa):Option (List Qa):=(f51r1n0 a1).bind fun o=>match o with
 | .ret v48=>some v48
theorem f51r1_ok(a1:List Qa){r:List Qa}(h:f51r1 a1=some r):Qm Try.prog true 51 [(jL 3 Qa.cells a1)] [] (.own 0) [some (.drow 3 (r.map Qa.cells))]:=by
 unfold f51r1 at h;obtain ⟨o,ho,h⟩:=Qc h;cases o with
 | ret v48 =>
  obtain rfl:=Qd h;exact Qm.shared Qf (f:=Try.f51) (c:=c51) (by kernel_rfl) (by kernel_rfl) (by kernel_rfl) ((f51r1n0_ok a1 ho).mono fun r e=>by subst e; exact ⟨.inl rfl,by kernel_rfl,by kernel_rfl⟩)

noncomputable def c30:Code:=Try.f30.body.getD .skip
inductive f30r1n2O where
 | norm (v60:Int)
def f30r1n2E(bf1:Int) (bi2:Bool×Int×Int×(List (Qe×Int))) (bc3:List Qb) (ba4:Qh) (bd5:ByteArray) (bc6:List Qb):f30r1n2O→Ex×Tr×Hp
 | .norm v60=>(.norm,mkS [(4,(.bp 1 0)),(8,(.bp 2 0)),(10,(.bp 3 0)),(13,(jI v60))],[jR 3 Qb.cells bc3,some (.box 24 ((Qh.cells ba4).map .pl)),some (.box 24 [(.pl (.sl .nil 0 []))]),some (.box 47 [(jI bf1),(jS bd5),(.own 4)]),jR 3 Qb.cells bc6])
def f30r1n2S(bf1:Int) (bi2:Bool×Int×Int×(List (Qe×Int))) (bc3:List Qb) (ba4:Qh) (bd5:ByteArray) (bc6:List Qb):Tr×Hp:=(mkS [(1,(jI bf1)),(4,(.bp 1 0)),(8,(.bp 2 0)),(10,(.bp 3 0)),(11,(.bp 4 0)),(13,(jI 0)),(24,(.pl (.bool (!bi2.1))))],[jR 3 Qb.cells bc3,some (.box 24 ((Qh.cells ba4).map .pl)),some (.box 24 [(.pl (.sl .nil 0 []))]),some (.box 47 [(jI bf1),(jS bd5),(.own 5)]),some (.box 80 [(.mp 6),(jI bi2.2.1),(jI bi2.2.2.1)]),jR 3 Qb.cells bc6,some (.map (bi2.2.2.2.map (mkv (pAgg Qe.cells) (pInt .i64))))])
noncomputable def f30r1n2(bf1:Int) (bi2:Bool×Int×Int×(List (Qe×Int))) (bc3:List Qb) (ba4:Qh) (bd5:ByteArray) (bc6:List Qb):Option f30r1n2O :=
 bif bi2.1 then
  (f49 (Qa.mk bf1 bd5 bc6)).bind fun x40 =>
  bif x40 then
   (f50 (Qa.mk bf1 bd5 bc6)).bind fun x52 =>
   bif x52 then
    bif decide (bf1<bi2.2.1) then
     some (.norm 40)
    else
     bif decide (bi2.2.2.1=200) then
      some (.norm 22)
     else
      (f44r3 bf1 bd5 bi2.2.1 bi2.2.2.1 bc6 bi2.2.2.2).bind fun x57 =>
      bif x57.1 then
       some (.norm 0)
      else
       some (.norm 14)
   else
    some (.norm 60)
  else
   some (.norm 2)
 else
  some (.norm 8)
theorem f30r1n2_ok(bf1:Int) (bi2:Bool×Int×Int×(List (Qe×Int))) (bc3:List Qb) (ba4:Qh) (bd5:ByteArray) (bc6:List Qb) {o:f30r1n2O} (h:f30r1n2 bf1 bi2 bc3 ba4 bd5 bc6=some o):T Try.prog Try.f30.ntmps 1 (Qk 1 (cL (cL (Qk 4 c30)))) (f30r1n2S bf1 bi2 bc3 ba4 bd5 bc6) (·=f30r1n2E bf1 bi2 bc3 ba4 bd5 bc6 o):=by
 unfold f30r1n2 at h;rcases Qg h with ⟨h37,h⟩|⟨h37,h⟩
 ·refine T.condF (o:=.tmp 24) (b:=(!bi2.1)) (by kernel_rfl) (by kernel_rfl) (Qq h37) ?_;obtain ⟨x40,h41,h⟩:=Qc h;rcases Qg h with ⟨h51,h⟩|⟨h51,h⟩
  ·obtain ⟨x52,h53,h⟩:=Qc h;rcases Qg h with ⟨h54,h⟩|⟨h54,h⟩
   ·rcases Qg h with ⟨h55,h⟩|⟨h55,h⟩
    ·obtain rfl:=Qd h;exact rE Qf [([],[jH 1 (jB x40)],[]),([],[jH 1 (jB x52)],[]),j3,j3] [some false,some false,some true] [] [1,2,3,5] [4,8,10,13] (.norm,(f30r1n2E bf1 bi2 bc3 ba4 bd5 bc6 (.norm 40)).2) (ap (f49_ok (Qa.mk bf1 bd5 bc6) h41) (ap (Qq h51) (ap (f50_ok (Qa.mk bf1 bd5 bc6) h53) (ap (Qq h54) (ap h55 an))))) rfl
    ·rcases Qg h with ⟨h56,h⟩|⟨h56,h⟩
     ·obtain rfl:=Qd h;exact rE Qf [([],[jH 1 (jB x40)],[]),([],[jH 1 (jB x52)],[]),j3,j3,j3] [some false,some false,some false,some true] [] [1,2,3,5] [4,8,10,13] (.norm,(f30r1n2E bf1 bi2 bc3 ba4 bd5 bc6 (.norm 22)).2) (ap (f49_ok (Qa.mk bf1 bd5 bc6) h41) (ap (Qq h51) (ap (f50_ok (Qa.mk bf1 bd5 bc6) h53) (ap (Qq h54) (ap h55 (ap h56 an)))))) rfl
     ·obtain ⟨x57,h58,h⟩:=Qc h;rcases Qg h with ⟨h59,h⟩|⟨h59,h⟩
      ·obtain rfl:=Qd h;exact rE Qf [([],[jH 1 (jB x40)],[]),([],[jH 1 (jB x52)],[]),j3,j3,([],[(2,.call (jB x57.1) (jN 4 [some (.box 80 [(.mp 6),(jI x57.2.1),(jI x57.2.2.1)]),jR 3 Qb.cells bc6,some (.map (x57.2.2.2.map (mkv (pAgg Qe.cells) (pInt .i64))))]))],[])] [some false,some false,some false,some false,some false] [] [1,2,3,5] [4,8,10,13] (.norm,(f30r1n2E bf1 bi2 bc3 ba4 bd5 bc6 (.norm 0)).2) (ap (f49_ok (Qa.mk bf1 bd5 bc6) h41) (ap (Qq h51) (ap (f50_ok (Qa.mk bf1 bd5 bc6) h53) (ap (Qq h54) (ap h55 (ap h56 (ap (Qm.rn 7 [4,5,6] (f44r3_ok bf1 bd5 bi2.2.1 bi2.2.2.1 bc6 bi2.2.2.2 h58)) (ap (Qq h59) an)))))))) rfl
      ·obtain rfl:=Qd h;exact rE Qf [([],[jH 1 (jB x40)],[]),([],[jH 1 (jB x52)],[]),j3,j3,([],[(2,.call (jB x57.1) (jN 4 [some (.box 80 [(.mp 6),(jI x57.2.1),(jI x57.2.2.1)]),jR 3 Qb.cells bc6,some (.map (x57.2.2.2.map (mkv (pAgg Qe.cells) (pInt .i64))))]))],[]),j3] [some false,some false,some false,some false,some true] [] [1,2,3,5] [4,8,10,13] (.norm,(f30r1n2E bf1 bi2 bc3 ba4 bd5 bc6 (.norm 14)).2) (ap (f49_ok (Qa.mk bf1 bd5 bc6) h41) (ap (Qq h51) (ap (f50_ok (Qa.mk bf1 bd5 bc6) h53) (ap (Qq h54) (ap h55 (ap h56 (ap (Qm.rn 7 [4,5,6] (f44r3_ok bf1 bd5 bi2.2.1 bi2.2.2.1 bc6 bi2.2.2.2 h58)) (ap (Qac h59) an)))))))) rfl
   ·obtain rfl:=Qd h;exact rE Qf [([],[jH 1 (jB x40)],[]),([],[jH 1 (jB x52)],[]),j3] [some false,some true] [] [1,2,3,5] [4,8,10,13] (.norm,(f30r1n2E bf1 bi2 bc3 ba4 bd5 bc6 (.norm 60)).2) (ap (f49_ok (Qa.mk bf1 bd5 bc6) h41) (ap (Qq h51) (ap (f50_ok (Qa.mk bf1 bd5 bc6) h53) (ap (Qac h54) an)))) rfl
  ·obtain rfl:=Qd h;exact rE Qf [([],[jH 1 (jB x40)],[]),j3] [some true] [] [1,2,3,5] [4,8,10,13] (.norm,(f30r1n2E bf1 bi2 bc3 ba4 bd5 bc6 (.norm 2)).2) (ap (f49_ok (Qa.mk bf1 bd5 bc6) h41) (ap (Qac h51) an)) rfl
 ·refine T.condT (o:=.tmp 24) (b:=(!bi2.1)) (by kernel_rfl) (by kernel_rfl) (Qac h37) ?_;obtain rfl:=Qd h;exact rE Qf [j3] [] [] [1,2,3,5] [4,8,10,13] (.norm,(f30r1n2E bf1 bi2 bc3 ba4 bd5 bc6 (.norm 8)).2) an rfl
inductive f30r1n1O where
 | norm (v64:Int)
def f30r1n1E(bf1:Int) (bi2:Bool×Int×Int×(List (Qe×Int))) (bc3:List Qb) (ba4:Qh) (bd5:ByteArray) (bc6:List Qb):f30r1n1O→Ex×Tr×Hp
 | .norm v64=>(.norm,mkS [(4,(.bp 1 0)),(8,(.bp 2 0)),(10,(.bp 3 0)),(13,(jI v64))],[jR 3 Qb.cells bc3,some (.box 24 ((Qh.cells ba4).map .pl)),some (.box 24 [(.pl (.sl .nil 0 []))]),some (.box 47 [(jI bf1),(jS bd5),(.own 4)]),jR 3 Qb.cells bc6])
def f30r1n1S(bf1:Int) (bi2:Bool×Int×Int×(List (Qe×Int))) (bc3:List Qb) (ba4:Qh) (bd5:ByteArray) (bc6:List Qb):Tr×Hp:=(mkS [(1,(jI bf1)),(4,(.bp 1 0)),(8,(.bp 2 0)),(10,(.bp 3 0)),(11,(.bp 4 0)),(12,(jB bi2.1)),(13,(jI 0))],[jR 3 Qb.cells bc3,some (.box 24 ((Qh.cells ba4).map .pl)),some (.box 24 [(.pl (.sl .nil 0 []))]),some (.box 47 [(jI bf1),(jS bd5),(.own 5)]),some (.box 80 [(.mp 6),(jI bi2.2.1),(jI bi2.2.2.1)]),jR 3 Qb.cells bc6,some (.map (bi2.2.2.2.map (mkv (pAgg Qe.cells) (pInt .i64))))])
noncomputable def f30r1n1(bf1:Int) (bi2:Bool×Int×Int×(List (Qe×Int))) (bc3:List Qb) (ba4:Qh) (bd5:ByteArray) (bc6:List Qb):Option f30r1n1O :=
 (f30r1n2 bf1 bi2 bc3 ba4 bd5 bc6).bind fun o61=>match o61 with
 | .norm v63=>some (.norm v63)
theorem f30r1n1_ok(bf1:Int) (bi2:Bool×Int×Int×(List (Qe×Int))) (bc3:List Qb) (ba4:Qh) (bd5:ByteArray) (bc6:List Qb) {o:f30r1n1O} (h:f30r1n1 bf1 bi2 bc3 ba4 bd5 bc6=some o):T Try.prog Try.f30.ntmps 1 (cL (Qk 4 c30)) (f30r1n1S bf1 bi2 bc3 ba4 bd5 bc6) (·=f30r1n1E bf1 bi2 bc3 ba4 bd5 bc6 o):=by
 unfold f30r1n1 at h;refine T.block' (i:=0) (by kernel_rfl) ?_;refine rN Qf 1 [j3] [] [] [1,2,3,4,5,6] [1,4,8,10,11,13,24] (f30r1n2S bf1 bi2 bc3 ba4 bd5 bc6) an ?_;obtain ⟨o61,h62,h⟩:=Qc h;cases o61 with
 | norm v63 =>
  obtain rfl:=Qd h;exact T.last' (f30r1n2_ok bf1 bi2 bc3 ba4 bd5 bc6 h62) (tds:=[]) (m:=[1,2,3,4]) (keep:=[4,8,10,13]) (st2:=(f30r1n1E bf1 bi2 bc3 ba4 bd5 bc6 (.norm v63)).2) (by kernel_rfl) an rfl
inductive f30r1n0O where
 | ret (v76:Int) (v77:List Qa)
def f30r1n0E(a1:Qh)(a2:Int)(a3:ByteArray)(a4:List Qb):f30r1n0O→Ex×Tr×Hp
 | .ret v76 v77=>(.ret,mkS [(8,(.bp 1 0)),(9,(jI v76))],[jR 3 Qb.cells a4,some (.box 24 [(.own 2)]),some (.drow 3 (v77.map Qa.cells))])
def f30r1n0S(a1:Qh)(a2:Int)(a3:ByteArray)(a4:List Qb):Tr×Hp:=(Qai [(jA Qh.cells a1),(jI a2),(jS a3),(.own 0)] 0 .leaf,[jR 3 Qb.cells a4])
noncomputable def f30r1n0(a1:Qh)(a2:Int)(a3:ByteArray)(a4:List Qb):Option f30r1n0O :=
 (f48r1 a4).bind fun x7 =>
 (f47r1 a1).bind fun x11 =>
 (f30r1n1 a2 x11 a4 a1 a3 x7).bind fun o65=>match o65 with
 | .norm v67=>bif decide (v67=0) then
   (f51r1 a1.Records).bind fun x73 =>
   req (fit (x73.length+1) 48) <|
   some (.ret 0 (x73++[(Qa.mk a2 a3 x7)]))
  else
   some (.ret v67 [])
theorem f30r1n0_ok(a1:Qh)(a2:Int)(a3:ByteArray)(a4:List Qb){o:f30r1n0O}(h:f30r1n0 a1 a2 a3 a4=some o):T Try.prog Try.f30.ntmps 1 c30 (f30r1n0S a1 a2 a3 a4) (·=f30r1n0E a1 a2 a3 a4 o):=by
 unfold f30r1n0 at h;obtain ⟨x7,h8,h⟩:=Qc h;obtain ⟨x11,h12,h⟩:=Qc h;refine rN Qf 4 [j3,([],[(3,.call (.own 3) [jR 3 Qb.cells a4,none,none,jR 3 Qb.cells x7])],[]),([],[(1,.call (.tup [(.bp 5 0),(jB x11.1)]) (jN 5 [some (.box 80 [(.mp 6),(jI x11.2.1),(jI x11.2.2.1)]),some (.map (x11.2.2.2.map (mkv (pAgg Qe.cells) (pInt .i64))))]))],[]),j3] [] [] [1,2,4,5,3,6] [1,4,8,10,11,12,13] (f30r1n1S a2 x11 a4 a1 a3 x7) (ap (Qm.rn 3 [0] (f48r1_ok a4 h8)) (ap (Qm.rn 5 [] (f47r1_ok a1 h12)) an)) ?_;obtain ⟨o65,h66,h⟩:=Qc h;cases o65 with
 | norm v67 =>
  refine T.oneN (by kernel_rfl) (f30r1n1_ok a2 x11 a4 a1 a3 x7 h66) (st2:=(f30r1n1E a2 x11 a4 a1 a3 x7 (.norm v67)).2) rfl ?_;rcases Qg h with ⟨h69,h⟩|⟨h69,h⟩
  ·obtain ⟨x73,h74,h⟩:=Qc h;obtain ⟨h75,h⟩:=Qp h;obtain rfl:=Qd h;exact rE Qf [j3,([],[(2,.call (.own 8) (jN 8 [some (.drow 3 (x73.map Qa.cells))])),(4,.nz),(5,.fits)],[(5,.drw 6 ((x73++[(Qa.mk a2 a3 x7)]).map Qa.cells))])] [some false] [] [2,6] [8,9] (.ret,(f30r1n0E a1 a2 a3 a4 (.ret 0 (x73++[(Qa.mk a2 a3 x7)]))).2) (ap (Qq h69) (ap (flat_cv (c:=Qb.cells) (fun _=>rfl) x7) (ap (Qbq (te:=ti47) (xs:=x73) (n:=1) (c:=Qa.cells) h75 rfl) (ap (Qap (xs:=x73) (ys:=[(Qa.mk a2 a3 x7)]) (c:=Qa.cells)) (ap (Qm.rn 8 [] (f51r1_ok a1.Records h74)) an))))) rfl
  ·obtain rfl:=Qd h;exact rK Qf 1 [j3,j3] [some true] [.matC 2 0 1003] [2,5] [8,9] .ret ((f30r1n0E a1 a2 a3 a4 (.ret v67 [])).2) (ap (Qac h69) an) rfl
noncomputable def f30r1(a1:Qh)(a2:Int)(a3:ByteArray)(a4:List Qb):Option (Int×(List Qa)):=(f30r1n0 a1 a2 a3 a4).bind fun o=>match o with
 | .ret v76 v77=>some (v76,v77)
theorem f30r1_ok(a1:Qh)(a2:Int)(a3:ByteArray)(a4:List Qb){r:Int×(List Qa)}(h:f30r1 a1 a2 a3 a4=some r):Qm Try.prog true 30 [(jA Qh.cells a1),(jI a2),(jS a3),(.own 0)] [jR 3 Qb.cells a4] (.tup [(.agg [(.own 2)]),(jI r.1)]) [jR 3 Qb.cells a4,some (.box 24 [(.own 2)]),some (.drow 3 (r.2.map Qa.cells))]:=by
 unfold f30r1 at h;obtain ⟨o,ho,h⟩:=Qc h;cases o with
 | ret v76 v77 =>
  obtain rfl:=Qd h;exact Qm.shared Qf (f:=Try.f30) (c:=c30) (by kernel_rfl) (by kernel_rfl) (by kernel_rfl) ((f30r1n0_ok a1 a2 a3 a4 ho).mono fun r e=>by subst e; exact ⟨.inl rfl,by kernel_rfl,by kernel_rfl⟩)

noncomputable def c28:Code:=Try.f28.body.getD .skip
inductive f28n0O where
 | ret (v8:Int)
def f28n0E(a1:Qh):f28n0O→Ex×Tr×Hp
 | .ret v8=>(.ret,mkS [(2,(jI v8))],[])
def f28n0S(a1:Qh):Tr×Hp:=(Qai [(jA Qh.cells a1)] 0 .leaf,[])
noncomputable def f28n0(a1:Qh):Option f28n0O :=
 (f47r1 a1).bind fun x5 =>
 bif x5.1 then
  some (.ret 0)
 else
  some (.ret 8)
theorem f28n0_ok(a1:Qh){o:f28n0O}(h:f28n0 a1=some o):T Try.prog Try.f28.ntmps 0 c28 (f28n0S a1) (·=f28n0E a1 o):=by
 unfold f28n0 at h;obtain ⟨x5,h6,h⟩:=Qc h;rcases Qg h with ⟨h7,h⟩|⟨h7,h⟩
 ·obtain rfl:=Qd h;exact rE Qf [j3,([],[(1,.call (.tup [(.bp 1 0),(jB x5.1)]) [none,some (.box 80 [(.mp 2),(jI x5.2.1),(jI x5.2.2.1)]),some (.map (x5.2.2.2.map (mkv (pAgg Qe.cells) (pInt .i64))))])],[]),j3,j3] [some false] [] [] [2] (.ret,(f28n0E a1 (.ret 0)).2) (ap (Qm.rn 1 [] (f47r1_ok a1 h6)) (ap (Qq h7) an)) rfl
 ·obtain rfl:=Qd h;exact rK Qf 2 [j3,([],[(1,.call (.tup [(.bp 1 0),(jB x5.1)]) [none,some (.box 80 [(.mp 2),(jI x5.2.1),(jI x5.2.2.1)]),some (.map (x5.2.2.2.map (mkv (pAgg Qe.cells) (pInt .i64))))])],[]),j3,j3] [some true] [] [] [2] .ret ((f28n0E a1 (.ret 8)).2) (ap (Qm.rn 1 [] (f47r1_ok a1 h6)) (ap (Qac h7) an)) rfl
noncomputable def f28(a1:Qh):Option Int:=(f28n0 a1).bind fun o=>match o with
 | .ret v8=>some v8
theorem f28_ok(a1:Qh){r:Int}(h:f28 a1=some r):Qm Try.prog false 28 [(jA Qh.cells a1)] [] (jI r) []:=by
 unfold f28 at h;obtain ⟨o,ho,h⟩:=Qc h;cases o with
 | ret v8 =>
  obtain rfl:=Qd h;exact Qm.plain Qf (f:=Try.f28) (c:=c28) (by kernel_rfl) (by kernel_rfl) (by kernel_rfl) (by kernel_rfl) ((f28n0_ok a1 ho).mono fun r e=>by subst e; exact ⟨.inl rfl,(jI v8),(jI v8),by kernel_rfl,by kernel_rfl,((Wk.refl _):Wk (jI v8) (jI v8))⟩)

noncomputable def c40:Code:=Try.f40.body.getD .skip
inductive f40r1n3O where
 | exit2 (v99:List Int)
def f40r1n3E(bf1 x77:Int)(bk2:List Int)(bf3:Int):f40r1n3O→Ex×Tr×Hp
 | .exit2 v99=>((.exit 2),mkS [(0,(.own 1)),(1,(jI bf1)),(10,(.own 0)),(11,(jI (bk2.length:Int))),(12,(jI bf3))],[some (.row false 1 (bk2.map (cInt .u64))),some (.row false 1 (v99.map (cInt .u8)))])
def f40r1n3S(bf1 x77:Int)(bk2:List Int)(bf3 v91:Int)(v92:List Int):Tr×Hp:=(mkS [(0,(.own 1)),(1,(jI bf1)),(8,(.pl (.int .u64 x77))),(10,(.own 0)),(11,(jI (bk2.length:Int))),(12,(jI bf3)),(16,(jI bf1)),(17,(jI v91))],[some (.row false 1 (bk2.map (cInt .u64))),some (.row false 1 (v92.map (cInt .u8)))])
noncomputable def f40r1n3:Nat→Int→Int→List Int→Int→Int→List Int→Option f40r1n3O
 | 0,_,_,_,_,_,_=>none
 | f+1,bf1,x77,bk2,bf3,v91,v92 =>
  bif decide (v91<bf1) then
   req (decide (0≤(wr64 (8*v91)))) <|
   req (fit (v92.length+1) 1) <|
   (f40r1n3 f bf1 x77 bk2 bf3 (wr64 (v91+1)) (v92++[(wru8 (shrK .u64 x77 (wr64 (8*v91))))]))
  else
   some (.exit2 v92)
theorem f40r1n3_ok:∀(f:Nat)(bf1 x77:Int)(bk2:List Int)(bf3 v91:Int)(v92:List Int){o:f40r1n3O},f40r1n3 f bf1 x77 bk2 bf3 v91 v92=some o→TL Try.prog Try.f40.ntmps 1 f (cL (cL (Qk 2 (cL (cL (Qk 2 (cL (cL (Qk 1 (cL (Qk 1 c40))))))))))) (f40r1n3S bf1 x77 bk2 bf3 v91 v92) (·=f40r1n3E bf1 x77 bk2 bf3 o)
 | 0,_,_,_,_,_,_,o,h=>by rw [f40r1n3] at h; cases h
 | f+1,bf1,x77,bk2,bf3,v91,v92,o,h=>by
  rw [f40r1n3] at h;refine TL.body (K:=fun s=>∃v91:Int,∃v92:List Int,s=(f40r1n3S bf1 x77 bk2 bf3 v91 v92)∧f40r1n3 f bf1 x77 bk2 bf3 v91 v92=some o) ?_ (by rintro _ ⟨v91,v92,rfl,hk⟩; exact f40r1n3_ok f _ _ _ _ _ _ hk);rcases Qg h with ⟨h94,h⟩|⟨h94,h⟩
  ·obtain ⟨h97,h⟩:=Qp h;obtain ⟨h98,h⟩:=Qp h;exact rE Qf [j3,j3,([],[(4,.fits),(7,.fits)],[(7,.row 3 ((v92++[(wru8 (shrK .u64 x77 (wr64 (8*v91))))]).map (cInt .u8)))]),j3] [some true] [] [3] [0,1,8,10,11,12,16,17] (.norm,(f40r1n3S bf1 x77 bk2 bf3 (wr64 (v91+1)) (v92++[(wru8 (shrK .u64 x77 (wr64 (8*v91))))]))) (ap h94 (ap (le_of h97) (ap (Qbq (te:=ti5) (xs:=v92) (n:=1) (c:=(cInt .u8)) h98 rfl) (ap (Qap (xs:=v92) (ys:=[(wru8 (shrK .u64 x77 (wr64 (8*v91))))]) (c:=(cInt .u8))) an)))) (Qt.norm ⟨(wr64 (v91+1)),(v92++[(wru8 (shrK .u64 x77 (wr64 (8*v91))))]),rfl,h⟩)
  ·obtain rfl:=Qd h;exact rK Qf 2 [j3] [some false] [] [1] [0,1,10,11,12] (.exit 2) ((f40r1n3E bf1 x77 bk2 bf3 (.exit2 v92)).2) (ap h94 an) (Qt.out rfl rfl)
inductive f40r1n2O where
 | norm (v103:List Int)
def f40r1n2E(bf1:Int)(bk2:List Int)(bf3:Int)(bk4:List Int):f40r1n2O→Ex×Tr×Hp
 | .norm v103=>(.norm,mkS [(0,(.own 1)),(1,(jI bf1)),(10,(.own 0)),(11,(jI (bk2.length:Int))),(12,(jI bf3))],[some (.row false 1 (bk2.map (cInt .u64))),some (.row false 1 (v103.map (cInt .u8)))])
def f40r1n2S(bf1:Int)(bk2:List Int)(bf3:Int)(bk4:List Int):Tr×Hp:=(mkS [(0,(.own 1)),(1,(jI bf1)),(10,(.own 0)),(11,(jI (bk2.length:Int))),(12,(jI bf3))],[some (.row false 1 (bk2.map (cInt .u64))),some (.row false 1 (bk4.map (cInt .u8)))])
noncomputable def f40r1n2(bf1:Int)(bk2:List Int)(bf3:Int)(bk4:List Int):Option f40r1n2O :=
 (at? bk2 bf3).bind fun x77 =>
 (f40r1n3 FUEL bf1 x77 bk2 bf3 0 bk4).bind fun o100=>match o100 with
 | .exit2 v102=>some (.norm v102)
theorem f40r1n2_ok(bf1:Int)(bk2:List Int)(bf3:Int)(bk4:List Int){o:f40r1n2O}(h:f40r1n2 bf1 bk2 bf3 bk4=some o):T Try.prog Try.f40.ntmps 1 (cL (Qk 2 (cL (cL (Qk 1 (cL (Qk 1 c40))))))) (f40r1n2S bf1 bk2 bf3 bk4) (·=f40r1n2E bf1 bk2 bf3 bk4 o):=by
 unfold f40r1n2 at h;refine T.block' (i:=1) (by kernel_rfl) ?_;obtain ⟨x77,h78,h⟩:=Qc h;refine rN Qf 2 [([],[(0,.at_ (Int.toNat bf3)),(1,.idx 0 ((cInt .u64) x77))],[]),j3] [] [] [1] [0,1,8,10,11,12,16,17] (f40r1n3S bf1 x77 bk2 bf3 0 bk4) (ap (Qj h78).1 (ap (lt_map (cInt .u64) (Qj h78).2) (ap (Qs (cInt .u64) (Qj h78).2) an))) ?_;obtain ⟨o100,h101,h⟩:=Qc h;cases o100 with
 | exit2 v102 =>
  obtain rfl:=Qd h;exact T.last' (T.bl (i:=2) (by kernel_rfl) (by kernel_rfl) (f40r1n3_ok FUEL bf1 x77 bk2 bf3 0 bk4 h101)) (tds:=[]) (m:=[1]) (keep:=[0,1,10,11,12]) (st2:=(f40r1n2E bf1 bk2 bf3 bk4 (.norm v102)).2) (by kernel_rfl) an rfl
inductive f40r1n4O where
 | exit0 (v107:List Int)
def f40r1n4E(bf1:Int)(bk2:List Int):f40r1n4O→Ex×Tr×Hp
 | .exit0 v107=>((.exit 0),mkS [(0,(.own 1))],[some (.row false 1 (bk2.map (cInt .u64))),some (.row false 1 (v107.map (cInt .u8)))])
def f40r1n4S(bf1:Int)(bk2:List Int)(v71:Int)(v72:List Int):Tr×Hp:=(mkS [(0,(.own 1)),(1,(jI bf1)),(10,(.own 0)),(11,(jI (bk2.length:Int))),(12,(jI v71))],[some (.row false 1 (bk2.map (cInt .u64))),some (.row false 1 (v72.map (cInt .u8)))])
noncomputable def f40r1n4:Nat→Int→List Int→Int→List Int→Option f40r1n4O
 | 0,_,_,_,_=>none
 | f+1,bf1,bk2,v71,v72 =>
  bif decide (v71<(bk2.length:Int)) then
   (f40r1n2 bf1 bk2 v71 v72).bind fun o104=>match o104 with
   | .norm v106=>(f40r1n4 f bf1 bk2 (wr64 (v71+1)) v106)
  else
   some (.exit0 v72)
theorem f40r1n4_ok:∀(f:Nat)(bf1:Int)(bk2:List Int)(v71:Int)(v72:List Int){o:f40r1n4O},f40r1n4 f bf1 bk2 v71 v72=some o→TL Try.prog Try.f40.ntmps 1 f (cL (cL (Qk 1 (cL (Qk 1 c40))))) (f40r1n4S bf1 bk2 v71 v72) (·=f40r1n4E bf1 bk2 o)
 | 0,_,_,_,_,o,h=>by rw [f40r1n4] at h; cases h
 | f+1,bf1,bk2,v71,v72,o,h=>by
  rw [f40r1n4] at h;refine TL.body (K:=fun s=>∃v71:Int,∃v72:List Int,s=(f40r1n4S bf1 bk2 v71 v72)∧f40r1n4 f bf1 bk2 v71 v72=some o) ?_ (by rintro _ ⟨v71,v72,rfl,hk⟩; exact f40r1n4_ok f _ _ _ _ hk);rcases Qg h with ⟨h74,h⟩|⟨h74,h⟩
  ·refine rN Qf 2 [j3] [some true] [] [1] [0,1,10,11,12] (f40r1n2S bf1 bk2 v71 v72) (ap h74 an) ?_;obtain ⟨o104,h105,h⟩:=Qc h;cases o104 with
   | norm v106 =>
    refine T.oneN (by kernel_rfl) (f40r1n2_ok bf1 bk2 v71 v72 h105) (st2:=(f40r1n2E bf1 bk2 v71 v72 (.norm v106)).2) rfl ?_;exact rE Qf [j3] [] [] [1] [0,1,10,11,12] (.norm,(f40r1n4S bf1 bk2 (wr64 (v71+1)) v106)) an (Qt.norm ⟨(wr64 (v71+1)),v106,rfl,h⟩)
  ·obtain rfl:=Qd h;exact rK Qf 2 [j3] [some false] [] [1] [0] (.exit 0) ((f40r1n4E bf1 bk2 (.exit0 v72)).2) (ap h74 an) (Qt.out rfl rfl)
inductive f40r1n1O where
 | norm (v111:List Int)
def f40r1n1E(bf1:Int)(bk2:List Int):f40r1n1O→Ex×Tr×Hp
 | .norm v111=>(.norm,mkS [(0,(.own 1))],[some (.row false 1 (bk2.map (cInt .u64))),some (.row false 1 (v111.map (cInt .u8)))])
def f40r1n1S(bf1:Int)(bk2:List Int):Tr×Hp:=(mkS [(0,(.pl (.sl .nil 0 []))),(1,(jI bf1)),(2,(.own 0))],[some (.row false 1 (bk2.map (cInt .u64)))])
noncomputable def f40r1n1(bf1:Int)(bk2:List Int):Option f40r1n1O :=
 (f40r1n4 FUEL bf1 bk2 0 []).bind fun o108=>match o108 with
 | .exit0 v110=>some (.norm v110)
theorem f40r1n1_ok(bf1:Int)(bk2:List Int){o:f40r1n1O}(h:f40r1n1 bf1 bk2=some o):T Try.prog Try.f40.ntmps 1 (cL (Qk 1 c40)) (f40r1n1S bf1 bk2) (·=f40r1n1E bf1 bk2 o):=by
 unfold f40r1n1 at h;refine rN Qf 1 [([],[],[(1,.val (jI (bk2.length:Int)))])] [] [.mat 0 1] [1] [0,1,10,11,12] (f40r1n4S bf1 bk2 0 []) (ap (Qn (xs:=bk2) (c:=(cInt .u64))) an) ?_;obtain ⟨o108,h109,h⟩:=Qc h;cases o108 with
 | exit0 v110 =>
  obtain rfl:=Qd h;exact T.last' (T.bl (i:=0) (by kernel_rfl) (by kernel_rfl) (f40r1n4_ok FUEL bf1 bk2 0 [] h109)) (tds:=[]) (m:=[1]) (keep:=[0]) (st2:=(f40r1n1E bf1 bk2 (.norm v110)).2) (by kernel_rfl) an rfl
inductive f40r1n0O where
 | ret (v115:List Int)
def f40r1n0E(a1:Int)(a2:List Int):f40r1n0O→Ex×Tr×Hp
 | .ret v115=>(.ret,mkS [(6,(.own 1))],[some (.row false 1 (a2.map (cInt .u64))),some (.row false 1 (v115.map (cInt .u8)))])
def f40r1n0S(a1:Int)(a2:List Int):Tr×Hp:=(Qai [(.pl (.sl .nil 0 [])),(jI a1),(.own 0)] 0 .leaf,[some (.row false 1 (a2.map (cInt .u64)))])
noncomputable def f40r1n0(a1:Int)(a2:List Int):Option f40r1n0O :=
 (f40r1n1 a1 a2).bind fun o112=>match o112 with
 | .norm v114=>some (.ret v114)
theorem f40r1n0_ok(a1:Int)(a2:List Int){o:f40r1n0O}(h:f40r1n0 a1 a2=some o):T Try.prog Try.f40.ntmps 1 c40 (f40r1n0S a1 a2) (·=f40r1n0E a1 a2 o):=by
 unfold f40r1n0 at h;refine rN Qf 1 [j3] [] [] [] [0,1,2] (f40r1n1S a1 a2) an ?_;obtain ⟨o112,h113,h⟩:=Qc h;cases o112 with
 | norm v114 =>
  refine T.oneN (by kernel_rfl) (f40r1n1_ok a1 a2 h113) (st2:=(f40r1n1E a1 a2 (.norm v114)).2) rfl ?_;obtain rfl:=Qd h;exact rE Qf [j3] [] [] [1] [6] (.ret,(f40r1n0E a1 a2 (.ret v114)).2) an rfl
noncomputable def f40r1(a1:Int)(a2:List Int):Option (List Int):=(f40r1n0 a1 a2).bind fun o=>match o with
 | .ret v115=>some v115
theorem f40r1_ok(a1:Int)(a2:List Int){r:List Int}(h:f40r1 a1 a2=some r):Qm Try.prog true 40 [(.pl (.sl .nil 0 [])),(jI a1),(.own 0)] [some (.row false 1 (a2.map (cInt .u64)))] (.own 1) [some (.row false 1 (a2.map (cInt .u64))),some (.row false 1 (r.map (cInt .u8)))]:=by
 unfold f40r1 at h;obtain ⟨o,ho,h⟩:=Qc h;cases o with
 | ret v115 =>
  obtain rfl:=Qd h;exact Qm.shared Qf (f:=Try.f40) (c:=c40) (by kernel_rfl) (by kernel_rfl) (by kernel_rfl) ((f40r1n0_ok a1 a2 ho).mono fun r e=>by subst e; exact ⟨.inl rfl,by kernel_rfl,by kernel_rfl⟩)

noncomputable def c56:Code:=Try.f56.body.getD .skip
inductive f56r1n0O where
 | ret (v9:List Int)
def f56r1n0E(a1:ByteArray)(a2:List Int):f56r1n0O→Ex×Tr×Hp
 | .ret v9=>(.ret,mkS [(4,(.own 1))],[none,some (.row false 1 (v9.map (cInt .u8)))])
def f56r1n0S(a1:ByteArray)(a2:List Int):Tr×Hp:=(Qai [(.own 0),(jS a1)] 0 .leaf,[some (.row false 1 (a2.map (cInt .u8)))])
noncomputable def f56r1n0(a1:ByteArray)(a2:List Int):Option f56r1n0O :=
 req (fit (a2.length+1) 1) <|
 bif ((ofB a1).isEmpty) then
  some (.ret (a2++[(wru8 (a1.size:Int))]))
 else
  req (fit ((a2++[(wru8 (a1.size:Int))]).length+(ofB a1).length) 1) <|
  some (.ret ((a2++[(wru8 (a1.size:Int))])++(ofB a1)))
theorem f56r1n0_ok(a1:ByteArray)(a2:List Int){o:f56r1n0O}(h:f56r1n0 a1 a2=some o):T Try.prog Try.f56.ntmps 1 c56 (f56r1n0S a1 a2) (·=f56r1n0E a1 a2 o):=by
 unfold f56r1n0 at h;obtain ⟨h6,h⟩:=Qp h;rcases Qg h with ⟨h7,h⟩|⟨h7,h⟩
 ·obtain rfl:=Qd h;exact rE Qf [j3,([],[(5,.fits),(7,.app false)],[(5,.row 2 ((a2++[(wru8 (a1.size:Int))]).map (cInt .u8)))])] [] [] [2] [4] (.ret,(f56r1n0E a1 a2 (.ret (a2++[(wru8 (a1.size:Int))]))).2) (ap (Qbq (te:=ti5) (xs:=a2) (n:=1) (c:=(cInt .u8)) h6 rfl) (ap (Qap (xs:=a2) (ys:=[(wru8 (a1.size:Int))]) (c:=(cInt .u8))) (ap (nil_str h7) an))) rfl
 ·obtain ⟨h8,h⟩:=Qp h;obtain rfl:=Qd h;exact rE Qf [j3,([],[(5,.fits),(7,.app true)],[(5,.row 2 ((a2++[(wru8 (a1.size:Int))]).map (cInt .u8))),(7,.row 3 (((a2++[(wru8 (a1.size:Int))])++(ofB a1)).map (cInt .u8)))])] [] [] [3] [4] (.ret,(f56r1n0E a1 a2 (.ret ((a2++[(wru8 (a1.size:Int))])++(ofB a1)))).2) (ap (Qbq (te:=ti5) (xs:=a2) (n:=1) (c:=(cInt .u8)) h6 rfl) (ap (Qap (xs:=a2) (ys:=[(wru8 (a1.size:Int))]) (c:=(cInt .u8))) (ap (fit_str2 (te:=ti5) (xs:=(a2++[(wru8 (a1.size:Int))])) (c:=(cInt .u8)) (s:=a1) h8 rfl) (ap (ne_str h7) (ap (len_str (s:=a1)) (ap (app_str (xs:=(a2++[(wru8 (a1.size:Int))])) (s:=a1)) an)))))) rfl
noncomputable def f56r1(a1:ByteArray)(a2:List Int):Option (List Int):=(f56r1n0 a1 a2).bind fun o=>match o with
 | .ret v9=>some v9
theorem f56r1_ok(a1:ByteArray)(a2:List Int){r:List Int}(h:f56r1 a1 a2=some r):Qm Try.prog true 56 [(.own 0),(jS a1)] [some (.row false 1 (a2.map (cInt .u8)))] (.own 1) [none,some (.row false 1 (r.map (cInt .u8)))]:=by
 unfold f56r1 at h;obtain ⟨o,ho,h⟩:=Qc h;cases o with
 | ret v9 =>
  obtain rfl:=Qd h;exact Qm.shared Qf (f:=Try.f56) (c:=c56) (by kernel_rfl) (by kernel_rfl) (by kernel_rfl) ((f56r1n0_ok a1 a2 ho).mono fun r e=>by subst e; exact ⟨.inl rfl,by kernel_rfl,by kernel_rfl⟩)

inductive f40r2n3O where
 | exit2 (v102:List Int)
def f40r2n3E(bf1 x80:Int)(bk2:List Int)(bf3:Int):f40r2n3O→Ex×Tr×Hp
 | .exit2 v102=>((.exit 2),mkS [(0,(.own 2)),(1,(jI bf1)),(10,(.own 1)),(11,(jI (bk2.length:Int))),(12,(jI bf3))],[none,some (.row false 1 (bk2.map (cInt .u64))),some (.row false 1 (v102.map (cInt .u8)))])
def f40r2n3S(bf1 x80:Int)(bk2:List Int)(bf3 v94:Int)(v95:List Int):Tr×Hp:=(mkS [(0,(.own 2)),(1,(jI bf1)),(8,(.pl (.int .u64 x80))),(10,(.own 1)),(11,(jI (bk2.length:Int))),(12,(jI bf3)),(16,(jI bf1)),(17,(jI v94))],[none,some (.row false 1 (bk2.map (cInt .u64))),some (.row false 1 (v95.map (cInt .u8)))])
noncomputable def f40r2n3:Nat→Int→Int→List Int→Int→Int→List Int→Option f40r2n3O
 | 0,_,_,_,_,_,_=>none
 | f+1,bf1,x80,bk2,bf3,v94,v95 =>
  bif decide (v94<bf1) then
   req (decide (0≤(wr64 (8*v94)))) <|
   req (fit (v95.length+1) 1) <|
   (f40r2n3 f bf1 x80 bk2 bf3 (wr64 (v94+1)) (v95++[(wru8 (shrK .u64 x80 (wr64 (8*v94))))]))
  else
   some (.exit2 v95)
theorem f40r2n3_ok:∀(f:Nat)(bf1 x80:Int)(bk2:List Int)(bf3 v94:Int)(v95:List Int){o:f40r2n3O},f40r2n3 f bf1 x80 bk2 bf3 v94 v95=some o→TL Try.prog Try.f40.ntmps 2 f (cL (cL (Qk 2 (cL (cL (Qk 2 (cL (cL (Qk 1 (cL (Qk 1 c40))))))))))) (f40r2n3S bf1 x80 bk2 bf3 v94 v95) (·=f40r2n3E bf1 x80 bk2 bf3 o)
 | 0,_,_,_,_,_,_,o,h=>by rw [f40r2n3] at h; cases h
 | f+1,bf1,x80,bk2,bf3,v94,v95,o,h=>by
  rw [f40r2n3] at h;refine TL.body (K:=fun s=>∃v94:Int,∃v95:List Int,s=(f40r2n3S bf1 x80 bk2 bf3 v94 v95)∧f40r2n3 f bf1 x80 bk2 bf3 v94 v95=some o) ?_ (by rintro _ ⟨v94,v95,rfl,hk⟩; exact f40r2n3_ok f _ _ _ _ _ _ hk);rcases Qg h with ⟨h97,h⟩|⟨h97,h⟩
  ·obtain ⟨h100,h⟩:=Qp h;obtain ⟨h101,h⟩:=Qp h;exact rE Qf [j3,j3,([],[(4,.fits),(7,.fits)],[(7,.row 4 ((v95++[(wru8 (shrK .u64 x80 (wr64 (8*v94))))]).map (cInt .u8)))]),j3] [some true] [] [4] [0,1,8,10,11,12,16,17] (.norm,(f40r2n3S bf1 x80 bk2 bf3 (wr64 (v94+1)) (v95++[(wru8 (shrK .u64 x80 (wr64 (8*v94))))]))) (ap h97 (ap (le_of h100) (ap (Qbq (te:=ti5) (xs:=v95) (n:=1) (c:=(cInt .u8)) h101 rfl) (ap (Qap (xs:=v95) (ys:=[(wru8 (shrK .u64 x80 (wr64 (8*v94))))]) (c:=(cInt .u8))) an)))) (Qt.norm ⟨(wr64 (v94+1)),(v95++[(wru8 (shrK .u64 x80 (wr64 (8*v94))))]),rfl,h⟩)
  ·obtain rfl:=Qd h;exact rK Qf 2 [j3] [some false] [] [2] [0,1,10,11,12] (.exit 2) ((f40r2n3E bf1 x80 bk2 bf3 (.exit2 v95)).2) (ap h97 an) (Qt.out rfl rfl)
inductive f40r2n2O where
 | norm (v106:List Int)
def f40r2n2E(bf1:Int)(bk2:List Int)(bf3:Int)(bk4:List Int):f40r2n2O→Ex×Tr×Hp
 | .norm v106=>(.norm,mkS [(0,(.own 2)),(1,(jI bf1)),(10,(.own 1)),(11,(jI (bk2.length:Int))),(12,(jI bf3))],[none,some (.row false 1 (bk2.map (cInt .u64))),some (.row false 1 (v106.map (cInt .u8)))])
def f40r2n2S(bf1:Int)(bk2:List Int)(bf3:Int)(bk4:List Int):Tr×Hp:=(mkS [(0,(.own 2)),(1,(jI bf1)),(10,(.own 1)),(11,(jI (bk2.length:Int))),(12,(jI bf3))],[none,some (.row false 1 (bk2.map (cInt .u64))),some (.row false 1 (bk4.map (cInt .u8)))])
noncomputable def f40r2n2(bf1:Int)(bk2:List Int)(bf3:Int)(bk4:List Int):Option f40r2n2O :=
 (at? bk2 bf3).bind fun x80 =>
 (f40r2n3 FUEL bf1 x80 bk2 bf3 0 bk4).bind fun o103=>match o103 with
 | .exit2 v105=>some (.norm v105)
theorem f40r2n2_ok(bf1:Int)(bk2:List Int)(bf3:Int)(bk4:List Int){o:f40r2n2O}(h:f40r2n2 bf1 bk2 bf3 bk4=some o):T Try.prog Try.f40.ntmps 2 (cL (Qk 2 (cL (cL (Qk 1 (cL (Qk 1 c40))))))) (f40r2n2S bf1 bk2 bf3 bk4) (·=f40r2n2E bf1 bk2 bf3 bk4 o):=by
 unfold f40r2n2 at h;refine T.block' (i:=1) (by kernel_rfl) ?_;obtain ⟨x80,h81,h⟩:=Qc h;refine rN Qf 2 [([],[(0,.at_ (Int.toNat bf3)),(1,.idx 0 ((cInt .u64) x80))],[]),j3] [] [] [2] [0,1,8,10,11,12,16,17] (f40r2n3S bf1 x80 bk2 bf3 0 bk4) (ap (Qj h81).1 (ap (lt_map (cInt .u64) (Qj h81).2) (ap (Qs (cInt .u64) (Qj h81).2) an))) ?_;obtain ⟨o103,h104,h⟩:=Qc h;cases o103 with
 | exit2 v105 =>
  obtain rfl:=Qd h;exact T.last' (T.bl (i:=2) (by kernel_rfl) (by kernel_rfl) (f40r2n3_ok FUEL bf1 x80 bk2 bf3 0 bk4 h104)) (tds:=[]) (m:=[2]) (keep:=[0,1,10,11,12]) (st2:=(f40r2n2E bf1 bk2 bf3 bk4 (.norm v105)).2) (by kernel_rfl) an rfl
inductive f40r2n4O where
 | exit0 (v110:List Int)
def f40r2n4E(bf1:Int)(bk3:List Int):f40r2n4O→Ex×Tr×Hp
 | .exit0 v110=>((.exit 0),mkS [(0,(.own 2))],[none,some (.row false 1 (bk3.map (cInt .u64))),some (.row false 1 (v110.map (cInt .u8)))])
def f40r2n4S(bf1:Int)(bk3:List Int)(v74:Int)(v75:List Int):Tr×Hp:=(mkS [(0,(.own 2)),(1,(jI bf1)),(10,(.own 1)),(11,(jI (bk3.length:Int))),(12,(jI v74))],[none,some (.row false 1 (bk3.map (cInt .u64))),some (.row false 1 (v75.map (cInt .u8)))])
noncomputable def f40r2n4:Nat→Int→List Int→Int→List Int→Option f40r2n4O
 | 0,_,_,_,_=>none
 | f+1,bf1,bk3,v74,v75 =>
  bif decide (v74<(bk3.length:Int)) then
   (f40r2n2 bf1 bk3 v74 v75).bind fun o107=>match o107 with
   | .norm v109=>(f40r2n4 f bf1 bk3 (wr64 (v74+1)) v109)
  else
   some (.exit0 v75)
theorem f40r2n4_ok:∀(f:Nat)(bf1:Int)(bk3:List Int)(v74:Int)(v75:List Int){o:f40r2n4O},f40r2n4 f bf1 bk3 v74 v75=some o→TL Try.prog Try.f40.ntmps 2 f (cL (cL (Qk 1 (cL (Qk 1 c40))))) (f40r2n4S bf1 bk3 v74 v75) (·=f40r2n4E bf1 bk3 o)
 | 0,_,_,_,_,o,h=>by rw [f40r2n4] at h; cases h
 | f+1,bf1,bk3,v74,v75,o,h=>by
  rw [f40r2n4] at h;refine TL.body (K:=fun s=>∃v74:Int,∃v75:List Int,s=(f40r2n4S bf1 bk3 v74 v75)∧f40r2n4 f bf1 bk3 v74 v75=some o) ?_ (by rintro _ ⟨v74,v75,rfl,hk⟩; exact f40r2n4_ok f _ _ _ _ hk);rcases Qg h with ⟨h77,h⟩|⟨h77,h⟩
  ·refine rN Qf 2 [j3] [some true] [] [2] [0,1,10,11,12] (f40r2n2S bf1 bk3 v74 v75) (ap h77 an) ?_;obtain ⟨o107,h108,h⟩:=Qc h;cases o107 with
   | norm v109 =>
    refine T.oneN (by kernel_rfl) (f40r2n2_ok bf1 bk3 v74 v75 h108) (st2:=(f40r2n2E bf1 bk3 v74 v75 (.norm v109)).2) rfl ?_;exact rE Qf [j3] [] [] [2] [0,1,10,11,12] (.norm,(f40r2n4S bf1 bk3 (wr64 (v74+1)) v109)) an (Qt.norm ⟨(wr64 (v74+1)),v109,rfl,h⟩)
  ·obtain rfl:=Qd h;exact rK Qf 2 [j3] [some false] [] [2] [0] (.exit 0) ((f40r2n4E bf1 bk3 (.exit0 v75)).2) (ap h77 an) (Qt.out rfl rfl)
inductive f40r2n1O where
 | norm (v114:List Int)
def f40r2n1E(bf1:Int)(bk2 bk3:List Int):f40r2n1O→Ex×Tr×Hp
 | .norm v114=>(.norm,mkS [(0,(.own 2))],[none,some (.row false 1 (bk3.map (cInt .u64))),some (.row false 1 (v114.map (cInt .u8)))])
def f40r2n1S(bf1:Int)(bk2 bk3:List Int):Tr×Hp:=(mkS [(0,(.own 0)),(1,(jI bf1)),(2,(.own 1))],[some (.row false 1 (bk2.map (cInt .u8))),some (.row false 1 (bk3.map (cInt .u64)))])
noncomputable def f40r2n1(bf1:Int)(bk2 bk3:List Int):Option f40r2n1O :=
 (f40r2n4 FUEL bf1 bk3 0 bk2).bind fun o111=>match o111 with
 | .exit0 v113=>some (.norm v113)
theorem f40r2n1_ok(bf1:Int)(bk2 bk3:List Int){o:f40r2n1O}(h:f40r2n1 bf1 bk2 bk3=some o):T Try.prog Try.f40.ntmps 2 (cL (Qk 1 c40)) (f40r2n1S bf1 bk2 bk3) (·=f40r2n1E bf1 bk2 bk3 o):=by
 unfold f40r2n1 at h;refine rN Qf 1 [([],[],[(1,.val (jI (bk3.length:Int)))])] [] [.mov 0] [2] [0,1,10,11,12] (f40r2n4S bf1 bk3 0 bk2) (ap (Qn (xs:=bk3) (c:=(cInt .u64))) an) ?_;obtain ⟨o111,h112,h⟩:=Qc h;cases o111 with
 | exit0 v113 =>
  obtain rfl:=Qd h;exact T.last' (T.bl (i:=0) (by kernel_rfl) (by kernel_rfl) (f40r2n4_ok FUEL bf1 bk3 0 bk2 h112)) (tds:=[]) (m:=[2]) (keep:=[0]) (st2:=(f40r2n1E bf1 bk2 bk3 (.norm v113)).2) (by kernel_rfl) an rfl
inductive f40r2n0O where
 | ret (v118:List Int)
def f40r2n0E(a1:Int)(a2 a3:List Int):f40r2n0O→Ex×Tr×Hp
 | .ret v118=>(.ret,mkS [(6,(.own 2))],[none,some (.row false 1 (a3.map (cInt .u64))),some (.row false 1 (v118.map (cInt .u8)))])
def f40r2n0S(a1:Int)(a2 a3:List Int):Tr×Hp:=(Qai [(.own 0),(jI a1),(.own 1)] 0 .leaf,[some (.row false 1 (a2.map (cInt .u8))),some (.row false 1 (a3.map (cInt .u64)))])
noncomputable def f40r2n0(a1:Int)(a2 a3:List Int):Option f40r2n0O :=
 (f40r2n1 a1 a2 a3).bind fun o115=>match o115 with
 | .norm v117=>some (.ret v117)
theorem f40r2n0_ok(a1:Int)(a2 a3:List Int){o:f40r2n0O}(h:f40r2n0 a1 a2 a3=some o):T Try.prog Try.f40.ntmps 2 c40 (f40r2n0S a1 a2 a3) (·=f40r2n0E a1 a2 a3 o):=by
 unfold f40r2n0 at h;refine rN Qf 1 [j3] [] [] [] [0,1,2] (f40r2n1S a1 a2 a3) an ?_;obtain ⟨o115,h116,h⟩:=Qc h;cases o115 with
 | norm v117 =>
  refine T.oneN (by kernel_rfl) (f40r2n1_ok a1 a2 a3 h116) (st2:=(f40r2n1E a1 a2 a3 (.norm v117)).2) rfl ?_;obtain rfl:=Qd h;exact rE Qf [j3] [] [] [2] [6] (.ret,(f40r2n0E a1 a2 a3 (.ret v117)).2) an rfl
noncomputable def f40r2(a1:Int)(a2 a3:List Int):Option (List Int):=(f40r2n0 a1 a2 a3).bind fun o=>match o with
 | .ret v118=>some v118
theorem f40r2_ok(a1:Int)(a2 a3:List Int){r:List Int}(h:f40r2 a1 a2 a3=some r):Qm Try.prog true 40 [(.own 0),(jI a1),(.own 1)] [some (.row false 1 (a2.map (cInt .u8))),some (.row false 1 (a3.map (cInt .u64)))] (.own 2) [none,some (.row false 1 (a3.map (cInt .u64))),some (.row false 1 (r.map (cInt .u8)))]:=by
 unfold f40r2 at h;obtain ⟨o,ho,h⟩:=Qc h;cases o with
 | ret v118 =>
  obtain rfl:=Qd h;exact Qm.shared Qf (f:=Try.f40) (c:=c40) (by kernel_rfl) (by kernel_rfl) (by kernel_rfl) ((f40r2n0_ok a1 a2 a3 ho).mono fun r e=>by subst e; exact ⟨.inl rfl,by kernel_rfl,by kernel_rfl⟩)

noncomputable def c39:Code:=Try.f39.body.getD .skip
inductive f39r1n2O where
 | exit0 (v71:List Int)
def f39r1n2E(bb1:Qa):f39r1n2O→Ex×Tr×Hp
 | .exit0 v71=>((.exit 0),mkS [(5,(.own 0))],[some (.row false 1 (v71.map (cInt .u8)))])
def f39r1n2S(bb1:Qa)(v51:Int)(v52:List Int):Tr×Hp:=(mkS [(5,(.own 0)),(26,(jL 3 Qb.cells bb1.Lines)),(27,(jI (bb1.Lines.length:Int))),(28,(jI v51))],[some (.row false 1 (v52.map (cInt .u8)))])
noncomputable def f39r1n2:Nat→Qa→Int→List Int→Option f39r1n2O
 | 0,_,_,_=>none
 | f+1,bb1,v51,v52 =>
  bif decide (v51<(bb1.Lines.length:Int)) then
   (at? bb1.Lines v51).bind fun x63 =>
   (f56r1 x63.Account v52).bind fun x65 =>
   (f56r1 x63.Ccy x65).bind fun x67 =>
   (f40r2 8 x67 [(Qu x63.Amount)]).bind fun x69 =>
   (f39r1n2 f bb1 (wr64 (v51+1)) x69)
  else
   some (.exit0 v52)
theorem f39r1n2_ok:∀(f:Nat)(bb1:Qa)(v51:Int)(v52:List Int){o:f39r1n2O},f39r1n2 f bb1 v51 v52=some o→TL Try.prog Try.f39.ntmps 0 f (cL (cL (Qk 1 (cL (Qk 0 (Qk 3 c39)))))) (f39r1n2S bb1 v51 v52) (·=f39r1n2E bb1 o)
 | 0,_,_,_,o,h=>by rw [f39r1n2] at h; cases h
 | f+1,bb1,v51,v52,o,h=>by
  rw [f39r1n2] at h;refine TL.body (K:=fun s=>∃v51:Int,∃v52:List Int,s=(f39r1n2S bb1 v51 v52)∧f39r1n2 f bb1 v51 v52=some o) ?_ (by rintro _ ⟨v51,v52,rfl,hk⟩; exact f39r1n2_ok f _ _ _ hk);rcases Qg h with ⟨h54,h⟩|⟨h54,h⟩
  ·obtain ⟨x63,h64,h⟩:=Qc h;obtain ⟨x65,h66,h⟩:=Qc h;obtain ⟨x67,h68,h⟩:=Qc h;obtain ⟨x69,h70,h⟩:=Qc h
   exact rE Qf [j3,([],[(0,.idx (Int.toNat v51) (Qb.cells x63))],[]),([],[(3,.call (.own 4) (jN 4 [some (.row false 1 (x65.map (cInt .u8)))])),(6,.call (.own 5) (jN 5 [some (.row false 1 (x67.map (cInt .u8)))])),(11,.call (.own 6) [none,none,some (.row false 1 ([(Qu x63.Amount)].map (cInt .u64))),none,none,none,some (.row false 1 (x69.map (cInt .u8)))])],[]),j3] [some true] [] [6] [5,26,27,28] (.norm,(f39r1n2S bb1 (wr64 (v51+1)) x69)) (ap h54 (ap (Qj h64).1 (ap (Qs Qb.cells (Qj h64).2) (ap (same_refs (e:=⟨true,56,[(.own 0),(jS x63.Account)],[some (.row false 1 (v52.map (cInt .u8))),none,none,none],(.own 4),(jN 4 [some (.row false 1 (x65.map (cInt .u8)))])⟩) (f:=⟨true,56,[(.own 4),(jS x63.Ccy)],(jN 4 [some (.row false 1 (x65.map (cInt .u8)))]),(.own 5),(jN 5 [some (.row false 1 (x67.map (cInt .u8)))])⟩) (by kernel_rfl)) (ap (Qm.rn 4 [0] (f56r1_ok x63.Account v52 h66)) (ap (Qm.rn 5 [4] (f56r1_ok x63.Ccy x65 h68)) (ap (Qm.rn 6 [5,2] (f40r2_ok 8 x67 [(Qu x63.Amount)] h70)) an))))))) (Qt.norm ⟨(wr64 (v51+1)),x69,rfl,h⟩)
  ·obtain rfl:=Qd h;exact rK Qf 2 [j3] [some false] [] [0] [5] (.exit 0) ((f39r1n2E bb1 (.exit0 v52)).2) (ap h54 an) (Qt.out rfl rfl)
noncomputable def f39r1n2L(bb1:Qa):List Qb→Int→(List Int)→Option f39r1n2O
 | [],v51,v52 =>
  some (.exit0 v52)
 | x0::rest,v51,v52 =>
  (f56r1 x0.Account v52).bind fun x65 =>
  (f56r1 x0.Ccy x65).bind fun x67 =>
  (f40r2 8 x67 [(Qu x0.Amount)]).bind fun x69 =>
  (f39r1n2L bb1 rest (v51+1) x69)
theorem f39r1n2L_eq(bb1:Qa):∀(rest:List Qb)(f k:Nat)(v52:List Int),bb1.Lines.drop k=rest→bb1.Lines.length≤maxLen→rest.length<f→f39r1n2 f bb1 (k:Int) v52=f39r1n2L bb1 rest (k:Int) v52
 | _,0,_,_,_,_,hf=>absurd hf (Nat.not_lt_zero _)
 | [],f+1,k,v52,hd,hm,hf=>by
  have hk:¬((k:Int)<(bb1.Lines.length:Int)):=by have:=Qaj hd; omega
  rw [f39r1n2,f39r1n2L];simp only [decide_eq_false hk,cond_false]
 | x0::rest,f+1,k,v52,hd,hm,hf=>by
  obtain ⟨hx,hlt,hd'⟩:=Qx hd;have hk:(k:Int)<(bb1.Lines.length:Int):=by omega
  have hw:wr64 ((k:Int)+1)=(k:Int)+1:=Qr (by omega) (by unfold maxLen at hm; omega);have ih:∀(v52:List Int),f39r1n2 f bb1 ((k:Int)+1) v52=f39r1n2L bb1 rest ((k:Int)+1) v52:=fun v52=>f39r1n2L_eq bb1 rest f (k+1) v52 hd' hm (by simpa using hf);rw [f39r1n2,f39r1n2L];simp only [decide_eq_true hk,cond_true,Qaq,hx,Option.bind_some,hw,ih]
theorem f39r1n2_run(bb1:Qa)(v52:List Int)(hm:bb1.Lines.length≤maxLen):f39r1n2 FUEL bb1 0 v52=f39r1n2L bb1 bb1.Lines 0 v52:=f39r1n2L_eq bb1 bb1.Lines FUEL 0 v52 List.drop_zero hm (Qao hm)
inductive f39r1n1O where
 | norm (v75:List Int)
def f39r1n1E(bb1:Qa)(bk2:List Int):f39r1n1O→Ex×Tr×Hp
 | .norm v75=>(.norm,mkS [(5,(.own 0))],[some (.row false 1 (v75.map (cInt .u8)))])
def f39r1n1S(bb1:Qa)(bk2:List Int):Tr×Hp:=(mkS [(3,(.bp 0 0)),(5,(.own 1))],[some (.box 47 ((Qa.cells bb1).map .pl)),some (.row false 1 ((bk2++[(wru8 (bb1.Lines.length:Int))]).map (cInt .u8)))])
noncomputable def f39r1n1(bb1:Qa)(bk2:List Int):Option f39r1n1O :=
 (f39r1n2 FUEL bb1 0 (bk2++[(wru8 (bb1.Lines.length:Int))])).bind fun o72=>match o72 with
 | .exit0 v74=>some (.norm v74)
theorem f39r1n1_ok(bb1:Qa)(bk2:List Int){o:f39r1n1O}(h:f39r1n1 bb1 bk2=some o):T Try.prog Try.f39.ntmps 0 (cL (Qk 0 (Qk 3 c39))) (f39r1n1S bb1 bk2) (·=f39r1n1E bb1 bk2 o):=by
 unfold f39r1n1 at h;refine rN Qf 1 [([],[],[(2,.val (jI (bb1.Lines.length:Int)))])] [] [] [1] [5,26,27,28] (f39r1n2S bb1 0 (bk2++[(wru8 (bb1.Lines.length:Int))])) (ap (Qn (xs:=bb1.Lines) (c:=Qb.cells)) an) ?_;obtain ⟨o72,h73,h⟩:=Qc h;cases o72 with
 | exit0 v74 =>
  obtain rfl:=Qd h;exact T.last' (T.bl (i:=0) (by kernel_rfl) (by kernel_rfl) (f39r1n2_ok FUEL bb1 0 (bk2++[(wru8 (bb1.Lines.length:Int))]) h73)) (tds:=[]) (m:=[0]) (keep:=[5]) (st2:=(f39r1n1E bb1 bk2 (.norm v74)).2) (by kernel_rfl) an rfl
inductive f39r1n0O where
 | ret (v79:List Int)
def f39r1n0E(a1:Int)(a2:Qa):f39r1n0O→Ex×Tr×Hp
 | .ret v79=>(.ret,mkS [(4,(.own 0))],[some (.row false 1 (v79.map (cInt .u8)))])
def f39r1n0S(a1:Int)(a2:Qa):Tr×Hp:=(Qai [(jI a1),(jA Qa.cells a2)] 0 .leaf,[])
noncomputable def f39r1n0(a1:Int)(a2:Qa):Option f39r1n0O :=
 (f40r1 4 [(Qu a1),(Qu a2.Day)]).bind fun x7 =>
 (f56r1 a2.Text x7).bind fun x9 =>
 req (fit (x9.length+1) 1) <|
 (f39r1n1 a2 x9).bind fun o76=>match o76 with
 | .norm v78=>some (.ret v78)
theorem f39r1n0_ok(a1:Int)(a2:Qa){o:f39r1n0O}(h:f39r1n0 a1 a2=some o):T Try.prog Try.f39.ntmps 0 c39 (f39r1n0S a1 a2) (·=f39r1n0E a1 a2 o):=by
 unfold f39r1n0 at h;obtain ⟨x7,h8,h⟩:=Qc h;obtain ⟨x9,h10,h⟩:=Qc h;obtain ⟨h12,h⟩:=Qp h
 refine rN Qf 3 [j3,([],[(6,.call (.own 3) [none,some (.row false 1 ([(Qu a1),(Qu a2.Day)].map (cInt .u64))),none,some (.row false 1 (x7.map (cInt .u8)))]),(9,.call (.own 4) (jN 4 [some (.row false 1 (x9.map (cInt .u8)))]))],[]),([],[(6,.fits)],[(3,.val (jI (a2.Lines.length:Int))),(6,.row 6 ((x9++[(wru8 (a2.Lines.length:Int))]).map (cInt .u8)))])] [] [] [0,6] [3,5] (mkS [(3,(.bp 0 0)),(5,(.own 1))],[some (.box 47 ((Qa.cells a2).map .pl)),some (.row false 1 ((x9++[(wru8 (a2.Lines.length:Int))]).map (cInt .u8)))]) (ap (Qm.rn 3 [1] (f40r1_ok 4 [(Qu a1),(Qu a2.Day)] h8)) (ap (Qm.rn 4 [3] (f56r1_ok a2.Text x7 h10)) (ap (Qn (xs:=a2.Lines) (c:=Qb.cells)) (ap (Qbq (te:=ti5) (xs:=x9) (n:=1) (c:=(cInt .u8)) h12 rfl) (ap (Qap (xs:=x9) (ys:=[(wru8 (a2.Lines.length:Int))]) (c:=(cInt .u8))) an))))) ?_
 refine rN Qf 0 [] [] [] [0,1] [3,5] (f39r1n1S a2 x9) an ?_;obtain ⟨o76,h77,h⟩:=Qc h;cases o76 with
 | norm v78 =>
  refine T.oneN (by kernel_rfl) (f39r1n1_ok a2 x9 h77) (st2:=(f39r1n1E a2 x9 (.norm v78)).2) rfl ?_;obtain rfl:=Qd h;exact rE Qf [j3] [] [] [0] [4] (.ret,(f39r1n0E a1 a2 (.ret v78)).2) an rfl
noncomputable def f39r1(a1:Int)(a2:Qa):Option (List Int):=(f39r1n0 a1 a2).bind fun o=>match o with
 | .ret v79=>some v79
theorem f39r1_ok(a1:Int)(a2:Qa){r:List Int}(h:f39r1 a1 a2=some r):Qm Try.prog true 39 [(jI a1),(jA Qa.cells a2)] [] (.own 0) [some (.row false 1 (r.map (cInt .u8)))]:=by
 unfold f39r1 at h;obtain ⟨o,ho,h⟩:=Qc h;cases o with
 | ret v79 =>
  obtain rfl:=Qd h;exact Qm.shared Qf (f:=Try.f39) (c:=c39) (by kernel_rfl) (by kernel_rfl) (by kernel_rfl) ((f39r1n0_ok a1 a2 ho).mono fun r e=>by subst e; exact ⟨.inl rfl,by kernel_rfl,by kernel_rfl⟩)

noncomputable def c20:Code:=Try.f20.body.getD .skip
inductive f20n2O where
 | exit0 (v15:Int)
def f20n2E(bf1:Int)(bk2:List Int):f20n2O→Ex×Tr×Hp
 | .exit0 v15=>((.exit 0),mkS [(1,(.pl (.sl .any 1 (bk2.map (cInt .u8))))),(5,(.pl (.int .u64 v15)))],[])
def f20n2S(bf1:Int)(bk2:List Int)(v9 v10:Int):Tr×Hp:=(mkS [(0,(.pl (.int .u64 bf1))),(1,(.pl (.sl .any 1 (bk2.map (cInt .u8))))),(5,(.pl (.int .u64 v9))),(9,(jI v10))],[])
noncomputable def f20n2:Nat→Int→List Int→Int→Int→Option f20n2O
 | 0,_,_,_,_=>none
 | f+1,bf1,bk2,v9,v10 =>
  bif decide (v10<8) then
   req (decide (0≤(wr64 (8*v10)))) <|
   (f20n2 f bf1 bk2 (Qu ((IntKind.u64.wrap (BitVec.ofInt IntKind.u64.bits v9 ^^^ BitVec.ofInt IntKind.u64.bits (IntKind.u64.wrap (BitVec.ofInt IntKind.u64.bits (shrK .u64 bf1 (wr64 (8*v10))) &&& BitVec.ofInt IntKind.u64.bits 255).toNat)).toNat)*1099511628211)) (wr64 (v10+1)))
  else
   some (.exit0 v9)
theorem f20n2_ok:∀(f:Nat)(bf1:Int)(bk2:List Int)(v9 v10:Int){o:f20n2O},f20n2 f bf1 bk2 v9 v10=some o→TL Try.prog Try.f20.ntmps 0 f (cL (cL (Qk 1 (cL (Qk 2 c20))))) (f20n2S bf1 bk2 v9 v10) (·=f20n2E bf1 bk2 o)
 | 0,_,_,_,_,o,h=>by rw [f20n2] at h; cases h
 | f+1,bf1,bk2,v9,v10,o,h=>by
  rw [f20n2] at h;refine TL.body (K:=fun s=>∃v9:Int,∃v10:Int,s=(f20n2S bf1 bk2 v9 v10)∧f20n2 f bf1 bk2 v9 v10=some o) ?_ (by rintro _ ⟨v9,v10,rfl,hk⟩; exact f20n2_ok f _ _ _ _ hk);rcases Qg h with ⟨h12,h⟩|⟨h12,h⟩
  ·obtain ⟨h14,h⟩:=Qp h;exact rE Qf [j3,j3,([],[(4,.fits)],[]),j3] [some true] [] [] [0,1,5,9] (.norm,(f20n2S bf1 bk2 (Qu ((IntKind.u64.wrap (BitVec.ofInt IntKind.u64.bits v9 ^^^ BitVec.ofInt IntKind.u64.bits (IntKind.u64.wrap (BitVec.ofInt IntKind.u64.bits (shrK .u64 bf1 (wr64 (8*v10))) &&& BitVec.ofInt IntKind.u64.bits 255).toNat)).toNat)*1099511628211)) (wr64 (v10+1)))) (ap h12 (ap (le_of h14) an)) (Qt.norm ⟨(Qu ((IntKind.u64.wrap (BitVec.ofInt IntKind.u64.bits v9 ^^^ BitVec.ofInt IntKind.u64.bits (IntKind.u64.wrap (BitVec.ofInt IntKind.u64.bits (shrK .u64 bf1 (wr64 (8*v10))) &&& BitVec.ofInt IntKind.u64.bits 255).toNat)).toNat)*1099511628211)),(wr64 (v10+1)),rfl,h⟩)
  ·obtain rfl:=Qd h;exact rK Qf 2 [j3] [some false] [] [] [1,5] (.exit 0) ((f20n2E bf1 bk2 (.exit0 v9)).2) (ap h12 an) (Qt.out rfl rfl)
inductive f20n1O where
 | norm (v19:Int)
def f20n1E(bf1:Int)(bk2:List Int):f20n1O→Ex×Tr×Hp
 | .norm v19=>(.norm,mkS [(1,(.pl (.sl .any 1 (bk2.map (cInt .u8))))),(5,(.pl (.int .u64 v19)))],[])
def f20n1S(bf1:Int)(bk2:List Int):Tr×Hp:=(mkS [(0,(.pl (.int .u64 bf1))),(1,(.pl (.sl .any 1 (bk2.map (cInt .u8))))),(5,(.pl (.int .u64 14695981039346656037)))],[])
noncomputable def f20n1(bf1:Int)(bk2:List Int):Option f20n1O :=
 (f20n2 FUEL bf1 bk2 14695981039346656037 0).bind fun o16=>match o16 with
 | .exit0 v18=>some (.norm v18)
theorem f20n1_ok(bf1:Int)(bk2:List Int){o:f20n1O}(h:f20n1 bf1 bk2=some o):T Try.prog Try.f20.ntmps 0 (cL (Qk 2 c20)) (f20n1S bf1 bk2) (·=f20n1E bf1 bk2 o):=by
 unfold f20n1 at h;refine rN Qf 1 [j3] [] [] [] [0,1,5,9] (f20n2S bf1 bk2 14695981039346656037 0) an ?_;obtain ⟨o16,h17,h⟩:=Qc h;cases o16 with
 | exit0 v18 =>
  obtain rfl:=Qd h;exact T.last' (T.bl (i:=0) (by kernel_rfl) (by kernel_rfl) (f20n2_ok FUEL bf1 bk2 14695981039346656037 0 h17)) (tds:=[]) (m:=[]) (keep:=[1,5]) (st2:=(f20n1E bf1 bk2 (.norm v18)).2) (by kernel_rfl) an rfl
inductive f20n4O where
 | exit2 (v45:Int)
def f20n4E(bk1:List Int):f20n4O→Ex×Tr×Hp
 | .exit2 v45=>((.exit 2),mkS [(5,(.pl (.int .u64 v45)))],[])
def f20n4S(bk1:List Int)(v37 v38:Int):Tr×Hp:=(mkS [(5,(.pl (.int .u64 v37))),(21,(.pl (.sl .any 1 (bk1.map (cInt .u8))))),(22,(jI (bk1.length:Int))),(23,(jI v38))],[])
noncomputable def f20n4:Nat→List Int→Int→Int→Option f20n4O
 | 0,_,_,_=>none
 | f+1,bk1,v37,v38 =>
  bif decide (v38<(bk1.length:Int)) then
   (at? bk1 v38).bind fun x43 =>
   (f20n4 f bk1 (Qu ((IntKind.u64.wrap (BitVec.ofInt IntKind.u64.bits v37 ^^^ BitVec.ofInt IntKind.u64.bits (Qu x43)).toNat)*1099511628211)) (wr64 (v38+1)))
  else
   some (.exit2 v37)
theorem f20n4_ok:∀(f:Nat)(bk1:List Int)(v37 v38:Int){o:f20n4O},f20n4 f bk1 v37 v38=some o→TL Try.prog Try.f20.ntmps 0 f (cL (cL (Qk 1 (cL (Qk 0 (Qk 1 (Qk 2 c20))))))) (f20n4S bk1 v37 v38) (·=f20n4E bk1 o)
 | 0,_,_,_,o,h=>by rw [f20n4] at h; cases h
 | f+1,bk1,v37,v38,o,h=>by
  rw [f20n4] at h;refine TL.body (K:=fun s=>∃v37:Int,∃v38:Int,s=(f20n4S bk1 v37 v38)∧f20n4 f bk1 v37 v38=some o) ?_ (by rintro _ ⟨v37,v38,rfl,hk⟩; exact f20n4_ok f _ _ _ hk);rcases Qg h with ⟨h40,h⟩|⟨h40,h⟩
  ·obtain ⟨x43,h44,h⟩:=Qc h;exact rE Qf [j3,([],[(0,.idx (Int.toNat v38) ((cInt .u8) x43))],[]),j3,j3] [some true] [] [] [5,21,22,23] (.norm,(f20n4S bk1 (Qu ((IntKind.u64.wrap (BitVec.ofInt IntKind.u64.bits v37 ^^^ BitVec.ofInt IntKind.u64.bits (Qu x43)).toNat)*1099511628211)) (wr64 (v38+1)))) (ap h40 (ap (Qj h44).1 (ap (Qs (cInt .u8) (Qj h44).2) an))) (Qt.norm ⟨(Qu ((IntKind.u64.wrap (BitVec.ofInt IntKind.u64.bits v37 ^^^ BitVec.ofInt IntKind.u64.bits (Qu x43)).toNat)*1099511628211)),(wr64 (v38+1)),rfl,h⟩)
  ·obtain rfl:=Qd h;exact rK Qf 2 [j3] [some false] [] [] [5] (.exit 2) ((f20n4E bk1 (.exit2 v37)).2) (ap h40 an) (Qt.out rfl rfl)
noncomputable def f20n4L(bk1:List Int):List Int→Int→Int→Option f20n4O
 | [],v37,v38 =>
  some (.exit2 v37)
 | x0::rest,v37,v38 =>
  (f20n4L bk1 rest (Qu ((IntKind.u64.wrap (BitVec.ofInt IntKind.u64.bits v37 ^^^ BitVec.ofInt IntKind.u64.bits (Qu x0)).toNat)*1099511628211)) (v38+1))
theorem f20n4L_eq(bk1:List Int):∀(rest:List Int)(f k:Nat)(v37:Int),bk1.drop k=rest→bk1.length≤maxLen→rest.length<f→f20n4 f bk1 v37 (k:Int)=f20n4L bk1 rest v37 (k:Int)
 | _,0,_,_,_,_,hf=>absurd hf (Nat.not_lt_zero _)
 | [],f+1,k,v37,hd,hm,hf=>by
  have hk:¬((k:Int)<(bk1.length:Int)):=by have:=Qaj hd; omega
  rw [f20n4,f20n4L];simp only [decide_eq_false hk,cond_false]
 | x0::rest,f+1,k,v37,hd,hm,hf=>by
  obtain ⟨hx,hlt,hd'⟩:=Qx hd;have hk:(k:Int)<(bk1.length:Int):=by omega
  have hw:wr64 ((k:Int)+1)=(k:Int)+1:=Qr (by omega) (by unfold maxLen at hm; omega);have ih:∀(v37:Int),f20n4 f bk1 v37 ((k:Int)+1)=f20n4L bk1 rest v37 ((k:Int)+1):=fun v37=>f20n4L_eq bk1 rest f (k+1) v37 hd' hm (by simpa using hf);rw [f20n4,f20n4L];simp only [decide_eq_true hk,cond_true,Qaq,hx,Option.bind_some,hw,ih]
theorem f20n4_run(bk1:List Int)(v37:Int)(hm:bk1.length≤maxLen):f20n4 FUEL bk1 v37 0=f20n4L bk1 bk1 v37 0:=f20n4L_eq bk1 bk1 FUEL 0 v37 List.drop_zero hm (Qao hm)
inductive f20n3O where
 | norm (v49:Int)
def f20n3E(bk1:List Int)(bf2:Int):f20n3O→Ex×Tr×Hp
 | .norm v49=>(.norm,mkS [(5,(.pl (.int .u64 v49)))],[])
def f20n3S(bk1:List Int)(bf2:Int):Tr×Hp:=(mkS [(1,(.pl (.sl .any 1 (bk1.map (cInt .u8))))),(5,(.pl (.int .u64 bf2)))],[])
noncomputable def f20n3(bk1:List Int)(bf2:Int):Option f20n3O :=
 (f20n4 FUEL bk1 bf2 0).bind fun o46=>match o46 with
 | .exit2 v48=>some (.norm v48)
theorem f20n3_ok(bk1:List Int)(bf2:Int){o:f20n3O}(h:f20n3 bk1 bf2=some o):T Try.prog Try.f20.ntmps 0 (cL (Qk 0 (Qk 1 (Qk 2 c20)))) (f20n3S bk1 bf2) (·=f20n3E bk1 bf2 o):=by
 unfold f20n3 at h;refine rN Qf 1 [([],[],[(1,.val (jI (bk1.length:Int)))])] [] [] [] [5,21,22,23] (f20n4S bk1 bf2 0) (ap (Qn (xs:=bk1) (c:=(cInt .u8))) an) ?_;obtain ⟨o46,h47,h⟩:=Qc h;cases o46 with
 | exit2 v48 =>
  obtain rfl:=Qd h;exact T.last' (T.bl (i:=2) (by kernel_rfl) (by kernel_rfl) (f20n4_ok FUEL bk1 bf2 0 h47)) (tds:=[]) (m:=[]) (keep:=[5]) (st2:=(f20n3E bk1 bf2 (.norm v48)).2) (by kernel_rfl) an rfl
inductive f20n0O where
 | ret (v53:Int)
def f20n0E(a1:Int)(a2:List Int):f20n0O→Ex×Tr×Hp
 | .ret v53=>(.ret,mkS [(4,(.pl (.int .u64 v53)))],[])
def f20n0S(a1:Int)(a2:List Int):Tr×Hp:=(Qai [(.pl (.int .u64 a1)),(.pl (.sl .any 1 (a2.map (cInt .u8))))] 0 .leaf,[])
noncomputable def f20n0(a1:Int)(a2:List Int):Option f20n0O :=
 (f20n1 a1 a2).bind fun o20=>match o20 with
 | .norm v22=>(f20n3 a2 v22).bind fun o50=>match o50 with
  | .norm v52=>some (.ret v52)
theorem f20n0_ok(a1:Int)(a2:List Int){o:f20n0O}(h:f20n0 a1 a2=some o):T Try.prog Try.f20.ntmps 0 c20 (f20n0S a1 a2) (·=f20n0E a1 a2 o):=by
 unfold f20n0 at h;refine rN Qf 2 [j3,j3] [] [] [] [0,1,5] (f20n1S a1 a2) an ?_;obtain ⟨o20,h21,h⟩:=Qc h;cases o20 with
 | norm v22 =>
  refine T.oneN (by kernel_rfl) (f20n1_ok a1 a2 h21) (st2:=(f20n1E a1 a2 (.norm v22)).2) rfl ?_;refine rN Qf 0 [] [] [] [] [1,5] (f20n3S a2 v22) an ?_;obtain ⟨o50,h51,h⟩:=Qc h;cases o50 with
  | norm v52 =>
   refine T.oneN (by kernel_rfl) (f20n3_ok a2 v22 h51) (st2:=(f20n3E a2 v22 (.norm v52)).2) rfl ?_;obtain rfl:=Qd h;exact rE Qf [j3] [] [] [] [4] (.ret,(f20n0E a1 a2 (.ret v52)).2) an rfl
noncomputable def f20(a1:Int)(a2:List Int):Option Int:=(f20n0 a1 a2).bind fun o=>match o with
 | .ret v53=>some v53
theorem f20_ok(a1:Int)(a2:List Int){r:Int}(h:f20 a1 a2=some r):Qm Try.prog false 20 [(.pl (.int .u64 a1)),(.pl (.sl .any 1 (a2.map (cInt .u8))))] [] (.pl (.int .u64 r)) []:=by
 unfold f20 at h;obtain ⟨o,ho,h⟩:=Qc h;cases o with
 | ret v53 =>
  obtain rfl:=Qd h;exact Qm.plain Qf (f:=Try.f20) (c:=c20) (by kernel_rfl) (by kernel_rfl) (by kernel_rfl) (by kernel_rfl) ((f20n0_ok a1 a2 ho).mono fun r e=>by subst e; exact ⟨.inl rfl,(.pl (.int .u64 v53)),(.pl (.int .u64 v53)),by kernel_rfl,by kernel_rfl,((Wk.refl _):Wk (.pl (.int .u64 v53)) (.pl (.int .u64 v53)))⟩)

noncomputable def c13:Code:=Try.f13.body.getD .skip
inductive f13n2O where
 | exit0 (v104:List Int)
def f13n2E(ba1:Qh):f13n2O→Ex×Tr×Hp
 | .exit0 v104=>((.exit 0),mkS [(5,(.own 0))],[some (.row false 1 (v104.map (cInt .u8)))])
def f13n2S(ba1:Qh)(v71 v72:Int)(v73:List Int):Tr×Hp:=(mkS [(5,(.own 0)),(6,(.pl (.int .u64 v71))),(16,(jL 3 Qa.cells ba1.Records)),(17,(jI (ba1.Records.length:Int))),(18,(jI v72))],[some (.row false 1 (v73.map (cInt .u8)))])
noncomputable def f13n2:Nat→Qh→Int→Int→List Int→Option f13n2O
 | 0,_,_,_,_=>none
 | f+1,ba1,v71,v72,v73 =>
  bif decide (v72<(ba1.Records.length:Int)) then
   (at? ba1.Records v72).bind fun x90 =>
   (f39r1 (wr64 (v72+1)) x90).bind fun x92 =>
   (f20 v71 x92).bind fun x94 =>
   (f40r2 4 v73 [(Qu (x92.length:Int))]).bind fun x96 =>
   bif (x92.isEmpty) then
    (f40r2 8 x96 [x94]).bind fun x99 =>
    (f13n2 f ba1 x94 (wr64 (v72+1)) x99)
   else
    req (fit (x96.length+x92.length) 1) <|
    (f40r2 8 (x96++x92) [x94]).bind fun x102 =>
    (f13n2 f ba1 x94 (wr64 (v72+1)) x102)
  else
   some (.exit0 v73)
theorem f13n2_ok:∀(f:Nat)(ba1:Qh)(v71 v72:Int)(v73:List Int){o:f13n2O},f13n2 f ba1 v71 v72 v73=some o→TL Try.prog Try.f13.ntmps 0 f (cL (cL (Qk 1 (cL (Qk 4 c13))))) (f13n2S ba1 v71 v72 v73) (·=f13n2E ba1 o)
 | 0,_,_,_,_,o,h=>by rw [f13n2] at h; cases h
 | f+1,ba1,v71,v72,v73,o,h=>by
  rw [f13n2] at h;refine TL.body (K:=fun s=>∃v71:Int,∃v72:Int,∃v73:List Int,s=(f13n2S ba1 v71 v72 v73)∧f13n2 f ba1 v71 v72 v73=some o) ?_ (by rintro _ ⟨v71,v72,v73,rfl,hk⟩; exact f13n2_ok f _ _ _ _ hk);rcases Qg h with ⟨h75,h⟩|⟨h75,h⟩
  ·obtain ⟨x90,h91,h⟩:=Qc h;obtain ⟨x92,h93,h⟩:=Qc h;obtain ⟨x94,h95,h⟩:=Qc h;obtain ⟨x96,h97,h⟩:=Qc h;rcases Qg h with ⟨h98,h⟩|⟨h98,h⟩
   ·obtain ⟨x99,h100,h⟩:=Qc h
    exact rE Qf [j3,([],[(1,.idx (Int.toNat v72) (Qa.cells x90))],[]),([],[(3,.call (.own 2) [none,none,some (.row false 1 (x92.map (cInt .u8)))])],[]),([],[jH 2 (.pl (.int .u64 x94))],[]),([],[(5,.call (.own 4) (jN 3 [some (.row false 1 ([(Qu (x92.length:Int))].map (cInt .u64))),some (.row false 1 (x96.map (cInt .u8)))])),(7,.app false),(10,.call (.own 6) (jN 5 [some (.row false 1 ([x94].map (cInt .u64))),some (.row false 1 (x99.map (cInt .u8)))]))],[(2,.val (jI (x92.length:Int)))]),j3] [some true] [] [6] [5,6,16,17,18] (.norm,(f13n2S ba1 x94 (wr64 (v72+1)) x99)) (ap h75 (ap (Qj h91).1 (ap (Qs Qa.cells (Qj h91).2) (ap (Qm.rn 2 [] (f39r1_ok (wr64 (v72+1)) x90 h93)) (ap (f20_ok v71 x92 h95) (ap (Qn (xs:=x92) (c:=(cInt .u8))) (ap (Qbc (c:=(cInt .u8)) h98) (ap (Qm.rn 4 [0,3] (f40r2_ok 4 v73 [(Qu (x92.length:Int))] h97)) (ap (Qm.rn 6 [4,5] (f40r2_ok 8 x96 [x94] h100)) an))))))))) (Qt.norm ⟨x94,(wr64 (v72+1)),x99,rfl,h⟩)
   ·obtain ⟨h101,h⟩:=Qp h;obtain ⟨x102,h103,h⟩:=Qc h
    exact rE Qf [j3,([],[(1,.idx (Int.toNat v72) (Qa.cells x90))],[]),([],[(3,.call (.own 2) [none,none,some (.row false 1 (x92.map (cInt .u8)))])],[]),([],[jH 2 (.pl (.int .u64 x94))],[]),([],[(5,.call (.own 4) (jN 3 [some (.row false 1 ([(Qu (x92.length:Int))].map (cInt .u64))),some (.row false 1 (x96.map (cInt .u8)))])),(7,.app true),(10,.call (.own 7) (jN 6 [some (.row false 1 ([x94].map (cInt .u64))),some (.row false 1 (x102.map (cInt .u8)))]))],[(2,.val (jI (x92.length:Int))),(7,.row 5 ((x96++x92).map (cInt .u8)))]),j3] [some true] [] [7] [5,6,16,17,18] (.norm,(f13n2S ba1 x94 (wr64 (v72+1)) x102)) (ap h75 (ap (Qj h91).1 (ap (Qs Qa.cells (Qj h91).2) (ap (Qm.rn 2 [] (f39r1_ok (wr64 (v72+1)) x90 h93)) (ap (f20_ok v71 x92 h95) (ap (Qn (xs:=x92) (c:=(cInt .u8))) (ap (Qbj (te:=ti5) (xs:=x96) (ys:=x92) (c:=(cInt .u8)) (d:=(cInt .u8)) h101 rfl) (ap (Qcf (c:=(cInt .u8)) h98) (ap (Qbd (c:=(cInt .u8)) (xs:=x92) (n:=1) (fun _=>rfl)) (ap (Qap (xs:=x96) (ys:=x92) (c:=(cInt .u8))) (ap (Qm.rn 4 [0,3] (f40r2_ok 4 v73 [(Qu (x92.length:Int))] h97)) (ap (Qm.rn 7 [5,6] (f40r2_ok 8 (x96++x92) [x94] h103)) an)))))))))))) (Qt.norm ⟨x94,(wr64 (v72+1)),x102,rfl,h⟩)
  ·obtain rfl:=Qd h;exact rK Qf 2 [j3] [some false] [] [0] [5] (.exit 0) ((f13n2E ba1 (.exit0 v73)).2) (ap h75 an) (Qt.out rfl rfl)
noncomputable def f13n2L(ba1:Qh):List Qa→Int→Int→(List Int)→Option f13n2O
 | [],v71,v72,v73 =>
  some (.exit0 v73)
 | x0::rest,v71,v72,v73 =>
  (f39r1 (wr64 (v72+1)) x0).bind fun x92 =>
  (f20 v71 x92).bind fun x94 =>
  (f40r2 4 v73 [(Qu (x92.length:Int))]).bind fun x96 =>
  bif (x92.isEmpty) then
   (f40r2 8 x96 [x94]).bind fun x99 =>
   (f13n2L ba1 rest x94 (v72+1) x99)
  else
   req (fit (x96.length+x92.length) 1) <|
   (f40r2 8 (x96++x92) [x94]).bind fun x102 =>
   (f13n2L ba1 rest x94 (v72+1) x102)
theorem f13n2L_eq(ba1:Qh):∀(rest:List Qa)(f k:Nat)(v71:Int)(v73:List Int),ba1.Records.drop k=rest→ba1.Records.length≤maxLen→rest.length<f→f13n2 f ba1 v71 (k:Int) v73=f13n2L ba1 rest v71 (k:Int) v73
 | _,0,_,_,_,_,_,hf=>absurd hf (Nat.not_lt_zero _)
 | [],f+1,k,v71,v73,hd,hm,hf=>by
  have hk:¬((k:Int)<(ba1.Records.length:Int)):=by have:=Qaj hd; omega
  rw [f13n2,f13n2L];simp only [decide_eq_false hk,cond_false]
 | x0::rest,f+1,k,v71,v73,hd,hm,hf=>by
  obtain ⟨hx,hlt,hd'⟩:=Qx hd;have hk:(k:Int)<(ba1.Records.length:Int):=by omega
  have hw:wr64 ((k:Int)+1)=(k:Int)+1:=Qr (by omega) (by unfold maxLen at hm; omega);have ih:∀(v71:Int)(v73:List Int),f13n2 f ba1 v71 ((k:Int)+1) v73=f13n2L ba1 rest v71 ((k:Int)+1) v73:=fun v71 v73=>f13n2L_eq ba1 rest f (k+1) v71 v73 hd' hm (by simpa using hf);rw [f13n2,f13n2L];simp only [decide_eq_true hk,cond_true,Qaq,hx,Option.bind_some,hw,ih]
theorem f13n2_run(ba1:Qh)(v71:Int)(v73:List Int)(hm:ba1.Records.length≤maxLen):f13n2 FUEL ba1 v71 0 v73=f13n2L ba1 ba1.Records v71 0 v73:=f13n2L_eq ba1 ba1.Records FUEL 0 v71 v73 List.drop_zero hm (Qao hm)
inductive f13n1O where
 | norm (v108:List Int)
def f13n1E(ba1:Qh):f13n1O→Ex×Tr×Hp
 | .norm v108=>(.norm,mkS [(5,(.own 0))],[some (.row false 1 (v108.map (cInt .u8)))])
def f13n1S(ba1:Qh):Tr×Hp:=(mkS [(1,(.bp 0 0)),(5,(.pl (.sl .nil 0 []))),(6,(.pl (.int .u64 0)))],[some (.box 24 ((Qh.cells ba1).map .pl))])
noncomputable def f13n1(ba1:Qh):Option f13n1O :=
 (f13n2 FUEL ba1 0 0 []).bind fun o105=>match o105 with
 | .exit0 v107=>some (.norm v107)
theorem f13n1_ok(ba1:Qh){o:f13n1O}(h:f13n1 ba1=some o):T Try.prog Try.f13.ntmps 0 (cL (Qk 4 c13)) (f13n1S ba1) (·=f13n1E ba1 o):=by
 unfold f13n1 at h;refine rN Qf 1 [([],[],[(2,.val (jI (ba1.Records.length:Int)))])] [] [.mat 5 1] [1] [5,6,16,17,18] (f13n2S ba1 0 0 []) (ap (Qn (xs:=ba1.Records) (c:=Qa.cells)) an) ?_;obtain ⟨o105,h106,h⟩:=Qc h;cases o105 with
 | exit0 v107 =>
  obtain rfl:=Qd h;exact T.last' (T.bl (i:=0) (by kernel_rfl) (by kernel_rfl) (f13n2_ok FUEL ba1 0 0 [] h106)) (tds:=[]) (m:=[0]) (keep:=[5]) (st2:=(f13n1E ba1 (.norm v107)).2) (by kernel_rfl) an rfl
inductive f13n0O where
 | ret (v112:Int) (v113:List Int)
def f13n0E(a1:Qh):f13n0O→Ex×Tr×Hp
 | .ret v112 v113=>(.ret,mkS [(2,(.own 0)),(3,(jI v112))],[some (.row false 1 (v113.map (cInt .u8)))])
def f13n0S(a1:Qh):Tr×Hp:=(Qai [(jA Qh.cells a1)] 0 .leaf,[])
noncomputable def f13n0(a1:Qh):Option f13n0O :=
 (f28 a1).bind fun x5 =>
 bif decide (x5=0) then
  (f13n1 a1).bind fun o109=>match o109 with
  | .norm v111=>some (.ret 0 v111)
 else
  some (.ret x5 [])
theorem f13n0_ok(a1:Qh){o:f13n0O}(h:f13n0 a1=some o):T Try.prog Try.f13.ntmps 0 c13 (f13n0S a1) (·=f13n0E a1 o):=by
 unfold f13n0 at h;obtain ⟨x5,h6,h⟩:=Qc h;rcases Qg h with ⟨h7,h⟩|⟨h7,h⟩
 ·refine rN Qf 4 [j3,([],[jH 1 (jI x5)],[]),j3,j3,j3] [some false] [] [0] [1,5,6] (f13n1S a1) (ap (f28_ok a1 h6) (ap (Qq h7) an)) ?_;obtain ⟨o109,h110,h⟩:=Qc h;cases o109 with
  | norm v111 =>
   refine T.oneN (by kernel_rfl) (f13n1_ok a1 h110) (st2:=(f13n1E a1 (.norm v111)).2) rfl ?_;obtain rfl:=Qd h;exact rE Qf [j3] [] [] [0] [2,3] (.ret,(f13n0E a1 (.ret 0 v111)).2) an rfl
 ·obtain rfl:=Qd h;exact rK Qf 2 [j3,([],[jH 1 (jI x5)],[]),j3,j3] [some true] [.mat 2 1] [1] [2,3] .ret ((f13n0E a1 (.ret x5 [])).2) (ap (f28_ok a1 h6) (ap (Qac h7) an)) rfl
noncomputable def f13(a1:Qh):Option ((List Int)×Int):=(f13n0 a1).bind fun o=>match o with
 | .ret v112 v113=>some (v113,v112)
theorem f13_ok(a1:Qh){r:(List Int)×Int}(h:f13 a1=some r):Qm Try.prog false 13 [(jA Qh.cells a1)] [] (.tup [(.pl (.sl .any 1 (r.1.map (cInt .u8)))),(jI r.2)]) []:=by
 unfold f13 at h;obtain ⟨o,ho,h⟩:=Qc h;cases o with
 | ret v112 v113 =>
  obtain rfl:=Qd h;exact Qm.plain Qf (f:=Try.f13) (c:=c13) (by kernel_rfl) (by kernel_rfl) (by kernel_rfl) (by kernel_rfl) ((f13n0_ok a1 ho).mono fun r e=>by subst e; exact ⟨.inl rfl,(.tup [(.own 0),(jI v112)]),(.tup [(.pl (.sl .any 1 (v113.map (cInt .u8)))),(jI v112)]),by kernel_rfl,by kernel_rfl,((Wk.refl _):Wk (.tup [(.pl (.sl .any 1 (v113.map (cInt .u8)))),(jI v112)]) (.tup [(.pl (.sl .any 1 (v113.map (cInt .u8)))),(jI v112)]))⟩)

noncomputable def c18:Code:=Try.f18.body.getD .skip
inductive f18n0O where
 | ret
def f18n0E(a1 a2:List Int):f18n0O→Ex×Tr×Hp
 | .ret=>(.ret,mkS [(4,(.pl (.bool (seq (sOf a1) (sOf a2)))))],[])
def f18n0S(a1 a2:List Int):Tr×Hp:=(Qai [(.pl (.sl .any 1 (a1.map (cInt .u8)))),(.pl (.sl .any 1 (a2.map (cInt .u8))))] 0 .leaf,[])
noncomputable def f18n0(a1 a2:List Int):Option f18n0O :=
 some .ret
theorem f18n0_ok(a1 a2:List Int){o:f18n0O}(h:f18n0 a1 a2=some o):T Try.prog Try.f18.ntmps 0 c18 (f18n0S a1 a2) (·=f18n0E a1 a2 o):=by
 unfold f18n0 at h;obtain rfl:=Qd h;exact rE Qf [j3,([],[(1,.bs (toB a1)),(3,.bs (toB a2))],[])] [] [] [] [4] (.ret,(f18n0E a1 a2 .ret).2) (ap (bytes_map a1) (ap (bytes_map a2) an)) rfl
noncomputable def f18(a1 a2:List Int):Option Bool:=(f18n0 a1 a2).bind fun o=>match o with
 | .ret=>some (seq (sOf a1) (sOf a2))
theorem f18_ok(a1 a2:List Int){r:Bool}(h:f18 a1 a2=some r):Qm Try.prog false 18 [(.pl (.sl .any 1 (a1.map (cInt .u8)))),(.pl (.sl .any 1 (a2.map (cInt .u8))))] [] (jB r) []:=by
 unfold f18 at h;obtain ⟨o,ho,h⟩:=Qc h;cases o with
 | ret =>
  obtain rfl:=Qd h;exact Qm.plain Qf (f:=Try.f18) (c:=c18) (by kernel_rfl) (by kernel_rfl) (by kernel_rfl) (by kernel_rfl) ((f18n0_ok a1 a2 ho).mono fun r e=>by subst e; exact ⟨.inl rfl,(.pl (.bool (seq (sOf a1) (sOf a2)))),(.pl (.bool (seq (sOf a1) (sOf a2)))),by kernel_rfl,by kernel_rfl,((Wk.refl _):Wk (.pl (.bool (seq (sOf a1) (sOf a2)))) (.pl (.bool (seq (sOf a1) (sOf a2)))))⟩)
end Go.Proofs.Ytbgjlpdeoljmiaa
