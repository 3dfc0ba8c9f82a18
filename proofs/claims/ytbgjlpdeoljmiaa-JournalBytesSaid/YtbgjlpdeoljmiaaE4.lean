/- Several texts in one. No condition. -/
import Derived.Test.YtbgjlpdeoljmiaaE2
namespace Go.Proofs.Ytbgjlpdeoljmiaa
set_option linter.unusedVariables false
set_option linter.unusedSimpArgs false
set_option maxRecDepth 100000
open Go.RowKit
noncomputable def c38:Code:=Try.f38.body.getD .skip
inductive f38r1n0O where
 | ret
def f38r1n0E:f38r1n0O→Ex×Tr×Hp
 | .ret=>(.ret,mkS [(0,(.own 0))],[some (.row false 1 ([1,0,0,0,1,0,0,0,1,120,2,1,97,3,69,85,82,5,0,0,0,0,0,0,0,1,98,3,69,85,82,251,255,255,255,255,255,255,255].map (cInt .u8)))])
def f38r1n0S:Tr×Hp:=(Qai [] 0 .leaf,[])
noncomputable def f38r1n0:Option f38r1n0O :=
 some .ret
theorem f38r1n0_ok{o:f38r1n0O}(h:f38r1n0=some o):T Try.prog Try.f38.ntmps 0 c38 f38r1n0S (·=f38r1n0E o):=by
 unfold f38r1n0 at h;obtain rfl:=Qd h;exact rE Qf [j3,j3] [] [] [0] [0] (.ret,(f38r1n0E .ret).2) an rfl
noncomputable def f38r1:Option Unit:=f38r1n0.bind fun o=>match o with
 | .ret=>some ()
theorem f38r1_ok{r:Unit}(h:f38r1=some r):Qm Try.prog true 38 [] [] (.own 0) [some (.row false 1 ([1,0,0,0,1,0,0,0,1,120,2,1,97,3,69,85,82,5,0,0,0,0,0,0,0,1,98,3,69,85,82,251,255,255,255,255,255,255,255].map (cInt .u8)))]:=by
 unfold f38r1 at h;obtain ⟨o,ho,h⟩:=Qc h;cases o with
 | ret =>
  obtain rfl:=Qd h;exact Qm.shared Qf (f:=Try.f38) (c:=c38) (by kernel_rfl) (by kernel_rfl) (by kernel_rfl) ((f38r1n0_ok  ho).mono fun r e=>by subst e; exact ⟨.inl rfl,by kernel_rfl,by kernel_rfl⟩)

noncomputable def c59:Code:=Try.f59.body.getD .skip
inductive f59r1n0O where
 | pan
 | ret
def f59r1n0E(a1:Int)(a2:Qi):f59r1n0O→Ex×Tr×Hp
 | .pan=>((.pan panV),mkS [],[some (.box 83 ((Qi.cells a2).map .pl))])
 | .ret=>(.ret,mkS [(4,(.pl (.sl .any 1 (((a2.b.take (Int.toNat a1)).drop 0).map (cInt .u8)))))],[some (.box 83 ((Qi.cells (Qi.mk (a2.b.drop (Int.toNat a1)))).map .pl))])
def f59r1n0S(a1:Int)(a2:Qi):Tr×Hp:=(Qai [(.bp 0 0),(jI a1)] 0 .leaf,[some (.box 83 ((Qi.cells a2).map .pl))])
noncomputable def f59r1n0(a1:Int)(a2:Qi):Option f59r1n0O :=
 bif decide ((a2.b.length:Int)<a1) then
  some .pan
 else
  req (cutB 0 a1 a2.b.length) <|
  req (cutB a1 (a2.b.length:Int) a2.b.length) <|
  some .ret
theorem f59r1n0_ok(a1:Int)(a2:Qi){o:f59r1n0O}(h:f59r1n0 a1 a2=some o):T Try.prog Try.f59.ntmps 1 c59 (f59r1n0S a1 a2) (·=f59r1n0E a1 a2 o):=by
 unfold f59r1n0 at h;rcases Qg h with ⟨h4,h⟩|⟨h4,h⟩
 ·obtain rfl:=Qd h;exact rK Qf 2 [j3,([],[],[(5,.val (jI (a2.b.length:Int)))]),([],[(2,.die panV)],[])] [some true] [] [] [] (.pan panV) ((f59r1n0E a1 a2 .pan).2) (ap (Qn (xs:=a2.b) (c:=(cInt .u8))) (ap h4 (ap (rfl:panV=panV) an))) rfl
 ·obtain ⟨h6,h⟩:=Qp h;obtain ⟨h8,h⟩:=Qp h;obtain rfl:=Qd h
  exact rE Qf [j3,([],[],[(5,.val (jI (a2.b.length:Int)))]),([],[(5,.cut 0 (Int.toNat a1))],[(5,.val (.pl (.sl .any 1 (((a2.b.take (Int.toNat a1)).drop 0).map (cInt .u8)))))]),([],[(6,.cut (Int.toNat a1) a2.b.length)],[(6,.val (.pl (.sl .any 1 ((a2.b.drop (Int.toNat a1)).map (cInt .u8)))))]),j3] [some false] [] [] [4] (.ret,(f59r1n0E a1 a2 .ret).2) (ap (Qn (xs:=a2.b) (c:=(cInt .u8))) (ap h4 (ap (Qba (c:=(cInt .u8)) h6) (ap (cut_hn_2 h6) (ap (cut_hn_3 h6) (ap (Qaz (c:=(cInt .u8)) h6) (ap (congrArg (fun l=>AV.pl (.sl .any 1 l)) (cut_cv (xs:=a2.b) (c:=(cInt .u8)) (n:=(Int.toNat a1)) (m:=0))) (ap (Qco (c:=(cInt .u8)) h8) (ap (cut_nl_2 h8) (ap (cut_nl_3 h8) (ap (Qcm (c:=(cInt .u8)) h8) (ap (congrArg (fun l=>AV.pl (.sl .any 1 l)) (drop_cv (xs:=a2.b) (c:=(cInt .u8)) (m:=(Int.toNat a1)))) an)))))))))))) rfl
theorem f59r1_ok(a1:Int)(a2:Qi)(h:f59r1n0 a1 a2=some .ret):Qm Try.prog true 59 [(.bp 0 0),(jI a1)] [some (.box 83 ((Qi.cells a2).map .pl))] (.pl (.sl .any 1 (((a2.b.take (Int.toNat a1)).drop 0).map (cInt .u8)))) [some (.box 83 ((Qi.cells (Qi.mk (a2.b.drop (Int.toNat a1)))).map .pl))] :=
 Qm.shared Qf (f:=Try.f59) (c:=c59) (by kernel_rfl) (by kernel_rfl) (by kernel_rfl) ((f59r1n0_ok a1 a2 h).mono fun r e=>by subst e; exact ⟨.inl rfl,by kernel_rfl,by kernel_rfl⟩)
theorem f59r1_px(a1:Int)(a2:Qi)(h:f59r1n0 a1 a2=some .pan):Qcr Try.prog 59 [(.bp 0 0),(jI a1)] [some (.box 83 ((Qi.cells a2).map .pl))] panV [some (.box 83 ((Qi.cells a2).map .pl))] :=
 Qcr.shared Qf (f:=Try.f59) (c:=c59) (by kernel_rfl) (by kernel_rfl) (by kernel_rfl) ((f59r1n0_ok a1 a2 h).mono fun r e=>by subst e; exact ⟨rfl,by kernel_rfl⟩)

noncomputable def c58:Code:=Try.f58.body.getD .skip
inductive f58r1n2O where
 | exit0 (v33:Int)
def f58r1n2E(bn2:Qi)(bf1:Int):f58r1n2O→Ex×Tr×Hp
 | .exit0 v33=>((.exit 0),mkS [(4,(.pl (.int .u64 v33)))],[some (.box 83 ((Qi.cells (Qi.mk (bn2.b.drop (Int.toNat bf1)))).map .pl))])
def f58r1n2S(bn2:Qi)(bf1 v23 v24:Int):Tr×Hp:=(mkS [(4,(.pl (.int .u64 v23))),(9,(.pl (.sl .any 1 (((bn2.b.take (Int.toNat bf1)).drop 0).map (cInt .u8))))),(10,(.pl (.int .i64 (((bn2.b.take (Int.toNat bf1)).drop 0).length:Int)))),(11,(jI v24))],[some (.box 83 ((Qi.cells (Qi.mk (bn2.b.drop (Int.toNat bf1)))).map .pl))])
noncomputable def f58r1n2:Nat→Qi→Int→Int→Int→Option f58r1n2O
 | 0,_,_,_,_=>none
 | f+1,bn2,bf1,v23,v24 =>
  bif (decide (v24<(((bn2.b.take (Int.toNat bf1)).drop 0).length:Int))) then
   (at? ((bn2.b.take (Int.toNat bf1)).drop 0) v24).bind fun x30 =>
   req (decide (0≤(wr64 (8*v24)))) <|
   (f58r1n2 f bn2 bf1 (IntKind.u64.wrap (BitVec.ofInt IntKind.u64.bits v23 ||| BitVec.ofInt IntKind.u64.bits (shlK .u64 (Qu x30) (wr64 (8*v24)))).toNat) (wr64 (v24+1)))
  else
   some (.exit0 v23)
theorem f58r1n2_ok:∀(f:Nat)(bn2:Qi)(bf1 v23 v24:Int){o:f58r1n2O},f58r1n2 f bn2 bf1 v23 v24=some o→TL Try.prog Try.f58.ntmps 1 f (cL (cL (Qk 1 (cL (Qk 1 c58))))) (f58r1n2S bn2 bf1 v23 v24) (·=f58r1n2E bn2 bf1 o)
 | 0,_,_,_,_,o,h=>by rw [f58r1n2] at h; cases h
 | f+1,bn2,bf1,v23,v24,o,h=>by
  rw [f58r1n2] at h;refine TL.body (K:=fun s=>∃v23:Int,∃v24:Int,s=(f58r1n2S bn2 bf1 v23 v24)∧f58r1n2 f bn2 bf1 v23 v24=some o) ?_ (by rintro _ ⟨v23,v24,rfl,hk⟩; exact f58r1n2_ok f _ _ _ _ hk);rcases Qg h with ⟨h26,h⟩|⟨h26,h⟩
  ·obtain ⟨x30,h31,h⟩:=Qc h;obtain ⟨h32,h⟩:=Qp h;exact rE Qf [j3,([],[(1,.idx (Int.toNat v24) ((cInt .u8) x30))],[]),([],[(5,.fits)],[]),j3] [some true] [] [] [4,9,10,11] (.norm,(f58r1n2S bn2 bf1 (IntKind.u64.wrap (BitVec.ofInt IntKind.u64.bits v23 ||| BitVec.ofInt IntKind.u64.bits (shlK .u64 (Qu x30) (wr64 (8*v24)))).toNat) (wr64 (v24+1)))) (ap h26 (ap (Qj h31).1 (ap (Qs (cInt .u8) (Qj h31).2) (ap (le_of h32) an)))) (Qt.norm ⟨(IntKind.u64.wrap (BitVec.ofInt IntKind.u64.bits v23 ||| BitVec.ofInt IntKind.u64.bits (shlK .u64 (Qu x30) (wr64 (8*v24)))).toNat),(wr64 (v24+1)),rfl,h⟩)
  ·obtain rfl:=Qd h;exact rK Qf 2 [j3] [some false] [] [] [4] (.exit 0) ((f58r1n2E bn2 bf1 (.exit0 v23)).2) (ap h26 an) (Qt.out rfl rfl)
noncomputable def f58r1n2L(bn2:Qi)(bf1:Int):List Int→Int→Int→Option f58r1n2O
 | [],v23,v24 =>
  some (.exit0 v23)
 | x0::rest,v23,v24 =>
  req (decide (0≤(wr64 (8*v24)))) <|
  (f58r1n2L bn2 bf1 rest (IntKind.u64.wrap (BitVec.ofInt IntKind.u64.bits v23 ||| BitVec.ofInt IntKind.u64.bits (shlK .u64 (Qu x0) (wr64 (8*v24)))).toNat) (v24+1))
theorem f58r1n2L_eq(bn2:Qi)(bf1:Int):∀(rest:List Int)(f k:Nat)(v23:Int),((bn2.b.take (Int.toNat bf1)).drop 0).drop k=rest→((bn2.b.take (Int.toNat bf1)).drop 0).length≤maxLen→rest.length<f→f58r1n2 f bn2 bf1 v23 (k:Int)=f58r1n2L bn2 bf1 rest v23 (k:Int)
 | _,0,_,_,_,_,hf=>absurd hf (Nat.not_lt_zero _)
 | [],f+1,k,v23,hd,hm,hf=>by
  have hk:¬((k:Int)<(((bn2.b.take (Int.toNat bf1)).drop 0).length:Int)):=by have:=Qaj hd; omega
  rw [f58r1n2,f58r1n2L];simp only [decide_eq_false hk,cond_false]
 | x0::rest,f+1,k,v23,hd,hm,hf=>by
  obtain ⟨hx,hlt,hd'⟩:=Qx hd;have hk:(k:Int)<(((bn2.b.take (Int.toNat bf1)).drop 0).length:Int):=by omega
  have hw:wr64 ((k:Int)+1)=(k:Int)+1:=Qr (by omega) (by unfold maxLen at hm; omega);have ih:∀(v23:Int),f58r1n2 f bn2 bf1 v23 ((k:Int)+1)=f58r1n2L bn2 bf1 rest v23 ((k:Int)+1):=fun v23=>f58r1n2L_eq bn2 bf1 rest f (k+1) v23 hd' hm (by simpa using hf);rw [f58r1n2,f58r1n2L];simp only [decide_eq_true hk,cond_true,Qaq,hx,Option.bind_some,hw,ih]
theorem f58r1n2_run(bn2:Qi)(bf1 v23:Int) (hm:((bn2.b.take (Int.toNat bf1)).drop 0).length≤maxLen):f58r1n2 FUEL bn2 bf1 v23 0=f58r1n2L bn2 bf1 ((bn2.b.take (Int.toNat bf1)).drop 0) v23 0:=f58r1n2L_eq bn2 bf1 ((bn2.b.take (Int.toNat bf1)).drop 0) FUEL 0 v23 List.drop_zero hm (Qao hm)
inductive f58r1n1O where
 | norm (v37:Int)
 | pan
def f58r1n1E(bf1:Int)(bn2:Qi):f58r1n1O→Ex×Tr×Hp
 | .norm v37=>(.norm,mkS [(4,(.pl (.int .u64 v37)))],[some (.box 83 ((Qi.cells (Qi.mk (bn2.b.drop (Int.toNat bf1)))).map .pl))])
 | .pan=>((.pan panV),mkS [],[some (.box 83 ((Qi.cells bn2).map .pl))])
def f58r1n1S(bf1:Int)(bn2:Qi):Tr×Hp:=(mkS [(0,(.bp 0 0)),(1,(jI bf1)),(4,(.pl (.int .u64 0)))],[some (.box 83 ((Qi.cells bn2).map .pl))])
noncomputable def f58r1n1(bf1:Int)(bn2:Qi):Option f58r1n1O :=
 (f59r1n0 bf1 bn2).bind fun o5=>match o5 with
 | .pan=>some .pan
 | .ret=>(f58r1n2 FUEL bn2 bf1 0 0).bind fun o34=>match o34 with
  | .exit0 v36=>some (.norm v36)
theorem f58r1n1_ok(bf1:Int)(bn2:Qi){o:f58r1n1O}(h:f58r1n1 bf1 bn2=some o):T Try.prog Try.f58.ntmps 1 (cL (Qk 1 c58)) (f58r1n1S bf1 bn2) (·=f58r1n1E bf1 bn2 o):=by
 unfold f58r1n1 at h;obtain ⟨o5,h6,h⟩:=Qc h;cases o5 with
 | pan =>
  obtain rfl:=Qd h;exact rK Qf 1 [([],[(2,.pan panV [some (.box 83 ((Qi.cells bn2).map .pl))] [] 0 [])],[])] [] [] [] [] (.pan panV) ((f58r1n1E bf1 bn2 .pan).2) (ap (f59r1_px bf1 bn2 h6) an) rfl
 | ret =>
  refine rN Qf 1 [([],[(2,.call (.pl (.sl .any 1 (((bn2.b.take (Int.toNat bf1)).drop 0).map (cInt .u8)))) [some (.box 83 ((Qi.cells (Qi.mk (bn2.b.drop (Int.toNat bf1)))).map .pl))])],[(3,.val (.pl (.int .i64 (((bn2.b.take (Int.toNat bf1)).drop 0).length:Int))))])] [] [] [] [4,9,10,11] (f58r1n2S bn2 bf1 0 0) (ap (Qn (xs:=((bn2.b.take (Int.toNat bf1)).drop 0)) (c:=(cInt .u8))) (ap (f59r1_ok bf1 bn2 h6) an)) ?_;obtain ⟨o34,h35,h⟩:=Qc h;cases o34 with
  | exit0 v36 =>
   obtain rfl:=Qd h;exact T.last' (T.bl (i:=0) (by kernel_rfl) (by kernel_rfl) (f58r1n2_ok FUEL bn2 bf1 0 0 h35)) (tds:=[]) (m:=[]) (keep:=[4]) (st2:=(f58r1n1E bf1 bn2 (.norm v36)).2) (by kernel_rfl) an rfl
inductive f58r1n0O where
 | pan
 | ret (v41:Int)
def f58r1n0E(a1:Int)(a2:Qi):f58r1n0O→Ex×Tr×Hp
 | .pan=>((.pan panV),mkS [],[some (.box 83 ((Qi.cells a2).map .pl))])
 | .ret v41=>(.ret,mkS [(4,(.pl (.int .u64 v41)))],[some (.box 83 ((Qi.cells (Qi.mk (a2.b.drop (Int.toNat a1)))).map .pl))])
def f58r1n0S(a1:Int)(a2:Qi):Tr×Hp:=(Qai [(.bp 0 0),(jI a1)] 0 .leaf,[some (.box 83 ((Qi.cells a2).map .pl))])
noncomputable def Qav(a1:Int)(a2:Qi):Option f58r1n0O :=
 (f58r1n1 a1 a2).bind fun o38=>match o38 with
 | .norm v40=>some (.ret v40)
 | .pan=>some .pan
theorem f58r1n0_ok(a1:Int)(a2:Qi){o:f58r1n0O}(h:Qav a1 a2=some o):T Try.prog Try.f58.ntmps 1 c58 (f58r1n0S a1 a2) (·=f58r1n0E a1 a2 o):=by
 unfold Qav at h;refine rN Qf 1 [j3] [] [] [] [0,1,4] (f58r1n1S a1 a2) an ?_;obtain ⟨o38,h39,h⟩:=Qc h;cases o38 with
 | norm v40 =>
  refine T.oneN (by kernel_rfl) (f58r1n1_ok a1 a2 h39) (st2:=(f58r1n1E a1 a2 (.norm v40)).2) rfl ?_;obtain rfl:=Qd h;exact rE Qf [j3] [] [] [] [4] (.ret,(f58r1n0E a1 a2 (.ret v40)).2) an rfl
 | pan =>
  obtain rfl:=Qd h;exact T.oneX' (by kernel_rfl) (f58r1n1_ok a1 a2 h39) (tds:=[]) (m:=[]) (keep:=[]) (st2:=(f58r1n0E a1 a2 .pan).2) (by kernel_rfl) an rfl rfl
theorem Qcd(a1:Int)(a2:Qi){v41:Int}(h:Qav a1 a2=some (.ret v41)):Qm Try.prog true 58 [(.bp 0 0),(jI a1)] [some (.box 83 ((Qi.cells a2).map .pl))] (.pl (.int .u64 v41)) [some (.box 83 ((Qi.cells (Qi.mk (a2.b.drop (Int.toNat a1)))).map .pl))] :=
 Qm.shared Qf (f:=Try.f58) (c:=c58) (by kernel_rfl) (by kernel_rfl) (by kernel_rfl) ((f58r1n0_ok a1 a2 h).mono fun r e=>by subst e; exact ⟨.inl rfl,by kernel_rfl,by kernel_rfl⟩)
theorem f58r1_px(a1:Int)(a2:Qi)(h:Qav a1 a2=some .pan):Qcr Try.prog 58 [(.bp 0 0),(jI a1)] [some (.box 83 ((Qi.cells a2).map .pl))] panV [some (.box 83 ((Qi.cells a2).map .pl))] :=
 Qcr.shared Qf (f:=Try.f58) (c:=c58) (by kernel_rfl) (by kernel_rfl) (by kernel_rfl) ((f58r1n0_ok a1 a2 h).mono fun r e=>by subst e; exact ⟨rfl,by kernel_rfl⟩)

noncomputable def c68:Code:=Try.f68.body.getD .skip
inductive f68r1n0O where
 | pan (v12:Qi)
 | ret (v13:ByteArray) (v14:Qi)
def f68r1n0E(a1:Qi):f68r1n0O→Ex×Tr×Hp
 | .pan v12=>((.pan panV),mkS [],[some (.box 83 ((Qi.cells v12).map .pl))])
 | .ret v13 v14=>(.ret,mkS [(2,(jS v13))],[some (.box 83 ((Qi.cells v14).map .pl))])
def f68r1n0S(a1:Qi):Tr×Hp:=(Qai [(.bp 0 0)] 0 .leaf,[some (.box 83 ((Qi.cells a1).map .pl))])
noncomputable def f68r1n0(a1:Qi):Option f68r1n0O :=
 (Qav 1 a1).bind fun o7=>match o7 with
 | .pan=>some (.pan a1)
 | .ret v9=>(f59r1n0 (wr64 v9) (Qi.mk (a1.b.drop (Int.toNat 1)))).bind fun o10=>match o10 with
  | .pan=>some (.pan (Qi.mk (a1.b.drop (Int.toNat 1))))
  | .ret=>some (.ret (sOf (((a1.b.drop (Int.toNat 1)).take (Int.toNat (wr64 v9))).drop 0)) (Qi.mk ((a1.b.drop (Int.toNat 1)).drop (Int.toNat (wr64 v9)))))
theorem f68r1n0_ok(a1:Qi){o:f68r1n0O}(h:f68r1n0 a1=some o):T Try.prog Try.f68.ntmps 1 c68 (f68r1n0S a1) (·=f68r1n0E a1 o):=by
 unfold f68r1n0 at h;obtain ⟨o7,h8,h⟩:=Qc h;cases o7 with
 | pan =>
  obtain rfl:=Qd h;exact rK Qf 2 [j3,([],[(2,.pan panV [some (.box 83 ((Qi.cells a1).map .pl))] [] 0 [])],[])] [] [] [] [] (.pan panV) ((f68r1n0E a1 (.pan a1)).2) (ap (f58r1_px 1 a1 h8) an) rfl
 | ret v9 =>
  obtain ⟨o10,h11,h⟩:=Qc h;cases o10 with
  | pan =>
   obtain rfl:=Qd h;exact rK Qf 2 [j3,([],[(2,.call (.pl (.int .u64 v9)) [some (.box 83 ((Qi.cells (Qi.mk (a1.b.drop (Int.toNat 1)))).map .pl))]),(4,.pan panV [some (.box 83 ((Qi.cells (Qi.mk (a1.b.drop (Int.toNat 1)))).map .pl))] [] 0 [])],[])] [] [] [] [] (.pan panV) ((f68r1n0E a1 (.pan (Qi.mk (a1.b.drop (Int.toNat 1))))).2) (ap (Qcd 1 a1 h8) (ap (f59r1_px (wr64 v9) (Qi.mk (a1.b.drop (Int.toNat 1))) h11) an)) rfl
  | ret =>
   obtain rfl:=Qd h;exact rE Qf [j3,([],[(2,.call (.pl (.int .u64 v9)) [some (.box 83 ((Qi.cells (Qi.mk (a1.b.drop (Int.toNat 1)))).map .pl))]),(4,.call (.pl (.sl .any 1 ((((a1.b.drop (Int.toNat 1)).take (Int.toNat (wr64 v9))).drop 0).map (cInt .u8)))) [some (.box 83 ((Qi.cells (Qi.mk ((a1.b.drop (Int.toNat 1)).drop (Int.toNat (wr64 v9))))).map .pl))]),(5,.bs (toB (((a1.b.drop (Int.toNat 1)).take (Int.toNat (wr64 v9))).drop 0)))],[])] [] [] [] [2] (.ret,(f68r1n0E a1 (.ret (sOf (((a1.b.drop (Int.toNat 1)).take (Int.toNat (wr64 v9))).drop 0)) (Qi.mk ((a1.b.drop (Int.toNat 1)).drop (Int.toNat (wr64 v9)))))).2) (ap (bytes_map (((a1.b.drop (Int.toNat 1)).take (Int.toNat (wr64 v9))).drop 0)) (ap (Qcd 1 a1 h8) (ap (f59r1_ok (wr64 v9) (Qi.mk (a1.b.drop (Int.toNat 1))) h11) an))) rfl
theorem f68r1_ok(a1:Qi){v13:ByteArray}{v14:Qi}(h:f68r1n0 a1=some (.ret v13 v14)):Qm Try.prog true 68 [(.bp 0 0)] [some (.box 83 ((Qi.cells a1).map .pl))] (jS v13) [some (.box 83 ((Qi.cells v14).map .pl))] :=
 Qm.shared Qf (f:=Try.f68) (c:=c68) (by kernel_rfl) (by kernel_rfl) (by kernel_rfl) ((f68r1n0_ok a1 h).mono fun r e=>by subst e; exact ⟨.inl rfl,by kernel_rfl,by kernel_rfl⟩)
theorem f68r1_px(a1:Qi){v12:Qi}(h:f68r1n0 a1=some (.pan v12)):Qcr Try.prog 68 [(.bp 0 0)] [some (.box 83 ((Qi.cells a1).map .pl))] panV [some (.box 83 ((Qi.cells v12).map .pl))] :=
 Qcr.shared Qf (f:=Try.f68) (c:=c68) (by kernel_rfl) (by kernel_rfl) (by kernel_rfl) ((f68r1n0_ok a1 h).mono fun r e=>by subst e; exact ⟨rfl,by kernel_rfl⟩)

noncomputable def c60:Code:=Try.f60.body.getD .skip
inductive f60r1n2O where
 | exit0 (v125:Qi) (v126:List Qb)
 | pan (v127:Qi)
def f60r1n2E(bf1 bf2 v30 bf4:Int)(bd5:ByteArray):f60r1n2O→Ex×Tr×Hp
 | .exit0 v125 v126=>((.exit 0),mkS [(0,(.bp 0 0)),(4,(.bp 1 0)),(5,(.pl (.bool (decide (bf1=(Qu bf2))))))],[some (.box 83 ((Qi.cells v125).map .pl)),some (.box 47 [(jI (wr64 bf4)),(jS bd5),(.own 2)]),jR 3 Qb.cells v126])
 | .pan v127=>((.pan panV),mkS [],[some (.box 83 ((Qi.cells v127).map .pl))])
def f60r1n2S(bf1 bf2 v30 bf4:Int)(bd5:ByteArray)(v92:Int)(v93:Qi)(v94:List Qb):Tr×Hp:=(mkS [(0,(.bp 0 0)),(4,(.bp 1 0)),(5,(.pl (.bool (decide (bf1=(Qu bf2)))))),(21,(.pl (.int .u64 v30))),(22,(.pl (.int .u64 v92)))],[some (.box 83 ((Qi.cells v93).map .pl)),some (.box 47 [(jI (wr64 bf4)),(jS bd5),(.own 2)]),jR 3 Qb.cells v94])
noncomputable def f60r1n2:Nat→Int→Int→Int→Int→ByteArray→Int→Qi→List Qb→Option f60r1n2O
 | 0,_,_,_,_,_,_,_,_=>none
 | f+1,bf1,bf2,v30,bf4,bd5,v92,v93,v94 =>
  bif decide (v92<v30) then
   (f68r1n0 v93).bind fun o111=>match o111 with
   | .pan v113=>some (.pan v113)
   | .ret v114 v115=>(f68r1n0 v115).bind fun o116=>match o116 with
    | .pan v118=>some (.pan v118)
    | .ret v119 v120=>(Qav 8 v120).bind fun o121=>match o121 with
     | .pan=>some (.pan v120)
     | .ret v123=>req (fit (v94.length+1) 40) <|
      (f60r1n2 f bf1 bf2 v30 bf4 bd5 (Qu (v92+1)) (Qi.mk (v120.b.drop (Int.toNat 8))) (v94++[(Qb.mk v114 v119 (wr64 v123))]))
  else
   some (.exit0 v93 v94)
theorem f60r1n2_ok:∀(f:Nat)(bf1 bf2 v30 bf4:Int)(bd5:ByteArray)(v92:Int)(v93:Qi)(v94:List Qb){o:f60r1n2O},f60r1n2 f bf1 bf2 v30 bf4 bd5 v92 v93 v94=some o→TL Try.prog Try.f60.ntmps 1 f (cL (cL (Qk 1 (cL (Qk 3 c60))))) (f60r1n2S bf1 bf2 v30 bf4 bd5 v92 v93 v94) (·=f60r1n2E bf1 bf2 v30 bf4 bd5 o)
 | 0,_,_,_,_,_,_,_,_,o,h=>by rw [f60r1n2] at h; cases h
 | f+1,bf1,bf2,v30,bf4,bd5,v92,v93,v94,o,h=>by
  rw [f60r1n2] at h;refine TL.body (K:=fun s=>∃v92:Int,∃v93:Qi,∃v94:List Qb,s=(f60r1n2S bf1 bf2 v30 bf4 bd5 v92 v93 v94)∧f60r1n2 f bf1 bf2 v30 bf4 bd5 v92 v93 v94=some o) ?_ (by rintro _ ⟨v92,v93,v94,rfl,hk⟩; exact f60r1n2_ok f _ _ _ _ _ _ _ _ hk);rcases Qg h with ⟨h96,h⟩|⟨h96,h⟩
  ·obtain ⟨o111,h112,h⟩:=Qc h;cases o111 with
   | pan v113 =>
    obtain rfl:=Qd h;exact rK Qf 3 [j3,([],[(1,.pan panV [some (.box 83 ((Qi.cells v113).map .pl)),none,none] [] 0 [])],[])] [some true] [] [] [] (.pan panV) ((f60r1n2E bf1 bf2 v30 bf4 bd5 (.pan v113)).2) (ap h96 (ap (Qcr.rn 3 [0] (f68r1_px v93 h112)) an)) (Qt.out rfl rfl)
   | ret v114 v115 =>
    obtain ⟨o116,h117,h⟩:=Qc h;cases o116 with
    | pan v118 =>
     obtain rfl:=Qd h;exact rK Qf 3 [j3,([],[(1,.call (jS v114) [some (.box 83 ((Qi.cells v115).map .pl)),none,none]),(3,.pan panV [some (.box 83 ((Qi.cells v118).map .pl)),none,none] [] 0 [])],[])] [some true] [] [] [] (.pan panV) ((f60r1n2E bf1 bf2 v30 bf4 bd5 (.pan v118)).2) (ap h96 (ap (Qm.rn 3 [0] (f68r1_ok v93 h112)) (ap (Qcr.rn 3 [0] (f68r1_px v115 h117)) an))) (Qt.out rfl rfl)
    | ret v119 v120 =>
     obtain ⟨o121,h122,h⟩:=Qc h;cases o121 with
     | pan =>
      obtain rfl:=Qd h;exact rK Qf 3 [j3,([],[(1,.call (jS v114) [some (.box 83 ((Qi.cells v115).map .pl)),none,none]),(3,.call (jS v119) [some (.box 83 ((Qi.cells v120).map .pl)),none,none])],[]),([],[(5,.pan panV [some (.box 83 ((Qi.cells v120).map .pl)),none,none] [] 58 [(.bp 0 0),(jI 8)])],[])] [some true] [] [] [] (.pan panV) ((f60r1n2E bf1 bf2 v30 bf4 bd5 (.pan v120)).2) (ap h96 (ap (Qm.rn 3 [0] (f68r1_ok v93 h112)) (ap (Qm.rn 3 [0] (f68r1_ok v115 h117)) (ap (Qcr.rn 3 [0] (f58r1_px 8 v120 h122)) an)))) (Qt.out rfl rfl)
     | ret v123 =>
      obtain ⟨h124,h⟩:=Qp h
      exact rE Qf [j3,([],[(1,.call (jS v114) [some (.box 83 ((Qi.cells v115).map .pl)),none,none]),(3,.call (jS v119) [some (.box 83 ((Qi.cells v120).map .pl)),none,none])],[]),([],[(5,.call (.pl (.int .u64 v123)) [some (.box 83 ((Qi.cells (Qi.mk (v120.b.drop (Int.toNat 8)))).map .pl)),none,none,none,none,none]),(9,.fits)],[(9,.row 4 ((v94++[(Qb.mk v114 v119 (wr64 v123))]).map Qb.cells))]),j3] [some true] [] [1,4] [0,4,5,21,22] (.norm,(f60r1n2S bf1 bf2 v30 bf4 bd5 (Qu (v92+1)) (Qi.mk (v120.b.drop (Int.toNat 8))) (v94++[(Qb.mk v114 v119 (wr64 v123))]))) (ap h96 (ap (Qm.rn 3 [0] (f68r1_ok v93 h112)) (ap (Qm.rn 3 [0] (f68r1_ok v115 h117)) (ap (Qbq (te:=ti49) (xs:=v94) (n:=1) (c:=Qb.cells) h124 rfl) (ap (Qap (xs:=v94) (ys:=[(Qb.mk v114 v119 (wr64 v123))]) (c:=Qb.cells)) (ap (Qm.rn 6 [0] (Qcd 8 v120 h122)) an)))))) (Qt.norm ⟨(Qu (v92+1)),(Qi.mk (v120.b.drop (Int.toNat 8))),(v94++[(Qb.mk v114 v119 (wr64 v123))]),rfl,h⟩)
  ·obtain rfl:=Qd h;exact rK Qf 2 [j3] [some false] [] [1,2] [0,4,5] (.exit 0) ((f60r1n2E bf1 bf2 v30 bf4 bd5 (.exit0 v93 v94)).2) (ap h96 an) (Qt.out rfl rfl)
inductive f60r1n1O where
 | norm (v133:Qi) (v134:List Qb)
 | pan (v135:Qi)
def f60r1n1E(bf1 bf2:Int)(bn3:Qi)(bf4:Int)(bd5:ByteArray):f60r1n1O→Ex×Tr×Hp
 | .norm v133 v134=>(.norm,mkS [(0,(.bp 0 0)),(4,(.bp 1 0)),(5,(.pl (.bool (decide (bf1=(Qu bf2))))))],[some (.box 83 ((Qi.cells v133).map .pl)),some (.box 47 [(jI (wr64 bf4)),(jS bd5),(.own 2)]),jR 3 Qb.cells v134])
 | .pan v135=>((.pan panV),mkS [],[some (.box 83 ((Qi.cells v135).map .pl))])
def f60r1n1S(bf1 bf2:Int)(bn3:Qi)(bf4:Int)(bd5:ByteArray):Tr×Hp:=(mkS [(0,(.bp 0 0)),(4,(.bp 1 0)),(5,(.pl (.bool (decide (bf1=(Qu bf2))))))],[some (.box 83 ((Qi.cells bn3).map .pl)),some (.box 47 [(jI (wr64 bf4)),(jS bd5),(.pl (.sl .nil 0 []))])])
noncomputable def f60r1n1(bf1 bf2:Int)(bn3:Qi)(bf4:Int)(bd5:ByteArray):Option f60r1n1O :=
 (Qav 1 bn3).bind fun o28=>match o28 with
 | .pan=>some (.pan bn3)
 | .ret v30=>(f60r1n2 FUEL bf1 bf2 v30 bf4 bd5 0 (Qi.mk (bn3.b.drop (Int.toNat 1))) []).bind fun o128=>match o128 with
  | .exit0 v130 v131=>some (.norm v130 v131)
  | .pan v132=>some (.pan v132)
theorem f60r1n1_ok(bf1 bf2:Int)(bn3:Qi)(bf4:Int)(bd5:ByteArray){o:f60r1n1O}(h:f60r1n1 bf1 bf2 bn3 bf4 bd5=some o):T Try.prog Try.f60.ntmps 1 (cL (Qk 3 c60)) (f60r1n1S bf1 bf2 bn3 bf4 bd5) (·=f60r1n1E bf1 bf2 bn3 bf4 bd5 o):=by
 unfold f60r1n1 at h;obtain ⟨o28,h29,h⟩:=Qc h;cases o28 with
 | pan =>
  obtain rfl:=Qd h;exact rK Qf 1 [([],[(1,.pan panV [some (.box 83 ((Qi.cells bn3).map .pl)),none] [] 0 [])],[])] [] [] [] [] (.pan panV) ((f60r1n1E bf1 bf2 bn3 bf4 bd5 (.pan bn3)).2) (ap (Qcr.rn 2 [0] (f58r1_px 1 bn3 h29)) an) rfl
 | ret v30 =>
  refine rN Qf 1 [([],[(1,.call (.pl (.int .u64 v30)) [some (.box 83 ((Qi.cells (Qi.mk (bn3.b.drop (Int.toNat 1)))).map .pl)),none])],[])] [] [.matC 1 2 3] [1,2] [0,4,5,21,22] (f60r1n2S bf1 bf2 v30 bf4 bd5 0 (Qi.mk (bn3.b.drop (Int.toNat 1))) []) (ap (Qm.rn 2 [0] (Qcd 1 bn3 h29)) an) ?_;obtain ⟨o128,h129,h⟩:=Qc h;cases o128 with
  | exit0 v130 v131 =>
   obtain rfl:=Qd h;exact T.last' (T.bl (i:=0) (by kernel_rfl) (by kernel_rfl) (f60r1n2_ok FUEL bf1 bf2 v30 bf4 bd5 0 (Qi.mk (bn3.b.drop (Int.toNat 1))) [] h129)) (tds:=[]) (m:=[1,2]) (keep:=[0,4,5]) (st2:=(f60r1n1E bf1 bf2 bn3 bf4 bd5 (.norm v130 v131)).2) (by kernel_rfl) an rfl
  | pan v132 =>
   obtain rfl:=Qd h;exact T.last' (T.bl (i:=0) (by kernel_rfl) (by kernel_rfl) (f60r1n2_ok FUEL bf1 bf2 v30 bf4 bd5 0 (Qi.mk (bn3.b.drop (Int.toNat 1))) [] h129)) (tds:=[]) (m:=[]) (keep:=[]) (st2:=(f60r1n1E bf1 bf2 bn3 bf4 bd5 (.pan v132)).2) (by kernel_rfl) an rfl
inductive f60r1n0O where
 | pan (v143:Qi)
 | ret (v144:Bool) (v145:Qi) (v146:Int) (v147:ByteArray) (v148:List Qb)
def f60r1n0E(a1:Int)(a2:Qi):f60r1n0O→Ex×Tr×Hp
 | .pan v143=>((.pan panV),mkS [],[some (.box 83 ((Qi.cells v143).map .pl))])
 | .ret v144 v145 v146 v147 v148=>(.ret,mkS [(4,(.bp 1 0)),(5,(jB v144))],[some (.box 83 ((Qi.cells v145).map .pl)),some (.box 47 [(jI v146),(jS v147),(.own 2)]),jR 3 Qb.cells v148])
def f60r1n0S(a1:Int)(a2:Qi):Tr×Hp:=(Qai [(.bp 0 0),(jI a1)] 0 .leaf,[some (.box 83 ((Qi.cells a2).map .pl))])
noncomputable def f60r1n0(a1:Int)(a2:Qi):Option f60r1n0O :=
 (Qav 4 a2).bind fun o6=>match o6 with
 | .pan=>some (.pan a2)
 | .ret v8=>(Qav 4 (Qi.mk (a2.b.drop (Int.toNat 4)))).bind fun o17=>match o17 with
  | .pan=>some (.pan (Qi.mk (a2.b.drop (Int.toNat 4))))
  | .ret v19=>(f68r1n0 (Qi.mk ((a2.b.drop (Int.toNat 4)).drop (Int.toNat 4)))).bind fun o20=>match o20 with
   | .pan v22=>some (.pan v22)
   | .ret v23 v24=>(f60r1n1 v8 a1 v24 v19 v23).bind fun o136=>match o136 with
    | .norm v138 v139=>bif decide (v8=(Qu a1)) then
      some (.ret (decide ((v138.b.length:Int)=0)) v138 (wr64 v19) v23 v139)
     else
      some (.ret false v138 (wr64 v19) v23 v139)
    | .pan v142=>some (.pan v142)
theorem f60r1n0_ok(a1:Int)(a2:Qi){o:f60r1n0O}(h:f60r1n0 a1 a2=some o):T Try.prog Try.f60.ntmps 1 c60 (f60r1n0S a1 a2) (·=f60r1n0E a1 a2 o):=by
 unfold f60r1n0 at h;obtain ⟨o6,h7,h⟩:=Qc h;cases o6 with
 | pan =>
  obtain rfl:=Qd h;exact rK Qf 2 [j3,([],[(1,.pan panV [some (.box 83 ((Qi.cells a2).map .pl)),none] [] 0 [])],[])] [] [] [] [] (.pan panV) ((f60r1n0E a1 a2 (.pan a2)).2) (ap (Qcr.rn 2 [0] (f58r1_px 4 a2 h7)) an) rfl
 | ret v8 =>
  obtain ⟨o17,h18,h⟩:=Qc h;cases o17 with
  | pan =>
   obtain rfl:=Qd h;exact rK Qf 3 [j3,([],[(1,.call (.pl (.int .u64 v8)) [some (.box 83 ((Qi.cells (Qi.mk (a2.b.drop (Int.toNat 4)))).map .pl)),none])],[]),([],[(1,.pan panV [some (.box 83 ((Qi.cells (Qi.mk (a2.b.drop (Int.toNat 4)))).map .pl)),none] [] 0 [])],[])] [] [] [] [] (.pan panV) ((f60r1n0E a1 a2 (.pan (Qi.mk (a2.b.drop (Int.toNat 4))))).2) (ap (Qm.rn 2 [0] (Qcd 4 a2 h7)) (ap (Qcr.rn 2 [0] (f58r1_px 4 (Qi.mk (a2.b.drop (Int.toNat 4))) h18)) an)) rfl
  | ret v19 =>
   obtain ⟨o20,h21,h⟩:=Qc h;cases o20 with
   | pan v22 =>
    obtain rfl:=Qd h;exact rK Qf 3 [j3,([],[(1,.call (.pl (.int .u64 v8)) [some (.box 83 ((Qi.cells (Qi.mk (a2.b.drop (Int.toNat 4)))).map .pl)),none])],[]),([],[(1,.call (.pl (.int .u64 v19)) [some (.box 83 ((Qi.cells (Qi.mk ((a2.b.drop (Int.toNat 4)).drop (Int.toNat 4)))).map .pl)),none]),(4,.pan panV [some (.box 83 ((Qi.cells v22).map .pl)),none] [] 0 [])],[])] [] [] [] [] (.pan panV) ((f60r1n0E a1 a2 (.pan v22)).2) (ap (Qm.rn 2 [0] (Qcd 4 a2 h7)) (ap (Qm.rn 2 [0] (Qcd 4 (Qi.mk (a2.b.drop (Int.toNat 4))) h18)) (ap (Qcr.rn 2 [0] (f68r1_px (Qi.mk ((a2.b.drop (Int.toNat 4)).drop (Int.toNat 4))) h21)) an))) rfl
   | ret v23 v24 =>
    refine rN Qf 3 [j3,([],[(1,.call (.pl (.int .u64 v8)) [some (.box 83 ((Qi.cells (Qi.mk (a2.b.drop (Int.toNat 4)))).map .pl)),none])],[]),([],[(1,.call (.pl (.int .u64 v19)) [some (.box 83 ((Qi.cells (Qi.mk ((a2.b.drop (Int.toNat 4)).drop (Int.toNat 4)))).map .pl)),none]),(4,.call (jS v23) [some (.box 83 ((Qi.cells v24).map .pl)),none])],[])] [] [] [1] [0,4,5] (f60r1n1S v8 a1 v24 v19 v23) (ap (Qm.rn 2 [0] (Qcd 4 a2 h7)) (ap (Qm.rn 2 [0] (Qcd 4 (Qi.mk (a2.b.drop (Int.toNat 4))) h18)) (ap (Qm.rn 2 [0] (f68r1_ok (Qi.mk ((a2.b.drop (Int.toNat 4)).drop (Int.toNat 4))) h21)) an))) ?_;obtain ⟨o136,h137,h⟩:=Qc h;cases o136 with
    | norm v138 v139 =>
     refine T.oneN (by kernel_rfl) (f60r1n1_ok v8 a1 v24 v19 v23 h137) (st2:=(f60r1n1E v8 a1 v24 v19 v23 (.norm v138 v139)).2) rfl ?_;rcases Qg h with ⟨h141,h⟩|⟨h141,h⟩
     ·obtain rfl:=Qd h;exact rE Qf [(jT [3,4,5,6,7,8],[(9,.bool true)],[(7,.val (jI (v138.b.length:Int)))])] [] [] [1,2] [4,5] (.ret,(f60r1n0E a1 a2 (.ret (decide ((v138.b.length:Int)=0)) v138 (wr64 v19) v23 v139)).2) (ap h141 (ap4 h141 (ap (Qn (xs:=v138.b) (c:=(cInt .u8))) (ap2 h141 an)))) rfl
     ·obtain rfl:=Qd h;exact rE Qf [(jF [3,4,5,6,7,8],[(9,.bool false)],[])] [] [] [1,2] [4,5] (.ret,(f60r1n0E a1 a2 (.ret false v138 (wr64 v19) v23 v139)).2) (ap3 h141 (ap4 h141 an)) rfl
    | pan v142 =>
     obtain rfl:=Qd h;exact T.oneX' (by kernel_rfl) (f60r1n1_ok v8 a1 v24 v19 v23 h137) (tds:=[]) (m:=[]) (keep:=[]) (st2:=(f60r1n0E a1 a2 (.pan v142)).2) (by kernel_rfl) an rfl rfl
theorem f60r1_ok(a1:Int)(a2:Qi){v144:Bool}{v145:Qi}{v146:Int}{v147:ByteArray}{v148:List Qb}(h:f60r1n0 a1 a2=some (.ret v144 v145 v146 v147 v148)):Qm Try.prog true 60 [(.bp 0 0),(jI a1)] [some (.box 83 ((Qi.cells a2).map .pl))] (.tup [(.agg [(jI v146),(jS v147),(.own 2)]),(jB v144)]) [some (.box 83 ((Qi.cells v145).map .pl)),some (.box 47 [(jI v146),(jS v147),(.own 2)]),jR 3 Qb.cells v148] :=
 Qm.shared Qf (f:=Try.f60) (c:=c60) (by kernel_rfl) (by kernel_rfl) (by kernel_rfl) ((f60r1n0_ok a1 a2 h).mono fun r e=>by subst e; exact ⟨.inl rfl,by kernel_rfl,by kernel_rfl⟩)
theorem f60r1_px(a1:Int)(a2:Qi){v143:Qi}(h:f60r1n0 a1 a2=some (.pan v143)):Qcr Try.prog 60 [(.bp 0 0),(jI a1)] [some (.box 83 ((Qi.cells a2).map .pl))] panV [some (.box 83 ((Qi.cells v143).map .pl))] :=
 Qcr.shared Qf (f:=Try.f60) (c:=c60) (by kernel_rfl) (by kernel_rfl) (by kernel_rfl) ((f60r1n0_ok a1 a2 h).mono fun r e=>by subst e; exact ⟨rfl,by kernel_rfl⟩)

noncomputable def c43:Code:=Try.f43.body.getD .skip
inductive f43r1n0O where
 | pan (v58:Qi) (v59:Int)
 | ret (v60:Qi) (v61:Int) (v62:ByteArray) (v63:Int) (v64:Bool) (v65:List Qb)
def f43r1n0E(a1 a2:Int)(a3:Qi):f43r1n0O→Ex×Tr×Hp
 | .pan v58 v59=>((.pan panV),mkS [(6,(.bp 1 0)),(7,(.bp 2 0)),(8,(.bp 3 0))],[some (.box 83 ((Qi.cells v58).map .pl)),some (.box 47 [(jI 0),(jS Qbz),(.pl (.sl .nil 0 []))]),some (.box 26 (((cInt .u64) v59).map .pl)),some (.box 4 ((cBool false).map .pl))])
 | .ret v60 v61 v62 v63 v64 v65=>(.ret,mkS [(6,(.bp 1 0)),(7,(.bp 2 0)),(8,(.bp 3 0))],[some (.box 83 ((Qi.cells v60).map .pl)),some (.box 47 [(jI v61),(jS v62),(.own 4)]),some (.box 26 (((cInt .u64) v63).map .pl)),some (.box 4 ((cBool v64).map .pl)),jR 3 Qb.cells v65])
def f43r1n0S(a1 a2:Int)(a3:Qi):Tr×Hp:=(mkS [(0,(.bp 0 0)),(1,(jI a1)),(2,(.pl (.int .u64 a2))),(6,(.bp 1 0)),(7,(.bp 2 0)),(8,(.bp 3 0))],[some (.box 83 ((Qi.cells a3).map .pl)),some (.box 47 [(jI 0),(jS Qbz),(.pl (.sl .nil 0 []))]),some (.box 26 (((cInt .u64) 0).map .pl)),some (.box 4 ((cBool false).map .pl))])
noncomputable def f43r1n0(a1 a2:Int)(a3:Qi):Option f43r1n0O :=
 (Qav 4 a3).bind fun o7=>match o7 with
 | .pan=>some (.pan a3 0)
 | .ret v9=>bif (decide ((Qu ((a3.b.drop (Int.toNat 4)).length:Int))<v9)) then
   some (.ret (Qi.mk (a3.b.drop (Int.toNat 4))) 0 Qbz 0 false [])
  else
   (f59r1n0 (wr64 v9) (Qi.mk (a3.b.drop (Int.toNat 4)))).bind fun o14=>match o14 with
   | .pan=>some (.pan (Qi.mk (a3.b.drop (Int.toNat 4))) 0)
   | .ret=>(f20 a2 (((a3.b.drop (Int.toNat 4)).take (Int.toNat (wr64 v9))).drop 0)).bind fun x32 =>
    (Qav 8 (Qi.mk ((a3.b.drop (Int.toNat 4)).drop (Int.toNat (wr64 v9))))).bind fun o38=>match o38 with
    | .pan=>some (.pan (Qi.mk ((a3.b.drop (Int.toNat 4)).drop (Int.toNat (wr64 v9)))) x32)
    | .ret v40=>bif decide (v40=x32) then
      (f60r1n0 a1 (Qi.mk (((a3.b.drop (Int.toNat 4)).take (Int.toNat (wr64 v9))).drop 0))).bind fun o50=>match o50 with
      | .pan v52=>some (.pan (Qi.mk (((a3.b.drop (Int.toNat 4)).drop (Int.toNat (wr64 v9))).drop (Int.toNat 8))) x32)
      | .ret v53 v54 v55 v56 v57=>some (.ret (Qi.mk (((a3.b.drop (Int.toNat 4)).drop (Int.toNat (wr64 v9))).drop (Int.toNat 8))) v55 v56 x32 v53 v57)
     else
      some (.ret (Qi.mk (((a3.b.drop (Int.toNat 4)).drop (Int.toNat (wr64 v9))).drop (Int.toNat 8))) 0 Qbz 0 false [])
theorem f43r1n0_ok(a1 a2:Int)(a3:Qi){o:f43r1n0O}(h:f43r1n0 a1 a2 a3=some o):T Try.prog Try.f43.ntmps 4 (cR (cR c43)) (f43r1n0S a1 a2 a3) (·=f43r1n0E a1 a2 a3 o):=by
 unfold f43r1n0 at h;obtain ⟨o7,h8,h⟩:=Qc h;cases o7 with
 | pan =>
  obtain rfl:=Qd h;exact rK Qf 1 [([],[(1,.pan panV [some (.box 83 ((Qi.cells a3).map .pl)),none,none,none] [] 0 [])],[])] [] [] [] [6,7,8] (.pan panV) ((f43r1n0E a1 a2 a3 (.pan a3 0)).2) (ap (Qcr.rn 4 [0] (f58r1_px 4 a3 h8)) an) rfl
 | ret v9 =>
  rcases Qg h with ⟨h11,h⟩|⟨h11,h⟩
  ·obtain rfl:=Qd h;exact rK Qf 2 [([],[(1,.call (.pl (.int .u64 v9)) [some (.box 83 ((Qi.cells (Qi.mk (a3.b.drop (Int.toNat 4)))).map .pl)),none,none,none])],[]),([],[],[(5,.val (jI ((a3.b.drop (Int.toNat 4)).length:Int)))]),j3] [some true] [.matC 1 2 3] [4] [6,7,8] .ret ((f43r1n0E a1 a2 a3 (.ret (Qi.mk (a3.b.drop (Int.toNat 4))) 0 Qbz 0 false [])).2) (ap (Qm.rn 4 [0] (Qcd 4 a3 h8)) (ap (Qn (xs:=(a3.b.drop (Int.toNat 4))) (c:=(cInt .u8))) (ap h11 an))) rfl
  ·obtain ⟨o14,h15,h⟩:=Qc h;cases o14 with
   | pan =>
    obtain rfl:=Qd h;exact rK Qf 3 [([],[(1,.call (.pl (.int .u64 v9)) [some (.box 83 ((Qi.cells (Qi.mk (a3.b.drop (Int.toNat 4)))).map .pl)),none,none,none])],[]),([],[],[(5,.val (jI ((a3.b.drop (Int.toNat 4)).length:Int)))]),([],[(3,.pan panV [some (.box 83 ((Qi.cells (Qi.mk (a3.b.drop (Int.toNat 4)))).map .pl)),none,none,none] [] 0 [])],[])] [some false] [] [] [6,7,8] (.pan panV) ((f43r1n0E a1 a2 a3 (.pan (Qi.mk (a3.b.drop (Int.toNat 4))) 0)).2) (ap (Qm.rn 4 [0] (Qcd 4 a3 h8)) (ap (Qn (xs:=(a3.b.drop (Int.toNat 4))) (c:=(cInt .u8))) (ap h11 (ap (Qcr.rn 4 [0] (f59r1_px (wr64 v9) (Qi.mk (a3.b.drop (Int.toNat 4))) h15)) an)))) rfl
   | ret =>
    refine rN Qf 3 [([],[(1,.call (.pl (.int .u64 v9)) [some (.box 83 ((Qi.cells (Qi.mk (a3.b.drop (Int.toNat 4)))).map .pl)),none,none,none])],[]),([],[],[(5,.val (jI ((a3.b.drop (Int.toNat 4)).length:Int)))]),([],[(3,.call (.pl (.sl .any 1 ((((a3.b.drop (Int.toNat 4)).take (Int.toNat (wr64 v9))).drop 0).map (cInt .u8)))) [some (.box 83 ((Qi.cells (Qi.mk ((a3.b.drop (Int.toNat 4)).drop (Int.toNat (wr64 v9))))).map .pl)),none,none,none])],[])] [some false] [] [] [0,1,2,6,7,8,10] (mkS [(0,(.bp 0 0)),(1,(jI a1)),(2,(.pl (.int .u64 a2))),(6,(.bp 1 0)),(7,(.bp 2 0)),(8,(.bp 3 0)),(10,(.pl (.sl .any 1 ((((a3.b.drop (Int.toNat 4)).take (Int.toNat (wr64 v9))).drop 0).map (cInt .u8)))))],[some (.box 83 ((Qi.cells (Qi.mk ((a3.b.drop (Int.toNat 4)).drop (Int.toNat (wr64 v9))))).map .pl)),some (.box 47 [(jI 0),(jS Qbz),(.pl (.sl .nil 0 []))]),some (.box 26 (((cInt .u64) 0).map .pl)),some (.box 4 ((cBool false).map .pl))]) (ap (Qm.rn 4 [0] (Qcd 4 a3 h8)) (ap (Qn (xs:=(a3.b.drop (Int.toNat 4))) (c:=(cInt .u8))) (ap h11 (ap (Qm.rn 4 [0] (f59r1_ok (wr64 v9) (Qi.mk (a3.b.drop (Int.toNat 4))) h15)) an)))) ?_
    obtain ⟨x32,h33,h⟩:=Qc h;obtain ⟨o38,h39,h⟩:=Qc h;cases o38 with
    | pan =>
     obtain rfl:=Qd h;exact rK Qf 2 [([],[jH 2 (.pl (.int .u64 x32))],[]),([],[(1,.pan panV [some (.box 83 ((Qi.cells (Qi.mk ((a3.b.drop (Int.toNat 4)).drop (Int.toNat (wr64 v9))))).map .pl)),none,none,none] [6,7,8] 58 [(.bp 0 0),(jI 8)])],[])] [] [] [] [6,7,8] (.pan panV) ((f43r1n0E a1 a2 a3 (.pan (Qi.mk ((a3.b.drop (Int.toNat 4)).drop (Int.toNat (wr64 v9)))) x32)).2) (ap (f20_ok a2 (((a3.b.drop (Int.toNat 4)).take (Int.toNat (wr64 v9))).drop 0) h33) (ap (Qcr.rn 4 [0] (f58r1_px 8 (Qi.mk ((a3.b.drop (Int.toNat 4)).drop (Int.toNat (wr64 v9)))) h39)) an)) rfl
    | ret v40 =>
     rcases Qg h with ⟨h41,h⟩|⟨h41,h⟩
     ·obtain ⟨o50,h51,h⟩:=Qc h;cases o50 with
      | pan v52 =>
       obtain rfl:=Qd h;exact rK Qf 3 [([],[jH 2 (.pl (.int .u64 x32))],[]),([],[(1,.call (.pl (.int .u64 v40)) [some (.box 83 ((Qi.cells (Qi.mk (((a3.b.drop (Int.toNat 4)).drop (Int.toNat (wr64 v9))).drop (Int.toNat 8)))).map .pl)),none,none,none,none])],[]),([],[(4,.pan panV (jN 5 [some (.box 83 ((Qi.cells v52).map .pl))]) [] 0 [])],[])] [some false] [] [] [6,7,8] (.pan panV) ((f43r1n0E a1 a2 a3 (.pan (Qi.mk (((a3.b.drop (Int.toNat 4)).drop (Int.toNat (wr64 v9))).drop (Int.toNat 8))) x32)).2) (ap (f20_ok a2 (((a3.b.drop (Int.toNat 4)).take (Int.toNat (wr64 v9))).drop 0) h33) (ap (Qm.rn 5 [0] (Qcd 8 (Qi.mk ((a3.b.drop (Int.toNat 4)).drop (Int.toNat (wr64 v9)))) h39)) (ap (Qq h41) (ap (Qcr.rn 6 [5] (f60r1_px a1 (Qi.mk (((a3.b.drop (Int.toNat 4)).take (Int.toNat (wr64 v9))).drop 0)) h51)) an)))) rfl
      | ret v53 v54 v55 v56 v57 =>
       obtain rfl:=Qd h
       exact rE Qf [([],[jH 2 (.pl (.int .u64 x32))],[]),([],[(1,.call (.pl (.int .u64 v40)) [some (.box 83 ((Qi.cells (Qi.mk (((a3.b.drop (Int.toNat 4)).drop (Int.toNat (wr64 v9))).drop (Int.toNat 8)))).map .pl)),none,none,none,none])],[]),([],[(4,.call (.tup [(.agg [(jI v55),(jS v56),(.own 7)]),(jB v53)]) (jN 5 [some (.box 83 ((Qi.cells v54).map .pl)),some (.box 47 [(jI v55),(jS v56),(.own 7)]),jR 3 Qb.cells v57]))],[]),j3] [some false] [] [7] [6,7,8] (.ret,(f43r1n0E a1 a2 a3 (.ret (Qi.mk (((a3.b.drop (Int.toNat 4)).drop (Int.toNat (wr64 v9))).drop (Int.toNat 8))) v55 v56 x32 v53 v57)).2) (ap (f20_ok a2 (((a3.b.drop (Int.toNat 4)).take (Int.toNat (wr64 v9))).drop 0) h33) (ap (Qm.rn 5 [0] (Qcd 8 (Qi.mk ((a3.b.drop (Int.toNat 4)).drop (Int.toNat (wr64 v9)))) h39)) (ap (Qq h41) (ap (Qm.rn 6 [5] (f60r1_ok a1 (Qi.mk (((a3.b.drop (Int.toNat 4)).take (Int.toNat (wr64 v9))).drop 0)) h51)) an)))) rfl
     ·obtain rfl:=Qd h;exact rK Qf 2 [([],[jH 2 (.pl (.int .u64 x32))],[]),([],[(1,.call (.pl (.int .u64 v40)) [some (.box 83 ((Qi.cells (Qi.mk (((a3.b.drop (Int.toNat 4)).drop (Int.toNat (wr64 v9))).drop (Int.toNat 8)))).map .pl)),none,none,none,none])],[]),j3] [some true] [.matC 1 2 3] [5] [6,7,8] .ret ((f43r1n0E a1 a2 a3 (.ret (Qi.mk (((a3.b.drop (Int.toNat 4)).drop (Int.toNat (wr64 v9))).drop (Int.toNat 8))) 0 Qbz 0 false [])).2) (ap (f20_ok a2 (((a3.b.drop (Int.toNat 4)).take (Int.toNat (wr64 v9))).drop 0) h33) (ap (Qm.rn 5 [0] (Qcd 8 (Qi.mk ((a3.b.drop (Int.toNat 4)).drop (Int.toNat (wr64 v9)))) h39)) (ap (Qac h41) an))) rfl
noncomputable def c57:Code:=Try.f57.body.getD .skip
noncomputable def f43r1(a1 a2:Int)(a3:Qi):Option (Qi×Int×ByteArray×Int×Bool×(List Qb)):=(f43r1n0 a1 a2 a3).bind fun o=>match o with
 | .ret v60 v61 v62 v63 v64 v65=>some (v60,v61,v62,v63,v64,v65)
 | .pan v58 v59=>some (v58,0,Qbz,0,false,[])
theorem f43r1_ok(a1 a2:Int)(a3:Qi){r:Qi×Int×ByteArray×Int×Bool×(List Qb)}(h:f43r1 a1 a2 a3=some r):Qm Try.prog true 43 [(.bp 0 0),(jI a1),(.pl (.int .u64 a2))] [some (.box 83 ((Qi.cells a3).map .pl))] (.tup [(.agg [(jI r.2.1),(jS r.2.2.1),(.own 4)]),(.pl (.int .u64 r.2.2.2.1)),(jB r.2.2.2.2.1)]) [some (.box 83 ((Qi.cells r.1).map .pl)),some (.box 47 [(jI r.2.1),(jS r.2.2.1),(.own 4)]),some (.box 26 (((cInt .u64) r.2.2.2.1).map .pl)),some (.box 4 ((cBool r.2.2.2.2.1).map .pl)),jR 3 Qb.cells r.2.2.2.2.2]:=by
 unfold f43r1 at h;obtain ⟨o,ho,h⟩:=Qc h;have hA:=run_ok (P:=Try.prog) (C:=cfg) (n:=Try.f43.ntmps) (base:=1) (st:=(Qai [(.bp 0 0),(jI a1),(.pl (.int .u64 a2))] 0 .leaf,[some (.box 83 ((Qi.cells a3).map .pl))])) Qf (c:=cL c43) (rs:=[j3]) (ps:=[]) (tds:=[]) (m:=[1,2,3]) (keep:=[0,1,2,6,7,8]) (r:=(.norm,((mkS [(0,(.bp 0 0)),(1,(jI a1)),(2,(.pl (.int .u64 a2))),(6,(.bp 1 0)),(7,(.bp 2 0)),(8,(.bp 3 0))],[some (.box 83 ((Qi.cells a3).map .pl)),some (.box 47 [(jI 0),(jS Qbz),(.pl (.sl .nil 0 []))]),some (.box 26 (((cInt .u64) 0).map .pl)),some (.box 4 ((cBool false).map .pl))]):Tr×Hp))) (by kernel_rfl) an
 have hR:=T.pre (P:=Try.prog) (n:=Try.f43.ntmps) (base:=4) (c:=(cR (cR c43))) (st:=((((mkS [(0,(.bp 0 0)),(1,(jI a1)),(2,(.pl (.int .u64 a2))),(6,(.bp 1 0)),(7,(.bp 2 0)),(8,(.bp 3 0))],[some (.box 83 ((Qi.cells a3).map .pl)),some (.box 47 [(jI 0),(jS Qbz),(.pl (.sl .nil 0 []))]),some (.box 26 (((cInt .u64) 0).map .pl)),some (.box 4 ((cBool false).map .pl))]):Tr×Hp)).1.put 12 11 .un,(((mkS [(0,(.bp 0 0)),(1,(jI a1)),(2,(.pl (.int .u64 a2))),(6,(.bp 1 0)),(7,(.bp 2 0)),(8,(.bp 3 0))],[some (.box 83 ((Qi.cells a3).map .pl)),some (.box 47 [(jI 0),(jS Qbz),(.pl (.sl .nil 0 []))]),some (.box 26 (((cInt .u64) 0).map .pl)),some (.box 4 ((cBool false).map .pl))]):Tr×Hp)).2)) (tds:=[]) (m:=[]) (keep:=[0,1,2,6,7,8]) (cs:=[]) (by kernel_rfl) trivial (f43r1n0_ok a1 a2 a3 ho)
 have hret:DefRet Try.prog 57 ([(.bp 1 0),(.bp 2 0),(.bp 3 0)]:List AV).length:=(DefRet.of Qf (f:=Try.f57) (c:=c57) (t6:=6) (t3:=3) (t7:=7) (t8:=8) (I:=20) (by kernel_rfl) (by kernel_rfl) (by kernel_rfl) (by kernel_rfl) (by kernel_rfl) (by kernel_rfl) (by kernel_rfl) (by kernel_rfl) Try.underlying20 (by kernel_rfl) (by kernel_rfl) (by kernel_rfl) (by kernel_rfl) (by kernel_rfl) (by kernel_rfl) (by decide) (by decide) (by kernel_rfl));cases o with
 | ret v60 v61 v62 v63 v64 v65 =>
  obtain rfl:=Qd h
  exact Qm.defers Qf (f:=Try.f43) (c:=c43) (kc:=57) (caps:=([(.bp 1 0),(.bp 2 0),(.bp 3 0)]:List AV)) (st1:=((mkS [(0,(.bp 0 0)),(1,(jI a1)),(2,(.pl (.int .u64 a2))),(6,(.bp 1 0)),(7,(.bp 2 0)),(8,(.bp 3 0))],[some (.box 83 ((Qi.cells a3).map .pl)),some (.box 47 [(jI 0),(jS Qbz),(.pl (.sl .nil 0 []))]),some (.box 26 (((cInt .u64) 0).map .pl)),some (.box 4 ((cBool false).map .pl))]):Tr×Hp)) (st2:=((((mkS [(0,(.bp 0 0)),(1,(jI a1)),(2,(.pl (.int .u64 a2))),(6,(.bp 1 0)),(7,(.bp 2 0)),(8,(.bp 3 0))],[some (.box 83 ((Qi.cells a3).map .pl)),some (.box 47 [(jI 0),(jS Qbz),(.pl (.sl .nil 0 []))]),some (.box 26 (((cInt .u64) 0).map .pl)),some (.box 4 ((cBool false).map .pl))]):Tr×Hp)).1.put 12 11 .un,(((mkS [(0,(.bp 0 0)),(1,(jI a1)),(2,(.pl (.int .u64 a2))),(6,(.bp 1 0)),(7,(.bp 2 0)),(8,(.bp 3 0))],[some (.box 83 ((Qi.cells a3).map .pl)),some (.box 47 [(jI 0),(jS Qbz),(.pl (.sl .nil 0 []))]),some (.box 26 (((cInt .u64) 0).map .pl)),some (.box 4 ((cBool false).map .pl))]):Tr×Hp)).2)) (st3:=(f43r1n0E a1 a2 a3 (.ret v60 v61 v62 v63 v64 v65)).2) (ex:=.ret) (ch:=panV) (H3:=(f43r1n0E a1 a2 a3 (.ret v60 v61 v62 v63 v64 v65)).2.2) (tds:=[]) (m:=[1,2,3,4]) (keep:=[6,7,8]) (st4:=(mkS [(6,(.bp 1 0)),(7,(.bp 2 0)),(8,(.bp 3 0))],[some (.box 83 ((Qi.cells v60).map .pl)),some (.box 47 [(jI v61),(jS v62),(.own 4)]),some (.box 26 (((cInt .u64) v63).map .pl)),some (.box 4 ((cBool v64).map .pl)),jR 3 Qb.cells v65])) (by kernel_rfl) (by kernel_rfl) (by kernel_rfl) (by kernel_rfl) (by kernel_rfl) hA (by kernel_rfl) (enters_of (Qf.fn 57 Try.f57 (by kernel_rfl)) (Qf.name 57 Try.f57 (by kernel_rfl)) (by kernel_rfl)) (by kernel_rfl) (by kernel_rfl) hR hret (.inl ⟨rfl,rfl⟩) (by kernel_rfl) an (by kernel_rfl) rfl
 | pan v58 v59 =>
  obtain rfl:=Qd h
  exact Qm.defers Qf (f:=Try.f43) (c:=c43) (kc:=57) (caps:=([(.bp 1 0),(.bp 2 0),(.bp 3 0)]:List AV)) (st1:=((mkS [(0,(.bp 0 0)),(1,(jI a1)),(2,(.pl (.int .u64 a2))),(6,(.bp 1 0)),(7,(.bp 2 0)),(8,(.bp 3 0))],[some (.box 83 ((Qi.cells a3).map .pl)),some (.box 47 [(jI 0),(jS Qbz),(.pl (.sl .nil 0 []))]),some (.box 26 (((cInt .u64) 0).map .pl)),some (.box 4 ((cBool false).map .pl))]):Tr×Hp)) (st2:=((((mkS [(0,(.bp 0 0)),(1,(jI a1)),(2,(.pl (.int .u64 a2))),(6,(.bp 1 0)),(7,(.bp 2 0)),(8,(.bp 3 0))],[some (.box 83 ((Qi.cells a3).map .pl)),some (.box 47 [(jI 0),(jS Qbz),(.pl (.sl .nil 0 []))]),some (.box 26 (((cInt .u64) 0).map .pl)),some (.box 4 ((cBool false).map .pl))]):Tr×Hp)).1.put 12 11 .un,(((mkS [(0,(.bp 0 0)),(1,(jI a1)),(2,(.pl (.int .u64 a2))),(6,(.bp 1 0)),(7,(.bp 2 0)),(8,(.bp 3 0))],[some (.box 83 ((Qi.cells a3).map .pl)),some (.box 47 [(jI 0),(jS Qbz),(.pl (.sl .nil 0 []))]),some (.box 26 (((cInt .u64) 0).map .pl)),some (.box 4 ((cBool false).map .pl))]):Tr×Hp)).2)) (st3:=(f43r1n0E a1 a2 a3 (.pan v58 v59)).2) (ex:=.pan panV) (ch:=panV) (H3:=[some (.box 83 ((Qi.cells v58).map .pl)),some (.box 47 [(jI 0),(jS Qbz),(.pl (.sl .nil 0 []))]),some (.box 26 (((cInt .u64) 0).map .pl)),some (.box 4 ((cBool false).map .pl))]) (tds:=[.matC 1 2 3]) (m:=[1,2,3,4]) (keep:=[6,7,8]) (st4:=(mkS [(6,(.bp 1 0)),(7,(.bp 2 0)),(8,(.bp 3 0))],[some (.box 83 ((Qi.cells v58).map .pl)),some (.box 47 [(jI 0),(jS Qbz),(.own 4)]),some (.box 26 (((cInt .u64) 0).map .pl)),some (.box 4 ((cBool false).map .pl)),some (.row false 3 ([].map Qb.cells))])) (by kernel_rfl) (by kernel_rfl) (by kernel_rfl) (by kernel_rfl) (by kernel_rfl) hA (by kernel_rfl) (enters_of (Qf.fn 57 Try.f57 (by kernel_rfl)) (Qf.name 57 Try.f57 (by kernel_rfl)) (by kernel_rfl)) (by kernel_rfl) (by kernel_rfl) hR hret (.inr ⟨rfl,DefPan.of Qf (f:=Try.f57) (c:=c57) (t6:=6) (t3:=3) (t7:=7) (t8:=8) (t10:=10) (t11:=11) (I:=20) (K:=103) (rops:=((opsQ (cL (cL (cL (cR (cR c57)))))).drop 2)) (cs0:=[]) (by kernel_rfl) (by kernel_rfl) (by kernel_rfl) (by kernel_rfl) (by kernel_rfl) (by kernel_rfl) (by kernel_rfl) (by kernel_rfl) (by kernel_rfl) (by kernel_rfl) Try.underlying20 (by kernel_rfl) (by kernel_rfl) Try.underlying103 rfl (by kernel_rfl) (by kernel_rfl) (by kernel_rfl) (by kernel_rfl) (by kernel_rfl) (by kernel_rfl) (by decide) (by decide) (by kernel_rfl) (by kernel_rfl) trivial⟩) (by kernel_rfl) an (by kernel_rfl) rfl


noncomputable def c16:Code:=Try.f16.body.getD .skip
inductive f16r1n1O where
 | ret (v56:Int) (v57:List Qa)
def f16r1n1E(a1:List Int):f16r1n1O→Ex×Tr×Hp
 | .ret v56 v57=>(.ret,mkS [(2,(.bp 0 0)),(3,(jI v56))],[some (.box 24 [(.own 1)]),some (.drow 3 (v57.map Qa.cells))])
def f16r1n1S(a1:List Int)(v35 v36 v37 v38:Int)(v39:Qi)(v40:List Qa)(v41:List (Qe×Int)):Tr×Hp:=(mkS [(0,(.pl (.sl .any 1 (a1.map (cInt .u8))))),(2,(.bp 0 0)),(4,(.bp 1 0)),(5,(.bp 2 0)),(6,(.bp 3 0)),(7,(jI v35)),(8,(.pl (.int .u64 v36)))],[some (.box 24 [(.pl (.sl .nil 0 []))]),some (.box 24 [(.own 4)]),some (.box 80 [(.mp 5),(jI v37),(jI v38)]),some (.box 83 ((Qi.cells v39).map .pl)),some (.drow 3 (v40.map Qa.cells)),some (.map (v41.map (mkv (pAgg Qe.cells) (pInt .i64))))])
noncomputable def f16r1n1:Nat→List Int→Int→Int→Int→Int→Qi→List Qa→List (Qe×Int)→Option f16r1n1O
 | 0,_,_,_,_,_,_,_,_=>none
 | f+1,a1,v35,v36,v37,v38,v39,v40,v41 =>
  (f43r1 (wr64 (v38+1)) v36 v39).bind fun x44 =>
  bif x44.2.2.2.2.1 then
   (f44r3 x44.2.1 x44.2.2.1 v37 v38 x44.2.2.2.2.2 v41).bind fun x51 =>
   bif x51.1 then
    req (fit (v40.length+1) 48) <|
    (f16r1n1 f a1 (wr64 ((a1.length:Int)-(x44.1.b.length:Int))) x44.2.2.2.1 x51.2.1 x51.2.2.1 x44.1 (v40++[(Qa.mk x44.2.1 x44.2.2.1 x44.2.2.2.2.2)]) x51.2.2.2)
   else
    some (.ret v35 v40)
  else
   some (.ret v35 v40)
theorem f16r1n1_ok:∀(f:Nat)(a1:List Int)(v35 v36 v37 v38:Int)(v39:Qi)(v40:List Qa)(v41:List (Qe×Int)){o:f16r1n1O},f16r1n1 f a1 v35 v36 v37 v38 v39 v40 v41=some o→TL Try.prog Try.f16.ntmps 0 f (cL (cL (Qk 5 c16))) (f16r1n1S a1 v35 v36 v37 v38 v39 v40 v41) (·=f16r1n1E a1 o)
 | 0,_,_,_,_,_,_,_,_,o,h=>by rw [f16r1n1] at h; cases h
 | f+1,a1,v35,v36,v37,v38,v39,v40,v41,o,h=>by
  rw [f16r1n1] at h;refine TL.body (K:=fun s=>∃v35:Int,∃v36:Int,∃v37:Int,∃v38:Int,∃v39:Qi,∃v40:List Qa,∃v41:List (Qe×Int),s=(f16r1n1S a1 v35 v36 v37 v38 v39 v40 v41)∧f16r1n1 f a1 v35 v36 v37 v38 v39 v40 v41=some o) ?_ (by rintro _ ⟨v35,v36,v37,v38,v39,v40,v41,rfl,hk⟩; exact f16r1n1_ok f _ _ _ _ _ _ _ _ hk);refine T.block' (i:=1) (by kernel_rfl) ?_;obtain ⟨x44,h45,h⟩:=Qc h;rcases Qg h with ⟨h50,h⟩|⟨h50,h⟩
  ·obtain ⟨x51,h52,h⟩:=Qc h;rcases Qg h with ⟨h53,h⟩|⟨h53,h⟩
   ·obtain ⟨h55,h⟩:=Qp h
    exact rE Qf [([],[(7,.call (.tup [(.agg [(jI x44.2.1),(jS x44.2.2.1),(.own 9)]),(.pl (.int .u64 x44.2.2.2.1)),(jB x44.2.2.2.2.1)]) (jN 3 [some (.box 83 ((Qi.cells x44.1).map .pl)),none,none,some (.box 47 [(jI x44.2.1),(jS x44.2.2.1),(.own 9)]),some (.box 26 (((cInt .u64) x44.2.2.2.1).map .pl)),some (.box 4 ((cBool x44.2.2.2.2.1).map .pl)),jR 3 Qb.cells x44.2.2.2.2.2]))],[]),(jF [3,4,5,6],[(5,.call (jB x51.1) [none,none,some (.box 80 [(.mp 5),(jI x51.2.1),(jI x51.2.2.1)]),none,none,some (.map (x51.2.2.2.map (mkv (pAgg Qe.cells) (pInt .i64)))),none,none,none,jR 3 Qb.cells x44.2.2.2.2.2,none]),(7,.bool false)],[]),([],[(3,.nz),(4,.fits)],[(4,.drw 12 ((v40++[(Qa.mk x44.2.1 x44.2.2.1 x44.2.2.2.2.2)]).map Qa.cells))]),([],[],[(1,.val (jI (a1.length:Int))),(6,.val (jI (x44.1.b.length:Int)))])] [some false] [] [0,1,2,3,12,5] [0,2,4,5,6,7,8] (.norm,(f16r1n1S a1 (wr64 ((a1.length:Int)-(x44.1.b.length:Int))) x44.2.2.2.1 x51.2.1 x51.2.2.1 x44.1 (v40++[(Qa.mk x44.2.1 x44.2.2.1 x44.2.2.2.2.2)]) x51.2.2.2)) (ap (Qm.rn 6 [3] (f43r1_ok (wr64 (v38+1)) v36 v39 h45)) (ap (Qq h50) (ap4 (Qq h50) (ap (Qm.rn 11 [2,9,5] (f44r3_ok x44.2.1 x44.2.2.1 v37 v38 x44.2.2.2.2.2 v41 h52)) (ap (Qq h53) (ap (flat_cv (c:=Qb.cells) (fun _=>rfl) x44.2.2.2.2.2) (ap (Qbq (te:=ti47) (xs:=v40) (n:=1) (c:=Qa.cells) h55 rfl) (ap (Qap (xs:=v40) (ys:=[(Qa.mk x44.2.1 x44.2.2.1 x44.2.2.2.2.2)]) (c:=Qa.cells)) (ap (Qn (xs:=a1) (c:=(cInt .u8))) (ap (Qn (xs:=x44.1.b) (c:=(cInt .u8))) an)))))))))) (Qt.norm ⟨(wr64 ((a1.length:Int)-(x44.1.b.length:Int))),x44.2.2.2.1,x51.2.1,x51.2.2.1,x44.1,(v40++[(Qa.mk x44.2.1 x44.2.2.1 x44.2.2.2.2.2)]),x51.2.2.2,rfl,h⟩)
   ·obtain rfl:=Qd h
    exact rK Qf 2 [([],[(7,.call (.tup [(.agg [(jI x44.2.1),(jS x44.2.2.1),(.own 9)]),(.pl (.int .u64 x44.2.2.2.1)),(jB x44.2.2.2.2.1)]) (jN 3 [some (.box 83 ((Qi.cells x44.1).map .pl)),none,none,some (.box 47 [(jI x44.2.1),(jS x44.2.2.1),(.own 9)]),some (.box 26 (((cInt .u64) x44.2.2.2.1).map .pl)),some (.box 4 ((cBool x44.2.2.2.2.1).map .pl)),jR 3 Qb.cells x44.2.2.2.2.2]))],[]),(jF [3,4,5,6],[(5,.call (jB x51.1) [none,none,some (.box 80 [(.mp 5),(jI x51.2.1),(jI x51.2.2.1)]),none,none,some (.map (x51.2.2.2.map (mkv (pAgg Qe.cells) (pInt .i64)))),none,none,none,jR 3 Qb.cells x44.2.2.2.2.2,none]),(7,.bool false)],[]),j3] [some true] [] [0,4] [2,3] .ret ((f16r1n1E a1 (.ret v35 v40)).2) (ap (Qm.rn 6 [3] (f43r1_ok (wr64 (v38+1)) v36 v39 h45)) (ap (Qq h50) (ap4 (Qq h50) (ap (Qm.rn 11 [2,9,5] (f44r3_ok x44.2.1 x44.2.2.1 v37 v38 x44.2.2.2.2.2 v41 h52)) (ap (Qac h53) an))))) (Qt.out rfl rfl)
  ·obtain rfl:=Qd h;exact rK Qf 2 [([],[(7,.call (.tup [(.agg [(jI x44.2.1),(jS x44.2.2.1),(.own 9)]),(.pl (.int .u64 x44.2.2.2.1)),(jB x44.2.2.2.2.1)]) (jN 3 [some (.box 83 ((Qi.cells x44.1).map .pl)),none,none,some (.box 47 [(jI x44.2.1),(jS x44.2.2.1),(.own 9)]),some (.box 26 (((cInt .u64) x44.2.2.2.1).map .pl)),some (.box 4 ((cBool x44.2.2.2.2.1).map .pl)),jR 3 Qb.cells x44.2.2.2.2.2]))],[]),(jT [3,4,5,6],[(7,.bool true)],[]),j3] [none] [] [0,4] [2,3] .ret ((f16r1n1E a1 (.ret v35 v40)).2) (ap (Qm.rn 6 [3] (f43r1_ok (wr64 (v38+1)) v36 v39 h45)) (ap (Qac h50) (ap4 (Qac h50) an))) (Qt.out rfl rfl)
inductive f16r1n0O where
 | ret (v62:Int) (v63:List Qa)
def f16r1n0E(a1:List Int):f16r1n0O→Ex×Tr×Hp
 | .ret v62 v63=>(.ret,mkS [(2,(.bp 0 0)),(3,(jI v62))],[some (.box 24 [(.own 1)]),some (.drow 3 (v63.map Qa.cells))])
def f16r1n0S(a1:List Int):Tr×Hp:=(Qai [(.pl (.sl .any 1 (a1.map (cInt .u8))))] 0 .leaf,[])
noncomputable def f16r1n0(a1:List Int):Option f16r1n0O :=
 (f16r1n1 FUEL a1 0 0 0 0 (Qi.mk a1) [] []).bind fun o58=>match o58 with
 | .ret v60 v61=>some (.ret v60 v61)
theorem f16r1n0_ok(a1:List Int){o:f16r1n0O}(h:f16r1n0 a1=some o):T Try.prog Try.f16.ntmps 0 c16 (f16r1n0S a1) (·=f16r1n0E a1 o):=by
 unfold f16r1n0 at h;refine rN Qf 5 [j3,j3,j3,j3,j3] [] [.matC 1 0 1003] [0,1,3,4,5,2] [0,2,4,5,6,7,8] (f16r1n1S a1 0 0 0 0 (Qi.mk a1) [] []) an ?_;obtain ⟨o58,h59,h⟩:=Qc h;cases o58 with
 | ret v60 v61 =>
  obtain rfl:=Qd h;exact T.last' (T.bl (i:=0) (by kernel_rfl) (by kernel_rfl) (f16r1n1_ok FUEL a1 0 0 0 0 (Qi.mk a1) [] [] h59)) (tds:=[]) (m:=[0,1]) (keep:=[2,3]) (st2:=(f16r1n0E a1 (.ret v60 v61)).2) (by kernel_rfl) an rfl
noncomputable def f16r1(a1:List Int):Option (Int×(List Qa)):=(f16r1n0 a1).bind fun o=>match o with
 | .ret v62 v63=>some (v62,v63)
theorem f16r1_ok(a1:List Int){r:Int×(List Qa)}(h:f16r1 a1=some r):Qm Try.prog true 16 [(.pl (.sl .any 1 (a1.map (cInt .u8))))] [] (.tup [(.agg [(.own 1)]),(jI r.1)]) [some (.box 24 [(.own 1)]),some (.drow 3 (r.2.map Qa.cells))]:=by
 unfold f16r1 at h;obtain ⟨o,ho,h⟩:=Qc h;cases o with
 | ret v62 v63 =>
  obtain rfl:=Qd h;exact Qm.shared Qf (f:=Try.f16) (c:=c16) (by kernel_rfl) (by kernel_rfl) (by kernel_rfl) ((f16r1n0_ok a1 ho).mono fun r e=>by subst e; exact ⟨.inl rfl,by kernel_rfl,by kernel_rfl⟩)

noncomputable def c25:Code:=Try.f25.body.getD .skip
inductive f25n0O where
 | ret (v10:Int) (v11:Int)
def f25n0E(a1:Qh)(a2 a3:ByteArray):f25n0O→Ex×Tr×Hp
 | .ret v10 v11=>(.ret,mkS [(6,(jI v10)),(7,(jI v11))],[])
def f25n0S(a1:Qh)(a2 a3:ByteArray):Tr×Hp:=(Qai [(jA Qh.cells a1),(jS a2),(jS a3)] 0 .leaf,[])
noncomputable def f25n0(a1:Qh)(a2 a3:ByteArray):Option f25n0O :=
 (f47r1 a1).bind fun x6 =>
 bif x6.1 then
  some (.ret (mGet Qe.eqb 0 (Qe.mk a2 a3) x6.2.2.2) 0)
 else
  some (.ret 0 8)
theorem f25n0_ok(a1:Qh)(a2 a3:ByteArray){o:f25n0O}(h:f25n0 a1 a2 a3=some o):T Try.prog Try.f25.ntmps 0 c25 (f25n0S a1 a2 a3) (·=f25n0E a1 a2 a3 o):=by
 unfold f25n0 at h;obtain ⟨x6,h7,h⟩:=Qc h;rcases Qg h with ⟨h9,h⟩|⟨h9,h⟩
 ·obtain rfl:=Qd h;exact rE Qf [j3,([],[(1,.call (.tup [(.bp 1 0),(jB x6.1)]) [none,some (.box 80 [(.mp 2),(jI x6.2.1),(jI x6.2.2.1)]),some (.map (x6.2.2.2.map (mkv (pAgg Qe.cells) (pInt .i64))))])],[]),j3,([],[(7,.look ((pInt .i64) (mGet Qe.eqb 0 (Qe.mk a2 a3) x6.2.2.2)) (mHas Qe.eqb (Qe.mk a2 a3) x6.2.2.2))],[])] [some false] [] [] [6,7] (.ret,(f25n0E a1 a2 a3 (.ret (mGet Qe.eqb 0 (Qe.mk a2 a3) x6.2.2.2) 0)).2) (ap (Qm.rn 1 [] (f47r1_ok a1 h7)) (ap (Qq h9) (ap (look_map (vp:=(pInt .i64)) (e:=3) key_95 0 (by kernel_rfl) (Qe.mk a2 a3) x6.2.2.2) an))) rfl
 ·obtain rfl:=Qd h;exact rK Qf 3 [j3,([],[(1,.call (.tup [(.bp 1 0),(jB x6.1)]) [none,some (.box 80 [(.mp 2),(jI x6.2.1),(jI x6.2.2.1)]),some (.map (x6.2.2.2.map (mkv (pAgg Qe.cells) (pInt .i64))))])],[]),j3,j3] [some true] [] [] [6,7] .ret ((f25n0E a1 a2 a3 (.ret 0 8)).2) (ap (Qm.rn 1 [] (f47r1_ok a1 h7)) (ap (Qac h9) an)) rfl
noncomputable def f25(a1:Qh)(a2 a3:ByteArray):Option (Int×Int):=(f25n0 a1 a2 a3).bind fun o=>match o with
 | .ret v10 v11=>some (v10,v11)
theorem f25_ok(a1:Qh)(a2 a3:ByteArray){r:Int×Int}(h:f25 a1 a2 a3=some r):Qm Try.prog false 25 [(jA Qh.cells a1),(jS a2),(jS a3)] [] (.tup [(jI r.1),(jI r.2)]) []:=by
 unfold f25 at h;obtain ⟨o,ho,h⟩:=Qc h;cases o with
 | ret v10 v11 =>
  obtain rfl:=Qd h;exact Qm.plain Qf (f:=Try.f25) (c:=c25) (by kernel_rfl) (by kernel_rfl) (by kernel_rfl) (by kernel_rfl) ((f25n0_ok a1 a2 a3 ho).mono fun r e=>by subst e; exact ⟨.inl rfl,(.tup [(jI v10),(jI v11)]),(.tup [(jI v10),(jI v11)]),by kernel_rfl,by kernel_rfl,((Wk.refl _):Wk (.tup [(jI v10),(jI v11)]) (.tup [(jI v10),(jI v11)]))⟩)

noncomputable def c27:Code:=Try.f27.body.getD .skip
inductive f27n2O where
 | exit0
 | ret
def f27n2E(bb1 bb2:Qa):f27n2O→Ex×Tr×Hp
 | .exit0=>((.exit 0),mkS [],[])
 | .ret=>(.ret,mkS [(4,(jB false))],[])
def f27n2S(bb1 bb2:Qa)(v34:Int):Tr×Hp:=(mkS [(2,(.bp 0 0)),(3,(.bp 1 0)),(5,(jI v34))],[some (.box 47 ((Qa.cells bb1).map .pl)),some (.box 47 ((Qa.cells bb2).map .pl))])
noncomputable def f27n2:Nat→Qa→Qa→Int→Option f27n2O
 | 0,_,_,_=>none
 | f+1,bb1,bb2,v34 =>
  bif decide (v34<(bb1.Lines.length:Int)) then
   (at? bb1.Lines v34).bind fun x42 =>
   (at? bb2.Lines v34).bind fun x44 =>
   bif (Qb.eqb x42 x44) then
    (f27n2 f bb1 bb2 (wr64 (v34+1)))
   else
    some .ret
  else
   some .exit0
theorem f27n2_ok:∀(f:Nat)(bb1 bb2:Qa)(v34:Int){o:f27n2O},f27n2 f bb1 bb2 v34=some o→TL Try.prog Try.f27.ntmps 0 f (cL (cL (Qk 1 (cL (Qk 0 (Qk 2 c27)))))) (f27n2S bb1 bb2 v34) (·=f27n2E bb1 bb2 o)
 | 0,_,_,_,o,h=>by rw [f27n2] at h; cases h
 | f+1,bb1,bb2,v34,o,h=>by
  rw [f27n2] at h;refine TL.body (K:=fun s=>∃v34:Int,s=(f27n2S bb1 bb2 v34)∧f27n2 f bb1 bb2 v34=some o) ?_ (by rintro _ ⟨v34,rfl,hk⟩; exact f27n2_ok f _ _ _ hk);rcases Qg h with ⟨h36,h⟩|⟨h36,h⟩
  ·obtain ⟨x42,h43,h⟩:=Qc h;obtain ⟨x44,h45,h⟩:=Qc h;rcases Qg h with ⟨h46,h⟩|⟨h46,h⟩
   ·exact rE Qf [([],[],[(3,.val (jI (bb1.Lines.length:Int)))]),([],[(3,.idx (Int.toNat v34) (Qb.cells x42)),(8,.idx (Int.toNat v34) (Qb.cells x44)),(10,.bool (Qb.eqb x42 x44))],[]),j3] [some true,some false] [] [0,1] [2,3,5] (.norm,(f27n2S bb1 bb2 (wr64 (v34+1)))) (ap (Qn (xs:=bb1.Lines) (c:=Qb.cells)) (ap h36 (ap (Qj h43).1 (ap (Qs Qb.cells (Qj h43).2) (ap (Qj h45).1 (ap (Qs Qb.cells (Qj h45).2) (ap (Qb.eqb_ok x42 x44) (ap (Qq h46) an)))))))) (Qt.norm ⟨(wr64 (v34+1)),rfl,h⟩)
   ·obtain rfl:=Qd h;exact rK Qf 2 [([],[],[(3,.val (jI (bb1.Lines.length:Int)))]),([],[(3,.idx (Int.toNat v34) (Qb.cells x42)),(8,.idx (Int.toNat v34) (Qb.cells x44)),(10,.bool (Qb.eqb x42 x44))],[]),j3] [some true,some true] [] [] [4] .ret ((f27n2E bb1 bb2 .ret).2) (ap (Qn (xs:=bb1.Lines) (c:=Qb.cells)) (ap h36 (ap (Qj h43).1 (ap (Qs Qb.cells (Qj h43).2) (ap (Qj h45).1 (ap (Qs Qb.cells (Qj h45).2) (ap (Qb.eqb_ok x42 x44) (ap (Qac h46) an)))))))) (Qt.out rfl rfl)
  ·obtain rfl:=Qd h;exact rK Qf 1 [([],[],[(3,.val (jI (bb1.Lines.length:Int)))])] [some false] [] [] [] (.exit 0) ((f27n2E bb1 bb2 .exit0).2) (ap (Qn (xs:=bb1.Lines) (c:=Qb.cells)) (ap h36 an)) (Qt.out rfl rfl)
noncomputable def f27n2L(bb1 bb2:Qa):List Qb→Int→Option f27n2O
 | [],v34 =>
  some .exit0
 | x0::rest,v34 =>
  (at? bb2.Lines v34).bind fun x44 =>
  bif (Qb.eqb x0 x44) then
   (f27n2L bb1 bb2 rest (v34+1))
  else
   some .ret
theorem f27n2L_eq(bb1 bb2:Qa):∀(rest:List Qb)(f k:Nat),bb1.Lines.drop k=rest→bb1.Lines.length≤maxLen→rest.length<f→f27n2 f bb1 bb2 (k:Int)=f27n2L bb1 bb2 rest (k:Int)
 | _,0,_,_,_,hf=>absurd hf (Nat.not_lt_zero _)
 | [],f+1,k,hd,hm,hf=>by
  have hk:¬((k:Int)<(bb1.Lines.length:Int)):=by have:=Qaj hd; omega
  rw [f27n2,f27n2L];simp only [decide_eq_false hk,cond_false]
 | x0::rest,f+1,k,hd,hm,hf=>by
  obtain ⟨hx,hlt,hd'⟩:=Qx hd;have hk:(k:Int)<(bb1.Lines.length:Int):=by omega
  have hw:wr64 ((k:Int)+1)=(k:Int)+1:=Qr (by omega) (by unfold maxLen at hm; omega);have ih:f27n2 f bb1 bb2 ((k:Int)+1)=f27n2L bb1 bb2 rest ((k:Int)+1):=f27n2L_eq bb1 bb2 rest f (k+1) hd' hm (by simpa using hf);rw [f27n2,f27n2L];simp only [decide_eq_true hk,cond_true,Qaq,hx,Option.bind_some,hw,ih]
theorem f27n2_run(bb1 bb2:Qa)(hm:bb1.Lines.length≤maxLen):f27n2 FUEL bb1 bb2 0=f27n2L bb1 bb2 bb1.Lines 0:=f27n2L_eq bb1 bb2 bb1.Lines FUEL 0 List.drop_zero hm (Qao hm)
inductive f27n1O where
 | norm
 | ret
def f27n1E(bb1 bb2:Qa):f27n1O→Ex×Tr×Hp
 | .norm=>(.norm,mkS [],[])
 | .ret=>(.ret,mkS [(4,(jB false))],[])
def f27n1S(bb1 bb2:Qa):Tr×Hp:=(mkS [(2,(.bp 0 0)),(3,(.bp 1 0))],[some (.box 47 ((Qa.cells bb1).map .pl)),some (.box 47 ((Qa.cells bb2).map .pl))])
noncomputable def f27n1(bb1 bb2:Qa):Option f27n1O :=
 (f27n2 FUEL bb1 bb2 0).bind fun o47=>match o47 with
 | .exit0=>some .norm
 | .ret=>some .ret
theorem f27n1_ok(bb1 bb2:Qa){o:f27n1O}(h:f27n1 bb1 bb2=some o):T Try.prog Try.f27.ntmps 0 (cL (Qk 0 (Qk 2 c27))) (f27n1S bb1 bb2) (·=f27n1E bb1 bb2 o):=by
 unfold f27n1 at h;refine rN Qf 1 [j3] [] [] [0,1] [2,3,5] (f27n2S bb1 bb2 0) an ?_;obtain ⟨o47,h48,h⟩:=Qc h;cases o47 with
 | exit0 =>
  obtain rfl:=Qd h;exact T.last' (T.bl (i:=0) (by kernel_rfl) (by kernel_rfl) (f27n2_ok FUEL bb1 bb2 0 h48)) (tds:=[]) (m:=[]) (keep:=[]) (st2:=(f27n1E bb1 bb2 .norm).2) (by kernel_rfl) an rfl
 | ret =>
  obtain rfl:=Qd h;exact T.last' (T.bl (i:=0) (by kernel_rfl) (by kernel_rfl) (f27n2_ok FUEL bb1 bb2 0 h48)) (tds:=[]) (m:=[]) (keep:=[4]) (st2:=(f27n1E bb1 bb2 .ret).2) (by kernel_rfl) an rfl
inductive f27n0O where
 | ret (v51:Bool)
def f27n0E(a1 a2:Qa):f27n0O→Ex×Tr×Hp
 | .ret v51=>(.ret,mkS [(4,(jB v51))],[])
def f27n0S(a1 a2:Qa):Tr×Hp:=(Qai [(jA Qa.cells a1),(jA Qa.cells a2)] 0 .leaf,[])
noncomputable def f27n0(a1 a2:Qa):Option f27n0O :=
 bif decide (a1.Day=a2.Day) then
  bif (seq a1.Text a2.Text) then
   bif decide ((a1.Lines.length:Int)=(a2.Lines.length:Int)) then
    (f27n1 a1 a2).bind fun o49=>match o49 with
    | .norm=>some (.ret true)
    | .ret=>some (.ret false)
   else
    some (.ret false)
  else
   some (.ret false)
 else
  some (.ret false)
theorem f27n0_ok(a1 a2:Qa){o:f27n0O}(h:f27n0 a1 a2=some o):T Try.prog Try.f27.ntmps 0 c27 (f27n0S a1 a2) (·=f27n0E a1 a2 o):=by
 unfold f27n0 at h;rcases Qg h with ⟨h6,h⟩|⟨h6,h⟩
 ·rcases Qg h with ⟨h7,h⟩|⟨h7,h⟩
  ·rcases Qg h with ⟨h8,h⟩|⟨h8,h⟩
   ·refine rN Qf 2 [j3,(jF [6,7,8,9,10,13,14,15,16,17,18,19],[(11,.bool false),(20,.bool false)],[(15,.val (jI (a1.Lines.length:Int))),(18,.val (jI (a2.Lines.length:Int)))])] [some false] [] [0,1] [2,3] (mkS [(2,(.bp 0 0)),(3,(.bp 1 0))],[some (.box 47 ((Qa.cells a1).map .pl)),some (.box 47 ((Qa.cells a2).map .pl))]) (ap2 (Qq h6) (ap4 (Qq h6) (ap3 (Qq h7) (ap (Qn (xs:=a1.Lines) (c:=Qb.cells)) (ap3 (Qq h7) (ap (Qn (xs:=a2.Lines) (c:=Qb.cells)) (ap2 (Qq h7) (ap (Qq h8) an)))))))) ?_;refine rN Qf 0 [] [] [] [0,1] [2,3] (f27n1S a1 a2) an ?_;obtain ⟨o49,h50,h⟩:=Qc h;cases o49 with
    | norm =>
     refine T.oneN (by kernel_rfl) (f27n1_ok a1 a2 h50) (st2:=(f27n1E a1 a2 .norm).2) rfl ?_;obtain rfl:=Qd h;exact rE Qf [j3] [] [] [] [4] (.ret,(f27n0E a1 a2 (.ret true)).2) an rfl
    | ret =>
     obtain rfl:=Qd h;exact T.oneX' (by kernel_rfl) (f27n1_ok a1 a2 h50) (tds:=[]) (m:=[]) (keep:=[4]) (st2:=(f27n0E a1 a2 (.ret false)).2) (by kernel_rfl) an rfl rfl
   ·obtain rfl:=Qd h;exact rK Qf 2 [j3,(jF [6,7,8,9,10,13,14,15,16,17,18,19],[(11,.bool false),(20,.bool false)],[(15,.val (jI (a1.Lines.length:Int))),(18,.val (jI (a2.Lines.length:Int)))]),j3] [some true] [] [] [4] .ret ((f27n0E a1 a2 (.ret false)).2) (ap2 (Qq h6) (ap4 (Qq h6) (ap3 (Qq h7) (ap (Qn (xs:=a1.Lines) (c:=Qb.cells)) (ap3 (Qq h7) (ap (Qn (xs:=a2.Lines) (c:=Qb.cells)) (ap2 (Qq h7) (ap (Qac h8) an)))))))) rfl
  ·obtain rfl:=Qd h;exact rK Qf 2 [j3,(jF [6,7,8,9,10]++jT [13,14,15,16,17,18,19],[(11,.bool false),(20,.bool true)],[]),j3] [none] [] [] [4] .ret ((f27n0E a1 a2 (.ret false)).2) (ap2 (Qq h6) (ap4 (Qq h6) (ap4 (Qac h7) (ap4 (Qac h7) an)))) rfl
 ·obtain rfl:=Qd h;exact rK Qf 2 [j3,(jT [6,7,8,9,10],[(11,.bool true)],[]),j3] [none] [] [] [4] .ret ((f27n0E a1 a2 (.ret false)).2) (ap2 (Qac h6) (ap4 (Qac h6) an)) rfl
noncomputable def f27(a1 a2:Qa):Option Bool:=(f27n0 a1 a2).bind fun o=>match o with
 | .ret v51=>some v51
theorem f27_ok(a1 a2:Qa){r:Bool}(h:f27 a1 a2=some r):Qm Try.prog false 27 [(jA Qa.cells a1),(jA Qa.cells a2)] [] (jB r) []:=by
 unfold f27 at h;obtain ⟨o,ho,h⟩:=Qc h;cases o with
 | ret v51 =>
  obtain rfl:=Qd h;exact Qm.plain Qf (f:=Try.f27) (c:=c27) (by kernel_rfl) (by kernel_rfl) (by kernel_rfl) (by kernel_rfl) ((f27n0_ok a1 a2 ho).mono fun r e=>by subst e; exact ⟨.inl rfl,(jB v51),(jB v51),by kernel_rfl,by kernel_rfl,((Wk.refl _):Wk (jB v51) (jB v51))⟩)

noncomputable def c19:Code:=Try.f19.body.getD .skip
inductive f19n2O where
 | exit0
 | ret
def f19n2E(ba1 ba2:Qh):f19n2O→Ex×Tr×Hp
 | .exit0=>((.exit 0),mkS [],[])
 | .ret=>(.ret,mkS [(4,(jB false))],[])
def f19n2S(ba1 ba2:Qh)(v38:Int):Tr×Hp:=(mkS [(2,(.bp 0 0)),(3,(.bp 1 0)),(5,(jI v38))],[some (.box 24 ((Qh.cells ba1).map .pl)),some (.box 24 ((Qh.cells ba2).map .pl))])
noncomputable def f19n2:Nat→Qh→Qh→Int→Option f19n2O
 | 0,_,_,_=>none
 | f+1,ba1,ba2,v38 =>
  bif decide (v38<(ba1.Records.length:Int)) then
   (at? ba1.Records v38).bind fun x48 =>
   (at? ba2.Records v38).bind fun x50 =>
   (f27 x48 x50).bind fun x52 =>
   bif x52 then
    (f19n2 f ba1 ba2 (wr64 (v38+1)))
   else
    some .ret
  else
   some .exit0
theorem f19n2_ok:∀(f:Nat)(ba1 ba2:Qh)(v38:Int){o:f19n2O},f19n2 f ba1 ba2 v38=some o→TL Try.prog Try.f19.ntmps 0 f (cL (cL (Qk 1 (cL (Qk 2 c19))))) (f19n2S ba1 ba2 v38) (·=f19n2E ba1 ba2 o)
 | 0,_,_,_,o,h=>by rw [f19n2] at h; cases h
 | f+1,ba1,ba2,v38,o,h=>by
  rw [f19n2] at h;refine TL.body (K:=fun s=>∃v38:Int,s=(f19n2S ba1 ba2 v38)∧f19n2 f ba1 ba2 v38=some o) ?_ (by rintro _ ⟨v38,rfl,hk⟩; exact f19n2_ok f _ _ _ hk);rcases Qg h with ⟨h40,h⟩|⟨h40,h⟩
  ·obtain ⟨x48,h49,h⟩:=Qc h;obtain ⟨x50,h51,h⟩:=Qc h;obtain ⟨x52,h53,h⟩:=Qc h;rcases Qg h with ⟨h54,h⟩|⟨h54,h⟩
   ·exact rE Qf [([],[],[(3,.val (jI (ba1.Records.length:Int)))]),([],[(3,.idx (Int.toNat v38) (Qa.cells x48)),(8,.idx (Int.toNat v38) (Qa.cells x50)),jH 10 (jB x52)],[]),j3] [some true,some false] [] [0,1] [2,3,5] (.norm,(f19n2S ba1 ba2 (wr64 (v38+1)))) (ap (Qn (xs:=ba1.Records) (c:=Qa.cells)) (ap h40 (ap (Qj h49).1 (ap (Qs Qa.cells (Qj h49).2) (ap (Qj h51).1 (ap (Qs Qa.cells (Qj h51).2) (ap (f27_ok x48 x50 h53) (ap (Qq h54) an)))))))) (Qt.norm ⟨(wr64 (v38+1)),rfl,h⟩)
   ·obtain rfl:=Qd h;exact rK Qf 2 [([],[],[(3,.val (jI (ba1.Records.length:Int)))]),([],[(3,.idx (Int.toNat v38) (Qa.cells x48)),(8,.idx (Int.toNat v38) (Qa.cells x50)),jH 10 (jB x52)],[]),j3] [some true,some true] [] [] [4] .ret ((f19n2E ba1 ba2 .ret).2) (ap (Qn (xs:=ba1.Records) (c:=Qa.cells)) (ap h40 (ap (Qj h49).1 (ap (Qs Qa.cells (Qj h49).2) (ap (Qj h51).1 (ap (Qs Qa.cells (Qj h51).2) (ap (f27_ok x48 x50 h53) (ap (Qac h54) an)))))))) (Qt.out rfl rfl)
  ·obtain rfl:=Qd h;exact rK Qf 1 [([],[],[(3,.val (jI (ba1.Records.length:Int)))])] [some false] [] [] [] (.exit 0) ((f19n2E ba1 ba2 .exit0).2) (ap (Qn (xs:=ba1.Records) (c:=Qa.cells)) (ap h40 an)) (Qt.out rfl rfl)
noncomputable def f19n2L(ba1 ba2:Qh):List Qa→Int→Option f19n2O
 | [],v38 =>
  some .exit0
 | x0::rest,v38 =>
  (at? ba2.Records v38).bind fun x50 =>
  (f27 x0 x50).bind fun x52 =>
  bif x52 then
   (f19n2L ba1 ba2 rest (v38+1))
  else
   some .ret
theorem f19n2L_eq(ba1 ba2:Qh):∀(rest:List Qa)(f k:Nat),ba1.Records.drop k=rest→ba1.Records.length≤maxLen→rest.length<f→f19n2 f ba1 ba2 (k:Int)=f19n2L ba1 ba2 rest (k:Int)
 | _,0,_,_,_,hf=>absurd hf (Nat.not_lt_zero _)
 | [],f+1,k,hd,hm,hf=>by
  have hk:¬((k:Int)<(ba1.Records.length:Int)):=by have:=Qaj hd; omega
  rw [f19n2,f19n2L];simp only [decide_eq_false hk,cond_false]
 | x0::rest,f+1,k,hd,hm,hf=>by
  obtain ⟨hx,hlt,hd'⟩:=Qx hd;have hk:(k:Int)<(ba1.Records.length:Int):=by omega
  have hw:wr64 ((k:Int)+1)=(k:Int)+1:=Qr (by omega) (by unfold maxLen at hm; omega);have ih:f19n2 f ba1 ba2 ((k:Int)+1)=f19n2L ba1 ba2 rest ((k:Int)+1):=f19n2L_eq ba1 ba2 rest f (k+1) hd' hm (by simpa using hf);rw [f19n2,f19n2L];simp only [decide_eq_true hk,cond_true,Qaq,hx,Option.bind_some,hw,ih]
theorem f19n2_run(ba1 ba2:Qh)(hm:ba1.Records.length≤maxLen):f19n2 FUEL ba1 ba2 0=f19n2L ba1 ba2 ba1.Records 0:=f19n2L_eq ba1 ba2 ba1.Records FUEL 0 List.drop_zero hm (Qao hm)
inductive f19n1O where
 | norm
 | ret
def f19n1E(ba1 ba2:Qh):f19n1O→Ex×Tr×Hp
 | .norm=>(.norm,mkS [],[])
 | .ret=>(.ret,mkS [(4,(jB false))],[])
def f19n1S(ba1 ba2:Qh):Tr×Hp:=(mkS [(2,(.bp 0 0)),(3,(.bp 1 0))],[some (.box 24 ((Qh.cells ba1).map .pl)),some (.box 24 ((Qh.cells ba2).map .pl))])
noncomputable def f19n1(ba1 ba2:Qh):Option f19n1O :=
 (f19n2 FUEL ba1 ba2 0).bind fun o55=>match o55 with
 | .exit0=>some .norm
 | .ret=>some .ret
theorem f19n1_ok(ba1 ba2:Qh){o:f19n1O}(h:f19n1 ba1 ba2=some o):T Try.prog Try.f19.ntmps 0 (cL (Qk 2 c19)) (f19n1S ba1 ba2) (·=f19n1E ba1 ba2 o):=by
 unfold f19n1 at h;refine rN Qf 1 [j3] [] [] [0,1] [2,3,5] (f19n2S ba1 ba2 0) an ?_;obtain ⟨o55,h56,h⟩:=Qc h;cases o55 with
 | exit0 =>
  obtain rfl:=Qd h;exact T.last' (T.bl (i:=0) (by kernel_rfl) (by kernel_rfl) (f19n2_ok FUEL ba1 ba2 0 h56)) (tds:=[]) (m:=[]) (keep:=[]) (st2:=(f19n1E ba1 ba2 .norm).2) (by kernel_rfl) an rfl
 | ret =>
  obtain rfl:=Qd h;exact T.last' (T.bl (i:=0) (by kernel_rfl) (by kernel_rfl) (f19n2_ok FUEL ba1 ba2 0 h56)) (tds:=[]) (m:=[]) (keep:=[4]) (st2:=(f19n1E ba1 ba2 .ret).2) (by kernel_rfl) an rfl
inductive f19n0O where
 | ret (v59:Bool)
def f19n0E(a1 a2:Qh):f19n0O→Ex×Tr×Hp
 | .ret v59=>(.ret,mkS [(4,(jB v59))],[])
def f19n0S(a1 a2:Qh):Tr×Hp:=(Qai [(jA Qh.cells a1),(jA Qh.cells a2)] 0 .leaf,[])
noncomputable def f19n0(a1 a2:Qh):Option f19n0O :=
 bif decide ((a1.Records.length:Int)=(a2.Records.length:Int)) then
  (f19n1 a1 a2).bind fun o57=>match o57 with
  | .norm=>some (.ret true)
  | .ret=>some (.ret false)
 else
  some (.ret false)
theorem f19n0_ok(a1 a2:Qh){o:f19n0O}(h:f19n0 a1 a2=some o):T Try.prog Try.f19.ntmps 0 c19 (f19n0S a1 a2) (·=f19n0E a1 a2 o):=by
 unfold f19n0 at h;rcases Qg h with ⟨h4,h⟩|⟨h4,h⟩
 ·refine rN Qf 2 [j3,([],[],[(2,.val (jI (a1.Records.length:Int))),(5,.val (jI (a2.Records.length:Int)))])] [some false] [] [0,1] [2,3] (f19n1S a1 a2) (ap (Qn (xs:=a1.Records) (c:=Qa.cells)) (ap (Qn (xs:=a2.Records) (c:=Qa.cells)) (ap (Qq h4) an))) ?_;obtain ⟨o57,h58,h⟩:=Qc h;cases o57 with
  | norm =>
   refine T.oneN (by kernel_rfl) (f19n1_ok a1 a2 h58) (st2:=(f19n1E a1 a2 .norm).2) rfl ?_;obtain rfl:=Qd h;exact rE Qf [j3] [] [] [] [4] (.ret,(f19n0E a1 a2 (.ret true)).2) an rfl
  | ret =>
   obtain rfl:=Qd h;exact T.oneX' (by kernel_rfl) (f19n1_ok a1 a2 h58) (tds:=[]) (m:=[]) (keep:=[4]) (st2:=(f19n0E a1 a2 (.ret false)).2) (by kernel_rfl) an rfl rfl
 ·obtain rfl:=Qd h;exact rK Qf 2 [j3,([],[],[(2,.val (jI (a1.Records.length:Int))),(5,.val (jI (a2.Records.length:Int)))]),j3] [some true] [] [] [4] .ret ((f19n0E a1 a2 (.ret false)).2) (ap (Qn (xs:=a1.Records) (c:=Qa.cells)) (ap (Qn (xs:=a2.Records) (c:=Qa.cells)) (ap (Qac h4) an))) rfl
noncomputable def f19(a1 a2:Qh):Option Bool:=(f19n0 a1 a2).bind fun o=>match o with
 | .ret v59=>some v59
theorem f19_ok(a1 a2:Qh){r:Bool}(h:f19 a1 a2=some r):Qm Try.prog false 19 [(jA Qh.cells a1),(jA Qh.cells a2)] [] (jB r) []:=by
 unfold f19 at h;obtain ⟨o,ho,h⟩:=Qc h;cases o with
 | ret v59 =>
  obtain rfl:=Qd h;exact Qm.plain Qf (f:=Try.f19) (c:=c19) (by kernel_rfl) (by kernel_rfl) (by kernel_rfl) (by kernel_rfl) ((f19n0_ok a1 a2 ho).mono fun r e=>by subst e; exact ⟨.inl rfl,(jB v59),(jB v59),by kernel_rfl,by kernel_rfl,((Wk.refl _):Wk (jB v59) (jB v59))⟩)

noncomputable def c11:Code:=Try.f11.body.getD .skip
inductive f11n2O where
 | exit0 (v51:Int)
def f11n2E(bl1:(List Int)×Int)(bm2:Int×(List Qa)):f11n2O→Ex×Tr×Hp
 | .exit0 v51=>((.exit 0),mkS [(1,(.bp 0 0)),(3,(.pl (.sl .any 1 (bl1.1.map (cInt .u8))))),(5,(.pl (.int .u64 v51)))],[some (.box 24 [(.own 1)]),jZ 3 Qa.cells bm2.2])
def f11n2S(bl1:(List Int)×Int)(bm2:Int×(List Qa))(v47 v48:Int):Tr×Hp:=(mkS [(1,(.bp 0 0)),(3,(.pl (.sl .any 1 (bl1.1.map (cInt .u8))))),(5,(.pl (.int .u64 v47))),(6,(jI v48))],[some (.box 24 [(.own 1)]),jZ 3 Qa.cells bm2.2])
noncomputable def f11n2:Nat→(List Int)×Int→Int×(List Qa)→Int→Int→Option f11n2O
 | 0,_,_,_,_=>none
 | f+1,bl1,bm2,v47,v48 =>
  bif decide (v48<8) then
   (f11n2 f bl1 bm2 (Qu (v47*1099511628211)) (wr64 (v48+1)))
  else
   some (.exit0 v47)
theorem f11n2_ok:∀(f:Nat)(bl1:(List Int)×Int)(bm2:Int×(List Qa))(v47 v48:Int){o:f11n2O},f11n2 f bl1 bm2 v47 v48=some o→TL Try.prog Try.f11.ntmps 0 f (cL (cL (Qk 1 (cL (Qk 1 (Qk 2 (Qk 2 c11))))))) (f11n2S bl1 bm2 v47 v48) (·=f11n2E bl1 bm2 o)
 | 0,_,_,_,_,o,h=>by rw [f11n2] at h; cases h
 | f+1,bl1,bm2,v47,v48,o,h=>by
  rw [f11n2] at h;refine TL.body (K:=fun s=>∃v47:Int,∃v48:Int,s=(f11n2S bl1 bm2 v47 v48)∧f11n2 f bl1 bm2 v47 v48=some o) ?_ (by rintro _ ⟨v47,v48,rfl,hk⟩; exact f11n2_ok f _ _ _ _ hk);rcases Qg h with ⟨h50,h⟩|⟨h50,h⟩
  ·exact rE Qf [j3,j3,j3] [some true] [] [0,1] [1,3,5,6] (.norm,(f11n2S bl1 bm2 (Qu (v47*1099511628211)) (wr64 (v48+1)))) (ap h50 an) (Qt.norm ⟨(Qu (v47*1099511628211)),(wr64 (v48+1)),rfl,h⟩)
  ·obtain rfl:=Qd h;exact rK Qf 1 [j3] [some false] [] [0,1] [1,3,5] (.exit 0) ((f11n2E bl1 bm2 (.exit0 v47)).2) (ap h50 an) (Qt.out rfl rfl)
inductive f11n1O where
 | norm (v55:Int)
def f11n1E(bl1:(List Int)×Int)(bm2:Int×(List Qa)):f11n1O→Ex×Tr×Hp
 | .norm v55=>(.norm,mkS [(1,(.bp 0 0)),(3,(.pl (.sl .any 1 (bl1.1.map (cInt .u8))))),(5,(.pl (.int .u64 v55)))],[some (.box 24 [(.own 1)]),jZ 3 Qa.cells bm2.2])
def f11n1S(bl1:(List Int)×Int)(bm2:Int×(List Qa)):Tr×Hp:=(mkS [(1,(.bp 0 0)),(3,(.pl (.sl .any 1 (bl1.1.map (cInt .u8))))),(5,(.pl (.int .u64 14695981039346656037)))],[some (.box 24 [(.own 1)]),jZ 3 Qa.cells bm2.2])
noncomputable def f11n1(bl1:(List Int)×Int)(bm2:Int×(List Qa)):Option f11n1O :=
 (f11n2 FUEL bl1 bm2 14695981039346656037 0).bind fun o52=>match o52 with
 | .exit0 v54=>some (.norm v54)
theorem f11n1_ok(bl1:(List Int)×Int)(bm2:Int×(List Qa)){o:f11n1O}(h:f11n1 bl1 bm2=some o):T Try.prog Try.f11.ntmps 0 (cL (Qk 1 (Qk 2 (Qk 2 c11)))) (f11n1S bl1 bm2) (·=f11n1E bl1 bm2 o):=by
 unfold f11n1 at h;refine rN Qf 1 [j3] [] [] [0,1] [1,3,5,6] (f11n2S bl1 bm2 14695981039346656037 0) an ?_;obtain ⟨o52,h53,h⟩:=Qc h;cases o52 with
 | exit0 v54 =>
  obtain rfl:=Qd h;exact T.last' (T.bl (i:=0) (by kernel_rfl) (by kernel_rfl) (f11n2_ok FUEL bl1 bm2 14695981039346656037 0 h53)) (tds:=[]) (m:=[0,1]) (keep:=[1,3,5]) (st2:=(f11n1E bl1 bm2 (.norm v54)).2) (by kernel_rfl) an rfl
inductive f11n0O where
 | ret (v83:Bool)
def f11n0E:f11n0O→Ex×Tr×Hp
 | .ret v83=>(.ret,mkS [(0,(jB v83))],[])
def f11n0S:Tr×Hp:=(Qai [] 0 .leaf,[])
noncomputable def f11n0:Option f11n0O :=
 f36.bind fun x7 =>
 (f37r1 5).bind fun x9 =>
 (f30r1 x7 1 str_x78 [(Qb.mk str_a Qch 5),(Qb.mk str_b Qch (wr64 (0-5)))]).bind fun x11 =>
 (f13 (Qh.mk x11.2)).bind fun x15 =>
 bif decide (x11.1=0) then
  bif decide (x15.2=0) then
   bif decide ((x15.1.length:Int)=51) then
    req (cutB 0 4 x15.1.length) <|
    (f18 ((x15.1.take (Int.toNat 4)).drop 0) [39,0,0,0]).bind fun x34 =>
    bif x34 then
     req (cutB 4 43 x15.1.length) <|
     f38r1.bind fun x38 =>
     (f18 ((x15.1.take (Int.toNat 43)).drop (Int.toNat 4)) [1,0,0,0,1,0,0,0,1,120,2,1,97,3,69,85,82,5,0,0,0,0,0,0,0,1,98,3,69,85,82,251,255,255,255,255,255,255,255]).bind fun x40 =>
     bif x40 then
      (f11n1 x15 x11).bind fun o56=>match o56 with
      | .norm v58=>(f16r1 x15.1).bind fun x61 =>
       (f25 (Qh.mk x11.2) str_b Qch).bind fun x65 =>
       (f20 0 []).bind fun x75 =>
       bif decide (x75=v58) then
        (f19 (Qh.mk x11.2) (Qh.mk x61.2)).bind fun x78 =>
        bif x78 then
         bif decide (x61.1=51) then
          bif decide (x65.2=0) then
           some (.ret (decide (x65.1=(-5))))
          else
           some (.ret false)
         else
          some (.ret false)
        else
         some (.ret false)
       else
        some (.ret false)
     else
      some (.ret false)
    else
     some (.ret false)
   else
    some (.ret false)
  else
   some (.ret false)
 else
  some (.ret false)
theorem f11n0_ok{o:f11n0O}(h:f11n0=some o):T Try.prog Try.f11.ntmps 0 c11 f11n0S (·=f11n0E o):=by
 unfold f11n0 at h;obtain ⟨x7,h8,h⟩:=Qc h;obtain ⟨x9,h10,h⟩:=Qc h;obtain ⟨x11,h12,h⟩:=Qc h;refine rN Qf 2 [j3,([],[jH 0 (jA Qh.cells x7),(1,.call (.own 0) [some (.row false 3 ([(Qb.mk str_a Qch 5),(Qb.mk str_b Qch (wr64 (0-5)))].map Qb.cells))]),(2,.call (.tup [(.agg [(.own 2)]),(jI x11.1)]) [some (.row false 3 ([(Qb.mk str_a Qch 5),(Qb.mk str_b Qch (wr64 (0-5)))].map Qb.cells)),some (.box 24 [(.own 2)]),some (.drow 3 (x11.2.map Qa.cells))])],[])] [] [] [3,2] [1,2] (mkS [(1,(.bp 0 0)),(2,(jI x11.1))],[some (.box 24 [(.own 1)]),some (.drow 3 (x11.2.map Qa.cells))]) (ap (f36_ok h8) (ap (f37r1_ok 5 h10) (ap (f30r1_ok x7 1 str_x78 [(Qb.mk str_a Qch 5),(Qb.mk str_b Qch (wr64 (0-5)))] h12) an))) ?_;obtain ⟨x15,h16,h⟩:=Qc h
 rcases Qg h with ⟨h30,h⟩|⟨h30,h⟩
 ·rcases Qg h with ⟨h31,h⟩|⟨h31,h⟩
  ·rcases Qg h with ⟨h32,h⟩|⟨h32,h⟩
   ·obtain ⟨h33,h⟩:=Qp h;obtain ⟨x34,h35,h⟩:=Qc h;rcases Qg h with ⟨h36,h⟩|⟨h36,h⟩
    ·obtain ⟨h37,h⟩:=Qp h;obtain ⟨x38,h39,h⟩:=Qc h;obtain ⟨x40,h41,h⟩:=Qc h;rcases Qg h with ⟨h42,h⟩|⟨h42,h⟩
     ·refine rN Qf 2 [([],[jH 1 (.tup [(.pl (.sl .any 1 (x15.1.map (cInt .u8)))),(jI x15.2)])],[]),(jF [3,4,7,8,9,12,13,14,15,16,19,20,21,22,23],[(5,.bool false),(10,.bool false),(13,.cut 0 (Int.toNat 4)),jH 15 (jB x34),(17,.bool false),(20,.cut (Int.toNat 4) (Int.toNat 43)),(21,.call (.own 4) (jN 4 [some (.row false 1 ([1,0,0,0,1,0,0,0,1,120,2,1,97,3,69,85,82,5,0,0,0,0,0,0,0,1,98,3,69,85,82,251,255,255,255,255,255,255,255].map (cInt .u8)))])),jH 22 (jB x40),(24,.bool false)],[(8,.val (jI (x15.1.length:Int))),(13,.val (.pl (.sl .any 1 (((x15.1.take (Int.toNat 4)).drop 0).map (cInt .u8))))),(20,.val (.pl (.sl .any 1 (((x15.1.take (Int.toNat 43)).drop (Int.toNat 4)).map (cInt .u8)))))])] [some false] [] [0,1] [1,3] (mkS [(1,(.bp 0 0)),(3,(.pl (.sl .any 1 (x15.1.map (cInt .u8)))))],[some (.box 24 [(.own 1)]),jZ 3 Qa.cells x11.2]) (ap (f13_ok (Qh.mk x11.2) h16) (ap3 (Qq h30) (ap2 (Qq h31) (ap (Qn (xs:=x15.1) (c:=(cInt .u8))) (ap2 (Qq h31) (ap2 (Qq h32) (ap (Qba (c:=(cInt .u8)) h33) (ap (cut_hn_2 h33) (ap (cut_hn_3 h33) (ap (Qaz (c:=(cInt .u8)) h33) (ap (congrArg (fun l=>AV.pl (.sl .any 1 l)) (cut_cv (xs:=x15.1) (c:=(cInt .u8)) (n:=(Int.toNat 4)) (m:=0))) (ap4 (Qq h32) (ap2 (Qq h36) (ap (Qbn (c:=(cInt .u8)) h37) (ap (cut_hl_2 h37) (ap (cut_hl_3 h37) (ap (Qbk (c:=(cInt .u8)) h37) (ap (congrArg (fun l=>AV.pl (.sl .any 1 l)) (cut_cv (xs:=x15.1) (c:=(cInt .u8)) (n:=(Int.toNat 43)) (m:=(Int.toNat 4)))) (ap4 (Qq h36) (ap (same_len (e:=⟨false,18,[(.pl (.sl .any 1 (((x15.1.take (Int.toNat 4)).drop 0).map (cInt .u8)))),(.pl (.sl .any 1 ([39,0,0,0].map (cInt .u8))))],[],(jB x34),[]⟩) (f:=⟨false,18,[(.pl (.sl .any 1 (((x15.1.take (Int.toNat 43)).drop (Int.toNat 4)).map (cInt .u8)))),(.pl (.sl .any 1 ([1,0,0,0,1,0,0,0,1,120,2,1,97,3,69,85,82,5,0,0,0,0,0,0,0,1,98,3,69,85,82,251,255,255,255,255,255,255,255].map (cInt .u8))))],[],(jB x40),[]⟩) 1 (by kernel_rfl)) (ap (f18_ok ((x15.1.take (Int.toNat 4)).drop 0) [39,0,0,0] h35) (ap (Qm.rn 4 [] (f38r1_ok h39)) (ap (f18_ok ((x15.1.take (Int.toNat 43)).drop (Int.toNat 4)) [1,0,0,0,1,0,0,0,1,120,2,1,97,3,69,85,82,5,0,0,0,0,0,0,0,1,98,3,69,85,82,251,255,255,255,255,255,255,255] h41) (ap (Qq h42) an)))))))))))))))))))))))) ?_
      refine rN Qf 1 [j3] [] [] [0,1] [1,3,5] (f11n1S x15 x11) an ?_;obtain ⟨o56,h57,h⟩:=Qc h;cases o56 with
      | norm v58 =>
       refine T.oneN (by kernel_rfl) (f11n1_ok x15 x11 h57) (st2:=(f11n1E x15 x11 (.norm v58)).2) rfl ?_;obtain ⟨x61,h62,h⟩:=Qc h;obtain ⟨x65,h66,h⟩:=Qc h;obtain ⟨x75,h76,h⟩:=Qc h;rcases Qg h with ⟨h77,h⟩|⟨h77,h⟩
       ·obtain ⟨x78,h79,h⟩:=Qc h;rcases Qg h with ⟨h80,h⟩|⟨h80,h⟩
        ·rcases Qg h with ⟨h81,h⟩|⟨h81,h⟩
         ·rcases Qg h with ⟨h82,h⟩|⟨h82,h⟩
          ·obtain rfl:=Qd h;exact rE Qf [([],[(1,.call (.tup [(.agg [(.own 3)]),(jI x61.1)]) [none,none,some (.box 24 [(.own 3)]),some (.drow 3 (x61.2.map Qa.cells))])],[]),([],[jH 1 (.tup [(jI x65.1),(jI x65.2)])],[]),(jT [4,5,6,9,10,13,14,17,18],[jH 0 (.pl (.int .u64 x75)),jH 6 (jB x78),(7,.bool true),(11,.bool true),(15,.bool true),(19,.bool true)],[])] [] [] [] [0] (.ret,(f11n0E (.ret (decide (x65.1=(-5))))).2) (ap (Qm.rn 2 [] (f16r1_ok x15.1 h62)) (ap (f25_ok (Qh.mk x11.2) str_b Qch h66) (ap4 h77 (ap3 h80 (ap3 h81 (ap3 h82 (ap (Qm.wk (args':=[(.pl (.int .u64 0)),(.pl (.sl .nil 0 []))]) (f20_ok 0 [] h76) (wlc (Wk.refl _) (wlc (Wk.pl (WkP.nil (f:=.nil) (sz:=0) (sz':=1))) wln)) (Wk.refl _) rfl) (ap (f19_ok (Qh.mk x11.2) (Qh.mk x61.2) h79) an)))))))) rfl
          ·obtain rfl:=Qd h;exact rE Qf [([],[(1,.call (.tup [(.agg [(.own 3)]),(jI x61.1)]) [none,none,some (.box 24 [(.own 3)]),some (.drow 3 (x61.2.map Qa.cells))])],[]),([],[jH 1 (.tup [(jI x65.1),(jI x65.2)])],[]),(jF [17,18]++jT [4,5,6,9,10,13,14],[jH 0 (.pl (.int .u64 x75)),jH 6 (jB x78),(7,.bool true),(11,.bool true),(15,.bool true),(19,.bool false)],[])] [] [] [] [0] (.ret,(f11n0E (.ret false)).2) (ap (Qm.rn 2 [] (f16r1_ok x15.1 h62)) (ap (f25_ok (Qh.mk x11.2) str_b Qch h66) (ap4 h77 (ap3 h80 (ap3 h81 (ap3 h82 (ap (Qm.wk (args':=[(.pl (.int .u64 0)),(.pl (.sl .nil 0 []))]) (f20_ok 0 [] h76) (wlc (Wk.refl _) (wlc (Wk.pl (WkP.nil (f:=.nil) (sz:=0) (sz':=1))) wln)) (Wk.refl _) rfl) (ap (f19_ok (Qh.mk x11.2) (Qh.mk x61.2) h79) an)))))))) rfl
         ·obtain rfl:=Qd h;exact rE Qf [([],[(1,.call (.tup [(.agg [(.own 3)]),(jI x61.1)]) [none,none,some (.box 24 [(.own 3)]),some (.drow 3 (x61.2.map Qa.cells))])],[]),([],[jH 1 (.tup [(jI x65.1),(jI x65.2)])],[]),(jF [13,14]++jT [4,5,6,9,10],[jH 0 (.pl (.int .u64 x75)),jH 6 (jB x78),(7,.bool true),(11,.bool true),(15,.bool false)],[])] [] [] [] [0] (.ret,(f11n0E (.ret false)).2) (ap (Qm.rn 2 [] (f16r1_ok x15.1 h62)) (ap (f25_ok (Qh.mk x11.2) str_b Qch h66) (ap4 h77 (ap3 h80 (ap3 h81 (ap (Qm.wk (args':=[(.pl (.int .u64 0)),(.pl (.sl .nil 0 []))]) (f20_ok 0 [] h76) (wlc (Wk.refl _) (wlc (Wk.pl (WkP.nil (f:=.nil) (sz:=0) (sz':=1))) wln)) (Wk.refl _) rfl) (ap (f19_ok (Qh.mk x11.2) (Qh.mk x61.2) h79) an))))))) rfl
        ·obtain rfl:=Qd h;exact rE Qf [([],[(1,.call (.tup [(.agg [(.own 3)]),(jI x61.1)]) [none,none,some (.box 24 [(.own 3)]),some (.drow 3 (x61.2.map Qa.cells))])],[]),([],[jH 1 (.tup [(jI x65.1),(jI x65.2)])],[]),(jF [9,10]++jT [4,5,6],[jH 0 (.pl (.int .u64 x75)),jH 6 (jB x78),(7,.bool true),(11,.bool false)],[])] [] [] [] [0] (.ret,(f11n0E (.ret false)).2) (ap (Qm.rn 2 [] (f16r1_ok x15.1 h62)) (ap (f25_ok (Qh.mk x11.2) str_b Qch h66) (ap4 h77 (ap3 h80 (ap (Qm.wk (args':=[(.pl (.int .u64 0)),(.pl (.sl .nil 0 []))]) (f20_ok 0 [] h76) (wlc (Wk.refl _) (wlc (Wk.pl (WkP.nil (f:=.nil) (sz:=0) (sz':=1))) wln)) (Wk.refl _) rfl) (ap (f19_ok (Qh.mk x11.2) (Qh.mk x61.2) h79) an)))))) rfl
       ·obtain rfl:=Qd h;exact rE Qf [([],[(1,.call (.tup [(.agg [(.own 3)]),(jI x61.1)]) [none,none,some (.box 24 [(.own 3)]),some (.drow 3 (x61.2.map Qa.cells))])],[]),([],[jH 1 (.tup [(jI x65.1),(jI x65.2)])],[]),(jF [4,5,6],[jH 0 (.pl (.int .u64 x75)),(7,.bool false)],[])] [] [] [] [0] (.ret,(f11n0E (.ret false)).2) (ap (Qm.rn 2 [] (f16r1_ok x15.1 h62)) (ap (f25_ok (Qh.mk x11.2) str_b Qch h66) (ap4 h77 (ap (Qm.wk (args':=[(.pl (.int .u64 0)),(.pl (.sl .nil 0 []))]) (f20_ok 0 [] h76) (wlc (Wk.refl _) (wlc (Wk.pl (WkP.nil (f:=.nil) (sz:=0) (sz':=1))) wln)) (Wk.refl _) rfl) an)))) rfl
     ·obtain rfl:=Qd h
      exact rK Qf 2 [([],[jH 1 (.tup [(.pl (.sl .any 1 (x15.1.map (cInt .u8)))),(jI x15.2)])],[]),(jF [3,4,7,8,9,12,13,14,15,16,19,20,21,22,23],[(5,.bool false),(10,.bool false),(13,.cut 0 (Int.toNat 4)),jH 15 (jB x34),(17,.bool false),(20,.cut (Int.toNat 4) (Int.toNat 43)),(21,.call (.own 4) (jN 4 [some (.row false 1 ([1,0,0,0,1,0,0,0,1,120,2,1,97,3,69,85,82,5,0,0,0,0,0,0,0,1,98,3,69,85,82,251,255,255,255,255,255,255,255].map (cInt .u8)))])),jH 22 (jB x40),(24,.bool false)],[(8,.val (jI (x15.1.length:Int))),(13,.val (.pl (.sl .any 1 (((x15.1.take (Int.toNat 4)).drop 0).map (cInt .u8))))),(20,.val (.pl (.sl .any 1 (((x15.1.take (Int.toNat 43)).drop (Int.toNat 4)).map (cInt .u8)))))]),j3] [some true] [] [] [0] .ret ((f11n0E (.ret false)).2) (ap (f13_ok (Qh.mk x11.2) h16) (ap3 (Qq h30) (ap2 (Qq h31) (ap (Qn (xs:=x15.1) (c:=(cInt .u8))) (ap2 (Qq h31) (ap2 (Qq h32) (ap (Qba (c:=(cInt .u8)) h33) (ap (cut_hn_2 h33) (ap (cut_hn_3 h33) (ap (Qaz (c:=(cInt .u8)) h33) (ap (congrArg (fun l=>AV.pl (.sl .any 1 l)) (cut_cv (xs:=x15.1) (c:=(cInt .u8)) (n:=(Int.toNat 4)) (m:=0))) (ap4 (Qq h32) (ap2 (Qq h36) (ap (Qbn (c:=(cInt .u8)) h37) (ap (cut_hl_2 h37) (ap (cut_hl_3 h37) (ap (Qbk (c:=(cInt .u8)) h37) (ap (congrArg (fun l=>AV.pl (.sl .any 1 l)) (cut_cv (xs:=x15.1) (c:=(cInt .u8)) (n:=(Int.toNat 43)) (m:=(Int.toNat 4)))) (ap4 (Qq h36) (ap (same_len (e:=⟨false,18,[(.pl (.sl .any 1 (((x15.1.take (Int.toNat 4)).drop 0).map (cInt .u8)))),(.pl (.sl .any 1 ([39,0,0,0].map (cInt .u8))))],[],(jB x34),[]⟩) (f:=⟨false,18,[(.pl (.sl .any 1 (((x15.1.take (Int.toNat 43)).drop (Int.toNat 4)).map (cInt .u8)))),(.pl (.sl .any 1 ([1,0,0,0,1,0,0,0,1,120,2,1,97,3,69,85,82,5,0,0,0,0,0,0,0,1,98,3,69,85,82,251,255,255,255,255,255,255,255].map (cInt .u8))))],[],(jB x40),[]⟩) 1 (by kernel_rfl)) (ap (f18_ok ((x15.1.take (Int.toNat 4)).drop 0) [39,0,0,0] h35) (ap (Qm.rn 4 [] (f38r1_ok h39)) (ap (f18_ok ((x15.1.take (Int.toNat 43)).drop (Int.toNat 4)) [1,0,0,0,1,0,0,0,1,120,2,1,97,3,69,85,82,5,0,0,0,0,0,0,0,1,98,3,69,85,82,251,255,255,255,255,255,255,255] h41) (ap (Qac h42) an)))))))))))))))))))))))) rfl
    ·obtain rfl:=Qd h
     exact rK Qf 2 [([],[jH 1 (.tup [(.pl (.sl .any 1 (x15.1.map (cInt .u8)))),(jI x15.2)])],[]),(jF [3,4,7,8,9,12,13,14,15,16]++jT [19,20,21,22,23],[(5,.bool false),(10,.bool false),(13,.cut 0 (Int.toNat 4)),jH 15 (jB x34),(17,.bool false),(24,.bool true)],[(8,.val (jI (x15.1.length:Int))),(13,.val (.pl (.sl .any 1 (((x15.1.take (Int.toNat 4)).drop 0).map (cInt .u8)))))]),j3] [none] [] [] [0] .ret ((f11n0E (.ret false)).2) (ap (f13_ok (Qh.mk x11.2) h16) (ap3 (Qq h30) (ap2 (Qq h31) (ap (Qn (xs:=x15.1) (c:=(cInt .u8))) (ap2 (Qq h31) (ap2 (Qq h32) (ap (Qba (c:=(cInt .u8)) h33) (ap (cut_hn_2 h33) (ap (cut_hn_3 h33) (ap (Qaz (c:=(cInt .u8)) h33) (ap (congrArg (fun l=>AV.pl (.sl .any 1 l)) (cut_cv (xs:=x15.1) (c:=(cInt .u8)) (n:=(Int.toNat 4)) (m:=0))) (ap4 (Qq h32) (ap2 (Qac h36) (ap4 (Qac h36) (ap (f18_ok ((x15.1.take (Int.toNat 4)).drop 0) [39,0,0,0] h35) an))))))))))))))) rfl
   ·obtain rfl:=Qd h;exact rK Qf 2 [([],[jH 1 (.tup [(.pl (.sl .any 1 (x15.1.map (cInt .u8)))),(jI x15.2)])],[]),(jF [3,4,7,8,9]++jT [12,13,14,15,16],[(5,.bool false),(10,.bool false),(17,.bool true)],[(8,.val (jI (x15.1.length:Int)))]),j3] [none] [] [] [0] .ret ((f11n0E (.ret false)).2) (ap (f13_ok (Qh.mk x11.2) h16) (ap3 (Qq h30) (ap2 (Qq h31) (ap (Qn (xs:=x15.1) (c:=(cInt .u8))) (ap2 (Qq h31) (ap2 (Qac h32) (ap4 (Qac h32) an))))))) rfl
  ·obtain rfl:=Qd h;exact rK Qf 2 [([],[jH 1 (.tup [(.pl (.sl .any 1 (x15.1.map (cInt .u8)))),(jI x15.2)])],[]),(jF [3,4]++jT [7,8,9],[(5,.bool false),(10,.bool true)],[]),j3] [none] [] [] [0] .ret ((f11n0E (.ret false)).2) (ap (f13_ok (Qh.mk x11.2) h16) (ap3 (Qq h30) (ap4 (Qac h31) an))) rfl
 ·obtain rfl:=Qd h;exact rK Qf 2 [([],[jH 1 (.tup [(.pl (.sl .any 1 (x15.1.map (cInt .u8)))),(jI x15.2)])],[]),([(3,true),(4,true)],[(5,.bool true)],[]),j3] [none] [] [] [0] .ret ((f11n0E (.ret false)).2) (ap (f13_ok (Qh.mk x11.2) h16) (ap3 (Qac h30) an)) rfl
noncomputable def f11:Option Bool:=f11n0.bind fun o=>match o with
 | .ret v83=>some v83
theorem f11_ok{r:Bool}(h:f11=some r):Qm Try.prog false 11 [] [] (jB r) []:=by
 unfold f11 at h;obtain ⟨o,ho,h⟩:=Qc h;cases o with
 | ret v83 =>
  obtain rfl:=Qd h;exact Qm.plain Qf (f:=Try.f11) (c:=c11) (by kernel_rfl) (by kernel_rfl) (by kernel_rfl) (by kernel_rfl) ((f11n0_ok  ho).mono fun r e=>by subst e; exact ⟨.inl rfl,(jB v83),(jB v83),by kernel_rfl,by kernel_rfl,((Wk.refl _):Wk (jB v83) (jB v83))⟩)
end Go.Proofs.Ytbgjlpdeoljmiaa
namespace Go.Proofs.Ytbgjlpdeoljmiaa
set_option linter.unusedVariables false
set_option linter.unusedSimpArgs false
set_option maxRecDepth 100000
open Go.RowKit
noncomputable def c29:Code:=Try.f29.body.getD .skip
inductive f29n2O where
 | exit0
 | ret
def f29n2E(bc1:List Qb):f29n2O→Ex×Tr×Hp
 | .exit0=>((.exit 0),mkS [(0,(jL 3 Qb.cells bc1))],[])
 | .ret=>(.ret,mkS [(2,(jB true))],[])
def f29n2S(bc1:List Qb)(v25:Int):Tr×Hp:=(mkS [(0,(jL 3 Qb.cells bc1)),(3,(jI v25))],[])
noncomputable def f29n2:Nat→List Qb→Int→Option f29n2O
 | 0,_,_=>none
 | f+1,bc1,v25 =>
  bif decide (v25<(bc1.length:Int)) then
   bif decide (v25≤40) then
    (at? bc1 v25).bind fun x34 =>
    bif decide (300<(x34.Account.size:Int)) then
     some .ret
    else
     bif decide (300<(x34.Ccy.size:Int)) then
      some .ret
     else
      (f29n2 f bc1 (wr64 (v25+1)))
   else
    some .exit0
  else
   some .exit0
theorem f29n2_ok:∀(f:Nat)(bc1:List Qb)(v25:Int){o:f29n2O},f29n2 f bc1 v25=some o→TL Try.prog Try.f29.ntmps 0 f (cL (cL (Qk 1 (cL (Qk 1 c29))))) (f29n2S bc1 v25) (·=f29n2E bc1 o)
 | 0,_,_,o,h=>by rw [f29n2] at h; cases h
 | f+1,bc1,v25,o,h=>by
  rw [f29n2] at h;refine TL.body (K:=fun s=>∃v25:Int,s=(f29n2S bc1 v25)∧f29n2 f bc1 v25=some o) ?_ (by rintro _ ⟨v25,rfl,hk⟩; exact f29n2_ok f _ _ hk);rcases Qg h with ⟨h28,h⟩|⟨h28,h⟩
  ·rcases Qg h with ⟨h29,h⟩|⟨h29,h⟩
   ·obtain ⟨x34,h35,h⟩:=Qc h;rcases Qg h with ⟨h36,h⟩|⟨h36,h⟩
    ·obtain rfl:=Qd h;exact rK Qf 2 [([(5,true),(6,true)],[(7,.bool true)],[(2,.val (jI (bc1.length:Int)))]),(jT [8,9,10,11,12,13,14],[(2,.idx (Int.toNat v25) (Qb.cells x34)),(15,.bool true)],[]),j3] [some true,none] [] [] [2] .ret ((f29n2E bc1 .ret).2) (ap (Qn (xs:=bc1) (c:=Qb.cells)) (ap3 h28 (ap h29 (ap (Qj h35).1 (ap (Qs Qb.cells (Qj h35).2) (ap4 h36 (ap4 h36 an))))))) (Qt.out rfl rfl)
    ·rcases Qg h with ⟨h37,h⟩|⟨h37,h⟩
     ·obtain rfl:=Qd h;exact rK Qf 2 [([(5,true),(6,true)],[(7,.bool true)],[(2,.val (jI (bc1.length:Int)))]),(jF [8,9,10,11,12,13,14],[(2,.idx (Int.toNat v25) (Qb.cells x34)),(10,.idx (Int.toNat v25) (Qb.cells x34)),(15,.bool false)],[]),j3] [some true,some true] [] [] [2] .ret ((f29n2E bc1 .ret).2) (ap (Qn (xs:=bc1) (c:=Qb.cells)) (ap3 h28 (ap h29 (ap (Qj h35).1 (ap (Qs Qb.cells (Qj h35).2) (ap3 h36 (ap (Qj h35).1 (ap (Qs Qb.cells (Qj h35).2) (ap h36 (ap4 h36 (ap h37 an))))))))))) (Qt.out rfl rfl)
     ·exact rE Qf [([(5,true),(6,true)],[(7,.bool true)],[(2,.val (jI (bc1.length:Int)))]),(jF [8,9,10,11,12,13,14],[(2,.idx (Int.toNat v25) (Qb.cells x34)),(10,.idx (Int.toNat v25) (Qb.cells x34)),(15,.bool false)],[]),j3] [some true,some false] [] [] [0,3] (.norm,(f29n2S bc1 (wr64 (v25+1)))) (ap (Qn (xs:=bc1) (c:=Qb.cells)) (ap3 h28 (ap h29 (ap (Qj h35).1 (ap (Qs Qb.cells (Qj h35).2) (ap3 h36 (ap (Qj h35).1 (ap (Qs Qb.cells (Qj h35).2) (ap h36 (ap4 h36 (ap h37 an))))))))))) (Qt.norm ⟨(wr64 (v25+1)),rfl,h⟩)
   ·obtain rfl:=Qd h;exact rK Qf 1 [([(5,true),(6,true)],[(7,.bool true)],[(2,.val (jI (bc1.length:Int)))])] [some false] [] [] [0] (.exit 0) ((f29n2E bc1 .exit0).2) (ap (Qn (xs:=bc1) (c:=Qb.cells)) (ap3 h28 (ap h29 an))) (Qt.out rfl rfl)
  ·obtain rfl:=Qd h;exact rK Qf 1 [([(5,false),(6,false)],[(7,.bool false)],[(2,.val (jI (bc1.length:Int)))])] [none] [] [] [0] (.exit 0) ((f29n2E bc1 .exit0).2) (ap (Qn (xs:=bc1) (c:=Qb.cells)) (ap3 h28 an)) (Qt.out rfl rfl)
noncomputable def f29n2L(bc1:List Qb):List Qb→Int→Option f29n2O
 | [],v25 =>
  some .exit0
 | x0::rest,v25 =>
  bif decide (v25≤40) then
   bif decide (300<(x0.Account.size:Int)) then
    some .ret
   else
    bif decide (300<(x0.Ccy.size:Int)) then
     some .ret
    else
     (f29n2L bc1 rest (v25+1))
  else
   some .exit0
theorem f29n2L_eq(bc1:List Qb):∀(rest:List Qb)(f k:Nat),bc1.drop k=rest→bc1.length≤maxLen→rest.length<f→f29n2 f bc1 (k:Int)=f29n2L bc1 rest (k:Int)
 | _,0,_,_,_,hf=>absurd hf (Nat.not_lt_zero _)
 | [],f+1,k,hd,hm,hf=>by
  have hk:¬((k:Int)<(bc1.length:Int)):=by have:=Qaj hd; omega
  rw [f29n2,f29n2L];simp only [decide_eq_false hk,cond_false]
 | x0::rest,f+1,k,hd,hm,hf=>by
  obtain ⟨hx,hlt,hd'⟩:=Qx hd;have hk:(k:Int)<(bc1.length:Int):=by omega
  have hw:wr64 ((k:Int)+1)=(k:Int)+1:=Qr (by omega) (by unfold maxLen at hm; omega);have ih:f29n2 f bc1 ((k:Int)+1)=f29n2L bc1 rest ((k:Int)+1):=f29n2L_eq bc1 rest f (k+1) hd' hm (by simpa using hf);rw [f29n2,f29n2L];simp only [decide_eq_true hk,cond_true,Qaq,hx,Option.bind_some,hw,ih]
theorem f29n2_run(bc1:List Qb)(hm:bc1.length≤maxLen):f29n2 FUEL bc1 0=f29n2L bc1 bc1 0:=f29n2L_eq bc1 bc1 FUEL 0 List.drop_zero hm (Qao hm)
inductive f29n1O where
 | norm
 | ret
def f29n1E(bc1:List Qb):f29n1O→Ex×Tr×Hp
 | .norm=>(.norm,mkS [(0,(jL 3 Qb.cells bc1))],[])
 | .ret=>(.ret,mkS [(2,(jB true))],[])
def f29n1S(bc1:List Qb):Tr×Hp:=(mkS [(0,(jL 3 Qb.cells bc1))],[])
noncomputable def f29n1(bc1:List Qb):Option f29n1O :=
 (f29n2 FUEL bc1 0).bind fun o38=>match o38 with
 | .exit0=>some .norm
 | .ret=>some .ret
theorem f29n1_ok(bc1:List Qb){o:f29n1O}(h:f29n1 bc1=some o):T Try.prog Try.f29.ntmps 0 (cL (Qk 1 c29)) (f29n1S bc1) (·=f29n1E bc1 o):=by
 unfold f29n1 at h;refine rN Qf 1 [j3] [] [] [] [0,3] (f29n2S bc1 0) an ?_;obtain ⟨o38,h39,h⟩:=Qc h;cases o38 with
 | exit0 =>
  obtain rfl:=Qd h;exact T.last' (T.bl (i:=0) (by kernel_rfl) (by kernel_rfl) (f29n2_ok FUEL bc1 0 h39)) (tds:=[]) (m:=[]) (keep:=[0]) (st2:=(f29n1E bc1 .norm).2) (by kernel_rfl) an rfl
 | ret =>
  obtain rfl:=Qd h;exact T.last' (T.bl (i:=0) (by kernel_rfl) (by kernel_rfl) (f29n2_ok FUEL bc1 0 h39)) (tds:=[]) (m:=[]) (keep:=[2]) (st2:=(f29n1E bc1 .ret).2) (by kernel_rfl) an rfl
inductive f29n0O where
 | ret (v42:Bool)
def f29n0E(a1:List Qb):f29n0O→Ex×Tr×Hp
 | .ret v42=>(.ret,mkS [(2,(jB v42))],[])
def f29n0S(a1:List Qb):Tr×Hp:=(Qai [(jL 3 Qb.cells a1)] 0 .leaf,[])
noncomputable def f29n0(a1:List Qb):Option f29n0O :=
 (f29n1 a1).bind fun o40=>match o40 with
 | .norm=>some (.ret (decide (40<(a1.length:Int))))
 | .ret=>some (.ret true)
theorem f29n0_ok(a1:List Qb){o:f29n0O}(h:f29n0 a1=some o):T Try.prog Try.f29.ntmps 0 c29 (f29n0S a1) (·=f29n0E a1 o):=by
 unfold f29n0 at h;refine rN Qf 1 [j3] [] [] [] [0] (f29n1S a1) an ?_;obtain ⟨o40,h41,h⟩:=Qc h;cases o40 with
 | norm =>
  refine T.oneN (by kernel_rfl) (f29n1_ok a1 h41) (st2:=(f29n1E a1 .norm).2) rfl ?_;obtain rfl:=Qd h;exact rE Qf [([],[],[(1,.val (jI (a1.length:Int)))])] [] [] [] [2] (.ret,(f29n0E a1 (.ret (decide (40<(a1.length:Int))))).2) (ap (Qn (xs:=a1) (c:=Qb.cells)) an) rfl
 | ret =>
  obtain rfl:=Qd h;exact T.oneX' (by kernel_rfl) (f29n1_ok a1 h41) (tds:=[]) (m:=[]) (keep:=[2]) (st2:=(f29n0E a1 (.ret true)).2) (by kernel_rfl) an rfl rfl
noncomputable def f29(a1:List Qb):Option Bool:=(f29n0 a1).bind fun o=>match o with
 | .ret v42=>some v42
theorem f29_ok(a1:List Qb){r:Bool}(h:f29 a1=some r):Qm Try.prog false 29 [(jL 3 Qb.cells a1)] [] (jB r) []:=by
 unfold f29 at h;obtain ⟨o,ho,h⟩:=Qc h;cases o with
 | ret v42 =>
  obtain rfl:=Qd h;exact Qm.plain Qf (f:=Try.f29) (c:=c29) (by kernel_rfl) (by kernel_rfl) (by kernel_rfl) (by kernel_rfl) ((f29n0_ok a1 ho).mono fun r e=>by subst e; exact ⟨.inl rfl,(jB v42),(jB v42),by kernel_rfl,by kernel_rfl,((Wk.refl _):Wk (jB v42) (jB v42))⟩)

noncomputable def c12:Code:=Try.f12.body.getD .skip
inductive f12n2O where
 | exit0
 | ret
def f12n2E(ba1:Qh):f12n2O→Ex×Tr×Hp
 | .exit0=>((.exit 0),mkS [(1,(.bp 0 0))],[some (.box 24 ((Qh.cells ba1).map .pl))])
 | .ret=>(.ret,mkS [(2,(jB true))],[])
def f12n2S(ba1:Qh)(v33:Int):Tr×Hp:=(mkS [(1,(.bp 0 0)),(3,(jI v33))],[some (.box 24 ((Qh.cells ba1).map .pl))])
noncomputable def f12n2:Nat→Qh→Int→Option f12n2O
 | 0,_,_=>none
 | f+1,ba1,v33 =>
  bif decide (v33<(ba1.Records.length:Int)) then
   bif decide (v33≤220) then
    (at? ba1.Records v33).bind fun x44 =>
    (f29 x44.Lines).bind fun x46 =>
    bif x46 then
     some .ret
    else
     bif decide (300<(x44.Text.size:Int)) then
      some .ret
     else
      (f12n2 f ba1 (wr64 (v33+1)))
   else
    some .exit0
  else
   some .exit0
theorem f12n2_ok:∀(f:Nat)(ba1:Qh)(v33:Int){o:f12n2O},f12n2 f ba1 v33=some o→TL Try.prog Try.f12.ntmps 0 f (cL (cL (Qk 1 (cL (Qk 1 c12))))) (f12n2S ba1 v33) (·=f12n2E ba1 o)
 | 0,_,_,o,h=>by rw [f12n2] at h; cases h
 | f+1,ba1,v33,o,h=>by
  rw [f12n2] at h;refine TL.body (K:=fun s=>∃v33:Int,s=(f12n2S ba1 v33)∧f12n2 f ba1 v33=some o) ?_ (by rintro _ ⟨v33,rfl,hk⟩; exact f12n2_ok f _ _ hk);rcases Qg h with ⟨h36,h⟩|⟨h36,h⟩
  ·rcases Qg h with ⟨h37,h⟩|⟨h37,h⟩
   ·obtain ⟨x44,h45,h⟩:=Qc h;obtain ⟨x46,h47,h⟩:=Qc h;rcases Qg h with ⟨h48,h⟩|⟨h48,h⟩
    ·obtain rfl:=Qd h;exact rK Qf 2 [([(6,true),(7,true)],[(8,.bool true)],[(3,.val (jI (ba1.Records.length:Int)))]),(jT [8,9,10,11,12,13,14,15],[(3,.idx (Int.toNat v33) (Qa.cells x44)),jH 6 (jB x46),(16,.bool true)],[]),j3] [some true,none] [] [] [2] .ret ((f12n2E ba1 .ret).2) (ap (Qn (xs:=ba1.Records) (c:=Qa.cells)) (ap3 h36 (ap h37 (ap (Qj h45).1 (ap (Qs Qa.cells (Qj h45).2) (ap h48 (ap4 h48 (ap4 h48 (ap (f29_ok x44.Lines h47) an))))))))) (Qt.out rfl rfl)
    ·rcases Qg h with ⟨h49,h⟩|⟨h49,h⟩
     ·obtain rfl:=Qd h;exact rK Qf 2 [([(6,true),(7,true)],[(8,.bool true)],[(3,.val (jI (ba1.Records.length:Int)))]),(jF [8,9,10,11,12,13,14,15],[(3,.idx (Int.toNat v33) (Qa.cells x44)),jH 6 (jB x46),(11,.idx (Int.toNat v33) (Qa.cells x44)),(16,.bool false)],[]),j3] [some true,some true] [] [] [2] .ret ((f12n2E ba1 .ret).2) (ap (Qn (xs:=ba1.Records) (c:=Qa.cells)) (ap3 h36 (ap h37 (ap (Qj h45).1 (ap (Qs Qa.cells (Qj h45).2) (ap4 h48 (ap (Qj h45).1 (ap (Qs Qa.cells (Qj h45).2) (ap h48 (ap4 h48 (ap (f29_ok x44.Lines h47) (ap h49 an)))))))))))) (Qt.out rfl rfl)
     ·exact rE Qf [([(6,true),(7,true)],[(8,.bool true)],[(3,.val (jI (ba1.Records.length:Int)))]),(jF [8,9,10,11,12,13,14,15],[(3,.idx (Int.toNat v33) (Qa.cells x44)),jH 6 (jB x46),(11,.idx (Int.toNat v33) (Qa.cells x44)),(16,.bool false)],[]),j3] [some true,some false] [] [0] [1,3] (.norm,(f12n2S ba1 (wr64 (v33+1)))) (ap (Qn (xs:=ba1.Records) (c:=Qa.cells)) (ap3 h36 (ap h37 (ap (Qj h45).1 (ap (Qs Qa.cells (Qj h45).2) (ap4 h48 (ap (Qj h45).1 (ap (Qs Qa.cells (Qj h45).2) (ap h48 (ap4 h48 (ap (f29_ok x44.Lines h47) (ap h49 an)))))))))))) (Qt.norm ⟨(wr64 (v33+1)),rfl,h⟩)
   ·obtain rfl:=Qd h;exact rK Qf 1 [([(6,true),(7,true)],[(8,.bool true)],[(3,.val (jI (ba1.Records.length:Int)))])] [some false] [] [0] [1] (.exit 0) ((f12n2E ba1 .exit0).2) (ap (Qn (xs:=ba1.Records) (c:=Qa.cells)) (ap3 h36 (ap h37 an))) (Qt.out rfl rfl)
  ·obtain rfl:=Qd h;exact rK Qf 1 [([(6,false),(7,false)],[(8,.bool false)],[(3,.val (jI (ba1.Records.length:Int)))])] [none] [] [0] [1] (.exit 0) ((f12n2E ba1 .exit0).2) (ap (Qn (xs:=ba1.Records) (c:=Qa.cells)) (ap3 h36 an)) (Qt.out rfl rfl)
noncomputable def f12n2L(ba1:Qh):List Qa→Int→Option f12n2O
 | [],v33 =>
  some .exit0
 | x0::rest,v33 =>
  bif decide (v33≤220) then
   (f29 x0.Lines).bind fun x46 =>
   bif x46 then
    some .ret
   else
    bif decide (300<(x0.Text.size:Int)) then
     some .ret
    else
     (f12n2L ba1 rest (v33+1))
  else
   some .exit0
theorem f12n2L_eq(ba1:Qh):∀(rest:List Qa)(f k:Nat),ba1.Records.drop k=rest→ba1.Records.length≤maxLen→rest.length<f→f12n2 f ba1 (k:Int)=f12n2L ba1 rest (k:Int)
 | _,0,_,_,_,hf=>absurd hf (Nat.not_lt_zero _)
 | [],f+1,k,hd,hm,hf=>by
  have hk:¬((k:Int)<(ba1.Records.length:Int)):=by have:=Qaj hd; omega
  rw [f12n2,f12n2L];simp only [decide_eq_false hk,cond_false]
 | x0::rest,f+1,k,hd,hm,hf=>by
  obtain ⟨hx,hlt,hd'⟩:=Qx hd;have hk:(k:Int)<(ba1.Records.length:Int):=by omega
  have hw:wr64 ((k:Int)+1)=(k:Int)+1:=Qr (by omega) (by unfold maxLen at hm; omega);have ih:f12n2 f ba1 ((k:Int)+1)=f12n2L ba1 rest ((k:Int)+1):=f12n2L_eq ba1 rest f (k+1) hd' hm (by simpa using hf);rw [f12n2,f12n2L];simp only [decide_eq_true hk,cond_true,Qaq,hx,Option.bind_some,hw,ih]
theorem f12n2_run(ba1:Qh)(hm:ba1.Records.length≤maxLen):f12n2 FUEL ba1 0=f12n2L ba1 ba1.Records 0:=f12n2L_eq ba1 ba1.Records FUEL 0 List.drop_zero hm (Qao hm)
inductive f12n1O where
 | norm
 | ret
def f12n1E(ba1:Qh):f12n1O→Ex×Tr×Hp
 | .norm=>(.norm,mkS [(1,(.bp 0 0))],[some (.box 24 ((Qh.cells ba1).map .pl))])
 | .ret=>(.ret,mkS [(2,(jB true))],[])
def f12n1S(ba1:Qh):Tr×Hp:=(mkS [(1,(.bp 0 0))],[some (.box 24 ((Qh.cells ba1).map .pl))])
noncomputable def f12n1(ba1:Qh):Option f12n1O :=
 (f12n2 FUEL ba1 0).bind fun o50=>match o50 with
 | .exit0=>some .norm
 | .ret=>some .ret
theorem f12n1_ok(ba1:Qh){o:f12n1O}(h:f12n1 ba1=some o):T Try.prog Try.f12.ntmps 0 (cL (Qk 1 c12)) (f12n1S ba1) (·=f12n1E ba1 o):=by
 unfold f12n1 at h;refine rN Qf 1 [j3] [] [] [0] [1,3] (f12n2S ba1 0) an ?_;obtain ⟨o50,h51,h⟩:=Qc h;cases o50 with
 | exit0 =>
  obtain rfl:=Qd h;exact T.last' (T.bl (i:=0) (by kernel_rfl) (by kernel_rfl) (f12n2_ok FUEL ba1 0 h51)) (tds:=[]) (m:=[0]) (keep:=[1]) (st2:=(f12n1E ba1 .norm).2) (by kernel_rfl) an rfl
 | ret =>
  obtain rfl:=Qd h;exact T.last' (T.bl (i:=0) (by kernel_rfl) (by kernel_rfl) (f12n2_ok FUEL ba1 0 h51)) (tds:=[]) (m:=[]) (keep:=[2]) (st2:=(f12n1E ba1 .ret).2) (by kernel_rfl) an rfl
inductive f12n0O where
 | ret (v54:Bool)
def f12n0E(a1:Qh):f12n0O→Ex×Tr×Hp
 | .ret v54=>(.ret,mkS [(2,(jB v54))],[])
def f12n0S(a1:Qh):Tr×Hp:=(Qai [(jA Qh.cells a1)] 0 .leaf,[])
noncomputable def f12n0(a1:Qh):Option f12n0O :=
 (f12n1 a1).bind fun o52=>match o52 with
 | .norm=>some (.ret (decide (220<(a1.Records.length:Int))))
 | .ret=>some (.ret true)
theorem f12n0_ok(a1:Qh){o:f12n0O}(h:f12n0 a1=some o):T Try.prog Try.f12.ntmps 0 c12 (f12n0S a1) (·=f12n0E a1 o):=by
 unfold f12n0 at h;refine rN Qf 1 [j3] [] [] [0] [1] (f12n1S a1) an ?_;obtain ⟨o52,h53,h⟩:=Qc h;cases o52 with
 | norm =>
  refine T.oneN (by kernel_rfl) (f12n1_ok a1 h53) (st2:=(f12n1E a1 .norm).2) rfl ?_;obtain rfl:=Qd h;exact rE Qf [([],[],[(2,.val (jI (a1.Records.length:Int)))])] [] [] [] [2] (.ret,(f12n0E a1 (.ret (decide (220<(a1.Records.length:Int))))).2) (ap (Qn (xs:=a1.Records) (c:=Qa.cells)) an) rfl
 | ret =>
  obtain rfl:=Qd h;exact T.oneX' (by kernel_rfl) (f12n1_ok a1 h53) (tds:=[]) (m:=[]) (keep:=[2]) (st2:=(f12n0E a1 (.ret true)).2) (by kernel_rfl) an rfl rfl
noncomputable def f12(a1:Qh):Option Bool:=(f12n0 a1).bind fun o=>match o with
 | .ret v54=>some v54
theorem f12_ok(a1:Qh){r:Bool}(h:f12 a1=some r):Qm Try.prog false 12 [(jA Qh.cells a1)] [] (jB r) []:=by
 unfold f12 at h;obtain ⟨o,ho,h⟩:=Qc h;cases o with
 | ret v54 =>
  obtain rfl:=Qd h;exact Qm.plain Qf (f:=Try.f12) (c:=c12) (by kernel_rfl) (by kernel_rfl) (by kernel_rfl) (by kernel_rfl) ((f12n0_ok a1 ho).mono fun r e=>by subst e; exact ⟨.inl rfl,(jB v54),(jB v54),by kernel_rfl,by kernel_rfl,((Wk.refl _):Wk (jB v54) (jB v54))⟩)

noncomputable def c14:Code:=Try.f14.body.getD .skip
inductive f14r1n2O where
 | exit0 (v44:List Qa)
def f14r1n2E(ba1:Qh):f14r1n2O→Ex×Tr×Hp
 | .exit0 v44=>((.exit 0),mkS [(2,(.bp 0 0)),(3,(.bp 1 0))],[some (.box 24 [(.pl (.sl .nil 0 []))]),some (.box 24 [(.own 2)]),some (.drow 3 (v44.map Qa.cells))])
def f14r1n2S(ba1:Qh)(v28:Int)(v29:List Qa):Tr×Hp:=(mkS [(1,(.bp 0 0)),(2,(.bp 1 0)),(3,(.bp 2 0)),(4,(jI v28))],[some (.box 24 ((Qh.cells ba1).map .pl)),some (.box 24 [(.pl (.sl .nil 0 []))]),some (.box 24 [(.own 3)]),some (.drow 3 (v29.map Qa.cells))])
noncomputable def f14r1n2:Nat→Qh→Int→List Qa→Option f14r1n2O
 | 0,_,_,_=>none
 | f+1,ba1,v28,v29 =>
  bif decide (v28<(ba1.Records.length:Int)) then
   (at? ba1.Records v28).bind fun x38 =>
   bif (x38.Lines.isEmpty) then
    req (fit (v29.length+1) 48) <|
    (f14r1n2 f ba1 (wr64 (v28+1)) (v29++[(Qa.mk x38.Day x38.Text [])]))
   else
    req (fit x38.Lines.length 40) <|
    req (fit (v29.length+1) 48) <|
    (f14r1n2 f ba1 (wr64 (v28+1)) (v29++[x38]))
  else
   some (.exit0 v29)
theorem f14r1n2_ok:∀(f:Nat)(ba1:Qh)(v28:Int)(v29:List Qa){o:f14r1n2O},f14r1n2 f ba1 v28 v29=some o→TL Try.prog Try.f14.ntmps 0 f (cL (cL (Qk 1 (cL (Qk 2 c14))))) (f14r1n2S ba1 v28 v29) (·=f14r1n2E ba1 o)
 | 0,_,_,_,o,h=>by rw [f14r1n2] at h; cases h
 | f+1,ba1,v28,v29,o,h=>by
  rw [f14r1n2] at h;refine TL.body (K:=fun s=>∃v28:Int,∃v29:List Qa,s=(f14r1n2S ba1 v28 v29)∧f14r1n2 f ba1 v28 v29=some o) ?_ (by rintro _ ⟨v28,v29,rfl,hk⟩; exact f14r1n2_ok f _ _ _ hk);rcases Qg h with ⟨h31,h⟩|⟨h31,h⟩
  ·obtain ⟨x38,h39,h⟩:=Qc h;rcases Qg h with ⟨h40,h⟩|⟨h40,h⟩
   ·obtain ⟨h41,h⟩:=Qp h
    exact rE Qf [([],[],[(3,.val (jI (ba1.Records.length:Int)))]),([],[(3,.idx (Int.toNat v28) (Qa.cells x38))],[]),([],[(3,.app false)],[]),([],[(3,.nz),(4,.fits)],[(4,.drw 7 ((v29++[(Qa.mk x38.Day x38.Text [])]).map Qa.cells))]),j3] [some true] [] [0,1,2,7] [1,2,3,4] (.norm,(f14r1n2S ba1 (wr64 (v28+1)) (v29++[(Qa.mk x38.Day x38.Text [])]))) (ap (Qn (xs:=ba1.Records) (c:=Qa.cells)) (ap h31 (ap (Qj h39).1 (ap (Qs Qa.cells (Qj h39).2) (ap (Qbc (c:=Qb.cells) h40) (ap (flat_cv (c:=Qb.cells) (fun _=>rfl) []) (ap (Qbq (te:=ti47) (xs:=v29) (n:=1) (c:=Qa.cells) h41 rfl) (ap (Qap (xs:=v29) (ys:=[(Qa.mk x38.Day x38.Text [])]) (c:=Qa.cells)) an)))))))) (Qt.norm ⟨(wr64 (v28+1)),(v29++[(Qa.mk x38.Day x38.Text [])]),rfl,h⟩)
   ·obtain ⟨h42,h⟩:=Qp h;obtain ⟨h43,h⟩:=Qp h
    exact rE Qf [([],[],[(3,.val (jI (ba1.Records.length:Int)))]),([],[(3,.idx (Int.toNat v28) (Qa.cells x38))],[]),([],[(3,.app true)],[]),([],[(3,.nz),(4,.fits)],[(4,.drw 8 ((v29++[x38]).map Qa.cells))]),j3] [some true] [] [0,1,2,8] [1,2,3,4] (.norm,(f14r1n2S ba1 (wr64 (v28+1)) (v29++[x38]))) (ap (Qn (xs:=ba1.Records) (c:=Qa.cells)) (ap h31 (ap (Qj h39).1 (ap (Qs Qa.cells (Qj h39).2) (ap (fit_map0z (te:=ti49) (xs:=x38.Lines) (c:=Qb.cells) h42 rfl) (ap (Qcf (c:=Qb.cells) h40) (ap (Qbd (c:=Qb.cells) (xs:=x38.Lines) (n:=3) (fun _=>rfl)) (ap (flat_cv (c:=Qb.cells) (fun _=>rfl) x38.Lines) (ap (Qbq (te:=ti47) (xs:=v29) (n:=1) (c:=Qa.cells) h43 rfl) (ap (Qap (xs:=v29) (ys:=[x38]) (c:=Qa.cells)) an)))))))))) (Qt.norm ⟨(wr64 (v28+1)),(v29++[x38]),rfl,h⟩)
  ·obtain rfl:=Qd h;exact rK Qf 1 [([],[],[(3,.val (jI (ba1.Records.length:Int)))])] [some false] [] [1,2,3] [2,3] (.exit 0) ((f14r1n2E ba1 (.exit0 v29)).2) (ap (Qn (xs:=ba1.Records) (c:=Qa.cells)) (ap h31 an)) (Qt.out rfl rfl)
noncomputable def f14r1n2L(ba1:Qh):List Qa→Int→(List Qa)→Option f14r1n2O
 | [],v28,v29 =>
  some (.exit0 v29)
 | x0::rest,v28,v29 =>
  bif (x0.Lines.isEmpty) then
   req (fit (v29.length+1) 48) <|
   (f14r1n2L ba1 rest (v28+1) (v29++[(Qa.mk x0.Day x0.Text [])]))
  else
   req (fit x0.Lines.length 40) <|
   req (fit (v29.length+1) 48) <|
   (f14r1n2L ba1 rest (v28+1) (v29++[x0]))
theorem f14r1n2L_eq(ba1:Qh):∀(rest:List Qa)(f k:Nat)(v29:List Qa),ba1.Records.drop k=rest→ba1.Records.length≤maxLen→rest.length<f→f14r1n2 f ba1 (k:Int) v29=f14r1n2L ba1 rest (k:Int) v29
 | _,0,_,_,_,_,hf=>absurd hf (Nat.not_lt_zero _)
 | [],f+1,k,v29,hd,hm,hf=>by
  have hk:¬((k:Int)<(ba1.Records.length:Int)):=by have:=Qaj hd; omega
  rw [f14r1n2,f14r1n2L];simp only [decide_eq_false hk,cond_false]
 | x0::rest,f+1,k,v29,hd,hm,hf=>by
  obtain ⟨hx,hlt,hd'⟩:=Qx hd;have hk:(k:Int)<(ba1.Records.length:Int):=by omega
  have hw:wr64 ((k:Int)+1)=(k:Int)+1:=Qr (by omega) (by unfold maxLen at hm; omega);have ih:∀(v29:List Qa),f14r1n2 f ba1 ((k:Int)+1) v29=f14r1n2L ba1 rest ((k:Int)+1) v29:=fun v29=>f14r1n2L_eq ba1 rest f (k+1) v29 hd' hm (by simpa using hf);rw [f14r1n2,f14r1n2L];simp only [decide_eq_true hk,cond_true,Qaq,hx,Option.bind_some,hw,ih]
theorem f14r1n2_run(ba1:Qh)(v29:List Qa)(hm:ba1.Records.length≤maxLen):f14r1n2 FUEL ba1 0 v29=f14r1n2L ba1 ba1.Records 0 v29:=f14r1n2L_eq ba1 ba1.Records FUEL 0 v29 List.drop_zero hm (Qao hm)
inductive f14r1n1O where
 | norm (v48:List Qa)
def f14r1n1E(ba1:Qh):f14r1n1O→Ex×Tr×Hp
 | .norm v48=>(.norm,mkS [(2,(.bp 0 0)),(3,(.bp 1 0))],[some (.box 24 [(.pl (.sl .nil 0 []))]),some (.box 24 [(.own 2)]),some (.drow 3 (v48.map Qa.cells))])
def f14r1n1S(ba1:Qh):Tr×Hp:=(mkS [(1,(.bp 0 0)),(2,(.bp 1 0)),(3,(.bp 2 0))],[some (.box 24 ((Qh.cells ba1).map .pl)),some (.box 24 [(.pl (.sl .nil 0 []))]),some (.box 24 [(.pl (.sl .nil 0 []))])])
noncomputable def f14r1n1(ba1:Qh):Option f14r1n1O :=
 (f14r1n2 FUEL ba1 0 []).bind fun o45=>match o45 with
 | .exit0 v47=>some (.norm v47)
theorem f14r1n1_ok(ba1:Qh){o:f14r1n1O}(h:f14r1n1 ba1=some o):T Try.prog Try.f14.ntmps 0 (cL (Qk 2 c14)) (f14r1n1S ba1) (·=f14r1n1E ba1 o):=by
 unfold f14r1n1 at h;refine rN Qf 1 [j3] [] [.matC 2 0 1003] [0,1,2,3] [1,2,3,4] (f14r1n2S ba1 0 []) an ?_;obtain ⟨o45,h46,h⟩:=Qc h;cases o45 with
 | exit0 v47 =>
  obtain rfl:=Qd h;exact T.last' (T.bl (i:=0) (by kernel_rfl) (by kernel_rfl) (f14r1n2_ok FUEL ba1 0 [] h46)) (tds:=[]) (m:=[0,1,2]) (keep:=[2,3]) (st2:=(f14r1n1E ba1 (.norm v47)).2) (by kernel_rfl) an rfl
inductive f14r1n0O where
 | ret (v52:List Qa)
def f14r1n0E(a1:Qh):f14r1n0O→Ex×Tr×Hp
 | .ret v52=>(.ret,mkS [(2,(.bp 0 0))],[some (.box 24 [(.own 1)]),some (.drow 3 (v52.map Qa.cells))])
def f14r1n0S(a1:Qh):Tr×Hp:=(Qai [(jA Qh.cells a1)] 0 .leaf,[])
noncomputable def f14r1n0(a1:Qh):Option f14r1n0O :=
 (f14r1n1 a1).bind fun o49=>match o49 with
 | .norm v51=>some (.ret v51)
theorem f14r1n0_ok(a1:Qh){o:f14r1n0O}(h:f14r1n0 a1=some o):T Try.prog Try.f14.ntmps 0 c14 (f14r1n0S a1) (·=f14r1n0E a1 o):=by
 unfold f14r1n0 at h;refine rN Qf 2 [j3,j3] [] [] [0,1,2] [1,2,3] (f14r1n1S a1) an ?_;obtain ⟨o49,h50,h⟩:=Qc h;cases o49 with
 | norm v51 =>
  refine T.oneN (by kernel_rfl) (f14r1n1_ok a1 h50) (st2:=(f14r1n1E a1 (.norm v51)).2) rfl ?_;obtain rfl:=Qd h;exact rE Qf [j3] [] [] [0,2] [2] (.ret,(f14r1n0E a1 (.ret v51)).2) an rfl
noncomputable def f14r1(a1:Qh):Option (List Qa):=(f14r1n0 a1).bind fun o=>match o with
 | .ret v52=>some v52
theorem f14r1_ok(a1:Qh){r:List Qa}(h:f14r1 a1=some r):Qm Try.prog true 14 [(jA Qh.cells a1)] [] (.agg [(.own 1)]) [some (.box 24 [(.own 1)]),some (.drow 3 (r.map Qa.cells))]:=by
 unfold f14r1 at h;obtain ⟨o,ho,h⟩:=Qc h;cases o with
 | ret v52 =>
  obtain rfl:=Qd h;exact Qm.shared Qf (f:=Try.f14) (c:=c14) (by kernel_rfl) (by kernel_rfl) (by kernel_rfl) ((f14r1n0_ok a1 ho).mono fun r e=>by subst e; exact ⟨.inl rfl,by kernel_rfl,by kernel_rfl⟩)

noncomputable def c67:Code:=Try.f67.body.getD .skip
inductive f67n3O where
 | norm (v302:Bool)
def f67n3E(bd1:ByteArray)(bf2:Int)(be3:UInt8):f67n3O→Ex×Tr×Hp
 | .norm v302=>(.norm,mkS [(0,(jS bd1)),(3,(jI bf2)),(4,(.pl (.int .u8 (be3.toNat:Int)))),(5,(jB v302))],[])
def f67n3S(bd1:ByteArray)(bf2:Int)(be3:UInt8):Tr×Hp:=(mkS [(0,(jS bd1)),(3,(jI bf2)),(4,(.pl (.int .u8 (be3.toNat:Int))))],[])
noncomputable def f67n3(bd1:ByteArray)(bf2:Int)(be3:UInt8):Option f67n3O :=
 bif decide (97≤(be3.toNat:Int)) then
  bif decide ((be3.toNat:Int)≤122) then
   some (.norm true)
  else
   bif decide (65≤(be3.toNat:Int)) then
    some (.norm (decide ((be3.toNat:Int)≤90)))
   else
    some (.norm false)
 else
  bif decide (65≤(be3.toNat:Int)) then
   some (.norm (decide ((be3.toNat:Int)≤90)))
  else
   some (.norm false)
theorem f67n3_ok(bd1:ByteArray)(bf2:Int)(be3:UInt8){o:f67n3O}(h:f67n3 bd1 bf2 be3=some o):T Try.prog Try.f67.ntmps 0 (cL (Qk 1 (cL (cL (Qk 1 (cL (cL (Qk 1 (cL (Qk 2 c67)))))))))) (f67n3S bd1 bf2 be3) (·=f67n3E bd1 bf2 be3 o):=by
 unfold f67n3 at h;rcases Qg h with ⟨h298,h⟩|⟨h298,h⟩
 ·rcases Qg h with ⟨h299,h⟩|⟨h299,h⟩
  ·obtain rfl:=Qd h;exact rE Qf [(jT [3,4,7,8,9,12],[(5,.bool true),(13,.bool true)],[])] [] [] [] [0,3,4,5] (.norm,(f67n3E bd1 bf2 be3 (.norm true)).2) (ap3 h298 (ap h299 (ap4 h299 an))) rfl
  ·rcases Qg h with ⟨h300,h⟩|⟨h300,h⟩
   ·obtain rfl:=Qd h;exact rE Qf [(jF [7,8,9,12]++jT [3,4,10,11],[(5,.bool true),(12,.bool true),(13,.bool false)],[])] [] [] [] [0,3,4,5] (.norm,(f67n3E bd1 bf2 be3 (.norm (decide ((be3.toNat:Int)≤90)))).2) (ap3 h298 (ap3 h299 (ap2 h300 (ap h299 (ap h300 (ap h299 an)))))) rfl
   ·obtain rfl:=Qd h;exact rE Qf [(jF [7,8,9,10,11,12]++jT [3,4],[(5,.bool true),(12,.bool false),(13,.bool false)],[])] [] [] [] [0,3,4,5] (.norm,(f67n3E bd1 bf2 be3 (.norm false)).2) (ap3 h298 (ap3 h299 (ap2 h300 (ap h299 (ap h300 (ap h299 an)))))) rfl
 ·rcases Qg h with ⟨h301,h⟩|⟨h301,h⟩
  ·obtain rfl:=Qd h;exact rE Qf [(jF [3,4]++jT [10,11],[(5,.bool false),(12,.bool true)],[])] [] [] [] [0,3,4,5] (.norm,(f67n3E bd1 bf2 be3 (.norm (decide ((be3.toNat:Int)≤90)))).2) (ap3 h298 (ap3 h301 an)) rfl
  ·obtain rfl:=Qd h;exact rE Qf [(jF [3,4,10,11],[(5,.bool false),(12,.bool false)],[])] [] [] [] [0,3,4,5] (.norm,(f67n3E bd1 bf2 be3 (.norm false)).2) (ap3 h298 (ap3 h301 an)) rfl
inductive f67n4O where
 | norm (v318:Bool)
def f67n4E(bd1:ByteArray)(bf2:Int)(be3:UInt8)(bo4:Bool):f67n4O→Ex×Tr×Hp
 | .norm v318=>(.norm,mkS [(0,(jS bd1)),(3,(jI bf2)),(5,(jB bo4)),(6,(jB v318))],[])
def f67n4S(bd1:ByteArray)(bf2:Int)(be3:UInt8)(bo4:Bool):Tr×Hp:=(mkS [(0,(jS bd1)),(3,(jI bf2)),(4,(.pl (.int .u8 (be3.toNat:Int)))),(5,(jB bo4))],[])
noncomputable def f67n4(bd1:ByteArray)(bf2:Int)(be3:UInt8)(bo4:Bool):Option f67n4O :=
 bif decide (48≤(be3.toNat:Int)) then
  bif decide ((be3.toNat:Int)≤57) then
   some (.norm true)
  else
   bif decide ((be3.toNat:Int)=95) then
    some (.norm true)
   else
    some (.norm (decide ((be3.toNat:Int)=45)))
 else
  bif decide ((be3.toNat:Int)=95) then
   some (.norm true)
  else
   some (.norm (decide ((be3.toNat:Int)=45)))
theorem f67n4_ok(bd1:ByteArray)(bf2:Int)(be3:UInt8)(bo4:Bool){o:f67n4O}(h:f67n4 bd1 bf2 be3 bo4=some o):T Try.prog Try.f67.ntmps 0 (cL (Qk 0 (Qk 1 (Qk 1 (cL (cL (Qk 1 (cL (cL (Qk 1 (cL (Qk 2 c67)))))))))))) (f67n4S bd1 bf2 be3 bo4) (·=f67n4E bd1 bf2 be3 bo4 o):=by
 unfold f67n4 at h;rcases Qg h with ⟨h314,h⟩|⟨h314,h⟩
 ·rcases Qg h with ⟨h315,h⟩|⟨h315,h⟩
  ·obtain rfl:=Qd h;exact rE Qf [(jT [3,4,7,8],[(5,.bool true),(9,.bool true)],[])] [] [] [] [0,3,5,6] (.norm,(f67n4E bd1 bf2 be3 bo4 (.norm true)).2) (ap3 h314 (ap3 h315 an)) rfl
  ·rcases Qg h with ⟨h316,h⟩|⟨h316,h⟩
   ·obtain rfl:=Qd h;exact rE Qf [(jF [7,8]++jT [3,4,11,12],[(5,.bool true),(9,.bool false),(13,.bool true)],[])] [] [] [] [0,3,5,6] (.norm,(f67n4E bd1 bf2 be3 bo4 (.norm true)).2) (ap3 h314 (ap3 h315 (ap3 h316 an))) rfl
   ·obtain rfl:=Qd h;exact rE Qf [(jF [7,8,11,12]++jT [3,4],[(5,.bool true),(9,.bool false),(13,.bool false)],[])] [] [] [] [0,3,5,6] (.norm,(f67n4E bd1 bf2 be3 bo4 (.norm (decide ((be3.toNat:Int)=45)))).2) (ap3 h314 (ap3 h315 (ap3 h316 an))) rfl
 ·rcases Qg h with ⟨h317,h⟩|⟨h317,h⟩
  ·obtain rfl:=Qd h;exact rE Qf [(jF [3,4]++jT [11,12],[(5,.bool false),(13,.bool true)],[])] [] [] [] [0,3,5,6] (.norm,(f67n4E bd1 bf2 be3 bo4 (.norm true)).2) (ap3 h314 (ap3 h317 an)) rfl
  ·obtain rfl:=Qd h;exact rE Qf [(jF [3,4,11,12],[(5,.bool false),(13,.bool false)],[])] [] [] [] [0,3,5,6] (.norm,(f67n4E bd1 bf2 be3 bo4 (.norm (decide ((be3.toNat:Int)=45)))).2) (ap3 h314 (ap3 h317 an)) rfl
inductive f67n5O where
 | norm (v328:Bool)
def f67n5E(bd1:ByteArray)(bf2:Int)(bo3 bo4:Bool):f67n5O→Ex×Tr×Hp
 | .norm v328=>(.norm,mkS [(0,(jS bd1)),(3,(jI bf2)),(61,(jB v328))],[])
def f67n5S(bd1:ByteArray)(bf2:Int)(bo3 bo4:Bool):Tr×Hp:=(mkS [(0,(jS bd1)),(3,(jI bf2)),(5,(jB bo3)),(6,(jB bo4))],[])
noncomputable def f67n5(bd1:ByteArray)(bf2:Int)(bo3 bo4:Bool):Option f67n5O :=
 bif bo3 then
  some (.norm false)
 else
  bif bo4 then
   some (.norm (decide (bf2=0)))
  else
   some (.norm true)
theorem f67n5_ok(bd1:ByteArray)(bf2:Int)(bo3 bo4:Bool){o:f67n5O}(h:f67n5 bd1 bf2 bo3 bo4=some o):T Try.prog Try.f67.ntmps 0 (cL (Qk 0 (Qk 1 (Qk 0 (Qk 1 (Qk 1 (cL (cL (Qk 1 (cL (cL (Qk 1 (cL (Qk 2 c67)))))))))))))) (f67n5S bd1 bf2 bo3 bo4) (·=f67n5E bd1 bf2 bo3 bo4 o):=by
 unfold f67n5 at h;rcases Qg h with ⟨h326,h⟩|⟨h326,h⟩
 ·obtain rfl:=Qd h;exact rE Qf [(jF [3,4,5,8],[(9,.bool false)],[])] [] [] [] [0,3,61] (.norm,(f67n5E bd1 bf2 bo3 bo4 (.norm false)).2) (ap (Qq h326) (ap4 (Qq h326) an)) rfl
 ·rcases Qg h with ⟨h327,h⟩|⟨h327,h⟩
  ·obtain rfl:=Qd h;exact rE Qf [(jF [6,7]++jT [3,4,5,8],[(8,.bool false),(9,.bool true)],[])] [] [] [] [0,3,61] (.norm,(f67n5E bd1 bf2 bo3 bo4 (.norm (decide (bf2=0)))).2) (ap3 (Qac h326) (ap2 (Qq h327) (ap (Qac h326) (ap (Qq h327) (ap (Qac h326) an))))) rfl
  ·obtain rfl:=Qd h;exact rE Qf [(jT [3,4,5,6,7,8],[(8,.bool true),(9,.bool true)],[])] [] [] [] [0,3,61] (.norm,(f67n5E bd1 bf2 bo3 bo4 (.norm true)).2) (ap3 (Qac h326) (ap2 (Qac h327) (ap (Qac h326) (ap (Qac h327) (ap (Qac h326) an))))) rfl
inductive f67n2O where
 | norm
 | ret
def f67n2E(bd1:ByteArray)(bf2:Int):f67n2O→Ex×Tr×Hp
 | .norm=>(.norm,mkS [(0,(jS bd1)),(3,(jI bf2))],[])
 | .ret=>(.ret,mkS [(2,(jB false))],[])
def f67n2S(bd1:ByteArray)(bf2:Int):Tr×Hp:=(mkS [(0,(jS bd1)),(3,(jI bf2))],[])
noncomputable def f67n2(bd1:ByteArray)(bf2:Int):Option f67n2O :=
 (at? bd1.data.toList bf2).bind fun x288 =>
 (f67n3 bd1 bf2 x288).bind fun o303=>match o303 with
 | .norm v305=>(f67n4 bd1 bf2 x288 v305).bind fun o319=>match o319 with
  | .norm v321=>(f67n5 bd1 bf2 v305 v321).bind fun o329=>match o329 with
   | .norm v331=>bif v331 then
     some .ret
    else
     some .norm
theorem f67n2_ok(bd1:ByteArray)(bf2:Int){o:f67n2O}(h:f67n2 bd1 bf2=some o):T Try.prog Try.f67.ntmps 0 (cL (Qk 1 (cL (cL (Qk 1 (cL (Qk 2 c67))))))) (f67n2S bd1 bf2) (·=f67n2E bd1 bf2 o):=by
 unfold f67n2 at h;refine T.block' (i:=1) (by kernel_rfl) ?_;obtain ⟨x288,h289,h⟩:=Qc h;refine rN Qf 1 [([],[(2,.byte (Int.toNat bf2) x288)],[])] [] [] [] [0,3,4] (f67n3S bd1 bf2 x288) (ap (Qj h289).1 (ap (Qj h289).2 an)) ?_;obtain ⟨o303,h304,h⟩:=Qc h;cases o303 with
 | norm v305 =>
  refine T.oneN (by kernel_rfl) (f67n3_ok bd1 bf2 x288 h304) (st2:=(f67n3E bd1 bf2 x288 (.norm v305)).2) rfl ?_;refine rN Qf 0 [] [] [] [] [0,3,4,5] (f67n4S bd1 bf2 x288 v305) an ?_;obtain ⟨o319,h320,h⟩:=Qc h;cases o319 with
  | norm v321 =>
   refine T.oneN (by kernel_rfl) (f67n4_ok bd1 bf2 x288 v305 h320) (st2:=(f67n4E bd1 bf2 x288 v305 (.norm v321)).2) rfl ?_;refine rN Qf 0 [] [] [] [] [0,3,5,6] (f67n5S bd1 bf2 v305 v321) an ?_;obtain ⟨o329,h330,h⟩:=Qc h;cases o329 with
   | norm v331 =>
    refine T.oneN (by kernel_rfl) (f67n5_ok bd1 bf2 v305 v321 h330) (st2:=(f67n5E bd1 bf2 v305 v321 (.norm v331)).2) rfl ?_;rcases Qg h with ⟨h333,h⟩|⟨h333,h⟩
    ·obtain rfl:=Qd h;exact rE Qf [j3] [some true] [] [] [2] (.ret,(f67n2E bd1 bf2 .ret).2) (ap h333 an) rfl
    ·obtain rfl:=Qd h;exact rE Qf [] [some false] [] [] [0,3] (.norm,(f67n2E bd1 bf2 .norm).2) (ap h333 an) rfl
inductive f67n6O where
 | exit0
 | ret
def f67n6E(bd1:ByteArray):f67n6O→Ex×Tr×Hp
 | .exit0=>((.exit 0),mkS [],[])
 | .ret=>(.ret,mkS [(2,(jB false))],[])
def f67n6S(bd1:ByteArray)(v219:Int):Tr×Hp:=(mkS [(0,(jS bd1)),(3,(jI v219))],[])
noncomputable def f67n6:Nat→ByteArray→Int→Option f67n6O
 | 0,_,_=>none
 | f+1,bd1,v219 =>
  bif decide (v219<(bd1.size:Int)) then
   (f67n2 bd1 v219).bind fun o334=>match o334 with
   | .norm=>(f67n6 f bd1 (wr64 (v219+1)))
   | .ret=>some .ret
  else
   some .exit0
theorem f67n6_ok:∀(f:Nat)(bd1:ByteArray)(v219:Int){o:f67n6O},f67n6 f bd1 v219=some o→TL Try.prog Try.f67.ntmps 0 f (cL (cL (Qk 1 (cL (Qk 2 c67))))) (f67n6S bd1 v219) (·=f67n6E bd1 o)
 | 0,_,_,o,h=>by rw [f67n6] at h; cases h
 | f+1,bd1,v219,o,h=>by
  rw [f67n6] at h;refine TL.body (K:=fun s=>∃v219:Int,s=(f67n6S bd1 v219)∧f67n6 f bd1 v219=some o) ?_ (by rintro _ ⟨v219,rfl,hk⟩; exact f67n6_ok f _ _ hk);rcases Qg h with ⟨h221,h⟩|⟨h221,h⟩
  ·refine rN Qf 1 [j3] [some true] [] [] [0,3] (f67n2S bd1 v219) (ap h221 an) ?_;obtain ⟨o334,h335,h⟩:=Qc h;cases o334 with
   | norm =>
    refine T.oneN (by kernel_rfl) (f67n2_ok bd1 v219 h335) (st2:=(f67n2E bd1 v219 .norm).2) rfl ?_;exact rE Qf [j3] [] [] [] [0,3] (.norm,(f67n6S bd1 (wr64 (v219+1)))) an (Qt.norm ⟨(wr64 (v219+1)),rfl,h⟩)
   | ret =>
    obtain rfl:=Qd h;exact T.oneX' (by kernel_rfl) (f67n2_ok bd1 v219 h335) (tds:=[]) (m:=[]) (keep:=[2]) (st2:=(f67n6E bd1 .ret).2) (by kernel_rfl) an rfl (Qt.out rfl rfl)
  ·obtain rfl:=Qd h;exact rK Qf 1 [j3] [some false] [] [] [] (.exit 0) ((f67n6E bd1 .exit0).2) (ap h221 an) (Qt.out rfl rfl)
inductive f67n1O where
 | norm
 | ret
def f67n1E(bd1:ByteArray):f67n1O→Ex×Tr×Hp
 | .norm=>(.norm,mkS [],[])
 | .ret=>(.ret,mkS [(2,(jB false))],[])
def f67n1S(bd1:ByteArray):Tr×Hp:=(mkS [(0,(jS bd1))],[])
noncomputable def f67n1(bd1:ByteArray):Option f67n1O :=
 (f67n6 FUEL bd1 0).bind fun o336=>match o336 with
 | .exit0=>some .norm
 | .ret=>some .ret
theorem f67n1_ok(bd1:ByteArray){o:f67n1O}(h:f67n1 bd1=some o):T Try.prog Try.f67.ntmps 0 (cL (Qk 2 c67)) (f67n1S bd1) (·=f67n1E bd1 o):=by
 unfold f67n1 at h;refine rN Qf 1 [j3] [] [] [] [0,3] (f67n6S bd1 0) an ?_;obtain ⟨o336,h337,h⟩:=Qc h;cases o336 with
 | exit0 =>
  obtain rfl:=Qd h;exact T.last' (T.bl (i:=0) (by kernel_rfl) (by kernel_rfl) (f67n6_ok FUEL bd1 0 h337)) (tds:=[]) (m:=[]) (keep:=[]) (st2:=(f67n1E bd1 .norm).2) (by kernel_rfl) an rfl
 | ret =>
  obtain rfl:=Qd h;exact T.last' (T.bl (i:=0) (by kernel_rfl) (by kernel_rfl) (f67n6_ok FUEL bd1 0 h337)) (tds:=[]) (m:=[]) (keep:=[2]) (st2:=(f67n1E bd1 .ret).2) (by kernel_rfl) an rfl
inductive f67n0O where
 | ret (v340:Bool)
def f67n0E(a1:ByteArray):f67n0O→Ex×Tr×Hp
 | .ret v340=>(.ret,mkS [(2,(jB v340))],[])
def f67n0S(a1:ByteArray):Tr×Hp:=(Qai [(jS a1)] 0 .leaf,[])
noncomputable def f67n0(a1:ByteArray):Option f67n0O :=
 bif decide ((a1.size:Int)<1) then
  some (.ret false)
 else
  bif decide (40<(a1.size:Int)) then
   some (.ret false)
  else
   (f67n1 a1).bind fun o338=>match o338 with
   | .norm=>some (.ret true)
   | .ret=>some (.ret false)
theorem f67n0_ok(a1:ByteArray){o:f67n0O}(h:f67n0 a1=some o):T Try.prog Try.f67.ntmps 0 c67 (f67n0S a1) (·=f67n0E a1 o):=by
 unfold f67n0 at h;rcases Qg h with ⟨h4,h⟩|⟨h4,h⟩
 ·obtain rfl:=Qd h;exact rK Qf 2 [j3,(jT [4,5,6],[(7,.bool true)],[]),j3] [none] [] [] [2] .ret ((f67n0E a1 (.ret false)).2) (ap4 h4 an) rfl
 ·rcases Qg h with ⟨h5,h⟩|⟨h5,h⟩
  ·obtain rfl:=Qd h;exact rK Qf 2 [j3,(jF [4,5,6],[(7,.bool false)],[]),j3] [some true] [] [] [2] .ret ((f67n0E a1 (.ret false)).2) (ap4 h4 (ap h5 an)) rfl
  ·refine rN Qf 2 [j3,(jF [4,5,6],[(7,.bool false)],[])] [some false] [] [] [0] (f67n1S a1) (ap4 h4 (ap h5 an)) ?_;obtain ⟨o338,h339,h⟩:=Qc h;cases o338 with
   | norm =>
    refine T.oneN (by kernel_rfl) (f67n1_ok a1 h339) (st2:=(f67n1E a1 .norm).2) rfl ?_;obtain rfl:=Qd h;exact rE Qf [j3] [] [] [] [2] (.ret,(f67n0E a1 (.ret true)).2) an rfl
   | ret =>
    obtain rfl:=Qd h;exact T.oneX' (by kernel_rfl) (f67n1_ok a1 h339) (tds:=[]) (m:=[]) (keep:=[2]) (st2:=(f67n0E a1 (.ret false)).2) (by kernel_rfl) an rfl rfl
noncomputable def f67(a1:ByteArray):Option Bool:=(f67n0 a1).bind fun o=>match o with
 | .ret v340=>some v340
theorem f67_ok(a1:ByteArray){r:Bool}(h:f67 a1=some r):Qm Try.prog false 67 [(jS a1)] [] (jB r) []:=by
 unfold f67 at h;obtain ⟨o,ho,h⟩:=Qc h;cases o with
 | ret v340 =>
  obtain rfl:=Qd h;exact Qm.plain Qf (f:=Try.f67) (c:=c67) (by kernel_rfl) (by kernel_rfl) (by kernel_rfl) (by kernel_rfl) ((f67n0_ok a1 ho).mono fun r e=>by subst e; exact ⟨.inl rfl,(jB v340),(jB v340),by kernel_rfl,by kernel_rfl,((Wk.refl _):Wk (jB v340) (jB v340))⟩)

noncomputable def c52:Code:=Try.f52.body.getD .skip
inductive f52n2O where
 | exit0
 | ret
def f52n2E(bb1:Qa):f52n2O→Ex×Tr×Hp
 | .exit0=>((.exit 0),mkS [(1,(.bp 0 0))],[some (.box 47 ((Qa.cells bb1).map .pl))])
 | .ret=>(.ret,mkS [(2,(jB false))],[])
def f52n2S(bb1:Qa)(v33:Int):Tr×Hp:=(mkS [(1,(.bp 0 0)),(3,(jI v33))],[some (.box 47 ((Qa.cells bb1).map .pl))])
noncomputable def f52n2:Nat→Qa→Int→Option f52n2O
 | 0,_,_=>none
 | f+1,bb1,v33 =>
  bif decide (v33<(bb1.Text.size:Int)) then
   (at? bb1.Text.data.toList v33).bind fun x40 =>
   bif decide ((x40.toNat:Int)<32) then
    some .ret
   else
    bif decide (126<(x40.toNat:Int)) then
     some .ret
    else
     (f52n2 f bb1 (wr64 (v33+1)))
  else
   some .exit0
theorem f52n2_ok:∀(f:Nat)(bb1:Qa)(v33:Int){o:f52n2O},f52n2 f bb1 v33=some o→TL Try.prog Try.f52.ntmps 0 f (cL (cL (Qk 1 (cL (Qk 0 (Qk 2 c52)))))) (f52n2S bb1 v33) (·=f52n2E bb1 o)
 | 0,_,_,o,h=>by rw [f52n2] at h; cases h
 | f+1,bb1,v33,o,h=>by
  rw [f52n2] at h;refine TL.body (K:=fun s=>∃v33:Int,s=(f52n2S bb1 v33)∧f52n2 f bb1 v33=some o) ?_ (by rintro _ ⟨v33,rfl,hk⟩; exact f52n2_ok f _ _ hk);rcases Qg h with ⟨h35,h⟩|⟨h35,h⟩
  ·obtain ⟨x40,h41,h⟩:=Qc h;rcases Qg h with ⟨h42,h⟩|⟨h42,h⟩
   ·obtain rfl:=Qd h;exact rK Qf 2 [j3,(jT [6,7,8,9,10],[(3,.byte (Int.toNat v33) x40),(11,.bool true)],[]),j3] [some true,none] [] [] [2] .ret ((f52n2E bb1 .ret).2) (ap h35 (ap (Qj h41).1 (ap (Qj h41).2 (ap2 h42 (ap4 h42 an))))) (Qt.out rfl rfl)
   ·rcases Qg h with ⟨h43,h⟩|⟨h43,h⟩
    ·obtain rfl:=Qd h;exact rK Qf 2 [j3,(jF [6,7,8,9,10],[(3,.byte (Int.toNat v33) x40),(9,.byte (Int.toNat v33) x40),(11,.bool false)],[]),j3] [some true,some true] [] [] [2] .ret ((f52n2E bb1 .ret).2) (ap h35 (ap (Qj h41).1 (ap (Qj h41).2 (ap4 h42 (ap (Qj h41).1 (ap (Qj h41).2 (ap2 h42 (ap h43 an)))))))) (Qt.out rfl rfl)
    ·exact rE Qf [j3,(jF [6,7,8,9,10],[(3,.byte (Int.toNat v33) x40),(9,.byte (Int.toNat v33) x40),(11,.bool false)],[]),j3] [some true,some false] [] [0] [1,3] (.norm,(f52n2S bb1 (wr64 (v33+1)))) (ap h35 (ap (Qj h41).1 (ap (Qj h41).2 (ap4 h42 (ap (Qj h41).1 (ap (Qj h41).2 (ap2 h42 (ap h43 an)))))))) (Qt.norm ⟨(wr64 (v33+1)),rfl,h⟩)
  ·obtain rfl:=Qd h;exact rK Qf 1 [j3] [some false] [] [0] [1] (.exit 0) ((f52n2E bb1 .exit0).2) (ap h35 an) (Qt.out rfl rfl)
noncomputable def f52n2L(bb1:Qa):List UInt8→Int→Option f52n2O
 | [],v33 =>
  some .exit0
 | x0::rest,v33 =>
  bif decide ((x0.toNat:Int)<32) then
   some .ret
  else
   bif decide (126<(x0.toNat:Int)) then
    some .ret
   else
    (f52n2L bb1 rest (v33+1))
theorem f52n2L_eq(bb1:Qa):∀(rest:List UInt8)(f k:Nat),bb1.Text.data.toList.drop k=rest→bb1.Text.data.toList.length≤maxLen→rest.length<f→f52n2 f bb1 (k:Int)=f52n2L bb1 rest (k:Int)
 | _,0,_,_,_,hf=>absurd hf (Nat.not_lt_zero _)
 | [],f+1,k,hd,hm,hf=>by
  have hk:¬((k:Int)<(bb1.Text.data.toList.length:Int)):=by have:=Qaj hd; omega
  rw [f52n2,f52n2L];simp only [size_list,decide_eq_false hk,cond_false]
 | x0::rest,f+1,k,hd,hm,hf=>by
  obtain ⟨hx,hlt,hd'⟩:=Qx hd;have hk:(k:Int)<(bb1.Text.data.toList.length:Int):=by omega
  have hw:wr64 ((k:Int)+1)=(k:Int)+1:=Qr (by omega) (by unfold maxLen at hm; omega);have ih:f52n2 f bb1 ((k:Int)+1)=f52n2L bb1 rest ((k:Int)+1):=f52n2L_eq bb1 rest f (k+1) hd' hm (by simpa using hf);rw [f52n2,f52n2L];simp only [size_list,decide_eq_true hk,cond_true,Qaq,hx,Option.bind_some,hw,ih]
theorem f52n2_run(bb1:Qa)(hm:bb1.Text.data.toList.length≤maxLen):f52n2 FUEL bb1 0=f52n2L bb1 bb1.Text.data.toList 0:=f52n2L_eq bb1 bb1.Text.data.toList FUEL 0 List.drop_zero hm (Qao hm)
inductive f52n1O where
 | norm
 | ret
def f52n1E(bb1:Qa):f52n1O→Ex×Tr×Hp
 | .norm=>(.norm,mkS [(1,(.bp 0 0))],[some (.box 47 ((Qa.cells bb1).map .pl))])
 | .ret=>(.ret,mkS [(2,(jB false))],[])
def f52n1S(bb1:Qa):Tr×Hp:=(mkS [(1,(.bp 0 0))],[some (.box 47 ((Qa.cells bb1).map .pl))])
noncomputable def f52n1(bb1:Qa):Option f52n1O :=
 (f52n2 FUEL bb1 0).bind fun o44=>match o44 with
 | .exit0=>some .norm
 | .ret=>some .ret
theorem f52n1_ok(bb1:Qa){o:f52n1O}(h:f52n1 bb1=some o):T Try.prog Try.f52.ntmps 0 (cL (Qk 0 (Qk 2 c52))) (f52n1S bb1) (·=f52n1E bb1 o):=by
 unfold f52n1 at h;refine rN Qf 1 [j3] [] [] [0] [1,3] (f52n2S bb1 0) an ?_;obtain ⟨o44,h45,h⟩:=Qc h;cases o44 with
 | exit0 =>
  obtain rfl:=Qd h;exact T.last' (T.bl (i:=0) (by kernel_rfl) (by kernel_rfl) (f52n2_ok FUEL bb1 0 h45)) (tds:=[]) (m:=[0]) (keep:=[1]) (st2:=(f52n1E bb1 .norm).2) (by kernel_rfl) an rfl
 | ret =>
  obtain rfl:=Qd h;exact T.last' (T.bl (i:=0) (by kernel_rfl) (by kernel_rfl) (f52n2_ok FUEL bb1 0 h45)) (tds:=[]) (m:=[]) (keep:=[2]) (st2:=(f52n1E bb1 .ret).2) (by kernel_rfl) an rfl
inductive f52n4O where
 | exit2
 | ret
def f52n4E(bb1:Qa):f52n4O→Ex×Tr×Hp
 | .exit2=>((.exit 2),mkS [],[])
 | .ret=>(.ret,mkS [(2,(jB false))],[])
def f52n4S(bb1:Qa)(v97:Int):Tr×Hp:=(mkS [(1,(.bp 0 0)),(4,(jI v97))],[some (.box 47 ((Qa.cells bb1).map .pl))])
noncomputable def f52n4:Nat→Qa→Int→Option f52n4O
 | 0,_,_=>none
 | f+1,bb1,v97 =>
  bif decide (v97<(bb1.Lines.length:Int)) then
   (at? bb1.Lines v97).bind fun x111 =>
   (f67 x111.Account).bind fun x113 =>
   bif x113 then
    (f67 x111.Ccy).bind fun x116 =>
    bif x116 then
     bif decide (x111.Amount=0) then
      some .ret
     else
      bif decide (x111.Amount<(-1125899906842624)) then
       some .ret
      else
       bif decide (1125899906842624<x111.Amount) then
        some .ret
       else
        (f52n4 f bb1 (wr64 (v97+1)))
    else
     some .ret
   else
    some .ret
  else
   some .exit2
theorem f52n4_ok:∀(f:Nat)(bb1:Qa)(v97:Int){o:f52n4O},f52n4 f bb1 v97=some o→TL Try.prog Try.f52.ntmps 0 f (cL (cL (Qk 1 (cL (Qk 0 (Qk 1 (Qk 0 (Qk 2 c52)))))))) (f52n4S bb1 v97) (·=f52n4E bb1 o)
 | 0,_,_,o,h=>by rw [f52n4] at h; cases h
 | f+1,bb1,v97,o,h=>by
  rw [f52n4] at h;refine TL.body (K:=fun s=>∃v97:Int,s=(f52n4S bb1 v97)∧f52n4 f bb1 v97=some o) ?_ (by rintro _ ⟨v97,rfl,hk⟩; exact f52n4_ok f _ _ hk);rcases Qg h with ⟨h99,h⟩|⟨h99,h⟩
  ·obtain ⟨x111,h112,h⟩:=Qc h;obtain ⟨x113,h114,h⟩:=Qc h;rcases Qg h with ⟨h115,h⟩|⟨h115,h⟩
   ·obtain ⟨x116,h117,h⟩:=Qc h;rcases Qg h with ⟨h118,h⟩|⟨h118,h⟩
    ·rcases Qg h with ⟨h119,h⟩|⟨h119,h⟩
     ·obtain rfl:=Qd h;exact rK Qf 2 [([],[],[(3,.val (jI (bb1.Lines.length:Int)))]),([],[(3,.idx (Int.toNat v97) (Qb.cells x111))],[]),(jF [5,6,7,8,11,12,13]++jT [16,17,18],[jH 2 (jB x113),jH 7 (jB x116),(9,.bool false),(14,.bool false),(19,.bool true)],[]),j3] [some true,none] [] [] [2] .ret ((f52n4E bb1 .ret).2) (ap (Qn (xs:=bb1.Lines) (c:=Qb.cells)) (ap h99 (ap (Qj h112).1 (ap (Qs Qb.cells (Qj h112).2) (ap (Qq h115) (ap4 (Qq h115) (ap4 (Qq h118) (ap4 h119 (ap (f67_ok x111.Account h114) (ap (f67_ok x111.Ccy h117) an)))))))))) (Qt.out rfl rfl)
     ·rcases Qg h with ⟨h120,h⟩|⟨h120,h⟩
      ·obtain rfl:=Qd h;exact rK Qf 2 [([],[],[(3,.val (jI (bb1.Lines.length:Int)))]),([],[(3,.idx (Int.toNat v97) (Qb.cells x111))],[]),(jF [5,6,7,8,11,12,13,16,17,18]++jT [21,22,23],[jH 2 (jB x113),jH 7 (jB x116),(9,.bool false),(14,.bool false),(19,.bool false),(24,.bool true)],[]),j3] [some true,none] [] [] [2] .ret ((f52n4E bb1 .ret).2) (ap (Qn (xs:=bb1.Lines) (c:=Qb.cells)) (ap h99 (ap (Qj h112).1 (ap (Qs Qb.cells (Qj h112).2) (ap (Qq h115) (ap4 (Qq h115) (ap4 (Qq h118) (ap4 h119 (ap4 h120 (ap (f67_ok x111.Account h114) (ap (f67_ok x111.Ccy h117) an))))))))))) (Qt.out rfl rfl)
      ·rcases Qg h with ⟨h121,h⟩|⟨h121,h⟩
       ·obtain rfl:=Qd h;exact rK Qf 2 [([],[],[(3,.val (jI (bb1.Lines.length:Int)))]),([],[(3,.idx (Int.toNat v97) (Qb.cells x111))],[]),(jF [5,6,7,8,11,12,13,16,17,18,21,22,23],[jH 2 (jB x113),jH 7 (jB x116),(9,.bool false),(14,.bool false),(19,.bool false),(24,.bool false)],[]),j3] [some true,some true] [] [] [2] .ret ((f52n4E bb1 .ret).2) (ap (Qn (xs:=bb1.Lines) (c:=Qb.cells)) (ap h99 (ap (Qj h112).1 (ap (Qs Qb.cells (Qj h112).2) (ap (Qq h115) (ap4 (Qq h115) (ap4 (Qq h118) (ap4 h119 (ap4 h120 (ap (f67_ok x111.Account h114) (ap (f67_ok x111.Ccy h117) (ap h121 an)))))))))))) (Qt.out rfl rfl)
       ·exact rE Qf [([],[],[(3,.val (jI (bb1.Lines.length:Int)))]),([],[(3,.idx (Int.toNat v97) (Qb.cells x111))],[]),(jF [5,6,7,8,11,12,13,16,17,18,21,22,23],[jH 2 (jB x113),jH 7 (jB x116),(9,.bool false),(14,.bool false),(19,.bool false),(24,.bool false)],[]),j3] [some true,some false] [] [0] [1,4] (.norm,(f52n4S bb1 (wr64 (v97+1)))) (ap (Qn (xs:=bb1.Lines) (c:=Qb.cells)) (ap h99 (ap (Qj h112).1 (ap (Qs Qb.cells (Qj h112).2) (ap (Qq h115) (ap4 (Qq h115) (ap4 (Qq h118) (ap4 h119 (ap4 h120 (ap (f67_ok x111.Account h114) (ap (f67_ok x111.Ccy h117) (ap h121 an)))))))))))) (Qt.norm ⟨(wr64 (v97+1)),rfl,h⟩)
    ·obtain rfl:=Qd h;exact rK Qf 2 [([],[],[(3,.val (jI (bb1.Lines.length:Int)))]),([],[(3,.idx (Int.toNat v97) (Qb.cells x111))],[]),(jF [5,6,7,8]++jT [11,12,13],[jH 2 (jB x113),jH 7 (jB x116),(9,.bool false),(14,.bool true)],[]),j3] [some true,none] [] [] [2] .ret ((f52n4E bb1 .ret).2) (ap (Qn (xs:=bb1.Lines) (c:=Qb.cells)) (ap h99 (ap (Qj h112).1 (ap (Qs Qb.cells (Qj h112).2) (ap (Qq h115) (ap4 (Qq h115) (ap4 (Qac h118) (ap (f67_ok x111.Account h114) (ap (f67_ok x111.Ccy h117) an))))))))) (Qt.out rfl rfl)
   ·obtain rfl:=Qd h;exact rK Qf 2 [([],[],[(3,.val (jI (bb1.Lines.length:Int)))]),([],[(3,.idx (Int.toNat v97) (Qb.cells x111))],[]),(jT [5,6,7,8],[jH 2 (jB x113),(9,.bool true)],[]),j3] [some true,none] [] [] [2] .ret ((f52n4E bb1 .ret).2) (ap (Qn (xs:=bb1.Lines) (c:=Qb.cells)) (ap h99 (ap (Qj h112).1 (ap (Qs Qb.cells (Qj h112).2) (ap (Qac h115) (ap4 (Qac h115) (ap (f67_ok x111.Account h114) an))))))) (Qt.out rfl rfl)
  ·obtain rfl:=Qd h;exact rK Qf 1 [([],[],[(3,.val (jI (bb1.Lines.length:Int)))])] [some false] [] [] [] (.exit 2) ((f52n4E bb1 .exit2).2) (ap (Qn (xs:=bb1.Lines) (c:=Qb.cells)) (ap h99 an)) (Qt.out rfl rfl)
noncomputable def f52n4L(bb1:Qa):List Qb→Int→Option f52n4O
 | [],v97 =>
  some .exit2
 | x0::rest,v97 =>
  (f67 x0.Account).bind fun x113 =>
  bif x113 then
   (f67 x0.Ccy).bind fun x116 =>
   bif x116 then
    bif decide (x0.Amount=0) then
     some .ret
    else
     bif decide (x0.Amount<(-1125899906842624)) then
      some .ret
     else
      bif decide (1125899906842624<x0.Amount) then
       some .ret
      else
       (f52n4L bb1 rest (v97+1))
   else
    some .ret
  else
   some .ret
theorem f52n4L_eq(bb1:Qa):∀(rest:List Qb)(f k:Nat),bb1.Lines.drop k=rest→bb1.Lines.length≤maxLen→rest.length<f→f52n4 f bb1 (k:Int)=f52n4L bb1 rest (k:Int)
 | _,0,_,_,_,hf=>absurd hf (Nat.not_lt_zero _)
 | [],f+1,k,hd,hm,hf=>by
  have hk:¬((k:Int)<(bb1.Lines.length:Int)):=by have:=Qaj hd; omega
  rw [f52n4,f52n4L];simp only [decide_eq_false hk,cond_false]
 | x0::rest,f+1,k,hd,hm,hf=>by
  obtain ⟨hx,hlt,hd'⟩:=Qx hd;have hk:(k:Int)<(bb1.Lines.length:Int):=by omega
  have hw:wr64 ((k:Int)+1)=(k:Int)+1:=Qr (by omega) (by unfold maxLen at hm; omega);have ih:f52n4 f bb1 ((k:Int)+1)=f52n4L bb1 rest ((k:Int)+1):=f52n4L_eq bb1 rest f (k+1) hd' hm (by simpa using hf);rw [f52n4,f52n4L];simp only [decide_eq_true hk,cond_true,Qaq,hx,Option.bind_some,hw,ih]
theorem f52n4_run(bb1:Qa)(hm:bb1.Lines.length≤maxLen):f52n4 FUEL bb1 0=f52n4L bb1 bb1.Lines 0:=f52n4L_eq bb1 bb1.Lines FUEL 0 List.drop_zero hm (Qao hm)
inductive f52n3O where
 | norm
 | ret
def f52n3E(bb1:Qa):f52n3O→Ex×Tr×Hp
 | .norm=>(.norm,mkS [],[])
 | .ret=>(.ret,mkS [(2,(jB false))],[])
def f52n3S(bb1:Qa):Tr×Hp:=(mkS [(1,(.bp 0 0))],[some (.box 47 ((Qa.cells bb1).map .pl))])
noncomputable def f52n3(bb1:Qa):Option f52n3O :=
 (f52n4 FUEL bb1 0).bind fun o122=>match o122 with
 | .exit2=>some .norm
 | .ret=>some .ret
theorem f52n3_ok(bb1:Qa){o:f52n3O}(h:f52n3 bb1=some o):T Try.prog Try.f52.ntmps 0 (cL (Qk 0 (Qk 1 (Qk 0 (Qk 2 c52))))) (f52n3S bb1) (·=f52n3E bb1 o):=by
 unfold f52n3 at h;refine rN Qf 1 [j3] [] [] [0] [1,4] (f52n4S bb1 0) an ?_;obtain ⟨o122,h123,h⟩:=Qc h;cases o122 with
 | exit2 =>
  obtain rfl:=Qd h;exact T.last' (T.bl (i:=2) (by kernel_rfl) (by kernel_rfl) (f52n4_ok FUEL bb1 0 h123)) (tds:=[]) (m:=[]) (keep:=[]) (st2:=(f52n3E bb1 .norm).2) (by kernel_rfl) an rfl
 | ret =>
  obtain rfl:=Qd h;exact T.last' (T.bl (i:=2) (by kernel_rfl) (by kernel_rfl) (f52n4_ok FUEL bb1 0 h123)) (tds:=[]) (m:=[]) (keep:=[2]) (st2:=(f52n3E bb1 .ret).2) (by kernel_rfl) an rfl
inductive f52n0O where
 | ret (v126:Bool)
def f52n0E(a1:Qa):f52n0O→Ex×Tr×Hp
 | .ret v126=>(.ret,mkS [(2,(jB v126))],[])
def f52n0S(a1:Qa):Tr×Hp:=(Qai [(jA Qa.cells a1)] 0 .leaf,[])
noncomputable def f52n0(a1:Qa):Option f52n0O :=
 bif decide (a1.Day<0) then
  some (.ret false)
 else
  bif decide (99999<a1.Day) then
   some (.ret false)
  else
   bif decide (100<(a1.Text.size:Int)) then
    some (.ret false)
   else
    bif decide ((a1.Lines.length:Int)<2) then
     some (.ret false)
    else
     bif decide (20<(a1.Lines.length:Int)) then
      some (.ret false)
     else
      (f52n1 a1).bind fun o46=>match o46 with
      | .norm=>(f52n3 a1).bind fun o124=>match o124 with
       | .norm=>some (.ret true)
       | .ret=>some (.ret false)
      | .ret=>some (.ret false)
theorem f52n0_ok(a1:Qa){o:f52n0O}(h:f52n0 a1=some o):T Try.prog Try.f52.ntmps 0 c52 (f52n0S a1) (·=f52n0E a1 o):=by
 unfold f52n0 at h;rcases Qg h with ⟨h7,h⟩|⟨h7,h⟩
 ·obtain rfl:=Qd h;exact rK Qf 2 [j3,(jT [4,5,6],[(7,.bool true)],[]),j3] [none] [] [] [2] .ret ((f52n0E a1 (.ret false)).2) (ap4 h7 an) rfl
 ·rcases Qg h with ⟨h8,h⟩|⟨h8,h⟩
  ·obtain rfl:=Qd h;exact rK Qf 2 [j3,(jF [4,5,6]++jT [9,10,11,12],[(7,.bool false),(13,.bool true)],[]),j3] [none] [] [] [2] .ret ((f52n0E a1 (.ret false)).2) (ap4 h7 (ap h8 (ap4 h8 an))) rfl
  ·rcases Qg h with ⟨h9,h⟩|⟨h9,h⟩
   ·obtain rfl:=Qd h;exact rK Qf 2 [j3,(jF [4,5,6,9,10,11,12]++jT [15,16,17,18],[(7,.bool false),(13,.bool false),(19,.bool true)],[]),j3] [none] [] [] [2] .ret ((f52n0E a1 (.ret false)).2) (ap4 h7 (ap h8 (ap4 h8 (ap h9 (ap4 h9 an))))) rfl
   ·rcases Qg h with ⟨h10,h⟩|⟨h10,h⟩
    ·obtain rfl:=Qd h;exact rK Qf 2 [j3,(jF [4,5,6,9,10,11,12,15,16,17,18]++jT [21,22,23,24],[(7,.bool false),(13,.bool false),(19,.bool false),(25,.bool true)],[(17,.val (jI (a1.Lines.length:Int)))]),j3] [none] [] [] [2] .ret ((f52n0E a1 (.ret false)).2) (ap4 h7 (ap h8 (ap4 h8 (ap3 h9 (ap (Qn (xs:=a1.Lines) (c:=Qb.cells)) (ap2 h9 (ap h10 (ap4 h10 an)))))))) rfl
    ·rcases Qg h with ⟨h11,h⟩|⟨h11,h⟩
     ·obtain rfl:=Qd h;exact rK Qf 2 [j3,(jF [4,5,6,9,10,11,12,15,16,17,18,21,22,23,24],[(7,.bool false),(13,.bool false),(19,.bool false),(25,.bool false)],[(17,.val (jI (a1.Lines.length:Int))),(23,.val (jI (a1.Lines.length:Int)))]),j3] [some true] [] [] [2] .ret ((f52n0E a1 (.ret false)).2) (ap4 h7 (ap h8 (ap4 h8 (ap3 h9 (ap (Qn (xs:=a1.Lines) (c:=Qb.cells)) (ap2 h9 (ap3 h10 (ap (Qn (xs:=a1.Lines) (c:=Qb.cells)) (ap2 h10 (ap h11 an)))))))))) rfl
     ·refine rN Qf 2 [j3,(jF [4,5,6,9,10,11,12,15,16,17,18,21,22,23,24],[(7,.bool false),(13,.bool false),(19,.bool false),(25,.bool false)],[(17,.val (jI (a1.Lines.length:Int))),(23,.val (jI (a1.Lines.length:Int)))])] [some false] [] [0] [1] (mkS [(1,(.bp 0 0))],[some (.box 47 ((Qa.cells a1).map .pl))]) (ap4 h7 (ap h8 (ap4 h8 (ap3 h9 (ap (Qn (xs:=a1.Lines) (c:=Qb.cells)) (ap2 h9 (ap3 h10 (ap (Qn (xs:=a1.Lines) (c:=Qb.cells)) (ap2 h10 (ap h11 an)))))))))) ?_;refine rN Qf 0 [] [] [] [0] [1] (f52n1S a1) an ?_;obtain ⟨o46,h47,h⟩:=Qc h;cases o46 with
      | norm =>
       refine T.oneN (by kernel_rfl) (f52n1_ok a1 h47) (st2:=(f52n1E a1 .norm).2) rfl ?_;refine rN Qf 0 [] [] [] [0] [1] (f52n3S a1) an ?_;obtain ⟨o124,h125,h⟩:=Qc h;cases o124 with
       | norm =>
        refine T.oneN (by kernel_rfl) (f52n3_ok a1 h125) (st2:=(f52n3E a1 .norm).2) rfl ?_;obtain rfl:=Qd h;exact rE Qf [j3] [] [] [] [2] (.ret,(f52n0E a1 (.ret true)).2) an rfl
       | ret =>
        obtain rfl:=Qd h;exact T.oneX' (by kernel_rfl) (f52n3_ok a1 h125) (tds:=[]) (m:=[]) (keep:=[2]) (st2:=(f52n0E a1 (.ret false)).2) (by kernel_rfl) an rfl rfl
      | ret =>
       obtain rfl:=Qd h;exact T.oneX' (by kernel_rfl) (f52n1_ok a1 h47) (tds:=[]) (m:=[]) (keep:=[2]) (st2:=(f52n0E a1 (.ret false)).2) (by kernel_rfl) an rfl rfl
noncomputable def f52(a1:Qa):Option Bool:=(f52n0 a1).bind fun o=>match o with
 | .ret v126=>some v126
theorem f52_ok(a1:Qa){r:Bool}(h:f52 a1=some r):Qm Try.prog false 52 [(jA Qa.cells a1)] [] (jB r) []:=by
 unfold f52 at h;obtain ⟨o,ho,h⟩:=Qc h;cases o with
 | ret v126 =>
  obtain rfl:=Qd h;exact Qm.plain Qf (f:=Try.f52) (c:=c52) (by kernel_rfl) (by kernel_rfl) (by kernel_rfl) (by kernel_rfl) ((f52n0_ok a1 ho).mono fun r e=>by subst e; exact ⟨.inl rfl,(jB v126),(jB v126),by kernel_rfl,by kernel_rfl,((Wk.refl _):Wk (jB v126) (jB v126))⟩)

noncomputable def c53:Code:=Try.f53.body.getD .skip
inductive f53n4O where
 | exit2 (v150:Int)
def f53n4E(bf1:Int)(bb2:Qa):f53n4O→Ex×Tr×Hp
 | .exit2 v150=>((.exit 2),mkS [(1,(.bp 0 0)),(3,(jI bf1)),(4,(jI v150))],[some (.box 47 ((Qa.cells bb2).map .pl))])
def f53n4S(bf1:Int)(bb2:Qa)(v136 v137:Int):Tr×Hp:=(mkS [(1,(.bp 0 0)),(3,(jI bf1)),(4,(jI v136)),(5,(jI v137))],[some (.box 47 ((Qa.cells bb2).map .pl))])
noncomputable def f53n4:Nat→Int→Qa→Int→Int→Option f53n4O
 | 0,_,_,_,_=>none
 | f+1,bf1,bb2,v136,v137 =>
  bif decide (v137<(bb2.Lines.length:Int)) then
   (at? bb2.Lines v137).bind fun x145 =>
   (at? bb2.Lines bf1).bind fun x147 =>
   bif (seq x145.Ccy x147.Ccy) then
    (f53n4 f bf1 bb2 (wr64 (v136+x145.Amount)) (wr64 (v137+1)))
   else
    (f53n4 f bf1 bb2 v136 (wr64 (v137+1)))
  else
   some (.exit2 v136)
theorem f53n4_ok:∀(f:Nat)(bf1:Int)(bb2:Qa)(v136 v137:Int){o:f53n4O},f53n4 f bf1 bb2 v136 v137=some o→TL Try.prog Try.f53.ntmps 0 f (cL (cL (Qk 1 (cL (Qk 1 (cL (cL (Qk 1 (cL (cL (Qk 1 (cL (Qk 1 c53))))))))))))) (f53n4S bf1 bb2 v136 v137) (·=f53n4E bf1 bb2 o)
 | 0,_,_,_,_,o,h=>by rw [f53n4] at h; cases h
 | f+1,bf1,bb2,v136,v137,o,h=>by
  rw [f53n4] at h;refine TL.body (K:=fun s=>∃v136:Int,∃v137:Int,s=(f53n4S bf1 bb2 v136 v137)∧f53n4 f bf1 bb2 v136 v137=some o) ?_ (by rintro _ ⟨v136,v137,rfl,hk⟩; exact f53n4_ok f _ _ _ _ hk);rcases Qg h with ⟨h139,h⟩|⟨h139,h⟩
  ·obtain ⟨x145,h146,h⟩:=Qc h;obtain ⟨x147,h148,h⟩:=Qc h;rcases Qg h with ⟨h149,h⟩|⟨h149,h⟩
   ·exact rE Qf [([],[],[(3,.val (jI (bb2.Lines.length:Int)))]),([],[(3,.idx (Int.toNat v137) (Qb.cells x145)),(9,.idx (Int.toNat bf1) (Qb.cells x147))],[]),([],[(4,.idx (Int.toNat v137) (Qb.cells x145))],[]),j3] [some true,some true] [] [0] [1,3,4,5] (.norm,(f53n4S bf1 bb2 (wr64 (v136+x145.Amount)) (wr64 (v137+1)))) (ap (Qn (xs:=bb2.Lines) (c:=Qb.cells)) (ap h139 (ap (Qj h146).1 (ap (Qs Qb.cells (Qj h146).2) (ap (Qj h148).1 (ap (Qs Qb.cells (Qj h148).2) (ap h149 (ap (Qj h146).1 (ap (Qs Qb.cells (Qj h146).2) an))))))))) (Qt.norm ⟨(wr64 (v136+x145.Amount)),(wr64 (v137+1)),rfl,h⟩)
   ·exact rE Qf [([],[],[(3,.val (jI (bb2.Lines.length:Int)))]),([],[(3,.idx (Int.toNat v137) (Qb.cells x145)),(9,.idx (Int.toNat bf1) (Qb.cells x147))],[]),j3] [some true,some false] [] [0] [1,3,4,5] (.norm,(f53n4S bf1 bb2 v136 (wr64 (v137+1)))) (ap (Qn (xs:=bb2.Lines) (c:=Qb.cells)) (ap h139 (ap (Qj h146).1 (ap (Qs Qb.cells (Qj h146).2) (ap (Qj h148).1 (ap (Qs Qb.cells (Qj h148).2) (ap h149 an))))))) (Qt.norm ⟨v136,(wr64 (v137+1)),rfl,h⟩)
  ·obtain rfl:=Qd h;exact rK Qf 1 [([],[],[(3,.val (jI (bb2.Lines.length:Int)))])] [some false] [] [0] [1,3,4] (.exit 2) ((f53n4E bf1 bb2 (.exit2 v136)).2) (ap (Qn (xs:=bb2.Lines) (c:=Qb.cells)) (ap h139 an)) (Qt.out rfl rfl)
noncomputable def f53n4L(bf1:Int)(bb2:Qa):List Qb→Int→Int→Option f53n4O
 | [],v136,v137 =>
  some (.exit2 v136)
 | x0::rest,v136,v137 =>
  (at? bb2.Lines bf1).bind fun x147 =>
  bif (seq x0.Ccy x147.Ccy) then
   (f53n4L bf1 bb2 rest (wr64 (v136+x0.Amount)) (v137+1))
  else
   (f53n4L bf1 bb2 rest v136 (v137+1))
theorem f53n4L_eq(bf1:Int)(bb2:Qa):∀(rest:List Qb)(f k:Nat)(v136:Int),bb2.Lines.drop k=rest→bb2.Lines.length≤maxLen→rest.length<f→f53n4 f bf1 bb2 v136 (k:Int)=f53n4L bf1 bb2 rest v136 (k:Int)
 | _,0,_,_,_,_,hf=>absurd hf (Nat.not_lt_zero _)
 | [],f+1,k,v136,hd,hm,hf=>by
  have hk:¬((k:Int)<(bb2.Lines.length:Int)):=by have:=Qaj hd; omega
  rw [f53n4,f53n4L];simp only [decide_eq_false hk,cond_false]
 | x0::rest,f+1,k,v136,hd,hm,hf=>by
  obtain ⟨hx,hlt,hd'⟩:=Qx hd;have hk:(k:Int)<(bb2.Lines.length:Int):=by omega
  have hw:wr64 ((k:Int)+1)=(k:Int)+1:=Qr (by omega) (by unfold maxLen at hm; omega);have ih:∀(v136:Int),f53n4 f bf1 bb2 v136 ((k:Int)+1)=f53n4L bf1 bb2 rest v136 ((k:Int)+1):=fun v136=>f53n4L_eq bf1 bb2 rest f (k+1) v136 hd' hm (by simpa using hf);rw [f53n4,f53n4L];simp only [decide_eq_true hk,cond_true,Qaq,hx,Option.bind_some,hw,ih]
theorem f53n4_run(bf1:Int)(bb2:Qa)(v136:Int)(hm:bb2.Lines.length≤maxLen):f53n4 FUEL bf1 bb2 v136 0=f53n4L bf1 bb2 bb2.Lines v136 0:=f53n4L_eq bf1 bb2 bb2.Lines FUEL 0 v136 List.drop_zero hm (Qao hm)
inductive f53n3O where
 | norm (v154:Int)
def f53n3E(bf1:Int)(bb2:Qa):f53n3O→Ex×Tr×Hp
 | .norm v154=>(.norm,mkS [(1,(.bp 0 0)),(3,(jI bf1)),(4,(jI v154))],[some (.box 47 ((Qa.cells bb2).map .pl))])
def f53n3S(bf1:Int)(bb2:Qa):Tr×Hp:=(mkS [(1,(.bp 0 0)),(3,(jI bf1)),(4,(jI 0))],[some (.box 47 ((Qa.cells bb2).map .pl))])
noncomputable def f53n3(bf1:Int)(bb2:Qa):Option f53n3O :=
 (f53n4 FUEL bf1 bb2 0 0).bind fun o151=>match o151 with
 | .exit2 v153=>some (.norm v153)
theorem f53n3_ok(bf1:Int)(bb2:Qa){o:f53n3O}(h:f53n3 bf1 bb2=some o):T Try.prog Try.f53.ntmps 0 (cL (Qk 1 (cL (cL (Qk 1 (cL (cL (Qk 1 (cL (Qk 1 c53)))))))))) (f53n3S bf1 bb2) (·=f53n3E bf1 bb2 o):=by
 unfold f53n3 at h;refine rN Qf 1 [j3] [] [] [0] [1,3,4,5] (f53n4S bf1 bb2 0 0) an ?_;obtain ⟨o151,h152,h⟩:=Qc h;cases o151 with
 | exit2 v153 =>
  obtain rfl:=Qd h;exact T.last' (T.bl (i:=2) (by kernel_rfl) (by kernel_rfl) (f53n4_ok FUEL bf1 bb2 0 0 h152)) (tds:=[]) (m:=[0]) (keep:=[1,3,4]) (st2:=(f53n3E bf1 bb2 (.norm v153)).2) (by kernel_rfl) an rfl
inductive f53n2O where
 | norm
 | ret
def f53n2E(bf1:Int)(bb2:Qa):f53n2O→Ex×Tr×Hp
 | .norm=>(.norm,mkS [(1,(.bp 0 0)),(3,(jI bf1))],[some (.box 47 ((Qa.cells bb2).map .pl))])
 | .ret=>(.ret,mkS [(2,(jB false))],[])
def f53n2S(bf1:Int)(bb2:Qa):Tr×Hp:=(mkS [(1,(.bp 0 0)),(3,(jI bf1))],[some (.box 47 ((Qa.cells bb2).map .pl))])
noncomputable def f53n2(bf1:Int)(bb2:Qa):Option f53n2O :=
 (f53n3 bf1 bb2).bind fun o155=>match o155 with
 | .norm v157=>bif decide (v157=0) then
   some .norm
  else
   some .ret
theorem f53n2_ok(bf1:Int)(bb2:Qa){o:f53n2O}(h:f53n2 bf1 bb2=some o):T Try.prog Try.f53.ntmps 0 (cL (Qk 1 (cL (cL (Qk 1 (cL (Qk 1 c53))))))) (f53n2S bf1 bb2) (·=f53n2E bf1 bb2 o):=by
 unfold f53n2 at h;refine T.block' (i:=1) (by kernel_rfl) ?_;refine rN Qf 1 [j3] [] [] [0] [1,3,4] (f53n3S bf1 bb2) an ?_;obtain ⟨o155,h156,h⟩:=Qc h;cases o155 with
 | norm v157 =>
  refine T.oneN (by kernel_rfl) (f53n3_ok bf1 bb2 h156) (st2:=(f53n3E bf1 bb2 (.norm v157)).2) rfl ?_;rcases Qg h with ⟨h159,h⟩|⟨h159,h⟩
  ·obtain rfl:=Qd h;exact rE Qf [j3] [some false] [] [0] [1,3] (.norm,(f53n2E bf1 bb2 .norm).2) (ap (Qq h159) an) rfl
  ·obtain rfl:=Qd h;exact rE Qf [j3,j3] [some true] [] [] [2] (.ret,(f53n2E bf1 bb2 .ret).2) (ap (Qac h159) an) rfl
inductive f53n5O where
 | exit0
 | ret
def f53n5E(bb1:Qa):f53n5O→Ex×Tr×Hp
 | .exit0=>((.exit 0),mkS [],[])
 | .ret=>(.ret,mkS [(2,(jB false))],[])
def f53n5S(bb1:Qa)(v107:Int):Tr×Hp:=(mkS [(1,(.bp 0 0)),(3,(jI v107))],[some (.box 47 ((Qa.cells bb1).map .pl))])
noncomputable def f53n5:Nat→Qa→Int→Option f53n5O
 | 0,_,_=>none
 | f+1,bb1,v107 =>
  bif decide (v107<(bb1.Lines.length:Int)) then
   (f53n2 v107 bb1).bind fun o160=>match o160 with
   | .norm=>(f53n5 f bb1 (wr64 (v107+1)))
   | .ret=>some .ret
  else
   some .exit0
theorem f53n5_ok:∀(f:Nat)(bb1:Qa)(v107:Int){o:f53n5O},f53n5 f bb1 v107=some o→TL Try.prog Try.f53.ntmps 0 f (cL (cL (Qk 1 (cL (Qk 1 c53))))) (f53n5S bb1 v107) (·=f53n5E bb1 o)
 | 0,_,_,o,h=>by rw [f53n5] at h; cases h
 | f+1,bb1,v107,o,h=>by
  rw [f53n5] at h;refine TL.body (K:=fun s=>∃v107:Int,s=(f53n5S bb1 v107)∧f53n5 f bb1 v107=some o) ?_ (by rintro _ ⟨v107,rfl,hk⟩; exact f53n5_ok f _ _ hk);rcases Qg h with ⟨h109,h⟩|⟨h109,h⟩
  ·refine rN Qf 1 [([],[],[(3,.val (jI (bb1.Lines.length:Int)))])] [some true] [] [0] [1,3] (f53n2S v107 bb1) (ap (Qn (xs:=bb1.Lines) (c:=Qb.cells)) (ap h109 an)) ?_;obtain ⟨o160,h161,h⟩:=Qc h;cases o160 with
   | norm =>
    refine T.oneN (by kernel_rfl) (f53n2_ok v107 bb1 h161) (st2:=(f53n2E v107 bb1 .norm).2) rfl ?_;exact rE Qf [j3] [] [] [0] [1,3] (.norm,(f53n5S bb1 (wr64 (v107+1)))) an (Qt.norm ⟨(wr64 (v107+1)),rfl,h⟩)
   | ret =>
    obtain rfl:=Qd h;exact T.oneX' (by kernel_rfl) (f53n2_ok v107 bb1 h161) (tds:=[]) (m:=[]) (keep:=[2]) (st2:=(f53n5E bb1 .ret).2) (by kernel_rfl) an rfl (Qt.out rfl rfl)
  ·obtain rfl:=Qd h;exact rK Qf 1 [([],[],[(3,.val (jI (bb1.Lines.length:Int)))])] [some false] [] [] [] (.exit 0) ((f53n5E bb1 .exit0).2) (ap (Qn (xs:=bb1.Lines) (c:=Qb.cells)) (ap h109 an)) (Qt.out rfl rfl)
inductive f53n1O where
 | norm
 | ret
def f53n1E(bb1:Qa):f53n1O→Ex×Tr×Hp
 | .norm=>(.norm,mkS [],[])
 | .ret=>(.ret,mkS [(2,(jB false))],[])
def f53n1S(bb1:Qa):Tr×Hp:=(mkS [(1,(.bp 0 0))],[some (.box 47 ((Qa.cells bb1).map .pl))])
noncomputable def f53n1(bb1:Qa):Option f53n1O :=
 (f53n5 FUEL bb1 0).bind fun o162=>match o162 with
 | .exit0=>some .norm
 | .ret=>some .ret
theorem f53n1_ok(bb1:Qa){o:f53n1O}(h:f53n1 bb1=some o):T Try.prog Try.f53.ntmps 0 (cL (Qk 1 c53)) (f53n1S bb1) (·=f53n1E bb1 o):=by
 unfold f53n1 at h;refine rN Qf 1 [j3] [] [] [0] [1,3] (f53n5S bb1 0) an ?_;obtain ⟨o162,h163,h⟩:=Qc h;cases o162 with
 | exit0 =>
  obtain rfl:=Qd h;exact T.last' (T.bl (i:=0) (by kernel_rfl) (by kernel_rfl) (f53n5_ok FUEL bb1 0 h163)) (tds:=[]) (m:=[]) (keep:=[]) (st2:=(f53n1E bb1 .norm).2) (by kernel_rfl) an rfl
 | ret =>
  obtain rfl:=Qd h;exact T.last' (T.bl (i:=0) (by kernel_rfl) (by kernel_rfl) (f53n5_ok FUEL bb1 0 h163)) (tds:=[]) (m:=[]) (keep:=[2]) (st2:=(f53n1E bb1 .ret).2) (by kernel_rfl) an rfl
inductive f53n0O where
 | ret (v166:Bool)
def f53n0E(a1:Qa):f53n0O→Ex×Tr×Hp
 | .ret v166=>(.ret,mkS [(2,(jB v166))],[])
def f53n0S(a1:Qa):Tr×Hp:=(Qai [(jA Qa.cells a1)] 0 .leaf,[])
noncomputable def f53n0(a1:Qa):Option f53n0O :=
 (f53n1 a1).bind fun o164=>match o164 with
 | .norm=>some (.ret true)
 | .ret=>some (.ret false)
theorem f53n0_ok(a1:Qa){o:f53n0O}(h:f53n0 a1=some o):T Try.prog Try.f53.ntmps 0 c53 (f53n0S a1) (·=f53n0E a1 o):=by
 unfold f53n0 at h;refine rN Qf 1 [j3] [] [] [0] [1] (f53n1S a1) an ?_;obtain ⟨o164,h165,h⟩:=Qc h;cases o164 with
 | norm =>
  refine T.oneN (by kernel_rfl) (f53n1_ok a1 h165) (st2:=(f53n1E a1 .norm).2) rfl ?_;obtain rfl:=Qd h;exact rE Qf [j3] [] [] [] [2] (.ret,(f53n0E a1 (.ret true)).2) an rfl
 | ret =>
  obtain rfl:=Qd h;exact T.oneX' (by kernel_rfl) (f53n1_ok a1 h165) (tds:=[]) (m:=[]) (keep:=[2]) (st2:=(f53n0E a1 (.ret false)).2) (by kernel_rfl) an rfl rfl
noncomputable def f53(a1:Qa):Option Bool:=(f53n0 a1).bind fun o=>match o with
 | .ret v166=>some v166
theorem f53_ok(a1:Qa){r:Bool}(h:f53 a1=some r):Qm Try.prog false 53 [(jA Qa.cells a1)] [] (jB r) []:=by
 unfold f53 at h;obtain ⟨o,ho,h⟩:=Qc h;cases o with
 | ret v166 =>
  obtain rfl:=Qd h;exact Qm.plain Qf (f:=Try.f53) (c:=c53) (by kernel_rfl) (by kernel_rfl) (by kernel_rfl) (by kernel_rfl) ((f53n0_ok a1 ho).mono fun r e=>by subst e; exact ⟨.inl rfl,(jB v166),(jB v166),by kernel_rfl,by kernel_rfl,((Wk.refl _):Wk (jB v166) (jB v166))⟩)

noncomputable def c55:Code:=Try.f55.body.getD .skip
inductive f55n3O where
 | exit2 (v168:Int)
def f55n3E(bj1:List Qa)(bd2 bd3:ByteArray)(bf5:Int):f55n3O→Ex×Tr×Hp
 | .exit2 v168=>((.exit 2),mkS [(0,(jL 3 Qa.cells bj1)),(1,(jS bd2)),(2,(jS bd3)),(7,(jI v168)),(8,(jI bf5))],[])
def f55n3S(bj1:List Qa)(bd2 bd3:ByteArray)(bf5 v152 v153:Int):Tr×Hp:=(mkS [(0,(jL 3 Qa.cells bj1)),(1,(jS bd2)),(2,(jS bd3)),(7,(jI v152)),(8,(jI bf5)),(9,(jI v153))],[])
noncomputable def f55n3:Nat→List Qa→ByteArray→ByteArray→Int→Int→Int→Option f55n3O
 | 0,_,_,_,_,_,_=>none
 | f+1,bj1,bd2,bd3,bf5,v152,v153 =>
  (at? bj1 bf5).bind fun x157 =>
  bif decide (v153<(x157.Lines.length:Int)) then
   (at? x157.Lines v153).bind fun x164 =>
   bif (seq x164.Account bd2) then
    bif (seq x164.Ccy bd3) then
     (f55n3 f bj1 bd2 bd3 bf5 (wr64 (v152+x164.Amount)) (wr64 (v153+1)))
    else
     (f55n3 f bj1 bd2 bd3 bf5 v152 (wr64 (v153+1)))
   else
    (f55n3 f bj1 bd2 bd3 bf5 v152 (wr64 (v153+1)))
  else
   some (.exit2 v152)
theorem f55n3_ok:∀(f:Nat)(bj1:List Qa)(bd2 bd3:ByteArray)(bf5 v152 v153:Int){o:f55n3O},f55n3 f bj1 bd2 bd3 bf5 v152 v153=some o→TL Try.prog Try.f55.ntmps 0 f (cL (cL (Qk 1 (cL (cL (Qk 1 (cL (cL (Qk 1 (cL (Qk 2 c55))))))))))) (f55n3S bj1 bd2 bd3 bf5 v152 v153) (·=f55n3E bj1 bd2 bd3 bf5 o)
 | 0,_,_,_,_,_,_,o,h=>by rw [f55n3] at h; cases h
 | f+1,bj1,bd2,bd3,bf5,v152,v153,o,h=>by
  rw [f55n3] at h;refine TL.body (K:=fun s=>∃v152:Int,∃v153:Int,s=(f55n3S bj1 bd2 bd3 bf5 v152 v153)∧f55n3 f bj1 bd2 bd3 bf5 v152 v153=some o) ?_ (by rintro _ ⟨v152,v153,rfl,hk⟩; exact f55n3_ok f _ _ _ _ _ _ hk);obtain ⟨x157,h158,h⟩:=Qc h;rcases Qg h with ⟨h159,h⟩|⟨h159,h⟩
  ·obtain ⟨x164,h165,h⟩:=Qc h;rcases Qg h with ⟨h166,h⟩|⟨h166,h⟩
   ·rcases Qg h with ⟨h167,h⟩|⟨h167,h⟩
    ·exact rE Qf [([],[(3,.idx (Int.toNat bf5) (Qa.cells x157))],[(6,.val (jI (x157.Lines.length:Int)))]),(jT [12,13,14,15,16,17,18,19,20,21,22],[(2,.idx (Int.toNat bf5) (Qa.cells x157)),(6,.idx (Int.toNat v153) (Qb.cells x164)),(14,.idx (Int.toNat bf5) (Qa.cells x157)),(18,.idx (Int.toNat v153) (Qb.cells x164)),(23,.bool true)],[]),([],[(3,.idx (Int.toNat bf5) (Qa.cells x157)),(7,.idx (Int.toNat v153) (Qb.cells x164))],[]),j3] [some true,some true] [] [] [0,1,2,7,8,9] (.norm,(f55n3S bj1 bd2 bd3 bf5 (wr64 (v152+x164.Amount)) (wr64 (v153+1)))) (ap (Qj h158).1 (ap (Qs Qa.cells (Qj h158).2) (ap (Qn (xs:=x157.Lines) (c:=Qb.cells)) (ap h159 (ap (Qj h158).1 (ap (Qs Qa.cells (Qj h158).2) (ap (Qj h165).1 (ap (Qs Qb.cells (Qj h165).2) (ap3 h166 (ap (Qj h158).1 (ap (Qs Qa.cells (Qj h158).2) (ap4 h166 (ap (Qj h165).1 (ap (Qs Qb.cells (Qj h165).2) (ap h166 (ap4 h166 (ap h167 (ap (Qj h158).1 (ap (Qs Qa.cells (Qj h158).2) (ap (Qj h165).1 (ap (Qs Qb.cells (Qj h165).2) an))))))))))))))))))))) (Qt.norm ⟨(wr64 (v152+x164.Amount)),(wr64 (v153+1)),rfl,h⟩)
    ·exact rE Qf [([],[(3,.idx (Int.toNat bf5) (Qa.cells x157))],[(6,.val (jI (x157.Lines.length:Int)))]),(jT [12,13,14,15,16,17,18,19,20,21,22],[(2,.idx (Int.toNat bf5) (Qa.cells x157)),(6,.idx (Int.toNat v153) (Qb.cells x164)),(14,.idx (Int.toNat bf5) (Qa.cells x157)),(18,.idx (Int.toNat v153) (Qb.cells x164)),(23,.bool true)],[]),j3] [some true,some false] [] [] [0,1,2,7,8,9] (.norm,(f55n3S bj1 bd2 bd3 bf5 v152 (wr64 (v153+1)))) (ap (Qj h158).1 (ap (Qs Qa.cells (Qj h158).2) (ap (Qn (xs:=x157.Lines) (c:=Qb.cells)) (ap h159 (ap (Qj h158).1 (ap (Qs Qa.cells (Qj h158).2) (ap (Qj h165).1 (ap (Qs Qb.cells (Qj h165).2) (ap3 h166 (ap (Qj h158).1 (ap (Qs Qa.cells (Qj h158).2) (ap4 h166 (ap (Qj h165).1 (ap (Qs Qb.cells (Qj h165).2) (ap h166 (ap4 h166 (ap h167 an))))))))))))))))) (Qt.norm ⟨v152,(wr64 (v153+1)),rfl,h⟩)
   ·exact rE Qf [([],[(3,.idx (Int.toNat bf5) (Qa.cells x157))],[(6,.val (jI (x157.Lines.length:Int)))]),(jF [12,13,14,15,16,17,18,19,20,21,22],[(2,.idx (Int.toNat bf5) (Qa.cells x157)),(6,.idx (Int.toNat v153) (Qb.cells x164)),(23,.bool false)],[]),j3] [some true,none] [] [] [0,1,2,7,8,9] (.norm,(f55n3S bj1 bd2 bd3 bf5 v152 (wr64 (v153+1)))) (ap (Qj h158).1 (ap (Qs Qa.cells (Qj h158).2) (ap (Qn (xs:=x157.Lines) (c:=Qb.cells)) (ap h159 (ap (Qj h158).1 (ap (Qs Qa.cells (Qj h158).2) (ap (Qj h165).1 (ap (Qs Qb.cells (Qj h165).2) (ap4 h166 (ap4 h166 (ap4 h166 an))))))))))) (Qt.norm ⟨v152,(wr64 (v153+1)),rfl,h⟩)
  ·obtain rfl:=Qd h;exact rK Qf 1 [([],[(3,.idx (Int.toNat bf5) (Qa.cells x157))],[(6,.val (jI (x157.Lines.length:Int)))])] [some false] [] [] [0,1,2,7,8] (.exit 2) ((f55n3E bj1 bd2 bd3 bf5 (.exit2 v152)).2) (ap (Qj h158).1 (ap (Qs Qa.cells (Qj h158).2) (ap (Qn (xs:=x157.Lines) (c:=Qb.cells)) (ap h159 an)))) (Qt.out rfl rfl)
inductive f55n2O where
 | norm (v172:Int)
def f55n2E(bj1:List Qa)(bd2 bd3:ByteArray)(bf4 bf5:Int):f55n2O→Ex×Tr×Hp
 | .norm v172=>(.norm,mkS [(0,(jL 3 Qa.cells bj1)),(1,(jS bd2)),(2,(jS bd3)),(7,(jI v172)),(8,(jI bf5))],[])
def f55n2S(bj1:List Qa)(bd2 bd3:ByteArray)(bf4 bf5:Int):Tr×Hp:=(mkS [(0,(jL 3 Qa.cells bj1)),(1,(jS bd2)),(2,(jS bd3)),(7,(jI bf4)),(8,(jI bf5))],[])
noncomputable def f55n2(bj1:List Qa)(bd2 bd3:ByteArray)(bf4 bf5:Int):Option f55n2O :=
 (f55n3 FUEL bj1 bd2 bd3 bf5 bf4 0).bind fun o169=>match o169 with
 | .exit2 v171=>some (.norm v171)
theorem f55n2_ok(bj1:List Qa)(bd2 bd3:ByteArray)(bf4 bf5:Int){o:f55n2O}(h:f55n2 bj1 bd2 bd3 bf4 bf5=some o):T Try.prog Try.f55.ntmps 0 (cL (Qk 1 (cL (cL (Qk 1 (cL (Qk 2 c55))))))) (f55n2S bj1 bd2 bd3 bf4 bf5) (·=f55n2E bj1 bd2 bd3 bf4 bf5 o):=by
 unfold f55n2 at h;refine T.block' (i:=1) (by kernel_rfl) ?_;refine rN Qf 1 [j3] [] [] [] [0,1,2,7,8,9] (f55n3S bj1 bd2 bd3 bf5 bf4 0) an ?_;obtain ⟨o169,h170,h⟩:=Qc h;cases o169 with
 | exit2 v171 =>
  obtain rfl:=Qd h;exact T.last' (T.bl (i:=2) (by kernel_rfl) (by kernel_rfl) (f55n3_ok FUEL bj1 bd2 bd3 bf5 bf4 0 h170)) (tds:=[]) (m:=[]) (keep:=[0,1,2,7,8]) (st2:=(f55n2E bj1 bd2 bd3 bf4 bf5 (.norm v171)).2) (by kernel_rfl) an rfl
inductive f55n4O where
 | exit0 (v176:Int)
def f55n4E(bj1:List Qa)(bd2 bd3:ByteArray):f55n4O→Ex×Tr×Hp
 | .exit0 v176=>((.exit 0),mkS [(7,(jI v176))],[])
def f55n4S(bj1:List Qa)(bd2 bd3:ByteArray)(v118 v119:Int):Tr×Hp:=(mkS [(0,(jL 3 Qa.cells bj1)),(1,(jS bd2)),(2,(jS bd3)),(7,(jI v118)),(8,(jI v119))],[])
noncomputable def f55n4:Nat→List Qa→ByteArray→ByteArray→Int→Int→Option f55n4O
 | 0,_,_,_,_,_=>none
 | f+1,bj1,bd2,bd3,v118,v119 =>
  bif decide (v119<(bj1.length:Int)) then
   (f55n2 bj1 bd2 bd3 v118 v119).bind fun o173=>match o173 with
   | .norm v175=>(f55n4 f bj1 bd2 bd3 v175 (wr64 (v119+1)))
  else
   some (.exit0 v118)
theorem f55n4_ok:∀(f:Nat)(bj1:List Qa)(bd2 bd3:ByteArray)(v118 v119:Int){o:f55n4O},f55n4 f bj1 bd2 bd3 v118 v119=some o→TL Try.prog Try.f55.ntmps 0 f (cL (cL (Qk 1 (cL (Qk 2 c55))))) (f55n4S bj1 bd2 bd3 v118 v119) (·=f55n4E bj1 bd2 bd3 o)
 | 0,_,_,_,_,_,o,h=>by rw [f55n4] at h; cases h
 | f+1,bj1,bd2,bd3,v118,v119,o,h=>by
  rw [f55n4] at h;refine TL.body (K:=fun s=>∃v118:Int,∃v119:Int,s=(f55n4S bj1 bd2 bd3 v118 v119)∧f55n4 f bj1 bd2 bd3 v118 v119=some o) ?_ (by rintro _ ⟨v118,v119,rfl,hk⟩; exact f55n4_ok f _ _ _ _ _ hk);rcases Qg h with ⟨h121,h⟩|⟨h121,h⟩
  ·refine rN Qf 1 [([],[],[(2,.val (jI (bj1.length:Int)))])] [some true] [] [] [0,1,2,7,8] (f55n2S bj1 bd2 bd3 v118 v119) (ap (Qn (xs:=bj1) (c:=Qa.cells)) (ap h121 an)) ?_;obtain ⟨o173,h174,h⟩:=Qc h;cases o173 with
   | norm v175 =>
    refine T.oneN (by kernel_rfl) (f55n2_ok bj1 bd2 bd3 v118 v119 h174) (st2:=(f55n2E bj1 bd2 bd3 v118 v119 (.norm v175)).2) rfl ?_;exact rE Qf [j3] [] [] [] [0,1,2,7,8] (.norm,(f55n4S bj1 bd2 bd3 v175 (wr64 (v119+1)))) an (Qt.norm ⟨v175,(wr64 (v119+1)),rfl,h⟩)
  ·obtain rfl:=Qd h;exact rK Qf 1 [([],[],[(2,.val (jI (bj1.length:Int)))])] [some false] [] [] [7] (.exit 0) ((f55n4E bj1 bd2 bd3 (.exit0 v118)).2) (ap (Qn (xs:=bj1) (c:=Qa.cells)) (ap h121 an)) (Qt.out rfl rfl)
inductive f55n1O where
 | norm (v180:Int)
def f55n1E(bj1:List Qa)(bd2 bd3:ByteArray):f55n1O→Ex×Tr×Hp
 | .norm v180=>(.norm,mkS [(7,(jI v180))],[])
def f55n1S(bj1:List Qa)(bd2 bd3:ByteArray):Tr×Hp:=(mkS [(0,(jL 3 Qa.cells bj1)),(1,(jS bd2)),(2,(jS bd3)),(7,(jI 0))],[])
noncomputable def f55n1(bj1:List Qa)(bd2 bd3:ByteArray):Option f55n1O :=
 (f55n4 FUEL bj1 bd2 bd3 0 0).bind fun o177=>match o177 with
 | .exit0 v179=>some (.norm v179)
theorem f55n1_ok(bj1:List Qa)(bd2 bd3:ByteArray){o:f55n1O}(h:f55n1 bj1 bd2 bd3=some o):T Try.prog Try.f55.ntmps 0 (cL (Qk 2 c55)) (f55n1S bj1 bd2 bd3) (·=f55n1E bj1 bd2 bd3 o):=by
 unfold f55n1 at h;refine rN Qf 1 [j3] [] [] [] [0,1,2,7,8] (f55n4S bj1 bd2 bd3 0 0) an ?_;obtain ⟨o177,h178,h⟩:=Qc h;cases o177 with
 | exit0 v179 =>
  obtain rfl:=Qd h;exact T.last' (T.bl (i:=0) (by kernel_rfl) (by kernel_rfl) (f55n4_ok FUEL bj1 bd2 bd3 0 0 h178)) (tds:=[]) (m:=[]) (keep:=[7]) (st2:=(f55n1E bj1 bd2 bd3 (.norm v179)).2) (by kernel_rfl) an rfl
inductive f55n0O where
 | ret (v184:Int)
def f55n0E(a1:List Qa)(a2 a3:ByteArray):f55n0O→Ex×Tr×Hp
 | .ret v184=>(.ret,mkS [(6,(jI v184))],[])
def f55n0S(a1:List Qa)(a2 a3:ByteArray):Tr×Hp:=(Qai [(jL 3 Qa.cells a1),(jS a2),(jS a3)] 0 .leaf,[])
noncomputable def f55n0(a1:List Qa)(a2 a3:ByteArray):Option f55n0O :=
 (f55n1 a1 a2 a3).bind fun o181=>match o181 with
 | .norm v183=>some (.ret v183)
theorem f55n0_ok(a1:List Qa)(a2 a3:ByteArray){o:f55n0O}(h:f55n0 a1 a2 a3=some o):T Try.prog Try.f55.ntmps 0 c55 (f55n0S a1 a2 a3) (·=f55n0E a1 a2 a3 o):=by
 unfold f55n0 at h;refine rN Qf 2 [j3,j3] [] [] [] [0,1,2,7] (f55n1S a1 a2 a3) an ?_;obtain ⟨o181,h182,h⟩:=Qc h;cases o181 with
 | norm v183 =>
  refine T.oneN (by kernel_rfl) (f55n1_ok a1 a2 a3 h182) (st2:=(f55n1E a1 a2 a3 (.norm v183)).2) rfl ?_;obtain rfl:=Qd h;exact rE Qf [j3] [] [] [] [6] (.ret,(f55n0E a1 a2 a3 (.ret v183)).2) an rfl
noncomputable def f55(a1:List Qa)(a2 a3:ByteArray):Option Int:=(f55n0 a1 a2 a3).bind fun o=>match o with
 | .ret v184=>some v184
theorem f55_ok(a1:List Qa)(a2 a3:ByteArray){r:Int}(h:f55 a1 a2 a3=some r):Qm Try.prog false 55 [(jL 3 Qa.cells a1),(jS a2),(jS a3)] [] (jI r) []:=by
 unfold f55 at h;obtain ⟨o,ho,h⟩:=Qc h;cases o with
 | ret v184 =>
  obtain rfl:=Qd h;exact Qm.plain Qf (f:=Try.f55) (c:=c55) (by kernel_rfl) (by kernel_rfl) (by kernel_rfl) (by kernel_rfl) ((f55n0_ok a1 a2 a3 ho).mono fun r e=>by subst e; exact ⟨.inl rfl,(jI v184),(jI v184),by kernel_rfl,by kernel_rfl,((Wk.refl _):Wk (jI v184) (jI v184))⟩)

noncomputable def c54:Code:=Try.f54.body.getD .skip
inductive f54n2O where
 | exit0
 | ret
def f54n2E(bj1:List Qa)(bb2:Qa):f54n2O→Ex×Tr×Hp
 | .exit0=>((.exit 0),mkS [],[])
 | .ret=>(.ret,mkS [(2,(jB false))],[])
def f54n2S(bj1:List Qa)(bb2:Qa)(v35:Int):Tr×Hp:=(mkS [(0,(jL 3 Qa.cells bj1)),(3,(.bp 0 0)),(4,(jI v35))],[some (.box 47 ((Qa.cells bb2).map .pl))])
noncomputable def f54n2:Nat→List Qa→Qa→Int→Option f54n2O
 | 0,_,_,_=>none
 | f+1,bj1,bb2,v35 =>
  bif decide (v35<(bb2.Lines.length:Int)) then
   (at? bb2.Lines v35).bind fun x44 =>
   (f55 bj1 x44.Account x44.Ccy).bind fun x46 =>
   bif decide (1125899906842624<x46) then
    some .ret
   else
    bif decide (x46<(-1125899906842624)) then
     some .ret
    else
     (f54n2 f bj1 bb2 (wr64 (v35+1)))
  else
   some .exit0
theorem f54n2_ok:∀(f:Nat)(bj1:List Qa)(bb2:Qa)(v35:Int){o:f54n2O},f54n2 f bj1 bb2 v35=some o→TL Try.prog Try.f54.ntmps 0 f (cL (cL (Qk 1 (cL (Qk 2 c54))))) (f54n2S bj1 bb2 v35) (·=f54n2E bj1 bb2 o)
 | 0,_,_,_,o,h=>by rw [f54n2] at h; cases h
 | f+1,bj1,bb2,v35,o,h=>by
  rw [f54n2] at h;refine TL.body (K:=fun s=>∃v35:Int,s=(f54n2S bj1 bb2 v35)∧f54n2 f bj1 bb2 v35=some o) ?_ (by rintro _ ⟨v35,rfl,hk⟩; exact f54n2_ok f _ _ _ hk);rcases Qg h with ⟨h37,h⟩|⟨h37,h⟩
  ·obtain ⟨x44,h45,h⟩:=Qc h;obtain ⟨x46,h47,h⟩:=Qc h;rcases Qg h with ⟨h48,h⟩|⟨h48,h⟩
   ·obtain rfl:=Qd h;exact rK Qf 2 [([],[],[(3,.val (jI (bb2.Lines.length:Int)))]),([],[(4,.idx (Int.toNat v35) (Qb.cells x44)),(10,.idx (Int.toNat v35) (Qb.cells x44)),jH 13 (jI x46)],[]),([(3,true),(4,true)],[(5,.bool true)],[]),j3] [some true,none] [] [] [2] .ret ((f54n2E bj1 bb2 .ret).2) (ap (Qn (xs:=bb2.Lines) (c:=Qb.cells)) (ap h37 (ap (Qj h45).1 (ap (Qs Qb.cells (Qj h45).2) (ap (Qj h45).1 (ap (Qs Qb.cells (Qj h45).2) (ap (f55_ok bj1 x44.Account x44.Ccy h47) (ap3 h48 an)))))))) (Qt.out rfl rfl)
   ·rcases Qg h with ⟨h49,h⟩|⟨h49,h⟩
    ·obtain rfl:=Qd h;exact rK Qf 2 [([],[],[(3,.val (jI (bb2.Lines.length:Int)))]),([],[(4,.idx (Int.toNat v35) (Qb.cells x44)),(10,.idx (Int.toNat v35) (Qb.cells x44)),jH 13 (jI x46)],[]),([(3,false),(4,false)],[(5,.bool false)],[]),j3] [some true,some true] [] [] [2] .ret ((f54n2E bj1 bb2 .ret).2) (ap (Qn (xs:=bb2.Lines) (c:=Qb.cells)) (ap h37 (ap (Qj h45).1 (ap (Qs Qb.cells (Qj h45).2) (ap (Qj h45).1 (ap (Qs Qb.cells (Qj h45).2) (ap (f55_ok bj1 x44.Account x44.Ccy h47) (ap3 h48 (ap h49 an))))))))) (Qt.out rfl rfl)
    ·exact rE Qf [([],[],[(3,.val (jI (bb2.Lines.length:Int)))]),([],[(4,.idx (Int.toNat v35) (Qb.cells x44)),(10,.idx (Int.toNat v35) (Qb.cells x44)),jH 13 (jI x46)],[]),([(3,false),(4,false)],[(5,.bool false)],[]),j3] [some true,some false] [] [0] [0,3,4] (.norm,(f54n2S bj1 bb2 (wr64 (v35+1)))) (ap (Qn (xs:=bb2.Lines) (c:=Qb.cells)) (ap h37 (ap (Qj h45).1 (ap (Qs Qb.cells (Qj h45).2) (ap (Qj h45).1 (ap (Qs Qb.cells (Qj h45).2) (ap (f55_ok bj1 x44.Account x44.Ccy h47) (ap3 h48 (ap h49 an))))))))) (Qt.norm ⟨(wr64 (v35+1)),rfl,h⟩)
  ·obtain rfl:=Qd h;exact rK Qf 1 [([],[],[(3,.val (jI (bb2.Lines.length:Int)))])] [some false] [] [] [] (.exit 0) ((f54n2E bj1 bb2 .exit0).2) (ap (Qn (xs:=bb2.Lines) (c:=Qb.cells)) (ap h37 an)) (Qt.out rfl rfl)
noncomputable def f54n2L(bj1:List Qa)(bb2:Qa):List Qb→Int→Option f54n2O
 | [],v35 =>
  some .exit0
 | x0::rest,v35 =>
  (f55 bj1 x0.Account x0.Ccy).bind fun x46 =>
  bif decide (1125899906842624<x46) then
   some .ret
  else
   bif decide (x46<(-1125899906842624)) then
    some .ret
   else
    (f54n2L bj1 bb2 rest (v35+1))
theorem f54n2L_eq(bj1:List Qa)(bb2:Qa):∀(rest:List Qb)(f k:Nat),bb2.Lines.drop k=rest→bb2.Lines.length≤maxLen→rest.length<f→f54n2 f bj1 bb2 (k:Int)=f54n2L bj1 bb2 rest (k:Int)
 | _,0,_,_,_,hf=>absurd hf (Nat.not_lt_zero _)
 | [],f+1,k,hd,hm,hf=>by
  have hk:¬((k:Int)<(bb2.Lines.length:Int)):=by have:=Qaj hd; omega
  rw [f54n2,f54n2L];simp only [decide_eq_false hk,cond_false]
 | x0::rest,f+1,k,hd,hm,hf=>by
  obtain ⟨hx,hlt,hd'⟩:=Qx hd;have hk:(k:Int)<(bb2.Lines.length:Int):=by omega
  have hw:wr64 ((k:Int)+1)=(k:Int)+1:=Qr (by omega) (by unfold maxLen at hm; omega);have ih:f54n2 f bj1 bb2 ((k:Int)+1)=f54n2L bj1 bb2 rest ((k:Int)+1):=f54n2L_eq bj1 bb2 rest f (k+1) hd' hm (by simpa using hf);rw [f54n2,f54n2L];simp only [decide_eq_true hk,cond_true,Qaq,hx,Option.bind_some,hw,ih]
theorem f54n2_run(bj1:List Qa)(bb2:Qa)(hm:bb2.Lines.length≤maxLen):f54n2 FUEL bj1 bb2 0=f54n2L bj1 bb2 bb2.Lines 0:=f54n2L_eq bj1 bb2 bb2.Lines FUEL 0 List.drop_zero hm (Qao hm)
inductive f54n1O where
 | norm
 | ret
def f54n1E(bj1:List Qa)(bb2:Qa):f54n1O→Ex×Tr×Hp
 | .norm=>(.norm,mkS [],[])
 | .ret=>(.ret,mkS [(2,(jB false))],[])
def f54n1S(bj1:List Qa)(bb2:Qa):Tr×Hp:=(mkS [(0,(jL 3 Qa.cells bj1)),(3,(.bp 0 0))],[some (.box 47 ((Qa.cells bb2).map .pl))])
noncomputable def f54n1(bj1:List Qa)(bb2:Qa):Option f54n1O :=
 (f54n2 FUEL bj1 bb2 0).bind fun o50=>match o50 with
 | .exit0=>some .norm
 | .ret=>some .ret
theorem f54n1_ok(bj1:List Qa)(bb2:Qa){o:f54n1O}(h:f54n1 bj1 bb2=some o):T Try.prog Try.f54.ntmps 0 (cL (Qk 2 c54)) (f54n1S bj1 bb2) (·=f54n1E bj1 bb2 o):=by
 unfold f54n1 at h;refine rN Qf 1 [j3] [] [] [0] [0,3,4] (f54n2S bj1 bb2 0) an ?_;obtain ⟨o50,h51,h⟩:=Qc h;cases o50 with
 | exit0 =>
  obtain rfl:=Qd h;exact T.last' (T.bl (i:=0) (by kernel_rfl) (by kernel_rfl) (f54n2_ok FUEL bj1 bb2 0 h51)) (tds:=[]) (m:=[]) (keep:=[]) (st2:=(f54n1E bj1 bb2 .norm).2) (by kernel_rfl) an rfl
 | ret =>
  obtain rfl:=Qd h;exact T.last' (T.bl (i:=0) (by kernel_rfl) (by kernel_rfl) (f54n2_ok FUEL bj1 bb2 0 h51)) (tds:=[]) (m:=[]) (keep:=[2]) (st2:=(f54n1E bj1 bb2 .ret).2) (by kernel_rfl) an rfl
inductive f54n0O where
 | ret (v54:Bool)
def f54n0E(a1:List Qa):f54n0O→Ex×Tr×Hp
 | .ret v54=>(.ret,mkS [(2,(jB v54))],[])
def f54n0S(a1:List Qa):Tr×Hp:=(Qai [(jL 3 Qa.cells a1)] 0 .leaf,[])
noncomputable def f54n0(a1:List Qa):Option f54n0O :=
 (at? a1 (wr64 ((a1.length:Int)-1))).bind fun x4 =>
 (f54n1 a1 x4).bind fun o52=>match o52 with
 | .norm=>some (.ret true)
 | .ret=>some (.ret false)
theorem f54n0_ok(a1:List Qa){o:f54n0O}(h:f54n0 a1=some o):T Try.prog Try.f54.ntmps 0 c54 (f54n0S a1) (·=f54n0E a1 o):=by
 unfold f54n0 at h;obtain ⟨x4,h5,h⟩:=Qc h;refine rN Qf 2 [j3,([],[(4,.idx (Int.toNat (wr64 ((a1.length:Int)-1))) (Qa.cells x4))],[(2,.val (jI (a1.length:Int)))])] [] [] [0] [0,3] (f54n1S a1 x4) (ap (Qn (xs:=a1) (c:=Qa.cells)) (ap (Qj h5).1 (ap (Qs Qa.cells (Qj h5).2) an))) ?_;obtain ⟨o52,h53,h⟩:=Qc h;cases o52 with
 | norm =>
  refine T.oneN (by kernel_rfl) (f54n1_ok a1 x4 h53) (st2:=(f54n1E a1 x4 .norm).2) rfl ?_;obtain rfl:=Qd h;exact rE Qf [j3] [] [] [] [2] (.ret,(f54n0E a1 (.ret true)).2) an rfl
 | ret =>
  obtain rfl:=Qd h;exact T.oneX' (by kernel_rfl) (f54n1_ok a1 x4 h53) (tds:=[]) (m:=[]) (keep:=[2]) (st2:=(f54n0E a1 (.ret false)).2) (by kernel_rfl) an rfl rfl
noncomputable def f54(a1:List Qa):Option Bool:=(f54n0 a1).bind fun o=>match o with
 | .ret v54=>some v54
theorem f54_ok(a1:List Qa){r:Bool}(h:f54 a1=some r):Qm Try.prog false 54 [(jL 3 Qa.cells a1)] [] (jB r) []:=by
 unfold f54 at h;obtain ⟨o,ho,h⟩:=Qc h;cases o with
 | ret v54 =>
  obtain rfl:=Qd h;exact Qm.plain Qf (f:=Try.f54) (c:=c54) (by kernel_rfl) (by kernel_rfl) (by kernel_rfl) (by kernel_rfl) ((f54n0_ok a1 ho).mono fun r e=>by subst e; exact ⟨.inl rfl,(jB v54),(jB v54),by kernel_rfl,by kernel_rfl,((Wk.refl _):Wk (jB v54) (jB v54))⟩)

noncomputable def c35:Code:=Try.f35.body.getD .skip
inductive f35n3O where
 | norm (v188:Bool)
def f35n3E(bf1:Int)(ba2:Qh)(bb3:Qa):f35n3O→Ex×Tr×Hp
 | .norm v188=>(.norm,mkS [(1,(.bp 0 0)),(3,(jI bf1)),(53,(jB v188))],[some (.box 24 ((Qh.cells ba2).map .pl))])
def f35n3S(bf1:Int)(ba2:Qh)(bb3:Qa):Tr×Hp:=(mkS [(1,(.bp 0 0)),(3,(jI bf1)),(4,(.bp 1 0))],[some (.box 24 ((Qh.cells ba2).map .pl)),some (.box 47 ((Qa.cells bb3).map .pl))])
noncomputable def f35n3(bf1:Int)(ba2:Qh)(bb3:Qa):Option f35n3O :=
 (f52 bb3).bind fun x172 =>
 bif x172 then
  (f53 bb3).bind fun x175 =>
  bif x175 then
   bif decide (0<bf1) then
    (at? ba2.Records (wr64 (bf1-1))).bind fun x179 =>
    bif decide (bb3.Day<x179.Day) then
     some (.norm true)
    else
     req (cutB 0 (wr64 (bf1+1)) ba2.Records.length) <|
     (f54 ((ba2.Records.take (Int.toNat (wr64 (bf1+1)))).drop 0)).bind fun x183 =>
     some (.norm (!x183))
   else
    req (cutB 0 (wr64 (bf1+1)) ba2.Records.length) <|
    (f54 ((ba2.Records.take (Int.toNat (wr64 (bf1+1)))).drop 0)).bind fun x186 =>
    some (.norm (!x186))
  else
   some (.norm true)
 else
  some (.norm true)
theorem f35n3_ok(bf1:Int)(ba2:Qh)(bb3:Qa){o:f35n3O}(h:f35n3 bf1 ba2 bb3=some o):T Try.prog Try.f35.ntmps 0 (cL (Qk 1 (cL (cL (Qk 1 (cL (cL (Qk 1 (cL (Qk 2 c35)))))))))) (f35n3S bf1 ba2 bb3) (·=f35n3E bf1 ba2 bb3 o):=by
 unfold f35n3 at h;obtain ⟨x172,h173,h⟩:=Qc h;rcases Qg h with ⟨h174,h⟩|⟨h174,h⟩
 ·obtain ⟨x175,h176,h⟩:=Qc h;rcases Qg h with ⟨h177,h⟩|⟨h177,h⟩
  ·rcases Qg h with ⟨h178,h⟩|⟨h178,h⟩
   ·obtain ⟨x179,h180,h⟩:=Qc h;rcases Qg h with ⟨h181,h⟩|⟨h181,h⟩
    ·obtain rfl:=Qd h;exact rE Qf [(jF [4,5,6,9,10,11,22]++jT [12,13,14,15,16,17,18,19,20,21,25,26,27,28,29,30,31],[jH 1 (jB x172),jH 5 (jB x175),(7,.bool false),(18,.idx (Int.toNat (wr64 (bf1-1))) (Qa.cells x179)),(22,.bool true),(23,.bool false),(32,.bool true)],[])] [] [] [0] [1,3,53] (.norm,(f35n3E bf1 ba2 bb3 (.norm true)).2) (ap4 (Qq h174) (ap3 (Qq h177) (ap3 h178 (ap4 h178 (ap (Qj h180).1 (ap (Qs Qa.cells (Qj h180).2) (ap3 h178 (ap (Qq h177) (ap h178 (ap (Qq h177) (ap4 h181 (ap4 h181 (ap (f52_ok bb3 h173) (ap (f53_ok bb3 h176) an)))))))))))))) rfl
    ·obtain ⟨h182,h⟩:=Qp h;obtain ⟨x183,h184,h⟩:=Qc h;obtain rfl:=Qd h
     exact rE Qf [(jF [4,5,6,9,10,11,22,25,26,27,28,29,30,31]++jT [12,13,14,15,16,17,18,19,20,21],[jH 1 (jB x172),jH 5 (jB x175),(7,.bool false),(18,.idx (Int.toNat (wr64 (bf1-1))) (Qa.cells x179)),(22,.bool true),(23,.bool false),(29,.cut 0 (Int.toNat (wr64 (bf1+1)))),jH 30 (jB x183),(32,.bool false)],[(29,.val (.pl (.sl .any 3 (((ba2.Records.take (Int.toNat (wr64 (bf1+1)))).drop 0).map Qa.cells))))])] [] [] [0] [1,3,53] (.norm,(f35n3E bf1 ba2 bb3 (.norm (!x183))).2) (ap4 (Qq h174) (ap3 (Qq h177) (ap3 h178 (ap4 h178 (ap (Qj h180).1 (ap (Qs Qa.cells (Qj h180).2) (ap3 h178 (ap (Qq h177) (ap h178 (ap (Qq h177) (ap h181 (ap4 h181 (ap (Qba (c:=Qa.cells) h182) (ap (cut_hn_2 h182) (ap (cut_hn_3 h182) (ap (Qaz (c:=Qa.cells) h182) (ap (congrArg (fun l=>AV.pl (.sl .any 3 l)) (cut_cv (xs:=ba2.Records) (c:=Qa.cells) (n:=(Int.toNat (wr64 (bf1+1)))) (m:=0))) (ap3 h181 (ap (f52_ok bb3 h173) (ap (f53_ok bb3 h176) (ap (f54_ok ((ba2.Records.take (Int.toNat (wr64 (bf1+1)))).drop 0) h184) an))))))))))))))))))))) rfl
   ·obtain ⟨h185,h⟩:=Qp h;obtain ⟨x186,h187,h⟩:=Qc h;obtain rfl:=Qd h
    exact rE Qf [(jF [4,5,6,9,10,11,12,13,14,15,16,17,18,19,20,21,22],[jH 1 (jB x172),jH 5 (jB x175),(7,.bool false),(22,.bool false),(23,.bool false),(29,.cut 0 (Int.toNat (wr64 (bf1+1)))),jH 30 (jB x186)],[(29,.val (.pl (.sl .any 3 (((ba2.Records.take (Int.toNat (wr64 (bf1+1)))).drop 0).map Qa.cells))))])] [] [] [0] [1,3,53] (.norm,(f35n3E bf1 ba2 bb3 (.norm (!x186))).2) (ap4 (Qq h174) (ap3 (Qq h177) (ap2 h178 (ap4 h178 (ap4 h178 (ap (Qq h177) (ap h178 (ap (Qq h177) (ap (Qba (c:=Qa.cells) h185) (ap (cut_hn_2 h185) (ap (cut_hn_3 h185) (ap (Qaz (c:=Qa.cells) h185) (ap (congrArg (fun l=>AV.pl (.sl .any 3 l)) (cut_cv (xs:=ba2.Records) (c:=Qa.cells) (n:=(Int.toNat (wr64 (bf1+1)))) (m:=0))) (ap (f52_ok bb3 h173) (ap (f53_ok bb3 h176) (ap (f54_ok ((ba2.Records.take (Int.toNat (wr64 (bf1+1)))).drop 0) h187) an)))))))))))))))) rfl
  ·obtain rfl:=Qd h;exact rE Qf [(jF [4,5,6]++jT [9,10,11,22],[jH 1 (jB x172),jH 5 (jB x175),(7,.bool false),(23,.bool true)],[])] [] [] [0] [1,3,53] (.norm,(f35n3E bf1 ba2 bb3 (.norm true)).2) (ap4 (Qq h174) (ap (Qac h177) (ap4 (Qac h177) (ap (f52_ok bb3 h173) (ap (f53_ok bb3 h176) an))))) rfl
 ·obtain rfl:=Qd h;exact rE Qf [(jT [4,5,6],[jH 1 (jB x172),(7,.bool true)],[])] [] [] [0] [1,3,53] (.norm,(f35n3E bf1 ba2 bb3 (.norm true)).2) (ap4 (Qac h174) (ap (f52_ok bb3 h173) an)) rfl
inductive f35n2O where
 | norm
 | ret
def f35n2E(bf1:Int)(ba2:Qh):f35n2O→Ex×Tr×Hp
 | .norm=>(.norm,mkS [(1,(.bp 0 0)),(3,(jI bf1))],[some (.box 24 ((Qh.cells ba2).map .pl))])
 | .ret=>(.ret,mkS [(2,(jI 8))],[])
def f35n2S(bf1:Int)(ba2:Qh):Tr×Hp:=(mkS [(1,(.bp 0 0)),(3,(jI bf1))],[some (.box 24 ((Qh.cells ba2).map .pl))])
noncomputable def f35n2(bf1:Int)(ba2:Qh):Option f35n2O :=
 (at? ba2.Records bf1).bind fun x138 =>
 (f35n3 bf1 ba2 x138).bind fun o189=>match o189 with
 | .norm v191=>bif v191 then
   some .ret
  else
   some .norm
theorem f35n2_ok(bf1:Int)(ba2:Qh){o:f35n2O}(h:f35n2 bf1 ba2=some o):T Try.prog Try.f35.ntmps 0 (cL (Qk 1 (cL (cL (Qk 1 (cL (Qk 2 c35))))))) (f35n2S bf1 ba2) (·=f35n2E bf1 ba2 o):=by
 unfold f35n2 at h;refine T.block' (i:=1) (by kernel_rfl) ?_;obtain ⟨x138,h139,h⟩:=Qc h;refine rN Qf 1 [([],[(3,.idx (Int.toNat bf1) (Qa.cells x138))],[])] [] [] [0,1] [1,3,4] (f35n3S bf1 ba2 x138) (ap (Qj h139).1 (ap (Qs Qa.cells (Qj h139).2) an)) ?_;obtain ⟨o189,h190,h⟩:=Qc h;cases o189 with
 | norm v191 =>
  refine T.oneN (by kernel_rfl) (f35n3_ok bf1 ba2 x138 h190) (st2:=(f35n3E bf1 ba2 x138 (.norm v191)).2) rfl ?_;rcases Qg h with ⟨h193,h⟩|⟨h193,h⟩
  ·obtain rfl:=Qd h;exact rE Qf [j3] [some true] [] [] [2] (.ret,(f35n2E bf1 ba2 .ret).2) (ap h193 an) rfl
  ·obtain rfl:=Qd h;exact rE Qf [] [some false] [] [0] [1,3] (.norm,(f35n2E bf1 ba2 .norm).2) (ap h193 an) rfl
inductive f35n4O where
 | exit0
 | ret
def f35n4E(ba1:Qh):f35n4O→Ex×Tr×Hp
 | .exit0=>((.exit 0),mkS [],[])
 | .ret=>(.ret,mkS [(2,(jI 8))],[])
def f35n4S(ba1:Qh)(v113:Int):Tr×Hp:=(mkS [(1,(.bp 0 0)),(3,(jI v113))],[some (.box 24 ((Qh.cells ba1).map .pl))])
noncomputable def f35n4:Nat→Qh→Int→Option f35n4O
 | 0,_,_=>none
 | f+1,ba1,v113 =>
  bif decide (v113<(ba1.Records.length:Int)) then
   (f35n2 v113 ba1).bind fun o194=>match o194 with
   | .norm=>(f35n4 f ba1 (wr64 (v113+1)))
   | .ret=>some .ret
  else
   some .exit0
theorem f35n4_ok:∀(f:Nat)(ba1:Qh)(v113:Int){o:f35n4O},f35n4 f ba1 v113=some o→TL Try.prog Try.f35.ntmps 0 f (cL (cL (Qk 1 (cL (Qk 2 c35))))) (f35n4S ba1 v113) (·=f35n4E ba1 o)
 | 0,_,_,o,h=>by rw [f35n4] at h; cases h
 | f+1,ba1,v113,o,h=>by
  rw [f35n4] at h;refine TL.body (K:=fun s=>∃v113:Int,s=(f35n4S ba1 v113)∧f35n4 f ba1 v113=some o) ?_ (by rintro _ ⟨v113,rfl,hk⟩; exact f35n4_ok f _ _ hk);rcases Qg h with ⟨h115,h⟩|⟨h115,h⟩
  ·refine rN Qf 1 [([],[],[(3,.val (jI (ba1.Records.length:Int)))])] [some true] [] [0] [1,3] (f35n2S v113 ba1) (ap (Qn (xs:=ba1.Records) (c:=Qa.cells)) (ap h115 an)) ?_;obtain ⟨o194,h195,h⟩:=Qc h;cases o194 with
   | norm =>
    refine T.oneN (by kernel_rfl) (f35n2_ok v113 ba1 h195) (st2:=(f35n2E v113 ba1 .norm).2) rfl ?_;exact rE Qf [j3] [] [] [0] [1,3] (.norm,(f35n4S ba1 (wr64 (v113+1)))) an (Qt.norm ⟨(wr64 (v113+1)),rfl,h⟩)
   | ret =>
    obtain rfl:=Qd h;exact T.oneX' (by kernel_rfl) (f35n2_ok v113 ba1 h195) (tds:=[]) (m:=[]) (keep:=[2]) (st2:=(f35n4E ba1 .ret).2) (by kernel_rfl) an rfl (Qt.out rfl rfl)
  ·obtain rfl:=Qd h;exact rK Qf 1 [([],[],[(3,.val (jI (ba1.Records.length:Int)))])] [some false] [] [] [] (.exit 0) ((f35n4E ba1 .exit0).2) (ap (Qn (xs:=ba1.Records) (c:=Qa.cells)) (ap h115 an)) (Qt.out rfl rfl)
inductive f35n1O where
 | norm
 | ret
def f35n1E(ba1:Qh):f35n1O→Ex×Tr×Hp
 | .norm=>(.norm,mkS [],[])
 | .ret=>(.ret,mkS [(2,(jI 8))],[])
def f35n1S(ba1:Qh):Tr×Hp:=(mkS [(1,(.bp 0 0))],[some (.box 24 ((Qh.cells ba1).map .pl))])
noncomputable def f35n1(ba1:Qh):Option f35n1O :=
 (f35n4 FUEL ba1 0).bind fun o196=>match o196 with
 | .exit0=>some .norm
 | .ret=>some .ret
theorem f35n1_ok(ba1:Qh){o:f35n1O}(h:f35n1 ba1=some o):T Try.prog Try.f35.ntmps 0 (cL (Qk 2 c35)) (f35n1S ba1) (·=f35n1E ba1 o):=by
 unfold f35n1 at h;refine rN Qf 1 [j3] [] [] [0] [1,3] (f35n4S ba1 0) an ?_;obtain ⟨o196,h197,h⟩:=Qc h;cases o196 with
 | exit0 =>
  obtain rfl:=Qd h;exact T.last' (T.bl (i:=0) (by kernel_rfl) (by kernel_rfl) (f35n4_ok FUEL ba1 0 h197)) (tds:=[]) (m:=[]) (keep:=[]) (st2:=(f35n1E ba1 .norm).2) (by kernel_rfl) an rfl
 | ret =>
  obtain rfl:=Qd h;exact T.last' (T.bl (i:=0) (by kernel_rfl) (by kernel_rfl) (f35n4_ok FUEL ba1 0 h197)) (tds:=[]) (m:=[]) (keep:=[2]) (st2:=(f35n1E ba1 .ret).2) (by kernel_rfl) an rfl
inductive f35n0O where
 | ret (v200:Int)
def f35n0E(a1:Qh):f35n0O→Ex×Tr×Hp
 | .ret v200=>(.ret,mkS [(2,(jI v200))],[])
def f35n0S(a1:Qh):Tr×Hp:=(Qai [(jA Qh.cells a1)] 0 .leaf,[])
noncomputable def f35n0(a1:Qh):Option f35n0O :=
 bif decide (200<(a1.Records.length:Int)) then
  some (.ret 8)
 else
  (f35n1 a1).bind fun o198=>match o198 with
  | .norm=>some (.ret 0)
  | .ret=>some (.ret 8)
theorem f35n0_ok(a1:Qh){o:f35n0O}(h:f35n0 a1=some o):T Try.prog Try.f35.ntmps 0 c35 (f35n0S a1) (·=f35n0E a1 o):=by
 unfold f35n0 at h;rcases Qg h with ⟨h3,h⟩|⟨h3,h⟩
 ·obtain rfl:=Qd h;exact rK Qf 2 [j3,([],[],[(2,.val (jI (a1.Records.length:Int)))]),j3] [some true] [] [] [2] .ret ((f35n0E a1 (.ret 8)).2) (ap (Qn (xs:=a1.Records) (c:=Qa.cells)) (ap h3 an)) rfl
 ·refine rN Qf 2 [j3,([],[],[(2,.val (jI (a1.Records.length:Int)))])] [some false] [] [0] [1] (f35n1S a1) (ap (Qn (xs:=a1.Records) (c:=Qa.cells)) (ap h3 an)) ?_;obtain ⟨o198,h199,h⟩:=Qc h;cases o198 with
  | norm =>
   refine T.oneN (by kernel_rfl) (f35n1_ok a1 h199) (st2:=(f35n1E a1 .norm).2) rfl ?_;obtain rfl:=Qd h;exact rE Qf [j3] [] [] [] [2] (.ret,(f35n0E a1 (.ret 0)).2) an rfl
  | ret =>
   obtain rfl:=Qd h;exact T.oneX' (by kernel_rfl) (f35n1_ok a1 h199) (tds:=[]) (m:=[]) (keep:=[2]) (st2:=(f35n0E a1 (.ret 8)).2) (by kernel_rfl) an rfl rfl
noncomputable def f35(a1:Qh):Option Int:=(f35n0 a1).bind fun o=>match o with
 | .ret v200=>some v200
theorem f35_ok(a1:Qh){r:Int}(h:f35 a1=some r):Qm Try.prog false 35 [(jA Qh.cells a1)] [] (jI r) []:=by
 unfold f35 at h;obtain ⟨o,ho,h⟩:=Qc h;cases o with
 | ret v200 =>
  obtain rfl:=Qd h;exact Qm.plain Qf (f:=Try.f35) (c:=c35) (by kernel_rfl) (by kernel_rfl) (by kernel_rfl) (by kernel_rfl) ((f35n0_ok a1 ho).mono fun r e=>by subst e; exact ⟨.inl rfl,(jI v200),(jI v200),by kernel_rfl,by kernel_rfl,((Wk.refl _):Wk (jI v200) (jI v200))⟩)
end Go.Proofs.Ytbgjlpdeoljmiaa
