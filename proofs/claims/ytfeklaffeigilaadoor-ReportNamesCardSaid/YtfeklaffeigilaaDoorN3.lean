/- Functions of the program, plainly, and that the machine computes them. No condition. -/
import Derived.Test.YtfeklaffeigilaaDoorN2
namespace Go.Proofs.YtfeklaffeigilaaDoor
set_option linter.unusedVariables false
set_option linter.unusedSimpArgs false
set_option maxRecDepth 100000
open Go.RowKit
noncomputable def c36:Code:=Tryd.f36.body.getD .skip

inductive f36r2n0O where
 | norm
def f36r2n0E(a1 a2:ByteArray)(a3 a4:Int)(a5:List (Key_×Qa)):f36r2n0O→Ex×Tr×Hp
 | .norm=>(.norm,mkS [],[some (.map ((mPut Key_.eqb (Key_.mk a1 a2) (Qa.mk a1 a2 (wr64 ((mGet Key_.eqb (Qa.mk Qy Qy 0 0) (Key_.mk a1 a2) a5).In+a3)) (wr64 ((mGet Key_.eqb (Qa.mk Qy Qy 0 0) (Key_.mk a1 a2) a5).Out+a4))) a5).map (mkv (pAgg Key_.cells) (pAgg Qa.cells))))])
def f36r2n0S(a1 a2:ByteArray)(a3 a4:Int)(a5:List (Key_×Qa)):Tr×Hp:=(Qal [(.mp 0),(jS a1),(jS a2),(jI a3),(jI a4)] 0 .leaf,[some (.map (a5.map (mkv (pAgg Key_.cells) (pAgg Qa.cells))))])
noncomputable def f36r2n0(a1 a2:ByteArray)(a3 a4:Int)(a5:List (Key_×Qa)):Option f36r2n0O :=
 some .norm
theorem f36r2n0_ok(a1 a2:ByteArray)(a3 a4:Int)(a5:List (Key_×Qa)){o:f36r2n0O}(h:f36r2n0 a1 a2 a3 a4 a5=some o):T Tryd.prog Tryd.f36.ntmps 1 c36 (f36r2n0S a1 a2 a3 a4 a5) (·=f36r2n0E a1 a2 a3 a4 a5 o):=by
 unfold f36r2n0 at h;obtain rfl:=Qf h
 exact rE Qi [([],[(4,.look ((pAgg Qa.cells) (mGet Key_.eqb (Qa.mk Qy Qy 0 0) (Key_.mk a1 a2) a5)) (mHas Key_.eqb (Key_.mk a1 a2) a5))],[]),([],[(15,.mset ((mPut Key_.eqb (Key_.mk a1 a2) (Qa.mk a1 a2 (wr64 ((mGet Key_.eqb (Qa.mk Qy Qy 0 0) (Key_.mk a1 a2) a5).In+a3)) (wr64 ((mGet Key_.eqb (Qa.mk Qy Qy 0 0) (Key_.mk a1 a2) a5).Out+a4))) a5).map (mkv (pAgg Key_.cells) (pAgg Qa.cells))))],[])] [] [] [] [] (.norm,(f36r2n0E a1 a2 a3 a4 a5 .norm).2) (ap (look_map (vp:=(pAgg Qa.cells)) (e:=39) key_115 (Qa.mk Qy Qy 0 0) (by kernel_rfl) (Key_.mk a1 a2) a5) (ap (mset_map (vp:=(pAgg Qa.cells)) key_115 (Key_.mk a1 a2) (Qa.mk a1 a2 (wr64 ((mGet Key_.eqb (Qa.mk Qy Qy 0 0) (Key_.mk a1 a2) a5).In+a3)) (wr64 ((mGet Key_.eqb (Qa.mk Qy Qy 0 0) (Key_.mk a1 a2) a5).Out+a4))) a5) an)) rfl
noncomputable def f36r2(a1 a2:ByteArray)(a3 a4:Int)(a5:List (Key_×Qa)):Option Unit:=(f36r2n0 a1 a2 a3 a4 a5).bind fun o=>match o with
 | .norm=>some ()
theorem f36r2_ok(a1 a2:ByteArray)(a3 a4:Int)(a5:List (Key_×Qa)){r:Unit}(h:f36r2 a1 a2 a3 a4 a5=some r):Ql Tryd.prog true 36 [(.mp 0),(jS a1),(jS a2),(jI a3),(jI a4)] [some (.map (a5.map (mkv (pAgg Key_.cells) (pAgg Qa.cells))))] (.tup []) [some (.map ((mPut Key_.eqb (Key_.mk a1 a2) (Qa.mk a1 a2 (wr64 ((mGet Key_.eqb (Qa.mk Qy Qy 0 0) (Key_.mk a1 a2) a5).In+a3)) (wr64 ((mGet Key_.eqb (Qa.mk Qy Qy 0 0) (Key_.mk a1 a2) a5).Out+a4))) a5).map (mkv (pAgg Key_.cells) (pAgg Qa.cells))))]:=by
 unfold f36r2 at h;obtain ⟨o,ho,h⟩:=Qe h;cases o with
 | norm =>
  obtain rfl:=Qf h;exact Ql.shared Qi (f:=Tryd.f36) (c:=c36) (by kernel_rfl) (by kernel_rfl) (by kernel_rfl) ((f36r2n0_ok a1 a2 a3 a4 a5 ho).mono fun r e=>by subst e; exact ⟨.inr rfl,by kernel_rfl,by kernel_rfl⟩)

noncomputable def c80:Code:=Tryd.f80.body.getD .skip
inductive f80n0O where
 | ret
def f80n0E(a1:ByteArray):f80n0O→Ex×Tr×Hp
 | .ret=>(.ret,mkS [(2,(.pl (.bool (!(seq a1 a1)))))],[])
def f80n0S(a1:ByteArray):Tr×Hp:=(Qal [(jS a1)] 0 .leaf,[])
noncomputable def f80n0(a1:ByteArray):Option f80n0O :=
 some .ret
theorem f80n0_ok(a1:ByteArray){o:f80n0O}(h:f80n0 a1=some o):T Tryd.prog Tryd.f80.ntmps 0 c80 (f80n0S a1) (·=f80n0E a1 o):=by
 unfold f80n0 at h;obtain rfl:=Qf h;exact rE Qi [j3,j3] [] [] [] [2] (.ret,(f80n0E a1 .ret).2) an rfl
noncomputable def f80(a1:ByteArray):Option Bool:=(f80n0 a1).bind fun o=>match o with
 | .ret=>some (!(seq a1 a1))
theorem f80_ok(a1:ByteArray){r:Bool}(h:f80 a1=some r):Ql Tryd.prog false 80 [(jS a1)] [] (jB r) []:=by
 unfold f80 at h;obtain ⟨o,ho,h⟩:=Qe h;cases o with
 | ret =>
  obtain rfl:=Qf h;exact Ql.plain Qi (f:=Tryd.f80) (c:=c80) (by kernel_rfl) (by kernel_rfl) (by kernel_rfl) (by kernel_rfl) ((f80n0_ok a1 ho).mono fun r e=>by subst e; exact ⟨.inl rfl,(.pl (.bool (!(seq a1 a1)))),(.pl (.bool (!(seq a1 a1)))),by kernel_rfl,by kernel_rfl,((Wk.refl _):Wk (.pl (.bool (!(seq a1 a1)))) (.pl (.bool (!(seq a1 a1)))))⟩)

noncomputable def c62:Code:=Tryd.f62.body.getD .skip
inductive f62n0O where
 | ret (v21:Int)
def f62n0E(a1 a2:ByteArray):f62n0O→Ex×Tr×Hp
 | .ret v21=>(.ret,mkS [(4,(jI v21))],[])
def f62n0S(a1 a2:ByteArray):Tr×Hp:=(Qal [(jS a1),(jS a2)] 0 .leaf,[])
noncomputable def f62n0(a1 a2:ByteArray):Option f62n0O :=
 (f80 a1).bind fun x5 =>
 (f80 a2).bind fun x9 =>
 bif x5 then
  bif x9 then
   some (.ret 0)
  else
   some (.ret (-1))
 else
  bif x9 then
   some (.ret 1)
  else
   bif (slt a1 a2) then
    some (.ret (-1))
   else
    bif (slt a1 a2||seq a1 a2) then
     some (.ret 0)
    else
     some (.ret 1)
theorem f62n0_ok(a1 a2:ByteArray){o:f62n0O}(h:f62n0 a1 a2=some o):T Tryd.prog Tryd.f62.ntmps 0 c62 (f62n0S a1 a2) (·=f62n0E a1 a2 o):=by
 unfold f62n0 at h;obtain ⟨x5,h6,h⟩:=Qe h;obtain ⟨x9,h10,h⟩:=Qe h;rcases Qg h with ⟨h13,h⟩|⟨h13,h⟩
 ·rcases Qg h with ⟨h14,h⟩|⟨h14,h⟩
  ·obtain rfl:=Qf h;exact rK Qi 4 [j3,([],[jH 1 (jB x5)],[]),([],[jH 1 (jB x9)],[]),j3,j3,j3] [some true,some true] [] [] [4] .ret ((f62n0E a1 a2 (.ret 0)).2) (ap (f80_ok a1 h6) (ap (f80_ok a2 h10) (ap h13 (ap h14 an)))) rfl
  ·obtain rfl:=Qf h;exact rK Qi 4 [j3,([],[jH 1 (jB x5)],[]),([],[jH 1 (jB x9)],[]),j3,j3,j3] [some true,some false] [] [] [4] .ret ((f62n0E a1 a2 (.ret (-1))).2) (ap (f80_ok a1 h6) (ap (f80_ok a2 h10) (ap h13 (ap h14 an)))) rfl
 ·rcases Qg h with ⟨h16,h⟩|⟨h16,h⟩
  ·obtain rfl:=Qf h;exact rK Qi 5 [j3,([],[jH 1 (jB x5)],[]),([],[jH 1 (jB x9)],[]),j3,j3,j3] [some false,some true] [] [] [4] .ret ((f62n0E a1 a2 (.ret 1)).2) (ap (f80_ok a1 h6) (ap (f80_ok a2 h10) (ap h13 (ap h16 an)))) rfl
  ·rcases Qg h with ⟨h18,h⟩|⟨h18,h⟩
   ·obtain rfl:=Qf h;exact rK Qi 6 [j3,([],[jH 1 (jB x5)],[]),([],[jH 1 (jB x9)],[]),j3,j3,j3,j3] [some false,some false,some true] [] [] [4] .ret ((f62n0E a1 a2 (.ret (-1))).2) (ap (f80_ok a1 h6) (ap (f80_ok a2 h10) (ap h13 (ap h16 (ap h18 an))))) rfl
   ·rcases Qg h with ⟨h20,h⟩|⟨h20,h⟩
    ·obtain rfl:=Qf h;exact rE Qi [j3,([],[jH 1 (jB x5)],[]),([],[jH 1 (jB x9)],[]),j3,j3,j3,j3,j3] [some false,some false,some false,some false] [] [] [4] (.ret,(f62n0E a1 a2 (.ret 0)).2) (ap (f80_ok a1 h6) (ap (f80_ok a2 h10) (ap h13 (ap h16 (ap h18 (ap (Qq h20) an)))))) rfl
    ·obtain rfl:=Qf h;exact rK Qi 7 [j3,([],[jH 1 (jB x5)],[]),([],[jH 1 (jB x9)],[]),j3,j3,j3,j3,j3] [some false,some false,some false,some true] [] [] [4] .ret ((f62n0E a1 a2 (.ret 1)).2) (ap (f80_ok a1 h6) (ap (f80_ok a2 h10) (ap h13 (ap h16 (ap h18 (ap (Qaf h20) an)))))) rfl
noncomputable def f62(a1 a2:ByteArray):Option Int:=(f62n0 a1 a2).bind fun o=>match o with
 | .ret v21=>some v21
theorem f62_ok(a1 a2:ByteArray){r:Int}(h:f62 a1 a2=some r):Ql Tryd.prog false 62 [(jS a1),(jS a2)] [] (jI r) []:=by
 unfold f62 at h;obtain ⟨o,ho,h⟩:=Qe h;cases o with
 | ret v21 =>
  obtain rfl:=Qf h;exact Ql.plain Qi (f:=Tryd.f62) (c:=c62) (by kernel_rfl) (by kernel_rfl) (by kernel_rfl) (by kernel_rfl) ((f62n0_ok a1 a2 ho).mono fun r e=>by subst e; exact ⟨.inl rfl,(jI v21),(jI v21),by kernel_rfl,by kernel_rfl,((Wk.refl _):Wk (jI v21) (jI v21))⟩)

noncomputable def c61:Code:=Tryd.f61.body.getD .skip
inductive f61n2O where
 | exit0
 | ret (v28:Int)
def f61n2E(bm1:List Int):f61n2O→Ex×Tr×Hp
 | .exit0=>((.exit 0),mkS [(3,(jI 0))],[])
 | .ret v28=>(.ret,mkS [(2,(jI v28))],[])
def f61n2S(bm1:List Int)(v19:Int):Tr×Hp:=(mkS [(3,(jI 0)),(6,(.pl (.sl .any 1 (bm1.map (cInt .i64))))),(7,(jI (bm1.length:Int))),(8,(jI v19))],[])
noncomputable def f61n2:Nat→List Int→Int→Option f61n2O
 | 0,_,_=>none
 | f+1,bm1,v19 =>
  bif decide (v19<(bm1.length:Int)) then
   (at? bm1 v19).bind fun x25 =>
   bif decide (x25=0) then
    (f61n2 f bm1 (wr64 (v19+1)))
   else
    some (.ret x25)
  else
   some .exit0
theorem f61n2_ok:∀(f:Nat)(bm1:List Int)(v19:Int){o:f61n2O},f61n2 f bm1 v19=some o→TL Tryd.prog Tryd.f61.ntmps 0 f (cL (cL (Qt 1 (cL (Qt 2 c61))))) (f61n2S bm1 v19) (·=f61n2E bm1 o)
 | 0,_,_,o,h=>by rw [f61n2] at h; cases h
 | f+1,bm1,v19,o,h=>by
  rw [f61n2] at h;refine TL.body (K:=fun s=>∃v19:Int,s=(f61n2S bm1 v19)∧f61n2 f bm1 v19=some o) ?_ (by rintro _ ⟨v19,rfl,hk⟩; exact f61n2_ok f _ _ hk);rcases Qg h with ⟨h21,h⟩|⟨h21,h⟩
  ·obtain ⟨x25,h26,h⟩:=Qe h;rcases Qg h with ⟨h27,h⟩|⟨h27,h⟩
   ·exact rE Qi [j3,([],[(0,.idx (Int.toNat v19) ((cInt .i64) x25))],[]),j3,j3] [some true,some false] [] [] [3,6,7,8] (.norm,(f61n2S bm1 (wr64 (v19+1)))) (ap h21 (ap (Qm h26).1 (ap (Qag (cInt .i64) (Qm h26).2) (ap (Qq h27) an)))) (Qad.norm ⟨(wr64 (v19+1)),rfl,h⟩)
   ·obtain rfl:=Qf h;exact rK Qi 3 [j3,([],[(0,.idx (Int.toNat v19) ((cInt .i64) x25))],[]),j3,j3] [some true,some true] [] [] [2] .ret ((f61n2E bm1 (.ret x25)).2) (ap h21 (ap (Qm h26).1 (ap (Qag (cInt .i64) (Qm h26).2) (ap (Qaf h27) an)))) (Qad.out rfl rfl)
  ·obtain rfl:=Qf h;exact rK Qi 2 [j3] [some false] [] [] [3] (.exit 0) ((f61n2E bm1 .exit0).2) (ap h21 an) (Qad.out rfl rfl)
noncomputable def f61n2L(bm1:List Int):List Int→Int→Option f61n2O
 | [],v19 =>
  some .exit0
 | x0::rest,v19 =>
  bif decide (x0=0) then
   (f61n2L bm1 rest (v19+1))
  else
   some (.ret x0)
theorem f61n2L_eq(bm1:List Int):∀(rest:List Int)(f k:Nat),bm1.drop k=rest→bm1.length≤maxLen→rest.length<f→f61n2 f bm1 (k:Int)=f61n2L bm1 rest (k:Int)
 | _,0,_,_,_,hf=>absurd hf (Nat.not_lt_zero _)
 | [],f+1,k,hd,hm,hf=>by
  have hk:¬((k:Int)<(bm1.length:Int)):=by have:=Qbj hd; omega
  rw [f61n2,f61n2L];simp only [decide_eq_false hk,cond_false]
 | x0::rest,f+1,k,hd,hm,hf=>by
  obtain ⟨hx,hlt,hd'⟩:=Qbn hd;have hk:(k:Int)<(bm1.length:Int):=by omega
  have hw:wr64 ((k:Int)+1)=(k:Int)+1:=wr64_of (by omega) (by unfold maxLen at hm; omega);have ih:f61n2 f bm1 ((k:Int)+1)=f61n2L bm1 rest ((k:Int)+1):=f61n2L_eq bm1 rest f (k+1) hd' hm (by simpa using hf);rw [f61n2,f61n2L];simp only [decide_eq_true hk,cond_true,at_nat,hx,Option.bind_some,hw,ih]
theorem f61n2_run(bm1:List Int)(hm:bm1.length≤maxLen):f61n2 FUEL bm1 0=f61n2L bm1 bm1 0:=f61n2L_eq bm1 bm1 FUEL 0 List.drop_zero hm (lt_FUEL hm)
inductive f61n1O where
 | norm
 | ret (v32:Int)
def f61n1E(bm1:List Int):f61n1O→Ex×Tr×Hp
 | .norm=>(.norm,mkS [(3,(jI 0))],[])
 | .ret v32=>(.ret,mkS [(2,(jI v32))],[])
def f61n1S(bm1:List Int):Tr×Hp:=(mkS [(0,(.pl (.sl .any 1 (bm1.map (cInt .i64))))),(3,(jI 0))],[])
noncomputable def f61n1(bm1:List Int):Option f61n1O :=
 (f61n2 FUEL bm1 0).bind fun o29=>match o29 with
 | .exit0=>some .norm
 | .ret v31=>some (.ret v31)
theorem f61n1_ok(bm1:List Int){o:f61n1O}(h:f61n1 bm1=some o):T Tryd.prog Tryd.f61.ntmps 0 (cL (Qt 2 c61)) (f61n1S bm1) (·=f61n1E bm1 o):=by
 unfold f61n1 at h;refine rN Qi 1 [([],[],[(1,.val (jI (bm1.length:Int)))])] [] [] [] [3,6,7,8] (f61n2S bm1 0) (ap (Qan (xs:=bm1) (c:=(cInt .i64))) an) ?_;obtain ⟨o29,h30,h⟩:=Qe h;cases o29 with
 | exit0 =>
  obtain rfl:=Qf h;exact T.last' (T.bl (i:=0) (by kernel_rfl) (by kernel_rfl) (f61n2_ok FUEL bm1 0 h30)) (tds:=[]) (m:=[]) (keep:=[3]) (st2:=(f61n1E bm1 .norm).2) (by kernel_rfl) an rfl
 | ret v31 =>
  obtain rfl:=Qf h;exact T.last' (T.bl (i:=0) (by kernel_rfl) (by kernel_rfl) (f61n2_ok FUEL bm1 0 h30)) (tds:=[]) (m:=[]) (keep:=[2]) (st2:=(f61n1E bm1 (.ret v31)).2) (by kernel_rfl) an rfl
inductive f61n0O where
 | ret (v36:Int)
def f61n0E(a1:List Int):f61n0O→Ex×Tr×Hp
 | .ret v36=>(.ret,mkS [(2,(jI v36))],[])
def f61n0S(a1:List Int):Tr×Hp:=(Qal [(.pl (.sl .any 1 (a1.map (cInt .i64))))] 0 .leaf,[])
noncomputable def f61n0(a1:List Int):Option f61n0O :=
 (f61n1 a1).bind fun o33=>match o33 with
 | .norm=>some (.ret 0)
 | .ret v35=>some (.ret v35)
theorem f61n0_ok(a1:List Int){o:f61n0O}(h:f61n0 a1=some o):T Tryd.prog Tryd.f61.ntmps 0 c61 (f61n0S a1) (·=f61n0E a1 o):=by
 unfold f61n0 at h;refine rN Qi 2 [j3,j3] [] [] [] [0,3] (f61n1S a1) an ?_;obtain ⟨o33,h34,h⟩:=Qe h;cases o33 with
 | norm =>
  refine T.oneN (by kernel_rfl) (f61n1_ok a1 h34) (st2:=(f61n1E a1 .norm).2) rfl ?_;obtain rfl:=Qf h;exact rE Qi [j3] [] [] [] [2] (.ret,(f61n0E a1 (.ret 0)).2) an rfl
 | ret v35 =>
  obtain rfl:=Qf h;exact T.oneX' (by kernel_rfl) (f61n1_ok a1 h34) (tds:=[]) (m:=[]) (keep:=[2]) (st2:=(f61n0E a1 (.ret v35)).2) (by kernel_rfl) an rfl rfl
noncomputable def f61(a1:List Int):Option Int:=(f61n0 a1).bind fun o=>match o with
 | .ret v36=>some v36
theorem f61_ok(a1:List Int){r:Int}(h:f61 a1=some r):Ql Tryd.prog false 61 [(.pl (.sl .any 1 (a1.map (cInt .i64))))] [] (jI r) []:=by
 unfold f61 at h;obtain ⟨o,ho,h⟩:=Qe h;cases o with
 | ret v36 =>
  obtain rfl:=Qf h;exact Ql.plain Qi (f:=Tryd.f61) (c:=c61) (by kernel_rfl) (by kernel_rfl) (by kernel_rfl) (by kernel_rfl) ((f61n0_ok a1 ho).mono fun r e=>by subst e; exact ⟨.inl rfl,(jI v36),(jI v36),by kernel_rfl,by kernel_rfl,((Wk.refl _):Wk (jI v36) (jI v36))⟩)

noncomputable def c41:Code:=Tryd.f41.body.getD .skip
inductive f41n0O where
 | ret (v15:Int)
def f41n0E(a1 a2:Qa):f41n0O→Ex×Tr×Hp
 | .ret v15=>(.ret,mkS [(4,(jI v15))],[])
def f41n0S(a1 a2:Qa):Tr×Hp:=(Qal [(jA Qa.cells a1),(jA Qa.cells a2)] 0 .leaf,[])
noncomputable def f41n0(a1 a2:Qa):Option f41n0O :=
 (f62 a1.Account a2.Account).bind fun x9 =>
 (f62 a1.Ccy a2.Ccy).bind fun x11 =>
 (f61 [x9,x11]).bind fun x13 =>
 some (.ret x13)
theorem f41n0_ok(a1 a2:Qa){o:f41n0O}(h:f41n0 a1 a2=some o):T Tryd.prog Tryd.f41.ntmps 0 c41 (f41n0S a1 a2) (·=f41n0E a1 a2 o):=by
 unfold f41n0 at h;obtain ⟨x9,h10,h⟩:=Qe h;obtain ⟨x11,h12,h⟩:=Qe h;obtain ⟨x13,h14,h⟩:=Qe h;obtain rfl:=Qf h
 exact rE Qi [j3,([],[jH 4 (jI x9),jH 9 (jI x11),jH 11 (jI x13)],[])] [] [] [] [4] (.ret,(f41n0E a1 a2 (.ret x13)).2) (ap (Qz (e:=⟨false,62,[(jS a1.Account),(jS a2.Account)],[],(jI x9),[]⟩) (f:=⟨false,62,[(jS a1.Ccy),(jS a2.Ccy)],[],(jI x11),[]⟩) (fun k=>by simp only [jL,jS,jI,jB,jA,Qc.cells_eq,Qc.map_eq,Qb.cells_eq,Qb.map_eq,Qj.cells_eq,Qj.map_eq,Qd.cells_eq,Qd.map_eq,Qa.cells_eq,Qa.map_eq,Qh.cells_eq,Qh.map_eq,Key_.cells_eq,Key_.map_eq,Qr.cells_eq,Qr.map_eq,List.cons.injEq,AV.pl.injEq,PV.str.injEq,PV.int.injEq,PV.bool.injEq,PV.agg.injEq,PV.sl.injEq,and_true,true_and] at k; have e0:x9=x11:=Option.some.inj (by rw [←h10,←h12]; first | exact congrArg _ k | (obtain ⟨k1,_⟩:=k; simp only [k1]; done) | simp only [k]); exact ⟨by rw [e0],rfl⟩)) (ap (f62_ok a1.Account a2.Account h10) (ap (f62_ok a1.Ccy a2.Ccy h12) (ap (f61_ok [x9,x11] h14) an)))) rfl
noncomputable def f41(a1 a2:Qa):Option Int:=(f41n0 a1 a2).bind fun o=>match o with
 | .ret v15=>some v15
theorem f41_ok(a1 a2:Qa){r:Int}(h:f41 a1 a2=some r):Ql Tryd.prog false 41 [(jA Qa.cells a1),(jA Qa.cells a2)] [] (jI r) []:=by
 unfold f41 at h;obtain ⟨o,ho,h⟩:=Qe h;cases o with
 | ret v15 =>
  obtain rfl:=Qf h;exact Ql.plain Qi (f:=Tryd.f41) (c:=c41) (by kernel_rfl) (by kernel_rfl) (by kernel_rfl) (by kernel_rfl) ((f41n0_ok a1 a2 ho).mono fun r e=>by subst e; exact ⟨.inl rfl,(jI v15),(jI v15),by kernel_rfl,by kernel_rfl,((Wk.refl _):Wk (jI v15) (jI v15))⟩)

instance:Inhabited Qa:=⟨(Qa.mk Qy Qy 0 0)⟩
def so59_41_good(xs:List Qa):Prop:=∃c:Qa→Qa→Int,(∀x y,f41 x y=some (c x y))∧Go.Sort.SWO (ltOf c)∧xs.length<4611686018427387904
open Classical in
noncomputable def so59_41(xs:List Qa):Option (List Qa):=if h:so59_41_good xs then some (sortL h.choose xs) else none
theorem so59_41_val{xs:List Qa}{c:Qa→Qa→Int}(hc:∀x y,f41 x y=some (c x y))(o:Go.Sort.SWO (ltOf c))(hl:xs.length<4611686018427387904):so59_41 xs=some (sortL c xs):=by
 have h:so59_41_good xs:=⟨c,hc,o,hl⟩;unfold so59_41;rw [dif_pos h];have e:h.choose=c:=funext fun x=>funext fun y=>Option.some.inj ((h.choose_spec.1 x y).symm.trans (hc x y));rw [e]
theorem so59_41_ok(xs:List Qa){r:List Qa}(h:so59_41 xs=some r) :
  Ql Tryd.prog true 59 [.own 0,.pl (.fn 41)] [some (.row false 4 (xs.map Qa.cells))] (.tup []) [some (.row false 4 (r.map Qa.cells))]:=by
 unfold so59_41 at h
 by_cases hc:so59_41_good xs
 ·rw [dif_pos hc] at h;obtain rfl:=Qf h;have hs:=hc.choose_spec;exact sort_callS (cells:=Qa.cells) so_lays rfl so_agg so_size (Qca Tryd.func59 (by kernel_rfl) rfl) (fun _=>rfl) (fun x q hq=>by
   simp only [Qa.cells,List.mem_cons,List.not_mem_nil,or_false] at hq;rcases hq with rfl | rfl | rfl | rfl<;>rfl) _ hs.2.1 (fun x y=>f41_ok _ _ (hs.1 x y)) xs hs.2.2
 ·rw [dif_neg hc] at h; cases h


noncomputable def c37:Code:=Tryd.f37.body.getD .skip
inductive f37r1n2O where
 | exit0 (v33:List Qa)
def f37r1n2E(bl1:List (Key_×Qa)):f37r1n2O→Ex×Tr×Hp
 | .exit0 v33=>((.exit 0),mkS [(3,(.own 1))],[some (.map (bl1.map (mkv (pAgg Key_.cells) (pAgg Qa.cells)))),jR 4 Qa.cells v33])
def f37r1n2S(bl1:List (Key_×Qa))(v21:List Qa)(sn0:List Nat):Tr×Hp:=(mkS [(3,(.own 1)),(7,(.it 2))],[some (.map (bl1.map (mkv (pAgg Key_.cells) (pAgg Qa.cells)))),jR 4 Qa.cells v21,some (.iter 0 (bl1.map (mkv (pAgg Key_.cells) (pAgg Qa.cells))).length sn0)])
noncomputable def Qbs(bl1:List (Key_×Qa)):List (Key_×Qa)→(List Qa)→Option f37r1n2O
 | [],v21 =>
  some (.exit0 v21)
 | x23::rest,v21 =>
  bif decide (x23.2.In=0) then
   bif decide (x23.2.Out=0) then
    (Qbs bl1 rest v21)
   else
    req (fit (v21.length+1) 48) <|
    (Qbs bl1 rest (v21++[x23.2]))
  else
   req (fit (v21.length+1) 48) <|
   (Qbs bl1 rest (v21++[x23.2]))
theorem f37r1n2_ok(bl1:List (Key_×Qa)):∀(f:Nat)(sn0 rem:List Nat)(v21:List Qa){Q:f37r1n2O→Prop},Rem bl1.length sn0 rem→rem.length<f→(∀p,p.Perm rem→∃o,Qbs bl1 (ords bl1 p) v21=some o∧Q o)→TL Tryd.prog Tryd.f37.ntmps 1 f (cL (cL (Qt 1 (cL (Qt 2 c37))))) (f37r1n2S bl1 v21 sn0) (fun r=>∃o,Q o∧r=f37r1n2E bl1 o)
 | 0,_,_,_,_,_,hf,_=>absurd hf (Nat.not_lt_zero _)
 | f+1,sn0,rem,v21,Q,hR,hf,H=>by
  refine TL.bodyQ (K:=fun s=>∃(sn0 rem:List Nat) (v21:List Qa),s=f37r1n2S bl1 v21 sn0∧Rem bl1.length sn0 rem∧rem.length<f∧(∀p,p.Perm rem→∃o,Qbs bl1 (ords bl1 p) v21=some o∧Q o)) ?_ (by rintro _ ⟨sn0,rem,v21,rfl,h1,h2,h3⟩; exact f37r1n2_ok bl1 f sn0 rem v21 h1 h2 h3);refine T.oneNext Qi (x:=.tmp 7) (t:=8) (tb:=9) (i:=2) (o:=0) (m:=(bl1.map (mkv (pAgg Key_.cells) (pAgg Qa.cells))).length) (seen:=sn0) (kvs:=(bl1.map (mkv (pAgg Key_.cells) (pAgg Qa.cells)))) (by kernel_rfl) (by kernel_rfl) (by kernel_rfl) (by kernel_rfl) (by kernel_rfl) (by kernel_rfl) rfl (fun hs=>?_) (fun j22 k v hj hs hx=>?_)
  ·obtain rfl:=hR.none (by simpa using hs);obtain ⟨o,h0,hq⟩:=H [] (List.Perm.refl _);have h:Qbs bl1 [] v21=some o:=h0;rw [Qbs] at h;obtain rfl:=Qf h;exact rK Qi 1 [] [none] [] [1] [3] (.exit 0) ((f37r1n2E bl1 (.exit0 v21)).2) an (LoopQ2.out ⟨_,hq,rfl⟩ rfl)
  ·obtain ⟨x23,h24,rfl,rfl⟩:=mkv_at hx;obtain ⟨hR2,hlen,hP⟩:=hR.step (j:=j22) (by simpa using hj) hs;have H2:∀p,p.Perm (rem.erase j22)→∃o,Qbs bl1 (x23::ords bl1 p) v21=some o∧Q o:=fun p hp=>by obtain ⟨o,h,hq⟩:=H _ (hP p hp); rw [ords_cons h24] at h; exact ⟨o,h,hq⟩
   obtain ⟨o,h,hq⟩:=H2 _ (List.Perm.refl _);rw [Qbs] at h;rcases Qg h with ⟨h29,h⟩|⟨h29,h⟩
   ·rcases Qg h with ⟨h30,h⟩|⟨h30,h⟩
    ·exact rE Qi [([],[(0,.entr j22 ((pAgg Key_.cells) x23.1) ((pAgg Qa.cells) x23.2))],[]),(jF [4,5,6],[(7,.bool false)],[])] [none,some false] [] [1,2] [3,7] (.norm,(f37r1n2S bl1 v21 (sn0++[j22]))) (ap (last_app (seen:=sn0) (j:=j22)) (ap (rfl:(bl1.map (mkv (pAgg Key_.cells) (pAgg Qa.cells))).length=(bl1.map (mkv (pAgg Key_.cells) (pAgg Qa.cells))).length) (ap (at_mkv (kp:=(pAgg Key_.cells)) (vp:=(pAgg Qa.cells)) h24) (ap4 (Qq h29) (ap (Qq h30) an))))) (LoopQ2.norm ⟨sn0++[j22],rem.erase j22,v21,rfl,hR2,by omega,fun p hp=>by obtain ⟨o,h,hq⟩:=H2 p hp; refine ⟨o,?_,hq⟩; rw [Qbs] at h; simp only [h29,h30,cond_true,cond_false,Option.bind_some,req] at h; exact h⟩)
    ·obtain ⟨h31,h⟩:=Qam h
     exact rE Qi [([],[(0,.entr j22 ((pAgg Key_.cells) x23.1) ((pAgg Qa.cells) x23.2))],[]),(jF [4,5,6],[(7,.bool false)],[]),([],[(3,.fits)],[(3,.row 5 ((v21++[x23.2]).map Qa.cells))])] [none,some true] [] [5,2] [3,7] (.norm,(f37r1n2S bl1 (v21++[x23.2]) (sn0++[j22]))) (ap (last_app (seen:=sn0) (j:=j22)) (ap (rfl:(bl1.map (mkv (pAgg Key_.cells) (pAgg Qa.cells))).length=(bl1.map (mkv (pAgg Key_.cells) (pAgg Qa.cells))).length) (ap (at_mkv (kp:=(pAgg Key_.cells)) (vp:=(pAgg Qa.cells)) h24) (ap4 (Qq h29) (ap (Qaf h30) (ap (fit_map (te:=ti39) (xs:=v21) (n:=1) (c:=Qa.cells) h31 rfl) (ap (app_cv (xs:=v21) (ys:=[x23.2]) (c:=Qa.cells)) an))))))) (LoopQ2.norm ⟨sn0++[j22],rem.erase j22,(v21++[x23.2]),rfl,hR2,by omega,fun p hp=>by obtain ⟨o,h,hq⟩:=H2 p hp; refine ⟨o,?_,hq⟩; rw [Qbs] at h; simp only [h29,h30,h31,cond_true,cond_false,Option.bind_some,req] at h; exact h⟩)
   ·obtain ⟨h32,h⟩:=Qam h
    exact rE Qi [([],[(0,.entr j22 ((pAgg Key_.cells) x23.1) ((pAgg Qa.cells) x23.2))],[]),(jT [4,5,6],[(7,.bool true)],[]),([],[(3,.fits)],[(3,.row 5 ((v21++[x23.2]).map Qa.cells))])] [none,none] [] [5,2] [3,7] (.norm,(f37r1n2S bl1 (v21++[x23.2]) (sn0++[j22]))) (ap (last_app (seen:=sn0) (j:=j22)) (ap (rfl:(bl1.map (mkv (pAgg Key_.cells) (pAgg Qa.cells))).length=(bl1.map (mkv (pAgg Key_.cells) (pAgg Qa.cells))).length) (ap (at_mkv (kp:=(pAgg Key_.cells)) (vp:=(pAgg Qa.cells)) h24) (ap4 (Qaf h29) (ap (fit_map (te:=ti39) (xs:=v21) (n:=1) (c:=Qa.cells) h32 rfl) (ap (app_cv (xs:=v21) (ys:=[x23.2]) (c:=Qa.cells)) an)))))) (LoopQ2.norm ⟨sn0++[j22],rem.erase j22,(v21++[x23.2]),rfl,hR2,by omega,fun p hp=>by obtain ⟨o,h,hq⟩:=H2 p hp; refine ⟨o,?_,hq⟩; rw [Qbs] at h; simp only [h29,h32,cond_true,cond_false,Option.bind_some,req] at h; exact h⟩)
inductive f37r1n1O where
 | norm (v37:List Qa)
def f37r1n1E(bl1:List (Key_×Qa)):f37r1n1O→Ex×Tr×Hp
 | .norm v37=>(.norm,mkS [(3,(.own 1))],[some (.map (bl1.map (mkv (pAgg Key_.cells) (pAgg Qa.cells)))),jR 4 Qa.cells v37])
def f37r1n1S(bl1:List (Key_×Qa)):Tr×Hp:=(mkS [(0,(.mp 0)),(3,(.pl (.sl .nil 0 [])))],[some (.map (bl1.map (mkv (pAgg Key_.cells) (pAgg Qa.cells))))])
noncomputable def f37r1n1(bl1 p:List (Key_×Qa)):Option f37r1n1O :=
 (Qbs bl1 p []).bind fun o34=>match o34 with
 | .exit0 v36=>some (.norm v36)
theorem f37r1n1_ok(bl1:List (Key_×Qa)){Q:f37r1n1O→Prop}(H:∀p,p.Perm bl1→∃o,f37r1n1 bl1 p=some o∧Q o):T Tryd.prog Tryd.f37.ntmps 1 (cL (Qt 2 c37)) (f37r1n1S bl1) (fun r=>∃o,Q o∧r=f37r1n1E bl1 o):=by
 refine rN Qi 1 [j3] [] [.mat 3 4] [2,1] [3,7] (f37r1n2S bl1 [] []) an ?_;refine T.lastQ (T.blQ (i:=0) (by kernel_rfl) (by kernel_rfl) (f37r1n2_ok bl1 _ [] (List.range bl1.length) [] (Rem.start _) (Nat.lt_succ_self _) (Q:=fun y=>∃o,(match y with | .exit0 v36=>some (.norm v36))=some o∧Q o) (fun p hp=>by obtain ⟨o,h,hq⟩:=H _ (ords_perm hp); unfold f37r1n1 at h; obtain ⟨y,hy,h⟩:=bind_ex h; exact ⟨y,hy,o,h,hq⟩))) ?_
 rintro y ⟨o,h,hq⟩
 cases y with
 | exit0 v36 =>
  obtain rfl:=Qf h;exact Tidy.of [] [1] [3] ((f37r1n1E bl1 (.norm v36)).2) (by kernel_rfl) an ⟨_,hq,rfl⟩
inductive f37r1n0O where
 | ret (v45:List Qa)
def f37r1n0E(a1:List (Key_×Qa)):f37r1n0O→Ex×Tr×Hp
 | .ret v45=>(.ret,mkS [(2,(.own 1))],[some (.map (a1.map (mkv (pAgg Key_.cells) (pAgg Qa.cells)))),jR 4 Qa.cells v45])
def f37r1n0S(a1:List (Key_×Qa)):Tr×Hp:=(Qal [(.mp 0)] 0 .leaf,[some (.map (a1.map (mkv (pAgg Key_.cells) (pAgg Qa.cells))))])
noncomputable def f37r1n0(a1:List (Key_×Qa)):Option f37r1n0O :=
 (anyOrder a1 fun p=>(f37r1n1 a1 p).bind fun o38=>match o38 with
 | .norm v40=>(so59_41 v40).bind fun x43 =>
  some (.ret x43))
theorem f37r1n0_ok(a1:List (Key_×Qa)){o:f37r1n0O}(h:f37r1n0 a1=some o):T Tryd.prog Tryd.f37.ntmps 1 c37 (f37r1n0S a1) (·=f37r1n0E a1 o):=by
 unfold f37r1n0 at h;refine rN Qi 2 [j3,j3] [] [] [] [0,3] (f37r1n1S a1) an ?_;refine T.oneQ (by kernel_rfl) (f37r1n1_ok a1 (fun p hp=>bind_ex (anyOrder_at h p hp))) ?_;intro o38 h;cases o38 with
 | norm v40 =>
  refine OneR.go ((f37r1n1E a1 (.norm v40)).2) rfl ?_;obtain ⟨x43,h44,h⟩:=Qe h;obtain rfl:=Qf h;exact rE Qi [([],[(1,.call (.tup []) [none,jR 4 Qa.cells x43])],[]),j3] [] [] [1] [2] (.ret,(f37r1n0E a1 (.ret x43)).2) (ap (Ql.rn 2 [1] (so59_41_ok v40 h44)) an) rfl
noncomputable def f37r1(a1:List (Key_×Qa)):Option (List Qa):=(f37r1n0 a1).bind fun o=>match o with
 | .ret v45=>some v45
theorem f37r1_ok(a1:List (Key_×Qa)){r:List Qa}(h:f37r1 a1=some r):Ql Tryd.prog true 37 [(.mp 0)] [some (.map (a1.map (mkv (pAgg Key_.cells) (pAgg Qa.cells))))] (.own 1) [some (.map (a1.map (mkv (pAgg Key_.cells) (pAgg Qa.cells)))),jR 4 Qa.cells r]:=by
 unfold f37r1 at h;obtain ⟨o,ho,h⟩:=Qe h;cases o with
 | ret v45 =>
  obtain rfl:=Qf h;exact Ql.shared Qi (f:=Tryd.f37) (c:=c37) (by kernel_rfl) (by kernel_rfl) (by kernel_rfl) ((f37r1n0_ok a1 ho).mono fun r e=>by subst e; exact ⟨.inl rfl,by kernel_rfl,by kernel_rfl⟩)

noncomputable def c21:Code:=Tryd.f21.body.getD .skip
inductive f21n3O where
 | exit2 (v187:List (Key_×Qa))
def f21n3E(bf1 bf2 bf3:Int)(ba4:Qj)(bf5:Int)(x143:Qb):f21n3O→Ex×Tr×Hp
 | .exit2 v187=>((.exit 2),mkS [(1,(jI bf1)),(2,(jI bf2)),(3,(jI bf3)),(8,(.bp 0 0)),(10,(.mp 1)),(40,(.pl (.sl .any 3 (((ba4.Records.take (Int.toNat bf3)).drop 0).map Qb.cells)))),(41,(.pl (.int .i64 (((ba4.Records.take (Int.toNat bf3)).drop 0).length:Int)))),(42,(jI bf5))],[some (.box 24 [(jI 0),(jI 0),(jI 0),(.pl (.sl .nil 0 []))]),some (.map (v187.map (mkv (pAgg Key_.cells) (pAgg Qa.cells))))])
def f21n3S(bf1 bf2 bf3:Int)(ba4:Qj)(bf5:Int)(x143:Qb)(v175:Int)(v176:List (Key_×Qa)):Tr×Hp:=(mkS [(1,(jI bf1)),(2,(jI bf2)),(3,(jI bf3)),(8,(.bp 0 0)),(10,(.mp 1)),(40,(.pl (.sl .any 3 (((ba4.Records.take (Int.toNat bf3)).drop 0).map Qb.cells)))),(41,(.pl (.int .i64 (((ba4.Records.take (Int.toNat bf3)).drop 0).length:Int)))),(42,(jI bf5)),(57,(jL 3 Qc.cells x143.Lines)),(58,(jI (x143.Lines.length:Int))),(59,(jI v175))],[some (.box 24 [(jI 0),(jI 0),(jI 0),(.pl (.sl .nil 0 []))]),some (.map (v176.map (mkv (pAgg Key_.cells) (pAgg Qa.cells))))])
noncomputable def f21n3:Nat→Int→Int→Int→Qj→Int→Qb→Int→List (Key_×Qa)→Option f21n3O
 | 0,_,_,_,_,_,_,_,_=>none
 | f+1,bf1,bf2,bf3,ba4,bf5,x143,v175,v176 =>
  bif decide (v175<(x143.Lines.length:Int)) then
   (at? x143.Lines v175).bind fun x183 =>
   (f36r2 x183.Account x183.Ccy (mxI x183.Amount 0) (mxI (wr64 (0-x183.Amount)) 0) v176).bind fun x185 =>
   (f21n3 f bf1 bf2 bf3 ba4 bf5 x143 (wr64 (v175+1)) (mPut Key_.eqb (Key_.mk x183.Account x183.Ccy) (Qa.mk x183.Account x183.Ccy (wr64 ((mGet Key_.eqb (Qa.mk Qy Qy 0 0) (Key_.mk x183.Account x183.Ccy) v176).In+(mxI x183.Amount 0))) (wr64 ((mGet Key_.eqb (Qa.mk Qy Qy 0 0) (Key_.mk x183.Account x183.Ccy) v176).Out+(mxI (wr64 (0-x183.Amount)) 0)))) v176))
  else
   some (.exit2 v176)
theorem f21n3_ok:∀(f:Nat)(bf1 bf2 bf3:Int)(ba4:Qj)(bf5:Int)(x143:Qb)(v175:Int)(v176:List (Key_×Qa)){o:f21n3O},f21n3 f bf1 bf2 bf3 ba4 bf5 x143 v175 v176=some o→TL Tryd.prog Tryd.f21.ntmps 0 f (cL (cL (Qt 3 (cL (cL (Qt 2 (cL (cL (Qt 1 (cL (Qt 4 c21))))))))))) (f21n3S bf1 bf2 bf3 ba4 bf5 x143 v175 v176) (·=f21n3E bf1 bf2 bf3 ba4 bf5 x143 o)
 | 0,_,_,_,_,_,_,_,_,o,h=>by rw [f21n3] at h; cases h
 | f+1,bf1,bf2,bf3,ba4,bf5,x143,v175,v176,o,h=>by
  rw [f21n3] at h;refine TL.body (K:=fun s=>∃v175:Int,∃v176:List (Key_×Qa),s=(f21n3S bf1 bf2 bf3 ba4 bf5 x143 v175 v176)∧f21n3 f bf1 bf2 bf3 ba4 bf5 x143 v175 v176=some o) ?_ (by rintro _ ⟨v175,v176,rfl,hk⟩; exact f21n3_ok f _ _ _ _ _ _ _ _ hk);rcases Qg h with ⟨h178,h⟩|⟨h178,h⟩
  ·obtain ⟨x183,h184,h⟩:=Qe h;obtain ⟨x185,h186,h⟩:=Qe h
   exact rE Qi [j3,([],[(0,.idx (Int.toNat v175) (Qc.cells x183))],[]),([],[(12,.call (.tup []) [none,some (.map ((mPut Key_.eqb (Key_.mk x183.Account x183.Ccy) (Qa.mk x183.Account x183.Ccy (wr64 ((mGet Key_.eqb (Qa.mk Qy Qy 0 0) (Key_.mk x183.Account x183.Ccy) v176).In+(mxI x183.Amount 0))) (wr64 ((mGet Key_.eqb (Qa.mk Qy Qy 0 0) (Key_.mk x183.Account x183.Ccy) v176).Out+(mxI (wr64 (0-x183.Amount)) 0)))) v176).map (mkv (pAgg Key_.cells) (pAgg Qa.cells)))),none])],[]),j3] [some true] [] [0,1] [1,2,3,8,10,40,41,42,57,58,59] (.norm,(f21n3S bf1 bf2 bf3 ba4 bf5 x143 (wr64 (v175+1)) (mPut Key_.eqb (Key_.mk x183.Account x183.Ccy) (Qa.mk x183.Account x183.Ccy (wr64 ((mGet Key_.eqb (Qa.mk Qy Qy 0 0) (Key_.mk x183.Account x183.Ccy) v176).In+(mxI x183.Amount 0))) (wr64 ((mGet Key_.eqb (Qa.mk Qy Qy 0 0) (Key_.mk x183.Account x183.Ccy) v176).Out+(mxI (wr64 (0-x183.Amount)) 0)))) v176))) (ap h178 (ap (Qm h184).1 (ap (Qag Qc.cells (Qm h184).2) (ap (Ql.rn 3 [1] (f36r2_ok x183.Account x183.Ccy (mxI x183.Amount 0) (mxI (wr64 (0-x183.Amount)) 0) v176 h186)) an)))) (Qad.norm ⟨(wr64 (v175+1)),(mPut Key_.eqb (Key_.mk x183.Account x183.Ccy) (Qa.mk x183.Account x183.Ccy (wr64 ((mGet Key_.eqb (Qa.mk Qy Qy 0 0) (Key_.mk x183.Account x183.Ccy) v176).In+(mxI x183.Amount 0))) (wr64 ((mGet Key_.eqb (Qa.mk Qy Qy 0 0) (Key_.mk x183.Account x183.Ccy) v176).Out+(mxI (wr64 (0-x183.Amount)) 0)))) v176),rfl,h⟩)
  ·obtain rfl:=Qf h;exact rK Qi 2 [j3] [some false] [] [0,1] [1,2,3,8,10,40,41,42] (.exit 2) ((f21n3E bf1 bf2 bf3 ba4 bf5 x143 (.exit2 v176)).2) (ap h178 an) (Qad.out rfl rfl)
noncomputable def f21n3L(bf1 bf2 bf3:Int)(ba4:Qj)(bf5:Int)(x143:Qb):List Qc→Int→(List (Key_×Qa))→Option f21n3O
 | [],v175,v176 =>
  some (.exit2 v176)
 | x0::rest,v175,v176 =>
  (f36r2 x0.Account x0.Ccy (mxI x0.Amount 0) (mxI (wr64 (0-x0.Amount)) 0) v176).bind fun x185 =>
  (f21n3L bf1 bf2 bf3 ba4 bf5 x143 rest (v175+1) (mPut Key_.eqb (Key_.mk x0.Account x0.Ccy) (Qa.mk x0.Account x0.Ccy (wr64 ((mGet Key_.eqb (Qa.mk Qy Qy 0 0) (Key_.mk x0.Account x0.Ccy) v176).In+(mxI x0.Amount 0))) (wr64 ((mGet Key_.eqb (Qa.mk Qy Qy 0 0) (Key_.mk x0.Account x0.Ccy) v176).Out+(mxI (wr64 (0-x0.Amount)) 0)))) v176))
theorem f21n3L_eq(bf1 bf2 bf3:Int)(ba4:Qj)(bf5:Int)(x143:Qb):∀(rest:List Qc)(f k:Nat)(v176:List (Key_×Qa)),x143.Lines.drop k=rest→x143.Lines.length≤maxLen→rest.length<f→f21n3 f bf1 bf2 bf3 ba4 bf5 x143 (k:Int) v176=f21n3L bf1 bf2 bf3 ba4 bf5 x143 rest (k:Int) v176
 | _,0,_,_,_,_,hf=>absurd hf (Nat.not_lt_zero _)
 | [],f+1,k,v176,hd,hm,hf=>by
  have hk:¬((k:Int)<(x143.Lines.length:Int)):=by have:=Qbj hd; omega
  rw [f21n3,f21n3L];simp only [decide_eq_false hk,cond_false]
 | x0::rest,f+1,k,v176,hd,hm,hf=>by
  obtain ⟨hx,hlt,hd'⟩:=Qbn hd;have hk:(k:Int)<(x143.Lines.length:Int):=by omega
  have hw:wr64 ((k:Int)+1)=(k:Int)+1:=wr64_of (by omega) (by unfold maxLen at hm; omega);have ih:∀(v176:List (Key_×Qa)),f21n3 f bf1 bf2 bf3 ba4 bf5 x143 ((k:Int)+1) v176=f21n3L bf1 bf2 bf3 ba4 bf5 x143 rest ((k:Int)+1) v176:=fun v176=>f21n3L_eq bf1 bf2 bf3 ba4 bf5 x143 rest f (k+1) v176 hd' hm (by simpa using hf);rw [f21n3,f21n3L];simp only [decide_eq_true hk,cond_true,at_nat,hx,Option.bind_some,hw,ih]
theorem f21n3_run(bf1 bf2 bf3:Int)(ba4:Qj)(bf5:Int)(x143:Qb)(v176:List (Key_×Qa))(hm:x143.Lines.length≤maxLen):f21n3 FUEL bf1 bf2 bf3 ba4 bf5 x143 0 v176=f21n3L bf1 bf2 bf3 ba4 bf5 x143 x143.Lines 0 v176:=f21n3L_eq bf1 bf2 bf3 ba4 bf5 x143 x143.Lines FUEL 0 v176 List.drop_zero hm (lt_FUEL hm)
inductive f21n2O where
 | norm (v191:List (Key_×Qa))
def f21n2E(bf1 bf2 bf3:Int)(ba4:Qj)(bf5:Int)(bl6:List (Key_×Qa)):f21n2O→Ex×Tr×Hp
 | .norm v191=>(.norm,mkS [(1,(jI bf1)),(2,(jI bf2)),(3,(jI bf3)),(8,(.bp 0 0)),(10,(.mp 1)),(40,(.pl (.sl .any 3 (((ba4.Records.take (Int.toNat bf3)).drop 0).map Qb.cells)))),(41,(.pl (.int .i64 (((ba4.Records.take (Int.toNat bf3)).drop 0).length:Int)))),(42,(jI bf5))],[some (.box 24 [(jI 0),(jI 0),(jI 0),(.pl (.sl .nil 0 []))]),some (.map (v191.map (mkv (pAgg Key_.cells) (pAgg Qa.cells))))])
def f21n2S(bf1 bf2 bf3:Int)(ba4:Qj)(bf5:Int)(bl6:List (Key_×Qa)):Tr×Hp:=(mkS [(1,(jI bf1)),(2,(jI bf2)),(3,(jI bf3)),(8,(.bp 0 0)),(10,(.mp 1)),(40,(.pl (.sl .any 3 (((ba4.Records.take (Int.toNat bf3)).drop 0).map Qb.cells)))),(41,(.pl (.int .i64 (((ba4.Records.take (Int.toNat bf3)).drop 0).length:Int)))),(42,(jI bf5))],[some (.box 24 [(jI 0),(jI 0),(jI 0),(.pl (.sl .nil 0 []))]),some (.map (bl6.map (mkv (pAgg Key_.cells) (pAgg Qa.cells))))])
noncomputable def f21n2(bf1 bf2 bf3:Int)(ba4:Qj)(bf5:Int)(bl6:List (Key_×Qa)):Option f21n2O :=
 (at? ((ba4.Records.take (Int.toNat bf3)).drop 0) bf5).bind fun x143 =>
 (f23 x143).bind fun x149 =>
 bif decide (x149<bf1) then
  some (.norm bl6)
 else
  bif decide (bf2≤x149) then
   some (.norm bl6)
  else
   (f21n3 FUEL bf1 bf2 bf3 ba4 bf5 x143 0 bl6).bind fun o188=>match o188 with
   | .exit2 v190=>some (.norm v190)
theorem f21n2_ok(bf1 bf2 bf3:Int)(ba4:Qj)(bf5:Int)(bl6:List (Key_×Qa)){o:f21n2O}(h:f21n2 bf1 bf2 bf3 ba4 bf5 bl6=some o):T Tryd.prog Tryd.f21.ntmps 0 (cL (Qt 2 (cL (cL (Qt 1 (cL (Qt 4 c21))))))) (f21n2S bf1 bf2 bf3 ba4 bf5 bl6) (·=f21n2E bf1 bf2 bf3 ba4 bf5 bl6 o):=by
 unfold f21n2 at h;refine T.block' (i:=1) (by kernel_rfl) ?_;obtain ⟨x143,h144,h⟩:=Qe h;obtain ⟨x149,h150,h⟩:=Qe h;rcases Qg h with ⟨h151,h⟩|⟨h151,h⟩
 ·obtain rfl:=Qf h;exact rK Qi 2 [([],[(0,.idx (Int.toNat bf5) (Qb.cells x143))],[]),([],[jH 1 (jI x149)],[]),(jT [4,5,6],[(7,.bool true)],[])] [none] [] [0,1] [1,2,3,8,10,40,41,42] (.exit 1) ((f21n2E bf1 bf2 bf3 ba4 bf5 bl6 (.norm bl6)).2) (ap (Qm h144).1 (ap (Qag Qb.cells (Qm h144).2) (ap (Qas x143 h150) (ap4 h151 an)))) rfl
 ·rcases Qg h with ⟨h152,h⟩|⟨h152,h⟩
  ·obtain rfl:=Qf h;exact rK Qi 2 [([],[(0,.idx (Int.toNat bf5) (Qb.cells x143))],[]),([],[jH 1 (jI x149)],[]),(jF [4,5,6],[(7,.bool false)],[])] [some true] [] [0,1] [1,2,3,8,10,40,41,42] (.exit 1) ((f21n2E bf1 bf2 bf3 ba4 bf5 bl6 (.norm bl6)).2) (ap (Qm h144).1 (ap (Qag Qb.cells (Qm h144).2) (ap (Qas x143 h150) (ap4 h151 (ap h152 an))))) rfl
  ·refine rN Qi 3 [([],[(0,.idx (Int.toNat bf5) (Qb.cells x143))],[]),([],[jH 1 (jI x149)],[]),(jF [4,5,6],[(7,.bool false)],[]),([],[],[(2,.val (jI (x143.Lines.length:Int)))])] [some false] [] [0,1] [1,2,3,8,10,40,41,42,57,58,59] (f21n3S bf1 bf2 bf3 ba4 bf5 x143 0 bl6) (ap (Qm h144).1 (ap (Qag Qb.cells (Qm h144).2) (ap (Qas x143 h150) (ap4 h151 (ap h152 (ap (Qan (xs:=x143.Lines) (c:=Qc.cells)) an)))))) ?_;obtain ⟨o188,h189,h⟩:=Qe h;cases o188 with
   | exit2 v190 =>
    obtain rfl:=Qf h;exact T.last' (T.bl (i:=2) (by kernel_rfl) (by kernel_rfl) (f21n3_ok FUEL bf1 bf2 bf3 ba4 bf5 x143 0 bl6 h189)) (tds:=[]) (m:=[0,1]) (keep:=[1,2,3,8,10,40,41,42]) (st2:=(f21n2E bf1 bf2 bf3 ba4 bf5 bl6 (.norm v190)).2) (by kernel_rfl) an rfl
inductive f21n4O where
 | exit0 (v195:List (Key_×Qa))
def f21n4E(bf1 bf2 bf3:Int)(ba4:Qj):f21n4O→Ex×Tr×Hp
 | .exit0 v195=>((.exit 0),mkS [(1,(jI bf1)),(2,(jI bf2)),(3,(jI bf3)),(8,(.bp 0 0)),(10,(.mp 1))],[some (.box 24 [(jI 0),(jI 0),(jI 0),(.pl (.sl .nil 0 []))]),some (.map (v195.map (mkv (pAgg Key_.cells) (pAgg Qa.cells))))])
def f21n4S(bf1 bf2 bf3:Int)(ba4:Qj)(v137:Int)(v138:List (Key_×Qa)):Tr×Hp:=(mkS [(1,(jI bf1)),(2,(jI bf2)),(3,(jI bf3)),(8,(.bp 0 0)),(10,(.mp 1)),(40,(.pl (.sl .any 3 (((ba4.Records.take (Int.toNat bf3)).drop 0).map Qb.cells)))),(41,(.pl (.int .i64 (((ba4.Records.take (Int.toNat bf3)).drop 0).length:Int)))),(42,(jI v137))],[some (.box 24 [(jI 0),(jI 0),(jI 0),(.pl (.sl .nil 0 []))]),some (.map (v138.map (mkv (pAgg Key_.cells) (pAgg Qa.cells))))])
noncomputable def f21n4:Nat→Int→Int→Int→Qj→Int→List (Key_×Qa)→Option f21n4O
 | 0,_,_,_,_,_,_=>none
 | f+1,bf1,bf2,bf3,ba4,v137,v138 =>
  bif (decide (v137<(((ba4.Records.take (Int.toNat bf3)).drop 0).length:Int))) then
   (f21n2 bf1 bf2 bf3 ba4 v137 v138).bind fun o192=>match o192 with
   | .norm v194=>(f21n4 f bf1 bf2 bf3 ba4 (wr64 (v137+1)) v194)
  else
   some (.exit0 v138)
theorem f21n4_ok:∀(f:Nat)(bf1 bf2 bf3:Int)(ba4:Qj)(v137:Int)(v138:List (Key_×Qa)){o:f21n4O},f21n4 f bf1 bf2 bf3 ba4 v137 v138=some o→TL Tryd.prog Tryd.f21.ntmps 0 f (cL (cL (Qt 1 (cL (Qt 4 c21))))) (f21n4S bf1 bf2 bf3 ba4 v137 v138) (·=f21n4E bf1 bf2 bf3 ba4 o)
 | 0,_,_,_,_,_,_,o,h=>by rw [f21n4] at h; cases h
 | f+1,bf1,bf2,bf3,ba4,v137,v138,o,h=>by
  rw [f21n4] at h;refine TL.body (K:=fun s=>∃v137:Int,∃v138:List (Key_×Qa),s=(f21n4S bf1 bf2 bf3 ba4 v137 v138)∧f21n4 f bf1 bf2 bf3 ba4 v137 v138=some o) ?_ (by rintro _ ⟨v137,v138,rfl,hk⟩; exact f21n4_ok f _ _ _ _ _ _ hk);rcases Qg h with ⟨h140,h⟩|⟨h140,h⟩
  ·refine rN Qi 2 [j3] [some true] [] [0,1] [1,2,3,8,10,40,41,42] (f21n2S bf1 bf2 bf3 ba4 v137 v138) (ap h140 an) ?_;obtain ⟨o192,h193,h⟩:=Qe h;cases o192 with
   | norm v194 =>
    refine T.oneN (by kernel_rfl) (f21n2_ok bf1 bf2 bf3 ba4 v137 v138 h193) (st2:=(f21n2E bf1 bf2 bf3 ba4 v137 v138 (.norm v194)).2) rfl ?_;exact rE Qi [j3] [] [] [0,1] [1,2,3,8,10,40,41,42] (.norm,(f21n4S bf1 bf2 bf3 ba4 (wr64 (v137+1)) v194)) an (Qad.norm ⟨(wr64 (v137+1)),v194,rfl,h⟩)
  ·obtain rfl:=Qf h;exact rK Qi 2 [j3] [some false] [] [0,1] [1,2,3,8,10] (.exit 0) ((f21n4E bf1 bf2 bf3 ba4 (.exit0 v138)).2) (ap h140 an) (Qad.out rfl rfl)
inductive f21n1O where
 | norm (v199:List (Key_×Qa))
def f21n1E(bf1 bf2 bf3:Int)(ba4:Qj):f21n1O→Ex×Tr×Hp
 | .norm v199=>(.norm,mkS [(1,(jI bf1)),(2,(jI bf2)),(3,(jI bf3)),(8,(.bp 0 0)),(10,(.mp 1))],[some (.box 24 [(jI 0),(jI 0),(jI 0),(.pl (.sl .nil 0 []))]),some (.map (v199.map (mkv (pAgg Key_.cells) (pAgg Qa.cells))))])
def f21n1S(bf1 bf2 bf3:Int)(ba4:Qj):Tr×Hp:=(mkS [(1,(jI bf1)),(2,(jI bf2)),(3,(jI bf3)),(4,(.bp 0 0)),(8,(.bp 1 0)),(10,(.mp 2))],[some (.box 43 ((Qj.cells ba4).map .pl)),some (.box 24 [(jI 0),(jI 0),(jI 0),(.pl (.sl .nil 0 []))]),some (.map ([].map (mkv (pAgg Key_.cells) (pAgg Qa.cells))))])
noncomputable def f21n1(bf1 bf2 bf3:Int)(ba4:Qj):Option f21n1O :=
 req (cutB 0 bf3 ba4.Records.length) <|
 (f21n4 FUEL bf1 bf2 bf3 ba4 0 []).bind fun o196=>match o196 with
 | .exit0 v198=>some (.norm v198)
theorem f21n1_ok(bf1 bf2 bf3:Int)(ba4:Qj){o:f21n1O}(h:f21n1 bf1 bf2 bf3 ba4=some o):T Tryd.prog Tryd.f21.ntmps 0 (cL (Qt 4 c21)) (f21n1S bf1 bf2 bf3 ba4) (·=f21n1E bf1 bf2 bf3 ba4 o):=by
 unfold f21n1 at h;obtain ⟨h22,h⟩:=Qam h;refine rN Qi 1 [([],[(3,.cut 0 (Int.toNat bf3))],[(3,.val (.pl (.sl .any 3 (((ba4.Records.take (Int.toNat bf3)).drop 0).map Qb.cells)))),(4,.val (.pl (.int .i64 (((ba4.Records.take (Int.toNat bf3)).drop 0).length:Int))))])] [] [] [1,2] [1,2,3,8,10,40,41,42] (f21n4S bf1 bf2 bf3 ba4 0 []) (ap (cut_hn_1_map (c:=Qb.cells) h22) (ap (cut_hn_2 h22) (ap (cut_hn_3 h22) (ap (cut_hn_4_map (c:=Qb.cells) h22) (ap (congrArg (fun l=>AV.pl (.sl .any 3 l)) (cut_cv (xs:=ba4.Records) (c:=Qb.cells) (n:=(Int.toNat bf3)) (m:=0))) (ap (Qan (xs:=((ba4.Records.take (Int.toNat bf3)).drop 0)) (c:=Qb.cells)) an)))))) ?_;obtain ⟨o196,h197,h⟩:=Qe h;cases o196 with
 | exit0 v198 =>
  obtain rfl:=Qf h;exact T.last' (T.bl (i:=0) (by kernel_rfl) (by kernel_rfl) (f21n4_ok FUEL bf1 bf2 bf3 ba4 0 [] h197)) (tds:=[]) (m:=[0,1]) (keep:=[1,2,3,8,10]) (st2:=(f21n1E bf1 bf2 bf3 ba4 (.norm v198)).2) (by kernel_rfl) an rfl
inductive f21n0O where
 | ret (v207:Int) (v208:Int) (v209:Int) (v210:Int) (v211:List Qa)
def f21n0E(a1:Qj)(a2 a3 a4:Int):f21n0O→Ex×Tr×Hp
 | .ret v207 v208 v209 v210 v211=>(.ret,mkS [(8,(.bp 0 0)),(9,(jI v207))],[some (.box 24 [(jI v208),(jI v209),(jI v210),(.own 1)]),jR 4 Qa.cells v211])
def f21n0S(a1:Qj)(a2 a3 a4:Int):Tr×Hp:=(Qal [(jA Qj.cells a1),(jI a2),(jI a3),(jI a4)] 0 .leaf,[])
noncomputable def f21n0(a1:Qj)(a2 a3 a4:Int):Option f21n0O :=
 (f50 a1).bind fun x8 =>
 bif decide (x8=0) then
  (f39 a2 a3).bind fun x16 =>
  bif x16 then
   bif decide (a4<0) then
    some (.ret 2 0 0 0 [])
   else
    bif decide ((a1.Records.length:Int)<a4) then
     some (.ret 2 0 0 0 [])
    else
     (f21n1 a2 a3 a4 a1).bind fun o200=>match o200 with
     | .norm v202=>(f37r1 v202).bind fun x205 =>
      some (.ret 0 a2 a3 a4 x205)
  else
   some (.ret 2 0 0 0 [])
 else
  some (.ret 8 0 0 0 [])
theorem f21n0_ok(a1:Qj)(a2 a3 a4:Int){o:f21n0O}(h:f21n0 a1 a2 a3 a4=some o):T Tryd.prog Tryd.f21.ntmps 0 c21 (f21n0S a1 a2 a3 a4) (·=f21n0E a1 a2 a3 a4 o):=by
 unfold f21n0 at h;obtain ⟨x8,h9,h⟩:=Qe h;rcases Qg h with ⟨h10,h⟩|⟨h10,h⟩
 ·obtain ⟨x16,h17,h⟩:=Qe h;rcases Qg h with ⟨h18,h⟩|⟨h18,h⟩
  ·rcases Qg h with ⟨h19,h⟩|⟨h19,h⟩
   ·obtain rfl:=Qf h;exact rK Qi 3 [j3,([],[jH 1 (jI x8)],[]),(jF [5,6]++jT [9,10,11,12,13],[jH 2 (jB x16),(7,.bool false),(14,.bool true)],[]),j3] [some false,none] [.matC 1 3 4] [1,2] [8,9] .ret ((f21n0E a1 a2 a3 a4 (.ret 2 0 0 0 [])).2) (ap (f50_ok a1 h9) (ap (Qq h10) (ap3 (Qq h18) (ap2 h19 (ap4 h19 (ap (f39_ok a2 a3 h17) an)))))) rfl
   ·rcases Qg h with ⟨h20,h⟩|⟨h20,h⟩
    ·obtain rfl:=Qf h;exact rK Qi 3 [j3,([],[jH 1 (jI x8)],[]),(jF [5,6,9,10,11,12,13],[jH 2 (jB x16),(7,.bool false),(14,.bool false)],[(12,.val (jI (a1.Records.length:Int)))]),j3] [some false,some true] [.matC 1 3 4] [1,2] [8,9] .ret ((f21n0E a1 a2 a3 a4 (.ret 2 0 0 0 [])).2) (ap (f50_ok a1 h9) (ap (Qq h10) (ap3 (Qq h18) (ap4 h19 (ap (Qan (xs:=a1.Records) (c:=Qb.cells)) (ap2 h19 (ap (f39_ok a2 a3 h17) (ap h20 an)))))))) rfl
    ·refine rN Qi 4 [j3,([],[jH 1 (jI x8)],[]),(jF [5,6,9,10,11,12,13],[jH 2 (jB x16),(7,.bool false),(14,.bool false)],[(12,.val (jI (a1.Records.length:Int)))]),j3] [some false,some false] [] [0,1,2] [1,2,3,4,8,10] (f21n1S a2 a3 a4 a1) (ap (f50_ok a1 h9) (ap (Qq h10) (ap3 (Qq h18) (ap4 h19 (ap (Qan (xs:=a1.Records) (c:=Qb.cells)) (ap2 h19 (ap (f39_ok a2 a3 h17) (ap h20 an)))))))) ?_;obtain ⟨o200,h201,h⟩:=Qe h;cases o200 with
     | norm v202 =>
      refine T.oneN (by kernel_rfl) (f21n1_ok a2 a3 a4 a1 h201) (st2:=(f21n1E a2 a3 a4 a1 (.norm v202)).2) rfl ?_;obtain ⟨x205,h206,h⟩:=Qe h;obtain rfl:=Qf h;exact rE Qi [([],[(4,.call (.own 2) [none,some (.map (v202.map (mkv (pAgg Key_.cells) (pAgg Qa.cells)))),jR 4 Qa.cells x205])],[])] [] [] [0,2] [8,9] (.ret,(f21n0E a1 a2 a3 a4 (.ret 0 a2 a3 a4 x205)).2) (ap (Ql.rn 2 [1] (f37r1_ok v202 h206)) an) rfl
  ·obtain rfl:=Qf h;exact rK Qi 3 [j3,([],[jH 1 (jI x8)],[]),([(5,true),(6,true)],[jH 2 (jB x16),(7,.bool true)],[]),j3] [some false,none] [.matC 1 3 4] [1,2] [8,9] .ret ((f21n0E a1 a2 a3 a4 (.ret 2 0 0 0 [])).2) (ap (f50_ok a1 h9) (ap (Qq h10) (ap3 (Qaf h18) (ap (f39_ok a2 a3 h17) an)))) rfl
 ·obtain rfl:=Qf h;exact rK Qi 2 [j3,([],[jH 1 (jI x8)],[]),j3] [some true] [.matC 1 3 4] [1,2] [8,9] .ret ((f21n0E a1 a2 a3 a4 (.ret 8 0 0 0 [])).2) (ap (f50_ok a1 h9) (ap (Qaf h10) an)) rfl
noncomputable def f21(a1:Qj)(a2 a3 a4:Int):Option (Qh×Int):=(f21n0 a1 a2 a3 a4).bind fun o=>match o with
 | .ret v207 v208 v209 v210 v211=>some ((Qh.mk v208 v209 v210 v211),v207)
theorem f21_ok(a1:Qj)(a2 a3 a4:Int){r:Qh×Int}(h:f21 a1 a2 a3 a4=some r):Ql Tryd.prog false 21 [(jA Qj.cells a1),(jI a2),(jI a3),(jI a4)] [] (.tup [(jA Qh.cells r.1),(jI r.2)]) []:=by
 unfold f21 at h;obtain ⟨o,ho,h⟩:=Qe h;cases o with
 | ret v207 v208 v209 v210 v211 =>
  obtain rfl:=Qf h;exact Ql.plain Qi (f:=Tryd.f21) (c:=c21) (by kernel_rfl) (by kernel_rfl) (by kernel_rfl) (by kernel_rfl) ((f21n0_ok a1 a2 a3 a4 ho).mono fun r e=>by subst e; exact ⟨.inl rfl,(.tup [(.agg [(jI v208),(jI v209),(jI v210),(.own 1)]),(jI v207)]),(.tup [(.pl (.agg (Qh.cells (Qh.mk v208 v209 v210 v211)))),(jI v207)]),by kernel_rfl,by kernel_rfl,((Wk.refl _):Wk (.tup [(.pl (.agg (Qh.cells (Qh.mk v208 v209 v210 v211)))),(jI v207)]) (.tup [(.pl (.agg (Qh.cells (Qh.mk v208 v209 v210 v211)))),(jI v207)]))⟩)

noncomputable def c15:Code:=Tryd.f15.body.getD .skip
inductive f15n4O where
 | norm (v396:Bool)
def f15n4E(bf1 bf2 bf3:Int)(bq4:Qh)(bg5:List (ByteArray×Int))(br6:Qa):f15n4O→Ex×Tr×Hp
 | .norm v396=>(.norm,mkS [(1,(.bp 0 0)),(3,(jI bf1)),(4,(jI bf2)),(5,(.mp 1)),(7,(.bp 2 0)),(28,(jL 4 Qa.cells bq4.Rows)),(29,(jI (bq4.Rows.length:Int))),(30,(jI bf3)),(93,(jB v396))],[some (.box 24 ((Qh.cells bq4).map .pl)),some (.map (bg5.map (mkv pStr (pInt .i64)))),some (.box 39 ((Qa.cells br6).map .pl))])
def f15n4S(bf1 bf2 bf3:Int)(bq4:Qh)(bg5:List (ByteArray×Int))(br6:Qa):Tr×Hp:=(mkS [(1,(.bp 0 0)),(3,(jI bf1)),(4,(jI bf2)),(5,(.mp 1)),(6,(jI bf3)),(7,(.bp 2 0)),(28,(jL 4 Qa.cells bq4.Rows)),(29,(jI (bq4.Rows.length:Int))),(30,(jI bf3))],[some (.box 24 ((Qh.cells bq4).map .pl)),some (.map (bg5.map (mkv pStr (pInt .i64)))),some (.box 39 ((Qa.cells br6).map .pl))])
noncomputable def f15n4(bf1 bf2 bf3:Int)(bq4:Qh)(bg5:List (ByteArray×Int))(br6:Qa):Option f15n4O :=
 (f40 br6.Account).bind fun x372 =>
 bif x372 then
  (f40 br6.Ccy).bind fun x375 =>
  bif x375 then
   bif decide (0<bf3) then
    (at? bq4.Rows (wr64 (bf3-1))).bind fun x379 =>
    (f41 x379 br6).bind fun x381 =>
    bif decide (0≤x381) then
     some (.norm true)
    else
     bif decide (br6.In<0) then
      some (.norm true)
     else
      bif decide (br6.Out<0) then
       some (.norm true)
      else
       bif decide (br6.In=0) then
        bif decide (br6.Out=0) then
         some (.norm true)
        else
         bif (decide ((wr64 (4503599627370496000-bf1))<br6.In)) then
          some (.norm true)
         else
          some (.norm (decide ((wr64 (4503599627370496000-bf2))<br6.Out)))
       else
        bif (decide ((wr64 (4503599627370496000-bf1))<br6.In)) then
         some (.norm true)
        else
         some (.norm (decide ((wr64 (4503599627370496000-bf2))<br6.Out)))
   else
    bif decide (br6.In<0) then
     some (.norm true)
    else
     bif decide (br6.Out<0) then
      some (.norm true)
     else
      bif decide (br6.In=0) then
       bif decide (br6.Out=0) then
        some (.norm true)
       else
        bif (decide ((wr64 (4503599627370496000-bf1))<br6.In)) then
         some (.norm true)
        else
         some (.norm (decide ((wr64 (4503599627370496000-bf2))<br6.Out)))
      else
       bif (decide ((wr64 (4503599627370496000-bf1))<br6.In)) then
        some (.norm true)
       else
        some (.norm (decide ((wr64 (4503599627370496000-bf2))<br6.Out)))
  else
   some (.norm true)
 else
  some (.norm true)
theorem f15n4_ok(bf1 bf2 bf3:Int)(bq4:Qh)(bg5:List (ByteArray×Int))(br6:Qa){o:f15n4O}(h:f15n4 bf1 bf2 bf3 bq4 bg5 br6=some o):T Tryd.prog Tryd.f15.ntmps 0 (cL (Qt 0 (cL (Qt 1 (cL (cL (Qt 2 (cL (cL (Qt 1 (cL (Qt 4 c15)))))))))))) (f15n4S bf1 bf2 bf3 bq4 bg5 br6) (·=f15n4E bf1 bf2 bf3 bq4 bg5 br6 o):=by
 unfold f15n4 at h;obtain ⟨x372,h373,h⟩:=Qe h;rcases Qg h with ⟨h374,h⟩|⟨h374,h⟩
 ·obtain ⟨x375,h376,h⟩:=Qe h;rcases Qg h with ⟨h377,h⟩|⟨h377,h⟩
  ·rcases Qg h with ⟨h378,h⟩|⟨h378,h⟩
   ·obtain ⟨x379,h380,h⟩:=Qe h;obtain ⟨x381,h382,h⟩:=Qe h;rcases Qg h with ⟨h383,h⟩|⟨h383,h⟩
    ·obtain rfl:=Qf h
     exact rE Qi [(jF [5,6,7,8,11,12,13,23]++jT [14,15,16,17,18,19,20,21,22,26,27,28],[jH 2 (jB x372),jH 7 (jB x375),(9,.bool false),(18,.idx (Int.toNat (wr64 (bf3-1))) (Qa.cells x379)),jH 21 (jI x381),(23,.bool true),(24,.bool false),(29,.bool true)],[])] [] [] [0,1,2] [1,3,4,5,7,28,29,30,93] (.norm,(f15n4E bf1 bf2 bf3 bq4 bg5 br6 (.norm true)).2) (ap (Qq h374) (ap4 (Qq h374) (ap3 (Qq h377) (ap h378 (ap4 h378 (ap (Qm h380).1 (ap (Qag Qa.cells (Qm h380).2) (ap4 h378 (ap (Qq h377) (ap h378 (ap (Qq h377) (ap4 h383 (ap (Qz (e:=⟨false,40,[(jS br6.Account)],[],(jB x372),[]⟩) (f:=⟨false,40,[(jS br6.Ccy)],[],(jB x375),[]⟩) (fun k=>by simp only [jL,jS,jI,jB,jA,Qc.cells_eq,Qc.map_eq,Qb.cells_eq,Qb.map_eq,Qj.cells_eq,Qj.map_eq,Qd.cells_eq,Qd.map_eq,Qa.cells_eq,Qa.map_eq,Qh.cells_eq,Qh.map_eq,Key_.cells_eq,Key_.map_eq,Qr.cells_eq,Qr.map_eq,List.cons.injEq,AV.pl.injEq,PV.str.injEq,PV.int.injEq,PV.bool.injEq,PV.agg.injEq,PV.sl.injEq,and_true,true_and] at k; have e0:x372=x375:=Option.some.inj (by rw [←h373,←h376]; first | exact congrArg _ k | (obtain ⟨k1,_⟩:=k; simp only [k1]; done) | simp only [k]); exact ⟨by rw [e0],rfl⟩)) (ap (Qaq br6.Account h373) (ap (Qaq br6.Ccy h376) (ap (f41_ok x379 br6 h382) an)))))))))))))))) rfl
    ·rcases Qg h with ⟨h384,h⟩|⟨h384,h⟩
     ·obtain rfl:=Qf h
      exact rE Qi [(jF [5,6,7,8,11,12,13,23,26,27,28]++jT [14,15,16,17,18,19,20,21,22,31,32,33],[jH 2 (jB x372),jH 7 (jB x375),(9,.bool false),(18,.idx (Int.toNat (wr64 (bf3-1))) (Qa.cells x379)),jH 21 (jI x381),(23,.bool true),(24,.bool false),(29,.bool false),(34,.bool true)],[])] [] [] [0,1,2] [1,3,4,5,7,28,29,30,93] (.norm,(f15n4E bf1 bf2 bf3 bq4 bg5 br6 (.norm true)).2) (ap (Qq h374) (ap4 (Qq h374) (ap3 (Qq h377) (ap h378 (ap4 h378 (ap (Qm h380).1 (ap (Qag Qa.cells (Qm h380).2) (ap4 h378 (ap (Qq h377) (ap h378 (ap (Qq h377) (ap4 h383 (ap4 h384 (ap (Qz (e:=⟨false,40,[(jS br6.Account)],[],(jB x372),[]⟩) (f:=⟨false,40,[(jS br6.Ccy)],[],(jB x375),[]⟩) (fun k=>by simp only [jL,jS,jI,jB,jA,Qc.cells_eq,Qc.map_eq,Qb.cells_eq,Qb.map_eq,Qj.cells_eq,Qj.map_eq,Qd.cells_eq,Qd.map_eq,Qa.cells_eq,Qa.map_eq,Qh.cells_eq,Qh.map_eq,Key_.cells_eq,Key_.map_eq,Qr.cells_eq,Qr.map_eq,List.cons.injEq,AV.pl.injEq,PV.str.injEq,PV.int.injEq,PV.bool.injEq,PV.agg.injEq,PV.sl.injEq,and_true,true_and] at k; have e0:x372=x375:=Option.some.inj (by rw [←h373,←h376]; first | exact congrArg _ k | (obtain ⟨k1,_⟩:=k; simp only [k1]; done) | simp only [k]); exact ⟨by rw [e0],rfl⟩)) (ap (Qaq br6.Account h373) (ap (Qaq br6.Ccy h376) (ap (f41_ok x379 br6 h382) an))))))))))))))))) rfl
     ·rcases Qg h with ⟨h385,h⟩|⟨h385,h⟩
      ·obtain rfl:=Qf h
       exact rE Qi [(jF [5,6,7,8,11,12,13,23,26,27,28,31,32,33]++jT [14,15,16,17,18,19,20,21,22,36,37,38,39,43],[jH 2 (jB x372),jH 7 (jB x375),(9,.bool false),(18,.idx (Int.toNat (wr64 (bf3-1))) (Qa.cells x379)),jH 21 (jI x381),(23,.bool true),(24,.bool false),(29,.bool false),(34,.bool false),(44,.bool true)],[])] [] [] [0,1,2] [1,3,4,5,7,28,29,30,93] (.norm,(f15n4E bf1 bf2 bf3 bq4 bg5 br6 (.norm true)).2) (ap (Qq h374) (ap4 (Qq h374) (ap3 (Qq h377) (ap h378 (ap4 h378 (ap (Qm h380).1 (ap (Qag Qa.cells (Qm h380).2) (ap4 h378 (ap (Qq h377) (ap h378 (ap (Qq h377) (ap4 h383 (ap4 h384 (ap2 h385 (ap4 h385 (ap (Qz (e:=⟨false,40,[(jS br6.Account)],[],(jB x372),[]⟩) (f:=⟨false,40,[(jS br6.Ccy)],[],(jB x375),[]⟩) (fun k=>by simp only [jL,jS,jI,jB,jA,Qc.cells_eq,Qc.map_eq,Qb.cells_eq,Qb.map_eq,Qj.cells_eq,Qj.map_eq,Qd.cells_eq,Qd.map_eq,Qa.cells_eq,Qa.map_eq,Qh.cells_eq,Qh.map_eq,Key_.cells_eq,Key_.map_eq,Qr.cells_eq,Qr.map_eq,List.cons.injEq,AV.pl.injEq,PV.str.injEq,PV.int.injEq,PV.bool.injEq,PV.agg.injEq,PV.sl.injEq,and_true,true_and] at k; have e0:x372=x375:=Option.some.inj (by rw [←h373,←h376]; first | exact congrArg _ k | (obtain ⟨k1,_⟩:=k; simp only [k1]; done) | simp only [k]); exact ⟨by rw [e0],rfl⟩)) (ap (Qaq br6.Account h373) (ap (Qaq br6.Ccy h376) (ap (f41_ok x379 br6 h382) an))))))))))))))))))) rfl
      ·rcases Qg h with ⟨h386,h⟩|⟨h386,h⟩
       ·rcases Qg h with ⟨h387,h⟩|⟨h387,h⟩
        ·obtain rfl:=Qf h
         exact rE Qi [(jF [5,6,7,8,11,12,13,23,26,27,28,31,32,33,36,37,38,39,43]++jT [14,15,16,17,18,19,20,21,22,40,41,42,46,47,48,49,50],[jH 2 (jB x372),jH 7 (jB x375),(9,.bool false),(18,.idx (Int.toNat (wr64 (bf3-1))) (Qa.cells x379)),jH 21 (jI x381),(23,.bool true),(24,.bool false),(29,.bool false),(34,.bool false),(43,.bool true),(44,.bool false),(51,.bool true)],[])] [] [] [0,1,2] [1,3,4,5,7,28,29,30,93] (.norm,(f15n4E bf1 bf2 bf3 bq4 bg5 br6 (.norm true)).2) (ap (Qq h374) (ap4 (Qq h374) (ap3 (Qq h377) (ap h378 (ap4 h378 (ap (Qm h380).1 (ap (Qag Qa.cells (Qm h380).2) (ap4 h378 (ap (Qq h377) (ap h378 (ap (Qq h377) (ap4 h383 (ap4 h384 (ap4 h385 (ap3 h386 (ap h385 (ap h386 (ap h385 (ap2 h387 (ap4 h387 (ap (Qz (e:=⟨false,40,[(jS br6.Account)],[],(jB x372),[]⟩) (f:=⟨false,40,[(jS br6.Ccy)],[],(jB x375),[]⟩) (fun k=>by simp only [jL,jS,jI,jB,jA,Qc.cells_eq,Qc.map_eq,Qb.cells_eq,Qb.map_eq,Qj.cells_eq,Qj.map_eq,Qd.cells_eq,Qd.map_eq,Qa.cells_eq,Qa.map_eq,Qh.cells_eq,Qh.map_eq,Key_.cells_eq,Key_.map_eq,Qr.cells_eq,Qr.map_eq,List.cons.injEq,AV.pl.injEq,PV.str.injEq,PV.int.injEq,PV.bool.injEq,PV.agg.injEq,PV.sl.injEq,and_true,true_and] at k; have e0:x372=x375:=Option.some.inj (by rw [←h373,←h376]; first | exact congrArg _ k | (obtain ⟨k1,_⟩:=k; simp only [k1]; done) | simp only [k]); exact ⟨by rw [e0],rfl⟩)) (ap (Qaq br6.Account h373) (ap (Qaq br6.Ccy h376) (ap (f41_ok x379 br6 h382) an)))))))))))))))))))))))) rfl
        ·rcases Qg h with ⟨h388,h⟩|⟨h388,h⟩
         ·obtain rfl:=Qf h
          exact rE Qi [(jF [5,6,7,8,11,12,13,23,26,27,28,31,32,33,36,37,38,39,43,46,47,48,49,50]++jT [14,15,16,17,18,19,20,21,22,40,41,42,53,54,55,56,57],[jH 2 (jB x372),jH 7 (jB x375),(9,.bool false),(18,.idx (Int.toNat (wr64 (bf3-1))) (Qa.cells x379)),jH 21 (jI x381),(23,.bool true),(24,.bool false),(29,.bool false),(34,.bool false),(43,.bool true),(44,.bool false),(51,.bool false),(58,.bool true)],[])] [] [] [0,1,2] [1,3,4,5,7,28,29,30,93] (.norm,(f15n4E bf1 bf2 bf3 bq4 bg5 br6 (.norm true)).2) (ap (Qq h374) (ap4 (Qq h374) (ap3 (Qq h377) (ap h378 (ap4 h378 (ap (Qm h380).1 (ap (Qag Qa.cells (Qm h380).2) (ap4 h378 (ap (Qq h377) (ap h378 (ap (Qq h377) (ap4 h383 (ap4 h384 (ap4 h385 (ap3 h386 (ap h385 (ap h386 (ap h385 (ap2 h387 (ap4 h387 (ap2 h388 (ap4 h388 (ap (Qz (e:=⟨false,40,[(jS br6.Account)],[],(jB x372),[]⟩) (f:=⟨false,40,[(jS br6.Ccy)],[],(jB x375),[]⟩) (fun k=>by simp only [jL,jS,jI,jB,jA,Qc.cells_eq,Qc.map_eq,Qb.cells_eq,Qb.map_eq,Qj.cells_eq,Qj.map_eq,Qd.cells_eq,Qd.map_eq,Qa.cells_eq,Qa.map_eq,Qh.cells_eq,Qh.map_eq,Key_.cells_eq,Key_.map_eq,Qr.cells_eq,Qr.map_eq,List.cons.injEq,AV.pl.injEq,PV.str.injEq,PV.int.injEq,PV.bool.injEq,PV.agg.injEq,PV.sl.injEq,and_true,true_and] at k; have e0:x372=x375:=Option.some.inj (by rw [←h373,←h376]; first | exact congrArg _ k | (obtain ⟨k1,_⟩:=k; simp only [k1]; done) | simp only [k]); exact ⟨by rw [e0],rfl⟩)) (ap (Qaq br6.Account h373) (ap (Qaq br6.Ccy h376) (ap (f41_ok x379 br6 h382) an)))))))))))))))))))))))))) rfl
         ·obtain rfl:=Qf h
          exact rE Qi [(jF [5,6,7,8,11,12,13,23,26,27,28,31,32,33,36,37,38,39,43,46,47,48,49,50,53,54,55,56,57]++jT [14,15,16,17,18,19,20,21,22,40,41,42],[jH 2 (jB x372),jH 7 (jB x375),(9,.bool false),(18,.idx (Int.toNat (wr64 (bf3-1))) (Qa.cells x379)),jH 21 (jI x381),(23,.bool true),(24,.bool false),(29,.bool false),(34,.bool false),(43,.bool true),(44,.bool false),(51,.bool false),(58,.bool false)],[])] [] [] [0,1,2] [1,3,4,5,7,28,29,30,93] (.norm,(f15n4E bf1 bf2 bf3 bq4 bg5 br6 (.norm (decide ((wr64 (4503599627370496000-bf2))<br6.Out)))).2) (ap (Qq h374) (ap4 (Qq h374) (ap3 (Qq h377) (ap h378 (ap4 h378 (ap (Qm h380).1 (ap (Qag Qa.cells (Qm h380).2) (ap4 h378 (ap (Qq h377) (ap h378 (ap (Qq h377) (ap4 h383 (ap4 h384 (ap4 h385 (ap3 h386 (ap h385 (ap h386 (ap h385 (ap2 h387 (ap4 h387 (ap2 h388 (ap4 h388 (ap (Qz (e:=⟨false,40,[(jS br6.Account)],[],(jB x372),[]⟩) (f:=⟨false,40,[(jS br6.Ccy)],[],(jB x375),[]⟩) (fun k=>by simp only [jL,jS,jI,jB,jA,Qc.cells_eq,Qc.map_eq,Qb.cells_eq,Qb.map_eq,Qj.cells_eq,Qj.map_eq,Qd.cells_eq,Qd.map_eq,Qa.cells_eq,Qa.map_eq,Qh.cells_eq,Qh.map_eq,Key_.cells_eq,Key_.map_eq,Qr.cells_eq,Qr.map_eq,List.cons.injEq,AV.pl.injEq,PV.str.injEq,PV.int.injEq,PV.bool.injEq,PV.agg.injEq,PV.sl.injEq,and_true,true_and] at k; have e0:x372=x375:=Option.some.inj (by rw [←h373,←h376]; first | exact congrArg _ k | (obtain ⟨k1,_⟩:=k; simp only [k1]; done) | simp only [k]); exact ⟨by rw [e0],rfl⟩)) (ap (Qaq br6.Account h373) (ap (Qaq br6.Ccy h376) (ap (f41_ok x379 br6 h382) an)))))))))))))))))))))))))) rfl
       ·rcases Qg h with ⟨h389,h⟩|⟨h389,h⟩
        ·obtain rfl:=Qf h
         exact rE Qi [(jF [5,6,7,8,11,12,13,23,26,27,28,31,32,33,36,37,38,39,40,41,42,43]++jT [14,15,16,17,18,19,20,21,22,53,54,55,56,57],[jH 2 (jB x372),jH 7 (jB x375),(9,.bool false),(18,.idx (Int.toNat (wr64 (bf3-1))) (Qa.cells x379)),jH 21 (jI x381),(23,.bool true),(24,.bool false),(29,.bool false),(34,.bool false),(43,.bool false),(44,.bool false),(58,.bool true)],[])] [] [] [0,1,2] [1,3,4,5,7,28,29,30,93] (.norm,(f15n4E bf1 bf2 bf3 bq4 bg5 br6 (.norm true)).2) (ap (Qq h374) (ap4 (Qq h374) (ap3 (Qq h377) (ap h378 (ap4 h378 (ap (Qm h380).1 (ap (Qag Qa.cells (Qm h380).2) (ap4 h378 (ap (Qq h377) (ap h378 (ap (Qq h377) (ap4 h383 (ap4 h384 (ap4 h385 (ap3 h386 (ap h385 (ap h386 (ap h385 (ap2 h389 (ap4 h389 (ap (Qz (e:=⟨false,40,[(jS br6.Account)],[],(jB x372),[]⟩) (f:=⟨false,40,[(jS br6.Ccy)],[],(jB x375),[]⟩) (fun k=>by simp only [jL,jS,jI,jB,jA,Qc.cells_eq,Qc.map_eq,Qb.cells_eq,Qb.map_eq,Qj.cells_eq,Qj.map_eq,Qd.cells_eq,Qd.map_eq,Qa.cells_eq,Qa.map_eq,Qh.cells_eq,Qh.map_eq,Key_.cells_eq,Key_.map_eq,Qr.cells_eq,Qr.map_eq,List.cons.injEq,AV.pl.injEq,PV.str.injEq,PV.int.injEq,PV.bool.injEq,PV.agg.injEq,PV.sl.injEq,and_true,true_and] at k; have e0:x372=x375:=Option.some.inj (by rw [←h373,←h376]; first | exact congrArg _ k | (obtain ⟨k1,_⟩:=k; simp only [k1]; done) | simp only [k]); exact ⟨by rw [e0],rfl⟩)) (ap (Qaq br6.Account h373) (ap (Qaq br6.Ccy h376) (ap (f41_ok x379 br6 h382) an)))))))))))))))))))))))) rfl
        ·obtain rfl:=Qf h
         exact rE Qi [(jF [5,6,7,8,11,12,13,23,26,27,28,31,32,33,36,37,38,39,40,41,42,43,53,54,55,56,57]++jT [14,15,16,17,18,19,20,21,22],[jH 2 (jB x372),jH 7 (jB x375),(9,.bool false),(18,.idx (Int.toNat (wr64 (bf3-1))) (Qa.cells x379)),jH 21 (jI x381),(23,.bool true),(24,.bool false),(29,.bool false),(34,.bool false),(43,.bool false),(44,.bool false),(58,.bool false)],[])] [] [] [0,1,2] [1,3,4,5,7,28,29,30,93] (.norm,(f15n4E bf1 bf2 bf3 bq4 bg5 br6 (.norm (decide ((wr64 (4503599627370496000-bf2))<br6.Out)))).2) (ap (Qq h374) (ap4 (Qq h374) (ap3 (Qq h377) (ap h378 (ap4 h378 (ap (Qm h380).1 (ap (Qag Qa.cells (Qm h380).2) (ap4 h378 (ap (Qq h377) (ap h378 (ap (Qq h377) (ap4 h383 (ap4 h384 (ap4 h385 (ap3 h386 (ap h385 (ap h386 (ap h385 (ap2 h389 (ap4 h389 (ap (Qz (e:=⟨false,40,[(jS br6.Account)],[],(jB x372),[]⟩) (f:=⟨false,40,[(jS br6.Ccy)],[],(jB x375),[]⟩) (fun k=>by simp only [jL,jS,jI,jB,jA,Qc.cells_eq,Qc.map_eq,Qb.cells_eq,Qb.map_eq,Qj.cells_eq,Qj.map_eq,Qd.cells_eq,Qd.map_eq,Qa.cells_eq,Qa.map_eq,Qh.cells_eq,Qh.map_eq,Key_.cells_eq,Key_.map_eq,Qr.cells_eq,Qr.map_eq,List.cons.injEq,AV.pl.injEq,PV.str.injEq,PV.int.injEq,PV.bool.injEq,PV.agg.injEq,PV.sl.injEq,and_true,true_and] at k; have e0:x372=x375:=Option.some.inj (by rw [←h373,←h376]; first | exact congrArg _ k | (obtain ⟨k1,_⟩:=k; simp only [k1]; done) | simp only [k]); exact ⟨by rw [e0],rfl⟩)) (ap (Qaq br6.Account h373) (ap (Qaq br6.Ccy h376) (ap (f41_ok x379 br6 h382) an)))))))))))))))))))))))) rfl
   ·rcases Qg h with ⟨h390,h⟩|⟨h390,h⟩
    ·obtain rfl:=Qf h
     exact rE Qi [(jF [5,6,7,8,11,12,13,14,15,16,17,18,19,20,21,22,23]++jT [31,32,33],[jH 2 (jB x372),jH 7 (jB x375),(9,.bool false),(23,.bool false),(24,.bool false),(34,.bool true)],[])] [] [] [0,1,2] [1,3,4,5,7,28,29,30,93] (.norm,(f15n4E bf1 bf2 bf3 bq4 bg5 br6 (.norm true)).2) (ap (Qq h374) (ap4 (Qq h374) (ap3 (Qq h377) (ap h378 (ap4 h378 (ap4 h378 (ap (Qq h377) (ap h378 (ap (Qq h377) (ap4 h390 (ap (Qz (e:=⟨false,40,[(jS br6.Account)],[],(jB x372),[]⟩) (f:=⟨false,40,[(jS br6.Ccy)],[],(jB x375),[]⟩) (fun k=>by simp only [jL,jS,jI,jB,jA,Qc.cells_eq,Qc.map_eq,Qb.cells_eq,Qb.map_eq,Qj.cells_eq,Qj.map_eq,Qd.cells_eq,Qd.map_eq,Qa.cells_eq,Qa.map_eq,Qh.cells_eq,Qh.map_eq,Key_.cells_eq,Key_.map_eq,Qr.cells_eq,Qr.map_eq,List.cons.injEq,AV.pl.injEq,PV.str.injEq,PV.int.injEq,PV.bool.injEq,PV.agg.injEq,PV.sl.injEq,and_true,true_and] at k; have e0:x372=x375:=Option.some.inj (by rw [←h373,←h376]; first | exact congrArg _ k | (obtain ⟨k1,_⟩:=k; simp only [k1]; done) | simp only [k]); exact ⟨by rw [e0],rfl⟩)) (ap (Qaq br6.Account h373) (ap (Qaq br6.Ccy h376) an))))))))))))) rfl
    ·rcases Qg h with ⟨h391,h⟩|⟨h391,h⟩
     ·obtain rfl:=Qf h
      exact rE Qi [(jF [5,6,7,8,11,12,13,14,15,16,17,18,19,20,21,22,23,31,32,33]++jT [36,37,38,39,43],[jH 2 (jB x372),jH 7 (jB x375),(9,.bool false),(23,.bool false),(24,.bool false),(34,.bool false),(44,.bool true)],[])] [] [] [0,1,2] [1,3,4,5,7,28,29,30,93] (.norm,(f15n4E bf1 bf2 bf3 bq4 bg5 br6 (.norm true)).2) (ap (Qq h374) (ap4 (Qq h374) (ap3 (Qq h377) (ap h378 (ap4 h378 (ap4 h378 (ap (Qq h377) (ap h378 (ap (Qq h377) (ap4 h390 (ap2 h391 (ap4 h391 (ap (Qz (e:=⟨false,40,[(jS br6.Account)],[],(jB x372),[]⟩) (f:=⟨false,40,[(jS br6.Ccy)],[],(jB x375),[]⟩) (fun k=>by simp only [jL,jS,jI,jB,jA,Qc.cells_eq,Qc.map_eq,Qb.cells_eq,Qb.map_eq,Qj.cells_eq,Qj.map_eq,Qd.cells_eq,Qd.map_eq,Qa.cells_eq,Qa.map_eq,Qh.cells_eq,Qh.map_eq,Key_.cells_eq,Key_.map_eq,Qr.cells_eq,Qr.map_eq,List.cons.injEq,AV.pl.injEq,PV.str.injEq,PV.int.injEq,PV.bool.injEq,PV.agg.injEq,PV.sl.injEq,and_true,true_and] at k; have e0:x372=x375:=Option.some.inj (by rw [←h373,←h376]; first | exact congrArg _ k | (obtain ⟨k1,_⟩:=k; simp only [k1]; done) | simp only [k]); exact ⟨by rw [e0],rfl⟩)) (ap (Qaq br6.Account h373) (ap (Qaq br6.Ccy h376) an))))))))))))))) rfl
     ·rcases Qg h with ⟨h392,h⟩|⟨h392,h⟩
      ·rcases Qg h with ⟨h393,h⟩|⟨h393,h⟩
       ·obtain rfl:=Qf h
        exact rE Qi [(jF [5,6,7,8,11,12,13,14,15,16,17,18,19,20,21,22,23,31,32,33,36,37,38,39,43]++jT [40,41,42,46,47,48,49,50],[jH 2 (jB x372),jH 7 (jB x375),(9,.bool false),(23,.bool false),(24,.bool false),(34,.bool false),(43,.bool true),(44,.bool false),(51,.bool true)],[])] [] [] [0,1,2] [1,3,4,5,7,28,29,30,93] (.norm,(f15n4E bf1 bf2 bf3 bq4 bg5 br6 (.norm true)).2) (ap (Qq h374) (ap4 (Qq h374) (ap3 (Qq h377) (ap h378 (ap4 h378 (ap4 h378 (ap (Qq h377) (ap h378 (ap (Qq h377) (ap4 h390 (ap4 h391 (ap3 h392 (ap h391 (ap h392 (ap h391 (ap2 h393 (ap4 h393 (ap (Qz (e:=⟨false,40,[(jS br6.Account)],[],(jB x372),[]⟩) (f:=⟨false,40,[(jS br6.Ccy)],[],(jB x375),[]⟩) (fun k=>by simp only [jL,jS,jI,jB,jA,Qc.cells_eq,Qc.map_eq,Qb.cells_eq,Qb.map_eq,Qj.cells_eq,Qj.map_eq,Qd.cells_eq,Qd.map_eq,Qa.cells_eq,Qa.map_eq,Qh.cells_eq,Qh.map_eq,Key_.cells_eq,Key_.map_eq,Qr.cells_eq,Qr.map_eq,List.cons.injEq,AV.pl.injEq,PV.str.injEq,PV.int.injEq,PV.bool.injEq,PV.agg.injEq,PV.sl.injEq,and_true,true_and] at k; have e0:x372=x375:=Option.some.inj (by rw [←h373,←h376]; first | exact congrArg _ k | (obtain ⟨k1,_⟩:=k; simp only [k1]; done) | simp only [k]); exact ⟨by rw [e0],rfl⟩)) (ap (Qaq br6.Account h373) (ap (Qaq br6.Ccy h376) an)))))))))))))))))))) rfl
       ·rcases Qg h with ⟨h394,h⟩|⟨h394,h⟩
        ·obtain rfl:=Qf h
         exact rE Qi [(jF [5,6,7,8,11,12,13,14,15,16,17,18,19,20,21,22,23,31,32,33,36,37,38,39,43,46,47,48,49,50]++jT [40,41,42,53,54,55,56,57],[jH 2 (jB x372),jH 7 (jB x375),(9,.bool false),(23,.bool false),(24,.bool false),(34,.bool false),(43,.bool true),(44,.bool false),(51,.bool false),(58,.bool true)],[])] [] [] [0,1,2] [1,3,4,5,7,28,29,30,93] (.norm,(f15n4E bf1 bf2 bf3 bq4 bg5 br6 (.norm true)).2) (ap (Qq h374) (ap4 (Qq h374) (ap3 (Qq h377) (ap h378 (ap4 h378 (ap4 h378 (ap (Qq h377) (ap h378 (ap (Qq h377) (ap4 h390 (ap4 h391 (ap3 h392 (ap h391 (ap h392 (ap h391 (ap2 h393 (ap4 h393 (ap2 h394 (ap4 h394 (ap (Qz (e:=⟨false,40,[(jS br6.Account)],[],(jB x372),[]⟩) (f:=⟨false,40,[(jS br6.Ccy)],[],(jB x375),[]⟩) (fun k=>by simp only [jL,jS,jI,jB,jA,Qc.cells_eq,Qc.map_eq,Qb.cells_eq,Qb.map_eq,Qj.cells_eq,Qj.map_eq,Qd.cells_eq,Qd.map_eq,Qa.cells_eq,Qa.map_eq,Qh.cells_eq,Qh.map_eq,Key_.cells_eq,Key_.map_eq,Qr.cells_eq,Qr.map_eq,List.cons.injEq,AV.pl.injEq,PV.str.injEq,PV.int.injEq,PV.bool.injEq,PV.agg.injEq,PV.sl.injEq,and_true,true_and] at k; have e0:x372=x375:=Option.some.inj (by rw [←h373,←h376]; first | exact congrArg _ k | (obtain ⟨k1,_⟩:=k; simp only [k1]; done) | simp only [k]); exact ⟨by rw [e0],rfl⟩)) (ap (Qaq br6.Account h373) (ap (Qaq br6.Ccy h376) an)))))))))))))))))))))) rfl
        ·obtain rfl:=Qf h
         exact rE Qi [(jF [5,6,7,8,11,12,13,14,15,16,17,18,19,20,21,22,23,31,32,33,36,37,38,39,43,46,47,48,49,50,53,54,55,56,57]++jT [40,41,42],[jH 2 (jB x372),jH 7 (jB x375),(9,.bool false),(23,.bool false),(24,.bool false),(34,.bool false),(43,.bool true),(44,.bool false),(51,.bool false),(58,.bool false)],[])] [] [] [0,1,2] [1,3,4,5,7,28,29,30,93] (.norm,(f15n4E bf1 bf2 bf3 bq4 bg5 br6 (.norm (decide ((wr64 (4503599627370496000-bf2))<br6.Out)))).2) (ap (Qq h374) (ap4 (Qq h374) (ap3 (Qq h377) (ap h378 (ap4 h378 (ap4 h378 (ap (Qq h377) (ap h378 (ap (Qq h377) (ap4 h390 (ap4 h391 (ap3 h392 (ap h391 (ap h392 (ap h391 (ap2 h393 (ap4 h393 (ap2 h394 (ap4 h394 (ap (Qz (e:=⟨false,40,[(jS br6.Account)],[],(jB x372),[]⟩) (f:=⟨false,40,[(jS br6.Ccy)],[],(jB x375),[]⟩) (fun k=>by simp only [jL,jS,jI,jB,jA,Qc.cells_eq,Qc.map_eq,Qb.cells_eq,Qb.map_eq,Qj.cells_eq,Qj.map_eq,Qd.cells_eq,Qd.map_eq,Qa.cells_eq,Qa.map_eq,Qh.cells_eq,Qh.map_eq,Key_.cells_eq,Key_.map_eq,Qr.cells_eq,Qr.map_eq,List.cons.injEq,AV.pl.injEq,PV.str.injEq,PV.int.injEq,PV.bool.injEq,PV.agg.injEq,PV.sl.injEq,and_true,true_and] at k; have e0:x372=x375:=Option.some.inj (by rw [←h373,←h376]; first | exact congrArg _ k | (obtain ⟨k1,_⟩:=k; simp only [k1]; done) | simp only [k]); exact ⟨by rw [e0],rfl⟩)) (ap (Qaq br6.Account h373) (ap (Qaq br6.Ccy h376) an)))))))))))))))))))))) rfl
      ·rcases Qg h with ⟨h395,h⟩|⟨h395,h⟩
       ·obtain rfl:=Qf h
        exact rE Qi [(jF [5,6,7,8,11,12,13,14,15,16,17,18,19,20,21,22,23,31,32,33,36,37,38,39,40,41,42,43]++jT [53,54,55,56,57],[jH 2 (jB x372),jH 7 (jB x375),(9,.bool false),(23,.bool false),(24,.bool false),(34,.bool false),(43,.bool false),(44,.bool false),(58,.bool true)],[])] [] [] [0,1,2] [1,3,4,5,7,28,29,30,93] (.norm,(f15n4E bf1 bf2 bf3 bq4 bg5 br6 (.norm true)).2) (ap (Qq h374) (ap4 (Qq h374) (ap3 (Qq h377) (ap h378 (ap4 h378 (ap4 h378 (ap (Qq h377) (ap h378 (ap (Qq h377) (ap4 h390 (ap4 h391 (ap3 h392 (ap h391 (ap h392 (ap h391 (ap2 h395 (ap4 h395 (ap (Qz (e:=⟨false,40,[(jS br6.Account)],[],(jB x372),[]⟩) (f:=⟨false,40,[(jS br6.Ccy)],[],(jB x375),[]⟩) (fun k=>by simp only [jL,jS,jI,jB,jA,Qc.cells_eq,Qc.map_eq,Qb.cells_eq,Qb.map_eq,Qj.cells_eq,Qj.map_eq,Qd.cells_eq,Qd.map_eq,Qa.cells_eq,Qa.map_eq,Qh.cells_eq,Qh.map_eq,Key_.cells_eq,Key_.map_eq,Qr.cells_eq,Qr.map_eq,List.cons.injEq,AV.pl.injEq,PV.str.injEq,PV.int.injEq,PV.bool.injEq,PV.agg.injEq,PV.sl.injEq,and_true,true_and] at k; have e0:x372=x375:=Option.some.inj (by rw [←h373,←h376]; first | exact congrArg _ k | (obtain ⟨k1,_⟩:=k; simp only [k1]; done) | simp only [k]); exact ⟨by rw [e0],rfl⟩)) (ap (Qaq br6.Account h373) (ap (Qaq br6.Ccy h376) an)))))))))))))))))))) rfl
       ·obtain rfl:=Qf h
        exact rE Qi [(jF [5,6,7,8,11,12,13,14,15,16,17,18,19,20,21,22,23,31,32,33,36,37,38,39,40,41,42,43,53,54,55,56,57],[jH 2 (jB x372),jH 7 (jB x375),(9,.bool false),(23,.bool false),(24,.bool false),(34,.bool false),(43,.bool false),(44,.bool false),(58,.bool false)],[])] [] [] [0,1,2] [1,3,4,5,7,28,29,30,93] (.norm,(f15n4E bf1 bf2 bf3 bq4 bg5 br6 (.norm (decide ((wr64 (4503599627370496000-bf2))<br6.Out)))).2) (ap (Qq h374) (ap4 (Qq h374) (ap3 (Qq h377) (ap h378 (ap4 h378 (ap4 h378 (ap (Qq h377) (ap h378 (ap (Qq h377) (ap4 h390 (ap4 h391 (ap3 h392 (ap h391 (ap h392 (ap h391 (ap2 h395 (ap4 h395 (ap (Qz (e:=⟨false,40,[(jS br6.Account)],[],(jB x372),[]⟩) (f:=⟨false,40,[(jS br6.Ccy)],[],(jB x375),[]⟩) (fun k=>by simp only [jL,jS,jI,jB,jA,Qc.cells_eq,Qc.map_eq,Qb.cells_eq,Qb.map_eq,Qj.cells_eq,Qj.map_eq,Qd.cells_eq,Qd.map_eq,Qa.cells_eq,Qa.map_eq,Qh.cells_eq,Qh.map_eq,Key_.cells_eq,Key_.map_eq,Qr.cells_eq,Qr.map_eq,List.cons.injEq,AV.pl.injEq,PV.str.injEq,PV.int.injEq,PV.bool.injEq,PV.agg.injEq,PV.sl.injEq,and_true,true_and] at k; have e0:x372=x375:=Option.some.inj (by rw [←h373,←h376]; first | exact congrArg _ k | (obtain ⟨k1,_⟩:=k; simp only [k1]; done) | simp only [k]); exact ⟨by rw [e0],rfl⟩)) (ap (Qaq br6.Account h373) (ap (Qaq br6.Ccy h376) an)))))))))))))))))))) rfl
  ·obtain rfl:=Qf h
   exact rE Qi [(jF [5,6,7,8]++jT [11,12,13,23],[jH 2 (jB x372),jH 7 (jB x375),(9,.bool false),(24,.bool true)],[])] [] [] [0,1,2] [1,3,4,5,7,28,29,30,93] (.norm,(f15n4E bf1 bf2 bf3 bq4 bg5 br6 (.norm true)).2) (ap (Qq h374) (ap4 (Qq h374) (ap (Qaf h377) (ap4 (Qaf h377) (ap (Qz (e:=⟨false,40,[(jS br6.Account)],[],(jB x372),[]⟩) (f:=⟨false,40,[(jS br6.Ccy)],[],(jB x375),[]⟩) (fun k=>by simp only [jL,jS,jI,jB,jA,Qc.cells_eq,Qc.map_eq,Qb.cells_eq,Qb.map_eq,Qj.cells_eq,Qj.map_eq,Qd.cells_eq,Qd.map_eq,Qa.cells_eq,Qa.map_eq,Qh.cells_eq,Qh.map_eq,Key_.cells_eq,Key_.map_eq,Qr.cells_eq,Qr.map_eq,List.cons.injEq,AV.pl.injEq,PV.str.injEq,PV.int.injEq,PV.bool.injEq,PV.agg.injEq,PV.sl.injEq,and_true,true_and] at k; have e0:x372=x375:=Option.some.inj (by rw [←h373,←h376]; first | exact congrArg _ k | (obtain ⟨k1,_⟩:=k; simp only [k1]; done) | simp only [k]); exact ⟨by rw [e0],rfl⟩)) (ap (Qaq br6.Account h373) (ap (Qaq br6.Ccy h376) an))))))) rfl
 ·obtain rfl:=Qf h;exact rE Qi [(jT [5,6,7,8],[jH 2 (jB x372),(9,.bool true)],[])] [] [] [0,1,2] [1,3,4,5,7,28,29,30,93] (.norm,(f15n4E bf1 bf2 bf3 bq4 bg5 br6 (.norm true)).2) (ap (Qaf h374) (ap4 (Qaf h374) (ap (Qaq br6.Account h373) an))) rfl
inductive f15n3O where
 | norm
 | ret
def f15n3E(bf1 bf2 bf3:Int)(bq4:Qh)(bg5:List (ByteArray×Int))(br6:Qa):f15n3O→Ex×Tr×Hp
 | .norm=>(.norm,mkS [(1,(.bp 0 0)),(3,(jI bf1)),(4,(jI bf2)),(5,(.mp 1)),(7,(.bp 2 0)),(28,(jL 4 Qa.cells bq4.Rows)),(29,(jI (bq4.Rows.length:Int))),(30,(jI bf3))],[some (.box 24 ((Qh.cells bq4).map .pl)),some (.map (bg5.map (mkv pStr (pInt .i64)))),some (.box 39 ((Qa.cells br6).map .pl))])
 | .ret=>(.ret,mkS [(2,(jI 8))],[])
def f15n3S(bf1 bf2 bf3:Int)(bq4:Qh)(bg5:List (ByteArray×Int))(br6:Qa):Tr×Hp:=(mkS [(1,(.bp 0 0)),(3,(jI bf1)),(4,(jI bf2)),(5,(.mp 1)),(6,(jI bf3)),(7,(.bp 2 0)),(28,(jL 4 Qa.cells bq4.Rows)),(29,(jI (bq4.Rows.length:Int))),(30,(jI bf3))],[some (.box 24 ((Qh.cells bq4).map .pl)),some (.map (bg5.map (mkv pStr (pInt .i64)))),some (.box 39 ((Qa.cells br6).map .pl))])
noncomputable def f15n3(bf1 bf2 bf3:Int)(bq4:Qh)(bg5:List (ByteArray×Int))(br6:Qa):Option f15n3O :=
 (f15n4 bf1 bf2 bf3 bq4 bg5 br6).bind fun o397=>match o397 with
 | .norm v399=>bif v399 then
   some .ret
  else
   some .norm
theorem f15n3_ok(bf1 bf2 bf3:Int)(bq4:Qh)(bg5:List (ByteArray×Int))(br6:Qa){o:f15n3O}(h:f15n3 bf1 bf2 bf3 bq4 bg5 br6=some o):T Tryd.prog Tryd.f15.ntmps 0 (cL (Qt 1 (cL (cL (Qt 2 (cL (cL (Qt 1 (cL (Qt 4 c15)))))))))) (f15n3S bf1 bf2 bf3 bq4 bg5 br6) (·=f15n3E bf1 bf2 bf3 bq4 bg5 br6 o):=by
 unfold f15n3 at h;refine rN Qi 0 [] [] [] [0,1,2] [1,3,4,5,6,7,28,29,30] (f15n4S bf1 bf2 bf3 bq4 bg5 br6) an ?_;obtain ⟨o397,h398,h⟩:=Qe h;cases o397 with
 | norm v399 =>
  refine T.oneN (by kernel_rfl) (f15n4_ok bf1 bf2 bf3 bq4 bg5 br6 h398) (st2:=(f15n4E bf1 bf2 bf3 bq4 bg5 br6 (.norm v399)).2) rfl ?_;rcases Qg h with ⟨h401,h⟩|⟨h401,h⟩
  ·obtain rfl:=Qf h;exact rE Qi [j3] [some true] [] [] [2] (.ret,(f15n3E bf1 bf2 bf3 bq4 bg5 br6 .ret).2) (ap h401 an) rfl
  ·obtain rfl:=Qf h;exact rE Qi [] [some false] [] [0,1,2] [1,3,4,5,7,28,29,30] (.norm,(f15n3E bf1 bf2 bf3 bq4 bg5 br6 .norm).2) (ap h401 an) rfl
inductive f15n2O where
 | norm (v404:Int) (v405:Int) (v406:List (ByteArray×Int))
 | ret
def f15n2E(bf1 bf2:Int)(bq3:Qh)(bf4:Int)(bg5:List (ByteArray×Int)):f15n2O→Ex×Tr×Hp
 | .norm v404 v405 v406=>(.norm,mkS [(1,(.bp 0 0)),(3,(jI v404)),(4,(jI v405)),(5,(.mp 1)),(28,(jL 4 Qa.cells bq3.Rows)),(29,(jI (bq3.Rows.length:Int))),(30,(jI bf4))],[some (.box 24 ((Qh.cells bq3).map .pl)),some (.map (v406.map (mkv pStr (pInt .i64))))])
 | .ret=>(.ret,mkS [(2,(jI 8))],[])
def f15n2S(bf1 bf2:Int)(bq3:Qh)(bf4:Int)(bg5:List (ByteArray×Int)):Tr×Hp:=(mkS [(1,(.bp 0 0)),(3,(jI bf1)),(4,(jI bf2)),(5,(.mp 1)),(28,(jL 4 Qa.cells bq3.Rows)),(29,(jI (bq3.Rows.length:Int))),(30,(jI bf4))],[some (.box 24 ((Qh.cells bq3).map .pl)),some (.map (bg5.map (mkv pStr (pInt .i64))))])
noncomputable def f15n2(bf1 bf2:Int)(bq3:Qh)(bf4:Int)(bg5:List (ByteArray×Int)):Option f15n2O :=
 (at? bq3.Rows bf4).bind fun x294 =>
 (f15n3 bf1 bf2 bf4 bq3 bg5 x294).bind fun o402=>match o402 with
 | .norm=>some (.norm (wr64 (bf1+x294.In)) (wr64 (bf2+x294.Out)) (mPut seq x294.Ccy (wr64 ((mGet seq 0 x294.Ccy bg5)+(wr64 (x294.In-x294.Out)))) bg5))
 | .ret=>some .ret
theorem f15n2_ok(bf1 bf2:Int)(bq3:Qh)(bf4:Int)(bg5:List (ByteArray×Int)){o:f15n2O}(h:f15n2 bf1 bf2 bq3 bf4 bg5=some o):T Tryd.prog Tryd.f15.ntmps 0 (cL (Qt 2 (cL (cL (Qt 1 (cL (Qt 4 c15))))))) (f15n2S bf1 bf2 bq3 bf4 bg5) (·=f15n2E bf1 bf2 bq3 bf4 bg5 o):=by
 unfold f15n2 at h;refine T.block' (i:=1) (by kernel_rfl) ?_;obtain ⟨x294,h295,h⟩:=Qe h;refine rN Qi 1 [([],[(1,.idx (Int.toNat bf4) (Qa.cells x294))],[])] [] [] [0,1,2] [1,3,4,5,6,7,28,29,30] (f15n3S bf1 bf2 bf4 bq3 bg5 x294) (ap (Qm h295).1 (ap (Qag Qa.cells (Qm h295).2) an)) ?_;obtain ⟨o402,h403,h⟩:=Qe h;cases o402 with
 | norm =>
  refine T.oneN (by kernel_rfl) (f15n3_ok bf1 bf2 bf4 bq3 bg5 x294 h403) (st2:=(f15n3E bf1 bf2 bf4 bq3 bg5 x294 .norm).2) rfl ?_;obtain rfl:=Qf h;exact rE Qi [j3,([],[(3,.look ((pInt .i64) (mGet seq 0 x294.Ccy bg5)) (mHas seq x294.Ccy bg5)),(10,.mset ((mPut seq x294.Ccy (wr64 ((mGet seq 0 x294.Ccy bg5)+(wr64 (x294.In-x294.Out)))) bg5).map (mkv pStr (pInt .i64))))],[])] [] [] [0,1] [1,3,4,5,28,29,30] (.norm,(f15n2E bf1 bf2 bq3 bf4 bg5 (.norm (wr64 (bf1+x294.In)) (wr64 (bf2+x294.Out)) (mPut seq x294.Ccy (wr64 ((mGet seq 0 x294.Ccy bg5)+(wr64 (x294.In-x294.Out)))) bg5))).2) (ap (look_map (vp:=(pInt .i64)) (e:=3) key_9 0 (by kernel_rfl) x294.Ccy bg5) (ap (mset_map (vp:=(pInt .i64)) key_9 x294.Ccy (wr64 ((mGet seq 0 x294.Ccy bg5)+(wr64 (x294.In-x294.Out)))) bg5) an)) rfl
 | ret =>
  obtain rfl:=Qf h;exact T.oneX' (by kernel_rfl) (f15n3_ok bf1 bf2 bf4 bq3 bg5 x294 h403) (tds:=[]) (m:=[]) (keep:=[2]) (st2:=(f15n2E bf1 bf2 bq3 bf4 bg5 .ret).2) (by kernel_rfl) an rfl rfl
inductive f15n5O where
 | exit0 (v412:List (ByteArray×Int))
 | ret
def f15n5E(bq1:Qh):f15n5O→Ex×Tr×Hp
 | .exit0 v412=>((.exit 0),mkS [(5,(.mp 0))],[some (.map (v412.map (mkv pStr (pInt .i64))))])
 | .ret=>(.ret,mkS [(2,(jI 8))],[])
def f15n5S(bq1:Qh)(v256 v257 v258:Int)(v259:List (ByteArray×Int)):Tr×Hp:=(mkS [(1,(.bp 0 0)),(3,(jI v256)),(4,(jI v257)),(5,(.mp 1)),(28,(jL 4 Qa.cells bq1.Rows)),(29,(jI (bq1.Rows.length:Int))),(30,(jI v258))],[some (.box 24 ((Qh.cells bq1).map .pl)),some (.map (v259.map (mkv pStr (pInt .i64))))])
noncomputable def f15n5:Nat→Qh→Int→Int→Int→List (ByteArray×Int)→Option f15n5O
 | 0,_,_,_,_,_=>none
 | f+1,bq1,v256,v257,v258,v259 =>
  bif decide (v258<(bq1.Rows.length:Int)) then
   (f15n2 v256 v257 bq1 v258 v259).bind fun o407=>match o407 with
   | .norm v409 v410 v411=>(f15n5 f bq1 v409 v410 (wr64 (v258+1)) v411)
   | .ret=>some .ret
  else
   some (.exit0 v259)
theorem f15n5_ok:∀(f:Nat)(bq1:Qh)(v256 v257 v258:Int)(v259:List (ByteArray×Int)){o:f15n5O},f15n5 f bq1 v256 v257 v258 v259=some o→TL Tryd.prog Tryd.f15.ntmps 0 f (cL (cL (Qt 1 (cL (Qt 4 c15))))) (f15n5S bq1 v256 v257 v258 v259) (·=f15n5E bq1 o)
 | 0,_,_,_,_,_,o,h=>by rw [f15n5] at h; cases h
 | f+1,bq1,v256,v257,v258,v259,o,h=>by
  rw [f15n5] at h;refine TL.body (K:=fun s=>∃v256:Int,∃v257:Int,∃v258:Int,∃v259:List (ByteArray×Int),s=(f15n5S bq1 v256 v257 v258 v259)∧f15n5 f bq1 v256 v257 v258 v259=some o) ?_ (by rintro _ ⟨v256,v257,v258,v259,rfl,hk⟩; exact f15n5_ok f _ _ _ _ _ hk);rcases Qg h with ⟨h261,h⟩|⟨h261,h⟩
  ·refine rN Qi 2 [j3] [some true] [] [0,1] [1,3,4,5,28,29,30] (f15n2S v256 v257 bq1 v258 v259) (ap h261 an) ?_;obtain ⟨o407,h408,h⟩:=Qe h;cases o407 with
   | norm v409 v410 v411 =>
    refine T.oneN (by kernel_rfl) (f15n2_ok v256 v257 bq1 v258 v259 h408) (st2:=(f15n2E v256 v257 bq1 v258 v259 (.norm v409 v410 v411)).2) rfl ?_;exact rE Qi [j3] [] [] [0,1] [1,3,4,5,28,29,30] (.norm,(f15n5S bq1 v409 v410 (wr64 (v258+1)) v411)) an (Qad.norm ⟨v409,v410,(wr64 (v258+1)),v411,rfl,h⟩)
   | ret =>
    obtain rfl:=Qf h;exact T.oneX' (by kernel_rfl) (f15n2_ok v256 v257 bq1 v258 v259 h408) (tds:=[]) (m:=[]) (keep:=[2]) (st2:=(f15n5E bq1 .ret).2) (by kernel_rfl) an rfl (Qad.out rfl rfl)
  ·obtain rfl:=Qf h;exact rK Qi 2 [j3] [some false] [] [1] [5] (.exit 0) ((f15n5E bq1 (.exit0 v259)).2) (ap h261 an) (Qad.out rfl rfl)
inductive f15n1O where
 | norm (v416:List (ByteArray×Int))
 | ret
def f15n1E(bq1:Qh):f15n1O→Ex×Tr×Hp
 | .norm v416=>(.norm,mkS [(5,(.mp 0))],[some (.map (v416.map (mkv pStr (pInt .i64))))])
 | .ret=>(.ret,mkS [(2,(jI 8))],[])
def f15n1S(bq1:Qh):Tr×Hp:=(mkS [(1,(.bp 0 0)),(3,(jI 0)),(4,(jI 0)),(5,(.mp 1))],[some (.box 24 ((Qh.cells bq1).map .pl)),some (.map ([].map (mkv pStr (pInt .i64))))])
noncomputable def f15n1(bq1:Qh):Option f15n1O :=
 (f15n5 FUEL bq1 0 0 0 []).bind fun o413=>match o413 with
 | .exit0 v415=>some (.norm v415)
 | .ret=>some .ret
theorem f15n1_ok(bq1:Qh){o:f15n1O}(h:f15n1 bq1=some o):T Tryd.prog Tryd.f15.ntmps 0 (cL (Qt 4 c15)) (f15n1S bq1) (·=f15n1E bq1 o):=by
 unfold f15n1 at h;refine rN Qi 1 [([],[],[(2,.val (jI (bq1.Rows.length:Int)))])] [] [] [0,1] [1,3,4,5,28,29,30] (f15n5S bq1 0 0 0 []) (ap (Qan (xs:=bq1.Rows) (c:=Qa.cells)) an) ?_;obtain ⟨o413,h414,h⟩:=Qe h;cases o413 with
 | exit0 v415 =>
  obtain rfl:=Qf h;exact T.last' (T.bl (i:=0) (by kernel_rfl) (by kernel_rfl) (f15n5_ok FUEL bq1 0 0 0 [] h414)) (tds:=[]) (m:=[0]) (keep:=[5]) (st2:=(f15n1E bq1 (.norm v415)).2) (by kernel_rfl) an rfl
 | ret =>
  obtain rfl:=Qf h;exact T.last' (T.bl (i:=0) (by kernel_rfl) (by kernel_rfl) (f15n5_ok FUEL bq1 0 0 0 [] h414)) (tds:=[]) (m:=[]) (keep:=[2]) (st2:=(f15n1E bq1 .ret).2) (by kernel_rfl) an rfl
inductive f15n7O where
 | exit2
 | ret
def f15n7E(bg1:List (ByteArray×Int)):f15n7O→Ex×Tr×Hp
 | .exit2=>((.exit 2),mkS [],[])
 | .ret=>(.ret,mkS [(2,(jI 60))],[])
def f15n7S(bg1:List (ByteArray×Int))(sn0:List Nat):Tr×Hp:=(mkS [(114,(.it 0))],[some (.iter 1 (bg1.map (mkv pStr (pInt .i64))).length sn0),some (.map (bg1.map (mkv pStr (pInt .i64))))])
noncomputable def f15n7(bg1:List (ByteArray×Int)):List (ByteArray×Int)→Option f15n7O
 | [] =>
  some .exit2
 | x426::rest =>
  bif decide (x426.2=0) then
   (f15n7 bg1 rest)
  else
   some .ret
theorem f15n7_ok(bg1:List (ByteArray×Int)):∀(f:Nat)(sn0 rem:List Nat){o:f15n7O},Rem bg1.length sn0 rem→rem.length<f→(∀p,p.Perm rem→f15n7 bg1 (ords bg1 p)=some o)→TL Tryd.prog Tryd.f15.ntmps 0 f (cL (cL (Qt 1 (cL (Qt 0 (Qt 1 (Qt 4 c15))))))) (f15n7S bg1 sn0) (·=f15n7E bg1 o)
 | 0,_,_,_,_,hf,_=>absurd hf (Nat.not_lt_zero _)
 | f+1,sn0,rem,o,hR,hf,H=>by
  refine TL.body (K:=fun s=>∃(sn0 rem:List Nat),s=f15n7S bg1 sn0∧Rem bg1.length sn0 rem∧rem.length<f∧(∀p,p.Perm rem→f15n7 bg1 (ords bg1 p)=some o)) ?_ (by rintro _ ⟨sn0,rem,rfl,h1,h2,h3⟩; exact f15n7_ok bg1 f sn0 rem h1 h2 h3);refine T.oneNext Qi (x:=.tmp 114) (t:=115) (tb:=116) (i:=0) (o:=1) (m:=(bg1.map (mkv pStr (pInt .i64))).length) (seen:=sn0) (kvs:=(bg1.map (mkv pStr (pInt .i64)))) (by kernel_rfl) (by kernel_rfl) (by kernel_rfl) (by kernel_rfl) (by kernel_rfl) (by kernel_rfl) rfl (fun hs=>?_) (fun j425 k v hj hs hx=>?_)
  ·obtain rfl:=hR.none (by simpa using hs);have h:f15n7 bg1 []=some o:=H [] (List.Perm.refl _);rw [f15n7] at h;obtain rfl:=Qf h;exact rK Qi 1 [] [none] [] [] [] (.exit 2) ((f15n7E bg1 .exit2).2) an (Qad.out rfl rfl)
  ·obtain ⟨x426,h427,rfl,rfl⟩:=mkv_at hx;obtain ⟨hR2,hlen,hP⟩:=hR.step (j:=j425) (by simpa using hj) hs;have H2:∀p,p.Perm (rem.erase j425)→f15n7 bg1 (x426::ords bg1 p)=some o:=fun p hp=>by have h:=H _ (hP p hp); rwa [ords_cons h427] at h
   have h:=H2 _ (List.Perm.refl _);rw [f15n7] at h;rcases Qg h with ⟨h429,h⟩|⟨h429,h⟩
   ·exact rE Qi [([],[(0,.entr j425 (pStr x426.1) ((pInt .i64) x426.2))],[]),j3] [none,some false] [] [0,1] [114] (.norm,(f15n7S bg1 (sn0++[j425]))) (ap (last_app (seen:=sn0) (j:=j425)) (ap (rfl:(bg1.map (mkv pStr (pInt .i64))).length=(bg1.map (mkv pStr (pInt .i64))).length) (ap (at_mkv (kp:=pStr) (vp:=(pInt .i64)) h427) (ap (Qq h429) an)))) (Qad.norm ⟨sn0++[j425],rem.erase j425,rfl,hR2,by omega,fun p hp=>by have h:=H2 p hp; rw [f15n7] at h; simp only [h429,cond_true,cond_false,Option.bind_some,req] at h; exact h⟩)
   ·obtain rfl:=Qf h;exact rE Qi [([],[(0,.entr j425 (pStr x426.1) ((pInt .i64) x426.2))],[]),j3,j3] [none,some true] [] [] [2] (.ret,(f15n7E bg1 .ret).2) (ap (last_app (seen:=sn0) (j:=j425)) (ap (rfl:(bg1.map (mkv pStr (pInt .i64))).length=(bg1.map (mkv pStr (pInt .i64))).length) (ap (at_mkv (kp:=pStr) (vp:=(pInt .i64)) h427) (ap (Qaf h429) an)))) (Qad.out rfl rfl)
inductive f15n6O where
 | norm
 | ret
def f15n6E(bg1:List (ByteArray×Int)):f15n6O→Ex×Tr×Hp
 | .norm=>(.norm,mkS [],[])
 | .ret=>(.ret,mkS [(2,(jI 60))],[])
def f15n6S(bg1:List (ByteArray×Int)):Tr×Hp:=(mkS [(5,(.mp 0))],[some (.map (bg1.map (mkv pStr (pInt .i64))))])
noncomputable def f15n6(bg1:List (ByteArray×Int)):Option f15n6O :=
 (anyOrder bg1 fun p=>(f15n7 bg1 p)).bind fun o430=>match o430 with
 | .exit2=>some .norm
 | .ret=>some .ret
theorem f15n6_ok(bg1:List (ByteArray×Int)){o:f15n6O}(h:f15n6 bg1=some o):T Tryd.prog Tryd.f15.ntmps 0 (cL (Qt 0 (Qt 1 (Qt 4 c15)))) (f15n6S bg1) (·=f15n6E bg1 o):=by
 unfold f15n6 at h;refine rN Qi 1 [j3] [] [] [1,0] [114] (f15n7S bg1 []) an ?_;obtain ⟨o430,h431,h⟩:=Qe h;cases o430 with
 | exit2 =>
  obtain rfl:=Qf h;exact T.last' (T.bl (i:=2) (by kernel_rfl) (by kernel_rfl) (f15n7_ok bg1 _ [] (List.range bg1.length) (Rem.start _) (Nat.lt_succ_self _) (fun p hp=>anyOrder_at h431 _ (ords_perm hp)))) (tds:=[]) (m:=[]) (keep:=[]) (st2:=(f15n6E bg1 .norm).2) (by kernel_rfl) an rfl
 | ret =>
  obtain rfl:=Qf h;exact T.last' (T.bl (i:=2) (by kernel_rfl) (by kernel_rfl) (f15n7_ok bg1 _ [] (List.range bg1.length) (Rem.start _) (Nat.lt_succ_self _) (fun p hp=>anyOrder_at h431 _ (ords_perm hp)))) (tds:=[]) (m:=[]) (keep:=[2]) (st2:=(f15n6E bg1 .ret).2) (by kernel_rfl) an rfl
inductive f15n0O where
 | ret (v434:Int)
def f15n0E(a1:Qh):f15n0O→Ex×Tr×Hp
 | .ret v434=>(.ret,mkS [(2,(jI v434))],[])
def f15n0S(a1:Qh):Tr×Hp:=(Qal [(jA Qh.cells a1)] 0 .leaf,[])
noncomputable def f15n0(a1:Qh):Option f15n0O :=
 (f39 a1.From a1.To).bind fun x7 =>
 bif x7 then
  bif decide (a1.Known<0) then
   some (.ret 8)
  else
   bif decide (200<a1.Known) then
    some (.ret 8)
   else
    (f15n1 a1).bind fun o417=>match o417 with
    | .norm v419=>(f15n6 v419).bind fun o432=>match o432 with
     | .norm=>some (.ret 0)
     | .ret=>some (.ret 60)
    | .ret=>some (.ret 8)
 else
  some (.ret 8)
theorem f15n0_ok(a1:Qh){o:f15n0O}(h:f15n0 a1=some o):T Tryd.prog Tryd.f15.ntmps 0 c15 (f15n0S a1) (·=f15n0E a1 o):=by
 unfold f15n0 at h;obtain ⟨x7,h8,h⟩:=Qe h;rcases Qg h with ⟨h9,h⟩|⟨h9,h⟩
 ·rcases Qg h with ⟨h10,h⟩|⟨h10,h⟩
  ·obtain rfl:=Qf h;exact rK Qi 2 [j3,(jF [7,8,9]++jT [12,13,14],[jH 4 (jB x7),(10,.bool false),(15,.bool true)],[]),j3] [none] [] [] [2] .ret ((f15n0E a1 (.ret 8)).2) (ap4 (Qq h9) (ap4 h10 (ap (f39_ok a1.From a1.To h8) an))) rfl
  ·rcases Qg h with ⟨h11,h⟩|⟨h11,h⟩
   ·obtain rfl:=Qf h;exact rK Qi 2 [j3,(jF [7,8,9,12,13,14],[jH 4 (jB x7),(10,.bool false),(15,.bool false)],[]),j3] [some true] [] [] [2] .ret ((f15n0E a1 (.ret 8)).2) (ap4 (Qq h9) (ap4 h10 (ap (f39_ok a1.From a1.To h8) (ap h11 an)))) rfl
   ·refine rN Qi 4 [j3,(jF [7,8,9,12,13,14],[jH 4 (jB x7),(10,.bool false),(15,.bool false)],[]),j3,j3] [some false] [] [0,1] [1,3,4,5] (f15n1S a1) (ap4 (Qq h9) (ap4 h10 (ap (f39_ok a1.From a1.To h8) (ap h11 an)))) ?_;obtain ⟨o417,h418,h⟩:=Qe h;cases o417 with
    | norm v419 =>
     refine T.oneN (by kernel_rfl) (f15n1_ok a1 h418) (st2:=(f15n1E a1 (.norm v419)).2) rfl ?_;refine rN Qi 0 [] [] [] [0] [5] (f15n6S v419) an ?_;obtain ⟨o432,h433,h⟩:=Qe h;cases o432 with
     | norm =>
      refine T.oneN (by kernel_rfl) (f15n6_ok v419 h433) (st2:=(f15n6E v419 .norm).2) rfl ?_;obtain rfl:=Qf h;exact rE Qi [j3] [] [] [] [2] (.ret,(f15n0E a1 (.ret 0)).2) an rfl
     | ret =>
      obtain rfl:=Qf h;exact T.oneX' (by kernel_rfl) (f15n6_ok v419 h433) (tds:=[]) (m:=[]) (keep:=[2]) (st2:=(f15n0E a1 (.ret 60)).2) (by kernel_rfl) an rfl rfl
    | ret =>
     obtain rfl:=Qf h;exact T.oneX' (by kernel_rfl) (f15n1_ok a1 h418) (tds:=[]) (m:=[]) (keep:=[2]) (st2:=(f15n0E a1 (.ret 8)).2) (by kernel_rfl) an rfl rfl
 ·obtain rfl:=Qf h;exact rK Qi 2 [j3,(jT [7,8,9],[jH 4 (jB x7),(10,.bool true)],[]),j3] [none] [] [] [2] .ret ((f15n0E a1 (.ret 8)).2) (ap4 (Qaf h9) (ap (f39_ok a1.From a1.To h8) an)) rfl
noncomputable def f15(a1:Qh):Option Int:=(f15n0 a1).bind fun o=>match o with
 | .ret v434=>some v434
theorem Qar(a1:Qh){r:Int}(h:f15 a1=some r):Ql Tryd.prog false 15 [(jA Qh.cells a1)] [] (jI r) []:=by
 unfold f15 at h;obtain ⟨o,ho,h⟩:=Qe h;cases o with
 | ret v434 =>
  obtain rfl:=Qf h;exact Ql.plain Qi (f:=Tryd.f15) (c:=c15) (by kernel_rfl) (by kernel_rfl) (by kernel_rfl) (by kernel_rfl) ((f15n0_ok a1 ho).mono fun r e=>by subst e; exact ⟨.inl rfl,(jI v434),(jI v434),by kernel_rfl,by kernel_rfl,((Wk.refl _):Wk (jI v434) (jI v434))⟩)

def ita31(n:Int):Option ByteArray:=bif decide (-9223372036854775808≤n)&&decide (n≤9223372036854775807) then some (itoaB n) else none
theorem ita31_ok(n:Int){r:ByteArray}(h:ita31 n=some r):Ql Tryd.prog false 31 [.pl (.int .i64 n)] [] (.pl (.str r)) []:=by
 unfold ita31 at h;cases hc:(decide (-9223372036854775808≤n)&&decide (n≤9223372036854775807)) with
 | false=>rw [hc] at h; cases h
 | true =>
  rw [hc] at h;simp only [cond_true,Option.some.injEq] at h;rw [Bool.and_eq_true] at hc;subst h;exact itoa_call (of_decide_eq_true hc.1) (of_decide_eq_true hc.2)


def wr57(p1:Int):Option ByteArray:=bif decide (0<p1)&&decide (p1≤281474976710656) then some ⟨#[]⟩ else none
theorem wr57_ok(p1:Int){r:ByteArray}(h:wr57 p1=some r):Ql Tryd.prog true 57 [.bp 0 0,.pl (.int .i64 p1)] [some bxN] (.tup []) [some (bxU 1),some (.brow 5 r)]:=by
 unfold wr57 at h;cases hc:(decide (0<p1)&&decide (p1≤281474976710656)) with
 | false=>rw [hc] at h; cases h
 | true =>
  rw [hc] at h;simp only [cond_true,Option.some.injEq] at h;rw [Bool.and_eq_true] at hc;subst h;exact ws_grow (of_decide_eq_true hc.1) (of_decide_eq_true hc.2)


def wm32(p1 p2:ByteArray):Option ByteArray:=bif decide (p1.size+p2.size≤140737488355328) then some (scat p1 p2) else none
theorem wm32_ok(p1 p2:ByteArray){r:ByteArray}(h:wm32 p1 p2=some r):Ql Tryd.prog true 32 [.bp 0 0,.pl (.str p2)] [some (bxU 1),some (.brow 5 p1)] (.tup [.pl (.int .i64 (p2.size:Int)),.pl .nili]) [some (bxU 2),none,some (.brow 5 r)]:=by
 unfold wm32 at h;cases hc:(decide (p1.size+p2.size≤140737488355328)) with
 | false=>rw [hc] at h; cases h
 | true =>
  rw [hc] at h;simp only [cond_true,Option.some.injEq] at h;subst h;exact ws_more (of_decide_eq_true hc)


def wg34(p1:ByteArray):Option ByteArray:=bif decide (0<p1.size) then some p1 else none
theorem wg34_ok(p1:ByteArray){r:ByteArray}(h:wg34 p1=some r):Ql Tryd.prog true 34 [.bp 0 0] [some (bxU 1),some (.brow 5 p1)] (.pl (.str r)) [some (bxU 1),none]:=by
 unfold wg34 at h;cases hc:(decide (0<p1.size)) with
 | false=>rw [hc] at h; cases h
 | true =>
  rw [hc] at h;simp only [cond_true,Option.some.injEq] at h;subst h;exact ws_str (of_decide_eq_true hc)


noncomputable def c33:Code:=Tryd.f33.body.getD .skip
inductive f33n1O where
 | norm (v20:Int)
def f33n1E(bs1:List ByteArray)(bd2:ByteArray):f33n1O→Ex×Tr×Hp
 | .norm v20=>(.norm,mkS [(0,(jL 1 cStr bs1)),(1,(jS bd2)),(5,(jI v20))],[])
def f33n1S(bs1:List ByteArray)(bd2:ByteArray):Tr×Hp:=(mkS [(0,(jL 1 cStr bs1)),(1,(jS bd2)),(5,(jI 0))],[])
noncomputable def f33n1(bs1:List ByteArray)(bd2:ByteArray):Option f33n1O :=
 bif decide (0<(bd2.size:Int)) then
  req (!(decide ((wr64 ((bs1.length:Int)-1))=0))) <|
  bif (decide ((wr64 (Int.tdiv 9223372036854775807 (wr64 ((bs1.length:Int)-1))))≤(bd2.size:Int))) then
   none
  else
   some (.norm (wr64 (0+(wr64 ((bd2.size:Int)*(wr64 ((bs1.length:Int)-1)))))))
 else
  some (.norm 0)
theorem f33n1_ok(bs1:List ByteArray)(bd2:ByteArray){o:f33n1O}(h:f33n1 bs1 bd2=some o):T Tryd.prog Tryd.f33.ntmps 0 (cL (Qt 3 c33)) (f33n1S bs1 bd2) (·=f33n1E bs1 bd2 o):=by
 unfold f33n1 at h;rcases Qg h with ⟨h17,h⟩|⟨h17,h⟩
 ·obtain ⟨h18,h⟩:=Qam h;rcases Qg h with ⟨h19,h⟩|⟨h19,h⟩
  ·cases h
  ·obtain rfl:=Qf h;exact rE Qi [j3,([],[(5,.nz)],[(3,.val (jI (bs1.length:Int)))]),([],[],[(4,.val (jI (bs1.length:Int)))])] [some true,some false] [] [] [0,1,5] (.norm,(f33n1E bs1 bd2 (.norm (wr64 (0+(wr64 ((bd2.size:Int)*(wr64 ((bs1.length:Int)-1)))))))).2) (ap h17 (ap (Qan (xs:=bs1) (c:=cStr)) (ap (ne_of h18) (ap h19 (ap (Qan (xs:=bs1) (c:=cStr)) an))))) rfl
 ·obtain rfl:=Qf h;exact rE Qi [j3] [some false] [] [] [0,1,5] (.norm,(f33n1E bs1 bd2 (.norm 0)).2) (ap h17 an) rfl
inductive f33n3O where
 | exit1 (v52:Int)
def f33n3E(bs1:List ByteArray)(bd2:ByteArray):f33n3O→Ex×Tr×Hp
 | .exit1 v52=>((.exit 1),mkS [(0,(jL 1 cStr bs1)),(1,(jS bd2)),(5,(jI v52))],[])
def f33n3S(bs1:List ByteArray)(bd2:ByteArray)(v42 v43:Int):Tr×Hp:=(mkS [(0,(jL 1 cStr bs1)),(1,(jS bd2)),(5,(jI v42)),(39,(jL 1 cStr bs1)),(40,(jI (bs1.length:Int))),(41,(jI v43))],[])
noncomputable def f33n3:Nat→List ByteArray→ByteArray→Int→Int→Option f33n3O
 | 0,_,_,_,_=>none
 | f+1,bs1,bd2,v42,v43 =>
  bif decide (v43<(bs1.length:Int)) then
   (at? bs1 v43).bind fun x49 =>
   bif (decide ((wr64 (9223372036854775807-v42))<(x49.size:Int))) then
    none
   else
    (f33n3 f bs1 bd2 (wr64 (v42+(x49.size:Int))) (wr64 (v43+1)))
  else
   some (.exit1 v42)
theorem f33n3_ok:∀(f:Nat)(bs1:List ByteArray)(bd2:ByteArray)(v42 v43:Int){o:f33n3O},f33n3 f bs1 bd2 v42 v43=some o→TL Tryd.prog Tryd.f33.ntmps 0 f (cL (cL (Qt 1 (cL (Qt 0 (Qt 1 (Qt 3 c33))))))) (f33n3S bs1 bd2 v42 v43) (·=f33n3E bs1 bd2 o)
 | 0,_,_,_,_,o,h=>by rw [f33n3] at h; cases h
 | f+1,bs1,bd2,v42,v43,o,h=>by
  rw [f33n3] at h;refine TL.body (K:=fun s=>∃v42:Int,∃v43:Int,s=(f33n3S bs1 bd2 v42 v43)∧f33n3 f bs1 bd2 v42 v43=some o) ?_ (by rintro _ ⟨v42,v43,rfl,hk⟩; exact f33n3_ok f _ _ _ _ hk);rcases Qg h with ⟨h45,h⟩|⟨h45,h⟩
  ·obtain ⟨x49,h50,h⟩:=Qe h;rcases Qg h with ⟨h51,h⟩|⟨h51,h⟩
   ·cases h
   ·exact rE Qi [j3,([],[(0,.idx (Int.toNat v43) (cStr x49))],[]),j3,j3,j3] [some true,some false] [] [] [0,1,5,39,40,41] (.norm,(f33n3S bs1 bd2 (wr64 (v42+(x49.size:Int))) (wr64 (v43+1)))) (ap h45 (ap (Qm h50).1 (ap (Qag cStr (Qm h50).2) (ap h51 an)))) (Qad.norm ⟨(wr64 (v42+(x49.size:Int))),(wr64 (v43+1)),rfl,h⟩)
  ·obtain rfl:=Qf h;exact rK Qi 2 [j3] [some false] [] [] [0,1,5] (.exit 1) ((f33n3E bs1 bd2 (.exit1 v42)).2) (ap h45 an) (Qad.out rfl rfl)
inductive f33n2O where
 | norm (v56:Int)
def f33n2E(bs1:List ByteArray)(bd2:ByteArray)(bf3:Int):f33n2O→Ex×Tr×Hp
 | .norm v56=>(.norm,mkS [(0,(jL 1 cStr bs1)),(1,(jS bd2)),(5,(jI v56))],[])
def f33n2S(bs1:List ByteArray)(bd2:ByteArray)(bf3:Int):Tr×Hp:=(mkS [(0,(jL 1 cStr bs1)),(1,(jS bd2)),(5,(jI bf3))],[])
noncomputable def f33n2(bs1:List ByteArray)(bd2:ByteArray)(bf3:Int):Option f33n2O :=
 (f33n3 FUEL bs1 bd2 bf3 0).bind fun o53=>match o53 with
 | .exit1 v55=>some (.norm v55)
theorem f33n2_ok(bs1:List ByteArray)(bd2:ByteArray)(bf3:Int){o:f33n2O}(h:f33n2 bs1 bd2 bf3=some o):T Tryd.prog Tryd.f33.ntmps 0 (cL (Qt 0 (Qt 1 (Qt 3 c33)))) (f33n2S bs1 bd2 bf3) (·=f33n2E bs1 bd2 bf3 o):=by
 unfold f33n2 at h;refine rN Qi 1 [([],[],[(1,.val (jI (bs1.length:Int)))])] [] [] [] [0,1,5,39,40,41] (f33n3S bs1 bd2 bf3 0) (ap (Qan (xs:=bs1) (c:=cStr)) an) ?_;obtain ⟨o53,h54,h⟩:=Qe h;cases o53 with
 | exit1 v55 =>
  obtain rfl:=Qf h;exact T.last' (T.bl (i:=1) (by kernel_rfl) (by kernel_rfl) (f33n3_ok FUEL bs1 bd2 bf3 0 h54)) (tds:=[]) (m:=[]) (keep:=[0,1,5]) (st2:=(f33n2E bs1 bd2 bf3 (.norm v55)).2) (by kernel_rfl) an rfl
inductive f33n5O where
 | exit3 (v120:ByteArray)
def f33n5E(bd2:ByteArray)(bs1:List ByteArray):f33n5O→Ex×Tr×Hp
 | .exit3 v120=>((.exit 3),mkS [(8,(.bp 0 0))],[some (.box 71 [(.bp 0 0),(.own 1)]),some (.brow 5 v120)])
def f33n5S(bd2:ByteArray)(bs1:List ByteArray)(v104:Int)(v105:ByteArray):Tr×Hp:=(mkS [(1,(jS bd2)),(8,(.bp 0 0)),(63,(.pl (.sl .any 1 ((bs1.drop (Int.toNat 1)).map cStr)))),(64,(jI ((bs1.drop (Int.toNat 1)).length:Int))),(65,(jI v104))],[some (.box 71 [(.bp 0 0),(.own 1)]),some (.brow 5 v105)])
noncomputable def f33n5:Nat→ByteArray→List ByteArray→Int→ByteArray→Option f33n5O
 | 0,_,_,_,_=>none
 | f+1,bd2,bs1,v104,v105 =>
  bif (decide (v104<((bs1.drop (Int.toNat 1)).length:Int))) then
   (at? (bs1.drop (Int.toNat 1)) v104).bind fun x114 =>
   (wm32 v105 bd2).bind fun x116 =>
   (wm32 x116 x114).bind fun x118 =>
   (f33n5 f bd2 bs1 (wr64 (v104+1)) x118)
  else
   some (.exit3 v105)
theorem f33n5_ok:∀(f:Nat)(bd2:ByteArray)(bs1:List ByteArray)(v104:Int)(v105:ByteArray){o:f33n5O},f33n5 f bd2 bs1 v104 v105=some o→TL Tryd.prog Tryd.f33.ntmps 0 f (cL (cL (Qt 1 (cL (Qt 3 (Qt 1 (Qt 0 (Qt 1 (Qt 3 c33))))))))) (f33n5S bd2 bs1 v104 v105) (·=f33n5E bd2 bs1 o)
 | 0,_,_,_,_,o,h=>by rw [f33n5] at h; cases h
 | f+1,bd2,bs1,v104,v105,o,h=>by
  rw [f33n5] at h;refine TL.body (K:=fun s=>∃v104:Int,∃v105:ByteArray,s=(f33n5S bd2 bs1 v104 v105)∧f33n5 f bd2 bs1 v104 v105=some o) ?_ (by rintro _ ⟨v104,v105,rfl,hk⟩; exact f33n5_ok f _ _ _ _ hk);rcases Qg h with ⟨h107,h⟩|⟨h107,h⟩
  ·obtain ⟨x114,h115,h⟩:=Qe h;obtain ⟨x116,h117,h⟩:=Qe h;obtain ⟨x118,h119,h⟩:=Qe h;exact rE Qi [j3,([],[(0,.idx (Int.toNat v104) (cStr x114))],[]),([],[(1,.call (.tup [(jI ((bd2.size:Nat):Int)),(.pl .nili)]) [some (.box 71 [(.bp 0 0),(.own 2)]),none,some (.brow 5 x116)])],[]),([],[(1,.call (.tup [(jI ((x114.size:Nat):Int)),(.pl .nili)]) [some (.box 71 [(.bp 0 0),(.own 3)]),none,none,some (.brow 5 x118)])],[]),j3] [some true] [] [0,3] [1,8,63,64,65] (.norm,(f33n5S bd2 bs1 (wr64 (v104+1)) x118)) (ap h107 (ap (Qm h115).1 (ap (Qag cStr (Qm h115).2) (ap (wm32_ok v105 bd2 h117) (ap (Ql.rn 3 [0,2] (wm32_ok x116 x114 h119)) an))))) (Qad.norm ⟨(wr64 (v104+1)),x118,rfl,h⟩)
  ·obtain rfl:=Qf h;exact rK Qi 2 [j3] [some false] [] [0,1] [8] (.exit 3) ((f33n5E bd2 bs1 (.exit3 v105)).2) (ap h107 an) (Qad.out rfl rfl)
inductive f33n4O where
 | norm (v124:ByteArray)
def f33n4E(bs1:List ByteArray)(bd2 bd3:ByteArray):f33n4O→Ex×Tr×Hp
 | .norm v124=>(.norm,mkS [(8,(.bp 0 0))],[some (.box 71 [(.bp 0 0),(.own 1)]),some (.brow 5 v124)])
def f33n4S(bs1:List ByteArray)(bd2 bd3:ByteArray):Tr×Hp:=(mkS [(0,(jL 1 cStr bs1)),(1,(jS bd2)),(8,(.bp 0 0))],[some (.box 71 [(.bp 0 0),(.own 1)]),some (.brow 5 bd3)])
noncomputable def f33n4(bs1:List ByteArray)(bd2 bd3:ByteArray):Option f33n4O :=
 req (cutB 1 (bs1.length:Int) bs1.length) <|
 (f33n5 FUEL bd2 bs1 0 bd3).bind fun o121=>match o121 with
 | .exit3 v123=>some (.norm v123)
theorem f33n4_ok(bs1:List ByteArray)(bd2 bd3:ByteArray){o:f33n4O}(h:f33n4 bs1 bd2 bd3=some o):T Tryd.prog Tryd.f33.ntmps 0 (cL (Qt 3 (Qt 1 (Qt 0 (Qt 1 (Qt 3 c33)))))) (f33n4S bs1 bd2 bd3) (·=f33n4E bs1 bd2 bd3 o):=by
 unfold f33n4 at h;obtain ⟨h73,h⟩:=Qam h;refine rN Qi 1 [([],[(1,.cut (Int.toNat 1) bs1.length)],[(1,.val (.pl (.sl .any 1 ((bs1.drop (Int.toNat 1)).map cStr)))),(2,.val (jI ((bs1.drop (Int.toNat 1)).length:Int)))])] [] [] [0,1] [1,8,63,64,65] (f33n5S bd2 bs1 0 bd3) (ap (cut_nl_1_map (c:=cStr) h73) (ap (cut_nl_2 h73) (ap (cut_nl_3 h73) (ap (cut_nl_4_map (c:=cStr) h73) (ap (congrArg (fun l=>AV.pl (.sl .any 1 l)) (drop_cv (xs:=bs1) (c:=cStr) (m:=(Int.toNat 1)))) (ap (Qan (xs:=(bs1.drop (Int.toNat 1))) (c:=cStr)) an)))))) ?_;obtain ⟨o121,h122,h⟩:=Qe h;cases o121 with
 | exit3 v123 =>
  obtain rfl:=Qf h;exact T.last' (T.bl (i:=3) (by kernel_rfl) (by kernel_rfl) (f33n5_ok FUEL bd2 bs1 0 bd3 h122)) (tds:=[]) (m:=[0,1]) (keep:=[8]) (st2:=(f33n4E bs1 bd2 bd3 (.norm v123)).2) (by kernel_rfl) an rfl
inductive f33n0O where
 | ret (v132:ByteArray)
def f33n0E(a1:List ByteArray)(a2:ByteArray):f33n0O→Ex×Tr×Hp
 | .ret v132=>(.ret,mkS [(4,(jS v132))],[])
def f33n0S(a1:List ByteArray)(a2:ByteArray):Tr×Hp:=(Qal [(jL 1 cStr a1),(jS a2)] 0 .leaf,[])
noncomputable def f33n0(a1:List ByteArray)(a2:ByteArray):Option f33n0O :=
 bif decide ((a1.length:Int)=0) then
  some (.ret Qy)
 else
  bif decide ((a1.length:Int)=1) then
   (at? a1 0).bind fun x9 =>
   some (.ret x9)
  else
   (f33n1 a1 a2).bind fun o21=>match o21 with
   | .norm v23=>(f33n2 a1 a2 v23).bind fun o57=>match o57 with
    | .norm v59=>(wr57 v59).bind fun x62 =>
     (at? a1 0).bind fun x68 =>
     (wm32 x62 x68).bind fun x70 =>
     (f33n4 a1 a2 x70).bind fun o125=>match o125 with
     | .norm v127=>(wg34 v127).bind fun x130 =>
      some (.ret x130)
theorem f33n0_ok(a1:List ByteArray)(a2:ByteArray){o:f33n0O}(h:f33n0 a1 a2=some o):T Tryd.prog Tryd.f33.ntmps 0 c33 (f33n0S a1 a2) (·=f33n0E a1 a2 o):=by
 unfold f33n0 at h;rcases Qg h with ⟨h7,h⟩|⟨h7,h⟩
 ·obtain rfl:=Qf h;exact rK Qi 2 [j3,([],[],[(1,.val (jI (a1.length:Int)))]),j3,j3] [some true] [] [] [4] .ret ((f33n0E a1 a2 (.ret Qy)).2) (ap (Qan (xs:=a1) (c:=cStr)) (ap h7 an)) rfl
 ·rcases Qg h with ⟨h8,h⟩|⟨h8,h⟩
  ·obtain ⟨x9,h10,h⟩:=Qe h;obtain rfl:=Qf h;exact rK Qi 2 [j3,([],[],[(1,.val (jI (a1.length:Int)))]),j3,j3,([],[(1,.idx (Int.toNat 0) (cStr x9))],[])] [some false,some true] [] [] [4] .ret ((f33n0E a1 a2 (.ret x9)).2) (ap (Qan (xs:=a1) (c:=cStr)) (ap h7 (ap h8 (ap (Qm h10).1 (ap (Qag cStr (Qm h10).2) an))))) rfl
  ·refine rN Qi 3 [j3,([],[],[(1,.val (jI (a1.length:Int)))]),j3,j3,j3] [some false,some false] [] [] [0,1,5] (f33n1S a1 a2) (ap (Qan (xs:=a1) (c:=cStr)) (ap h7 (ap h8 an))) ?_;obtain ⟨o21,h22,h⟩:=Qe h;cases o21 with
   | norm v23 =>
    refine T.oneN (by kernel_rfl) (f33n1_ok a1 a2 h22) (st2:=(f33n1E a1 a2 (.norm v23)).2) rfl ?_;refine rN Qi 0 [] [] [] [] [0,1,5] (f33n2S a1 a2 v23) an ?_;obtain ⟨o57,h58,h⟩:=Qe h;cases o57 with
    | norm v59 =>
     refine T.oneN (by kernel_rfl) (f33n2_ok a1 a2 v23 h58) (st2:=(f33n2E a1 a2 v23 (.norm v59)).2) rfl ?_;obtain ⟨x62,h63,h⟩:=Qe h;obtain ⟨x68,h69,h⟩:=Qe h;obtain ⟨x70,h71,h⟩:=Qe h;refine rN Qi 3 [j3,([],[(1,.call (.tup []) [some (.box 71 [(.bp 0 0),(.own 1)]),some (.brow 5 x62)])],[]),([],[(1,.idx (Int.toNat 0) (cStr x68)),(3,.call (.tup [(jI ((x68.size:Nat):Int)),(.pl .nili)]) [some (.box 71 [(.bp 0 0),(.own 2)]),none,some (.brow 5 x70)])],[])] [] [] [0,2] [0,1,8] (f33n4S a1 a2 x70) (ap (wr57_ok v59 h63) (ap (Qm h69).1 (ap (Qag cStr (Qm h69).2) (ap (wm32_ok x62 x68 h71) an)))) ?_;obtain ⟨o125,h126,h⟩:=Qe h;cases o125 with
     | norm v127 =>
      refine T.oneN (by kernel_rfl) (f33n4_ok a1 a2 x70 h126) (st2:=(f33n4E a1 a2 x70 (.norm v127)).2) rfl ?_;obtain ⟨x130,h131,h⟩:=Qe h;obtain rfl:=Qf h;exact rE Qi [([],[(0,.call (jS x130) [some (.box 71 [(.bp 0 0),(.own 1)]),none])],[])] [] [] [] [4] (.ret,(f33n0E a1 a2 (.ret x130)).2) (ap (wg34_ok v127 h131) an) rfl
noncomputable def f33(a1:List ByteArray)(a2:ByteArray):Option ByteArray:=(f33n0 a1 a2).bind fun o=>match o with
 | .ret v132=>some v132
theorem f33_ok(a1:List ByteArray)(a2:ByteArray){r:ByteArray}(h:f33 a1 a2=some r):Ql Tryd.prog false 33 [(jL 1 cStr a1),(jS a2)] [] (jS r) []:=by
 unfold f33 at h;obtain ⟨o,ho,h⟩:=Qe h;cases o with
 | ret v132 =>
  obtain rfl:=Qf h;exact Ql.plain Qi (f:=Tryd.f33) (c:=c33) (by kernel_rfl) (by kernel_rfl) (by kernel_rfl) (by kernel_rfl) ((f33n0_ok a1 a2 ho).mono fun r e=>by subst e; exact ⟨.inl rfl,(jS v132),(jS v132),by kernel_rfl,by kernel_rfl,((Wk.refl _):Wk (jS v132) (jS v132))⟩)
end Go.Proofs.YtfeklaffeigilaaDoor
