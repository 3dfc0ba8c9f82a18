/- Several texts in one. No condition. -/
import Derived.Test.YthpceddjepbamaaA7
import Derived.Test.YthpceddjepbamaaTU
namespace Go.Proofs.Ythpceddjepbamaa
set_option linter.unusedVariables false
set_option linter.unusedSimpArgs false
set_option maxRecDepth 100000
open Go.RowKit

noncomputable def c29:Code:=Try.f29.body.getD .skip
inductive f29n2O where
 | exit0
 | ret
def f29n2E(bg1 bg2:List Qc):f29n2O→Ex×Tr×Hp
 | .exit0=>((.exit 0),mkS [],[])
 | .ret=>(.ret,mkS [(4,(jB false))],[])
def f29n2S(bg1 bg2:List Qc)(v30:Int):Tr×Hp:=(mkS [(0,(jL 3 Qc.cells bg1)),(1,(jL 3 Qc.cells bg2)),(5,(jI v30))],[])
noncomputable def f29n2:Nat→List Qc→List Qc→Int→Option f29n2O
 | 0,_,_,_=>none
 | f+1,bg1,bg2,v30 =>
  bif decide (v30<(bg1.length:Int)) then
   (at? bg1 v30).bind fun x38 =>
   (at? bg2 v30).bind fun x40 =>
   bif (Qc.eqb x38 x40) then
    (f29n2 f bg1 bg2 (wr64 (v30+1)))
   else
    some .ret
  else
   some .exit0
theorem f29n2_ok:∀(f:Nat)(bg1 bg2:List Qc)(v30:Int){o:f29n2O},f29n2 f bg1 bg2 v30=some o→TL Try.prog Try.f29.ntmps 0 f (cL (cL (Ql 1 (cL (Ql 2 c29))))) (f29n2S bg1 bg2 v30) (·=f29n2E bg1 bg2 o)
 | 0,_,_,_,o,h=>by rw [f29n2] at h; cases h
 | f+1,bg1,bg2,v30,o,h=>by
  rw [f29n2] at h;refine TL.body (K:=fun s=>∃v30:Int,s=(f29n2S bg1 bg2 v30)∧f29n2 f bg1 bg2 v30=some o) ?_ (by rintro _ ⟨v30,rfl,hk⟩; exact f29n2_ok f _ _ _ hk);rcases Qi h with ⟨h32,h⟩|⟨h32,h⟩
  ·obtain ⟨x38,h39,h⟩:=Qf h;obtain ⟨x40,h41,h⟩:=Qf h;rcases Qi h with ⟨h42,h⟩|⟨h42,h⟩
   ·exact rE Qh [([],[],[(2,.val (jI (bg1.length:Int)))]),([],[(2,.idx (Int.toNat v30) (Qc.cells x38)),(6,.idx (Int.toNat v30) (Qc.cells x40)),(8,.bool (Qc.eqb x38 x40))],[]),j3] [some true,some false] [] [] [0,1,5] (.norm,(f29n2S bg1 bg2 (wr64 (v30+1)))) (ap (Qad (xs:=bg1) (c:=Qc.cells)) (ap h32 (ap (Qk h39).1 (ap (Qq Qc.cells (Qk h39).2) (ap (Qk h41).1 (ap (Qq Qc.cells (Qk h41).2) (ap (Qc.eqb_ok x38 x40) (ap (Qac h42) an)))))))) (Qu.norm ⟨(wr64 (v30+1)),rfl,h⟩)
   ·obtain rfl:=Qg h;exact rK Qh 2 [([],[],[(2,.val (jI (bg1.length:Int)))]),([],[(2,.idx (Int.toNat v30) (Qc.cells x38)),(6,.idx (Int.toNat v30) (Qc.cells x40)),(8,.bool (Qc.eqb x38 x40))],[]),j3] [some true,some true] [] [] [4] .ret ((f29n2E bg1 bg2 .ret).2) (ap (Qad (xs:=bg1) (c:=Qc.cells)) (ap h32 (ap (Qk h39).1 (ap (Qq Qc.cells (Qk h39).2) (ap (Qk h41).1 (ap (Qq Qc.cells (Qk h41).2) (ap (Qc.eqb_ok x38 x40) (ap (Qak h42) an)))))))) (Qu.out rfl rfl)
  ·obtain rfl:=Qg h;exact rK Qh 1 [([],[],[(2,.val (jI (bg1.length:Int)))])] [some false] [] [] [] (.exit 0) ((f29n2E bg1 bg2 .exit0).2) (ap (Qad (xs:=bg1) (c:=Qc.cells)) (ap h32 an)) (Qu.out rfl rfl)
inductive f29n1O where
 | norm
 | ret
def f29n1E(bg1 bg2:List Qc):f29n1O→Ex×Tr×Hp
 | .norm=>(.norm,mkS [],[])
 | .ret=>(.ret,mkS [(4,(jB false))],[])
def f29n1S(bg1 bg2:List Qc):Tr×Hp:=(mkS [(0,(jL 3 Qc.cells bg1)),(1,(jL 3 Qc.cells bg2))],[])
noncomputable def f29n1(bg1 bg2:List Qc):Option f29n1O :=
 (f29n2 FUEL bg1 bg2 0).bind fun o43=>match o43 with
 | .exit0=>some .norm
 | .ret=>some .ret
theorem f29n1_ok(bg1 bg2:List Qc){o:f29n1O}(h:f29n1 bg1 bg2=some o):T Try.prog Try.f29.ntmps 0 (cL (Ql 2 c29)) (f29n1S bg1 bg2) (·=f29n1E bg1 bg2 o):=by
 unfold f29n1 at h;refine rN Qh 1 [j3] [] [] [] [0,1,5] (f29n2S bg1 bg2 0) an ?_;obtain ⟨o43,h44,h⟩:=Qf h;cases o43 with
 | exit0 =>
  obtain rfl:=Qg h;exact T.last' (T.bl (i:=0) (by kernel_rfl) (by kernel_rfl) (f29n2_ok FUEL bg1 bg2 0 h44)) (tds:=[]) (m:=[]) (keep:=[]) (st2:=(f29n1E bg1 bg2 .norm).2) (by kernel_rfl) an rfl
 | ret =>
  obtain rfl:=Qg h;exact T.last' (T.bl (i:=0) (by kernel_rfl) (by kernel_rfl) (f29n2_ok FUEL bg1 bg2 0 h44)) (tds:=[]) (m:=[]) (keep:=[4]) (st2:=(f29n1E bg1 bg2 .ret).2) (by kernel_rfl) an rfl
inductive f29n0O where
 | ret (v47:Bool)
def f29n0E(a1 a2:List Qc):f29n0O→Ex×Tr×Hp
 | .ret v47=>(.ret,mkS [(4,(jB v47))],[])
def f29n0S(a1 a2:List Qc):Tr×Hp:=(Qag [(jL 3 Qc.cells a1),(jL 3 Qc.cells a2)] 0 .leaf,[])
noncomputable def f29n0(a1 a2:List Qc):Option f29n0O :=
 bif decide ((a1.length:Int)=(a2.length:Int)) then
  (f29n1 a1 a2).bind fun o45=>match o45 with
  | .norm=>some (.ret true)
  | .ret=>some (.ret false)
 else
  some (.ret false)
theorem f29n0_ok(a1 a2:List Qc){o:f29n0O}(h:f29n0 a1 a2=some o):T Try.prog Try.f29.ntmps 0 c29 (f29n0S a1 a2) (·=f29n0E a1 a2 o):=by
 unfold f29n0 at h;rcases Qi h with ⟨h4,h⟩|⟨h4,h⟩
 ·refine rN Qh 2 [j3,([],[],[(1,.val (jI (a1.length:Int))),(3,.val (jI (a2.length:Int)))])] [some false] [] [] [0,1] (f29n1S a1 a2) (ap (Qad (xs:=a1) (c:=Qc.cells)) (ap (Qad (xs:=a2) (c:=Qc.cells)) (ap (Qac h4) an))) ?_;obtain ⟨o45,h46,h⟩:=Qf h;cases o45 with
  | norm =>
   refine T.oneN (by kernel_rfl) (f29n1_ok a1 a2 h46) (st2:=(f29n1E a1 a2 .norm).2) rfl ?_;obtain rfl:=Qg h;exact rE Qh [j3] [] [] [] [4] (.ret,(f29n0E a1 a2 (.ret true)).2) an rfl
  | ret =>
   obtain rfl:=Qg h;exact T.oneX' (by kernel_rfl) (f29n1_ok a1 a2 h46) (tds:=[]) (m:=[]) (keep:=[4]) (st2:=(f29n0E a1 a2 (.ret false)).2) (by kernel_rfl) an rfl rfl
 ·obtain rfl:=Qg h;exact rK Qh 2 [j3,([],[],[(1,.val (jI (a1.length:Int))),(3,.val (jI (a2.length:Int)))]),j3] [some true] [] [] [4] .ret ((f29n0E a1 a2 (.ret false)).2) (ap (Qad (xs:=a1) (c:=Qc.cells)) (ap (Qad (xs:=a2) (c:=Qc.cells)) (ap (Qak h4) an))) rfl
noncomputable def f29(a1 a2:List Qc):Option Bool:=(f29n0 a1 a2).bind fun o=>match o with
 | .ret v47=>some v47
theorem f29_ok(a1 a2:List Qc){r:Bool}(h:f29 a1 a2=some r):Qn Try.prog false 29 [(jL 3 Qc.cells a1),(jL 3 Qc.cells a2)] [] (jB r) []:=by
 unfold f29 at h;obtain ⟨o,ho,h⟩:=Qf h;cases o with
 | ret v47 =>
  obtain rfl:=Qg h;exact Qn.plain Qh (f:=Try.f29) (c:=c29) (by kernel_rfl) (by kernel_rfl) (by kernel_rfl) (by kernel_rfl) ((f29n0_ok a1 a2 ho).mono fun r e=>by subst e; exact ⟨.inl rfl,(jB v47),(jB v47),by kernel_rfl,by kernel_rfl,((Wk.refl _):Wk (jB v47) (jB v47))⟩)

noncomputable def c30:Code:=Try.f30.body.getD .skip
inductive f30n2O where
 | exit0
 | ret
def f30n2E(bl1 bl2:List Int):f30n2O→Ex×Tr×Hp
 | .exit0=>((.exit 0),mkS [],[])
 | .ret=>(.ret,mkS [(4,(jB false))],[])
def f30n2S(bl1 bl2:List Int)(v30:Int):Tr×Hp:=(mkS [(0,(.pl (.sl .any 1 (bl1.map (cInt .i64))))),(1,(.pl (.sl .any 1 (bl2.map (cInt .i64))))),(5,(jI v30))],[])
noncomputable def f30n2:Nat→List Int→List Int→Int→Option f30n2O
 | 0,_,_,_=>none
 | f+1,bl1,bl2,v30 =>
  bif decide (v30<(bl1.length:Int)) then
   (at? bl1 v30).bind fun x38 =>
   (at? bl2 v30).bind fun x40 =>
   bif decide (x38=x40) then
    (f30n2 f bl1 bl2 (wr64 (v30+1)))
   else
    some .ret
  else
   some .exit0
theorem f30n2_ok:∀(f:Nat)(bl1 bl2:List Int)(v30:Int){o:f30n2O},f30n2 f bl1 bl2 v30=some o→TL Try.prog Try.f30.ntmps 0 f (cL (cL (Ql 1 (cL (Ql 2 c30))))) (f30n2S bl1 bl2 v30) (·=f30n2E bl1 bl2 o)
 | 0,_,_,_,o,h=>by rw [f30n2] at h; cases h
 | f+1,bl1,bl2,v30,o,h=>by
  rw [f30n2] at h;refine TL.body (K:=fun s=>∃v30:Int,s=(f30n2S bl1 bl2 v30)∧f30n2 f bl1 bl2 v30=some o) ?_ (by rintro _ ⟨v30,rfl,hk⟩; exact f30n2_ok f _ _ _ hk);rcases Qi h with ⟨h32,h⟩|⟨h32,h⟩
  ·obtain ⟨x38,h39,h⟩:=Qf h;obtain ⟨x40,h41,h⟩:=Qf h;rcases Qi h with ⟨h42,h⟩|⟨h42,h⟩
   ·exact rE Qh [([],[],[(2,.val (jI (bl1.length:Int)))]),([],[(2,.idx (Int.toNat v30) ((cInt .i64) x38)),(6,.idx (Int.toNat v30) ((cInt .i64) x40))],[]),j3] [some true,some false] [] [] [0,1,5] (.norm,(f30n2S bl1 bl2 (wr64 (v30+1)))) (ap (Qad (xs:=bl1) (c:=(cInt .i64))) (ap h32 (ap (Qk h39).1 (ap (Qq (cInt .i64) (Qk h39).2) (ap (Qk h41).1 (ap (Qq (cInt .i64) (Qk h41).2) (ap (Qac h42) an))))))) (Qu.norm ⟨(wr64 (v30+1)),rfl,h⟩)
   ·obtain rfl:=Qg h;exact rK Qh 2 [([],[],[(2,.val (jI (bl1.length:Int)))]),([],[(2,.idx (Int.toNat v30) ((cInt .i64) x38)),(6,.idx (Int.toNat v30) ((cInt .i64) x40))],[]),j3] [some true,some true] [] [] [4] .ret ((f30n2E bl1 bl2 .ret).2) (ap (Qad (xs:=bl1) (c:=(cInt .i64))) (ap h32 (ap (Qk h39).1 (ap (Qq (cInt .i64) (Qk h39).2) (ap (Qk h41).1 (ap (Qq (cInt .i64) (Qk h41).2) (ap (Qak h42) an))))))) (Qu.out rfl rfl)
  ·obtain rfl:=Qg h;exact rK Qh 1 [([],[],[(2,.val (jI (bl1.length:Int)))])] [some false] [] [] [] (.exit 0) ((f30n2E bl1 bl2 .exit0).2) (ap (Qad (xs:=bl1) (c:=(cInt .i64))) (ap h32 an)) (Qu.out rfl rfl)
inductive f30n1O where
 | norm
 | ret
def f30n1E(bl1 bl2:List Int):f30n1O→Ex×Tr×Hp
 | .norm=>(.norm,mkS [],[])
 | .ret=>(.ret,mkS [(4,(jB false))],[])
def f30n1S(bl1 bl2:List Int):Tr×Hp:=(mkS [(0,(.pl (.sl .any 1 (bl1.map (cInt .i64))))),(1,(.pl (.sl .any 1 (bl2.map (cInt .i64)))))],[])
noncomputable def f30n1(bl1 bl2:List Int):Option f30n1O :=
 (f30n2 FUEL bl1 bl2 0).bind fun o43=>match o43 with
 | .exit0=>some .norm
 | .ret=>some .ret
theorem f30n1_ok(bl1 bl2:List Int){o:f30n1O}(h:f30n1 bl1 bl2=some o):T Try.prog Try.f30.ntmps 0 (cL (Ql 2 c30)) (f30n1S bl1 bl2) (·=f30n1E bl1 bl2 o):=by
 unfold f30n1 at h;refine rN Qh 1 [j3] [] [] [] [0,1,5] (f30n2S bl1 bl2 0) an ?_;obtain ⟨o43,h44,h⟩:=Qf h;cases o43 with
 | exit0 =>
  obtain rfl:=Qg h;exact T.last' (T.bl (i:=0) (by kernel_rfl) (by kernel_rfl) (f30n2_ok FUEL bl1 bl2 0 h44)) (tds:=[]) (m:=[]) (keep:=[]) (st2:=(f30n1E bl1 bl2 .norm).2) (by kernel_rfl) an rfl
 | ret =>
  obtain rfl:=Qg h;exact T.last' (T.bl (i:=0) (by kernel_rfl) (by kernel_rfl) (f30n2_ok FUEL bl1 bl2 0 h44)) (tds:=[]) (m:=[]) (keep:=[4]) (st2:=(f30n1E bl1 bl2 .ret).2) (by kernel_rfl) an rfl
inductive f30n0O where
 | ret (v47:Bool)
def f30n0E(a1 a2:List Int):f30n0O→Ex×Tr×Hp
 | .ret v47=>(.ret,mkS [(4,(jB v47))],[])
def f30n0S(a1 a2:List Int):Tr×Hp:=(Qag [(.pl (.sl .any 1 (a1.map (cInt .i64)))),(.pl (.sl .any 1 (a2.map (cInt .i64))))] 0 .leaf,[])
noncomputable def f30n0(a1 a2:List Int):Option f30n0O :=
 bif decide ((a1.length:Int)=(a2.length:Int)) then
  (f30n1 a1 a2).bind fun o45=>match o45 with
  | .norm=>some (.ret true)
  | .ret=>some (.ret false)
 else
  some (.ret false)
theorem f30n0_ok(a1 a2:List Int){o:f30n0O}(h:f30n0 a1 a2=some o):T Try.prog Try.f30.ntmps 0 c30 (f30n0S a1 a2) (·=f30n0E a1 a2 o):=by
 unfold f30n0 at h;rcases Qi h with ⟨h4,h⟩|⟨h4,h⟩
 ·refine rN Qh 2 [j3,([],[],[(1,.val (jI (a1.length:Int))),(3,.val (jI (a2.length:Int)))])] [some false] [] [] [0,1] (f30n1S a1 a2) (ap (Qad (xs:=a1) (c:=(cInt .i64))) (ap (Qad (xs:=a2) (c:=(cInt .i64))) (ap (Qac h4) an))) ?_;obtain ⟨o45,h46,h⟩:=Qf h;cases o45 with
  | norm =>
   refine T.oneN (by kernel_rfl) (f30n1_ok a1 a2 h46) (st2:=(f30n1E a1 a2 .norm).2) rfl ?_;obtain rfl:=Qg h;exact rE Qh [j3] [] [] [] [4] (.ret,(f30n0E a1 a2 (.ret true)).2) an rfl
  | ret =>
   obtain rfl:=Qg h;exact T.oneX' (by kernel_rfl) (f30n1_ok a1 a2 h46) (tds:=[]) (m:=[]) (keep:=[4]) (st2:=(f30n0E a1 a2 (.ret false)).2) (by kernel_rfl) an rfl rfl
 ·obtain rfl:=Qg h;exact rK Qh 2 [j3,([],[],[(1,.val (jI (a1.length:Int))),(3,.val (jI (a2.length:Int)))]),j3] [some true] [] [] [4] .ret ((f30n0E a1 a2 (.ret false)).2) (ap (Qad (xs:=a1) (c:=(cInt .i64))) (ap (Qad (xs:=a2) (c:=(cInt .i64))) (ap (Qak h4) an))) rfl
noncomputable def f30(a1 a2:List Int):Option Bool:=(f30n0 a1 a2).bind fun o=>match o with
 | .ret v47=>some v47
theorem f30_ok(a1 a2:List Int){r:Bool}(h:f30 a1 a2=some r):Qn Try.prog false 30 [(.pl (.sl .any 1 (a1.map (cInt .i64)))),(.pl (.sl .any 1 (a2.map (cInt .i64))))] [] (jB r) []:=by
 unfold f30 at h;obtain ⟨o,ho,h⟩:=Qf h;cases o with
 | ret v47 =>
  obtain rfl:=Qg h;exact Qn.plain Qh (f:=Try.f30) (c:=c30) (by kernel_rfl) (by kernel_rfl) (by kernel_rfl) (by kernel_rfl) ((f30n0_ok a1 a2 ho).mono fun r e=>by subst e; exact ⟨.inl rfl,(jB v47),(jB v47),by kernel_rfl,by kernel_rfl,((Wk.refl _):Wk (jB v47) (jB v47))⟩)


inductive f43r2n0O where
 | ret
def f43r2n0E:f43r2n0O→Ex×Tr×Hp
 | .ret=>(.ret,mkS [(2,(.pl (.sl .nil 0 [])))],[])
def f43r2n0S:Tr×Hp:=(Qag [(.pl (.sl .nil 0 []))] 0 .leaf,[])
noncomputable def f43r2n0:Option f43r2n0O :=
 some .ret
theorem f43r2n0_ok{o:f43r2n0O}(h:f43r2n0=some o):T Try.prog Try.f43.ntmps 0 c43 f43r2n0S (·=f43r2n0E o):=by
 unfold f43r2n0 at h;obtain rfl:=Qg h;exact rK Qh 2 [j3,j3,j3] [none] [] [] [2] .ret ((f43r2n0E .ret).2) an rfl
noncomputable def f43r2:Option Unit:=f43r2n0.bind fun o=>match o with
 | .ret=>some ()
theorem f43r2_ok{r:Unit}(h:f43r2=some r):Qn Try.prog true 43 [(.pl (.sl .nil 0 []))] [] (.pl (.sl .nil 0 [])) []:=by
 unfold f43r2 at h;obtain ⟨o,ho,h⟩:=Qf h;cases o with
 | ret =>
  obtain rfl:=Qg h;exact Qn.shared Qh (f:=Try.f43) (c:=c43) (by kernel_rfl) (by kernel_rfl) (by kernel_rfl) ((f43r2n0_ok  ho).mono fun r e=>by subst e; exact ⟨.inl rfl,by kernel_rfl,by kernel_rfl⟩)

inductive f19r2n0O where
 | ret (v12:Int) (v13:Int)
def f19r2n0E(a1:Int):f19r2n0O→Ex×Tr×Hp
 | .ret v12 v13=>(.ret,mkS [(4,(.bp 0 0)),(5,(jI v12))],[some (.box [(.pl (.int .u8 v13)),(.pl (.sl .nil 0 [])),(.pl (.sl .nil 0 []))])])
def f19r2n0S(a1:Int):Tr×Hp:=(Qag [(.pl (.int .u8 a1)),(.pl (.sl .nil 0 []))] 0 .leaf,[])
noncomputable def f19r2n0(a1:Int):Option f19r2n0O :=
 f43r2.bind fun x4 =>
 (f31 (Qe.mk a1 [] [])).bind fun x9 =>
 bif decide (x9=0) then
  some (.ret 0 a1)
 else
  some (.ret 2 0)
theorem f19r2n0_ok(a1:Int){o:f19r2n0O}(h:f19r2n0 a1=some o):T Try.prog Try.f19.ntmps 0 c19 (f19r2n0S a1) (·=f19r2n0E a1 o):=by
 unfold f19r2n0 at h;obtain ⟨x4,h5,h⟩:=Qf h;obtain ⟨x9,h10,h⟩:=Qf h;rcases Qi h with ⟨h11,h⟩|⟨h11,h⟩
 ·obtain rfl:=Qg h;exact rE Qh [j3,([],[(2,.call (.pl (.sl .nil 0 [])) [none])],[]),([],[jH 1 (jI x9)],[]),j3] [some false] [] [0] [4,5] (.ret,(f19r2n0E a1 (.ret 0 a1)).2) (ap (Qn.rn 1 [] (f43r2_ok h5)) (ap (Qn.wk (args':=[(.pl (.agg [(.int .u8 a1),(.sl .nil 0 []),(.sl .nil 0 [])]))]) (Qaq (Qe.mk a1 [] []) h10) (wlc (Wk.pl (WkP.agg (wpc (WkP.refl _) (wpc (WkP.nil (f:=.nil) (sz:=0) (sz':=3)) (wpc (WkP.nil (f:=.nil) (sz:=0) (sz':=4)) wpn))))) wln) (Wk.refl _) rfl) (ap (Qac h11) an))) rfl
 ·obtain rfl:=Qg h;exact rK Qh 3 [j3,([],[(2,.call (.pl (.sl .nil 0 [])) [none])],[]),([],[jH 1 (jI x9)],[]),j3] [some true] [] [0] [4,5] .ret ((f19r2n0E a1 (.ret 2 0)).2) (ap (Qn.rn 1 [] (f43r2_ok h5)) (ap (Qn.wk (args':=[(.pl (.agg [(.int .u8 a1),(.sl .nil 0 []),(.sl .nil 0 [])]))]) (Qaq (Qe.mk a1 [] []) h10) (wlc (Wk.pl (WkP.agg (wpc (WkP.refl _) (wpc (WkP.nil (f:=.nil) (sz:=0) (sz':=3)) (wpc (WkP.nil (f:=.nil) (sz:=0) (sz':=4)) wpn))))) wln) (Wk.refl _) rfl) (ap (Qak h11) an))) rfl
noncomputable def f19r2(a1:Int):Option (Int×Int):=(f19r2n0 a1).bind fun o=>match o with
 | .ret v12 v13=>some (v12,v13)
theorem f19r2_ok(a1:Int){r:Int×Int}(h:f19r2 a1=some r):Qn Try.prog true 19 [(.pl (.int .u8 a1)),(.pl (.sl .nil 0 []))] [] (.tup [(.pl (.agg [(.int .u8 r.2),(.sl .nil 0 []),(.sl .nil 0 [])])),(jI r.1)]) [some (.box [(.pl (.int .u8 r.2)),(.pl (.sl .nil 0 [])),(.pl (.sl .nil 0 []))])]:=by
 unfold f19r2 at h;obtain ⟨o,ho,h⟩:=Qf h;cases o with
 | ret v12 v13 =>
  obtain rfl:=Qg h;exact Qn.shared Qh (f:=Try.f19) (c:=c19) (by kernel_rfl) (by kernel_rfl) (by kernel_rfl) ((f19r2n0_ok a1 ho).mono fun r e=>by subst e; exact ⟨.inl rfl,by kernel_rfl,by kernel_rfl⟩)

inductive f23r2n0O where
 | ret (v40:Int) (v41:Int) (v42:List Qa) (v43:List Qb)
def f23r2n0E(a1:Int)(a2 a3:ByteArray)(a4:Int)(a5:List Qa)(a6:List Qb):f23r2n0O→Ex×Tr×Hp
 | .ret v40 v41 v42 v43=>(.ret,mkS [(10,(.bp 2 0)),(11,(jI v40))],[jR 3 Qa.cells a5,jR 4 Qb.cells a6,some (.box [(.pl (.int .u8 v41)),(.own 3),(.own 4)]),jR 3 Qa.cells v42,jR 4 Qb.cells v43])
def f23r2n0S(a1:Int)(a2 a3:ByteArray)(a4:Int)(a5:List Qa)(a6:List Qb):Tr×Hp:=(Qag [(.agg [(.pl (.int .u8 a1)),(.own 0),(.own 1)]),(jS a2),(jS a3),(jI a4),(jI a4)] 0 .leaf,[jR 3 Qa.cells a5,jR 4 Qb.cells a6])
noncomputable def f23r2n0(a1:Int)(a2 a3:ByteArray)(a4:Int)(a5:List Qa)(a6:List Qb):Option f23r2n0O :=
 (f31 (Qe.mk a1 a5 a6)).bind fun x10 =>
 bif decide (x10=0) then
  (f44 a5 a3).bind fun x15 =>
  (f45 (Qb.mk a2 a3 a4 a4)).bind fun x22 =>
  bif x22 then
   bif x15.2 then
    bif decide ((a6.length:Int)=100) then
     some (.ret 22 0 [] [])
    else
     (f43r1 a5).bind fun x29 =>
     (f46r1 a6).bind fun x37 =>
     req (fit (x37.length+1) 48) <|
     some (.ret 0 a1 x29 (x37++[(Qb.mk a2 a3 a4 a4)]))
   else
    some (.ret 6 0 [] [])
  else
   some (.ret 2 0 [] [])
 else
  some (.ret x10 0 [] [])
theorem f23r2n0_ok(a1:Int)(a2 a3:ByteArray)(a4:Int)(a5:List Qa)(a6:List Qb){o:f23r2n0O}(h:f23r2n0 a1 a2 a3 a4 a5 a6=some o):T Try.prog Try.f23.ntmps 2 c23 (f23r2n0S a1 a2 a3 a4 a5 a6) (·=f23r2n0E a1 a2 a3 a4 a5 a6 o):=by
 unfold f23r2n0 at h;obtain ⟨x10,h11,h⟩:=Qf h;rcases Qi h with ⟨h12,h⟩|⟨h12,h⟩
 ·obtain ⟨x15,h16,h⟩:=Qf h;obtain ⟨x22,h23,h⟩:=Qf h;rcases Qi h with ⟨h24,h⟩|⟨h24,h⟩
  ·rcases Qi h with ⟨h25,h⟩|⟨h25,h⟩
   ·rcases Qi h with ⟨h26,h⟩|⟨h26,h⟩
    ·obtain rfl:=Qg h;exact rK Qh 5 [j3,j3,([],[jH 1 (jI x10)],[]),j3,([],[jH 3 (.tup [(jI x15.1),(jB x15.2)])],[]),([],[jH 1 (jB x22)],[]),j3,([],[],[(2,.val (jI (a6.length:Int)))]),j3] [some false,some false,some false,some true] [.matC 3 1 3,.matC 3 2 4] [3,5,6] [10,11] .ret ((f23r2n0E a1 a2 a3 a4 a5 a6 (.ret 22 0 [] [])).2) (ap (Qaq (Qe.mk a1 a5 a6) h11) (ap (Qac h12) (ap (f44_ok a5 a3 h16) (ap (f45_ok (Qb.mk a2 a3 a4 a4) h23) (ap (Qac h24) (ap (Qac h25) (ap (Qad (xs:=a6) (c:=Qb.cells)) (ap h26 an)))))))) rfl
    ·obtain ⟨x29,h30,h⟩:=Qf h;obtain ⟨x37,h38,h⟩:=Qf h;obtain ⟨h39,h⟩:=Qal h;obtain rfl:=Qg h
     exact rE Qh [j3,j3,([],[jH 1 (jI x10)],[]),j3,([],[jH 3 (.tup [(jI x15.1),(jB x15.2)])],[]),([],[jH 1 (jB x22)],[]),j3,([],[],[(2,.val (jI (a6.length:Int)))]),([],[(2,.call (.own 5) [jR 3 Qa.cells a5,none,none,none,none,jR 3 Qa.cells x29])],[]),([],[(2,.call (.own 9) [none,jR 4 Qb.cells a6,none,none,none,none,none,none,none,jR 4 Qb.cells x37]),(5,.fits)],[(5,.row 7 ((x37++[(Qb.mk a2 a3 a4 a4)]).map Qb.cells))]),j3] [some false,some false,some false,some false] [] [3,5,7] [10,11] (.ret,(f23r2n0E a1 a2 a3 a4 a5 a6 (.ret 0 a1 x29 (x37++[(Qb.mk a2 a3 a4 a4)]))).2) (ap (Qaq (Qe.mk a1 a5 a6) h11) (ap (Qac h12) (ap (f44_ok a5 a3 h16) (ap (f45_ok (Qb.mk a2 a3 a4 a4) h23) (ap (Qac h24) (ap (Qac h25) (ap (Qad (xs:=a6) (c:=Qb.cells)) (ap h26 (ap (Qn.rn 5 [0] (f43r1_ok a5 h30)) (ap (fit_map (te:=ti42) (xs:=x37) (n:=1) (c:=Qb.cells) h39 rfl) (ap (app_cv (xs:=x37) (ys:=[(Qb.mk a2 a3 a4 a4)]) (c:=Qb.cells)) (ap (Qn.rn 9 [1] (f46r1_ok a6 h38)) an)))))))))))) rfl
   ·obtain rfl:=Qg h;exact rK Qh 5 [j3,j3,([],[jH 1 (jI x10)],[]),j3,([],[jH 3 (.tup [(jI x15.1),(jB x15.2)])],[]),([],[jH 1 (jB x22)],[]),j3,j3] [some false,some false,some true] [.matC 3 1 3,.matC 3 2 4] [3,5,6] [10,11] .ret ((f23r2n0E a1 a2 a3 a4 a5 a6 (.ret 6 0 [] [])).2) (ap (Qaq (Qe.mk a1 a5 a6) h11) (ap (Qac h12) (ap (f44_ok a5 a3 h16) (ap (f45_ok (Qb.mk a2 a3 a4 a4) h23) (ap (Qac h24) (ap (Qak h25) an)))))) rfl
  ·obtain rfl:=Qg h;exact rK Qh 5 [j3,j3,([],[jH 1 (jI x10)],[]),j3,([],[jH 3 (.tup [(jI x15.1),(jB x15.2)])],[]),([],[jH 1 (jB x22)],[]),j3] [some false,some true] [.matC 3 1 3,.matC 3 2 4] [3,5,6] [10,11] .ret ((f23r2n0E a1 a2 a3 a4 a5 a6 (.ret 2 0 [] [])).2) (ap (Qaq (Qe.mk a1 a5 a6) h11) (ap (Qac h12) (ap (f44_ok a5 a3 h16) (ap (f45_ok (Qb.mk a2 a3 a4 a4) h23) (ap (Qak h24) an))))) rfl
 ·obtain rfl:=Qg h;exact rK Qh 3 [j3,j3,([],[jH 1 (jI x10)],[]),j3,j3] [some true] [.matC 3 1 3,.matC 3 2 4] [3,5,6] [10,11] .ret ((f23r2n0E a1 a2 a3 a4 a5 a6 (.ret x10 0 [] [])).2) (ap (Qaq (Qe.mk a1 a5 a6) h11) (ap (Qak h12) an)) rfl
noncomputable def f23r2(a1:Int)(a2 a3:ByteArray)(a4:Int)(a5:List Qa)(a6:List Qb):Option (Int×Int×(List Qa)×(List Qb)):=(f23r2n0 a1 a2 a3 a4 a5 a6).bind fun o=>match o with
 | .ret v40 v41 v42 v43=>some (v40,v41,v42,v43)
theorem f23r2_ok(a1:Int)(a2 a3:ByteArray)(a4:Int)(a5:List Qa)(a6:List Qb){r:Int×Int×(List Qa)×(List Qb)}(h:f23r2 a1 a2 a3 a4 a5 a6=some r):Qn Try.prog true 23 [(.agg [(.pl (.int .u8 a1)),(.own 0),(.own 1)]),(jS a2),(jS a3),(jI a4),(jI a4)] [jR 3 Qa.cells a5,jR 4 Qb.cells a6] (.tup [(.agg [(.pl (.int .u8 r.2.1)),(.own 3),(.own 4)]),(jI r.1)]) [jR 3 Qa.cells a5,jR 4 Qb.cells a6,some (.box [(.pl (.int .u8 r.2.1)),(.own 3),(.own 4)]),jR 3 Qa.cells r.2.2.1,jR 4 Qb.cells r.2.2.2]:=by
 unfold f23r2 at h;obtain ⟨o,ho,h⟩:=Qf h;cases o with
 | ret v40 v41 v42 v43 =>
  obtain rfl:=Qg h;exact Qn.shared Qh (f:=Try.f23) (c:=c23) (by kernel_rfl) (by kernel_rfl) (by kernel_rfl) ((f23r2n0_ok a1 a2 a3 a4 a5 a6 ho).mono fun r e=>by subst e; exact ⟨.inl rfl,by kernel_rfl,by kernel_rfl⟩)

inductive f23r3n0O where
 | ret (v40:Int) (v41:Int) (v42:List Qa) (v43:List Qb)
def f23r3n0E(a1:Int)(a2 a3:ByteArray)(a4:Int)(a5:List Qa)(a6:List Qb):f23r3n0O→Ex×Tr×Hp
 | .ret v40 v41 v42 v43=>(.ret,mkS [(10,(.bp 2 0)),(11,(jI v40))],[jR 3 Qa.cells a5,jR 4 Qb.cells a6,some (.box [(.pl (.int .u8 v41)),(.own 3),(.own 4)]),jR 3 Qa.cells v42,jR 4 Qb.cells v43])
def f23r3n0S(a1:Int)(a2 a3:ByteArray)(a4:Int)(a5:List Qa)(a6:List Qb):Tr×Hp:=(Qag [(.agg [(.pl (.int .u8 a1)),(.own 0),(.own 1)]),(jS a2),(jS a3),(jI a1),(jI a4)] 0 .leaf,[jR 3 Qa.cells a5,jR 4 Qb.cells a6])
noncomputable def f23r3n0(a1:Int)(a2 a3:ByteArray)(a4:Int)(a5:List Qa)(a6:List Qb):Option f23r3n0O :=
 (f31 (Qe.mk a1 a5 a6)).bind fun x10 =>
 bif decide (x10=0) then
  (f44 a5 a3).bind fun x15 =>
  (f45 (Qb.mk a2 a3 a1 a4)).bind fun x22 =>
  bif x22 then
   bif x15.2 then
    bif decide ((a6.length:Int)=100) then
     some (.ret 22 0 [] [])
    else
     (f43r1 a5).bind fun x29 =>
     (f46r1 a6).bind fun x37 =>
     req (fit (x37.length+1) 48) <|
     some (.ret 0 a1 x29 (x37++[(Qb.mk a2 a3 a1 a4)]))
   else
    some (.ret 6 0 [] [])
  else
   some (.ret 2 0 [] [])
 else
  some (.ret x10 0 [] [])
theorem f23r3n0_ok(a1:Int)(a2 a3:ByteArray)(a4:Int)(a5:List Qa)(a6:List Qb){o:f23r3n0O}(h:f23r3n0 a1 a2 a3 a4 a5 a6=some o):T Try.prog Try.f23.ntmps 2 c23 (f23r3n0S a1 a2 a3 a4 a5 a6) (·=f23r3n0E a1 a2 a3 a4 a5 a6 o):=by
 unfold f23r3n0 at h;obtain ⟨x10,h11,h⟩:=Qf h;rcases Qi h with ⟨h12,h⟩|⟨h12,h⟩
 ·obtain ⟨x15,h16,h⟩:=Qf h;obtain ⟨x22,h23,h⟩:=Qf h;rcases Qi h with ⟨h24,h⟩|⟨h24,h⟩
  ·rcases Qi h with ⟨h25,h⟩|⟨h25,h⟩
   ·rcases Qi h with ⟨h26,h⟩|⟨h26,h⟩
    ·obtain rfl:=Qg h;exact rK Qh 5 [j3,j3,([],[jH 1 (jI x10)],[]),j3,([],[jH 3 (.tup [(jI x15.1),(jB x15.2)])],[]),([],[jH 1 (jB x22)],[]),j3,([],[],[(2,.val (jI (a6.length:Int)))]),j3] [some false,some false,some false,some true] [.matC 3 1 3,.matC 3 2 4] [3,5,6] [10,11] .ret ((f23r3n0E a1 a2 a3 a4 a5 a6 (.ret 22 0 [] [])).2) (ap (Qaq (Qe.mk a1 a5 a6) h11) (ap (Qac h12) (ap (f44_ok a5 a3 h16) (ap (f45_ok (Qb.mk a2 a3 a1 a4) h23) (ap (Qac h24) (ap (Qac h25) (ap (Qad (xs:=a6) (c:=Qb.cells)) (ap h26 an)))))))) rfl
    ·obtain ⟨x29,h30,h⟩:=Qf h;obtain ⟨x37,h38,h⟩:=Qf h;obtain ⟨h39,h⟩:=Qal h;obtain rfl:=Qg h
     exact rE Qh [j3,j3,([],[jH 1 (jI x10)],[]),j3,([],[jH 3 (.tup [(jI x15.1),(jB x15.2)])],[]),([],[jH 1 (jB x22)],[]),j3,([],[],[(2,.val (jI (a6.length:Int)))]),([],[(2,.call (.own 5) [jR 3 Qa.cells a5,none,none,none,none,jR 3 Qa.cells x29])],[]),([],[(2,.call (.own 9) [none,jR 4 Qb.cells a6,none,none,none,none,none,none,none,jR 4 Qb.cells x37]),(5,.fits)],[(5,.row 7 ((x37++[(Qb.mk a2 a3 a1 a4)]).map Qb.cells))]),j3] [some false,some false,some false,some false] [] [3,5,7] [10,11] (.ret,(f23r3n0E a1 a2 a3 a4 a5 a6 (.ret 0 a1 x29 (x37++[(Qb.mk a2 a3 a1 a4)]))).2) (ap (Qaq (Qe.mk a1 a5 a6) h11) (ap (Qac h12) (ap (f44_ok a5 a3 h16) (ap (f45_ok (Qb.mk a2 a3 a1 a4) h23) (ap (Qac h24) (ap (Qac h25) (ap (Qad (xs:=a6) (c:=Qb.cells)) (ap h26 (ap (Qn.rn 5 [0] (f43r1_ok a5 h30)) (ap (fit_map (te:=ti42) (xs:=x37) (n:=1) (c:=Qb.cells) h39 rfl) (ap (app_cv (xs:=x37) (ys:=[(Qb.mk a2 a3 a1 a4)]) (c:=Qb.cells)) (ap (Qn.rn 9 [1] (f46r1_ok a6 h38)) an)))))))))))) rfl
   ·obtain rfl:=Qg h;exact rK Qh 5 [j3,j3,([],[jH 1 (jI x10)],[]),j3,([],[jH 3 (.tup [(jI x15.1),(jB x15.2)])],[]),([],[jH 1 (jB x22)],[]),j3,j3] [some false,some false,some true] [.matC 3 1 3,.matC 3 2 4] [3,5,6] [10,11] .ret ((f23r3n0E a1 a2 a3 a4 a5 a6 (.ret 6 0 [] [])).2) (ap (Qaq (Qe.mk a1 a5 a6) h11) (ap (Qac h12) (ap (f44_ok a5 a3 h16) (ap (f45_ok (Qb.mk a2 a3 a1 a4) h23) (ap (Qac h24) (ap (Qak h25) an)))))) rfl
  ·obtain rfl:=Qg h;exact rK Qh 5 [j3,j3,([],[jH 1 (jI x10)],[]),j3,([],[jH 3 (.tup [(jI x15.1),(jB x15.2)])],[]),([],[jH 1 (jB x22)],[]),j3] [some false,some true] [.matC 3 1 3,.matC 3 2 4] [3,5,6] [10,11] .ret ((f23r3n0E a1 a2 a3 a4 a5 a6 (.ret 2 0 [] [])).2) (ap (Qaq (Qe.mk a1 a5 a6) h11) (ap (Qac h12) (ap (f44_ok a5 a3 h16) (ap (f45_ok (Qb.mk a2 a3 a1 a4) h23) (ap (Qak h24) an))))) rfl
 ·obtain rfl:=Qg h;exact rK Qh 3 [j3,j3,([],[jH 1 (jI x10)],[]),j3,j3] [some true] [.matC 3 1 3,.matC 3 2 4] [3,5,6] [10,11] .ret ((f23r3n0E a1 a2 a3 a4 a5 a6 (.ret x10 0 [] [])).2) (ap (Qaq (Qe.mk a1 a5 a6) h11) (ap (Qak h12) an)) rfl
noncomputable def f23r3(a1:Int)(a2 a3:ByteArray)(a4:Int)(a5:List Qa)(a6:List Qb):Option (Int×Int×(List Qa)×(List Qb)):=(f23r3n0 a1 a2 a3 a4 a5 a6).bind fun o=>match o with
 | .ret v40 v41 v42 v43=>some (v40,v41,v42,v43)
theorem f23r3_ok(a1:Int)(a2 a3:ByteArray)(a4:Int)(a5:List Qa)(a6:List Qb){r:Int×Int×(List Qa)×(List Qb)}(h:f23r3 a1 a2 a3 a4 a5 a6=some r):Qn Try.prog true 23 [(.agg [(.pl (.int .u8 a1)),(.own 0),(.own 1)]),(jS a2),(jS a3),(jI a1),(jI a4)] [jR 3 Qa.cells a5,jR 4 Qb.cells a6] (.tup [(.agg [(.pl (.int .u8 r.2.1)),(.own 3),(.own 4)]),(jI r.1)]) [jR 3 Qa.cells a5,jR 4 Qb.cells a6,some (.box [(.pl (.int .u8 r.2.1)),(.own 3),(.own 4)]),jR 3 Qa.cells r.2.2.1,jR 4 Qb.cells r.2.2.2]:=by
 unfold f23r3 at h;obtain ⟨o,ho,h⟩:=Qf h;cases o with
 | ret v40 v41 v42 v43 =>
  obtain rfl:=Qg h;exact Qn.shared Qh (f:=Try.f23) (c:=c23) (by kernel_rfl) (by kernel_rfl) (by kernel_rfl) ((f23r3n0_ok a1 a2 a3 a4 a5 a6 ho).mono fun r e=>by subst e; exact ⟨.inl rfl,by kernel_rfl,by kernel_rfl⟩)

inductive f43r3n0O where
 | ret (v5:List Qa)
def f43r3n0E(a1:List Qa):f43r3n0O→Ex×Tr×Hp
 | .ret v5=>(.ret,mkS [(2,(.own 1))],[jZ 3 Qa.cells a1,jR 3 Qa.cells v5])
def f43r3n0S(a1:List Qa):Tr×Hp:=(Qag [(.own 0)] 0 .leaf,[jZ 3 Qa.cells a1])
noncomputable def f43r3n0(a1:List Qa):Option f43r3n0O :=
 bif (a1.isEmpty) then
  some (.ret [])
 else
  req (fit a1.length 32) <|
  some (.ret a1)
theorem f43r3n0_ok(a1:List Qa){o:f43r3n0O}(h:f43r3n0 a1=some o):T Try.prog Try.f43.ntmps 1 c43 (f43r3n0S a1) (·=f43r3n0E a1 o):=by
 unfold f43r3n0 at h;refine rN Qh 1 [j3] [] [] [] [0] (mkS [(0,(.own 0))],[jZ 3 Qa.cells a1]) an ?_;refine T.nest (by kernel_rfl) ?_;rcases Qi h with ⟨h2,h⟩|⟨h2,h⟩
 ·refine rN Qh 0 [] [] [] [] [0] (mkS [(0,(.own 0))],[jZ 3 Qa.cells a1]) an ?_;refine T.oneNil Qh (x:=.tmp 0) (t:=22) (t3:=3) (t4:=4) (sz:=3) (es:=(a1.map Qa.cells)) (by kernel_rfl) (by kernel_rfl) (by kernel_rfl) (by kernel_rfl) (by kernel_rfl) (fun b hb=>?_);cases b
  ·refine rE Qh [] [none] [] [] [0] (.norm,(mkS [(0,(.own 0))],[jZ 3 Qa.cells a1])) an (ThenQ.norm ?_);obtain rfl:=Qg h;exact rE Qh [([],[(2,.app false)],[])] [] [] [1] [2] (.ret,(f43r3n0E a1 (.ret [])).2) (ap (nil_map (c:=Qa.cells) h2) an) rfl
  ·obtain rfl:=Qg h;exact rE Qh [j3] [none] [.mat 2 3] [1] [2] (.ret,(f43r3n0E a1 (.ret [])).2) an (ThenQ.out rfl rfl)
 ·refine rN Qh 0 [] [] [] [] [0] (mkS [(0,(.own 0))],[jZ 3 Qa.cells a1]) an ?_;refine T.oneNil Qh (x:=.tmp 0) (t:=22) (t3:=3) (t4:=4) (sz:=3) (es:=(a1.map Qa.cells)) (by kernel_rfl) (by kernel_rfl) (by kernel_rfl) (by kernel_rfl) (by kernel_rfl) (fun b hb=>?_);cases b
  ·refine rE Qh [] [none] [] [] [0] (.norm,(mkS [(0,(.own 0))],[jZ 3 Qa.cells a1])) an (ThenQ.norm ?_);obtain ⟨h4,h⟩:=Qal h;obtain rfl:=Qg h;exact rE Qh [([],[(2,.app true)],[])] [] [] [2] [2] (.ret,(f43r3n0E a1 (.ret a1)).2) (ap (fit_map0z (te:=ti39) (xs:=a1) (c:=Qa.cells) h4 rfl) (ap (ne_map (c:=Qa.cells) h2) (ap (len_all (c:=Qa.cells) (xs:=a1) (n:=3) (fun _=>rfl)) an))) rfl
  ·exact absurd (hb rfl) (ne_map (c:=Qa.cells) h2)
noncomputable def f43r3(a1:List Qa):Option (List Qa):=(f43r3n0 a1).bind fun o=>match o with
 | .ret v5=>some v5
theorem f43r3_ok(a1:List Qa){r:List Qa}(h:f43r3 a1=some r):Qn Try.prog true 43 [(.own 0)] [jZ 3 Qa.cells a1] (.own 1) [jZ 3 Qa.cells a1,jR 3 Qa.cells r]:=by
 unfold f43r3 at h;obtain ⟨o,ho,h⟩:=Qf h;cases o with
 | ret v5 =>
  obtain rfl:=Qg h;exact Qn.shared Qh (f:=Try.f43) (c:=c43) (by kernel_rfl) (by kernel_rfl) (by kernel_rfl) ((f43r3n0_ok a1 ho).mono fun r e=>by subst e; exact ⟨.inl rfl,by kernel_rfl,by kernel_rfl⟩)

inductive f46r2n0O where
 | ret (v5:List Qb)
def f46r2n0E(a1:List Qb):f46r2n0O→Ex×Tr×Hp
 | .ret v5=>(.ret,mkS [(2,(.own 1))],[jZ 4 Qb.cells a1,jR 4 Qb.cells v5])
def f46r2n0S(a1:List Qb):Tr×Hp:=(Qag [(.own 0)] 0 .leaf,[jZ 4 Qb.cells a1])
noncomputable def f46r2n0(a1:List Qb):Option f46r2n0O :=
 bif (a1.isEmpty) then
  some (.ret [])
 else
  req (fit a1.length 48) <|
  some (.ret a1)
theorem f46r2n0_ok(a1:List Qb){o:f46r2n0O}(h:f46r2n0 a1=some o):T Try.prog Try.f46.ntmps 1 c46 (f46r2n0S a1) (·=f46r2n0E a1 o):=by
 unfold f46r2n0 at h;refine rN Qh 1 [j3] [] [] [] [0] (mkS [(0,(.own 0))],[jZ 4 Qb.cells a1]) an ?_;refine T.nest (by kernel_rfl) ?_;rcases Qi h with ⟨h2,h⟩|⟨h2,h⟩
 ·refine rN Qh 0 [] [] [] [] [0] (mkS [(0,(.own 0))],[jZ 4 Qb.cells a1]) an ?_;refine T.oneNil Qh (x:=.tmp 0) (t:=23) (t3:=3) (t4:=4) (sz:=4) (es:=(a1.map Qb.cells)) (by kernel_rfl) (by kernel_rfl) (by kernel_rfl) (by kernel_rfl) (by kernel_rfl) (fun b hb=>?_);cases b
  ·refine rE Qh [] [none] [] [] [0] (.norm,(mkS [(0,(.own 0))],[jZ 4 Qb.cells a1])) an (ThenQ.norm ?_);obtain rfl:=Qg h;exact rE Qh [([],[(2,.app false)],[])] [] [] [1] [2] (.ret,(f46r2n0E a1 (.ret [])).2) (ap (nil_map (c:=Qb.cells) h2) an) rfl
  ·obtain rfl:=Qg h;exact rE Qh [j3] [none] [.mat 2 4] [1] [2] (.ret,(f46r2n0E a1 (.ret [])).2) an (ThenQ.out rfl rfl)
 ·refine rN Qh 0 [] [] [] [] [0] (mkS [(0,(.own 0))],[jZ 4 Qb.cells a1]) an ?_;refine T.oneNil Qh (x:=.tmp 0) (t:=23) (t3:=3) (t4:=4) (sz:=4) (es:=(a1.map Qb.cells)) (by kernel_rfl) (by kernel_rfl) (by kernel_rfl) (by kernel_rfl) (by kernel_rfl) (fun b hb=>?_);cases b
  ·refine rE Qh [] [none] [] [] [0] (.norm,(mkS [(0,(.own 0))],[jZ 4 Qb.cells a1])) an (ThenQ.norm ?_);obtain ⟨h4,h⟩:=Qal h;obtain rfl:=Qg h;exact rE Qh [([],[(2,.app true)],[])] [] [] [2] [2] (.ret,(f46r2n0E a1 (.ret a1)).2) (ap (fit_map0z (te:=ti42) (xs:=a1) (c:=Qb.cells) h4 rfl) (ap (ne_map (c:=Qb.cells) h2) (ap (len_all (c:=Qb.cells) (xs:=a1) (n:=4) (fun _=>rfl)) an))) rfl
  ·exact absurd (hb rfl) (ne_map (c:=Qb.cells) h2)
noncomputable def f46r2(a1:List Qb):Option (List Qb):=(f46r2n0 a1).bind fun o=>match o with
 | .ret v5=>some v5
theorem f46r2_ok(a1:List Qb){r:List Qb}(h:f46r2 a1=some r):Qn Try.prog true 46 [(.own 0)] [jZ 4 Qb.cells a1] (.own 1) [jZ 4 Qb.cells a1,jR 4 Qb.cells r]:=by
 unfold f46r2 at h;obtain ⟨o,ho,h⟩:=Qf h;cases o with
 | ret v5 =>
  obtain rfl:=Qg h;exact Qn.shared Qh (f:=Try.f46) (c:=c46) (by kernel_rfl) (by kernel_rfl) (by kernel_rfl) ((f46r2n0_ok a1 ho).mono fun r e=>by subst e; exact ⟨.inl rfl,by kernel_rfl,by kernel_rfl⟩)

inductive f23r4n0O where
 | ret (v40:Int) (v41:Int) (v42:List Qa) (v43:List Qb)
def f23r4n0E(a1:Int)(a2 a3:ByteArray)(a4:Int)(a5:List Qa)(a6:List Qb):f23r4n0O→Ex×Tr×Hp
 | .ret v40 v41 v42 v43=>(.ret,mkS [(10,(.bp 2 0)),(11,(jI v40))],[jZ 3 Qa.cells a5,jZ 4 Qb.cells a6,some (.box [(.pl (.int .u8 v41)),(.own 3),(.own 4)]),jR 3 Qa.cells v42,jR 4 Qb.cells v43])
def f23r4n0S(a1:Int)(a2 a3:ByteArray)(a4:Int)(a5:List Qa)(a6:List Qb):Tr×Hp:=(Qag [(.agg [(.pl (.int .u8 a1)),(.own 0),(.own 1)]),(jS a2),(jS a3),(jI a4),(jI a4)] 0 .leaf,[jZ 3 Qa.cells a5,jZ 4 Qb.cells a6])
noncomputable def f23r4n0(a1:Int)(a2 a3:ByteArray)(a4:Int)(a5:List Qa)(a6:List Qb):Option f23r4n0O :=
 (f31 (Qe.mk a1 a5 a6)).bind fun x10 =>
 bif decide (x10=0) then
  (f44 a5 a3).bind fun x15 =>
  (f45 (Qb.mk a2 a3 a4 a4)).bind fun x22 =>
  bif x22 then
   bif x15.2 then
    bif decide ((a6.length:Int)=100) then
     some (.ret 22 0 [] [])
    else
     (f43r3 a5).bind fun x29 =>
     (f46r2 a6).bind fun x37 =>
     req (fit (x37.length+1) 48) <|
     some (.ret 0 a1 x29 (x37++[(Qb.mk a2 a3 a4 a4)]))
   else
    some (.ret 6 0 [] [])
  else
   some (.ret 2 0 [] [])
 else
  some (.ret x10 0 [] [])
theorem f23r4n0_ok(a1:Int)(a2 a3:ByteArray)(a4:Int)(a5:List Qa)(a6:List Qb){o:f23r4n0O}(h:f23r4n0 a1 a2 a3 a4 a5 a6=some o):T Try.prog Try.f23.ntmps 2 c23 (f23r4n0S a1 a2 a3 a4 a5 a6) (·=f23r4n0E a1 a2 a3 a4 a5 a6 o):=by
 unfold f23r4n0 at h;obtain ⟨x10,h11,h⟩:=Qf h;rcases Qi h with ⟨h12,h⟩|⟨h12,h⟩
 ·obtain ⟨x15,h16,h⟩:=Qf h;obtain ⟨x22,h23,h⟩:=Qf h;rcases Qi h with ⟨h24,h⟩|⟨h24,h⟩
  ·rcases Qi h with ⟨h25,h⟩|⟨h25,h⟩
   ·rcases Qi h with ⟨h26,h⟩|⟨h26,h⟩
    ·obtain rfl:=Qg h;exact rK Qh 5 [j3,j3,([],[jH 1 (jI x10)],[]),j3,([],[jH 3 (.tup [(jI x15.1),(jB x15.2)])],[]),([],[jH 1 (jB x22)],[]),j3,([],[],[(2,.val (jI (a6.length:Int)))]),j3] [some false,some false,some false,some true] [.matC 3 1 3,.matC 3 2 4] [3,5,6] [10,11] .ret ((f23r4n0E a1 a2 a3 a4 a5 a6 (.ret 22 0 [] [])).2) (ap (Qaq (Qe.mk a1 a5 a6) h11) (ap (Qac h12) (ap (f44_ok a5 a3 h16) (ap (f45_ok (Qb.mk a2 a3 a4 a4) h23) (ap (Qac h24) (ap (Qac h25) (ap (Qad (xs:=a6) (c:=Qb.cells)) (ap h26 an)))))))) rfl
    ·obtain ⟨x29,h30,h⟩:=Qf h;obtain ⟨x37,h38,h⟩:=Qf h;obtain ⟨h39,h⟩:=Qal h;obtain rfl:=Qg h
     exact rE Qh [j3,j3,([],[jH 1 (jI x10)],[]),j3,([],[jH 3 (.tup [(jI x15.1),(jB x15.2)])],[]),([],[jH 1 (jB x22)],[]),j3,([],[],[(2,.val (jI (a6.length:Int)))]),([],[(2,.call (.own 5) [jZ 3 Qa.cells a5,none,none,none,none,jR 3 Qa.cells x29])],[]),([],[(2,.call (.own 9) [none,jZ 4 Qb.cells a6,none,none,none,none,none,none,none,jR 4 Qb.cells x37]),(5,.fits)],[(5,.row 7 ((x37++[(Qb.mk a2 a3 a4 a4)]).map Qb.cells))]),j3] [some false,some false,some false,some false] [] [3,5,7] [10,11] (.ret,(f23r4n0E a1 a2 a3 a4 a5 a6 (.ret 0 a1 x29 (x37++[(Qb.mk a2 a3 a4 a4)]))).2) (ap (Qaq (Qe.mk a1 a5 a6) h11) (ap (Qac h12) (ap (f44_ok a5 a3 h16) (ap (f45_ok (Qb.mk a2 a3 a4 a4) h23) (ap (Qac h24) (ap (Qac h25) (ap (Qad (xs:=a6) (c:=Qb.cells)) (ap h26 (ap (Qn.rn 5 [0] (f43r3_ok a5 h30)) (ap (fit_map (te:=ti42) (xs:=x37) (n:=1) (c:=Qb.cells) h39 rfl) (ap (app_cv (xs:=x37) (ys:=[(Qb.mk a2 a3 a4 a4)]) (c:=Qb.cells)) (ap (Qn.rn 9 [1] (f46r2_ok a6 h38)) an)))))))))))) rfl
   ·obtain rfl:=Qg h;exact rK Qh 5 [j3,j3,([],[jH 1 (jI x10)],[]),j3,([],[jH 3 (.tup [(jI x15.1),(jB x15.2)])],[]),([],[jH 1 (jB x22)],[]),j3,j3] [some false,some false,some true] [.matC 3 1 3,.matC 3 2 4] [3,5,6] [10,11] .ret ((f23r4n0E a1 a2 a3 a4 a5 a6 (.ret 6 0 [] [])).2) (ap (Qaq (Qe.mk a1 a5 a6) h11) (ap (Qac h12) (ap (f44_ok a5 a3 h16) (ap (f45_ok (Qb.mk a2 a3 a4 a4) h23) (ap (Qac h24) (ap (Qak h25) an)))))) rfl
  ·obtain rfl:=Qg h;exact rK Qh 5 [j3,j3,([],[jH 1 (jI x10)],[]),j3,([],[jH 3 (.tup [(jI x15.1),(jB x15.2)])],[]),([],[jH 1 (jB x22)],[]),j3] [some false,some true] [.matC 3 1 3,.matC 3 2 4] [3,5,6] [10,11] .ret ((f23r4n0E a1 a2 a3 a4 a5 a6 (.ret 2 0 [] [])).2) (ap (Qaq (Qe.mk a1 a5 a6) h11) (ap (Qac h12) (ap (f44_ok a5 a3 h16) (ap (f45_ok (Qb.mk a2 a3 a4 a4) h23) (ap (Qak h24) an))))) rfl
 ·obtain rfl:=Qg h;exact rK Qh 3 [j3,j3,([],[jH 1 (jI x10)],[]),j3,j3] [some true] [.matC 3 1 3,.matC 3 2 4] [3,5,6] [10,11] .ret ((f23r4n0E a1 a2 a3 a4 a5 a6 (.ret x10 0 [] [])).2) (ap (Qaq (Qe.mk a1 a5 a6) h11) (ap (Qak h12) an)) rfl
noncomputable def f23r4(a1:Int)(a2 a3:ByteArray)(a4:Int)(a5:List Qa)(a6:List Qb):Option (Int×Int×(List Qa)×(List Qb)):=(f23r4n0 a1 a2 a3 a4 a5 a6).bind fun o=>match o with
 | .ret v40 v41 v42 v43=>some (v40,v41,v42,v43)
theorem f23r4_ok(a1:Int)(a2 a3:ByteArray)(a4:Int)(a5:List Qa)(a6:List Qb){r:Int×Int×(List Qa)×(List Qb)}(h:f23r4 a1 a2 a3 a4 a5 a6=some r):Qn Try.prog true 23 [(.agg [(.pl (.int .u8 a1)),(.own 0),(.own 1)]),(jS a2),(jS a3),(jI a4),(jI a4)] [jZ 3 Qa.cells a5,jZ 4 Qb.cells a6] (.tup [(.agg [(.pl (.int .u8 r.2.1)),(.own 3),(.own 4)]),(jI r.1)]) [jZ 3 Qa.cells a5,jZ 4 Qb.cells a6,some (.box [(.pl (.int .u8 r.2.1)),(.own 3),(.own 4)]),jR 3 Qa.cells r.2.2.1,jR 4 Qb.cells r.2.2.2]:=by
 unfold f23r4 at h;obtain ⟨o,ho,h⟩:=Qf h;cases o with
 | ret v40 v41 v42 v43 =>
  obtain rfl:=Qg h;exact Qn.shared Qh (f:=Try.f23) (c:=c23) (by kernel_rfl) (by kernel_rfl) (by kernel_rfl) ((f23r4n0_ok a1 a2 a3 a4 a5 a6 ho).mono fun r e=>by subst e; exact ⟨.inl rfl,by kernel_rfl,by kernel_rfl⟩)

noncomputable def c9:Code:=Try.f9.body.getD .skip
inductive f9n1O where
 | norm (v1898:Bool)
def f9n1E(br1 br2 br3 br4:Int×Int×(List Qa))(bm5:Int×Int)(bt6 bt7 bt8 bt9 bt10:Int×Int×(List Qa)×(List Qb))(bh11:(List Qc)×Int)(bt12:Int×Int×(List Qa)×(List Qb))(bh13:(List Qc)×Int)(bp14:(List Int)×Int)(bm15:Int×Int):f9n1O→Ex×Tr×Hp
 | .norm v1898=>(.norm,mkS [(24,(jI bh11.2)),(26,(jI bt12.1)),(27,(jL 3 Qc.cells bh13.1)),(28,(jI bh13.2)),(29,(.pl (.sl .any 1 (bp14.1.map (cInt .i64))))),(30,(jI bp14.2)),(31,(jI bm15.1)),(32,(jI bm15.2)),(33,(jB v1898))],[])
def f9n1S(br1 br2 br3 br4:Int×Int×(List Qa))(bm5:Int×Int)(bt6 bt7 bt8 bt9 bt10:Int×Int×(List Qa)×(List Qb))(bh11:(List Qc)×Int)(bt12:Int×Int×(List Qa)×(List Qb))(bh13:(List Qc)×Int)(bp14:(List Int)×Int)(bm15:Int×Int):Tr×Hp:=(mkS [(3,(jI br1.1)),(5,(jI br2.1)),(7,(jI br3.1)),(9,(jI br4.1)),(10,(.bp 0 0)),(11,(jI bm5.1)),(13,(jI bt6.1)),(15,(jI bt7.1)),(17,(jI bt8.1)),(19,(jI bt9.1)),(21,(jI bt10.1)),(24,(jI bh11.2)),(26,(jI bt12.1)),(27,(jL 3 Qc.cells bh13.1)),(28,(jI bh13.2)),(29,(.pl (.sl .any 1 (bp14.1.map (cInt .i64))))),(30,(jI bp14.2)),(31,(jI bm15.1)),(32,(jI bm15.2))],[some (.box [(.pl (.int .u8 bm5.2)),(.pl (.sl .nil 0 [])),(.pl (.sl .nil 0 []))])])
noncomputable def f9n1(br1 br2 br3 br4:Int×Int×(List Qa))(bm5:Int×Int)(bt6 bt7 bt8 bt9 bt10:Int×Int×(List Qa)×(List Qb))(bh11:(List Qc)×Int)(bt12:Int×Int×(List Qa)×(List Qb))(bh13:(List Qc)×Int)(bp14:(List Int)×Int)(bm15:Int×Int):Option f9n1O :=
 bif decide (br1.1=2) then
  bif decide (br2.1=2) then
   bif decide (br3.1=2) then
    bif decide (br4.1=2) then
     bif decide (bm5.1=0) then
      (f31 (Qe.mk bm5.2 [] [])).bind fun x1891 =>
      bif decide (x1891=0) then
       bif decide (bt6.1=2) then
        bif decide (bt7.1=2) then
         bif decide (bt8.1=2) then
          bif decide (bt9.1=6) then
           some (.norm (decide (bt10.1=0)))
          else
           some (.norm false)
         else
          some (.norm false)
        else
         some (.norm false)
       else
        some (.norm false)
      else
       some (.norm false)
     else
      some (.norm false)
    else
     some (.norm false)
   else
    some (.norm false)
  else
   some (.norm false)
 else
  some (.norm false)
theorem f9n1_ok(br1 br2 br3 br4:Int×Int×(List Qa))(bm5:Int×Int)(bt6 bt7 bt8 bt9 bt10:Int×Int×(List Qa)×(List Qb))(bh11:(List Qc)×Int)(bt12:Int×Int×(List Qa)×(List Qb))(bh13:(List Qc)×Int)(bp14:(List Int)×Int)(bm15:Int×Int){o:f9n1O}(h:f9n1 br1 br2 br3 br4 bm5 bt6 bt7 bt8 bt9 bt10 bh11 bt12 bh13 bp14 bm15=some o):T Try.prog Try.f9.ntmps 0 (cL (Ql 1 (Ql 2 (Ql 4 (Ql 1 (Ql 1 (Ql 1 (Ql 1 (Ql 1 (Ql 2 (Ql 2 (Ql 3 c9)))))))))))) (f9n1S br1 br2 br3 br4 bm5 bt6 bt7 bt8 bt9 bt10 bh11 bt12 bh13 bp14 bm15) (·=f9n1E br1 br2 br3 br4 bm5 bt6 bt7 bt8 bt9 bt10 bh11 bt12 bh13 bp14 bm15 o):=by
 unfold f9n1 at h;rcases Qi h with ⟨h1886,h⟩|⟨h1886,h⟩
 ·rcases Qi h with ⟨h1887,h⟩|⟨h1887,h⟩
  ·rcases Qi h with ⟨h1888,h⟩|⟨h1888,h⟩
   ·rcases Qi h with ⟨h1889,h⟩|⟨h1889,h⟩
    ·rcases Qi h with ⟨h1890,h⟩|⟨h1890,h⟩
     ·obtain ⟨x1891,h1892,h⟩:=Qf h;rcases Qi h with ⟨h1893,h⟩|⟨h1893,h⟩
      ·rcases Qi h with ⟨h1894,h⟩|⟨h1894,h⟩
       ·rcases Qi h with ⟨h1895,h⟩|⟨h1895,h⟩
        ·rcases Qi h with ⟨h1896,h⟩|⟨h1896,h⟩
         ·rcases Qi h with ⟨h1897,h⟩|⟨h1897,h⟩
          ·obtain rfl:=Qg h;exact rE Qh [(jT [3,4,7,8,11,12,15,16,19,20,21,24,25,28,29,32,33,36,37,40,41],[(5,.bool true),(9,.bool true),(13,.bool true),(17,.bool true),jH 20 (jI x1891),(22,.bool true),(26,.bool true),(30,.bool true),(34,.bool true),(38,.bool true),(42,.bool true)],[])] [] [] [] [24,26,27,28,29,30,31,32,33] (.norm,(f9n1E br1 br2 br3 br4 bm5 bt6 bt7 bt8 bt9 bt10 bh11 bt12 bh13 bp14 bm15 (.norm (decide (bt10.1=0)))).2) (ap3 h1886 (ap3 h1887 (ap3 h1888 (ap3 h1889 (ap4 h1890 (ap3 h1893 (ap3 h1894 (ap3 h1895 (ap3 h1896 (ap3 h1897 (ap (Qn.wk (args':=[(.pl (.agg [(.int .u8 bm5.2),(.sl .nil 0 []),(.sl .nil 0 [])]))]) (Qaq (Qe.mk bm5.2 [] []) h1892) (wlc (Wk.pl (WkP.agg (wpc (WkP.refl _) (wpc (WkP.nil (f:=.nil) (sz:=0) (sz':=3)) (wpc (WkP.nil (f:=.nil) (sz:=0) (sz':=4)) wpn))))) wln) (Wk.refl _) rfl) an))))))))))) rfl
          ·obtain rfl:=Qg h;exact rE Qh [(jF [40,41]++jT [3,4,7,8,11,12,15,16,19,20,21,24,25,28,29,32,33,36,37],[(5,.bool true),(9,.bool true),(13,.bool true),(17,.bool true),jH 20 (jI x1891),(22,.bool true),(26,.bool true),(30,.bool true),(34,.bool true),(38,.bool true),(42,.bool false)],[])] [] [] [] [24,26,27,28,29,30,31,32,33] (.norm,(f9n1E br1 br2 br3 br4 bm5 bt6 bt7 bt8 bt9 bt10 bh11 bt12 bh13 bp14 bm15 (.norm false)).2) (ap3 h1886 (ap3 h1887 (ap3 h1888 (ap3 h1889 (ap4 h1890 (ap3 h1893 (ap3 h1894 (ap3 h1895 (ap3 h1896 (ap3 h1897 (ap (Qn.wk (args':=[(.pl (.agg [(.int .u8 bm5.2),(.sl .nil 0 []),(.sl .nil 0 [])]))]) (Qaq (Qe.mk bm5.2 [] []) h1892) (wlc (Wk.pl (WkP.agg (wpc (WkP.refl _) (wpc (WkP.nil (f:=.nil) (sz:=0) (sz':=3)) (wpc (WkP.nil (f:=.nil) (sz:=0) (sz':=4)) wpn))))) wln) (Wk.refl _) rfl) an))))))))))) rfl
         ·obtain rfl:=Qg h;exact rE Qh [(jF [36,37]++jT [3,4,7,8,11,12,15,16,19,20,21,24,25,28,29,32,33],[(5,.bool true),(9,.bool true),(13,.bool true),(17,.bool true),jH 20 (jI x1891),(22,.bool true),(26,.bool true),(30,.bool true),(34,.bool true),(38,.bool false)],[])] [] [] [] [24,26,27,28,29,30,31,32,33] (.norm,(f9n1E br1 br2 br3 br4 bm5 bt6 bt7 bt8 bt9 bt10 bh11 bt12 bh13 bp14 bm15 (.norm false)).2) (ap3 h1886 (ap3 h1887 (ap3 h1888 (ap3 h1889 (ap4 h1890 (ap3 h1893 (ap3 h1894 (ap3 h1895 (ap3 h1896 (ap (Qn.wk (args':=[(.pl (.agg [(.int .u8 bm5.2),(.sl .nil 0 []),(.sl .nil 0 [])]))]) (Qaq (Qe.mk bm5.2 [] []) h1892) (wlc (Wk.pl (WkP.agg (wpc (WkP.refl _) (wpc (WkP.nil (f:=.nil) (sz:=0) (sz':=3)) (wpc (WkP.nil (f:=.nil) (sz:=0) (sz':=4)) wpn))))) wln) (Wk.refl _) rfl) an)))))))))) rfl
        ·obtain rfl:=Qg h;exact rE Qh [(jF [32,33]++jT [3,4,7,8,11,12,15,16,19,20,21,24,25,28,29],[(5,.bool true),(9,.bool true),(13,.bool true),(17,.bool true),jH 20 (jI x1891),(22,.bool true),(26,.bool true),(30,.bool true),(34,.bool false)],[])] [] [] [] [24,26,27,28,29,30,31,32,33] (.norm,(f9n1E br1 br2 br3 br4 bm5 bt6 bt7 bt8 bt9 bt10 bh11 bt12 bh13 bp14 bm15 (.norm false)).2) (ap3 h1886 (ap3 h1887 (ap3 h1888 (ap3 h1889 (ap4 h1890 (ap3 h1893 (ap3 h1894 (ap3 h1895 (ap (Qn.wk (args':=[(.pl (.agg [(.int .u8 bm5.2),(.sl .nil 0 []),(.sl .nil 0 [])]))]) (Qaq (Qe.mk bm5.2 [] []) h1892) (wlc (Wk.pl (WkP.agg (wpc (WkP.refl _) (wpc (WkP.nil (f:=.nil) (sz:=0) (sz':=3)) (wpc (WkP.nil (f:=.nil) (sz:=0) (sz':=4)) wpn))))) wln) (Wk.refl _) rfl) an))))))))) rfl
       ·obtain rfl:=Qg h;exact rE Qh [(jF [28,29]++jT [3,4,7,8,11,12,15,16,19,20,21,24,25],[(5,.bool true),(9,.bool true),(13,.bool true),(17,.bool true),jH 20 (jI x1891),(22,.bool true),(26,.bool true),(30,.bool false)],[])] [] [] [] [24,26,27,28,29,30,31,32,33] (.norm,(f9n1E br1 br2 br3 br4 bm5 bt6 bt7 bt8 bt9 bt10 bh11 bt12 bh13 bp14 bm15 (.norm false)).2) (ap3 h1886 (ap3 h1887 (ap3 h1888 (ap3 h1889 (ap4 h1890 (ap3 h1893 (ap3 h1894 (ap (Qn.wk (args':=[(.pl (.agg [(.int .u8 bm5.2),(.sl .nil 0 []),(.sl .nil 0 [])]))]) (Qaq (Qe.mk bm5.2 [] []) h1892) (wlc (Wk.pl (WkP.agg (wpc (WkP.refl _) (wpc (WkP.nil (f:=.nil) (sz:=0) (sz':=3)) (wpc (WkP.nil (f:=.nil) (sz:=0) (sz':=4)) wpn))))) wln) (Wk.refl _) rfl) an)))))))) rfl
      ·obtain rfl:=Qg h;exact rE Qh [(jF [24,25]++jT [3,4,7,8,11,12,15,16,19,20,21],[(5,.bool true),(9,.bool true),(13,.bool true),(17,.bool true),jH 20 (jI x1891),(22,.bool true),(26,.bool false)],[])] [] [] [] [24,26,27,28,29,30,31,32,33] (.norm,(f9n1E br1 br2 br3 br4 bm5 bt6 bt7 bt8 bt9 bt10 bh11 bt12 bh13 bp14 bm15 (.norm false)).2) (ap3 h1886 (ap3 h1887 (ap3 h1888 (ap3 h1889 (ap4 h1890 (ap3 h1893 (ap (Qn.wk (args':=[(.pl (.agg [(.int .u8 bm5.2),(.sl .nil 0 []),(.sl .nil 0 [])]))]) (Qaq (Qe.mk bm5.2 [] []) h1892) (wlc (Wk.pl (WkP.agg (wpc (WkP.refl _) (wpc (WkP.nil (f:=.nil) (sz:=0) (sz':=3)) (wpc (WkP.nil (f:=.nil) (sz:=0) (sz':=4)) wpn))))) wln) (Wk.refl _) rfl) an))))))) rfl
     ·obtain rfl:=Qg h;exact rE Qh [(jF [19,20,21]++jT [3,4,7,8,11,12,15,16],[(5,.bool true),(9,.bool true),(13,.bool true),(17,.bool true),(22,.bool false)],[])] [] [] [] [24,26,27,28,29,30,31,32,33] (.norm,(f9n1E br1 br2 br3 br4 bm5 bt6 bt7 bt8 bt9 bt10 bh11 bt12 bh13 bp14 bm15 (.norm false)).2) (ap3 h1886 (ap3 h1887 (ap3 h1888 (ap3 h1889 (ap4 h1890 an))))) rfl
    ·obtain rfl:=Qg h;exact rE Qh [(jF [15,16]++jT [3,4,7,8,11,12],[(5,.bool true),(9,.bool true),(13,.bool true),(17,.bool false)],[])] [] [] [] [24,26,27,28,29,30,31,32,33] (.norm,(f9n1E br1 br2 br3 br4 bm5 bt6 bt7 bt8 bt9 bt10 bh11 bt12 bh13 bp14 bm15 (.norm false)).2) (ap3 h1886 (ap3 h1887 (ap3 h1888 (ap3 h1889 an)))) rfl
   ·obtain rfl:=Qg h;exact rE Qh [(jF [11,12]++jT [3,4,7,8],[(5,.bool true),(9,.bool true),(13,.bool false)],[])] [] [] [] [24,26,27,28,29,30,31,32,33] (.norm,(f9n1E br1 br2 br3 br4 bm5 bt6 bt7 bt8 bt9 bt10 bh11 bt12 bh13 bp14 bm15 (.norm false)).2) (ap3 h1886 (ap3 h1887 (ap3 h1888 an))) rfl
  ·obtain rfl:=Qg h;exact rE Qh [(jF [7,8]++jT [3,4],[(5,.bool true),(9,.bool false)],[])] [] [] [] [24,26,27,28,29,30,31,32,33] (.norm,(f9n1E br1 br2 br3 br4 bm5 bt6 bt7 bt8 bt9 bt10 bh11 bt12 bh13 bp14 bm15 (.norm false)).2) (ap3 h1886 (ap3 h1887 an)) rfl
 ·obtain rfl:=Qg h;exact rE Qh [([(3,false),(4,false)],[(5,.bool false)],[])] [] [] [] [24,26,27,28,29,30,31,32,33] (.norm,(f9n1E br1 br2 br3 br4 bm5 bt6 bt7 bt8 bt9 bt10 bh11 bt12 bh13 bp14 bm15 (.norm false)).2) (ap3 h1886 an) rfl
inductive f9n2O where
 | norm (v1935:Bool)
def f9n2E(bh1:(List Qc)×Int)(bt2:Int×Int×(List Qa)×(List Qb))(bh3:(List Qc)×Int)(bp4:(List Int)×Int)(bm5:Int×Int)(bi6:Bool):f9n2O→Ex×Tr×Hp
 | .norm v1935=>(.norm,mkS [(33,(jB bi6)),(34,(jB v1935))],[])
def f9n2S(bh1:(List Qc)×Int)(bt2:Int×Int×(List Qa)×(List Qb))(bh3:(List Qc)×Int)(bp4:(List Int)×Int)(bm5:Int×Int)(bi6:Bool):Tr×Hp:=(mkS [(24,(jI bh1.2)),(26,(jI bt2.1)),(27,(jL 3 Qc.cells bh3.1)),(28,(jI bh3.2)),(29,(.pl (.sl .any 1 (bp4.1.map (cInt .i64))))),(30,(jI bp4.2)),(31,(jI bm5.1)),(32,(jI bm5.2)),(33,(jB bi6))],[])
noncomputable def f9n2(bh1:(List Qc)×Int)(bt2:Int×Int×(List Qa)×(List Qb))(bh3:(List Qc)×Int)(bp4:(List Int)×Int)(bm5:Int×Int)(bi6:Bool):Option f9n2O :=
 bif decide (bh1.2=8) then
  bif decide (bt2.1=8) then
   bif decide (bh3.2=0) then
    (f29 bh3.1 [(Qc.mk 3 10 33554432)]).bind fun x1927 =>
    bif x1927 then
     bif decide (bp4.2=0) then
      (f30 bp4.1 [2]).bind fun x1931 =>
      bif x1931 then
       bif decide (bm5.2=0) then
        some (.norm (decide (bm5.1=335544320)))
       else
        some (.norm false)
      else
       some (.norm false)
     else
      some (.norm false)
    else
     some (.norm false)
   else
    some (.norm false)
  else
   some (.norm false)
 else
  some (.norm false)
theorem f9n2_ok(bh1:(List Qc)×Int)(bt2:Int×Int×(List Qa)×(List Qb))(bh3:(List Qc)×Int)(bp4:(List Int)×Int)(bm5:Int×Int)(bi6:Bool){o:f9n2O}(h:f9n2 bh1 bt2 bh3 bp4 bm5 bi6=some o):T Try.prog Try.f9.ntmps 0 (cL (Ql 0 (Ql 1 (Ql 1 (Ql 2 (Ql 4 (Ql 1 (Ql 1 (Ql 1 (Ql 1 (Ql 1 (Ql 2 (Ql 2 (Ql 3 c9)))))))))))))) (f9n2S bh1 bt2 bh3 bp4 bm5 bi6) (·=f9n2E bh1 bt2 bh3 bp4 bm5 bi6 o):=by
 unfold f9n2 at h;rcases Qi h with ⟨h1924,h⟩|⟨h1924,h⟩
 ·rcases Qi h with ⟨h1925,h⟩|⟨h1925,h⟩
  ·rcases Qi h with ⟨h1926,h⟩|⟨h1926,h⟩
   ·obtain ⟨x1927,h1928,h⟩:=Qf h;rcases Qi h with ⟨h1929,h⟩|⟨h1929,h⟩
    ·rcases Qi h with ⟨h1930,h⟩|⟨h1930,h⟩
     ·obtain ⟨x1931,h1932,h⟩:=Qf h;rcases Qi h with ⟨h1933,h⟩|⟨h1933,h⟩
      ·rcases Qi h with ⟨h1934,h⟩|⟨h1934,h⟩
       ·obtain rfl:=Qg h;exact rE Qh [(jT [3,4,7,8,11,12,13,14,17,18,21,22,23,26,27,30,31],[(5,.bool true),(9,.bool true),jH 14 (jB x1927),(15,.bool true),(19,.bool true),jH 23 (jB x1931),(24,.bool true),(28,.bool true),(32,.bool true)],[])] [] [] [] [33,34] (.norm,(f9n2E bh1 bt2 bh3 bp4 bm5 bi6 (.norm (decide (bm5.1=335544320)))).2) (ap3 h1924 (ap3 h1925 (ap h1926 (ap4 h1926 (ap3 h1929 (ap4 h1930 (ap3 h1933 (ap3 h1934 (ap (f29_ok bh3.1 [(Qc.mk 3 10 33554432)] h1928) (ap (f30_ok bp4.1 [2] h1932) an)))))))))) rfl
       ·obtain rfl:=Qg h;exact rE Qh [(jF [30,31]++jT [3,4,7,8,11,12,13,14,17,18,21,22,23,26,27],[(5,.bool true),(9,.bool true),jH 14 (jB x1927),(15,.bool true),(19,.bool true),jH 23 (jB x1931),(24,.bool true),(28,.bool true),(32,.bool false)],[])] [] [] [] [33,34] (.norm,(f9n2E bh1 bt2 bh3 bp4 bm5 bi6 (.norm false)).2) (ap3 h1924 (ap3 h1925 (ap h1926 (ap4 h1926 (ap3 h1929 (ap4 h1930 (ap3 h1933 (ap3 h1934 (ap (f29_ok bh3.1 [(Qc.mk 3 10 33554432)] h1928) (ap (f30_ok bp4.1 [2] h1932) an)))))))))) rfl
      ·obtain rfl:=Qg h;exact rE Qh [(jF [26,27]++jT [3,4,7,8,11,12,13,14,17,18,21,22,23],[(5,.bool true),(9,.bool true),jH 14 (jB x1927),(15,.bool true),(19,.bool true),jH 23 (jB x1931),(24,.bool true),(28,.bool false)],[])] [] [] [] [33,34] (.norm,(f9n2E bh1 bt2 bh3 bp4 bm5 bi6 (.norm false)).2) (ap3 h1924 (ap3 h1925 (ap h1926 (ap4 h1926 (ap3 h1929 (ap4 h1930 (ap3 h1933 (ap (f29_ok bh3.1 [(Qc.mk 3 10 33554432)] h1928) (ap (f30_ok bp4.1 [2] h1932) an))))))))) rfl
     ·obtain rfl:=Qg h;exact rE Qh [(jF [21,22,23]++jT [3,4,7,8,11,12,13,14,17,18],[(5,.bool true),(9,.bool true),jH 14 (jB x1927),(15,.bool true),(19,.bool true),(24,.bool false)],[])] [] [] [] [33,34] (.norm,(f9n2E bh1 bt2 bh3 bp4 bm5 bi6 (.norm false)).2) (ap3 h1924 (ap3 h1925 (ap h1926 (ap4 h1926 (ap3 h1929 (ap4 h1930 (ap (f29_ok bh3.1 [(Qc.mk 3 10 33554432)] h1928) an))))))) rfl
    ·obtain rfl:=Qg h;exact rE Qh [(jF [17,18]++jT [3,4,7,8,11,12,13,14],[(5,.bool true),(9,.bool true),jH 14 (jB x1927),(15,.bool true),(19,.bool false)],[])] [] [] [] [33,34] (.norm,(f9n2E bh1 bt2 bh3 bp4 bm5 bi6 (.norm false)).2) (ap3 h1924 (ap3 h1925 (ap h1926 (ap4 h1926 (ap3 h1929 (ap (f29_ok bh3.1 [(Qc.mk 3 10 33554432)] h1928) an)))))) rfl
   ·obtain rfl:=Qg h;exact rE Qh [(jF [11,12,13,14]++jT [3,4,7,8],[(5,.bool true),(9,.bool true),(15,.bool false)],[])] [] [] [] [33,34] (.norm,(f9n2E bh1 bt2 bh3 bp4 bm5 bi6 (.norm false)).2) (ap3 h1924 (ap3 h1925 (ap h1926 (ap4 h1926 an)))) rfl
  ·obtain rfl:=Qg h;exact rE Qh [(jF [7,8]++jT [3,4],[(5,.bool true),(9,.bool false)],[])] [] [] [] [33,34] (.norm,(f9n2E bh1 bt2 bh3 bp4 bm5 bi6 (.norm false)).2) (ap3 h1924 (ap3 h1925 an)) rfl
 ·obtain rfl:=Qg h;exact rE Qh [([(3,false),(4,false)],[(5,.bool false)],[])] [] [] [] [33,34] (.norm,(f9n2E bh1 bt2 bh3 bp4 bm5 bi6 (.norm false)).2) (ap3 h1924 an) rfl
inductive f9n0O where
 | ret (v1947:Bool)
def f9n0E:f9n0O→Ex×Tr×Hp
 | .ret v1947=>(.ret,mkS [(0,(jB v1947))],[])
def f9n0S:Tr×Hp:=(Qag [] 0 .leaf,[])
noncomputable def f9n0:Option f9n0O :=
 (f33r2 0 6).bind fun x3 =>
 (f19r1 3 [(Qa.mk Qj 10 5)]).bind fun x7 =>
 (f19r1 0 [(Qa.mk Qj 0 0)]).bind fun x188 =>
 (f19r1 0 [(Qa.mk Qj 1 0),(Qa.mk str_k 1 0)]).bind fun x192 =>
 (f19r1 0 [(Qa.mk Qj 1 33554433)]).bind fun x369 =>
 (f19r2 2).bind fun x373 =>
 (f23r2 0 str_house Qj 1 [(Qa.mk Qj 10 5)] [(Qb.mk Qr Qj 6 9),(Qb.mk Qs Qj 6 7),(Qb.mk Qw Qj 9 4)]).bind fun x546 =>
 (f23r3 0 str_m Qj 1 [(Qa.mk Qj 10 5)] [(Qb.mk Qr Qj 6 9),(Qb.mk Qs Qj 6 7),(Qb.mk Qw Qj 9 4)]).bind fun x717 =>
 (f23r1 0 str_m Qj 1 (-1) [(Qa.mk Qj 10 5)] [(Qb.mk Qr Qj 6 9),(Qb.mk Qs Qj 6 7),(Qb.mk Qw Qj 9 4)]).bind fun x886 =>
 (f23r2 0 str_m str_k 1 [(Qa.mk Qj 10 5)] [(Qb.mk Qr Qj 6 9),(Qb.mk Qs Qj 6 7),(Qb.mk Qw Qj 9 4)]).bind fun x1053 =>
 (f23r1 0 str_m Qj 1048576 33554432 [(Qa.mk Qj 10 5)] [(Qb.mk Qr Qj 6 9),(Qb.mk Qs Qj 6 7),(Qb.mk Qw Qj 9 4)]).bind fun x1218 =>
 (f33r2 0 6).bind fun x1381 =>
 (f12 (Qe.mk 0 [(Qa.mk Qj 10 5)] [(Qb.mk Qr str_k 6 9),(Qb.mk Qs Qj 6 7),(Qb.mk Qw Qj 9 4)])).bind fun x1385 =>
 (f23r4 0 str_m Qj 1 [(Qa.mk Qj 10 5)] [(Qb.mk Qr str_k 6 9),(Qb.mk Qs Qj 6 7),(Qb.mk Qw Qj 9 4)]).bind fun x1544 =>
 (f12 (Qe.mk x1218.2.1 x1218.2.2.1 x1218.2.2.2)).bind fun x1701 =>
 (f33r2 0 2).bind fun x1707 =>
 (f18 (Qe.mk 0 [(Qa.mk Qj 10 5)] [(Qb.mk Qr Qj 6 9),(Qb.mk Qs Qj 2 7),(Qb.mk Qw Qj 9 4)])).bind fun x1709 =>
 (f15 (Qe.mk x1218.2.1 x1218.2.2.1 x1218.2.2.2)).bind fun x1860 =>
 (f9n1 x7 x188 x192 x369 x373 x546 x717 x886 x1053 x1218 x1385 x1544 x1701 x1709 x1860).bind fun o1899=>match o1899 with
 | .norm v1901=>(f9n2 x1385 x1544 x1701 x1709 x1860 v1901).bind fun o1936=>match o1936 with
  | .norm v1938=>f10.bind fun x1943 =>
   bif x1943 then
    bif v1901 then
     some (.ret v1938)
    else
     some (.ret false)
   else
    some (.ret false)
theorem f9n0_ok{o:f9n0O}(h:f9n0=some o):T Try.prog Try.f9.ntmps 0 c9 f9n0S (·=f9n0E o):=by
 unfold f9n0 at h;obtain ⟨x3,h4,h⟩:=Qf h;obtain ⟨x7,h8,h⟩:=Qf h
 refine rN Qh 3 [j3,([],[(0,.call (.agg [(.pl (.int .u8 0)),(.own 1),(.own 2)]) [some (.box [(.pl (.int .u8 0)),(.own 1),(.own 2)]),some (.row false 3 ([(Qa.mk Qj 10 5)].map Qa.cells)),some (.row false 4 ([(Qb.mk Qr Qj 6 9),(Qb.mk Qs Qj 6 7),(Qb.mk Qw Qj 9 4)].map Qb.cells))])],[]),([],[(2,.call (.tup [(.agg [(.pl (.int .u8 x7.2.1)),(.own 5),(.pl (.sl .nil 0 []))]),(jI x7.1)]) [none,some (.row false 3 ([(Qa.mk Qj 10 5)].map Qa.cells)),none,none,some (.box [(.pl (.int .u8 x7.2.1)),(.own 5),(.pl (.sl .nil 0 []))]),jR 3 Qa.cells x7.2.2])],[])] [] [] [3,1,2] [1,3] (mkS [(1,(.bp 0 0)),(3,(jI x7.1))],[some (.box [(.pl (.int .u8 0)),(.own 1),(.own 2)]),some (.row false 3 ([(Qa.mk Qj 10 5)].map Qa.cells)),some (.row false 4 ([(Qb.mk Qr Qj 6 9),(Qb.mk Qs Qj 6 7),(Qb.mk Qw Qj 9 4)].map Qb.cells))]) (ap (f33r2_ok 0 6 h4) (ap (Qn.rn 4 [1] (f19r1_ok 3 [(Qa.mk Qj 10 5)] h8)) an)) ?_
 obtain ⟨x188,h189,h⟩:=Qf h;obtain ⟨x192,h193,h⟩:=Qf h
 refine rN Qh 2 [([],[(2,.call (.tup [(.agg [(.pl (.int .u8 x188.2.1)),(.own 5),(.pl (.sl .nil 0 []))]),(jI x188.1)]) (jN 3 [some (.row false 3 ([(Qa.mk Qj 0 0)].map Qa.cells)),some (.box [(.pl (.int .u8 x188.2.1)),(.own 5),(.pl (.sl .nil 0 []))]),jR 3 Qa.cells x188.2.2]))],[]),([],[(3,.call (.tup [(.agg [(.pl (.int .u8 x192.2.1)),(.own 9),(.pl (.sl .nil 0 []))]),(jI x192.1)]) (jN 7 [some (.row false 3 ([(Qa.mk Qj 1 0),(Qa.mk str_k 1 0)].map Qa.cells)),some (.box [(.pl (.int .u8 x192.2.1)),(.own 9),(.pl (.sl .nil 0 []))]),jR 3 Qa.cells x192.2.2]))],[])] [] [] [0,1,2] [1,3,5,7] (mkS [(1,(.bp 0 0)),(3,(jI x7.1)),(5,(jI x188.1)),(7,(jI x192.1))],[some (.box [(.pl (.int .u8 0)),(.own 1),(.own 2)]),some (.row false 3 ([(Qa.mk Qj 10 5)].map Qa.cells)),some (.row false 4 ([(Qb.mk Qr Qj 6 9),(Qb.mk Qs Qj 6 7),(Qb.mk Qw Qj 9 4)].map Qb.cells))]) (ap (Qn.rn 4 [3] (f19r1_ok 0 [(Qa.mk Qj 0 0)] h189)) (ap (Qn.rn 8 [7] (f19r1_ok 0 [(Qa.mk Qj 1 0),(Qa.mk str_k 1 0)] h193)) an)) ?_
 obtain ⟨x369,h370,h⟩:=Qf h;obtain ⟨x373,h374,h⟩:=Qf h
 refine rN Qh 2 [([],[(2,.call (.tup [(.agg [(.pl (.int .u8 x369.2.1)),(.own 5),(.pl (.sl .nil 0 []))]),(jI x369.1)]) (jN 3 [some (.row false 3 ([(Qa.mk Qj 1 33554433)].map Qa.cells)),some (.box [(.pl (.int .u8 x369.2.1)),(.own 5),(.pl (.sl .nil 0 []))]),jR 3 Qa.cells x369.2.2]))],[]),([],[(0,.call (.tup [(.pl (.agg [(.int .u8 x373.2),(.sl .nil 0 []),(.sl .nil 0 [])])),(jI x373.1)]) (jN 7 [some (.box [(.pl (.int .u8 x373.2)),(.pl (.sl .nil 0 [])),(.pl (.sl .nil 0 []))])]))],[])] [] [] [0,8,1,2] [1,3,5,7,9,10,11] (mkS [(1,(.bp 0 0)),(3,(jI x7.1)),(5,(jI x188.1)),(7,(jI x192.1)),(9,(jI x369.1)),(10,(.bp 1 0)),(11,(jI x373.1))],[some (.box [(.pl (.int .u8 0)),(.own 2),(.own 3)]),some (.box [(.pl (.int .u8 x373.2)),(.pl (.sl .nil 0 [])),(.pl (.sl .nil 0 []))]),some (.row false 3 ([(Qa.mk Qj 10 5)].map Qa.cells)),some (.row false 4 ([(Qb.mk Qr Qj 6 9),(Qb.mk Qs Qj 6 7),(Qb.mk Qw Qj 9 4)].map Qb.cells))]) (ap (Qn.rn 4 [3] (f19r1_ok 0 [(Qa.mk Qj 1 33554433)] h370)) (ap (Qn.rn 7 [] (f19r2_ok 2 h374)) an)) ?_
 obtain ⟨x546,h547,h⟩:=Qf h
 refine rN Qh 1 [([],[(1,.call (.tup [(.agg [(.pl (.int .u8 x546.2.1)),(.own 5),(.own 6)]),(jI x546.1)]) [none,none,some (.row false 3 ([(Qa.mk Qj 10 5)].map Qa.cells)),some (.row false 4 ([(Qb.mk Qr Qj 6 9),(Qb.mk Qs Qj 6 7),(Qb.mk Qw Qj 9 4)].map Qb.cells)),some (.box [(.pl (.int .u8 x546.2.1)),(.own 5),(.own 6)]),jR 3 Qa.cells x546.2.2.1,jR 4 Qb.cells x546.2.2.2])],[])] [] [] [0,1,2,3] [1,3,5,7,9,10,11,13] (mkS [(1,(.bp 0 0)),(3,(jI x7.1)),(5,(jI x188.1)),(7,(jI x192.1)),(9,(jI x369.1)),(10,(.bp 1 0)),(11,(jI x373.1)),(13,(jI x546.1))],[some (.box [(.pl (.int .u8 0)),(.own 2),(.own 3)]),some (.box [(.pl (.int .u8 x373.2)),(.pl (.sl .nil 0 [])),(.pl (.sl .nil 0 []))]),some (.row false 3 ([(Qa.mk Qj 10 5)].map Qa.cells)),some (.row false 4 ([(Qb.mk Qr Qj 6 9),(Qb.mk Qs Qj 6 7),(Qb.mk Qw Qj 9 4)].map Qb.cells))]) (ap (Qn.rn 4 [2,3] (f23r2_ok 0 str_house Qj 1 [(Qa.mk Qj 10 5)] [(Qb.mk Qr Qj 6 9),(Qb.mk Qs Qj 6 7),(Qb.mk Qw Qj 9 4)] h547)) an) ?_
 obtain ⟨x717,h718,h⟩:=Qf h
 refine rN Qh 1 [([],[(1,.call (.tup [(.agg [(.pl (.int .u8 x717.2.1)),(.own 5),(.own 6)]),(jI x717.1)]) [none,none,some (.row false 3 ([(Qa.mk Qj 10 5)].map Qa.cells)),some (.row false 4 ([(Qb.mk Qr Qj 6 9),(Qb.mk Qs Qj 6 7),(Qb.mk Qw Qj 9 4)].map Qb.cells)),some (.box [(.pl (.int .u8 x717.2.1)),(.own 5),(.own 6)]),jR 3 Qa.cells x717.2.2.1,jR 4 Qb.cells x717.2.2.2])],[])] [] [] [0,1,2,3] [1,3,5,7,9,10,11,13,15] (mkS [(1,(.bp 0 0)),(3,(jI x7.1)),(5,(jI x188.1)),(7,(jI x192.1)),(9,(jI x369.1)),(10,(.bp 1 0)),(11,(jI x373.1)),(13,(jI x546.1)),(15,(jI x717.1))],[some (.box [(.pl (.int .u8 0)),(.own 2),(.own 3)]),some (.box [(.pl (.int .u8 x373.2)),(.pl (.sl .nil 0 [])),(.pl (.sl .nil 0 []))]),some (.row false 3 ([(Qa.mk Qj 10 5)].map Qa.cells)),some (.row false 4 ([(Qb.mk Qr Qj 6 9),(Qb.mk Qs Qj 6 7),(Qb.mk Qw Qj 9 4)].map Qb.cells))]) (ap (Qn.rn 4 [2,3] (f23r3_ok 0 str_m Qj 1 [(Qa.mk Qj 10 5)] [(Qb.mk Qr Qj 6 9),(Qb.mk Qs Qj 6 7),(Qb.mk Qw Qj 9 4)] h718)) an) ?_
 obtain ⟨x886,h887,h⟩:=Qf h
 refine rN Qh 1 [([],[(1,.call (.tup [(.agg [(.pl (.int .u8 x886.2.1)),(.own 5),(.own 6)]),(jI x886.1)]) [none,none,some (.row false 3 ([(Qa.mk Qj 10 5)].map Qa.cells)),some (.row false 4 ([(Qb.mk Qr Qj 6 9),(Qb.mk Qs Qj 6 7),(Qb.mk Qw Qj 9 4)].map Qb.cells)),some (.box [(.pl (.int .u8 x886.2.1)),(.own 5),(.own 6)]),jR 3 Qa.cells x886.2.2.1,jR 4 Qb.cells x886.2.2.2])],[])] [] [] [0,1,2,3] [1,3,5,7,9,10,11,13,15,17] (mkS [(1,(.bp 0 0)),(3,(jI x7.1)),(5,(jI x188.1)),(7,(jI x192.1)),(9,(jI x369.1)),(10,(.bp 1 0)),(11,(jI x373.1)),(13,(jI x546.1)),(15,(jI x717.1)),(17,(jI x886.1))],[some (.box [(.pl (.int .u8 0)),(.own 2),(.own 3)]),some (.box [(.pl (.int .u8 x373.2)),(.pl (.sl .nil 0 [])),(.pl (.sl .nil 0 []))]),some (.row false 3 ([(Qa.mk Qj 10 5)].map Qa.cells)),some (.row false 4 ([(Qb.mk Qr Qj 6 9),(Qb.mk Qs Qj 6 7),(Qb.mk Qw Qj 9 4)].map Qb.cells))]) (ap (Qn.rn 4 [2,3] (f23r1_ok 0 str_m Qj 1 (-1) [(Qa.mk Qj 10 5)] [(Qb.mk Qr Qj 6 9),(Qb.mk Qs Qj 6 7),(Qb.mk Qw Qj 9 4)] h887)) an) ?_
 obtain ⟨x1053,h1054,h⟩:=Qf h
 refine rN Qh 1 [([],[(1,.call (.tup [(.agg [(.pl (.int .u8 x1053.2.1)),(.own 5),(.own 6)]),(jI x1053.1)]) [none,none,some (.row false 3 ([(Qa.mk Qj 10 5)].map Qa.cells)),some (.row false 4 ([(Qb.mk Qr Qj 6 9),(Qb.mk Qs Qj 6 7),(Qb.mk Qw Qj 9 4)].map Qb.cells)),some (.box [(.pl (.int .u8 x1053.2.1)),(.own 5),(.own 6)]),jR 3 Qa.cells x1053.2.2.1,jR 4 Qb.cells x1053.2.2.2])],[])] [] [] [0,1,2,3] [1,3,5,7,9,10,11,13,15,17,19] (mkS [(1,(.bp 0 0)),(3,(jI x7.1)),(5,(jI x188.1)),(7,(jI x192.1)),(9,(jI x369.1)),(10,(.bp 1 0)),(11,(jI x373.1)),(13,(jI x546.1)),(15,(jI x717.1)),(17,(jI x886.1)),(19,(jI x1053.1))],[some (.box [(.pl (.int .u8 0)),(.own 2),(.own 3)]),some (.box [(.pl (.int .u8 x373.2)),(.pl (.sl .nil 0 [])),(.pl (.sl .nil 0 []))]),some (.row false 3 ([(Qa.mk Qj 10 5)].map Qa.cells)),some (.row false 4 ([(Qb.mk Qr Qj 6 9),(Qb.mk Qs Qj 6 7),(Qb.mk Qw Qj 9 4)].map Qb.cells))]) (ap (Qn.rn 4 [2,3] (f23r2_ok 0 str_m str_k 1 [(Qa.mk Qj 10 5)] [(Qb.mk Qr Qj 6 9),(Qb.mk Qs Qj 6 7),(Qb.mk Qw Qj 9 4)] h1054)) an) ?_
 obtain ⟨x1218,h1219,h⟩:=Qf h
 refine rN Qh 1 [([],[(1,.call (.tup [(.agg [(.pl (.int .u8 x1218.2.1)),(.own 5),(.own 6)]),(jI x1218.1)]) [none,none,some (.row false 3 ([(Qa.mk Qj 10 5)].map Qa.cells)),some (.row false 4 ([(Qb.mk Qr Qj 6 9),(Qb.mk Qs Qj 6 7),(Qb.mk Qw Qj 9 4)].map Qb.cells)),some (.box [(.pl (.int .u8 x1218.2.1)),(.own 5),(.own 6)]),jR 3 Qa.cells x1218.2.2.1,jR 4 Qb.cells x1218.2.2.2])],[])] [] [] [1,7,5,6] [3,5,7,9,10,11,13,15,17,19,20,21] (mkS [(3,(jI x7.1)),(5,(jI x188.1)),(7,(jI x192.1)),(9,(jI x369.1)),(10,(.bp 0 0)),(11,(jI x373.1)),(13,(jI x546.1)),(15,(jI x717.1)),(17,(jI x886.1)),(19,(jI x1053.1)),(20,(.bp 1 0)),(21,(jI x1218.1))],[some (.box [(.pl (.int .u8 x373.2)),(.pl (.sl .nil 0 [])),(.pl (.sl .nil 0 []))]),some (.box [(.pl (.int .u8 x1218.2.1)),(.own 2),(.own 3)]),jR 3 Qa.cells x1218.2.2.1,jR 4 Qb.cells x1218.2.2.2]) (ap (Qn.rn 4 [2,3] (f23r1_ok 0 str_m Qj 1048576 33554432 [(Qa.mk Qj 10 5)] [(Qb.mk Qr Qj 6 9),(Qb.mk Qs Qj 6 7),(Qb.mk Qw Qj 9 4)] h1219)) an) ?_
 obtain ⟨x1381,h1382,h⟩:=Qf h;obtain ⟨x1385,h1386,h⟩:=Qf h;obtain ⟨x1544,h1545,h⟩:=Qf h
 refine rN Qh 4 [([],[(0,.call (.agg [(.pl (.int .u8 0)),(.own 5),(.own 6)]) (jN 4 [some (.box [(.pl (.int .u8 0)),(.own 5),(.own 6)]),some (.row false 3 ([(Qa.mk Qj 10 5)].map Qa.cells)),some (.row false 4 ([(Qb.mk Qr Qj 6 9),(Qb.mk Qs Qj 6 7),(Qb.mk Qw Qj 9 4)].map Qb.cells))]))],[]),j3,([],[jH 1 (.tup [(jL 3 Qc.cells x1385.1),(jI x1385.2)])],[]),([],[(1,.call (.tup [(.agg [(.pl (.int .u8 x1544.2.1)),(.own 9),(.own 10)]),(jI x1544.1)]) (jN 5 [some (.row true 3 ([(Qa.mk Qj 10 5)].map Qa.cells)),some (.row true 4 ([(Qb.mk Qr str_k 6 9),(Qb.mk Qs Qj 6 7),(Qb.mk Qw Qj 9 4)].map Qb.cells)),none,some (.box [(.pl (.int .u8 x1544.2.1)),(.own 9),(.own 10)]),jR 3 Qa.cells x1544.2.2.1,jR 4 Qb.cells x1544.2.2.2]))],[])] [] [] [0,1,2,3] [3,5,7,9,10,11,13,15,17,19,20,21,24,26] (mkS [(3,(jI x7.1)),(5,(jI x188.1)),(7,(jI x192.1)),(9,(jI x369.1)),(10,(.bp 0 0)),(11,(jI x373.1)),(13,(jI x546.1)),(15,(jI x717.1)),(17,(jI x886.1)),(19,(jI x1053.1)),(20,(.bp 1 0)),(21,(jI x1218.1)),(24,(jI x1385.2)),(26,(jI x1544.1))],[some (.box [(.pl (.int .u8 x373.2)),(.pl (.sl .nil 0 [])),(.pl (.sl .nil 0 []))]),some (.box [(.pl (.int .u8 x1218.2.1)),(.own 2),(.own 3)]),jR 3 Qa.cells x1218.2.2.1,jR 4 Qb.cells x1218.2.2.2]) (ap (Qn.rn 4 [] (f33r2_ok 0 6 h1382)) (ap (f12_ok (Qe.mk 0 [(Qa.mk Qj 10 5)] [(Qb.mk Qr str_k 6 9),(Qb.mk Qs Qj 6 7),(Qb.mk Qw Qj 9 4)]) h1386) (ap (Qn.rn 8 [5,6] (f23r4_ok 0 str_m Qj 1 [(Qa.mk Qj 10 5)] [(Qb.mk Qr str_k 6 9),(Qb.mk Qs Qj 6 7),(Qb.mk Qw Qj 9 4)] h1545)) an))) ?_
 obtain ⟨x1701,h1702,h⟩:=Qf h;obtain ⟨x1707,h1708,h⟩:=Qf h;obtain ⟨x1709,h1710,h⟩:=Qf h
 refine rN Qh 2 [([],[jH 1 (.tup [(jL 3 Qc.cells x1701.1),(jI x1701.2)])],[]),([],[(0,.call (.agg [(.pl (.int .u8 0)),(.own 5),(.own 6)]) (jN 4 [some (.box [(.pl (.int .u8 0)),(.own 5),(.own 6)]),some (.row false 3 ([(Qa.mk Qj 10 5)].map Qa.cells)),some (.row false 4 ([(Qb.mk Qr Qj 6 9),(Qb.mk Qs Qj 2 7),(Qb.mk Qw Qj 9 4)].map Qb.cells))])),jH 1 (.tup [(.pl (.sl .any 1 (x1709.1.map (cInt .i64)))),(jI x1709.2)])],[])] [] [] [0,1,2,3] [3,5,7,9,10,11,13,15,17,19,20,21,24,26,27,28,29,30] (mkS [(3,(jI x7.1)),(5,(jI x188.1)),(7,(jI x192.1)),(9,(jI x369.1)),(10,(.bp 0 0)),(11,(jI x373.1)),(13,(jI x546.1)),(15,(jI x717.1)),(17,(jI x886.1)),(19,(jI x1053.1)),(20,(.bp 1 0)),(21,(jI x1218.1)),(24,(jI x1385.2)),(26,(jI x1544.1)),(27,(jL 3 Qc.cells x1701.1)),(28,(jI x1701.2)),(29,(.pl (.sl .any 1 (x1709.1.map (cInt .i64))))),(30,(jI x1709.2))],[some (.box [(.pl (.int .u8 x373.2)),(.pl (.sl .nil 0 [])),(.pl (.sl .nil 0 []))]),some (.box [(.pl (.int .u8 x1218.2.1)),(.own 2),(.own 3)]),jZ 3 Qa.cells x1218.2.2.1,jZ 4 Qb.cells x1218.2.2.2]) (ap (f12_ok (Qe.mk x1218.2.1 x1218.2.2.1 x1218.2.2.2) h1702) (ap (Qn.rn 4 [] (f33r2_ok 0 2 h1708)) (ap (f18_ok (Qe.mk 0 [(Qa.mk Qj 10 5)] [(Qb.mk Qr Qj 6 9),(Qb.mk Qs Qj 2 7),(Qb.mk Qw Qj 9 4)]) h1710) an))) ?_
 obtain ⟨x1860,h1861,h⟩:=Qf h;refine rN Qh 1 [([],[jH 1 (.tup [(jI x1860.1),(jI x1860.2)])],[])] [] [] [0] [3,5,7,9,10,11,13,15,17,19,21,24,26,27,28,29,30,31,32] (f9n1S x7 x188 x192 x369 x373 x546 x717 x886 x1053 x1218 x1385 x1544 x1701 x1709 x1860) (ap (f15_ok (Qe.mk x1218.2.1 x1218.2.2.1 x1218.2.2.2) h1861) an) ?_;obtain ⟨o1899,h1900,h⟩:=Qf h;cases o1899 with
 | norm v1901 =>
  refine T.oneN (by kernel_rfl) (f9n1_ok x7 x188 x192 x369 x373 x546 x717 x886 x1053 x1218 x1385 x1544 x1701 x1709 x1860 h1900) (st2:=(f9n1E x7 x188 x192 x369 x373 x546 x717 x886 x1053 x1218 x1385 x1544 x1701 x1709 x1860 (.norm v1901)).2) rfl ?_;refine rN Qh 0 [] [] [] [] [24,26,27,28,29,30,31,32,33] (f9n2S x1385 x1544 x1701 x1709 x1860 v1901) an ?_;obtain ⟨o1936,h1937,h⟩:=Qf h;cases o1936 with
  | norm v1938 =>
   refine T.oneN (by kernel_rfl) (f9n2_ok x1385 x1544 x1701 x1709 x1860 v1901 h1937) (st2:=(f9n2E x1385 x1544 x1701 x1709 x1860 v1901 (.norm v1938)).2) rfl ?_;obtain ⟨x1943,h1944,h⟩:=Qf h;rcases Qi h with ⟨h1945,h⟩|⟨h1945,h⟩
   ·rcases Qi h with ⟨h1946,h⟩|⟨h1946,h⟩
    ·obtain rfl:=Qg h;exact rE Qh [([(4,true),(7,true)],[jH 1 (jB x1943),(5,.bool true),(8,.bool true)],[])] [] [] [] [0] (.ret,(f9n0E (.ret v1938)).2) (ap2 h1945 (ap2 h1946 (ap (f10_ok h1944) an))) rfl
    ·obtain rfl:=Qg h;exact rE Qh [([(4,true),(7,false)],[jH 1 (jB x1943),(5,.bool true),(8,.bool false)],[])] [] [] [] [0] (.ret,(f9n0E (.ret false)).2) (ap2 h1945 (ap2 h1946 (ap (f10_ok h1944) an))) rfl
   ·obtain rfl:=Qg h;exact rE Qh [([(4,false)],[jH 1 (jB x1943),(5,.bool false)],[])] [] [] [] [0] (.ret,(f9n0E (.ret false)).2) (ap2 h1945 (ap (f10_ok h1944) an)) rfl
noncomputable def f9:Option Bool:=f9n0.bind fun o=>match o with
 | .ret v1947=>some v1947
theorem f9_ok{r:Bool}(h:f9=some r):Qn Try.prog false 9 [] [] (jB r) []:=by
 unfold f9 at h;obtain ⟨o,ho,h⟩:=Qf h;cases o with
 | ret v1947 =>
  obtain rfl:=Qg h;exact Qn.plain Qh (f:=Try.f9) (c:=c9) (by kernel_rfl) (by kernel_rfl) (by kernel_rfl) (by kernel_rfl) ((f9n0_ok  ho).mono fun r e=>by subst e; exact ⟨.inl rfl,(jB v1947),(jB v1947),by kernel_rfl,by kernel_rfl,((Wk.refl _):Wk (jB v1947) (jB v1947))⟩)
end Go.Proofs.Ythpceddjepbamaa
namespace Go.Proofs.Ythpceddjepbamaa
set_option linter.unusedVariables false
set_option linter.unusedSimpArgs false
open Go.RowKit
section
variable {c:Qd→Qd→Int} (hc:∀x y,f55 x y=some (c x y)) (o:SWo fun x y=>decide (c x y<0))
abbrev Qx(c:Qd→Qd→Int):Qd→Qd→Bool:=fun x y=>decide (c x y<0)

include hc o in
theorem st_ins_in(a b i:Int):∀(n:Nat)(S P R:List Qd)(x:Qd)(f:Nat),S.length=n→n<f→P.length+n≤1000000→Sd (Qx c) S →
  ∃S',f80r1n2 f a b i ((P.length+n:Nat):Int) (P++(S++x::R))=some (.exit2 (P++(S'++R)))∧Sd (Qx c) S'∧Cl (Qx c) (S++[x]) S'∨a≠(P.length:Int)
 | _,S,P,R,x,0,_,h,_,_=>absurd h (Nat.not_lt_zero _)
 | n,S,P,R,x,f+1,hn,hf,hb,hs=>by
  by_cases ha:a=(P.length:Int)
  ·subst ha;rcases List.eq_nil_or_concat S with rfl | ⟨S0,y,rfl⟩
   ·refine ⟨[x],.inl ⟨?_,by simp,Cl.refl _⟩⟩;have:n=0:=by simpa using hn.symm
    subst this;rw [f80r1n2,decide_eq_false (by omega),cond_false]; simp
   ·rw [List.concat_eq_append] at hn hs ⊢;have hn':n=S0.length+1:=by simpa using hn.symm
    subst hn';have e1:P++((S0++[y])++x::R)=(P++S0)++y::x::R:=by simp
    have e2:P++((S0++[y])++x::R)=((P++S0)++[y])++x::R:=by simp
    have k1:wr64 (((P.length+(S0.length+1):Nat):Int)-1)=((P.length+S0.length:Nat):Int):=by rw [wrIn (by omega) (by omega)]; omega
    rw [f80r1n2,decide_eq_true (by omega),cond_true,k1,at_len (k:=P.length+(S0.length+1)) e2 (by simp<;>omega),at_len (k:=P.length+S0.length) e1 (by simp)];simp only [Option.bind_some,hc];rw [show (Int.toNat ((P.length+(S0.length+1):Nat):Int))=P.length+(S0.length+1) from rfl,show (Int.toNat ((P.length+S0.length:Nat):Int))=P.length+S0.length from rfl,set_len (k:=P.length+(S0.length+1)) (y:=y) e2 (by simp<;>omega)];have e3:((P++S0)++[y])++y::R=(P++S0)++y::y::R:=by simp
    rw [at_len (k:=P.length+S0.length) e3 (by simp),set_len (k:=P.length+S0.length) (y:=x) e3 (by simp)];cases hlt:decide (c x y<0) with
    | true =>
     have hs':=List.pairwise_append.1 hs;rcases st_ins_in (P.length:Int) b i S0.length S0 P (y::R) x f rfl (by omega) (by omega) hs'.1 with ⟨S',h | h⟩
     ·obtain ⟨h1,h2,h3⟩:=h;simp only [cond_true,Option.bind_some];rw [show (P++S0)++x::y::R=P++(S0++x::(y::R)) by simp,h1];refine ⟨S'++[y],.inl ⟨by simp,h2.app (by simp) fun z hz w hw=>?_,?_⟩⟩
      ·rw [List.mem_singleton.1 hw];rcases List.mem_append.1 (h3.mem.1 hz) with hz | hz
       ·exact hs'.2.2 z hz y (by simp)
       ·rw [List.mem_singleton.1 hz]; exact o.asym hlt
      ·have e:=(Cl.refl (lt:=Qx c) S0).app (Cl.swap (lt:=Qx c) (u:=[y]) (v:=[x]) o (fun a ha b hb=>by rw [List.mem_singleton.1 ha,List.mem_singleton.1 hb]; exact hlt));have e':=e.trans (by simpa using h3.app (Cl.refl (lt:=Qx c) [y]):Cl (Qx c) (S0++([x]++[y])) (S'++[y]));simpa using e'
     ·exact absurd rfl h
    | false =>
     refine ⟨(S0++[y])++[x],.inl ⟨by simp,hs.app (by simp) fun z hz w hw=>?_,Cl.refl _⟩⟩;rw [List.mem_singleton.1 hw];rcases List.mem_append.1 hz with hz | hz
     ·exact o.nt hlt ((List.pairwise_append.1 hs).2.2 z hz y (by simp))
     ·rw [List.mem_singleton.1 hz]; exact hlt
  ·exact ⟨[],.inr ha⟩
include hc o in
theorem st_ins_out:∀(X S P R:List Qd)(f:Nat),X.length<f→P.length+S.length+X.length≤1000000→Sd (Qx c) S →
  ∃S',f80r1n3 f (P.length:Int) ((P.length+S.length+X.length:Nat):Int) ((P.length+S.length:Nat):Int) (P++(S++(X++R)))=some (.exit0 (P++(S'++R)))∧Sd (Qx c) S'∧Cl (Qx c) (S++X) S'
 | _,S,P,R,0,h,_,_=>absurd h (Nat.not_lt_zero _)
 | [],S,P,R,f+1,_,_,hs=>⟨S,by rw [f80r1n3,decide_eq_false (by simp),cond_false]; simp,hs,by simpa using Cl.refl _⟩
 | x::X,S,P,R,f+1,hf,hb,hs=>by
  simp only [List.length_cons] at hf hb;rcases st_ins_in hc o (P.length:Int) ((P.length+S.length+(x::X).length:Nat):Int) ((P.length+S.length:Nat):Int) S.length S P (X++R) x FUEL rfl (Qba (Nat.le_trans (by omega:S.length≤1000000) (by unfold maxLen; decide))) (by omega) hs with ⟨S1,h | h⟩
  ·obtain ⟨h1,h2,h3⟩:=h;have hl:=h3.len;simp only [List.length_append,List.length_cons,List.length_nil] at hl;obtain ⟨S',k1,k2,k3⟩:=st_ins_out X S1 P R f (by omega) (by omega) h2;refine ⟨S',?_,k2,?_⟩
   ·rw [f80r1n3,decide_eq_true (by simp only [List.length_cons]; omega),cond_true];unfold f80r1n1;rw [show P++(S++(x::X++R))=P++(S++x::(X++R)) by simp,h1];simp only [Option.bind_some];rw [show wr64 (((P.length+S.length:Nat):Int)+1)=((P.length+S1.length:Nat):Int) by rw [wrIn (by omega) (by omega)]; omega];rw [show ((P.length+S.length+(x::X).length:Nat):Int)=((P.length+S1.length+X.length:Nat):Int) by simp only [List.length_cons]; omega];exact k1
   ·have:=(h3.app (Cl.refl (lt:=Qx c) X)).trans k3;simpa using this
  ·exact absurd rfl h
include hc o in
theorem st_ins_ok(P X R:List Qd)(hb:P.length+X.length≤1000000):f80r1 (P.length:Int) ((P.length+X.length:Nat):Int) (P++(X++R))=some (P++(Qbb (Qx c) X++R)):=by
 have main:f80r1n3 FUEL (P.length:Int) ((P.length+X.length:Nat):Int) (wr64 ((P.length:Int)+1)) (P++(X++R))=some (.exit0 (P++(Qbb (Qx c) X++R))):=by
  rw [show wr64 ((P.length:Int)+1)=((P.length+1:Nat):Int) by rw [wrIn (by omega) (by omega)]; omega];have hF:∀n:Nat,n≤1000000→n<FUEL:=fun n hn=>Qba (Nat.le_trans hn (by unfold maxLen; decide));cases X with
  | nil =>
   have:FUEL=(FUEL-1)+1:=by decide
   rw [this,f80r1n3,decide_eq_false (by simp<;>omega),cond_false]; rfl
  | cons x X =>
   simp only [List.length_cons] at hb;obtain ⟨S',k1,k2,k3⟩:=st_ins_out hc o X [x] P R FUEL (hF _ (by omega)) (by simp<;>omega) (by simp);rw [sortS_of o k2 k3] at k1;simp only [List.length_cons,List.length_nil,List.cons_append,List.nil_append] at k1 ⊢;rw [show P.length+(X.length+1)=P.length+(0+1)+X.length by omega,show P.length+1=P.length+(0+1) by omega];exact k1
 unfold f80r1 f80r1n0;rw [main]; rfl
end
theorem st_swp_at:∀(X Y A M S:List Qd)(a b i n f:Nat),X.length=Y.length→X.length<f→a+i=A.length→b+i=A.length+X.length+M.length→n=i+X.length→A.length+X.length+M.length+Y.length≤1000000 →
  f89r1n1 f (a:Int) (b:Int) (n:Int) (i:Int) (A++(X++(M++(Y++S))))=some (.exit0 (A++(Y++(M++(X++S)))))
 | _,_,_,_,_,_,_,_,_,0,_,h,_,_,_,_=>absurd h (Nat.not_lt_zero _)
 | [],[],A,M,S,a,b,i,n,f+1,_,_,_,_,hn,_=>by rw [f89r1n1,decide_eq_false (by simp at hn; omega),cond_false]
 | [],y::Y,_,_,_,_,_,_,_,_+1,h,_,_,_,_,_=>absurd h (by simp)
 | x::X,[],_,_,_,_,_,_,_,_+1,h,_,_,_,_,_=>absurd h (by simp)
 | x::X,y::Y,A,M,S,a,b,i,n,f+1,h,hf,ha,hb,hn,hl=>by
  simp only [List.length_cons] at h hf hb hn hl;have e1:A++(x::X++(M++(y::Y++S)))=A++x::(X++(M++(y::Y++S))):=by simp
  have e2:A++(x::X++(M++(y::Y++S)))=(A++(x::X++M))++y::(Y++S):=by simp
  have e3:A++y::(X++(M++(y::Y++S)))=(A++(y::X++M))++y::(Y++S):=by simp
  have k1:wr64 ((a:Int)+(i:Int))=((a+i:Nat):Int):=by rw [wrIn (by omega) (by omega)]; omega
  have k2:wr64 ((b:Int)+(i:Int))=((b+i:Nat):Int):=by rw [wrIn (by omega) (by omega)]; omega
  have k3:wr64 ((i:Int)+1)=((i+1:Nat):Int):=by rw [wrIn (by omega) (by omega)]; omega
  rw [f89r1n1,decide_eq_true (by omega),cond_true,k1,k2,k3,at_len e2 (by simp<;>omega),at_len e1 ha];simp only [Option.bind_some];rw [show (Int.toNat ((a+i:Nat):Int))=a+i from rfl,show (Int.toNat ((b+i:Nat):Int))=b+i from rfl,set_len (y:=y) e1 ha,at_len e3 (by simp<;>omega),set_len (y:=x) e3 (by simp<;>omega)];simp only [Option.bind_some];have ih:=st_swp_at X Y (A++[y]) (M++[x]) S a b (i+1) n f (by omega) (by omega) (by simp<;>omega) (by simp<;>omega) (by omega) (by simp<;>omega);rw [show (A++(y::X++M))++x::(Y++S)=(A++[y])++(X++((M++[x])++(Y++S))) by simp,ih]
  simp
theorem st_swp_ok(P X M Y S:List Qd){a b n:Nat}(h:X.length=Y.length)(ha:a=P.length)(hb:b=P.length+X.length+M.length)(hn:n=X.length)(hl:P.length+X.length+M.length+Y.length≤1000000) :
  f89r1 (a:Int) (b:Int) (n:Int) (P++(X++(M++(Y++S))))=some (P++(Y++(M++(X++S)))):=by
 have k:=st_swp_at X Y P M S a b 0 n FUEL h (Qba (Nat.le_trans (by omega:X.length≤1000000) (by unfold maxLen; decide))) (by omega) (by omega) (by omega) hl;unfold f89r1 f89r1n0;rw [show (0:Int)=((0:Nat):Int) from rfl,k]; rfl

theorem st_rot_at:∀(n:Nat)(P U V S:List Qd)(f m:Nat),U.length+V.length≤n→n<f→0<U.length→0<V.length→m=P.length+U.length→P.length+U.length+V.length≤1000000 →
  ∃i l,f87r1n1 f (m:Int) (U.length:Int) (V.length:Int) (P++(U++(V++S)))=some (.exit0 i l)∧f89r1 (wr64 ((m:Int)-i)) (m:Int) i l=some (P++(V++(U++S)))
 | _,_,_,_,_,0,_,_,h,_,_,_,_=>absurd h (Nat.not_lt_zero _)
 | 0,_,_,_,_,_+1,_,h,_,hu,_,_,_=>by omega
 | n+1,P,U,V,S,f+1,m,h,hf,hu,hv,hm,hl=>by
  rw [f87r1n1]
  by_cases he:U.length=V.length
  ·rw [decide_eq_true (by omega),cond_true];refine ⟨_,_,rfl,?_⟩;rw [show wr64 ((m:Int)-(U.length:Int))=((P.length:Nat):Int) by rw [wrIn (by omega) (by omega)]; omega];have:=st_swp_ok P U [] V S (a:=P.length) (b:=m) (n:=U.length) he rfl (by simp<;>omega) rfl (by simp<;>omega);simpa using this
  ·rw [decide_eq_false (by omega),cond_false]
   by_cases hlt:V.length<U.length
   ·rw [decide_eq_true (by omega),cond_true];obtain ⟨U1,U2,rfl,hU1⟩:=cutL_ (l:=U) (n:=V.length) (by omega);simp only [List.length_append] at *;rw [show wr64 ((m:Int)-((U1.length+U2.length:Nat):Int))=((P.length:Nat):Int) by rw [wrIn (by omega) (by omega)]; omega];have k:=st_swp_ok P U1 U2 V S (a:=P.length) (b:=m) (n:=V.length) hU1 rfl (by omega) hU1.symm (by omega);rw [show P++((U1++U2)++(V++S))=P++(U1++(U2++(V++S))) by simp,k];simp only [Option.bind_some];obtain ⟨i,l,q1,q2⟩:=st_rot_at n (P++V) U2 U1 S f m (by omega) (by omega) (by omega) (by omega) (by simp<;>omega) (by simp<;>omega);refine ⟨i,l,?_,by rw [q2]; simp⟩;rw [show wr64 (((U1.length+U2.length:Nat):Int)-(V.length:Int))=((U2.length:Nat):Int) by rw [wrIn (by omega) (by omega)]; omega,←hU1];rw [show P++(V++(U2++(U1++S)))=(P++V)++(U2++(U1++S)) by simp];exact q1
   ·rw [decide_eq_false (by omega),cond_false];obtain ⟨V1,V2,rfl,hV2⟩:=cutR_ (l:=V) (n:=U.length) (by omega);simp only [List.length_append] at *;rw [show wr64 ((m:Int)-(U.length:Int))=((P.length:Nat):Int) by rw [wrIn (by omega) (by omega)]; omega];rw [show wr64 (wr64 ((m:Int)+((V1.length+V2.length:Nat):Int))-(U.length:Int))=((m+V1.length:Nat):Int) by rw [wrIn (n:=(m:Int)+((V1.length+V2.length:Nat):Int)) (by omega) (by omega),wrIn (by omega) (by omega)]; omega];have k:=st_swp_ok P U V1 V2 S (a:=P.length) (b:=m+V1.length) (n:=U.length) hV2.symm rfl (by omega) rfl (by omega);rw [show P++(U++((V1++V2)++S))=P++(U++(V1++(V2++S))) by simp,k];simp only [Option.bind_some];obtain ⟨i,l,q1,q2⟩:=st_rot_at n P V2 V1 (U++S) f m (by omega) (by omega) (by omega) (by omega) (by omega) (by omega);refine ⟨i,l,?_,by rw [q2]; simp⟩
    rw [show wr64 (((V1.length+V2.length:Nat):Int)-(U.length:Int))=((V1.length:Nat):Int) by rw [wrIn (by omega) (by omega)]; omega,←hV2];exact q1
theorem st_rot_ok(P U V S:List Qd){a m b:Nat}(ha:a=P.length)(hm:m=P.length+U.length)(hb:b=P.length+U.length+V.length)(hu:0<U.length)(hv:0<V.length)(hl:P.length+U.length+V.length≤1000000) :
  f87r1 (a:Int) (m:Int) (b:Int) (P++(U++(V++S)))=some (P++(V++(U++S))):=by
 obtain ⟨i,l,q1,q2⟩:=st_rot_at (U.length+V.length) P U V S FUEL m (Nat.le_refl _) (Qba (Nat.le_trans (by omega:U.length+V.length≤1000000) (by unfold maxLen; decide))) hu hv hm hl;unfold f87r1 f87r1n0;rw [show wr64 ((m:Int)-(a:Int))=((U.length:Nat):Int) by rw [wrIn (by omega) (by omega)]; omega,show wr64 ((b:Int)-(m:Int))=((V.length:Nat):Int) by rw [wrIn (by omega) (by omega)]; omega,q1];simp only [Option.bind_some,q2]
end Go.Proofs.Ythpceddjepbamaa
namespace Go.Proofs.Ythpceddjepbamaa
set_option linter.unusedVariables false
set_option linter.unusedSimpArgs false
open Go.RowKit
abbrev st_self:=Int→Int→Int→List Qd→Option (List Qd)
theorem st_half{a b:Nat}(h:a+b≤1000000000):wr64 (shrK .u64 (Qv (wr64 ((a:Int)+(b:Int)))) 1)=(((a+b) / 2:Nat):Int):=by
 rw [show (a:Int)+(b:Int)=((a+b:Nat):Int) by omega]; exact half_eq h
section
variable {c:Qd→Qd→Int} (hc:∀x y,f55 x y=some (c x y)) (self:st_self)
include hc
theorem st_n3{l:List Qd}{x:Qd}{a:Int}(hx:at? l a=some x)(hl:l.length≤1000000):∀(f lo hi:Nat),hi≤l.length→lo≤1000000→f81r1n3 self f a l (lo:Int) (hi:Int)=(bsN (pq (fun y=>decide (c y x<0)) l) f lo hi).map fun r=>.exit0 (r:Int)
 | 0,lo,hi,_,_=>rfl
 | f+1,lo,hi,h,h0=>by
  rw [f81r1n3,bsN]
  by_cases hlt:lo<hi
  ·have hk:(lo+hi) / 2<l.length:=by omega
   rw [decide_eq_true hlt,decide_eq_true (by omega:(lo:Int)<(hi:Int)),st_half (by omega),at_in hk,hx];simp only [cond_true,Option.bind_some,hc];have ep:pq (fun y=>decide (c y x<0)) l ((lo+hi) / 2)=decide (c l[(lo+hi) / 2] x<0):=by unfold pq; rw [List.getElem?_eq_getElem hk]
   rw [ep];cases decide (c l[(lo+hi) / 2] x<0) with
   | true=>rw [cond_true,cond_true,show wr64 ((((lo+hi) / 2:Nat):Int)+1)=(((lo+hi) / 2+1:Nat):Int) by rw [wrIn (by omega) (by omega)]; omega]; exact st_n3 hx hl f _ _ h (by omega)
   | false=>rw [cond_false,cond_false]; exact st_n3 hx hl f _ _ (by omega) h0
  ·rw [decide_eq_false hlt,decide_eq_false (by omega:¬(lo:Int)<(hi:Int))]; rfl
theorem st_n8{l:List Qd}{x:Qd}{a:Int}(hx:at? l a=some x)(hl:l.length≤1000000):∀(f lo hi:Nat),hi≤l.length→lo≤1000000→f81r1n8 self f a l (lo:Int) (hi:Int)=(bsN (pq (fun y=>!decide (c x y<0)) l) f lo hi).map fun r=>.exit4 (r:Int)
 | 0,lo,hi,_,_=>rfl
 | f+1,lo,hi,h,h0=>by
  rw [f81r1n8,bsN]
  by_cases hlt:lo<hi
  ·have hk:(lo+hi) / 2<l.length:=by omega
   rw [decide_eq_true hlt,decide_eq_true (by omega:(lo:Int)<(hi:Int)),st_half (by omega),at_in hk,hx];simp only [cond_true,Option.bind_some,hc];have ep:pq (fun y=>!decide (c x y<0)) l ((lo+hi) / 2) = !decide (c x l[(lo+hi) / 2]<0):=by unfold pq; rw [List.getElem?_eq_getElem hk]
   rw [ep];cases decide (c x l[(lo+hi) / 2]<0) with
   | true=>simp only [cond_true,Bool.not_true,cond_false]; exact st_n8 hx hl f _ _ (by omega) h0
   | false=>simp only [cond_true,Bool.not_false,cond_false]; rw [show wr64 ((((lo+hi) / 2:Nat):Int)+1)=(((lo+hi) / 2+1:Nat):Int) by rw [wrIn (by omega) (by omega)]; omega]; exact st_n8 hx hl f _ _ h (by omega)
  ·rw [decide_eq_false hlt,decide_eq_false (by omega:¬(lo:Int)<(hi:Int))]; rfl
def st_pr(c:Qd→Qd→Int)(l:List Qd)(n h:Nat):Bool:=match l[n-1-h]?,l[h]? with | some y,some x=>!decide (c y x<0) | _,_=>false
theorem st_n12{l:List Qd}{a m b:Nat}(hl:l.length≤1000000)(hb:b≤l.length)(ham:a≤m)(hmb:m≤b):∀(f lo hi:Nat),(∀h,lo≤h→h<hi→h+1≤(a+b) / 2+m∧(a+b) / 2+m-1-h<l.length∧h<l.length)→lo≤1000000→hi≤1000000 →
  f81r1n12 self f (a:Int) (m:Int) (b:Int) l (lo:Int) (hi:Int)=(bsN (st_pr c l ((a+b) / 2+m)) f lo hi).map fun r=>.exit8 (r:Int)
 | 0,lo,hi,_,_,_=>rfl
 | f+1,lo,hi,h,h0,h00=>by
  rw [f81r1n12,bsN]
  by_cases hlt:lo<hi
  ·obtain ⟨k1,k2,k3⟩:=h ((lo+hi) / 2) (by omega) (by omega);rw [decide_eq_true hlt,decide_eq_true (by omega:(lo:Int)<(hi:Int)),st_half (a:=lo) (b:=hi) (by omega),st_half (a:=a) (b:=b) (by omega),at_in k3];rw [wrIn (n:=(((a+b) / 2:Nat):Int)+(m:Int)) (by omega) (by omega),wrIn (n:=(((a+b) / 2:Nat):Int)+(m:Int)-1) (by omega) (by omega),wrIn (by omega) (by omega)];rw [show (((a+b) / 2:Nat):Int)+(m:Int)-1-(((lo+hi) / 2:Nat):Int)=(((a+b) / 2+m-1-(lo+hi) / 2:Nat):Int) by omega,at_in k2];simp only [cond_true,Option.bind_some,hc];have ep:st_pr c l ((a+b) / 2+m) ((lo+hi) / 2) = !decide (c l[(a+b) / 2+m-1-(lo+hi) / 2] l[(lo+hi) / 2]<0):=by unfold st_pr; rw [List.getElem?_eq_getElem k3,List.getElem?_eq_getElem k2]
   rw [ep];cases decide (c l[(a+b) / 2+m-1-(lo+hi) / 2] l[(lo+hi) / 2]<0) with
   | true=>simp only [cond_true,Bool.not_true,cond_false]; exact st_n12 hl hb ham hmb f _ _ (fun i hi1 hi2=>h i hi1 (by omega)) h0 (by omega)
   | false =>
    simp only [cond_true,Bool.not_false,cond_false];rw [show wr64 ((((lo+hi) / 2:Nat):Int)+1)=(((lo+hi) / 2+1:Nat):Int) by rw [wrIn (by omega) (by omega)]; omega];exact st_n12 hl hb ham hmb f _ _ (fun i hi1 hi2=>h i (by omega) hi2) (by omega) h00
  ·rw [decide_eq_false hlt,decide_eq_false (by omega:¬(lo:Int)<(hi:Int))]; rfl
omit hc
theorem st_n5:∀(Z A R:List Qd)(x:Qd)(f i:Nat),Z.length<f→i=A.length+Z.length+1→i≤1000000→f81r1n5 self f (i:Int) (A.length:Int) (A++x::(Z++R))=some (.exit2 (A++(Z++x::R)))
 | _,_,_,_,0,_,h,_,_=>absurd h (Nat.not_lt_zero _)
 | [],A,R,x,f+1,i,_,hi,hl=>by
  simp only [List.length_nil] at hi;rw [f81r1n5,wrIn (by omega) (by omega),decide_eq_false (by omega),cond_false]; rfl
 | z::Z,A,R,x,f+1,i,hf,hi,hl=>by
  simp only [List.length_cons] at hf hi;have e1:A++x::(z::Z++R)=(A++[x])++z::(Z++R):=by simp
  have e2:A++x::(z::Z++R)=A++x::(z::Z++R):=rfl;have e3:A++z::(z::Z++R)=(A++[z])++z::(Z++R):=by simp
  rw [f81r1n5,wrIn (n:=(i:Int)-1) (by omega) (by omega),decide_eq_true (by omega),cond_true,show wr64 ((A.length:Int)+1)=((A.length+1:Nat):Int) by rw [wrIn (by omega) (by omega)]; omega];rw [at_len e1 (by simp),at_len e2 rfl];simp only [Option.bind_some];rw [show (Int.toNat (A.length:Int))=A.length from rfl,show (Int.toNat ((A.length+1:Nat):Int))=A.length+1 from rfl,set_len (y:=z) e2 rfl,at_len e3 (by simp),set_len (y:=x) e3 (by simp)];simp only [Option.bind_some];have ih:=st_n5 Z (A++[z]) R x f i (by omega) (by simp<;>omega) hl;rw [List.length_append] at ih;simp only [List.length_cons,List.length_nil] at ih;rw [show A.length+1=A.length+(0+1) by omega,ih]
  simp
theorem st_n10:∀(n:Nat)(Z A R:List Qd)(x:Qd)(f:Nat),Z.length=n→n<f→A.length+n≤1000000→f81r1n10 self f (A.length:Int) ((A.length+n:Nat):Int) (A++(Z++x::R))=some (.exit6 (A++x::(Z++R)))
 | _,_,_,_,_,0,_,h,_=>absurd h (Nat.not_lt_zero _)
 | n,Z,A,R,x,f+1,hz,hf,hl=>by
  rcases List.eq_nil_or_concat Z with rfl | ⟨Z0,z,rfl⟩
  ·have:n=0:=by simpa using hz.symm
   subst this;rw [f81r1n10,decide_eq_false (by omega),cond_false]; rfl
  ·rw [List.concat_eq_append] at hz ⊢;have hz':n=Z0.length+1:=by simpa using hz.symm
   subst hz';have e1:A++((Z0++[z])++x::R)=(A++Z0)++z::(x::R):=by simp
   have e2:A++((Z0++[z])++x::R)=((A++Z0)++[z])++x::R:=by simp
   have e3:((A++Z0)++[z])++z::R=(A++Z0)++z::(z::R):=by simp
   rw [f81r1n10,decide_eq_true (by omega),cond_true,show wr64 (((A.length+(Z0.length+1):Nat):Int)-1)=((A.length+Z0.length:Nat):Int) by rw [wrIn (by omega) (by omega)]; omega];rw [at_len e1 (by simp),at_len e2 (by simp<;>omega)];simp only [Option.bind_some];rw [show (Int.toNat ((A.length+Z0.length:Nat):Int))=A.length+Z0.length from rfl,show (Int.toNat ((A.length+(Z0.length+1):Nat):Int))=A.length+(Z0.length+1) from rfl,set_len (y:=z) e2 (by simp<;>omega),at_len e3 (by simp),set_len (y:=x) e3 (by simp)];simp only [Option.bind_some];rw [show (A++Z0)++x::(z::R)=A++(Z0++x::(z::R)) by simp,st_n10 Z0.length Z0 A (z::R) x f rfl (by omega) (by omega)]
   simp
end
section
variable {c:Qd→Qd→Int} (hc:∀x y,f55 x y=some (c x y)) (o:SWo (Qx c)) (self:st_self)
include hc o
theorem st_one(P B S:List Qd)(x:Qd)(hb:Sd (Qx c) B)(hl:P.length+1+B.length+S.length≤500000) :
  f81r1n2 self (P.length:Int) ((P.length+1:Nat):Int) ((P.length+1+B.length:Nat):Int) (P++x::(B++S))=some (.ret (P++(Qbb (Qx c) (x::B)++S))):=by
 have e0:P++x::(B++S)=(P++[x])++(B++S):=by simp
 have hlen:(P++x::(B++S)).length=P.length+1+B.length+S.length:=by simp<;>omega
 have h3:=st_n3 hc self (l:=P++x::(B++S)) (a:=(P.length:Int)) (at_len rfl rfl) (by omega) FUEL (P.length+1) (P.length+1+B.length) (by omega) (by omega);obtain ⟨r,q1,q2,q3,q4,q5⟩:=bsN_ok (p:=pq (fun y=>decide (c y x<0)) (P++x::(B++S))) FUEL (P.length+1) (P.length+1+B.length) (by omega) (Qba (Nat.le_trans (by omega:P.length+1+B.length-(P.length+1)≤1000000) (by unfold maxLen; decide))) fun i j a1 a2 a3 a4=>by
  rw [e0] at a4 ⊢;exact pq_mono (X:=P++[x]) (B:=B) (R:=S) (hb.imp fun {u w} huw hq=>o.le_lt huw hq) i j (by simp<;>omega) a2 (by simp<;>omega) a4
 obtain ⟨B1,B2,rfl,hB1⟩:=cutL_ (l:=B) (n:=r-(P.length+1)) (by omega);simp only [List.length_append] at *;have hb':=List.pairwise_append.1 hb;have f1:∀y∈B1,decide (c y x<0)=true:=pq_seg (X:=P++[x]) (R:=B2++S) fun i a1 a2=>by
  have:=q4 i (by simp at a1; omega) (by simp at a2; omega);simpa using this
 have f2:∀y∈B2,decide (c y x<0)=false:=pq_seg (X:=P++[x]++B1) (R:=S) fun i a1 a2=>by
  have:=q5 i (by simp at a1; omega) (by simp at a2; omega);simpa using this
 unfold f81r1n2 f81r1n4;rw [show wr64 (((P.length+1:Nat):Int)-(P.length:Int))=1 by rw [wrIn (by omega) (by omega)]; omega,h3,q1];simp only [decide_true,cond_true,Option.map_some,Option.bind_some];have h5:=st_n5 self B1 P (B2++S) x FUEL r (Qba (Nat.le_trans (by omega:B1.length≤1000000) (by unfold maxLen; decide))) (by omega) (by omega);rw [show P++x::(B1++B2++S)=P++x::(B1++(B2++S)) by simp,h5];simp only [Option.bind_some];have hS:B1++x::B2=Qbb (Qx c) (x::(B1++B2)):=by
  refine sortS_of o ?_ ?_
  ·refine Sd.app hb'.1 (List.pairwise_cons.2 ⟨fun y hy=>f2 y hy,hb'.2.1⟩) fun u hu w hw=>?_;rcases List.mem_cons.1 hw with rfl | hw
   ·exact o.asym (f1 u hu)
   ·exact hb'.2.2 u hu w hw
  ·have:=(Cl.swap (lt:=Qx c) (u:=[x]) (v:=B1) o (fun a ha b hb=>by rw [List.mem_singleton.1 ha]; exact f1 b hb)).app (Cl.refl (lt:=Qx c) B2);simpa using this
 rw [←hS]; simp
theorem st_last(P A S:List Qd)(y:Qd)(ha:Sd (Qx c) A)(hl:P.length+A.length+1+S.length≤500000) :
  f81r1n7 self (P.length:Int) ((P.length+A.length:Nat):Int) ((P.length+A.length+1:Nat):Int) (P++(A++y::S))=some (.ret (P++(Qbb (Qx c) (A++[y])++S))):=by
 have hlen:(P++(A++y::S)).length=P.length+A.length+1+S.length:=by simp<;>omega
 have h3:=st_n8 hc self (l:=P++(A++y::S)) (x:=y) (a:=((P.length+A.length:Nat):Int)) (at_len (a:=P++A) (b:=S) (by simp) (by simp)) (by omega) FUEL P.length (P.length+A.length) (by omega) (by omega);obtain ⟨r,q1,q2,q3,q4,q5⟩:=bsN_ok (p:=pq (fun z=>!decide (c y z<0)) (P++(A++y::S))) FUEL P.length (P.length+A.length) (by omega) (Qba (Nat.le_trans (by omega:P.length+A.length-P.length≤1000000) (by unfold maxLen; decide))) fun i j a1 a2 a3 a4=>by
  refine pq_mono (X:=P) (B:=A) (R:=y::S) (ha.imp fun {u w} huw hq=>?_) i j a1 a2 a3 a4;simp only [Bool.not_eq_true'] at hq ⊢;exact o.nt hq huw
 obtain ⟨A1,A2,rfl,hA1⟩:=cutL_ (l:=A) (n:=r-P.length) (by omega);simp only [List.length_append] at *;have ha':=List.pairwise_append.1 ha;have f1:∀z∈A1,(!decide (c y z<0))=true:=pq_seg (X:=P) (R:=A2++y::S) fun i a1 a2=>by
  have:=q4 i a1 (by omega);simpa using this
 have f2:∀z∈A2,(!decide (c y z<0))=false:=pq_seg (X:=P++A1) (R:=y::S) fun i a1 a2=>by
  have:=q5 i (by simp at a1; omega) (by simp at a2; omega);simpa using this
 unfold f81r1n7 f81r1n9;rw [show wr64 (((P.length+(A1.length+A2.length)+1:Nat):Int)-((P.length+(A1.length+A2.length):Nat):Int))=1 by rw [wrIn (by omega) (by omega)]; omega,h3,q1];simp only [decide_true,cond_true,Option.map_some,Option.bind_some];have h5:=st_n10 self A2.length A2 (P++A1) S y FUEL rfl (Qba (Nat.le_trans (by omega:A2.length≤1000000) (by unfold maxLen; decide))) (by simp<;>omega);rw [List.length_append] at h5;rw [show P++(A1++A2++y::S)=(P++A1)++(A2++y::S) by simp,show P.length+(A1.length+A2.length)=P.length+A1.length+A2.length by omega,show r=P.length+A1.length by omega,h5];simp only [Option.bind_some];have hS:A1++y::A2=Qbb (Qx c) ((A1++A2)++[y]):=by
  refine sortS_of o ?_ ?_
  ·refine Sd.app ha'.1 (List.pairwise_cons.2 ⟨fun z hz=>?_,ha'.2.1⟩) fun u hu w hw=>?_
   ·have:=f2 z hz;simp only [Bool.not_eq_false'] at this;exact o.asym this
   ·rcases List.mem_cons.1 hw with rfl | hw
    ·have:=f1 u hu;simpa using this
    ·exact ha'.2.2 u hu w hw
  ·have:=(Cl.refl (lt:=Qx c) A1).app (Cl.swap (lt:=Qx c) (u:=A2) (v:=[y]) o (fun a ha b hb=>by
    rw [List.mem_singleton.1 hb];have:=f2 a ha;simpa using this))
   simpa using this
 rw [←hS]; simp
end
end Go.Proofs.Ythpceddjepbamaa
namespace Go.Proofs.Ythpceddjepbamaa
set_option linter.unusedVariables false
set_option linter.unusedSimpArgs false
open Go.RowKit
section
variable {c:Qd→Qd→Int} (hc:∀x y,f55 x y=some (c x y)) (o:SWo (Qx c))
theorem st_sdg{l:List Qd}(h:Sd (Qx c) l){i j:Nat}{x y:Qd}(hij:i≤j)(hx:l[i]?=some x)(hy:l[j]?=some y)(o:SWo (Qx c)):decide (c y x<0)=false:=by
 rcases Nat.lt_or_ge i j with hlt | hge
 ·obtain ⟨h1,rfl⟩:=List.getElem?_eq_some_iff.1 hx;obtain ⟨h2,rfl⟩:=List.getElem?_eq_some_iff.1 hy;exact List.pairwise_iff_getElem.1 h i j h1 h2 hlt
 ·have:i=j:=by omega
  subst this;rw [hx] at hy; obtain rfl:=Option.some.inj hy;exact o.irr x
include hc o in
theorem st_round(self:st_self)(K:Nat) (hs:∀(P A B S:List Qd),0<A.length→0<B.length→A.length+B.length≤K→Sd (Qx c) A→Sd (Qx c) B→P.length+A.length+B.length+S.length≤500000 →
   self (P.length:Int) ((P.length+A.length:Nat):Int) ((P.length+A.length+B.length:Nat):Int) (P++(A++(B++S)))=some (P++(Qbb (Qx c) (A++B)++S)))
  (P A B S:List Qd) (ha0:1<A.length) (hb0:1<B.length) (hK:A.length+B.length≤2*K) (ha:Sd (Qx c) A) (hb:Sd (Qx c) B) (hl:P.length+A.length+B.length+S.length≤500000) :
  f81r1n0 self (P.length:Int) ((P.length+A.length:Nat):Int) ((P.length+A.length+B.length:Nat):Int) (P++(A++(B++S)))=some (.norm (P++(Qbb (Qx c) (A++B)++S))):=by
 have hlen:(P++(A++(B++S))).length=P.length+A.length+B.length+S.length:=by simp<;>omega
 -- the numbers
 obtain ⟨a,ea⟩:∃a,a=P.length:=⟨_,rfl⟩;obtain ⟨m,em⟩:∃m,m=P.length+A.length:=⟨_,rfl⟩;obtain ⟨b,eb⟩:∃b,b=P.length+A.length+B.length:=⟨_,rfl⟩;obtain ⟨mid,emid⟩:∃mid,mid=(a+b) / 2:=⟨_,rfl⟩;obtain ⟨s0,r0,e11,hs0,hr0,hrm,hrmid,hsb,hsa,hse,hre⟩:∃s0 r0:Nat,f81r1n11 self (a:Int) (m:Int) (b:Int) (P++(A++(B++S)))=some (.norm (s0:Int) (r0:Int))∧a≤s0∧s0≤r0∧r0≤m∧r0≤mid∧mid+m≤b+s0∧s0≤m∧(s0=a∨mid+m=b+s0)∧(r0=m∨r0=mid):=by
  unfold f81r1n11;rw [st_half (by omega),←emid]
  by_cases h:mid<m
  ·rw [decide_eq_true (by omega),cond_true];refine ⟨mid+m-b,mid,?_,by omega,by omega,by omega,by omega,by omega,by omega,by omega,by omega⟩;rw [wrIn (n:=(mid:Int)+(m:Int)) (by omega) (by omega),wrIn (by omega) (by omega)]
   congr 2; omega
  ·rw [decide_eq_false (by omega),cond_false];exact ⟨a,m,rfl,by omega,by omega,by omega,by omega,by omega,by omega,by omega,by omega⟩
 -- where to cut
 have gA:∀i,a≤i→i<m→(P++(A++(B++S)))[i]?=A[i-a]?:=fun i h1 h2=>by rw [get_seg (by omega) (by omega),ea]
 have gB:∀i,m≤i→i<b→(P++(A++(B++S)))[i]?=B[i-m]?:=fun i h1 h2=>by
  rw [show P++(A++(B++S))=(P++A)++(B++S) by simp,get_seg (by simp<;>omega) (by simp<;>omega),List.length_append,em]
 have h12:=st_n12 hc self (l:=P++(A++(B++S))) (a:=a) (m:=m) (b:=b) (by omega) (by omega) (by omega) (by omega) FUEL s0 r0 (fun h h1 h2=>⟨by omega,by omega,by omega⟩) (by omega) (by omega);rw [←emid] at h12;obtain ⟨s,q1,q2,q3,q4,q5⟩:=bsN_ok (p:=st_pr c (P++(A++(B++S))) (mid+m)) FUEL s0 r0 hr0 (Qba (Nat.le_trans (by omega:r0-s0≤1000000) (by unfold maxLen; decide))) fun i j a1 a2 a3 a4=>by
  unfold st_pr at a4 ⊢;have iA:i-a<A.length:=by omega
  have jA:j-a<A.length:=by omega
  have iB:mid+m-1-i-m<B.length:=by omega
  have jB:mid+m-1-j-m<B.length:=by omega
  rw [gA j (by omega) (by omega),gB (mid+m-1-j) (by omega) (by omega),List.getElem?_eq_getElem jA,List.getElem?_eq_getElem jB] at a4;rw [gA i (by omega) (by omega),gB (mid+m-1-i) (by omega) (by omega),List.getElem?_eq_getElem iA,List.getElem?_eq_getElem iB];simp only [Bool.not_eq_true'] at a4 ⊢;have k1:=st_sdg ha (i:=i-a) (j:=j-a) (by omega) (List.getElem?_eq_getElem iA) (List.getElem?_eq_getElem jA) o;have k2:=st_sdg hb (i:=mid+m-1-j-m) (j:=mid+m-1-i-m) (by omega) (List.getElem?_eq_getElem jB) (List.getElem?_eq_getElem iB) o;exact o.nt (o.nt k2 a4) k1
 obtain ⟨A1,A2,eA,hA1⟩:=cutL_ (l:=A) (n:=s-a) (by omega);obtain ⟨B1,B2,eB,hB1⟩:=cutL_ (l:=B) (n:=mid-s) (by omega);have lA:A.length=A1.length+A2.length:=by rw [eA]; simp
 have lB:B.length=B1.length+B2.length:=by rw [eB]; simp
 have h1:∀x∈A1,∀y∈B2,decide (c y x<0)=false:=by
  rcases List.eq_nil_or_concat A1 with e | ⟨A0,u,e⟩
  ·rw [e]; simp
  ·cases hB2:B2 with
   | nil=>simp
   | cons v B3 =>
    rw [List.concat_eq_append] at e;have l1:A1.length=A0.length+1:=by rw [e]; simp
    have l2:B2.length=B3.length+1:=by rw [hB2]; simp
    have hp:=q4 (s-1) (by omega) (by omega);unfold st_pr at hp;rw [gA (s-1) (by omega) (by omega),gB (mid+m-1-(s-1)) (by omega) (by omega)] at hp;rw [get_len (l:=A) (k:=s-1-a) (x:=u) (a:=A0) (b:=A2) (by rw [eA,e]; simp) (by omega),get_len (l:=B) (k:=mid+m-1-(s-1)-m) (x:=v) (a:=B1) (b:=B3) (by rw [eB,hB2]) (by omega)] at hp;simp only [Bool.not_eq_true'] at hp;intro x hx y hy;have hx':decide (c u x<0)=false:=by
     rw [e] at hx;have hsA:=List.pairwise_append.1 (by rw [eA,e] at ha; exact (List.pairwise_append.1 ha).1:Sd (Qx c) (A0++[u]));rcases List.mem_append.1 hx with hx | hx
     ·exact hsA.2.2 x hx u (by simp)
     ·rw [List.mem_singleton.1 hx]; exact o.irr u
    have hy':decide (c y v<0)=false:=by
     have hsB:=List.pairwise_cons.1 (by rw [eB,hB2] at hb; exact (List.pairwise_append.1 hb).2.1:Sd (Qx c) (v::B3));rcases List.mem_cons.1 hy with rfl | hy
     ·exact o.irr _
     ·exact hsB.1 y hy
    exact o.nt (o.nt hy' hp) hx'
 have h2:∀x∈A2,∀y∈B1,decide (c y x<0)=true:=by
  rcases List.eq_nil_or_concat B1 with e | ⟨B0,v,e⟩
  ·rw [e]; simp
  ·cases hA2:A2 with
   | nil=>simp
   | cons u A3 =>
    rw [List.concat_eq_append] at e;have l1:B1.length=B0.length+1:=by rw [e]; simp
    have l2:A2.length=A3.length+1:=by rw [hA2]; simp
    have hp:=q5 s (by omega) (by omega);unfold st_pr at hp;rw [gA s (by omega) (by omega),gB (mid+m-1-s) (by omega) (by omega)] at hp;rw [get_len (l:=A) (k:=s-a) (x:=u) (a:=A1) (b:=A3) (by rw [eA,hA2]) (by omega),get_len (l:=B) (k:=mid+m-1-s-m) (x:=v) (a:=B0) (b:=B2) (by rw [eB,e]; simp) (by omega)] at hp;simp only [Bool.not_eq_false'] at hp;intro x hx y hy;have hx':decide (c x u<0)=false:=by
     have hsA:=List.pairwise_cons.1 (by rw [eA,hA2] at ha; exact (List.pairwise_append.1 ha).2.1:Sd (Qx c) (u::A3));rcases List.mem_cons.1 hx with rfl | hx
     ·exact o.irr _
     ·exact hsA.1 x hx
    have hy':decide (c v y<0)=false:=by
     rw [e] at hy;have hsB:=List.pairwise_append.1 (by rw [eB,e] at hb; exact (List.pairwise_append.1 hb).1:Sd (Qx c) (B0++[v]));rcases List.mem_append.1 hy with hy | hy
     ·exact hsB.2.2 y hy v (by simp)
     ·rw [List.mem_singleton.1 hy]; exact o.irr v
    exact o.lt_le (o.le_lt hy' hp) hx'
 have hcut:=merge_cut o (a1:=A1) (a2:=A2) (b1:=B1) (b2:=B2) (by rw [←eA]; exact ha) (by rw [←eB]; exact hb) h1 h2;rw [←eA,←eB] at hcut;have sA:=List.pairwise_append.1 (by rw [←eA]; exact ha:Sd (Qx c) (A1++A2));have sB:=List.pairwise_append.1 (by rw [←eB]; exact hb:Sd (Qx c) (B1++B2))
 -- the rotation
 have e_end:wr64 (wr64 ((mid:Int)+(m:Int))-(s:Int))=((mid+m-s:Nat):Int):=by rw [wrIn (n:=(mid:Int)+(m:Int)) (by omega) (by omega),wrIn (by omega) (by omega)]; omega
 have h13:f81r1n13 self (a:Int) (m:Int) (b:Int) (s:Int) (P++(A++(B++S)))=some (.norm (P++((A1++B1)++((A2++B2)++S)))):=by
  unfold f81r1n13 f81r1n14;rw [st_half (by omega),←emid,e_end]
  by_cases c1:s<m
  ·by_cases c2:m<mid+m-s
   ·rw [decide_eq_true (by omega:(s:Int)<(m:Int)),decide_eq_true (by omega:(m:Int)<((mid+m-s:Nat):Int))];simp only [cond_true,Option.bind_some];have k:=st_rot_ok (P++A1) A2 B1 (B2++S) (a:=s) (m:=m) (b:=mid+m-s) (by simp<;>omega) (by simp<;>omega) (by simp<;>omega) (by omega) (by omega) (by simp<;>omega);rw [show P++(A++(B++S))=(P++A1)++(A2++(B1++(B2++S))) by rw [eA,eB]; simp,k]
    simp
   ·rw [decide_eq_true (by omega:(s:Int)<(m:Int)),decide_eq_false (by omega:¬(m:Int)<((mid+m-s:Nat):Int))];have:B1=[]:=List.eq_nil_of_length_eq_zero (by omega);simp only [cond_true,cond_false,Option.bind_some];rw [eA,eB,this]; simp
  ·rw [decide_eq_false (by omega:¬(s:Int)<(m:Int))];have:A2=[]:=List.eq_nil_of_length_eq_zero (by omega);simp only [cond_false,Option.bind_some];rw [eA,eB,this]; simp
 -- the left half
 have h15:f81r1n15 self (a:Int) (b:Int) (s:Int) (m:Int) (P++((A1++B1)++((A2++B2)++S)))=some (.norm (P++(Qbb (Qx c) (A1++B1)++((A2++B2)++S)))):=by
  unfold f81r1n15 f81r1n16;rw [st_half (by omega),←emid]
  by_cases c1:a<s
  ·by_cases c2:s<mid
   ·rw [decide_eq_true (by omega:(a:Int)<(s:Int)),decide_eq_true (by omega:(s:Int)<(mid:Int))];simp only [cond_true,Option.bind_some];have k:=hs P A1 B1 ((A2++B2)++S) (by omega) (by omega) (by omega) sA.1 sB.1 (by simp<;>omega);rw [show P.length=a by omega,show a+A1.length=s by omega,show s+B1.length=mid by omega] at k;rw [show P++((A1++B1)++((A2++B2)++S))=P++(A1++(B1++((A2++B2)++S))) by simp,k];rfl
   ·rw [decide_eq_true (by omega:(a:Int)<(s:Int)),decide_eq_false (by omega:¬(s:Int)<(mid:Int))];have:B1=[]:=List.eq_nil_of_length_eq_zero (by omega);simp only [cond_true,cond_false,Option.bind_some];rw [this,List.append_nil,←sortS_of o sA.1 (Cl.refl _)]
  ·rw [decide_eq_false (by omega:¬(a:Int)<(s:Int))];have:A1=[]:=List.eq_nil_of_length_eq_zero (by omega);simp only [cond_false,Option.bind_some];rw [this,List.nil_append,←sortS_of o sB.1 (Cl.refl _)]
 have lS1:(Qbb (Qx c) (A1++B1)).length=A1.length+B1.length:=by rw [sortS_len o]; simp
 -- the right half
 have hfin:f81r1n17 self (b:Int) (a:Int) (m:Int) (s:Int) (P++(Qbb (Qx c) (A1++B1)++((A2++B2)++S)))=some (.norm (decide (mid<mid+m-s)&&decide (mid+m-s<b))):=by
  unfold f81r1n17;rw [st_half (by omega),←emid,e_end]
  by_cases c1:mid<mid+m-s
  ·rw [decide_eq_true (by omega:(mid:Int)<((mid+m-s:Nat):Int)),decide_eq_true c1];simp only [cond_true,Bool.true_and]
   congr 2
   exact decide_eq_decide.2 (by omega)
  ·rw [decide_eq_false (by omega:¬(mid:Int)<((mid+m-s:Nat):Int)),decide_eq_false c1]; rfl
 have n1:f81r1n1 self (a:Int) (m:Int) (b:Int) (P++(A++(B++S)))=some .norm:=by
  unfold f81r1n1 f81r1n2;rw [wrIn (n:=(m:Int)-(a:Int)) (by omega) (by omega),decide_eq_false (by omega)]; rfl
 have n6:f81r1n6 self (a:Int) (m:Int) (b:Int) (P++(A++(B++S)))=some .norm:=by
  unfold f81r1n6 f81r1n7;rw [wrIn (n:=(b:Int)-(m:Int)) (by omega) (by omega),decide_eq_false (by omega)]; rfl
 unfold f81r1n0;rw [←ea,show a+A.length=m by omega,show m+B.length=b by omega,n1];simp only [Option.bind_some,n6,e11,h12,q1,Option.map_some,h13,h15,hfin];rw [st_half (by omega),←emid,e_end,hcut]
 by_cases c3:mid<mid+m-s∧mid+m-s<b
 ·rw [decide_eq_true c3.1,decide_eq_true c3.2];simp only [Bool.and_self,cond_true];have k:=hs (P++Qbb (Qx c) (A1++B1)) A2 B2 S (by omega) (by omega) (by omega) sA.2.1 sB.2.1 (by simp [lS1]<;>omega);rw [List.length_append,lS1,show P.length+(A1.length+B1.length)=mid by omega,show mid+A2.length=mid+m-s by omega,show mid+m-s+B2.length=b by omega] at k;rw [show P++(Qbb (Qx c) (A1++B1)++((A2++B2)++S))=(P++Qbb (Qx c) (A1++B1))++(A2++(B2++S)) by simp,k]
  simp
 ·have e1:(decide (mid<mid+m-s)&&decide (mid+m-s<b))=false:=by
   rw [Bool.and_eq_false_iff,decide_eq_false_iff_not,decide_eq_false_iff_not];omega
  rw [e1];have:Qbb (Qx c) (A2++B2)=A2++B2:=by
   rcases (by omega:A2.length=0∨B2.length=0) with h | h
   ·rw [List.eq_nil_of_length_eq_zero h,List.nil_append,←sortS_of o sB.2.1 (Cl.refl _)]
   ·rw [List.eq_nil_of_length_eq_zero h,List.append_nil,←sortS_of o sA.2.1 (Cl.refl _)]
  rw [this]
  simp
include hc o in
theorem st_sym_ok:∀(k:Nat)(P A B S:List Qd),0<A.length→0<B.length→A.length+B.length≤2 ^ k→Sd (Qx c) A→Sd (Qx c) B→P.length+A.length+B.length+S.length≤500000 →
  f81r1F k (P.length:Int) ((P.length+A.length:Nat):Int) ((P.length+A.length+B.length:Nat):Int) (P++(A++(B++S)))=some (P++(Qbb (Qx c) (A++B)++S))
 | 0,P,A,B,S,h1,h2,h3,_,_,_=>by simp at h3; omega
 | k+1,P,A,B,S,h1,h2,h3,ha,hb,hl=>by
  rw [f81r1F]
  by_cases hA:A.length=1
  ·obtain ⟨x,rfl⟩:=List.length_eq_one_iff.1 hA;have:=st_one hc o (f81r1F k) P B S x hb (by simp at hl; omega);unfold f81r1n0 f81r1n1;simp only [List.length_cons,List.length_nil,List.cons_append,List.nil_append] at this ⊢;rw [this]; rfl
  ·by_cases hB:B.length=1
   ·obtain ⟨y,rfl⟩:=List.length_eq_one_iff.1 hB;have:=st_last hc o (f81r1F k) P A S y ha (by simp at hl; omega);have n1:f81r1n1 (f81r1F k) (P.length:Int) ((P.length+A.length:Nat):Int) ((P.length+A.length+1:Nat):Int) (P++(A++y::S))=some .norm:=by
     unfold f81r1n1 f81r1n2;rw [wrIn (n:=((P.length+A.length:Nat):Int)-(P.length:Int)) (by omega) (by simp at hl; omega),decide_eq_false (by omega)]; rfl
    unfold f81r1n0 f81r1n6;simp only [List.length_cons,List.length_nil,List.cons_append,List.nil_append] at this ⊢;rw [n1];simp only [Option.bind_some];rw [this]; rfl
   ·rw [st_round hc o (f81r1F k) (2 ^ k) (fun P A B S a1 a2 a3 a4 a5 a6=>st_sym_ok k P A B S a1 a2 a3 a4 a5 a6) P A B S (by omega) (by omega) (by rw [Nat.pow_succ] at h3; omega) ha hb hl];rfl
include hc o in
theorem st_mrg(P A B S:List Qd)(h1:0<A.length)(h2:0<B.length)(ha:Sd (Qx c) A)(hb:Sd (Qx c) B)(hl:P.length+A.length+B.length+S.length≤500000) :
  f81r1 (P.length:Int) ((P.length+A.length:Nat):Int) ((P.length+A.length+B.length:Nat):Int) (P++(A++(B++S)))=some (P++(Qbb (Qx c) (A++B)++S)) :=
 st_sym_ok hc o 200 P A B S h1 h2 (Nat.le_trans (by omega:A.length+B.length≤500000) (by decide)) ha hb hl
end
end Go.Proofs.Ythpceddjepbamaa
namespace Go.Proofs.Ythpceddjepbamaa
set_option linter.unusedVariables false
set_option linter.unusedSimpArgs false
open Go.RowKit
section
variable {c:Qd→Qd→Int} (hc:∀x y,f55 x y=some (c x y)) (o:SWo (Qx c))
include hc o
theorem st_blocks:∀(f:Nat)(D R:List Qd),R.length<f→D.length+R.length≤500000→D.length % 20=0→Bl (Qx c) 20 D →
  ∃D' R',f68r1n1 f ((D.length+R.length:Nat):Int) (D.length:Int) ((D.length+20:Nat):Int) (D++R)=some (.exit0 (D'.length:Int) (D'++R'))∧D'.length % 20=0∧Bl (Qx c) 20 D'∧R'.length<20∧Cl (Qx c) (D++R) (D'++R')∧D'.length+R'.length=D.length+R.length
 | 0,_,_,h,_,_,_=>absurd h (Nat.not_lt_zero _)
 | f+1,D,R,hf,hl,hm,hD=>by
  rw [f68r1n1]
  by_cases h:20≤R.length
  ·obtain ⟨X,R1,rfl,hX⟩:=cutL_ (l:=R) (n:=20) h;simp only [List.length_append] at *;have k:=st_ins_ok hc o D X R1 (by omega);rw [hX] at k;have lS:(Qbb (Qx c) X).length=20:=by rw [sortS_len o,hX]
   rw [decide_eq_true (by omega:((D.length+20:Nat):Int)≤((D.length+(X.length+R1.length):Nat):Int)),cond_true,show D++(X++R1)=D++(X++R1) from rfl,k];simp only [Option.bind_some];obtain ⟨D',R',q1,q2,q3,q4,q5,q6⟩:=st_blocks f (D++Qbb (Qx c) X) R1 (by omega) (by simp<;>omega) (by simp<;>omega) (hD.snoc hm (by decide) (sortS_sd o X) (by omega));rw [List.length_append,lS] at q1 q6;refine ⟨D',R',?_,q2,q3,q4,?_,by omega⟩
   ·rw [show wr64 (((D.length+20:Nat):Int)+20)=((D.length+20+20:Nat):Int) by rw [wrIn (by omega) (by omega)]; omega,show D++(Qbb (Qx c) X++R1)=(D++Qbb (Qx c) X)++R1 by simp,show D.length+(X.length+R1.length)=D.length+20+R1.length by omega];exact q1
   ·have:=(((Cl.refl (lt:=Qx c) D).app (Qbm o X)).app (Cl.refl (lt:=Qx c) R1)).trans q5;simpa using this
  ·rw [decide_eq_false (by omega:¬((D.length+20:Nat):Int)≤((D.length+R.length:Nat):Int)),cond_false];exact ⟨D,R,rfl,hm,hD,by omega,Cl.refl _,rfl⟩
theorem st_pairs(s:Nat)(hs:0<s)(hs1:s≤1000000):∀(f:Nat)(D R:List Qd),R.length<f→D.length+R.length≤500000→D.length % (2*s)=0→Bl (Qx c) (2*s) D→Bl (Qx c) s R →
  ∃D' R',f68r1n3 f ((D.length+R.length:Nat):Int) (s:Int) (D.length:Int) ((D.length+2*s:Nat):Int) (D++R)=some (.exit4 (D'.length:Int) (D'++R'))∧D'.length % (2*s)=0∧Bl (Qx c) (2*s) D'∧Bl (Qx c) s R'∧R'.length<2*s∧Cl (Qx c) (D++R) (D'++R')∧D'.length+R'.length=D.length+R.length
 | 0,_,_,h,_,_,_,_=>absurd h (Nat.not_lt_zero _)
 | f+1,D,R,hf,hl,hm,hD,hR=>by
  rw [f68r1n3]
  by_cases h:2*s≤R.length
  ·obtain ⟨X,R1,rfl,hX,sX,hR1⟩:=hR.uncons (by omega);simp only [List.length_append] at *;obtain ⟨Y,R2,rfl,hY,sY,hR2⟩:=hR1.uncons (by omega);simp only [List.length_append] at *;have k:=st_mrg hc o D X Y R2 (by omega) (by omega) sX sY (by omega);rw [hX,hY] at k;have lS:(Qbb (Qx c) (X++Y)).length=2*s:=by rw [sortS_len o,List.length_append]; omega
   rw [decide_eq_true (by omega:((D.length+2*s:Nat):Int)≤((D.length+(X.length+(Y.length+R2.length)):Nat):Int)),cond_true,show wr64 ((D.length:Int)+(s:Int))=((D.length+s:Nat):Int) by rw [wrIn (by omega) (by omega)]; omega,show D.length+2*s=D.length+s+s by omega,k];simp only [Option.bind_some];obtain ⟨D',R',q1,q2,q3,q4,q5,q6,q7⟩:=st_pairs s hs hs1 f (D++Qbb (Qx c) (X++Y)) R2 (by omega) (by simp [lS]<;>omega) (by rw [List.length_append,lS,Nat.add_mod_right]; exact hm) (hD.snoc hm (by omega) (sortS_sd o _) (by omega)) hR2;rw [List.length_append,lS] at q1 q7;refine ⟨D',R',?_,q2,q3,q4,q5,?_,by omega⟩
   ·rw [show wr64 ((2:Int)*(s:Int))=((2*s:Nat):Int) by rw [wrIn (by omega) (by omega)]; omega,show wr64 (((D.length+s+s:Nat):Int)+((2*s:Nat):Int))=((D.length+2*s+2*s:Nat):Int) by rw [wrIn (by omega) (by omega)]; omega,show D.length+s+s=D.length+2*s by omega,show D++(Qbb (Qx c) (X++Y)++R2)=(D++Qbb (Qx c) (X++Y))++R2 by simp,show D.length+(X.length+(Y.length+R2.length))=D.length+2*s+R2.length by omega];exact q1
   ·have:=(((Cl.refl (lt:=Qx c) D).app (Qbm o (X++Y))).app (Cl.refl (lt:=Qx c) R2)).trans q6;simpa using this
  ·rw [decide_eq_false (by omega:¬((D.length+2*s:Nat):Int)≤((D.length+R.length:Nat):Int)),cond_false];exact ⟨D,R,rfl,hm,hD,hR,by omega,Cl.refl _,rfl⟩
theorem st_pass(s:Nat)(hs:0<s)(hs1:s≤1000000)(l:List Qd)(hl:l.length≤500000)(hb:Bl (Qx c) s l):∃l',f68r1n2 (l.length:Int) (s:Int) l=some (.norm l')∧Bl (Qx c) (2*s) l'∧Cl (Qx c) l l':=by
 obtain ⟨D,R,q1,q2,q3,q4,q5,q6,q7⟩:=st_pairs hc o s hs hs1 FUEL [] l (Qba (Nat.le_trans (by omega:l.length≤1000000) (by unfold maxLen; decide))) (by simpa using hl) (by simp) (.last List.Pairwise.nil (by simp)) hb;simp only [List.length_nil,Nat.zero_add,List.nil_append] at q1 q6 q7;unfold f68r1n2;rw [show wr64 ((2:Int)*(s:Int))=((2*s:Nat):Int) by rw [wrIn (by omega) (by omega)]; omega,show (0:Int)=((0:Nat):Int) from rfl,q1];simp only [Option.bind_some];rw [show wr64 ((D.length:Int)+(s:Int))=((D.length+s:Nat):Int) by rw [wrIn (by omega) (by omega)]; omega]
 by_cases h:D.length+s<l.length
 ·obtain ⟨X,Y,rfl,hX,sX,hY⟩:=q4.uncons (by omega);simp only [List.length_append] at *;have sY:=hY.whole (by omega) hs;have k:=st_mrg hc o D X Y [] (by omega) (by omega) sX sY (by simp<;>omega);rw [hX] at k;rw [decide_eq_true (by omega),cond_true,show l.length=D.length+s+Y.length by omega,show D++(X++Y)=D++(X++(Y++[])) by simp,k];refine ⟨_,rfl,?_,?_⟩
  ·rw [List.append_nil];exact q3.snoc q2 (by omega) (sortS_sd o _) (by rw [sortS_len o,List.length_append]; omega)
  ·rw [List.append_nil];exact q6.trans ((Cl.refl _).app (Qbm o _))
 ·rw [decide_eq_false (by omega),cond_false];exact ⟨_,rfl,q3.snoc q2 (by omega) (q4.whole (by omega) hs) (by omega),q6⟩
theorem st_passes:∀(n f s:Nat)(l:List Qd),l.length-s≤n→n<f→0<s→s≤1000000→l.length≤500000→Bl (Qx c) s l→∃l',f68r1n4 f (l.length:Int) (s:Int) l=some (.exit2 l')∧Sd (Qx c) l'∧Cl (Qx c) l l'
 | _,0,_,_,_,h,_,_,_,_=>absurd h (Nat.not_lt_zero _)
 | n,f+1,s,l,hn,hf,hs,hs1,hl,hb=>by
  rw [f68r1n4]
  by_cases h:s<l.length
  ·obtain ⟨l1,k1,k2,k3⟩:=st_pass hc o s hs hs1 l hl hb;have hlen:=k3.len;obtain ⟨l',q1,q2,q3⟩:=st_passes (n-1) f (2*s) l1 (by omega) (by omega) (by omega) (by omega) (by omega) k2;rw [decide_eq_true (by omega),cond_true,k1];simp only [Option.bind_some];rw [show wr64 ((s:Int)*2)=((2*s:Nat):Int) by rw [wrIn (by omega) (by omega)]; omega,←hlen,q1];exact ⟨l',rfl,q2,k3.trans q3⟩
  ·rw [decide_eq_false (by omega),cond_false];exact ⟨l,rfl,hb.whole (by omega) hs,Cl.refl _⟩
theorem st_sorted(l:List Qd)(hl:l.length≤500000):f54r1 l=some (Qbb (Qx c) l):=by
 obtain ⟨D,R,q1,q2,q3,q4,q5,q6⟩:=st_blocks hc o FUEL [] l (Qba (Nat.le_trans (by omega:l.length≤1000000) (by unfold maxLen; decide))) (by simpa using hl) (by simp) (.last List.Pairwise.nil (by simp));simp only [List.length_nil,Nat.zero_add,List.nil_append] at q1 q5 q6;have k:=st_ins_ok hc o D R [] (by omega);simp only [List.append_nil] at k;rw [q6] at k;have hb:Bl (Qx c) 20 (D++Qbb (Qx c) R):=q3.snoc q2 (by decide) (sortS_sd o R) (by rw [sortS_len o]; omega);have hcl:Cl (Qx c) l (D++Qbb (Qx c) R):=q5.trans ((Cl.refl _).app (Qbm o R));have hlen:=hcl.len;obtain ⟨l',k1,k2,k3⟩:=st_passes hc o (D++Qbb (Qx c) R).length FUEL 20 (D++Qbb (Qx c) R) (by omega) (Qba (Nat.le_trans (by omega:(D++Qbb (Qx c) R).length≤1000000) (by unfold maxLen; decide))) (by decide) (by decide) (by omega) hb;have e:f68r1 (l.length:Int) l=some l':=by
  unfold f68r1 f68r1n0;rw [show (0:Int)=((0:Nat):Int) from rfl,show (20:Int)=((20:Nat):Int) from rfl,q1];simp only [Option.bind_some,k];rw [←hlen,k1]; rfl
 unfold f54r1 f54r1n0;rw [e];simp only [Option.bind_some];rw [sortS_of o k2 (hcl.trans k3)]
end
end Go.Proofs.Ythpceddjepbamaa
namespace Go.Proofs.Ythpceddjepbamaa
set_option linter.unusedVariables false
set_option linter.unusedSimpArgs false
open Go.RowKit
abbrev AA:=Qe
abbrev AL:=Qa
abbrev AB:=Qb
abbrev AW:=Qc
abbrev SH:=Qd

theorem f67_eq(c:Int):f67 c=some (ltrI c):=by
 unfold f67 f67n0 ltrI;cases decide (97≤c)<;>cases decide (c≤122)<;>cases decide (65≤c)<;>cases decide (c≤90)<;>rfl
theorem f50n2_eq{s:ByteArray}{k:Int}{b:UInt8}(h:at? s.data.toList k=some b):f50n2 s k=some (bif chB b then .norm else .ret):=by
 have h3:f50n3 s b k=some (.norm (!(chB b))):=by
  unfold f50n3 chB othI;rw [f67_eq,ltNot,ltNot];simp only [Option.bind_some];cases ltrI b.toNat<;>cases decide ((48:Int)≤(b.toNat:Int))<;>cases decide ((b.toNat:Int)≤57)<;>cases decide ((b.toNat:Int)=95)<;>cases decide ((b.toNat:Int)=45)<;>rfl
 unfold f50n2;rw [h];simp only [Option.bind_some,h3];cases chB b<;>rfl
theorem f50n4_at(s:ByteArray)(hs:s.data.toList.length≤1000):∀(r:List UInt8)(f k:Nat),s.data.toList.drop k=r→r.length<f→f50n4 f s (k:Int)=some (bif r.all chB then .exit0 else .ret)
 | _,0,_,_,h=>absurd h (Nat.not_lt_zero _)
 | [],f+1,k,hd,_=>by
  have:=Qay hd;rw [f50n4,sizeList,decide_eq_false (by omega),cond_false]; rfl
 | b::r,f+1,k,hd,hf=>by
  obtain ⟨h1,h2,h3⟩:=dropAt hd;rw [f50n4,sizeList,decide_eq_true (by omega),cond_true,f50n2_eq h1,List.all_cons];cases chB b with
  | false=>rfl
  | true =>
   simp only [cond_true,Option.bind_some,Bool.true_and];rw [wrSucc (by omega)];exact f50n4_at s hs r f (k+1) h3 (by simpa using hf)
theorem f50_eq(s:ByteArray):f50 s=some (nmB s):=by
 unfold f50 f50n0 nmB;rw [sizeList]
 by_cases hs:s.data.toList.length≤40
 ·have h1:f50n1 s=some (bif s.data.toList.all chB then .norm else .ret):=by
   unfold f50n1;have:=f50n4_at s (by omega) s.data.toList FUEL 0 List.drop_zero (Qbv (by omega));rw [show ((0:Nat):Int)=0 from rfl] at this;rw [this];cases s.data.toList.all chB<;>rfl
  rw [h1];generalize s.data.toList=l at hs;rw [decide_eq_false (by omega:¬(40:Int)<(l.length:Int))];cases l with
  | nil=>rfl
  | cons b r =>
   have h0:at? (b::r) 0=some b:=rfl;rw [decide_eq_false (by simp; omega:¬(((b::r).length:Nat):Int)<1),h0];simp only [cond_false,Option.bind_some,f67_eq,isNm,decide_eq_true hs,Bool.true_and,List.all_cons,chB];cases ltrI b.toNat<;>cases othI b.toNat<;>cases r.all chB<;>rfl
 ·rw [decide_eq_false (by omega:¬((s.data.toList.length:Nat):Int)<1),decide_eq_true (by omega:(40:Int)<((s.data.toList.length:Nat):Int))];have:isNm s.data.toList=false:=by
   generalize s.data.toList=l at hs;cases l with
   | nil=>rfl
   | cons b r=>simp only [isNm,decide_eq_false hs,Bool.false_and]
  rw [this]; rfl

theorem f60_eq(a:Int):f60 a=some false:=by unfold f60 f60n0; simp
theorem f79_eq(a:ByteArray):f79 a=some false:=by unfold f79 f79n0; simp [seq_refl]
theorem f39_eq(a b:Int):f39 a b=some (cmpI a b):=by
 unfold f39 f39n0 cmpI;rw [f60_eq,f60_eq];simp only [Option.bind_some,cond_false];cases decide (a<b)<;>cases decide (b<a)<;>rfl
theorem f63_eq(a b:ByteArray):f63 a b=some (cmpB a b):=by
 unfold f63 f63n0 cmpB;rw [f79_eq,f79_eq];simp only [Option.bind_some,cond_false];cases slt a b<;>cases seq a b<;>rfl
theorem f62_eq(x:AL)(n:ByteArray):f62 x n=some (cmpB x.Name n):=by unfold f62 f62n0; rw [f63_eq]; rfl
theorem f51_eq(a b c:Int):f51 a b c=some (decide (b≤a)&&decide (a≤c)):=by
 unfold f51 f51n0;cases decide (b≤a)<;>rfl

def lotN(n:ByteArray):List AL→Option AL
 | []=>none
 | x::r=>bif seq x.Name n then some x else lotN n r
theorem lotN_none{n:ByteArray} : ∀{l:List AL},(∀x∈l,x.Name≠n)→lotN n l=none
 | [],_=>rfl
 | x::r,h=>by rw [lotN,seqF (h x List.mem_cons_self),cond_false,lotN_none fun y hy=>h y (List.mem_cons_of_mem _ hy)]
theorem lotN_app{n:ByteArray} : ∀{pre post:List AL},(∀x∈pre,x.Name≠n)→lotN n (pre++post)=lotN n post
 | [],_,_=>rfl
 | x::r,post,h=>by rw [List.cons_append,lotN,seqF (h x List.mem_cons_self),cond_false,lotN_app fun y hy=>h y (List.mem_cons_of_mem _ hy)]
theorem lotN_mem{n:ByteArray}{x:AL} : ∀{l:List AL},lotN n l=some x→x∈l∧x.Name=n
 | y::r,h=>by
  rw [lotN] at h;cases k:seq y.Name n with
  | true=>rw [k] at h; obtain rfl:=Option.some.inj h; exact ⟨List.mem_cons_self,seq_iff.1 k⟩
  | false =>
   rw [k] at h;obtain ⟨h1,h2⟩:=lotN_mem h;exact ⟨List.mem_cons_of_mem _ h1,h2⟩
abbrev SSrt(l:List AL):Prop:=l.Pairwise fun a b=>slt a.Name b.Name=true
theorem lotN_of:∀{l:List AL},SSrt l→∀x∈l,lotN x.Name l=some x
 | y::r,h,x,hx=>by
  rw [lotN];have h':=List.pairwise_cons.1 h;rcases List.mem_cons.1 hx with rfl | hx
  ·rw [seq_refl,cond_true]
  ·rw [seqF (sltNe (h'.1 x hx)),cond_false,lotN_of h'.2 x hx]
theorem f61n1_eq{l:List AL}(n:ByteArray)(hl:l.length≤1000000):∀(f lo hi:Nat),hi≤l.length→lo≤1000000→f61_62n1 f l n (lo:Int) (hi:Int)=(bsN (pq (fun y=>decide (cmpB y.Name n<0)) l) f lo hi).map fun r=>.exit0 (r:Int)
 | 0,lo,hi,_,_=>rfl
 | f+1,lo,hi,h,h0=>by
  rw [f61_62n1,bsN]
  by_cases hlt:lo<hi
  ·have hk:(lo+hi) / 2<l.length:=by omega
   rw [decide_eq_true hlt,decide_eq_true (by omega:(lo:Int)<(hi:Int)),st_half (by omega),at_in hk];simp only [cond_true,Option.bind_some,f62_eq];have ep:pq (fun y=>decide (cmpB y.Name n<0)) l ((lo+hi) / 2)=decide (cmpB l[(lo+hi) / 2].Name n<0):=by unfold pq; rw [List.getElem?_eq_getElem hk]
   rw [ep];cases decide (cmpB l[(lo+hi) / 2].Name n<0) with
   | true=>rw [cond_true,cond_true,show wr64 ((((lo+hi) / 2:Nat):Int)+1)=(((lo+hi) / 2+1:Nat):Int) by rw [wrIn (by omega) (by omega)]; omega]; exact f61n1_eq n hl f _ _ h (by omega)
   | false=>rw [cond_false,cond_false]; exact f61n1_eq n hl f _ _ (by omega) h0
  ·rw [decide_eq_false hlt,decide_eq_false (by omega:¬(lo:Int)<(hi:Int))]; rfl
theorem f44_eq{s:List AL}(hs:SSrt s)(hl:s.length≤1000)(n:ByteArray):∃i,f44 s n=some (i,(lotN n s).isSome):=by
 obtain ⟨r,q1,q2,q3,q4,q5⟩:=bsN_ok (p:=pq (fun y=>decide (cmpB y.Name n<0)) s) FUEL 0 s.length (by omega) (Qbv (by omega)) fun i j a1 a2 a3 a4=>by
  have:=pq_mono (X:=[]) (B:=s) (R:=[]) (q:=fun y=>decide (cmpB y.Name n<0)) (hs.imp fun {u w} huw hq=>by
   rw [decide_eq_true_eq,cmpB_neg] at *;exact slt_trans huw hq) i j (by simp) a2 (by simpa using a3) (by simpa using a4)
  simpa using this
 have h1:f61_62n1 FUEL s n 0 (s.length:Int)=some (.exit0 (r:Int)):=by
  have:=f61n1_eq (l:=s) n (by omega) FUEL 0 s.length (Nat.le_refl _) (by omega);rw [q1] at this;exact this
 obtain ⟨s1,s2,rfl,hs1⟩:=cutL_ (l:=s) (n:=r) q3;rw [List.length_append] at q5;have f1:∀y∈s1,decide (cmpB y.Name n<0)=true:=pq_seg (X:=[]) (R:=s2) fun i a1 a2=>by
  have:=q4 i (by omega) (by simpa [hs1] using a2);simpa using this
 have f2:∀y∈s2,decide (cmpB y.Name n<0)=false:=pq_seg (X:=s1) (R:=[]) fun i a1 a2=>by
  have:=q5 i (by omega) a2;simpa using this
 have hn1:∀y∈s1,y.Name≠n:=fun y hy=>sltNe (cmpB_neg.1 (of_decide_eq_true (f1 y hy)));have h61:f61_62 (s1++s2) n=some ((r:Int),match s2 with | []=>false | y::_=>decide (cmpB y.Name n=0)):=by
  unfold f61_62 f61_62n0;rw [h1];simp only [Option.bind_some];cases s2 with
  | nil=>rw [decide_eq_false (by rw [List.append_nil]; omega)]; rfl
  | cons y t =>
   rw [decide_eq_true (by simp; omega),at_len (k:=r) (a:=s1) (x:=y) (b:=t) rfl hs1.symm];simp only [cond_true,Option.bind_some,f62_eq]
 refine ⟨(r:Int),?_⟩;unfold f44 f44n0;rw [h61,lotN_app hn1];simp only [Option.bind_some];cases s2 with
 | nil=>rfl
 | cons y t =>
  by_cases hk:cmpB y.Name n=0
  ·simp only [decide_eq_true hk];rw [lotN,seq_iff.2 (cmpB_zero.1 hk)]; rfl
  ·simp only [decide_eq_false hk];have hs':=List.pairwise_cons.1 (List.pairwise_append.1 hs).2.1;have hy:slt n y.Name=true:=cmpB_pos.1 (by have:=of_decide_eq_false (f2 y List.mem_cons_self); omega);rw [lotN_none fun z hz=>?_]
   ·rfl
   ·rcases List.mem_cons.1 hz with rfl | hz
    ·exact (sltNe hy).symm
    ·exact (sltNe (slt_trans hy (hs'.1 z hz))).symm

def gdB(b:AB):Bool:=nmB b.Member&&(!(seq b.Member str_house)&&((decide (1≤b.Units)&&decide (b.Units≤1048576))&&(decide (0≤b.Price)&&decide (b.Price≤33554432))))
theorem f45_eq(b:AB):f45 b=some (gdB b):=by
 unfold f45 f45n0 gdB;rw [f50_eq,f51_eq,f51_eq];cases nmB b.Member<;>cases seq b.Member str_house<;>cases decide (1≤b.Units)<;>cases decide (b.Units≤1048576)<;>rfl
def inL(x:AL):Bool:=nmB x.Name&&((decide (1≤x.Units)&&decide (x.Units≤1048576))&&(decide (0≤x.Reserve)&&decide (x.Reserve≤33554432)))
def ordL:Option AL→AL→Bool
 | none,_=>true
 | some y,x=>slt y.Name x.Name
def okL:Option AL→List AL→Bool
 | _,[]=>true
 | p,x::r=>(inL x&&ordL p x)&&okL (some x) r
theorem f31n2_eq{a:AA}{pre r:List AL}{x:AL}(h:a.Lots=pre++x::r)(hl:a.Lots.length≤1000):f31n2 a ((pre.length:Nat):Int)=some (bif inL x&&ordL pre.getLast? x then .norm else .ret):=by
 have h3:f31n3 ((pre.length:Nat):Int) a x=some (.norm (!(inL x&&ordL pre.getLast? x))):=by
  unfold f31n3 inL;rw [f50_eq,f51_eq,f51_eq];rcases List.eq_nil_or_concat pre with rfl | ⟨q,y,rfl⟩
  ·simp only [List.length_nil,Int.natCast_zero,List.getLast?_nil,ordL];rw [decide_eq_false (by omega:¬(0:Int)<0)];cases nmB x.Name<;>cases decide (1≤x.Units)&&decide (x.Units≤1048576)<;>cases decide (0≤x.Reserve)&&decide (x.Reserve≤33554432)<;>rfl
  ·rw [List.concat_eq_append] at h ⊢;have hq:q.length+1≤1000:=by rw [h] at hl; simp at hl; omega
   rw [decide_eq_true (by simp:(0:Int)<(((q++[y]).length:Nat):Int)),show wr64 ((((q++[y]).length:Nat):Int)-1)=((q.length:Nat):Int) by rw [wrIn (by simp<;>omega) (by simp<;>omega)]; simp,at_len (k:=q.length) (a:=q) (x:=y) (b:=x::r) (by rw [h]; simp) rfl,List.getLast?_concat];simp only [cond_true,Option.bind_some,ordL];cases nmB x.Name<;>cases slt y.Name x.Name<;>cases decide (1≤x.Units)&&decide (x.Units≤1048576)<;>cases decide (0≤x.Reserve)&&decide (x.Reserve≤33554432)<;>rfl
 unfold f31n2;rw [at_len h rfl];simp only [Option.bind_some,h3];cases inL x&&ordL pre.getLast? x<;>rfl
theorem f31n4_at{a:AA}(hl:a.Lots.length≤1000):∀(r pre:List AL)(f:Nat),a.Lots=pre++r→r.length<f→f31n4 f a ((pre.length:Nat):Int)=some (bif okL pre.getLast? r then .exit0 else .ret)
 | _,_,0,_,h=>absurd h (Nat.not_lt_zero _)
 | [],pre,f+1,h,_=>by rw [f31n4,decide_eq_false (by rw [h]; simp),cond_false]; rfl
 | x::r,pre,f+1,h,hf=>by
  have hp:pre.length<a.Lots.length:=by rw [h]; simp
  have ih:=f31n4_at hl r (pre++[x]) f (by rw [h]; simp) (by simpa using hf);rw [List.length_append,List.getLast?_concat] at ih;rw [f31n4,decide_eq_true (by omega),cond_true,f31n2_eq h hl,okL];cases inL x&&ordL pre.getLast? x with
  | false=>rfl
  | true =>
   simp only [cond_true,Option.bind_some,Bool.true_and];rw [wrSucc (by omega)];exact ih
theorem okL_some:∀{l:List AL} {p:AL},okL (some p) l=true→(p::l).Pairwise (fun a b=>slt a.Name b.Name=true)∧∀x∈l,inL x=true
 | [],p,_=>by simp
 | y::r,p,h=>by
  rw [okL,ordL,Bool.and_eq_true,Bool.and_eq_true] at h;obtain ⟨⟨h1,h2⟩,h3⟩:=h;obtain ⟨h4,h5⟩:=okL_some h3;refine ⟨List.pairwise_cons.2 ⟨fun z hz=>?_,h4⟩,fun z hz=>?_⟩
  ·rcases List.mem_cons.1 hz with rfl | hz
   ·exact h2
   ·exact slt_trans h2 ((List.pairwise_cons.1 h4).1 z hz)
  ·rcases List.mem_cons.1 hz with rfl | hz
   ·exact h1
   ·exact h5 z hz
theorem okL_none{l:List AL}(h:okL none l=true):SSrt l∧∀x∈l,inL x=true:=by
 cases l with
 | nil=>simp
 | cons y r =>
  rw [okL,Bool.and_eq_true,Bool.and_eq_true] at h;obtain ⟨⟨h1,_⟩,h3⟩:=h;obtain ⟨h4,h5⟩:=okL_some h3;exact ⟨h4,fun z hz=>by
   rcases List.mem_cons.1 hz with rfl | hz
   ·exact h1
   ·exact h5 z hz⟩
def bidB(ls:List AL)(b:AB):Bool:=(lotN b.Lot ls).isSome&&gdB b
theorem f31w_eq{a:AA}(hs:SSrt a.Lots)(hl:a.Lots.length≤1000):∀(l:List AB)(v:Int),f31n6L a l v=some (bif l.all (bidB a.Lots) then .exit2 else .ret)
 | [],_=>rfl
 | b::r,v=>by
  obtain ⟨i,hi⟩:=f44_eq hs hl b.Lot;rw [f31n6L,hi,List.all_cons,f31w_eq hs hl r,bidB,f45_eq];simp only [Option.bind_some];cases (lotN b.Lot a.Lots).isSome<;>cases gdB b<;>rfl
def okA(a:AA):Bool:=decide (a.Rule≤2)&&(decide (a.Lots.length≤16)&&(decide (a.Bids.length≤100)&&(okL none a.Lots&&a.Bids.all (bidB a.Lots))))
theorem lenD(n k:Nat):decide ((k:Int)<(n:Int)) = !(decide (n≤k)):=by
 rw [ltNot]; congr 1
 by_cases h:n≤k
 ·rw [decide_eq_true h,decide_eq_true (by omega:(n:Int)≤(k:Int))]
 ·rw [decide_eq_false h,decide_eq_false (by omega:¬(n:Int)≤(k:Int))]
theorem f31_eq(a:AA):f31 a=some (bif okA a then 0 else 8):=by
 unfold f31 f31n0 okA;rw [ltNot,show decide ((16:Int)<(a.Lots.length:Int))=_ from lenD a.Lots.length 16,show decide ((100:Int)<(a.Bids.length:Int))=_ from lenD a.Bids.length 100];cases decide (a.Rule≤2) with
 | false=>rfl
 | true =>
  by_cases hl:a.Lots.length≤16
  ·rw [decide_eq_true hl]
   by_cases hb:a.Bids.length≤100
   ·rw [decide_eq_true hb];have h1:f31n1 a=some (bif okL none a.Lots then .norm else .ret):=by
     unfold f31n1;have:=f31n4_at (a:=a) (by omega) a.Lots [] FUEL rfl (Qbv (by omega));rw [show (((([]:List AL).length:Nat)):Int)=0 from rfl,List.getLast?_nil] at this;rw [this];cases okL none a.Lots<;>rfl
    rw [h1];cases ho:okL none a.Lots with
    | false=>rfl
    | true =>
     have h2:f31n5 a=some (bif a.Bids.all (bidB a.Lots) then .norm else .ret):=by
      unfold f31n5;rw [f31n6_run a (Qcg (by omega)),f31w_eq (okL_none ho).1 (by omega)];cases a.Bids.all (bidB a.Lots)<;>rfl
     simp only [cond_true,cond_false,Bool.not_true,Option.bind_some,h2,Bool.true_and];cases a.Bids.all (bidB a.Lots)<;>rfl
   ·rw [decide_eq_false hb]; rfl
  ·rw [decide_eq_false hl]; rfl
structure Vl (a:AA):Prop where
 rule:a.Rule≤2
 nl:a.Lots.length≤16
 nb:a.Bids.length≤100
 srt:SSrt a.Lots
 lots:∀x∈a.Lots,nmB x.Name=true∧1≤x.Units∧x.Units≤1048576∧0≤x.Reserve∧x.Reserve≤33554432
 bids:∀b∈a.Bids,(∃x∈a.Lots,x.Name=b.Lot)∧1≤b.Units∧b.Units≤1048576∧0≤b.Price∧b.Price≤33554432
theorem okA_vl{a:AA}(h:okA a=true):Vl a:=by
 unfold okA at h;simp only [Bool.and_eq_true,decide_eq_true_eq] at h;obtain ⟨h1,h2,h3,h4,h5⟩:=h;obtain ⟨h6,h7⟩:=okL_none h4;refine ⟨h1,h2,h3,h6,fun x hx=>?_,fun b hb=>?_⟩
 ·have:=h7 x hx;unfold inL at this;simp only [Bool.and_eq_true,decide_eq_true_eq] at this;exact ⟨this.1,this.2.1.1,this.2.1.2,this.2.2.1,this.2.2.2⟩
 ·have:=List.all_eq_true.1 h5 b hb;unfold bidB gdB at this;simp only [Bool.and_eq_true,decide_eq_true_eq] at this;obtain ⟨k1,_,_,k2,k3⟩:=this;obtain ⟨x,hx⟩:=Option.isSome_iff_exists.1 k1;have:=lotN_mem hx;exact ⟨⟨x,this.1,this.2⟩,k2.1,k2.2,k3.1,k3.2⟩
end Go.Proofs.Ythpceddjepbamaa
namespace Go.Proofs.Ythpceddjepbamaa
set_option linter.unusedVariables false
set_option linter.unusedSimpArgs false
open Go.RowKit
def sc(x y:SH):Int:=cmpI y.bid.Price x.bid.Price
theorem f55_eq(x y:SH):f55 x y=some (sc x y):=by unfold f55 f55n0; rw [f39_eq]; rfl
abbrev ltS:SH→SH→Bool:=fun x y=>decide (sc x y<0)
theorem ltS_iff{x y:SH} : ltS x y=true↔y.bid.Price<x.bid.Price:=by
 unfold ltS sc;rw [decide_eq_true_eq,cmpI_neg]
theorem ltS_not{x y:SH} : ltS x y=false↔x.bid.Price≤y.bid.Price:=by
 rw [←Bool.not_eq_true,ltS_iff]; omega
theorem swoS:SWo ltS where
 irr x:=ltS_not.2 (Int.le_refl _)
 tr h k:=by rw [ltS_iff] at *; omega
 nt h k:=by rw [ltS_not] at *; omega
def bef(x y:SH):Bool:=decide (y.bid.Price<x.bid.Price)||(decide (x.bid.Price=y.bid.Price)&&decide (x.index<y.index))
theorem bef_iff{x y:SH} : bef x y=true↔y.bid.Price<x.bid.Price∨x.bid.Price=y.bid.Price∧x.index<y.index:=by
 unfold bef;simp only [Bool.or_eq_true,Bool.and_eq_true,decide_eq_true_eq]
theorem bef_irr(x:SH):bef x x=false:=by
 rw [←Bool.not_eq_true,bef_iff]; omega
theorem bef_asym{x y:SH}(h:bef x y=true):bef y x=false:=by
 rw [←Bool.not_eq_true]; rw [bef_iff] at *; omega
theorem bef_tr{x y z:SH}(h:bef x y=true)(k:bef y z=true):bef x z=true:=by
 rw [bef_iff] at *; omega
abbrev Idx(l:List SH):Prop:=l.Pairwise fun x y=>x.index<y.index
abbrev Bef(l:List SH):Prop:=l.Pairwise fun x y=>bef x y=true
theorem ins_mem{x z:SH} : ∀{l:List SH},z∈insS ltS x l↔z=x∨z∈l:=fun {l}=>by
 rw [(insS_perm x l).mem_iff,List.mem_cons]
theorem ins_bef{x:SH} : ∀{l:List SH},(∀y∈l,x.index<y.index)→Bef l→Bef (insS ltS x l)
 | [],_,_=>by simp [insS]
 | y::r,hi,h=>by
  have h':=List.pairwise_cons.1 h;rw [insS];cases hl:ltS y x with
  | true =>
   rw [cond_true];refine List.pairwise_cons.2 ⟨fun z hz=>?_,ins_bef (fun z hz=>hi z (List.mem_cons_of_mem _ hz)) h'.2⟩;rcases ins_mem.1 hz with rfl | hz
   ·rw [bef_iff]; rw [ltS_iff] at hl; exact .inl hl
   ·exact h'.1 z hz
  | false =>
   rw [cond_false];have hx:bef x y=true:=by
    have:=hi y List.mem_cons_self;rw [ltS_not] at hl;rw [bef_iff]; omega
   refine List.pairwise_cons.2 ⟨fun z hz=>?_,h⟩;rcases List.mem_cons.1 hz with rfl | hz
   ·exact hx
   ·exact bef_tr hx (h'.1 z hz)
theorem sort_bef:∀{l:List SH},Idx l→Bef (Qbb ltS l)
 | [],_=>by simp [Qbb]
 | x::r,h=>by
  have h':=List.pairwise_cons.1 h;rw [Qbb];exact ins_bef (fun y hy=>h'.1 y ((Qbm swoS r).mem.1 hy)) (sort_bef h'.2)
theorem f54_eq{l:List SH}(h:l.length≤500000):f54r1 l=some (Qbb ltS l):=st_sorted f55_eq swoS l h

def zs:List AB→Int→List SH
 | [],_=>[]
 | b::r,i=>⟨i,0,b⟩::zs r (i+1)
def rk(l:AL)(s:SH):Bool:=seq s.bid.Lot l.Name&&decide (l.Reserve≤s.bid.Price)
theorem zs_len:∀(l:List AB)(i:Int),(zs l i).length=l.length
 | [],_=>rfl
 | b::r,i=>by rw [zs,List.length_cons,List.length_cons,zs_len r]
theorem zs_idx:∀(l:List AB)(i:Int),Idx (zs l i)∧∀s∈zs l i,i≤s.index∧s.index<i+l.length∧s.units=0∧l[(s.index-i).toNat]?=some s.bid
 | [],_=>by simp [zs]
 | b::r,i=>by
  obtain ⟨h1,h2⟩:=zs_idx r (i+1);rw [zs];refine ⟨List.pairwise_cons.2 ⟨fun s hs=>?_,h1⟩,fun s hs=>?_⟩
  ·have:=h2 s hs; show i<s.index; omega
  ·rcases List.mem_cons.1 hs with rfl | hs
   ·simp; omega
   ·obtain ⟨k1,k2,k3,k4⟩:=h2 s hs;refine ⟨by omega,by rw [List.length_cons]; omega,k3,?_⟩;rw [show (s.index-i).toNat=(s.index-(i+1)).toNat+1 by omega,List.getElem?_cons_succ];exact k4
theorem zs_mem{l:List AB}{i:Int}{s:SH}(h:s∈zs l i):s.bid∈l:=List.mem_of_getElem? ((zs_idx l i).2 s h).2.2.2
def all_(bs:List AB)(l:AL):List SH:=(zs bs 0).filter (rk l)
def rkd(bs:List AB)(l:AL):List SH:=Qbb ltS (all_ bs l)
theorem rkd_perm(bs:List AB)(l:AL):(rkd bs l).Perm (all_ bs l):=(Qbm swoS _).1
theorem all_ln(bs:List AB)(l:AL):(all_ bs l).length≤bs.length:=by
 have:=List.length_filter_le (rk l) (zs bs 0)
 rwa [zs_len] at this
theorem rkd_len(bs:List AB)(l:AL):(rkd bs l).length≤bs.length:=by
 rw [(rkd_perm bs l).length_eq]; exact all_ln bs l
theorem rkd_bef(bs:List AB)(l:AL):Bef (rkd bs l):=sort_bef (List.Pairwise.filter _ (zs_idx bs 0).1)
theorem rkd_mem{bs:List AB}{l:AL}{s:SH} : s∈rkd bs l↔s∈zs bs 0∧rk l s=true:=by
 rw [(rkd_perm bs l).mem_iff]; exact List.mem_filter

theorem mnI_eq(a b:Int):mnI a b=min a b:=by
 by_cases h:b<a
 ·rw [mnI,decide_eq_true h,cond_true]; omega
 ·rw [mnI,decide_eq_false h,cond_false]; omega
def tk(p:SH→Int):Int→List SH→List AW
 | _,[]=>[]
 | n,s::r=>bif decide (min n s.bid.Units=0) then [] else ⟨s.index,min n s.bid.Units,p s⟩::tk p (n-min n s.bid.Units) r
def lowP:Int→Int→List SH→Int
 | p,_,[]=>p
 | p,n,s::r=>lowP (bif decide (0<min n s.bid.Units) then s.bid.Price else p) (n-min n s.bid.Units) r
def rejP(p:Int):Int→List SH→Int
 | _,[]=>p
 | n,s::r=>bif decide (min n s.bid.Units<s.bid.Units) then s.bid.Price else rejP p (n-min n s.bid.Units) r
def lftN:Int→Int→List SH→Int
 | q,_,[]=>q
 | q,n,s::r=>lftN (q-min n s.bid.Units) (n-min n s.bid.Units) r
abbrev uOk(r:List SH):Prop:=∀s∈r,1≤s.bid.Units∧s.bid.Units≤1048576

theorem f53r1_c(a:AA)(l:AL)(p:Int):∀(r:List AB)(i:Int)(acc:List SH),acc.length+r.length≤1000→f53r1n2L a l p r i acc=some (.exit0 (acc++(zs r i).filter (rk l)))
 | [],i,acc,_=>by rw [f53r1n2L,zs,List.filter_nil,List.append_nil]
 | b::r,i,acc,h=>by
  rw [List.length_cons] at h;rw [f53r1n2L,zs,List.filter_cons];have hr:rk l ⟨i,0,b⟩=(seq b.Lot l.Name&&decide (l.Reserve≤b.Price)):=rfl;rw [hr];cases seq b.Lot l.Name with
  | false=>exact f53r1_c a l p r (i+1) acc (by omega)
  | true =>
   cases decide (l.Reserve≤b.Price) with
   | false=>exact f53r1_c a l p r (i+1) acc (by omega)
   | true =>
    simp only [cond_true,Bool.and_self,if_true];rw [req,fitSmall (by omega) (by omega),cond_true,f53r1_c a l p r (i+1) (acc++[(⟨i,0,b⟩:SH)]) (by rw [List.length_append]; simp; omega),List.append_assoc]; rfl
theorem f53r1_1(a:AA)(l:AL)(p:Int)(h:a.Bids.length≤1000):(f53r1n1 a l p).bind (fun o=>match o with | .norm v=>f54r1 v)=some (rkd a.Bids l):=by
 unfold f53r1n1;rw [f53r1n2_run a l p [] (Qcg (by omega)),f53r1_c a l p a.Bids 0 [] (by simp; omega)];simp only [Option.bind_some,List.nil_append];exact f54_eq (by have:=all_ln a.Bids l; unfold all_ at this; omega)
theorem f53r1_2(a:AA)(l:AL)(p:Int)(h:a.Bids.length≤1000){γ:Type}(k:List SH→Option γ):((f53r1n1 a l p).bind fun o=>match o with | .norm v=>(f54r1 v).bind k)=k (rkd a.Bids l):=by
 have:=f53r1_1 a l p h;cases e:f53r1n1 a l p with
 | none=>rw [e] at this; cases this
 | some o =>
  cases o with
  | norm v =>
   rw [e] at this;simp only [Option.bind_some] at this ⊢;rw [this]; rfl

theorem f53r3_c(a:AA)(l:AL)(p:Int):∀(r:List AB)(i:Int)(acc:List SH),acc.length+r.length≤1000→f53r3n2L a l p r i acc=some (.exit0 (acc++(zs r i).filter (rk l)))
 | [],i,acc,_=>by rw [f53r3n2L,zs,List.filter_nil,List.append_nil]
 | b::r,i,acc,h=>by
  rw [List.length_cons] at h;rw [f53r3n2L,zs,List.filter_cons];have hr:rk l ⟨i,0,b⟩=(seq b.Lot l.Name&&decide (l.Reserve≤b.Price)):=rfl;rw [hr];cases seq b.Lot l.Name with
  | false=>exact f53r3_c a l p r (i+1) acc (by omega)
  | true =>
   cases decide (l.Reserve≤b.Price) with
   | false=>exact f53r3_c a l p r (i+1) acc (by omega)
   | true =>
    simp only [cond_true,Bool.and_self,if_true];rw [req,fitSmall (by omega) (by omega),cond_true,f53r3_c a l p r (i+1) (acc++[(⟨i,0,b⟩:SH)]) (by rw [List.length_append]; simp; omega),List.append_assoc]; rfl
theorem f53r3_1(a:AA)(l:AL)(p:Int)(h:a.Bids.length≤1000):(f53r3n1 a l p).bind (fun o=>match o with | .norm v=>f54r1 v)=some (rkd a.Bids l):=by
 unfold f53r3n1;rw [f53r3n2_run a l p [] (Qcg (by omega)),f53r3_c a l p a.Bids 0 [] (by simp; omega)];simp only [Option.bind_some,List.nil_append];exact f54_eq (by have:=all_ln a.Bids l; unfold all_ at this; omega)
theorem f53r3_2(a:AA)(l:AL)(p:Int)(h:a.Bids.length≤1000){γ:Type}(k:List SH→Option γ):((f53r3n1 a l p).bind fun o=>match o with | .norm v=>(f54r1 v).bind k)=k (rkd a.Bids l):=by
 have:=f53r3_1 a l p h;cases e:f53r3n1 a l p with
 | none=>rw [e] at this; cases this
 | some o =>
  cases o with
  | norm v =>
   rw [e] at this;simp only [Option.bind_some] at this ⊢;rw [this]; rfl

theorem f53r9_c(a:AA)(l:AL)(p:Int):∀(r:List AB)(i:Int)(acc:List SH),acc.length+r.length≤1000→f53r9n2L a l p r i acc=some (.exit0 (acc++(zs r i).filter (rk l)))
 | [],i,acc,_=>by rw [f53r9n2L,zs,List.filter_nil,List.append_nil]
 | b::r,i,acc,h=>by
  rw [List.length_cons] at h;rw [f53r9n2L,zs,List.filter_cons];have hr:rk l ⟨i,0,b⟩=(seq b.Lot l.Name&&decide (l.Reserve≤b.Price)):=rfl;rw [hr];cases seq b.Lot l.Name with
  | false=>exact f53r9_c a l p r (i+1) acc (by omega)
  | true =>
   cases decide (l.Reserve≤b.Price) with
   | false=>exact f53r9_c a l p r (i+1) acc (by omega)
   | true =>
    simp only [cond_true,Bool.and_self,if_true];rw [req,fitSmall (by omega) (by omega),cond_true,f53r9_c a l p r (i+1) (acc++[(⟨i,0,b⟩:SH)]) (by rw [List.length_append]; simp; omega),List.append_assoc]; rfl
theorem f53r9_1(a:AA)(l:AL)(p:Int)(h:a.Bids.length≤1000):(f53r9n1 a l p).bind (fun o=>match o with | .norm v=>f54r1 v)=some (rkd a.Bids l):=by
 unfold f53r9n1;rw [f53r9n2_run a l p [] (Qcg (by omega)),f53r9_c a l p a.Bids 0 [] (by simp; omega)];simp only [Option.bind_some,List.nil_append];exact f54_eq (by have:=all_ln a.Bids l; unfold all_ at this; omega)
theorem f53r9_2(a:AA)(l:AL)(p:Int)(h:a.Bids.length≤1000){γ:Type}(k:List SH→Option γ):((f53r9n1 a l p).bind fun o=>match o with | .norm v=>(f54r1 v).bind k)=k (rkd a.Bids l):=by
 have:=f53r9_1 a l p h;cases e:f53r9n1 a l p with
 | none=>rw [e] at this; cases this
 | some o =>
  cases o with
  | norm v =>
   rw [e] at this;simp only [Option.bind_some] at this ⊢;rw [this]; rfl

theorem f53r6_c(a:AA)(l:AL)(p:Int)(o:List AW):∀(r:List AB)(i:Int)(acc:List SH),acc.length+r.length≤1000→f53r6n2L a l p o r i acc=some (.exit0 (acc++(zs r i).filter (rk l)))
 | [],i,acc,_=>by rw [f53r6n2L,zs,List.filter_nil,List.append_nil]
 | b::r,i,acc,h=>by
  rw [List.length_cons] at h;rw [f53r6n2L,zs,List.filter_cons];have hr:rk l ⟨i,0,b⟩=(seq b.Lot l.Name&&decide (l.Reserve≤b.Price)):=rfl;rw [hr];cases seq b.Lot l.Name with
  | false=>exact f53r6_c a l p o r (i+1) acc (by omega)
  | true =>
   cases decide (l.Reserve≤b.Price) with
   | false=>exact f53r6_c a l p o r (i+1) acc (by omega)
   | true =>
    simp only [cond_true,Bool.and_self,if_true];rw [req,fitSmall (by omega) (by omega),cond_true,f53r6_c a l p o r (i+1) (acc++[(⟨i,0,b⟩:SH)]) (by rw [List.length_append]; simp; omega),List.append_assoc]; rfl
theorem f53r6_1(a:AA)(l:AL)(p:Int)(o:List AW)(h:a.Bids.length≤1000):(f53r6n1 a l p o).bind (fun o=>match o with | .norm v=>f54r1 v)=some (rkd a.Bids l):=by
 unfold f53r6n1;rw [f53r6n2_run a l p o [] (Qcg (by omega)),f53r6_c a l p o a.Bids 0 [] (by simp; omega)];simp only [Option.bind_some,List.nil_append];exact f54_eq (by have:=all_ln a.Bids l; unfold all_ at this; omega)
theorem f53r6_2(a:AA)(l:AL)(p:Int)(o:List AW)(h:a.Bids.length≤1000){γ:Type}(k:List SH→Option γ):((f53r6n1 a l p o).bind fun o=>match o with | .norm v=>(f54r1 v).bind k)=k (rkd a.Bids l):=by
 have:=f53r6_1 a l p o h;cases e:f53r6n1 a l p o with
 | none=>rw [e] at this; cases this
 | some o =>
  cases o with
  | norm v =>
   rw [e] at this;simp only [Option.bind_some] at this ⊢;rw [this]; rfl

theorem f53r7_c(a:AA)(l:AL)(p:Int)(o:List AW):∀(r:List AB)(i:Int)(acc:List SH),acc.length+r.length≤1000→f53r7n2L a l p o r i acc=some (.exit0 (acc++(zs r i).filter (rk l)))
 | [],i,acc,_=>by rw [f53r7n2L,zs,List.filter_nil,List.append_nil]
 | b::r,i,acc,h=>by
  rw [List.length_cons] at h;rw [f53r7n2L,zs,List.filter_cons];have hr:rk l ⟨i,0,b⟩=(seq b.Lot l.Name&&decide (l.Reserve≤b.Price)):=rfl;rw [hr];cases seq b.Lot l.Name with
  | false=>exact f53r7_c a l p o r (i+1) acc (by omega)
  | true =>
   cases decide (l.Reserve≤b.Price) with
   | false=>exact f53r7_c a l p o r (i+1) acc (by omega)
   | true =>
    simp only [cond_true,Bool.and_self,if_true];rw [req,fitSmall (by omega) (by omega),cond_true,f53r7_c a l p o r (i+1) (acc++[(⟨i,0,b⟩:SH)]) (by rw [List.length_append]; simp; omega),List.append_assoc]; rfl
theorem f53r7_1(a:AA)(l:AL)(p:Int)(o:List AW)(h:a.Bids.length≤1000):(f53r7n1 a l p o).bind (fun o=>match o with | .norm v=>f54r1 v)=some (rkd a.Bids l):=by
 unfold f53r7n1;rw [f53r7n2_run a l p o [] (Qcg (by omega)),f53r7_c a l p o a.Bids 0 [] (by simp; omega)];simp only [Option.bind_some,List.nil_append];exact f54_eq (by have:=all_ln a.Bids l; unfold all_ at this; omega)
theorem f53r7_2(a:AA)(l:AL)(p:Int)(o:List AW)(h:a.Bids.length≤1000){γ:Type}(k:List SH→Option γ):((f53r7n1 a l p o).bind fun o=>match o with | .norm v=>(f54r1 v).bind k)=k (rkd a.Bids l):=by
 have:=f53r7_1 a l p o h;cases e:f53r7n1 a l p o with
 | none=>rw [e] at this; cases this
 | some o =>
  cases o with
  | norm v =>
   rw [e] at this;simp only [Option.bind_some] at this ⊢;rw [this]; rfl

theorem f53r8_c(a:AA)(l:AL)(p:Int)(o:List AW):∀(r:List AB)(i:Int)(acc:List SH),acc.length+r.length≤1000→f53r8n2L a l p o r i acc=some (.exit0 (acc++(zs r i).filter (rk l)))
 | [],i,acc,_=>by rw [f53r8n2L,zs,List.filter_nil,List.append_nil]
 | b::r,i,acc,h=>by
  rw [List.length_cons] at h;rw [f53r8n2L,zs,List.filter_cons];have hr:rk l ⟨i,0,b⟩=(seq b.Lot l.Name&&decide (l.Reserve≤b.Price)):=rfl;rw [hr];cases seq b.Lot l.Name with
  | false=>exact f53r8_c a l p o r (i+1) acc (by omega)
  | true =>
   cases decide (l.Reserve≤b.Price) with
   | false=>exact f53r8_c a l p o r (i+1) acc (by omega)
   | true =>
    simp only [cond_true,Bool.and_self,if_true];rw [req,fitSmall (by omega) (by omega),cond_true,f53r8_c a l p o r (i+1) (acc++[(⟨i,0,b⟩:SH)]) (by rw [List.length_append]; simp; omega),List.append_assoc]; rfl
theorem f53r8_1(a:AA)(l:AL)(p:Int)(o:List AW)(h:a.Bids.length≤1000):(f53r8n1 a l p o).bind (fun o=>match o with | .norm v=>f54r1 v)=some (rkd a.Bids l):=by
 unfold f53r8n1;rw [f53r8n2_run a l p o [] (Qcg (by omega)),f53r8_c a l p o a.Bids 0 [] (by simp; omega)];simp only [Option.bind_some,List.nil_append];exact f54_eq (by have:=all_ln a.Bids l; unfold all_ at this; omega)
theorem f53r8_2(a:AA)(l:AL)(p:Int)(o:List AW)(h:a.Bids.length≤1000){γ:Type}(k:List SH→Option γ):((f53r8n1 a l p o).bind fun o=>match o with | .norm v=>(f54r1 v).bind k)=k (rkd a.Bids l):=by
 have:=f53r8_1 a l p o h;cases e:f53r8n1 a l p o with
 | none=>rw [e] at this; cases this
 | some o =>
  cases o with
  | norm v =>
   rw [e] at this;simp only [Option.bind_some] at this ⊢;rw [this]; rfl
theorem f53r6_l(a:AA)(l:AL)(p:Int){xs:List SH}(hx:xs.length≤1000)(ho:uOk xs):∀(r:List SH)(f k:Nat)(n:Int)(o:List AW),xs.drop k=r→r.length<f→0≤n→n≤1048576→o.length+r.length≤100000 →
  ∃z,f53r6n4 f xs a l p n (k:Int) o=some z∧(z = .exit2 (o++tk (fun _=>p) n r)∨z = .ret (o++tk (fun _=>p) n r))
 | _,0,_,_,_,_,h,_,_,_=>absurd h (Nat.not_lt_zero _)
 | [],f+1,k,n,o,hd,_,_,_,_=>by
  have:=Qay hd;rw [f53r6n4,decide_eq_false (by omega),cond_false,tk,List.append_nil];exact ⟨_,rfl,.inl rfl⟩
 | s::r,f+1,k,n,o,hd,hf,h0,h1,hl=>by
  have hk:=dropAt hd;have hu:=ho s (List.mem_of_mem_drop (hd ▸ List.mem_cons_self));have hn':0≤n-min n s.bid.Units∧n-min n s.bid.Units≤1048576:=by omega
  have hw:wr64 (n-min n s.bid.Units)=n-min n s.bid.Units:=wrIn (by omega) (by omega);rw [f53r6n4,decide_eq_true (by have:=hk.2.1; omega),cond_true];unfold f53r6n3 f12y2n0;rw [hk.1];simp only [Option.bind_some,mnI_eq,hw];rw [tk]
  by_cases hz:min n s.bid.Units=0
  ·rw [decide_eq_true hz];exact ⟨_,rfl,.inr (by rw [cond_true,List.append_nil])⟩
  ·rw [decide_eq_false hz,cond_false,cond_false,req,fitSmall (by simp at hl; omega) (by omega),cond_true,wrSucc (by have:=hk.2.1; omega)];obtain ⟨z,e1,e2⟩:=f53r6_l a l p hx ho r f (k+1) (n-min n s.bid.Units) (o++[⟨s.index,min n s.bid.Units,p⟩]) hk.2.2 (by simpa using hf) hn'.1 hn'.2 (by simp at hl ⊢; omega);rw [List.append_assoc] at e2;exact ⟨z,e1,e2⟩
theorem f53r6_eq{a:AA}{l:AL}(p:Int)(o:List AW)(hb:a.Bids.length≤100)(hu:∀b∈a.Bids,1≤b.Units∧b.Units≤1048576)(h0:0≤l.Units)(h1:l.Units≤1048576)(hl:o.length≤10000) :
  ∃q,f53r6 a l p o=some (q,o++tk (fun _=>p) l.Units (rkd a.Bids l)):=by
 have hr:=rkd_len a.Bids l;obtain ⟨z,e1,e2⟩:=f53r6_l a l p (xs:=rkd a.Bids l) (by omega) (fun s hs=>hu _ (zs_mem (rkd_mem.1 hs).1)) (rkd a.Bids l) FUEL 0 l.Units o rfl (Qbv (by omega)) h0 h1 (by omega);have e1':f53r6n4 FUEL (rkd a.Bids l) a l p l.Units 0 o=some z:=e1;unfold f53r6 f53r6n0;rw [f53r6_2 a l p o (by omega),e1'];rcases e2 with rfl | rfl
 ·exact ⟨_,rfl⟩
 ·exact ⟨_,rfl⟩
theorem f53r7_l(a:AA)(l:AL)(p:Int){xs:List SH}(hx:xs.length≤1000)(ho:uOk xs):∀(r:List SH)(f k:Nat)(n:Int)(o:List AW),xs.drop k=r→r.length<f→0≤n→n≤1048576→o.length+r.length≤100000 →
  ∃z,f53r7n4 f xs a l p n (k:Int) o=some z∧(z = .exit2 (o++tk (fun _=>p) n r)∨z = .ret (o++tk (fun _=>p) n r))
 | _,0,_,_,_,_,h,_,_,_=>absurd h (Nat.not_lt_zero _)
 | [],f+1,k,n,o,hd,_,_,_,_=>by
  have:=Qay hd;rw [f53r7n4,decide_eq_false (by omega),cond_false,tk,List.append_nil];exact ⟨_,rfl,.inl rfl⟩
 | s::r,f+1,k,n,o,hd,hf,h0,h1,hl=>by
  have hk:=dropAt hd;have hu:=ho s (List.mem_of_mem_drop (hd ▸ List.mem_cons_self));have hn':0≤n-min n s.bid.Units∧n-min n s.bid.Units≤1048576:=by omega
  have hw:wr64 (n-min n s.bid.Units)=n-min n s.bid.Units:=wrIn (by omega) (by omega);rw [f53r7n4,decide_eq_true (by have:=hk.2.1; omega),cond_true];unfold f53r7n3 f12y4n0;rw [hk.1];simp only [Option.bind_some,mnI_eq,hw];rw [tk]
  by_cases hz:min n s.bid.Units=0
  ·rw [decide_eq_true hz];exact ⟨_,rfl,.inr (by rw [cond_true,List.append_nil])⟩
  ·rw [decide_eq_false hz,cond_false,cond_false,req,fitSmall (by simp at hl; omega) (by omega),cond_true,wrSucc (by have:=hk.2.1; omega)];obtain ⟨z,e1,e2⟩:=f53r7_l a l p hx ho r f (k+1) (n-min n s.bid.Units) (o++[⟨s.index,min n s.bid.Units,p⟩]) hk.2.2 (by simpa using hf) hn'.1 hn'.2 (by simp at hl ⊢; omega);rw [List.append_assoc] at e2;exact ⟨z,e1,e2⟩
theorem f53r7_eq{a:AA}{l:AL}(p:Int)(o:List AW)(hb:a.Bids.length≤100)(hu:∀b∈a.Bids,1≤b.Units∧b.Units≤1048576)(h0:0≤l.Units)(h1:l.Units≤1048576)(hl:o.length≤10000) :
  ∃q,f53r7 a l p o=some (q,o++tk (fun _=>p) l.Units (rkd a.Bids l)):=by
 have hr:=rkd_len a.Bids l;obtain ⟨z,e1,e2⟩:=f53r7_l a l p (xs:=rkd a.Bids l) (by omega) (fun s hs=>hu _ (zs_mem (rkd_mem.1 hs).1)) (rkd a.Bids l) FUEL 0 l.Units o rfl (Qbv (by omega)) h0 h1 (by omega);have e1':f53r7n4 FUEL (rkd a.Bids l) a l p l.Units 0 o=some z:=e1;unfold f53r7 f53r7n0;rw [f53r7_2 a l p o (by omega),e1'];rcases e2 with rfl | rfl
 ·exact ⟨_,rfl⟩
 ·exact ⟨_,rfl⟩
theorem f53r8_l(a:AA)(l:AL)(p:Int){xs:List SH}(hx:xs.length≤1000)(ho:uOk xs):∀(r:List SH)(f k:Nat)(n:Int)(o:List AW),xs.drop k=r→r.length<f→0≤n→n≤1048576→o.length+r.length≤100000 →
  ∃z,f53r8n4 f xs a l p n (k:Int) o=some z∧(z = .exit2 (o++tk (fun s=>s.bid.Price) n r)∨z = .ret (o++tk (fun s=>s.bid.Price) n r))
 | _,0,_,_,_,_,h,_,_,_=>absurd h (Nat.not_lt_zero _)
 | [],f+1,k,n,o,hd,_,_,_,_=>by
  have:=Qay hd;rw [f53r8n4,decide_eq_false (by omega),cond_false,tk,List.append_nil];exact ⟨_,rfl,.inl rfl⟩
 | s::r,f+1,k,n,o,hd,hf,h0,h1,hl=>by
  have hk:=dropAt hd;have hu:=ho s (List.mem_of_mem_drop (hd ▸ List.mem_cons_self));have hn':0≤n-min n s.bid.Units∧n-min n s.bid.Units≤1048576:=by omega
  have hw:wr64 (n-min n s.bid.Units)=n-min n s.bid.Units:=wrIn (by omega) (by omega);rw [f53r8n4,decide_eq_true (by have:=hk.2.1; omega),cond_true];unfold f53r8n3 f12y6n0;rw [hk.1];simp only [Option.bind_some,mnI_eq,hw];rw [tk]
  by_cases hz:min n s.bid.Units=0
  ·rw [decide_eq_true hz];exact ⟨_,rfl,.inr (by rw [cond_true,List.append_nil])⟩
  ·rw [decide_eq_false hz,cond_false,cond_false,req,fitSmall (by simp at hl; omega) (by omega),cond_true,wrSucc (by have:=hk.2.1; omega)];obtain ⟨z,e1,e2⟩:=f53r8_l a l p hx ho r f (k+1) (n-min n s.bid.Units) (o++[⟨s.index,min n s.bid.Units,s.bid.Price⟩]) hk.2.2 (by simpa using hf) hn'.1 hn'.2 (by simp at hl ⊢; omega);rw [List.append_assoc] at e2;exact ⟨z,e1,e2⟩
theorem f53r8_eq{a:AA}{l:AL}(p:Int)(o:List AW)(hb:a.Bids.length≤100)(hu:∀b∈a.Bids,1≤b.Units∧b.Units≤1048576)(h0:0≤l.Units)(h1:l.Units≤1048576)(hl:o.length≤10000) :
  ∃q,f53r8 a l p o=some (q,o++tk (fun s=>s.bid.Price) l.Units (rkd a.Bids l)):=by
 have hr:=rkd_len a.Bids l;obtain ⟨z,e1,e2⟩:=f53r8_l a l p (xs:=rkd a.Bids l) (by omega) (fun s hs=>hu _ (zs_mem (rkd_mem.1 hs).1)) (rkd a.Bids l) FUEL 0 l.Units o rfl (Qbv (by omega)) h0 h1 (by omega);have e1':f53r8n4 FUEL (rkd a.Bids l) a l p l.Units 0 o=some z:=e1;unfold f53r8 f53r8n0;rw [f53r8_2 a l p o (by omega),e1'];rcases e2 with rfl | rfl
 ·exact ⟨_,rfl⟩
 ·exact ⟨_,rfl⟩
theorem f53r1_l(a:AA)(l:AL){xs:List SH}(hx:xs.length≤1000)(ho:uOk xs):∀(r:List SH)(f k:Nat)(n p:Int),xs.drop k=r→r.length<f→0≤n→n≤1048576 →
  f53r1n4 f xs a l n (k:Int) p=some (.exit2 (lowP p n r))
 | _,0,_,_,_,_,h,_,_=>absurd h (Nat.not_lt_zero _)
 | [],f+1,k,n,p,hd,_,_,_=>by
  have:=Qay hd;rw [f53r1n4,decide_eq_false (by omega),cond_false,lowP]
 | s::r,f+1,k,n,p,hd,hf,h0,h1=>by
  have hk:=dropAt hd;have hu:=ho s (List.mem_of_mem_drop (hd ▸ List.mem_cons_self));have hn':0≤n-min n s.bid.Units∧n-min n s.bid.Units≤1048576:=by omega
  have hw:wr64 (n-min n s.bid.Units)=n-min n s.bid.Units:=wrIn (by omega) (by omega);rw [f53r1n4,decide_eq_true (by have:=hk.2.1; omega),cond_true];unfold f53r1n3 f56y1n0;rw [hk.1];simp only [Option.bind_some,mnI_eq,hw];rw [lowP];cases decide (0<min n s.bid.Units)<;>simp only [cond_true,cond_false,Option.bind_some]<;>rw [wrSucc (by have:=hk.2.1; omega)]<;>exact f53r1_l a l hx ho r f (k+1) _ _ hk.2.2 (by simpa using hf) hn'.1 hn'.2
theorem f56_eq{a:AA}{l:AL}(hb:a.Bids.length≤100)(hu:∀b∈a.Bids,1≤b.Units∧b.Units≤1048576)(h0:0≤l.Units)(h1:l.Units≤1048576) :
  f56r1 l a=some (lowP l.Reserve l.Units (rkd a.Bids l)):=by
 have hr:=rkd_len a.Bids l;have e1:=f53r1_l a l (xs:=rkd a.Bids l) (by omega) (fun s hs=>hu _ (zs_mem (rkd_mem.1 hs).1)) (rkd a.Bids l) FUEL 0 l.Units l.Reserve rfl (Qbv (by omega)) h0 h1;have e1':f53r1n4 FUEL (rkd a.Bids l) a l l.Units 0 l.Reserve=_:=e1;have e2:f53r1 a l l.Reserve=some (lowP l.Reserve l.Units (rkd a.Bids l)):=by
  unfold f53r1 f53r1n0;rw [f53r1_2 a l l.Reserve (by omega),e1']; rfl
 unfold f56r1 f56r1n0 f56r1n1 f56r1n2;rw [e2]; rfl
theorem f53r3_l(a:AA)(l:AL)(p:Int){xs:List SH}(hx:xs.length≤1000)(ho:uOk xs):∀(r:List SH)(f k:Nat)(n q:Int),xs.drop k=r→r.length<f→0≤n→n≤1048576 →
  ∃z,f53r3n4 f xs a l p n (k:Int)=some z∧(z = .exit2∧rejP q n r=q∨z = .ret (rejP q n r))
 | _,0,_,_,_,_,h,_,_=>absurd h (Nat.not_lt_zero _)
 | [],f+1,k,n,q,hd,_,_,_=>by
  have:=Qay hd;rw [f53r3n4,decide_eq_false (by omega),cond_false,rejP];exact ⟨_,rfl,.inl ⟨rfl,rfl⟩⟩
 | s::r,f+1,k,n,q,hd,hf,h0,h1=>by
  have hk:=dropAt hd;have hu:=ho s (List.mem_of_mem_drop (hd ▸ List.mem_cons_self));have hn':0≤n-min n s.bid.Units∧n-min n s.bid.Units≤1048576:=by omega
  have hw:wr64 (n-min n s.bid.Units)=n-min n s.bid.Units:=wrIn (by omega) (by omega);rw [f53r3n4,decide_eq_true (by have:=hk.2.1; omega),cond_true];unfold f53r3n3 f57y1n0;rw [hk.1];simp only [Option.bind_some,mnI_eq,hw];rw [rejP];cases decide (min n s.bid.Units<s.bid.Units) with
  | true=>exact ⟨_,rfl,.inr rfl⟩
  | false =>
   simp only [cond_false,Option.bind_some];rw [wrSucc (by have:=hk.2.1; omega)];exact f53r3_l a l p hx ho r f (k+1) _ q hk.2.2 (by simpa using hf) hn'.1 hn'.2
theorem f57_eq{a:AA}{l:AL}(hb:a.Bids.length≤100)(hu:∀b∈a.Bids,1≤b.Units∧b.Units≤1048576)(h0:0≤l.Units)(h1:l.Units≤1048576) :
  f57r1 l a=some (rejP l.Reserve l.Units (rkd a.Bids l)):=by
 have hr:=rkd_len a.Bids l;obtain ⟨z,e1,e3⟩:=f53r3_l a l 0 (xs:=rkd a.Bids l) (by omega) (fun s hs=>hu _ (zs_mem (rkd_mem.1 hs).1)) (rkd a.Bids l) FUEL 0 l.Units l.Reserve rfl (Qbv (by omega)) h0 h1;have e1':f53r3n4 FUEL (rkd a.Bids l) a l 0 l.Units 0=some z:=e1;have e2:f53r3n0 a l 0=(some z).bind fun o=>match o with | .exit2=>some .norm | .ret v=>some (.ret v):=by
  unfold f53r3n0;rw [f53r3_2 a l 0 (by omega),e1'];cases z<;>rfl
 unfold f57r1 f57r1n0 f57r1n1 f57r1n2 f53r3;rw [e2];rcases e3 with ⟨rfl,e3⟩ | rfl
 ·rw [e3]; rfl
 ·rfl
theorem f53r9_l(a:AA)(l:AL){xs:List SH}(hx:xs.length≤1000)(ho:uOk xs):∀(r:List SH)(f k:Nat)(n q:Int),xs.drop k=r→r.length<f→0≤n→n≤1048576→n≤q→q≤1048576 →
  f53r9n4 f xs a l n (k:Int) q=some (.exit2 (lftN q n r))
 | _,0,_,_,_,_,h,_,_,_,_=>absurd h (Nat.not_lt_zero _)
 | [],f+1,k,n,q,hd,_,_,_,_,_=>by
  have:=Qay hd;rw [f53r9n4,decide_eq_false (by omega),cond_false,lftN]
 | s::r,f+1,k,n,q,hd,hf,h0,h1,h2,h3=>by
  have hk:=dropAt hd;have hu:=ho s (List.mem_of_mem_drop (hd ▸ List.mem_cons_self));have hn':0≤n-min n s.bid.Units∧n-min n s.bid.Units≤1048576:=by omega
  have hw:wr64 (n-min n s.bid.Units)=n-min n s.bid.Units:=wrIn (by omega) (by omega);rw [f53r9n4,decide_eq_true (by have:=hk.2.1; omega),cond_true];unfold f53r9n3 f18y1n0;rw [hk.1];simp only [Option.bind_some,mnI_eq,hw];rw [lftN,wrSucc (by have:=hk.2.1; omega),show wr64 (q-min n s.bid.Units)=q-min n s.bid.Units from wrIn (by omega) (by omega)];exact f53r9_l a l hx ho r f (k+1) _ _ hk.2.2 (by simpa using hf) hn'.1 hn'.2 (by omega) (by omega)
theorem f53r9_eq{a:AA}{l:AL}(hb:a.Bids.length≤100)(hu:∀b∈a.Bids,1≤b.Units∧b.Units≤1048576)(h0:0≤l.Units)(h1:l.Units≤1048576) :
  f53r9 a l l.Units=some (lftN l.Units l.Units (rkd a.Bids l)):=by
 have hr:=rkd_len a.Bids l;have e1:=f53r9_l a l (xs:=rkd a.Bids l) (by omega) (fun s hs=>hu _ (zs_mem (rkd_mem.1 hs).1)) (rkd a.Bids l) FUEL 0 l.Units l.Units rfl (Qbv (by omega)) h0 h1 (Int.le_refl _) h1;have e1':f53r9n4 FUEL (rkd a.Bids l) a l l.Units 0 l.Units=_:=e1;unfold f53r9 f53r9n0;rw [f53r9_2 a l l.Units (by omega),e1']; rfl
end Go.Proofs.Ythpceddjepbamaa
namespace Go.Proofs.Ythpceddjepbamaa
set_option linter.unusedVariables false
set_option linter.unusedSimpArgs false
open Go.RowKit
theorem rk_iff{l:AL}{s:SH} : rk l s=true↔s.bid.Lot=l.Name∧l.Reserve≤s.bid.Price:=by
 unfold rk; rw [Bool.and_eq_true,seq_iff,decide_eq_true_eq]
def sumU:List SH→Int
 | []=>0
 | s::r=>s.bid.Units+sumU r
theorem sumU_app:∀a b:List SH,sumU (a++b)=sumU a+sumU b
 | [],b=>by simp [sumU]
 | x::a,b=>by rw [List.cons_append,sumU,sumU,sumU_app a b]; omega
theorem sumU_perm{a b:List SH}(h:a.Perm b):sumU a=sumU b:=by
 induction h with
 | nil=>rfl
 | cons x _ ih=>simp only [sumU,ih]
 | swap x y l=>simp only [sumU]; omega
 | trans _ _ h1 h2=>exact h1.trans h2

def gt(n:Int)(T:List SH)(s:SH):Int:=min (max (n-sumU (T.filter fun t=>bef t s)) 0) s.bid.Units
theorem filt_pre{P r:List SH}{s:SH}(h:Bef (P++s::r)):(P++s::r).filter (fun t=>bef t s)=P:=by
 have h':=List.pairwise_append.1 h;have h2:=List.pairwise_cons.1 h'.2.1;rw [List.filter_append,List.filter_cons,bef_irr,List.filter_eq_self.2 (fun t ht=>h'.2.2 t ht s List.mem_cons_self),List.filter_eq_nil_iff.2 (fun t ht=>by rw [bef_asym (h2.1 t ht)]; simp)]
 simp
theorem tk_zero{p:SH→Int} : ∀{r:List SH},uOk r→tk p 0 r=[]
 | [],_=>rfl
 | s::r,h=>by rw [tk,decide_eq_true (by have:=h s List.mem_cons_self; omega),cond_true]
section
variable {U:Int} {T:List SH}
theorem gt_at{P r:List SH}{s:SH}(h:T=P++s::r)(hT:Bef T):gt U T s=min (max (U-sumU P) 0) s.bid.Units:=by
 unfold gt; rw [h,filt_pre (h ▸ hT)]
theorem step_n{P:List SH}{s:SH}{n:Int}(hn:n=max (U-sumU P) 0)(hs:1≤s.bid.Units):n-min n s.bid.Units=max (U-sumU (P++[s])) 0:=by
 rw [sumU_app]; simp only [sumU]; omega
theorem tk_eq(p:SH→Int)(hT:Bef T)(hu:uOk T):∀(r P:List SH)(n:Int),T=P++r→n=max (U-sumU P) 0 →
  tk p n r=(r.filter fun s=>!(decide (gt U T s=0))).map fun s=>⟨s.index,gt U T s,p s⟩
 | [],_,_,_,_=>rfl
 | s::r,P,n,h,hn=>by
  have hs:=hu s (by rw [h]; simp);have hg:=gt_at (U:=U) h hT;rw [←hn] at hg;have ih:=tk_eq p hT hu r (P++[s]) (n-min n s.bid.Units) (by rw [h]; simp) (step_n hn hs.1);rw [tk,List.filter_cons,hg]
  by_cases hz:min n s.bid.Units=0
  ·rw [decide_eq_true hz,cond_true,Bool.not_true];have hn0:n-min n s.bid.Units=0:=by omega
   rw [hn0,tk_zero (fun t ht=>hu t (by rw [h]; simp [ht]))] at ih;simpa using ih
  ·rw [decide_eq_false hz,cond_false,ih];simp [hg]
def low(q:Int)(W:List SH):Int:=W.foldl (fun _ s=>s.bid.Price) q
theorem lowP_eq(hT:Bef T)(hu:uOk T):∀(r P:List SH)(n q:Int),T=P++r→n=max (U-sumU P) 0 →
  lowP q n r=low q (r.filter fun s=>!(decide (gt U T s=0)))
 | [],_,_,_,_,_=>rfl
 | s::r,P,n,q,h,hn=>by
  have hs:=hu s (by rw [h]; simp);have hg:=gt_at (U:=U) h hT;rw [←hn] at hg;rw [lowP,lowP_eq hT hu r (P++[s]) (n-min n s.bid.Units) _ (by rw [h]; simp) (step_n hn hs.1),List.filter_cons,hg]
  by_cases hz:min n s.bid.Units=0
  ·rw [decide_eq_true hz,decide_eq_false (by omega)]; rfl
  ·rw [decide_eq_false hz,decide_eq_true (by omega)]; rfl
def rej(q:Int)(g:SH→Int)(T:List SH):Int:=match T.find? (fun s=>decide (g s<s.bid.Units)) with | some s=>s.bid.Price | none=>q
theorem rejP_eq(hT:Bef T)(hu:uOk T)(q:Int):∀(r P:List SH)(n:Int),T=P++r→n=max (U-sumU P) 0→rejP q n r=rej q (gt U T) r
 | [],_,_,_,_=>rfl
 | s::r,P,n,h,hn=>by
  have hs:=hu s (by rw [h]; simp);have hg:=gt_at (U:=U) h hT;rw [←hn] at hg;rw [rejP,rejP_eq hT hu q r (P++[s]) (n-min n s.bid.Units) (by rw [h]; simp) (step_n hn hs.1),rej,rej,List.find?_cons,hg];cases decide (min n s.bid.Units<s.bid.Units)<;>rfl
def sumG(g:SH→Int):List SH→Int
 | []=>0
 | s::r=>g s+sumG g r
theorem lftN_eq(hT:Bef T)(hu:uOk T):∀(r P:List SH)(n q:Int),T=P++r→n=max (U-sumU P) 0→lftN q n r=q-sumG (gt U T) r
 | [],_,_,_,_,_=>by simp [lftN,sumG]
 | s::r,P,n,q,h,hn=>by
  have hs:=hu s (by rw [h]; simp);have hg:=gt_at (U:=U) h hT;rw [←hn] at hg;rw [lftN,lftN_eq hT hu r (P++[s]) (n-min n s.bid.Units) _ (by rw [h]; simp) (step_n hn hs.1),sumG,hg]; omega
end
def rkG(bs:List AB)(l:AL)(s:SH):Int:=gt l.Units (rkd bs l) s
def won(bs:List AB)(l:AL):List SH:=(rkd bs l).filter fun s=>!(decide (rkG bs l s=0))
def lowA(bs:List AB)(l:AL):Int:=low l.Reserve (won bs l)
def rejA(bs:List AB)(l:AL):Int:=rej l.Reserve (rkG bs l) (rkd bs l)
def prc(rule:Int)(bs:List AB)(l:AL)(s:SH):Int:=bif decide (rule=1) then lowA bs l else bif decide (rule=2) then rejA bs l else s.bid.Price
def awL(rule:Int)(bs:List AB)(l:AL):List AW:=(won bs l).map fun s=>⟨s.index,rkG bs l s,prc rule bs l s⟩
theorem rkd_uok{bs:List AB}{l:AL}(hu:∀b∈bs,1≤b.Units∧b.Units≤1048576):uOk (rkd bs l):=fun s hs=>hu _ (zs_mem (rkd_mem.1 hs).1)
theorem tkA{bs:List AB}{l:AL}(hu:∀b∈bs,1≤b.Units∧b.Units≤1048576)(h0:0≤l.Units)(p:SH→Int):tk p l.Units (rkd bs l)=(won bs l).map fun s=>⟨s.index,rkG bs l s,p s⟩ :=
 tk_eq p (rkd_bef bs l) (rkd_uok hu) (rkd bs l) [] l.Units rfl (by simp [sumU]; omega)
theorem f12n2_eq{a:AA}(hv:Vl a){k:Nat}{l:AL}(hk:at? a.Lots (k:Int)=some l)(hm:l∈a.Lots)(o:List AW)(ho:o.length≤10000):f12n2 a (k:Int) o=some (.norm (o++awL a.Rule a.Bids l)):=by
 have hu:∀b∈a.Bids,1≤b.Units∧b.Units≤1048576:=fun b hb=>⟨(hv.bids b hb).2.1,(hv.bids b hb).2.2.1⟩;have hl:=hv.lots l hm;have h0:0≤l.Units:=by omega
 have e35:f35r1 a l=some ():=rfl;have e36:f36r1=some ():=rfl;unfold f12n2;rw [hk];simp only [Option.bind_some,e35,e36];unfold awL prc
 by_cases h1:a.Rule=1
 ·rw [decide_eq_true h1,cond_true,f56_eq hv.nb hu h0 hl.2.2.1];obtain ⟨q,e⟩:=f53r6_eq (a:=a) (l:=l) (lowP l.Reserve l.Units (rkd a.Bids l)) o hv.nb hu h0 hl.2.2.1 ho;simp only [Option.bind_some,cond_true];unfold f12n3;rw [e,tkA hu h0];have e2:lowP l.Reserve l.Units (rkd a.Bids l)=lowA a.Bids l:=lowP_eq (rkd_bef a.Bids l) (rkd_uok hu) (rkd a.Bids l) [] l.Units l.Reserve rfl (by simp [sumU]; omega);rw [e2];cases q<;>rfl
 ·rw [decide_eq_false h1,cond_false]
  by_cases h2:a.Rule=2
  ·rw [decide_eq_true h2,cond_true,f57_eq hv.nb hu h0 hl.2.2.1];obtain ⟨q,e⟩:=f53r7_eq (a:=a) (l:=l) (rejP l.Reserve l.Units (rkd a.Bids l)) o hv.nb hu h0 hl.2.2.1 ho;simp only [Option.bind_some,cond_true,cond_false];unfold f12n4;rw [e,tkA hu h0];have e2:rejP l.Reserve l.Units (rkd a.Bids l)=rejA a.Bids l:=rejP_eq (rkd_bef a.Bids l) (rkd_uok hu) l.Reserve (rkd a.Bids l) [] l.Units rfl (by simp [sumU]; omega);rw [e2];cases q<;>rfl
  ·rw [decide_eq_false h2,cond_false];obtain ⟨q,e⟩:=f53r8_eq (a:=a) (l:=l) 0 o hv.nb hu h0 hl.2.2.1 ho;unfold f12n5;rw [e,tkA hu h0];cases q<;>rfl
theorem awL_len(rule:Int)(bs:List AB)(l:AL):(awL rule bs l).length≤bs.length:=by
 unfold awL won;rw [List.length_map];exact Nat.le_trans (List.length_filter_le _ _) (rkd_len bs l)
theorem f12n6_at{a:AA}(hv:Vl a):∀(r:List AL)(f k:Nat)(o:List AW),a.Lots.drop k=r→r.length<f→o.length+100*r.length≤2000→f12n6 f a (k:Int) o=some (.exit0 (o++r.flatMap (awL a.Rule a.Bids)))
 | _,0,_,_,_,h,_=>absurd h (Nat.not_lt_zero _)
 | [],f+1,k,o,hd,_,_=>by
  have:=Qay hd;rw [f12n6,decide_eq_false (by omega),cond_false,List.flatMap_nil,List.append_nil]
 | l::r,f+1,k,o,hd,hf,ho=>by
  have hk:=dropAt hd;have hnl:=hv.nl;have hnb:=hv.nb;have hw:=awL_len a.Rule a.Bids l;rw [List.length_cons] at ho hf;rw [f12n6,decide_eq_true (by have:=hk.2.1; omega),cond_true,f12n2_eq hv hk.1 (List.mem_of_mem_drop (hd ▸ List.mem_cons_self)) o (by omega)];simp only [Option.bind_some];rw [wrSucc (by have:=hk.2.1; omega),f12n6_at hv r f (k+1) _ hk.2.2 (by omega) (by rw [List.length_append]; omega),List.flatMap_cons,List.append_assoc]
def cA(x y:AW):Int:=cmpI x.Bid y.Bid
theorem cA_cmp:Cmp cA:=Cmp.int Qc.Bid
theorem f38_eq(x y:AW):f38 x y=some (cA x y):=by unfold f38 f38n0; rw [f39_eq]; rfl
def outA(a:AA):List AW:=a.Lots.flatMap (awL a.Rule a.Bids)
theorem outA_len{a:AA}(hv:Vl a):(outA a).length≤1600:=by
 have h:∀ls:List AL,(ls.flatMap (awL a.Rule a.Bids)).length≤100*ls.length:=fun ls=>by
  induction ls with
  | nil=>simp
  | cons l r ih =>
   have:=awL_len a.Rule a.Bids l;have:=hv.nb;rw [List.flatMap_cons,List.length_append,List.length_cons]; omega
 have:=h a.Lots;have:=hv.nl;unfold outA; omega
theorem f12_good{a:AA}(h:okA a=true):f12 a=some (sortL cA (outA a),0):=by
 have hv:=okA_vl h;have h1:f12n1 a=some (.norm (outA a)):=by
  unfold f12n1;have hl:=hv.nl;have:=f12n6_at hv a.Lots FUEL 0 [] rfl (Qbv (by omega)) (by simp; omega);rw [show ((0:Nat):Int)=0 from rfl,List.nil_append] at this;rw [this]; rfl
 unfold f12 f12n0;rw [f31_eq,h,cond_true];simp only [Option.bind_some,decide_true,cond_true,h1];rw [so37_38_val f38_eq cA_cmp.SWO (by have:=outA_len hv; omega)];rfl
theorem f12_none{a:AA}(h:okA a=false):f12 a=some ([],8):=by
 unfold f12 f12n0;rw [f31_eq,h]; rfl

def Z(bs:List AB):List SH:=zs bs 0
def bfr(bs:List AB)(s:SH):Int:=sumU ((Z bs).filter fun t=>seq t.bid.Lot s.bid.Lot&&bef t s)
def gets(bs:List AB)(l:AL)(s:SH):Int:=bif decide (l.Reserve≤s.bid.Price) then min (max (l.Units-bfr bs s) 0) s.bid.Units else 0
theorem rkG_eq{bs:List AB}{l:AL}{s:SH}(h:rk l s=true):rkG bs l s=gets bs l s:=by
 rw [rk_iff] at h;unfold rkG gt gets bfr;rw [decide_eq_true h.2,cond_true,sumU_perm ((rkd_perm bs l).filter _)];unfold all_ Z;rw [List.filter_filter]
 congr 4
 apply List.filter_congr
 intro t _;unfold rk;rw [h.1];cases h1:bef t s with
 | false=>simp
 | true =>
  rw [bef_iff] at h1;rw [decide_eq_true (by omega:l.Reserve≤t.bid.Price)]; simp
def aw(a:AA)(s:SH):Option AW:=match lotN s.bid.Lot a.Lots with
 | some l=>bif decide (gets a.Bids l s=0) then none else some ⟨s.index,gets a.Bids l s,prc a.Rule a.Bids l s⟩
 | none=>none
def awS(a:AA):List AW:=(Z a.Bids).filterMap (aw a)
theorem aw_bid{a:AA}{s:SH}{x:AW}(h:aw a s=some x):x.Bid=s.index:=by
 unfold aw at h
 split at h
 ·rename_i l _;cases k:decide (gets a.Bids l s=0) with
  | true=>rw [k] at h; cases h
  | false=>rw [k] at h; obtain rfl:=Option.some.inj h; rfl
 ·cases h
theorem gets_rk{bs:List AB}{l:AL}{s:SH}(hn:s.bid.Lot=l.Name)(h:gets bs l s≠0):rk l s=true:=by
 unfold gets at h;unfold rk;cases k:decide (l.Reserve≤s.bid.Price) with
 | false=>rw [k] at h; exact absurd rfl h
 | true=>rw [hn,seq_refl]; rfl
theorem outA_mem{a:AA}(hv:Vl a){x:AW} : x∈outA a↔x∈awS a:=by
 unfold outA awS;rw [List.mem_flatMap,List.mem_filterMap]
 constructor
 ·rintro ⟨l,hl,hx⟩
  unfold awL at hx;obtain ⟨s,hs,rfl⟩:=List.mem_map.1 hx;unfold won at hs;obtain ⟨h1,h2⟩:=List.mem_filter.1 hs;obtain ⟨h3,h4⟩:=rkd_mem.1 h1;rw [rkG_eq h4] at h2 ⊢;have e:s.bid.Lot=l.Name:=by
   unfold rk at h4;rw [Bool.and_eq_true] at h4;exact seq_iff.1 h4.1
  refine ⟨s,h3,?_⟩;unfold aw;rw [e,lotN_of hv.srt l hl];have h5:decide (gets a.Bids l s=0)=false:=by simpa using h2
  simp only [h5,cond_false]
 ·rintro ⟨s,hs,hx⟩
  unfold aw at hx
  split at hx
  ·rename_i l hl;obtain ⟨k1,k2⟩:=lotN_mem hl;cases k:decide (gets a.Bids l s=0) with
   | true=>rw [k] at hx; cases hx
   | false =>
    rw [k] at hx;obtain rfl:=Option.some.inj hx;have hr:=gets_rk k2.symm (of_decide_eq_false k);refine ⟨l,k1,?_⟩;unfold awL won;refine List.mem_map.2 ⟨s,List.mem_filter.2 ⟨rkd_mem.2 ⟨hs,hr⟩,?_⟩,?_⟩
    ·rw [rkG_eq hr,k]; rfl
    ·rw [rkG_eq hr]
  ·cases hx
theorem awS_lt(a:AA):(awS a).Pairwise fun x y=>x.Bid<y.Bid:=by
 unfold awS;rw [List.pairwise_filterMap];refine (zs_idx a.Bids 0).1.imp fun {s t} h x hx y hy=>?_;rw [aw_bid hx,aw_bid hy]; exact h
theorem nodup_bid{l:List AW}(h:l.Pairwise fun x y=>x.Bid≠y.Bid):l.Nodup:=h.imp fun {x y} h e=>h (by rw [e])
theorem mem_awL{rule:Int}{bs:List AB}{l:AL}{x:AW}(h:x∈awL rule bs l):∃s∈Z bs,s.index=x.Bid∧s.bid.Lot=l.Name:=by
 unfold awL won at h;obtain ⟨s,hs,rfl⟩:=List.mem_map.1 h;obtain ⟨h3,h4⟩:=rkd_mem.1 (List.mem_filter.1 hs).1;unfold rk at h4;rw [Bool.and_eq_true] at h4;exact ⟨s,h3,rfl,seq_iff.1 h4.1⟩
theorem Z_inj{bs:List AB}{s t:SH}(hs:s∈Z bs)(ht:t∈Z bs)(h:s.index=t.index):s=t:=by
 obtain ⟨_,_,h3,h4⟩:=(zs_idx bs 0).2 s hs;obtain ⟨_,_,k3,k4⟩:=(zs_idx bs 0).2 t ht;rw [h] at h4;rw [h4] at k4;cases s; cases t
 simp_all
theorem outA_ne{a:AA}(hv:Vl a):(outA a).Pairwise fun x y=>x.Bid≠y.Bid:=by
 unfold outA;rw [List.pairwise_flatMap];refine ⟨fun l hl=>?_,hv.srt.imp fun {l m} hlm x hx y hy e=>?_⟩
 ·unfold awL won;rw [List.pairwise_map];refine List.Pairwise.filter _ ?_;have hb:=rkd_bef a.Bids l;refine (List.Pairwise.and_mem.1 hb).imp fun {s t} h e=>?_;have:=Z_inj (rkd_mem.1 h.1).1 (rkd_mem.1 h.2.1).1 e;rw [this] at h;rw [bef_irr] at h; exact absurd h.2.2 (by simp)
 ·obtain ⟨s,h1,h2,h3⟩:=mem_awL hx;obtain ⟨t,k1,k2,k3⟩:=mem_awL hy;have:=Z_inj h1 k1 (by rw [h2,k2,e]);rw [this,k3] at h3;exact sltNe hlm h3.symm
theorem out_perm{a:AA}(hv:Vl a):(outA a).Perm (awS a) :=
 (List.perm_ext_iff_of_nodup (nodup_bid (outA_ne hv)) (nodup_bid ((awS_lt a).imp fun h=>by omega))).2 fun x=>outA_mem hv
theorem sort_out{a:AA}(hv:Vl a):sortL cA (outA a)=awS a:=by
 have hp:(sortL cA (outA a)).Perm (awS a):=(sortL_perm cA_cmp.SWO _).trans (out_perm hv);have o:SWo fun x y:AW=>decide (cA x y<0):=cA_cmp.swo;have hn:(awS a).Pairwise fun x y=>eqv (fun x y:AW=>decide (cA x y<0)) x y=false:=(awS_lt a).imp fun {x y} h=>by
  rw [←Bool.not_eq_true,cA_cmp.eqv];unfold cA;rw [cmpI_zero]; omega
 have s1:Sd (fun x y:AW=>decide (cA x y<0)) (sortL cA (outA a)):=sortL_sorted cA_cmp.SWO _;have s2:Sd (fun x y:AW=>decide (cA x y<0)) (awS a):=(awS_lt a).imp fun {x y} h=>by
  rw [decide_eq_false_iff_not];unfold cA;rw [cmpI_neg]; omega
 exact (sorted_one o s2 s1 (Cl.of_perm hp hn o)).symm
theorem f12_eq(a:AA):f12 a=some (bif okA a then (awS a,0) else ([],8)):=by
 cases h:okA a with
 | true=>rw [f12_good h,sort_out (okA_vl h)]; rfl
 | false=>rw [f12_none h]; rfl
end Go.Proofs.Ythpceddjepbamaa
namespace Go.Proofs.Ythpceddjepbamaa
set_option linter.unusedVariables false
set_option linter.unusedSimpArgs false
set_option maxRecDepth 100000
open Go.RowKit
theorem at_Z{bs:List AB}{s:SH}(h:s∈Z bs):at? bs s.index=some s.bid:=by
 obtain ⟨h1,h2,_,h4⟩:=(zs_idx bs 0).2 s h;unfold at?;rw [if_pos h1];rw [show s.index-0=s.index by omega] at h4;exact h4
theorem Z_bid{bs:List AB}{s:SH}(h:s∈Z bs):s.bid∈bs:=zs_mem h

theorem gets_rng{bs:List AB}{l:AL}{s:SH}(h:1≤s.bid.Units):0≤gets bs l s∧gets bs l s≤s.bid.Units:=by
 unfold gets;cases decide (l.Reserve≤s.bid.Price) with
 | false=>rw [cond_false]; omega
 | true=>rw [cond_true]; omega
theorem low_mem(q:Int):∀W:List SH,low q W=q∨∃s∈W,low q W=s.bid.Price
 | []=>.inl rfl
 | x::r=>by
  have e:low q (x::r)=low x.bid.Price r:=rfl;rw [e];rcases low_mem x.bid.Price r with h | ⟨s,hs,h⟩
  ·exact .inr ⟨x,List.mem_cons_self,h⟩
  ·exact .inr ⟨s,List.mem_cons_of_mem _ hs,h⟩
theorem rej_mem(q:Int)(g:SH→Int)(T:List SH):(rej q g T=q∧∀s∈T,s.bid.Units≤g s)∨∃s∈T,g s<s.bid.Units∧rej q g T=s.bid.Price:=by
 unfold rej;cases h:T.find? (fun s=>decide (g s<s.bid.Units)) with
 | none =>
  refine .inl ⟨rfl,fun s hs=>?_⟩;have:=List.find?_eq_none.1 h s hs;simp at this; exact this
 | some s =>
  have h1:=List.mem_of_find?_eq_some h;have h2:=List.find?_some h;exact .inr ⟨s,h1,of_decide_eq_true h2,rfl⟩
structure AwOk (a:AA) (x:AW) (s:SH) (l:AL):Prop where
 z:s∈Z a.Bids
 l_:l∈a.Lots
 nm:s.bid.Lot=l.Name
 idx:x.Bid=s.index
 un:x.Units=gets a.Bids l s
 pr:x.Price=prc a.Rule a.Bids l s
 rk_:rk l s=true
 pos:1≤x.Units
 le:x.Units≤s.bid.Units
theorem awS_ok{a:AA}(hv:Vl a){x:AW}(h:x∈awS a):∃s l,AwOk a x s l:=by
 unfold awS at h;obtain ⟨s,hs,hx⟩:=List.mem_filterMap.1 h;unfold aw at hx
 split at hx
 ·rename_i l hl;obtain ⟨k1,k2⟩:=lotN_mem hl;cases k:decide (gets a.Bids l s=0) with
  | true=>rw [k] at hx; cases hx
  | false =>
   rw [k] at hx;obtain rfl:=Option.some.inj hx;have h0:=of_decide_eq_false k;have hr:=gets_rng (bs:=a.Bids) (l:=l) (s:=s) (hv.bids _ (Z_bid hs)).2.1;exact ⟨s,l,hs,k1,k2.symm,rfl,rfl,rfl,gets_rk k2.symm h0,by show 1≤gets a.Bids l s; omega,hr.2⟩
 ·cases hx
theorem prc_rng{a:AA}(hv:Vl a){l:AL}(hl:l∈a.Lots){s:SH}(hs:s∈Z a.Bids)(hr:rk l s=true):l.Reserve≤prc a.Rule a.Bids l s∧prc a.Rule a.Bids l s≤33554432:=by
 have h1:=hv.lots l hl;have h2:∀t∈rkd a.Bids l,l.Reserve≤t.bid.Price∧t.bid.Price≤33554432:=fun t ht=>by
  have:=rkd_mem.1 ht;have h3:=hv.bids _ (Z_bid this.1);exact ⟨(rk_iff.1 this.2).2,h3.2.2.2.2⟩
 have h3:=h2 s (rkd_mem.2 ⟨hs,hr⟩);unfold prc;cases decide (a.Rule=1) with
 | true =>
  rw [cond_true];unfold lowA;rcases low_mem l.Reserve (won a.Bids l) with e | ⟨t,ht,e⟩
  ·omega
  ·have:=h2 t (List.mem_filter.1 ht).1; omega
 | false =>
  cases decide (a.Rule=2) with
  | true =>
   rw [cond_false,cond_true];unfold rejA;rcases rej_mem l.Reserve (rkG a.Bids l) (rkd a.Bids l) with ⟨e,_⟩|⟨t,ht,_,e⟩
   ·omega
   ·have:=h2 t ht; omega
  | false=>exact h3
theorem mul_rng{u p U P:Int}(h0:0≤u)(h1:u≤U)(h2:0≤p)(h3:p≤P):0≤u*p∧u*p≤U*P :=
 ⟨Int.mul_nonneg h0 h2,Int.mul_le_mul h1 h3 h2 (by omega)⟩
theorem awS_rng{a:AA}(hv:Vl a){x:AW}(h:x∈awS a):1≤x.Units∧x.Units≤1048576∧0≤x.Price∧x.Price≤33554432∧0≤x.Units*x.Price∧x.Units*x.Price≤35184372088832:=by
 obtain ⟨s,l,k⟩:=awS_ok hv h;have h1:=hv.bids _ (Z_bid k.z);have h2:=prc_rng hv k.l_ k.z k.rk_;have h3:=hv.lots l k.l_;have:=k.pos; have:=k.le;rw [←k.pr] at h2;have:=mul_rng (u:=x.Units) (p:=x.Price) (U:=1048576) (P:=33554432) (by omega) (by omega) (by omega) (by omega);exact ⟨by omega,by omega,by omega,by omega,this.1,this.2⟩
theorem awS_len(a:AA):(awS a).length≤a.Bids.length:=by
 unfold awS;refine Nat.le_trans (List.length_filterMap_le _ _) ?_;unfold Z; rw [zs_len]; exact Nat.le_refl _

def sumW(q:AW→Bool):List AW→Int
 | []=>0
 | x::r=>(bif q x then x.Units*x.Price else 0)+sumW q r
def mbr(bs:List AB)(x:AW):ByteArray:=match at? bs x.Bid with | some b=>b.Member | none=>str_x
theorem awS_at{a:AA}(hv:Vl a){x:AW}(h:x∈awS a):∃b,at? a.Bids x.Bid=some b∧b∈a.Bids:=by
 obtain ⟨s,l,k⟩:=awS_ok hv h;exact ⟨s.bid,by rw [k.idx]; exact at_Z k.z,Z_bid k.z⟩
theorem f40m_l{a:AA}(bh:List AW×Int)(m:ByteArray):∀(l:List AW)(n v:Int),(∀x∈l,(∃b,at? a.Bids x.Bid=some b)∧0≤x.Units*x.Price∧x.Units*x.Price≤35184372088832)→0≤n→n+35184372088832*l.length≤9000000000000000000 →
  f40r1n2L bh m a l n v=some (.exit0 (n+sumW (fun x=>seq (mbr a.Bids x) m) l))
 | [],n,v,_,_,_=>by rw [f40r1n2L,sumW,Int.add_zero]
 | x::r,n,v,h,h0,hn=>by
  obtain ⟨⟨b,hb⟩,h1,h2⟩:=h x List.mem_cons_self;have h':∀y∈r,(∃b,at? a.Bids y.Bid=some b)∧0≤y.Units*y.Price∧y.Units*y.Price≤35184372088832:=fun y hy=>h y (List.mem_cons_of_mem _ hy);rw [List.length_cons] at hn;have e42:f42r1 b m=some ():=rfl;rw [f40r1n2L,hb,sumW,mbr,hb];simp only [Option.bind_some,e42];cases seq b.Member m with
  | true =>
   rw [cond_true,cond_true,show wr64 (x.Units*x.Price)=x.Units*x.Price from wrIn (by omega) (by omega),show wr64 (n+x.Units*x.Price)=n+x.Units*x.Price from wrIn (by omega) (by omega),f40m_l bh m r _ _ h' (by omega) (by omega),Int.add_assoc]
  | false=>rw [cond_false,cond_false,f40m_l bh m r _ _ h' h0 (by omega),Int.zero_add]
theorem f40p_l{a:AA}(bh:List AW×Int):∀(l:List AW)(n v:Int),(∀x∈l,(∃b,at? a.Bids x.Bid=some b)∧0≤x.Units*x.Price∧x.Units*x.Price≤35184372088832)→0≤n→n+35184372088832*l.length≤9000000000000000000 →
  Qbt bh a l n v=some (.exit0 (n+sumW (fun _=>true) l))
 | [],n,v,_,_,_=>by rw [Qbt,sumW,Int.add_zero]
 | x::r,n,v,h,h0,hn=>by
  obtain ⟨⟨b,hb⟩,h1,h2⟩:=h x List.mem_cons_self;have h':∀y∈r,(∃b,at? a.Bids y.Bid=some b)∧0≤y.Units*y.Price∧y.Units*y.Price≤35184372088832:=fun y hy=>h y (List.mem_cons_of_mem _ hy);rw [List.length_cons] at hn;have e41:f41 b=some true:=rfl;rw [Qbt,hb,sumW];simp only [Option.bind_some,e41];rw [cond_true,cond_true,show wr64 (x.Units*x.Price)=x.Units*x.Price from wrIn (by omega) (by omega),show wr64 (n+x.Units*x.Price)=n+x.Units*x.Price from wrIn (by omega) (by omega),f40p_l bh r _ _ h' (by omega) (by omega),Int.add_assoc]
theorem aw_fit{a:AA}(hv:Vl a):(0:Int)+35184372088832*((awS a).length:Int)≤9000000000000000000:=by
 have:=awS_len a;have:=hv.nb;omega
theorem aw_all{a:AA}(hv:Vl a):∀x∈awS a,(∃b,at? a.Bids x.Bid=some b)∧0≤x.Units*x.Price∧x.Units*x.Price≤35184372088832:=fun x hx=>by
 obtain ⟨b,h,_⟩:=awS_at hv hx;have:=awS_rng hv hx;exact ⟨⟨b,h⟩,this.2.2.2.2.1,this.2.2.2.2.2⟩
def paidS(a:AA)(m:ByteArray):Int:=sumW (fun x=>seq (mbr a.Bids x) m) (awS a)
def procS(a:AA):Int:=sumW (fun _=>true) (awS a)
theorem f16_eq(a:AA)(m:ByteArray):f16 a m=some (bif okA a then (paidS a m,0) else (0,8)):=by
 unfold f16 f16n0 f40r1 f40r1n0 f40r1n1;rw [f12_eq];cases h:okA a with
 | true =>
  have hv:=okA_vl h;simp only [cond_true,Option.bind_some];rw [f40r1n2_run (awS a,0) m a 0 (Qcg (by show (awS a).length≤_; have:=awS_len a; have:=hv.nb; omega))];rw [show f40r1n2L (awS a,0) m a (awS a,(0:Int)).1 0 0=_ from f40m_l (awS a,0) m (awS a) 0 0 (aw_all hv) (Int.le_refl _) (aw_fit hv),Int.zero_add]; rfl
 | false =>
  simp only [cond_false,Option.bind_some];rw [f40r1n2_run ([],8) m a 0 (Qcg (by simp))]; rfl
theorem f15_eq(a:AA):f15 a=some (bif okA a then (procS a,0) else (0,8)):=by
 unfold f15 f15n0 f40_41 f40_41n0 f40_41n1;rw [f12_eq];cases h:okA a with
 | true =>
  have hv:=okA_vl h;simp only [cond_true,Option.bind_some];rw [f40_41n2_run (awS a,0) a 0 (Qcg (by show (awS a).length≤_; have:=awS_len a; have:=hv.nb; omega))];rw [show Qbt (awS a,0) a (awS a,(0:Int)).1 0 0=_ from f40p_l (awS a,0) (awS a) 0 0 (aw_all hv) (Int.le_refl _) (aw_fit hv),Int.zero_add]; rfl
 | false =>
  simp only [cond_false,Option.bind_some];rw [f40_41n2_run ([],8) a 0 (Qcg (by simp))]; rfl

def leftL(bs:List AB)(l:AL):Int:=l.Units-sumG (rkG bs l) (rkd bs l)
theorem f18n2_eq{a:AA}(hv:Vl a){k:Nat}{l:AL}(hk:at? a.Lots (k:Int)=some l)(hm:l∈a.Lots)(o:List Int)(ho:o.length≤1000):f18n2 a (k:Int) o=some (.norm (o++[leftL a.Bids l])):=by
 have hu:∀b∈a.Bids,1≤b.Units∧b.Units≤1048576:=fun b hb=>⟨(hv.bids b hb).2.1,(hv.bids b hb).2.2.1⟩;have hl:=hv.lots l hm;have h0:0≤l.Units:=by omega
 have e35:f35r1 a l=some ():=rfl;have e:lftN l.Units l.Units (rkd a.Bids l)=leftL a.Bids l:=lftN_eq (rkd_bef a.Bids l) (rkd_uok hu) (rkd a.Bids l) [] l.Units l.Units rfl (by simp [sumU]; omega);unfold f18n2 f18n3 f18n4;rw [hk];simp only [Option.bind_some,e35];rw [f53r9_eq hv.nb hu h0 hl.2.2.1,e];simp only [Option.bind_some];rw [req,fitSmall (by omega) (by omega),cond_true]
theorem f18n5_at{a:AA}(hv:Vl a):∀(r:List AL)(f k:Nat)(o:List Int),a.Lots.drop k=r→r.length<f→o.length+r.length≤100→f18n5 f a (k:Int) o=some (.exit0 (o++r.map (leftL a.Bids)))
 | _,0,_,_,_,h,_=>absurd h (Nat.not_lt_zero _)
 | [],f+1,k,o,hd,_,_=>by
  have:=Qay hd;rw [f18n5,decide_eq_false (by omega),cond_false,List.map_nil,List.append_nil]
 | l::r,f+1,k,o,hd,hf,ho=>by
  have hk:=dropAt hd;have hnl:=hv.nl;rw [List.length_cons] at ho hf;rw [f18n5,decide_eq_true (by have:=hk.2.1; omega),cond_true,f18n2_eq hv hk.1 (List.mem_of_mem_drop (hd ▸ List.mem_cons_self)) o (by omega)];simp only [Option.bind_some];rw [wrSucc (by have:=hk.2.1; omega),f18n5_at hv r f (k+1) _ hk.2.2 (by omega) (by rw [List.length_append]; simp; omega),List.map_cons,List.append_assoc]; rfl
def leftS(a:AA):List Int:=a.Lots.map (leftL a.Bids)
theorem f18_eq(a:AA):f18 a=some (bif okA a then (leftS a,0) else ([],8)):=by
 unfold f18 f18n0;rw [f31_eq];cases h:okA a with
 | true =>
  have hv:=okA_vl h;have h1:f18n1 a=some (.norm (leftS a)):=by
   unfold f18n1;have hl:=hv.nl;have:=f18n5_at hv a.Lots FUEL 0 [] rfl (Qbv (by omega)) (by simp; omega);rw [show ((0:Nat):Int)=0 from rfl,List.nil_append] at this;rw [this]; rfl
  simp only [cond_true,Option.bind_some,decide_true,h1]
 | false=>rfl

theorem f34_eq(a:AA)(m:ByteArray):f34 a m=some (bif okA a then paidS a m else -1):=by
 unfold f34 f34n0;rw [f16_eq];cases okA a<;>rfl
theorem alive_t:f10=some true:=by
 unfold f10 f10n0 f10n1 f10n2 f10n3;simp only [f34_eq]
 kernel_rfl
end Go.Proofs.Ythpceddjepbamaa
namespace Go.Proofs.Ythpceddjepbamaa
set_option maxRecDepth 100000
theorem lawNames:f9=some true:=by
 unfold f9 f9n0 f9n1 f9n2;simp only [f12_eq,f15_eq,f18_eq,alive_t]
 kernel_rfl
end Go.Proofs.Ythpceddjepbamaa
