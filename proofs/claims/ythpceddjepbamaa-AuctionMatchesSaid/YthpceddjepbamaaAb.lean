/- Several texts in one. No condition. -/
import Derived.Test.YthpceddjepbamaaA6
import Derived.Test.YthpceddjepbamaaTU
namespace Go.Proofs.Ythpceddjepbamaa
set_option linter.unusedVariables false
set_option linter.unusedSimpArgs false
set_option maxRecDepth 100000
open Go.RowKit
noncomputable def c20:Code:=Try.f20.body.getD .skip
inductive f20n0O where
 | ret (v13:Int) (v14:Int) (v15:List Qa)
def f20n0E(a1:Int)(a2:List Qa):f20n0O→Ex×Tr×Hp
 | .ret v13 v14 v15=>(.ret,mkS [(4,(.bp 0 0)),(5,(jI v13))],[some (.box [(.pl (.int .u8 v14)),(.own 1),(.own 2)]),jR 3 Qa.cells v15,some (.row false 4 ([].map Qc.cells))])
def f20n0S(a1:Int)(a2:List Qa):Tr×Hp:=(Qab [(.pl (.int .u8 a1)),(jL 3 Qa.cells a2)] 0 .leaf,[])
noncomputable def f20n0(a1:Int)(a2:List Qa):Option f20n0O :=
 (f14r2 a1 a2).bind fun x5 =>
 (f32 (Qd.mk a1 x5 [])).bind fun x10 =>
 bif decide (x10=0) then
  some (.ret 0 a1 x5)
 else
  some (.ret 2 0 [])
theorem f20n0_ok(a1:Int)(a2:List Qa){o:f20n0O}(h:f20n0 a1 a2=some o):T Try.prog Try.f20.ntmps 0 c20 (f20n0S a1 a2) (·=f20n0E a1 a2 o):=by
 unfold f20n0 at h;obtain ⟨x5,h6,h⟩:=Qe h;obtain ⟨x10,h11,h⟩:=Qe h;rcases Qi h with ⟨h12,h⟩|⟨h12,h⟩
 ·obtain rfl:=Qg h;exact rE Qh [j3,([],[(3,.call (.agg [(.pl (.int .u8 a1)),(.own 2),(.own 3)]) [none,some (.box [(.pl (.int .u8 a1)),(.own 2),(.own 3)]),jR 3 Qa.cells x5,some (.row false 4 ([].map Qc.cells))])],[]),([],[jH 1 (jI x10)],[]),j3] [some false] [] [0,2,3] [4,5] (.ret,(f20n0E a1 a2 (.ret 0 a1 x5)).2) (ap (Qn.rn 1 [] (f14r2_ok a1 a2 h6)) (ap (f32_ok (Qd.mk a1 x5 []) h11) (ap (Qt h12) an))) rfl
 ·obtain rfl:=Qg h;exact rK Qh 3 [j3,([],[(3,.call (.agg [(.pl (.int .u8 a1)),(.own 2),(.own 3)]) [none,some (.box [(.pl (.int .u8 a1)),(.own 2),(.own 3)]),jR 3 Qa.cells x5,some (.row false 4 ([].map Qc.cells))])],[]),([],[jH 1 (jI x10)],[]),j3] [some true] [.matC 0 1 3,.matC 0 2 4] [0,5,6] [4,5] .ret ((f20n0E a1 a2 (.ret 2 0 [])).2) (ap (Qn.rn 1 [] (f14r2_ok a1 a2 h6)) (ap (f32_ok (Qd.mk a1 x5 []) h11) (ap (Qad h12) an))) rfl
noncomputable def f20(a1:Int)(a2:List Qa):Option (Qd×Int):=(f20n0 a1 a2).bind fun o=>match o with
 | .ret v13 v14 v15=>some ((Qd.mk v14 v15 []),v13)
theorem f20_ok(a1:Int)(a2:List Qa){r:Qd×Int}(h:f20 a1 a2=some r):Qn Try.prog false 20 [(.pl (.int .u8 a1)),(jL 3 Qa.cells a2)] [] (.tup [(jA Qd.cells r.1),(jI r.2)]) []:=by
 unfold f20 at h;obtain ⟨o,ho,h⟩:=Qe h;cases o with
 | ret v13 v14 v15 =>
  obtain rfl:=Qg h;exact Qn.plain Qh (f:=Try.f20) (c:=c20) (by kernel_rfl) (by kernel_rfl) (by kernel_rfl) (by kernel_rfl) ((f20n0_ok a1 a2 ho).mono fun r e=>by subst e; exact ⟨.inl rfl,(.tup [(.agg [(.pl (.int .u8 v14)),(.own 1),(.own 2)]),(jI v13)]),(.tup [(.pl (.agg (Qd.cells (Qd.mk v14 v15 [])))),(jI v13)]),by kernel_rfl,by kernel_rfl,((Wk.refl _):Wk (.tup [(.pl (.agg (Qd.cells (Qd.mk v14 v15 [])))),(jI v13)]) (.tup [(.pl (.agg (Qd.cells (Qd.mk v14 v15 [])))),(jI v13)]))⟩)

noncomputable def c21:Code:=Try.f21.body.getD .skip
inductive f21n2O where
 | exit0
 | ret
def f21n2E(ba1 ba2:Qd):f21n2O→Ex×Tr×Hp
 | .exit0=>((.exit 0),mkS [(2,(.bp 0 0)),(3,(.bp 1 0))],[some (.box ((Qd.cells ba1).map .pl)),some (.box ((Qd.cells ba2).map .pl))])
 | .ret=>(.ret,mkS [(4,(jB false))],[])
def f21n2S(ba1 ba2:Qd)(v34:Int):Tr×Hp:=(mkS [(2,(.bp 0 0)),(3,(.bp 1 0)),(5,(jI v34))],[some (.box ((Qd.cells ba1).map .pl)),some (.box ((Qd.cells ba2).map .pl))])
noncomputable def f21n2:Nat→Qd→Qd→Int→Option f21n2O
 | 0,_,_,_=>none
 | f+1,ba1,ba2,v34 =>
  bif decide (v34<(ba1.Lots.length:Int)) then
   (at? ba1.Lots v34).bind fun x42 =>
   (at? ba2.Lots v34).bind fun x44 =>
   bif (Qa.eqb x42 x44) then
    (f21n2 f ba1 ba2 (wr64 (v34+1)))
   else
    some .ret
  else
   some .exit0
theorem f21n2_ok:∀(f:Nat)(ba1 ba2:Qd)(v34:Int){o:f21n2O},f21n2 f ba1 ba2 v34=some o→TL Try.prog Try.f21.ntmps 0 f (cL (cL (Qk 1 (cL (Qk 0 (Qk 2 c21)))))) (f21n2S ba1 ba2 v34) (·=f21n2E ba1 ba2 o)
 | 0,_,_,_,o,h=>by rw [f21n2] at h; cases h
 | f+1,ba1,ba2,v34,o,h=>by
  rw [f21n2] at h;refine TL.body (K:=fun s=>∃v34:Int,s=(f21n2S ba1 ba2 v34)∧f21n2 f ba1 ba2 v34=some o) ?_ (by rintro _ ⟨v34,rfl,hk⟩; exact f21n2_ok f _ _ _ hk);rcases Qi h with ⟨h36,h⟩|⟨h36,h⟩
  ·obtain ⟨x42,h43,h⟩:=Qe h;obtain ⟨x44,h45,h⟩:=Qe h;rcases Qi h with ⟨h46,h⟩|⟨h46,h⟩
   ·exact rE Qh [([],[],[(3,.val (jI (ba1.Lots.length:Int)))]),([],[(3,.idx (Int.toNat v34) (Qa.cells x42)),(8,.idx (Int.toNat v34) (Qa.cells x44)),(10,.bool (Qa.eqb x42 x44))],[]),j3] [some true,some false] [] [0,1] [2,3,5] (.norm,(f21n2S ba1 ba2 (wr64 (v34+1)))) (ap (Qr (xs:=ba1.Lots) (c:=Qa.cells)) (ap h36 (ap (Qj h43).1 (ap (Qm Qa.cells (Qj h43).2) (ap (Qj h45).1 (ap (Qm Qa.cells (Qj h45).2) (ap (Qa.eqb_ok x42 x44) (ap (Qt h46) an)))))))) (Qs.norm ⟨(wr64 (v34+1)),rfl,h⟩)
   ·obtain rfl:=Qg h;exact rK Qh 2 [([],[],[(3,.val (jI (ba1.Lots.length:Int)))]),([],[(3,.idx (Int.toNat v34) (Qa.cells x42)),(8,.idx (Int.toNat v34) (Qa.cells x44)),(10,.bool (Qa.eqb x42 x44))],[]),j3] [some true,some true] [] [] [4] .ret ((f21n2E ba1 ba2 .ret).2) (ap (Qr (xs:=ba1.Lots) (c:=Qa.cells)) (ap h36 (ap (Qj h43).1 (ap (Qm Qa.cells (Qj h43).2) (ap (Qj h45).1 (ap (Qm Qa.cells (Qj h45).2) (ap (Qa.eqb_ok x42 x44) (ap (Qad h46) an)))))))) (Qs.out rfl rfl)
  ·obtain rfl:=Qg h;exact rK Qh 1 [([],[],[(3,.val (jI (ba1.Lots.length:Int)))])] [some false] [] [0,1] [2,3] (.exit 0) ((f21n2E ba1 ba2 .exit0).2) (ap (Qr (xs:=ba1.Lots) (c:=Qa.cells)) (ap h36 an)) (Qs.out rfl rfl)
noncomputable def f21n2L(ba1 ba2:Qd):List Qa→Int→Option f21n2O
 | [],v34 =>
  some .exit0
 | x0::rest,v34 =>
  (at? ba2.Lots v34).bind fun x44 =>
  bif (Qa.eqb x0 x44) then
   (f21n2L ba1 ba2 rest (v34+1))
  else
   some .ret
theorem f21n2L_eq(ba1 ba2:Qd):∀(rest:List Qa)(f k:Nat),ba1.Lots.drop k=rest→ba1.Lots.length≤maxLen→rest.length<f→f21n2 f ba1 ba2 (k:Int)=f21n2L ba1 ba2 rest (k:Int)
 | _,0,_,_,_,hf=>absurd hf (Nat.not_lt_zero _)
 | [],f+1,k,hd,hm,hf=>by
  have hk:¬((k:Int)<(ba1.Lots.length:Int)):=by have:=Qac hd; omega
  rw [f21n2,f21n2L];simp only [decide_eq_false hk,cond_false]
 | x0::rest,f+1,k,hd,hm,hf=>by
  obtain ⟨hx,hlt,hd'⟩:=Qan hd;have hk:(k:Int)<(ba1.Lots.length:Int):=by omega
  have hw:wr64 ((k:Int)+1)=(k:Int)+1:=Qbp (by omega) (by unfold maxLen at hm; omega);have ih:f21n2 f ba1 ba2 ((k:Int)+1)=f21n2L ba1 ba2 rest ((k:Int)+1):=f21n2L_eq ba1 ba2 rest f (k+1) hd' hm (by simpa using hf);rw [f21n2,f21n2L];simp only [decide_eq_true hk,cond_true,Qaq,hx,Option.bind_some,hw,ih]
theorem f21n2_run(ba1 ba2:Qd)(hm:ba1.Lots.length≤maxLen):f21n2 FUEL ba1 ba2 0=f21n2L ba1 ba2 ba1.Lots 0:=f21n2L_eq ba1 ba2 ba1.Lots FUEL 0 List.drop_zero hm (Qai hm)
inductive f21n1O where
 | norm
 | ret
def f21n1E(ba1 ba2:Qd):f21n1O→Ex×Tr×Hp
 | .norm=>(.norm,mkS [(2,(.bp 0 0)),(3,(.bp 1 0))],[some (.box ((Qd.cells ba1).map .pl)),some (.box ((Qd.cells ba2).map .pl))])
 | .ret=>(.ret,mkS [(4,(jB false))],[])
def f21n1S(ba1 ba2:Qd):Tr×Hp:=(mkS [(2,(.bp 0 0)),(3,(.bp 1 0))],[some (.box ((Qd.cells ba1).map .pl)),some (.box ((Qd.cells ba2).map .pl))])
noncomputable def f21n1(ba1 ba2:Qd):Option f21n1O :=
 (f21n2 FUEL ba1 ba2 0).bind fun o47=>match o47 with
 | .exit0=>some .norm
 | .ret=>some .ret
theorem f21n1_ok(ba1 ba2:Qd){o:f21n1O}(h:f21n1 ba1 ba2=some o):T Try.prog Try.f21.ntmps 0 (cL (Qk 0 (Qk 2 c21))) (f21n1S ba1 ba2) (·=f21n1E ba1 ba2 o):=by
 unfold f21n1 at h;refine rN Qh 1 [j3] [] [] [0,1] [2,3,5] (f21n2S ba1 ba2 0) an ?_;obtain ⟨o47,h48,h⟩:=Qe h;cases o47 with
 | exit0 =>
  obtain rfl:=Qg h;exact T.last' (T.bl (i:=0) (by kernel_rfl) (by kernel_rfl) (f21n2_ok FUEL ba1 ba2 0 h48)) (tds:=[]) (m:=[0,1]) (keep:=[2,3]) (st2:=(f21n1E ba1 ba2 .norm).2) (by kernel_rfl) an rfl
 | ret =>
  obtain rfl:=Qg h;exact T.last' (T.bl (i:=0) (by kernel_rfl) (by kernel_rfl) (f21n2_ok FUEL ba1 ba2 0 h48)) (tds:=[]) (m:=[]) (keep:=[4]) (st2:=(f21n1E ba1 ba2 .ret).2) (by kernel_rfl) an rfl
inductive f21n4O where
 | exit2
 | ret
def f21n4E(ba1 ba2:Qd):f21n4O→Ex×Tr×Hp
 | .exit2=>((.exit 2),mkS [],[])
 | .ret=>(.ret,mkS [(4,(jB false))],[])
def f21n4S(ba1 ba2:Qd)(v76:Int):Tr×Hp:=(mkS [(2,(.bp 0 0)),(3,(.bp 1 0)),(6,(jI v76))],[some (.box ((Qd.cells ba1).map .pl)),some (.box ((Qd.cells ba2).map .pl))])
noncomputable def f21n4:Nat→Qd→Qd→Int→Option f21n4O
 | 0,_,_,_=>none
 | f+1,ba1,ba2,v76 =>
  bif decide (v76<(ba1.Bids.length:Int)) then
   (at? ba1.Bids v76).bind fun x84 =>
   (at? ba2.Bids v76).bind fun x86 =>
   bif (Qc.eqb x84 x86) then
    (f21n4 f ba1 ba2 (wr64 (v76+1)))
   else
    some .ret
  else
   some .exit2
theorem f21n4_ok:∀(f:Nat)(ba1 ba2:Qd)(v76:Int){o:f21n4O},f21n4 f ba1 ba2 v76=some o→TL Try.prog Try.f21.ntmps 0 f (cL (cL (Qk 1 (cL (Qk 0 (Qk 1 (Qk 0 (Qk 2 c21)))))))) (f21n4S ba1 ba2 v76) (·=f21n4E ba1 ba2 o)
 | 0,_,_,_,o,h=>by rw [f21n4] at h; cases h
 | f+1,ba1,ba2,v76,o,h=>by
  rw [f21n4] at h;refine TL.body (K:=fun s=>∃v76:Int,s=(f21n4S ba1 ba2 v76)∧f21n4 f ba1 ba2 v76=some o) ?_ (by rintro _ ⟨v76,rfl,hk⟩; exact f21n4_ok f _ _ _ hk);rcases Qi h with ⟨h78,h⟩|⟨h78,h⟩
  ·obtain ⟨x84,h85,h⟩:=Qe h;obtain ⟨x86,h87,h⟩:=Qe h;rcases Qi h with ⟨h88,h⟩|⟨h88,h⟩
   ·exact rE Qh [([],[],[(3,.val (jI (ba1.Bids.length:Int)))]),([],[(3,.idx (Int.toNat v76) (Qc.cells x84)),(8,.idx (Int.toNat v76) (Qc.cells x86)),(10,.bool (Qc.eqb x84 x86))],[]),j3] [some true,some false] [] [0,1] [2,3,6] (.norm,(f21n4S ba1 ba2 (wr64 (v76+1)))) (ap (Qr (xs:=ba1.Bids) (c:=Qc.cells)) (ap h78 (ap (Qj h85).1 (ap (Qm Qc.cells (Qj h85).2) (ap (Qj h87).1 (ap (Qm Qc.cells (Qj h87).2) (ap (Qc.eqb_ok x84 x86) (ap (Qt h88) an)))))))) (Qs.norm ⟨(wr64 (v76+1)),rfl,h⟩)
   ·obtain rfl:=Qg h;exact rK Qh 2 [([],[],[(3,.val (jI (ba1.Bids.length:Int)))]),([],[(3,.idx (Int.toNat v76) (Qc.cells x84)),(8,.idx (Int.toNat v76) (Qc.cells x86)),(10,.bool (Qc.eqb x84 x86))],[]),j3] [some true,some true] [] [] [4] .ret ((f21n4E ba1 ba2 .ret).2) (ap (Qr (xs:=ba1.Bids) (c:=Qc.cells)) (ap h78 (ap (Qj h85).1 (ap (Qm Qc.cells (Qj h85).2) (ap (Qj h87).1 (ap (Qm Qc.cells (Qj h87).2) (ap (Qc.eqb_ok x84 x86) (ap (Qad h88) an)))))))) (Qs.out rfl rfl)
  ·obtain rfl:=Qg h;exact rK Qh 1 [([],[],[(3,.val (jI (ba1.Bids.length:Int)))])] [some false] [] [] [] (.exit 2) ((f21n4E ba1 ba2 .exit2).2) (ap (Qr (xs:=ba1.Bids) (c:=Qc.cells)) (ap h78 an)) (Qs.out rfl rfl)
noncomputable def f21n4L(ba1 ba2:Qd):List Qc→Int→Option f21n4O
 | [],v76 =>
  some .exit2
 | x0::rest,v76 =>
  (at? ba2.Bids v76).bind fun x86 =>
  bif (Qc.eqb x0 x86) then
   (f21n4L ba1 ba2 rest (v76+1))
  else
   some .ret
theorem f21n4L_eq(ba1 ba2:Qd):∀(rest:List Qc)(f k:Nat),ba1.Bids.drop k=rest→ba1.Bids.length≤maxLen→rest.length<f→f21n4 f ba1 ba2 (k:Int)=f21n4L ba1 ba2 rest (k:Int)
 | _,0,_,_,_,hf=>absurd hf (Nat.not_lt_zero _)
 | [],f+1,k,hd,hm,hf=>by
  have hk:¬((k:Int)<(ba1.Bids.length:Int)):=by have:=Qac hd; omega
  rw [f21n4,f21n4L];simp only [decide_eq_false hk,cond_false]
 | x0::rest,f+1,k,hd,hm,hf=>by
  obtain ⟨hx,hlt,hd'⟩:=Qan hd;have hk:(k:Int)<(ba1.Bids.length:Int):=by omega
  have hw:wr64 ((k:Int)+1)=(k:Int)+1:=Qbp (by omega) (by unfold maxLen at hm; omega);have ih:f21n4 f ba1 ba2 ((k:Int)+1)=f21n4L ba1 ba2 rest ((k:Int)+1):=f21n4L_eq ba1 ba2 rest f (k+1) hd' hm (by simpa using hf);rw [f21n4,f21n4L];simp only [decide_eq_true hk,cond_true,Qaq,hx,Option.bind_some,hw,ih]
theorem f21n4_run(ba1 ba2:Qd)(hm:ba1.Bids.length≤maxLen):f21n4 FUEL ba1 ba2 0=f21n4L ba1 ba2 ba1.Bids 0:=f21n4L_eq ba1 ba2 ba1.Bids FUEL 0 List.drop_zero hm (Qai hm)
inductive f21n3O where
 | norm
 | ret
def f21n3E(ba1 ba2:Qd):f21n3O→Ex×Tr×Hp
 | .norm=>(.norm,mkS [],[])
 | .ret=>(.ret,mkS [(4,(jB false))],[])
def f21n3S(ba1 ba2:Qd):Tr×Hp:=(mkS [(2,(.bp 0 0)),(3,(.bp 1 0))],[some (.box ((Qd.cells ba1).map .pl)),some (.box ((Qd.cells ba2).map .pl))])
noncomputable def f21n3(ba1 ba2:Qd):Option f21n3O :=
 (f21n4 FUEL ba1 ba2 0).bind fun o89=>match o89 with
 | .exit2=>some .norm
 | .ret=>some .ret
theorem f21n3_ok(ba1 ba2:Qd){o:f21n3O}(h:f21n3 ba1 ba2=some o):T Try.prog Try.f21.ntmps 0 (cL (Qk 0 (Qk 1 (Qk 0 (Qk 2 c21))))) (f21n3S ba1 ba2) (·=f21n3E ba1 ba2 o):=by
 unfold f21n3 at h;refine rN Qh 1 [j3] [] [] [0,1] [2,3,6] (f21n4S ba1 ba2 0) an ?_;obtain ⟨o89,h90,h⟩:=Qe h;cases o89 with
 | exit2 =>
  obtain rfl:=Qg h;exact T.last' (T.bl (i:=2) (by kernel_rfl) (by kernel_rfl) (f21n4_ok FUEL ba1 ba2 0 h90)) (tds:=[]) (m:=[]) (keep:=[]) (st2:=(f21n3E ba1 ba2 .norm).2) (by kernel_rfl) an rfl
 | ret =>
  obtain rfl:=Qg h;exact T.last' (T.bl (i:=2) (by kernel_rfl) (by kernel_rfl) (f21n4_ok FUEL ba1 ba2 0 h90)) (tds:=[]) (m:=[]) (keep:=[4]) (st2:=(f21n3E ba1 ba2 .ret).2) (by kernel_rfl) an rfl
inductive f21n0O where
 | ret (v93:Bool)
def f21n0E(a1 a2:Qd):f21n0O→Ex×Tr×Hp
 | .ret v93=>(.ret,mkS [(4,(jB v93))],[])
def f21n0S(a1 a2:Qd):Tr×Hp:=(Qab [(jA Qd.cells a1),(jA Qd.cells a2)] 0 .leaf,[])
noncomputable def f21n0(a1 a2:Qd):Option f21n0O :=
 bif decide (a1.Rule=a2.Rule) then
  bif decide ((a1.Lots.length:Int)=(a2.Lots.length:Int)) then
   bif decide ((a1.Bids.length:Int)=(a2.Bids.length:Int)) then
    (f21n1 a1 a2).bind fun o49=>match o49 with
    | .norm=>(f21n3 a1 a2).bind fun o91=>match o91 with
     | .norm=>some (.ret true)
     | .ret=>some (.ret false)
    | .ret=>some (.ret false)
   else
    some (.ret false)
  else
   some (.ret false)
 else
  some (.ret false)
theorem f21n0_ok(a1 a2:Qd){o:f21n0O}(h:f21n0 a1 a2=some o):T Try.prog Try.f21.ntmps 0 c21 (f21n0S a1 a2) (·=f21n0E a1 a2 o):=by
 unfold f21n0 at h;rcases Qi h with ⟨h6,h⟩|⟨h6,h⟩
 ·rcases Qi h with ⟨h7,h⟩|⟨h7,h⟩
  ·rcases Qi h with ⟨h8,h⟩|⟨h8,h⟩
   ·refine rN Qh 2 [j3,(jF [6,7,8,9,10,11,12,15,16,17,18,19,20,21],[(13,.bool false),(22,.bool false)],[(8,.val (jI (a1.Lots.length:Int))),(11,.val (jI (a2.Lots.length:Int))),(17,.val (jI (a1.Bids.length:Int))),(20,.val (jI (a2.Bids.length:Int)))])] [some false] [] [0,1] [2,3] (mkS [(2,(.bp 0 0)),(3,(.bp 1 0))],[some (.box ((Qd.cells a1).map .pl)),some (.box ((Qd.cells a2).map .pl))]) (ap3 (Qt h6) (ap (Qr (xs:=a1.Lots) (c:=Qa.cells)) (ap3 (Qt h6) (ap (Qr (xs:=a2.Lots) (c:=Qa.cells)) (ap2 (Qt h6) (ap3 (Qt h7) (ap (Qr (xs:=a1.Bids) (c:=Qc.cells)) (ap3 (Qt h7) (ap (Qr (xs:=a2.Bids) (c:=Qc.cells)) (ap2 (Qt h7) (ap (Qt h8) an))))))))))) ?_;refine rN Qh 0 [] [] [] [0,1] [2,3] (f21n1S a1 a2) an ?_;obtain ⟨o49,h50,h⟩:=Qe h;cases o49 with
    | norm =>
     refine T.oneN (by kernel_rfl) (f21n1_ok a1 a2 h50) (st2:=(f21n1E a1 a2 .norm).2) rfl ?_;refine rN Qh 0 [] [] [] [0,1] [2,3] (f21n3S a1 a2) an ?_;obtain ⟨o91,h92,h⟩:=Qe h;cases o91 with
     | norm =>
      refine T.oneN (by kernel_rfl) (f21n3_ok a1 a2 h92) (st2:=(f21n3E a1 a2 .norm).2) rfl ?_;obtain rfl:=Qg h;exact rE Qh [j3] [] [] [] [4] (.ret,(f21n0E a1 a2 (.ret true)).2) an rfl
     | ret =>
      obtain rfl:=Qg h;exact T.oneX' (by kernel_rfl) (f21n3_ok a1 a2 h92) (tds:=[]) (m:=[]) (keep:=[4]) (st2:=(f21n0E a1 a2 (.ret false)).2) (by kernel_rfl) an rfl rfl
    | ret =>
     obtain rfl:=Qg h;exact T.oneX' (by kernel_rfl) (f21n1_ok a1 a2 h50) (tds:=[]) (m:=[]) (keep:=[4]) (st2:=(f21n0E a1 a2 (.ret false)).2) (by kernel_rfl) an rfl rfl
   ·obtain rfl:=Qg h;exact rK Qh 2 [j3,(jF [6,7,8,9,10,11,12,15,16,17,18,19,20,21],[(13,.bool false),(22,.bool false)],[(8,.val (jI (a1.Lots.length:Int))),(11,.val (jI (a2.Lots.length:Int))),(17,.val (jI (a1.Bids.length:Int))),(20,.val (jI (a2.Bids.length:Int)))]),j3] [some true] [] [] [4] .ret ((f21n0E a1 a2 (.ret false)).2) (ap3 (Qt h6) (ap (Qr (xs:=a1.Lots) (c:=Qa.cells)) (ap3 (Qt h6) (ap (Qr (xs:=a2.Lots) (c:=Qa.cells)) (ap2 (Qt h6) (ap3 (Qt h7) (ap (Qr (xs:=a1.Bids) (c:=Qc.cells)) (ap3 (Qt h7) (ap (Qr (xs:=a2.Bids) (c:=Qc.cells)) (ap2 (Qt h7) (ap (Qad h8) an))))))))))) rfl
  ·obtain rfl:=Qg h;exact rK Qh 2 [j3,(jF [6,7,8,9,10,11,12]++jT [15,16,17,18,19,20,21],[(13,.bool false),(22,.bool true)],[(8,.val (jI (a1.Lots.length:Int))),(11,.val (jI (a2.Lots.length:Int)))]),j3] [none] [] [] [4] .ret ((f21n0E a1 a2 (.ret false)).2) (ap3 (Qt h6) (ap (Qr (xs:=a1.Lots) (c:=Qa.cells)) (ap3 (Qt h6) (ap (Qr (xs:=a2.Lots) (c:=Qa.cells)) (ap2 (Qt h6) (ap4 (Qad h7) (ap4 (Qad h7) an))))))) rfl
 ·obtain rfl:=Qg h;exact rK Qh 2 [j3,(jT [6,7,8,9,10,11,12],[(13,.bool true)],[]),j3] [none] [] [] [4] .ret ((f21n0E a1 a2 (.ret false)).2) (ap4 (Qad h6) (ap4 (Qad h6) an)) rfl
noncomputable def f21(a1 a2:Qd):Option Bool:=(f21n0 a1 a2).bind fun o=>match o with
 | .ret v93=>some v93
theorem f21_ok(a1 a2:Qd){r:Bool}(h:f21 a1 a2=some r):Qn Try.prog false 21 [(jA Qd.cells a1),(jA Qd.cells a2)] [] (jB r) []:=by
 unfold f21 at h;obtain ⟨o,ho,h⟩:=Qe h;cases o with
 | ret v93 =>
  obtain rfl:=Qg h;exact Qn.plain Qh (f:=Try.f21) (c:=c21) (by kernel_rfl) (by kernel_rfl) (by kernel_rfl) (by kernel_rfl) ((f21n0_ok a1 a2 ho).mono fun r e=>by subst e; exact ⟨.inl rfl,(jB v93),(jB v93),by kernel_rfl,by kernel_rfl,((Wk.refl _):Wk (jB v93) (jB v93))⟩)

noncomputable def c22:Code:=Try.f22.body.getD .skip
inductive f22r1n2O where
 | exit0 (v25:List Qa)
def f22r1n2E(bd2:Int):f22r1n2O→Ex×Tr×Hp
 | .exit0 v25=>((.exit 0),mkS [(1,(.bp 1 0))],[jR 3 Qa.cells v25,some (.box [(.pl (.int .u8 bd2)),(.own 0),(.pl (.sl .nil 0 []))])])
def f22r1n2S(bd2 v17:Int)(v18:List Qa):Tr×Hp:=(mkS [(1,(.bp 1 0)),(2,(jI v17))],[jR 3 Qa.cells v18,some (.box [(.pl (.int .u8 bd2)),(.own 0),(.pl (.sl .nil 0 []))])])
noncomputable def f22r1n2:Nat→Int→Int→List Qa→Option f22r1n2O
 | 0,_,_,_=>none
 | f+1,bd2,v17,v18 =>
  bif decide (v17<(v18.length:Int)) then
   (at? v18 v17).bind fun x23 =>
   (f22r1n2 f bd2 (wr64 (v17+1)) (v18.set (Int.toNat v17) (Qa.mk x23.Name (-7) x23.Reserve)))
  else
   some (.exit0 v18)
theorem f22r1n2_ok:∀(f:Nat)(bd2 v17:Int)(v18:List Qa){o:f22r1n2O},f22r1n2 f bd2 v17 v18=some o→TL Try.prog Try.f22.ntmps 1 f (cL (cL (Qk 1 (cL (Qk 1 c22))))) (f22r1n2S bd2 v17 v18) (·=f22r1n2E bd2 o)
 | 0,_,_,_,o,h=>by rw [f22r1n2] at h; cases h
 | f+1,bd2,v17,v18,o,h=>by
  rw [f22r1n2] at h;refine TL.body (K:=fun s=>∃v17:Int,∃v18:List Qa,s=(f22r1n2S bd2 v17 v18)∧f22r1n2 f bd2 v17 v18=some o) ?_ (by rintro _ ⟨v17,v18,rfl,hk⟩; exact f22r1n2_ok f _ _ _ hk);rcases Qi h with ⟨h20,h⟩|⟨h20,h⟩
  ·obtain ⟨x23,h24,h⟩:=Qe h;exact rE Qh [([],[],[(3,.val (jI (v18.length:Int)))]),([],[(3,.at_ (Int.toNat v17)),(5,.idx 0 (Qa.cells x23))],[(5,.row 0 ((v18.set (Int.toNat v17) (Qa.mk x23.Name (-7) x23.Reserve)).map Qa.cells))]),j3] [some true] [] [1] [1,2] (.norm,(f22r1n2S bd2 (wr64 (v17+1)) (v18.set (Int.toNat v17) (Qa.mk x23.Name (-7) x23.Reserve)))) (ap (Qr (xs:=v18) (c:=Qa.cells)) (ap h20 (ap (Qj h24).1 (ap (Qal Qa.cells (Qj h24).2) (ap (Qm Qa.cells (Qj h24).2) (ap (set_cv (xs:=v18) (c:=Qa.cells) (k:=(Int.toNat v17)) (x:=(Qa.mk x23.Name (-7) x23.Reserve))) an)))))) (Qs.norm ⟨(wr64 (v17+1)),(v18.set (Int.toNat v17) (Qa.mk x23.Name (-7) x23.Reserve)),rfl,h⟩)
  ·obtain rfl:=Qg h;exact rK Qh 1 [([],[],[(3,.val (jI (v18.length:Int)))])] [some false] [] [1] [1] (.exit 0) ((f22r1n2E bd2 (.exit0 v18)).2) (ap (Qr (xs:=v18) (c:=Qa.cells)) (ap h20 an)) (Qs.out rfl rfl)
inductive f22r1n1O where
 | norm (v29:List Qa)
def f22r1n1E(bn1:List Qa)(bd2:Int):f22r1n1O→Ex×Tr×Hp
 | .norm v29=>(.norm,mkS [(1,(.bp 1 0))],[jR 3 Qa.cells v29,some (.box [(.pl (.int .u8 bd2)),(.own 0),(.pl (.sl .nil 0 []))])])
def f22r1n1S(bn1:List Qa)(bd2:Int):Tr×Hp:=(mkS [(1,(.bp 1 0))],[jR 3 Qa.cells bn1,some (.box [(.pl (.int .u8 bd2)),(.own 0),(.pl (.sl .nil 0 []))])])
noncomputable def f22r1n1(bn1:List Qa)(bd2:Int):Option f22r1n1O :=
 (f22r1n2 FUEL bd2 0 bn1).bind fun o26=>match o26 with
 | .exit0 v28=>some (.norm v28)
theorem f22r1n1_ok(bn1:List Qa)(bd2:Int){o:f22r1n1O}(h:f22r1n1 bn1 bd2=some o):T Try.prog Try.f22.ntmps 1 (cL (Qk 1 c22)) (f22r1n1S bn1 bd2) (·=f22r1n1E bn1 bd2 o):=by
 unfold f22r1n1 at h;refine rN Qh 1 [j3] [] [] [1] [1,2] (f22r1n2S bd2 0 bn1) an ?_;obtain ⟨o26,h27,h⟩:=Qe h;cases o26 with
 | exit0 v28 =>
  obtain rfl:=Qg h;exact T.last' (T.bl (i:=0) (by kernel_rfl) (by kernel_rfl) (f22r1n2_ok FUEL bd2 0 bn1 h27)) (tds:=[]) (m:=[1]) (keep:=[1]) (st2:=(f22r1n1E bn1 bd2 (.norm v28)).2) (by kernel_rfl) an rfl
inductive f22r1n3O where
 | exit2
def f22r1n3E(v32:List Qa)(a1:Int):f22r1n3O→Ex×Tr×Hp
 | .exit2=>((.exit 2),mkS [],[jR 3 Qa.cells v32])
def f22r1n3S(v32:List Qa)(a1:Int):Tr×Hp:=(mkS [(1,(.bp 1 0)),(3,(jI 0))],[jR 3 Qa.cells v32,some (.box [(.pl (.int .u8 a1)),(.own 0),(.pl (.sl .nil 0 []))])])
noncomputable def f22r1n3:Nat→List Qa→Int→Option f22r1n3O
 | 0,_,_=>none
 | f+1,v32,a1 =>
  some .exit2
theorem f22r1n3_ok:∀(f:Nat)(v32:List Qa)(a1:Int){o:f22r1n3O},f22r1n3 f v32 a1=some o→TL Try.prog Try.f22.ntmps 1 f (cL (cL (Qk 1 (Qk 1 (Qk 1 c22))))) (f22r1n3S v32 a1) (·=f22r1n3E v32 a1 o)
 | 0,_,_,o,h=>by rw [f22r1n3] at h; cases h
 | f+1,v32,a1,o,h=>by
  rw [f22r1n3] at h;refine TL.body (K:=fun s=>s=(f22r1n3S v32 a1)∧f22r1n3 f v32 a1=some o) ?_ (by rintro _ ⟨rfl,hk⟩; exact f22r1n3_ok f _ _ hk);obtain rfl:=Qg h;exact rK Qh 1 [j3] [none] [] [] [] (.exit 2) ((f22r1n3E v32 a1 .exit2).2) an (Qs.out rfl rfl)
inductive f22r1n0O where
 | norm (v35:List Qa)
def f22r1n0E(a1:Int)(a2:List Qa):f22r1n0O→Ex×Tr×Hp
 | .norm v35=>(.norm,mkS [],[jR 3 Qa.cells v35])
def f22r1n0S(a1:Int)(a2:List Qa):Tr×Hp:=(Qab [(.agg [(.pl (.int .u8 a1)),(.own 0),(.pl (.sl .nil 0 []))])] 0 .leaf,[jR 3 Qa.cells a2])
noncomputable def f22r1n0(a1:Int)(a2:List Qa):Option f22r1n0O :=
 (f22r1n1 a2 a1).bind fun o30=>match o30 with
 | .norm v32=>(f22r1n3 FUEL v32 a1).bind fun o33=>match o33 with
  | .exit2=>some (.norm v32)
theorem f22r1n0_ok(a1:Int)(a2:List Qa){o:f22r1n0O}(h:f22r1n0 a1 a2=some o):T Try.prog Try.f22.ntmps 1 c22 (f22r1n0S a1 a2) (·=f22r1n0E a1 a2 o):=by
 unfold f22r1n0 at h;refine rN Qh 1 [j3] [] [] [1] [1] (f22r1n1S a2 a1) an ?_;obtain ⟨o30,h31,h⟩:=Qe h;cases o30 with
 | norm v32 =>
  refine T.oneN (by kernel_rfl) (f22r1n1_ok a2 a1 h31) (st2:=(f22r1n1E a2 a1 (.norm v32)).2) rfl ?_;refine rN Qh 1 [j3] [] [] [1] [1,3] (f22r1n3S v32 a1) an ?_;obtain ⟨o33,h34,h⟩:=Qe h;cases o33 with
  | exit2 =>
   obtain rfl:=Qg h;exact T.last' (T.bl (i:=2) (by kernel_rfl) (by kernel_rfl) (f22r1n3_ok FUEL v32 a1 h34)) (tds:=[]) (m:=[]) (keep:=[]) (st2:=(f22r1n0E a1 a2 (.norm v32)).2) (by kernel_rfl) an rfl
noncomputable def f22r1(a1:Int)(a2:List Qa):Option (List Qa):=(f22r1n0 a1 a2).bind fun o=>match o with
 | .norm v35=>some v35
theorem f22r1_ok(a1:Int)(a2:List Qa){r:List Qa}(h:f22r1 a1 a2=some r):Qn Try.prog true 22 [(.agg [(.pl (.int .u8 a1)),(.own 0),(.pl (.sl .nil 0 []))])] [jR 3 Qa.cells a2] (.tup []) [jR 3 Qa.cells r]:=by
 unfold f22r1 at h;obtain ⟨o,ho,h⟩:=Qe h;cases o with
 | norm v35 =>
  obtain rfl:=Qg h;exact Qn.shared Qh (f:=Try.f22) (c:=c22) (by kernel_rfl) (by kernel_rfl) (by kernel_rfl) ((f22r1n0_ok a1 a2 ho).mono fun r e=>by subst e; exact ⟨.inr rfl,by kernel_rfl,by kernel_rfl⟩)

noncomputable def c46:Code:=Try.f46.body.getD .skip
inductive f46r1n0O where
 | ret (v5:List Qc)
def f46r1n0E(a1:List Qc):f46r1n0O→Ex×Tr×Hp
 | .ret v5=>(.ret,mkS [(2,(.own 1))],[jR 4 Qc.cells a1,jR 4 Qc.cells v5])
def f46r1n0S(a1:List Qc):Tr×Hp:=(Qab [(.own 0)] 0 .leaf,[jR 4 Qc.cells a1])
noncomputable def f46r1n0(a1:List Qc):Option f46r1n0O :=
 bif (a1.isEmpty) then
  some (.ret [])
 else
  req (fit a1.length 48) <|
  some (.ret a1)
theorem f46r1n0_ok(a1:List Qc){o:f46r1n0O}(h:f46r1n0 a1=some o):T Try.prog Try.f46.ntmps 1 c46 (f46r1n0S a1) (·=f46r1n0E a1 o):=by
 unfold f46r1n0 at h;refine rN Qh 1 [j3] [] [] [] [0] (mkS [(0,(.own 0))],[jR 4 Qc.cells a1]) an ?_;refine T.nest (by kernel_rfl) ?_;rcases Qi h with ⟨h2,h⟩|⟨h2,h⟩
 ·refine rN Qh 0 [] [] [] [] [0] (mkS [(0,(.own 0))],[jR 4 Qc.cells a1]) an ?_;refine T.oneNil Qh (x:=.tmp 0) (t:=23) (t3:=3) (t4:=4) (sz:=4) (es:=(a1.map Qc.cells)) (by kernel_rfl) (by kernel_rfl) (by kernel_rfl) (by kernel_rfl) (by kernel_rfl) (fun b hb=>?_);cases b
  ·refine rE Qh [] [none] [] [] [0] (.norm,(mkS [(0,(.own 0))],[jR 4 Qc.cells a1])) an (ThenQ.norm ?_);obtain rfl:=Qg h;exact rE Qh [([],[(2,.app false)],[])] [] [] [1] [2] (.ret,(f46r1n0E a1 (.ret [])).2) (ap (nil_map (c:=Qc.cells) h2) an) rfl
  ·obtain rfl:=Qg h;exact rE Qh [j3] [none] [.mat 2 4] [1] [2] (.ret,(f46r1n0E a1 (.ret [])).2) an (ThenQ.out rfl rfl)
 ·refine rN Qh 0 [] [] [] [] [0] (mkS [(0,(.own 0))],[jR 4 Qc.cells a1]) an ?_;refine T.oneNil Qh (x:=.tmp 0) (t:=23) (t3:=3) (t4:=4) (sz:=4) (es:=(a1.map Qc.cells)) (by kernel_rfl) (by kernel_rfl) (by kernel_rfl) (by kernel_rfl) (by kernel_rfl) (fun b hb=>?_);cases b
  ·refine rE Qh [] [none] [] [] [0] (.norm,(mkS [(0,(.own 0))],[jR 4 Qc.cells a1])) an (ThenQ.norm ?_);obtain ⟨h4,h⟩:=Qak h;obtain rfl:=Qg h;exact rE Qh [([],[(2,.app true)],[])] [] [] [2] [2] (.ret,(f46r1n0E a1 (.ret a1)).2) (ap (fit_map0z (te:=ti42) (xs:=a1) (c:=Qc.cells) h4 rfl) (ap (ne_map (c:=Qc.cells) h2) (ap (len_all (c:=Qc.cells) (xs:=a1) (n:=4) (fun _=>rfl)) an))) rfl
  ·exact absurd (hb rfl) (ne_map (c:=Qc.cells) h2)
noncomputable def f46r1(a1:List Qc):Option (List Qc):=(f46r1n0 a1).bind fun o=>match o with
 | .ret v5=>some v5
theorem f46r1_ok(a1:List Qc){r:List Qc}(h:f46r1 a1=some r):Qn Try.prog true 46 [(.own 0)] [jR 4 Qc.cells a1] (.own 1) [jR 4 Qc.cells a1,jR 4 Qc.cells r]:=by
 unfold f46r1 at h;obtain ⟨o,ho,h⟩:=Qe h;cases o with
 | ret v5 =>
  obtain rfl:=Qg h;exact Qn.shared Qh (f:=Try.f46) (c:=c46) (by kernel_rfl) (by kernel_rfl) (by kernel_rfl) ((f46r1n0_ok a1 ho).mono fun r e=>by subst e; exact ⟨.inl rfl,by kernel_rfl,by kernel_rfl⟩)

noncomputable def c23:Code:=Try.f23.body.getD .skip
inductive f23r1n0O where
 | ret (v41:Int) (v42:Int) (v43:List Qa) (v44:List Qc)
def f23r1n0E(a1:Int)(a2 a3:ByteArray)(a4 a5:Int)(a6:List Qa)(a7:List Qc):f23r1n0O→Ex×Tr×Hp
 | .ret v41 v42 v43 v44=>(.ret,mkS [(10,(.bp 2 0)),(11,(jI v41))],[jR 3 Qa.cells a6,jR 4 Qc.cells a7,some (.box [(.pl (.int .u8 v42)),(.own 3),(.own 4)]),jR 3 Qa.cells v43,jR 4 Qc.cells v44])
def f23r1n0S(a1:Int)(a2 a3:ByteArray)(a4 a5:Int)(a6:List Qa)(a7:List Qc):Tr×Hp:=(Qab [(.agg [(.pl (.int .u8 a1)),(.own 0),(.own 1)]),(jS a2),(jS a3),(jI a4),(jI a5)] 0 .leaf,[jR 3 Qa.cells a6,jR 4 Qc.cells a7])
noncomputable def f23r1n0(a1:Int)(a2 a3:ByteArray)(a4 a5:Int)(a6:List Qa)(a7:List Qc):Option f23r1n0O :=
 (f31 (Qd.mk a1 a6 a7)).bind fun x11 =>
 bif decide (x11=0) then
  (f44 a6 a3).bind fun x16 =>
  (f45 (Qc.mk a2 a3 a4 a5)).bind fun x23 =>
  bif x23 then
   bif x16.2 then
    bif decide ((a7.length:Int)=100) then
     some (.ret 22 0 [] [])
    else
     (f43r1 a6).bind fun x30 =>
     (f46r1 a7).bind fun x38 =>
     req (fit (x38.length+1) 48) <|
     some (.ret 0 a1 x30 (x38++[(Qc.mk a2 a3 a4 a5)]))
   else
    some (.ret 6 0 [] [])
  else
   some (.ret 2 0 [] [])
 else
  some (.ret x11 0 [] [])
theorem f23r1n0_ok(a1:Int)(a2 a3:ByteArray)(a4 a5:Int)(a6:List Qa)(a7:List Qc){o:f23r1n0O}(h:f23r1n0 a1 a2 a3 a4 a5 a6 a7=some o):T Try.prog Try.f23.ntmps 2 c23 (f23r1n0S a1 a2 a3 a4 a5 a6 a7) (·=f23r1n0E a1 a2 a3 a4 a5 a6 a7 o):=by
 unfold f23r1n0 at h;obtain ⟨x11,h12,h⟩:=Qe h;rcases Qi h with ⟨h13,h⟩|⟨h13,h⟩
 ·obtain ⟨x16,h17,h⟩:=Qe h;obtain ⟨x23,h24,h⟩:=Qe h;rcases Qi h with ⟨h25,h⟩|⟨h25,h⟩
  ·rcases Qi h with ⟨h26,h⟩|⟨h26,h⟩
   ·rcases Qi h with ⟨h27,h⟩|⟨h27,h⟩
    ·obtain rfl:=Qg h;exact rK Qh 5 [j3,j3,([],[jH 1 (jI x11)],[]),j3,([],[jH 3 (.tup [(jI x16.1),(jB x16.2)])],[]),([],[jH 1 (jB x23)],[]),j3,([],[],[(2,.val (jI (a7.length:Int)))]),j3] [some false,some false,some false,some true] [.matC 3 1 3,.matC 3 2 4] [3,5,6] [10,11] .ret ((f23r1n0E a1 a2 a3 a4 a5 a6 a7 (.ret 22 0 [] [])).2) (ap (f31_ok (Qd.mk a1 a6 a7) h12) (ap (Qt h13) (ap (f44_ok a6 a3 h17) (ap (f45_ok (Qc.mk a2 a3 a4 a5) h24) (ap (Qt h25) (ap (Qt h26) (ap (Qr (xs:=a7) (c:=Qc.cells)) (ap h27 an)))))))) rfl
    ·obtain ⟨x30,h31,h⟩:=Qe h;obtain ⟨x38,h39,h⟩:=Qe h;obtain ⟨h40,h⟩:=Qak h;obtain rfl:=Qg h
     exact rE Qh [j3,j3,([],[jH 1 (jI x11)],[]),j3,([],[jH 3 (.tup [(jI x16.1),(jB x16.2)])],[]),([],[jH 1 (jB x23)],[]),j3,([],[],[(2,.val (jI (a7.length:Int)))]),([],[(2,.call (.own 5) [jR 3 Qa.cells a6,none,none,none,none,jR 3 Qa.cells x30])],[]),([],[(2,.call (.own 9) [none,jR 4 Qc.cells a7,none,none,none,none,none,none,none,jR 4 Qc.cells x38]),(5,.fits)],[(5,.row 7 ((x38++[(Qc.mk a2 a3 a4 a5)]).map Qc.cells))]),j3] [some false,some false,some false,some false] [] [3,5,7] [10,11] (.ret,(f23r1n0E a1 a2 a3 a4 a5 a6 a7 (.ret 0 a1 x30 (x38++[(Qc.mk a2 a3 a4 a5)]))).2) (ap (f31_ok (Qd.mk a1 a6 a7) h12) (ap (Qt h13) (ap (f44_ok a6 a3 h17) (ap (f45_ok (Qc.mk a2 a3 a4 a5) h24) (ap (Qt h25) (ap (Qt h26) (ap (Qr (xs:=a7) (c:=Qc.cells)) (ap h27 (ap (Qn.rn 5 [0] (f43r1_ok a6 h31)) (ap (fit_map (te:=ti42) (xs:=x38) (n:=1) (c:=Qc.cells) h40 rfl) (ap (app_cv (xs:=x38) (ys:=[(Qc.mk a2 a3 a4 a5)]) (c:=Qc.cells)) (ap (Qn.rn 9 [1] (f46r1_ok a7 h39)) an)))))))))))) rfl
   ·obtain rfl:=Qg h;exact rK Qh 5 [j3,j3,([],[jH 1 (jI x11)],[]),j3,([],[jH 3 (.tup [(jI x16.1),(jB x16.2)])],[]),([],[jH 1 (jB x23)],[]),j3,j3] [some false,some false,some true] [.matC 3 1 3,.matC 3 2 4] [3,5,6] [10,11] .ret ((f23r1n0E a1 a2 a3 a4 a5 a6 a7 (.ret 6 0 [] [])).2) (ap (f31_ok (Qd.mk a1 a6 a7) h12) (ap (Qt h13) (ap (f44_ok a6 a3 h17) (ap (f45_ok (Qc.mk a2 a3 a4 a5) h24) (ap (Qt h25) (ap (Qad h26) an)))))) rfl
  ·obtain rfl:=Qg h;exact rK Qh 5 [j3,j3,([],[jH 1 (jI x11)],[]),j3,([],[jH 3 (.tup [(jI x16.1),(jB x16.2)])],[]),([],[jH 1 (jB x23)],[]),j3] [some false,some true] [.matC 3 1 3,.matC 3 2 4] [3,5,6] [10,11] .ret ((f23r1n0E a1 a2 a3 a4 a5 a6 a7 (.ret 2 0 [] [])).2) (ap (f31_ok (Qd.mk a1 a6 a7) h12) (ap (Qt h13) (ap (f44_ok a6 a3 h17) (ap (f45_ok (Qc.mk a2 a3 a4 a5) h24) (ap (Qad h25) an))))) rfl
 ·obtain rfl:=Qg h;exact rK Qh 3 [j3,j3,([],[jH 1 (jI x11)],[]),j3,j3] [some true] [.matC 3 1 3,.matC 3 2 4] [3,5,6] [10,11] .ret ((f23r1n0E a1 a2 a3 a4 a5 a6 a7 (.ret x11 0 [] [])).2) (ap (f31_ok (Qd.mk a1 a6 a7) h12) (ap (Qad h13) an)) rfl
noncomputable def f23r1(a1:Int)(a2 a3:ByteArray)(a4 a5:Int)(a6:List Qa)(a7:List Qc):Option (Int×Int×(List Qa)×(List Qc)):=(f23r1n0 a1 a2 a3 a4 a5 a6 a7).bind fun o=>match o with
 | .ret v41 v42 v43 v44=>some (v41,v42,v43,v44)
theorem f23r1_ok(a1:Int)(a2 a3:ByteArray)(a4 a5:Int)(a6:List Qa)(a7:List Qc){r:Int×Int×(List Qa)×(List Qc)}(h:f23r1 a1 a2 a3 a4 a5 a6 a7=some r):Qn Try.prog true 23 [(.agg [(.pl (.int .u8 a1)),(.own 0),(.own 1)]),(jS a2),(jS a3),(jI a4),(jI a5)] [jR 3 Qa.cells a6,jR 4 Qc.cells a7] (.tup [(.agg [(.pl (.int .u8 r.2.1)),(.own 3),(.own 4)]),(jI r.1)]) [jR 3 Qa.cells a6,jR 4 Qc.cells a7,some (.box [(.pl (.int .u8 r.2.1)),(.own 3),(.own 4)]),jR 3 Qa.cells r.2.2.1,jR 4 Qc.cells r.2.2.2]:=by
 unfold f23r1 at h;obtain ⟨o,ho,h⟩:=Qe h;cases o with
 | ret v41 v42 v43 v44 =>
  obtain rfl:=Qg h;exact Qn.shared Qh (f:=Try.f23) (c:=c23) (by kernel_rfl) (by kernel_rfl) (by kernel_rfl) ((f23r1n0_ok a1 a2 a3 a4 a5 a6 a7 ho).mono fun r e=>by subst e; exact ⟨.inl rfl,by kernel_rfl,by kernel_rfl⟩)

noncomputable def c24:Code:=Try.f24.body.getD .skip
inductive f24n0O where
 | ret (v32:Int) (v33:Int) (v34:List Qa) (v35:List Qc)
def f24n0E(a1:Qd)(a2 a3:ByteArray)(a4 a5:Int):f24n0O→Ex×Tr×Hp
 | .ret v32 v33 v34 v35=>(.ret,mkS [(10,(.bp 0 0)),(11,(jI v32))],[some (.box [(.pl (.int .u8 v33)),(.own 1),(.own 2)]),jR 3 Qa.cells v34,jR 4 Qc.cells v35])
def f24n0S(a1:Qd)(a2 a3:ByteArray)(a4 a5:Int):Tr×Hp:=(Qab [(jA Qd.cells a1),(jS a2),(jS a3),(jI a4),(jI a5)] 0 .leaf,[])
noncomputable def f24n0(a1:Qd)(a2 a3:ByteArray)(a4 a5:Int):Option f24n0O :=
 (f32 a1).bind fun x9 =>
 bif decide (x9=0) then
  (f47 (Qc.mk a2 a3 a4 a5)).bind fun x15 =>
  bif x15 then
   (f17 a1.Lots a3).bind fun x21 =>
   bif decide (x21<0) then
    some (.ret 6 0 [] [])
   else
    bif decide (100≤(a1.Bids.length:Int)) then
     some (.ret 22 0 [] [])
    else
     (f14r1 a1).bind fun x28 =>
     req (fit (x28.2.length+1) 48) <|
     some (.ret 0 a1.Rule x28.1 (x28.2++[(Qc.mk a2 a3 a4 a5)]))
  else
   some (.ret 2 0 [] [])
 else
  some (.ret 8 0 [] [])
theorem f24n0_ok(a1:Qd)(a2 a3:ByteArray)(a4 a5:Int){o:f24n0O}(h:f24n0 a1 a2 a3 a4 a5=some o):T Try.prog Try.f24.ntmps 0 c24 (f24n0S a1 a2 a3 a4 a5) (·=f24n0E a1 a2 a3 a4 a5 o):=by
 unfold f24n0 at h;obtain ⟨x9,h10,h⟩:=Qe h;rcases Qi h with ⟨h11,h⟩|⟨h11,h⟩
 ·obtain ⟨x15,h16,h⟩:=Qe h;rcases Qi h with ⟨h17,h⟩|⟨h17,h⟩
  ·obtain ⟨x21,h22,h⟩:=Qe h;rcases Qi h with ⟨h23,h⟩|⟨h23,h⟩
   ·obtain rfl:=Qg h;exact rK Qh 5 [j3,j3,([],[jH 1 (jI x9)],[]),([],[jH 1 (jB x15)],[]),([],[jH 3 (jI x21)],[]),j3] [some false,some false,some true] [.matC 1 1 3,.matC 1 2 4] [1,3,4] [10,11] .ret ((f24n0E a1 a2 a3 a4 a5 (.ret 6 0 [] [])).2) (ap (f32_ok a1 h10) (ap (Qt h11) (ap (f47_ok (Qc.mk a2 a3 a4 a5) h16) (ap (Qt h17) (ap (f17_ok a1.Lots a3 h22) (ap h23 an)))))) rfl
   ·rcases Qi h with ⟨h25,h⟩|⟨h25,h⟩
    ·obtain rfl:=Qg h;exact rK Qh 6 [j3,j3,([],[jH 1 (jI x9)],[]),([],[jH 1 (jB x15)],[]),([],[jH 3 (jI x21)],[]),([],[],[(2,.val (jI (a1.Bids.length:Int)))]),j3] [some false,some false,some false,some true] [.matC 1 1 3,.matC 1 2 4] [1,3,4] [10,11] .ret ((f24n0E a1 a2 a3 a4 a5 (.ret 22 0 [] [])).2) (ap (f32_ok a1 h10) (ap (Qt h11) (ap (f47_ok (Qc.mk a2 a3 a4 a5) h16) (ap (Qt h17) (ap (f17_ok a1.Lots a3 h22) (ap h23 (ap (Qr (xs:=a1.Bids) (c:=Qc.cells)) (ap h25 an)))))))) rfl
    ·obtain ⟨x28,h29,h⟩:=Qe h;obtain ⟨h31,h⟩:=Qak h;obtain rfl:=Qg h
     exact rE Qh [j3,j3,([],[jH 1 (jI x9)],[]),([],[jH 1 (jB x15)],[]),([],[jH 3 (jI x21)],[]),([],[],[(2,.val (jI (a1.Bids.length:Int)))]),([],[(1,.call (.agg [(.pl (.int .u8 a1.Rule)),(.own 4),(.own 5)]) (jN 3 [some (.box [(.pl (.int .u8 a1.Rule)),(.own 4),(.own 5)]),jR 3 Qa.cells x28.1,jR 4 Qc.cells x28.2]))],[]),([],[(4,.fits)],[(4,.row 8 ((x28.2++[(Qc.mk a2 a3 a4 a5)]).map Qc.cells))]),j3] [some false,some false,some false,some false] [] [1,4,8] [10,11] (.ret,(f24n0E a1 a2 a3 a4 a5 (.ret 0 a1.Rule x28.1 (x28.2++[(Qc.mk a2 a3 a4 a5)]))).2) (ap (f32_ok a1 h10) (ap (Qt h11) (ap (f47_ok (Qc.mk a2 a3 a4 a5) h16) (ap (Qt h17) (ap (f17_ok a1.Lots a3 h22) (ap h23 (ap (Qr (xs:=a1.Bids) (c:=Qc.cells)) (ap h25 (ap (Qn.rn 3 [] (f14r1_ok a1 h29)) (ap (fit_map (te:=ti42) (xs:=x28.2) (n:=1) (c:=Qc.cells) h31 rfl) (ap (app_cv (xs:=x28.2) (ys:=[(Qc.mk a2 a3 a4 a5)]) (c:=Qc.cells)) an))))))))))) rfl
  ·obtain rfl:=Qg h;exact rK Qh 4 [j3,j3,([],[jH 1 (jI x9)],[]),([],[jH 1 (jB x15)],[]),j3] [some false,some true] [.matC 1 1 3,.matC 1 2 4] [1,3,4] [10,11] .ret ((f24n0E a1 a2 a3 a4 a5 (.ret 2 0 [] [])).2) (ap (f32_ok a1 h10) (ap (Qt h11) (ap (f47_ok (Qc.mk a2 a3 a4 a5) h16) (ap (Qad h17) an)))) rfl
 ·obtain rfl:=Qg h;exact rK Qh 3 [j3,j3,([],[jH 1 (jI x9)],[]),j3] [some true] [.matC 1 1 3,.matC 1 2 4] [1,3,4] [10,11] .ret ((f24n0E a1 a2 a3 a4 a5 (.ret 8 0 [] [])).2) (ap (f32_ok a1 h10) (ap (Qad h11) an)) rfl
noncomputable def f24(a1:Qd)(a2 a3:ByteArray)(a4 a5:Int):Option (Qd×Int):=(f24n0 a1 a2 a3 a4 a5).bind fun o=>match o with
 | .ret v32 v33 v34 v35=>some ((Qd.mk v33 v34 v35),v32)
theorem f24_ok(a1:Qd)(a2 a3:ByteArray)(a4 a5:Int){r:Qd×Int}(h:f24 a1 a2 a3 a4 a5=some r):Qn Try.prog false 24 [(jA Qd.cells a1),(jS a2),(jS a3),(jI a4),(jI a5)] [] (.tup [(jA Qd.cells r.1),(jI r.2)]) []:=by
 unfold f24 at h;obtain ⟨o,ho,h⟩:=Qe h;cases o with
 | ret v32 v33 v34 v35 =>
  obtain rfl:=Qg h;exact Qn.plain Qh (f:=Try.f24) (c:=c24) (by kernel_rfl) (by kernel_rfl) (by kernel_rfl) (by kernel_rfl) ((f24n0_ok a1 a2 a3 a4 a5 ho).mono fun r e=>by subst e; exact ⟨.inl rfl,(.tup [(.agg [(.pl (.int .u8 v33)),(.own 1),(.own 2)]),(jI v32)]),(.tup [(.pl (.agg (Qd.cells (Qd.mk v33 v34 v35)))),(jI v32)]),by kernel_rfl,by kernel_rfl,((Wk.refl _):Wk (.tup [(.pl (.agg (Qd.cells (Qd.mk v33 v34 v35)))),(jI v32)]) (.tup [(.pl (.agg (Qd.cells (Qd.mk v33 v34 v35)))),(jI v32)]))⟩)

inductive f22r2n2O where
 | exit0 (v26:List Qa)
def f22r2n2E(bq2:List Qc)(bd3:Int):f22r2n2O→Ex×Tr×Hp
 | .exit0 v26=>((.exit 0),mkS [(1,(.bp 2 0))],[jR 3 Qa.cells v26,jR 4 Qc.cells bq2,some (.box [(.pl (.int .u8 bd3)),(.own 0),(.own 1)])])
def f22r2n2S(bq2:List Qc)(bd3 v18:Int)(v19:List Qa):Tr×Hp:=(mkS [(1,(.bp 2 0)),(2,(jI v18))],[jR 3 Qa.cells v19,jR 4 Qc.cells bq2,some (.box [(.pl (.int .u8 bd3)),(.own 0),(.own 1)])])
noncomputable def f22r2n2:Nat→List Qc→Int→Int→List Qa→Option f22r2n2O
 | 0,_,_,_,_=>none
 | f+1,bq2,bd3,v18,v19 =>
  bif decide (v18<(v19.length:Int)) then
   (at? v19 v18).bind fun x24 =>
   (f22r2n2 f bq2 bd3 (wr64 (v18+1)) (v19.set (Int.toNat v18) (Qa.mk x24.Name (-7) x24.Reserve)))
  else
   some (.exit0 v19)
theorem f22r2n2_ok:∀(f:Nat)(bq2:List Qc)(bd3 v18:Int)(v19:List Qa){o:f22r2n2O},f22r2n2 f bq2 bd3 v18 v19=some o→TL Try.prog Try.f22.ntmps 2 f (cL (cL (Qk 1 (cL (Qk 1 c22))))) (f22r2n2S bq2 bd3 v18 v19) (·=f22r2n2E bq2 bd3 o)
 | 0,_,_,_,_,o,h=>by rw [f22r2n2] at h; cases h
 | f+1,bq2,bd3,v18,v19,o,h=>by
  rw [f22r2n2] at h;refine TL.body (K:=fun s=>∃v18:Int,∃v19:List Qa,s=(f22r2n2S bq2 bd3 v18 v19)∧f22r2n2 f bq2 bd3 v18 v19=some o) ?_ (by rintro _ ⟨v18,v19,rfl,hk⟩; exact f22r2n2_ok f _ _ _ _ hk);rcases Qi h with ⟨h21,h⟩|⟨h21,h⟩
  ·obtain ⟨x24,h25,h⟩:=Qe h;exact rE Qh [([],[],[(3,.val (jI (v19.length:Int)))]),([],[(3,.at_ (Int.toNat v18)),(5,.idx 0 (Qa.cells x24))],[(5,.row 0 ((v19.set (Int.toNat v18) (Qa.mk x24.Name (-7) x24.Reserve)).map Qa.cells))]),j3] [some true] [] [2] [1,2] (.norm,(f22r2n2S bq2 bd3 (wr64 (v18+1)) (v19.set (Int.toNat v18) (Qa.mk x24.Name (-7) x24.Reserve)))) (ap (Qr (xs:=v19) (c:=Qa.cells)) (ap h21 (ap (Qj h25).1 (ap (Qal Qa.cells (Qj h25).2) (ap (Qm Qa.cells (Qj h25).2) (ap (set_cv (xs:=v19) (c:=Qa.cells) (k:=(Int.toNat v18)) (x:=(Qa.mk x24.Name (-7) x24.Reserve))) an)))))) (Qs.norm ⟨(wr64 (v18+1)),(v19.set (Int.toNat v18) (Qa.mk x24.Name (-7) x24.Reserve)),rfl,h⟩)
  ·obtain rfl:=Qg h;exact rK Qh 1 [([],[],[(3,.val (jI (v19.length:Int)))])] [some false] [] [2] [1] (.exit 0) ((f22r2n2E bq2 bd3 (.exit0 v19)).2) (ap (Qr (xs:=v19) (c:=Qa.cells)) (ap h21 an)) (Qs.out rfl rfl)
inductive f22r2n1O where
 | norm (v30:List Qa)
def f22r2n1E(bn1:List Qa)(bq2:List Qc)(bd3:Int):f22r2n1O→Ex×Tr×Hp
 | .norm v30=>(.norm,mkS [(1,(.bp 2 0))],[jR 3 Qa.cells v30,jR 4 Qc.cells bq2,some (.box [(.pl (.int .u8 bd3)),(.own 0),(.own 1)])])
def f22r2n1S(bn1:List Qa)(bq2:List Qc)(bd3:Int):Tr×Hp:=(mkS [(1,(.bp 2 0))],[jR 3 Qa.cells bn1,jR 4 Qc.cells bq2,some (.box [(.pl (.int .u8 bd3)),(.own 0),(.own 1)])])
noncomputable def f22r2n1(bn1:List Qa)(bq2:List Qc)(bd3:Int):Option f22r2n1O :=
 (f22r2n2 FUEL bq2 bd3 0 bn1).bind fun o27=>match o27 with
 | .exit0 v29=>some (.norm v29)
theorem f22r2n1_ok(bn1:List Qa)(bq2:List Qc)(bd3:Int){o:f22r2n1O}(h:f22r2n1 bn1 bq2 bd3=some o):T Try.prog Try.f22.ntmps 2 (cL (Qk 1 c22)) (f22r2n1S bn1 bq2 bd3) (·=f22r2n1E bn1 bq2 bd3 o):=by
 unfold f22r2n1 at h;refine rN Qh 1 [j3] [] [] [2] [1,2] (f22r2n2S bq2 bd3 0 bn1) an ?_;obtain ⟨o27,h28,h⟩:=Qe h;cases o27 with
 | exit0 v29 =>
  obtain rfl:=Qg h;exact T.last' (T.bl (i:=0) (by kernel_rfl) (by kernel_rfl) (f22r2n2_ok FUEL bq2 bd3 0 bn1 h28)) (tds:=[]) (m:=[2]) (keep:=[1]) (st2:=(f22r2n1E bn1 bq2 bd3 (.norm v29)).2) (by kernel_rfl) an rfl
inductive f22r2n3O where
 | exit2 (v56:List Qc)
def f22r2n3E(v33:List Qa)(a1:Int):f22r2n3O→Ex×Tr×Hp
 | .exit2 v56=>((.exit 2),mkS [],[jR 3 Qa.cells v33,jR 4 Qc.cells v56])
def f22r2n3S(v33:List Qa)(a1 v48:Int)(v49:List Qc):Tr×Hp:=(mkS [(1,(.bp 2 0)),(3,(jI v48))],[jR 3 Qa.cells v33,jR 4 Qc.cells v49,some (.box [(.pl (.int .u8 a1)),(.own 0),(.own 1)])])
noncomputable def f22r2n3:Nat→List Qa→Int→Int→List Qc→Option f22r2n3O
 | 0,_,_,_,_=>none
 | f+1,v33,a1,v48,v49 =>
  bif decide (v48<(v49.length:Int)) then
   (at? v49 v48).bind fun x54 =>
   (f22r2n3 f v33 a1 (wr64 (v48+1)) (v49.set (Int.toNat v48) (Qc.mk x54.Member x54.Lot (-7) x54.Price)))
  else
   some (.exit2 v49)
theorem f22r2n3_ok:∀(f:Nat)(v33:List Qa)(a1 v48:Int)(v49:List Qc){o:f22r2n3O},f22r2n3 f v33 a1 v48 v49=some o→TL Try.prog Try.f22.ntmps 2 f (cL (cL (Qk 1 (Qk 1 (Qk 1 c22))))) (f22r2n3S v33 a1 v48 v49) (·=f22r2n3E v33 a1 o)
 | 0,_,_,_,_,o,h=>by rw [f22r2n3] at h; cases h
 | f+1,v33,a1,v48,v49,o,h=>by
  rw [f22r2n3] at h;refine TL.body (K:=fun s=>∃v48:Int,∃v49:List Qc,s=(f22r2n3S v33 a1 v48 v49)∧f22r2n3 f v33 a1 v48 v49=some o) ?_ (by rintro _ ⟨v48,v49,rfl,hk⟩; exact f22r2n3_ok f _ _ _ _ hk);rcases Qi h with ⟨h51,h⟩|⟨h51,h⟩
  ·obtain ⟨x54,h55,h⟩:=Qe h;exact rE Qh [([],[],[(3,.val (jI (v49.length:Int)))]),([],[(3,.at_ (Int.toNat v48)),(5,.idx 0 (Qc.cells x54))],[(5,.row 1 ((v49.set (Int.toNat v48) (Qc.mk x54.Member x54.Lot (-7) x54.Price)).map Qc.cells))]),j3] [some true] [] [2] [1,3] (.norm,(f22r2n3S v33 a1 (wr64 (v48+1)) (v49.set (Int.toNat v48) (Qc.mk x54.Member x54.Lot (-7) x54.Price)))) (ap (Qr (xs:=v49) (c:=Qc.cells)) (ap h51 (ap (Qj h55).1 (ap (Qal Qc.cells (Qj h55).2) (ap (Qm Qc.cells (Qj h55).2) (ap (set_cv (xs:=v49) (c:=Qc.cells) (k:=(Int.toNat v48)) (x:=(Qc.mk x54.Member x54.Lot (-7) x54.Price))) an)))))) (Qs.norm ⟨(wr64 (v48+1)),(v49.set (Int.toNat v48) (Qc.mk x54.Member x54.Lot (-7) x54.Price)),rfl,h⟩)
  ·obtain rfl:=Qg h;exact rK Qh 1 [([],[],[(3,.val (jI (v49.length:Int)))])] [some false] [] [] [] (.exit 2) ((f22r2n3E v33 a1 (.exit2 v49)).2) (ap (Qr (xs:=v49) (c:=Qc.cells)) (ap h51 an)) (Qs.out rfl rfl)
inductive f22r2n0O where
 | norm (v60:List Qa) (v61:List Qc)
def f22r2n0E(a1:Int)(a2:List Qa)(a3:List Qc):f22r2n0O→Ex×Tr×Hp
 | .norm v60 v61=>(.norm,mkS [],[jR 3 Qa.cells v60,jR 4 Qc.cells v61])
def f22r2n0S(a1:Int)(a2:List Qa)(a3:List Qc):Tr×Hp:=(Qab [(.agg [(.pl (.int .u8 a1)),(.own 0),(.own 1)])] 0 .leaf,[jR 3 Qa.cells a2,jR 4 Qc.cells a3])
noncomputable def f22r2n0(a1:Int)(a2:List Qa)(a3:List Qc):Option f22r2n0O :=
 (f22r2n1 a2 a3 a1).bind fun o31=>match o31 with
 | .norm v33=>(f22r2n3 FUEL v33 a1 0 a3).bind fun o57=>match o57 with
  | .exit2 v59=>some (.norm v33 v59)
theorem f22r2n0_ok(a1:Int)(a2:List Qa)(a3:List Qc){o:f22r2n0O}(h:f22r2n0 a1 a2 a3=some o):T Try.prog Try.f22.ntmps 2 c22 (f22r2n0S a1 a2 a3) (·=f22r2n0E a1 a2 a3 o):=by
 unfold f22r2n0 at h;refine rN Qh 1 [j3] [] [] [2] [1] (f22r2n1S a2 a3 a1) an ?_;obtain ⟨o31,h32,h⟩:=Qe h;cases o31 with
 | norm v33 =>
  refine T.oneN (by kernel_rfl) (f22r2n1_ok a2 a3 a1 h32) (st2:=(f22r2n1E a2 a3 a1 (.norm v33)).2) rfl ?_;refine rN Qh 1 [j3] [] [] [2] [1,3] (f22r2n3S v33 a1 0 a3) an ?_;obtain ⟨o57,h58,h⟩:=Qe h;cases o57 with
  | exit2 v59 =>
   obtain rfl:=Qg h;exact T.last' (T.bl (i:=2) (by kernel_rfl) (by kernel_rfl) (f22r2n3_ok FUEL v33 a1 0 a3 h58)) (tds:=[]) (m:=[]) (keep:=[]) (st2:=(f22r2n0E a1 a2 a3 (.norm v33 v59)).2) (by kernel_rfl) an rfl
noncomputable def f22r2(a1:Int)(a2:List Qa)(a3:List Qc):Option ((List Qa)×(List Qc)):=(f22r2n0 a1 a2 a3).bind fun o=>match o with
 | .norm v60 v61=>some (v60,v61)
theorem f22r2_ok(a1:Int)(a2:List Qa)(a3:List Qc){r:(List Qa)×(List Qc)}(h:f22r2 a1 a2 a3=some r):Qn Try.prog true 22 [(.agg [(.pl (.int .u8 a1)),(.own 0),(.own 1)])] [jR 3 Qa.cells a2,jR 4 Qc.cells a3] (.tup []) [jR 3 Qa.cells r.1,jR 4 Qc.cells r.2]:=by
 unfold f22r2 at h;obtain ⟨o,ho,h⟩:=Qe h;cases o with
 | norm v60 v61 =>
  obtain rfl:=Qg h;exact Qn.shared Qh (f:=Try.f22) (c:=c22) (by kernel_rfl) (by kernel_rfl) (by kernel_rfl) ((f22r2n0_ok a1 a2 a3 ho).mono fun r e=>by subst e; exact ⟨.inr rfl,by kernel_rfl,by kernel_rfl⟩)

noncomputable def c65:Code:=Try.f65.body.getD .skip
inductive f65n0O where
 | ret (v15:Bool)
def f65n0E(a1:Qd)(a2:Int):f65n0O→Ex×Tr×Hp
 | .ret v15=>(.ret,mkS [(4,(jB v15))],[])
def f65n0S(a1:Qd)(a2:Int):Tr×Hp:=(Qab [(jA Qd.cells a1),(jI a2)] 0 .leaf,[])
noncomputable def f65n0(a1:Qd)(a2:Int):Option f65n0O :=
 (at? a1.Bids a2).bind fun x9 =>
 (f17 a1.Lots x9.Lot).bind fun x11 =>
 (at? a1.Lots x11).bind fun x13 =>
 some (.ret (decide (x13.Reserve≤x9.Price)))
theorem f65n0_ok(a1:Qd)(a2:Int){o:f65n0O}(h:f65n0 a1 a2=some o):T Try.prog Try.f65.ntmps 0 c65 (f65n0S a1 a2) (·=f65n0E a1 a2 o):=by
 unfold f65n0 at h;obtain ⟨x9,h10,h⟩:=Qe h;obtain ⟨x11,h12,h⟩:=Qe h;obtain ⟨x13,h14,h⟩:=Qe h;obtain rfl:=Qg h;exact rE Qh [j3,([],[(3,.idx (Int.toNat a2) (Qc.cells x9)),(13,.idx (Int.toNat a2) (Qc.cells x9)),jH 16 (jI x11),(17,.idx (Int.toNat x11) (Qa.cells x13))],[])] [] [] [] [4] (.ret,(f65n0E a1 a2 (.ret (decide (x13.Reserve≤x9.Price)))).2) (ap (Qj h10).1 (ap (Qm Qc.cells (Qj h10).2) (ap (Qj h10).1 (ap (Qm Qc.cells (Qj h10).2) (ap (Qj h14).1 (ap (Qm Qa.cells (Qj h14).2) (ap (f17_ok a1.Lots x9.Lot h12) an))))))) rfl
noncomputable def f65(a1:Qd)(a2:Int):Option Bool:=(f65n0 a1 a2).bind fun o=>match o with
 | .ret v15=>some v15
theorem f65_ok(a1:Qd)(a2:Int){r:Bool}(h:f65 a1 a2=some r):Qn Try.prog false 65 [(jA Qd.cells a1),(jI a2)] [] (jB r) []:=by
 unfold f65 at h;obtain ⟨o,ho,h⟩:=Qe h;cases o with
 | ret v15 =>
  obtain rfl:=Qg h;exact Qn.plain Qh (f:=Try.f65) (c:=c65) (by kernel_rfl) (by kernel_rfl) (by kernel_rfl) (by kernel_rfl) ((f65n0_ok a1 a2 ho).mono fun r e=>by subst e; exact ⟨.inl rfl,(jB v15),(jB v15),by kernel_rfl,by kernel_rfl,((Wk.refl _):Wk (jB v15) (jB v15))⟩)

noncomputable def c66:Code:=Try.f66.body.getD .skip
inductive f66n0O where
 | ret (v16:Bool)
def f66n0E(a1:Qd)(a2 a3:Int):f66n0O→Ex×Tr×Hp
 | .ret v16=>(.ret,mkS [(6,(jB v16))],[])
def f66n0S(a1:Qd)(a2 a3:Int):Tr×Hp:=(Qab [(jA Qd.cells a1),(jI a2),(jI a3)] 0 .leaf,[])
noncomputable def f66n0(a1:Qd)(a2 a3:Int):Option f66n0O :=
 (at? a1.Bids a2).bind fun x10 =>
 (at? a1.Bids a3).bind fun x12 =>
 bif decide (x12.Price<x10.Price) then
  some (.ret true)
 else
  bif decide (x10.Price=x12.Price) then
   some (.ret (decide (a2<a3)))
  else
   some (.ret false)
theorem f66n0_ok(a1:Qd)(a2 a3:Int){o:f66n0O}(h:f66n0 a1 a2 a3=some o):T Try.prog Try.f66.ntmps 0 c66 (f66n0S a1 a2 a3) (·=f66n0E a1 a2 a3 o):=by
 unfold f66n0 at h;obtain ⟨x10,h11,h⟩:=Qe h;obtain ⟨x12,h13,h⟩:=Qe h;rcases Qi h with ⟨h14,h⟩|⟨h14,h⟩
 ·obtain rfl:=Qg h;exact rE Qh [j3,(jT [14,15,16,17,18,19,20,21,22,23,24,25,26,27,31],[(3,.idx (Int.toNat a2) (Qc.cells x10)),(9,.idx (Int.toNat a3) (Qc.cells x12)),(32,.bool true)],[])] [] [] [] [6] (.ret,(f66n0E a1 a2 a3 (.ret true)).2) (ap (Qj h11).1 (ap (Qm Qc.cells (Qj h11).2) (ap (Qj h13).1 (ap (Qm Qc.cells (Qj h13).2) (ap4 h14 (ap4 h14 (ap4 h14 (ap4 h14 an)))))))) rfl
 ·rcases Qi h with ⟨h15,h⟩|⟨h15,h⟩
  ·obtain rfl:=Qg h;exact rE Qh [j3,(jF [14,15,16,17,18,19,20,21,22,23,24,25,26,27,31]++jT [28,29,30],[(3,.idx (Int.toNat a2) (Qc.cells x10)),(9,.idx (Int.toNat a3) (Qc.cells x12)),(17,.idx (Int.toNat a2) (Qc.cells x10)),(23,.idx (Int.toNat a3) (Qc.cells x12)),(31,.bool true),(32,.bool false)],[])] [] [] [] [6] (.ret,(f66n0E a1 a2 a3 (.ret (decide (a2<a3)))).2) (ap (Qj h11).1 (ap (Qm Qc.cells (Qj h11).2) (ap (Qj h13).1 (ap (Qm Qc.cells (Qj h13).2) (ap4 h14 (ap (Qj h11).1 (ap (Qm Qc.cells (Qj h11).2) (ap2 h14 (ap4 h14 (ap (Qj h13).1 (ap (Qm Qc.cells (Qj h13).2) (ap4 h14 (ap3 h15 (ap h14 (ap h15 (ap h14 an)))))))))))))))) rfl
  ·obtain rfl:=Qg h;exact rE Qh [j3,(jF [14,15,16,17,18,19,20,21,22,23,24,25,26,27,28,29,30,31],[(3,.idx (Int.toNat a2) (Qc.cells x10)),(9,.idx (Int.toNat a3) (Qc.cells x12)),(17,.idx (Int.toNat a2) (Qc.cells x10)),(23,.idx (Int.toNat a3) (Qc.cells x12)),(31,.bool false),(32,.bool false)],[])] [] [] [] [6] (.ret,(f66n0E a1 a2 a3 (.ret false)).2) (ap (Qj h11).1 (ap (Qm Qc.cells (Qj h11).2) (ap (Qj h13).1 (ap (Qm Qc.cells (Qj h13).2) (ap4 h14 (ap (Qj h11).1 (ap (Qm Qc.cells (Qj h11).2) (ap2 h14 (ap4 h14 (ap (Qj h13).1 (ap (Qm Qc.cells (Qj h13).2) (ap4 h14 (ap3 h15 (ap h14 (ap h15 (ap h14 an)))))))))))))))) rfl
noncomputable def f66(a1:Qd)(a2 a3:Int):Option Bool:=(f66n0 a1 a2 a3).bind fun o=>match o with
 | .ret v16=>some v16
theorem f66_ok(a1:Qd)(a2 a3:Int){r:Bool}(h:f66 a1 a2 a3=some r):Qn Try.prog false 66 [(jA Qd.cells a1),(jI a2),(jI a3)] [] (jB r) []:=by
 unfold f66 at h;obtain ⟨o,ho,h⟩:=Qe h;cases o with
 | ret v16 =>
  obtain rfl:=Qg h;exact Qn.plain Qh (f:=Try.f66) (c:=c66) (by kernel_rfl) (by kernel_rfl) (by kernel_rfl) (by kernel_rfl) ((f66n0_ok a1 a2 a3 ho).mono fun r e=>by subst e; exact ⟨.inl rfl,(jB v16),(jB v16),by kernel_rfl,by kernel_rfl,((Wk.refl _):Wk (jB v16) (jB v16))⟩)

noncomputable def c48:Code:=Try.f48.body.getD .skip
inductive f48n2O where
 | exit0 (v79:Int)
def f48n2E(bd1:Int)(ba3:Qd):f48n2O→Ex×Tr×Hp
 | .exit0 v79=>((.exit 0),mkS [(1,(jI bd1)),(2,(.bp 0 0)),(5,(jI v79))],[some (.box ((Qd.cells ba3).map .pl))])
def f48n2S(bd1:Int)(ba3:Qd)(v59 v60:Int):Tr×Hp:=(mkS [(1,(jI bd1)),(2,(.bp 0 0)),(5,(jI v59)),(6,(jI v60))],[some (.box ((Qd.cells ba3).map .pl))])
noncomputable def f48n2:Nat→Int→Qd→Int→Int→Option f48n2O
 | 0,_,_,_,_=>none
 | f+1,bd1,ba3,v59,v60 =>
  bif decide (v60<(ba3.Bids.length:Int)) then
   (at? ba3.Bids v60).bind fun x71 =>
   (at? ba3.Bids bd1).bind fun x73 =>
   bif (seq x71.Lot x73.Lot) then
    (f66 ba3 v60 bd1).bind fun x76 =>
    bif x76 then
     (f48n2 f bd1 ba3 (wr64 (v59-x71.Units)) (wr64 (v60+1)))
    else
     (f48n2 f bd1 ba3 v59 (wr64 (v60+1)))
   else
    (f48n2 f bd1 ba3 v59 (wr64 (v60+1)))
  else
   some (.exit0 v59)
theorem f48n2_ok:∀(f:Nat)(bd1:Int)(ba3:Qd)(v59 v60:Int){o:f48n2O},f48n2 f bd1 ba3 v59 v60=some o→TL Try.prog Try.f48.ntmps 0 f (cL (cL (Qk 1 (cL (Qk 3 c48))))) (f48n2S bd1 ba3 v59 v60) (·=f48n2E bd1 ba3 o)
 | 0,_,_,_,_,o,h=>by rw [f48n2] at h; cases h
 | f+1,bd1,ba3,v59,v60,o,h=>by
  rw [f48n2] at h;refine TL.body (K:=fun s=>∃v59:Int,∃v60:Int,s=(f48n2S bd1 ba3 v59 v60)∧f48n2 f bd1 ba3 v59 v60=some o) ?_ (by rintro _ ⟨v59,v60,rfl,hk⟩; exact f48n2_ok f _ _ _ _ hk);rcases Qi h with ⟨h62,h⟩|⟨h62,h⟩
  ·obtain ⟨x71,h72,h⟩:=Qe h;obtain ⟨x73,h74,h⟩:=Qe h;rcases Qi h with ⟨h75,h⟩|⟨h75,h⟩
   ·obtain ⟨x76,h77,h⟩:=Qe h;rcases Qi h with ⟨h78,h⟩|⟨h78,h⟩
    ·exact rE Qh [([],[],[(3,.val (jI (ba3.Bids.length:Int)))]),(jT [14,15,16,17],[(3,.idx (Int.toNat v60) (Qc.cells x71)),(9,.idx (Int.toNat bd1) (Qc.cells x73)),jH 17 (jB x76),(18,.bool true)],[]),([],[(4,.idx (Int.toNat v60) (Qc.cells x71))],[]),j3] [some true,some true] [] [0] [1,2,5,6] (.norm,(f48n2S bd1 ba3 (wr64 (v59-x71.Units)) (wr64 (v60+1)))) (ap (Qr (xs:=ba3.Bids) (c:=Qc.cells)) (ap h62 (ap (Qj h72).1 (ap (Qm Qc.cells (Qj h72).2) (ap (Qj h74).1 (ap (Qm Qc.cells (Qj h74).2) (ap h75 (ap4 h75 (ap (f66_ok ba3 v60 bd1 h77) (ap h78 (ap (Qj h72).1 (ap (Qm Qc.cells (Qj h72).2) an)))))))))))) (Qs.norm ⟨(wr64 (v59-x71.Units)),(wr64 (v60+1)),rfl,h⟩)
    ·exact rE Qh [([],[],[(3,.val (jI (ba3.Bids.length:Int)))]),(jT [14,15,16,17],[(3,.idx (Int.toNat v60) (Qc.cells x71)),(9,.idx (Int.toNat bd1) (Qc.cells x73)),jH 17 (jB x76),(18,.bool true)],[]),j3] [some true,some false] [] [0] [1,2,5,6] (.norm,(f48n2S bd1 ba3 v59 (wr64 (v60+1)))) (ap (Qr (xs:=ba3.Bids) (c:=Qc.cells)) (ap h62 (ap (Qj h72).1 (ap (Qm Qc.cells (Qj h72).2) (ap (Qj h74).1 (ap (Qm Qc.cells (Qj h74).2) (ap h75 (ap4 h75 (ap (f66_ok ba3 v60 bd1 h77) (ap h78 an)))))))))) (Qs.norm ⟨v59,(wr64 (v60+1)),rfl,h⟩)
   ·exact rE Qh [([],[],[(3,.val (jI (ba3.Bids.length:Int)))]),(jF [14,15,16,17],[(3,.idx (Int.toNat v60) (Qc.cells x71)),(9,.idx (Int.toNat bd1) (Qc.cells x73)),(18,.bool false)],[]),j3] [some true,none] [] [0] [1,2,5,6] (.norm,(f48n2S bd1 ba3 v59 (wr64 (v60+1)))) (ap (Qr (xs:=ba3.Bids) (c:=Qc.cells)) (ap h62 (ap (Qj h72).1 (ap (Qm Qc.cells (Qj h72).2) (ap (Qj h74).1 (ap (Qm Qc.cells (Qj h74).2) (ap h75 (ap4 h75 an)))))))) (Qs.norm ⟨v59,(wr64 (v60+1)),rfl,h⟩)
  ·obtain rfl:=Qg h;exact rK Qh 1 [([],[],[(3,.val (jI (ba3.Bids.length:Int)))])] [some false] [] [0] [1,2,5] (.exit 0) ((f48n2E bd1 ba3 (.exit0 v59)).2) (ap (Qr (xs:=ba3.Bids) (c:=Qc.cells)) (ap h62 an)) (Qs.out rfl rfl)
noncomputable def f48n2L(bd1:Int)(ba3:Qd):List Qc→Int→Int→Option f48n2O
 | [],v59,v60 =>
  some (.exit0 v59)
 | x0::rest,v59,v60 =>
  (at? ba3.Bids bd1).bind fun x73 =>
  bif (seq x0.Lot x73.Lot) then
   (f66 ba3 v60 bd1).bind fun x76 =>
   bif x76 then
    (f48n2L bd1 ba3 rest (wr64 (v59-x0.Units)) (v60+1))
   else
    (f48n2L bd1 ba3 rest v59 (v60+1))
  else
   (f48n2L bd1 ba3 rest v59 (v60+1))
theorem f48n2L_eq(bd1:Int)(ba3:Qd):∀(rest:List Qc)(f k:Nat)(v59:Int),ba3.Bids.drop k=rest→ba3.Bids.length≤maxLen→rest.length<f→f48n2 f bd1 ba3 v59 (k:Int)=f48n2L bd1 ba3 rest v59 (k:Int)
 | _,0,_,_,_,_,hf=>absurd hf (Nat.not_lt_zero _)
 | [],f+1,k,v59,hd,hm,hf=>by
  have hk:¬((k:Int)<(ba3.Bids.length:Int)):=by have:=Qac hd; omega
  rw [f48n2,f48n2L];simp only [decide_eq_false hk,cond_false]
 | x0::rest,f+1,k,v59,hd,hm,hf=>by
  obtain ⟨hx,hlt,hd'⟩:=Qan hd;have hk:(k:Int)<(ba3.Bids.length:Int):=by omega
  have hw:wr64 ((k:Int)+1)=(k:Int)+1:=Qbp (by omega) (by unfold maxLen at hm; omega);have ih:∀(v59:Int),f48n2 f bd1 ba3 v59 ((k:Int)+1)=f48n2L bd1 ba3 rest v59 ((k:Int)+1):=fun v59=>f48n2L_eq bd1 ba3 rest f (k+1) v59 hd' hm (by simpa using hf);rw [f48n2,f48n2L];simp only [decide_eq_true hk,cond_true,Qaq,hx,Option.bind_some,hw,ih]
theorem f48n2_run(bd1:Int)(ba3:Qd)(v59:Int)(hm:ba3.Bids.length≤maxLen):f48n2 FUEL bd1 ba3 v59 0=f48n2L bd1 ba3 ba3.Bids v59 0:=f48n2L_eq bd1 ba3 ba3.Bids FUEL 0 v59 List.drop_zero hm (Qai hm)
inductive f48n1O where
 | norm (v83:Int)
def f48n1E(bd1:Int)(be2:Qa)(ba3:Qd):f48n1O→Ex×Tr×Hp
 | .norm v83=>(.norm,mkS [(1,(jI bd1)),(2,(.bp 0 0)),(5,(jI v83))],[some (.box ((Qd.cells ba3).map .pl))])
def f48n1S(bd1:Int)(be2:Qa)(ba3:Qd):Tr×Hp:=(mkS [(1,(jI bd1)),(2,(.bp 0 0)),(5,(jI be2.Units))],[some (.box ((Qd.cells ba3).map .pl))])
noncomputable def f48n1(bd1:Int)(be2:Qa)(ba3:Qd):Option f48n1O :=
 (f48n2 FUEL bd1 ba3 be2.Units 0).bind fun o80=>match o80 with
 | .exit0 v82=>some (.norm v82)
theorem f48n1_ok(bd1:Int)(be2:Qa)(ba3:Qd){o:f48n1O}(h:f48n1 bd1 be2 ba3=some o):T Try.prog Try.f48.ntmps 0 (cL (Qk 3 c48)) (f48n1S bd1 be2 ba3) (·=f48n1E bd1 be2 ba3 o):=by
 unfold f48n1 at h;refine rN Qh 1 [j3] [] [] [0] [1,2,5,6] (f48n2S bd1 ba3 be2.Units 0) an ?_;obtain ⟨o80,h81,h⟩:=Qe h;cases o80 with
 | exit0 v82 =>
  obtain rfl:=Qg h;exact T.last' (T.bl (i:=0) (by kernel_rfl) (by kernel_rfl) (f48n2_ok FUEL bd1 ba3 be2.Units 0 h81)) (tds:=[]) (m:=[0]) (keep:=[1,2,5]) (st2:=(f48n1E bd1 be2 ba3 (.norm v82)).2) (by kernel_rfl) an rfl
inductive f48n0O where
 | ret (v87:Int)
def f48n0E(a1:Qd)(a2:Int):f48n0O→Ex×Tr×Hp
 | .ret v87=>(.ret,mkS [(4,(jI v87))],[])
def f48n0S(a1:Qd)(a2:Int):Tr×Hp:=(Qab [(jA Qd.cells a1),(jI a2)] 0 .leaf,[])
noncomputable def f48n0(a1:Qd)(a2:Int):Option f48n0O :=
 (f65 a1 a2).bind fun x6 =>
 bif x6 then
  (at? a1.Bids a2).bind fun x15 =>
  (f17 a1.Lots x15.Lot).bind fun x17 =>
  (at? a1.Lots x17).bind fun x19 =>
  (f48n1 a2 x19 a1).bind fun o84=>match o84 with
  | .norm v86=>some (.ret (mnI (mxI v86 0) x15.Units))
 else
  some (.ret 0)
theorem f48n0_ok(a1:Qd)(a2:Int){o:f48n0O}(h:f48n0 a1 a2=some o):T Try.prog Try.f48.ntmps 0 c48 (f48n0S a1 a2) (·=f48n0E a1 a2 o):=by
 unfold f48n0 at h;obtain ⟨x6,h7,h⟩:=Qe h;rcases Qi h with ⟨h8,h⟩|⟨h8,h⟩
 ·obtain ⟨x15,h16,h⟩:=Qe h;obtain ⟨x17,h18,h⟩:=Qe h;obtain ⟨x19,h20,h⟩:=Qe h;refine rN Qh 3 [j3,([],[jH 2 (jB x6)],[]),([],[(7,.idx (Int.toNat a2) (Qc.cells x15)),jH 10 (jI x17),(11,.idx (Int.toNat x17) (Qa.cells x19))],[])] [some false] [] [0] [1,2,5] (f48n1S a2 x19 a1) (ap (f65_ok a1 a2 h7) (ap (Qt h8) (ap (Qj h16).1 (ap (Qm Qc.cells (Qj h16).2) (ap (Qj h20).1 (ap (Qm Qa.cells (Qj h20).2) (ap (f17_ok a1.Lots x15.Lot h18) an))))))) ?_;obtain ⟨o84,h85,h⟩:=Qe h;cases o84 with
  | norm v86 =>
   refine T.oneN (by kernel_rfl) (f48n1_ok a2 x19 a1 h85) (st2:=(f48n1E a2 x19 a1 (.norm v86)).2) rfl ?_;obtain rfl:=Qg h;exact rE Qh [([],[(5,.idx (Int.toNat a2) (Qc.cells x15))],[])] [] [] [] [4] (.ret,(f48n0E a1 a2 (.ret (mnI (mxI v86 0) x15.Units))).2) (ap (Qj h16).1 (ap (Qm Qc.cells (Qj h16).2) an)) rfl
 ·obtain rfl:=Qg h;exact rK Qh 2 [j3,([],[jH 2 (jB x6)],[]),j3] [some true] [] [] [4] .ret ((f48n0E a1 a2 (.ret 0)).2) (ap (f65_ok a1 a2 h7) (ap (Qad h8) an)) rfl
noncomputable def f48(a1:Qd)(a2:Int):Option Int:=(f48n0 a1 a2).bind fun o=>match o with
 | .ret v87=>some v87
theorem f48_ok(a1:Qd)(a2:Int){r:Int}(h:f48 a1 a2=some r):Qn Try.prog false 48 [(jA Qd.cells a1),(jI a2)] [] (jI r) []:=by
 unfold f48 at h;obtain ⟨o,ho,h⟩:=Qe h;cases o with
 | ret v87 =>
  obtain rfl:=Qg h;exact Qn.plain Qh (f:=Try.f48) (c:=c48) (by kernel_rfl) (by kernel_rfl) (by kernel_rfl) (by kernel_rfl) ((f48n0_ok a1 a2 ho).mono fun r e=>by subst e; exact ⟨.inl rfl,(jI v87),(jI v87),by kernel_rfl,by kernel_rfl,((Wk.refl _):Wk (jI v87) (jI v87))⟩)

noncomputable def c49:Code:=Try.f49.body.getD .skip
inductive f49n3O where
 | norm (v189:Int)
def f49n3E(bd1 bd2 bd3 bd4:Int)(ba5:Qd):f49n3O→Ex×Tr×Hp
 | .norm v189=>(.norm,mkS [(1,(jI bd1)),(2,(.bp 0 0)),(5,(jI v189)),(6,(jI bd3)),(7,(jI bd4))],[some (.box ((Qd.cells ba5).map .pl))])
def f49n3S(bd1 bd2 bd3 bd4:Int)(ba5:Qd):Tr×Hp:=(mkS [(1,(jI bd1)),(2,(.bp 0 0)),(5,(jI bd2)),(6,(jI bd3)),(7,(jI bd4))],[some (.box ((Qd.cells ba5).map .pl))])
noncomputable def f49n3(bd1 bd2 bd3 bd4:Int)(ba5:Qd):Option f49n3O :=
 (f48 ba5 bd4).bind fun x181 =>
 bif decide (0<x181) then
  (at? ba5.Bids bd4).bind fun x187 =>
  some (.norm (mnI bd2 x187.Price))
 else
  some (.norm bd2)
theorem f49n3_ok(bd1 bd2 bd3 bd4:Int)(ba5:Qd){o:f49n3O}(h:f49n3 bd1 bd2 bd3 bd4 ba5=some o):T Try.prog Try.f49.ntmps 0 (cL (Qk 1 (cL (cL (Qk 1 (cL (cL (Qk 1 (cL (Qk 4 c49)))))))))) (f49n3S bd1 bd2 bd3 bd4 ba5) (·=f49n3E bd1 bd2 bd3 bd4 ba5 o):=by
 unfold f49n3 at h;obtain ⟨x181,h182,h⟩:=Qe h;rcases Qi h with ⟨h186,h⟩|⟨h186,h⟩
 ·obtain ⟨x187,h188,h⟩:=Qe h;obtain rfl:=Qg h;exact rE Qh [([],[jH 2 (jI x181)],[]),([],[(4,.idx (Int.toNat bd4) (Qc.cells x187))],[])] [some true] [] [0] [1,2,5,6,7] (.norm,(f49n3E bd1 bd2 bd3 bd4 ba5 (.norm (mnI bd2 x187.Price))).2) (ap (f48_ok ba5 bd4 h182) (ap h186 (ap (Qj h188).1 (ap (Qm Qc.cells (Qj h188).2) an)))) rfl
 ·obtain rfl:=Qg h;exact rE Qh [([],[jH 2 (jI x181)],[])] [some false] [] [0] [1,2,5,6,7] (.norm,(f49n3E bd1 bd2 bd3 bd4 ba5 (.norm bd2)).2) (ap (f48_ok ba5 bd4 h182) (ap h186 an)) rfl
inductive f49n4O where
 | norm (v215:Bool)
def f49n4E(bd1 bd2 bd3 bd4:Int)(ba5:Qd):f49n4O→Ex×Tr×Hp
 | .norm v215=>(.norm,mkS [(1,(jI bd1)),(2,(.bp 0 0)),(5,(jI bd2)),(6,(jI bd3)),(7,(jI bd4)),(80,(jB v215))],[some (.box ((Qd.cells ba5).map .pl))])
def f49n4S(bd1 bd2 bd3 bd4:Int)(ba5:Qd):Tr×Hp:=(mkS [(1,(jI bd1)),(2,(.bp 0 0)),(5,(jI bd2)),(6,(jI bd3)),(7,(jI bd4))],[some (.box ((Qd.cells ba5).map .pl))])
noncomputable def f49n4(bd1 bd2 bd3 bd4:Int)(ba5:Qd):Option f49n4O :=
 (f48 ba5 bd4).bind fun x207 =>
 (at? ba5.Bids bd4).bind fun x209 =>
 bif decide (x207<x209.Units) then
  bif decide (bd3<0) then
   some (.norm true)
  else
   (f66 ba5 bd4 bd3).bind fun x213 =>
   some (.norm x213)
 else
  some (.norm false)
theorem f49n4_ok(bd1 bd2 bd3 bd4:Int)(ba5:Qd){o:f49n4O}(h:f49n4 bd1 bd2 bd3 bd4 ba5=some o):T Try.prog Try.f49.ntmps 0 (cL (Qk 0 (Qk 1 (Qk 1 (cL (cL (Qk 1 (cL (cL (Qk 1 (cL (Qk 4 c49)))))))))))) (f49n4S bd1 bd2 bd3 bd4 ba5) (·=f49n4E bd1 bd2 bd3 bd4 ba5 o):=by
 unfold f49n4 at h;obtain ⟨x207,h208,h⟩:=Qe h;obtain ⟨x209,h210,h⟩:=Qe h;rcases Qi h with ⟨h211,h⟩|⟨h211,h⟩
 ·rcases Qi h with ⟨h212,h⟩|⟨h212,h⟩
  ·obtain rfl:=Qg h;exact rE Qh [(jT [11,12,13,14,15,16,17,18],[jH 2 (jI x207),(6,.idx (Int.toNat bd4) (Qc.cells x209)),(18,.bool true),(19,.bool true)],[])] [] [] [0] [1,2,5,6,7,80] (.norm,(f49n4E bd1 bd2 bd3 bd4 ba5 (.norm true)).2) (ap (Qj h210).1 (ap (Qm Qc.cells (Qj h210).2) (ap3 h211 (ap4 h212 (ap h211 (ap h212 (ap h211 (ap (f48_ok ba5 bd4 h208) an)))))))) rfl
  ·obtain ⟨x213,h214,h⟩:=Qe h;obtain rfl:=Qg h;exact rE Qh [(jF [14,15,16,17]++jT [11,12,13,18],[jH 2 (jI x207),(6,.idx (Int.toNat bd4) (Qc.cells x209)),jH 17 (jB x213),(18,.bool false),(19,.bool true)],[])] [] [] [0] [1,2,5,6,7,80] (.norm,(f49n4E bd1 bd2 bd3 bd4 ba5 (.norm x213)).2) (ap (Qj h210).1 (ap (Qm Qc.cells (Qj h210).2) (ap3 h211 (ap4 h212 (ap h211 (ap h212 (ap h211 (ap (f48_ok ba5 bd4 h208) (ap (f66_ok ba5 bd4 bd3 h214) an))))))))) rfl
 ·obtain rfl:=Qg h;exact rE Qh [(jF [11,12,13,18],[jH 2 (jI x207),(6,.idx (Int.toNat bd4) (Qc.cells x209)),(19,.bool false)],[])] [] [] [0] [1,2,5,6,7,80] (.norm,(f49n4E bd1 bd2 bd3 bd4 ba5 (.norm false)).2) (ap (Qj h210).1 (ap (Qm Qc.cells (Qj h210).2) (ap h211 (ap4 h211 (ap (f48_ok ba5 bd4 h208) an))))) rfl
inductive f49n2O where
 | norm (v221:Int) (v222:Int)
def f49n2E(bd1 bd2 bd3 bd4:Int)(ba5:Qd):f49n2O→Ex×Tr×Hp
 | .norm v221 v222=>(.norm,mkS [(1,(jI bd1)),(2,(.bp 0 0)),(5,(jI v221)),(6,(jI v222)),(7,(jI bd4))],[some (.box ((Qd.cells ba5).map .pl))])
def f49n2S(bd1 bd2 bd3 bd4:Int)(ba5:Qd):Tr×Hp:=(mkS [(1,(jI bd1)),(2,(.bp 0 0)),(5,(jI bd2)),(6,(jI bd3)),(7,(jI bd4))],[some (.box ((Qd.cells ba5).map .pl))])
noncomputable def f49n2(bd1 bd2 bd3 bd4:Int)(ba5:Qd):Option f49n2O :=
 (at? ba5.Bids bd4).bind fun x168 =>
 (at? ba5.Bids bd1).bind fun x170 =>
 bif (seq x168.Lot x170.Lot) then
  (f65 ba5 bd4).bind fun x173 =>
  bif x173 then
   (f49n3 bd1 bd2 bd3 bd4 ba5).bind fun o190=>match o190 with
   | .norm v192=>(f49n4 bd1 v192 bd3 bd4 ba5).bind fun o216=>match o216 with
    | .norm v218=>bif v218 then
      some (.norm v192 bd4)
     else
      some (.norm v192 bd3)
  else
   some (.norm bd2 bd3)
 else
  some (.norm bd2 bd3)
theorem f49n2_ok(bd1 bd2 bd3 bd4:Int)(ba5:Qd){o:f49n2O}(h:f49n2 bd1 bd2 bd3 bd4 ba5=some o):T Try.prog Try.f49.ntmps 0 (cL (Qk 1 (cL (cL (Qk 1 (cL (Qk 4 c49))))))) (f49n2S bd1 bd2 bd3 bd4 ba5) (·=f49n2E bd1 bd2 bd3 bd4 ba5 o):=by
 unfold f49n2 at h;refine T.block' (i:=1) (by kernel_rfl) ?_;obtain ⟨x168,h169,h⟩:=Qe h;obtain ⟨x170,h171,h⟩:=Qe h;rcases Qi h with ⟨h172,h⟩|⟨h172,h⟩
 ·obtain ⟨x173,h174,h⟩:=Qe h;rcases Qi h with ⟨h175,h⟩|⟨h175,h⟩
  ·refine rN Qh 1 [(jF [14,15,16,17],[(3,.idx (Int.toNat bd4) (Qc.cells x168)),(9,.idx (Int.toNat bd1) (Qc.cells x170)),jH 16 (jB x173),(18,.bool false)],[])] [some false] [] [0] [1,2,5,6,7] (f49n3S bd1 bd2 bd3 bd4 ba5) (ap (Qj h169).1 (ap (Qm Qc.cells (Qj h169).2) (ap (Qj h171).1 (ap (Qm Qc.cells (Qj h171).2) (ap (Qt h172) (ap4 (Qt h172) (ap (f65_ok ba5 bd4 h174) (ap (Qt h175) an)))))))) ?_;obtain ⟨o190,h191,h⟩:=Qe h;cases o190 with
   | norm v192 =>
    refine T.oneN (by kernel_rfl) (f49n3_ok bd1 bd2 bd3 bd4 ba5 h191) (st2:=(f49n3E bd1 bd2 bd3 bd4 ba5 (.norm v192)).2) rfl ?_;refine rN Qh 0 [] [] [] [0] [1,2,5,6,7] (f49n4S bd1 v192 bd3 bd4 ba5) an ?_;obtain ⟨o216,h217,h⟩:=Qe h;cases o216 with
    | norm v218 =>
     refine T.oneN (by kernel_rfl) (f49n4_ok bd1 v192 bd3 bd4 ba5 h217) (st2:=(f49n4E bd1 v192 bd3 bd4 ba5 (.norm v218)).2) rfl ?_;rcases Qi h with ⟨h220,h⟩|⟨h220,h⟩
     ·obtain rfl:=Qg h;exact rE Qh [j3] [some true] [] [0] [1,2,5,6,7] (.norm,(f49n2E bd1 bd2 bd3 bd4 ba5 (.norm v192 bd4)).2) (ap h220 an) rfl
     ·obtain rfl:=Qg h;exact rE Qh [] [some false] [] [0] [1,2,5,6,7] (.norm,(f49n2E bd1 bd2 bd3 bd4 ba5 (.norm v192 bd3)).2) (ap h220 an) rfl
  ·obtain rfl:=Qg h;exact rK Qh 1 [(jF [14,15,16,17],[(3,.idx (Int.toNat bd4) (Qc.cells x168)),(9,.idx (Int.toNat bd1) (Qc.cells x170)),jH 16 (jB x173),(18,.bool false)],[])] [some true] [] [0] [1,2,5,6,7] (.exit 1) ((f49n2E bd1 bd2 bd3 bd4 ba5 (.norm bd2 bd3)).2) (ap (Qj h169).1 (ap (Qm Qc.cells (Qj h169).2) (ap (Qj h171).1 (ap (Qm Qc.cells (Qj h171).2) (ap (Qt h172) (ap4 (Qt h172) (ap (f65_ok ba5 bd4 h174) (ap (Qad h175) an)))))))) rfl
 ·obtain rfl:=Qg h;exact rK Qh 1 [(jT [14,15,16,17],[(3,.idx (Int.toNat bd4) (Qc.cells x168)),(9,.idx (Int.toNat bd1) (Qc.cells x170)),(18,.bool true)],[])] [none] [] [0] [1,2,5,6,7] (.exit 1) ((f49n2E bd1 bd2 bd3 bd4 ba5 (.norm bd2 bd3)).2) (ap (Qj h169).1 (ap (Qm Qc.cells (Qj h169).2) (ap (Qj h171).1 (ap (Qm Qc.cells (Qj h171).2) (ap (Qad h172) (ap4 (Qad h172) an)))))) rfl
inductive f49n5O where
 | exit0 (v227:Int) (v228:Int)
def f49n5E(bd1:Int)(ba3:Qd):f49n5O→Ex×Tr×Hp
 | .exit0 v227 v228=>((.exit 0),mkS [(1,(jI bd1)),(2,(.bp 0 0)),(5,(jI v227)),(6,(jI v228))],[some (.box ((Qd.cells ba3).map .pl))])
def f49n5S(bd1:Int)(ba3:Qd)(v134 v135 v136:Int):Tr×Hp:=(mkS [(1,(jI bd1)),(2,(.bp 0 0)),(5,(jI v134)),(6,(jI v135)),(7,(jI v136))],[some (.box ((Qd.cells ba3).map .pl))])
noncomputable def f49n5:Nat→Int→Qd→Int→Int→Int→Option f49n5O
 | 0,_,_,_,_,_=>none
 | f+1,bd1,ba3,v134,v135,v136 =>
  bif decide (v136<(ba3.Bids.length:Int)) then
   (f49n2 bd1 v134 v135 v136 ba3).bind fun o223=>match o223 with
   | .norm v225 v226=>(f49n5 f bd1 ba3 v225 v226 (wr64 (v136+1)))
  else
   some (.exit0 v134 v135)
theorem f49n5_ok:∀(f:Nat)(bd1:Int)(ba3:Qd)(v134 v135 v136:Int){o:f49n5O},f49n5 f bd1 ba3 v134 v135 v136=some o→TL Try.prog Try.f49.ntmps 0 f (cL (cL (Qk 1 (cL (Qk 4 c49))))) (f49n5S bd1 ba3 v134 v135 v136) (·=f49n5E bd1 ba3 o)
 | 0,_,_,_,_,_,o,h=>by rw [f49n5] at h; cases h
 | f+1,bd1,ba3,v134,v135,v136,o,h=>by
  rw [f49n5] at h;refine TL.body (K:=fun s=>∃v134:Int,∃v135:Int,∃v136:Int,s=(f49n5S bd1 ba3 v134 v135 v136)∧f49n5 f bd1 ba3 v134 v135 v136=some o) ?_ (by rintro _ ⟨v134,v135,v136,rfl,hk⟩; exact f49n5_ok f _ _ _ _ _ hk);rcases Qi h with ⟨h138,h⟩|⟨h138,h⟩
  ·refine rN Qh 1 [([],[],[(3,.val (jI (ba3.Bids.length:Int)))])] [some true] [] [0] [1,2,5,6,7] (f49n2S bd1 v134 v135 v136 ba3) (ap (Qr (xs:=ba3.Bids) (c:=Qc.cells)) (ap h138 an)) ?_;obtain ⟨o223,h224,h⟩:=Qe h;cases o223 with
   | norm v225 v226 =>
    refine T.oneN (by kernel_rfl) (f49n2_ok bd1 v134 v135 v136 ba3 h224) (st2:=(f49n2E bd1 v134 v135 v136 ba3 (.norm v225 v226)).2) rfl ?_;exact rE Qh [j3] [] [] [0] [1,2,5,6,7] (.norm,(f49n5S bd1 ba3 v225 v226 (wr64 (v136+1)))) an (Qs.norm ⟨v225,v226,(wr64 (v136+1)),rfl,h⟩)
  ·obtain rfl:=Qg h;exact rK Qh 1 [([],[],[(3,.val (jI (ba3.Bids.length:Int)))])] [some false] [] [0] [1,2,5,6] (.exit 0) ((f49n5E bd1 ba3 (.exit0 v134 v135)).2) (ap (Qr (xs:=ba3.Bids) (c:=Qc.cells)) (ap h138 an)) (Qs.out rfl rfl)
inductive f49n1O where
 | norm (v233:Int) (v234:Int)
def f49n1E(bd1:Int)(bo2:Qc)(ba3:Qd):f49n1O→Ex×Tr×Hp
 | .norm v233 v234=>(.norm,mkS [(1,(jI bd1)),(2,(.bp 0 0)),(5,(jI v233)),(6,(jI v234))],[some (.box ((Qd.cells ba3).map .pl))])
def f49n1S(bd1:Int)(bo2:Qc)(ba3:Qd):Tr×Hp:=(mkS [(1,(jI bd1)),(2,(.bp 0 0)),(5,(jI bo2.Price)),(6,(jI (-1)))],[some (.box ((Qd.cells ba3).map .pl))])
noncomputable def f49n1(bd1:Int)(bo2:Qc)(ba3:Qd):Option f49n1O :=
 (f49n5 FUEL bd1 ba3 bo2.Price (-1) 0).bind fun o229=>match o229 with
 | .exit0 v231 v232=>some (.norm v231 v232)
theorem f49n1_ok(bd1:Int)(bo2:Qc)(ba3:Qd){o:f49n1O}(h:f49n1 bd1 bo2 ba3=some o):T Try.prog Try.f49.ntmps 0 (cL (Qk 4 c49)) (f49n1S bd1 bo2 ba3) (·=f49n1E bd1 bo2 ba3 o):=by
 unfold f49n1 at h;refine rN Qh 1 [j3] [] [] [0] [1,2,5,6,7] (f49n5S bd1 ba3 bo2.Price (-1) 0) an ?_;obtain ⟨o229,h230,h⟩:=Qe h;cases o229 with
 | exit0 v231 v232 =>
  obtain rfl:=Qg h;exact T.last' (T.bl (i:=0) (by kernel_rfl) (by kernel_rfl) (f49n5_ok FUEL bd1 ba3 bo2.Price (-1) 0 h230)) (tds:=[]) (m:=[0]) (keep:=[1,2,5,6]) (st2:=(f49n1E bd1 bo2 ba3 (.norm v231 v232)).2) (by kernel_rfl) an rfl
inductive f49n0O where
 | ret (v255:Int)
def f49n0E(a1:Qd)(a2:Int):f49n0O→Ex×Tr×Hp
 | .ret v255=>(.ret,mkS [(4,(jI v255))],[])
def f49n0S(a1:Qd)(a2:Int):Tr×Hp:=(Qab [(jA Qd.cells a1),(jI a2)] 0 .leaf,[])
noncomputable def f49n0(a1:Qd)(a2:Int):Option f49n0O :=
 bif decide (a1.Rule=0) then
  (at? a1.Bids a2).bind fun x7 =>
  some (.ret x7.Price)
 else
  (at? a1.Bids a2).bind fun x11 =>
  (f49n1 a2 x11 a1).bind fun o235=>match o235 with
  | .norm v237 v238=>bif decide (a1.Rule=1) then
    some (.ret v237)
   else
    bif decide (v238<0) then
     (f17 a1.Lots x11.Lot).bind fun x247 =>
     (at? a1.Lots x247).bind fun x249 =>
     some (.ret x249.Reserve)
    else
     (at? a1.Bids v238).bind fun x253 =>
     some (.ret x253.Price)
theorem f49n0_ok(a1:Qd)(a2:Int){o:f49n0O}(h:f49n0 a1 a2=some o):T Try.prog Try.f49.ntmps 0 c49 (f49n0S a1 a2) (·=f49n0E a1 a2 o):=by
 unfold f49n0 at h;rcases Qi h with ⟨h6,h⟩|⟨h6,h⟩
 ·obtain ⟨x7,h8,h⟩:=Qe h;obtain rfl:=Qg h;exact rK Qh 2 [j3,j3,([],[(3,.idx (Int.toNat a2) (Qc.cells x7))],[])] [some true] [] [] [4] .ret ((f49n0E a1 a2 (.ret x7.Price)).2) (ap h6 (ap (Qj h8).1 (ap (Qm Qc.cells (Qj h8).2) an))) rfl
 ·obtain ⟨x11,h12,h⟩:=Qe h;refine rN Qh 4 [j3,j3,([],[(3,.idx (Int.toNat a2) (Qc.cells x11))],[]),j3] [some false] [] [0] [1,2,5,6] (f49n1S a2 x11 a1) (ap h6 (ap (Qj h12).1 (ap (Qm Qc.cells (Qj h12).2) an))) ?_;obtain ⟨o235,h236,h⟩:=Qe h;cases o235 with
  | norm v237 v238 =>
   refine T.oneN (by kernel_rfl) (f49n1_ok a2 x11 a1 h236) (st2:=(f49n1E a2 x11 a1 (.norm v237 v238)).2) rfl ?_;rcases Qi h with ⟨h240,h⟩|⟨h240,h⟩
   ·obtain rfl:=Qg h;exact rK Qh 1 [j3,j3] [some true] [] [] [4] .ret ((f49n0E a1 a2 (.ret v237)).2) (ap h240 an) rfl
   ·rcases Qi h with ⟨h246,h⟩|⟨h246,h⟩
    ·obtain ⟨x247,h248,h⟩:=Qe h;obtain ⟨x249,h250,h⟩:=Qe h;obtain rfl:=Qg h;exact rK Qh 2 [j3,j3,([],[(7,.idx (Int.toNat a2) (Qc.cells x11)),jH 10 (jI x247),(11,.idx (Int.toNat x247) (Qa.cells x249))],[])] [some false,some true] [] [] [4] .ret ((f49n0E a1 a2 (.ret x249.Reserve)).2) (ap h240 (ap h246 (ap (Qj h12).1 (ap (Qm Qc.cells (Qj h12).2) (ap (Qj h250).1 (ap (Qm Qa.cells (Qj h250).2) (ap (f17_ok a1.Lots x11.Lot h248) an))))))) rfl
    ·obtain ⟨x253,h254,h⟩:=Qe h;obtain rfl:=Qg h;exact rE Qh [j3,j3,([],[(3,.idx (Int.toNat v238) (Qc.cells x253))],[])] [some false,some false] [] [] [4] (.ret,(f49n0E a1 a2 (.ret x253.Price)).2) (ap h240 (ap h246 (ap (Qj h254).1 (ap (Qm Qc.cells (Qj h254).2) an)))) rfl
noncomputable def f49(a1:Qd)(a2:Int):Option Int:=(f49n0 a1 a2).bind fun o=>match o with
 | .ret v255=>some v255
theorem f49_ok(a1:Qd)(a2:Int){r:Int}(h:f49 a1 a2=some r):Qn Try.prog false 49 [(jA Qd.cells a1),(jI a2)] [] (jI r) []:=by
 unfold f49 at h;obtain ⟨o,ho,h⟩:=Qe h;cases o with
 | ret v255 =>
  obtain rfl:=Qg h;exact Qn.plain Qh (f:=Try.f49) (c:=c49) (by kernel_rfl) (by kernel_rfl) (by kernel_rfl) (by kernel_rfl) ((f49n0_ok a1 a2 ho).mono fun r e=>by subst e; exact ⟨.inl rfl,(jI v255),(jI v255),by kernel_rfl,by kernel_rfl,((Wk.refl _):Wk (jI v255) (jI v255))⟩)

noncomputable def c25:Code:=Try.f25.body.getD .skip
inductive f25n2O where
 | exit0 (v52:List Qb)
def f25n2E(ba1:Qd):f25n2O→Ex×Tr×Hp
 | .exit0 v52=>((.exit 0),mkS [(4,(.own 0))],[jR 3 Qb.cells v52])
def f25n2S(ba1:Qd)(v36:Int)(v37:List Qb):Tr×Hp:=(mkS [(1,(.bp 0 0)),(4,(.own 1)),(5,(jI v36))],[some (.box ((Qd.cells ba1).map .pl)),jR 3 Qb.cells v37])
noncomputable def f25n2:Nat→Qd→Int→List Qb→Option f25n2O
 | 0,_,_,_=>none
 | f+1,ba1,v36,v37 =>
  bif decide (v36<(ba1.Bids.length:Int)) then
   (f48 ba1 v36).bind fun x46 =>
   bif decide (0<x46) then
    (f49 ba1 v36).bind fun x49 =>
    req (fit (v37.length+1) 24) <|
    (f25n2 f ba1 (wr64 (v36+1)) (v37++[(Qb.mk v36 x46 x49)]))
   else
    (f25n2 f ba1 (wr64 (v36+1)) v37)
  else
   some (.exit0 v37)
theorem f25n2_ok:∀(f:Nat)(ba1:Qd)(v36:Int)(v37:List Qb){o:f25n2O},f25n2 f ba1 v36 v37=some o→TL Try.prog Try.f25.ntmps 0 f (cL (cL (Qk 1 (cL (Qk 3 c25))))) (f25n2S ba1 v36 v37) (·=f25n2E ba1 o)
 | 0,_,_,_,o,h=>by rw [f25n2] at h; cases h
 | f+1,ba1,v36,v37,o,h=>by
  rw [f25n2] at h;refine TL.body (K:=fun s=>∃v36:Int,∃v37:List Qb,s=(f25n2S ba1 v36 v37)∧f25n2 f ba1 v36 v37=some o) ?_ (by rintro _ ⟨v36,v37,rfl,hk⟩; exact f25n2_ok f _ _ _ hk);rcases Qi h with ⟨h39,h⟩|⟨h39,h⟩
  ·obtain ⟨x46,h47,h⟩:=Qe h;rcases Qi h with ⟨h48,h⟩|⟨h48,h⟩
   ·obtain ⟨x49,h50,h⟩:=Qe h;obtain ⟨h51,h⟩:=Qak h;exact rE Qh [([],[],[(3,.val (jI (ba1.Bids.length:Int)))]),([],[jH 2 (jI x46)],[]),([],[jH 4 (jI x46),jH 7 (jI x49),(10,.fits)],[(10,.row 3 ((v37++[(Qb.mk v36 x46 x49)]).map Qb.cells))]),j3] [some true,some true] [] [0,3] [1,4,5] (.norm,(f25n2S ba1 (wr64 (v36+1)) (v37++[(Qb.mk v36 x46 x49)]))) (ap (Qr (xs:=ba1.Bids) (c:=Qc.cells)) (ap h39 (ap (f48_ok ba1 v36 h47) (ap h48 (ap (fit_map (te:=ti36) (xs:=v37) (n:=1) (c:=Qb.cells) h51 rfl) (ap (app_cv (xs:=v37) (ys:=[(Qb.mk v36 x46 x49)]) (c:=Qb.cells)) (ap (f48_ok ba1 v36 h47) (ap (f49_ok ba1 v36 h50) an)))))))) (Qs.norm ⟨(wr64 (v36+1)),(v37++[(Qb.mk v36 x46 x49)]),rfl,h⟩)
   ·exact rE Qh [([],[],[(3,.val (jI (ba1.Bids.length:Int)))]),([],[jH 2 (jI x46)],[]),j3] [some true,some false] [] [0,1] [1,4,5] (.norm,(f25n2S ba1 (wr64 (v36+1)) v37)) (ap (Qr (xs:=ba1.Bids) (c:=Qc.cells)) (ap h39 (ap (f48_ok ba1 v36 h47) (ap h48 an)))) (Qs.norm ⟨(wr64 (v36+1)),v37,rfl,h⟩)
  ·obtain rfl:=Qg h;exact rK Qh 1 [([],[],[(3,.val (jI (ba1.Bids.length:Int)))])] [some false] [] [1] [4] (.exit 0) ((f25n2E ba1 (.exit0 v37)).2) (ap (Qr (xs:=ba1.Bids) (c:=Qc.cells)) (ap h39 an)) (Qs.out rfl rfl)
inductive f25n1O where
 | norm (v56:List Qb)
def f25n1E(ba1:Qd):f25n1O→Ex×Tr×Hp
 | .norm v56=>(.norm,mkS [(4,(.own 0))],[jR 3 Qb.cells v56])
def f25n1S(ba1:Qd):Tr×Hp:=(mkS [(1,(.bp 0 0)),(4,(.pl (.sl .nil 0 [])))],[some (.box ((Qd.cells ba1).map .pl))])
noncomputable def f25n1(ba1:Qd):Option f25n1O :=
 (f25n2 FUEL ba1 0 []).bind fun o53=>match o53 with
 | .exit0 v55=>some (.norm v55)
theorem f25n1_ok(ba1:Qd){o:f25n1O}(h:f25n1 ba1=some o):T Try.prog Try.f25.ntmps 0 (cL (Qk 3 c25)) (f25n1S ba1) (·=f25n1E ba1 o):=by
 unfold f25n1 at h;refine rN Qh 1 [j3] [] [.mat 4 3] [0,1] [1,4,5] (f25n2S ba1 0 []) an ?_;obtain ⟨o53,h54,h⟩:=Qe h;cases o53 with
 | exit0 v55 =>
  obtain rfl:=Qg h;exact T.last' (T.bl (i:=0) (by kernel_rfl) (by kernel_rfl) (f25n2_ok FUEL ba1 0 [] h54)) (tds:=[]) (m:=[0]) (keep:=[4]) (st2:=(f25n1E ba1 (.norm v55)).2) (by kernel_rfl) an rfl
inductive f25n0O where
 | ret (v60:Int) (v61:List Qb)
def f25n0E(a1:Qd):f25n0O→Ex×Tr×Hp
 | .ret v60 v61=>(.ret,mkS [(2,(.own 0)),(3,(jI v60))],[jR 3 Qb.cells v61])
def f25n0S(a1:Qd):Tr×Hp:=(Qab [(jA Qd.cells a1)] 0 .leaf,[])
noncomputable def f25n0(a1:Qd):Option f25n0O :=
 (f32 a1).bind fun x5 =>
 bif decide (x5=0) then
  (f25n1 a1).bind fun o57=>match o57 with
  | .norm v59=>some (.ret 0 v59)
 else
  some (.ret 8 [])
theorem f25n0_ok(a1:Qd){o:f25n0O}(h:f25n0 a1=some o):T Try.prog Try.f25.ntmps 0 c25 (f25n0S a1) (·=f25n0E a1 o):=by
 unfold f25n0 at h;obtain ⟨x5,h6,h⟩:=Qe h;rcases Qi h with ⟨h7,h⟩|⟨h7,h⟩
 ·refine rN Qh 3 [j3,([],[jH 1 (jI x5)],[]),j3] [some false] [] [0] [1,4] (f25n1S a1) (ap (f32_ok a1 h6) (ap (Qt h7) an)) ?_;obtain ⟨o57,h58,h⟩:=Qe h;cases o57 with
  | norm v59 =>
   refine T.oneN (by kernel_rfl) (f25n1_ok a1 h58) (st2:=(f25n1E a1 (.norm v59)).2) rfl ?_;obtain rfl:=Qg h;exact rE Qh [j3] [] [] [0] [2,3] (.ret,(f25n0E a1 (.ret 0 v59)).2) an rfl
 ·obtain rfl:=Qg h;exact rK Qh 2 [j3,([],[jH 1 (jI x5)],[]),j3] [some true] [.mat 2 3] [1] [2,3] .ret ((f25n0E a1 (.ret 8 [])).2) (ap (f32_ok a1 h6) (ap (Qad h7) an)) rfl
noncomputable def f25(a1:Qd):Option ((List Qb)×Int):=(f25n0 a1).bind fun o=>match o with
 | .ret v60 v61=>some (v61,v60)
theorem f25_ok(a1:Qd){r:(List Qb)×Int}(h:f25 a1=some r):Qn Try.prog false 25 [(jA Qd.cells a1)] [] (.tup [(jL 3 Qb.cells r.1),(jI r.2)]) []:=by
 unfold f25 at h;obtain ⟨o,ho,h⟩:=Qe h;cases o with
 | ret v60 v61 =>
  obtain rfl:=Qg h;exact Qn.plain Qh (f:=Try.f25) (c:=c25) (by kernel_rfl) (by kernel_rfl) (by kernel_rfl) (by kernel_rfl) ((f25n0_ok a1 ho).mono fun r e=>by subst e; exact ⟨.inl rfl,(.tup [(.own 0),(jI v60)]),(.tup [(jL 3 Qb.cells v61),(jI v60)]),by kernel_rfl,by kernel_rfl,((Wk.refl _):Wk (.tup [(jL 3 Qb.cells v61),(jI v60)]) (.tup [(jL 3 Qb.cells v61),(jI v60)]))⟩)

noncomputable def c26:Code:=Try.f26.body.getD .skip
inductive f26n4O where
 | exit2 (v212:Int)
def f26n4E(bh1:(List Qb)×Int)(bd2:Int)(ba4:Qd)(bl5:List Int):f26n4O→Ex×Tr×Hp
 | .exit2 v212=>((.exit 2),mkS [(1,(.bp 0 0)),(4,(jL 3 Qb.cells bh1.1)),(6,(.own 1)),(7,(jI bd2)),(8,(jI v212))],[some (.box ((Qd.cells ba4).map .pl)),some (.row false 1 (bl5.map (cInt .i64)))])
def f26n4S(bh1:(List Qb)×Int)(bd2:Int)(ba4:Qd)(bl5:List Int)(v194 v195:Int):Tr×Hp:=(mkS [(1,(.bp 0 0)),(4,(jL 3 Qb.cells bh1.1)),(6,(.own 1)),(7,(jI bd2)),(8,(jI v194)),(9,(jI v195))],[some (.box ((Qd.cells ba4).map .pl)),some (.row false 1 (bl5.map (cInt .i64)))])
noncomputable def f26n4:Nat→(List Qb)×Int→Int→Qd→List Int→Int→Int→Option f26n4O
 | 0,_,_,_,_,_,_=>none
 | f+1,bh1,bd2,ba4,bl5,v194,v195 =>
  bif decide (v195<(bh1.1.length:Int)) then
   (at? bh1.1 v195).bind fun x205 =>
   (at? ba4.Bids x205.Bid).bind fun x207 =>
   (at? ba4.Lots bd2).bind fun x209 =>
   bif (seq x207.Lot x209.Name) then
    (f26n4 f bh1 bd2 ba4 bl5 (wr64 (v194-x205.Units)) (wr64 (v195+1)))
   else
    (f26n4 f bh1 bd2 ba4 bl5 v194 (wr64 (v195+1)))
  else
   some (.exit2 v194)
theorem f26n4_ok:∀(f:Nat)(bh1:(List Qb)×Int)(bd2:Int)(ba4:Qd)(bl5:List Int)(v194 v195:Int){o:f26n4O},f26n4 f bh1 bd2 ba4 bl5 v194 v195=some o→TL Try.prog Try.f26.ntmps 0 f (cL (cL (Qk 1 (cL (Qk 1 (cL (cL (Qk 1 (cL (cL (Qk 1 (cL (Qk 4 c26))))))))))))) (f26n4S bh1 bd2 ba4 bl5 v194 v195) (·=f26n4E bh1 bd2 ba4 bl5 o)
 | 0,_,_,_,_,_,_,o,h=>by rw [f26n4] at h; cases h
 | f+1,bh1,bd2,ba4,bl5,v194,v195,o,h=>by
  rw [f26n4] at h;refine TL.body (K:=fun s=>∃v194:Int,∃v195:Int,s=(f26n4S bh1 bd2 ba4 bl5 v194 v195)∧f26n4 f bh1 bd2 ba4 bl5 v194 v195=some o) ?_ (by rintro _ ⟨v194,v195,rfl,hk⟩; exact f26n4_ok f _ _ _ _ _ _ hk);rcases Qi h with ⟨h197,h⟩|⟨h197,h⟩
  ·obtain ⟨x205,h206,h⟩:=Qe h;obtain ⟨x207,h208,h⟩:=Qe h;obtain ⟨x209,h210,h⟩:=Qe h;rcases Qi h with ⟨h211,h⟩|⟨h211,h⟩
   ·exact rE Qh [([],[],[(2,.val (jI (bh1.1.length:Int)))]),([],[(4,.idx (Int.toNat v195) (Qb.cells x205)),(7,.idx (Int.toNat x205.Bid) (Qc.cells x207)),(13,.idx (Int.toNat bd2) (Qa.cells x209))],[]),([],[(3,.idx (Int.toNat v195) (Qb.cells x205))],[]),j3] [some true,some true] [] [0,1] [1,4,6,7,8,9] (.norm,(f26n4S bh1 bd2 ba4 bl5 (wr64 (v194-x205.Units)) (wr64 (v195+1)))) (ap (Qr (xs:=bh1.1) (c:=Qb.cells)) (ap h197 (ap (Qj h206).1 (ap (Qm Qb.cells (Qj h206).2) (ap (Qj h208).1 (ap (Qm Qc.cells (Qj h208).2) (ap (Qj h210).1 (ap (Qm Qa.cells (Qj h210).2) (ap h211 (ap (Qj h206).1 (ap (Qm Qb.cells (Qj h206).2) an))))))))))) (Qs.norm ⟨(wr64 (v194-x205.Units)),(wr64 (v195+1)),rfl,h⟩)
   ·exact rE Qh [([],[],[(2,.val (jI (bh1.1.length:Int)))]),([],[(4,.idx (Int.toNat v195) (Qb.cells x205)),(7,.idx (Int.toNat x205.Bid) (Qc.cells x207)),(13,.idx (Int.toNat bd2) (Qa.cells x209))],[]),j3] [some true,some false] [] [0,1] [1,4,6,7,8,9] (.norm,(f26n4S bh1 bd2 ba4 bl5 v194 (wr64 (v195+1)))) (ap (Qr (xs:=bh1.1) (c:=Qb.cells)) (ap h197 (ap (Qj h206).1 (ap (Qm Qb.cells (Qj h206).2) (ap (Qj h208).1 (ap (Qm Qc.cells (Qj h208).2) (ap (Qj h210).1 (ap (Qm Qa.cells (Qj h210).2) (ap h211 an))))))))) (Qs.norm ⟨v194,(wr64 (v195+1)),rfl,h⟩)
  ·obtain rfl:=Qg h;exact rK Qh 1 [([],[],[(2,.val (jI (bh1.1.length:Int)))])] [some false] [] [0,1] [1,4,6,7,8] (.exit 2) ((f26n4E bh1 bd2 ba4 bl5 (.exit2 v194)).2) (ap (Qr (xs:=bh1.1) (c:=Qb.cells)) (ap h197 an)) (Qs.out rfl rfl)
noncomputable def f26n4L(bh1:(List Qb)×Int)(bd2:Int)(ba4:Qd)(bl5:List Int):List Qb→Int→Int→Option f26n4O
 | [],v194,v195 =>
  some (.exit2 v194)
 | x0::rest,v194,v195 =>
  (at? ba4.Bids x0.Bid).bind fun x207 =>
  (at? ba4.Lots bd2).bind fun x209 =>
  bif (seq x207.Lot x209.Name) then
   (f26n4L bh1 bd2 ba4 bl5 rest (wr64 (v194-x0.Units)) (v195+1))
  else
   (f26n4L bh1 bd2 ba4 bl5 rest v194 (v195+1))
theorem f26n4L_eq(bh1:(List Qb)×Int)(bd2:Int)(ba4:Qd)(bl5:List Int):∀(rest:List Qb)(f k:Nat)(v194:Int),bh1.1.drop k=rest→bh1.1.length≤maxLen→rest.length<f→f26n4 f bh1 bd2 ba4 bl5 v194 (k:Int)=f26n4L bh1 bd2 ba4 bl5 rest v194 (k:Int)
 | _,0,_,_,_,_,hf=>absurd hf (Nat.not_lt_zero _)
 | [],f+1,k,v194,hd,hm,hf=>by
  have hk:¬((k:Int)<(bh1.1.length:Int)):=by have:=Qac hd; omega
  rw [f26n4,f26n4L];simp only [decide_eq_false hk,cond_false]
 | x0::rest,f+1,k,v194,hd,hm,hf=>by
  obtain ⟨hx,hlt,hd'⟩:=Qan hd;have hk:(k:Int)<(bh1.1.length:Int):=by omega
  have hw:wr64 ((k:Int)+1)=(k:Int)+1:=Qbp (by omega) (by unfold maxLen at hm; omega);have ih:∀(v194:Int),f26n4 f bh1 bd2 ba4 bl5 v194 ((k:Int)+1)=f26n4L bh1 bd2 ba4 bl5 rest v194 ((k:Int)+1):=fun v194=>f26n4L_eq bh1 bd2 ba4 bl5 rest f (k+1) v194 hd' hm (by simpa using hf);rw [f26n4,f26n4L];simp only [decide_eq_true hk,cond_true,Qaq,hx,Option.bind_some,hw,ih]
theorem f26n4_run(bh1:(List Qb)×Int)(bd2:Int)(ba4:Qd)(bl5:List Int)(v194:Int)(hm:bh1.1.length≤maxLen):f26n4 FUEL bh1 bd2 ba4 bl5 v194 0=f26n4L bh1 bd2 ba4 bl5 bh1.1 v194 0:=f26n4L_eq bh1 bd2 ba4 bl5 bh1.1 FUEL 0 v194 List.drop_zero hm (Qai hm)
inductive f26n3O where
 | norm (v216:Int)
def f26n3E(bh1:(List Qb)×Int)(bd2:Int)(be3:Qa)(ba4:Qd)(bl5:List Int):f26n3O→Ex×Tr×Hp
 | .norm v216=>(.norm,mkS [(1,(.bp 0 0)),(4,(jL 3 Qb.cells bh1.1)),(6,(.own 1)),(7,(jI bd2)),(8,(jI v216))],[some (.box ((Qd.cells ba4).map .pl)),some (.row false 1 (bl5.map (cInt .i64)))])
def f26n3S(bh1:(List Qb)×Int)(bd2:Int)(be3:Qa)(ba4:Qd)(bl5:List Int):Tr×Hp:=(mkS [(1,(.bp 0 0)),(4,(jL 3 Qb.cells bh1.1)),(6,(.own 1)),(7,(jI bd2)),(8,(jI be3.Units))],[some (.box ((Qd.cells ba4).map .pl)),some (.row false 1 (bl5.map (cInt .i64)))])
noncomputable def f26n3(bh1:(List Qb)×Int)(bd2:Int)(be3:Qa)(ba4:Qd)(bl5:List Int):Option f26n3O :=
 (f26n4 FUEL bh1 bd2 ba4 bl5 be3.Units 0).bind fun o213=>match o213 with
 | .exit2 v215=>some (.norm v215)
theorem f26n3_ok(bh1:(List Qb)×Int)(bd2:Int)(be3:Qa)(ba4:Qd)(bl5:List Int){o:f26n3O}(h:f26n3 bh1 bd2 be3 ba4 bl5=some o):T Try.prog Try.f26.ntmps 0 (cL (Qk 1 (cL (cL (Qk 1 (cL (cL (Qk 1 (cL (Qk 4 c26)))))))))) (f26n3S bh1 bd2 be3 ba4 bl5) (·=f26n3E bh1 bd2 be3 ba4 bl5 o):=by
 unfold f26n3 at h;refine rN Qh 1 [j3] [] [] [0,1] [1,4,6,7,8,9] (f26n4S bh1 bd2 ba4 bl5 be3.Units 0) an ?_;obtain ⟨o213,h214,h⟩:=Qe h;cases o213 with
 | exit2 v215 =>
  obtain rfl:=Qg h;exact T.last' (T.bl (i:=2) (by kernel_rfl) (by kernel_rfl) (f26n4_ok FUEL bh1 bd2 ba4 bl5 be3.Units 0 h214)) (tds:=[]) (m:=[0,1]) (keep:=[1,4,6,7,8]) (st2:=(f26n3E bh1 bd2 be3 ba4 bl5 (.norm v215)).2) (by kernel_rfl) an rfl
inductive f26n2O where
 | norm (v222:List Int)
def f26n2E(bh1:(List Qb)×Int)(bd2:Int)(ba3:Qd)(bl4:List Int):f26n2O→Ex×Tr×Hp
 | .norm v222=>(.norm,mkS [(1,(.bp 0 0)),(4,(jL 3 Qb.cells bh1.1)),(6,(.own 1)),(7,(jI bd2))],[some (.box ((Qd.cells ba3).map .pl)),some (.row false 1 (v222.map (cInt .i64)))])
def f26n2S(bh1:(List Qb)×Int)(bd2:Int)(ba3:Qd)(bl4:List Int):Tr×Hp:=(mkS [(1,(.bp 0 0)),(4,(jL 3 Qb.cells bh1.1)),(6,(.own 1)),(7,(jI bd2))],[some (.box ((Qd.cells ba3).map .pl)),some (.row false 1 (bl4.map (cInt .i64)))])
noncomputable def f26n2(bh1:(List Qb)×Int)(bd2:Int)(ba3:Qd)(bl4:List Int):Option f26n2O :=
 (at? ba3.Lots bd2).bind fun x158 =>
 (f26n3 bh1 bd2 x158 ba3 bl4).bind fun o217=>match o217 with
 | .norm v219=>req (fit (bl4.length+1) 8) <|
  some (.norm (bl4++[v219]))
theorem f26n2_ok(bh1:(List Qb)×Int)(bd2:Int)(ba3:Qd)(bl4:List Int){o:f26n2O}(h:f26n2 bh1 bd2 ba3 bl4=some o):T Try.prog Try.f26.ntmps 0 (cL (Qk 1 (cL (cL (Qk 1 (cL (Qk 4 c26))))))) (f26n2S bh1 bd2 ba3 bl4) (·=f26n2E bh1 bd2 ba3 bl4 o):=by
 unfold f26n2 at h;refine T.block' (i:=1) (by kernel_rfl) ?_;obtain ⟨x158,h159,h⟩:=Qe h;refine rN Qh 1 [([],[(3,.idx (Int.toNat bd2) (Qa.cells x158))],[])] [] [] [0,1] [1,4,6,7,8] (f26n3S bh1 bd2 x158 ba3 bl4) (ap (Qj h159).1 (ap (Qm Qa.cells (Qj h159).2) an)) ?_;obtain ⟨o217,h218,h⟩:=Qe h;cases o217 with
 | norm v219 =>
  refine T.oneN (by kernel_rfl) (f26n3_ok bh1 bd2 x158 ba3 bl4 h218) (st2:=(f26n3E bh1 bd2 x158 ba3 bl4 (.norm v219)).2) rfl ?_;obtain ⟨h221,h⟩:=Qak h;obtain rfl:=Qg h;exact rE Qh [([],[(3,.fits)],[(3,.row 3 ((bl4++[v219]).map (cInt .i64)))])] [] [] [0,3] [1,4,6,7] (.norm,(f26n2E bh1 bd2 ba3 bl4 (.norm (bl4++[v219]))).2) (ap (fit_map (te:=ti3) (xs:=bl4) (n:=1) (c:=(cInt .i64)) h221 rfl) (ap (app_cv (xs:=bl4) (ys:=[v219]) (c:=(cInt .i64))) an)) rfl
inductive f26n5O where
 | exit0 (v226:List Int)
def f26n5E(bh1:(List Qb)×Int)(ba2:Qd):f26n5O→Ex×Tr×Hp
 | .exit0 v226=>((.exit 0),mkS [(6,(.own 0))],[some (.row false 1 (v226.map (cInt .i64)))])
def f26n5S(bh1:(List Qb)×Int)(ba2:Qd)(v152:Int)(v153:List Int):Tr×Hp:=(mkS [(1,(.bp 0 0)),(4,(jL 3 Qb.cells bh1.1)),(6,(.own 1)),(7,(jI v152))],[some (.box ((Qd.cells ba2).map .pl)),some (.row false 1 (v153.map (cInt .i64)))])
noncomputable def f26n5:Nat→(List Qb)×Int→Qd→Int→List Int→Option f26n5O
 | 0,_,_,_,_=>none
 | f+1,bh1,ba2,v152,v153 =>
  bif decide (v152<(ba2.Lots.length:Int)) then
   (f26n2 bh1 v152 ba2 v153).bind fun o223=>match o223 with
   | .norm v225=>(f26n5 f bh1 ba2 (wr64 (v152+1)) v225)
  else
   some (.exit0 v153)
theorem f26n5_ok:∀(f:Nat)(bh1:(List Qb)×Int)(ba2:Qd)(v152:Int)(v153:List Int){o:f26n5O},f26n5 f bh1 ba2 v152 v153=some o→TL Try.prog Try.f26.ntmps 0 f (cL (cL (Qk 1 (cL (Qk 4 c26))))) (f26n5S bh1 ba2 v152 v153) (·=f26n5E bh1 ba2 o)
 | 0,_,_,_,_,o,h=>by rw [f26n5] at h; cases h
 | f+1,bh1,ba2,v152,v153,o,h=>by
  rw [f26n5] at h;refine TL.body (K:=fun s=>∃v152:Int,∃v153:List Int,s=(f26n5S bh1 ba2 v152 v153)∧f26n5 f bh1 ba2 v152 v153=some o) ?_ (by rintro _ ⟨v152,v153,rfl,hk⟩; exact f26n5_ok f _ _ _ _ hk);rcases Qi h with ⟨h155,h⟩|⟨h155,h⟩
  ·refine rN Qh 1 [([],[],[(3,.val (jI (ba2.Lots.length:Int)))])] [some true] [] [0,1] [1,4,6,7] (f26n2S bh1 v152 ba2 v153) (ap (Qr (xs:=ba2.Lots) (c:=Qa.cells)) (ap h155 an)) ?_;obtain ⟨o223,h224,h⟩:=Qe h;cases o223 with
   | norm v225 =>
    refine T.oneN (by kernel_rfl) (f26n2_ok bh1 v152 ba2 v153 h224) (st2:=(f26n2E bh1 v152 ba2 v153 (.norm v225)).2) rfl ?_;exact rE Qh [j3] [] [] [0,1] [1,4,6,7] (.norm,(f26n5S bh1 ba2 (wr64 (v152+1)) v225)) an (Qs.norm ⟨(wr64 (v152+1)),v225,rfl,h⟩)
  ·obtain rfl:=Qg h;exact rK Qh 1 [([],[],[(3,.val (jI (ba2.Lots.length:Int)))])] [some false] [] [1] [6] (.exit 0) ((f26n5E bh1 ba2 (.exit0 v153)).2) (ap (Qr (xs:=ba2.Lots) (c:=Qa.cells)) (ap h155 an)) (Qs.out rfl rfl)
inductive f26n1O where
 | norm (v230:List Int)
def f26n1E(bh1:(List Qb)×Int)(ba2:Qd):f26n1O→Ex×Tr×Hp
 | .norm v230=>(.norm,mkS [(6,(.own 0))],[some (.row false 1 (v230.map (cInt .i64)))])
def f26n1S(bh1:(List Qb)×Int)(ba2:Qd):Tr×Hp:=(mkS [(1,(.bp 0 0)),(4,(jL 3 Qb.cells bh1.1)),(6,(.pl (.sl .nil 0 [])))],[some (.box ((Qd.cells ba2).map .pl))])
noncomputable def f26n1(bh1:(List Qb)×Int)(ba2:Qd):Option f26n1O :=
 (f26n5 FUEL bh1 ba2 0 []).bind fun o227=>match o227 with
 | .exit0 v229=>some (.norm v229)
theorem f26n1_ok(bh1:(List Qb)×Int)(ba2:Qd){o:f26n1O}(h:f26n1 bh1 ba2=some o):T Try.prog Try.f26.ntmps 0 (cL (Qk 4 c26)) (f26n1S bh1 ba2) (·=f26n1E bh1 ba2 o):=by
 unfold f26n1 at h;refine rN Qh 1 [j3] [] [.mat 6 1] [0,1] [1,4,6,7] (f26n5S bh1 ba2 0 []) an ?_;obtain ⟨o227,h228,h⟩:=Qe h;cases o227 with
 | exit0 v229 =>
  obtain rfl:=Qg h;exact T.last' (T.bl (i:=0) (by kernel_rfl) (by kernel_rfl) (f26n5_ok FUEL bh1 ba2 0 [] h228)) (tds:=[]) (m:=[0]) (keep:=[6]) (st2:=(f26n1E bh1 ba2 (.norm v229)).2) (by kernel_rfl) an rfl
inductive f26n0O where
 | ret (v234:Int) (v235:List Int)
def f26n0E(a1:Qd):f26n0O→Ex×Tr×Hp
 | .ret v234 v235=>(.ret,mkS [(2,(.own 0)),(3,(jI v234))],[some (.row false 1 (v235.map (cInt .i64)))])
def f26n0S(a1:Qd):Tr×Hp:=(Qab [(jA Qd.cells a1)] 0 .leaf,[])
noncomputable def f26n0(a1:Qd):Option f26n0O :=
 (f25 a1).bind fun x4 =>
 bif decide (x4.2=0) then
  (f26n1 x4 a1).bind fun o231=>match o231 with
  | .norm v233=>some (.ret 0 v233)
 else
  some (.ret x4.2 [])
theorem f26n0_ok(a1:Qd){o:f26n0O}(h:f26n0 a1=some o):T Try.prog Try.f26.ntmps 0 c26 (f26n0S a1) (·=f26n0E a1 o):=by
 unfold f26n0 at h;obtain ⟨x4,h5,h⟩:=Qe h;rcases Qi h with ⟨h7,h⟩|⟨h7,h⟩
 ·refine rN Qh 4 [j3,([],[jH 1 (.tup [(jL 3 Qb.cells x4.1),(jI x4.2)])],[]),j3,j3] [some false] [] [0] [1,4,6] (f26n1S x4 a1) (ap (f25_ok a1 h5) (ap (Qt h7) an)) ?_;obtain ⟨o231,h232,h⟩:=Qe h;cases o231 with
  | norm v233 =>
   refine T.oneN (by kernel_rfl) (f26n1_ok x4 a1 h232) (st2:=(f26n1E x4 a1 (.norm v233)).2) rfl ?_;obtain rfl:=Qg h;exact rE Qh [j3] [] [] [0] [2,3] (.ret,(f26n0E a1 (.ret 0 v233)).2) an rfl
 ·obtain rfl:=Qg h;exact rK Qh 3 [j3,([],[jH 1 (.tup [(jL 3 Qb.cells x4.1),(jI x4.2)])],[]),j3,j3] [some true] [.mat 2 1] [1] [2,3] .ret ((f26n0E a1 (.ret x4.2 [])).2) (ap (f25_ok a1 h5) (ap (Qad h7) an)) rfl
noncomputable def f26(a1:Qd):Option ((List Int)×Int):=(f26n0 a1).bind fun o=>match o with
 | .ret v234 v235=>some (v235,v234)
theorem f26_ok(a1:Qd){r:(List Int)×Int}(h:f26 a1=some r):Qn Try.prog false 26 [(jA Qd.cells a1)] [] (.tup [(.pl (.sl .any 1 (r.1.map (cInt .i64)))),(jI r.2)]) []:=by
 unfold f26 at h;obtain ⟨o,ho,h⟩:=Qe h;cases o with
 | ret v234 v235 =>
  obtain rfl:=Qg h;exact Qn.plain Qh (f:=Try.f26) (c:=c26) (by kernel_rfl) (by kernel_rfl) (by kernel_rfl) (by kernel_rfl) ((f26n0_ok a1 ho).mono fun r e=>by subst e; exact ⟨.inl rfl,(.tup [(.own 0),(jI v234)]),(.tup [(.pl (.sl .any 1 (v235.map (cInt .i64)))),(jI v234)]),by kernel_rfl,by kernel_rfl,((Wk.refl _):Wk (.tup [(.pl (.sl .any 1 (v235.map (cInt .i64)))),(jI v234)]) (.tup [(.pl (.sl .any 1 (v235.map (cInt .i64)))),(jI v234)]))⟩)

noncomputable def c27:Code:=Try.f27.body.getD .skip
inductive f27n2O where
 | exit0 (v28:Int)
def f27n2E(bh1:(List Qb)×Int):f27n2O→Ex×Tr×Hp
 | .exit0 v28=>((.exit 0),mkS [(5,(jI bh1.2)),(6,(jI v28))],[])
def f27n2S(bh1:(List Qb)×Int)(v20 v21:Int):Tr×Hp:=(mkS [(4,(jL 3 Qb.cells bh1.1)),(5,(jI bh1.2)),(6,(jI v20)),(7,(jI v21))],[])
noncomputable def f27n2:Nat→(List Qb)×Int→Int→Int→Option f27n2O
 | 0,_,_,_=>none
 | f+1,bh1,v20,v21 =>
  bif decide (v21<(bh1.1.length:Int)) then
   (at? bh1.1 v21).bind fun x26 =>
   (f27n2 f bh1 (wr64 (v20+(wr64 (x26.Units*x26.Price)))) (wr64 (v21+1)))
  else
   some (.exit0 v20)
theorem f27n2_ok:∀(f:Nat)(bh1:(List Qb)×Int)(v20 v21:Int){o:f27n2O},f27n2 f bh1 v20 v21=some o→TL Try.prog Try.f27.ntmps 0 f (cL (cL (Qk 1 (cL (Qk 3 c27))))) (f27n2S bh1 v20 v21) (·=f27n2E bh1 o)
 | 0,_,_,_,o,h=>by rw [f27n2] at h; cases h
 | f+1,bh1,v20,v21,o,h=>by
  rw [f27n2] at h;refine TL.body (K:=fun s=>∃v20:Int,∃v21:Int,s=(f27n2S bh1 v20 v21)∧f27n2 f bh1 v20 v21=some o) ?_ (by rintro _ ⟨v20,v21,rfl,hk⟩; exact f27n2_ok f _ _ _ hk);rcases Qi h with ⟨h23,h⟩|⟨h23,h⟩
  ·obtain ⟨x26,h27,h⟩:=Qe h;exact rE Qh [([],[],[(2,.val (jI (bh1.1.length:Int)))]),([],[(3,.idx (Int.toNat v21) (Qb.cells x26)),(8,.idx (Int.toNat v21) (Qb.cells x26))],[]),j3] [some true] [] [] [4,5,6,7] (.norm,(f27n2S bh1 (wr64 (v20+(wr64 (x26.Units*x26.Price)))) (wr64 (v21+1)))) (ap (Qr (xs:=bh1.1) (c:=Qb.cells)) (ap h23 (ap (Qj h27).1 (ap (Qm Qb.cells (Qj h27).2) (ap (Qj h27).1 (ap (Qm Qb.cells (Qj h27).2) an)))))) (Qs.norm ⟨(wr64 (v20+(wr64 (x26.Units*x26.Price)))),(wr64 (v21+1)),rfl,h⟩)
  ·obtain rfl:=Qg h;exact rK Qh 1 [([],[],[(2,.val (jI (bh1.1.length:Int)))])] [some false] [] [] [5,6] (.exit 0) ((f27n2E bh1 (.exit0 v20)).2) (ap (Qr (xs:=bh1.1) (c:=Qb.cells)) (ap h23 an)) (Qs.out rfl rfl)
noncomputable def f27n2L(bh1:(List Qb)×Int):List Qb→Int→Int→Option f27n2O
 | [],v20,v21 =>
  some (.exit0 v20)
 | x0::rest,v20,v21 =>
  (f27n2L bh1 rest (wr64 (v20+(wr64 (x0.Units*x0.Price)))) (v21+1))
theorem f27n2L_eq(bh1:(List Qb)×Int):∀(rest:List Qb)(f k:Nat)(v20:Int),bh1.1.drop k=rest→bh1.1.length≤maxLen→rest.length<f→f27n2 f bh1 v20 (k:Int)=f27n2L bh1 rest v20 (k:Int)
 | _,0,_,_,_,_,hf=>absurd hf (Nat.not_lt_zero _)
 | [],f+1,k,v20,hd,hm,hf=>by
  have hk:¬((k:Int)<(bh1.1.length:Int)):=by have:=Qac hd; omega
  rw [f27n2,f27n2L];simp only [decide_eq_false hk,cond_false]
 | x0::rest,f+1,k,v20,hd,hm,hf=>by
  obtain ⟨hx,hlt,hd'⟩:=Qan hd;have hk:(k:Int)<(bh1.1.length:Int):=by omega
  have hw:wr64 ((k:Int)+1)=(k:Int)+1:=Qbp (by omega) (by unfold maxLen at hm; omega);have ih:∀(v20:Int),f27n2 f bh1 v20 ((k:Int)+1)=f27n2L bh1 rest v20 ((k:Int)+1):=fun v20=>f27n2L_eq bh1 rest f (k+1) v20 hd' hm (by simpa using hf);rw [f27n2,f27n2L];simp only [decide_eq_true hk,cond_true,Qaq,hx,Option.bind_some,hw,ih]
theorem f27n2_run(bh1:(List Qb)×Int)(v20:Int)(hm:bh1.1.length≤maxLen):f27n2 FUEL bh1 v20 0=f27n2L bh1 bh1.1 v20 0:=f27n2L_eq bh1 bh1.1 FUEL 0 v20 List.drop_zero hm (Qai hm)
inductive f27n1O where
 | norm (v32:Int)
def f27n1E(bh1:(List Qb)×Int):f27n1O→Ex×Tr×Hp
 | .norm v32=>(.norm,mkS [(5,(jI bh1.2)),(6,(jI v32))],[])
def f27n1S(bh1:(List Qb)×Int):Tr×Hp:=(mkS [(4,(jL 3 Qb.cells bh1.1)),(5,(jI bh1.2)),(6,(jI 0))],[])
noncomputable def f27n1(bh1:(List Qb)×Int):Option f27n1O :=
 (f27n2 FUEL bh1 0 0).bind fun o29=>match o29 with
 | .exit0 v31=>some (.norm v31)
theorem f27n1_ok(bh1:(List Qb)×Int){o:f27n1O}(h:f27n1 bh1=some o):T Try.prog Try.f27.ntmps 0 (cL (Qk 3 c27)) (f27n1S bh1) (·=f27n1E bh1 o):=by
 unfold f27n1 at h;refine rN Qh 1 [j3] [] [] [] [4,5,6,7] (f27n2S bh1 0 0) an ?_;obtain ⟨o29,h30,h⟩:=Qe h;cases o29 with
 | exit0 v31 =>
  obtain rfl:=Qg h;exact T.last' (T.bl (i:=0) (by kernel_rfl) (by kernel_rfl) (f27n2_ok FUEL bh1 0 0 h30)) (tds:=[]) (m:=[]) (keep:=[5,6]) (st2:=(f27n1E bh1 (.norm v31)).2) (by kernel_rfl) an rfl
inductive f27n0O where
 | ret (v36:Int) (v37:Int)
def f27n0E(a1:Qd):f27n0O→Ex×Tr×Hp
 | .ret v36 v37=>(.ret,mkS [(2,(jI v36)),(3,(jI v37))],[])
def f27n0S(a1:Qd):Tr×Hp:=(Qab [(jA Qd.cells a1)] 0 .leaf,[])
noncomputable def f27n0(a1:Qd):Option f27n0O :=
 (f25 a1).bind fun x4 =>
 (f27n1 x4).bind fun o33=>match o33 with
 | .norm v35=>some (.ret v35 x4.2)
theorem f27n0_ok(a1:Qd){o:f27n0O}(h:f27n0 a1=some o):T Try.prog Try.f27.ntmps 0 c27 (f27n0S a1) (·=f27n0E a1 o):=by
 unfold f27n0 at h;obtain ⟨x4,h5,h⟩:=Qe h;refine rN Qh 3 [j3,([],[jH 1 (.tup [(jL 3 Qb.cells x4.1),(jI x4.2)])],[]),j3] [] [] [] [4,5,6] (f27n1S x4) (ap (f25_ok a1 h5) an) ?_;obtain ⟨o33,h34,h⟩:=Qe h;cases o33 with
 | norm v35 =>
  refine T.oneN (by kernel_rfl) (f27n1_ok x4 h34) (st2:=(f27n1E x4 (.norm v35)).2) rfl ?_;obtain rfl:=Qg h;exact rE Qh [j3] [] [] [] [2,3] (.ret,(f27n0E a1 (.ret v35 x4.2)).2) an rfl
noncomputable def f27(a1:Qd):Option (Int×Int):=(f27n0 a1).bind fun o=>match o with
 | .ret v36 v37=>some (v36,v37)
theorem f27_ok(a1:Qd){r:Int×Int}(h:f27 a1=some r):Qn Try.prog false 27 [(jA Qd.cells a1)] [] (.tup [(jI r.1),(jI r.2)]) []:=by
 unfold f27 at h;obtain ⟨o,ho,h⟩:=Qe h;cases o with
 | ret v36 v37 =>
  obtain rfl:=Qg h;exact Qn.plain Qh (f:=Try.f27) (c:=c27) (by kernel_rfl) (by kernel_rfl) (by kernel_rfl) (by kernel_rfl) ((f27n0_ok a1 ho).mono fun r e=>by subst e; exact ⟨.inl rfl,(.tup [(jI v36),(jI v37)]),(.tup [(jI v36),(jI v37)]),by kernel_rfl,by kernel_rfl,((Wk.refl _):Wk (.tup [(jI v36),(jI v37)]) (.tup [(jI v36),(jI v37)]))⟩)
end Go.Proofs.Ythpceddjepbamaa
namespace Go.Proofs.Ythpceddjepbamaa
set_option linter.unusedVariables false
set_option linter.unusedSimpArgs false
set_option maxRecDepth 100000
open Go.RowKit
noncomputable def c28:Code:=Try.f28.body.getD .skip
inductive f28n2O where
 | exit0 (v47:Int)
def f28n2E(bb1:ByteArray)(bh2:(List Qb)×Int)(ba3:Qd):f28n2O→Ex×Tr×Hp
 | .exit0 v47=>((.exit 0),mkS [(7,(jI bh2.2)),(8,(jI v47))],[])
def f28n2S(bb1:ByteArray)(bh2:(List Qb)×Int)(ba3:Qd)(v33 v34:Int):Tr×Hp:=(mkS [(1,(jS bb1)),(2,(.bp 0 0)),(6,(jL 3 Qb.cells bh2.1)),(7,(jI bh2.2)),(8,(jI v33)),(9,(jI v34))],[some (.box ((Qd.cells ba3).map .pl))])
noncomputable def f28n2:Nat→ByteArray→(List Qb)×Int→Qd→Int→Int→Option f28n2O
 | 0,_,_,_,_,_=>none
 | f+1,bb1,bh2,ba3,v33,v34 =>
  bif decide (v34<(bh2.1.length:Int)) then
   (at? bh2.1 v34).bind fun x42 =>
   (at? ba3.Bids x42.Bid).bind fun x44 =>
   bif (seq x44.Member bb1) then
    (f28n2 f bb1 bh2 ba3 (wr64 (v33+(wr64 (x42.Units*x42.Price)))) (wr64 (v34+1)))
   else
    (f28n2 f bb1 bh2 ba3 v33 (wr64 (v34+1)))
  else
   some (.exit0 v33)
theorem f28n2_ok:∀(f:Nat)(bb1:ByteArray)(bh2:(List Qb)×Int)(ba3:Qd)(v33 v34:Int){o:f28n2O},f28n2 f bb1 bh2 ba3 v33 v34=some o→TL Try.prog Try.f28.ntmps 0 f (cL (cL (Qk 1 (cL (Qk 3 c28))))) (f28n2S bb1 bh2 ba3 v33 v34) (·=f28n2E bb1 bh2 ba3 o)
 | 0,_,_,_,_,_,o,h=>by rw [f28n2] at h; cases h
 | f+1,bb1,bh2,ba3,v33,v34,o,h=>by
  rw [f28n2] at h;refine TL.body (K:=fun s=>∃v33:Int,∃v34:Int,s=(f28n2S bb1 bh2 ba3 v33 v34)∧f28n2 f bb1 bh2 ba3 v33 v34=some o) ?_ (by rintro _ ⟨v33,v34,rfl,hk⟩; exact f28n2_ok f _ _ _ _ _ hk);rcases Qi h with ⟨h36,h⟩|⟨h36,h⟩
  ·obtain ⟨x42,h43,h⟩:=Qe h;obtain ⟨x44,h45,h⟩:=Qe h;rcases Qi h with ⟨h46,h⟩|⟨h46,h⟩
   ·exact rE Qh [([],[],[(2,.val (jI (bh2.1.length:Int)))]),([],[(4,.idx (Int.toNat v34) (Qb.cells x42)),(7,.idx (Int.toNat x42.Bid) (Qc.cells x44))],[]),([],[(3,.idx (Int.toNat v34) (Qb.cells x42)),(8,.idx (Int.toNat v34) (Qb.cells x42))],[]),j3] [some true,some true] [] [0] [1,2,6,7,8,9] (.norm,(f28n2S bb1 bh2 ba3 (wr64 (v33+(wr64 (x42.Units*x42.Price)))) (wr64 (v34+1)))) (ap (Qr (xs:=bh2.1) (c:=Qb.cells)) (ap h36 (ap (Qj h43).1 (ap (Qm Qb.cells (Qj h43).2) (ap (Qj h45).1 (ap (Qm Qc.cells (Qj h45).2) (ap h46 (ap (Qj h43).1 (ap (Qm Qb.cells (Qj h43).2) (ap (Qj h43).1 (ap (Qm Qb.cells (Qj h43).2) an))))))))))) (Qs.norm ⟨(wr64 (v33+(wr64 (x42.Units*x42.Price)))),(wr64 (v34+1)),rfl,h⟩)
   ·exact rE Qh [([],[],[(2,.val (jI (bh2.1.length:Int)))]),([],[(4,.idx (Int.toNat v34) (Qb.cells x42)),(7,.idx (Int.toNat x42.Bid) (Qc.cells x44))],[]),j3] [some true,some false] [] [0] [1,2,6,7,8,9] (.norm,(f28n2S bb1 bh2 ba3 v33 (wr64 (v34+1)))) (ap (Qr (xs:=bh2.1) (c:=Qb.cells)) (ap h36 (ap (Qj h43).1 (ap (Qm Qb.cells (Qj h43).2) (ap (Qj h45).1 (ap (Qm Qc.cells (Qj h45).2) (ap h46 an))))))) (Qs.norm ⟨v33,(wr64 (v34+1)),rfl,h⟩)
  ·obtain rfl:=Qg h;exact rK Qh 1 [([],[],[(2,.val (jI (bh2.1.length:Int)))])] [some false] [] [] [7,8] (.exit 0) ((f28n2E bb1 bh2 ba3 (.exit0 v33)).2) (ap (Qr (xs:=bh2.1) (c:=Qb.cells)) (ap h36 an)) (Qs.out rfl rfl)
noncomputable def f28n2L(bb1:ByteArray)(bh2:(List Qb)×Int)(ba3:Qd):List Qb→Int→Int→Option f28n2O
 | [],v33,v34 =>
  some (.exit0 v33)
 | x0::rest,v33,v34 =>
  (at? ba3.Bids x0.Bid).bind fun x44 =>
  bif (seq x44.Member bb1) then
   (f28n2L bb1 bh2 ba3 rest (wr64 (v33+(wr64 (x0.Units*x0.Price)))) (v34+1))
  else
   (f28n2L bb1 bh2 ba3 rest v33 (v34+1))
theorem f28n2L_eq(bb1:ByteArray)(bh2:(List Qb)×Int)(ba3:Qd):∀(rest:List Qb)(f k:Nat)(v33:Int),bh2.1.drop k=rest→bh2.1.length≤maxLen→rest.length<f→f28n2 f bb1 bh2 ba3 v33 (k:Int)=f28n2L bb1 bh2 ba3 rest v33 (k:Int)
 | _,0,_,_,_,_,hf=>absurd hf (Nat.not_lt_zero _)
 | [],f+1,k,v33,hd,hm,hf=>by
  have hk:¬((k:Int)<(bh2.1.length:Int)):=by have:=Qac hd; omega
  rw [f28n2,f28n2L];simp only [decide_eq_false hk,cond_false]
 | x0::rest,f+1,k,v33,hd,hm,hf=>by
  obtain ⟨hx,hlt,hd'⟩:=Qan hd;have hk:(k:Int)<(bh2.1.length:Int):=by omega
  have hw:wr64 ((k:Int)+1)=(k:Int)+1:=Qbp (by omega) (by unfold maxLen at hm; omega);have ih:∀(v33:Int),f28n2 f bb1 bh2 ba3 v33 ((k:Int)+1)=f28n2L bb1 bh2 ba3 rest v33 ((k:Int)+1):=fun v33=>f28n2L_eq bb1 bh2 ba3 rest f (k+1) v33 hd' hm (by simpa using hf);rw [f28n2,f28n2L];simp only [decide_eq_true hk,cond_true,Qaq,hx,Option.bind_some,hw,ih]
theorem f28n2_run(bb1:ByteArray)(bh2:(List Qb)×Int)(ba3:Qd)(v33:Int)(hm:bh2.1.length≤maxLen):f28n2 FUEL bb1 bh2 ba3 v33 0=f28n2L bb1 bh2 ba3 bh2.1 v33 0:=f28n2L_eq bb1 bh2 ba3 bh2.1 FUEL 0 v33 List.drop_zero hm (Qai hm)
inductive f28n1O where
 | norm (v51:Int)
def f28n1E(bb1:ByteArray)(bh2:(List Qb)×Int)(ba3:Qd):f28n1O→Ex×Tr×Hp
 | .norm v51=>(.norm,mkS [(7,(jI bh2.2)),(8,(jI v51))],[])
def f28n1S(bb1:ByteArray)(bh2:(List Qb)×Int)(ba3:Qd):Tr×Hp:=(mkS [(1,(jS bb1)),(2,(.bp 0 0)),(6,(jL 3 Qb.cells bh2.1)),(7,(jI bh2.2)),(8,(jI 0))],[some (.box ((Qd.cells ba3).map .pl))])
noncomputable def f28n1(bb1:ByteArray)(bh2:(List Qb)×Int)(ba3:Qd):Option f28n1O :=
 (f28n2 FUEL bb1 bh2 ba3 0 0).bind fun o48=>match o48 with
 | .exit0 v50=>some (.norm v50)
theorem f28n1_ok(bb1:ByteArray)(bh2:(List Qb)×Int)(ba3:Qd){o:f28n1O}(h:f28n1 bb1 bh2 ba3=some o):T Try.prog Try.f28.ntmps 0 (cL (Qk 3 c28)) (f28n1S bb1 bh2 ba3) (·=f28n1E bb1 bh2 ba3 o):=by
 unfold f28n1 at h;refine rN Qh 1 [j3] [] [] [0] [1,2,6,7,8,9] (f28n2S bb1 bh2 ba3 0 0) an ?_;obtain ⟨o48,h49,h⟩:=Qe h;cases o48 with
 | exit0 v50 =>
  obtain rfl:=Qg h;exact T.last' (T.bl (i:=0) (by kernel_rfl) (by kernel_rfl) (f28n2_ok FUEL bb1 bh2 ba3 0 0 h49)) (tds:=[]) (m:=[]) (keep:=[7,8]) (st2:=(f28n1E bb1 bh2 ba3 (.norm v50)).2) (by kernel_rfl) an rfl
inductive f28n0O where
 | ret (v55:Int) (v56:Int)
def f28n0E(a1:Qd)(a2:ByteArray):f28n0O→Ex×Tr×Hp
 | .ret v55 v56=>(.ret,mkS [(4,(jI v55)),(5,(jI v56))],[])
def f28n0S(a1:Qd)(a2:ByteArray):Tr×Hp:=(Qab [(jA Qd.cells a1),(jS a2)] 0 .leaf,[])
noncomputable def f28n0(a1:Qd)(a2:ByteArray):Option f28n0O :=
 (f25 a1).bind fun x5 =>
 (f28n1 a2 x5 a1).bind fun o52=>match o52 with
 | .norm v54=>some (.ret v54 x5.2)
theorem f28n0_ok(a1:Qd)(a2:ByteArray){o:f28n0O}(h:f28n0 a1 a2=some o):T Try.prog Try.f28.ntmps 0 c28 (f28n0S a1 a2) (·=f28n0E a1 a2 o):=by
 unfold f28n0 at h;obtain ⟨x5,h6,h⟩:=Qe h;refine rN Qh 3 [j3,([],[jH 1 (.tup [(jL 3 Qb.cells x5.1),(jI x5.2)])],[]),j3] [] [] [0] [1,2,6,7,8] (f28n1S a2 x5 a1) (ap (f25_ok a1 h6) an) ?_;obtain ⟨o52,h53,h⟩:=Qe h;cases o52 with
 | norm v54 =>
  refine T.oneN (by kernel_rfl) (f28n1_ok a2 x5 a1 h53) (st2:=(f28n1E a2 x5 a1 (.norm v54)).2) rfl ?_;obtain rfl:=Qg h;exact rE Qh [j3] [] [] [] [4,5] (.ret,(f28n0E a1 a2 (.ret v54 x5.2)).2) an rfl
noncomputable def f28(a1:Qd)(a2:ByteArray):Option (Int×Int):=(f28n0 a1 a2).bind fun o=>match o with
 | .ret v55 v56=>some (v55,v56)
theorem f28_ok(a1:Qd)(a2:ByteArray){r:Int×Int}(h:f28 a1 a2=some r):Qn Try.prog false 28 [(jA Qd.cells a1),(jS a2)] [] (.tup [(jI r.1),(jI r.2)]) []:=by
 unfold f28 at h;obtain ⟨o,ho,h⟩:=Qe h;cases o with
 | ret v55 v56 =>
  obtain rfl:=Qg h;exact Qn.plain Qh (f:=Try.f28) (c:=c28) (by kernel_rfl) (by kernel_rfl) (by kernel_rfl) (by kernel_rfl) ((f28n0_ok a1 a2 ho).mono fun r e=>by subst e; exact ⟨.inl rfl,(.tup [(jI v55),(jI v56)]),(.tup [(jI v55),(jI v56)]),by kernel_rfl,by kernel_rfl,((Wk.refl _):Wk (.tup [(jI v55),(jI v56)]) (.tup [(jI v55),(jI v56)]))⟩)

noncomputable def c29:Code:=Try.f29.body.getD .skip
inductive f29n2O where
 | exit0
 | ret
def f29n2E(bg1 bg2:List Qb):f29n2O→Ex×Tr×Hp
 | .exit0=>((.exit 0),mkS [],[])
 | .ret=>(.ret,mkS [(4,(jB false))],[])
def f29n2S(bg1 bg2:List Qb)(v30:Int):Tr×Hp:=(mkS [(0,(jL 3 Qb.cells bg1)),(1,(jL 3 Qb.cells bg2)),(5,(jI v30))],[])
noncomputable def f29n2:Nat→List Qb→List Qb→Int→Option f29n2O
 | 0,_,_,_=>none
 | f+1,bg1,bg2,v30 =>
  bif decide (v30<(bg1.length:Int)) then
   (at? bg1 v30).bind fun x38 =>
   (at? bg2 v30).bind fun x40 =>
   bif (Qb.eqb x38 x40) then
    (f29n2 f bg1 bg2 (wr64 (v30+1)))
   else
    some .ret
  else
   some .exit0
theorem f29n2_ok:∀(f:Nat)(bg1 bg2:List Qb)(v30:Int){o:f29n2O},f29n2 f bg1 bg2 v30=some o→TL Try.prog Try.f29.ntmps 0 f (cL (cL (Qk 1 (cL (Qk 2 c29))))) (f29n2S bg1 bg2 v30) (·=f29n2E bg1 bg2 o)
 | 0,_,_,_,o,h=>by rw [f29n2] at h; cases h
 | f+1,bg1,bg2,v30,o,h=>by
  rw [f29n2] at h;refine TL.body (K:=fun s=>∃v30:Int,s=(f29n2S bg1 bg2 v30)∧f29n2 f bg1 bg2 v30=some o) ?_ (by rintro _ ⟨v30,rfl,hk⟩; exact f29n2_ok f _ _ _ hk);rcases Qi h with ⟨h32,h⟩|⟨h32,h⟩
  ·obtain ⟨x38,h39,h⟩:=Qe h;obtain ⟨x40,h41,h⟩:=Qe h;rcases Qi h with ⟨h42,h⟩|⟨h42,h⟩
   ·exact rE Qh [([],[],[(2,.val (jI (bg1.length:Int)))]),([],[(2,.idx (Int.toNat v30) (Qb.cells x38)),(6,.idx (Int.toNat v30) (Qb.cells x40)),(8,.bool (Qb.eqb x38 x40))],[]),j3] [some true,some false] [] [] [0,1,5] (.norm,(f29n2S bg1 bg2 (wr64 (v30+1)))) (ap (Qr (xs:=bg1) (c:=Qb.cells)) (ap h32 (ap (Qj h39).1 (ap (Qm Qb.cells (Qj h39).2) (ap (Qj h41).1 (ap (Qm Qb.cells (Qj h41).2) (ap (Qb.eqb_ok x38 x40) (ap (Qt h42) an)))))))) (Qs.norm ⟨(wr64 (v30+1)),rfl,h⟩)
   ·obtain rfl:=Qg h;exact rK Qh 2 [([],[],[(2,.val (jI (bg1.length:Int)))]),([],[(2,.idx (Int.toNat v30) (Qb.cells x38)),(6,.idx (Int.toNat v30) (Qb.cells x40)),(8,.bool (Qb.eqb x38 x40))],[]),j3] [some true,some true] [] [] [4] .ret ((f29n2E bg1 bg2 .ret).2) (ap (Qr (xs:=bg1) (c:=Qb.cells)) (ap h32 (ap (Qj h39).1 (ap (Qm Qb.cells (Qj h39).2) (ap (Qj h41).1 (ap (Qm Qb.cells (Qj h41).2) (ap (Qb.eqb_ok x38 x40) (ap (Qad h42) an)))))))) (Qs.out rfl rfl)
  ·obtain rfl:=Qg h;exact rK Qh 1 [([],[],[(2,.val (jI (bg1.length:Int)))])] [some false] [] [] [] (.exit 0) ((f29n2E bg1 bg2 .exit0).2) (ap (Qr (xs:=bg1) (c:=Qb.cells)) (ap h32 an)) (Qs.out rfl rfl)
noncomputable def f29n2L(bg1 bg2:List Qb):List Qb→Int→Option f29n2O
 | [],v30 =>
  some .exit0
 | x0::rest,v30 =>
  (at? bg2 v30).bind fun x40 =>
  bif (Qb.eqb x0 x40) then
   (f29n2L bg1 bg2 rest (v30+1))
  else
   some .ret
theorem f29n2L_eq(bg1 bg2:List Qb):∀(rest:List Qb)(f k:Nat),bg1.drop k=rest→bg1.length≤maxLen→rest.length<f→f29n2 f bg1 bg2 (k:Int)=f29n2L bg1 bg2 rest (k:Int)
 | _,0,_,_,_,hf=>absurd hf (Nat.not_lt_zero _)
 | [],f+1,k,hd,hm,hf=>by
  have hk:¬((k:Int)<(bg1.length:Int)):=by have:=Qac hd; omega
  rw [f29n2,f29n2L];simp only [decide_eq_false hk,cond_false]
 | x0::rest,f+1,k,hd,hm,hf=>by
  obtain ⟨hx,hlt,hd'⟩:=Qan hd;have hk:(k:Int)<(bg1.length:Int):=by omega
  have hw:wr64 ((k:Int)+1)=(k:Int)+1:=Qbp (by omega) (by unfold maxLen at hm; omega);have ih:f29n2 f bg1 bg2 ((k:Int)+1)=f29n2L bg1 bg2 rest ((k:Int)+1):=f29n2L_eq bg1 bg2 rest f (k+1) hd' hm (by simpa using hf);rw [f29n2,f29n2L];simp only [decide_eq_true hk,cond_true,Qaq,hx,Option.bind_some,hw,ih]
theorem f29n2_run(bg1 bg2:List Qb)(hm:bg1.length≤maxLen):f29n2 FUEL bg1 bg2 0=f29n2L bg1 bg2 bg1 0:=f29n2L_eq bg1 bg2 bg1 FUEL 0 List.drop_zero hm (Qai hm)
inductive f29n1O where
 | norm
 | ret
def f29n1E(bg1 bg2:List Qb):f29n1O→Ex×Tr×Hp
 | .norm=>(.norm,mkS [],[])
 | .ret=>(.ret,mkS [(4,(jB false))],[])
def f29n1S(bg1 bg2:List Qb):Tr×Hp:=(mkS [(0,(jL 3 Qb.cells bg1)),(1,(jL 3 Qb.cells bg2))],[])
noncomputable def f29n1(bg1 bg2:List Qb):Option f29n1O :=
 (f29n2 FUEL bg1 bg2 0).bind fun o43=>match o43 with
 | .exit0=>some .norm
 | .ret=>some .ret
theorem f29n1_ok(bg1 bg2:List Qb){o:f29n1O}(h:f29n1 bg1 bg2=some o):T Try.prog Try.f29.ntmps 0 (cL (Qk 2 c29)) (f29n1S bg1 bg2) (·=f29n1E bg1 bg2 o):=by
 unfold f29n1 at h;refine rN Qh 1 [j3] [] [] [] [0,1,5] (f29n2S bg1 bg2 0) an ?_;obtain ⟨o43,h44,h⟩:=Qe h;cases o43 with
 | exit0 =>
  obtain rfl:=Qg h;exact T.last' (T.bl (i:=0) (by kernel_rfl) (by kernel_rfl) (f29n2_ok FUEL bg1 bg2 0 h44)) (tds:=[]) (m:=[]) (keep:=[]) (st2:=(f29n1E bg1 bg2 .norm).2) (by kernel_rfl) an rfl
 | ret =>
  obtain rfl:=Qg h;exact T.last' (T.bl (i:=0) (by kernel_rfl) (by kernel_rfl) (f29n2_ok FUEL bg1 bg2 0 h44)) (tds:=[]) (m:=[]) (keep:=[4]) (st2:=(f29n1E bg1 bg2 .ret).2) (by kernel_rfl) an rfl
inductive f29n0O where
 | ret (v47:Bool)
def f29n0E(a1 a2:List Qb):f29n0O→Ex×Tr×Hp
 | .ret v47=>(.ret,mkS [(4,(jB v47))],[])
def f29n0S(a1 a2:List Qb):Tr×Hp:=(Qab [(jL 3 Qb.cells a1),(jL 3 Qb.cells a2)] 0 .leaf,[])
noncomputable def f29n0(a1 a2:List Qb):Option f29n0O :=
 bif decide ((a1.length:Int)=(a2.length:Int)) then
  (f29n1 a1 a2).bind fun o45=>match o45 with
  | .norm=>some (.ret true)
  | .ret=>some (.ret false)
 else
  some (.ret false)
theorem f29n0_ok(a1 a2:List Qb){o:f29n0O}(h:f29n0 a1 a2=some o):T Try.prog Try.f29.ntmps 0 c29 (f29n0S a1 a2) (·=f29n0E a1 a2 o):=by
 unfold f29n0 at h;rcases Qi h with ⟨h4,h⟩|⟨h4,h⟩
 ·refine rN Qh 2 [j3,([],[],[(1,.val (jI (a1.length:Int))),(3,.val (jI (a2.length:Int)))])] [some false] [] [] [0,1] (f29n1S a1 a2) (ap (Qr (xs:=a1) (c:=Qb.cells)) (ap (Qr (xs:=a2) (c:=Qb.cells)) (ap (Qt h4) an))) ?_;obtain ⟨o45,h46,h⟩:=Qe h;cases o45 with
  | norm =>
   refine T.oneN (by kernel_rfl) (f29n1_ok a1 a2 h46) (st2:=(f29n1E a1 a2 .norm).2) rfl ?_;obtain rfl:=Qg h;exact rE Qh [j3] [] [] [] [4] (.ret,(f29n0E a1 a2 (.ret true)).2) an rfl
  | ret =>
   obtain rfl:=Qg h;exact T.oneX' (by kernel_rfl) (f29n1_ok a1 a2 h46) (tds:=[]) (m:=[]) (keep:=[4]) (st2:=(f29n0E a1 a2 (.ret false)).2) (by kernel_rfl) an rfl rfl
 ·obtain rfl:=Qg h;exact rK Qh 2 [j3,([],[],[(1,.val (jI (a1.length:Int))),(3,.val (jI (a2.length:Int)))]),j3] [some true] [] [] [4] .ret ((f29n0E a1 a2 (.ret false)).2) (ap (Qr (xs:=a1) (c:=Qb.cells)) (ap (Qr (xs:=a2) (c:=Qb.cells)) (ap (Qad h4) an))) rfl
noncomputable def f29(a1 a2:List Qb):Option Bool:=(f29n0 a1 a2).bind fun o=>match o with
 | .ret v47=>some v47
theorem f29_ok(a1 a2:List Qb){r:Bool}(h:f29 a1 a2=some r):Qn Try.prog false 29 [(jL 3 Qb.cells a1),(jL 3 Qb.cells a2)] [] (jB r) []:=by
 unfold f29 at h;obtain ⟨o,ho,h⟩:=Qe h;cases o with
 | ret v47 =>
  obtain rfl:=Qg h;exact Qn.plain Qh (f:=Try.f29) (c:=c29) (by kernel_rfl) (by kernel_rfl) (by kernel_rfl) (by kernel_rfl) ((f29n0_ok a1 a2 ho).mono fun r e=>by subst e; exact ⟨.inl rfl,(jB v47),(jB v47),by kernel_rfl,by kernel_rfl,((Wk.refl _):Wk (jB v47) (jB v47))⟩)

noncomputable def c30:Code:=Try.f30.body.getD .skip
inductive f30n2O where
 | exit0
 | ret
def f30n2E(bl1 bl2:List Int):f30n2O→Ex×Tr×Hp
 | .exit0=>((.exit 0),mkS [],[])
 | .ret=>(.ret,mkS [(4,(jB false))],[])
def f30n2S(bl1 bl2:List Int)(v30:Int):Tr×Hp:=(mkS [(0,(.pl (.sl .any 1 (bl1.map (cInt .i64))))),(1,(.pl (.sl .any 1 (bl2.map (cInt .i64))))),(5,(jI v30))],[])
noncomputable def f30n2:Nat→List Int→List Int→Int→Option f30n2O
 | 0,_,_,_=>none
 | f+1,bl1,bl2,v30 =>
  bif decide (v30<(bl1.length:Int)) then
   (at? bl1 v30).bind fun x38 =>
   (at? bl2 v30).bind fun x40 =>
   bif decide (x38=x40) then
    (f30n2 f bl1 bl2 (wr64 (v30+1)))
   else
    some .ret
  else
   some .exit0
theorem f30n2_ok:∀(f:Nat)(bl1 bl2:List Int)(v30:Int){o:f30n2O},f30n2 f bl1 bl2 v30=some o→TL Try.prog Try.f30.ntmps 0 f (cL (cL (Qk 1 (cL (Qk 2 c30))))) (f30n2S bl1 bl2 v30) (·=f30n2E bl1 bl2 o)
 | 0,_,_,_,o,h=>by rw [f30n2] at h; cases h
 | f+1,bl1,bl2,v30,o,h=>by
  rw [f30n2] at h;refine TL.body (K:=fun s=>∃v30:Int,s=(f30n2S bl1 bl2 v30)∧f30n2 f bl1 bl2 v30=some o) ?_ (by rintro _ ⟨v30,rfl,hk⟩; exact f30n2_ok f _ _ _ hk);rcases Qi h with ⟨h32,h⟩|⟨h32,h⟩
  ·obtain ⟨x38,h39,h⟩:=Qe h;obtain ⟨x40,h41,h⟩:=Qe h;rcases Qi h with ⟨h42,h⟩|⟨h42,h⟩
   ·exact rE Qh [([],[],[(2,.val (jI (bl1.length:Int)))]),([],[(2,.idx (Int.toNat v30) ((cInt .i64) x38)),(6,.idx (Int.toNat v30) ((cInt .i64) x40))],[]),j3] [some true,some false] [] [] [0,1,5] (.norm,(f30n2S bl1 bl2 (wr64 (v30+1)))) (ap (Qr (xs:=bl1) (c:=(cInt .i64))) (ap h32 (ap (Qj h39).1 (ap (Qm (cInt .i64) (Qj h39).2) (ap (Qj h41).1 (ap (Qm (cInt .i64) (Qj h41).2) (ap (Qt h42) an))))))) (Qs.norm ⟨(wr64 (v30+1)),rfl,h⟩)
   ·obtain rfl:=Qg h;exact rK Qh 2 [([],[],[(2,.val (jI (bl1.length:Int)))]),([],[(2,.idx (Int.toNat v30) ((cInt .i64) x38)),(6,.idx (Int.toNat v30) ((cInt .i64) x40))],[]),j3] [some true,some true] [] [] [4] .ret ((f30n2E bl1 bl2 .ret).2) (ap (Qr (xs:=bl1) (c:=(cInt .i64))) (ap h32 (ap (Qj h39).1 (ap (Qm (cInt .i64) (Qj h39).2) (ap (Qj h41).1 (ap (Qm (cInt .i64) (Qj h41).2) (ap (Qad h42) an))))))) (Qs.out rfl rfl)
  ·obtain rfl:=Qg h;exact rK Qh 1 [([],[],[(2,.val (jI (bl1.length:Int)))])] [some false] [] [] [] (.exit 0) ((f30n2E bl1 bl2 .exit0).2) (ap (Qr (xs:=bl1) (c:=(cInt .i64))) (ap h32 an)) (Qs.out rfl rfl)
noncomputable def f30n2L(bl1 bl2:List Int):List Int→Int→Option f30n2O
 | [],v30 =>
  some .exit0
 | x0::rest,v30 =>
  (at? bl2 v30).bind fun x40 =>
  bif decide (x0=x40) then
   (f30n2L bl1 bl2 rest (v30+1))
  else
   some .ret
theorem f30n2L_eq(bl1 bl2:List Int):∀(rest:List Int)(f k:Nat),bl1.drop k=rest→bl1.length≤maxLen→rest.length<f→f30n2 f bl1 bl2 (k:Int)=f30n2L bl1 bl2 rest (k:Int)
 | _,0,_,_,_,hf=>absurd hf (Nat.not_lt_zero _)
 | [],f+1,k,hd,hm,hf=>by
  have hk:¬((k:Int)<(bl1.length:Int)):=by have:=Qac hd; omega
  rw [f30n2,f30n2L];simp only [decide_eq_false hk,cond_false]
 | x0::rest,f+1,k,hd,hm,hf=>by
  obtain ⟨hx,hlt,hd'⟩:=Qan hd;have hk:(k:Int)<(bl1.length:Int):=by omega
  have hw:wr64 ((k:Int)+1)=(k:Int)+1:=Qbp (by omega) (by unfold maxLen at hm; omega);have ih:f30n2 f bl1 bl2 ((k:Int)+1)=f30n2L bl1 bl2 rest ((k:Int)+1):=f30n2L_eq bl1 bl2 rest f (k+1) hd' hm (by simpa using hf);rw [f30n2,f30n2L];simp only [decide_eq_true hk,cond_true,Qaq,hx,Option.bind_some,hw,ih]
theorem f30n2_run(bl1 bl2:List Int)(hm:bl1.length≤maxLen):f30n2 FUEL bl1 bl2 0=f30n2L bl1 bl2 bl1 0:=f30n2L_eq bl1 bl2 bl1 FUEL 0 List.drop_zero hm (Qai hm)
inductive f30n1O where
 | norm
 | ret
def f30n1E(bl1 bl2:List Int):f30n1O→Ex×Tr×Hp
 | .norm=>(.norm,mkS [],[])
 | .ret=>(.ret,mkS [(4,(jB false))],[])
def f30n1S(bl1 bl2:List Int):Tr×Hp:=(mkS [(0,(.pl (.sl .any 1 (bl1.map (cInt .i64))))),(1,(.pl (.sl .any 1 (bl2.map (cInt .i64)))))],[])
noncomputable def f30n1(bl1 bl2:List Int):Option f30n1O :=
 (f30n2 FUEL bl1 bl2 0).bind fun o43=>match o43 with
 | .exit0=>some .norm
 | .ret=>some .ret
theorem f30n1_ok(bl1 bl2:List Int){o:f30n1O}(h:f30n1 bl1 bl2=some o):T Try.prog Try.f30.ntmps 0 (cL (Qk 2 c30)) (f30n1S bl1 bl2) (·=f30n1E bl1 bl2 o):=by
 unfold f30n1 at h;refine rN Qh 1 [j3] [] [] [] [0,1,5] (f30n2S bl1 bl2 0) an ?_;obtain ⟨o43,h44,h⟩:=Qe h;cases o43 with
 | exit0 =>
  obtain rfl:=Qg h;exact T.last' (T.bl (i:=0) (by kernel_rfl) (by kernel_rfl) (f30n2_ok FUEL bl1 bl2 0 h44)) (tds:=[]) (m:=[]) (keep:=[]) (st2:=(f30n1E bl1 bl2 .norm).2) (by kernel_rfl) an rfl
 | ret =>
  obtain rfl:=Qg h;exact T.last' (T.bl (i:=0) (by kernel_rfl) (by kernel_rfl) (f30n2_ok FUEL bl1 bl2 0 h44)) (tds:=[]) (m:=[]) (keep:=[4]) (st2:=(f30n1E bl1 bl2 .ret).2) (by kernel_rfl) an rfl
inductive f30n0O where
 | ret (v47:Bool)
def f30n0E(a1 a2:List Int):f30n0O→Ex×Tr×Hp
 | .ret v47=>(.ret,mkS [(4,(jB v47))],[])
def f30n0S(a1 a2:List Int):Tr×Hp:=(Qab [(.pl (.sl .any 1 (a1.map (cInt .i64)))),(.pl (.sl .any 1 (a2.map (cInt .i64))))] 0 .leaf,[])
noncomputable def f30n0(a1 a2:List Int):Option f30n0O :=
 bif decide ((a1.length:Int)=(a2.length:Int)) then
  (f30n1 a1 a2).bind fun o45=>match o45 with
  | .norm=>some (.ret true)
  | .ret=>some (.ret false)
 else
  some (.ret false)
theorem f30n0_ok(a1 a2:List Int){o:f30n0O}(h:f30n0 a1 a2=some o):T Try.prog Try.f30.ntmps 0 c30 (f30n0S a1 a2) (·=f30n0E a1 a2 o):=by
 unfold f30n0 at h;rcases Qi h with ⟨h4,h⟩|⟨h4,h⟩
 ·refine rN Qh 2 [j3,([],[],[(1,.val (jI (a1.length:Int))),(3,.val (jI (a2.length:Int)))])] [some false] [] [] [0,1] (f30n1S a1 a2) (ap (Qr (xs:=a1) (c:=(cInt .i64))) (ap (Qr (xs:=a2) (c:=(cInt .i64))) (ap (Qt h4) an))) ?_;obtain ⟨o45,h46,h⟩:=Qe h;cases o45 with
  | norm =>
   refine T.oneN (by kernel_rfl) (f30n1_ok a1 a2 h46) (st2:=(f30n1E a1 a2 .norm).2) rfl ?_;obtain rfl:=Qg h;exact rE Qh [j3] [] [] [] [4] (.ret,(f30n0E a1 a2 (.ret true)).2) an rfl
  | ret =>
   obtain rfl:=Qg h;exact T.oneX' (by kernel_rfl) (f30n1_ok a1 a2 h46) (tds:=[]) (m:=[]) (keep:=[4]) (st2:=(f30n0E a1 a2 (.ret false)).2) (by kernel_rfl) an rfl rfl
 ·obtain rfl:=Qg h;exact rK Qh 2 [j3,([],[],[(1,.val (jI (a1.length:Int))),(3,.val (jI (a2.length:Int)))]),j3] [some true] [] [] [4] .ret ((f30n0E a1 a2 (.ret false)).2) (ap (Qr (xs:=a1) (c:=(cInt .i64))) (ap (Qr (xs:=a2) (c:=(cInt .i64))) (ap (Qad h4) an))) rfl
noncomputable def f30(a1 a2:List Int):Option Bool:=(f30n0 a1 a2).bind fun o=>match o with
 | .ret v47=>some v47
theorem f30_ok(a1 a2:List Int){r:Bool}(h:f30 a1 a2=some r):Qn Try.prog false 30 [(.pl (.sl .any 1 (a1.map (cInt .i64)))),(.pl (.sl .any 1 (a2.map (cInt .i64))))] [] (jB r) []:=by
 unfold f30 at h;obtain ⟨o,ho,h⟩:=Qe h;cases o with
 | ret v47 =>
  obtain rfl:=Qg h;exact Qn.plain Qh (f:=Try.f30) (c:=c30) (by kernel_rfl) (by kernel_rfl) (by kernel_rfl) (by kernel_rfl) ((f30n0_ok a1 a2 ho).mono fun r e=>by subst e; exact ⟨.inl rfl,(jB v47),(jB v47),by kernel_rfl,by kernel_rfl,((Wk.refl _):Wk (jB v47) (jB v47))⟩)

noncomputable def c8:Code:=Try.f8.body.getD .skip
inductive f8n1O where
 | norm (v205:Bool)
def f8n1E(bi1:Bool)(br2:Int×Int×(List Qa))(bs3:Qd×Int)(ba4:Qd)(bo5:Qc)(bj6:(List Qa)×(List Qc)):f8n1O→Ex×Tr×Hp
 | .norm v205=>(.norm,mkS [(2,(.bp 0 0)),(3,(.bp 1 0)),(5,(jB bi1)),(6,(.bp 2 0)),(7,(.bp 3 0)),(9,(.bp 4 0)),(11,(jB v205))],[some (.box ((Qd.cells ba4).map .pl)),some (.box ((Qc.cells bo5).map .pl)),some (.box [(.pl (.int .u8 ba4.Rule)),(.own 5),(.own 6)]),some (.box [(.pl (.int .u8 br2.2.1)),(.own 7),(.pl (.sl .nil 0 []))]),some (.box ((Qd.cells bs3.1).map .pl)),jR 3 Qa.cells bj6.1,jR 4 Qc.cells bj6.2,jR 3 Qa.cells br2.2.2])
def f8n1S(bi1:Bool)(br2:Int×Int×(List Qa))(bs3:Qd×Int)(ba4:Qd)(bo5:Qc)(bj6:(List Qa)×(List Qc)):Tr×Hp:=(mkS [(2,(.bp 0 0)),(3,(.bp 1 0)),(5,(jB bi1)),(6,(.bp 2 0)),(7,(.bp 3 0)),(8,(jI br2.1)),(9,(.bp 4 0)),(10,(jI bs3.2))],[some (.box ((Qd.cells ba4).map .pl)),some (.box ((Qc.cells bo5).map .pl)),some (.box [(.pl (.int .u8 ba4.Rule)),(.own 5),(.own 6)]),some (.box [(.pl (.int .u8 br2.2.1)),(.own 7),(.pl (.sl .nil 0 []))]),some (.box ((Qd.cells bs3.1).map .pl)),jR 3 Qa.cells bj6.1,jR 4 Qc.cells bj6.2,jR 3 Qa.cells br2.2.2])
noncomputable def f8n1(bi1:Bool)(br2:Int×Int×(List Qa))(bs3:Qd×Int)(ba4:Qd)(bo5:Qc)(bj6:(List Qa)×(List Qc)):Option f8n1O :=
 (f21 (Qd.mk br2.2.1 br2.2.2 []) bs3.1).bind fun x202 =>
 bif x202 then
  some (.norm (decide (br2.1=bs3.2)))
 else
  some (.norm false)
theorem f8n1_ok(bi1:Bool)(br2:Int×Int×(List Qa))(bs3:Qd×Int)(ba4:Qd)(bo5:Qc)(bj6:(List Qa)×(List Qc)){o:f8n1O}(h:f8n1 bi1 br2 bs3 ba4 bo5 bj6=some o):T Try.prog Try.f8.ntmps 0 (cL (Qk 1 (Qk 5 c8))) (f8n1S bi1 br2 bs3 ba4 bo5 bj6) (·=f8n1E bi1 br2 bs3 ba4 bo5 bj6 o):=by
 unfold f8n1 at h;obtain ⟨x202,h203,h⟩:=Qe h;rcases Qi h with ⟨h204,h⟩|⟨h204,h⟩
 ·obtain rfl:=Qg h;exact rE Qh [(jT [4,5,6],[jH 2 (jB x202),(7,.bool true)],[])] [] [] [0,1,2,3,4,5,6,7] [2,3,5,6,7,9,11] (.norm,(f8n1E bi1 br2 bs3 ba4 bo5 bj6 (.norm (decide (br2.1=bs3.2)))).2) (ap4 h204 (ap (Qn.wk (args':=[(.pl (.agg [(.int .u8 br2.2.1),(.sl .any 3 (br2.2.2.map Qa.cells)),(.sl .nil 0 [])])),(jA Qd.cells bs3.1)]) (f21_ok (Qd.mk br2.2.1 br2.2.2 []) bs3.1 h203) (wlc (Wk.pl (WkP.agg (wpc (WkP.refl _) (wpc (WkP.refl _) (wpc (WkP.nil (f:=.nil) (sz:=0) (sz':=4)) wpn))))) (wlc (Wk.refl _) wln)) (Wk.refl _) rfl) an)) rfl
 ·obtain rfl:=Qg h;exact rE Qh [(jF [4,5,6],[jH 2 (jB x202),(7,.bool false)],[])] [] [] [0,1,2,3,4,5,6,7] [2,3,5,6,7,9,11] (.norm,(f8n1E bi1 br2 bs3 ba4 bo5 bj6 (.norm false)).2) (ap4 h204 (ap (Qn.wk (args':=[(.pl (.agg [(.int .u8 br2.2.1),(.sl .any 3 (br2.2.2.map Qa.cells)),(.sl .nil 0 [])])),(jA Qd.cells bs3.1)]) (f21_ok (Qd.mk br2.2.1 br2.2.2 []) bs3.1 h203) (wlc (Wk.pl (WkP.agg (wpc (WkP.refl _) (wpc (WkP.refl _) (wpc (WkP.nil (f:=.nil) (sz:=0) (sz':=4)) wpn))))) (wlc (Wk.refl _) wln)) (Wk.refl _) rfl) an)) rfl
inductive f8n2O where
 | norm (v353:Bool)
def f8n2E(bi1:Bool)(bt2:Int×Int×(List Qa)×(List Qc))(bs3:Qd×Int)(bi4:Bool)(ba5:Qd)(bo6:Qc)(bj7:(List Qa)×(List Qc)):f8n2O→Ex×Tr×Hp
 | .norm v353=>(.norm,mkS [(2,(.bp 0 0)),(3,(.bp 1 0)),(5,(jB bi1)),(6,(.bp 2 0)),(7,(.bp 3 0)),(11,(jB v353))],[some (.box ((Qd.cells ba5).map .pl)),some (.box ((Qc.cells bo6).map .pl)),some (.box [(.pl (.int .u8 ba5.Rule)),(.own 4),(.own 5)]),some (.box [(.pl (.int .u8 bt2.2.1)),(.own 6),(.own 7)]),jR 3 Qa.cells bj7.1,jR 4 Qc.cells bj7.2,jR 3 Qa.cells bt2.2.2.1,jR 4 Qc.cells bt2.2.2.2])
def f8n2S(bi1:Bool)(bt2:Int×Int×(List Qa)×(List Qc))(bs3:Qd×Int)(bi4:Bool)(ba5:Qd)(bo6:Qc)(bj7:(List Qa)×(List Qc)):Tr×Hp:=(mkS [(2,(.bp 0 0)),(3,(.bp 1 0)),(5,(jB bi1)),(6,(.bp 2 0)),(7,(.bp 3 0)),(8,(jI bt2.1)),(9,(.bp 4 0)),(10,(jI bs3.2)),(11,(jB bi4))],[some (.box ((Qd.cells ba5).map .pl)),some (.box ((Qc.cells bo6).map .pl)),some (.box [(.pl (.int .u8 ba5.Rule)),(.own 5),(.own 6)]),some (.box [(.pl (.int .u8 bt2.2.1)),(.own 7),(.own 8)]),some (.box ((Qd.cells bs3.1).map .pl)),jR 3 Qa.cells bj7.1,jR 4 Qc.cells bj7.2,jR 3 Qa.cells bt2.2.2.1,jR 4 Qc.cells bt2.2.2.2])
noncomputable def f8n2(bi1:Bool)(bt2:Int×Int×(List Qa)×(List Qc))(bs3:Qd×Int)(bi4:Bool)(ba5:Qd)(bo6:Qc)(bj7:(List Qa)×(List Qc)):Option f8n2O :=
 bif bi4 then
  (f21 (Qd.mk bt2.2.1 bt2.2.2.1 bt2.2.2.2) bs3.1).bind fun x350 =>
  bif x350 then
   some (.norm (decide (bt2.1=bs3.2)))
  else
   some (.norm false)
 else
  some (.norm false)
theorem f8n2_ok(bi1:Bool)(bt2:Int×Int×(List Qa)×(List Qc))(bs3:Qd×Int)(bi4:Bool)(ba5:Qd)(bo6:Qc)(bj7:(List Qa)×(List Qc)){o:f8n2O}(h:f8n2 bi1 bt2 bs3 bi4 ba5 bo6 bj7=some o):T Try.prog Try.f8.ntmps 0 (cL (Qk 1 (Qk 2 (Qk 1 (Qk 1 (Qk 5 c8)))))) (f8n2S bi1 bt2 bs3 bi4 ba5 bo6 bj7) (·=f8n2E bi1 bt2 bs3 bi4 ba5 bo6 bj7 o):=by
 unfold f8n2 at h;rcases Qi h with ⟨h349,h⟩|⟨h349,h⟩
 ·obtain ⟨x350,h351,h⟩:=Qe h;rcases Qi h with ⟨h352,h⟩|⟨h352,h⟩
  ·obtain rfl:=Qg h;exact rE Qh [(jT [2,3,4,7,8,9],[jH 4 (jB x350),(5,.bool true),(10,.bool true)],[])] [] [] [0,1,2,3,5,6,7,8] [2,3,5,6,7,11] (.norm,(f8n2E bi1 bt2 bs3 bi4 ba5 bo6 bj7 (.norm (decide (bt2.1=bs3.2)))).2) (ap4 h349 (ap4 h352 (ap (f21_ok (Qd.mk bt2.2.1 bt2.2.2.1 bt2.2.2.2) bs3.1 h351) an))) rfl
  ·obtain rfl:=Qg h;exact rE Qh [(jF [7,8,9]++jT [2,3,4],[jH 4 (jB x350),(5,.bool true),(10,.bool false)],[])] [] [] [0,1,2,3,5,6,7,8] [2,3,5,6,7,11] (.norm,(f8n2E bi1 bt2 bs3 bi4 ba5 bo6 bj7 (.norm false)).2) (ap4 h349 (ap4 h352 (ap (f21_ok (Qd.mk bt2.2.1 bt2.2.2.1 bt2.2.2.2) bs3.1 h351) an))) rfl
 ·obtain rfl:=Qg h;exact rE Qh [(jF [2,3,4],[(5,.bool false)],[])] [] [] [0,1,2,3,5,6,7,8] [2,3,5,6,7,11] (.norm,(f8n2E bi1 bt2 bs3 bi4 ba5 bo6 bj7 (.norm false)).2) (ap4 h349 an) rfl
inductive f8n3O where
 | norm (v507:Bool)
def f8n3E(bi1 bi2:Bool)(bh3 bh4:(List Qb)×Int)(bp5 bp6:(List Int)×Int)(bm7 bm8 bm9 bm10:Int×Int)(ba11:Qd)(bj12:(List Qa)×(List Qc)):f8n3O→Ex×Tr×Hp
 | .norm v507=>(.norm,mkS [(2,(.bp 0 0)),(5,(jB bi1)),(6,(.bp 1 0)),(11,(jB bi2)),(28,(jB v507))],[some (.box ((Qd.cells ba11).map .pl)),some (.box [(.pl (.int .u8 ba11.Rule)),(.own 2),(.own 3)]),jZ 3 Qa.cells bj12.1,jZ 4 Qc.cells bj12.2])
def f8n3S(bi1 bi2:Bool)(bh3 bh4:(List Qb)×Int)(bp5 bp6:(List Int)×Int)(bm7 bm8 bm9 bm10:Int×Int)(ba11:Qd)(bj12:(List Qa)×(List Qc)):Tr×Hp:=(mkS [(2,(.bp 0 0)),(5,(jB bi1)),(6,(.bp 1 0)),(11,(jB bi2)),(12,(jL 3 Qb.cells bh3.1)),(13,(jI bh3.2)),(14,(jL 3 Qb.cells bh4.1)),(15,(jI bh4.2)),(16,(.pl (.sl .any 1 (bp5.1.map (cInt .i64))))),(17,(jI bp5.2)),(18,(.pl (.sl .any 1 (bp6.1.map (cInt .i64))))),(19,(jI bp6.2)),(20,(jI bm7.1)),(21,(jI bm7.2)),(22,(jI bm8.1)),(23,(jI bm8.2)),(24,(jI bm9.1)),(25,(jI bm9.2)),(26,(jI bm10.1)),(27,(jI bm10.2))],[some (.box ((Qd.cells ba11).map .pl)),some (.box [(.pl (.int .u8 ba11.Rule)),(.own 2),(.own 3)]),jZ 3 Qa.cells bj12.1,jZ 4 Qc.cells bj12.2])
noncomputable def f8n3(bi1 bi2:Bool)(bh3 bh4:(List Qb)×Int)(bp5 bp6:(List Int)×Int)(bm7 bm8 bm9 bm10:Int×Int)(ba11:Qd)(bj12:(List Qa)×(List Qc)):Option f8n3O :=
 (f29 bh3.1 bh4.1).bind fun x491 =>
 bif x491 then
  bif decide (bh3.2=bh4.2) then
   (f30 bp5.1 bp6.1).bind fun x495 =>
   bif x495 then
    bif decide (bp5.2=bp6.2) then
     bif decide (bm7.1=bm8.1) then
      bif decide (bm7.2=bm8.2) then
       bif decide (bm9.1=bm10.1) then
        bif decide (bm9.2=bm10.2) then
         (f31 (Qd.mk ba11.Rule bj12.1 bj12.2)).bind fun x503 =>
         (f32 ba11).bind fun x505 =>
         some (.norm (decide (x503=x505)))
        else
         some (.norm false)
       else
        some (.norm false)
      else
       some (.norm false)
     else
      some (.norm false)
    else
     some (.norm false)
   else
    some (.norm false)
  else
   some (.norm false)
 else
  some (.norm false)
theorem f8n3_ok(bi1 bi2:Bool)(bh3 bh4:(List Qb)×Int)(bp5 bp6:(List Int)×Int)(bm7 bm8 bm9 bm10:Int×Int)(ba11:Qd)(bj12:(List Qa)×(List Qc)){o:f8n3O}(h:f8n3 bi1 bi2 bh3 bh4 bp5 bp6 bm7 bm8 bm9 bm10 ba11 bj12=some o):T Try.prog Try.f8.ntmps 0 (cL (Qk 5 (Qk 4 (Qk 1 (Qk 1 (Qk 2 (Qk 1 (Qk 1 (Qk 5 c8))))))))) (f8n3S bi1 bi2 bh3 bh4 bp5 bp6 bm7 bm8 bm9 bm10 ba11 bj12) (·=f8n3E bi1 bi2 bh3 bh4 bp5 bp6 bm7 bm8 bm9 bm10 ba11 bj12 o):=by
 unfold f8n3 at h;obtain ⟨x491,h492,h⟩:=Qe h;rcases Qi h with ⟨h493,h⟩|⟨h493,h⟩
 ·rcases Qi h with ⟨h494,h⟩|⟨h494,h⟩
  ·obtain ⟨x495,h496,h⟩:=Qe h;rcases Qi h with ⟨h497,h⟩|⟨h497,h⟩
   ·rcases Qi h with ⟨h498,h⟩|⟨h498,h⟩
    ·rcases Qi h with ⟨h499,h⟩|⟨h499,h⟩
     ·rcases Qi h with ⟨h500,h⟩|⟨h500,h⟩
      ·rcases Qi h with ⟨h501,h⟩|⟨h501,h⟩
       ·rcases Qi h with ⟨h502,h⟩|⟨h502,h⟩
        ·obtain ⟨x503,h504,h⟩:=Qe h;obtain ⟨x505,h506,h⟩:=Qe h;obtain rfl:=Qg h;exact rE Qh [(jT [4,5,6,9,10,11,14,15,16,19,20,21,24,25,26,29,30,31,34,35,36,39,40,41,42,43],[jH 2 (jB x491),(7,.bool true),jH 11 (jB x495),(12,.bool true),(17,.bool true),(22,.bool true),(27,.bool true),(32,.bool true),(37,.bool true),jH 40 (jI x503),jH 42 (jI x505),(44,.bool true)],[])] [] [] [0,1,2,3] [2,5,6,11,28] (.norm,(f8n3E bi1 bi2 bh3 bh4 bp5 bp6 bm7 bm8 bm9 bm10 ba11 bj12 (.norm (decide (x503=x505)))).2) (ap4 h493 (ap4 h494 (ap4 h497 (ap4 h498 (ap4 h499 (ap4 h500 (ap4 h501 (ap2 h502 (ap4 h502 (ap (f29_ok bh3.1 bh4.1 h492) (ap (f30_ok bp5.1 bp6.1 h496) (ap (f31_ok (Qd.mk ba11.Rule bj12.1 bj12.2) h504) (ap (f32_ok ba11 h506) an))))))))))))) rfl
        ·obtain rfl:=Qg h;exact rE Qh [(jF [39,40,41,42,43]++jT [4,5,6,9,10,11,14,15,16,19,20,21,24,25,26,29,30,31,34,35,36],[jH 2 (jB x491),(7,.bool true),jH 11 (jB x495),(12,.bool true),(17,.bool true),(22,.bool true),(27,.bool true),(32,.bool true),(37,.bool true),(44,.bool false)],[])] [] [] [0,1,2,3] [2,5,6,11,28] (.norm,(f8n3E bi1 bi2 bh3 bh4 bp5 bp6 bm7 bm8 bm9 bm10 ba11 bj12 (.norm false)).2) (ap4 h493 (ap4 h494 (ap4 h497 (ap4 h498 (ap4 h499 (ap4 h500 (ap4 h501 (ap2 h502 (ap4 h502 (ap (f29_ok bh3.1 bh4.1 h492) (ap (f30_ok bp5.1 bp6.1 h496) an))))))))))) rfl
       ·obtain rfl:=Qg h;exact rE Qh [(jF [34,35,36]++jT [4,5,6,9,10,11,14,15,16,19,20,21,24,25,26,29,30,31],[jH 2 (jB x491),(7,.bool true),jH 11 (jB x495),(12,.bool true),(17,.bool true),(22,.bool true),(27,.bool true),(32,.bool true),(37,.bool false)],[])] [] [] [0,1,2,3] [2,5,6,11,28] (.norm,(f8n3E bi1 bi2 bh3 bh4 bp5 bp6 bm7 bm8 bm9 bm10 ba11 bj12 (.norm false)).2) (ap4 h493 (ap4 h494 (ap4 h497 (ap4 h498 (ap4 h499 (ap4 h500 (ap4 h501 (ap (f29_ok bh3.1 bh4.1 h492) (ap (f30_ok bp5.1 bp6.1 h496) an))))))))) rfl
      ·obtain rfl:=Qg h;exact rE Qh [(jF [29,30,31]++jT [4,5,6,9,10,11,14,15,16,19,20,21,24,25,26],[jH 2 (jB x491),(7,.bool true),jH 11 (jB x495),(12,.bool true),(17,.bool true),(22,.bool true),(27,.bool true),(32,.bool false)],[])] [] [] [0,1,2,3] [2,5,6,11,28] (.norm,(f8n3E bi1 bi2 bh3 bh4 bp5 bp6 bm7 bm8 bm9 bm10 ba11 bj12 (.norm false)).2) (ap4 h493 (ap4 h494 (ap4 h497 (ap4 h498 (ap4 h499 (ap4 h500 (ap (f29_ok bh3.1 bh4.1 h492) (ap (f30_ok bp5.1 bp6.1 h496) an)))))))) rfl
     ·obtain rfl:=Qg h;exact rE Qh [(jF [24,25,26]++jT [4,5,6,9,10,11,14,15,16,19,20,21],[jH 2 (jB x491),(7,.bool true),jH 11 (jB x495),(12,.bool true),(17,.bool true),(22,.bool true),(27,.bool false)],[])] [] [] [0,1,2,3] [2,5,6,11,28] (.norm,(f8n3E bi1 bi2 bh3 bh4 bp5 bp6 bm7 bm8 bm9 bm10 ba11 bj12 (.norm false)).2) (ap4 h493 (ap4 h494 (ap4 h497 (ap4 h498 (ap4 h499 (ap (f29_ok bh3.1 bh4.1 h492) (ap (f30_ok bp5.1 bp6.1 h496) an))))))) rfl
    ·obtain rfl:=Qg h;exact rE Qh [(jF [19,20,21]++jT [4,5,6,9,10,11,14,15,16],[jH 2 (jB x491),(7,.bool true),jH 11 (jB x495),(12,.bool true),(17,.bool true),(22,.bool false)],[])] [] [] [0,1,2,3] [2,5,6,11,28] (.norm,(f8n3E bi1 bi2 bh3 bh4 bp5 bp6 bm7 bm8 bm9 bm10 ba11 bj12 (.norm false)).2) (ap4 h493 (ap4 h494 (ap4 h497 (ap4 h498 (ap (f29_ok bh3.1 bh4.1 h492) (ap (f30_ok bp5.1 bp6.1 h496) an)))))) rfl
   ·obtain rfl:=Qg h;exact rE Qh [(jF [14,15,16]++jT [4,5,6,9,10,11],[jH 2 (jB x491),(7,.bool true),jH 11 (jB x495),(12,.bool true),(17,.bool false)],[])] [] [] [0,1,2,3] [2,5,6,11,28] (.norm,(f8n3E bi1 bi2 bh3 bh4 bp5 bp6 bm7 bm8 bm9 bm10 ba11 bj12 (.norm false)).2) (ap4 h493 (ap4 h494 (ap4 h497 (ap (f29_ok bh3.1 bh4.1 h492) (ap (f30_ok bp5.1 bp6.1 h496) an))))) rfl
  ·obtain rfl:=Qg h;exact rE Qh [(jF [9,10,11]++jT [4,5,6],[jH 2 (jB x491),(7,.bool true),(12,.bool false)],[])] [] [] [0,1,2,3] [2,5,6,11,28] (.norm,(f8n3E bi1 bi2 bh3 bh4 bp5 bp6 bm7 bm8 bm9 bm10 ba11 bj12 (.norm false)).2) (ap4 h493 (ap4 h494 (ap (f29_ok bh3.1 bh4.1 h492) an))) rfl
 ·obtain rfl:=Qg h;exact rE Qh [(jF [4,5,6],[jH 2 (jB x491),(7,.bool false)],[])] [] [] [0,1,2,3] [2,5,6,11,28] (.norm,(f8n3E bi1 bi2 bh3 bh4 bp5 bp6 bm7 bm8 bm9 bm10 ba11 bj12 (.norm false)).2) (ap4 h493 (ap (f29_ok bh3.1 bh4.1 h492) an)) rfl
inductive f8n0O where
 | ret (v519:Bool)
def f8n0E(a1:Qd)(a2:Qc):f8n0O→Ex×Tr×Hp
 | .ret v519=>(.ret,mkS [(4,(jB v519))],[])
def f8n0S(a1:Qd)(a2:Qc):Tr×Hp:=(Qab [(jA Qd.cells a1),(jA Qc.cells a2)] 0 .leaf,[])
noncomputable def f8n0(a1:Qd)(a2:Qc):Option f8n0O :=
 f10.bind fun x5 =>
 (f11 a1).bind fun x11 =>
 bif x11 then
  some (.ret x5)
 else
  bif x5 then
   (f14r1 a1).bind fun x17 =>
   (f19r1 a1.Rule x17.1).bind fun x21 =>
   (f20 a1.Rule a1.Lots).bind fun x194 =>
   (f8n1 x5 x21 x194 a1 a2 x17).bind fun o206=>match o206 with
   | .norm v208=>(f22r1 x21.2.1 x21.2.2).bind fun x211 =>
    (f23r1 a1.Rule a2.Member a2.Lot a2.Units a2.Price x17.1 x17.2).bind fun x215 =>
    (f24 a1 a2.Member a2.Lot a2.Units a2.Price).bind fun x339 =>
    (f8n2 x5 x215 x339 v208 a1 a2 x17).bind fun o354=>match o354 with
    | .norm v356=>(f22r2 x215.2.1 x215.2.2.1 x215.2.2.2).bind fun x359 =>
     (f12 (Qd.mk a1.Rule x17.1 x17.2)).bind fun x363 =>
     (f25 a1).bind fun x367 =>
     (f18 (Qd.mk a1.Rule x17.1 x17.2)).bind fun x371 =>
     (f26 a1).bind fun x413 =>
     (f15 (Qd.mk a1.Rule x17.1 x17.2)).bind fun x417 =>
     (f27 a1).bind fun x421 =>
     (f16 (Qd.mk a1.Rule x17.1 x17.2) a2.Member).bind fun x425 =>
     (f28 a1 a2.Member).bind fun x429 =>
     (f8n3 x5 v356 x363 x367 x371 x413 x417 x421 x425 x429 a1 x17).bind fun o508=>match o508 with
     | .norm v510=>bif v356 then
       bif v510 then
        (f21 (Qd.mk a1.Rule x17.1 x17.2) a1).bind fun x517 =>
        some (.ret x517)
       else
        some (.ret false)
      else
       some (.ret false)
  else
   some (.ret x5)
theorem f8n0_ok(a1:Qd)(a2:Qc){o:f8n0O}(h:f8n0 a1 a2=some o):T Try.prog Try.f8.ntmps 0 c8 (f8n0S a1 a2) (·=f8n0E a1 a2 o):=by
 unfold f8n0 at h;obtain ⟨x5,h6,h⟩:=Qe h;obtain ⟨x11,h12,h⟩:=Qe h;rcases Qi h with ⟨h13,h⟩|⟨h13,h⟩
 ·obtain rfl:=Qg h;exact rK Qh 3 [j3,([],[jH 0 (jB x5)],[]),([(3,true),(4,true)],[jH 1 (jB x11),(5,.bool true)],[]),j3] [none] [] [] [4] .ret ((f8n0E a1 a2 (.ret x5)).2) (ap (f10_ok h6) (ap3 h13 (ap (f11_ok a1 h12) an))) rfl
 ·rcases Qi h with ⟨h14,h⟩|⟨h14,h⟩
  ·obtain ⟨x17,h18,h⟩:=Qe h;obtain ⟨x21,h22,h⟩:=Qe h
   refine rN Qh 5 [j3,([],[jH 0 (jB x5)],[]),([(3,false),(4,false)],[jH 1 (jB x11),(5,.bool false)],[]),([],[(1,.call (.agg [(.pl (.int .u8 a1.Rule)),(.own 3),(.own 4)]) [none,none,some (.box [(.pl (.int .u8 a1.Rule)),(.own 3),(.own 4)]),jR 3 Qa.cells x17.1,jR 4 Qc.cells x17.2])],[]),([],[(4,.call (.tup [(.agg [(.pl (.int .u8 x21.2.1)),(.own 7),(.pl (.sl .nil 0 []))]),(jI x21.1)]) (jN 3 [jR 3 Qa.cells x17.1,none,none,some (.box [(.pl (.int .u8 x21.2.1)),(.own 7),(.pl (.sl .nil 0 []))]),jR 3 Qa.cells x21.2.2]))],[])] [some false] [] [0,1,5,8,3,4,7] [2,3,5,6,7,8] (mkS [(2,(.bp 0 0)),(3,(.bp 1 0)),(5,(jB x5)),(6,(.bp 2 0)),(7,(.bp 3 0)),(8,(jI x21.1))],[some (.box ((Qd.cells a1).map .pl)),some (.box ((Qc.cells a2).map .pl)),some (.box [(.pl (.int .u8 a1.Rule)),(.own 4),(.own 5)]),some (.box [(.pl (.int .u8 x21.2.1)),(.own 6),(.pl (.sl .nil 0 []))]),jR 3 Qa.cells x17.1,jR 4 Qc.cells x17.2,jR 3 Qa.cells x21.2.2]) (ap (f10_ok h6) (ap3 h13 (ap (f11_ok a1 h12) (ap (Qt h14) (ap (Qn.rn 2 [] (f14r1_ok a1 h18)) (ap (Qn.rn 6 [3] (f19r1_ok a1.Rule x17.1 h22)) an)))))) ?_
   obtain ⟨x194,h195,h⟩:=Qe h;refine rN Qh 1 [([],[jH 4 (.tup [(jA Qd.cells x194.1),(jI x194.2)])],[])] [] [] [0,1,2,3,7,4,5,6] [2,3,5,6,7,8,9,10] (f8n1S x5 x21 x194 a1 a2 x17) (ap (f20_ok a1.Rule a1.Lots h195) an) ?_;obtain ⟨o206,h207,h⟩:=Qe h;cases o206 with
   | norm v208 =>
    refine T.oneN (by kernel_rfl) (f8n1_ok x5 x21 x194 a1 a2 x17 h207) (st2:=(f8n1E x5 x21 x194 a1 a2 x17 (.norm v208)).2) rfl ?_;obtain ⟨x211,h212,h⟩:=Qe h;obtain ⟨x215,h216,h⟩:=Qe h
    refine rN Qh 2 [([],[(1,.call (.tup []) (jN 7 [jR 3 Qa.cells x211]))],[]),([],[(9,.call (.tup [(.agg [(.pl (.int .u8 x215.2.1)),(.own 9),(.own 10)]),(jI x215.1)]) (jN 5 [jR 3 Qa.cells x17.1,jR 4 Qc.cells x17.2,none,some (.box [(.pl (.int .u8 x215.2.1)),(.own 9),(.own 10)]),jR 3 Qa.cells x215.2.2.1,jR 4 Qc.cells x215.2.2.2]))],[])] [] [] [0,1,2,3,4,5,6,9,10] [2,3,5,6,7,8,9,11] (mkS [(2,(.bp 0 0)),(3,(.bp 1 0)),(5,(jB x5)),(6,(.bp 2 0)),(7,(.bp 3 0)),(8,(jI x215.1)),(9,(.bp 4 0)),(11,(jB v208))],[some (.box ((Qd.cells a1).map .pl)),some (.box ((Qc.cells a2).map .pl)),some (.box [(.pl (.int .u8 a1.Rule)),(.own 5),(.own 6)]),some (.box [(.pl (.int .u8 x215.2.1)),(.own 7),(.own 8)]),some (.box ((Qd.cells x194.1).map .pl)),jR 3 Qa.cells x17.1,jR 4 Qc.cells x17.2,jR 3 Qa.cells x215.2.2.1,jR 4 Qc.cells x215.2.2.2]) (ap (Qn.rn 8 [7] (f22r1_ok x21.2.1 x21.2.2 h212)) (ap (Qn.rn 8 [5,6] (f23r1_ok a1.Rule a2.Member a2.Lot a2.Units a2.Price x17.1 x17.2 h216)) an)) ?_
    obtain ⟨x339,h340,h⟩:=Qe h;refine rN Qh 1 [([],[jH 9 (.tup [(jA Qd.cells x339.1),(jI x339.2)])],[])] [] [] [0,1,2,3,4,5,6,7,8] [2,3,5,6,7,8,9,10,11] (f8n2S x5 x215 x339 v208 a1 a2 x17) (ap (f24_ok a1 a2.Member a2.Lot a2.Units a2.Price h340) an) ?_;obtain ⟨o354,h355,h⟩:=Qe h;cases o354 with
    | norm v356 =>
     refine T.oneN (by kernel_rfl) (f8n2_ok x5 x215 x339 v208 a1 a2 x17 h355) (st2:=(f8n2E x5 x215 x339 v208 a1 a2 x17 (.norm v356)).2) rfl ?_;obtain ⟨x359,h360,h⟩:=Qe h;obtain ⟨x363,h364,h⟩:=Qe h;obtain ⟨x367,h368,h⟩:=Qe h;obtain ⟨x371,h372,h⟩:=Qe h
     refine rN Qh 4 [([],[(1,.call (.tup []) (jN 6 [jR 3 Qa.cells x359.1,jR 4 Qc.cells x359.2]))],[]),([],[jH 1 (.tup [(jL 3 Qb.cells x363.1),(jI x363.2)])],[]),([],[jH 1 (.tup [(jL 3 Qb.cells x367.1),(jI x367.2)])],[]),([],[jH 1 (.tup [(.pl (.sl .any 1 (x371.1.map (cInt .i64)))),(jI x371.2)])],[])] [] [] [0,1,2,4,5] [2,3,5,6,11,12,13,14,15,16,17] (mkS [(2,(.bp 0 0)),(3,(.bp 1 0)),(5,(jB x5)),(6,(.bp 2 0)),(11,(jB v356)),(12,(jL 3 Qb.cells x363.1)),(13,(jI x363.2)),(14,(jL 3 Qb.cells x367.1)),(15,(jI x367.2)),(16,(.pl (.sl .any 1 (x371.1.map (cInt .i64))))),(17,(jI x371.2))],[some (.box ((Qd.cells a1).map .pl)),some (.box ((Qc.cells a2).map .pl)),some (.box [(.pl (.int .u8 a1.Rule)),(.own 3),(.own 4)]),jZ 3 Qa.cells x17.1,jZ 4 Qc.cells x17.2]) (ap (Qn.rn 8 [6,7] (f22r2_ok x215.2.1 x215.2.2.1 x215.2.2.2 h360)) (ap (f12_ok (Qd.mk a1.Rule x17.1 x17.2) h364) (ap (f25_ok a1 h368) (ap (f18_ok (Qd.mk a1.Rule x17.1 x17.2) h372) an)))) ?_
     obtain ⟨x413,h414,h⟩:=Qe h;obtain ⟨x417,h418,h⟩:=Qe h;obtain ⟨x421,h422,h⟩:=Qe h;obtain ⟨x425,h426,h⟩:=Qe h;obtain ⟨x429,h430,h⟩:=Qe h;refine rN Qh 5 [([],[jH 1 (.tup [(.pl (.sl .any 1 (x413.1.map (cInt .i64)))),(jI x413.2)])],[]),([],[jH 1 (.tup [(jI x417.1),(jI x417.2)])],[]),([],[jH 1 (.tup [(jI x421.1),(jI x421.2)])],[]),([],[jH 3 (.tup [(jI x425.1),(jI x425.2)])],[]),([],[jH 3 (.tup [(jI x429.1),(jI x429.2)])],[])] [] [] [0,2,3,4] [2,5,6,11,12,13,14,15,16,17,18,19,20,21,22,23,24,25,26,27] (f8n3S x5 v356 x363 x367 x371 x413 x417 x421 x425 x429 a1 x17) (ap (f26_ok a1 h414) (ap (f15_ok (Qd.mk a1.Rule x17.1 x17.2) h418) (ap (f27_ok a1 h422) (ap (f16_ok (Qd.mk a1.Rule x17.1 x17.2) a2.Member h426) (ap (f28_ok a1 a2.Member h430) an))))) ?_;obtain ⟨o508,h509,h⟩:=Qe h;cases o508 with
     | norm v510 =>
      refine T.oneN (by kernel_rfl) (f8n3_ok x5 v356 x363 x367 x371 x413 x417 x421 x425 x429 a1 x17 h509) (st2:=(f8n3E x5 v356 x363 x367 x371 x413 x417 x421 x425 x429 a1 x17 (.norm v510)).2) rfl ?_;rcases Qi h with ⟨h515,h⟩|⟨h515,h⟩
      ·rcases Qi h with ⟨h516,h⟩|⟨h516,h⟩
       ·obtain ⟨x517,h518,h⟩:=Qe h;obtain rfl:=Qg h;exact rE Qh [(jT [2,5,8,9,10],[(3,.bool true),(6,.bool true),jH 10 (jB x517),(11,.bool true)],[])] [] [] [] [4] (.ret,(f8n0E a1 a2 (.ret x517)).2) (ap2 h14 (ap2 h515 (ap4 h516 (ap (f21_ok (Qd.mk a1.Rule x17.1 x17.2) a1 h518) an)))) rfl
       ·obtain rfl:=Qg h;exact rE Qh [(jF [8,9,10]++jT [2,5],[(3,.bool true),(6,.bool true),(11,.bool false)],[])] [] [] [] [4] (.ret,(f8n0E a1 a2 (.ret false)).2) (ap2 h14 (ap2 h515 (ap4 h516 an))) rfl
      ·obtain rfl:=Qg h;exact rE Qh [([(2,true),(5,false)],[(3,.bool true),(6,.bool false)],[])] [] [] [] [4] (.ret,(f8n0E a1 a2 (.ret false)).2) (ap2 h14 (ap2 h515 an)) rfl
  ·obtain rfl:=Qg h;exact rK Qh 3 [j3,([],[jH 0 (jB x5)],[]),([(3,false),(4,false)],[jH 1 (jB x11),(5,.bool false)],[]),j3] [some true] [] [] [4] .ret ((f8n0E a1 a2 (.ret x5)).2) (ap (f10_ok h6) (ap3 h13 (ap (f11_ok a1 h12) (ap (Qad h14) an)))) rfl
noncomputable def f8(a1:Qd)(a2:Qc):Option Bool:=(f8n0 a1 a2).bind fun o=>match o with
 | .ret v519=>some v519
theorem f8_ok(a1:Qd)(a2:Qc){r:Bool}(h:f8 a1 a2=some r):Qn Try.prog false 8 [(jA Qd.cells a1),(jA Qc.cells a2)] [] (jB r) []:=by
 unfold f8 at h;obtain ⟨o,ho,h⟩:=Qe h;cases o with
 | ret v519 =>
  obtain rfl:=Qg h;exact Qn.plain Qh (f:=Try.f8) (c:=c8) (by kernel_rfl) (by kernel_rfl) (by kernel_rfl) (by kernel_rfl) ((f8n0_ok a1 a2 ho).mono fun r e=>by subst e; exact ⟨.inl rfl,(jB v519),(jB v519),by kernel_rfl,by kernel_rfl,((Wk.refl _):Wk (jB v519) (jB v519))⟩)








end Go.Proofs.Ythpceddjepbamaa
namespace Go.Proofs.Ythpceddjepbamaa
set_option linter.unusedVariables false
set_option linter.unusedSimpArgs false
open Go.RowKit
section
variable {c:Qf→Qf→Int} (hc:∀x y,f55 x y=some (c x y)) (o:SWo fun x y=>decide (c x y<0))
abbrev Qw(c:Qf→Qf→Int):Qf→Qf→Bool:=fun x y=>decide (c x y<0)

include hc o in
theorem st_ins_in(a b i:Int):∀(n:Nat)(S P R:List Qf)(x:Qf)(f:Nat),S.length=n→n<f→P.length+n≤1000000→Sd (Qw c) S →
  ∃S',f80r1n2 f a b i ((P.length+n:Nat):Int) (P++(S++x::R))=some (.exit2 (P++(S'++R)))∧Sd (Qw c) S'∧Cl (Qw c) (S++[x]) S'∨a≠(P.length:Int)
 | _,S,P,R,x,0,_,h,_,_=>absurd h (Nat.not_lt_zero _)
 | n,S,P,R,x,f+1,hn,hf,hb,hs=>by
  by_cases ha:a=(P.length:Int)
  ·subst ha;rcases List.eq_nil_or_concat S with rfl | ⟨S0,y,rfl⟩
   ·refine ⟨[x],.inl ⟨?_,by simp,Cl.refl _⟩⟩;have:n=0:=by simpa using hn.symm
    subst this;rw [f80r1n2,decide_eq_false (by omega),cond_false]; simp
   ·rw [List.concat_eq_append] at hn hs ⊢;have hn':n=S0.length+1:=by simpa using hn.symm
    subst hn';have e1:P++((S0++[y])++x::R)=(P++S0)++y::x::R:=by simp
    have e2:P++((S0++[y])++x::R)=((P++S0)++[y])++x::R:=by simp
    have k1:wr64 (((P.length+(S0.length+1):Nat):Int)-1)=((P.length+S0.length:Nat):Int):=by rw [wrIn (by omega) (by omega)]; omega
    rw [f80r1n2,decide_eq_true (by omega),cond_true,k1,at_len (k:=P.length+(S0.length+1)) e2 (by simp<;>omega),at_len (k:=P.length+S0.length) e1 (by simp)];simp only [Option.bind_some,hc];rw [show (Int.toNat ((P.length+(S0.length+1):Nat):Int))=P.length+(S0.length+1) from rfl,show (Int.toNat ((P.length+S0.length:Nat):Int))=P.length+S0.length from rfl,set_len (k:=P.length+(S0.length+1)) (y:=y) e2 (by simp<;>omega)];have e3:((P++S0)++[y])++y::R=(P++S0)++y::y::R:=by simp
    rw [at_len (k:=P.length+S0.length) e3 (by simp),set_len (k:=P.length+S0.length) (y:=x) e3 (by simp)];cases hlt:decide (c x y<0) with
    | true =>
     have hs':=List.pairwise_append.1 hs;rcases st_ins_in (P.length:Int) b i S0.length S0 P (y::R) x f rfl (by omega) (by omega) hs'.1 with ⟨S',h | h⟩
     ·obtain ⟨h1,h2,h3⟩:=h;simp only [cond_true,Option.bind_some];rw [show (P++S0)++x::y::R=P++(S0++x::(y::R)) by simp,h1];refine ⟨S'++[y],.inl ⟨by simp,h2.app (by simp) fun z hz w hw=>?_,?_⟩⟩
      ·rw [List.mem_singleton.1 hw];rcases List.mem_append.1 (h3.mem.1 hz) with hz | hz
       ·exact hs'.2.2 z hz y (by simp)
       ·rw [List.mem_singleton.1 hz]; exact o.asym hlt
      ·have e:=(Cl.refl (lt:=Qw c) S0).app (Cl.swap (lt:=Qw c) (u:=[y]) (v:=[x]) o (fun a ha b hb=>by rw [List.mem_singleton.1 ha,List.mem_singleton.1 hb]; exact hlt));have e':=e.trans (by simpa using h3.app (Cl.refl (lt:=Qw c) [y]):Cl (Qw c) (S0++([x]++[y])) (S'++[y]));simpa using e'
     ·exact absurd rfl h
    | false =>
     refine ⟨(S0++[y])++[x],.inl ⟨by simp,hs.app (by simp) fun z hz w hw=>?_,Cl.refl _⟩⟩;rw [List.mem_singleton.1 hw];rcases List.mem_append.1 hz with hz | hz
     ·exact o.nt hlt ((List.pairwise_append.1 hs).2.2 z hz y (by simp))
     ·rw [List.mem_singleton.1 hz]; exact hlt
  ·exact ⟨[],.inr ha⟩
include hc o in
theorem st_ins_out:∀(X S P R:List Qf)(f:Nat),X.length<f→P.length+S.length+X.length≤1000000→Sd (Qw c) S →
  ∃S',f80r1n3 f (P.length:Int) ((P.length+S.length+X.length:Nat):Int) ((P.length+S.length:Nat):Int) (P++(S++(X++R)))=some (.exit0 (P++(S'++R)))∧Sd (Qw c) S'∧Cl (Qw c) (S++X) S'
 | _,S,P,R,0,h,_,_=>absurd h (Nat.not_lt_zero _)
 | [],S,P,R,f+1,_,_,hs=>⟨S,by rw [f80r1n3,decide_eq_false (by simp),cond_false]; simp,hs,by simpa using Cl.refl _⟩
 | x::X,S,P,R,f+1,hf,hb,hs=>by
  simp only [List.length_cons] at hf hb;rcases st_ins_in hc o (P.length:Int) ((P.length+S.length+(x::X).length:Nat):Int) ((P.length+S.length:Nat):Int) S.length S P (X++R) x FUEL rfl (Qai (Nat.le_trans (by omega:S.length≤1000000) (by unfold maxLen; decide))) (by omega) hs with ⟨S1,h | h⟩
  ·obtain ⟨h1,h2,h3⟩:=h;have hl:=h3.len;simp only [List.length_append,List.length_cons,List.length_nil] at hl;obtain ⟨S',k1,k2,k3⟩:=st_ins_out X S1 P R f (by omega) (by omega) h2;refine ⟨S',?_,k2,?_⟩
   ·rw [f80r1n3,decide_eq_true (by simp only [List.length_cons]; omega),cond_true];unfold f80r1n1;rw [show P++(S++(x::X++R))=P++(S++x::(X++R)) by simp,h1];simp only [Option.bind_some];rw [show wr64 (((P.length+S.length:Nat):Int)+1)=((P.length+S1.length:Nat):Int) by rw [wrIn (by omega) (by omega)]; omega];rw [show ((P.length+S.length+(x::X).length:Nat):Int)=((P.length+S1.length+X.length:Nat):Int) by simp only [List.length_cons]; omega];exact k1
   ·have:=(h3.app (Cl.refl (lt:=Qw c) X)).trans k3;simpa using this
  ·exact absurd rfl h
include hc o in
theorem st_ins_ok(P X R:List Qf)(hb:P.length+X.length≤1000000):f80r1 (P.length:Int) ((P.length+X.length:Nat):Int) (P++(X++R))=some (P++(Qbe (Qw c) X++R)):=by
 have main:f80r1n3 FUEL (P.length:Int) ((P.length+X.length:Nat):Int) (wr64 ((P.length:Int)+1)) (P++(X++R))=some (.exit0 (P++(Qbe (Qw c) X++R))):=by
  rw [show wr64 ((P.length:Int)+1)=((P.length+1:Nat):Int) by rw [wrIn (by omega) (by omega)]; omega];have hF:∀n:Nat,n≤1000000→n<FUEL:=fun n hn=>Qai (Nat.le_trans hn (by unfold maxLen; decide));cases X with
  | nil =>
   have:FUEL=(FUEL-1)+1:=by decide
   rw [this,f80r1n3,decide_eq_false (by simp<;>omega),cond_false]; rfl
  | cons x X =>
   simp only [List.length_cons] at hb;obtain ⟨S',k1,k2,k3⟩:=st_ins_out hc o X [x] P R FUEL (hF _ (by omega)) (by simp<;>omega) (by simp);rw [sortS_of o k2 k3] at k1;simp only [List.length_cons,List.length_nil,List.cons_append,List.nil_append] at k1 ⊢;rw [show P.length+(X.length+1)=P.length+(0+1)+X.length by omega,show P.length+1=P.length+(0+1) by omega];exact k1
 unfold f80r1 f80r1n0;rw [main]; rfl
end
theorem st_swp_at:∀(X Y A M S:List Qf)(a b i n f:Nat),X.length=Y.length→X.length<f→a+i=A.length→b+i=A.length+X.length+M.length→n=i+X.length→A.length+X.length+M.length+Y.length≤1000000 →
  f89r1n1 f (a:Int) (b:Int) (n:Int) (i:Int) (A++(X++(M++(Y++S))))=some (.exit0 (A++(Y++(M++(X++S)))))
 | _,_,_,_,_,_,_,_,_,0,_,h,_,_,_,_=>absurd h (Nat.not_lt_zero _)
 | [],[],A,M,S,a,b,i,n,f+1,_,_,_,_,hn,_=>by rw [f89r1n1,decide_eq_false (by simp at hn; omega),cond_false]
 | [],y::Y,_,_,_,_,_,_,_,_+1,h,_,_,_,_,_=>absurd h (by simp)
 | x::X,[],_,_,_,_,_,_,_,_+1,h,_,_,_,_,_=>absurd h (by simp)
 | x::X,y::Y,A,M,S,a,b,i,n,f+1,h,hf,ha,hb,hn,hl=>by
  simp only [List.length_cons] at h hf hb hn hl;have e1:A++(x::X++(M++(y::Y++S)))=A++x::(X++(M++(y::Y++S))):=by simp
  have e2:A++(x::X++(M++(y::Y++S)))=(A++(x::X++M))++y::(Y++S):=by simp
  have e3:A++y::(X++(M++(y::Y++S)))=(A++(y::X++M))++y::(Y++S):=by simp
  have k1:wr64 ((a:Int)+(i:Int))=((a+i:Nat):Int):=by rw [wrIn (by omega) (by omega)]; omega
  have k2:wr64 ((b:Int)+(i:Int))=((b+i:Nat):Int):=by rw [wrIn (by omega) (by omega)]; omega
  have k3:wr64 ((i:Int)+1)=((i+1:Nat):Int):=by rw [wrIn (by omega) (by omega)]; omega
  rw [f89r1n1,decide_eq_true (by omega),cond_true,k1,k2,k3,at_len e2 (by simp<;>omega),at_len e1 ha];simp only [Option.bind_some];rw [show (Int.toNat ((a+i:Nat):Int))=a+i from rfl,show (Int.toNat ((b+i:Nat):Int))=b+i from rfl,set_len (y:=y) e1 ha,at_len e3 (by simp<;>omega),set_len (y:=x) e3 (by simp<;>omega)];simp only [Option.bind_some];have ih:=st_swp_at X Y (A++[y]) (M++[x]) S a b (i+1) n f (by omega) (by omega) (by simp<;>omega) (by simp<;>omega) (by omega) (by simp<;>omega);rw [show (A++(y::X++M))++x::(Y++S)=(A++[y])++(X++((M++[x])++(Y++S))) by simp,ih]
  simp
theorem st_swp_ok(P X M Y S:List Qf){a b n:Nat}(h:X.length=Y.length)(ha:a=P.length)(hb:b=P.length+X.length+M.length)(hn:n=X.length)(hl:P.length+X.length+M.length+Y.length≤1000000) :
  f89r1 (a:Int) (b:Int) (n:Int) (P++(X++(M++(Y++S))))=some (P++(Y++(M++(X++S)))):=by
 have k:=st_swp_at X Y P M S a b 0 n FUEL h (Qai (Nat.le_trans (by omega:X.length≤1000000) (by unfold maxLen; decide))) (by omega) (by omega) (by omega) hl;unfold f89r1 f89r1n0;rw [show (0:Int)=((0:Nat):Int) from rfl,k]; rfl

theorem st_rot_at:∀(n:Nat)(P U V S:List Qf)(f m:Nat),U.length+V.length≤n→n<f→0<U.length→0<V.length→m=P.length+U.length→P.length+U.length+V.length≤1000000 →
  ∃i l,f87r1n1 f (m:Int) (U.length:Int) (V.length:Int) (P++(U++(V++S)))=some (.exit0 i l)∧f89r1 (wr64 ((m:Int)-i)) (m:Int) i l=some (P++(V++(U++S)))
 | _,_,_,_,_,0,_,_,h,_,_,_,_=>absurd h (Nat.not_lt_zero _)
 | 0,_,_,_,_,_+1,_,h,_,hu,_,_,_=>by omega
 | n+1,P,U,V,S,f+1,m,h,hf,hu,hv,hm,hl=>by
  rw [f87r1n1]
  by_cases he:U.length=V.length
  ·rw [decide_eq_true (by omega),cond_true];refine ⟨_,_,rfl,?_⟩;rw [show wr64 ((m:Int)-(U.length:Int))=((P.length:Nat):Int) by rw [wrIn (by omega) (by omega)]; omega];have:=st_swp_ok P U [] V S (a:=P.length) (b:=m) (n:=U.length) he rfl (by simp<;>omega) rfl (by simp<;>omega);simpa using this
  ·rw [decide_eq_false (by omega),cond_false]
   by_cases hlt:V.length<U.length
   ·rw [decide_eq_true (by omega),cond_true];obtain ⟨U1,U2,rfl,hU1⟩:=cutL_ (l:=U) (n:=V.length) (by omega);simp only [List.length_append] at *;rw [show wr64 ((m:Int)-((U1.length+U2.length:Nat):Int))=((P.length:Nat):Int) by rw [wrIn (by omega) (by omega)]; omega];have k:=st_swp_ok P U1 U2 V S (a:=P.length) (b:=m) (n:=V.length) hU1 rfl (by omega) hU1.symm (by omega);rw [show P++((U1++U2)++(V++S))=P++(U1++(U2++(V++S))) by simp,k];simp only [Option.bind_some];obtain ⟨i,l,q1,q2⟩:=st_rot_at n (P++V) U2 U1 S f m (by omega) (by omega) (by omega) (by omega) (by simp<;>omega) (by simp<;>omega);refine ⟨i,l,?_,by rw [q2]; simp⟩;rw [show wr64 (((U1.length+U2.length:Nat):Int)-(V.length:Int))=((U2.length:Nat):Int) by rw [wrIn (by omega) (by omega)]; omega,←hU1];rw [show P++(V++(U2++(U1++S)))=(P++V)++(U2++(U1++S)) by simp];exact q1
   ·rw [decide_eq_false (by omega),cond_false];obtain ⟨V1,V2,rfl,hV2⟩:=cutR_ (l:=V) (n:=U.length) (by omega);simp only [List.length_append] at *;rw [show wr64 ((m:Int)-(U.length:Int))=((P.length:Nat):Int) by rw [wrIn (by omega) (by omega)]; omega];rw [show wr64 (wr64 ((m:Int)+((V1.length+V2.length:Nat):Int))-(U.length:Int))=((m+V1.length:Nat):Int) by rw [wrIn (n:=(m:Int)+((V1.length+V2.length:Nat):Int)) (by omega) (by omega),wrIn (by omega) (by omega)]; omega];have k:=st_swp_ok P U V1 V2 S (a:=P.length) (b:=m+V1.length) (n:=U.length) hV2.symm rfl (by omega) rfl (by omega);rw [show P++(U++((V1++V2)++S))=P++(U++(V1++(V2++S))) by simp,k];simp only [Option.bind_some];obtain ⟨i,l,q1,q2⟩:=st_rot_at n P V2 V1 (U++S) f m (by omega) (by omega) (by omega) (by omega) (by omega) (by omega);refine ⟨i,l,?_,by rw [q2]; simp⟩
    rw [show wr64 (((V1.length+V2.length:Nat):Int)-(U.length:Int))=((V1.length:Nat):Int) by rw [wrIn (by omega) (by omega)]; omega,←hV2];exact q1
theorem st_rot_ok(P U V S:List Qf){a m b:Nat}(ha:a=P.length)(hm:m=P.length+U.length)(hb:b=P.length+U.length+V.length)(hu:0<U.length)(hv:0<V.length)(hl:P.length+U.length+V.length≤1000000) :
  f87r1 (a:Int) (m:Int) (b:Int) (P++(U++(V++S)))=some (P++(V++(U++S))):=by
 obtain ⟨i,l,q1,q2⟩:=st_rot_at (U.length+V.length) P U V S FUEL m (Nat.le_refl _) (Qai (Nat.le_trans (by omega:U.length+V.length≤1000000) (by unfold maxLen; decide))) hu hv hm hl;unfold f87r1 f87r1n0;rw [show wr64 ((m:Int)-(a:Int))=((U.length:Nat):Int) by rw [wrIn (by omega) (by omega)]; omega,show wr64 ((b:Int)-(m:Int))=((V.length:Nat):Int) by rw [wrIn (by omega) (by omega)]; omega,q1];simp only [Option.bind_some,q2]
end Go.Proofs.Ythpceddjepbamaa
namespace Go.Proofs.Ythpceddjepbamaa
set_option linter.unusedVariables false
set_option linter.unusedSimpArgs false
open Go.RowKit
abbrev st_self:=Int→Int→Int→List Qf→Option (List Qf)
theorem st_half{a b:Nat}(h:a+b≤1000000000):wr64 (shrK .u64 (Qv (wr64 ((a:Int)+(b:Int)))) 1)=(((a+b) / 2:Nat):Int):=by
 rw [show (a:Int)+(b:Int)=((a+b:Nat):Int) by omega]; exact half_eq h
section
variable {c:Qf→Qf→Int} (hc:∀x y,f55 x y=some (c x y)) (self:st_self)
include hc
theorem st_n3{l:List Qf}{x:Qf}{a:Int}(hx:at? l a=some x)(hl:l.length≤1000000):∀(f lo hi:Nat),hi≤l.length→lo≤1000000→f81r1n3 self f a l (lo:Int) (hi:Int)=(bsN (pq (fun y=>decide (c y x<0)) l) f lo hi).map fun r=>.exit0 (r:Int)
 | 0,lo,hi,_,_=>rfl
 | f+1,lo,hi,h,h0=>by
  rw [f81r1n3,bsN]
  by_cases hlt:lo<hi
  ·have hk:(lo+hi) / 2<l.length:=by omega
   rw [decide_eq_true hlt,decide_eq_true (by omega:(lo:Int)<(hi:Int)),st_half (by omega),at_in hk,hx];simp only [cond_true,Option.bind_some,hc];have ep:pq (fun y=>decide (c y x<0)) l ((lo+hi) / 2)=decide (c l[(lo+hi) / 2] x<0):=by unfold pq; rw [List.getElem?_eq_getElem hk]
   rw [ep];cases decide (c l[(lo+hi) / 2] x<0) with
   | true=>rw [cond_true,cond_true,show wr64 ((((lo+hi) / 2:Nat):Int)+1)=(((lo+hi) / 2+1:Nat):Int) by rw [wrIn (by omega) (by omega)]; omega]; exact st_n3 hx hl f _ _ h (by omega)
   | false=>rw [cond_false,cond_false]; exact st_n3 hx hl f _ _ (by omega) h0
  ·rw [decide_eq_false hlt,decide_eq_false (by omega:¬(lo:Int)<(hi:Int))]; rfl
theorem st_n8{l:List Qf}{x:Qf}{a:Int}(hx:at? l a=some x)(hl:l.length≤1000000):∀(f lo hi:Nat),hi≤l.length→lo≤1000000→f81r1n8 self f a l (lo:Int) (hi:Int)=(bsN (pq (fun y=>!decide (c x y<0)) l) f lo hi).map fun r=>.exit4 (r:Int)
 | 0,lo,hi,_,_=>rfl
 | f+1,lo,hi,h,h0=>by
  rw [f81r1n8,bsN]
  by_cases hlt:lo<hi
  ·have hk:(lo+hi) / 2<l.length:=by omega
   rw [decide_eq_true hlt,decide_eq_true (by omega:(lo:Int)<(hi:Int)),st_half (by omega),at_in hk,hx];simp only [cond_true,Option.bind_some,hc];have ep:pq (fun y=>!decide (c x y<0)) l ((lo+hi) / 2) = !decide (c x l[(lo+hi) / 2]<0):=by unfold pq; rw [List.getElem?_eq_getElem hk]
   rw [ep];cases decide (c x l[(lo+hi) / 2]<0) with
   | true=>simp only [cond_true,Bool.not_true,cond_false]; exact st_n8 hx hl f _ _ (by omega) h0
   | false=>simp only [cond_true,Bool.not_false,cond_false]; rw [show wr64 ((((lo+hi) / 2:Nat):Int)+1)=(((lo+hi) / 2+1:Nat):Int) by rw [wrIn (by omega) (by omega)]; omega]; exact st_n8 hx hl f _ _ h (by omega)
  ·rw [decide_eq_false hlt,decide_eq_false (by omega:¬(lo:Int)<(hi:Int))]; rfl
def st_pr(c:Qf→Qf→Int)(l:List Qf)(n h:Nat):Bool:=match l[n-1-h]?,l[h]? with | some y,some x=>!decide (c y x<0) | _,_=>false
theorem st_n12{l:List Qf}{a m b:Nat}(hl:l.length≤1000000)(hb:b≤l.length)(ham:a≤m)(hmb:m≤b):∀(f lo hi:Nat),(∀h,lo≤h→h<hi→h+1≤(a+b) / 2+m∧(a+b) / 2+m-1-h<l.length∧h<l.length)→lo≤1000000→hi≤1000000 →
  f81r1n12 self f (a:Int) (m:Int) (b:Int) l (lo:Int) (hi:Int)=(bsN (st_pr c l ((a+b) / 2+m)) f lo hi).map fun r=>.exit8 (r:Int)
 | 0,lo,hi,_,_,_=>rfl
 | f+1,lo,hi,h,h0,h00=>by
  rw [f81r1n12,bsN]
  by_cases hlt:lo<hi
  ·obtain ⟨k1,k2,k3⟩:=h ((lo+hi) / 2) (by omega) (by omega);rw [decide_eq_true hlt,decide_eq_true (by omega:(lo:Int)<(hi:Int)),st_half (a:=lo) (b:=hi) (by omega),st_half (a:=a) (b:=b) (by omega),at_in k3];rw [wrIn (n:=(((a+b) / 2:Nat):Int)+(m:Int)) (by omega) (by omega),wrIn (n:=(((a+b) / 2:Nat):Int)+(m:Int)-1) (by omega) (by omega),wrIn (by omega) (by omega)];rw [show (((a+b) / 2:Nat):Int)+(m:Int)-1-(((lo+hi) / 2:Nat):Int)=(((a+b) / 2+m-1-(lo+hi) / 2:Nat):Int) by omega,at_in k2];simp only [cond_true,Option.bind_some,hc];have ep:st_pr c l ((a+b) / 2+m) ((lo+hi) / 2) = !decide (c l[(a+b) / 2+m-1-(lo+hi) / 2] l[(lo+hi) / 2]<0):=by unfold st_pr; rw [List.getElem?_eq_getElem k3,List.getElem?_eq_getElem k2]
   rw [ep];cases decide (c l[(a+b) / 2+m-1-(lo+hi) / 2] l[(lo+hi) / 2]<0) with
   | true=>simp only [cond_true,Bool.not_true,cond_false]; exact st_n12 hl hb ham hmb f _ _ (fun i hi1 hi2=>h i hi1 (by omega)) h0 (by omega)
   | false =>
    simp only [cond_true,Bool.not_false,cond_false];rw [show wr64 ((((lo+hi) / 2:Nat):Int)+1)=(((lo+hi) / 2+1:Nat):Int) by rw [wrIn (by omega) (by omega)]; omega];exact st_n12 hl hb ham hmb f _ _ (fun i hi1 hi2=>h i (by omega) hi2) (by omega) h00
  ·rw [decide_eq_false hlt,decide_eq_false (by omega:¬(lo:Int)<(hi:Int))]; rfl
omit hc
theorem st_n5:∀(Z A R:List Qf)(x:Qf)(f i:Nat),Z.length<f→i=A.length+Z.length+1→i≤1000000→f81r1n5 self f (i:Int) (A.length:Int) (A++x::(Z++R))=some (.exit2 (A++(Z++x::R)))
 | _,_,_,_,0,_,h,_,_=>absurd h (Nat.not_lt_zero _)
 | [],A,R,x,f+1,i,_,hi,hl=>by
  simp only [List.length_nil] at hi;rw [f81r1n5,wrIn (by omega) (by omega),decide_eq_false (by omega),cond_false]; rfl
 | z::Z,A,R,x,f+1,i,hf,hi,hl=>by
  simp only [List.length_cons] at hf hi;have e1:A++x::(z::Z++R)=(A++[x])++z::(Z++R):=by simp
  have e2:A++x::(z::Z++R)=A++x::(z::Z++R):=rfl;have e3:A++z::(z::Z++R)=(A++[z])++z::(Z++R):=by simp
  rw [f81r1n5,wrIn (n:=(i:Int)-1) (by omega) (by omega),decide_eq_true (by omega),cond_true,show wr64 ((A.length:Int)+1)=((A.length+1:Nat):Int) by rw [wrIn (by omega) (by omega)]; omega];rw [at_len e1 (by simp),at_len e2 rfl];simp only [Option.bind_some];rw [show (Int.toNat (A.length:Int))=A.length from rfl,show (Int.toNat ((A.length+1:Nat):Int))=A.length+1 from rfl,set_len (y:=z) e2 rfl,at_len e3 (by simp),set_len (y:=x) e3 (by simp)];simp only [Option.bind_some];have ih:=st_n5 Z (A++[z]) R x f i (by omega) (by simp<;>omega) hl;rw [List.length_append] at ih;simp only [List.length_cons,List.length_nil] at ih;rw [show A.length+1=A.length+(0+1) by omega,ih]
  simp
theorem st_n10:∀(n:Nat)(Z A R:List Qf)(x:Qf)(f:Nat),Z.length=n→n<f→A.length+n≤1000000→f81r1n10 self f (A.length:Int) ((A.length+n:Nat):Int) (A++(Z++x::R))=some (.exit6 (A++x::(Z++R)))
 | _,_,_,_,_,0,_,h,_=>absurd h (Nat.not_lt_zero _)
 | n,Z,A,R,x,f+1,hz,hf,hl=>by
  rcases List.eq_nil_or_concat Z with rfl | ⟨Z0,z,rfl⟩
  ·have:n=0:=by simpa using hz.symm
   subst this;rw [f81r1n10,decide_eq_false (by omega),cond_false]; rfl
  ·rw [List.concat_eq_append] at hz ⊢;have hz':n=Z0.length+1:=by simpa using hz.symm
   subst hz';have e1:A++((Z0++[z])++x::R)=(A++Z0)++z::(x::R):=by simp
   have e2:A++((Z0++[z])++x::R)=((A++Z0)++[z])++x::R:=by simp
   have e3:((A++Z0)++[z])++z::R=(A++Z0)++z::(z::R):=by simp
   rw [f81r1n10,decide_eq_true (by omega),cond_true,show wr64 (((A.length+(Z0.length+1):Nat):Int)-1)=((A.length+Z0.length:Nat):Int) by rw [wrIn (by omega) (by omega)]; omega];rw [at_len e1 (by simp),at_len e2 (by simp<;>omega)];simp only [Option.bind_some];rw [show (Int.toNat ((A.length+Z0.length:Nat):Int))=A.length+Z0.length from rfl,show (Int.toNat ((A.length+(Z0.length+1):Nat):Int))=A.length+(Z0.length+1) from rfl,set_len (y:=z) e2 (by simp<;>omega),at_len e3 (by simp),set_len (y:=x) e3 (by simp)];simp only [Option.bind_some];rw [show (A++Z0)++x::(z::R)=A++(Z0++x::(z::R)) by simp,st_n10 Z0.length Z0 A (z::R) x f rfl (by omega) (by omega)]
   simp
end
section
variable {c:Qf→Qf→Int} (hc:∀x y,f55 x y=some (c x y)) (o:SWo (Qw c)) (self:st_self)
include hc o
theorem st_one(P B S:List Qf)(x:Qf)(hb:Sd (Qw c) B)(hl:P.length+1+B.length+S.length≤500000) :
  f81r1n2 self (P.length:Int) ((P.length+1:Nat):Int) ((P.length+1+B.length:Nat):Int) (P++x::(B++S))=some (.ret (P++(Qbe (Qw c) (x::B)++S))):=by
 have e0:P++x::(B++S)=(P++[x])++(B++S):=by simp
 have hlen:(P++x::(B++S)).length=P.length+1+B.length+S.length:=by simp<;>omega
 have h3:=st_n3 hc self (l:=P++x::(B++S)) (a:=(P.length:Int)) (at_len rfl rfl) (by omega) FUEL (P.length+1) (P.length+1+B.length) (by omega) (by omega);obtain ⟨r,q1,q2,q3,q4,q5⟩:=bsN_ok (p:=pq (fun y=>decide (c y x<0)) (P++x::(B++S))) FUEL (P.length+1) (P.length+1+B.length) (by omega) (Qai (Nat.le_trans (by omega:P.length+1+B.length-(P.length+1)≤1000000) (by unfold maxLen; decide))) fun i j a1 a2 a3 a4=>by
  rw [e0] at a4 ⊢;exact pq_mono (X:=P++[x]) (B:=B) (R:=S) (hb.imp fun {u w} huw hq=>o.le_lt huw hq) i j (by simp<;>omega) a2 (by simp<;>omega) a4
 obtain ⟨B1,B2,rfl,hB1⟩:=cutL_ (l:=B) (n:=r-(P.length+1)) (by omega);simp only [List.length_append] at *;have hb':=List.pairwise_append.1 hb;have f1:∀y∈B1,decide (c y x<0)=true:=pq_seg (X:=P++[x]) (R:=B2++S) fun i a1 a2=>by
  have:=q4 i (by simp at a1; omega) (by simp at a2; omega);simpa using this
 have f2:∀y∈B2,decide (c y x<0)=false:=pq_seg (X:=P++[x]++B1) (R:=S) fun i a1 a2=>by
  have:=q5 i (by simp at a1; omega) (by simp at a2; omega);simpa using this
 unfold f81r1n2 f81r1n4;rw [show wr64 (((P.length+1:Nat):Int)-(P.length:Int))=1 by rw [wrIn (by omega) (by omega)]; omega,h3,q1];simp only [decide_true,cond_true,Option.map_some,Option.bind_some];have h5:=st_n5 self B1 P (B2++S) x FUEL r (Qai (Nat.le_trans (by omega:B1.length≤1000000) (by unfold maxLen; decide))) (by omega) (by omega);rw [show P++x::(B1++B2++S)=P++x::(B1++(B2++S)) by simp,h5];simp only [Option.bind_some];have hS:B1++x::B2=Qbe (Qw c) (x::(B1++B2)):=by
  refine sortS_of o ?_ ?_
  ·refine Sd.app hb'.1 (List.pairwise_cons.2 ⟨fun y hy=>f2 y hy,hb'.2.1⟩) fun u hu w hw=>?_;rcases List.mem_cons.1 hw with rfl | hw
   ·exact o.asym (f1 u hu)
   ·exact hb'.2.2 u hu w hw
  ·have:=(Cl.swap (lt:=Qw c) (u:=[x]) (v:=B1) o (fun a ha b hb=>by rw [List.mem_singleton.1 ha]; exact f1 b hb)).app (Cl.refl (lt:=Qw c) B2);simpa using this
 rw [←hS]; simp
theorem st_last(P A S:List Qf)(y:Qf)(ha:Sd (Qw c) A)(hl:P.length+A.length+1+S.length≤500000) :
  f81r1n7 self (P.length:Int) ((P.length+A.length:Nat):Int) ((P.length+A.length+1:Nat):Int) (P++(A++y::S))=some (.ret (P++(Qbe (Qw c) (A++[y])++S))):=by
 have hlen:(P++(A++y::S)).length=P.length+A.length+1+S.length:=by simp<;>omega
 have h3:=st_n8 hc self (l:=P++(A++y::S)) (x:=y) (a:=((P.length+A.length:Nat):Int)) (at_len (a:=P++A) (b:=S) (by simp) (by simp)) (by omega) FUEL P.length (P.length+A.length) (by omega) (by omega);obtain ⟨r,q1,q2,q3,q4,q5⟩:=bsN_ok (p:=pq (fun z=>!decide (c y z<0)) (P++(A++y::S))) FUEL P.length (P.length+A.length) (by omega) (Qai (Nat.le_trans (by omega:P.length+A.length-P.length≤1000000) (by unfold maxLen; decide))) fun i j a1 a2 a3 a4=>by
  refine pq_mono (X:=P) (B:=A) (R:=y::S) (ha.imp fun {u w} huw hq=>?_) i j a1 a2 a3 a4;simp only [Bool.not_eq_true'] at hq ⊢;exact o.nt hq huw
 obtain ⟨A1,A2,rfl,hA1⟩:=cutL_ (l:=A) (n:=r-P.length) (by omega);simp only [List.length_append] at *;have ha':=List.pairwise_append.1 ha;have f1:∀z∈A1,(!decide (c y z<0))=true:=pq_seg (X:=P) (R:=A2++y::S) fun i a1 a2=>by
  have:=q4 i a1 (by omega);simpa using this
 have f2:∀z∈A2,(!decide (c y z<0))=false:=pq_seg (X:=P++A1) (R:=y::S) fun i a1 a2=>by
  have:=q5 i (by simp at a1; omega) (by simp at a2; omega);simpa using this
 unfold f81r1n7 f81r1n9;rw [show wr64 (((P.length+(A1.length+A2.length)+1:Nat):Int)-((P.length+(A1.length+A2.length):Nat):Int))=1 by rw [wrIn (by omega) (by omega)]; omega,h3,q1];simp only [decide_true,cond_true,Option.map_some,Option.bind_some];have h5:=st_n10 self A2.length A2 (P++A1) S y FUEL rfl (Qai (Nat.le_trans (by omega:A2.length≤1000000) (by unfold maxLen; decide))) (by simp<;>omega);rw [List.length_append] at h5;rw [show P++(A1++A2++y::S)=(P++A1)++(A2++y::S) by simp,show P.length+(A1.length+A2.length)=P.length+A1.length+A2.length by omega,show r=P.length+A1.length by omega,h5];simp only [Option.bind_some];have hS:A1++y::A2=Qbe (Qw c) ((A1++A2)++[y]):=by
  refine sortS_of o ?_ ?_
  ·refine Sd.app ha'.1 (List.pairwise_cons.2 ⟨fun z hz=>?_,ha'.2.1⟩) fun u hu w hw=>?_
   ·have:=f2 z hz;simp only [Bool.not_eq_false'] at this;exact o.asym this
   ·rcases List.mem_cons.1 hw with rfl | hw
    ·have:=f1 u hu;simpa using this
    ·exact ha'.2.2 u hu w hw
  ·have:=(Cl.refl (lt:=Qw c) A1).app (Cl.swap (lt:=Qw c) (u:=A2) (v:=[y]) o (fun a ha b hb=>by
    rw [List.mem_singleton.1 hb];have:=f2 a ha;simpa using this))
   simpa using this
 rw [←hS]; simp
end
end Go.Proofs.Ythpceddjepbamaa
namespace Go.Proofs.Ythpceddjepbamaa
set_option linter.unusedVariables false
set_option linter.unusedSimpArgs false
open Go.RowKit
section
variable {c:Qf→Qf→Int} (hc:∀x y,f55 x y=some (c x y)) (o:SWo (Qw c))
theorem st_sdg{l:List Qf}(h:Sd (Qw c) l){i j:Nat}{x y:Qf}(hij:i≤j)(hx:l[i]?=some x)(hy:l[j]?=some y)(o:SWo (Qw c)):decide (c y x<0)=false:=by
 rcases Nat.lt_or_ge i j with hlt | hge
 ·obtain ⟨h1,rfl⟩:=List.getElem?_eq_some_iff.1 hx;obtain ⟨h2,rfl⟩:=List.getElem?_eq_some_iff.1 hy;exact List.pairwise_iff_getElem.1 h i j h1 h2 hlt
 ·have:i=j:=by omega
  subst this;rw [hx] at hy; obtain rfl:=Option.some.inj hy;exact o.irr x
include hc o in
theorem st_round(self:st_self)(K:Nat) (hs:∀(P A B S:List Qf),0<A.length→0<B.length→A.length+B.length≤K→Sd (Qw c) A→Sd (Qw c) B→P.length+A.length+B.length+S.length≤500000 →
   self (P.length:Int) ((P.length+A.length:Nat):Int) ((P.length+A.length+B.length:Nat):Int) (P++(A++(B++S)))=some (P++(Qbe (Qw c) (A++B)++S)))
  (P A B S:List Qf) (ha0:1<A.length) (hb0:1<B.length) (hK:A.length+B.length≤2*K) (ha:Sd (Qw c) A) (hb:Sd (Qw c) B) (hl:P.length+A.length+B.length+S.length≤500000) :
  f81r1n0 self (P.length:Int) ((P.length+A.length:Nat):Int) ((P.length+A.length+B.length:Nat):Int) (P++(A++(B++S)))=some (.norm (P++(Qbe (Qw c) (A++B)++S))):=by
 have hlen:(P++(A++(B++S))).length=P.length+A.length+B.length+S.length:=by simp<;>omega
 -- the numbers
 obtain ⟨a,ea⟩:∃a,a=P.length:=⟨_,rfl⟩;obtain ⟨m,em⟩:∃m,m=P.length+A.length:=⟨_,rfl⟩;obtain ⟨b,eb⟩:∃b,b=P.length+A.length+B.length:=⟨_,rfl⟩;obtain ⟨mid,emid⟩:∃mid,mid=(a+b) / 2:=⟨_,rfl⟩;obtain ⟨s0,r0,e11,hs0,hr0,hrm,hrmid,hsb,hsa,hse,hre⟩:∃s0 r0:Nat,f81r1n11 self (a:Int) (m:Int) (b:Int) (P++(A++(B++S)))=some (.norm (s0:Int) (r0:Int))∧a≤s0∧s0≤r0∧r0≤m∧r0≤mid∧mid+m≤b+s0∧s0≤m∧(s0=a∨mid+m=b+s0)∧(r0=m∨r0=mid):=by
  unfold f81r1n11;rw [st_half (by omega),←emid]
  by_cases h:mid<m
  ·rw [decide_eq_true (by omega),cond_true];refine ⟨mid+m-b,mid,?_,by omega,by omega,by omega,by omega,by omega,by omega,by omega,by omega⟩;rw [wrIn (n:=(mid:Int)+(m:Int)) (by omega) (by omega),wrIn (by omega) (by omega)]
   congr 2; omega
  ·rw [decide_eq_false (by omega),cond_false];exact ⟨a,m,rfl,by omega,by omega,by omega,by omega,by omega,by omega,by omega,by omega⟩
 -- where to cut
 have gA:∀i,a≤i→i<m→(P++(A++(B++S)))[i]?=A[i-a]?:=fun i h1 h2=>by rw [get_seg (by omega) (by omega),ea]
 have gB:∀i,m≤i→i<b→(P++(A++(B++S)))[i]?=B[i-m]?:=fun i h1 h2=>by
  rw [show P++(A++(B++S))=(P++A)++(B++S) by simp,get_seg (by simp<;>omega) (by simp<;>omega),List.length_append,em]
 have h12:=st_n12 hc self (l:=P++(A++(B++S))) (a:=a) (m:=m) (b:=b) (by omega) (by omega) (by omega) (by omega) FUEL s0 r0 (fun h h1 h2=>⟨by omega,by omega,by omega⟩) (by omega) (by omega);rw [←emid] at h12;obtain ⟨s,q1,q2,q3,q4,q5⟩:=bsN_ok (p:=st_pr c (P++(A++(B++S))) (mid+m)) FUEL s0 r0 hr0 (Qai (Nat.le_trans (by omega:r0-s0≤1000000) (by unfold maxLen; decide))) fun i j a1 a2 a3 a4=>by
  unfold st_pr at a4 ⊢;have iA:i-a<A.length:=by omega
  have jA:j-a<A.length:=by omega
  have iB:mid+m-1-i-m<B.length:=by omega
  have jB:mid+m-1-j-m<B.length:=by omega
  rw [gA j (by omega) (by omega),gB (mid+m-1-j) (by omega) (by omega),List.getElem?_eq_getElem jA,List.getElem?_eq_getElem jB] at a4;rw [gA i (by omega) (by omega),gB (mid+m-1-i) (by omega) (by omega),List.getElem?_eq_getElem iA,List.getElem?_eq_getElem iB];simp only [Bool.not_eq_true'] at a4 ⊢;have k1:=st_sdg ha (i:=i-a) (j:=j-a) (by omega) (List.getElem?_eq_getElem iA) (List.getElem?_eq_getElem jA) o;have k2:=st_sdg hb (i:=mid+m-1-j-m) (j:=mid+m-1-i-m) (by omega) (List.getElem?_eq_getElem jB) (List.getElem?_eq_getElem iB) o;exact o.nt (o.nt k2 a4) k1
 obtain ⟨A1,A2,eA,hA1⟩:=cutL_ (l:=A) (n:=s-a) (by omega);obtain ⟨B1,B2,eB,hB1⟩:=cutL_ (l:=B) (n:=mid-s) (by omega);have lA:A.length=A1.length+A2.length:=by rw [eA]; simp
 have lB:B.length=B1.length+B2.length:=by rw [eB]; simp
 have h1:∀x∈A1,∀y∈B2,decide (c y x<0)=false:=by
  rcases List.eq_nil_or_concat A1 with e | ⟨A0,u,e⟩
  ·rw [e]; simp
  ·cases hB2:B2 with
   | nil=>simp
   | cons v B3 =>
    rw [List.concat_eq_append] at e;have l1:A1.length=A0.length+1:=by rw [e]; simp
    have l2:B2.length=B3.length+1:=by rw [hB2]; simp
    have hp:=q4 (s-1) (by omega) (by omega);unfold st_pr at hp;rw [gA (s-1) (by omega) (by omega),gB (mid+m-1-(s-1)) (by omega) (by omega)] at hp;rw [get_len (l:=A) (k:=s-1-a) (x:=u) (a:=A0) (b:=A2) (by rw [eA,e]; simp) (by omega),get_len (l:=B) (k:=mid+m-1-(s-1)-m) (x:=v) (a:=B1) (b:=B3) (by rw [eB,hB2]) (by omega)] at hp;simp only [Bool.not_eq_true'] at hp;intro x hx y hy;have hx':decide (c u x<0)=false:=by
     rw [e] at hx;have hsA:=List.pairwise_append.1 (by rw [eA,e] at ha; exact (List.pairwise_append.1 ha).1:Sd (Qw c) (A0++[u]));rcases List.mem_append.1 hx with hx | hx
     ·exact hsA.2.2 x hx u (by simp)
     ·rw [List.mem_singleton.1 hx]; exact o.irr u
    have hy':decide (c y v<0)=false:=by
     have hsB:=List.pairwise_cons.1 (by rw [eB,hB2] at hb; exact (List.pairwise_append.1 hb).2.1:Sd (Qw c) (v::B3));rcases List.mem_cons.1 hy with rfl | hy
     ·exact o.irr _
     ·exact hsB.1 y hy
    exact o.nt (o.nt hy' hp) hx'
 have h2:∀x∈A2,∀y∈B1,decide (c y x<0)=true:=by
  rcases List.eq_nil_or_concat B1 with e | ⟨B0,v,e⟩
  ·rw [e]; simp
  ·cases hA2:A2 with
   | nil=>simp
   | cons u A3 =>
    rw [List.concat_eq_append] at e;have l1:B1.length=B0.length+1:=by rw [e]; simp
    have l2:A2.length=A3.length+1:=by rw [hA2]; simp
    have hp:=q5 s (by omega) (by omega);unfold st_pr at hp;rw [gA s (by omega) (by omega),gB (mid+m-1-s) (by omega) (by omega)] at hp;rw [get_len (l:=A) (k:=s-a) (x:=u) (a:=A1) (b:=A3) (by rw [eA,hA2]) (by omega),get_len (l:=B) (k:=mid+m-1-s-m) (x:=v) (a:=B0) (b:=B2) (by rw [eB,e]; simp) (by omega)] at hp;simp only [Bool.not_eq_false'] at hp;intro x hx y hy;have hx':decide (c x u<0)=false:=by
     have hsA:=List.pairwise_cons.1 (by rw [eA,hA2] at ha; exact (List.pairwise_append.1 ha).2.1:Sd (Qw c) (u::A3));rcases List.mem_cons.1 hx with rfl | hx
     ·exact o.irr _
     ·exact hsA.1 x hx
    have hy':decide (c v y<0)=false:=by
     rw [e] at hy;have hsB:=List.pairwise_append.1 (by rw [eB,e] at hb; exact (List.pairwise_append.1 hb).1:Sd (Qw c) (B0++[v]));rcases List.mem_append.1 hy with hy | hy
     ·exact hsB.2.2 y hy v (by simp)
     ·rw [List.mem_singleton.1 hy]; exact o.irr v
    exact o.lt_le (o.le_lt hy' hp) hx'
 have hcut:=merge_cut o (a1:=A1) (a2:=A2) (b1:=B1) (b2:=B2) (by rw [←eA]; exact ha) (by rw [←eB]; exact hb) h1 h2;rw [←eA,←eB] at hcut;have sA:=List.pairwise_append.1 (by rw [←eA]; exact ha:Sd (Qw c) (A1++A2));have sB:=List.pairwise_append.1 (by rw [←eB]; exact hb:Sd (Qw c) (B1++B2))
 -- the rotation
 have e_end:wr64 (wr64 ((mid:Int)+(m:Int))-(s:Int))=((mid+m-s:Nat):Int):=by rw [wrIn (n:=(mid:Int)+(m:Int)) (by omega) (by omega),wrIn (by omega) (by omega)]; omega
 have h13:f81r1n13 self (a:Int) (m:Int) (b:Int) (s:Int) (P++(A++(B++S)))=some (.norm (P++((A1++B1)++((A2++B2)++S)))):=by
  unfold f81r1n13 f81r1n14;rw [st_half (by omega),←emid,e_end]
  by_cases c1:s<m
  ·by_cases c2:m<mid+m-s
   ·rw [decide_eq_true (by omega:(s:Int)<(m:Int)),decide_eq_true (by omega:(m:Int)<((mid+m-s:Nat):Int))];simp only [cond_true,Option.bind_some];have k:=st_rot_ok (P++A1) A2 B1 (B2++S) (a:=s) (m:=m) (b:=mid+m-s) (by simp<;>omega) (by simp<;>omega) (by simp<;>omega) (by omega) (by omega) (by simp<;>omega);rw [show P++(A++(B++S))=(P++A1)++(A2++(B1++(B2++S))) by rw [eA,eB]; simp,k]
    simp
   ·rw [decide_eq_true (by omega:(s:Int)<(m:Int)),decide_eq_false (by omega:¬(m:Int)<((mid+m-s:Nat):Int))];have:B1=[]:=List.eq_nil_of_length_eq_zero (by omega);simp only [cond_true,cond_false,Option.bind_some];rw [eA,eB,this]; simp
  ·rw [decide_eq_false (by omega:¬(s:Int)<(m:Int))];have:A2=[]:=List.eq_nil_of_length_eq_zero (by omega);simp only [cond_false,Option.bind_some];rw [eA,eB,this]; simp
 -- the left half
 have h15:f81r1n15 self (a:Int) (b:Int) (s:Int) (m:Int) (P++((A1++B1)++((A2++B2)++S)))=some (.norm (P++(Qbe (Qw c) (A1++B1)++((A2++B2)++S)))):=by
  unfold f81r1n15 f81r1n16;rw [st_half (by omega),←emid]
  by_cases c1:a<s
  ·by_cases c2:s<mid
   ·rw [decide_eq_true (by omega:(a:Int)<(s:Int)),decide_eq_true (by omega:(s:Int)<(mid:Int))];simp only [cond_true,Option.bind_some];have k:=hs P A1 B1 ((A2++B2)++S) (by omega) (by omega) (by omega) sA.1 sB.1 (by simp<;>omega);rw [show P.length=a by omega,show a+A1.length=s by omega,show s+B1.length=mid by omega] at k;rw [show P++((A1++B1)++((A2++B2)++S))=P++(A1++(B1++((A2++B2)++S))) by simp,k];rfl
   ·rw [decide_eq_true (by omega:(a:Int)<(s:Int)),decide_eq_false (by omega:¬(s:Int)<(mid:Int))];have:B1=[]:=List.eq_nil_of_length_eq_zero (by omega);simp only [cond_true,cond_false,Option.bind_some];rw [this,List.append_nil,←sortS_of o sA.1 (Cl.refl _)]
  ·rw [decide_eq_false (by omega:¬(a:Int)<(s:Int))];have:A1=[]:=List.eq_nil_of_length_eq_zero (by omega);simp only [cond_false,Option.bind_some];rw [this,List.nil_append,←sortS_of o sB.1 (Cl.refl _)]
 have lS1:(Qbe (Qw c) (A1++B1)).length=A1.length+B1.length:=by rw [sortS_len o]; simp
 -- the right half
 have hfin:f81r1n17 self (b:Int) (a:Int) (m:Int) (s:Int) (P++(Qbe (Qw c) (A1++B1)++((A2++B2)++S)))=some (.norm (decide (mid<mid+m-s)&&decide (mid+m-s<b))):=by
  unfold f81r1n17;rw [st_half (by omega),←emid,e_end]
  by_cases c1:mid<mid+m-s
  ·rw [decide_eq_true (by omega:(mid:Int)<((mid+m-s:Nat):Int)),decide_eq_true c1];simp only [cond_true,Bool.true_and]
   congr 2
   exact decide_eq_decide.2 (by omega)
  ·rw [decide_eq_false (by omega:¬(mid:Int)<((mid+m-s:Nat):Int)),decide_eq_false c1]; rfl
 have n1:f81r1n1 self (a:Int) (m:Int) (b:Int) (P++(A++(B++S)))=some .norm:=by
  unfold f81r1n1 f81r1n2;rw [wrIn (n:=(m:Int)-(a:Int)) (by omega) (by omega),decide_eq_false (by omega)]; rfl
 have n6:f81r1n6 self (a:Int) (m:Int) (b:Int) (P++(A++(B++S)))=some .norm:=by
  unfold f81r1n6 f81r1n7;rw [wrIn (n:=(b:Int)-(m:Int)) (by omega) (by omega),decide_eq_false (by omega)]; rfl
 unfold f81r1n0;rw [←ea,show a+A.length=m by omega,show m+B.length=b by omega,n1];simp only [Option.bind_some,n6,e11,h12,q1,Option.map_some,h13,h15,hfin];rw [st_half (by omega),←emid,e_end,hcut]
 by_cases c3:mid<mid+m-s∧mid+m-s<b
 ·rw [decide_eq_true c3.1,decide_eq_true c3.2];simp only [Bool.and_self,cond_true];have k:=hs (P++Qbe (Qw c) (A1++B1)) A2 B2 S (by omega) (by omega) (by omega) sA.2.1 sB.2.1 (by simp [lS1]<;>omega);rw [List.length_append,lS1,show P.length+(A1.length+B1.length)=mid by omega,show mid+A2.length=mid+m-s by omega,show mid+m-s+B2.length=b by omega] at k;rw [show P++(Qbe (Qw c) (A1++B1)++((A2++B2)++S))=(P++Qbe (Qw c) (A1++B1))++(A2++(B2++S)) by simp,k]
  simp
 ·have e1:(decide (mid<mid+m-s)&&decide (mid+m-s<b))=false:=by
   rw [Bool.and_eq_false_iff,decide_eq_false_iff_not,decide_eq_false_iff_not];omega
  rw [e1];have:Qbe (Qw c) (A2++B2)=A2++B2:=by
   rcases (by omega:A2.length=0∨B2.length=0) with h | h
   ·rw [List.eq_nil_of_length_eq_zero h,List.nil_append,←sortS_of o sB.2.1 (Cl.refl _)]
   ·rw [List.eq_nil_of_length_eq_zero h,List.append_nil,←sortS_of o sA.2.1 (Cl.refl _)]
  rw [this]
  simp
include hc o in
theorem st_sym_ok:∀(k:Nat)(P A B S:List Qf),0<A.length→0<B.length→A.length+B.length≤2 ^ k→Sd (Qw c) A→Sd (Qw c) B→P.length+A.length+B.length+S.length≤500000 →
  f81r1F k (P.length:Int) ((P.length+A.length:Nat):Int) ((P.length+A.length+B.length:Nat):Int) (P++(A++(B++S)))=some (P++(Qbe (Qw c) (A++B)++S))
 | 0,P,A,B,S,h1,h2,h3,_,_,_=>by simp at h3; omega
 | k+1,P,A,B,S,h1,h2,h3,ha,hb,hl=>by
  rw [f81r1F]
  by_cases hA:A.length=1
  ·obtain ⟨x,rfl⟩:=List.length_eq_one_iff.1 hA;have:=st_one hc o (f81r1F k) P B S x hb (by simp at hl; omega);unfold f81r1n0 f81r1n1;simp only [List.length_cons,List.length_nil,List.cons_append,List.nil_append] at this ⊢;rw [this]; rfl
  ·by_cases hB:B.length=1
   ·obtain ⟨y,rfl⟩:=List.length_eq_one_iff.1 hB;have:=st_last hc o (f81r1F k) P A S y ha (by simp at hl; omega);have n1:f81r1n1 (f81r1F k) (P.length:Int) ((P.length+A.length:Nat):Int) ((P.length+A.length+1:Nat):Int) (P++(A++y::S))=some .norm:=by
     unfold f81r1n1 f81r1n2;rw [wrIn (n:=((P.length+A.length:Nat):Int)-(P.length:Int)) (by omega) (by simp at hl; omega),decide_eq_false (by omega)]; rfl
    unfold f81r1n0 f81r1n6;simp only [List.length_cons,List.length_nil,List.cons_append,List.nil_append] at this ⊢;rw [n1];simp only [Option.bind_some];rw [this]; rfl
   ·rw [st_round hc o (f81r1F k) (2 ^ k) (fun P A B S a1 a2 a3 a4 a5 a6=>st_sym_ok k P A B S a1 a2 a3 a4 a5 a6) P A B S (by omega) (by omega) (by rw [Nat.pow_succ] at h3; omega) ha hb hl];rfl
include hc o in
theorem st_mrg(P A B S:List Qf)(h1:0<A.length)(h2:0<B.length)(ha:Sd (Qw c) A)(hb:Sd (Qw c) B)(hl:P.length+A.length+B.length+S.length≤500000) :
  f81r1 (P.length:Int) ((P.length+A.length:Nat):Int) ((P.length+A.length+B.length:Nat):Int) (P++(A++(B++S)))=some (P++(Qbe (Qw c) (A++B)++S)) :=
 st_sym_ok hc o 200 P A B S h1 h2 (Nat.le_trans (by omega:A.length+B.length≤500000) (by decide)) ha hb hl
end
end Go.Proofs.Ythpceddjepbamaa
namespace Go.Proofs.Ythpceddjepbamaa
set_option linter.unusedVariables false
set_option linter.unusedSimpArgs false
open Go.RowKit
section
variable {c:Qf→Qf→Int} (hc:∀x y,f55 x y=some (c x y)) (o:SWo (Qw c))
include hc o
theorem st_blocks:∀(f:Nat)(D R:List Qf),R.length<f→D.length+R.length≤500000→D.length % 20=0→Bl (Qw c) 20 D →
  ∃D' R',f68r1n1 f ((D.length+R.length:Nat):Int) (D.length:Int) ((D.length+20:Nat):Int) (D++R)=some (.exit0 (D'.length:Int) (D'++R'))∧D'.length % 20=0∧Bl (Qw c) 20 D'∧R'.length<20∧Cl (Qw c) (D++R) (D'++R')∧D'.length+R'.length=D.length+R.length
 | 0,_,_,h,_,_,_=>absurd h (Nat.not_lt_zero _)
 | f+1,D,R,hf,hl,hm,hD=>by
  rw [f68r1n1]
  by_cases h:20≤R.length
  ·obtain ⟨X,R1,rfl,hX⟩:=cutL_ (l:=R) (n:=20) h;simp only [List.length_append] at *;have k:=st_ins_ok hc o D X R1 (by omega);rw [hX] at k;have lS:(Qbe (Qw c) X).length=20:=by rw [sortS_len o,hX]
   rw [decide_eq_true (by omega:((D.length+20:Nat):Int)≤((D.length+(X.length+R1.length):Nat):Int)),cond_true,show D++(X++R1)=D++(X++R1) from rfl,k];simp only [Option.bind_some];obtain ⟨D',R',q1,q2,q3,q4,q5,q6⟩:=st_blocks f (D++Qbe (Qw c) X) R1 (by omega) (by simp<;>omega) (by simp<;>omega) (hD.snoc hm (by decide) (sortS_sd o X) (by omega));rw [List.length_append,lS] at q1 q6;refine ⟨D',R',?_,q2,q3,q4,?_,by omega⟩
   ·rw [show wr64 (((D.length+20:Nat):Int)+20)=((D.length+20+20:Nat):Int) by rw [wrIn (by omega) (by omega)]; omega,show D++(Qbe (Qw c) X++R1)=(D++Qbe (Qw c) X)++R1 by simp,show D.length+(X.length+R1.length)=D.length+20+R1.length by omega];exact q1
   ·have:=(((Cl.refl (lt:=Qw c) D).app (Qbt o X)).app (Cl.refl (lt:=Qw c) R1)).trans q5;simpa using this
  ·rw [decide_eq_false (by omega:¬((D.length+20:Nat):Int)≤((D.length+R.length:Nat):Int)),cond_false];exact ⟨D,R,rfl,hm,hD,by omega,Cl.refl _,rfl⟩
theorem st_pairs(s:Nat)(hs:0<s)(hs1:s≤1000000):∀(f:Nat)(D R:List Qf),R.length<f→D.length+R.length≤500000→D.length % (2*s)=0→Bl (Qw c) (2*s) D→Bl (Qw c) s R →
  ∃D' R',f68r1n3 f ((D.length+R.length:Nat):Int) (s:Int) (D.length:Int) ((D.length+2*s:Nat):Int) (D++R)=some (.exit4 (D'.length:Int) (D'++R'))∧D'.length % (2*s)=0∧Bl (Qw c) (2*s) D'∧Bl (Qw c) s R'∧R'.length<2*s∧Cl (Qw c) (D++R) (D'++R')∧D'.length+R'.length=D.length+R.length
 | 0,_,_,h,_,_,_,_=>absurd h (Nat.not_lt_zero _)
 | f+1,D,R,hf,hl,hm,hD,hR=>by
  rw [f68r1n3]
  by_cases h:2*s≤R.length
  ·obtain ⟨X,R1,rfl,hX,sX,hR1⟩:=hR.uncons (by omega);simp only [List.length_append] at *;obtain ⟨Y,R2,rfl,hY,sY,hR2⟩:=hR1.uncons (by omega);simp only [List.length_append] at *;have k:=st_mrg hc o D X Y R2 (by omega) (by omega) sX sY (by omega);rw [hX,hY] at k;have lS:(Qbe (Qw c) (X++Y)).length=2*s:=by rw [sortS_len o,List.length_append]; omega
   rw [decide_eq_true (by omega:((D.length+2*s:Nat):Int)≤((D.length+(X.length+(Y.length+R2.length)):Nat):Int)),cond_true,show wr64 ((D.length:Int)+(s:Int))=((D.length+s:Nat):Int) by rw [wrIn (by omega) (by omega)]; omega,show D.length+2*s=D.length+s+s by omega,k];simp only [Option.bind_some];obtain ⟨D',R',q1,q2,q3,q4,q5,q6,q7⟩:=st_pairs s hs hs1 f (D++Qbe (Qw c) (X++Y)) R2 (by omega) (by simp [lS]<;>omega) (by rw [List.length_append,lS,Nat.add_mod_right]; exact hm) (hD.snoc hm (by omega) (sortS_sd o _) (by omega)) hR2;rw [List.length_append,lS] at q1 q7;refine ⟨D',R',?_,q2,q3,q4,q5,?_,by omega⟩
   ·rw [show wr64 ((2:Int)*(s:Int))=((2*s:Nat):Int) by rw [wrIn (by omega) (by omega)]; omega,show wr64 (((D.length+s+s:Nat):Int)+((2*s:Nat):Int))=((D.length+2*s+2*s:Nat):Int) by rw [wrIn (by omega) (by omega)]; omega,show D.length+s+s=D.length+2*s by omega,show D++(Qbe (Qw c) (X++Y)++R2)=(D++Qbe (Qw c) (X++Y))++R2 by simp,show D.length+(X.length+(Y.length+R2.length))=D.length+2*s+R2.length by omega];exact q1
   ·have:=(((Cl.refl (lt:=Qw c) D).app (Qbt o (X++Y))).app (Cl.refl (lt:=Qw c) R2)).trans q6;simpa using this
  ·rw [decide_eq_false (by omega:¬((D.length+2*s:Nat):Int)≤((D.length+R.length:Nat):Int)),cond_false];exact ⟨D,R,rfl,hm,hD,hR,by omega,Cl.refl _,rfl⟩
theorem st_pass(s:Nat)(hs:0<s)(hs1:s≤1000000)(l:List Qf)(hl:l.length≤500000)(hb:Bl (Qw c) s l):∃l',f68r1n2 (l.length:Int) (s:Int) l=some (.norm l')∧Bl (Qw c) (2*s) l'∧Cl (Qw c) l l':=by
 obtain ⟨D,R,q1,q2,q3,q4,q5,q6,q7⟩:=st_pairs hc o s hs hs1 FUEL [] l (Qai (Nat.le_trans (by omega:l.length≤1000000) (by unfold maxLen; decide))) (by simpa using hl) (by simp) (.last List.Pairwise.nil (by simp)) hb;simp only [List.length_nil,Nat.zero_add,List.nil_append] at q1 q6 q7;unfold f68r1n2;rw [show wr64 ((2:Int)*(s:Int))=((2*s:Nat):Int) by rw [wrIn (by omega) (by omega)]; omega,show (0:Int)=((0:Nat):Int) from rfl,q1];simp only [Option.bind_some];rw [show wr64 ((D.length:Int)+(s:Int))=((D.length+s:Nat):Int) by rw [wrIn (by omega) (by omega)]; omega]
 by_cases h:D.length+s<l.length
 ·obtain ⟨X,Y,rfl,hX,sX,hY⟩:=q4.uncons (by omega);simp only [List.length_append] at *;have sY:=hY.whole (by omega) hs;have k:=st_mrg hc o D X Y [] (by omega) (by omega) sX sY (by simp<;>omega);rw [hX] at k;rw [decide_eq_true (by omega),cond_true,show l.length=D.length+s+Y.length by omega,show D++(X++Y)=D++(X++(Y++[])) by simp,k];refine ⟨_,rfl,?_,?_⟩
  ·rw [List.append_nil];exact q3.snoc q2 (by omega) (sortS_sd o _) (by rw [sortS_len o,List.length_append]; omega)
  ·rw [List.append_nil];exact q6.trans ((Cl.refl _).app (Qbt o _))
 ·rw [decide_eq_false (by omega),cond_false];exact ⟨_,rfl,q3.snoc q2 (by omega) (q4.whole (by omega) hs) (by omega),q6⟩
theorem st_passes:∀(n f s:Nat)(l:List Qf),l.length-s≤n→n<f→0<s→s≤1000000→l.length≤500000→Bl (Qw c) s l→∃l',f68r1n4 f (l.length:Int) (s:Int) l=some (.exit2 l')∧Sd (Qw c) l'∧Cl (Qw c) l l'
 | _,0,_,_,_,h,_,_,_,_=>absurd h (Nat.not_lt_zero _)
 | n,f+1,s,l,hn,hf,hs,hs1,hl,hb=>by
  rw [f68r1n4]
  by_cases h:s<l.length
  ·obtain ⟨l1,k1,k2,k3⟩:=st_pass hc o s hs hs1 l hl hb;have hlen:=k3.len;obtain ⟨l',q1,q2,q3⟩:=st_passes (n-1) f (2*s) l1 (by omega) (by omega) (by omega) (by omega) (by omega) k2;rw [decide_eq_true (by omega),cond_true,k1];simp only [Option.bind_some];rw [show wr64 ((s:Int)*2)=((2*s:Nat):Int) by rw [wrIn (by omega) (by omega)]; omega,←hlen,q1];exact ⟨l',rfl,q2,k3.trans q3⟩
  ·rw [decide_eq_false (by omega),cond_false];exact ⟨l,rfl,hb.whole (by omega) hs,Cl.refl _⟩
theorem st_sorted(l:List Qf)(hl:l.length≤500000):f54r1 l=some (Qbe (Qw c) l):=by
 obtain ⟨D,R,q1,q2,q3,q4,q5,q6⟩:=st_blocks hc o FUEL [] l (Qai (Nat.le_trans (by omega:l.length≤1000000) (by unfold maxLen; decide))) (by simpa using hl) (by simp) (.last List.Pairwise.nil (by simp));simp only [List.length_nil,Nat.zero_add,List.nil_append] at q1 q5 q6;have k:=st_ins_ok hc o D R [] (by omega);simp only [List.append_nil] at k;rw [q6] at k;have hb:Bl (Qw c) 20 (D++Qbe (Qw c) R):=q3.snoc q2 (by decide) (sortS_sd o R) (by rw [sortS_len o]; omega);have hcl:Cl (Qw c) l (D++Qbe (Qw c) R):=q5.trans ((Cl.refl _).app (Qbt o R));have hlen:=hcl.len;obtain ⟨l',k1,k2,k3⟩:=st_passes hc o (D++Qbe (Qw c) R).length FUEL 20 (D++Qbe (Qw c) R) (by omega) (Qai (Nat.le_trans (by omega:(D++Qbe (Qw c) R).length≤1000000) (by unfold maxLen; decide))) (by decide) (by decide) (by omega) hb;have e:f68r1 (l.length:Int) l=some l':=by
  unfold f68r1 f68r1n0;rw [show (0:Int)=((0:Nat):Int) from rfl,show (20:Int)=((20:Nat):Int) from rfl,q1];simp only [Option.bind_some,k];rw [←hlen,k1]; rfl
 unfold f54r1 f54r1n0;rw [e];simp only [Option.bind_some];rw [sortS_of o k2 (hcl.trans k3)]
end
end Go.Proofs.Ythpceddjepbamaa
namespace Go.Proofs.Ythpceddjepbamaa
set_option linter.unusedVariables false
set_option linter.unusedSimpArgs false
open Go.RowKit
abbrev AA:=Qd
abbrev AL:=Qa
abbrev AB:=Qc
abbrev AW:=Qb
abbrev SH:=Qf

theorem f67_eq(c:Int):f67 c=some (ltrI c):=by
 unfold f67 f67n0 ltrI;cases decide (97≤c)<;>cases decide (c≤122)<;>cases decide (65≤c)<;>cases decide (c≤90)<;>rfl
theorem f50n2_eq{s:ByteArray}{k:Int}{b:UInt8}(h:at? s.data.toList k=some b):f50n2 s k=some (bif chB b then .norm else .ret):=by
 have h3:f50n3 s b k=some (.norm (!(chB b))):=by
  unfold f50n3 chB othI;rw [f67_eq,ltNot,ltNot];simp only [Option.bind_some];cases ltrI b.toNat<;>cases decide ((48:Int)≤(b.toNat:Int))<;>cases decide ((b.toNat:Int)≤57)<;>cases decide ((b.toNat:Int)=95)<;>cases decide ((b.toNat:Int)=45)<;>rfl
 unfold f50n2;rw [h];simp only [Option.bind_some,h3];cases chB b<;>rfl
theorem f50n4_at(s:ByteArray)(hs:s.data.toList.length≤1000):∀(r:List UInt8)(f k:Nat),s.data.toList.drop k=r→r.length<f→f50n4 f s (k:Int)=some (bif r.all chB then .exit0 else .ret)
 | _,0,_,_,h=>absurd h (Nat.not_lt_zero _)
 | [],f+1,k,hd,_=>by
  have:=Qac hd;rw [f50n4,sizeList,decide_eq_false (by omega),cond_false]; rfl
 | b::r,f+1,k,hd,hf=>by
  obtain ⟨h1,h2,h3⟩:=dropAt hd;rw [f50n4,sizeList,decide_eq_true (by omega),cond_true,f50n2_eq h1,List.all_cons];cases chB b with
  | false=>rfl
  | true =>
   simp only [cond_true,Option.bind_some,Bool.true_and];rw [wrSucc (by omega)];exact f50n4_at s hs r f (k+1) h3 (by simpa using hf)
theorem f50_eq(s:ByteArray):f50 s=some (nmB s):=by
 unfold f50 f50n0 nmB;rw [sizeList]
 by_cases hs:s.data.toList.length≤40
 ·have h1:f50n1 s=some (bif s.data.toList.all chB then .norm else .ret):=by
   unfold f50n1;have:=f50n4_at s (by omega) s.data.toList FUEL 0 List.drop_zero (Qaj (by omega));rw [show ((0:Nat):Int)=0 from rfl] at this;rw [this];cases s.data.toList.all chB<;>rfl
  rw [h1];generalize s.data.toList=l at hs;rw [decide_eq_false (by omega:¬(40:Int)<(l.length:Int))];cases l with
  | nil=>rfl
  | cons b r =>
   have h0:at? (b::r) 0=some b:=rfl;rw [decide_eq_false (by simp; omega:¬(((b::r).length:Nat):Int)<1),h0];simp only [cond_false,Option.bind_some,f67_eq,isNm,decide_eq_true hs,Bool.true_and,List.all_cons,chB];cases ltrI b.toNat<;>cases othI b.toNat<;>cases r.all chB<;>rfl
 ·rw [decide_eq_false (by omega:¬((s.data.toList.length:Nat):Int)<1),decide_eq_true (by omega:(40:Int)<((s.data.toList.length:Nat):Int))];have:isNm s.data.toList=false:=by
   generalize s.data.toList=l at hs;cases l with
   | nil=>rfl
   | cons b r=>simp only [isNm,decide_eq_false hs,Bool.false_and]
  rw [this]; rfl
theorem f52n2_eq{s:ByteArray}{k:Int}{b:UInt8}(h:at? s.data.toList k=some b):f52n2 s k=some (bif ltrI b.toNat||(othI b.toNat&&!(decide (k=0))) then .norm else .ret):=by
 have h3:f52n3 s k b=some (.norm (ltrI b.toNat)):=by
  unfold f52n3 ltrI;cases decide ((97:Int)≤(b.toNat:Int))<;>cases decide ((b.toNat:Int)≤122)<;>cases decide ((65:Int)≤(b.toNat:Int))<;>cases decide ((b.toNat:Int)≤90)<;>rfl
 have h4:f52n4 s k b (ltrI b.toNat)=some (.norm (othI b.toNat)):=by
  unfold f52n4 othI;cases decide ((48:Int)≤(b.toNat:Int))<;>cases decide ((b.toNat:Int)≤57)<;>cases decide ((b.toNat:Int)=95)<;>cases decide ((b.toNat:Int)=45)<;>rfl
 unfold f52n2;rw [h];simp only [Option.bind_some,h3,h4];unfold f52n5;cases ltrI b.toNat<;>cases othI b.toNat<;>cases decide (k=0)<;>rfl
theorem f52n6_at(s:ByteArray)(hs:s.data.toList.length≤1000):∀(r:List UInt8)(f k:Nat),1≤k→s.data.toList.drop k=r→r.length<f→f52n6 f s (k:Int)=some (bif r.all chB then .exit0 else .ret)
 | _,0,_,_,_,h=>absurd h (Nat.not_lt_zero _)
 | [],f+1,k,_,hd,_=>by
  have:=Qac hd;rw [f52n6,sizeList,decide_eq_false (by omega),cond_false]; rfl
 | b::r,f+1,k,h1k,hd,hf=>by
  obtain ⟨h1,h2,h3⟩:=dropAt hd;rw [f52n6,sizeList,decide_eq_true (by omega),cond_true,f52n2_eq h1,List.all_cons,decide_eq_false (by omega:¬((k:Int)=0)),Bool.not_false,Bool.and_true];show _=some (bif chB b&&r.all chB then _ else _);unfold chB;cases ltrI b.toNat||othI b.toNat with
  | false=>rfl
  | true =>
   simp only [cond_true,Option.bind_some,Bool.true_and];rw [wrSucc (by omega)];exact f52n6_at s hs r f (k+1) (by omega) h3 (by simpa using hf)
theorem f52_eq(s:ByteArray):f52 s=some (nmB s):=by
 unfold f52 f52n0 nmB;rw [sizeList]
 by_cases hs:s.data.toList.length≤40
 ·cases hl:s.data.toList with
  | nil=>rfl
  | cons b r =>
   rw [hl] at hs;have h1:f52n1 s=some (bif ltrI b.toNat&&r.all chB then .norm else .ret):=by
    unfold f52n1;obtain ⟨g,hg⟩:∃g,FUEL=g+1:=⟨FUEL-1,by have:=Qaj (n:=1) (by omega); omega⟩;have hlt:r.length<g:=by
     have:=Qaj (n:=50) (by omega);simp only [List.length_cons] at hs;omega
    have h0:at? s.data.toList 0=some b:=by rw [hl]; rfl
    rw [hg,f52n6,sizeList,hl,decide_eq_true (by simp),cond_true,f52n2_eq h0];cases hb:ltrI b.toNat with
    | false=>cases othI b.toNat<;>rfl
    | true =>
     have:=f52n6_at s (by rw [hl]; omega) r g 1 (by omega) (by rw [hl]; rfl) hlt;rw [show wr64 (0+1)=((1:Nat):Int) from by rw [wrIn (by omega) (by omega)]; rfl,this];cases r.all chB<;>rfl
   rw [decide_eq_false (by simp; omega:¬(((b::r).length:Nat):Int)<1),decide_eq_false (by omega:¬(40:Int)<(((b::r).length:Nat):Int)),h1];simp only [cond_false,Option.bind_some,isNm,decide_eq_true hs,Bool.true_and];cases ltrI b.toNat&&r.all chB<;>rfl
 ·rw [decide_eq_false (by omega:¬((s.data.toList.length:Nat):Int)<1),decide_eq_true (by omega:(40:Int)<((s.data.toList.length:Nat):Int))];have:isNm s.data.toList=false:=by
   generalize s.data.toList=l at hs;cases l with
   | nil=>rfl
   | cons b r=>simp only [isNm,decide_eq_false hs,Bool.false_and]
  rw [this]; rfl

theorem f60_eq(a:Int):f60 a=some false:=by unfold f60 f60n0; simp
theorem f79_eq(a:ByteArray):f79 a=some false:=by unfold f79 f79n0; simp [seq_refl]
theorem f39_eq(a b:Int):f39 a b=some (cmpI a b):=by
 unfold f39 f39n0 cmpI;rw [f60_eq,f60_eq];simp only [Option.bind_some,cond_false];cases decide (a<b)<;>cases decide (b<a)<;>rfl
theorem f63_eq(a b:ByteArray):f63 a b=some (cmpB a b):=by
 unfold f63 f63n0 cmpB;rw [f79_eq,f79_eq];simp only [Option.bind_some,cond_false];cases slt a b<;>cases seq a b<;>rfl
theorem f62_eq(x:AL)(n:ByteArray):f62 x n=some (cmpB x.Name n):=by unfold f62 f62n0; rw [f63_eq]; rfl
theorem f51_eq(a b c:Int):f51 a b c=some (decide (b≤a)&&decide (a≤c)):=by
 unfold f51 f51n0;cases decide (b≤a)<;>rfl

def lotN(n:ByteArray):List AL→Option AL
 | []=>none
 | x::r=>bif seq x.Name n then some x else lotN n r
theorem lotN_none{n:ByteArray} : ∀{l:List AL},(∀x∈l,x.Name≠n)→lotN n l=none
 | [],_=>rfl
 | x::r,h=>by rw [lotN,seqF (h x List.mem_cons_self),cond_false,lotN_none fun y hy=>h y (List.mem_cons_of_mem _ hy)]
theorem lotN_app{n:ByteArray} : ∀{pre post:List AL},(∀x∈pre,x.Name≠n)→lotN n (pre++post)=lotN n post
 | [],_,_=>rfl
 | x::r,post,h=>by rw [List.cons_append,lotN,seqF (h x List.mem_cons_self),cond_false,lotN_app fun y hy=>h y (List.mem_cons_of_mem _ hy)]
theorem lotN_mem{n:ByteArray}{x:AL} : ∀{l:List AL},lotN n l=some x→x∈l∧x.Name=n
 | y::r,h=>by
  rw [lotN] at h;cases k:seq y.Name n with
  | true=>rw [k] at h; obtain rfl:=Option.some.inj h; exact ⟨List.mem_cons_self,seq_iff.1 k⟩
  | false =>
   rw [k] at h;obtain ⟨h1,h2⟩:=lotN_mem h;exact ⟨List.mem_cons_of_mem _ h1,h2⟩
abbrev SSrt(l:List AL):Prop:=l.Pairwise fun a b=>slt a.Name b.Name=true
theorem lotN_of:∀{l:List AL},SSrt l→∀x∈l,lotN x.Name l=some x
 | y::r,h,x,hx=>by
  rw [lotN];have h':=List.pairwise_cons.1 h;rcases List.mem_cons.1 hx with rfl | hx
  ·rw [seq_refl,cond_true]
  ·rw [seqF (sltNe (h'.1 x hx)),cond_false,lotN_of h'.2 x hx]
theorem f61n1_eq{l:List AL}(n:ByteArray)(hl:l.length≤1000000):∀(f lo hi:Nat),hi≤l.length→lo≤1000000→f61_62n1 f l n (lo:Int) (hi:Int)=(bsN (pq (fun y=>decide (cmpB y.Name n<0)) l) f lo hi).map fun r=>.exit0 (r:Int)
 | 0,lo,hi,_,_=>rfl
 | f+1,lo,hi,h,h0=>by
  rw [f61_62n1,bsN]
  by_cases hlt:lo<hi
  ·have hk:(lo+hi) / 2<l.length:=by omega
   rw [decide_eq_true hlt,decide_eq_true (by omega:(lo:Int)<(hi:Int)),st_half (by omega),at_in hk];simp only [cond_true,Option.bind_some,f62_eq];have ep:pq (fun y=>decide (cmpB y.Name n<0)) l ((lo+hi) / 2)=decide (cmpB l[(lo+hi) / 2].Name n<0):=by unfold pq; rw [List.getElem?_eq_getElem hk]
   rw [ep];cases decide (cmpB l[(lo+hi) / 2].Name n<0) with
   | true=>rw [cond_true,cond_true,show wr64 ((((lo+hi) / 2:Nat):Int)+1)=(((lo+hi) / 2+1:Nat):Int) by rw [wrIn (by omega) (by omega)]; omega]; exact f61n1_eq n hl f _ _ h (by omega)
   | false=>rw [cond_false,cond_false]; exact f61n1_eq n hl f _ _ (by omega) h0
  ·rw [decide_eq_false hlt,decide_eq_false (by omega:¬(lo:Int)<(hi:Int))]; rfl
theorem f44_eq{s:List AL}(hs:SSrt s)(hl:s.length≤1000)(n:ByteArray):∃i,f44 s n=some (i,(lotN n s).isSome):=by
 obtain ⟨r,q1,q2,q3,q4,q5⟩:=bsN_ok (p:=pq (fun y=>decide (cmpB y.Name n<0)) s) FUEL 0 s.length (by omega) (Qaj (by omega)) fun i j a1 a2 a3 a4=>by
  have:=pq_mono (X:=[]) (B:=s) (R:=[]) (q:=fun y=>decide (cmpB y.Name n<0)) (hs.imp fun {u w} huw hq=>by
   rw [decide_eq_true_eq,cmpB_neg] at *;exact slt_trans huw hq) i j (by simp) a2 (by simpa using a3) (by simpa using a4)
  simpa using this
 have h1:f61_62n1 FUEL s n 0 (s.length:Int)=some (.exit0 (r:Int)):=by
  have:=f61n1_eq (l:=s) n (by omega) FUEL 0 s.length (Nat.le_refl _) (by omega);rw [q1] at this;exact this
 obtain ⟨s1,s2,rfl,hs1⟩:=cutL_ (l:=s) (n:=r) q3;rw [List.length_append] at q5;have f1:∀y∈s1,decide (cmpB y.Name n<0)=true:=pq_seg (X:=[]) (R:=s2) fun i a1 a2=>by
  have:=q4 i (by omega) (by simpa [hs1] using a2);simpa using this
 have f2:∀y∈s2,decide (cmpB y.Name n<0)=false:=pq_seg (X:=s1) (R:=[]) fun i a1 a2=>by
  have:=q5 i (by omega) a2;simpa using this
 have hn1:∀y∈s1,y.Name≠n:=fun y hy=>sltNe (cmpB_neg.1 (of_decide_eq_true (f1 y hy)));have h61:f61_62 (s1++s2) n=some ((r:Int),match s2 with | []=>false | y::_=>decide (cmpB y.Name n=0)):=by
  unfold f61_62 f61_62n0;rw [h1];simp only [Option.bind_some];cases s2 with
  | nil=>rw [decide_eq_false (by rw [List.append_nil]; omega)]; rfl
  | cons y t =>
   rw [decide_eq_true (by simp; omega),at_len (k:=r) (a:=s1) (x:=y) (b:=t) rfl hs1.symm];simp only [cond_true,Option.bind_some,f62_eq]
 refine ⟨(r:Int),?_⟩;unfold f44 f44n0;rw [h61,lotN_app hn1];simp only [Option.bind_some];cases s2 with
 | nil=>rfl
 | cons y t =>
  by_cases hk:cmpB y.Name n=0
  ·simp only [decide_eq_true hk];rw [lotN,seq_iff.2 (cmpB_zero.1 hk)]; rfl
  ·simp only [decide_eq_false hk];have hs':=List.pairwise_cons.1 (List.pairwise_append.1 hs).2.1;have hy:slt n y.Name=true:=cmpB_pos.1 (by have:=of_decide_eq_false (f2 y List.mem_cons_self); omega);rw [lotN_none fun z hz=>?_]
   ·rfl
   ·rcases List.mem_cons.1 hz with rfl | hz
    ·exact (sltNe hy).symm
    ·exact (sltNe (slt_trans hy (hs'.1 z hz))).symm

def gdB(b:AB):Bool:=nmB b.Member&&(!(seq b.Member str_house)&&((decide (1≤b.Units)&&decide (b.Units≤1048576))&&(decide (0≤b.Price)&&decide (b.Price≤33554432))))
theorem f45_eq(b:AB):f45 b=some (gdB b):=by
 unfold f45 f45n0 gdB;rw [f50_eq,f51_eq,f51_eq];cases nmB b.Member<;>cases seq b.Member str_house<;>cases decide (1≤b.Units)<;>cases decide (b.Units≤1048576)<;>rfl
def inL(x:AL):Bool:=nmB x.Name&&((decide (1≤x.Units)&&decide (x.Units≤1048576))&&(decide (0≤x.Reserve)&&decide (x.Reserve≤33554432)))
def ordL:Option AL→AL→Bool
 | none,_=>true
 | some y,x=>slt y.Name x.Name
def okL:Option AL→List AL→Bool
 | _,[]=>true
 | p,x::r=>(inL x&&ordL p x)&&okL (some x) r
theorem f31n2_eq{a:AA}{pre r:List AL}{x:AL}(h:a.Lots=pre++x::r)(hl:a.Lots.length≤1000):f31n2 a ((pre.length:Nat):Int)=some (bif inL x&&ordL pre.getLast? x then .norm else .ret):=by
 have h3:f31n3 ((pre.length:Nat):Int) a x=some (.norm (!(inL x&&ordL pre.getLast? x))):=by
  unfold f31n3 inL;rw [f50_eq,f51_eq,f51_eq];rcases List.eq_nil_or_concat pre with rfl | ⟨q,y,rfl⟩
  ·simp only [List.length_nil,Int.natCast_zero,List.getLast?_nil,ordL];rw [decide_eq_false (by omega:¬(0:Int)<0)];cases nmB x.Name<;>cases decide (1≤x.Units)&&decide (x.Units≤1048576)<;>cases decide (0≤x.Reserve)&&decide (x.Reserve≤33554432)<;>rfl
  ·rw [List.concat_eq_append] at h ⊢;have hq:q.length+1≤1000:=by rw [h] at hl; simp at hl; omega
   rw [decide_eq_true (by simp:(0:Int)<(((q++[y]).length:Nat):Int)),show wr64 ((((q++[y]).length:Nat):Int)-1)=((q.length:Nat):Int) by rw [wrIn (by simp<;>omega) (by simp<;>omega)]; simp,at_len (k:=q.length) (a:=q) (x:=y) (b:=x::r) (by rw [h]; simp) rfl,List.getLast?_concat];simp only [cond_true,Option.bind_some,ordL];cases nmB x.Name<;>cases slt y.Name x.Name<;>cases decide (1≤x.Units)&&decide (x.Units≤1048576)<;>cases decide (0≤x.Reserve)&&decide (x.Reserve≤33554432)<;>rfl
 unfold f31n2;rw [at_len h rfl];simp only [Option.bind_some,h3];cases inL x&&ordL pre.getLast? x<;>rfl
theorem f31n4_at{a:AA}(hl:a.Lots.length≤1000):∀(r pre:List AL)(f:Nat),a.Lots=pre++r→r.length<f→f31n4 f a ((pre.length:Nat):Int)=some (bif okL pre.getLast? r then .exit0 else .ret)
 | _,_,0,_,h=>absurd h (Nat.not_lt_zero _)
 | [],pre,f+1,h,_=>by rw [f31n4,decide_eq_false (by rw [h]; simp),cond_false]; rfl
 | x::r,pre,f+1,h,hf=>by
  have hp:pre.length<a.Lots.length:=by rw [h]; simp
  have ih:=f31n4_at hl r (pre++[x]) f (by rw [h]; simp) (by simpa using hf);rw [List.length_append,List.getLast?_concat] at ih;rw [f31n4,decide_eq_true (by omega),cond_true,f31n2_eq h hl,okL];cases inL x&&ordL pre.getLast? x with
  | false=>rfl
  | true =>
   simp only [cond_true,Option.bind_some,Bool.true_and];rw [wrSucc (by omega)];exact ih
theorem okL_some:∀{l:List AL} {p:AL},okL (some p) l=true→(p::l).Pairwise (fun a b=>slt a.Name b.Name=true)∧∀x∈l,inL x=true
 | [],p,_=>by simp
 | y::r,p,h=>by
  rw [okL,ordL,Bool.and_eq_true,Bool.and_eq_true] at h;obtain ⟨⟨h1,h2⟩,h3⟩:=h;obtain ⟨h4,h5⟩:=okL_some h3;refine ⟨List.pairwise_cons.2 ⟨fun z hz=>?_,h4⟩,fun z hz=>?_⟩
  ·rcases List.mem_cons.1 hz with rfl | hz
   ·exact h2
   ·exact slt_trans h2 ((List.pairwise_cons.1 h4).1 z hz)
  ·rcases List.mem_cons.1 hz with rfl | hz
   ·exact h1
   ·exact h5 z hz
theorem okL_none{l:List AL}(h:okL none l=true):SSrt l∧∀x∈l,inL x=true:=by
 cases l with
 | nil=>simp
 | cons y r =>
  rw [okL,Bool.and_eq_true,Bool.and_eq_true] at h;obtain ⟨⟨h1,_⟩,h3⟩:=h;obtain ⟨h4,h5⟩:=okL_some h3;exact ⟨h4,fun z hz=>by
   rcases List.mem_cons.1 hz with rfl | hz
   ·exact h1
   ·exact h5 z hz⟩
def bidB(ls:List AL)(b:AB):Bool:=(lotN b.Lot ls).isSome&&gdB b
theorem f31w_eq{a:AA}(hs:SSrt a.Lots)(hl:a.Lots.length≤1000):∀(l:List AB)(v:Int),f31n6L a l v=some (bif l.all (bidB a.Lots) then .exit2 else .ret)
 | [],_=>rfl
 | b::r,v=>by
  obtain ⟨i,hi⟩:=f44_eq hs hl b.Lot;rw [f31n6L,hi,List.all_cons,f31w_eq hs hl r,bidB,f45_eq];simp only [Option.bind_some];cases (lotN b.Lot a.Lots).isSome<;>cases gdB b<;>rfl
def okA(a:AA):Bool:=decide (a.Rule≤2)&&(decide (a.Lots.length≤16)&&(decide (a.Bids.length≤100)&&(okL none a.Lots&&a.Bids.all (bidB a.Lots))))
theorem lenD(n k:Nat):decide ((k:Int)<(n:Int)) = !(decide (n≤k)):=by
 rw [ltNot]; congr 1
 by_cases h:n≤k
 ·rw [decide_eq_true h,decide_eq_true (by omega:(n:Int)≤(k:Int))]
 ·rw [decide_eq_false h,decide_eq_false (by omega:¬(n:Int)≤(k:Int))]
theorem f31_eq(a:AA):f31 a=some (bif okA a then 0 else 8):=by
 unfold f31 f31n0 okA;rw [ltNot,show decide ((16:Int)<(a.Lots.length:Int))=_ from lenD a.Lots.length 16,show decide ((100:Int)<(a.Bids.length:Int))=_ from lenD a.Bids.length 100];cases decide (a.Rule≤2) with
 | false=>rfl
 | true =>
  by_cases hl:a.Lots.length≤16
  ·rw [decide_eq_true hl]
   by_cases hb:a.Bids.length≤100
   ·rw [decide_eq_true hb];have h1:f31n1 a=some (bif okL none a.Lots then .norm else .ret):=by
     unfold f31n1;have:=f31n4_at (a:=a) (by omega) a.Lots [] FUEL rfl (Qaj (by omega));rw [show (((([]:List AL).length:Nat)):Int)=0 from rfl,List.getLast?_nil] at this;rw [this];cases okL none a.Lots<;>rfl
    rw [h1];cases ho:okL none a.Lots with
    | false=>rfl
    | true =>
     have h2:f31n5 a=some (bif a.Bids.all (bidB a.Lots) then .norm else .ret):=by
      unfold f31n5;rw [f31n6_run a (Qao (by omega)),f31w_eq (okL_none ho).1 (by omega)];cases a.Bids.all (bidB a.Lots)<;>rfl
     simp only [cond_true,cond_false,Bool.not_true,Option.bind_some,h2,Bool.true_and];cases a.Bids.all (bidB a.Lots)<;>rfl
   ·rw [decide_eq_false hb]; rfl
  ·rw [decide_eq_false hl]; rfl
structure Vl (a:AA):Prop where
 rule:a.Rule≤2
 nl:a.Lots.length≤16
 nb:a.Bids.length≤100
 srt:SSrt a.Lots
 lots:∀x∈a.Lots,nmB x.Name=true∧1≤x.Units∧x.Units≤1048576∧0≤x.Reserve∧x.Reserve≤33554432
 bids:∀b∈a.Bids,(∃x∈a.Lots,x.Name=b.Lot)∧1≤b.Units∧b.Units≤1048576∧0≤b.Price∧b.Price≤33554432
theorem okA_vl{a:AA}(h:okA a=true):Vl a:=by
 unfold okA at h;simp only [Bool.and_eq_true,decide_eq_true_eq] at h;obtain ⟨h1,h2,h3,h4,h5⟩:=h;obtain ⟨h6,h7⟩:=okL_none h4;refine ⟨h1,h2,h3,h6,fun x hx=>?_,fun b hb=>?_⟩
 ·have:=h7 x hx;unfold inL at this;simp only [Bool.and_eq_true,decide_eq_true_eq] at this;exact ⟨this.1,this.2.1.1,this.2.1.2,this.2.2.1,this.2.2.2⟩
 ·have:=List.all_eq_true.1 h5 b hb;unfold bidB gdB at this;simp only [Bool.and_eq_true,decide_eq_true_eq] at this;obtain ⟨k1,_,_,k2,k3⟩:=this;obtain ⟨x,hx⟩:=Option.isSome_iff_exists.1 k1;have:=lotN_mem hx;exact ⟨⟨x,this.1,this.2⟩,k2.1,k2.2,k3.1,k3.2⟩
end Go.Proofs.Ythpceddjepbamaa
namespace Go.Proofs.Ythpceddjepbamaa
set_option linter.unusedVariables false
set_option linter.unusedSimpArgs false
open Go.RowKit
def sc(x y:SH):Int:=cmpI y.bid.Price x.bid.Price
theorem f55_eq(x y:SH):f55 x y=some (sc x y):=by unfold f55 f55n0; rw [f39_eq]; rfl
abbrev ltS:SH→SH→Bool:=fun x y=>decide (sc x y<0)
theorem ltS_iff{x y:SH} : ltS x y=true↔y.bid.Price<x.bid.Price:=by
 unfold ltS sc;rw [decide_eq_true_eq,cmpI_neg]
theorem ltS_not{x y:SH} : ltS x y=false↔x.bid.Price≤y.bid.Price:=by
 rw [←Bool.not_eq_true,ltS_iff]; omega
theorem swoS:SWo ltS where
 irr x:=ltS_not.2 (Int.le_refl _)
 tr h k:=by rw [ltS_iff] at *; omega
 nt h k:=by rw [ltS_not] at *; omega
def bef(x y:SH):Bool:=decide (y.bid.Price<x.bid.Price)||(decide (x.bid.Price=y.bid.Price)&&decide (x.index<y.index))
theorem bef_iff{x y:SH} : bef x y=true↔y.bid.Price<x.bid.Price∨x.bid.Price=y.bid.Price∧x.index<y.index:=by
 unfold bef;simp only [Bool.or_eq_true,Bool.and_eq_true,decide_eq_true_eq]
theorem bef_irr(x:SH):bef x x=false:=by
 rw [←Bool.not_eq_true,bef_iff]; omega
theorem bef_asym{x y:SH}(h:bef x y=true):bef y x=false:=by
 rw [←Bool.not_eq_true]; rw [bef_iff] at *; omega
theorem bef_tr{x y z:SH}(h:bef x y=true)(k:bef y z=true):bef x z=true:=by
 rw [bef_iff] at *; omega
theorem bef_tot{x y:SH}(h:x.index≠y.index)(k:bef x y=false):bef y x=true:=by
 rw [←Bool.not_eq_true] at k; rw [bef_iff] at *; omega
abbrev Idx(l:List SH):Prop:=l.Pairwise fun x y=>x.index<y.index
abbrev Bef(l:List SH):Prop:=l.Pairwise fun x y=>bef x y=true
theorem ins_mem{x z:SH} : ∀{l:List SH},z∈insS ltS x l↔z=x∨z∈l:=fun {l}=>by
 rw [(insS_perm x l).mem_iff,List.mem_cons]
theorem ins_bef{x:SH} : ∀{l:List SH},(∀y∈l,x.index<y.index)→Bef l→Bef (insS ltS x l)
 | [],_,_=>by simp [insS]
 | y::r,hi,h=>by
  have h':=List.pairwise_cons.1 h;rw [insS];cases hl:ltS y x with
  | true =>
   rw [cond_true];refine List.pairwise_cons.2 ⟨fun z hz=>?_,ins_bef (fun z hz=>hi z (List.mem_cons_of_mem _ hz)) h'.2⟩;rcases ins_mem.1 hz with rfl | hz
   ·rw [bef_iff]; rw [ltS_iff] at hl; exact .inl hl
   ·exact h'.1 z hz
  | false =>
   rw [cond_false];have hx:bef x y=true:=by
    have:=hi y List.mem_cons_self;rw [ltS_not] at hl;rw [bef_iff]; omega
   refine List.pairwise_cons.2 ⟨fun z hz=>?_,h⟩;rcases List.mem_cons.1 hz with rfl | hz
   ·exact hx
   ·exact bef_tr hx (h'.1 z hz)
theorem sort_bef:∀{l:List SH},Idx l→Bef (Qbe ltS l)
 | [],_=>by simp [Qbe]
 | x::r,h=>by
  have h':=List.pairwise_cons.1 h;rw [Qbe];exact ins_bef (fun y hy=>h'.1 y ((Qbt swoS r).mem.1 hy)) (sort_bef h'.2)
theorem f54_eq{l:List SH}(h:l.length≤500000):f54r1 l=some (Qbe ltS l):=st_sorted f55_eq swoS l h

def zs:List AB→Int→List SH
 | [],_=>[]
 | b::r,i=>⟨i,0,b⟩::zs r (i+1)
def rk(l:AL)(s:SH):Bool:=seq s.bid.Lot l.Name&&decide (l.Reserve≤s.bid.Price)
theorem zs_len:∀(l:List AB)(i:Int),(zs l i).length=l.length
 | [],_=>rfl
 | b::r,i=>by rw [zs,List.length_cons,List.length_cons,zs_len r]
theorem zs_idx:∀(l:List AB)(i:Int),Idx (zs l i)∧∀s∈zs l i,i≤s.index∧s.index<i+l.length∧s.units=0∧l[(s.index-i).toNat]?=some s.bid
 | [],_=>by simp [zs]
 | b::r,i=>by
  obtain ⟨h1,h2⟩:=zs_idx r (i+1);rw [zs];refine ⟨List.pairwise_cons.2 ⟨fun s hs=>?_,h1⟩,fun s hs=>?_⟩
  ·have:=h2 s hs; show i<s.index; omega
  ·rcases List.mem_cons.1 hs with rfl | hs
   ·simp; omega
   ·obtain ⟨k1,k2,k3,k4⟩:=h2 s hs;refine ⟨by omega,by rw [List.length_cons]; omega,k3,?_⟩;rw [show (s.index-i).toNat=(s.index-(i+1)).toNat+1 by omega,List.getElem?_cons_succ];exact k4
theorem zs_mem{l:List AB}{i:Int}{s:SH}(h:s∈zs l i):s.bid∈l:=List.mem_of_getElem? ((zs_idx l i).2 s h).2.2.2
theorem zs_has:∀{l:List AB} {i:Int} {k:Nat} {b:AB},l[k]?=some b→(⟨i+k,0,b⟩:SH)∈zs l i
 | x::r,i,0,b,h=>by simp at h; subst h; simp [zs]
 | x::r,i,k+1,b,h=>by
  rw [List.getElem?_cons_succ] at h;have:=zs_has (i:=i+1) h;rw [zs];refine List.mem_cons_of_mem _ ?_;rw [show i+((k+1:Nat):Int)=i+1+(k:Nat) by omega];exact this
def all_(bs:List AB)(l:AL):List SH:=(zs bs 0).filter (rk l)
def rkd(bs:List AB)(l:AL):List SH:=Qbe ltS (all_ bs l)
theorem rkd_perm(bs:List AB)(l:AL):(rkd bs l).Perm (all_ bs l):=(Qbt swoS _).1
theorem all_ln(bs:List AB)(l:AL):(all_ bs l).length≤bs.length:=by
 have:=List.length_filter_le (rk l) (zs bs 0)
 rwa [zs_len] at this
theorem rkd_len(bs:List AB)(l:AL):(rkd bs l).length≤bs.length:=by
 rw [(rkd_perm bs l).length_eq]; exact all_ln bs l
theorem rkd_bef(bs:List AB)(l:AL):Bef (rkd bs l):=sort_bef (List.Pairwise.filter _ (zs_idx bs 0).1)
theorem Qbh{bs:List AB}{l:AL}{s:SH} : s∈rkd bs l↔s∈zs bs 0∧rk l s=true:=by
 rw [(rkd_perm bs l).mem_iff]; exact List.mem_filter

theorem mnI_eq(a b:Int):mnI a b=min a b:=by
 by_cases h:b<a
 ·rw [mnI,decide_eq_true h,cond_true]; omega
 ·rw [mnI,decide_eq_false h,cond_false]; omega
def tk(p:SH→Int):Int→List SH→List AW
 | _,[]=>[]
 | n,s::r=>bif decide (min n s.bid.Units=0) then [] else ⟨s.index,min n s.bid.Units,p s⟩::tk p (n-min n s.bid.Units) r
def lowP:Int→Int→List SH→Int
 | p,_,[]=>p
 | p,n,s::r=>lowP (bif decide (0<min n s.bid.Units) then s.bid.Price else p) (n-min n s.bid.Units) r
def rejP(p:Int):Int→List SH→Int
 | _,[]=>p
 | n,s::r=>bif decide (min n s.bid.Units<s.bid.Units) then s.bid.Price else rejP p (n-min n s.bid.Units) r
def lftN:Int→Int→List SH→Int
 | q,_,[]=>q
 | q,n,s::r=>lftN (q-min n s.bid.Units) (n-min n s.bid.Units) r
abbrev uOk(r:List SH):Prop:=∀s∈r,1≤s.bid.Units∧s.bid.Units≤1048576

theorem f53r1_c(a:AA)(l:AL)(p:Int):∀(r:List AB)(i:Int)(acc:List SH),acc.length+r.length≤1000→f53r1n2L a l p r i acc=some (.exit0 (acc++(zs r i).filter (rk l)))
 | [],i,acc,_=>by rw [f53r1n2L,zs,List.filter_nil,List.append_nil]
 | b::r,i,acc,h=>by
  rw [List.length_cons] at h;rw [f53r1n2L,zs,List.filter_cons];have hr:rk l ⟨i,0,b⟩=(seq b.Lot l.Name&&decide (l.Reserve≤b.Price)):=rfl;rw [hr];cases seq b.Lot l.Name with
  | false=>exact f53r1_c a l p r (i+1) acc (by omega)
  | true =>
   cases decide (l.Reserve≤b.Price) with
   | false=>exact f53r1_c a l p r (i+1) acc (by omega)
   | true =>
    simp only [cond_true,Bool.and_self,if_true];rw [req,Qaw (by omega) (by omega),cond_true,f53r1_c a l p r (i+1) (acc++[(⟨i,0,b⟩:SH)]) (by rw [List.length_append]; simp; omega),List.append_assoc]; rfl
theorem f53r1_1(a:AA)(l:AL)(p:Int)(h:a.Bids.length≤1000):(f53r1n1 a l p).bind (fun o=>match o with | .norm v=>f54r1 v)=some (rkd a.Bids l):=by
 unfold f53r1n1;rw [f53r1n2_run a l p [] (Qao (by omega)),f53r1_c a l p a.Bids 0 [] (by simp; omega)];simp only [Option.bind_some,List.nil_append];exact f54_eq (by have:=all_ln a.Bids l; unfold all_ at this; omega)
theorem f53r1_2(a:AA)(l:AL)(p:Int)(h:a.Bids.length≤1000){γ:Type}(k:List SH→Option γ):((f53r1n1 a l p).bind fun o=>match o with | .norm v=>(f54r1 v).bind k)=k (rkd a.Bids l):=by
 have:=f53r1_1 a l p h;cases e:f53r1n1 a l p with
 | none=>rw [e] at this; cases this
 | some o =>
  cases o with
  | norm v =>
   rw [e] at this;simp only [Option.bind_some] at this ⊢;rw [this]; rfl

theorem f53r3_c(a:AA)(l:AL)(p:Int):∀(r:List AB)(i:Int)(acc:List SH),acc.length+r.length≤1000→f53r3n2L a l p r i acc=some (.exit0 (acc++(zs r i).filter (rk l)))
 | [],i,acc,_=>by rw [f53r3n2L,zs,List.filter_nil,List.append_nil]
 | b::r,i,acc,h=>by
  rw [List.length_cons] at h;rw [f53r3n2L,zs,List.filter_cons];have hr:rk l ⟨i,0,b⟩=(seq b.Lot l.Name&&decide (l.Reserve≤b.Price)):=rfl;rw [hr];cases seq b.Lot l.Name with
  | false=>exact f53r3_c a l p r (i+1) acc (by omega)
  | true =>
   cases decide (l.Reserve≤b.Price) with
   | false=>exact f53r3_c a l p r (i+1) acc (by omega)
   | true =>
    simp only [cond_true,Bool.and_self,if_true];rw [req,Qaw (by omega) (by omega),cond_true,f53r3_c a l p r (i+1) (acc++[(⟨i,0,b⟩:SH)]) (by rw [List.length_append]; simp; omega),List.append_assoc]; rfl
theorem f53r3_1(a:AA)(l:AL)(p:Int)(h:a.Bids.length≤1000):(f53r3n1 a l p).bind (fun o=>match o with | .norm v=>f54r1 v)=some (rkd a.Bids l):=by
 unfold f53r3n1;rw [f53r3n2_run a l p [] (Qao (by omega)),f53r3_c a l p a.Bids 0 [] (by simp; omega)];simp only [Option.bind_some,List.nil_append];exact f54_eq (by have:=all_ln a.Bids l; unfold all_ at this; omega)
theorem f53r3_2(a:AA)(l:AL)(p:Int)(h:a.Bids.length≤1000){γ:Type}(k:List SH→Option γ):((f53r3n1 a l p).bind fun o=>match o with | .norm v=>(f54r1 v).bind k)=k (rkd a.Bids l):=by
 have:=f53r3_1 a l p h;cases e:f53r3n1 a l p with
 | none=>rw [e] at this; cases this
 | some o =>
  cases o with
  | norm v =>
   rw [e] at this;simp only [Option.bind_some] at this ⊢;rw [this]; rfl

theorem f53r9_c(a:AA)(l:AL)(p:Int):∀(r:List AB)(i:Int)(acc:List SH),acc.length+r.length≤1000→f53r9n2L a l p r i acc=some (.exit0 (acc++(zs r i).filter (rk l)))
 | [],i,acc,_=>by rw [f53r9n2L,zs,List.filter_nil,List.append_nil]
 | b::r,i,acc,h=>by
  rw [List.length_cons] at h;rw [f53r9n2L,zs,List.filter_cons];have hr:rk l ⟨i,0,b⟩=(seq b.Lot l.Name&&decide (l.Reserve≤b.Price)):=rfl;rw [hr];cases seq b.Lot l.Name with
  | false=>exact f53r9_c a l p r (i+1) acc (by omega)
  | true =>
   cases decide (l.Reserve≤b.Price) with
   | false=>exact f53r9_c a l p r (i+1) acc (by omega)
   | true =>
    simp only [cond_true,Bool.and_self,if_true];rw [req,Qaw (by omega) (by omega),cond_true,f53r9_c a l p r (i+1) (acc++[(⟨i,0,b⟩:SH)]) (by rw [List.length_append]; simp; omega),List.append_assoc]; rfl
theorem f53r9_1(a:AA)(l:AL)(p:Int)(h:a.Bids.length≤1000):(f53r9n1 a l p).bind (fun o=>match o with | .norm v=>f54r1 v)=some (rkd a.Bids l):=by
 unfold f53r9n1;rw [f53r9n2_run a l p [] (Qao (by omega)),f53r9_c a l p a.Bids 0 [] (by simp; omega)];simp only [Option.bind_some,List.nil_append];exact f54_eq (by have:=all_ln a.Bids l; unfold all_ at this; omega)
theorem f53r9_2(a:AA)(l:AL)(p:Int)(h:a.Bids.length≤1000){γ:Type}(k:List SH→Option γ):((f53r9n1 a l p).bind fun o=>match o with | .norm v=>(f54r1 v).bind k)=k (rkd a.Bids l):=by
 have:=f53r9_1 a l p h;cases e:f53r9n1 a l p with
 | none=>rw [e] at this; cases this
 | some o =>
  cases o with
  | norm v =>
   rw [e] at this;simp only [Option.bind_some] at this ⊢;rw [this]; rfl

theorem f53r6_c(a:AA)(l:AL)(p:Int)(o:List AW):∀(r:List AB)(i:Int)(acc:List SH),acc.length+r.length≤1000→f53r6n2L a l p o r i acc=some (.exit0 (acc++(zs r i).filter (rk l)))
 | [],i,acc,_=>by rw [f53r6n2L,zs,List.filter_nil,List.append_nil]
 | b::r,i,acc,h=>by
  rw [List.length_cons] at h;rw [f53r6n2L,zs,List.filter_cons];have hr:rk l ⟨i,0,b⟩=(seq b.Lot l.Name&&decide (l.Reserve≤b.Price)):=rfl;rw [hr];cases seq b.Lot l.Name with
  | false=>exact f53r6_c a l p o r (i+1) acc (by omega)
  | true =>
   cases decide (l.Reserve≤b.Price) with
   | false=>exact f53r6_c a l p o r (i+1) acc (by omega)
   | true =>
    simp only [cond_true,Bool.and_self,if_true];rw [req,Qaw (by omega) (by omega),cond_true,f53r6_c a l p o r (i+1) (acc++[(⟨i,0,b⟩:SH)]) (by rw [List.length_append]; simp; omega),List.append_assoc]; rfl
theorem f53r6_1(a:AA)(l:AL)(p:Int)(o:List AW)(h:a.Bids.length≤1000):(f53r6n1 a l p o).bind (fun o=>match o with | .norm v=>f54r1 v)=some (rkd a.Bids l):=by
 unfold f53r6n1;rw [f53r6n2_run a l p o [] (Qao (by omega)),f53r6_c a l p o a.Bids 0 [] (by simp; omega)];simp only [Option.bind_some,List.nil_append];exact f54_eq (by have:=all_ln a.Bids l; unfold all_ at this; omega)
theorem f53r6_2(a:AA)(l:AL)(p:Int)(o:List AW)(h:a.Bids.length≤1000){γ:Type}(k:List SH→Option γ):((f53r6n1 a l p o).bind fun o=>match o with | .norm v=>(f54r1 v).bind k)=k (rkd a.Bids l):=by
 have:=f53r6_1 a l p o h;cases e:f53r6n1 a l p o with
 | none=>rw [e] at this; cases this
 | some o =>
  cases o with
  | norm v =>
   rw [e] at this;simp only [Option.bind_some] at this ⊢;rw [this]; rfl

theorem f53r7_c(a:AA)(l:AL)(p:Int)(o:List AW):∀(r:List AB)(i:Int)(acc:List SH),acc.length+r.length≤1000→f53r7n2L a l p o r i acc=some (.exit0 (acc++(zs r i).filter (rk l)))
 | [],i,acc,_=>by rw [f53r7n2L,zs,List.filter_nil,List.append_nil]
 | b::r,i,acc,h=>by
  rw [List.length_cons] at h;rw [f53r7n2L,zs,List.filter_cons];have hr:rk l ⟨i,0,b⟩=(seq b.Lot l.Name&&decide (l.Reserve≤b.Price)):=rfl;rw [hr];cases seq b.Lot l.Name with
  | false=>exact f53r7_c a l p o r (i+1) acc (by omega)
  | true =>
   cases decide (l.Reserve≤b.Price) with
   | false=>exact f53r7_c a l p o r (i+1) acc (by omega)
   | true =>
    simp only [cond_true,Bool.and_self,if_true];rw [req,Qaw (by omega) (by omega),cond_true,f53r7_c a l p o r (i+1) (acc++[(⟨i,0,b⟩:SH)]) (by rw [List.length_append]; simp; omega),List.append_assoc]; rfl
theorem f53r7_1(a:AA)(l:AL)(p:Int)(o:List AW)(h:a.Bids.length≤1000):(f53r7n1 a l p o).bind (fun o=>match o with | .norm v=>f54r1 v)=some (rkd a.Bids l):=by
 unfold f53r7n1;rw [f53r7n2_run a l p o [] (Qao (by omega)),f53r7_c a l p o a.Bids 0 [] (by simp; omega)];simp only [Option.bind_some,List.nil_append];exact f54_eq (by have:=all_ln a.Bids l; unfold all_ at this; omega)
theorem f53r7_2(a:AA)(l:AL)(p:Int)(o:List AW)(h:a.Bids.length≤1000){γ:Type}(k:List SH→Option γ):((f53r7n1 a l p o).bind fun o=>match o with | .norm v=>(f54r1 v).bind k)=k (rkd a.Bids l):=by
 have:=f53r7_1 a l p o h;cases e:f53r7n1 a l p o with
 | none=>rw [e] at this; cases this
 | some o =>
  cases o with
  | norm v =>
   rw [e] at this;simp only [Option.bind_some] at this ⊢;rw [this]; rfl

theorem f53r8_c(a:AA)(l:AL)(p:Int)(o:List AW):∀(r:List AB)(i:Int)(acc:List SH),acc.length+r.length≤1000→f53r8n2L a l p o r i acc=some (.exit0 (acc++(zs r i).filter (rk l)))
 | [],i,acc,_=>by rw [f53r8n2L,zs,List.filter_nil,List.append_nil]
 | b::r,i,acc,h=>by
  rw [List.length_cons] at h;rw [f53r8n2L,zs,List.filter_cons];have hr:rk l ⟨i,0,b⟩=(seq b.Lot l.Name&&decide (l.Reserve≤b.Price)):=rfl;rw [hr];cases seq b.Lot l.Name with
  | false=>exact f53r8_c a l p o r (i+1) acc (by omega)
  | true =>
   cases decide (l.Reserve≤b.Price) with
   | false=>exact f53r8_c a l p o r (i+1) acc (by omega)
   | true =>
    simp only [cond_true,Bool.and_self,if_true];rw [req,Qaw (by omega) (by omega),cond_true,f53r8_c a l p o r (i+1) (acc++[(⟨i,0,b⟩:SH)]) (by rw [List.length_append]; simp; omega),List.append_assoc]; rfl
theorem f53r8_1(a:AA)(l:AL)(p:Int)(o:List AW)(h:a.Bids.length≤1000):(f53r8n1 a l p o).bind (fun o=>match o with | .norm v=>f54r1 v)=some (rkd a.Bids l):=by
 unfold f53r8n1;rw [f53r8n2_run a l p o [] (Qao (by omega)),f53r8_c a l p o a.Bids 0 [] (by simp; omega)];simp only [Option.bind_some,List.nil_append];exact f54_eq (by have:=all_ln a.Bids l; unfold all_ at this; omega)
theorem f53r8_2(a:AA)(l:AL)(p:Int)(o:List AW)(h:a.Bids.length≤1000){γ:Type}(k:List SH→Option γ):((f53r8n1 a l p o).bind fun o=>match o with | .norm v=>(f54r1 v).bind k)=k (rkd a.Bids l):=by
 have:=f53r8_1 a l p o h;cases e:f53r8n1 a l p o with
 | none=>rw [e] at this; cases this
 | some o =>
  cases o with
  | norm v =>
   rw [e] at this;simp only [Option.bind_some] at this ⊢;rw [this]; rfl
theorem f53r6_l(a:AA)(l:AL)(p:Int){xs:List SH}(hx:xs.length≤1000)(ho:uOk xs):∀(r:List SH)(f k:Nat)(n:Int)(o:List AW),xs.drop k=r→r.length<f→0≤n→n≤1048576→o.length+r.length≤100000 →
  ∃z,f53r6n4 f xs a l p n (k:Int) o=some z∧(z = .exit2 (o++tk (fun _=>p) n r)∨z = .ret (o++tk (fun _=>p) n r))
 | _,0,_,_,_,_,h,_,_,_=>absurd h (Nat.not_lt_zero _)
 | [],f+1,k,n,o,hd,_,_,_,_=>by
  have:=Qac hd;rw [f53r6n4,decide_eq_false (by omega),cond_false,tk,List.append_nil];exact ⟨_,rfl,.inl rfl⟩
 | s::r,f+1,k,n,o,hd,hf,h0,h1,hl=>by
  have hk:=dropAt hd;have hu:=ho s (List.mem_of_mem_drop (hd ▸ List.mem_cons_self));have hn':0≤n-min n s.bid.Units∧n-min n s.bid.Units≤1048576:=by omega
  have hw:wr64 (n-min n s.bid.Units)=n-min n s.bid.Units:=wrIn (by omega) (by omega);rw [f53r6n4,decide_eq_true (by have:=hk.2.1; omega),cond_true];unfold f53r6n3 f12y2n0;rw [hk.1];simp only [Option.bind_some,mnI_eq,hw];rw [tk]
  by_cases hz:min n s.bid.Units=0
  ·rw [decide_eq_true hz];exact ⟨_,rfl,.inr (by rw [cond_true,List.append_nil])⟩
  ·rw [decide_eq_false hz,cond_false,cond_false,req,Qaw (by simp at hl; omega) (by omega),cond_true,wrSucc (by have:=hk.2.1; omega)];obtain ⟨z,e1,e2⟩:=f53r6_l a l p hx ho r f (k+1) (n-min n s.bid.Units) (o++[⟨s.index,min n s.bid.Units,p⟩]) hk.2.2 (by simpa using hf) hn'.1 hn'.2 (by simp at hl ⊢; omega);rw [List.append_assoc] at e2;exact ⟨z,e1,e2⟩
theorem f53r6_eq{a:AA}{l:AL}(p:Int)(o:List AW)(hb:a.Bids.length≤100)(hu:∀b∈a.Bids,1≤b.Units∧b.Units≤1048576)(h0:0≤l.Units)(h1:l.Units≤1048576)(hl:o.length≤10000) :
  ∃q,f53r6 a l p o=some (q,o++tk (fun _=>p) l.Units (rkd a.Bids l)):=by
 have hr:=rkd_len a.Bids l;obtain ⟨z,e1,e2⟩:=f53r6_l a l p (xs:=rkd a.Bids l) (by omega) (fun s hs=>hu _ (zs_mem (Qbh.1 hs).1)) (rkd a.Bids l) FUEL 0 l.Units o rfl (Qaj (by omega)) h0 h1 (by omega);have e1':f53r6n4 FUEL (rkd a.Bids l) a l p l.Units 0 o=some z:=e1;unfold f53r6 f53r6n0;rw [f53r6_2 a l p o (by omega),e1'];rcases e2 with rfl | rfl
 ·exact ⟨_,rfl⟩
 ·exact ⟨_,rfl⟩
theorem f53r7_l(a:AA)(l:AL)(p:Int){xs:List SH}(hx:xs.length≤1000)(ho:uOk xs):∀(r:List SH)(f k:Nat)(n:Int)(o:List AW),xs.drop k=r→r.length<f→0≤n→n≤1048576→o.length+r.length≤100000 →
  ∃z,f53r7n4 f xs a l p n (k:Int) o=some z∧(z = .exit2 (o++tk (fun _=>p) n r)∨z = .ret (o++tk (fun _=>p) n r))
 | _,0,_,_,_,_,h,_,_,_=>absurd h (Nat.not_lt_zero _)
 | [],f+1,k,n,o,hd,_,_,_,_=>by
  have:=Qac hd;rw [f53r7n4,decide_eq_false (by omega),cond_false,tk,List.append_nil];exact ⟨_,rfl,.inl rfl⟩
 | s::r,f+1,k,n,o,hd,hf,h0,h1,hl=>by
  have hk:=dropAt hd;have hu:=ho s (List.mem_of_mem_drop (hd ▸ List.mem_cons_self));have hn':0≤n-min n s.bid.Units∧n-min n s.bid.Units≤1048576:=by omega
  have hw:wr64 (n-min n s.bid.Units)=n-min n s.bid.Units:=wrIn (by omega) (by omega);rw [f53r7n4,decide_eq_true (by have:=hk.2.1; omega),cond_true];unfold f53r7n3 f12y4n0;rw [hk.1];simp only [Option.bind_some,mnI_eq,hw];rw [tk]
  by_cases hz:min n s.bid.Units=0
  ·rw [decide_eq_true hz];exact ⟨_,rfl,.inr (by rw [cond_true,List.append_nil])⟩
  ·rw [decide_eq_false hz,cond_false,cond_false,req,Qaw (by simp at hl; omega) (by omega),cond_true,wrSucc (by have:=hk.2.1; omega)];obtain ⟨z,e1,e2⟩:=f53r7_l a l p hx ho r f (k+1) (n-min n s.bid.Units) (o++[⟨s.index,min n s.bid.Units,p⟩]) hk.2.2 (by simpa using hf) hn'.1 hn'.2 (by simp at hl ⊢; omega);rw [List.append_assoc] at e2;exact ⟨z,e1,e2⟩
theorem f53r7_eq{a:AA}{l:AL}(p:Int)(o:List AW)(hb:a.Bids.length≤100)(hu:∀b∈a.Bids,1≤b.Units∧b.Units≤1048576)(h0:0≤l.Units)(h1:l.Units≤1048576)(hl:o.length≤10000) :
  ∃q,f53r7 a l p o=some (q,o++tk (fun _=>p) l.Units (rkd a.Bids l)):=by
 have hr:=rkd_len a.Bids l;obtain ⟨z,e1,e2⟩:=f53r7_l a l p (xs:=rkd a.Bids l) (by omega) (fun s hs=>hu _ (zs_mem (Qbh.1 hs).1)) (rkd a.Bids l) FUEL 0 l.Units o rfl (Qaj (by omega)) h0 h1 (by omega);have e1':f53r7n4 FUEL (rkd a.Bids l) a l p l.Units 0 o=some z:=e1;unfold f53r7 f53r7n0;rw [f53r7_2 a l p o (by omega),e1'];rcases e2 with rfl | rfl
 ·exact ⟨_,rfl⟩
 ·exact ⟨_,rfl⟩
theorem f53r8_l(a:AA)(l:AL)(p:Int){xs:List SH}(hx:xs.length≤1000)(ho:uOk xs):∀(r:List SH)(f k:Nat)(n:Int)(o:List AW),xs.drop k=r→r.length<f→0≤n→n≤1048576→o.length+r.length≤100000 →
  ∃z,f53r8n4 f xs a l p n (k:Int) o=some z∧(z = .exit2 (o++tk (fun s=>s.bid.Price) n r)∨z = .ret (o++tk (fun s=>s.bid.Price) n r))
 | _,0,_,_,_,_,h,_,_,_=>absurd h (Nat.not_lt_zero _)
 | [],f+1,k,n,o,hd,_,_,_,_=>by
  have:=Qac hd;rw [f53r8n4,decide_eq_false (by omega),cond_false,tk,List.append_nil];exact ⟨_,rfl,.inl rfl⟩
 | s::r,f+1,k,n,o,hd,hf,h0,h1,hl=>by
  have hk:=dropAt hd;have hu:=ho s (List.mem_of_mem_drop (hd ▸ List.mem_cons_self));have hn':0≤n-min n s.bid.Units∧n-min n s.bid.Units≤1048576:=by omega
  have hw:wr64 (n-min n s.bid.Units)=n-min n s.bid.Units:=wrIn (by omega) (by omega);rw [f53r8n4,decide_eq_true (by have:=hk.2.1; omega),cond_true];unfold f53r8n3 f12y6n0;rw [hk.1];simp only [Option.bind_some,mnI_eq,hw];rw [tk]
  by_cases hz:min n s.bid.Units=0
  ·rw [decide_eq_true hz];exact ⟨_,rfl,.inr (by rw [cond_true,List.append_nil])⟩
  ·rw [decide_eq_false hz,cond_false,cond_false,req,Qaw (by simp at hl; omega) (by omega),cond_true,wrSucc (by have:=hk.2.1; omega)];obtain ⟨z,e1,e2⟩:=f53r8_l a l p hx ho r f (k+1) (n-min n s.bid.Units) (o++[⟨s.index,min n s.bid.Units,s.bid.Price⟩]) hk.2.2 (by simpa using hf) hn'.1 hn'.2 (by simp at hl ⊢; omega);rw [List.append_assoc] at e2;exact ⟨z,e1,e2⟩
theorem f53r8_eq{a:AA}{l:AL}(p:Int)(o:List AW)(hb:a.Bids.length≤100)(hu:∀b∈a.Bids,1≤b.Units∧b.Units≤1048576)(h0:0≤l.Units)(h1:l.Units≤1048576)(hl:o.length≤10000) :
  ∃q,f53r8 a l p o=some (q,o++tk (fun s=>s.bid.Price) l.Units (rkd a.Bids l)):=by
 have hr:=rkd_len a.Bids l;obtain ⟨z,e1,e2⟩:=f53r8_l a l p (xs:=rkd a.Bids l) (by omega) (fun s hs=>hu _ (zs_mem (Qbh.1 hs).1)) (rkd a.Bids l) FUEL 0 l.Units o rfl (Qaj (by omega)) h0 h1 (by omega);have e1':f53r8n4 FUEL (rkd a.Bids l) a l p l.Units 0 o=some z:=e1;unfold f53r8 f53r8n0;rw [f53r8_2 a l p o (by omega),e1'];rcases e2 with rfl | rfl
 ·exact ⟨_,rfl⟩
 ·exact ⟨_,rfl⟩
theorem f53r1_l(a:AA)(l:AL){xs:List SH}(hx:xs.length≤1000)(ho:uOk xs):∀(r:List SH)(f k:Nat)(n p:Int),xs.drop k=r→r.length<f→0≤n→n≤1048576 →
  f53r1n4 f xs a l n (k:Int) p=some (.exit2 (lowP p n r))
 | _,0,_,_,_,_,h,_,_=>absurd h (Nat.not_lt_zero _)
 | [],f+1,k,n,p,hd,_,_,_=>by
  have:=Qac hd;rw [f53r1n4,decide_eq_false (by omega),cond_false,lowP]
 | s::r,f+1,k,n,p,hd,hf,h0,h1=>by
  have hk:=dropAt hd;have hu:=ho s (List.mem_of_mem_drop (hd ▸ List.mem_cons_self));have hn':0≤n-min n s.bid.Units∧n-min n s.bid.Units≤1048576:=by omega
  have hw:wr64 (n-min n s.bid.Units)=n-min n s.bid.Units:=wrIn (by omega) (by omega);rw [f53r1n4,decide_eq_true (by have:=hk.2.1; omega),cond_true];unfold f53r1n3 f56y1n0;rw [hk.1];simp only [Option.bind_some,mnI_eq,hw];rw [lowP];cases decide (0<min n s.bid.Units)<;>simp only [cond_true,cond_false,Option.bind_some]<;>rw [wrSucc (by have:=hk.2.1; omega)]<;>exact f53r1_l a l hx ho r f (k+1) _ _ hk.2.2 (by simpa using hf) hn'.1 hn'.2
theorem f56_eq{a:AA}{l:AL}(hb:a.Bids.length≤100)(hu:∀b∈a.Bids,1≤b.Units∧b.Units≤1048576)(h0:0≤l.Units)(h1:l.Units≤1048576) :
  f56r1 l a=some (lowP l.Reserve l.Units (rkd a.Bids l)):=by
 have hr:=rkd_len a.Bids l;have e1:=f53r1_l a l (xs:=rkd a.Bids l) (by omega) (fun s hs=>hu _ (zs_mem (Qbh.1 hs).1)) (rkd a.Bids l) FUEL 0 l.Units l.Reserve rfl (Qaj (by omega)) h0 h1;have e1':f53r1n4 FUEL (rkd a.Bids l) a l l.Units 0 l.Reserve=_:=e1;have e2:f53r1 a l l.Reserve=some (lowP l.Reserve l.Units (rkd a.Bids l)):=by
  unfold f53r1 f53r1n0;rw [f53r1_2 a l l.Reserve (by omega),e1']; rfl
 unfold f56r1 f56r1n0 f56r1n1 f56r1n2;rw [e2]; rfl
theorem f53r3_l(a:AA)(l:AL)(p:Int){xs:List SH}(hx:xs.length≤1000)(ho:uOk xs):∀(r:List SH)(f k:Nat)(n q:Int),xs.drop k=r→r.length<f→0≤n→n≤1048576 →
  ∃z,f53r3n4 f xs a l p n (k:Int)=some z∧(z = .exit2∧rejP q n r=q∨z = .ret (rejP q n r))
 | _,0,_,_,_,_,h,_,_=>absurd h (Nat.not_lt_zero _)
 | [],f+1,k,n,q,hd,_,_,_=>by
  have:=Qac hd;rw [f53r3n4,decide_eq_false (by omega),cond_false,rejP];exact ⟨_,rfl,.inl ⟨rfl,rfl⟩⟩
 | s::r,f+1,k,n,q,hd,hf,h0,h1=>by
  have hk:=dropAt hd;have hu:=ho s (List.mem_of_mem_drop (hd ▸ List.mem_cons_self));have hn':0≤n-min n s.bid.Units∧n-min n s.bid.Units≤1048576:=by omega
  have hw:wr64 (n-min n s.bid.Units)=n-min n s.bid.Units:=wrIn (by omega) (by omega);rw [f53r3n4,decide_eq_true (by have:=hk.2.1; omega),cond_true];unfold f53r3n3 f57y1n0;rw [hk.1];simp only [Option.bind_some,mnI_eq,hw];rw [rejP];cases decide (min n s.bid.Units<s.bid.Units) with
  | true=>exact ⟨_,rfl,.inr rfl⟩
  | false =>
   simp only [cond_false,Option.bind_some];rw [wrSucc (by have:=hk.2.1; omega)];exact f53r3_l a l p hx ho r f (k+1) _ q hk.2.2 (by simpa using hf) hn'.1 hn'.2
theorem f57_eq{a:AA}{l:AL}(hb:a.Bids.length≤100)(hu:∀b∈a.Bids,1≤b.Units∧b.Units≤1048576)(h0:0≤l.Units)(h1:l.Units≤1048576) :
  f57r1 l a=some (rejP l.Reserve l.Units (rkd a.Bids l)):=by
 have hr:=rkd_len a.Bids l;obtain ⟨z,e1,e3⟩:=f53r3_l a l 0 (xs:=rkd a.Bids l) (by omega) (fun s hs=>hu _ (zs_mem (Qbh.1 hs).1)) (rkd a.Bids l) FUEL 0 l.Units l.Reserve rfl (Qaj (by omega)) h0 h1;have e1':f53r3n4 FUEL (rkd a.Bids l) a l 0 l.Units 0=some z:=e1;have e2:f53r3n0 a l 0=(some z).bind fun o=>match o with | .exit2=>some .norm | .ret v=>some (.ret v):=by
  unfold f53r3n0;rw [f53r3_2 a l 0 (by omega),e1'];cases z<;>rfl
 unfold f57r1 f57r1n0 f57r1n1 f57r1n2 f53r3;rw [e2];rcases e3 with ⟨rfl,e3⟩ | rfl
 ·rw [e3]; rfl
 ·rfl
theorem f53r9_l(a:AA)(l:AL){xs:List SH}(hx:xs.length≤1000)(ho:uOk xs):∀(r:List SH)(f k:Nat)(n q:Int),xs.drop k=r→r.length<f→0≤n→n≤1048576→n≤q→q≤1048576 →
  f53r9n4 f xs a l n (k:Int) q=some (.exit2 (lftN q n r))
 | _,0,_,_,_,_,h,_,_,_,_=>absurd h (Nat.not_lt_zero _)
 | [],f+1,k,n,q,hd,_,_,_,_,_=>by
  have:=Qac hd;rw [f53r9n4,decide_eq_false (by omega),cond_false,lftN]
 | s::r,f+1,k,n,q,hd,hf,h0,h1,h2,h3=>by
  have hk:=dropAt hd;have hu:=ho s (List.mem_of_mem_drop (hd ▸ List.mem_cons_self));have hn':0≤n-min n s.bid.Units∧n-min n s.bid.Units≤1048576:=by omega
  have hw:wr64 (n-min n s.bid.Units)=n-min n s.bid.Units:=wrIn (by omega) (by omega);rw [f53r9n4,decide_eq_true (by have:=hk.2.1; omega),cond_true];unfold f53r9n3 f18y1n0;rw [hk.1];simp only [Option.bind_some,mnI_eq,hw];rw [lftN,wrSucc (by have:=hk.2.1; omega),show wr64 (q-min n s.bid.Units)=q-min n s.bid.Units from wrIn (by omega) (by omega)];exact f53r9_l a l hx ho r f (k+1) _ _ hk.2.2 (by simpa using hf) hn'.1 hn'.2 (by omega) (by omega)
theorem f53r9_eq{a:AA}{l:AL}(hb:a.Bids.length≤100)(hu:∀b∈a.Bids,1≤b.Units∧b.Units≤1048576)(h0:0≤l.Units)(h1:l.Units≤1048576) :
  f53r9 a l l.Units=some (lftN l.Units l.Units (rkd a.Bids l)):=by
 have hr:=rkd_len a.Bids l;have e1:=f53r9_l a l (xs:=rkd a.Bids l) (by omega) (fun s hs=>hu _ (zs_mem (Qbh.1 hs).1)) (rkd a.Bids l) FUEL 0 l.Units l.Units rfl (Qaj (by omega)) h0 h1 (Int.le_refl _) h1;have e1':f53r9n4 FUEL (rkd a.Bids l) a l l.Units 0 l.Units=_:=e1;unfold f53r9 f53r9n0;rw [f53r9_2 a l l.Units (by omega),e1']; rfl
end Go.Proofs.Ythpceddjepbamaa
