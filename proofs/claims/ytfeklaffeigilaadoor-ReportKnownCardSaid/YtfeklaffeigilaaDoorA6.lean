/- Several texts in one. No condition. -/
import Derived.Test.YtfeklaffeigilaaDoorA3
namespace Go.Proofs.YtfeklaffeigilaaDoor
set_option linter.unusedVariables false
set_option linter.unusedSimpArgs false
set_option maxRecDepth 100000
open Go.RowKit
noncomputable def c53:Code:=Tryd.f53.body.getD .skip
inductive f53n0O where
 | ret
def f53n0E:f53n0O→Ex×Tr×Hp
 | .ret=>(.ret,mkS [(0,(.bp 0 0))],[some (.box 43 [(.pl (.sl .nil 0 []))])])
def f53n0S:Tr×Hp:=(Qae [] 0 .leaf,[])
noncomputable def f53n0:Option f53n0O :=
 some .ret
theorem f53n0_ok{o:f53n0O}(h:f53n0=some o):T Tryd.prog Tryd.f53.ntmps 0 c53 f53n0S (·=f53n0E o):=by
 unfold f53n0 at h;obtain rfl:=Qd h;exact rE Qh [j3,j3] [] [] [0] [0] (.ret,(f53n0E .ret).2) an rfl
noncomputable def f53:Option Qi:=f53n0.bind fun o=>match o with
 | .ret=>some (Qi.mk [])
theorem f53_ok{r:Qi}(h:f53=some r):Qo Tryd.prog false 53 [] [] (jA Qi.cells r) []:=by
 unfold f53 at h;obtain ⟨o,ho,h⟩:=Qe h;cases o with
 | ret =>
  obtain rfl:=Qd h;exact Qo.plain Qh (f:=Tryd.f53) (c:=c53) (by kernel_rfl) (by kernel_rfl) (by kernel_rfl) (by kernel_rfl) ((f53n0_ok  ho).mono fun r e=>by subst e; exact ⟨.inl rfl,(.pl (.agg [(.sl .nil 0 [])])),(.pl (.agg [(.sl .nil 0 [])])),by kernel_rfl,by kernel_rfl,((Wk.pl (WkP.agg (wpc (WkP.nil (f:=.nil) (sz:=0) (sz':=3)) wpn))):Wk (.pl (.agg [(.sl .nil 0 [])])) (.pl (.agg (Qi.cells (Qi.mk [])))))⟩)

noncomputable def c54:Code:=Tryd.f54.body.getD .skip
inductive f54n0O where
 | ret
def f54n0E(a1:Int):f54n0O→Ex×Tr×Hp
 | .ret=>(.ret,mkS [(2,(.own 0))],[some (.row false 3 ([(Qb.mk str_Ann Qap a1),(Qb.mk str_Bob Qap (wr64 (0-a1)))].map Qb.cells))])
def f54n0S(a1:Int):Tr×Hp:=(Qae [(jI a1)] 0 .leaf,[])
noncomputable def f54n0(a1:Int):Option f54n0O :=
 some .ret
theorem f54n0_ok(a1:Int){o:f54n0O}(h:f54n0 a1=some o):T Tryd.prog Tryd.f54.ntmps 0 c54 (f54n0S a1) (·=f54n0E a1 o):=by
 unfold f54n0 at h;obtain rfl:=Qd h;exact rE Qh [j3,j3] [] [] [0] [2] (.ret,(f54n0E a1 .ret).2) an rfl
noncomputable def f54(a1:Int):Option (List Qb):=(f54n0 a1).bind fun o=>match o with
 | .ret=>some [(Qb.mk str_Ann Qap a1),(Qb.mk str_Bob Qap (wr64 (0-a1)))]
theorem f54_ok(a1:Int){r:List Qb}(h:f54 a1=some r):Qo Tryd.prog false 54 [(jI a1)] [] (jL 3 Qb.cells r) []:=by
 unfold f54 at h;obtain ⟨o,ho,h⟩:=Qe h;cases o with
 | ret =>
  obtain rfl:=Qd h;exact Qo.plain Qh (f:=Tryd.f54) (c:=c54) (by kernel_rfl) (by kernel_rfl) (by kernel_rfl) (by kernel_rfl) ((f54n0_ok a1 ho).mono fun r e=>by subst e; exact ⟨.inl rfl,(.own 0),(.pl (.sl .any 3 ([(Qb.mk str_Ann Qap a1),(Qb.mk str_Bob Qap (wr64 (0-a1)))].map Qb.cells))),by kernel_rfl,by kernel_rfl,((Wk.refl _):Wk (.pl (.sl .any 3 ([(Qb.mk str_Ann Qap a1),(Qb.mk str_Bob Qap (wr64 (0-a1)))].map Qb.cells))) (.pl (.sl .any 3 ([(Qb.mk str_Ann Qap a1),(Qb.mk str_Bob Qap (wr64 (0-a1)))].map Qb.cells))))⟩)

noncomputable def c44:Code:=Tryd.f44.body.getD .skip
inductive f44r1n0O where
 | ret (v5:List Qb)
def f44r1n0E(a1:List Qb):f44r1n0O→Ex×Tr×Hp
 | .ret v5=>(.ret,mkS [(2,(.own 0))],[jR 3 Qb.cells v5])
def f44r1n0S(a1:List Qb):Tr×Hp:=(Qae [(jL 3 Qb.cells a1)] 0 .leaf,[])
noncomputable def f44r1n0(a1:List Qb):Option f44r1n0O :=
 bif (a1.isEmpty) then
  some (.ret [])
 else
  req (fit a1.length 40) <|
  some (.ret a1)
theorem f44r1n0_ok(a1:List Qb){o:f44r1n0O}(h:f44r1n0 a1=some o):T Tryd.prog Tryd.f44.ntmps 0 c44 (f44r1n0S a1) (·=f44r1n0E a1 o):=by
 unfold f44r1n0 at h;refine rN Qh 1 [j3] [] [] [] [0] (mkS [(0,(jL 3 Qb.cells a1))],[]) an ?_;refine T.nest (by kernel_rfl) ?_;rcases Qg h with ⟨h2,h⟩|⟨h2,h⟩
 ·refine rN Qh 0 [] [] [] [] [0] (mkS [(0,(jL 3 Qb.cells a1))],[]) an ?_;refine T.oneNil Qh (x:=.tmp 0) (t:=44) (t3:=3) (t4:=4) (sz:=3) (es:=(a1.map Qb.cells)) (by kernel_rfl) (by kernel_rfl) (by kernel_rfl) (by kernel_rfl) (by kernel_rfl) (fun b hb=>?_);cases b
  ·refine rE Qh [] [none] [] [] [0] (.norm,(mkS [(0,(jL 3 Qb.cells a1))],[])) an (ThenQ.norm ?_);obtain rfl:=Qd h;exact rE Qh [([],[(2,.app false)],[])] [] [] [0] [2] (.ret,(f44r1n0E a1 (.ret [])).2) (ap (nil_map (c:=Qb.cells) h2) an) rfl
  ·obtain rfl:=Qd h;exact rE Qh [j3] [none] [.mat 2 3] [0] [2] (.ret,(f44r1n0E a1 (.ret [])).2) an (ThenQ.out rfl rfl)
 ·refine rN Qh 0 [] [] [] [] [0] (mkS [(0,(jL 3 Qb.cells a1))],[]) an ?_;refine T.oneNil Qh (x:=.tmp 0) (t:=44) (t3:=3) (t4:=4) (sz:=3) (es:=(a1.map Qb.cells)) (by kernel_rfl) (by kernel_rfl) (by kernel_rfl) (by kernel_rfl) (by kernel_rfl) (fun b hb=>?_);cases b
  ·refine rE Qh [] [none] [] [] [0] (.norm,(mkS [(0,(jL 3 Qb.cells a1))],[])) an (ThenQ.norm ?_);obtain ⟨h4,h⟩:=Qah h;obtain rfl:=Qd h;exact rE Qh [([],[(2,.app true)],[])] [] [] [1] [2] (.ret,(f44r1n0E a1 (.ret a1)).2) (ap (fit_map0z (te:=ti92) (xs:=a1) (c:=Qb.cells) h4 rfl) (ap (ne_map (c:=Qb.cells) h2) (ap (len_all (c:=Qb.cells) (xs:=a1) (n:=3) (fun _=>rfl)) an))) rfl
  ·exact absurd (hb rfl) (ne_map (c:=Qb.cells) h2)
noncomputable def f44r1(a1:List Qb):Option (List Qb):=(f44r1n0 a1).bind fun o=>match o with
 | .ret v5=>some v5
theorem f44r1_ok(a1:List Qb){r:List Qb}(h:f44r1 a1=some r):Qo Tryd.prog true 44 [(jL 3 Qb.cells a1)] [] (.own 0) [jR 3 Qb.cells r]:=by
 unfold f44r1 at h;obtain ⟨o,ho,h⟩:=Qe h;cases o with
 | ret v5 =>
  obtain rfl:=Qd h;exact Qo.shared Qh (f:=Tryd.f44) (c:=c44) (by kernel_rfl) (by kernel_rfl) (by kernel_rfl) ((f44r1n0_ok a1 ho).mono fun r e=>by subst e; exact ⟨.inl rfl,by kernel_rfl,by kernel_rfl⟩)

noncomputable def c64:Code:=Tryd.f64.body.getD .skip
inductive f64n0O where
 | ret (v4:Bool)
def f64n0E(a1:Int):f64n0O→Ex×Tr×Hp
 | .ret v4=>(.ret,mkS [(2,(jB v4))],[])
def f64n0S(a1:Int):Tr×Hp:=(Qae [(jI a1)] 0 .leaf,[])
noncomputable def f64n0(a1:Int):Option f64n0O :=
 bif decide ((-1125899906842624)≤a1) then
  some (.ret (decide (a1≤1125899906842624)))
 else
  some (.ret false)
theorem f64n0_ok(a1:Int){o:f64n0O}(h:f64n0 a1=some o):T Tryd.prog Tryd.f64.ntmps 0 c64 (f64n0S a1) (·=f64n0E a1 o):=by
 unfold f64n0 at h;rcases Qg h with ⟨h3,h⟩|⟨h3,h⟩
 ·obtain rfl:=Qd h;exact rE Qh [j3,([(3,true),(4,true)],[(5,.bool true)],[])] [] [] [] [2] (.ret,(f64n0E a1 (.ret (decide (a1≤1125899906842624)))).2) (ap3 h3 an) rfl
 ·obtain rfl:=Qd h;exact rE Qh [j3,([(3,false),(4,false)],[(5,.bool false)],[])] [] [] [] [2] (.ret,(f64n0E a1 (.ret false)).2) (ap3 h3 an) rfl
noncomputable def f64(a1:Int):Option Bool:=(f64n0 a1).bind fun o=>match o with
 | .ret v4=>some v4
theorem f64_ok(a1:Int){r:Bool}(h:f64 a1=some r):Qo Tryd.prog false 64 [(jI a1)] [] (jB r) []:=by
 unfold f64 at h;obtain ⟨o,ho,h⟩:=Qe h;cases o with
 | ret v4 =>
  obtain rfl:=Qd h;exact Qo.plain Qh (f:=Tryd.f64) (c:=c64) (by kernel_rfl) (by kernel_rfl) (by kernel_rfl) (by kernel_rfl) ((f64n0_ok a1 ho).mono fun r e=>by subst e; exact ⟨.inl rfl,(jB v4),(jB v4),by kernel_rfl,by kernel_rfl,((Wk.refl _):Wk (jB v4) (jB v4))⟩)

noncomputable def c63:Code:=Tryd.f63.body.getD .skip
inductive f63n0O where
 | ret (v20:Bool)
def f63n0E(a1:Qb):f63n0O→Ex×Tr×Hp
 | .ret v20=>(.ret,mkS [(2,(jB v20))],[])
def f63n0S(a1:Qb):Tr×Hp:=(Qae [(jA Qb.cells a1)] 0 .leaf,[])
noncomputable def f63n0(a1:Qb):Option f63n0O :=
 (f40 a1.Account).bind fun x11 =>
 bif x11 then
  (f40 a1.Ccy).bind fun x14 =>
  bif x14 then
   bif decide (a1.Amount=0) then
    some (.ret true)
   else
    (f64 a1.Amount).bind fun x18 =>
    some (.ret (!x18))
  else
   some (.ret true)
 else
  some (.ret true)
theorem f63n0_ok(a1:Qb){o:f63n0O}(h:f63n0 a1=some o):T Tryd.prog Tryd.f63.ntmps 0 c63 (f63n0S a1) (·=f63n0E a1 o):=by
 unfold f63n0 at h;obtain ⟨x11,h12,h⟩:=Qe h;rcases Qg h with ⟨h13,h⟩|⟨h13,h⟩
 ·obtain ⟨x14,h15,h⟩:=Qe h;rcases Qg h with ⟨h16,h⟩|⟨h16,h⟩
  ·rcases Qg h with ⟨h17,h⟩|⟨h17,h⟩
   ·obtain rfl:=Qd h;exact rE Qh [j3,(jF [5,6,7,8,11,12,13]++jT [16,17,18,19],[jH 2 (jB x11),jH 7 (jB x14),(9,.bool false),(14,.bool false),(20,.bool true)],[])] [] [] [] [2] (.ret,(f63n0E a1 (.ret true)).2) (ap (Qm h13) (ap4 (Qm h13) (ap4 (Qm h16) (ap h17 (ap4 h17 (ap (Qai a1.Account h12) (ap (Qai a1.Ccy h15) an))))))) rfl
   ·obtain ⟨x18,h19,h⟩:=Qe h;obtain rfl:=Qd h;exact rE Qh [j3,(jF [5,6,7,8,11,12,13,16,17,18,19],[jH 2 (jB x11),jH 7 (jB x14),(9,.bool false),(14,.bool false),jH 18 (jB x18),(20,.bool false)],[])] [] [] [] [2] (.ret,(f63n0E a1 (.ret (!x18))).2) (ap (Qm h13) (ap4 (Qm h13) (ap4 (Qm h16) (ap h17 (ap4 h17 (ap (Qai a1.Account h12) (ap (Qai a1.Ccy h15) (ap (f64_ok a1.Amount h19) an)))))))) rfl
  ·obtain rfl:=Qd h;exact rE Qh [j3,(jF [5,6,7,8]++jT [11,12,13],[jH 2 (jB x11),jH 7 (jB x14),(9,.bool false),(14,.bool true)],[])] [] [] [] [2] (.ret,(f63n0E a1 (.ret true)).2) (ap (Qm h13) (ap4 (Qm h13) (ap4 (Qx h16) (ap (Qai a1.Account h12) (ap (Qai a1.Ccy h15) an))))) rfl
 ·obtain rfl:=Qd h;exact rE Qh [j3,(jT [5,6,7,8],[jH 2 (jB x11),(9,.bool true)],[])] [] [] [] [2] (.ret,(f63n0E a1 (.ret true)).2) (ap (Qx h13) (ap4 (Qx h13) (ap (Qai a1.Account h12) an))) rfl
noncomputable def f63(a1:Qb):Option Bool:=(f63n0 a1).bind fun o=>match o with
 | .ret v20=>some v20
theorem f63_ok(a1:Qb){r:Bool}(h:f63 a1=some r):Qo Tryd.prog false 63 [(jA Qb.cells a1)] [] (jB r) []:=by
 unfold f63 at h;obtain ⟨o,ho,h⟩:=Qe h;cases o with
 | ret v20 =>
  obtain rfl:=Qd h;exact Qo.plain Qh (f:=Tryd.f63) (c:=c63) (by kernel_rfl) (by kernel_rfl) (by kernel_rfl) (by kernel_rfl) ((f63n0_ok a1 ho).mono fun r e=>by subst e; exact ⟨.inl rfl,(jB v20),(jB v20),by kernel_rfl,by kernel_rfl,((Wk.refl _):Wk (jB v20) (jB v20))⟩)

noncomputable def c81:Code:=Tryd.f81.body.getD .skip
inductive f81_63n2O where
 | exit0
 | ret (v40:Int)
def f81_63n2E(bq1:List Qb):f81_63n2O→Ex×Tr×Hp
 | .exit0=>((.exit 0),mkS [],[])
 | .ret v40=>(.ret,mkS [(4,(jI v40))],[])
def f81_63n2S(bq1:List Qb)(v27:Int):Tr×Hp:=(mkS [(0,(jL 3 Qb.cells bq1)),(1,(.pl (.fn 63))),(7,(jI (bq1.length:Int))),(8,(jI v27))],[])
noncomputable def f81_63n2:Nat→List Qb→Int→Option f81_63n2O
 | 0,_,_=>none
 | f+1,bq1,v27 =>
  bif decide (v27<(bq1.length:Int)) then
   (at? bq1 v27).bind fun x35 =>
   (f63 x35).bind fun x37 =>
   bif x37 then
    some (.ret v27)
   else
    (f81_63n2 f bq1 (wr64 (v27+1)))
  else
   some .exit0
theorem f81_63n2_ok:∀(f:Nat)(bq1:List Qb)(v27:Int){o:f81_63n2O},f81_63n2 f bq1 v27=some o→TL Tryd.prog Tryd.f81.ntmps 0 f (cL (cL (Qn 1 (cL (Qn 1 c81))))) (f81_63n2S bq1 v27) (·=f81_63n2E bq1 o)
 | 0,_,_,o,h=>by rw [f81_63n2] at h; cases h
 | f+1,bq1,v27,o,h=>by
  rw [f81_63n2] at h;refine TL.body (K:=fun s=>∃v27:Int,s=(f81_63n2S bq1 v27)∧f81_63n2 f bq1 v27=some o) ?_ (by rintro _ ⟨v27,rfl,hk⟩; exact f81_63n2_ok f _ _ hk);rcases Qg h with ⟨h29,h⟩|⟨h29,h⟩
  ·obtain ⟨x35,h36,h⟩:=Qe h;obtain ⟨x37,h38,h⟩:=Qe h;rcases Qg h with ⟨h39,h⟩|⟨h39,h⟩
   ·obtain rfl:=Qd h;exact rK Qh 3 [j3,j3,([],[(3,.idx (Int.toNat v27) (Qb.cells x35)),jH 5 (jB x37)],[]),j3] [some true,some true] [] [] [4] .ret ((f81_63n2E bq1 (.ret v27)).2) (ap h29 (ap (Qk h36).1 (ap (Qt Qb.cells (Qk h36).2) (ap (f63_ok x35 h38) (ap h39 an))))) (Qv.out rfl rfl)
   ·exact rE Qh [j3,j3,([],[(3,.idx (Int.toNat v27) (Qb.cells x35)),jH 5 (jB x37)],[]),j3] [some true,some false] [] [] [0,1,7,8] (.norm,(f81_63n2S bq1 (wr64 (v27+1)))) (ap h29 (ap (Qk h36).1 (ap (Qt Qb.cells (Qk h36).2) (ap (f63_ok x35 h38) (ap h39 an))))) (Qv.norm ⟨(wr64 (v27+1)),rfl,h⟩)
  ·obtain rfl:=Qd h;exact rK Qh 2 [j3] [some false] [] [] [] (.exit 0) ((f81_63n2E bq1 .exit0).2) (ap h29 an) (Qv.out rfl rfl)
noncomputable def f81_63n2L(bq1:List Qb):List Qb→Int→Option f81_63n2O
 | [],v27 =>
  some .exit0
 | x0::rest,v27 =>
  (f63 x0).bind fun x37 =>
  bif x37 then
   some (.ret v27)
  else
   (f81_63n2L bq1 rest (v27+1))
theorem f81_63n2L_eq(bq1:List Qb):∀(rest:List Qb)(f k:Nat),bq1.drop k=rest→bq1.length≤maxLen→rest.length<f→f81_63n2 f bq1 (k:Int)=f81_63n2L bq1 rest (k:Int)
 | _,0,_,_,_,hf=>absurd hf (Nat.not_lt_zero _)
 | [],f+1,k,hd,hm,hf=>by
  have hk:¬((k:Int)<(bq1.length:Int)):=by have:=Qak hd; omega
  rw [f81_63n2,f81_63n2L];simp only [decide_eq_false hk,cond_false]
 | x0::rest,f+1,k,hd,hm,hf=>by
  obtain ⟨hx,hlt,hd'⟩:=Qaj hd;have hk:(k:Int)<(bq1.length:Int):=by omega
  have hw:wr64 ((k:Int)+1)=(k:Int)+1:=Qbk (by omega) (by unfold maxLen at hm; omega);have ih:f81_63n2 f bq1 ((k:Int)+1)=f81_63n2L bq1 rest ((k:Int)+1):=f81_63n2L_eq bq1 rest f (k+1) hd' hm (by simpa using hf);rw [f81_63n2,f81_63n2L];simp only [decide_eq_true hk,cond_true,at_nat,hx,Option.bind_some,hw,ih]
theorem f81_63n2_run(bq1:List Qb)(hm:bq1.length≤maxLen):f81_63n2 FUEL bq1 0=f81_63n2L bq1 bq1 0:=f81_63n2L_eq bq1 bq1 FUEL 0 List.drop_zero hm (Qbi hm)
inductive f81_63n1O where
 | norm
 | ret (v44:Int)
def f81_63n1E(bq1:List Qb):f81_63n1O→Ex×Tr×Hp
 | .norm=>(.norm,mkS [],[])
 | .ret v44=>(.ret,mkS [(4,(jI v44))],[])
def f81_63n1S(bq1:List Qb):Tr×Hp:=(mkS [(0,(jL 3 Qb.cells bq1)),(1,(.pl (.fn 63)))],[])
noncomputable def f81_63n1(bq1:List Qb):Option f81_63n1O :=
 (f81_63n2 FUEL bq1 0).bind fun o41=>match o41 with
 | .exit0=>some .norm
 | .ret v43=>some (.ret v43)
theorem f81_63n1_ok(bq1:List Qb){o:f81_63n1O}(h:f81_63n1 bq1=some o):T Tryd.prog Tryd.f81.ntmps 0 (cL (Qn 1 c81)) (f81_63n1S bq1) (·=f81_63n1E bq1 o):=by
 unfold f81_63n1 at h;refine rN Qh 1 [([],[],[(1,.val (jI (bq1.length:Int)))])] [] [] [] [0,1,7,8] (f81_63n2S bq1 0) (ap (Qu (xs:=bq1) (c:=Qb.cells)) an) ?_;obtain ⟨o41,h42,h⟩:=Qe h;cases o41 with
 | exit0 =>
  obtain rfl:=Qd h;exact T.last' (T.bl (i:=0) (by kernel_rfl) (by kernel_rfl) (f81_63n2_ok FUEL bq1 0 h42)) (tds:=[]) (m:=[]) (keep:=[]) (st2:=(f81_63n1E bq1 .norm).2) (by kernel_rfl) an rfl
 | ret v43 =>
  obtain rfl:=Qd h;exact T.last' (T.bl (i:=0) (by kernel_rfl) (by kernel_rfl) (f81_63n2_ok FUEL bq1 0 h42)) (tds:=[]) (m:=[]) (keep:=[4]) (st2:=(f81_63n1E bq1 (.ret v43)).2) (by kernel_rfl) an rfl
inductive f81_63n0O where
 | ret (v48:Int)
def f81_63n0E(a1:List Qb):f81_63n0O→Ex×Tr×Hp
 | .ret v48=>(.ret,mkS [(4,(jI v48))],[])
def f81_63n0S(a1:List Qb):Tr×Hp:=(Qae [(jL 3 Qb.cells a1),(.pl (.fn 63))] 0 .leaf,[])
noncomputable def f81_63n0(a1:List Qb):Option f81_63n0O :=
 (f81_63n1 a1).bind fun o45=>match o45 with
 | .norm=>some (.ret (-1))
 | .ret v47=>some (.ret v47)
theorem f81_63n0_ok(a1:List Qb){o:f81_63n0O}(h:f81_63n0 a1=some o):T Tryd.prog Tryd.f81.ntmps 0 c81 (f81_63n0S a1) (·=f81_63n0E a1 o):=by
 unfold f81_63n0 at h;refine rN Qh 1 [j3] [] [] [] [0,1] (f81_63n1S a1) an ?_;obtain ⟨o45,h46,h⟩:=Qe h;cases o45 with
 | norm =>
  refine T.oneN (by kernel_rfl) (f81_63n1_ok a1 h46) (st2:=(f81_63n1E a1 .norm).2) rfl ?_;obtain rfl:=Qd h;exact rE Qh [j3] [] [] [] [4] (.ret,(f81_63n0E a1 (.ret (-1))).2) an rfl
 | ret v47 =>
  obtain rfl:=Qd h;exact T.oneX' (by kernel_rfl) (f81_63n1_ok a1 h46) (tds:=[]) (m:=[]) (keep:=[4]) (st2:=(f81_63n0E a1 (.ret v47)).2) (by kernel_rfl) an rfl rfl
noncomputable def f81_63(a1:List Qb):Option Int:=(f81_63n0 a1).bind fun o=>match o with
 | .ret v48=>some v48
theorem f81_63_ok(a1:List Qb){r:Int}(h:f81_63 a1=some r):Qo Tryd.prog false 81 [(jL 3 Qb.cells a1),(.pl (.fn 63))] [] (jI r) []:=by
 unfold f81_63 at h;obtain ⟨o,ho,h⟩:=Qe h;cases o with
 | ret v48 =>
  obtain rfl:=Qd h;exact Qo.plain Qh (f:=Tryd.f81) (c:=c81) (by kernel_rfl) (by kernel_rfl) (by kernel_rfl) (by kernel_rfl) ((f81_63n0_ok a1 ho).mono fun r e=>by subst e; exact ⟨.inl rfl,(jI v48),(jI v48),by kernel_rfl,by kernel_rfl,((Wk.refl _):Wk (jI v48) (jI v48))⟩)

noncomputable def c65:Code:=Tryd.f65.body.getD .skip
inductive f65_63n0O where
 | ret (v6:Bool)
def f65_63n0E(a1:List Qb):f65_63n0O→Ex×Tr×Hp
 | .ret v6=>(.ret,mkS [(4,(jB v6))],[])
def f65_63n0S(a1:List Qb):Tr×Hp:=(Qae [(jL 3 Qb.cells a1),(.pl (.fn 63))] 0 .leaf,[])
noncomputable def f65_63n0(a1:List Qb):Option f65_63n0O :=
 (f81_63 a1).bind fun x4 =>
 some (.ret (decide (0≤x4)))
theorem f65_63n0_ok(a1:List Qb){o:f65_63n0O}(h:f65_63n0 a1=some o):T Tryd.prog Tryd.f65.ntmps 0 c65 (f65_63n0S a1) (·=f65_63n0E a1 o):=by
 unfold f65_63n0 at h;obtain ⟨x4,h5,h⟩:=Qe h;obtain rfl:=Qd h;exact rE Qh [j3,([],[jH 2 (jI x4)],[])] [] [] [] [4] (.ret,(f65_63n0E a1 (.ret (decide (0≤x4)))).2) (ap (f81_63_ok a1 h5) an) rfl
noncomputable def f65_63(a1:List Qb):Option Bool:=(f65_63n0 a1).bind fun o=>match o with
 | .ret v6=>some v6
theorem f65_63_ok(a1:List Qb){r:Bool}(h:f65_63 a1=some r):Qo Tryd.prog false 65 [(jL 3 Qb.cells a1),(.pl (.fn 63))] [] (jB r) []:=by
 unfold f65_63 at h;obtain ⟨o,ho,h⟩:=Qe h;cases o with
 | ret v6 =>
  obtain rfl:=Qd h;exact Qo.plain Qh (f:=Tryd.f65) (c:=c65) (by kernel_rfl) (by kernel_rfl) (by kernel_rfl) (by kernel_rfl) ((f65_63n0_ok a1 ho).mono fun r e=>by subst e; exact ⟨.inl rfl,(jB v6),(jB v6),by kernel_rfl,by kernel_rfl,((Wk.refl _):Wk (jB v6) (jB v6))⟩)

noncomputable def c46:Code:=Tryd.f46.body.getD .skip
inductive f46n2O where
 | exit0
 | ret
def f46n2E(bp1:Qc):f46n2O→Ex×Tr×Hp
 | .exit0=>((.exit 0),mkS [(1,(.bp 0 0))],[some (.box 46 ((Qc.cells bp1).map .pl))])
 | .ret=>(.ret,mkS [(2,(jB false))],[])
def f46n2S(bp1:Qc)(v25:Int):Tr×Hp:=(mkS [(1,(.bp 0 0)),(9,(.pl (.sl .any 1 ((ofB bp1.Text).map (cInt .u8))))),(10,(jI ((ofB bp1.Text).length:Int))),(11,(jI v25))],[some (.box 46 ((Qc.cells bp1).map .pl))])
noncomputable def f46n2:Nat→Qc→Int→Option f46n2O
 | 0,_,_=>none
 | f+1,bp1,v25 =>
  bif (decide (v25<((ofB bp1.Text).length:Int))) then
   (at? (ofB bp1.Text) v25).bind fun x32 =>
   bif decide (x32<32) then
    some .ret
   else
    bif decide (126<x32) then
     some .ret
    else
     (f46n2 f bp1 (wr64 (v25+1)))
  else
   some .exit0
theorem f46n2_ok:∀(f:Nat)(bp1:Qc)(v25:Int){o:f46n2O},f46n2 f bp1 v25=some o→TL Tryd.prog Tryd.f46.ntmps 0 f (cL (cL (Qn 1 (cL (Qn 1 c46))))) (f46n2S bp1 v25) (·=f46n2E bp1 o)
 | 0,_,_,o,h=>by rw [f46n2] at h; cases h
 | f+1,bp1,v25,o,h=>by
  rw [f46n2] at h;refine TL.body (K:=fun s=>∃v25:Int,s=(f46n2S bp1 v25)∧f46n2 f bp1 v25=some o) ?_ (by rintro _ ⟨v25,rfl,hk⟩; exact f46n2_ok f _ _ hk);rcases Qg h with ⟨h27,h⟩|⟨h27,h⟩
  ·obtain ⟨x32,h33,h⟩:=Qe h;rcases Qg h with ⟨h34,h⟩|⟨h34,h⟩
   ·obtain rfl:=Qd h;exact rK Qh 3 [j3,([],[(0,.idx (Int.toNat v25) ((cInt .u8) x32))],[]),([(3,true),(4,true)],[(5,.bool true)],[]),j3] [some true,none] [] [] [2] .ret ((f46n2E bp1 .ret).2) (ap h27 (ap (Qk h33).1 (ap (Qt (cInt .u8) (Qk h33).2) (ap3 h34 an)))) (Qv.out rfl rfl)
   ·rcases Qg h with ⟨h35,h⟩|⟨h35,h⟩
    ·obtain rfl:=Qd h;exact rK Qh 3 [j3,([],[(0,.idx (Int.toNat v25) ((cInt .u8) x32))],[]),([(3,false),(4,false)],[(5,.bool false)],[]),j3] [some true,some true] [] [] [2] .ret ((f46n2E bp1 .ret).2) (ap h27 (ap (Qk h33).1 (ap (Qt (cInt .u8) (Qk h33).2) (ap3 h34 (ap h35 an))))) (Qv.out rfl rfl)
    ·exact rE Qh [j3,([],[(0,.idx (Int.toNat v25) ((cInt .u8) x32))],[]),([(3,false),(4,false)],[(5,.bool false)],[]),j3] [some true,some false] [] [0] [1,9,10,11] (.norm,(f46n2S bp1 (wr64 (v25+1)))) (ap h27 (ap (Qk h33).1 (ap (Qt (cInt .u8) (Qk h33).2) (ap3 h34 (ap h35 an))))) (Qv.norm ⟨(wr64 (v25+1)),rfl,h⟩)
  ·obtain rfl:=Qd h;exact rK Qh 2 [j3] [some false] [] [0] [1] (.exit 0) ((f46n2E bp1 .exit0).2) (ap h27 an) (Qv.out rfl rfl)
noncomputable def f46n2L(bp1:Qc):List Int→Int→Option f46n2O
 | [],v25 =>
  some .exit0
 | x0::rest,v25 =>
  bif decide (x0<32) then
   some .ret
  else
   bif decide (126<x0) then
    some .ret
   else
    (f46n2L bp1 rest (v25+1))
theorem f46n2L_eq(bp1:Qc):∀(rest:List Int)(f k:Nat),(ofB bp1.Text).drop k=rest→(ofB bp1.Text).length≤maxLen→rest.length<f→f46n2 f bp1 (k:Int)=f46n2L bp1 rest (k:Int)
 | _,0,_,_,_,hf=>absurd hf (Nat.not_lt_zero _)
 | [],f+1,k,hd,hm,hf=>by
  have hk:¬((k:Int)<((ofB bp1.Text).length:Int)):=by have:=Qak hd; omega
  rw [f46n2,f46n2L];simp only [decide_eq_false hk,cond_false]
 | x0::rest,f+1,k,hd,hm,hf=>by
  obtain ⟨hx,hlt,hd'⟩:=Qaj hd;have hk:(k:Int)<((ofB bp1.Text).length:Int):=by omega
  have hw:wr64 ((k:Int)+1)=(k:Int)+1:=Qbk (by omega) (by unfold maxLen at hm; omega);have ih:f46n2 f bp1 ((k:Int)+1)=f46n2L bp1 rest ((k:Int)+1):=f46n2L_eq bp1 rest f (k+1) hd' hm (by simpa using hf);rw [f46n2,f46n2L];simp only [decide_eq_true hk,cond_true,at_nat,hx,Option.bind_some,hw,ih]
theorem f46n2_run(bp1:Qc)(hm:(ofB bp1.Text).length≤maxLen):f46n2 FUEL bp1 0=f46n2L bp1 (ofB bp1.Text) 0:=f46n2L_eq bp1 (ofB bp1.Text) FUEL 0 List.drop_zero hm (Qbi hm)
inductive f46n1O where
 | norm
 | ret
def f46n1E(bp1:Qc):f46n1O→Ex×Tr×Hp
 | .norm=>(.norm,mkS [(1,(.bp 0 0))],[some (.box 46 ((Qc.cells bp1).map .pl))])
 | .ret=>(.ret,mkS [(2,(jB false))],[])
def f46n1S(bp1:Qc):Tr×Hp:=(mkS [(1,(.bp 0 0))],[some (.box 46 ((Qc.cells bp1).map .pl))])
noncomputable def f46n1(bp1:Qc):Option f46n1O :=
 req (decide (bp1.Text.size≤9223372036854775807)) <|
 (f46n2 FUEL bp1 0).bind fun o36=>match o36 with
 | .exit0=>some .norm
 | .ret=>some .ret
theorem f46n1_ok(bp1:Qc){o:f46n1O}(h:f46n1 bp1=some o):T Tryd.prog Tryd.f46.ntmps 0 (cL (Qn 1 c46)) (f46n1S bp1) (·=f46n1E bp1 o):=by
 unfold f46n1 at h;obtain ⟨h3,h⟩:=Qah h;refine rN Qh 1 [([],[(2,.fits)],[(2,.val (.pl (.sl .any 1 ((ofB bp1.Text).map (cInt .u8))))),(3,.val (jI ((ofB bp1.Text).length:Int)))])] [] [] [0] [1,9,10,11] (f46n2S bp1 0) (ap (of_decide_eq_true h3) (ap (congrArg (fun l=>AV.pl (.sl .any 1 l)) (ofB_cv (s:=bp1.Text))) (ap (Qu (xs:=(ofB bp1.Text)) (c:=(cInt .u8))) an))) ?_;obtain ⟨o36,h37,h⟩:=Qe h;cases o36 with
 | exit0 =>
  obtain rfl:=Qd h;exact T.last' (T.bl (i:=0) (by kernel_rfl) (by kernel_rfl) (f46n2_ok FUEL bp1 0 h37)) (tds:=[]) (m:=[0]) (keep:=[1]) (st2:=(f46n1E bp1 .norm).2) (by kernel_rfl) an rfl
 | ret =>
  obtain rfl:=Qd h;exact T.last' (T.bl (i:=0) (by kernel_rfl) (by kernel_rfl) (f46n2_ok FUEL bp1 0 h37)) (tds:=[]) (m:=[]) (keep:=[2]) (st2:=(f46n1E bp1 .ret).2) (by kernel_rfl) an rfl
inductive f46n0O where
 | ret (v54:Bool)
def f46n0E(a1:Qc):f46n0O→Ex×Tr×Hp
 | .ret v54=>(.ret,mkS [(2,(jB v54))],[])
def f46n0S(a1:Qc):Tr×Hp:=(Qae [(jA Qc.cells a1)] 0 .leaf,[])
noncomputable def f46n0(a1:Qc):Option f46n0O :=
 (f46n1 a1).bind fun o38=>match o38 with
 | .norm=>bif decide (0≤a1.Day) then
   bif decide (a1.Day≤99999) then
    bif decide ((a1.Text.size:Int)≤100) then
     bif decide (2≤(a1.Lines.length:Int)) then
      bif decide ((a1.Lines.length:Int)≤20) then
       (f65_63 a1.Lines).bind fun x52 =>
       some (.ret (!x52))
      else
       some (.ret false)
     else
      some (.ret false)
    else
     some (.ret false)
   else
    some (.ret false)
  else
   some (.ret false)
 | .ret=>some (.ret false)
theorem f46n0_ok(a1:Qc){o:f46n0O}(h:f46n0 a1=some o):T Tryd.prog Tryd.f46.ntmps 0 c46 (f46n0S a1) (·=f46n0E a1 o):=by
 unfold f46n0 at h;refine rN Qh 1 [j3] [] [] [0] [1] (f46n1S a1) an ?_;obtain ⟨o38,h39,h⟩:=Qe h;cases o38 with
 | norm =>
  refine T.oneN (by kernel_rfl) (f46n1_ok a1 h39) (st2:=(f46n1E a1 .norm).2) rfl ?_;rcases Qg h with ⟨h47,h⟩|⟨h47,h⟩
  ·rcases Qg h with ⟨h48,h⟩|⟨h48,h⟩
   ·rcases Qg h with ⟨h49,h⟩|⟨h49,h⟩
    ·rcases Qg h with ⟨h50,h⟩|⟨h50,h⟩
     ·rcases Qg h with ⟨h51,h⟩|⟨h51,h⟩
      ·obtain ⟨x52,h53,h⟩:=Qe h;obtain rfl:=Qd h;exact rE Qh [j3,([],[],[(2,.val (jI (a1.Lines.length:Int)))]),(jT [4,5,6,9,10,11,12,15,16,19,20,23,24,25,26,27],[(7,.bool true),(13,.bool true),(17,.bool true),(21,.bool true),jH 26 (jB x52),(28,.bool true)],[])] [] [] [] [2] (.ret,(f46n0E a1 (.ret (!x52))).2) (ap (Qu (xs:=a1.Lines) (c:=Qb.cells)) (ap4 h47 (ap h48 (ap4 h48 (ap3 h49 (ap3 h50 (ap2 h51 (ap4 h51 (ap (f65_63_ok a1.Lines h53) an))))))))) rfl
      ·obtain rfl:=Qd h;exact rE Qh [j3,([],[],[(2,.val (jI (a1.Lines.length:Int)))]),(jF [23,24,25,26,27]++jT [4,5,6,9,10,11,12,15,16,19,20],[(7,.bool true),(13,.bool true),(17,.bool true),(21,.bool true),(28,.bool false)],[])] [] [] [] [2] (.ret,(f46n0E a1 (.ret false)).2) (ap (Qu (xs:=a1.Lines) (c:=Qb.cells)) (ap4 h47 (ap h48 (ap4 h48 (ap3 h49 (ap3 h50 (ap2 h51 (ap4 h51 an)))))))) rfl
     ·obtain rfl:=Qd h;exact rE Qh [j3,([],[],[(2,.val (jI (a1.Lines.length:Int)))]),(jF [19,20]++jT [4,5,6,9,10,11,12,15,16],[(7,.bool true),(13,.bool true),(17,.bool true),(21,.bool false)],[])] [] [] [] [2] (.ret,(f46n0E a1 (.ret false)).2) (ap (Qu (xs:=a1.Lines) (c:=Qb.cells)) (ap4 h47 (ap h48 (ap4 h48 (ap3 h49 (ap3 h50 an)))))) rfl
    ·obtain rfl:=Qd h;exact rE Qh [j3,([],[],[(2,.val (jI (a1.Lines.length:Int)))]),(jF [15,16]++jT [4,5,6,9,10,11,12],[(7,.bool true),(13,.bool true),(17,.bool false)],[])] [] [] [] [2] (.ret,(f46n0E a1 (.ret false)).2) (ap (Qu (xs:=a1.Lines) (c:=Qb.cells)) (ap4 h47 (ap h48 (ap4 h48 (ap3 h49 an))))) rfl
   ·obtain rfl:=Qd h;exact rE Qh [j3,([],[],[(2,.val (jI (a1.Lines.length:Int)))]),(jF [9,10,11,12]++jT [4,5,6],[(7,.bool true),(13,.bool false)],[])] [] [] [] [2] (.ret,(f46n0E a1 (.ret false)).2) (ap (Qu (xs:=a1.Lines) (c:=Qb.cells)) (ap4 h47 (ap h48 (ap4 h48 an)))) rfl
  ·obtain rfl:=Qd h;exact rE Qh [j3,([],[],[(2,.val (jI (a1.Lines.length:Int)))]),(jF [4,5,6],[(7,.bool false)],[])] [] [] [] [2] (.ret,(f46n0E a1 (.ret false)).2) (ap (Qu (xs:=a1.Lines) (c:=Qb.cells)) (ap4 h47 an)) rfl
 | ret =>
  obtain rfl:=Qd h;exact T.oneX' (by kernel_rfl) (f46n1_ok a1 h39) (tds:=[]) (m:=[]) (keep:=[2]) (st2:=(f46n0E a1 (.ret false)).2) (by kernel_rfl) an rfl rfl
noncomputable def f46(a1:Qc):Option Bool:=(f46n0 a1).bind fun o=>match o with
 | .ret v54=>some v54
theorem f46_ok(a1:Qc){r:Bool}(h:f46 a1=some r):Qo Tryd.prog false 46 [(jA Qc.cells a1)] [] (jB r) []:=by
 unfold f46 at h;obtain ⟨o,ho,h⟩:=Qe h;cases o with
 | ret v54 =>
  obtain rfl:=Qd h;exact Qo.plain Qh (f:=Tryd.f46) (c:=c46) (by kernel_rfl) (by kernel_rfl) (by kernel_rfl) (by kernel_rfl) ((f46n0_ok a1 ho).mono fun r e=>by subst e; exact ⟨.inl rfl,(jB v54),(jB v54),by kernel_rfl,by kernel_rfl,((Wk.refl _):Wk (jB v54) (jB v54))⟩)

noncomputable def c47:Code:=Tryd.f47.body.getD .skip
inductive f47n2O where
 | exit0 (v24:List (ByteArray×Int))
def f47n2E(bp1:Qc):f47n2O→Ex×Tr×Hp
 | .exit0 v24=>((.exit 0),mkS [(3,(.mp 0))],[some (.map (v24.map (mkv pStr (pInt .i64))))])
def f47n2S(bp1:Qc)(v16:Int)(v17:List (ByteArray×Int)):Tr×Hp:=(mkS [(3,(.mp 0)),(10,(jL 3 Qb.cells bp1.Lines)),(11,(jI (bp1.Lines.length:Int))),(12,(jI v16))],[some (.map (v17.map (mkv pStr (pInt .i64))))])
noncomputable def f47n2:Nat→Qc→Int→List (ByteArray×Int)→Option f47n2O
 | 0,_,_,_=>none
 | f+1,bp1,v16,v17 =>
  bif decide (v16<(bp1.Lines.length:Int)) then
   (at? bp1.Lines v16).bind fun x22 =>
   (f47n2 f bp1 (wr64 (v16+1)) (mPut seq x22.Ccy (wr64 ((mGet seq 0 x22.Ccy v17)+x22.Amount)) v17))
  else
   some (.exit0 v17)
theorem f47n2_ok:∀(f:Nat)(bp1:Qc)(v16:Int)(v17:List (ByteArray×Int)){o:f47n2O},f47n2 f bp1 v16 v17=some o→TL Tryd.prog Tryd.f47.ntmps 0 f (cL (cL (Qn 1 (cL (Qn 2 c47))))) (f47n2S bp1 v16 v17) (·=f47n2E bp1 o)
 | 0,_,_,_,o,h=>by rw [f47n2] at h; cases h
 | f+1,bp1,v16,v17,o,h=>by
  rw [f47n2] at h;refine TL.body (K:=fun s=>∃v16:Int,∃v17:List (ByteArray×Int),s=(f47n2S bp1 v16 v17)∧f47n2 f bp1 v16 v17=some o) ?_ (by rintro _ ⟨v16,v17,rfl,hk⟩; exact f47n2_ok f _ _ _ hk);rcases Qg h with ⟨h19,h⟩|⟨h19,h⟩
  ·obtain ⟨x22,h23,h⟩:=Qe h;exact rE Qh [j3,([],[(0,.idx (Int.toNat v16) (Qb.cells x22))],[]),([],[(3,.look ((pInt .i64) (mGet seq 0 x22.Ccy v17)) (mHas seq x22.Ccy v17)),(7,.mset ((mPut seq x22.Ccy (wr64 ((mGet seq 0 x22.Ccy v17)+x22.Amount)) v17).map (mkv pStr (pInt .i64))))],[]),j3] [some true] [] [0] [3,10,11,12] (.norm,(f47n2S bp1 (wr64 (v16+1)) (mPut seq x22.Ccy (wr64 ((mGet seq 0 x22.Ccy v17)+x22.Amount)) v17))) (ap h19 (ap (Qk h23).1 (ap (Qt Qb.cells (Qk h23).2) (ap (look_map (vp:=(pInt .i64)) (e:=3) key_9 0 (by kernel_rfl) x22.Ccy v17) (ap (mset_map (vp:=(pInt .i64)) key_9 x22.Ccy (wr64 ((mGet seq 0 x22.Ccy v17)+x22.Amount)) v17) an))))) (Qv.norm ⟨(wr64 (v16+1)),(mPut seq x22.Ccy (wr64 ((mGet seq 0 x22.Ccy v17)+x22.Amount)) v17),rfl,h⟩)
  ·obtain rfl:=Qd h;exact rK Qh 2 [j3] [some false] [] [0] [3] (.exit 0) ((f47n2E bp1 (.exit0 v17)).2) (ap h19 an) (Qv.out rfl rfl)
noncomputable def f47n2L(bp1:Qc):List Qb→Int→(List (ByteArray×Int))→Option f47n2O
 | [],v16,v17 =>
  some (.exit0 v17)
 | x0::rest,v16,v17 =>
  (f47n2L bp1 rest (v16+1) (mPut seq x0.Ccy (wr64 ((mGet seq 0 x0.Ccy v17)+x0.Amount)) v17))
theorem f47n2L_eq(bp1:Qc):∀(rest:List Qb)(f k:Nat)(v17:List (ByteArray×Int)),bp1.Lines.drop k=rest→bp1.Lines.length≤maxLen→rest.length<f→f47n2 f bp1 (k:Int) v17=f47n2L bp1 rest (k:Int) v17
 | _,0,_,_,_,_,hf=>absurd hf (Nat.not_lt_zero _)
 | [],f+1,k,v17,hd,hm,hf=>by
  have hk:¬((k:Int)<(bp1.Lines.length:Int)):=by have:=Qak hd; omega
  rw [f47n2,f47n2L];simp only [decide_eq_false hk,cond_false]
 | x0::rest,f+1,k,v17,hd,hm,hf=>by
  obtain ⟨hx,hlt,hd'⟩:=Qaj hd;have hk:(k:Int)<(bp1.Lines.length:Int):=by omega
  have hw:wr64 ((k:Int)+1)=(k:Int)+1:=Qbk (by omega) (by unfold maxLen at hm; omega);have ih:∀(v17:List (ByteArray×Int)),f47n2 f bp1 ((k:Int)+1) v17=f47n2L bp1 rest ((k:Int)+1) v17:=fun v17=>f47n2L_eq bp1 rest f (k+1) v17 hd' hm (by simpa using hf);rw [f47n2,f47n2L];simp only [decide_eq_true hk,cond_true,at_nat,hx,Option.bind_some,hw,ih]
theorem f47n2_run(bp1:Qc)(v17:List (ByteArray×Int))(hm:bp1.Lines.length≤maxLen):f47n2 FUEL bp1 0 v17=f47n2L bp1 bp1.Lines 0 v17:=f47n2L_eq bp1 bp1.Lines FUEL 0 v17 List.drop_zero hm (Qbi hm)
inductive f47n1O where
 | norm (v28:List (ByteArray×Int))
def f47n1E(bp1:Qc):f47n1O→Ex×Tr×Hp
 | .norm v28=>(.norm,mkS [(3,(.mp 0))],[some (.map (v28.map (mkv pStr (pInt .i64))))])
def f47n1S(bp1:Qc):Tr×Hp:=(mkS [(1,(.bp 0 0)),(3,(.mp 1))],[some (.box 46 ((Qc.cells bp1).map .pl)),some (.map ([].map (mkv pStr (pInt .i64))))])
noncomputable def f47n1(bp1:Qc):Option f47n1O :=
 (f47n2 FUEL bp1 0 []).bind fun o25=>match o25 with
 | .exit0 v27=>some (.norm v27)
theorem f47n1_ok(bp1:Qc){o:f47n1O}(h:f47n1 bp1=some o):T Tryd.prog Tryd.f47.ntmps 0 (cL (Qn 2 c47)) (f47n1S bp1) (·=f47n1E bp1 o):=by
 unfold f47n1 at h;refine rN Qh 1 [([],[],[(2,.val (jI (bp1.Lines.length:Int)))])] [] [] [1] [3,10,11,12] (f47n2S bp1 0 []) (ap (Qu (xs:=bp1.Lines) (c:=Qb.cells)) an) ?_;obtain ⟨o25,h26,h⟩:=Qe h;cases o25 with
 | exit0 v27 =>
  obtain rfl:=Qd h;exact T.last' (T.bl (i:=0) (by kernel_rfl) (by kernel_rfl) (f47n2_ok FUEL bp1 0 [] h26)) (tds:=[]) (m:=[0]) (keep:=[3]) (st2:=(f47n1E bp1 (.norm v27)).2) (by kernel_rfl) an rfl
inductive f47n4O where
 | exit2
 | ret
def f47n4E(bg1:List (ByteArray×Int)):f47n4O→Ex×Tr×Hp
 | .exit2=>((.exit 2),mkS [],[])
 | .ret=>(.ret,mkS [(2,(jB false))],[])
def f47n4S(bg1:List (ByteArray×Int))(sn0:List Nat):Tr×Hp:=(mkS [(25,(.it 0))],[some (.iter 1 (bg1.map (mkv pStr (pInt .i64))).length sn0),some (.map (bg1.map (mkv pStr (pInt .i64))))])
noncomputable def f47n4(bg1:List (ByteArray×Int)):List (ByteArray×Int)→Option f47n4O
 | [] =>
  some .exit2
 | x38::rest =>
  bif decide (x38.2=0) then
   (f47n4 bg1 rest)
  else
   some .ret
theorem f47n4_ok(bg1:List (ByteArray×Int)):∀(f:Nat)(sn0 rem:List Nat){o:f47n4O},Rem bg1.length sn0 rem→rem.length<f→(∀p,p.Perm rem→f47n4 bg1 (ords bg1 p)=some o)→TL Tryd.prog Tryd.f47.ntmps 0 f (cL (cL (Qn 1 (cL (Qn 0 (Qn 1 (Qn 2 c47))))))) (f47n4S bg1 sn0) (·=f47n4E bg1 o)
 | 0,_,_,_,_,hf,_=>absurd hf (Nat.not_lt_zero _)
 | f+1,sn0,rem,o,hR,hf,H=>by
  refine TL.body (K:=fun s=>∃(sn0 rem:List Nat),s=f47n4S bg1 sn0∧Rem bg1.length sn0 rem∧rem.length<f∧(∀p,p.Perm rem→f47n4 bg1 (ords bg1 p)=some o)) ?_ (by rintro _ ⟨sn0,rem,rfl,h1,h2,h3⟩; exact f47n4_ok bg1 f sn0 rem h1 h2 h3);refine T.oneNext Qh (x:=.tmp 25) (t:=26) (tb:=27) (i:=0) (o:=1) (m:=(bg1.map (mkv pStr (pInt .i64))).length) (seen:=sn0) (kvs:=(bg1.map (mkv pStr (pInt .i64)))) (by kernel_rfl) (by kernel_rfl) (by kernel_rfl) (by kernel_rfl) (by kernel_rfl) (by kernel_rfl) rfl (fun hs=>?_) (fun j37 k v hj hs hx=>?_)
  ·obtain rfl:=hR.none (by simpa using hs);have h:f47n4 bg1 []=some o:=H [] (List.Perm.refl _);rw [f47n4] at h;obtain rfl:=Qd h;exact rK Qh 1 [] [none] [] [] [] (.exit 2) ((f47n4E bg1 .exit2).2) an (Qv.out rfl rfl)
  ·obtain ⟨x38,h39,rfl,rfl⟩:=mkv_at hx;obtain ⟨hR2,hlen,hP⟩:=hR.step (j:=j37) (by simpa using hj) hs;have H2:∀p,p.Perm (rem.erase j37)→f47n4 bg1 (x38::ords bg1 p)=some o:=fun p hp=>by have h:=H _ (hP p hp); rwa [ords_cons h39] at h
   have h:=H2 _ (List.Perm.refl _);rw [f47n4] at h;rcases Qg h with ⟨h41,h⟩|⟨h41,h⟩
   ·exact rE Qh [([],[(0,.entr j37 (pStr x38.1) ((pInt .i64) x38.2))],[]),j3] [none,some false] [] [0,1] [25] (.norm,(f47n4S bg1 (sn0++[j37]))) (ap (last_app (seen:=sn0) (j:=j37)) (ap (rfl:(bg1.map (mkv pStr (pInt .i64))).length=(bg1.map (mkv pStr (pInt .i64))).length) (ap (at_mkv (kp:=pStr) (vp:=(pInt .i64)) h39) (ap (Qm h41) an)))) (Qv.norm ⟨sn0++[j37],rem.erase j37,rfl,hR2,by omega,fun p hp=>by have h:=H2 p hp; rw [f47n4] at h; simp only [h41,cond_true,cond_false,Option.bind_some,req] at h; exact h⟩)
   ·obtain rfl:=Qd h;exact rE Qh [([],[(0,.entr j37 (pStr x38.1) ((pInt .i64) x38.2))],[]),j3,j3] [none,some true] [] [] [2] (.ret,(f47n4E bg1 .ret).2) (ap (last_app (seen:=sn0) (j:=j37)) (ap (rfl:(bg1.map (mkv pStr (pInt .i64))).length=(bg1.map (mkv pStr (pInt .i64))).length) (ap (at_mkv (kp:=pStr) (vp:=(pInt .i64)) h39) (ap (Qx h41) an)))) (Qv.out rfl rfl)
inductive f47n3O where
 | norm
 | ret
def f47n3E(bg1:List (ByteArray×Int)):f47n3O→Ex×Tr×Hp
 | .norm=>(.norm,mkS [],[])
 | .ret=>(.ret,mkS [(2,(jB false))],[])
def f47n3S(bg1:List (ByteArray×Int)):Tr×Hp:=(mkS [(3,(.mp 0))],[some (.map (bg1.map (mkv pStr (pInt .i64))))])
noncomputable def f47n3(bg1:List (ByteArray×Int)):Option f47n3O :=
 (anyOrder bg1 fun p=>(f47n4 bg1 p)).bind fun o42=>match o42 with
 | .exit2=>some .norm
 | .ret=>some .ret
theorem f47n3_ok(bg1:List (ByteArray×Int)){o:f47n3O}(h:f47n3 bg1=some o):T Tryd.prog Tryd.f47.ntmps 0 (cL (Qn 0 (Qn 1 (Qn 2 c47)))) (f47n3S bg1) (·=f47n3E bg1 o):=by
 unfold f47n3 at h;refine rN Qh 1 [j3] [] [] [1,0] [25] (f47n4S bg1 []) an ?_;obtain ⟨o42,h43,h⟩:=Qe h;cases o42 with
 | exit2 =>
  obtain rfl:=Qd h;exact T.last' (T.bl (i:=2) (by kernel_rfl) (by kernel_rfl) (f47n4_ok bg1 _ [] (List.range bg1.length) (Rem.start _) (Nat.lt_succ_self _) (fun p hp=>anyOrder_at h43 _ (ords_perm hp)))) (tds:=[]) (m:=[]) (keep:=[]) (st2:=(f47n3E bg1 .norm).2) (by kernel_rfl) an rfl
 | ret =>
  obtain rfl:=Qd h;exact T.last' (T.bl (i:=2) (by kernel_rfl) (by kernel_rfl) (f47n4_ok bg1 _ [] (List.range bg1.length) (Rem.start _) (Nat.lt_succ_self _) (fun p hp=>anyOrder_at h43 _ (ords_perm hp)))) (tds:=[]) (m:=[]) (keep:=[2]) (st2:=(f47n3E bg1 .ret).2) (by kernel_rfl) an rfl
inductive f47n0O where
 | ret (v46:Bool)
def f47n0E(a1:Qc):f47n0O→Ex×Tr×Hp
 | .ret v46=>(.ret,mkS [(2,(jB v46))],[])
def f47n0S(a1:Qc):Tr×Hp:=(Qae [(jA Qc.cells a1)] 0 .leaf,[])
noncomputable def f47n0(a1:Qc):Option f47n0O :=
 (f47n1 a1).bind fun o29=>match o29 with
 | .norm v31=>(f47n3 v31).bind fun o44=>match o44 with
  | .norm=>some (.ret true)
  | .ret=>some (.ret false)
theorem f47n0_ok(a1:Qc){o:f47n0O}(h:f47n0 a1=some o):T Tryd.prog Tryd.f47.ntmps 0 c47 (f47n0S a1) (·=f47n0E a1 o):=by
 unfold f47n0 at h;refine rN Qh 2 [j3,j3] [] [] [0,1] [1,3] (f47n1S a1) an ?_;obtain ⟨o29,h30,h⟩:=Qe h;cases o29 with
 | norm v31 =>
  refine T.oneN (by kernel_rfl) (f47n1_ok a1 h30) (st2:=(f47n1E a1 (.norm v31)).2) rfl ?_;refine rN Qh 0 [] [] [] [0] [3] (f47n3S v31) an ?_;obtain ⟨o44,h45,h⟩:=Qe h;cases o44 with
  | norm =>
   refine T.oneN (by kernel_rfl) (f47n3_ok v31 h45) (st2:=(f47n3E v31 .norm).2) rfl ?_;obtain rfl:=Qd h;exact rE Qh [j3] [] [] [] [2] (.ret,(f47n0E a1 (.ret true)).2) an rfl
  | ret =>
   obtain rfl:=Qd h;exact T.oneX' (by kernel_rfl) (f47n3_ok v31 h45) (tds:=[]) (m:=[]) (keep:=[2]) (st2:=(f47n0E a1 (.ret false)).2) (by kernel_rfl) an rfl rfl
noncomputable def f47(a1:Qc):Option Bool:=(f47n0 a1).bind fun o=>match o with
 | .ret v46=>some v46
theorem f47_ok(a1:Qc){r:Bool}(h:f47 a1=some r):Qo Tryd.prog false 47 [(jA Qc.cells a1)] [] (jB r) []:=by
 unfold f47 at h;obtain ⟨o,ho,h⟩:=Qe h;cases o with
 | ret v46 =>
  obtain rfl:=Qd h;exact Qo.plain Qh (f:=Tryd.f47) (c:=c47) (by kernel_rfl) (by kernel_rfl) (by kernel_rfl) (by kernel_rfl) ((f47n0_ok a1 ho).mono fun r e=>by subst e; exact ⟨.inl rfl,(jB v46),(jB v46),by kernel_rfl,by kernel_rfl,((Wk.refl _):Wk (jB v46) (jB v46))⟩)

noncomputable def c82:Code:=Tryd.f82.body.getD .skip
inductive f82r1n0O where
 | ret (v9:Bool)
def f82r1n0E(a1:Qb)(a2 a3:Int)(a4:List (Qf×Int)):f82r1n0O→Ex×Tr×Hp
 | .ret v9=>(.ret,mkS [(3,(jB v9))],[some (.box 94 [(.bp 1 0)]),some (.box 100 [(.mp 2),(jI a2),(jI a3)]),some (.map (a4.map (mkv (pAgg Qf.cells) (pInt .i64))))])
def f82r1n0S(a1:Qb)(a2 a3:Int)(a4:List (Qf×Int)):Tr×Hp:=(Qae [(jA Qb.cells a1),(.bp 0 0)] 0 .leaf,[some (.box 94 [(.bp 1 0)]),some (.box 100 [(.mp 2),(jI a2),(jI a3)]),some (.map (a4.map (mkv (pAgg Qf.cells) (pInt .i64))))])
noncomputable def f82r1n0(a1:Qb)(a2 a3:Int)(a4:List (Qf×Int)):Option f82r1n0O :=
 (f64 (mGet Qf.eqb 0 (Qf.mk a1.Account a1.Ccy) a4)).bind fun x7 =>
 some (.ret (!x7))
theorem f82r1n0_ok(a1:Qb)(a2 a3:Int)(a4:List (Qf×Int)){o:f82r1n0O}(h:f82r1n0 a1 a2 a3 a4=some o):T Tryd.prog Tryd.f82.ntmps 3 c82 (f82r1n0S a1 a2 a3 a4) (·=f82r1n0E a1 a2 a3 a4 o):=by
 unfold f82r1n0 at h;obtain ⟨x7,h8,h⟩:=Qe h;obtain rfl:=Qd h;exact rE Qh [j3,([],[(9,.look ((pInt .i64) (mGet Qf.eqb 0 (Qf.mk a1.Account a1.Ccy) a4)) (mHas Qf.eqb (Qf.mk a1.Account a1.Ccy) a4)),jH 10 (jB x7)],[])] [] [] [] [3] (.ret,(f82r1n0E a1 a2 a3 a4 (.ret (!x7))).2) (ap (look_map (vp:=(pInt .i64)) (e:=3) key_107 0 (by kernel_rfl) (Qf.mk a1.Account a1.Ccy) a4) (ap (f64_ok (mGet Qf.eqb 0 (Qf.mk a1.Account a1.Ccy) a4) h8) an)) rfl
noncomputable def f82r1(a1:Qb)(a2 a3:Int)(a4:List (Qf×Int)):Option Bool:=(f82r1n0 a1 a2 a3 a4).bind fun o=>match o with
 | .ret v9=>some v9
theorem f82r1_ok(a1:Qb)(a2 a3:Int)(a4:List (Qf×Int)){r:Bool}(h:f82r1 a1 a2 a3 a4=some r):Qo Tryd.prog true 82 [(jA Qb.cells a1),(.bp 0 0)] [some (.box 94 [(.bp 1 0)]),some (.box 100 [(.mp 2),(jI a2),(jI a3)]),some (.map (a4.map (mkv (pAgg Qf.cells) (pInt .i64))))] (jB r) [some (.box 94 [(.bp 1 0)]),some (.box 100 [(.mp 2),(jI a2),(jI a3)]),some (.map (a4.map (mkv (pAgg Qf.cells) (pInt .i64))))]:=by
 unfold f82r1 at h;obtain ⟨o,ho,h⟩:=Qe h;cases o with
 | ret v9 =>
  obtain rfl:=Qd h;exact Qo.shared Qh (f:=Tryd.f82) (c:=c82) (by kernel_rfl) (by kernel_rfl) (by kernel_rfl) ((f82r1n0_ok a1 a2 a3 a4 ho).mono fun r e=>by subst e; exact ⟨.inl rfl,by kernel_rfl,by kernel_rfl⟩)

inductive f81r1n2O where
 | exit0
 | ret (v43:Int)
def f81r1n2E(bq1:List Qb)(bd2 bd3:Int)(br4:List (Qf×Int)):f81r1n2O→Ex×Tr×Hp
 | .exit0=>((.exit 0),mkS [],[some (.box 94 [(.bp 1 0)]),some (.box 100 [(.mp 2),(jI bd2),(jI bd3)]),some (.map (br4.map (mkv (pAgg Qf.cells) (pInt .i64))))])
 | .ret v43=>(.ret,mkS [(4,(jI v43))],[some (.box 94 [(.bp 1 0)]),some (.box 100 [(.mp 2),(jI bd2),(jI bd3)]),some (.map (br4.map (mkv (pAgg Qf.cells) (pInt .i64))))])
def f81r1n2S(bq1:List Qb)(bd2 bd3:Int)(br4:List (Qf×Int))(v30:Int):Tr×Hp:=(mkS [(0,(jL 3 Qb.cells bq1)),(1,(.clo 82 [(.bp 0 0)])),(7,(jI (bq1.length:Int))),(8,(jI v30))],[some (.box 94 [(.bp 1 0)]),some (.box 100 [(.mp 2),(jI bd2),(jI bd3)]),some (.map (br4.map (mkv (pAgg Qf.cells) (pInt .i64))))])
noncomputable def f81r1n2:Nat→List Qb→Int→Int→List (Qf×Int)→Int→Option f81r1n2O
 | 0,_,_,_,_,_=>none
 | f+1,bq1,bd2,bd3,br4,v30 =>
  bif decide (v30<(bq1.length:Int)) then
   (at? bq1 v30).bind fun x38 =>
   (f82r1 x38 bd2 bd3 br4).bind fun x40 =>
   bif x40 then
    some (.ret v30)
   else
    (f81r1n2 f bq1 bd2 bd3 br4 (wr64 (v30+1)))
  else
   some .exit0
theorem f81r1n2_ok:∀(f:Nat)(bq1:List Qb)(bd2 bd3:Int)(br4:List (Qf×Int))(v30:Int){o:f81r1n2O},f81r1n2 f bq1 bd2 bd3 br4 v30=some o→TL Tryd.prog Tryd.f81.ntmps 3 f (cL (cL (Qn 1 (cL (Qn 1 c81))))) (f81r1n2S bq1 bd2 bd3 br4 v30) (·=f81r1n2E bq1 bd2 bd3 br4 o)
 | 0,_,_,_,_,_,o,h=>by rw [f81r1n2] at h; cases h
 | f+1,bq1,bd2,bd3,br4,v30,o,h=>by
  rw [f81r1n2] at h;refine TL.body (K:=fun s=>∃v30:Int,s=(f81r1n2S bq1 bd2 bd3 br4 v30)∧f81r1n2 f bq1 bd2 bd3 br4 v30=some o) ?_ (by rintro _ ⟨v30,rfl,hk⟩; exact f81r1n2_ok f _ _ _ _ _ hk);rcases Qg h with ⟨h32,h⟩|⟨h32,h⟩
  ·obtain ⟨x38,h39,h⟩:=Qe h;obtain ⟨x40,h41,h⟩:=Qe h;rcases Qg h with ⟨h42,h⟩|⟨h42,h⟩
   ·obtain rfl:=Qd h;exact rK Qh 3 [j3,j3,([],[(3,.idx (Int.toNat v30) (Qb.cells x38)),(5,.call (jB x40) [some (.box 94 [(.bp 1 0)]),some (.box 100 [(.mp 2),(jI bd2),(jI bd3)]),some (.map (br4.map (mkv (pAgg Qf.cells) (pInt .i64))))])],[]),j3] [some true,some true] [] [] [4] .ret ((f81r1n2E bq1 bd2 bd3 br4 (.ret v30)).2) (ap h32 (ap (Qk h39).1 (ap (Qt Qb.cells (Qk h39).2) (ap (f82r1_ok x38 bd2 bd3 br4 h41) (ap h42 an))))) (Qv.out rfl rfl)
   ·exact rE Qh [j3,j3,([],[(3,.idx (Int.toNat v30) (Qb.cells x38)),(5,.call (jB x40) [some (.box 94 [(.bp 1 0)]),some (.box 100 [(.mp 2),(jI bd2),(jI bd3)]),some (.map (br4.map (mkv (pAgg Qf.cells) (pInt .i64))))])],[]),j3] [some true,some false] [] [] [0,1,7,8] (.norm,(f81r1n2S bq1 bd2 bd3 br4 (wr64 (v30+1)))) (ap h32 (ap (Qk h39).1 (ap (Qt Qb.cells (Qk h39).2) (ap (f82r1_ok x38 bd2 bd3 br4 h41) (ap h42 an))))) (Qv.norm ⟨(wr64 (v30+1)),rfl,h⟩)
  ·obtain rfl:=Qd h;exact rK Qh 2 [j3] [some false] [] [] [] (.exit 0) ((f81r1n2E bq1 bd2 bd3 br4 .exit0).2) (ap h32 an) (Qv.out rfl rfl)
noncomputable def f81r1n2L(bq1:List Qb)(bd2 bd3:Int)(br4:List (Qf×Int)):List Qb→Int→Option f81r1n2O
 | [],v30 =>
  some .exit0
 | x0::rest,v30 =>
  (f82r1 x0 bd2 bd3 br4).bind fun x40 =>
  bif x40 then
   some (.ret v30)
  else
   (f81r1n2L bq1 bd2 bd3 br4 rest (v30+1))
theorem f81r1n2L_eq(bq1:List Qb)(bd2 bd3:Int)(br4:List (Qf×Int)):∀(rest:List Qb)(f k:Nat),bq1.drop k=rest→bq1.length≤maxLen→rest.length<f→f81r1n2 f bq1 bd2 bd3 br4 (k:Int)=f81r1n2L bq1 bd2 bd3 br4 rest (k:Int)
 | _,0,_,_,_,hf=>absurd hf (Nat.not_lt_zero _)
 | [],f+1,k,hd,hm,hf=>by
  have hk:¬((k:Int)<(bq1.length:Int)):=by have:=Qak hd; omega
  rw [f81r1n2,f81r1n2L];simp only [decide_eq_false hk,cond_false]
 | x0::rest,f+1,k,hd,hm,hf=>by
  obtain ⟨hx,hlt,hd'⟩:=Qaj hd;have hk:(k:Int)<(bq1.length:Int):=by omega
  have hw:wr64 ((k:Int)+1)=(k:Int)+1:=Qbk (by omega) (by unfold maxLen at hm; omega);have ih:f81r1n2 f bq1 bd2 bd3 br4 ((k:Int)+1)=f81r1n2L bq1 bd2 bd3 br4 rest ((k:Int)+1):=f81r1n2L_eq bq1 bd2 bd3 br4 rest f (k+1) hd' hm (by simpa using hf);rw [f81r1n2,f81r1n2L];simp only [decide_eq_true hk,cond_true,at_nat,hx,Option.bind_some,hw,ih]
theorem f81r1n2_run(bq1:List Qb)(bd2 bd3:Int)(br4:List (Qf×Int))(hm:bq1.length≤maxLen):f81r1n2 FUEL bq1 bd2 bd3 br4 0=f81r1n2L bq1 bd2 bd3 br4 bq1 0:=f81r1n2L_eq bq1 bd2 bd3 br4 bq1 FUEL 0 List.drop_zero hm (Qbi hm)
inductive f81r1n1O where
 | norm
 | ret (v47:Int)
def f81r1n1E(bq1:List Qb)(bd2 bd3:Int)(br4:List (Qf×Int)):f81r1n1O→Ex×Tr×Hp
 | .norm=>(.norm,mkS [],[some (.box 94 [(.bp 1 0)]),some (.box 100 [(.mp 2),(jI bd2),(jI bd3)]),some (.map (br4.map (mkv (pAgg Qf.cells) (pInt .i64))))])
 | .ret v47=>(.ret,mkS [(4,(jI v47))],[some (.box 94 [(.bp 1 0)]),some (.box 100 [(.mp 2),(jI bd2),(jI bd3)]),some (.map (br4.map (mkv (pAgg Qf.cells) (pInt .i64))))])
def f81r1n1S(bq1:List Qb)(bd2 bd3:Int)(br4:List (Qf×Int)):Tr×Hp:=(mkS [(0,(jL 3 Qb.cells bq1)),(1,(.clo 82 [(.bp 0 0)]))],[some (.box 94 [(.bp 1 0)]),some (.box 100 [(.mp 2),(jI bd2),(jI bd3)]),some (.map (br4.map (mkv (pAgg Qf.cells) (pInt .i64))))])
noncomputable def f81r1n1(bq1:List Qb)(bd2 bd3:Int)(br4:List (Qf×Int)):Option f81r1n1O :=
 (f81r1n2 FUEL bq1 bd2 bd3 br4 0).bind fun o44=>match o44 with
 | .exit0=>some .norm
 | .ret v46=>some (.ret v46)
theorem f81r1n1_ok(bq1:List Qb)(bd2 bd3:Int)(br4:List (Qf×Int)){o:f81r1n1O}(h:f81r1n1 bq1 bd2 bd3 br4=some o):T Tryd.prog Tryd.f81.ntmps 3 (cL (Qn 1 c81)) (f81r1n1S bq1 bd2 bd3 br4) (·=f81r1n1E bq1 bd2 bd3 br4 o):=by
 unfold f81r1n1 at h;refine rN Qh 1 [([],[],[(1,.val (jI (bq1.length:Int)))])] [] [] [] [0,1,7,8] (f81r1n2S bq1 bd2 bd3 br4 0) (ap (Qu (xs:=bq1) (c:=Qb.cells)) an) ?_;obtain ⟨o44,h45,h⟩:=Qe h;cases o44 with
 | exit0 =>
  obtain rfl:=Qd h;exact T.last' (T.bl (i:=0) (by kernel_rfl) (by kernel_rfl) (f81r1n2_ok FUEL bq1 bd2 bd3 br4 0 h45)) (tds:=[]) (m:=[]) (keep:=[]) (st2:=(f81r1n1E bq1 bd2 bd3 br4 .norm).2) (by kernel_rfl) an rfl
 | ret v46 =>
  obtain rfl:=Qd h;exact T.last' (T.bl (i:=0) (by kernel_rfl) (by kernel_rfl) (f81r1n2_ok FUEL bq1 bd2 bd3 br4 0 h45)) (tds:=[]) (m:=[]) (keep:=[4]) (st2:=(f81r1n1E bq1 bd2 bd3 br4 (.ret v46)).2) (by kernel_rfl) an rfl
inductive f81r1n0O where
 | ret (v51:Int)
def f81r1n0E(a1:List Qb)(a2 a3:Int)(a4:List (Qf×Int)):f81r1n0O→Ex×Tr×Hp
 | .ret v51=>(.ret,mkS [(4,(jI v51))],[some (.box 94 [(.bp 1 0)]),some (.box 100 [(.mp 2),(jI a2),(jI a3)]),some (.map (a4.map (mkv (pAgg Qf.cells) (pInt .i64))))])
def f81r1n0S(a1:List Qb)(a2 a3:Int)(a4:List (Qf×Int)):Tr×Hp:=(Qae [(jL 3 Qb.cells a1),(.clo 82 [(.bp 0 0)])] 0 .leaf,[some (.box 94 [(.bp 1 0)]),some (.box 100 [(.mp 2),(jI a2),(jI a3)]),some (.map (a4.map (mkv (pAgg Qf.cells) (pInt .i64))))])
noncomputable def f81r1n0(a1:List Qb)(a2 a3:Int)(a4:List (Qf×Int)):Option f81r1n0O :=
 (f81r1n1 a1 a2 a3 a4).bind fun o48=>match o48 with
 | .norm=>some (.ret (-1))
 | .ret v50=>some (.ret v50)
theorem f81r1n0_ok(a1:List Qb)(a2 a3:Int)(a4:List (Qf×Int)){o:f81r1n0O}(h:f81r1n0 a1 a2 a3 a4=some o):T Tryd.prog Tryd.f81.ntmps 3 c81 (f81r1n0S a1 a2 a3 a4) (·=f81r1n0E a1 a2 a3 a4 o):=by
 unfold f81r1n0 at h;refine rN Qh 1 [j3] [] [] [] [0,1] (f81r1n1S a1 a2 a3 a4) an ?_;obtain ⟨o48,h49,h⟩:=Qe h;cases o48 with
 | norm =>
  refine T.oneN (by kernel_rfl) (f81r1n1_ok a1 a2 a3 a4 h49) (st2:=(f81r1n1E a1 a2 a3 a4 .norm).2) rfl ?_;obtain rfl:=Qd h;exact rE Qh [j3] [] [] [] [4] (.ret,(f81r1n0E a1 a2 a3 a4 (.ret (-1))).2) an rfl
 | ret v50 =>
  obtain rfl:=Qd h;exact T.oneX' (by kernel_rfl) (f81r1n1_ok a1 a2 a3 a4 h49) (tds:=[]) (m:=[]) (keep:=[4]) (st2:=(f81r1n0E a1 a2 a3 a4 (.ret v50)).2) (by kernel_rfl) an rfl rfl
noncomputable def f81r1(a1:List Qb)(a2 a3:Int)(a4:List (Qf×Int)):Option Int:=(f81r1n0 a1 a2 a3 a4).bind fun o=>match o with
 | .ret v51=>some v51
theorem f81r1_ok(a1:List Qb)(a2 a3:Int)(a4:List (Qf×Int)){r:Int}(h:f81r1 a1 a2 a3 a4=some r):Qo Tryd.prog true 81 [(jL 3 Qb.cells a1),(.clo 82 [(.bp 0 0)])] [some (.box 94 [(.bp 1 0)]),some (.box 100 [(.mp 2),(jI a2),(jI a3)]),some (.map (a4.map (mkv (pAgg Qf.cells) (pInt .i64))))] (jI r) [some (.box 94 [(.bp 1 0)]),some (.box 100 [(.mp 2),(jI a2),(jI a3)]),some (.map (a4.map (mkv (pAgg Qf.cells) (pInt .i64))))]:=by
 unfold f81r1 at h;obtain ⟨o,ho,h⟩:=Qe h;cases o with
 | ret v51 =>
  obtain rfl:=Qd h;exact Qo.shared Qh (f:=Tryd.f81) (c:=c81) (by kernel_rfl) (by kernel_rfl) (by kernel_rfl) ((f81r1n0_ok a1 a2 a3 a4 ho).mono fun r e=>by subst e; exact ⟨.inl rfl,by kernel_rfl,by kernel_rfl⟩)

inductive f65r1n0O where
 | ret (v9:Bool)
def f65r1n0E(a1:List Qb)(a2 a3:Int)(a4:List (Qf×Int)):f65r1n0O→Ex×Tr×Hp
 | .ret v9=>(.ret,mkS [(4,(jB v9))],[some (.box 94 [(.bp 1 0)]),some (.box 100 [(.mp 2),(jI a2),(jI a3)]),some (.map (a4.map (mkv (pAgg Qf.cells) (pInt .i64))))])
def f65r1n0S(a1:List Qb)(a2 a3:Int)(a4:List (Qf×Int)):Tr×Hp:=(Qae [(jL 3 Qb.cells a1),(.clo 82 [(.bp 0 0)])] 0 .leaf,[some (.box 94 [(.bp 1 0)]),some (.box 100 [(.mp 2),(jI a2),(jI a3)]),some (.map (a4.map (mkv (pAgg Qf.cells) (pInt .i64))))])
noncomputable def f65r1n0(a1:List Qb)(a2 a3:Int)(a4:List (Qf×Int)):Option f65r1n0O :=
 (f81r1 a1 a2 a3 a4).bind fun x7 =>
 some (.ret (decide (0≤x7)))
theorem f65r1n0_ok(a1:List Qb)(a2 a3:Int)(a4:List (Qf×Int)){o:f65r1n0O}(h:f65r1n0 a1 a2 a3 a4=some o):T Tryd.prog Tryd.f65.ntmps 3 c65 (f65r1n0S a1 a2 a3 a4) (·=f65r1n0E a1 a2 a3 a4 o):=by
 unfold f65r1n0 at h;obtain ⟨x7,h8,h⟩:=Qe h;obtain rfl:=Qd h;exact rE Qh [j3,([],[(2,.call (jI x7) [some (.box 94 [(.bp 1 0)]),some (.box 100 [(.mp 2),(jI a2),(jI a3)]),some (.map (a4.map (mkv (pAgg Qf.cells) (pInt .i64))))])],[])] [] [] [] [4] (.ret,(f65r1n0E a1 a2 a3 a4 (.ret (decide (0≤x7)))).2) (ap (f81r1_ok a1 a2 a3 a4 h8) an) rfl
noncomputable def f65r1(a1:List Qb)(a2 a3:Int)(a4:List (Qf×Int)):Option Bool:=(f65r1n0 a1 a2 a3 a4).bind fun o=>match o with
 | .ret v9=>some v9
theorem f65r1_ok(a1:List Qb)(a2 a3:Int)(a4:List (Qf×Int)){r:Bool}(h:f65r1 a1 a2 a3 a4=some r):Qo Tryd.prog true 65 [(jL 3 Qb.cells a1),(.clo 82 [(.bp 0 0)])] [some (.box 94 [(.bp 1 0)]),some (.box 100 [(.mp 2),(jI a2),(jI a3)]),some (.map (a4.map (mkv (pAgg Qf.cells) (pInt .i64))))] (jB r) [some (.box 94 [(.bp 1 0)]),some (.box 100 [(.mp 2),(jI a2),(jI a3)]),some (.map (a4.map (mkv (pAgg Qf.cells) (pInt .i64))))]:=by
 unfold f65r1 at h;obtain ⟨o,ho,h⟩:=Qe h;cases o with
 | ret v9 =>
  obtain rfl:=Qd h;exact Qo.shared Qh (f:=Tryd.f65) (c:=c65) (by kernel_rfl) (by kernel_rfl) (by kernel_rfl) ((f65r1n0_ok a1 a2 a3 a4 ho).mono fun r e=>by subst e; exact ⟨.inl rfl,by kernel_rfl,by kernel_rfl⟩)

noncomputable def c66:Code:=Tryd.f66.body.getD .skip
inductive f66r1n0O where
 | ret (v9:Bool)
def f66r1n0E(a1:Qc)(a2 a3:Int)(a4:List (Qf×Int)):f66r1n0O→Ex×Tr×Hp
 | .ret v9=>(.ret,mkS [(4,(jB v9))],[some (.box 100 [(.mp 1),(jI a2),(jI a3)]),some (.map (a4.map (mkv (pAgg Qf.cells) (pInt .i64))))])
def f66r1n0S(a1:Qc)(a2 a3:Int)(a4:List (Qf×Int)):Tr×Hp:=(Qae [(.bp 0 0),(jA Qc.cells a1)] 0 .leaf,[some (.box 100 [(.mp 1),(jI a2),(jI a3)]),some (.map (a4.map (mkv (pAgg Qf.cells) (pInt .i64))))])
noncomputable def f66r1n0(a1:Qc)(a2 a3:Int)(a4:List (Qf×Int)):Option f66r1n0O :=
 (f65r1 a1.Lines a2 a3 a4).bind fun x7 =>
 some (.ret (!x7))
theorem f66r1n0_ok(a1:Qc)(a2 a3:Int)(a4:List (Qf×Int)){o:f66r1n0O}(h:f66r1n0 a1 a2 a3 a4=some o):T Tryd.prog Tryd.f66.ntmps 2 c66 (f66r1n0S a1 a2 a3 a4) (·=f66r1n0E a1 a2 a3 a4 o):=by
 unfold f66r1n0 at h;obtain ⟨x7,h8,h⟩:=Qe h;obtain rfl:=Qd h;exact rE Qh [j3,([],[(3,.call (jB x7) [some (.box 100 [(.mp 1),(jI a2),(jI a3)]),some (.map (a4.map (mkv (pAgg Qf.cells) (pInt .i64)))),some (.box 94 [(.bp 0 0)]),none])],[])] [] [] [] [4] (.ret,(f66r1n0E a1 a2 a3 a4 (.ret (!x7))).2) (ap (Qo.rn 4 [2,0,1] (f65r1_ok a1.Lines a2 a3 a4 h8)) an) rfl
noncomputable def f66r1(a1:Qc)(a2 a3:Int)(a4:List (Qf×Int)):Option Bool:=(f66r1n0 a1 a2 a3 a4).bind fun o=>match o with
 | .ret v9=>some v9
theorem f66r1_ok(a1:Qc)(a2 a3:Int)(a4:List (Qf×Int)){r:Bool}(h:f66r1 a1 a2 a3 a4=some r):Qo Tryd.prog true 66 [(.bp 0 0),(jA Qc.cells a1)] [some (.box 100 [(.mp 1),(jI a2),(jI a3)]),some (.map (a4.map (mkv (pAgg Qf.cells) (pInt .i64))))] (jB r) [some (.box 100 [(.mp 1),(jI a2),(jI a3)]),some (.map (a4.map (mkv (pAgg Qf.cells) (pInt .i64))))]:=by
 unfold f66r1 at h;obtain ⟨o,ho,h⟩:=Qe h;cases o with
 | ret v9 =>
  obtain rfl:=Qd h;exact Qo.shared Qh (f:=Tryd.f66) (c:=c66) (by kernel_rfl) (by kernel_rfl) (by kernel_rfl) ((f66r1n0_ok a1 a2 a3 a4 ho).mono fun r e=>by subst e; exact ⟨.inl rfl,by kernel_rfl,by kernel_rfl⟩)

noncomputable def c48:Code:=Tryd.f48.body.getD .skip

inductive f48r2n2O where
 | exit0 (v43:List (Qf×Int))
def f48r2n2E(bp4:Qc)(bd1 bd2:Int):f48r2n2O→Ex×Tr×Hp
 | .exit0 v43=>((.exit 0),mkS [(0,(.bp 0 0)),(3,(.bp 2 0))],[some (.box 100 [(.mp 1),(jI bd1),(jI bd2)]),some (.map (v43.map (mkv (pAgg Qf.cells) (pInt .i64)))),some (.box 46 ((Qc.cells bp4).map .pl))])
def f48r2n2S(bp4:Qc)(bd1 bd2 v35:Int)(v36:List (Qf×Int)):Tr×Hp:=(mkS [(0,(.bp 0 0)),(3,(.bp 2 0)),(32,(jL 3 Qb.cells bp4.Lines)),(33,(jI (bp4.Lines.length:Int))),(34,(jI v35))],[some (.box 100 [(.mp 1),(jI bd1),(jI bd2)]),some (.map (v36.map (mkv (pAgg Qf.cells) (pInt .i64)))),some (.box 46 ((Qc.cells bp4).map .pl))])
noncomputable def f48r2n2:Nat→Qc→Int→Int→Int→List (Qf×Int)→Option f48r2n2O
 | 0,_,_,_,_,_=>none
 | f+1,bp4,bd1,bd2,v35,v36 =>
  bif decide (v35<(bp4.Lines.length:Int)) then
   (at? bp4.Lines v35).bind fun x41 =>
   (f48r2n2 f bp4 bd1 bd2 (wr64 (v35+1)) (mPut Qf.eqb (Qf.mk x41.Account x41.Ccy) (wr64 ((mGet Qf.eqb 0 (Qf.mk x41.Account x41.Ccy) v36)+x41.Amount)) v36))
  else
   some (.exit0 v36)
theorem f48r2n2_ok:∀(f:Nat)(bp4:Qc)(bd1 bd2 v35:Int)(v36:List (Qf×Int)){o:f48r2n2O},f48r2n2 f bp4 bd1 bd2 v35 v36=some o→TL Tryd.prog Tryd.f48.ntmps 2 f (cL (cL (Qn 1 (cL (Qn 2 c48))))) (f48r2n2S bp4 bd1 bd2 v35 v36) (·=f48r2n2E bp4 bd1 bd2 o)
 | 0,_,_,_,_,_,o,h=>by rw [f48r2n2] at h; cases h
 | f+1,bp4,bd1,bd2,v35,v36,o,h=>by
  rw [f48r2n2] at h;refine TL.body (K:=fun s=>∃v35:Int,∃v36:List (Qf×Int),s=(f48r2n2S bp4 bd1 bd2 v35 v36)∧f48r2n2 f bp4 bd1 bd2 v35 v36=some o) ?_ (by rintro _ ⟨v35,v36,rfl,hk⟩; exact f48r2n2_ok f _ _ _ _ _ hk);rcases Qg h with ⟨h38,h⟩|⟨h38,h⟩
  ·obtain ⟨x41,h42,h⟩:=Qe h
   exact rE Qh [j3,([],[(0,.idx (Int.toNat v35) (Qb.cells x41))],[]),([],[(9,.look ((pInt .i64) (mGet Qf.eqb 0 (Qf.mk x41.Account x41.Ccy) v36)) (mHas Qf.eqb (Qf.mk x41.Account x41.Ccy) v36)),(13,.ment ((pInt .i64) (mGet Qf.eqb 0 (Qf.mk x41.Account x41.Ccy) v36)) (mIdx Qf.eqb (Qf.mk x41.Account x41.Ccy) v36) ((mEns Qf.eqb 0 (Qf.mk x41.Account x41.Ccy) v36).map (mkv (pAgg Qf.cells) (pInt .i64)))),(15,.mst (mIdx Qf.eqb (Qf.mk x41.Account x41.Ccy) v36) ((pAgg Qf.cells) (Qf.mk x41.Account x41.Ccy)) ((pInt .i64) (mGet Qf.eqb 0 (Qf.mk x41.Account x41.Ccy) v36)))],[(15,.map 1 ((mPut Qf.eqb (Qf.mk x41.Account x41.Ccy) (wr64 ((mGet Qf.eqb 0 (Qf.mk x41.Account x41.Ccy) v36)+x41.Amount)) v36).map (mkv (pAgg Qf.cells) (pInt .i64))))]),j3] [some true] [] [2] [0,3,32,33,34] (.norm,(f48r2n2S bp4 bd1 bd2 (wr64 (v35+1)) (mPut Qf.eqb (Qf.mk x41.Account x41.Ccy) (wr64 ((mGet Qf.eqb 0 (Qf.mk x41.Account x41.Ccy) v36)+x41.Amount)) v36))) (ap h38 (ap (Qk h42).1 (ap (Qt Qb.cells (Qk h42).2) (ap (look_map (vp:=(pInt .i64)) (e:=3) key_107 0 (by kernel_rfl) (Qf.mk x41.Account x41.Ccy) v36) (ap (ment_map (vp:=(pInt .i64)) (e:=3) key_107 0 (by kernel_rfl) (Qf.mk x41.Account x41.Ccy) v36) (ap (rfl:((mIdx Qf.eqb (Qf.mk x41.Account x41.Ccy) v36):Int)=(((mIdx Qf.eqb (Qf.mk x41.Account x41.Ccy) v36):Nat):Int)) (ap (mst_at (vp:=(pInt .i64)) key_107 0 (Qf.mk x41.Account x41.Ccy) v36) (ap (mst_put (vp:=(pInt .i64)) key_107 0 (wr64 ((mGet Qf.eqb 0 (Qf.mk x41.Account x41.Ccy) v36)+x41.Amount)) (Qf.mk x41.Account x41.Ccy) v36) an)))))))) (Qv.norm ⟨(wr64 (v35+1)),(mPut Qf.eqb (Qf.mk x41.Account x41.Ccy) (wr64 ((mGet Qf.eqb 0 (Qf.mk x41.Account x41.Ccy) v36)+x41.Amount)) v36),rfl,h⟩)
  ·obtain rfl:=Qd h;exact rK Qh 2 [j3] [some false] [] [2] [0,3] (.exit 0) ((f48r2n2E bp4 bd1 bd2 (.exit0 v36)).2) (ap h38 an) (Qv.out rfl rfl)
noncomputable def f48r2n2L(bp4:Qc)(bd1 bd2:Int):List Qb→Int→(List (Qf×Int))→Option f48r2n2O
 | [],v35,v36 =>
  some (.exit0 v36)
 | x0::rest,v35,v36 =>
  (f48r2n2L bp4 bd1 bd2 rest (v35+1) (mPut Qf.eqb (Qf.mk x0.Account x0.Ccy) (wr64 ((mGet Qf.eqb 0 (Qf.mk x0.Account x0.Ccy) v36)+x0.Amount)) v36))
theorem f48r2n2L_eq(bp4:Qc)(bd1 bd2:Int):∀(rest:List Qb)(f k:Nat)(v36:List (Qf×Int)),bp4.Lines.drop k=rest→bp4.Lines.length≤maxLen→rest.length<f→f48r2n2 f bp4 bd1 bd2 (k:Int) v36=f48r2n2L bp4 bd1 bd2 rest (k:Int) v36
 | _,0,_,_,_,_,hf=>absurd hf (Nat.not_lt_zero _)
 | [],f+1,k,v36,hd,hm,hf=>by
  have hk:¬((k:Int)<(bp4.Lines.length:Int)):=by have:=Qak hd; omega
  rw [f48r2n2,f48r2n2L];simp only [decide_eq_false hk,cond_false]
 | x0::rest,f+1,k,v36,hd,hm,hf=>by
  obtain ⟨hx,hlt,hd'⟩:=Qaj hd;have hk:(k:Int)<(bp4.Lines.length:Int):=by omega
  have hw:wr64 ((k:Int)+1)=(k:Int)+1:=Qbk (by omega) (by unfold maxLen at hm; omega);have ih:∀(v36:List (Qf×Int)),f48r2n2 f bp4 bd1 bd2 ((k:Int)+1) v36=f48r2n2L bp4 bd1 bd2 rest ((k:Int)+1) v36:=fun v36=>f48r2n2L_eq bp4 bd1 bd2 rest f (k+1) v36 hd' hm (by simpa using hf);rw [f48r2n2,f48r2n2L];simp only [decide_eq_true hk,cond_true,at_nat,hx,Option.bind_some,hw,ih]
theorem f48r2n2_run(bp4:Qc)(bd1 bd2:Int)(v36:List (Qf×Int))(hm:bp4.Lines.length≤maxLen):f48r2n2 FUEL bp4 bd1 bd2 0 v36=f48r2n2L bp4 bd1 bd2 bp4.Lines 0 v36:=f48r2n2L_eq bp4 bd1 bd2 bp4.Lines FUEL 0 v36 List.drop_zero hm (Qbi hm)
inductive f48r2n1O where
 | norm (v47:List (Qf×Int))
def f48r2n1E(bd1 bd2:Int)(br3:List (Qf×Int))(bp4:Qc):f48r2n1O→Ex×Tr×Hp
 | .norm v47=>(.norm,mkS [(0,(.bp 0 0)),(3,(.bp 2 0))],[some (.box 100 [(.mp 1),(jI bd1),(jI bd2)]),some (.map (v47.map (mkv (pAgg Qf.cells) (pInt .i64)))),some (.box 46 ((Qc.cells bp4).map .pl))])
def f48r2n1S(bd1 bd2:Int)(br3:List (Qf×Int))(bp4:Qc):Tr×Hp:=(mkS [(0,(.bp 0 0)),(3,(.bp 2 0))],[some (.box 100 [(.mp 1),(jI bd1),(jI bd2)]),some (.map (br3.map (mkv (pAgg Qf.cells) (pInt .i64)))),some (.box 46 ((Qc.cells bp4).map .pl))])
noncomputable def f48r2n1(bd1 bd2:Int)(br3:List (Qf×Int))(bp4:Qc):Option f48r2n1O :=
 (f48r2n2 FUEL bp4 bd1 bd2 0 br3).bind fun o44=>match o44 with
 | .exit0 v46=>some (.norm v46)
theorem f48r2n1_ok(bd1 bd2:Int)(br3:List (Qf×Int))(bp4:Qc){o:f48r2n1O}(h:f48r2n1 bd1 bd2 br3 bp4=some o):T Tryd.prog Tryd.f48.ntmps 2 (cL (Qn 2 c48)) (f48r2n1S bd1 bd2 br3 bp4) (·=f48r2n1E bd1 bd2 br3 bp4 o):=by
 unfold f48r2n1 at h;refine rN Qh 1 [([],[],[(2,.val (jI (bp4.Lines.length:Int)))])] [] [] [2] [0,3,32,33,34] (f48r2n2S bp4 bd1 bd2 0 br3) (ap (Qu (xs:=bp4.Lines) (c:=Qb.cells)) an) ?_;obtain ⟨o44,h45,h⟩:=Qe h;cases o44 with
 | exit0 v46 =>
  obtain rfl:=Qd h;exact T.last' (T.bl (i:=0) (by kernel_rfl) (by kernel_rfl) (f48r2n2_ok FUEL bp4 bd1 bd2 0 br3 h45)) (tds:=[]) (m:=[2]) (keep:=[0,3]) (st2:=(f48r2n1E bd1 bd2 br3 bp4 (.norm v46)).2) (by kernel_rfl) an rfl
inductive f48r2n0O where
 | ret (v55:Bool) (v56:Int) (v57:Int) (v58:List (Qf×Int))
def f48r2n0E(a1:Qc)(a2 a3:Int)(a4:List (Qf×Int)):f48r2n0O→Ex×Tr×Hp
 | .ret v55 v56 v57 v58=>(.ret,mkS [(4,(jB v55))],[some (.box 100 [(.mp 1),(jI v56),(jI v57)]),some (.map (v58.map (mkv (pAgg Qf.cells) (pInt .i64))))])
def f48r2n0S(a1:Qc)(a2 a3:Int)(a4:List (Qf×Int)):Tr×Hp:=(Qae [(.bp 0 0),(jA Qc.cells a1)] 0 .leaf,[some (.box 100 [(.mp 1),(jI a2),(jI a3)]),some (.map (a4.map (mkv (pAgg Qf.cells) (pInt .i64))))])
noncomputable def f48r2n0(a1:Qc)(a2 a3:Int)(a4:List (Qf×Int)):Option f48r2n0O :=
 bif decide (a3=200) then
  some (.ret false a2 a3 a4)
 else
  (f46 a1).bind fun x14 =>
  bif x14 then
   (f47 a1).bind fun x17 =>
   bif x17 then
    bif decide (a1.Day<a2) then
     some (.ret false a2 a3 a4)
    else
     (f48r2n1 a2 a3 a4 a1).bind fun o48=>match o48 with
     | .norm v50=>(f66r1 a1 a1.Day (wr64 (a3+1)) v50).bind fun x53 =>
      some (.ret x53 a1.Day (wr64 (a3+1)) v50)
   else
    some (.ret false a2 a3 a4)
  else
   some (.ret false a2 a3 a4)
theorem f48r2n0_ok(a1:Qc)(a2 a3:Int)(a4:List (Qf×Int)){o:f48r2n0O}(h:f48r2n0 a1 a2 a3 a4=some o):T Tryd.prog Tryd.f48.ntmps 2 c48 (f48r2n0S a1 a2 a3 a4) (·=f48r2n0E a1 a2 a3 a4 o):=by
 unfold f48r2n0 at h;rcases Qg h with ⟨h13,h⟩|⟨h13,h⟩
 ·obtain rfl:=Qd h;exact rK Qh 2 [j3,(jT [6,7,8],[(9,.bool true)],[]),j3] [none] [] [] [4] .ret ((f48r2n0E a1 a2 a3 a4 (.ret false a2 a3 a4)).2) (ap4 h13 an) rfl
 ·obtain ⟨x14,h15,h⟩:=Qe h;rcases Qg h with ⟨h16,h⟩|⟨h16,h⟩
  ·obtain ⟨x17,h18,h⟩:=Qe h;rcases Qg h with ⟨h19,h⟩|⟨h19,h⟩
   ·rcases Qg h with ⟨h20,h⟩|⟨h20,h⟩
    ·obtain rfl:=Qd h;exact rK Qh 2 [j3,(jF [6,7,8,11,12,13,16,17,18,19,20,21,22],[jH 7 (jB x14),(9,.bool false),jH 12 (jB x17),(14,.bool false),(23,.bool false)],[]),j3] [some true] [] [] [4] .ret ((f48r2n0E a1 a2 a3 a4 (.ret false a2 a3 a4)).2) (ap4 h13 (ap4 (Qm h16) (ap4 (Qm h19) (ap4 (Qm h19) (ap (f46_ok a1 h15) (ap (f47_ok a1 h18) (ap h20 an))))))) rfl
    ·refine rN Qh 2 [j3,(jF [6,7,8,11,12,13,16,17,18,19,20,21,22],[jH 7 (jB x14),(9,.bool false),jH 12 (jB x17),(14,.bool false),(23,.bool false)],[])] [some false] [] [2] [0,3] (f48r2n1S a2 a3 a4 a1) (ap4 h13 (ap4 (Qm h16) (ap4 (Qm h19) (ap4 (Qm h19) (ap (f46_ok a1 h15) (ap (f47_ok a1 h18) (ap h20 an))))))) ?_;obtain ⟨o48,h49,h⟩:=Qe h;cases o48 with
     | norm v50 =>
      refine T.oneN (by kernel_rfl) (f48r2n1_ok a2 a3 a4 a1 h49) (st2:=(f48r2n1E a2 a3 a4 a1 (.norm v50)).2) rfl ?_;obtain ⟨x53,h54,h⟩:=Qe h;obtain rfl:=Qd h;exact rE Qh [j3,([],[(2,.call (jB x53) [some (.box 100 [(.mp 1),(jI a1.Day),(jI (wr64 (a3+1)))]),some (.map (v50.map (mkv (pAgg Qf.cells) (pInt .i64)))),none,none])],[])] [] [] [] [4] (.ret,(f48r2n0E a1 a2 a3 a4 (.ret x53 a1.Day (wr64 (a3+1)) v50)).2) (ap (Qo.rn 4 [0,1] (f66r1_ok a1 a1.Day (wr64 (a3+1)) v50 h54)) an) rfl
   ·obtain rfl:=Qd h;exact rK Qh 2 [j3,(jF [6,7,8,11,12,13]++jT [16,17,18,19,20,21,22],[jH 7 (jB x14),(9,.bool false),jH 12 (jB x17),(14,.bool false),(23,.bool true)],[]),j3] [none] [] [] [4] .ret ((f48r2n0E a1 a2 a3 a4 (.ret false a2 a3 a4)).2) (ap4 h13 (ap4 (Qm h16) (ap4 (Qx h19) (ap4 (Qx h19) (ap (f46_ok a1 h15) (ap (f47_ok a1 h18) an)))))) rfl
  ·obtain rfl:=Qd h;exact rK Qh 2 [j3,(jF [6,7,8]++jT [11,12,13],[jH 7 (jB x14),(9,.bool false),(14,.bool true)],[]),j3] [none] [] [] [4] .ret ((f48r2n0E a1 a2 a3 a4 (.ret false a2 a3 a4)).2) (ap4 h13 (ap4 (Qx h16) (ap (f46_ok a1 h15) an))) rfl
noncomputable def f48r2(a1:Qc)(a2 a3:Int)(a4:List (Qf×Int)):Option (Bool×Int×Int×(List (Qf×Int))):=(f48r2n0 a1 a2 a3 a4).bind fun o=>match o with
 | .ret v55 v56 v57 v58=>some (v55,v56,v57,v58)
theorem f48r2_ok(a1:Qc)(a2 a3:Int)(a4:List (Qf×Int)) {r:Bool×Int×Int×(List (Qf×Int))} (h:f48r2 a1 a2 a3 a4=some r):Qo Tryd.prog true 48 [(.bp 0 0),(jA Qc.cells a1)] [some (.box 100 [(.mp 1),(jI a2),(jI a3)]),some (.map (a4.map (mkv (pAgg Qf.cells) (pInt .i64))))] (jB r.1) [some (.box 100 [(.mp 1),(jI r.2.1),(jI r.2.2.1)]),some (.map (r.2.2.2.map (mkv (pAgg Qf.cells) (pInt .i64))))]:=by
 unfold f48r2 at h;obtain ⟨o,ho,h⟩:=Qe h;cases o with
 | ret v55 v56 v57 v58 =>
  obtain rfl:=Qd h;exact Qo.shared Qh (f:=Tryd.f48) (c:=c48) (by kernel_rfl) (by kernel_rfl) (by kernel_rfl) ((f48r2n0_ok a1 a2 a3 a4 ho).mono fun r e=>by subst e; exact ⟨.inl rfl,by kernel_rfl,by kernel_rfl⟩)

noncomputable def c45:Code:=Tryd.f45.body.getD .skip
inductive f45r1n2O where
 | exit0 (v48:Int) (v49:Int) (v50:List (Qf×Int))
 | ret (v51:Int) (v52:Int) (v53:List (Qf×Int))
def f45r1n2E(bo1:Qi):f45r1n2O→Ex×Tr×Hp
 | .exit0 v48 v49 v50=>((.exit 0),mkS [(4,(.bp 0 0))],[some (.box 100 [(.mp 1),(jI v48),(jI v49)]),some (.map (v50.map (mkv (pAgg Qf.cells) (pInt .i64))))])
 | .ret v51 v52 v53=>(.ret,mkS [(2,(.bp 0 0)),(3,(jB false))],[some (.box 100 [(.mp 1),(jI v51),(jI v52)]),some (.map (v53.map (mkv (pAgg Qf.cells) (pInt .i64))))])
def f45r1n2S(bo1:Qi)(v32 v33 v34:Int)(v35:List (Qf×Int)):Tr×Hp:=(mkS [(4,(.bp 0 0)),(16,(jL 3 Qc.cells bo1.Records)),(17,(jI (bo1.Records.length:Int))),(18,(jI v32))],[some (.box 100 [(.mp 1),(jI v33),(jI v34)]),some (.map (v35.map (mkv (pAgg Qf.cells) (pInt .i64))))])
noncomputable def f45r1n2:Nat→Qi→Int→Int→Int→List (Qf×Int)→Option f45r1n2O
 | 0,_,_,_,_,_=>none
 | f+1,bo1,v32,v33,v34,v35 =>
  bif decide (v32<(bo1.Records.length:Int)) then
   (at? bo1.Records v32).bind fun x43 =>
   (f48r2 x43 v33 v34 v35).bind fun x45 =>
   bif x45.1 then
    (f45r1n2 f bo1 (wr64 (v32+1)) x45.2.1 x45.2.2.1 x45.2.2.2)
   else
    some (.ret x45.2.1 x45.2.2.1 x45.2.2.2)
  else
   some (.exit0 v33 v34 v35)
theorem f45r1n2_ok:∀(f:Nat)(bo1:Qi)(v32 v33 v34:Int)(v35:List (Qf×Int)){o:f45r1n2O},f45r1n2 f bo1 v32 v33 v34 v35=some o→TL Tryd.prog Tryd.f45.ntmps 0 f (cL (cL (Qn 1 (cL (Qn 3 c45))))) (f45r1n2S bo1 v32 v33 v34 v35) (·=f45r1n2E bo1 o)
 | 0,_,_,_,_,_,o,h=>by rw [f45r1n2] at h; cases h
 | f+1,bo1,v32,v33,v34,v35,o,h=>by
  rw [f45r1n2] at h;refine TL.body (K:=fun s=>∃v32:Int,∃v33:Int,∃v34:Int,∃v35:List (Qf×Int),s=(f45r1n2S bo1 v32 v33 v34 v35)∧f45r1n2 f bo1 v32 v33 v34 v35=some o) ?_ (by rintro _ ⟨v32,v33,v34,v35,rfl,hk⟩; exact f45r1n2_ok f _ _ _ _ _ hk);rcases Qg h with ⟨h37,h⟩|⟨h37,h⟩
  ·obtain ⟨x43,h44,h⟩:=Qe h;obtain ⟨x45,h46,h⟩:=Qe h;rcases Qg h with ⟨h47,h⟩|⟨h47,h⟩
   ·exact rE Qh [j3,([],[(0,.idx (Int.toNat v32) (Qc.cells x43))],[]),([],[(2,.call (jB x45.1) [some (.box 100 [(.mp 1),(jI x45.2.1),(jI x45.2.2.1)]),some (.map (x45.2.2.2.map (mkv (pAgg Qf.cells) (pInt .i64)))),none])],[]),j3] [some true,some false] [] [0,1] [4,16,17,18] (.norm,(f45r1n2S bo1 (wr64 (v32+1)) x45.2.1 x45.2.2.1 x45.2.2.2)) (ap h37 (ap (Qk h44).1 (ap (Qt Qc.cells (Qk h44).2) (ap (Qo.rn 3 [0,1] (f48r2_ok x43 v33 v34 v35 h46)) (ap (Qm h47) an))))) (Qv.norm ⟨(wr64 (v32+1)),x45.2.1,x45.2.2.1,x45.2.2.2,rfl,h⟩)
   ·obtain rfl:=Qd h;exact rK Qh 3 [j3,([],[(0,.idx (Int.toNat v32) (Qc.cells x43))],[]),([],[(2,.call (jB x45.1) [some (.box 100 [(.mp 1),(jI x45.2.1),(jI x45.2.2.1)]),some (.map (x45.2.2.2.map (mkv (pAgg Qf.cells) (pInt .i64)))),none])],[]),j3] [some true,some true] [] [0,1] [2,3] .ret ((f45r1n2E bo1 (.ret x45.2.1 x45.2.2.1 x45.2.2.2)).2) (ap h37 (ap (Qk h44).1 (ap (Qt Qc.cells (Qk h44).2) (ap (Qo.rn 3 [0,1] (f48r2_ok x43 v33 v34 v35 h46)) (ap (Qx h47) an))))) (Qv.out rfl rfl)
  ·obtain rfl:=Qd h;exact rK Qh 2 [j3] [some false] [] [0,1] [4] (.exit 0) ((f45r1n2E bo1 (.exit0 v33 v34 v35)).2) (ap h37 an) (Qv.out rfl rfl)
noncomputable def f45r1n2L(bo1:Qi):List Qc→Int→Int→Int→(List (Qf×Int))→Option f45r1n2O
 | [],v32,v33,v34,v35 =>
  some (.exit0 v33 v34 v35)
 | x0::rest,v32,v33,v34,v35 =>
  (f48r2 x0 v33 v34 v35).bind fun x45 =>
  bif x45.1 then
   (f45r1n2L bo1 rest (v32+1) x45.2.1 x45.2.2.1 x45.2.2.2)
  else
   some (.ret x45.2.1 x45.2.2.1 x45.2.2.2)
theorem f45r1n2L_eq(bo1:Qi):∀(rest:List Qc)(f k:Nat)(v33 v34:Int)(v35:List (Qf×Int)),bo1.Records.drop k=rest→bo1.Records.length≤maxLen→rest.length<f→f45r1n2 f bo1 (k:Int) v33 v34 v35=f45r1n2L bo1 rest (k:Int) v33 v34 v35
 | _,0,_,_,_,_,_,_,hf=>absurd hf (Nat.not_lt_zero _)
 | [],f+1,k,v33,v34,v35,hd,hm,hf=>by
  have hk:¬((k:Int)<(bo1.Records.length:Int)):=by have:=Qak hd; omega
  rw [f45r1n2,f45r1n2L];simp only [decide_eq_false hk,cond_false]
 | x0::rest,f+1,k,v33,v34,v35,hd,hm,hf=>by
  obtain ⟨hx,hlt,hd'⟩:=Qaj hd;have hk:(k:Int)<(bo1.Records.length:Int):=by omega
  have hw:wr64 ((k:Int)+1)=(k:Int)+1:=Qbk (by omega) (by unfold maxLen at hm; omega);have ih:∀(v33 v34:Int)(v35:List (Qf×Int)),f45r1n2 f bo1 ((k:Int)+1) v33 v34 v35=f45r1n2L bo1 rest ((k:Int)+1) v33 v34 v35:=fun v33 v34 v35=>f45r1n2L_eq bo1 rest f (k+1) v33 v34 v35 hd' hm (by simpa using hf);rw [f45r1n2,f45r1n2L];simp only [decide_eq_true hk,cond_true,at_nat,hx,Option.bind_some,hw,ih]
theorem f45r1n2_run(bo1:Qi)(v33 v34:Int)(v35:List (Qf×Int))(hm:bo1.Records.length≤maxLen):f45r1n2 FUEL bo1 0 v33 v34 v35=f45r1n2L bo1 bo1.Records 0 v33 v34 v35:=f45r1n2L_eq bo1 bo1.Records FUEL 0 v33 v34 v35 List.drop_zero hm (Qbi hm)
inductive f45r1n1O where
 | norm (v62:Int) (v63:Int) (v64:List (Qf×Int))
 | ret (v65:Int) (v66:Int) (v67:List (Qf×Int))
def f45r1n1E(bo1:Qi):f45r1n1O→Ex×Tr×Hp
 | .norm v62 v63 v64=>(.norm,mkS [(4,(.bp 0 0))],[some (.box 100 [(.mp 1),(jI v62),(jI v63)]),some (.map (v64.map (mkv (pAgg Qf.cells) (pInt .i64))))])
 | .ret v65 v66 v67=>(.ret,mkS [(2,(.bp 0 0)),(3,(jB false))],[some (.box 100 [(.mp 1),(jI v65),(jI v66)]),some (.map (v67.map (mkv (pAgg Qf.cells) (pInt .i64))))])
def f45r1n1S(bo1:Qi):Tr×Hp:=(mkS [(1,(.bp 0 0)),(4,(.bp 1 0))],[some (.box 43 ((Qi.cells bo1).map .pl)),some (.box 100 [(.mp 2),(jI 0),(jI 0)]),some (.map ([].map (mkv (pAgg Qf.cells) (pInt .i64))))])
noncomputable def f45r1n1(bo1:Qi):Option f45r1n1O :=
 (f45r1n2 FUEL bo1 0 0 0 []).bind fun o54=>match o54 with
 | .exit0 v56 v57 v58=>some (.norm v56 v57 v58)
 | .ret v59 v60 v61=>some (.ret v59 v60 v61)
theorem f45r1n1_ok(bo1:Qi){o:f45r1n1O}(h:f45r1n1 bo1=some o):T Tryd.prog Tryd.f45.ntmps 0 (cL (Qn 3 c45)) (f45r1n1S bo1) (·=f45r1n1E bo1 o):=by
 unfold f45r1n1 at h;refine rN Qh 1 [([],[],[(2,.val (jI (bo1.Records.length:Int)))])] [] [] [1,2] [4,16,17,18] (f45r1n2S bo1 0 0 0 []) (ap (Qu (xs:=bo1.Records) (c:=Qc.cells)) an) ?_;obtain ⟨o54,h55,h⟩:=Qe h;cases o54 with
 | exit0 v56 v57 v58 =>
  obtain rfl:=Qd h;exact T.last' (T.bl (i:=0) (by kernel_rfl) (by kernel_rfl) (f45r1n2_ok FUEL bo1 0 0 0 [] h55)) (tds:=[]) (m:=[0,1]) (keep:=[4]) (st2:=(f45r1n1E bo1 (.norm v56 v57 v58)).2) (by kernel_rfl) an rfl
 | ret v59 v60 v61 =>
  obtain rfl:=Qd h;exact T.last' (T.bl (i:=0) (by kernel_rfl) (by kernel_rfl) (f45r1n2_ok FUEL bo1 0 0 0 [] h55)) (tds:=[]) (m:=[0,1]) (keep:=[2,3]) (st2:=(f45r1n1E bo1 (.ret v59 v60 v61)).2) (by kernel_rfl) an rfl
inductive f45r1n0O where
 | ret (v76:Bool) (v77:Int) (v78:Int) (v79:List (Qf×Int))
def f45r1n0E(a1:Qi):f45r1n0O→Ex×Tr×Hp
 | .ret v76 v77 v78 v79=>(.ret,mkS [(2,(.bp 0 0)),(3,(jB v76))],[some (.box 100 [(.mp 1),(jI v77),(jI v78)]),some (.map (v79.map (mkv (pAgg Qf.cells) (pInt .i64))))])
def f45r1n0S(a1:Qi):Tr×Hp:=(Qae [(jA Qi.cells a1)] 0 .leaf,[])
noncomputable def f45r1n0(a1:Qi):Option f45r1n0O :=
 bif decide (200<(a1.Records.length:Int)) then
  some (.ret false 0 0 [])
 else
  (f45r1n1 a1).bind fun o68=>match o68 with
  | .norm v70 v71 v72=>some (.ret true v70 v71 v72)
  | .ret v73 v74 v75=>some (.ret false v73 v74 v75)
theorem f45r1n0_ok(a1:Qi){o:f45r1n0O}(h:f45r1n0 a1=some o):T Tryd.prog Tryd.f45.ntmps 0 c45 (f45r1n0S a1) (·=f45r1n0E a1 o):=by
 unfold f45r1n0 at h;rcases Qg h with ⟨h3,h⟩|⟨h3,h⟩
 ·obtain rfl:=Qd h;exact rK Qh 3 [j3,j3,([],[],[(2,.val (jI (a1.Records.length:Int)))]),j3] [some true] [] [2,1] [2,3] .ret ((f45r1n0E a1 (.ret false 0 0 [])).2) (ap (Qu (xs:=a1.Records) (c:=Qc.cells)) (ap h3 an)) rfl
 ·refine rN Qh 3 [j3,j3,([],[],[(2,.val (jI (a1.Records.length:Int)))])] [some false] [] [0,2,1] [1,4] (f45r1n1S a1) (ap (Qu (xs:=a1.Records) (c:=Qc.cells)) (ap h3 an)) ?_;obtain ⟨o68,h69,h⟩:=Qe h;cases o68 with
  | norm v70 v71 v72 =>
   refine T.oneN (by kernel_rfl) (f45r1n1_ok a1 h69) (st2:=(f45r1n1E a1 (.norm v70 v71 v72)).2) rfl ?_;obtain rfl:=Qd h;exact rE Qh [j3] [] [] [0,1] [2,3] (.ret,(f45r1n0E a1 (.ret true v70 v71 v72)).2) an rfl
  | ret v73 v74 v75 =>
   obtain rfl:=Qd h;exact T.oneX' (by kernel_rfl) (f45r1n1_ok a1 h69) (tds:=[]) (m:=[0,1]) (keep:=[2,3]) (st2:=(f45r1n0E a1 (.ret false v73 v74 v75)).2) (by kernel_rfl) an rfl rfl
noncomputable def f45r1(a1:Qi):Option (Bool×Int×Int×(List (Qf×Int))):=(f45r1n0 a1).bind fun o=>match o with
 | .ret v76 v77 v78 v79=>some (v76,v77,v78,v79)
theorem f45r1_ok(a1:Qi) {r:Bool×Int×Int×(List (Qf×Int))} (h:f45r1 a1=some r):Qo Tryd.prog true 45 [(jA Qi.cells a1)] [] (.tup [(.bp 0 0),(jB r.1)]) [some (.box 100 [(.mp 1),(jI r.2.1),(jI r.2.2.1)]),some (.map (r.2.2.2.map (mkv (pAgg Qf.cells) (pInt .i64))))]:=by
 unfold f45r1 at h;obtain ⟨o,ho,h⟩:=Qe h;cases o with
 | ret v76 v77 v78 v79 =>
  obtain rfl:=Qd h;exact Qo.shared Qh (f:=Tryd.f45) (c:=c45) (by kernel_rfl) (by kernel_rfl) (by kernel_rfl) ((f45r1n0_ok a1 ho).mono fun r e=>by subst e; exact ⟨.inl rfl,by kernel_rfl,by kernel_rfl⟩)

inductive f81r2n2O where
 | exit0
 | ret (v43:Int)
def f81r2n2E(bq1:List Qb)(bd2 bd3:Int)(br4:List (Qf×Int)):f81r2n2O→Ex×Tr×Hp
 | .exit0=>((.exit 0),mkS [],[jR 3 Qb.cells bq1,some (.box 94 [(.bp 2 0)]),some (.box 100 [(.mp 3),(jI bd2),(jI bd3)]),some (.map (br4.map (mkv (pAgg Qf.cells) (pInt .i64))))])
 | .ret v43=>(.ret,mkS [(4,(jI v43))],[jR 3 Qb.cells bq1,some (.box 94 [(.bp 2 0)]),some (.box 100 [(.mp 3),(jI bd2),(jI bd3)]),some (.map (br4.map (mkv (pAgg Qf.cells) (pInt .i64))))])
def f81r2n2S(bq1:List Qb)(bd2 bd3:Int)(br4:List (Qf×Int))(v30:Int):Tr×Hp:=(mkS [(0,(.own 0)),(1,(.clo 82 [(.bp 1 0)])),(7,(jI (bq1.length:Int))),(8,(jI v30))],[jR 3 Qb.cells bq1,some (.box 94 [(.bp 2 0)]),some (.box 100 [(.mp 3),(jI bd2),(jI bd3)]),some (.map (br4.map (mkv (pAgg Qf.cells) (pInt .i64))))])
noncomputable def f81r2n2:Nat→List Qb→Int→Int→List (Qf×Int)→Int→Option f81r2n2O
 | 0,_,_,_,_,_=>none
 | f+1,bq1,bd2,bd3,br4,v30 =>
  bif decide (v30<(bq1.length:Int)) then
   (at? bq1 v30).bind fun x38 =>
   (f82r1 x38 bd2 bd3 br4).bind fun x40 =>
   bif x40 then
    some (.ret v30)
   else
    (f81r2n2 f bq1 bd2 bd3 br4 (wr64 (v30+1)))
  else
   some .exit0
theorem f81r2n2_ok:∀(f:Nat)(bq1:List Qb)(bd2 bd3:Int)(br4:List (Qf×Int))(v30:Int){o:f81r2n2O},f81r2n2 f bq1 bd2 bd3 br4 v30=some o→TL Tryd.prog Tryd.f81.ntmps 4 f (cL (cL (Qn 1 (cL (Qn 1 c81))))) (f81r2n2S bq1 bd2 bd3 br4 v30) (·=f81r2n2E bq1 bd2 bd3 br4 o)
 | 0,_,_,_,_,_,o,h=>by rw [f81r2n2] at h; cases h
 | f+1,bq1,bd2,bd3,br4,v30,o,h=>by
  rw [f81r2n2] at h;refine TL.body (K:=fun s=>∃v30:Int,s=(f81r2n2S bq1 bd2 bd3 br4 v30)∧f81r2n2 f bq1 bd2 bd3 br4 v30=some o) ?_ (by rintro _ ⟨v30,rfl,hk⟩; exact f81r2n2_ok f _ _ _ _ _ hk);rcases Qg h with ⟨h32,h⟩|⟨h32,h⟩
  ·obtain ⟨x38,h39,h⟩:=Qe h;obtain ⟨x40,h41,h⟩:=Qe h;rcases Qg h with ⟨h42,h⟩|⟨h42,h⟩
   ·obtain rfl:=Qd h;exact rK Qh 3 [j3,j3,([],[(3,.at_ (Int.toNat v30)),(4,.idx 0 (Qb.cells x38)),(5,.call (jB x40) [none,some (.box 94 [(.bp 2 0)]),some (.box 100 [(.mp 3),(jI bd2),(jI bd3)]),some (.map (br4.map (mkv (pAgg Qf.cells) (pInt .i64))))])],[]),j3] [some true,some true] [] [] [4] .ret ((f81r2n2E bq1 bd2 bd3 br4 (.ret v30)).2) (ap h32 (ap (Qk h39).1 (ap (Qau Qb.cells (Qk h39).2) (ap (Qt Qb.cells (Qk h39).2) (ap (Qo.rn 4 [1,2,3] (f82r1_ok x38 bd2 bd3 br4 h41)) (ap h42 an)))))) (Qv.out rfl rfl)
   ·exact rE Qh [j3,j3,([],[(3,.at_ (Int.toNat v30)),(4,.idx 0 (Qb.cells x38)),(5,.call (jB x40) [none,some (.box 94 [(.bp 2 0)]),some (.box 100 [(.mp 3),(jI bd2),(jI bd3)]),some (.map (br4.map (mkv (pAgg Qf.cells) (pInt .i64))))])],[]),j3] [some true,some false] [] [] [0,1,7,8] (.norm,(f81r2n2S bq1 bd2 bd3 br4 (wr64 (v30+1)))) (ap h32 (ap (Qk h39).1 (ap (Qau Qb.cells (Qk h39).2) (ap (Qt Qb.cells (Qk h39).2) (ap (Qo.rn 4 [1,2,3] (f82r1_ok x38 bd2 bd3 br4 h41)) (ap h42 an)))))) (Qv.norm ⟨(wr64 (v30+1)),rfl,h⟩)
  ·obtain rfl:=Qd h;exact rK Qh 2 [j3] [some false] [] [] [] (.exit 0) ((f81r2n2E bq1 bd2 bd3 br4 .exit0).2) (ap h32 an) (Qv.out rfl rfl)
inductive f81r2n1O where
 | norm
 | ret (v47:Int)
def f81r2n1E(bq1:List Qb)(bd2 bd3:Int)(br4:List (Qf×Int)):f81r2n1O→Ex×Tr×Hp
 | .norm=>(.norm,mkS [],[jR 3 Qb.cells bq1,some (.box 94 [(.bp 2 0)]),some (.box 100 [(.mp 3),(jI bd2),(jI bd3)]),some (.map (br4.map (mkv (pAgg Qf.cells) (pInt .i64))))])
 | .ret v47=>(.ret,mkS [(4,(jI v47))],[jR 3 Qb.cells bq1,some (.box 94 [(.bp 2 0)]),some (.box 100 [(.mp 3),(jI bd2),(jI bd3)]),some (.map (br4.map (mkv (pAgg Qf.cells) (pInt .i64))))])
def f81r2n1S(bq1:List Qb)(bd2 bd3:Int)(br4:List (Qf×Int)):Tr×Hp:=(mkS [(0,(.own 0)),(1,(.clo 82 [(.bp 1 0)]))],[jR 3 Qb.cells bq1,some (.box 94 [(.bp 2 0)]),some (.box 100 [(.mp 3),(jI bd2),(jI bd3)]),some (.map (br4.map (mkv (pAgg Qf.cells) (pInt .i64))))])
noncomputable def f81r2n1(bq1:List Qb)(bd2 bd3:Int)(br4:List (Qf×Int)):Option f81r2n1O :=
 (f81r2n2 FUEL bq1 bd2 bd3 br4 0).bind fun o44=>match o44 with
 | .exit0=>some .norm
 | .ret v46=>some (.ret v46)
theorem f81r2n1_ok(bq1:List Qb)(bd2 bd3:Int)(br4:List (Qf×Int)){o:f81r2n1O}(h:f81r2n1 bq1 bd2 bd3 br4=some o):T Tryd.prog Tryd.f81.ntmps 4 (cL (Qn 1 c81)) (f81r2n1S bq1 bd2 bd3 br4) (·=f81r2n1E bq1 bd2 bd3 br4 o):=by
 unfold f81r2n1 at h;refine rN Qh 1 [([],[],[(1,.val (jI (bq1.length:Int)))])] [] [] [] [0,1,7,8] (f81r2n2S bq1 bd2 bd3 br4 0) (ap (Qu (xs:=bq1) (c:=Qb.cells)) an) ?_;obtain ⟨o44,h45,h⟩:=Qe h;cases o44 with
 | exit0 =>
  obtain rfl:=Qd h;exact T.last' (T.bl (i:=0) (by kernel_rfl) (by kernel_rfl) (f81r2n2_ok FUEL bq1 bd2 bd3 br4 0 h45)) (tds:=[]) (m:=[]) (keep:=[]) (st2:=(f81r2n1E bq1 bd2 bd3 br4 .norm).2) (by kernel_rfl) an rfl
 | ret v46 =>
  obtain rfl:=Qd h;exact T.last' (T.bl (i:=0) (by kernel_rfl) (by kernel_rfl) (f81r2n2_ok FUEL bq1 bd2 bd3 br4 0 h45)) (tds:=[]) (m:=[]) (keep:=[4]) (st2:=(f81r2n1E bq1 bd2 bd3 br4 (.ret v46)).2) (by kernel_rfl) an rfl
inductive f81r2n0O where
 | ret (v51:Int)
def f81r2n0E(a1:List Qb)(a2 a3:Int)(a4:List (Qf×Int)):f81r2n0O→Ex×Tr×Hp
 | .ret v51=>(.ret,mkS [(4,(jI v51))],[jR 3 Qb.cells a1,some (.box 94 [(.bp 2 0)]),some (.box 100 [(.mp 3),(jI a2),(jI a3)]),some (.map (a4.map (mkv (pAgg Qf.cells) (pInt .i64))))])
def f81r2n0S(a1:List Qb)(a2 a3:Int)(a4:List (Qf×Int)):Tr×Hp:=(Qae [(.own 0),(.clo 82 [(.bp 1 0)])] 0 .leaf,[jR 3 Qb.cells a1,some (.box 94 [(.bp 2 0)]),some (.box 100 [(.mp 3),(jI a2),(jI a3)]),some (.map (a4.map (mkv (pAgg Qf.cells) (pInt .i64))))])
noncomputable def f81r2n0(a1:List Qb)(a2 a3:Int)(a4:List (Qf×Int)):Option f81r2n0O :=
 (f81r2n1 a1 a2 a3 a4).bind fun o48=>match o48 with
 | .norm=>some (.ret (-1))
 | .ret v50=>some (.ret v50)
theorem f81r2n0_ok(a1:List Qb)(a2 a3:Int)(a4:List (Qf×Int)){o:f81r2n0O}(h:f81r2n0 a1 a2 a3 a4=some o):T Tryd.prog Tryd.f81.ntmps 4 c81 (f81r2n0S a1 a2 a3 a4) (·=f81r2n0E a1 a2 a3 a4 o):=by
 unfold f81r2n0 at h;refine rN Qh 1 [j3] [] [] [] [0,1] (f81r2n1S a1 a2 a3 a4) an ?_;obtain ⟨o48,h49,h⟩:=Qe h;cases o48 with
 | norm =>
  refine T.oneN (by kernel_rfl) (f81r2n1_ok a1 a2 a3 a4 h49) (st2:=(f81r2n1E a1 a2 a3 a4 .norm).2) rfl ?_;obtain rfl:=Qd h;exact rE Qh [j3] [] [] [] [4] (.ret,(f81r2n0E a1 a2 a3 a4 (.ret (-1))).2) an rfl
 | ret v50 =>
  obtain rfl:=Qd h;exact T.oneX' (by kernel_rfl) (f81r2n1_ok a1 a2 a3 a4 h49) (tds:=[]) (m:=[]) (keep:=[4]) (st2:=(f81r2n0E a1 a2 a3 a4 (.ret v50)).2) (by kernel_rfl) an rfl rfl
noncomputable def f81r2(a1:List Qb)(a2 a3:Int)(a4:List (Qf×Int)):Option Int:=(f81r2n0 a1 a2 a3 a4).bind fun o=>match o with
 | .ret v51=>some v51
theorem f81r2_ok(a1:List Qb)(a2 a3:Int)(a4:List (Qf×Int)){r:Int}(h:f81r2 a1 a2 a3 a4=some r):Qo Tryd.prog true 81 [(.own 0),(.clo 82 [(.bp 1 0)])] [jR 3 Qb.cells a1,some (.box 94 [(.bp 2 0)]),some (.box 100 [(.mp 3),(jI a2),(jI a3)]),some (.map (a4.map (mkv (pAgg Qf.cells) (pInt .i64))))] (jI r) [jR 3 Qb.cells a1,some (.box 94 [(.bp 2 0)]),some (.box 100 [(.mp 3),(jI a2),(jI a3)]),some (.map (a4.map (mkv (pAgg Qf.cells) (pInt .i64))))]:=by
 unfold f81r2 at h;obtain ⟨o,ho,h⟩:=Qe h;cases o with
 | ret v51 =>
  obtain rfl:=Qd h;exact Qo.shared Qh (f:=Tryd.f81) (c:=c81) (by kernel_rfl) (by kernel_rfl) (by kernel_rfl) ((f81r2n0_ok a1 a2 a3 a4 ho).mono fun r e=>by subst e; exact ⟨.inl rfl,by kernel_rfl,by kernel_rfl⟩)

inductive f65r2n0O where
 | ret (v9:Bool)
def f65r2n0E(a1:List Qb)(a2 a3:Int)(a4:List (Qf×Int)):f65r2n0O→Ex×Tr×Hp
 | .ret v9=>(.ret,mkS [(4,(jB v9))],[jR 3 Qb.cells a1,some (.box 94 [(.bp 2 0)]),some (.box 100 [(.mp 3),(jI a2),(jI a3)]),some (.map (a4.map (mkv (pAgg Qf.cells) (pInt .i64))))])
def f65r2n0S(a1:List Qb)(a2 a3:Int)(a4:List (Qf×Int)):Tr×Hp:=(Qae [(.own 0),(.clo 82 [(.bp 1 0)])] 0 .leaf,[jR 3 Qb.cells a1,some (.box 94 [(.bp 2 0)]),some (.box 100 [(.mp 3),(jI a2),(jI a3)]),some (.map (a4.map (mkv (pAgg Qf.cells) (pInt .i64))))])
noncomputable def f65r2n0(a1:List Qb)(a2 a3:Int)(a4:List (Qf×Int)):Option f65r2n0O :=
 (f81r2 a1 a2 a3 a4).bind fun x7 =>
 some (.ret (decide (0≤x7)))
theorem f65r2n0_ok(a1:List Qb)(a2 a3:Int)(a4:List (Qf×Int)){o:f65r2n0O}(h:f65r2n0 a1 a2 a3 a4=some o):T Tryd.prog Tryd.f65.ntmps 4 c65 (f65r2n0S a1 a2 a3 a4) (·=f65r2n0E a1 a2 a3 a4 o):=by
 unfold f65r2n0 at h;obtain ⟨x7,h8,h⟩:=Qe h;obtain rfl:=Qd h;exact rE Qh [j3,([],[(2,.call (jI x7) [jR 3 Qb.cells a1,some (.box 94 [(.bp 2 0)]),some (.box 100 [(.mp 3),(jI a2),(jI a3)]),some (.map (a4.map (mkv (pAgg Qf.cells) (pInt .i64))))])],[])] [] [] [] [4] (.ret,(f65r2n0E a1 a2 a3 a4 (.ret (decide (0≤x7)))).2) (ap (f81r2_ok a1 a2 a3 a4 h8) an) rfl
noncomputable def f65r2(a1:List Qb)(a2 a3:Int)(a4:List (Qf×Int)):Option Bool:=(f65r2n0 a1 a2 a3 a4).bind fun o=>match o with
 | .ret v9=>some v9
theorem f65r2_ok(a1:List Qb)(a2 a3:Int)(a4:List (Qf×Int)){r:Bool}(h:f65r2 a1 a2 a3 a4=some r):Qo Tryd.prog true 65 [(.own 0),(.clo 82 [(.bp 1 0)])] [jR 3 Qb.cells a1,some (.box 94 [(.bp 2 0)]),some (.box 100 [(.mp 3),(jI a2),(jI a3)]),some (.map (a4.map (mkv (pAgg Qf.cells) (pInt .i64))))] (jB r) [jR 3 Qb.cells a1,some (.box 94 [(.bp 2 0)]),some (.box 100 [(.mp 3),(jI a2),(jI a3)]),some (.map (a4.map (mkv (pAgg Qf.cells) (pInt .i64))))]:=by
 unfold f65r2 at h;obtain ⟨o,ho,h⟩:=Qe h;cases o with
 | ret v9 =>
  obtain rfl:=Qd h;exact Qo.shared Qh (f:=Tryd.f65) (c:=c65) (by kernel_rfl) (by kernel_rfl) (by kernel_rfl) ((f65r2n0_ok a1 a2 a3 a4 ho).mono fun r e=>by subst e; exact ⟨.inl rfl,by kernel_rfl,by kernel_rfl⟩)

inductive f66r2n0O where
 | ret (v10:Bool)
def f66r2n0E(a1:Int)(a2:ByteArray)(a3:Int)(a4:List Qb)(a5:List (Qf×Int)):f66r2n0O→Ex×Tr×Hp
 | .ret v10=>(.ret,mkS [(4,(jB v10))],[some (.box 100 [(.mp 2),(jI a1),(jI a3)]),jR 3 Qb.cells a4,some (.map (a5.map (mkv (pAgg Qf.cells) (pInt .i64))))])
def f66r2n0S(a1:Int)(a2:ByteArray)(a3:Int)(a4:List Qb)(a5:List (Qf×Int)):Tr×Hp:=(Qae [(.bp 0 0),(.agg [(jI a1),(jS a2),(.own 1)])] 0 .leaf,[some (.box 100 [(.mp 2),(jI a1),(jI a3)]),jR 3 Qb.cells a4,some (.map (a5.map (mkv (pAgg Qf.cells) (pInt .i64))))])
noncomputable def f66r2n0(a1:Int)(a2:ByteArray)(a3:Int)(a4:List Qb)(a5:List (Qf×Int)):Option f66r2n0O :=
 (f65r2 a4 a1 a3 a5).bind fun x8 =>
 some (.ret (!x8))
theorem f66r2n0_ok(a1:Int)(a2:ByteArray)(a3:Int)(a4:List Qb)(a5:List (Qf×Int)){o:f66r2n0O}(h:f66r2n0 a1 a2 a3 a4 a5=some o):T Tryd.prog Tryd.f66.ntmps 3 c66 (f66r2n0S a1 a2 a3 a4 a5) (·=f66r2n0E a1 a2 a3 a4 a5 o):=by
 unfold f66r2n0 at h;obtain ⟨x8,h9,h⟩:=Qe h;obtain rfl:=Qd h;exact rE Qh [j3,([],[(3,.call (jB x8) [some (.box 100 [(.mp 2),(jI a1),(jI a3)]),jR 3 Qb.cells a4,some (.map (a5.map (mkv (pAgg Qf.cells) (pInt .i64)))),some (.box 94 [(.bp 0 0)]),none])],[])] [] [] [] [4] (.ret,(f66r2n0E a1 a2 a3 a4 a5 (.ret (!x8))).2) (ap (Qo.rn 5 [1,3,0,2] (f65r2_ok a4 a1 a3 a5 h9)) an) rfl
noncomputable def f66r2(a1:Int)(a2:ByteArray)(a3:Int)(a4:List Qb)(a5:List (Qf×Int)):Option Bool:=(f66r2n0 a1 a2 a3 a4 a5).bind fun o=>match o with
 | .ret v10=>some v10
theorem f66r2_ok(a1:Int)(a2:ByteArray)(a3:Int)(a4:List Qb)(a5:List (Qf×Int)){r:Bool}(h:f66r2 a1 a2 a3 a4 a5=some r):Qo Tryd.prog true 66 [(.bp 0 0),(.agg [(jI a1),(jS a2),(.own 1)])] [some (.box 100 [(.mp 2),(jI a1),(jI a3)]),jR 3 Qb.cells a4,some (.map (a5.map (mkv (pAgg Qf.cells) (pInt .i64))))] (jB r) [some (.box 100 [(.mp 2),(jI a1),(jI a3)]),jR 3 Qb.cells a4,some (.map (a5.map (mkv (pAgg Qf.cells) (pInt .i64))))]:=by
 unfold f66r2 at h;obtain ⟨o,ho,h⟩:=Qe h;cases o with
 | ret v10 =>
  obtain rfl:=Qd h;exact Qo.shared Qh (f:=Tryd.f66) (c:=c66) (by kernel_rfl) (by kernel_rfl) (by kernel_rfl) ((f66r2n0_ok a1 a2 a3 a4 a5 ho).mono fun r e=>by subst e; exact ⟨.inl rfl,by kernel_rfl,by kernel_rfl⟩)
end Go.Proofs.YtfeklaffeigilaaDoor
namespace Go.Proofs.YtfeklaffeigilaaDoor
set_option linter.unusedVariables false
set_option linter.unusedSimpArgs false
set_option maxRecDepth 100000
open Go.RowKit
inductive f48r3n2O where
 | exit0 (v45:List (Qf×Int))
def f48r3n2E(bq3:List Qb)(bd1 bd2 bd5:Int)(bb6:ByteArray):f48r3n2O→Ex×Tr×Hp
 | .exit0 v45=>((.exit 0),mkS [(0,(.bp 0 0)),(3,(.bp 3 0))],[some (.box 100 [(.mp 2),(jI bd1),(jI bd2)]),jR 3 Qb.cells bq3,some (.map (v45.map (mkv (pAgg Qf.cells) (pInt .i64)))),some (.box 46 [(jI bd5),(jS bb6),(.own 1)])])
def f48r3n2S(bq3:List Qb)(bd1 bd2 bd5:Int)(bb6:ByteArray)(v37:Int)(v38:List (Qf×Int)):Tr×Hp:=(mkS [(0,(.bp 0 0)),(3,(.bp 3 0)),(32,(.own 1)),(33,(jI (bq3.length:Int))),(34,(jI v37))],[some (.box 100 [(.mp 2),(jI bd1),(jI bd2)]),jR 3 Qb.cells bq3,some (.map (v38.map (mkv (pAgg Qf.cells) (pInt .i64)))),some (.box 46 [(jI bd5),(jS bb6),(.own 1)])])
noncomputable def f48r3n2:Nat→List Qb→Int→Int→Int→ByteArray→Int→List (Qf×Int)→Option f48r3n2O
 | 0,_,_,_,_,_,_,_=>none
 | f+1,bq3,bd1,bd2,bd5,bb6,v37,v38 =>
  bif decide (v37<(bq3.length:Int)) then
   (at? bq3 v37).bind fun x43 =>
   (f48r3n2 f bq3 bd1 bd2 bd5 bb6 (wr64 (v37+1)) (mPut Qf.eqb (Qf.mk x43.Account x43.Ccy) (wr64 ((mGet Qf.eqb 0 (Qf.mk x43.Account x43.Ccy) v38)+x43.Amount)) v38))
  else
   some (.exit0 v38)
theorem f48r3n2_ok:∀(f:Nat)(bq3:List Qb)(bd1 bd2 bd5:Int)(bb6:ByteArray)(v37:Int)(v38:List (Qf×Int)){o:f48r3n2O},f48r3n2 f bq3 bd1 bd2 bd5 bb6 v37 v38=some o→TL Tryd.prog Tryd.f48.ntmps 3 f (cL (cL (Qn 1 (cL (Qn 0 (Qn 2 c48)))))) (f48r3n2S bq3 bd1 bd2 bd5 bb6 v37 v38) (·=f48r3n2E bq3 bd1 bd2 bd5 bb6 o)
 | 0,_,_,_,_,_,_,_,o,h=>by rw [f48r3n2] at h; cases h
 | f+1,bq3,bd1,bd2,bd5,bb6,v37,v38,o,h=>by
  rw [f48r3n2] at h;refine TL.body (K:=fun s=>∃v37:Int,∃v38:List (Qf×Int),s=(f48r3n2S bq3 bd1 bd2 bd5 bb6 v37 v38)∧f48r3n2 f bq3 bd1 bd2 bd5 bb6 v37 v38=some o) ?_ (by rintro _ ⟨v37,v38,rfl,hk⟩; exact f48r3n2_ok f _ _ _ _ _ _ _ hk);rcases Qg h with ⟨h40,h⟩|⟨h40,h⟩
  ·obtain ⟨x43,h44,h⟩:=Qe h
   exact rE Qh [j3,([],[(0,.at_ (Int.toNat v37)),(1,.idx 0 (Qb.cells x43))],[]),([],[(9,.look ((pInt .i64) (mGet Qf.eqb 0 (Qf.mk x43.Account x43.Ccy) v38)) (mHas Qf.eqb (Qf.mk x43.Account x43.Ccy) v38)),(13,.ment ((pInt .i64) (mGet Qf.eqb 0 (Qf.mk x43.Account x43.Ccy) v38)) (mIdx Qf.eqb (Qf.mk x43.Account x43.Ccy) v38) ((mEns Qf.eqb 0 (Qf.mk x43.Account x43.Ccy) v38).map (mkv (pAgg Qf.cells) (pInt .i64)))),(15,.mst (mIdx Qf.eqb (Qf.mk x43.Account x43.Ccy) v38) ((pAgg Qf.cells) (Qf.mk x43.Account x43.Ccy)) ((pInt .i64) (mGet Qf.eqb 0 (Qf.mk x43.Account x43.Ccy) v38)))],[(15,.map 2 ((mPut Qf.eqb (Qf.mk x43.Account x43.Ccy) (wr64 ((mGet Qf.eqb 0 (Qf.mk x43.Account x43.Ccy) v38)+x43.Amount)) v38).map (mkv (pAgg Qf.cells) (pInt .i64))))]),j3] [some true] [] [3] [0,3,32,33,34] (.norm,(f48r3n2S bq3 bd1 bd2 bd5 bb6 (wr64 (v37+1)) (mPut Qf.eqb (Qf.mk x43.Account x43.Ccy) (wr64 ((mGet Qf.eqb 0 (Qf.mk x43.Account x43.Ccy) v38)+x43.Amount)) v38))) (ap h40 (ap (Qk h44).1 (ap (Qau Qb.cells (Qk h44).2) (ap (Qt Qb.cells (Qk h44).2) (ap (look_map (vp:=(pInt .i64)) (e:=3) key_107 0 (by kernel_rfl) (Qf.mk x43.Account x43.Ccy) v38) (ap (ment_map (vp:=(pInt .i64)) (e:=3) key_107 0 (by kernel_rfl) (Qf.mk x43.Account x43.Ccy) v38) (ap (rfl:((mIdx Qf.eqb (Qf.mk x43.Account x43.Ccy) v38):Int)=(((mIdx Qf.eqb (Qf.mk x43.Account x43.Ccy) v38):Nat):Int)) (ap (mst_at (vp:=(pInt .i64)) key_107 0 (Qf.mk x43.Account x43.Ccy) v38) (ap (mst_put (vp:=(pInt .i64)) key_107 0 (wr64 ((mGet Qf.eqb 0 (Qf.mk x43.Account x43.Ccy) v38)+x43.Amount)) (Qf.mk x43.Account x43.Ccy) v38) an))))))))) (Qv.norm ⟨(wr64 (v37+1)),(mPut Qf.eqb (Qf.mk x43.Account x43.Ccy) (wr64 ((mGet Qf.eqb 0 (Qf.mk x43.Account x43.Ccy) v38)+x43.Amount)) v38),rfl,h⟩)
  ·obtain rfl:=Qd h;exact rK Qh 2 [j3] [some false] [] [3] [0,3] (.exit 0) ((f48r3n2E bq3 bd1 bd2 bd5 bb6 (.exit0 v38)).2) (ap h40 an) (Qv.out rfl rfl)
inductive f48r3n1O where
 | norm (v49:List (Qf×Int))
def f48r3n1E(bd1 bd2:Int)(bq3:List Qb)(br4:List (Qf×Int))(bd5:Int)(bb6:ByteArray):f48r3n1O→Ex×Tr×Hp
 | .norm v49=>(.norm,mkS [(0,(.bp 0 0)),(3,(.bp 3 0))],[some (.box 100 [(.mp 2),(jI bd1),(jI bd2)]),jR 3 Qb.cells bq3,some (.map (v49.map (mkv (pAgg Qf.cells) (pInt .i64)))),some (.box 46 [(jI bd5),(jS bb6),(.own 1)])])
def f48r3n1S(bd1 bd2:Int)(bq3:List Qb)(br4:List (Qf×Int))(bd5:Int)(bb6:ByteArray):Tr×Hp:=(mkS [(0,(.bp 0 0)),(3,(.bp 3 0))],[some (.box 100 [(.mp 2),(jI bd1),(jI bd2)]),jR 3 Qb.cells bq3,some (.map (br4.map (mkv (pAgg Qf.cells) (pInt .i64)))),some (.box 46 [(jI bd5),(jS bb6),(.own 1)])])
noncomputable def f48r3n1(bd1 bd2:Int)(bq3:List Qb)(br4:List (Qf×Int))(bd5:Int)(bb6:ByteArray):Option f48r3n1O :=
 (f48r3n2 FUEL bq3 bd1 bd2 bd5 bb6 0 br4).bind fun o46=>match o46 with
 | .exit0 v48=>some (.norm v48)
theorem f48r3n1_ok(bd1 bd2:Int)(bq3:List Qb)(br4:List (Qf×Int))(bd5:Int)(bb6:ByteArray){o:f48r3n1O}(h:f48r3n1 bd1 bd2 bq3 br4 bd5 bb6=some o):T Tryd.prog Tryd.f48.ntmps 3 (cL (Qn 0 (Qn 2 c48))) (f48r3n1S bd1 bd2 bq3 br4 bd5 bb6) (·=f48r3n1E bd1 bd2 bq3 br4 bd5 bb6 o):=by
 unfold f48r3n1 at h;refine rN Qh 1 [([],[],[(2,.val (jI (bq3.length:Int)))])] [] [] [3] [0,3,32,33,34] (f48r3n2S bq3 bd1 bd2 bd5 bb6 0 br4) (ap (Qu (xs:=bq3) (c:=Qb.cells)) an) ?_;obtain ⟨o46,h47,h⟩:=Qe h;cases o46 with
 | exit0 v48 =>
  obtain rfl:=Qd h;exact T.last' (T.bl (i:=0) (by kernel_rfl) (by kernel_rfl) (f48r3n2_ok FUEL bq3 bd1 bd2 bd5 bb6 0 br4 h47)) (tds:=[]) (m:=[3]) (keep:=[0,3]) (st2:=(f48r3n1E bd1 bd2 bq3 br4 bd5 bb6 (.norm v48)).2) (by kernel_rfl) an rfl
inductive f48r3n0O where
 | ret (v57:Bool) (v58:Int) (v59:Int) (v60:List (Qf×Int))
def f48r3n0E(a1:Int)(a2:ByteArray)(a3 a4:Int)(a5:List Qb)(a6:List (Qf×Int)):f48r3n0O→Ex×Tr×Hp
 | .ret v57 v58 v59 v60=>(.ret,mkS [(4,(jB v57))],[some (.box 100 [(.mp 2),(jI v58),(jI v59)]),jR 3 Qb.cells a5,some (.map (v60.map (mkv (pAgg Qf.cells) (pInt .i64))))])
def f48r3n0S(a1:Int)(a2:ByteArray)(a3 a4:Int)(a5:List Qb)(a6:List (Qf×Int)):Tr×Hp:=(Qae [(.bp 0 0),(.agg [(jI a1),(jS a2),(.own 1)])] 0 .leaf,[some (.box 100 [(.mp 2),(jI a3),(jI a4)]),jR 3 Qb.cells a5,some (.map (a6.map (mkv (pAgg Qf.cells) (pInt .i64))))])
noncomputable def f48r3n0(a1:Int)(a2:ByteArray)(a3 a4:Int)(a5:List Qb)(a6:List (Qf×Int)):Option f48r3n0O :=
 bif decide (a4=200) then
  some (.ret false a3 a4 a6)
 else
  (f46 (Qc.mk a1 a2 a5)).bind fun x16 =>
  bif x16 then
   (f47 (Qc.mk a1 a2 a5)).bind fun x19 =>
   bif x19 then
    bif decide (a1<a3) then
     some (.ret false a3 a4 a6)
    else
     (f48r3n1 a3 a4 a5 a6 a1 a2).bind fun o50=>match o50 with
     | .norm v52=>(f66r2 a1 a2 (wr64 (a4+1)) a5 v52).bind fun x55 =>
      some (.ret x55 a1 (wr64 (a4+1)) v52)
   else
    some (.ret false a3 a4 a6)
  else
   some (.ret false a3 a4 a6)
theorem f48r3n0_ok(a1:Int)(a2:ByteArray)(a3 a4:Int)(a5:List Qb)(a6:List (Qf×Int)){o:f48r3n0O}(h:f48r3n0 a1 a2 a3 a4 a5 a6=some o):T Tryd.prog Tryd.f48.ntmps 3 c48 (f48r3n0S a1 a2 a3 a4 a5 a6) (·=f48r3n0E a1 a2 a3 a4 a5 a6 o):=by
 unfold f48r3n0 at h;rcases Qg h with ⟨h15,h⟩|⟨h15,h⟩
 ·obtain rfl:=Qd h;exact rK Qh 2 [j3,(jT [6,7,8],[(9,.bool true)],[]),j3] [none] [] [] [4] .ret ((f48r3n0E a1 a2 a3 a4 a5 a6 (.ret false a3 a4 a6)).2) (ap4 h15 an) rfl
 ·obtain ⟨x16,h17,h⟩:=Qe h;rcases Qg h with ⟨h18,h⟩|⟨h18,h⟩
  ·obtain ⟨x19,h20,h⟩:=Qe h;rcases Qg h with ⟨h21,h⟩|⟨h21,h⟩
   ·rcases Qg h with ⟨h22,h⟩|⟨h22,h⟩
    ·obtain rfl:=Qd h;exact rK Qh 2 [j3,(jF [6,7,8,11,12,13,16,17,18,19,20,21,22],[jH 7 (jB x16),(9,.bool false),jH 12 (jB x19),(14,.bool false),(23,.bool false)],[]),j3] [some true] [] [] [4] .ret ((f48r3n0E a1 a2 a3 a4 a5 a6 (.ret false a3 a4 a6)).2) (ap4 h15 (ap4 (Qm h18) (ap4 (Qm h21) (ap4 (Qm h21) (ap (f46_ok (Qc.mk a1 a2 a5) h17) (ap (f47_ok (Qc.mk a1 a2 a5) h20) (ap h22 an))))))) rfl
    ·refine rN Qh 2 [j3,(jF [6,7,8,11,12,13,16,17,18,19,20,21,22],[jH 7 (jB x16),(9,.bool false),jH 12 (jB x19),(14,.bool false),(23,.bool false)],[])] [some false] [] [3] [0,3] (mkS [(0,(.bp 0 0)),(3,(.bp 3 0))],[some (.box 100 [(.mp 2),(jI a3),(jI a4)]),jR 3 Qb.cells a5,some (.map (a6.map (mkv (pAgg Qf.cells) (pInt .i64)))),some (.box 46 [(jI a1),(jS a2),(.own 1)])]) (ap4 h15 (ap4 (Qm h18) (ap4 (Qm h21) (ap4 (Qm h21) (ap (f46_ok (Qc.mk a1 a2 a5) h17) (ap (f47_ok (Qc.mk a1 a2 a5) h20) (ap h22 an))))))) ?_;refine rN Qh 0 [] [] [] [3] [0,3] (f48r3n1S a3 a4 a5 a6 a1 a2) an ?_;obtain ⟨o50,h51,h⟩:=Qe h;cases o50 with
     | norm v52 =>
      refine T.oneN (by kernel_rfl) (f48r3n1_ok a3 a4 a5 a6 a1 a2 h51) (st2:=(f48r3n1E a3 a4 a5 a6 a1 a2 (.norm v52)).2) rfl ?_;obtain ⟨x55,h56,h⟩:=Qe h;obtain rfl:=Qd h;exact rE Qh [j3,([],[(2,.call (jB x55) [some (.box 100 [(.mp 2),(jI a1),(jI (wr64 (a4+1)))]),jR 3 Qb.cells a5,some (.map (v52.map (mkv (pAgg Qf.cells) (pInt .i64)))),none,none])],[])] [] [] [] [4] (.ret,(f48r3n0E a1 a2 a3 a4 a5 a6 (.ret x55 a1 (wr64 (a4+1)) v52)).2) (ap (Qo.rn 5 [0,1,2] (f66r2_ok a1 a2 (wr64 (a4+1)) a5 v52 h56)) an) rfl
   ·obtain rfl:=Qd h;exact rK Qh 2 [j3,(jF [6,7,8,11,12,13]++jT [16,17,18,19,20,21,22],[jH 7 (jB x16),(9,.bool false),jH 12 (jB x19),(14,.bool false),(23,.bool true)],[]),j3] [none] [] [] [4] .ret ((f48r3n0E a1 a2 a3 a4 a5 a6 (.ret false a3 a4 a6)).2) (ap4 h15 (ap4 (Qm h18) (ap4 (Qx h21) (ap4 (Qx h21) (ap (f46_ok (Qc.mk a1 a2 a5) h17) (ap (f47_ok (Qc.mk a1 a2 a5) h20) an)))))) rfl
  ·obtain rfl:=Qd h;exact rK Qh 2 [j3,(jF [6,7,8]++jT [11,12,13],[jH 7 (jB x16),(9,.bool false),(14,.bool true)],[]),j3] [none] [] [] [4] .ret ((f48r3n0E a1 a2 a3 a4 a5 a6 (.ret false a3 a4 a6)).2) (ap4 h15 (ap4 (Qx h18) (ap (f46_ok (Qc.mk a1 a2 a5) h17) an))) rfl
noncomputable def f48r3(a1:Int)(a2:ByteArray)(a3 a4:Int)(a5:List Qb)(a6:List (Qf×Int)):Option (Bool×Int×Int×(List (Qf×Int))):=(f48r3n0 a1 a2 a3 a4 a5 a6).bind fun o=>match o with
 | .ret v57 v58 v59 v60=>some (v57,v58,v59,v60)
theorem f48r3_ok(a1:Int)(a2:ByteArray)(a3 a4:Int)(a5:List Qb)(a6:List (Qf×Int)) {r:Bool×Int×Int×(List (Qf×Int))} (h:f48r3 a1 a2 a3 a4 a5 a6=some r):Qo Tryd.prog true 48 [(.bp 0 0),(.agg [(jI a1),(jS a2),(.own 1)])] [some (.box 100 [(.mp 2),(jI a3),(jI a4)]),jR 3 Qb.cells a5,some (.map (a6.map (mkv (pAgg Qf.cells) (pInt .i64))))] (jB r.1) [some (.box 100 [(.mp 2),(jI r.2.1),(jI r.2.2.1)]),jR 3 Qb.cells a5,some (.map (r.2.2.2.map (mkv (pAgg Qf.cells) (pInt .i64))))]:=by
 unfold f48r3 at h;obtain ⟨o,ho,h⟩:=Qe h;cases o with
 | ret v57 v58 v59 v60 =>
  obtain rfl:=Qd h;exact Qo.shared Qh (f:=Tryd.f48) (c:=c48) (by kernel_rfl) (by kernel_rfl) (by kernel_rfl) ((f48r3n0_ok a1 a2 a3 a4 a5 a6 ho).mono fun r e=>by subst e; exact ⟨.inl rfl,by kernel_rfl,by kernel_rfl⟩)

noncomputable def c49:Code:=Tryd.f49.body.getD .skip
inductive f49r1n2O where
 | exit0 (v40:List Qc)
def f49r1n2E(bt1:List Qc):f49r1n2O→Ex×Tr×Hp
 | .exit0 v40=>((.exit 0),mkS [(3,(.own 0))],[jR 3 Qc.cells v40])
def f49r1n2S(bt1:List Qc)(v26:Int)(v27:List Qc):Tr×Hp:=(mkS [(3,(.own 0)),(6,(jL 3 Qc.cells bt1)),(7,(jI (bt1.length:Int))),(8,(jI v26))],[jR 3 Qc.cells v27])
noncomputable def f49r1n2:Nat→List Qc→Int→List Qc→Option f49r1n2O
 | 0,_,_,_=>none
 | f+1,bt1,v26,v27 =>
  bif decide (v26<(bt1.length:Int)) then
   (at? bt1 v26).bind fun x35 =>
   (f44r1 x35.Lines).bind fun x37 =>
   req (fit (v27.length+1) 48) <|
   (f49r1n2 f bt1 (wr64 (v26+1)) (v27++[(Qc.mk x35.Day x35.Text x37)]))
  else
   some (.exit0 v27)
theorem f49r1n2_ok:∀(f:Nat)(bt1:List Qc)(v26:Int)(v27:List Qc){o:f49r1n2O},f49r1n2 f bt1 v26 v27=some o→TL Tryd.prog Tryd.f49.ntmps 0 f (cL (cL (Qn 1 (cL (Qn 2 c49))))) (f49r1n2S bt1 v26 v27) (·=f49r1n2E bt1 o)
 | 0,_,_,_,o,h=>by rw [f49r1n2] at h; cases h
 | f+1,bt1,v26,v27,o,h=>by
  rw [f49r1n2] at h;refine TL.body (K:=fun s=>∃v26:Int,∃v27:List Qc,s=(f49r1n2S bt1 v26 v27)∧f49r1n2 f bt1 v26 v27=some o) ?_ (by rintro _ ⟨v26,v27,rfl,hk⟩; exact f49r1n2_ok f _ _ _ hk);rcases Qg h with ⟨h29,h⟩|⟨h29,h⟩
  ·obtain ⟨x35,h36,h⟩:=Qe h;obtain ⟨x37,h38,h⟩:=Qe h;obtain ⟨h39,h⟩:=Qah h;exact rE Qh [j3,([],[(0,.idx (Int.toNat v26) (Qc.cells x35))],[]),([],[(2,.call (.own 2) [none,none,jR 3 Qb.cells x37])],[]),([],[(3,.fits)],[(3,.row 4 ((v27++[(Qc.mk x35.Day x35.Text x37)]).map Qc.cells))]),j3] [some true] [] [4] [3,6,7,8] (.norm,(f49r1n2S bt1 (wr64 (v26+1)) (v27++[(Qc.mk x35.Day x35.Text x37)]))) (ap h29 (ap (Qk h36).1 (ap (Qt Qc.cells (Qk h36).2) (ap (Qo.rn 2 [] (f44r1_ok x35.Lines h38)) (ap (fit_map (te:=ti46) (xs:=v27) (n:=1) (c:=Qc.cells) h39 rfl) (ap (app_cv (xs:=v27) (ys:=[(Qc.mk x35.Day x35.Text x37)]) (c:=Qc.cells)) an)))))) (Qv.norm ⟨(wr64 (v26+1)),(v27++[(Qc.mk x35.Day x35.Text x37)]),rfl,h⟩)
  ·obtain rfl:=Qd h;exact rK Qh 2 [j3] [some false] [] [0] [3] (.exit 0) ((f49r1n2E bt1 (.exit0 v27)).2) (ap h29 an) (Qv.out rfl rfl)
inductive f49r1n1O where
 | norm (v44:List Qc)
def f49r1n1E(bt1:List Qc):f49r1n1O→Ex×Tr×Hp
 | .norm v44=>(.norm,mkS [(3,(.own 0))],[jR 3 Qc.cells v44])
def f49r1n1S(bt1:List Qc):Tr×Hp:=(mkS [(0,(jL 3 Qc.cells bt1)),(3,(.pl (.sl .nil 0 [])))],[])
noncomputable def f49r1n1(bt1:List Qc):Option f49r1n1O :=
 (f49r1n2 FUEL bt1 0 []).bind fun o41=>match o41 with
 | .exit0 v43=>some (.norm v43)
theorem f49r1n1_ok(bt1:List Qc){o:f49r1n1O}(h:f49r1n1 bt1=some o):T Tryd.prog Tryd.f49.ntmps 0 (cL (Qn 2 c49)) (f49r1n1S bt1) (·=f49r1n1E bt1 o):=by
 unfold f49r1n1 at h;refine rN Qh 1 [([],[],[(1,.val (jI (bt1.length:Int)))])] [] [.mat 3 3] [0] [3,6,7,8] (f49r1n2S bt1 0 []) (ap (Qu (xs:=bt1) (c:=Qc.cells)) an) ?_;obtain ⟨o41,h42,h⟩:=Qe h;cases o41 with
 | exit0 v43 =>
  obtain rfl:=Qd h;exact T.last' (T.bl (i:=0) (by kernel_rfl) (by kernel_rfl) (f49r1n2_ok FUEL bt1 0 [] h42)) (tds:=[]) (m:=[0]) (keep:=[3]) (st2:=(f49r1n1E bt1 (.norm v43)).2) (by kernel_rfl) an rfl
inductive f49r1n0O where
 | ret (v48:List Qc)
def f49r1n0E(a1:List Qc):f49r1n0O→Ex×Tr×Hp
 | .ret v48=>(.ret,mkS [(2,(.own 0))],[jR 3 Qc.cells v48])
def f49r1n0S(a1:List Qc):Tr×Hp:=(Qae [(jL 3 Qc.cells a1)] 0 .leaf,[])
noncomputable def f49r1n0(a1:List Qc):Option f49r1n0O :=
 (f49r1n1 a1).bind fun o45=>match o45 with
 | .norm v47=>some (.ret v47)
theorem f49r1n0_ok(a1:List Qc){o:f49r1n0O}(h:f49r1n0 a1=some o):T Tryd.prog Tryd.f49.ntmps 0 c49 (f49r1n0S a1) (·=f49r1n0E a1 o):=by
 unfold f49r1n0 at h;refine rN Qh 2 [j3,j3] [] [] [] [0,3] (f49r1n1S a1) an ?_;obtain ⟨o45,h46,h⟩:=Qe h;cases o45 with
 | norm v47 =>
  refine T.oneN (by kernel_rfl) (f49r1n1_ok a1 h46) (st2:=(f49r1n1E a1 (.norm v47)).2) rfl ?_;obtain rfl:=Qd h;exact rE Qh [j3] [] [] [0] [2] (.ret,(f49r1n0E a1 (.ret v47)).2) an rfl
noncomputable def f49r1(a1:List Qc):Option (List Qc):=(f49r1n0 a1).bind fun o=>match o with
 | .ret v48=>some v48
theorem f49r1_ok(a1:List Qc){r:List Qc}(h:f49r1 a1=some r):Qo Tryd.prog true 49 [(jL 3 Qc.cells a1)] [] (.own 0) [jR 3 Qc.cells r]:=by
 unfold f49r1 at h;obtain ⟨o,ho,h⟩:=Qe h;cases o with
 | ret v48 =>
  obtain rfl:=Qd h;exact Qo.shared Qh (f:=Tryd.f49) (c:=c49) (by kernel_rfl) (by kernel_rfl) (by kernel_rfl) ((f49r1n0_ok a1 ho).mono fun r e=>by subst e; exact ⟨.inl rfl,by kernel_rfl,by kernel_rfl⟩)

noncomputable def c20:Code:=Tryd.f20.body.getD .skip
inductive f20n2O where
 | norm (v60:Int)
def f20n2E(bd1:Int) (bs2:Bool×Int×Int×(List (Qf×Int))) (bo3:Qi) (bb4:ByteArray) (bq5:List Qb):f20n2O→Ex×Tr×Hp
 | .norm v60=>(.norm,mkS [(4,(.bp 0 0)),(8,(.bp 1 0)),(10,(.bp 2 0)),(13,(jI v60))],[some (.box 43 ((Qi.cells bo3).map .pl)),some (.box 43 [(.pl (.sl .nil 0 []))]),some (.box 46 [(jI bd1),(jS bb4),(.own 3)]),jR 3 Qb.cells bq5])
def f20n2S(bd1:Int) (bs2:Bool×Int×Int×(List (Qf×Int))) (bo3:Qi) (bb4:ByteArray) (bq5:List Qb):Tr×Hp:=(mkS [(1,(jI bd1)),(4,(.bp 0 0)),(8,(.bp 1 0)),(10,(.bp 2 0)),(11,(.bp 3 0)),(13,(jI 0)),(24,(.pl (.bool (!bs2.1))))],[some (.box 43 ((Qi.cells bo3).map .pl)),some (.box 43 [(.pl (.sl .nil 0 []))]),some (.box 46 [(jI bd1),(jS bb4),(.own 4)]),some (.box 100 [(.mp 5),(jI bs2.2.1),(jI bs2.2.2.1)]),jR 3 Qb.cells bq5,some (.map (bs2.2.2.2.map (mkv (pAgg Qf.cells) (pInt .i64))))])
noncomputable def f20n2(bd1:Int) (bs2:Bool×Int×Int×(List (Qf×Int))) (bo3:Qi) (bb4:ByteArray) (bq5:List Qb):Option f20n2O :=
 bif bs2.1 then
  (f46 (Qc.mk bd1 bb4 bq5)).bind fun x40 =>
  bif x40 then
   (f47 (Qc.mk bd1 bb4 bq5)).bind fun x52 =>
   bif x52 then
    bif decide (bd1<bs2.2.1) then
     some (.norm 40)
    else
     bif decide (bs2.2.2.1=200) then
      some (.norm 22)
     else
      (f48r3 bd1 bb4 bs2.2.1 bs2.2.2.1 bq5 bs2.2.2.2).bind fun x57 =>
      bif x57.1 then
       some (.norm 0)
      else
       some (.norm 14)
   else
    some (.norm 60)
  else
   some (.norm 2)
 else
  some (.norm 8)
theorem f20n2_ok(bd1:Int) (bs2:Bool×Int×Int×(List (Qf×Int))) (bo3:Qi) (bb4:ByteArray) (bq5:List Qb) {o:f20n2O} (h:f20n2 bd1 bs2 bo3 bb4 bq5=some o):T Tryd.prog Tryd.f20.ntmps 0 (Qn 1 (cL (cL (Qn 4 c20)))) (f20n2S bd1 bs2 bo3 bb4 bq5) (·=f20n2E bd1 bs2 bo3 bb4 bq5 o):=by
 unfold f20n2 at h;rcases Qg h with ⟨h37,h⟩|⟨h37,h⟩
 ·refine T.condF (o:=.tmp 24) (b:=(!bs2.1)) (by kernel_rfl) (by kernel_rfl) (Qm h37) ?_;obtain ⟨x40,h41,h⟩:=Qe h;rcases Qg h with ⟨h51,h⟩|⟨h51,h⟩
  ·obtain ⟨x52,h53,h⟩:=Qe h;rcases Qg h with ⟨h54,h⟩|⟨h54,h⟩
   ·rcases Qg h with ⟨h55,h⟩|⟨h55,h⟩
    ·obtain rfl:=Qd h;exact rE Qh [([],[jH 1 (jB x40)],[]),([],[jH 1 (jB x52)],[]),j3,j3] [some false,some false,some true] [] [0,1,2,4] [4,8,10,13] (.norm,(f20n2E bd1 bs2 bo3 bb4 bq5 (.norm 40)).2) (ap (f46_ok (Qc.mk bd1 bb4 bq5) h41) (ap (Qm h51) (ap (f47_ok (Qc.mk bd1 bb4 bq5) h53) (ap (Qm h54) (ap h55 an))))) rfl
    ·rcases Qg h with ⟨h56,h⟩|⟨h56,h⟩
     ·obtain rfl:=Qd h;exact rE Qh [([],[jH 1 (jB x40)],[]),([],[jH 1 (jB x52)],[]),j3,j3,j3] [some false,some false,some false,some true] [] [0,1,2,4] [4,8,10,13] (.norm,(f20n2E bd1 bs2 bo3 bb4 bq5 (.norm 22)).2) (ap (f46_ok (Qc.mk bd1 bb4 bq5) h41) (ap (Qm h51) (ap (f47_ok (Qc.mk bd1 bb4 bq5) h53) (ap (Qm h54) (ap h55 (ap h56 an)))))) rfl
     ·obtain ⟨x57,h58,h⟩:=Qe h;rcases Qg h with ⟨h59,h⟩|⟨h59,h⟩
      ·obtain rfl:=Qd h;exact rE Qh [([],[jH 1 (jB x40)],[]),([],[jH 1 (jB x52)],[]),j3,j3,([],[(2,.call (jB x57.1) (jN 3 [some (.box 100 [(.mp 5),(jI x57.2.1),(jI x57.2.2.1)]),jR 3 Qb.cells bq5,some (.map (x57.2.2.2.map (mkv (pAgg Qf.cells) (pInt .i64))))]))],[])] [some false,some false,some false,some false,some false] [] [0,1,2,4] [4,8,10,13] (.norm,(f20n2E bd1 bs2 bo3 bb4 bq5 (.norm 0)).2) (ap (f46_ok (Qc.mk bd1 bb4 bq5) h41) (ap (Qm h51) (ap (f47_ok (Qc.mk bd1 bb4 bq5) h53) (ap (Qm h54) (ap h55 (ap h56 (ap (Qo.rn 6 [3,4,5] (f48r3_ok bd1 bb4 bs2.2.1 bs2.2.2.1 bq5 bs2.2.2.2 h58)) (ap (Qm h59) an)))))))) rfl
      ·obtain rfl:=Qd h;exact rE Qh [([],[jH 1 (jB x40)],[]),([],[jH 1 (jB x52)],[]),j3,j3,([],[(2,.call (jB x57.1) (jN 3 [some (.box 100 [(.mp 5),(jI x57.2.1),(jI x57.2.2.1)]),jR 3 Qb.cells bq5,some (.map (x57.2.2.2.map (mkv (pAgg Qf.cells) (pInt .i64))))]))],[]),j3] [some false,some false,some false,some false,some true] [] [0,1,2,4] [4,8,10,13] (.norm,(f20n2E bd1 bs2 bo3 bb4 bq5 (.norm 14)).2) (ap (f46_ok (Qc.mk bd1 bb4 bq5) h41) (ap (Qm h51) (ap (f47_ok (Qc.mk bd1 bb4 bq5) h53) (ap (Qm h54) (ap h55 (ap h56 (ap (Qo.rn 6 [3,4,5] (f48r3_ok bd1 bb4 bs2.2.1 bs2.2.2.1 bq5 bs2.2.2.2 h58)) (ap (Qx h59) an)))))))) rfl
   ·obtain rfl:=Qd h;exact rE Qh [([],[jH 1 (jB x40)],[]),([],[jH 1 (jB x52)],[]),j3] [some false,some true] [] [0,1,2,4] [4,8,10,13] (.norm,(f20n2E bd1 bs2 bo3 bb4 bq5 (.norm 60)).2) (ap (f46_ok (Qc.mk bd1 bb4 bq5) h41) (ap (Qm h51) (ap (f47_ok (Qc.mk bd1 bb4 bq5) h53) (ap (Qx h54) an)))) rfl
  ·obtain rfl:=Qd h;exact rE Qh [([],[jH 1 (jB x40)],[]),j3] [some true] [] [0,1,2,4] [4,8,10,13] (.norm,(f20n2E bd1 bs2 bo3 bb4 bq5 (.norm 2)).2) (ap (f46_ok (Qc.mk bd1 bb4 bq5) h41) (ap (Qx h51) an)) rfl
 ·refine T.condT (o:=.tmp 24) (b:=(!bs2.1)) (by kernel_rfl) (by kernel_rfl) (Qx h37) ?_;obtain rfl:=Qd h;exact rE Qh [j3] [] [] [0,1,2,4] [4,8,10,13] (.norm,(f20n2E bd1 bs2 bo3 bb4 bq5 (.norm 8)).2) an rfl
inductive f20n1O where
 | norm (v64:Int)
def f20n1E(bd1:Int) (bs2:Bool×Int×Int×(List (Qf×Int))) (bo3:Qi) (bb4:ByteArray) (bq5:List Qb):f20n1O→Ex×Tr×Hp
 | .norm v64=>(.norm,mkS [(4,(.bp 0 0)),(8,(.bp 1 0)),(10,(.bp 2 0)),(13,(jI v64))],[some (.box 43 ((Qi.cells bo3).map .pl)),some (.box 43 [(.pl (.sl .nil 0 []))]),some (.box 46 [(jI bd1),(jS bb4),(.own 3)]),jR 3 Qb.cells bq5])
def f20n1S(bd1:Int) (bs2:Bool×Int×Int×(List (Qf×Int))) (bo3:Qi) (bb4:ByteArray) (bq5:List Qb):Tr×Hp:=(mkS [(1,(jI bd1)),(4,(.bp 0 0)),(8,(.bp 1 0)),(10,(.bp 2 0)),(11,(.bp 3 0)),(12,(jB bs2.1)),(13,(jI 0))],[some (.box 43 ((Qi.cells bo3).map .pl)),some (.box 43 [(.pl (.sl .nil 0 []))]),some (.box 46 [(jI bd1),(jS bb4),(.own 4)]),some (.box 100 [(.mp 5),(jI bs2.2.1),(jI bs2.2.2.1)]),jR 3 Qb.cells bq5,some (.map (bs2.2.2.2.map (mkv (pAgg Qf.cells) (pInt .i64))))])
noncomputable def f20n1(bd1:Int) (bs2:Bool×Int×Int×(List (Qf×Int))) (bo3:Qi) (bb4:ByteArray) (bq5:List Qb):Option f20n1O :=
 (f20n2 bd1 bs2 bo3 bb4 bq5).bind fun o61=>match o61 with
 | .norm v63=>some (.norm v63)
theorem f20n1_ok(bd1:Int) (bs2:Bool×Int×Int×(List (Qf×Int))) (bo3:Qi) (bb4:ByteArray) (bq5:List Qb) {o:f20n1O} (h:f20n1 bd1 bs2 bo3 bb4 bq5=some o):T Tryd.prog Tryd.f20.ntmps 0 (cL (Qn 4 c20)) (f20n1S bd1 bs2 bo3 bb4 bq5) (·=f20n1E bd1 bs2 bo3 bb4 bq5 o):=by
 unfold f20n1 at h;refine T.block' (i:=0) (by kernel_rfl) ?_;refine rN Qh 1 [j3] [] [] [0,1,2,3,4,5] [1,4,8,10,11,13,24] (f20n2S bd1 bs2 bo3 bb4 bq5) an ?_;obtain ⟨o61,h62,h⟩:=Qe h;cases o61 with
 | norm v63 =>
  obtain rfl:=Qd h;exact T.last' (f20n2_ok bd1 bs2 bo3 bb4 bq5 h62) (tds:=[]) (m:=[0,1,2,3]) (keep:=[4,8,10,13]) (st2:=(f20n1E bd1 bs2 bo3 bb4 bq5 (.norm v63)).2) (by kernel_rfl) an rfl
inductive f20n0O where
 | ret (v76:Int) (v77:List Qc)
def f20n0E(a1:Qi)(a2:Int)(a3:ByteArray)(a4:List Qb):f20n0O→Ex×Tr×Hp
 | .ret v76 v77=>(.ret,mkS [(8,(.bp 0 0)),(9,(jI v76))],[some (.box 43 [(.own 1)]),jR 3 Qc.cells v77])
def f20n0S(a1:Qi)(a2:Int)(a3:ByteArray)(a4:List Qb):Tr×Hp:=(Qae [(jA Qi.cells a1),(jI a2),(jS a3),(jL 3 Qb.cells a4)] 0 .leaf,[])
noncomputable def f20n0(a1:Qi)(a2:Int)(a3:ByteArray)(a4:List Qb):Option f20n0O :=
 (f44r1 a4).bind fun x7 =>
 (f45r1 a1).bind fun x11 =>
 (f20n1 a2 x11 a1 a3 x7).bind fun o65=>match o65 with
 | .norm v67=>bif decide (v67=0) then
   (f49r1 a1.Records).bind fun x73 =>
   req (fit (x73.length+1) 48) <|
   some (.ret 0 (x73++[(Qc.mk a2 a3 x7)]))
  else
   some (.ret v67 [])
theorem f20n0_ok(a1:Qi)(a2:Int)(a3:ByteArray)(a4:List Qb){o:f20n0O}(h:f20n0 a1 a2 a3 a4=some o):T Tryd.prog Tryd.f20.ntmps 0 c20 (f20n0S a1 a2 a3 a4) (·=f20n0E a1 a2 a3 a4 o):=by
 unfold f20n0 at h;obtain ⟨x7,h8,h⟩:=Qe h;obtain ⟨x11,h12,h⟩:=Qe h;refine rN Qh 4 [j3,([],[(3,.call (.own 2) [none,none,jR 3 Qb.cells x7])],[]),([],[(1,.call (.tup [(.bp 4 0),(jB x11.1)]) (jN 4 [some (.box 100 [(.mp 5),(jI x11.2.1),(jI x11.2.2.1)]),some (.map (x11.2.2.2.map (mkv (pAgg Qf.cells) (pInt .i64))))]))],[]),j3] [] [] [0,1,3,4,2,5] [1,4,8,10,11,12,13] (f20n1S a2 x11 a1 a3 x7) (ap (Qo.rn 2 [] (f44r1_ok a4 h8)) (ap (Qo.rn 4 [] (f45r1_ok a1 h12)) an)) ?_;obtain ⟨o65,h66,h⟩:=Qe h;cases o65 with
 | norm v67 =>
  refine T.oneN (by kernel_rfl) (f20n1_ok a2 x11 a1 a3 x7 h66) (st2:=(f20n1E a2 x11 a1 a3 x7 (.norm v67)).2) rfl ?_;rcases Qg h with ⟨h69,h⟩|⟨h69,h⟩
  ·obtain ⟨x73,h74,h⟩:=Qe h;obtain ⟨h75,h⟩:=Qah h;obtain rfl:=Qd h;exact rE Qh [j3,([],[(2,.call (.own 7) (jN 7 [jR 3 Qc.cells x73])),(5,.fits)],[(5,.row 5 ((x73++[(Qc.mk a2 a3 x7)]).map Qc.cells))])] [some false] [] [1,5] [8,9] (.ret,(f20n0E a1 a2 a3 a4 (.ret 0 (x73++[(Qc.mk a2 a3 x7)]))).2) (ap (Qm h69) (ap (fit_map (te:=ti46) (xs:=x73) (n:=1) (c:=Qc.cells) h75 rfl) (ap (app_cv (xs:=x73) (ys:=[(Qc.mk a2 a3 x7)]) (c:=Qc.cells)) (ap (Qo.rn 7 [] (f49r1_ok a1.Records h74)) an)))) rfl
  ·obtain rfl:=Qd h;exact rK Qh 1 [j3,j3] [some true] [.matC 1 0 3] [1,4] [8,9] .ret ((f20n0E a1 a2 a3 a4 (.ret v67 [])).2) (ap (Qx h69) an) rfl
noncomputable def f20(a1:Qi)(a2:Int)(a3:ByteArray)(a4:List Qb):Option (Qi×Int):=(f20n0 a1 a2 a3 a4).bind fun o=>match o with
 | .ret v76 v77=>some ((Qi.mk v77),v76)
theorem f20_ok(a1:Qi)(a2:Int)(a3:ByteArray)(a4:List Qb){r:Qi×Int}(h:f20 a1 a2 a3 a4=some r):Qo Tryd.prog false 20 [(jA Qi.cells a1),(jI a2),(jS a3),(jL 3 Qb.cells a4)] [] (.tup [(jA Qi.cells r.1),(jI r.2)]) []:=by
 unfold f20 at h;obtain ⟨o,ho,h⟩:=Qe h;cases o with
 | ret v76 v77 =>
  obtain rfl:=Qd h;exact Qo.plain Qh (f:=Tryd.f20) (c:=c20) (by kernel_rfl) (by kernel_rfl) (by kernel_rfl) (by kernel_rfl) ((f20n0_ok a1 a2 a3 a4 ho).mono fun r e=>by subst e; exact ⟨.inl rfl,(.tup [(.agg [(.own 1)]),(jI v76)]),(.tup [(.pl (.agg (Qi.cells (Qi.mk v77)))),(jI v76)]),by kernel_rfl,by kernel_rfl,((Wk.refl _):Wk (.tup [(.pl (.agg (Qi.cells (Qi.mk v77)))),(jI v76)]) (.tup [(.pl (.agg (Qi.cells (Qi.mk v77)))),(jI v76)]))⟩)

noncomputable def c26:Code:=Tryd.f26.body.getD .skip
inductive f26n0O where
 | ret (v35:Bool) (v36:Qi)
def f26n0E:f26n0O→Ex×Tr×Hp
 | .ret v35 v36=>(.ret,mkS [(0,(.bp 0 0)),(1,(jB v35))],[some (.box 43 ((Qi.cells v36).map .pl))])
def f26n0S:Tr×Hp:=(Qae [] 0 .leaf,[])
noncomputable def f26n0:Option f26n0O :=
 f53.bind fun x7 =>
 (f54 5).bind fun x9 =>
 (f20 x7 10 str_a x9).bind fun x11 =>
 (f54 (-2)).bind fun x17 =>
 (f20 x11.1 12 Qaa x17).bind fun x19 =>
 (f54 1).bind fun x25 =>
 (f20 x19.1 12 str_b x25).bind fun x27 =>
 bif decide (x11.2=0) then
  bif decide (x19.2=0) then
   some (.ret (decide (x27.2=0)) x27.1)
  else
   some (.ret false x27.1)
 else
  some (.ret false x27.1)
theorem f26n0_ok{o:f26n0O}(h:f26n0=some o):T Tryd.prog Tryd.f26.ntmps 0 c26 f26n0S (·=f26n0E o):=by
 unfold f26n0 at h;obtain ⟨x7,h8,h⟩:=Qe h;obtain ⟨x9,h10,h⟩:=Qe h;obtain ⟨x11,h12,h⟩:=Qe h;obtain ⟨x17,h18,h⟩:=Qe h;obtain ⟨x19,h20,h⟩:=Qe h;obtain ⟨x25,h26,h⟩:=Qe h;obtain ⟨x27,h28,h⟩:=Qe h
 refine rN Qh 4 [j3,([],[jH 0 (jA Qi.cells x7),jH 1 (jL 3 Qb.cells x9),jH 2 (.tup [(jA Qi.cells x11.1),(jI x11.2)])],[]),([],[jH 1 (jL 3 Qb.cells x17),jH 2 (.tup [(jA Qi.cells x19.1),(jI x19.2)])],[]),([],[jH 1 (jL 3 Qb.cells x25),jH 2 (.tup [(jA Qi.cells x27.1),(jI x27.2)])],[])] [] [] [0,4] [0,3,5,6,7] (mkS [(0,(.bp 0 0)),(3,(jI x11.2)),(5,(jI x19.2)),(6,(.bp 1 0)),(7,(jI x27.2))],[some (.box 43 [(.pl (.sl .nil 0 []))]),some (.box 43 ((Qi.cells x27.1).map .pl))]) (ap (f53_ok h8) (ap (f54_ok 5 h10) (ap (f20_ok x7 10 str_a x9 h12) (ap (f54_ok (-2) h18) (ap (f20_ok x11.1 12 Qaa x17 h20) (ap (f54_ok 1 h26) (ap (f20_ok x19.1 12 str_b x25 h28) an))))))) ?_;rcases Qg h with ⟨h33,h⟩|⟨h33,h⟩
 ·rcases Qg h with ⟨h34,h⟩|⟨h34,h⟩
  ·obtain rfl:=Qd h;exact rE Qh [(jT [4,5,8,9],[(6,.bool true),(10,.bool true)],[])] [] [] [0] [0,1] (.ret,(f26n0E (.ret (decide (x27.2=0)) x27.1)).2) (ap3 h33 (ap3 h34 an)) rfl
  ·obtain rfl:=Qd h;exact rE Qh [(jF [8,9]++jT [4,5],[(6,.bool true),(10,.bool false)],[])] [] [] [0] [0,1] (.ret,(f26n0E (.ret false x27.1)).2) (ap3 h33 (ap3 h34 an)) rfl
 ·obtain rfl:=Qd h;exact rE Qh [([(4,false),(5,false)],[(6,.bool false)],[])] [] [] [0] [0,1] (.ret,(f26n0E (.ret false x27.1)).2) (ap3 h33 an) rfl
noncomputable def f26:Option (Qi×Bool):=f26n0.bind fun o=>match o with
 | .ret v35 v36=>some (v36,v35)
theorem f26_ok{r:Qi×Bool}(h:f26=some r):Qo Tryd.prog false 26 [] [] (.tup [(jA Qi.cells r.1),(jB r.2)]) []:=by
 unfold f26 at h;obtain ⟨o,ho,h⟩:=Qe h;cases o with
 | ret v35 v36 =>
  obtain rfl:=Qd h;exact Qo.plain Qh (f:=Tryd.f26) (c:=c26) (by kernel_rfl) (by kernel_rfl) (by kernel_rfl) (by kernel_rfl) ((f26n0_ok  ho).mono fun r e=>by subst e; exact ⟨.inl rfl,(.tup [(jA Qi.cells v36),(jB v35)]),(.tup [(jA Qi.cells v36),(jB v35)]),by kernel_rfl,by kernel_rfl,((Wk.refl _):Wk (.tup [(jA Qi.cells v36),(jB v35)]) (.tup [(jA Qi.cells v36),(jB v35)]))⟩)

noncomputable def c50:Code:=Tryd.f50.body.getD .skip
inductive f50n0O where
 | ret (v8:Int)
def f50n0E(a1:Qi):f50n0O→Ex×Tr×Hp
 | .ret v8=>(.ret,mkS [(2,(jI v8))],[])
def f50n0S(a1:Qi):Tr×Hp:=(Qae [(jA Qi.cells a1)] 0 .leaf,[])
noncomputable def f50n0(a1:Qi):Option f50n0O :=
 (f45r1 a1).bind fun x5 =>
 bif x5.1 then
  some (.ret 0)
 else
  some (.ret 8)
theorem f50n0_ok(a1:Qi){o:f50n0O}(h:f50n0 a1=some o):T Tryd.prog Tryd.f50.ntmps 0 c50 (f50n0S a1) (·=f50n0E a1 o):=by
 unfold f50n0 at h;obtain ⟨x5,h6,h⟩:=Qe h;rcases Qg h with ⟨h7,h⟩|⟨h7,h⟩
 ·obtain rfl:=Qd h;exact rE Qh [j3,([],[(1,.call (.tup [(.bp 1 0),(jB x5.1)]) [none,some (.box 100 [(.mp 2),(jI x5.2.1),(jI x5.2.2.1)]),some (.map (x5.2.2.2.map (mkv (pAgg Qf.cells) (pInt .i64))))])],[]),j3,j3] [some false] [] [] [2] (.ret,(f50n0E a1 (.ret 0)).2) (ap (Qo.rn 1 [] (f45r1_ok a1 h6)) (ap (Qm h7) an)) rfl
 ·obtain rfl:=Qd h;exact rK Qh 2 [j3,([],[(1,.call (.tup [(.bp 1 0),(jB x5.1)]) [none,some (.box 100 [(.mp 2),(jI x5.2.1),(jI x5.2.2.1)]),some (.map (x5.2.2.2.map (mkv (pAgg Qf.cells) (pInt .i64))))])],[]),j3,j3] [some true] [] [] [2] .ret ((f50n0E a1 (.ret 8)).2) (ap (Qo.rn 1 [] (f45r1_ok a1 h6)) (ap (Qx h7) an)) rfl
noncomputable def f50(a1:Qi):Option Int:=(f50n0 a1).bind fun o=>match o with
 | .ret v8=>some v8
theorem f50_ok(a1:Qi){r:Int}(h:f50 a1=some r):Qo Tryd.prog false 50 [(jA Qi.cells a1)] [] (jI r) []:=by
 unfold f50 at h;obtain ⟨o,ho,h⟩:=Qe h;cases o with
 | ret v8 =>
  obtain rfl:=Qd h;exact Qo.plain Qh (f:=Tryd.f50) (c:=c50) (by kernel_rfl) (by kernel_rfl) (by kernel_rfl) (by kernel_rfl) ((f50n0_ok a1 ho).mono fun r e=>by subst e; exact ⟨.inl rfl,(jI v8),(jI v8),by kernel_rfl,by kernel_rfl,((Wk.refl _):Wk (jI v8) (jI v8))⟩)

noncomputable def c83:Code:=Tryd.f83.body.getD .skip
inductive f83n0O where
 | ret (v7:Bool)
def f83n0E(a1 a2:ByteArray):f83n0O→Ex×Tr×Hp
 | .ret v7=>(.ret,mkS [(4,(jB v7))],[])
def f83n0S(a1 a2:ByteArray):Tr×Hp:=(Qae [(jS a1),(jS a2)] 0 .leaf,[])
noncomputable def f83n0(a1 a2:ByteArray):Option f83n0O :=
 bif decide ((a2.size:Int)≤(a1.size:Int)) then
  req (cutB 0 (a2.size:Int) a1.size) <|
  some (.ret (seq (scut a1 0 (Int.toNat (a2.size:Int))) a2))
 else
  some (.ret false)
theorem f83n0_ok(a1 a2:ByteArray){o:f83n0O}(h:f83n0 a1 a2=some o):T Tryd.prog Tryd.f83.ntmps 0 c83 (f83n0S a1 a2) (·=f83n0E a1 a2 o):=by
 unfold f83n0 at h;rcases Qg h with ⟨h5,h⟩|⟨h5,h⟩
 ·obtain ⟨h6,h⟩:=Qah h;obtain rfl:=Qd h;exact rE Qh [j3,(jT [6,7,8,9,10,11],[(9,.cut 0 (Int.toNat (a2.size:Int))),(12,.bool true)],[])] [] [] [] [4] (.ret,(f83n0E a1 a2 (.ret (seq (scut a1 0 (Int.toNat (a2.size:Int))) a2))).2) (ap4 h5 (ap (cut_hn_1 h6) (ap (cut_hn_2 h6) (ap (cut_hn_3 h6) (ap (cut_hn_4 h6) (ap3 h5 an)))))) rfl
 ·obtain rfl:=Qd h;exact rE Qh [j3,(jF [6,7,8,9,10,11],[(12,.bool false)],[])] [] [] [] [4] (.ret,(f83n0E a1 a2 (.ret false)).2) (ap3 h5 (ap4 h5 an)) rfl
noncomputable def f83(a1 a2:ByteArray):Option Bool:=(f83n0 a1 a2).bind fun o=>match o with
 | .ret v7=>some v7
theorem f83_ok(a1 a2:ByteArray){r:Bool}(h:f83 a1 a2=some r):Qo Tryd.prog false 83 [(jS a1),(jS a2)] [] (jB r) []:=by
 unfold f83 at h;obtain ⟨o,ho,h⟩:=Qe h;cases o with
 | ret v7 =>
  obtain rfl:=Qd h;exact Qo.plain Qh (f:=Tryd.f83) (c:=c83) (by kernel_rfl) (by kernel_rfl) (by kernel_rfl) (by kernel_rfl) ((f83n0_ok a1 a2 ho).mono fun r e=>by subst e; exact ⟨.inl rfl,(jB v7),(jB v7),by kernel_rfl,by kernel_rfl,((Wk.refl _):Wk (jB v7) (jB v7))⟩)

noncomputable def c67:Code:=Tryd.f67.body.getD .skip
inductive f67n0O where
 | ret (v11:ByteArray) (v12:Bool)
def f67n0E(a1 a2:ByteArray):f67n0O→Ex×Tr×Hp
 | .ret v11 v12=>(.ret,mkS [(4,(jS v11)),(5,(jB v12))],[])
def f67n0S(a1 a2:ByteArray):Tr×Hp:=(Qae [(jS a1),(jS a2)] 0 .leaf,[])
noncomputable def f67n0(a1 a2:ByteArray):Option f67n0O :=
 (f83 a1 a2).bind fun x6 =>
 bif x6 then
  req (cutB (a2.size:Int) (a1.size:Int) a1.size) <|
  some (.ret (scut a1 (Int.toNat (a2.size:Int)) a1.size) true)
 else
  some (.ret a1 false)
theorem f67n0_ok(a1 a2:ByteArray){o:f67n0O}(h:f67n0 a1 a2=some o):T Tryd.prog Tryd.f67.ntmps 0 c67 (f67n0S a1 a2) (·=f67n0E a1 a2 o):=by
 unfold f67n0 at h;obtain ⟨x6,h7,h⟩:=Qe h;rcases Qg h with ⟨h8,h⟩|⟨h8,h⟩
 ·obtain ⟨h10,h⟩:=Qah h;obtain rfl:=Qd h;exact rE Qh [j3,([],[jH 2 (jB x6)],[]),([],[(3,.cut (Int.toNat (a2.size:Int)) a1.size)],[])] [some false] [] [] [4,5] (.ret,(f67n0E a1 a2 (.ret (scut a1 (Int.toNat (a2.size:Int)) a1.size) true)).2) (ap (f83_ok a1 a2 h7) (ap (Qm h8) (ap (cut_nl_1 h10) (ap (cut_nl_2 h10) (ap (cut_nl_3 h10) (ap (cut_nl_4 h10) an)))))) rfl
 ·obtain rfl:=Qd h;exact rK Qh 2 [j3,([],[jH 2 (jB x6)],[]),j3] [some true] [] [] [4,5] .ret ((f67n0E a1 a2 (.ret a1 false)).2) (ap (f83_ok a1 a2 h7) (ap (Qx h8) an)) rfl
noncomputable def f67(a1 a2:ByteArray):Option (ByteArray×Bool):=(f67n0 a1 a2).bind fun o=>match o with
 | .ret v11 v12=>some (v11,v12)
theorem f67_ok(a1 a2:ByteArray){r:ByteArray×Bool}(h:f67 a1 a2=some r):Qo Tryd.prog false 67 [(jS a1),(jS a2)] [] (.tup [(jS r.1),(jB r.2)]) []:=by
 unfold f67 at h;obtain ⟨o,ho,h⟩:=Qe h;cases o with
 | ret v11 v12 =>
  obtain rfl:=Qd h;exact Qo.plain Qh (f:=Tryd.f67) (c:=c67) (by kernel_rfl) (by kernel_rfl) (by kernel_rfl) (by kernel_rfl) ((f67n0_ok a1 a2 ho).mono fun r e=>by subst e; exact ⟨.inl rfl,(.tup [(jS v11),(jB v12)]),(.tup [(jS v11),(jB v12)]),by kernel_rfl,by kernel_rfl,((Wk.refl _):Wk (.tup [(jS v11),(jB v12)]) (.tup [(jS v11),(jB v12)]))⟩)

noncomputable def c51:Code:=Tryd.f51.body.getD .skip
inductive f51n0O where
 | ret (v7:ByteArray) (v8:Bool)
def f51n0E(a1 a2:ByteArray):f51n0O→Ex×Tr×Hp
 | .ret v7 v8=>(.ret,mkS [(4,(jS v7)),(5,(jB v8))],[])
def f51n0S(a1 a2:ByteArray):Tr×Hp:=(Qae [(jS a1),(jS a2)] 0 .leaf,[])
noncomputable def f51n0(a1 a2:ByteArray):Option f51n0O :=
 (f67 a1 a2).bind fun x5 =>
 some (.ret x5.1 x5.2)
theorem f51n0_ok(a1 a2:ByteArray){o:f51n0O}(h:f51n0 a1 a2=some o):T Tryd.prog Tryd.f51.ntmps 0 c51 (f51n0S a1 a2) (·=f51n0E a1 a2 o):=by
 unfold f51n0 at h;obtain ⟨x5,h6,h⟩:=Qe h;obtain rfl:=Qd h;exact rE Qh [j3,([],[jH 2 (.tup [(jS x5.1),(jB x5.2)])],[])] [] [] [] [4,5] (.ret,(f51n0E a1 a2 (.ret x5.1 x5.2)).2) (ap (f67_ok a1 a2 h6) an) rfl
noncomputable def f51(a1 a2:ByteArray):Option (ByteArray×Bool):=(f51n0 a1 a2).bind fun o=>match o with
 | .ret v7 v8=>some (v7,v8)
theorem f51_ok(a1 a2:ByteArray){r:ByteArray×Bool}(h:f51 a1 a2=some r):Qo Tryd.prog false 51 [(jS a1),(jS a2)] [] (.tup [(jS r.1),(jB r.2)]) []:=by
 unfold f51 at h;obtain ⟨o,ho,h⟩:=Qe h;cases o with
 | ret v7 v8 =>
  obtain rfl:=Qd h;exact Qo.plain Qh (f:=Tryd.f51) (c:=c51) (by kernel_rfl) (by kernel_rfl) (by kernel_rfl) (by kernel_rfl) ((f51n0_ok a1 a2 ho).mono fun r e=>by subst e; exact ⟨.inl rfl,(.tup [(jS v7),(jB v8)]),(.tup [(jS v7),(jB v8)]),by kernel_rfl,by kernel_rfl,((Wk.refl _):Wk (.tup [(jS v7),(jB v8)]) (.tup [(jS v7),(jB v8)]))⟩)

noncomputable def c68:Code:=Tryd.f68.body.getD .skip
inductive f68n2O where
 | exit0 (v36:Int)
 | ret
def f68n2E(bb1:ByteArray):f68n2O→Ex×Tr×Hp
 | .exit0 v36=>((.exit 0),mkS [(2,(jI v36))],[])
 | .ret=>(.ret,mkS [(2,(jI 0)),(3,(jB false))],[])
def f68n2S(bb1:ByteArray)(v24 v25:Int):Tr×Hp:=(mkS [(0,(jS bb1)),(2,(jI v24)),(6,(jI (bb1.size:Int))),(7,(jI v25))],[])
noncomputable def f68n2:Nat→ByteArray→Int→Int→Option f68n2O
 | 0,_,_,_=>none
 | f+1,bb1,v24,v25 =>
  bif decide (v25<(bb1.size:Int)) then
   (at? bb1.data.toList v25).bind fun x32 =>
   bif decide ((x32.toNat:Int)<48) then
    some .ret
   else
    bif decide (57<(x32.toNat:Int)) then
     some .ret
    else
     (f68n2 f bb1 (wr64 ((wr64 (10*v24))+(wr64 (wru8 ((x32.toNat:Int)-48))))) (wr64 (v25+1)))
  else
   some (.exit0 v24)
theorem f68n2_ok:∀(f:Nat)(bb1:ByteArray)(v24 v25:Int){o:f68n2O},f68n2 f bb1 v24 v25=some o→TL Tryd.prog Tryd.f68.ntmps 0 f (cL (cL (Qn 1 (cL (Qn 1 c68))))) (f68n2S bb1 v24 v25) (·=f68n2E bb1 o)
 | 0,_,_,_,o,h=>by rw [f68n2] at h; cases h
 | f+1,bb1,v24,v25,o,h=>by
  rw [f68n2] at h;refine TL.body (K:=fun s=>∃v24:Int,∃v25:Int,s=(f68n2S bb1 v24 v25)∧f68n2 f bb1 v24 v25=some o) ?_ (by rintro _ ⟨v24,v25,rfl,hk⟩; exact f68n2_ok f _ _ _ hk);rcases Qg h with ⟨h27,h⟩|⟨h27,h⟩
  ·obtain ⟨x32,h33,h⟩:=Qe h;rcases Qg h with ⟨h34,h⟩|⟨h34,h⟩
   ·obtain rfl:=Qd h;exact rK Qh 3 [j3,j3,(jT [5,6,7,8],[(2,.byte (Int.toNat v25) x32),(9,.bool true)],[]),j3] [some true,none] [] [] [2,3] .ret ((f68n2E bb1 .ret).2) (ap h27 (ap (Qk h33).1 (ap (Qk h33).2 (ap h34 (ap4 h34 an))))) (Qv.out rfl rfl)
   ·rcases Qg h with ⟨h35,h⟩|⟨h35,h⟩
    ·obtain rfl:=Qd h;exact rK Qh 3 [j3,j3,(jF [5,6,7,8],[(2,.byte (Int.toNat v25) x32),(7,.byte (Int.toNat v25) x32),(9,.bool false)],[]),j3] [some true,some true] [] [] [2,3] .ret ((f68n2E bb1 .ret).2) (ap h27 (ap (Qk h33).1 (ap (Qk h33).2 (ap3 h34 (ap (Qk h33).1 (ap (Qk h33).2 (ap2 h34 (ap h35 an)))))))) (Qv.out rfl rfl)
    ·exact rE Qh [j3,j3,(jF [5,6,7,8],[(2,.byte (Int.toNat v25) x32),(7,.byte (Int.toNat v25) x32),(9,.bool false)],[]),([],[(4,.byte (Int.toNat v25) x32)],[]),j3] [some true,some false] [] [] [0,2,6,7] (.norm,(f68n2S bb1 (wr64 ((wr64 (10*v24))+(wr64 (wru8 ((x32.toNat:Int)-48))))) (wr64 (v25+1)))) (ap h27 (ap (Qk h33).1 (ap (Qk h33).2 (ap3 h34 (ap (Qk h33).1 (ap (Qk h33).2 (ap2 h34 (ap h35 (ap (Qk h33).1 (ap (Qk h33).2 an)))))))))) (Qv.norm ⟨(wr64 ((wr64 (10*v24))+(wr64 (wru8 ((x32.toNat:Int)-48))))),(wr64 (v25+1)),rfl,h⟩)
  ·obtain rfl:=Qd h;exact rK Qh 2 [j3] [some false] [] [] [2] (.exit 0) ((f68n2E bb1 (.exit0 v24)).2) (ap h27 an) (Qv.out rfl rfl)
noncomputable def f68n2L(bb1:ByteArray):List UInt8→Int→Int→Option f68n2O
 | [],v24,v25 =>
  some (.exit0 v24)
 | x0::rest,v24,v25 =>
  bif decide ((x0.toNat:Int)<48) then
   some .ret
  else
   bif decide (57<(x0.toNat:Int)) then
    some .ret
   else
    (f68n2L bb1 rest (wr64 ((wr64 (10*v24))+(wr64 (wru8 ((x0.toNat:Int)-48))))) (v25+1))
theorem f68n2L_eq(bb1:ByteArray):∀(rest:List UInt8)(f k:Nat)(v24:Int),bb1.data.toList.drop k=rest→bb1.data.toList.length≤maxLen→rest.length<f→f68n2 f bb1 v24 (k:Int)=f68n2L bb1 rest v24 (k:Int)
 | _,0,_,_,_,_,hf=>absurd hf (Nat.not_lt_zero _)
 | [],f+1,k,v24,hd,hm,hf=>by
  have hk:¬((k:Int)<(bb1.data.toList.length:Int)):=by have:=Qak hd; omega
  rw [f68n2,f68n2L];simp only [size_list,decide_eq_false hk,cond_false]
 | x0::rest,f+1,k,v24,hd,hm,hf=>by
  obtain ⟨hx,hlt,hd'⟩:=Qaj hd;have hk:(k:Int)<(bb1.data.toList.length:Int):=by omega
  have hw:wr64 ((k:Int)+1)=(k:Int)+1:=Qbk (by omega) (by unfold maxLen at hm; omega);have ih:∀(v24:Int),f68n2 f bb1 v24 ((k:Int)+1)=f68n2L bb1 rest v24 ((k:Int)+1):=fun v24=>f68n2L_eq bb1 rest f (k+1) v24 hd' hm (by simpa using hf);rw [f68n2,f68n2L];simp only [size_list,decide_eq_true hk,cond_true,at_nat,hx,Option.bind_some,hw,ih]
theorem f68n2_run(bb1:ByteArray)(v24:Int)(hm:bb1.data.toList.length≤maxLen):f68n2 FUEL bb1 v24 0=f68n2L bb1 bb1.data.toList v24 0:=f68n2L_eq bb1 bb1.data.toList FUEL 0 v24 List.drop_zero hm (Qbi hm)
inductive f68n1O where
 | norm (v40:Int)
 | ret
def f68n1E(bb1:ByteArray):f68n1O→Ex×Tr×Hp
 | .norm v40=>(.norm,mkS [(2,(jI v40))],[])
 | .ret=>(.ret,mkS [(2,(jI 0)),(3,(jB false))],[])
def f68n1S(bb1:ByteArray):Tr×Hp:=(mkS [(0,(jS bb1)),(2,(jI 0))],[])
noncomputable def f68n1(bb1:ByteArray):Option f68n1O :=
 (f68n2 FUEL bb1 0 0).bind fun o37=>match o37 with
 | .exit0 v39=>some (.norm v39)
 | .ret=>some .ret
theorem f68n1_ok(bb1:ByteArray){o:f68n1O}(h:f68n1 bb1=some o):T Tryd.prog Tryd.f68.ntmps 0 (cL (Qn 1 c68)) (f68n1S bb1) (·=f68n1E bb1 o):=by
 unfold f68n1 at h;refine rN Qh 1 [j3] [] [] [] [0,2,6,7] (f68n2S bb1 0 0) an ?_;obtain ⟨o37,h38,h⟩:=Qe h;cases o37 with
 | exit0 v39 =>
  obtain rfl:=Qd h;exact T.last' (T.bl (i:=0) (by kernel_rfl) (by kernel_rfl) (f68n2_ok FUEL bb1 0 0 h38)) (tds:=[]) (m:=[]) (keep:=[2]) (st2:=(f68n1E bb1 (.norm v39)).2) (by kernel_rfl) an rfl
 | ret =>
  obtain rfl:=Qd h;exact T.last' (T.bl (i:=0) (by kernel_rfl) (by kernel_rfl) (f68n2_ok FUEL bb1 0 0 h38)) (tds:=[]) (m:=[]) (keep:=[2,3]) (st2:=(f68n1E bb1 .ret).2) (by kernel_rfl) an rfl
inductive f68n0O where
 | ret (v44:Int) (v45:Bool)
def f68n0E(a1:ByteArray):f68n0O→Ex×Tr×Hp
 | .ret v44 v45=>(.ret,mkS [(2,(jI v44)),(3,(jB v45))],[])
def f68n0S(a1:ByteArray):Tr×Hp:=(Qae [(jS a1)] 0 .leaf,[])
noncomputable def f68n0(a1:ByteArray):Option f68n0O :=
 (f68n1 a1).bind fun o41=>match o41 with
 | .norm v43=>some (.ret v43 true)
 | .ret=>some (.ret 0 false)
theorem f68n0_ok(a1:ByteArray){o:f68n0O}(h:f68n0 a1=some o):T Tryd.prog Tryd.f68.ntmps 0 c68 (f68n0S a1) (·=f68n0E a1 o):=by
 unfold f68n0 at h;refine rN Qh 1 [j3] [] [] [] [0,2] (f68n1S a1) an ?_;obtain ⟨o41,h42,h⟩:=Qe h;cases o41 with
 | norm v43 =>
  refine T.oneN (by kernel_rfl) (f68n1_ok a1 h42) (st2:=(f68n1E a1 (.norm v43)).2) rfl ?_;obtain rfl:=Qd h;exact rE Qh [j3] [] [] [] [2,3] (.ret,(f68n0E a1 (.ret v43 true)).2) an rfl
 | ret =>
  obtain rfl:=Qd h;exact T.oneX' (by kernel_rfl) (f68n1_ok a1 h42) (tds:=[]) (m:=[]) (keep:=[2,3]) (st2:=(f68n0E a1 (.ret 0 false)).2) (by kernel_rfl) an rfl rfl
noncomputable def f68(a1:ByteArray):Option (Int×Bool):=(f68n0 a1).bind fun o=>match o with
 | .ret v44 v45=>some (v44,v45)
theorem f68_ok(a1:ByteArray){r:Int×Bool}(h:f68 a1=some r):Qo Tryd.prog false 68 [(jS a1)] [] (.tup [(jI r.1),(jB r.2)]) []:=by
 unfold f68 at h;obtain ⟨o,ho,h⟩:=Qe h;cases o with
 | ret v44 v45 =>
  obtain rfl:=Qd h;exact Qo.plain Qh (f:=Tryd.f68) (c:=c68) (by kernel_rfl) (by kernel_rfl) (by kernel_rfl) (by kernel_rfl) ((f68n0_ok a1 ho).mono fun r e=>by subst e; exact ⟨.inl rfl,(.tup [(jI v44),(jB v45)]),(.tup [(jI v44),(jB v45)]),by kernel_rfl,by kernel_rfl,((Wk.refl _):Wk (.tup [(jI v44),(jB v45)]) (.tup [(jI v44),(jB v45)]))⟩)

noncomputable def c104:Code:=Tryd.f104.body.getD .skip
inductive f104n0O where
 | ret (v4:Bool)
def f104n0E(a1:Int):f104n0O→Ex×Tr×Hp
 | .ret v4=>(.ret,mkS [(2,(jB v4))],[])
def f104n0S(a1:Int):Tr×Hp:=(Qae [(jI a1)] 0 .leaf,[])
noncomputable def f104n0(a1:Int):Option f104n0O :=
 bif decide (1900≤a1) then
  some (.ret (decide (a1≤2173)))
 else
  some (.ret false)
theorem f104n0_ok(a1:Int){o:f104n0O}(h:f104n0 a1=some o):T Tryd.prog Tryd.f104.ntmps 0 c104 (f104n0S a1) (·=f104n0E a1 o):=by
 unfold f104n0 at h;rcases Qg h with ⟨h3,h⟩|⟨h3,h⟩
 ·obtain rfl:=Qd h;exact rE Qh [j3,([(3,true),(4,true)],[(5,.bool true)],[])] [] [] [] [2] (.ret,(f104n0E a1 (.ret (decide (a1≤2173)))).2) (ap3 h3 an) rfl
 ·obtain rfl:=Qd h;exact rE Qh [j3,([(3,false),(4,false)],[(5,.bool false)],[])] [] [] [] [2] (.ret,(f104n0E a1 (.ret false)).2) (ap3 h3 an) rfl
noncomputable def f104(a1:Int):Option Bool:=(f104n0 a1).bind fun o=>match o with
 | .ret v4=>some v4
theorem Qbw(a1:Int){r:Bool}(h:f104 a1=some r):Qo Tryd.prog false 104 [(jI a1)] [] (jB r) []:=by
 unfold f104 at h;obtain ⟨o,ho,h⟩:=Qe h;cases o with
 | ret v4 =>
  obtain rfl:=Qd h;exact Qo.plain Qh (f:=Tryd.f104) (c:=c104) (by kernel_rfl) (by kernel_rfl) (by kernel_rfl) (by kernel_rfl) ((f104n0_ok a1 ho).mono fun r e=>by subst e; exact ⟨.inl rfl,(jB v4),(jB v4),by kernel_rfl,by kernel_rfl,((Wk.refl _):Wk (jB v4) (jB v4))⟩)

noncomputable def c106:Code:=Tryd.f106.body.getD .skip
inductive f106n0O where
 | ret (v6:Bool)
def f106n0E(a1:Int):f106n0O→Ex×Tr×Hp
 | .ret v6=>(.ret,mkS [(2,(jB v6))],[])
def f106n0S(a1:Int):Tr×Hp:=(Qae [(jI a1)] 0 .leaf,[])
noncomputable def f106n0(a1:Int):Option f106n0O :=
 bif decide ((Int.tmod a1 4)=0) then
  bif decide ((Int.tmod a1 100)=0) then
   some (.ret (decide ((Int.tmod a1 400)=0)))
  else
   some (.ret true)
 else
  some (.ret false)
theorem f106n0_ok(a1:Int){o:f106n0O}(h:f106n0 a1=some o):T Tryd.prog Tryd.f106.ntmps 0 c106 (f106n0S a1) (·=f106n0E a1 o):=by
 unfold f106n0 at h;rcases Qg h with ⟨h4,h⟩|⟨h4,h⟩
 ·rcases Qg h with ⟨h5,h⟩|⟨h5,h⟩
  ·obtain rfl:=Qd h;exact rE Qh [j3,(jF [8,9,10]++jT [4,5,6,7,11],[(11,.bool false),(12,.bool true)],[])] [] [] [] [2] (.ret,(f106n0E a1 (.ret (decide ((Int.tmod a1 400)=0)))).2) (ap4 h4 (ap3 (Qm h5) (ap h4 (ap (Qm h5) (ap h4 an))))) rfl
  ·obtain rfl:=Qd h;exact rE Qh [j3,(jT [4,5,6,7,8,9,10,11],[(11,.bool true),(12,.bool true)],[])] [] [] [] [2] (.ret,(f106n0E a1 (.ret true)).2) (ap4 h4 (ap3 (Qx h5) (ap h4 (ap (Qx h5) (ap h4 an))))) rfl
 ·obtain rfl:=Qd h;exact rE Qh [j3,(jF [4,5,6,7,11],[(12,.bool false)],[])] [] [] [] [2] (.ret,(f106n0E a1 (.ret false)).2) (ap2 h4 (ap4 h4 an)) rfl
noncomputable def f106(a1:Int):Option Bool:=(f106n0 a1).bind fun o=>match o with
 | .ret v6=>some v6
theorem f106_ok(a1:Int){r:Bool}(h:f106 a1=some r):Qo Tryd.prog false 106 [(jI a1)] [] (jB r) []:=by
 unfold f106 at h;obtain ⟨o,ho,h⟩:=Qe h;cases o with
 | ret v6 =>
  obtain rfl:=Qd h;exact Qo.plain Qh (f:=Tryd.f106) (c:=c106) (by kernel_rfl) (by kernel_rfl) (by kernel_rfl) (by kernel_rfl) ((f106n0_ok a1 ho).mono fun r e=>by subst e; exact ⟨.inl rfl,(jB v6),(jB v6),by kernel_rfl,by kernel_rfl,((Wk.refl _):Wk (jB v6) (jB v6))⟩)

noncomputable def c86:Code:=Tryd.f86.body.getD .skip
inductive f86n0O where
 | ret (v8:Qq)
def f86n0E(a1:Int):f86n0O→Ex×Tr×Hp
 | .ret v8=>(.ret,mkS [(2,(.bp 0 0))],[some (.box 140 ((Qq.cells v8).map .pl))])
def f86n0S(a1:Int):Tr×Hp:=(Qae [(jI a1)] 0 .leaf,[])
noncomputable def f86n0(a1:Int):Option f86n0O :=
 (f106 a1).bind fun x5 =>
 bif x5 then
  some (.ret (Qq.mk 0 31 29 31 30 31 30 31 31 30 31 30 31))
 else
  some (.ret (Qq.mk 0 31 28 31 30 31 30 31 31 30 31 30 31))
theorem f86n0_ok(a1:Int){o:f86n0O}(h:f86n0 a1=some o):T Tryd.prog Tryd.f86.ntmps 0 c86 (f86n0S a1) (·=f86n0E a1 o):=by
 unfold f86n0 at h;obtain ⟨x5,h6,h⟩:=Qe h;rcases Qg h with ⟨h7,h⟩|⟨h7,h⟩
 ·obtain rfl:=Qd h;exact rE Qh [j3,j3,([],[jH 1 (jB x5)],[]),j3,j3] [some true] [] [0] [2] (.ret,(f86n0E a1 (.ret (Qq.mk 0 31 29 31 30 31 30 31 31 30 31 30 31))).2) (ap (f106_ok a1 h6) (ap h7 an)) rfl
 ·obtain rfl:=Qd h;exact rE Qh [j3,j3,([],[jH 1 (jB x5)],[]),j3] [some false] [] [0] [2] (.ret,(f86n0E a1 (.ret (Qq.mk 0 31 28 31 30 31 30 31 31 30 31 30 31))).2) (ap (f106_ok a1 h6) (ap h7 an)) rfl
noncomputable def f86(a1:Int):Option Qq:=(f86n0 a1).bind fun o=>match o with
 | .ret v8=>some v8
theorem f86_ok(a1:Int){r:Qq}(h:f86 a1=some r):Qo Tryd.prog false 86 [(jI a1)] [] (jA Qq.cells r) []:=by
 unfold f86 at h;obtain ⟨o,ho,h⟩:=Qe h;cases o with
 | ret v8 =>
  obtain rfl:=Qd h;exact Qo.plain Qh (f:=Tryd.f86) (c:=c86) (by kernel_rfl) (by kernel_rfl) (by kernel_rfl) (by kernel_rfl) ((f86n0_ok a1 ho).mono fun r e=>by subst e; exact ⟨.inl rfl,(jA Qq.cells v8),(jA Qq.cells v8),by kernel_rfl,by kernel_rfl,((Wk.refl _):Wk (jA Qq.cells v8) (jA Qq.cells v8))⟩)

noncomputable def c84:Code:=Tryd.f84.body.getD .skip
inductive f84n0O where
 | ret (v43:Int) (v44:Int)
def f84n0E(a1 a2:Int):f84n0O→Ex×Tr×Hp
 | .ret v43 v44=>(.ret,mkS [(4,(jI v43)),(5,(jI v44))],[])
def f84n0S(a1 a2:Int):Tr×Hp:=(Qae [(jI a1),(jI a2)] 0 .leaf,[])
noncomputable def f84n0(a1 a2:Int):Option f84n0O :=
 (f104 a1).bind fun x8 =>
 bif x8 then
  bif decide (a2<1) then
   some (.ret 0 2)
  else
   bif decide (12<a2) then
    some (.ret 0 2)
   else
    (f86 a1).bind fun x28 =>
    bif decide (a2=0) then
     some (.ret x28.e0 0)
    else
     bif decide (a2=1) then
      some (.ret x28.e1 0)
     else
      bif decide (a2=2) then
       some (.ret x28.e2 0)
      else
       bif decide (a2=3) then
        some (.ret x28.e3 0)
       else
        bif decide (a2=4) then
         some (.ret x28.e4 0)
        else
         bif decide (a2=5) then
          some (.ret x28.e5 0)
         else
          bif decide (a2=6) then
           some (.ret x28.e6 0)
          else
           bif decide (a2=7) then
            some (.ret x28.e7 0)
           else
            bif decide (a2=8) then
             some (.ret x28.e8 0)
            else
             bif decide (a2=9) then
              some (.ret x28.e9 0)
             else
              bif decide (a2=10) then
               some (.ret x28.e10 0)
              else
               bif decide (a2=11) then
                some (.ret x28.e11 0)
               else
                bif decide (a2=12) then
                 some (.ret x28.e12 0)
                else
                 none
 else
  some (.ret 0 2)
theorem f84n0_ok(a1 a2:Int){o:f84n0O}(h:f84n0 a1 a2=some o):T Tryd.prog Tryd.f84.ntmps 0 c84 (f84n0S a1 a2) (·=f84n0E a1 a2 o):=by
 unfold f84n0 at h;obtain ⟨x8,h9,h⟩:=Qe h;rcases Qg h with ⟨h10,h⟩|⟨h10,h⟩
 ·rcases Qg h with ⟨h11,h⟩|⟨h11,h⟩
  ·obtain rfl:=Qd h;exact rK Qh 2 [j3,(jF [4,5]++jT [8,9],[jH 1 (jB x8),(6,.bool false),(10,.bool true)],[]),j3] [none] [] [] [4,5] .ret ((f84n0E a1 a2 (.ret 0 2)).2) (ap3 (Qm h10) (ap3 h11 (ap (Qbw a1 h9) an))) rfl
  ·rcases Qg h with ⟨h12,h⟩|⟨h12,h⟩
   ·obtain rfl:=Qd h;exact rK Qh 2 [j3,(jF [4,5,8,9],[jH 1 (jB x8),(6,.bool false),(10,.bool false)],[]),j3] [some true] [] [] [4,5] .ret ((f84n0E a1 a2 (.ret 0 2)).2) (ap3 (Qm h10) (ap3 h11 (ap (Qbw a1 h9) (ap h12 an)))) rfl
   ·obtain ⟨x28,h29,h⟩:=Qe h;rcases Qg h with ⟨h30,h⟩|⟨h30,h⟩
    ·obtain rfl:=Qd h;exact rE Qh [j3,(jF [4,5,8,9],[jH 1 (jB x8),(6,.bool false),(10,.bool false)],[]),([],[jH 1 (jA Qq.cells x28),(3,.at_ 0)],[])] [some false] [] [] [4,5] (.ret,(f84n0E a1 a2 (.ret x28.e0 0)).2) (ap3 (Qm h10) (ap3 h11 (ap (Qbw a1 h9) (ap h12 (ap (of_decide_eq_true h30) (ap (f86_ok a1 h29) an)))))) rfl
    ·rcases Qg h with ⟨h31,h⟩|⟨h31,h⟩
     ·obtain rfl:=Qd h;exact rE Qh [j3,(jF [4,5,8,9],[jH 1 (jB x8),(6,.bool false),(10,.bool false)],[]),([],[jH 1 (jA Qq.cells x28),(3,.at_ 1)],[])] [some false] [] [] [4,5] (.ret,(f84n0E a1 a2 (.ret x28.e1 0)).2) (ap3 (Qm h10) (ap3 h11 (ap (Qbw a1 h9) (ap h12 (ap (of_decide_eq_true h31) (ap (f86_ok a1 h29) an)))))) rfl
     ·rcases Qg h with ⟨h32,h⟩|⟨h32,h⟩
      ·obtain rfl:=Qd h;exact rE Qh [j3,(jF [4,5,8,9],[jH 1 (jB x8),(6,.bool false),(10,.bool false)],[]),([],[jH 1 (jA Qq.cells x28),(3,.at_ 2)],[])] [some false] [] [] [4,5] (.ret,(f84n0E a1 a2 (.ret x28.e2 0)).2) (ap3 (Qm h10) (ap3 h11 (ap (Qbw a1 h9) (ap h12 (ap (of_decide_eq_true h32) (ap (f86_ok a1 h29) an)))))) rfl
      ·rcases Qg h with ⟨h33,h⟩|⟨h33,h⟩
       ·obtain rfl:=Qd h;exact rE Qh [j3,(jF [4,5,8,9],[jH 1 (jB x8),(6,.bool false),(10,.bool false)],[]),([],[jH 1 (jA Qq.cells x28),(3,.at_ 3)],[])] [some false] [] [] [4,5] (.ret,(f84n0E a1 a2 (.ret x28.e3 0)).2) (ap3 (Qm h10) (ap3 h11 (ap (Qbw a1 h9) (ap h12 (ap (of_decide_eq_true h33) (ap (f86_ok a1 h29) an)))))) rfl
       ·rcases Qg h with ⟨h34,h⟩|⟨h34,h⟩
        ·obtain rfl:=Qd h;exact rE Qh [j3,(jF [4,5,8,9],[jH 1 (jB x8),(6,.bool false),(10,.bool false)],[]),([],[jH 1 (jA Qq.cells x28),(3,.at_ 4)],[])] [some false] [] [] [4,5] (.ret,(f84n0E a1 a2 (.ret x28.e4 0)).2) (ap3 (Qm h10) (ap3 h11 (ap (Qbw a1 h9) (ap h12 (ap (of_decide_eq_true h34) (ap (f86_ok a1 h29) an)))))) rfl
        ·rcases Qg h with ⟨h35,h⟩|⟨h35,h⟩
         ·obtain rfl:=Qd h;exact rE Qh [j3,(jF [4,5,8,9],[jH 1 (jB x8),(6,.bool false),(10,.bool false)],[]),([],[jH 1 (jA Qq.cells x28),(3,.at_ 5)],[])] [some false] [] [] [4,5] (.ret,(f84n0E a1 a2 (.ret x28.e5 0)).2) (ap3 (Qm h10) (ap3 h11 (ap (Qbw a1 h9) (ap h12 (ap (of_decide_eq_true h35) (ap (f86_ok a1 h29) an)))))) rfl
         ·rcases Qg h with ⟨h36,h⟩|⟨h36,h⟩
          ·obtain rfl:=Qd h;exact rE Qh [j3,(jF [4,5,8,9],[jH 1 (jB x8),(6,.bool false),(10,.bool false)],[]),([],[jH 1 (jA Qq.cells x28),(3,.at_ 6)],[])] [some false] [] [] [4,5] (.ret,(f84n0E a1 a2 (.ret x28.e6 0)).2) (ap3 (Qm h10) (ap3 h11 (ap (Qbw a1 h9) (ap h12 (ap (of_decide_eq_true h36) (ap (f86_ok a1 h29) an)))))) rfl
          ·rcases Qg h with ⟨h37,h⟩|⟨h37,h⟩
           ·obtain rfl:=Qd h;exact rE Qh [j3,(jF [4,5,8,9],[jH 1 (jB x8),(6,.bool false),(10,.bool false)],[]),([],[jH 1 (jA Qq.cells x28),(3,.at_ 7)],[])] [some false] [] [] [4,5] (.ret,(f84n0E a1 a2 (.ret x28.e7 0)).2) (ap3 (Qm h10) (ap3 h11 (ap (Qbw a1 h9) (ap h12 (ap (of_decide_eq_true h37) (ap (f86_ok a1 h29) an)))))) rfl
           ·rcases Qg h with ⟨h38,h⟩|⟨h38,h⟩
            ·obtain rfl:=Qd h;exact rE Qh [j3,(jF [4,5,8,9],[jH 1 (jB x8),(6,.bool false),(10,.bool false)],[]),([],[jH 1 (jA Qq.cells x28),(3,.at_ 8)],[])] [some false] [] [] [4,5] (.ret,(f84n0E a1 a2 (.ret x28.e8 0)).2) (ap3 (Qm h10) (ap3 h11 (ap (Qbw a1 h9) (ap h12 (ap (of_decide_eq_true h38) (ap (f86_ok a1 h29) an)))))) rfl
            ·rcases Qg h with ⟨h39,h⟩|⟨h39,h⟩
             ·obtain rfl:=Qd h;exact rE Qh [j3,(jF [4,5,8,9],[jH 1 (jB x8),(6,.bool false),(10,.bool false)],[]),([],[jH 1 (jA Qq.cells x28),(3,.at_ 9)],[])] [some false] [] [] [4,5] (.ret,(f84n0E a1 a2 (.ret x28.e9 0)).2) (ap3 (Qm h10) (ap3 h11 (ap (Qbw a1 h9) (ap h12 (ap (of_decide_eq_true h39) (ap (f86_ok a1 h29) an)))))) rfl
             ·rcases Qg h with ⟨h40,h⟩|⟨h40,h⟩
              ·obtain rfl:=Qd h;exact rE Qh [j3,(jF [4,5,8,9],[jH 1 (jB x8),(6,.bool false),(10,.bool false)],[]),([],[jH 1 (jA Qq.cells x28),(3,.at_ 10)],[])] [some false] [] [] [4,5] (.ret,(f84n0E a1 a2 (.ret x28.e10 0)).2) (ap3 (Qm h10) (ap3 h11 (ap (Qbw a1 h9) (ap h12 (ap (of_decide_eq_true h40) (ap (f86_ok a1 h29) an)))))) rfl
              ·rcases Qg h with ⟨h41,h⟩|⟨h41,h⟩
               ·obtain rfl:=Qd h;exact rE Qh [j3,(jF [4,5,8,9],[jH 1 (jB x8),(6,.bool false),(10,.bool false)],[]),([],[jH 1 (jA Qq.cells x28),(3,.at_ 11)],[])] [some false] [] [] [4,5] (.ret,(f84n0E a1 a2 (.ret x28.e11 0)).2) (ap3 (Qm h10) (ap3 h11 (ap (Qbw a1 h9) (ap h12 (ap (of_decide_eq_true h41) (ap (f86_ok a1 h29) an)))))) rfl
               ·rcases Qg h with ⟨h42,h⟩|⟨h42,h⟩
                ·obtain rfl:=Qd h;exact rE Qh [j3,(jF [4,5,8,9],[jH 1 (jB x8),(6,.bool false),(10,.bool false)],[]),([],[jH 1 (jA Qq.cells x28),(3,.at_ 12)],[])] [some false] [] [] [4,5] (.ret,(f84n0E a1 a2 (.ret x28.e12 0)).2) (ap3 (Qm h10) (ap3 h11 (ap (Qbw a1 h9) (ap h12 (ap (of_decide_eq_true h42) (ap (f86_ok a1 h29) an)))))) rfl
                ·cases h
 ·obtain rfl:=Qd h;exact rK Qh 2 [j3,([(4,true),(5,true)],[jH 1 (jB x8),(6,.bool true)],[]),j3] [none] [] [] [4,5] .ret ((f84n0E a1 a2 (.ret 0 2)).2) (ap3 (Qx h10) (ap (Qbw a1 h9) an)) rfl
noncomputable def f84(a1 a2:Int):Option (Int×Int):=(f84n0 a1 a2).bind fun o=>match o with
 | .ret v43 v44=>some (v43,v44)
theorem f84_ok(a1 a2:Int){r:Int×Int}(h:f84 a1 a2=some r):Qo Tryd.prog false 84 [(jI a1),(jI a2)] [] (.tup [(jI r.1),(jI r.2)]) []:=by
 unfold f84 at h;obtain ⟨o,ho,h⟩:=Qe h;cases o with
 | ret v43 v44 =>
  obtain rfl:=Qd h;exact Qo.plain Qh (f:=Tryd.f84) (c:=c84) (by kernel_rfl) (by kernel_rfl) (by kernel_rfl) (by kernel_rfl) ((f84n0_ok a1 a2 ho).mono fun r e=>by subst e; exact ⟨.inl rfl,(.tup [(jI v43),(jI v44)]),(.tup [(jI v43),(jI v44)]),by kernel_rfl,by kernel_rfl,((Wk.refl _):Wk (.tup [(jI v43),(jI v44)]) (.tup [(jI v43),(jI v44)]))⟩)

noncomputable def c105:Code:=Tryd.f105.body.getD .skip
inductive f105n0O where
 | ret
def f105n0E(a1:Int):f105n0O→Ex×Tr×Hp
 | .ret=>(.ret,mkS [(2,(.pl (.int .i64 (wr64 ((wr64 ((wr64 (Int.tdiv a1 4))-(wr64 (Int.tdiv a1 100))))+(wr64 (Int.tdiv a1 400)))))))],[])
def f105n0S(a1:Int):Tr×Hp:=(Qae [(jI a1)] 0 .leaf,[])
noncomputable def f105n0(a1:Int):Option f105n0O :=
 some .ret
theorem f105n0_ok(a1:Int){o:f105n0O}(h:f105n0 a1=some o):T Tryd.prog Tryd.f105.ntmps 0 c105 (f105n0S a1) (·=f105n0E a1 o):=by
 unfold f105n0 at h;obtain rfl:=Qd h;exact rE Qh [j3,j3] [] [] [] [2] (.ret,(f105n0E a1 .ret).2) an rfl
noncomputable def f105(a1:Int):Option Int:=(f105n0 a1).bind fun o=>match o with
 | .ret=>some (wr64 ((wr64 ((wr64 (Int.tdiv a1 4))-(wr64 (Int.tdiv a1 100))))+(wr64 (Int.tdiv a1 400))))
theorem f105_ok(a1:Int){r:Int}(h:f105 a1=some r):Qo Tryd.prog false 105 [(jI a1)] [] (jI r) []:=by
 unfold f105 at h;obtain ⟨o,ho,h⟩:=Qe h;cases o with
 | ret =>
  obtain rfl:=Qd h;exact Qo.plain Qh (f:=Tryd.f105) (c:=c105) (by kernel_rfl) (by kernel_rfl) (by kernel_rfl) (by kernel_rfl) ((f105n0_ok a1 ho).mono fun r e=>by subst e; exact ⟨.inl rfl,(.pl (.int .i64 (wr64 ((wr64 ((wr64 (Int.tdiv a1 4))-(wr64 (Int.tdiv a1 100))))+(wr64 (Int.tdiv a1 400)))))),(.pl (.int .i64 (wr64 ((wr64 ((wr64 (Int.tdiv a1 4))-(wr64 (Int.tdiv a1 100))))+(wr64 (Int.tdiv a1 400)))))),by kernel_rfl,by kernel_rfl,((Wk.refl _):Wk (.pl (.int .i64 (wr64 ((wr64 ((wr64 (Int.tdiv a1 4))-(wr64 (Int.tdiv a1 100))))+(wr64 (Int.tdiv a1 400)))))) (.pl (.int .i64 (wr64 ((wr64 ((wr64 (Int.tdiv a1 4))-(wr64 (Int.tdiv a1 100))))+(wr64 (Int.tdiv a1 400)))))))⟩)

noncomputable def c85:Code:=Tryd.f85.body.getD .skip
inductive f85n0O where
 | ret (v10:Int)
def f85n0E(a1:Int):f85n0O→Ex×Tr×Hp
 | .ret v10=>(.ret,mkS [(2,(jI v10))],[])
def f85n0S(a1:Int):Tr×Hp:=(Qae [(jI a1)] 0 .leaf,[])
noncomputable def f85n0(a1:Int):Option f85n0O :=
 (f105 (wr64 (a1-1))).bind fun x6 =>
 (f105 1899).bind fun x8 =>
 some (.ret (wr64 ((wr64 ((wr64 (365*(wr64 (a1-1900))))+x6))-x8)))
theorem f85n0_ok(a1:Int){o:f85n0O}(h:f85n0 a1=some o):T Tryd.prog Tryd.f85.ntmps 0 c85 (f85n0S a1) (·=f85n0E a1 o):=by
 unfold f85n0 at h;obtain ⟨x6,h7,h⟩:=Qe h;obtain ⟨x8,h9,h⟩:=Qe h;obtain rfl:=Qd h;exact rE Qh [j3,([],[jH 5 (jI x6),jH 7 (jI x8)],[])] [] [] [] [2] (.ret,(f85n0E a1 (.ret (wr64 ((wr64 ((wr64 (365*(wr64 (a1-1900))))+x6))-x8)))).2) (ap (f105_ok (wr64 (a1-1)) h7) (ap (f105_ok 1899 h9) an)) rfl
noncomputable def f85(a1:Int):Option Int:=(f85n0 a1).bind fun o=>match o with
 | .ret v10=>some v10
theorem f85_ok(a1:Int){r:Int}(h:f85 a1=some r):Qo Tryd.prog false 85 [(jI a1)] [] (jI r) []:=by
 unfold f85 at h;obtain ⟨o,ho,h⟩:=Qe h;cases o with
 | ret v10 =>
  obtain rfl:=Qd h;exact Qo.plain Qh (f:=Tryd.f85) (c:=c85) (by kernel_rfl) (by kernel_rfl) (by kernel_rfl) (by kernel_rfl) ((f85n0_ok a1 ho).mono fun r e=>by subst e; exact ⟨.inl rfl,(jI v10),(jI v10),by kernel_rfl,by kernel_rfl,((Wk.refl _):Wk (jI v10) (jI v10))⟩)

noncomputable def c69:Code:=Tryd.f69.body.getD .skip
inductive f69n2O where
 | exit0 (v46:Int)
def f69n2E(bu4:Qq)(bd1:Int):f69n2O→Ex×Tr×Hp
 | .exit0 v46=>((.exit 0),mkS [(10,(jI v46))],[])
def f69n2S(bu4:Qq)(bd1 v38 v39:Int):Tr×Hp:=(mkS [(10,(jI v38)),(39,(.pl (.sl .any 1 ((([bu4.e0,bu4.e1,bu4.e2,bu4.e3,bu4.e4,bu4.e5,bu4.e6,bu4.e7,bu4.e8,bu4.e9,bu4.e10,bu4.e11,bu4.e12].take (Int.toNat bd1)).drop 0).map (cInt .i64))))),(40,(.pl (.int .i64 ((([bu4.e0,bu4.e1,bu4.e2,bu4.e3,bu4.e4,bu4.e5,bu4.e6,bu4.e7,bu4.e8,bu4.e9,bu4.e10,bu4.e11,bu4.e12].take (Int.toNat bd1)).drop 0).length:Int)))),(41,(jI v39))],[])
noncomputable def f69n2:Nat→Qq→Int→Int→Int→Option f69n2O
 | 0,_,_,_,_=>none
 | f+1,bu4,bd1,v38,v39 =>
  bif (decide (v39<((([bu4.e0,bu4.e1,bu4.e2,bu4.e3,bu4.e4,bu4.e5,bu4.e6,bu4.e7,bu4.e8,bu4.e9,bu4.e10,bu4.e11,bu4.e12].take (Int.toNat bd1)).drop 0).length:Int))) then
   (at? (([bu4.e0,bu4.e1,bu4.e2,bu4.e3,bu4.e4,bu4.e5,bu4.e6,bu4.e7,bu4.e8,bu4.e9,bu4.e10,bu4.e11,bu4.e12].take (Int.toNat bd1)).drop 0) v39).bind fun x44 =>
   (f69n2 f bu4 bd1 (wr64 (v38+x44)) (wr64 (v39+1)))
  else
   some (.exit0 v38)
theorem f69n2_ok:∀(f:Nat)(bu4:Qq)(bd1 v38 v39:Int){o:f69n2O},f69n2 f bu4 bd1 v38 v39=some o→TL Tryd.prog Tryd.f69.ntmps 0 f (cL (cL (Qn 0 (Qn 1 (cL (Qn 5 c69)))))) (f69n2S bu4 bd1 v38 v39) (·=f69n2E bu4 bd1 o)
 | 0,_,_,_,_,o,h=>by rw [f69n2] at h; cases h
 | f+1,bu4,bd1,v38,v39,o,h=>by
  rw [f69n2] at h;refine TL.body (K:=fun s=>∃v38:Int,∃v39:Int,s=(f69n2S bu4 bd1 v38 v39)∧f69n2 f bu4 bd1 v38 v39=some o) ?_ (by rintro _ ⟨v38,v39,rfl,hk⟩; exact f69n2_ok f _ _ _ _ hk);rcases Qg h with ⟨h41,h⟩|⟨h41,h⟩
  ·obtain ⟨x44,h45,h⟩:=Qe h;exact rE Qh [j3,([],[(0,.idx (Int.toNat v39) ((cInt .i64) x44))],[]),j3,j3] [some true] [] [] [10,39,40,41] (.norm,(f69n2S bu4 bd1 (wr64 (v38+x44)) (wr64 (v39+1)))) (ap h41 (ap (Qk h45).1 (ap (Qt (cInt .i64) (Qk h45).2) an))) (Qv.norm ⟨(wr64 (v38+x44)),(wr64 (v39+1)),rfl,h⟩)
  ·obtain rfl:=Qd h;exact rK Qh 2 [j3] [some false] [] [] [10] (.exit 0) ((f69n2E bu4 bd1 (.exit0 v38)).2) (ap h41 an) (Qv.out rfl rfl)
noncomputable def f69n2L(bu4:Qq)(bd1:Int):List Int→Int→Int→Option f69n2O
 | [],v38,v39 =>
  some (.exit0 v38)
 | x0::rest,v38,v39 =>
  (f69n2L bu4 bd1 rest (wr64 (v38+x0)) (v39+1))
theorem f69n2L_eq(bu4:Qq)(bd1:Int):∀(rest:List Int)(f k:Nat)(v38:Int),(([bu4.e0,bu4.e1,bu4.e2,bu4.e3,bu4.e4,bu4.e5,bu4.e6,bu4.e7,bu4.e8,bu4.e9,bu4.e10,bu4.e11,bu4.e12].take (Int.toNat bd1)).drop 0).drop k=rest→(([bu4.e0,bu4.e1,bu4.e2,bu4.e3,bu4.e4,bu4.e5,bu4.e6,bu4.e7,bu4.e8,bu4.e9,bu4.e10,bu4.e11,bu4.e12].take (Int.toNat bd1)).drop 0).length≤maxLen→rest.length<f→f69n2 f bu4 bd1 v38 (k:Int)=f69n2L bu4 bd1 rest v38 (k:Int)
 | _,0,_,_,_,_,hf=>absurd hf (Nat.not_lt_zero _)
 | [],f+1,k,v38,hd,hm,hf=>by
  have hk:¬((k:Int)<((([bu4.e0,bu4.e1,bu4.e2,bu4.e3,bu4.e4,bu4.e5,bu4.e6,bu4.e7,bu4.e8,bu4.e9,bu4.e10,bu4.e11,bu4.e12].take (Int.toNat bd1)).drop 0).length:Int)):=by have:=Qak hd; omega
  rw [f69n2,f69n2L];simp only [decide_eq_false hk,cond_false]
 | x0::rest,f+1,k,v38,hd,hm,hf=>by
  obtain ⟨hx,hlt,hd'⟩:=Qaj hd;have hk:(k:Int)<((([bu4.e0,bu4.e1,bu4.e2,bu4.e3,bu4.e4,bu4.e5,bu4.e6,bu4.e7,bu4.e8,bu4.e9,bu4.e10,bu4.e11,bu4.e12].take (Int.toNat bd1)).drop 0).length:Int):=by omega
  have hw:wr64 ((k:Int)+1)=(k:Int)+1:=Qbk (by omega) (by unfold maxLen at hm; omega);have ih:∀(v38:Int),f69n2 f bu4 bd1 v38 ((k:Int)+1)=f69n2L bu4 bd1 rest v38 ((k:Int)+1):=fun v38=>f69n2L_eq bu4 bd1 rest f (k+1) v38 hd' hm (by simpa using hf);rw [f69n2,f69n2L];simp only [decide_eq_true hk,cond_true,at_nat,hx,Option.bind_some,hw,ih]
theorem f69n2_run(bu4:Qq)(bd1 v38:Int) (hm:(([bu4.e0,bu4.e1,bu4.e2,bu4.e3,bu4.e4,bu4.e5,bu4.e6,bu4.e7,bu4.e8,bu4.e9,bu4.e10,bu4.e11,bu4.e12].take (Int.toNat bd1)).drop 0).length≤maxLen):f69n2 FUEL bu4 bd1 v38 0=f69n2L bu4 bd1 (([bu4.e0,bu4.e1,bu4.e2,bu4.e3,bu4.e4,bu4.e5,bu4.e6,bu4.e7,bu4.e8,bu4.e9,bu4.e10,bu4.e11,bu4.e12].take (Int.toNat bd1)).drop 0) v38 0:=f69n2L_eq bu4 bd1 (([bu4.e0,bu4.e1,bu4.e2,bu4.e3,bu4.e4,bu4.e5,bu4.e6,bu4.e7,bu4.e8,bu4.e9,bu4.e10,bu4.e11,bu4.e12].take (Int.toNat bd1)).drop 0) FUEL 0 v38 List.drop_zero hm (Qbi hm)
inductive f69n1O where
 | norm (v50:Int)
def f69n1E(bd1 bd2 bd3:Int)(bu4:Qq):f69n1O→Ex×Tr×Hp
 | .norm v50=>(.norm,mkS [(10,(jI v50))],[])
def f69n1S(bd1 bd2 bd3:Int)(bu4:Qq):Tr×Hp:=(mkS [(1,(jI bd1)),(10,(.pl (.int .i64 (wr64 ((wr64 (bd2+bd3))-1))))),(11,(.bp 0 0))],[some (.box 140 ((Qq.cells bu4).map .pl))])
noncomputable def f69n1(bd1 bd2 bd3:Int)(bu4:Qq):Option f69n1O :=
 req (cutB 0 bd1 13) <|
 (f69n2 FUEL bu4 bd1 (wr64 ((wr64 (bd2+bd3))-1)) 0).bind fun o47=>match o47 with
 | .exit0 v49=>some (.norm v49)
theorem f69n1_ok(bd1 bd2 bd3:Int)(bu4:Qq){o:f69n1O}(h:f69n1 bd1 bd2 bd3 bu4=some o):T Tryd.prog Tryd.f69.ntmps 0 (cL (Qn 5 c69)) (f69n1S bd1 bd2 bd3 bu4) (·=f69n1E bd1 bd2 bd3 bu4 o):=by
 unfold f69n1 at h;obtain ⟨h23,h⟩:=Qah h
 refine rN Qh 1 [([],[(1,.cut 0 (Int.toNat bd1))],[(1,.val (.pl (.sl .any 1 ((([bu4.e0,bu4.e1,bu4.e2,bu4.e3,bu4.e4,bu4.e5,bu4.e6,bu4.e7,bu4.e8,bu4.e9,bu4.e10,bu4.e11,bu4.e12].take (Int.toNat bd1)).drop 0).map (cInt .i64))))),(2,.val (.pl (.int .i64 ((([bu4.e0,bu4.e1,bu4.e2,bu4.e3,bu4.e4,bu4.e5,bu4.e6,bu4.e7,bu4.e8,bu4.e9,bu4.e10,bu4.e11,bu4.e12].take (Int.toNat bd1)).drop 0).length:Int))))])] [] [] [] [10,39,40,41] (mkS [(10,(.pl (.int .i64 (wr64 ((wr64 (bd2+bd3))-1))))),(39,(.pl (.sl .any 1 ((([bu4.e0,bu4.e1,bu4.e2,bu4.e3,bu4.e4,bu4.e5,bu4.e6,bu4.e7,bu4.e8,bu4.e9,bu4.e10,bu4.e11,bu4.e12].take (Int.toNat bd1)).drop 0).map (cInt .i64))))),(40,(.pl (.int .i64 ((([bu4.e0,bu4.e1,bu4.e2,bu4.e3,bu4.e4,bu4.e5,bu4.e6,bu4.e7,bu4.e8,bu4.e9,bu4.e10,bu4.e11,bu4.e12].take (Int.toNat bd1)).drop 0).length:Int)))),(41,(jI 0))],[]) (ap (cut_hn_1 h23) (ap (cut_hn_2 h23) (ap (cut_hn_3 h23) (ap (cut_hn_4 h23) (ap (congrArg (fun l=>AV.pl (.sl .any 1 l)) (cutA_cv (f:=PV.int .i64) (xs:=[bu4.e0,bu4.e1,bu4.e2,bu4.e3,bu4.e4,bu4.e5,bu4.e6,bu4.e7,bu4.e8,bu4.e9,bu4.e10,bu4.e11,bu4.e12]) (Int.toNat bd1) 0)) (ap (Qu (xs:=(([bu4.e0,bu4.e1,bu4.e2,bu4.e3,bu4.e4,bu4.e5,bu4.e6,bu4.e7,bu4.e8,bu4.e9,bu4.e10,bu4.e11,bu4.e12].take (Int.toNat bd1)).drop 0)) (c:=(cInt .i64))) an)))))) ?_
 refine rN Qh 0 [] [] [] [] [10,39,40,41] (f69n2S bu4 bd1 (wr64 ((wr64 (bd2+bd3))-1)) 0) an ?_;obtain ⟨o47,h48,h⟩:=Qe h;cases o47 with
 | exit0 v49 =>
  obtain rfl:=Qd h;exact T.last' (T.bl (i:=0) (by kernel_rfl) (by kernel_rfl) (f69n2_ok FUEL bu4 bd1 (wr64 ((wr64 (bd2+bd3))-1)) 0 h48)) (tds:=[]) (m:=[]) (keep:=[10]) (st2:=(f69n1E bd1 bd2 bd3 bu4 (.norm v49)).2) (by kernel_rfl) an rfl
inductive f69n0O where
 | ret (v56:Int) (v57:Int)
def f69n0E(a1 a2 a3:Int):f69n0O→Ex×Tr×Hp
 | .ret v56 v57=>(.ret,mkS [(6,(jI v56)),(7,(jI v57))],[])
def f69n0S(a1 a2 a3:Int):Tr×Hp:=(Qae [(jI a1),(jI a2),(jI a3)] 0 .leaf,[])
noncomputable def f69n0(a1 a2 a3:Int):Option f69n0O :=
 (f84 a1 a2).bind fun x6 =>
 bif decide (x6.2=0) then
  bif decide (a3<1) then
   some (.ret 0 2)
  else
   bif decide (x6.1<a3) then
    some (.ret 0 2)
   else
    (f85 a1).bind fun x16 =>
    (f86 a1).bind fun x20 =>
    (f69n1 a2 x16 a3 x20).bind fun o51=>match o51 with
    | .norm v53=>bif decide (99999<v53) then
      some (.ret 0 2)
     else
      some (.ret v53 0)
 else
  some (.ret 0 2)
theorem f69n0_ok(a1 a2 a3:Int){o:f69n0O}(h:f69n0 a1 a2 a3=some o):T Tryd.prog Tryd.f69.ntmps 0 c69 (f69n0S a1 a2 a3) (·=f69n0E a1 a2 a3 o):=by
 unfold f69n0 at h;obtain ⟨x6,h7,h⟩:=Qe h;rcases Qg h with ⟨h11,h⟩|⟨h11,h⟩
 ·rcases Qg h with ⟨h12,h⟩|⟨h12,h⟩
  ·obtain rfl:=Qd h;exact rK Qh 3 [j3,([],[jH 2 (.tup [(jI x6.1),(jI x6.2)])],[]),(jF [3,4]++jT [7,8,9],[(5,.bool false),(10,.bool true)],[]),j3] [none] [] [] [6,7] .ret ((f69n0E a1 a2 a3 (.ret 0 2)).2) (ap (f84_ok a1 a2 h7) (ap3 (Qm h11) (ap4 h12 an))) rfl
  ·rcases Qg h with ⟨h13,h⟩|⟨h13,h⟩
   ·obtain rfl:=Qd h;exact rK Qh 3 [j3,([],[jH 2 (.tup [(jI x6.1),(jI x6.2)])],[]),(jF [3,4,7,8,9],[(5,.bool false),(10,.bool false)],[]),j3] [some true] [] [] [6,7] .ret ((f69n0E a1 a2 a3 (.ret 0 2)).2) (ap (f84_ok a1 a2 h7) (ap3 (Qm h11) (ap4 h12 (ap h13 an)))) rfl
   ·obtain ⟨x16,h17,h⟩:=Qe h;obtain ⟨x20,h21,h⟩:=Qe h;refine rN Qh 5 [j3,([],[jH 2 (.tup [(jI x6.1),(jI x6.2)])],[]),(jF [3,4,7,8,9],[(5,.bool false),(10,.bool false)],[]),([],[jH 1 (jI x16)],[]),([],[jH 1 (jA Qq.cells x20)],[])] [some false] [] [0] [1,10,11] (f69n1S a2 x16 a3 x20) (ap (f84_ok a1 a2 h7) (ap3 (Qm h11) (ap4 h12 (ap h13 (ap (f85_ok a1 h17) (ap (f86_ok a1 h21) an)))))) ?_;obtain ⟨o51,h52,h⟩:=Qe h;cases o51 with
    | norm v53 =>
     refine T.oneN (by kernel_rfl) (f69n1_ok a2 x16 a3 x20 h52) (st2:=(f69n1E a2 x16 a3 x20 (.norm v53)).2) rfl ?_;rcases Qg h with ⟨h55,h⟩|⟨h55,h⟩
     ·obtain rfl:=Qd h;exact rK Qh 1 [j3,j3] [some true] [] [] [6,7] .ret ((f69n0E a1 a2 a3 (.ret 0 2)).2) (ap h55 an) rfl
     ·obtain rfl:=Qd h;exact rE Qh [j3,j3] [some false] [] [] [6,7] (.ret,(f69n0E a1 a2 a3 (.ret v53 0)).2) (ap h55 an) rfl
 ·obtain rfl:=Qd h;exact rK Qh 3 [j3,([],[jH 2 (.tup [(jI x6.1),(jI x6.2)])],[]),([(3,true),(4,true)],[(5,.bool true)],[]),j3] [none] [] [] [6,7] .ret ((f69n0E a1 a2 a3 (.ret 0 2)).2) (ap (f84_ok a1 a2 h7) (ap3 (Qx h11) an)) rfl
noncomputable def f69(a1 a2 a3:Int):Option (Int×Int):=(f69n0 a1 a2 a3).bind fun o=>match o with
 | .ret v56 v57=>some (v56,v57)
theorem f69_ok(a1 a2 a3:Int){r:Int×Int}(h:f69 a1 a2 a3=some r):Qo Tryd.prog false 69 [(jI a1),(jI a2),(jI a3)] [] (.tup [(jI r.1),(jI r.2)]) []:=by
 unfold f69 at h;obtain ⟨o,ho,h⟩:=Qe h;cases o with
 | ret v56 v57 =>
  obtain rfl:=Qd h;exact Qo.plain Qh (f:=Tryd.f69) (c:=c69) (by kernel_rfl) (by kernel_rfl) (by kernel_rfl) (by kernel_rfl) ((f69n0_ok a1 a2 a3 ho).mono fun r e=>by subst e; exact ⟨.inl rfl,(.tup [(jI v56),(jI v57)]),(.tup [(jI v56),(jI v57)]),by kernel_rfl,by kernel_rfl,((Wk.refl _):Wk (.tup [(jI v56),(jI v57)]) (.tup [(jI v56),(jI v57)]))⟩)

noncomputable def c52:Code:=Tryd.f52.body.getD .skip
inductive f52n0O where
 | ret (v57:Int) (v58:Int)
def f52n0E(a1:ByteArray):f52n0O→Ex×Tr×Hp
 | .ret v57 v58=>(.ret,mkS [(2,(jI v57)),(3,(jI v58))],[])
def f52n0S(a1:ByteArray):Tr×Hp:=(Qae [(jS a1)] 0 .leaf,[])
noncomputable def f52n0(a1:ByteArray):Option f52n0O :=
 bif decide ((a1.size:Int)=10) then
  (at? a1.data.toList 4).bind fun x10 =>
  bif decide ((x10.toNat:Int)=45) then
   (at? a1.data.toList 7).bind fun x13 =>
   bif decide ((x13.toNat:Int)=45) then
    req (cutB 0 4 a1.size) <|
    (f68 (scut a1 0 (Int.toNat 4))).bind fun x20 =>
    req (cutB 5 7 a1.size) <|
    (f68 (scut a1 (Int.toNat 5) (Int.toNat 7))).bind fun x37 =>
    req (cutB 8 (a1.size:Int) a1.size) <|
    (f68 (scut a1 (Int.toNat 8) a1.size)).bind fun x43 =>
    bif x20.2 then
     bif x37.2 then
      bif x43.2 then
       (f69 x20.1 x37.1 x43.1).bind fun x55 =>
       some (.ret x55.1 x55.2)
      else
       some (.ret 0 12)
     else
      some (.ret 0 12)
    else
     some (.ret 0 12)
   else
    some (.ret 0 12)
  else
   some (.ret 0 12)
 else
  some (.ret 0 12)
theorem f52n0_ok(a1:ByteArray){o:f52n0O}(h:f52n0 a1=some o):T Tryd.prog Tryd.f52.ntmps 0 c52 (f52n0S a1) (·=f52n0E a1 o):=by
 unfold f52n0 at h;rcases Qg h with ⟨h9,h⟩|⟨h9,h⟩
 ·obtain ⟨x10,h11,h⟩:=Qe h;rcases Qg h with ⟨h12,h⟩|⟨h12,h⟩
  ·obtain ⟨x13,h14,h⟩:=Qe h;rcases Qg h with ⟨h15,h⟩|⟨h15,h⟩
   ·obtain ⟨h19,h⟩:=Qah h;obtain ⟨x20,h21,h⟩:=Qe h;refine rN Qh 3 [j3,(jF [4,5,6,9,10,11],[(5,.byte (Int.toNat 4) x10),(7,.bool false),(10,.byte (Int.toNat 7) x13),(12,.bool false)],[]),([],[(1,.cut 0 (Int.toNat 4)),jH 2 (.tup [(jI x20.1),(jB x20.2)])],[])] [some false] [] [] [0,4,5] (mkS [(0,(jS a1)),(4,(jI x20.1)),(5,(jB x20.2))],[]) (ap2 (Qm h9) (ap (Qk h11).1 (ap (Qk h11).2 (ap2 (Qm h9) (ap2 (Qm h12) (ap (Qk h14).1 (ap (Qk h14).2 (ap2 (Qm h12) (ap (Qm h15) (ap (cut_hn_1 h19) (ap (cut_hn_2 h19) (ap (cut_hn_3 h19) (ap (cut_hn_4 h19) (ap (f68_ok (scut a1 0 (Int.toNat 4)) h21) an)))))))))))))) ?_;obtain ⟨h36,h⟩:=Qah h;obtain ⟨x37,h38,h⟩:=Qe h;obtain ⟨h42,h⟩:=Qah h;obtain ⟨x43,h44,h⟩:=Qe h;rcases Qg h with ⟨h48,h⟩|⟨h48,h⟩
    ·rcases Qg h with ⟨h49,h⟩|⟨h49,h⟩
     ·rcases Qg h with ⟨h50,h⟩|⟨h50,h⟩
      ·obtain ⟨x55,h56,h⟩:=Qe h;obtain rfl:=Qd h;exact rE Qh [([],[(1,.cut (Int.toNat 5) (Int.toNat 7)),jH 2 (.tup [(jI x37.1),(jB x37.2)])],[]),([],[(1,.cut (Int.toNat 8) a1.size),jH 2 (.tup [(jI x43.1),(jB x43.2)])],[]),(jF [3,4,7,8],[(5,.bool false),(9,.bool false)],[]),([],[jH 3 (.tup [(jI x55.1),(jI x55.2)])],[])] [some false] [] [] [2,3] (.ret,(f52n0E a1 (.ret x55.1 x55.2)).2) (ap (cut_hl_1 h36) (ap (cut_hl_2 h36) (ap (cut_hl_3 h36) (ap (cut_hl_4 h36) (ap (f68_ok (scut a1 (Int.toNat 5) (Int.toNat 7)) h38) (ap (cut_nl_1 h42) (ap (cut_nl_2 h42) (ap (cut_nl_3 h42) (ap (cut_nl_4 h42) (ap (f68_ok (scut a1 (Int.toNat 8) a1.size) h44) (ap3 (Qm h48) (ap3 (Qm h49) (ap (Qm h50) (ap (f69_ok x20.1 x37.1 x43.1 h56) an)))))))))))))) rfl
      ·obtain rfl:=Qd h;exact rK Qh 3 [([],[(1,.cut (Int.toNat 5) (Int.toNat 7)),jH 2 (.tup [(jI x37.1),(jB x37.2)])],[]),([],[(1,.cut (Int.toNat 8) a1.size),jH 2 (.tup [(jI x43.1),(jB x43.2)])],[]),(jF [3,4,7,8],[(5,.bool false),(9,.bool false)],[]),j3] [some true] [] [] [2,3] .ret ((f52n0E a1 (.ret 0 12)).2) (ap (cut_hl_1 h36) (ap (cut_hl_2 h36) (ap (cut_hl_3 h36) (ap (cut_hl_4 h36) (ap (f68_ok (scut a1 (Int.toNat 5) (Int.toNat 7)) h38) (ap (cut_nl_1 h42) (ap (cut_nl_2 h42) (ap (cut_nl_3 h42) (ap (cut_nl_4 h42) (ap (f68_ok (scut a1 (Int.toNat 8) a1.size) h44) (ap3 (Qm h48) (ap3 (Qm h49) (ap (Qx h50) an))))))))))))) rfl
     ·obtain rfl:=Qd h;exact rK Qh 3 [([],[(1,.cut (Int.toNat 5) (Int.toNat 7)),jH 2 (.tup [(jI x37.1),(jB x37.2)])],[]),([],[(1,.cut (Int.toNat 8) a1.size),jH 2 (.tup [(jI x43.1),(jB x43.2)])],[]),(jF [3,4]++jT [7,8],[(5,.bool false),(9,.bool true)],[]),j3] [none] [] [] [2,3] .ret ((f52n0E a1 (.ret 0 12)).2) (ap (cut_hl_1 h36) (ap (cut_hl_2 h36) (ap (cut_hl_3 h36) (ap (cut_hl_4 h36) (ap (f68_ok (scut a1 (Int.toNat 5) (Int.toNat 7)) h38) (ap (cut_nl_1 h42) (ap (cut_nl_2 h42) (ap (cut_nl_3 h42) (ap (cut_nl_4 h42) (ap (f68_ok (scut a1 (Int.toNat 8) a1.size) h44) (ap3 (Qm h48) (ap3 (Qx h49) an)))))))))))) rfl
    ·obtain rfl:=Qd h;exact rK Qh 3 [([],[(1,.cut (Int.toNat 5) (Int.toNat 7)),jH 2 (.tup [(jI x37.1),(jB x37.2)])],[]),([],[(1,.cut (Int.toNat 8) a1.size),jH 2 (.tup [(jI x43.1),(jB x43.2)])],[]),([(3,true),(4,true)],[(5,.bool true)],[]),j3] [none] [] [] [2,3] .ret ((f52n0E a1 (.ret 0 12)).2) (ap (cut_hl_1 h36) (ap (cut_hl_2 h36) (ap (cut_hl_3 h36) (ap (cut_hl_4 h36) (ap (f68_ok (scut a1 (Int.toNat 5) (Int.toNat 7)) h38) (ap (cut_nl_1 h42) (ap (cut_nl_2 h42) (ap (cut_nl_3 h42) (ap (cut_nl_4 h42) (ap (f68_ok (scut a1 (Int.toNat 8) a1.size) h44) (ap3 (Qx h48) an))))))))))) rfl
   ·obtain rfl:=Qd h;exact rK Qh 2 [j3,(jF [4,5,6,9,10,11],[(5,.byte (Int.toNat 4) x10),(7,.bool false),(10,.byte (Int.toNat 7) x13),(12,.bool false)],[]),j3] [some true] [] [] [2,3] .ret ((f52n0E a1 (.ret 0 12)).2) (ap2 (Qm h9) (ap (Qk h11).1 (ap (Qk h11).2 (ap2 (Qm h9) (ap2 (Qm h12) (ap (Qk h14).1 (ap (Qk h14).2 (ap2 (Qm h12) (ap (Qx h15) an))))))))) rfl
  ·obtain rfl:=Qd h;exact rK Qh 2 [j3,(jF [4,5,6]++jT [9,10,11],[(5,.byte (Int.toNat 4) x10),(7,.bool false),(12,.bool true)],[]),j3] [none] [] [] [2,3] .ret ((f52n0E a1 (.ret 0 12)).2) (ap2 (Qm h9) (ap (Qk h11).1 (ap (Qk h11).2 (ap2 (Qm h9) (ap4 (Qx h12) an))))) rfl
 ·obtain rfl:=Qd h;exact rK Qh 2 [j3,(jT [4,5,6],[(7,.bool true)],[]),j3] [none] [] [] [2,3] .ret ((f52n0E a1 (.ret 0 12)).2) (ap4 (Qx h9) an) rfl
noncomputable def f52(a1:ByteArray):Option (Int×Int):=(f52n0 a1).bind fun o=>match o with
 | .ret v57 v58=>some (v57,v58)
theorem f52_ok(a1:ByteArray){r:Int×Int}(h:f52 a1=some r):Qo Tryd.prog false 52 [(jS a1)] [] (.tup [(jI r.1),(jI r.2)]) []:=by
 unfold f52 at h;obtain ⟨o,ho,h⟩:=Qe h;cases o with
 | ret v57 v58 =>
  obtain rfl:=Qd h;exact Qo.plain Qh (f:=Tryd.f52) (c:=c52) (by kernel_rfl) (by kernel_rfl) (by kernel_rfl) (by kernel_rfl) ((f52n0_ok a1 ho).mono fun r e=>by subst e; exact ⟨.inl rfl,(.tup [(jI v57),(jI v58)]),(.tup [(jI v57),(jI v58)]),by kernel_rfl,by kernel_rfl,((Wk.refl _):Wk (.tup [(jI v57),(jI v58)]) (.tup [(jI v57),(jI v58)]))⟩)

noncomputable def c23:Code:=Tryd.f23.body.getD .skip
inductive f23n0O where
 | ret (v20:Int)
def f23n0E(a1:Qc):f23n0O→Ex×Tr×Hp
 | .ret v20=>(.ret,mkS [(2,(jI v20))],[])
def f23n0S(a1:Qc):Tr×Hp:=(Qae [(jA Qc.cells a1)] 0 .leaf,[])
noncomputable def f23n0(a1:Qc):Option f23n0O :=
 (f51 a1.Text Qax).bind fun x11 =>
 bif x11.2 then
  bif decide (10≤(x11.1.size:Int)) then
   req (cutB 0 10 x11.1.size) <|
   (f52 (scut x11.1 0 (Int.toNat 10))).bind fun x16 =>
   bif decide (x16.2=0) then
    bif decide (x16.1≤a1.Day) then
     some (.ret x16.1)
    else
     some (.ret a1.Day)
   else
    some (.ret a1.Day)
  else
   some (.ret a1.Day)
 else
  some (.ret a1.Day)
theorem f23n0_ok(a1:Qc){o:f23n0O}(h:f23n0 a1=some o):T Tryd.prog Tryd.f23.ntmps 0 c23 (f23n0S a1) (·=f23n0E a1 o):=by
 unfold f23n0 at h;obtain ⟨x11,h12,h⟩:=Qe h;rcases Qg h with ⟨h13,h⟩|⟨h13,h⟩
 ·rcases Qg h with ⟨h14,h⟩|⟨h14,h⟩
  ·obtain ⟨h15,h⟩:=Qah h;obtain ⟨x16,h17,h⟩:=Qe h;rcases Qg h with ⟨h18,h⟩|⟨h18,h⟩
   ·rcases Qg h with ⟨h19,h⟩|⟨h19,h⟩
    ·obtain rfl:=Qd h;exact rK Qh 2 [j3,([],[jH 2 (.tup [(jS x11.1),(jB x11.2)])],[]),(jT [2,3,4],[(5,.bool true)],[]),([],[(1,.cut 0 (Int.toNat 10)),jH 2 (.tup [(jI x16.1),(jI x16.2)])],[]),(jT [3,4,5,6],[(7,.bool true)],[]),j3] [some true,some true] [] [] [2] .ret ((f23n0E a1 (.ret x16.1)).2) (ap (f51_ok a1.Text Qax h12) (ap4 h13 (ap h14 (ap (cut_hn_1 h15) (ap (cut_hn_2 h15) (ap (cut_hn_3 h15) (ap (cut_hn_4 h15) (ap (f52_ok (scut x11.1 0 (Int.toNat 10)) h17) (ap h18 (ap4 h18 (ap h19 an))))))))))) rfl
    ·obtain rfl:=Qd h;exact rE Qh [j3,([],[jH 2 (.tup [(jS x11.1),(jB x11.2)])],[]),(jT [2,3,4],[(5,.bool true)],[]),([],[(1,.cut 0 (Int.toNat 10)),jH 2 (.tup [(jI x16.1),(jI x16.2)])],[]),(jT [3,4,5,6],[(7,.bool true)],[]),j3] [some true,some false] [] [] [2] (.ret,(f23n0E a1 (.ret a1.Day)).2) (ap (f51_ok a1.Text Qax h12) (ap4 h13 (ap h14 (ap (cut_hn_1 h15) (ap (cut_hn_2 h15) (ap (cut_hn_3 h15) (ap (cut_hn_4 h15) (ap (f52_ok (scut x11.1 0 (Int.toNat 10)) h17) (ap h18 (ap4 h18 (ap h19 an))))))))))) rfl
   ·obtain rfl:=Qd h;exact rE Qh [j3,([],[jH 2 (.tup [(jS x11.1),(jB x11.2)])],[]),(jT [2,3,4],[(5,.bool true)],[]),([],[(1,.cut 0 (Int.toNat 10)),jH 2 (.tup [(jI x16.1),(jI x16.2)])],[]),(jF [3,4,5,6],[(7,.bool false)],[]),j3] [some true,none] [] [] [2] (.ret,(f23n0E a1 (.ret a1.Day)).2) (ap (f51_ok a1.Text Qax h12) (ap4 h13 (ap h14 (ap (cut_hn_1 h15) (ap (cut_hn_2 h15) (ap (cut_hn_3 h15) (ap (cut_hn_4 h15) (ap (f52_ok (scut x11.1 0 (Int.toNat 10)) h17) (ap h18 (ap4 h18 an)))))))))) rfl
  ·obtain rfl:=Qd h;exact rE Qh [j3,([],[jH 2 (.tup [(jS x11.1),(jB x11.2)])],[]),(jT [2,3,4],[(5,.bool true)],[]),j3] [some false] [] [] [2] (.ret,(f23n0E a1 (.ret a1.Day)).2) (ap (f51_ok a1.Text Qax h12) (ap4 h13 (ap h14 an))) rfl
 ·obtain rfl:=Qd h;exact rE Qh [j3,([],[jH 2 (.tup [(jS x11.1),(jB x11.2)])],[]),(jF [2,3,4],[(5,.bool false)],[]),j3] [none] [] [] [2] (.ret,(f23n0E a1 (.ret a1.Day)).2) (ap (f51_ok a1.Text Qax h12) (ap4 h13 an)) rfl
noncomputable def f23(a1:Qc):Option Int:=(f23n0 a1).bind fun o=>match o with
 | .ret v20=>some v20
theorem f23_ok(a1:Qc){r:Int}(h:f23 a1=some r):Qo Tryd.prog false 23 [(jA Qc.cells a1)] [] (jI r) []:=by
 unfold f23 at h;obtain ⟨o,ho,h⟩:=Qe h;cases o with
 | ret v20 =>
  obtain rfl:=Qd h;exact Qo.plain Qh (f:=Tryd.f23) (c:=c23) (by kernel_rfl) (by kernel_rfl) (by kernel_rfl) (by kernel_rfl) ((f23n0_ok a1 ho).mono fun r e=>by subst e; exact ⟨.inl rfl,(jI v20),(jI v20),by kernel_rfl,by kernel_rfl,((Wk.refl _):Wk (jI v20) (jI v20))⟩)

noncomputable def c21:Code:=Tryd.f21.body.getD .skip
inductive f21n3O where
 | exit2 (v187:List (Key_×Qa))
def f21n3E(bd1 bd2 bd3:Int)(bo4:Qi)(bd5:Int)(x143:Qc):f21n3O→Ex×Tr×Hp
 | .exit2 v187=>((.exit 2),mkS [(1,(jI bd1)),(2,(jI bd2)),(3,(jI bd3)),(8,(.bp 0 0)),(10,(.mp 1)),(40,(.pl (.sl .any 3 (((bo4.Records.take (Int.toNat bd3)).drop 0).map Qc.cells)))),(41,(.pl (.int .i64 (((bo4.Records.take (Int.toNat bd3)).drop 0).length:Int)))),(42,(jI bd5))],[some (.box 24 [(jI 0),(jI 0),(jI 0),(.pl (.sl .nil 0 []))]),some (.map (v187.map (mkv (pAgg Key_.cells) (pAgg Qa.cells))))])
def f21n3S(bd1 bd2 bd3:Int)(bo4:Qi)(bd5:Int)(x143:Qc)(v175:Int)(v176:List (Key_×Qa)):Tr×Hp:=(mkS [(1,(jI bd1)),(2,(jI bd2)),(3,(jI bd3)),(8,(.bp 0 0)),(10,(.mp 1)),(40,(.pl (.sl .any 3 (((bo4.Records.take (Int.toNat bd3)).drop 0).map Qc.cells)))),(41,(.pl (.int .i64 (((bo4.Records.take (Int.toNat bd3)).drop 0).length:Int)))),(42,(jI bd5)),(57,(jL 3 Qb.cells x143.Lines)),(58,(jI (x143.Lines.length:Int))),(59,(jI v175))],[some (.box 24 [(jI 0),(jI 0),(jI 0),(.pl (.sl .nil 0 []))]),some (.map (v176.map (mkv (pAgg Key_.cells) (pAgg Qa.cells))))])
noncomputable def f21n3:Nat→Int→Int→Int→Qi→Int→Qc→Int→List (Key_×Qa)→Option f21n3O
 | 0,_,_,_,_,_,_,_,_=>none
 | f+1,bd1,bd2,bd3,bo4,bd5,x143,v175,v176 =>
  bif decide (v175<(x143.Lines.length:Int)) then
   (at? x143.Lines v175).bind fun x183 =>
   (f36r2 x183.Account x183.Ccy (mxI x183.Amount 0) (mxI (wr64 (0-x183.Amount)) 0) v176).bind fun x185 =>
   (f21n3 f bd1 bd2 bd3 bo4 bd5 x143 (wr64 (v175+1)) (mPut Key_.eqb (Key_.mk x183.Account x183.Ccy) (Qa.mk x183.Account x183.Ccy (wr64 ((mGet Key_.eqb (Qa.mk Qs Qs 0 0) (Key_.mk x183.Account x183.Ccy) v176).In+(mxI x183.Amount 0))) (wr64 ((mGet Key_.eqb (Qa.mk Qs Qs 0 0) (Key_.mk x183.Account x183.Ccy) v176).Out+(mxI (wr64 (0-x183.Amount)) 0)))) v176))
  else
   some (.exit2 v176)
theorem f21n3_ok:∀(f:Nat)(bd1 bd2 bd3:Int)(bo4:Qi)(bd5:Int)(x143:Qc)(v175:Int)(v176:List (Key_×Qa)){o:f21n3O},f21n3 f bd1 bd2 bd3 bo4 bd5 x143 v175 v176=some o→TL Tryd.prog Tryd.f21.ntmps 0 f (cL (cL (Qn 3 (cL (cL (Qn 2 (cL (cL (Qn 1 (cL (Qn 4 c21))))))))))) (f21n3S bd1 bd2 bd3 bo4 bd5 x143 v175 v176) (·=f21n3E bd1 bd2 bd3 bo4 bd5 x143 o)
 | 0,_,_,_,_,_,_,_,_,o,h=>by rw [f21n3] at h; cases h
 | f+1,bd1,bd2,bd3,bo4,bd5,x143,v175,v176,o,h=>by
  rw [f21n3] at h;refine TL.body (K:=fun s=>∃v175:Int,∃v176:List (Key_×Qa),s=(f21n3S bd1 bd2 bd3 bo4 bd5 x143 v175 v176)∧f21n3 f bd1 bd2 bd3 bo4 bd5 x143 v175 v176=some o) ?_ (by rintro _ ⟨v175,v176,rfl,hk⟩; exact f21n3_ok f _ _ _ _ _ _ _ _ hk);rcases Qg h with ⟨h178,h⟩|⟨h178,h⟩
  ·obtain ⟨x183,h184,h⟩:=Qe h;obtain ⟨x185,h186,h⟩:=Qe h
   exact rE Qh [j3,([],[(0,.idx (Int.toNat v175) (Qb.cells x183))],[]),([],[(12,.call (.tup []) [none,some (.map ((mPut Key_.eqb (Key_.mk x183.Account x183.Ccy) (Qa.mk x183.Account x183.Ccy (wr64 ((mGet Key_.eqb (Qa.mk Qs Qs 0 0) (Key_.mk x183.Account x183.Ccy) v176).In+(mxI x183.Amount 0))) (wr64 ((mGet Key_.eqb (Qa.mk Qs Qs 0 0) (Key_.mk x183.Account x183.Ccy) v176).Out+(mxI (wr64 (0-x183.Amount)) 0)))) v176).map (mkv (pAgg Key_.cells) (pAgg Qa.cells)))),none])],[]),j3] [some true] [] [0,1] [1,2,3,8,10,40,41,42,57,58,59] (.norm,(f21n3S bd1 bd2 bd3 bo4 bd5 x143 (wr64 (v175+1)) (mPut Key_.eqb (Key_.mk x183.Account x183.Ccy) (Qa.mk x183.Account x183.Ccy (wr64 ((mGet Key_.eqb (Qa.mk Qs Qs 0 0) (Key_.mk x183.Account x183.Ccy) v176).In+(mxI x183.Amount 0))) (wr64 ((mGet Key_.eqb (Qa.mk Qs Qs 0 0) (Key_.mk x183.Account x183.Ccy) v176).Out+(mxI (wr64 (0-x183.Amount)) 0)))) v176))) (ap h178 (ap (Qk h184).1 (ap (Qt Qb.cells (Qk h184).2) (ap (Qo.rn 3 [1] (f36r2_ok x183.Account x183.Ccy (mxI x183.Amount 0) (mxI (wr64 (0-x183.Amount)) 0) v176 h186)) an)))) (Qv.norm ⟨(wr64 (v175+1)),(mPut Key_.eqb (Key_.mk x183.Account x183.Ccy) (Qa.mk x183.Account x183.Ccy (wr64 ((mGet Key_.eqb (Qa.mk Qs Qs 0 0) (Key_.mk x183.Account x183.Ccy) v176).In+(mxI x183.Amount 0))) (wr64 ((mGet Key_.eqb (Qa.mk Qs Qs 0 0) (Key_.mk x183.Account x183.Ccy) v176).Out+(mxI (wr64 (0-x183.Amount)) 0)))) v176),rfl,h⟩)
  ·obtain rfl:=Qd h;exact rK Qh 2 [j3] [some false] [] [0,1] [1,2,3,8,10,40,41,42] (.exit 2) ((f21n3E bd1 bd2 bd3 bo4 bd5 x143 (.exit2 v176)).2) (ap h178 an) (Qv.out rfl rfl)
noncomputable def f21n3L(bd1 bd2 bd3:Int)(bo4:Qi)(bd5:Int)(x143:Qc):List Qb→Int→(List (Key_×Qa))→Option f21n3O
 | [],v175,v176 =>
  some (.exit2 v176)
 | x0::rest,v175,v176 =>
  (f36r2 x0.Account x0.Ccy (mxI x0.Amount 0) (mxI (wr64 (0-x0.Amount)) 0) v176).bind fun x185 =>
  (f21n3L bd1 bd2 bd3 bo4 bd5 x143 rest (v175+1) (mPut Key_.eqb (Key_.mk x0.Account x0.Ccy) (Qa.mk x0.Account x0.Ccy (wr64 ((mGet Key_.eqb (Qa.mk Qs Qs 0 0) (Key_.mk x0.Account x0.Ccy) v176).In+(mxI x0.Amount 0))) (wr64 ((mGet Key_.eqb (Qa.mk Qs Qs 0 0) (Key_.mk x0.Account x0.Ccy) v176).Out+(mxI (wr64 (0-x0.Amount)) 0)))) v176))
theorem f21n3L_eq(bd1 bd2 bd3:Int)(bo4:Qi)(bd5:Int)(x143:Qc):∀(rest:List Qb)(f k:Nat)(v176:List (Key_×Qa)),x143.Lines.drop k=rest→x143.Lines.length≤maxLen→rest.length<f→f21n3 f bd1 bd2 bd3 bo4 bd5 x143 (k:Int) v176=f21n3L bd1 bd2 bd3 bo4 bd5 x143 rest (k:Int) v176
 | _,0,_,_,_,_,hf=>absurd hf (Nat.not_lt_zero _)
 | [],f+1,k,v176,hd,hm,hf=>by
  have hk:¬((k:Int)<(x143.Lines.length:Int)):=by have:=Qak hd; omega
  rw [f21n3,f21n3L];simp only [decide_eq_false hk,cond_false]
 | x0::rest,f+1,k,v176,hd,hm,hf=>by
  obtain ⟨hx,hlt,hd'⟩:=Qaj hd;have hk:(k:Int)<(x143.Lines.length:Int):=by omega
  have hw:wr64 ((k:Int)+1)=(k:Int)+1:=Qbk (by omega) (by unfold maxLen at hm; omega);have ih:∀(v176:List (Key_×Qa)),f21n3 f bd1 bd2 bd3 bo4 bd5 x143 ((k:Int)+1) v176=f21n3L bd1 bd2 bd3 bo4 bd5 x143 rest ((k:Int)+1) v176:=fun v176=>f21n3L_eq bd1 bd2 bd3 bo4 bd5 x143 rest f (k+1) v176 hd' hm (by simpa using hf);rw [f21n3,f21n3L];simp only [decide_eq_true hk,cond_true,at_nat,hx,Option.bind_some,hw,ih]
theorem f21n3_run(bd1 bd2 bd3:Int)(bo4:Qi)(bd5:Int)(x143:Qc)(v176:List (Key_×Qa))(hm:x143.Lines.length≤maxLen):f21n3 FUEL bd1 bd2 bd3 bo4 bd5 x143 0 v176=f21n3L bd1 bd2 bd3 bo4 bd5 x143 x143.Lines 0 v176:=f21n3L_eq bd1 bd2 bd3 bo4 bd5 x143 x143.Lines FUEL 0 v176 List.drop_zero hm (Qbi hm)
inductive f21n2O where
 | norm (v191:List (Key_×Qa))
def f21n2E(bd1 bd2 bd3:Int)(bo4:Qi)(bd5:Int)(bj6:List (Key_×Qa)):f21n2O→Ex×Tr×Hp
 | .norm v191=>(.norm,mkS [(1,(jI bd1)),(2,(jI bd2)),(3,(jI bd3)),(8,(.bp 0 0)),(10,(.mp 1)),(40,(.pl (.sl .any 3 (((bo4.Records.take (Int.toNat bd3)).drop 0).map Qc.cells)))),(41,(.pl (.int .i64 (((bo4.Records.take (Int.toNat bd3)).drop 0).length:Int)))),(42,(jI bd5))],[some (.box 24 [(jI 0),(jI 0),(jI 0),(.pl (.sl .nil 0 []))]),some (.map (v191.map (mkv (pAgg Key_.cells) (pAgg Qa.cells))))])
def f21n2S(bd1 bd2 bd3:Int)(bo4:Qi)(bd5:Int)(bj6:List (Key_×Qa)):Tr×Hp:=(mkS [(1,(jI bd1)),(2,(jI bd2)),(3,(jI bd3)),(8,(.bp 0 0)),(10,(.mp 1)),(40,(.pl (.sl .any 3 (((bo4.Records.take (Int.toNat bd3)).drop 0).map Qc.cells)))),(41,(.pl (.int .i64 (((bo4.Records.take (Int.toNat bd3)).drop 0).length:Int)))),(42,(jI bd5))],[some (.box 24 [(jI 0),(jI 0),(jI 0),(.pl (.sl .nil 0 []))]),some (.map (bj6.map (mkv (pAgg Key_.cells) (pAgg Qa.cells))))])
noncomputable def f21n2(bd1 bd2 bd3:Int)(bo4:Qi)(bd5:Int)(bj6:List (Key_×Qa)):Option f21n2O :=
 (at? ((bo4.Records.take (Int.toNat bd3)).drop 0) bd5).bind fun x143 =>
 (f23 x143).bind fun x149 =>
 bif decide (x149<bd1) then
  some (.norm bj6)
 else
  bif decide (bd2≤x149) then
   some (.norm bj6)
  else
   (f21n3 FUEL bd1 bd2 bd3 bo4 bd5 x143 0 bj6).bind fun o188=>match o188 with
   | .exit2 v190=>some (.norm v190)
theorem f21n2_ok(bd1 bd2 bd3:Int)(bo4:Qi)(bd5:Int)(bj6:List (Key_×Qa)){o:f21n2O}(h:f21n2 bd1 bd2 bd3 bo4 bd5 bj6=some o):T Tryd.prog Tryd.f21.ntmps 0 (cL (Qn 2 (cL (cL (Qn 1 (cL (Qn 4 c21))))))) (f21n2S bd1 bd2 bd3 bo4 bd5 bj6) (·=f21n2E bd1 bd2 bd3 bo4 bd5 bj6 o):=by
 unfold f21n2 at h;refine T.block' (i:=1) (by kernel_rfl) ?_;obtain ⟨x143,h144,h⟩:=Qe h;obtain ⟨x149,h150,h⟩:=Qe h;rcases Qg h with ⟨h151,h⟩|⟨h151,h⟩
 ·obtain rfl:=Qd h;exact rK Qh 2 [([],[(0,.idx (Int.toNat bd5) (Qc.cells x143))],[]),([],[jH 1 (jI x149)],[]),(jT [4,5,6],[(7,.bool true)],[])] [none] [] [0,1] [1,2,3,8,10,40,41,42] (.exit 1) ((f21n2E bd1 bd2 bd3 bo4 bd5 bj6 (.norm bj6)).2) (ap (Qk h144).1 (ap (Qt Qc.cells (Qk h144).2) (ap (f23_ok x143 h150) (ap4 h151 an)))) rfl
 ·rcases Qg h with ⟨h152,h⟩|⟨h152,h⟩
  ·obtain rfl:=Qd h;exact rK Qh 2 [([],[(0,.idx (Int.toNat bd5) (Qc.cells x143))],[]),([],[jH 1 (jI x149)],[]),(jF [4,5,6],[(7,.bool false)],[])] [some true] [] [0,1] [1,2,3,8,10,40,41,42] (.exit 1) ((f21n2E bd1 bd2 bd3 bo4 bd5 bj6 (.norm bj6)).2) (ap (Qk h144).1 (ap (Qt Qc.cells (Qk h144).2) (ap (f23_ok x143 h150) (ap4 h151 (ap h152 an))))) rfl
  ·refine rN Qh 3 [([],[(0,.idx (Int.toNat bd5) (Qc.cells x143))],[]),([],[jH 1 (jI x149)],[]),(jF [4,5,6],[(7,.bool false)],[]),([],[],[(2,.val (jI (x143.Lines.length:Int)))])] [some false] [] [0,1] [1,2,3,8,10,40,41,42,57,58,59] (f21n3S bd1 bd2 bd3 bo4 bd5 x143 0 bj6) (ap (Qk h144).1 (ap (Qt Qc.cells (Qk h144).2) (ap (f23_ok x143 h150) (ap4 h151 (ap h152 (ap (Qu (xs:=x143.Lines) (c:=Qb.cells)) an)))))) ?_;obtain ⟨o188,h189,h⟩:=Qe h;cases o188 with
   | exit2 v190 =>
    obtain rfl:=Qd h;exact T.last' (T.bl (i:=2) (by kernel_rfl) (by kernel_rfl) (f21n3_ok FUEL bd1 bd2 bd3 bo4 bd5 x143 0 bj6 h189)) (tds:=[]) (m:=[0,1]) (keep:=[1,2,3,8,10,40,41,42]) (st2:=(f21n2E bd1 bd2 bd3 bo4 bd5 bj6 (.norm v190)).2) (by kernel_rfl) an rfl
inductive f21n4O where
 | exit0 (v195:List (Key_×Qa))
def f21n4E(bd1 bd2 bd3:Int)(bo4:Qi):f21n4O→Ex×Tr×Hp
 | .exit0 v195=>((.exit 0),mkS [(1,(jI bd1)),(2,(jI bd2)),(3,(jI bd3)),(8,(.bp 0 0)),(10,(.mp 1))],[some (.box 24 [(jI 0),(jI 0),(jI 0),(.pl (.sl .nil 0 []))]),some (.map (v195.map (mkv (pAgg Key_.cells) (pAgg Qa.cells))))])
def f21n4S(bd1 bd2 bd3:Int)(bo4:Qi)(v137:Int)(v138:List (Key_×Qa)):Tr×Hp:=(mkS [(1,(jI bd1)),(2,(jI bd2)),(3,(jI bd3)),(8,(.bp 0 0)),(10,(.mp 1)),(40,(.pl (.sl .any 3 (((bo4.Records.take (Int.toNat bd3)).drop 0).map Qc.cells)))),(41,(.pl (.int .i64 (((bo4.Records.take (Int.toNat bd3)).drop 0).length:Int)))),(42,(jI v137))],[some (.box 24 [(jI 0),(jI 0),(jI 0),(.pl (.sl .nil 0 []))]),some (.map (v138.map (mkv (pAgg Key_.cells) (pAgg Qa.cells))))])
noncomputable def f21n4:Nat→Int→Int→Int→Qi→Int→List (Key_×Qa)→Option f21n4O
 | 0,_,_,_,_,_,_=>none
 | f+1,bd1,bd2,bd3,bo4,v137,v138 =>
  bif (decide (v137<(((bo4.Records.take (Int.toNat bd3)).drop 0).length:Int))) then
   (f21n2 bd1 bd2 bd3 bo4 v137 v138).bind fun o192=>match o192 with
   | .norm v194=>(f21n4 f bd1 bd2 bd3 bo4 (wr64 (v137+1)) v194)
  else
   some (.exit0 v138)
theorem f21n4_ok:∀(f:Nat)(bd1 bd2 bd3:Int)(bo4:Qi)(v137:Int)(v138:List (Key_×Qa)){o:f21n4O},f21n4 f bd1 bd2 bd3 bo4 v137 v138=some o→TL Tryd.prog Tryd.f21.ntmps 0 f (cL (cL (Qn 1 (cL (Qn 4 c21))))) (f21n4S bd1 bd2 bd3 bo4 v137 v138) (·=f21n4E bd1 bd2 bd3 bo4 o)
 | 0,_,_,_,_,_,_,o,h=>by rw [f21n4] at h; cases h
 | f+1,bd1,bd2,bd3,bo4,v137,v138,o,h=>by
  rw [f21n4] at h;refine TL.body (K:=fun s=>∃v137:Int,∃v138:List (Key_×Qa),s=(f21n4S bd1 bd2 bd3 bo4 v137 v138)∧f21n4 f bd1 bd2 bd3 bo4 v137 v138=some o) ?_ (by rintro _ ⟨v137,v138,rfl,hk⟩; exact f21n4_ok f _ _ _ _ _ _ hk);rcases Qg h with ⟨h140,h⟩|⟨h140,h⟩
  ·refine rN Qh 2 [j3] [some true] [] [0,1] [1,2,3,8,10,40,41,42] (f21n2S bd1 bd2 bd3 bo4 v137 v138) (ap h140 an) ?_;obtain ⟨o192,h193,h⟩:=Qe h;cases o192 with
   | norm v194 =>
    refine T.oneN (by kernel_rfl) (f21n2_ok bd1 bd2 bd3 bo4 v137 v138 h193) (st2:=(f21n2E bd1 bd2 bd3 bo4 v137 v138 (.norm v194)).2) rfl ?_;exact rE Qh [j3] [] [] [0,1] [1,2,3,8,10,40,41,42] (.norm,(f21n4S bd1 bd2 bd3 bo4 (wr64 (v137+1)) v194)) an (Qv.norm ⟨(wr64 (v137+1)),v194,rfl,h⟩)
  ·obtain rfl:=Qd h;exact rK Qh 2 [j3] [some false] [] [0,1] [1,2,3,8,10] (.exit 0) ((f21n4E bd1 bd2 bd3 bo4 (.exit0 v138)).2) (ap h140 an) (Qv.out rfl rfl)
inductive f21n1O where
 | norm (v199:List (Key_×Qa))
def f21n1E(bd1 bd2 bd3:Int)(bo4:Qi):f21n1O→Ex×Tr×Hp
 | .norm v199=>(.norm,mkS [(1,(jI bd1)),(2,(jI bd2)),(3,(jI bd3)),(8,(.bp 0 0)),(10,(.mp 1))],[some (.box 24 [(jI 0),(jI 0),(jI 0),(.pl (.sl .nil 0 []))]),some (.map (v199.map (mkv (pAgg Key_.cells) (pAgg Qa.cells))))])
def f21n1S(bd1 bd2 bd3:Int)(bo4:Qi):Tr×Hp:=(mkS [(1,(jI bd1)),(2,(jI bd2)),(3,(jI bd3)),(4,(.bp 0 0)),(8,(.bp 1 0)),(10,(.mp 2))],[some (.box 43 ((Qi.cells bo4).map .pl)),some (.box 24 [(jI 0),(jI 0),(jI 0),(.pl (.sl .nil 0 []))]),some (.map ([].map (mkv (pAgg Key_.cells) (pAgg Qa.cells))))])
noncomputable def f21n1(bd1 bd2 bd3:Int)(bo4:Qi):Option f21n1O :=
 req (cutB 0 bd3 bo4.Records.length) <|
 (f21n4 FUEL bd1 bd2 bd3 bo4 0 []).bind fun o196=>match o196 with
 | .exit0 v198=>some (.norm v198)
theorem f21n1_ok(bd1 bd2 bd3:Int)(bo4:Qi){o:f21n1O}(h:f21n1 bd1 bd2 bd3 bo4=some o):T Tryd.prog Tryd.f21.ntmps 0 (cL (Qn 4 c21)) (f21n1S bd1 bd2 bd3 bo4) (·=f21n1E bd1 bd2 bd3 bo4 o):=by
 unfold f21n1 at h;obtain ⟨h22,h⟩:=Qah h;refine rN Qh 1 [([],[(3,.cut 0 (Int.toNat bd3))],[(3,.val (.pl (.sl .any 3 (((bo4.Records.take (Int.toNat bd3)).drop 0).map Qc.cells)))),(4,.val (.pl (.int .i64 (((bo4.Records.take (Int.toNat bd3)).drop 0).length:Int))))])] [] [] [1,2] [1,2,3,8,10,40,41,42] (f21n4S bd1 bd2 bd3 bo4 0 []) (ap (cut_hn_1_map (c:=Qc.cells) h22) (ap (cut_hn_2 h22) (ap (cut_hn_3 h22) (ap (cut_hn_4_map (c:=Qc.cells) h22) (ap (congrArg (fun l=>AV.pl (.sl .any 3 l)) (cut_cv (xs:=bo4.Records) (c:=Qc.cells) (n:=(Int.toNat bd3)) (m:=0))) (ap (Qu (xs:=((bo4.Records.take (Int.toNat bd3)).drop 0)) (c:=Qc.cells)) an)))))) ?_;obtain ⟨o196,h197,h⟩:=Qe h;cases o196 with
 | exit0 v198 =>
  obtain rfl:=Qd h;exact T.last' (T.bl (i:=0) (by kernel_rfl) (by kernel_rfl) (f21n4_ok FUEL bd1 bd2 bd3 bo4 0 [] h197)) (tds:=[]) (m:=[0,1]) (keep:=[1,2,3,8,10]) (st2:=(f21n1E bd1 bd2 bd3 bo4 (.norm v198)).2) (by kernel_rfl) an rfl
inductive f21n0O where
 | ret (v207:Int) (v208:Int) (v209:Int) (v210:Int) (v211:List Qa)
def f21n0E(a1:Qi)(a2 a3 a4:Int):f21n0O→Ex×Tr×Hp
 | .ret v207 v208 v209 v210 v211=>(.ret,mkS [(8,(.bp 0 0)),(9,(jI v207))],[some (.box 24 [(jI v208),(jI v209),(jI v210),(.own 1)]),jR 4 Qa.cells v211])
def f21n0S(a1:Qi)(a2 a3 a4:Int):Tr×Hp:=(Qae [(jA Qi.cells a1),(jI a2),(jI a3),(jI a4)] 0 .leaf,[])
noncomputable def f21n0(a1:Qi)(a2 a3 a4:Int):Option f21n0O :=
 (f50 a1).bind fun x8 =>
 bif decide (x8=0) then
  (f39 a2 a3).bind fun x16 =>
  bif x16 then
   bif decide (a4<0) then
    some (.ret 2 0 0 0 [])
   else
    bif decide ((a1.Records.length:Int)<a4) then
     some (.ret 2 0 0 0 [])
    else
     (f21n1 a2 a3 a4 a1).bind fun o200=>match o200 with
     | .norm v202=>(f37r1 v202).bind fun x205 =>
      some (.ret 0 a2 a3 a4 x205)
  else
   some (.ret 2 0 0 0 [])
 else
  some (.ret 8 0 0 0 [])
theorem f21n0_ok(a1:Qi)(a2 a3 a4:Int){o:f21n0O}(h:f21n0 a1 a2 a3 a4=some o):T Tryd.prog Tryd.f21.ntmps 0 c21 (f21n0S a1 a2 a3 a4) (·=f21n0E a1 a2 a3 a4 o):=by
 unfold f21n0 at h;obtain ⟨x8,h9,h⟩:=Qe h;rcases Qg h with ⟨h10,h⟩|⟨h10,h⟩
 ·obtain ⟨x16,h17,h⟩:=Qe h;rcases Qg h with ⟨h18,h⟩|⟨h18,h⟩
  ·rcases Qg h with ⟨h19,h⟩|⟨h19,h⟩
   ·obtain rfl:=Qd h;exact rK Qh 3 [j3,([],[jH 1 (jI x8)],[]),(jF [5,6]++jT [9,10,11,12,13],[jH 2 (jB x16),(7,.bool false),(14,.bool true)],[]),j3] [some false,none] [.matC 1 3 4] [1,2] [8,9] .ret ((f21n0E a1 a2 a3 a4 (.ret 2 0 0 0 [])).2) (ap (f50_ok a1 h9) (ap (Qm h10) (ap3 (Qm h18) (ap2 h19 (ap4 h19 (ap (f39_ok a2 a3 h17) an)))))) rfl
   ·rcases Qg h with ⟨h20,h⟩|⟨h20,h⟩
    ·obtain rfl:=Qd h;exact rK Qh 3 [j3,([],[jH 1 (jI x8)],[]),(jF [5,6,9,10,11,12,13],[jH 2 (jB x16),(7,.bool false),(14,.bool false)],[(12,.val (jI (a1.Records.length:Int)))]),j3] [some false,some true] [.matC 1 3 4] [1,2] [8,9] .ret ((f21n0E a1 a2 a3 a4 (.ret 2 0 0 0 [])).2) (ap (f50_ok a1 h9) (ap (Qm h10) (ap3 (Qm h18) (ap4 h19 (ap (Qu (xs:=a1.Records) (c:=Qc.cells)) (ap2 h19 (ap (f39_ok a2 a3 h17) (ap h20 an)))))))) rfl
    ·refine rN Qh 4 [j3,([],[jH 1 (jI x8)],[]),(jF [5,6,9,10,11,12,13],[jH 2 (jB x16),(7,.bool false),(14,.bool false)],[(12,.val (jI (a1.Records.length:Int)))]),j3] [some false,some false] [] [0,1,2] [1,2,3,4,8,10] (f21n1S a2 a3 a4 a1) (ap (f50_ok a1 h9) (ap (Qm h10) (ap3 (Qm h18) (ap4 h19 (ap (Qu (xs:=a1.Records) (c:=Qc.cells)) (ap2 h19 (ap (f39_ok a2 a3 h17) (ap h20 an)))))))) ?_;obtain ⟨o200,h201,h⟩:=Qe h;cases o200 with
     | norm v202 =>
      refine T.oneN (by kernel_rfl) (f21n1_ok a2 a3 a4 a1 h201) (st2:=(f21n1E a2 a3 a4 a1 (.norm v202)).2) rfl ?_;obtain ⟨x205,h206,h⟩:=Qe h;obtain rfl:=Qd h;exact rE Qh [([],[(4,.call (.own 2) [none,some (.map (v202.map (mkv (pAgg Key_.cells) (pAgg Qa.cells)))),jR 4 Qa.cells x205])],[])] [] [] [0,2] [8,9] (.ret,(f21n0E a1 a2 a3 a4 (.ret 0 a2 a3 a4 x205)).2) (ap (Qo.rn 2 [1] (f37r1_ok v202 h206)) an) rfl
  ·obtain rfl:=Qd h;exact rK Qh 3 [j3,([],[jH 1 (jI x8)],[]),([(5,true),(6,true)],[jH 2 (jB x16),(7,.bool true)],[]),j3] [some false,none] [.matC 1 3 4] [1,2] [8,9] .ret ((f21n0E a1 a2 a3 a4 (.ret 2 0 0 0 [])).2) (ap (f50_ok a1 h9) (ap (Qm h10) (ap3 (Qx h18) (ap (f39_ok a2 a3 h17) an)))) rfl
 ·obtain rfl:=Qd h;exact rK Qh 2 [j3,([],[jH 1 (jI x8)],[]),j3] [some true] [.matC 1 3 4] [1,2] [8,9] .ret ((f21n0E a1 a2 a3 a4 (.ret 8 0 0 0 [])).2) (ap (f50_ok a1 h9) (ap (Qx h10) an)) rfl
noncomputable def f21(a1:Qi)(a2 a3 a4:Int):Option (Qj×Int):=(f21n0 a1 a2 a3 a4).bind fun o=>match o with
 | .ret v207 v208 v209 v210 v211=>some ((Qj.mk v208 v209 v210 v211),v207)
theorem f21_ok(a1:Qi)(a2 a3 a4:Int){r:Qj×Int}(h:f21 a1 a2 a3 a4=some r):Qo Tryd.prog false 21 [(jA Qi.cells a1),(jI a2),(jI a3),(jI a4)] [] (.tup [(jA Qj.cells r.1),(jI r.2)]) []:=by
 unfold f21 at h;obtain ⟨o,ho,h⟩:=Qe h;cases o with
 | ret v207 v208 v209 v210 v211 =>
  obtain rfl:=Qd h;exact Qo.plain Qh (f:=Tryd.f21) (c:=c21) (by kernel_rfl) (by kernel_rfl) (by kernel_rfl) (by kernel_rfl) ((f21n0_ok a1 a2 a3 a4 ho).mono fun r e=>by subst e; exact ⟨.inl rfl,(.tup [(.agg [(jI v208),(jI v209),(jI v210),(.own 1)]),(jI v207)]),(.tup [(.pl (.agg (Qj.cells (Qj.mk v208 v209 v210 v211)))),(jI v207)]),by kernel_rfl,by kernel_rfl,((Wk.refl _):Wk (.tup [(.pl (.agg (Qj.cells (Qj.mk v208 v209 v210 v211)))),(jI v207)]) (.tup [(.pl (.agg (Qj.cells (Qj.mk v208 v209 v210 v211)))),(jI v207)]))⟩)
end Go.Proofs.YtfeklaffeigilaaDoor
namespace Go.Proofs.YtfeklaffeigilaaDoor
set_option linter.unusedVariables false
set_option linter.unusedSimpArgs false
set_option maxRecDepth 100000
open Go.RowKit
noncomputable def c27:Code:=Tryd.f27.body.getD .skip
inductive f27n0O where
 | ret
def f27n0E(a1 a2:Int):f27n0O→Ex×Tr×Hp
 | .ret=>(.ret,mkS [(4,(.own 0))],[some (.row false 4 ([(Qa.mk str_Ann Qap a1 a2),(Qa.mk str_Bob Qap a2 a1)].map Qa.cells))])
def f27n0S(a1 a2:Int):Tr×Hp:=(Qae [(jI a1),(jI a2)] 0 .leaf,[])
noncomputable def f27n0(a1 a2:Int):Option f27n0O :=
 some .ret
theorem f27n0_ok(a1 a2:Int){o:f27n0O}(h:f27n0 a1 a2=some o):T Tryd.prog Tryd.f27.ntmps 0 c27 (f27n0S a1 a2) (·=f27n0E a1 a2 o):=by
 unfold f27n0 at h;obtain rfl:=Qd h;exact rE Qh [j3,j3] [] [] [0] [4] (.ret,(f27n0E a1 a2 .ret).2) an rfl
noncomputable def f27(a1 a2:Int):Option (List Qa):=(f27n0 a1 a2).bind fun o=>match o with
 | .ret=>some [(Qa.mk str_Ann Qap a1 a2),(Qa.mk str_Bob Qap a2 a1)]
theorem f27_ok(a1 a2:Int){r:List Qa}(h:f27 a1 a2=some r):Qo Tryd.prog false 27 [(jI a1),(jI a2)] [] (jL 4 Qa.cells r) []:=by
 unfold f27 at h;obtain ⟨o,ho,h⟩:=Qe h;cases o with
 | ret =>
  obtain rfl:=Qd h;exact Qo.plain Qh (f:=Tryd.f27) (c:=c27) (by kernel_rfl) (by kernel_rfl) (by kernel_rfl) (by kernel_rfl) ((f27n0_ok a1 a2 ho).mono fun r e=>by subst e; exact ⟨.inl rfl,(.own 0),(.pl (.sl .any 4 ([(Qa.mk str_Ann Qap a1 a2),(Qa.mk str_Bob Qap a2 a1)].map Qa.cells))),by kernel_rfl,by kernel_rfl,((Wk.refl _):Wk (.pl (.sl .any 4 ([(Qa.mk str_Ann Qap a1 a2),(Qa.mk str_Bob Qap a2 a1)].map Qa.cells))) (.pl (.sl .any 4 ([(Qa.mk str_Ann Qap a1 a2),(Qa.mk str_Bob Qap a2 a1)].map Qa.cells))))⟩)

noncomputable def c22:Code:=Tryd.f22.body.getD .skip
inductive f22n0O where
 | ret (v13:Bool)
def f22n0E(a1 a2:Qj):f22n0O→Ex×Tr×Hp
 | .ret v13=>(.ret,mkS [(4,(jB v13))],[])
def f22n0S(a1 a2:Qj):Tr×Hp:=(Qae [(jA Qj.cells a1),(jA Qj.cells a2)] 0 .leaf,[])
noncomputable def f22n0(a1 a2:Qj):Option f22n0O :=
 bif decide (a1.From=a2.From) then
  bif decide (a1.To=a2.To) then
   bif decide (a1.Known=a2.Known) then
    (f14 a1.Rows a2.Rows).bind fun x11 =>
    some (.ret x11)
   else
    some (.ret false)
  else
   some (.ret false)
 else
  some (.ret false)
theorem f22n0_ok(a1 a2:Qj){o:f22n0O}(h:f22n0 a1 a2=some o):T Tryd.prog Tryd.f22.ntmps 0 c22 (f22n0S a1 a2) (·=f22n0E a1 a2 o):=by
 unfold f22n0 at h;rcases Qg h with ⟨h8,h⟩|⟨h8,h⟩
 ·rcases Qg h with ⟨h9,h⟩|⟨h9,h⟩
  ·rcases Qg h with ⟨h10,h⟩|⟨h10,h⟩
   ·obtain ⟨x11,h12,h⟩:=Qe h;obtain rfl:=Qd h;exact rE Qh [j3,(jT [6,7,8,9,10,13,14,15,16,17,20,21,22,23,24],[(11,.bool true),(18,.bool true),jH 24 (jB x11),(25,.bool true)],[])] [] [] [] [4] (.ret,(f22n0E a1 a2 (.ret x11)).2) (ap2 h8 (ap4 h8 (ap2 h9 (ap4 h9 (ap2 h10 (ap4 h10 (ap (f14_ok a1.Rows a2.Rows h12) an))))))) rfl
   ·obtain rfl:=Qd h;exact rE Qh [j3,(jF [20,21,22,23,24]++jT [6,7,8,9,10,13,14,15,16,17],[(11,.bool true),(18,.bool true),(25,.bool false)],[])] [] [] [] [4] (.ret,(f22n0E a1 a2 (.ret false)).2) (ap2 h8 (ap4 h8 (ap2 h9 (ap4 h9 (ap2 h10 (ap4 h10 an)))))) rfl
  ·obtain rfl:=Qd h;exact rE Qh [j3,(jF [13,14,15,16,17]++jT [6,7,8,9,10],[(11,.bool true),(18,.bool false)],[])] [] [] [] [4] (.ret,(f22n0E a1 a2 (.ret false)).2) (ap2 h8 (ap4 h8 (ap2 h9 (ap4 h9 an)))) rfl
 ·obtain rfl:=Qd h;exact rE Qh [j3,(jF [6,7,8,9,10],[(11,.bool false)],[])] [] [] [] [4] (.ret,(f22n0E a1 a2 (.ret false)).2) (ap2 h8 (ap4 h8 an)) rfl
noncomputable def f22(a1 a2:Qj):Option Bool:=(f22n0 a1 a2).bind fun o=>match o with
 | .ret v13=>some v13
theorem f22_ok(a1 a2:Qj){r:Bool}(h:f22 a1 a2=some r):Qo Tryd.prog false 22 [(jA Qj.cells a1),(jA Qj.cells a2)] [] (jB r) []:=by
 unfold f22 at h;obtain ⟨o,ho,h⟩:=Qe h;cases o with
 | ret v13 =>
  obtain rfl:=Qd h;exact Qo.plain Qh (f:=Tryd.f22) (c:=c22) (by kernel_rfl) (by kernel_rfl) (by kernel_rfl) (by kernel_rfl) ((f22n0_ok a1 a2 ho).mono fun r e=>by subst e; exact ⟨.inl rfl,(jB v13),(jB v13),by kernel_rfl,by kernel_rfl,((Wk.refl _):Wk (jB v13) (jB v13))⟩)

noncomputable def c28:Code:=Tryd.f28.body.getD .skip
inductive f28n0O where
 | ret (v16:Bool)
def f28n0E(a1:Qi)(a2 a3 a4:Int)(a5:List Qa):f28n0O→Ex×Tr×Hp
 | .ret v16=>(.ret,mkS [(10,(jB v16))],[])
def f28n0S(a1:Qi)(a2 a3 a4:Int)(a5:List Qa):Tr×Hp:=(Qae [(jA Qi.cells a1),(jI a2),(jI a3),(jI a4),(jL 4 Qa.cells a5)] 0 .leaf,[])
noncomputable def f28n0(a1:Qi)(a2 a3 a4:Int)(a5:List Qa):Option f28n0O :=
 (f21 a1 a2 a3 a4).bind fun x8 =>
 bif decide (x8.2=0) then
  (f22 x8.1 (Qj.mk a2 a3 a4 a5)).bind fun x14 =>
  some (.ret x14)
 else
  some (.ret false)
theorem f28n0_ok(a1:Qi)(a2 a3 a4:Int)(a5:List Qa){o:f28n0O}(h:f28n0 a1 a2 a3 a4 a5=some o):T Tryd.prog Tryd.f28.ntmps 0 c28 (f28n0S a1 a2 a3 a4 a5) (·=f28n0E a1 a2 a3 a4 a5 o):=by
 unfold f28n0 at h;obtain ⟨x8,h9,h⟩:=Qe h;rcases Qg h with ⟨h13,h⟩|⟨h13,h⟩
 ·obtain ⟨x14,h15,h⟩:=Qe h;obtain rfl:=Qd h;exact rE Qh [j3,([],[jH 4 (.tup [(jA Qj.cells x8.1),(jI x8.2)])],[]),(jT [3,4,5,6,7,8,9],[jH 9 (jB x14),(10,.bool true)],[])] [] [] [] [10] (.ret,(f28n0E a1 a2 a3 a4 a5 (.ret x14)).2) (ap (f21_ok a1 a2 a3 a4 h9) (ap4 h13 (ap4 h13 (ap (f22_ok x8.1 (Qj.mk a2 a3 a4 a5) h15) an)))) rfl
 ·obtain rfl:=Qd h;exact rE Qh [j3,([],[jH 4 (.tup [(jA Qj.cells x8.1),(jI x8.2)])],[]),(jF [3,4,5,6,7,8,9],[(10,.bool false)],[])] [] [] [] [10] (.ret,(f28n0E a1 a2 a3 a4 a5 (.ret false)).2) (ap (f21_ok a1 a2 a3 a4 h9) (ap4 h13 (ap4 h13 an))) rfl
noncomputable def f28(a1:Qi)(a2 a3 a4:Int)(a5:List Qa):Option Bool:=(f28n0 a1 a2 a3 a4 a5).bind fun o=>match o with
 | .ret v16=>some v16
theorem f28_ok(a1:Qi)(a2 a3 a4:Int)(a5:List Qa){r:Bool}(h:f28 a1 a2 a3 a4 a5=some r):Qo Tryd.prog false 28 [(jA Qi.cells a1),(jI a2),(jI a3),(jI a4),(jL 4 Qa.cells a5)] [] (jB r) []:=by
 unfold f28 at h;obtain ⟨o,ho,h⟩:=Qe h;cases o with
 | ret v16 =>
  obtain rfl:=Qd h;exact Qo.plain Qh (f:=Tryd.f28) (c:=c28) (by kernel_rfl) (by kernel_rfl) (by kernel_rfl) (by kernel_rfl) ((f28n0_ok a1 a2 a3 a4 a5 ho).mono fun r e=>by subst e; exact ⟨.inl rfl,(jB v16),(jB v16),by kernel_rfl,by kernel_rfl,((Wk.refl _):Wk (jB v16) (jB v16))⟩)

noncomputable def c17:Code:=Tryd.f17.body.getD .skip
inductive f17n0O where
 | ret (v39:Bool)
def f17n0E:f17n0O→Ex×Tr×Hp
 | .ret v39=>(.ret,mkS [(0,(jB v39))],[])
def f17n0S:Tr×Hp:=(Qae [] 0 .leaf,[])
noncomputable def f17n0:Option f17n0O :=
 f26.bind fun x3 =>
 (f21 x3.1 10 11 3).bind fun x7 =>
 (f10 x7.1).bind fun x11 =>
 bif x3.2 then
  (f27 5 0).bind fun x27 =>
  (f28 x3.1 10 11 1 x27).bind fun x29 =>
  bif x29 then
   (f27 5 2).bind fun x32 =>
   (f28 x3.1 10 11 3 x32).bind fun x34 =>
   bif x34 then
    bif decide (x7.2=0) then
     bif decide (x11.2=0) then
      some (.ret (seq x11.1 Qp))
     else
      some (.ret false)
    else
     some (.ret false)
   else
    some (.ret false)
  else
   some (.ret false)
 else
  some (.ret false)
theorem f17n0_ok{o:f17n0O}(h:f17n0=some o):T Tryd.prog Tryd.f17.ntmps 0 c17 f17n0S (·=f17n0E o):=by
 unfold f17n0 at h;obtain ⟨x3,h4,h⟩:=Qe h;obtain ⟨x7,h8,h⟩:=Qe h;obtain ⟨x11,h12,h⟩:=Qe h;rcases Qg h with ⟨h26,h⟩|⟨h26,h⟩
 ·obtain ⟨x27,h28,h⟩:=Qe h;obtain ⟨x29,h30,h⟩:=Qe h;rcases Qg h with ⟨h31,h⟩|⟨h31,h⟩
  ·obtain ⟨x32,h33,h⟩:=Qe h;obtain ⟨x34,h35,h⟩:=Qe h;rcases Qg h with ⟨h36,h⟩|⟨h36,h⟩
   ·rcases Qg h with ⟨h37,h⟩|⟨h37,h⟩
    ·rcases Qg h with ⟨h38,h⟩|⟨h38,h⟩
     ·obtain rfl:=Qd h
      exact rE Qh [j3,([],[jH 0 (.tup [(jA Qi.cells x3.1),(jB x3.2)])],[]),([],[jH 1 (.tup [(jA Qj.cells x7.1),(jI x7.2)])],[]),([],[jH 1 (.tup [(jS x11.1),(jI x11.2)])],[]),(jT [2,3,4,7,8,9,12,13,16,17,20,21],[jH 3 (jL 4 Qa.cells x27),jH 4 (jB x29),(5,.bool true),jH 8 (jL 4 Qa.cells x32),jH 9 (jB x34),(10,.bool true),(14,.bool true),(18,.bool true),(22,.bool true)],[])] [] [] [] [0] (.ret,(f17n0E (.ret (seq x11.1 Qp))).2) (ap (f26_ok h4) (ap (f21_ok x3.1 10 11 3 h8) (ap (f10_ok x7.1 h12) (ap4 h26 (ap4 h31 (ap3 h36 (ap3 h37 (ap3 h38 (ap (Qab (e:=⟨false,27,[(jI 5),(jI 0)],[],(jL 4 Qa.cells x27),[]⟩) (f:=⟨false,27,[(jI 5),(jI 2)],[],(jL 4 Qa.cells x32),[]⟩) (fun k=>by simp only [jL,jS,jI,jB,jA,Qa.cells_eq,Qa.map_eq,Qj.cells_eq,Qj.map_eq,Key_.cells_eq,Key_.map_eq,Qb.cells_eq,Qb.map_eq,Qc.cells_eq,Qc.map_eq,Qi.cells_eq,Qi.map_eq,Qf.cells_eq,Qf.map_eq,Qq.cells_eq,Qq.map_eq,List.cons.injEq,AV.pl.injEq,PV.str.injEq,PV.int.injEq,PV.bool.injEq,PV.agg.injEq,PV.sl.injEq,and_true,true_and] at k; have e0:x27=x32:=Option.some.inj (by rw [←h28,←h33]; first | exact congrArg _ k | (obtain ⟨k1,_⟩:=k; simp only [k1]; done) | simp only [k]); exact ⟨by rw [e0],rfl⟩)) (ap (Qab (e:=⟨false,28,[(jA Qi.cells x3.1),(jI 10),(jI 11),(jI 1),(jL 4 Qa.cells x27)],[],(jB x29),[]⟩) (f:=⟨false,28,[(jA Qi.cells x3.1),(jI 10),(jI 11),(jI 3),(jL 4 Qa.cells x32)],[],(jB x34),[]⟩) (fun k=>by simp only [jL,jS,jI,jB,jA,Qa.cells_eq,Qa.map_eq,Qj.cells_eq,Qj.map_eq,Key_.cells_eq,Key_.map_eq,Qb.cells_eq,Qb.map_eq,Qc.cells_eq,Qc.map_eq,Qi.cells_eq,Qi.map_eq,Qf.cells_eq,Qf.map_eq,Qq.cells_eq,Qq.map_eq,List.cons.injEq,AV.pl.injEq,PV.str.injEq,PV.int.injEq,PV.bool.injEq,PV.agg.injEq,PV.sl.injEq,and_true,true_and] at k; have e0:x29=x34:=Option.some.inj (by rw [←h30,←h35]; first | exact congrArg _ k | (obtain ⟨k1,_⟩:=k; simp only [k1]; done) | simp only [k]); exact ⟨by rw [e0],rfl⟩)) (ap (f27_ok 5 0 h28) (ap (f28_ok x3.1 10 11 1 x27 h30) (ap (f27_ok 5 2 h33) (ap (f28_ok x3.1 10 11 3 x32 h35) an)))))))))))))) rfl
     ·obtain rfl:=Qd h
      exact rE Qh [j3,([],[jH 0 (.tup [(jA Qi.cells x3.1),(jB x3.2)])],[]),([],[jH 1 (.tup [(jA Qj.cells x7.1),(jI x7.2)])],[]),([],[jH 1 (.tup [(jS x11.1),(jI x11.2)])],[]),(jF [20,21]++jT [2,3,4,7,8,9,12,13,16,17],[jH 3 (jL 4 Qa.cells x27),jH 4 (jB x29),(5,.bool true),jH 8 (jL 4 Qa.cells x32),jH 9 (jB x34),(10,.bool true),(14,.bool true),(18,.bool true),(22,.bool false)],[])] [] [] [] [0] (.ret,(f17n0E (.ret false)).2) (ap (f26_ok h4) (ap (f21_ok x3.1 10 11 3 h8) (ap (f10_ok x7.1 h12) (ap4 h26 (ap4 h31 (ap3 h36 (ap3 h37 (ap3 h38 (ap (Qab (e:=⟨false,27,[(jI 5),(jI 0)],[],(jL 4 Qa.cells x27),[]⟩) (f:=⟨false,27,[(jI 5),(jI 2)],[],(jL 4 Qa.cells x32),[]⟩) (fun k=>by simp only [jL,jS,jI,jB,jA,Qa.cells_eq,Qa.map_eq,Qj.cells_eq,Qj.map_eq,Key_.cells_eq,Key_.map_eq,Qb.cells_eq,Qb.map_eq,Qc.cells_eq,Qc.map_eq,Qi.cells_eq,Qi.map_eq,Qf.cells_eq,Qf.map_eq,Qq.cells_eq,Qq.map_eq,List.cons.injEq,AV.pl.injEq,PV.str.injEq,PV.int.injEq,PV.bool.injEq,PV.agg.injEq,PV.sl.injEq,and_true,true_and] at k; have e0:x27=x32:=Option.some.inj (by rw [←h28,←h33]; first | exact congrArg _ k | (obtain ⟨k1,_⟩:=k; simp only [k1]; done) | simp only [k]); exact ⟨by rw [e0],rfl⟩)) (ap (Qab (e:=⟨false,28,[(jA Qi.cells x3.1),(jI 10),(jI 11),(jI 1),(jL 4 Qa.cells x27)],[],(jB x29),[]⟩) (f:=⟨false,28,[(jA Qi.cells x3.1),(jI 10),(jI 11),(jI 3),(jL 4 Qa.cells x32)],[],(jB x34),[]⟩) (fun k=>by simp only [jL,jS,jI,jB,jA,Qa.cells_eq,Qa.map_eq,Qj.cells_eq,Qj.map_eq,Key_.cells_eq,Key_.map_eq,Qb.cells_eq,Qb.map_eq,Qc.cells_eq,Qc.map_eq,Qi.cells_eq,Qi.map_eq,Qf.cells_eq,Qf.map_eq,Qq.cells_eq,Qq.map_eq,List.cons.injEq,AV.pl.injEq,PV.str.injEq,PV.int.injEq,PV.bool.injEq,PV.agg.injEq,PV.sl.injEq,and_true,true_and] at k; have e0:x29=x34:=Option.some.inj (by rw [←h30,←h35]; first | exact congrArg _ k | (obtain ⟨k1,_⟩:=k; simp only [k1]; done) | simp only [k]); exact ⟨by rw [e0],rfl⟩)) (ap (f27_ok 5 0 h28) (ap (f28_ok x3.1 10 11 1 x27 h30) (ap (f27_ok 5 2 h33) (ap (f28_ok x3.1 10 11 3 x32 h35) an)))))))))))))) rfl
    ·obtain rfl:=Qd h
     exact rE Qh [j3,([],[jH 0 (.tup [(jA Qi.cells x3.1),(jB x3.2)])],[]),([],[jH 1 (.tup [(jA Qj.cells x7.1),(jI x7.2)])],[]),([],[jH 1 (.tup [(jS x11.1),(jI x11.2)])],[]),(jF [16,17]++jT [2,3,4,7,8,9,12,13],[jH 3 (jL 4 Qa.cells x27),jH 4 (jB x29),(5,.bool true),jH 8 (jL 4 Qa.cells x32),jH 9 (jB x34),(10,.bool true),(14,.bool true),(18,.bool false)],[])] [] [] [] [0] (.ret,(f17n0E (.ret false)).2) (ap (f26_ok h4) (ap (f21_ok x3.1 10 11 3 h8) (ap (f10_ok x7.1 h12) (ap4 h26 (ap4 h31 (ap3 h36 (ap3 h37 (ap (Qab (e:=⟨false,27,[(jI 5),(jI 0)],[],(jL 4 Qa.cells x27),[]⟩) (f:=⟨false,27,[(jI 5),(jI 2)],[],(jL 4 Qa.cells x32),[]⟩) (fun k=>by simp only [jL,jS,jI,jB,jA,Qa.cells_eq,Qa.map_eq,Qj.cells_eq,Qj.map_eq,Key_.cells_eq,Key_.map_eq,Qb.cells_eq,Qb.map_eq,Qc.cells_eq,Qc.map_eq,Qi.cells_eq,Qi.map_eq,Qf.cells_eq,Qf.map_eq,Qq.cells_eq,Qq.map_eq,List.cons.injEq,AV.pl.injEq,PV.str.injEq,PV.int.injEq,PV.bool.injEq,PV.agg.injEq,PV.sl.injEq,and_true,true_and] at k; have e0:x27=x32:=Option.some.inj (by rw [←h28,←h33]; first | exact congrArg _ k | (obtain ⟨k1,_⟩:=k; simp only [k1]; done) | simp only [k]); exact ⟨by rw [e0],rfl⟩)) (ap (Qab (e:=⟨false,28,[(jA Qi.cells x3.1),(jI 10),(jI 11),(jI 1),(jL 4 Qa.cells x27)],[],(jB x29),[]⟩) (f:=⟨false,28,[(jA Qi.cells x3.1),(jI 10),(jI 11),(jI 3),(jL 4 Qa.cells x32)],[],(jB x34),[]⟩) (fun k=>by simp only [jL,jS,jI,jB,jA,Qa.cells_eq,Qa.map_eq,Qj.cells_eq,Qj.map_eq,Key_.cells_eq,Key_.map_eq,Qb.cells_eq,Qb.map_eq,Qc.cells_eq,Qc.map_eq,Qi.cells_eq,Qi.map_eq,Qf.cells_eq,Qf.map_eq,Qq.cells_eq,Qq.map_eq,List.cons.injEq,AV.pl.injEq,PV.str.injEq,PV.int.injEq,PV.bool.injEq,PV.agg.injEq,PV.sl.injEq,and_true,true_and] at k; have e0:x29=x34:=Option.some.inj (by rw [←h30,←h35]; first | exact congrArg _ k | (obtain ⟨k1,_⟩:=k; simp only [k1]; done) | simp only [k]); exact ⟨by rw [e0],rfl⟩)) (ap (f27_ok 5 0 h28) (ap (f28_ok x3.1 10 11 1 x27 h30) (ap (f27_ok 5 2 h33) (ap (f28_ok x3.1 10 11 3 x32 h35) an))))))))))))) rfl
   ·obtain rfl:=Qd h
    exact rE Qh [j3,([],[jH 0 (.tup [(jA Qi.cells x3.1),(jB x3.2)])],[]),([],[jH 1 (.tup [(jA Qj.cells x7.1),(jI x7.2)])],[]),([],[jH 1 (.tup [(jS x11.1),(jI x11.2)])],[]),(jF [12,13]++jT [2,3,4,7,8,9],[jH 3 (jL 4 Qa.cells x27),jH 4 (jB x29),(5,.bool true),jH 8 (jL 4 Qa.cells x32),jH 9 (jB x34),(10,.bool true),(14,.bool false)],[])] [] [] [] [0] (.ret,(f17n0E (.ret false)).2) (ap (f26_ok h4) (ap (f21_ok x3.1 10 11 3 h8) (ap (f10_ok x7.1 h12) (ap4 h26 (ap4 h31 (ap3 h36 (ap (Qab (e:=⟨false,27,[(jI 5),(jI 0)],[],(jL 4 Qa.cells x27),[]⟩) (f:=⟨false,27,[(jI 5),(jI 2)],[],(jL 4 Qa.cells x32),[]⟩) (fun k=>by simp only [jL,jS,jI,jB,jA,Qa.cells_eq,Qa.map_eq,Qj.cells_eq,Qj.map_eq,Key_.cells_eq,Key_.map_eq,Qb.cells_eq,Qb.map_eq,Qc.cells_eq,Qc.map_eq,Qi.cells_eq,Qi.map_eq,Qf.cells_eq,Qf.map_eq,Qq.cells_eq,Qq.map_eq,List.cons.injEq,AV.pl.injEq,PV.str.injEq,PV.int.injEq,PV.bool.injEq,PV.agg.injEq,PV.sl.injEq,and_true,true_and] at k; have e0:x27=x32:=Option.some.inj (by rw [←h28,←h33]; first | exact congrArg _ k | (obtain ⟨k1,_⟩:=k; simp only [k1]; done) | simp only [k]); exact ⟨by rw [e0],rfl⟩)) (ap (Qab (e:=⟨false,28,[(jA Qi.cells x3.1),(jI 10),(jI 11),(jI 1),(jL 4 Qa.cells x27)],[],(jB x29),[]⟩) (f:=⟨false,28,[(jA Qi.cells x3.1),(jI 10),(jI 11),(jI 3),(jL 4 Qa.cells x32)],[],(jB x34),[]⟩) (fun k=>by simp only [jL,jS,jI,jB,jA,Qa.cells_eq,Qa.map_eq,Qj.cells_eq,Qj.map_eq,Key_.cells_eq,Key_.map_eq,Qb.cells_eq,Qb.map_eq,Qc.cells_eq,Qc.map_eq,Qi.cells_eq,Qi.map_eq,Qf.cells_eq,Qf.map_eq,Qq.cells_eq,Qq.map_eq,List.cons.injEq,AV.pl.injEq,PV.str.injEq,PV.int.injEq,PV.bool.injEq,PV.agg.injEq,PV.sl.injEq,and_true,true_and] at k; have e0:x29=x34:=Option.some.inj (by rw [←h30,←h35]; first | exact congrArg _ k | (obtain ⟨k1,_⟩:=k; simp only [k1]; done) | simp only [k]); exact ⟨by rw [e0],rfl⟩)) (ap (f27_ok 5 0 h28) (ap (f28_ok x3.1 10 11 1 x27 h30) (ap (f27_ok 5 2 h33) (ap (f28_ok x3.1 10 11 3 x32 h35) an)))))))))))) rfl
  ·obtain rfl:=Qd h;exact rE Qh [j3,([],[jH 0 (.tup [(jA Qi.cells x3.1),(jB x3.2)])],[]),([],[jH 1 (.tup [(jA Qj.cells x7.1),(jI x7.2)])],[]),([],[jH 1 (.tup [(jS x11.1),(jI x11.2)])],[]),(jF [7,8,9]++jT [2,3,4],[jH 3 (jL 4 Qa.cells x27),jH 4 (jB x29),(5,.bool true),(10,.bool false)],[])] [] [] [] [0] (.ret,(f17n0E (.ret false)).2) (ap (f26_ok h4) (ap (f21_ok x3.1 10 11 3 h8) (ap (f10_ok x7.1 h12) (ap4 h26 (ap4 h31 (ap (f27_ok 5 0 h28) (ap (f28_ok x3.1 10 11 1 x27 h30) an))))))) rfl
 ·obtain rfl:=Qd h;exact rE Qh [j3,([],[jH 0 (.tup [(jA Qi.cells x3.1),(jB x3.2)])],[]),([],[jH 1 (.tup [(jA Qj.cells x7.1),(jI x7.2)])],[]),([],[jH 1 (.tup [(jS x11.1),(jI x11.2)])],[]),(jF [2,3,4],[(5,.bool false)],[])] [] [] [] [0] (.ret,(f17n0E (.ret false)).2) (ap (f26_ok h4) (ap (f21_ok x3.1 10 11 3 h8) (ap (f10_ok x7.1 h12) (ap4 h26 an)))) rfl
noncomputable def f17:Option Bool:=f17n0.bind fun o=>match o with
 | .ret v39=>some v39
theorem f17_ok{r:Bool}(h:f17=some r):Qo Tryd.prog false 17 [] [] (jB r) []:=by
 unfold f17 at h;obtain ⟨o,ho,h⟩:=Qe h;cases o with
 | ret v39 =>
  obtain rfl:=Qd h;exact Qo.plain Qh (f:=Tryd.f17) (c:=c17) (by kernel_rfl) (by kernel_rfl) (by kernel_rfl) (by kernel_rfl) ((f17n0_ok  ho).mono fun r e=>by subst e; exact ⟨.inl rfl,(jB v39),(jB v39),by kernel_rfl,by kernel_rfl,((Wk.refl _):Wk (jB v39) (jB v39))⟩)

noncomputable def c19:Code:=Tryd.f19.body.getD .skip
inductive f19n2O where
 | exit0
 | ret
def f19n2E(bq1:List Qb):f19n2O→Ex×Tr×Hp
 | .exit0=>((.exit 0),mkS [(0,(jL 3 Qb.cells bq1))],[])
 | .ret=>(.ret,mkS [(2,(jB true))],[])
def f19n2S(bq1:List Qb)(v25:Int):Tr×Hp:=(mkS [(0,(jL 3 Qb.cells bq1)),(3,(jI v25))],[])
noncomputable def f19n2:Nat→List Qb→Int→Option f19n2O
 | 0,_,_=>none
 | f+1,bq1,v25 =>
  bif decide (v25<(bq1.length:Int)) then
   bif decide (v25≤40) then
    (at? bq1 v25).bind fun x34 =>
    bif decide (300<(x34.Account.size:Int)) then
     some .ret
    else
     bif decide (300<(x34.Ccy.size:Int)) then
      some .ret
     else
      (f19n2 f bq1 (wr64 (v25+1)))
   else
    some .exit0
  else
   some .exit0
theorem f19n2_ok:∀(f:Nat)(bq1:List Qb)(v25:Int){o:f19n2O},f19n2 f bq1 v25=some o→TL Tryd.prog Tryd.f19.ntmps 0 f (cL (cL (Qn 1 (cL (Qn 1 c19))))) (f19n2S bq1 v25) (·=f19n2E bq1 o)
 | 0,_,_,o,h=>by rw [f19n2] at h; cases h
 | f+1,bq1,v25,o,h=>by
  rw [f19n2] at h;refine TL.body (K:=fun s=>∃v25:Int,s=(f19n2S bq1 v25)∧f19n2 f bq1 v25=some o) ?_ (by rintro _ ⟨v25,rfl,hk⟩; exact f19n2_ok f _ _ hk);rcases Qg h with ⟨h28,h⟩|⟨h28,h⟩
  ·rcases Qg h with ⟨h29,h⟩|⟨h29,h⟩
   ·obtain ⟨x34,h35,h⟩:=Qe h;rcases Qg h with ⟨h36,h⟩|⟨h36,h⟩
    ·obtain rfl:=Qd h;exact rK Qh 2 [([(5,true),(6,true)],[(7,.bool true)],[(2,.val (jI (bq1.length:Int)))]),(jT [8,9,10,11,12,13,14],[(2,.idx (Int.toNat v25) (Qb.cells x34)),(15,.bool true)],[]),j3] [some true,none] [] [] [2] .ret ((f19n2E bq1 .ret).2) (ap (Qu (xs:=bq1) (c:=Qb.cells)) (ap3 h28 (ap h29 (ap (Qk h35).1 (ap (Qt Qb.cells (Qk h35).2) (ap4 h36 (ap4 h36 an))))))) (Qv.out rfl rfl)
    ·rcases Qg h with ⟨h37,h⟩|⟨h37,h⟩
     ·obtain rfl:=Qd h;exact rK Qh 2 [([(5,true),(6,true)],[(7,.bool true)],[(2,.val (jI (bq1.length:Int)))]),(jF [8,9,10,11,12,13,14],[(2,.idx (Int.toNat v25) (Qb.cells x34)),(10,.idx (Int.toNat v25) (Qb.cells x34)),(15,.bool false)],[]),j3] [some true,some true] [] [] [2] .ret ((f19n2E bq1 .ret).2) (ap (Qu (xs:=bq1) (c:=Qb.cells)) (ap3 h28 (ap h29 (ap (Qk h35).1 (ap (Qt Qb.cells (Qk h35).2) (ap3 h36 (ap (Qk h35).1 (ap (Qt Qb.cells (Qk h35).2) (ap h36 (ap4 h36 (ap h37 an))))))))))) (Qv.out rfl rfl)
     ·exact rE Qh [([(5,true),(6,true)],[(7,.bool true)],[(2,.val (jI (bq1.length:Int)))]),(jF [8,9,10,11,12,13,14],[(2,.idx (Int.toNat v25) (Qb.cells x34)),(10,.idx (Int.toNat v25) (Qb.cells x34)),(15,.bool false)],[]),j3] [some true,some false] [] [] [0,3] (.norm,(f19n2S bq1 (wr64 (v25+1)))) (ap (Qu (xs:=bq1) (c:=Qb.cells)) (ap3 h28 (ap h29 (ap (Qk h35).1 (ap (Qt Qb.cells (Qk h35).2) (ap3 h36 (ap (Qk h35).1 (ap (Qt Qb.cells (Qk h35).2) (ap h36 (ap4 h36 (ap h37 an))))))))))) (Qv.norm ⟨(wr64 (v25+1)),rfl,h⟩)
   ·obtain rfl:=Qd h;exact rK Qh 1 [([(5,true),(6,true)],[(7,.bool true)],[(2,.val (jI (bq1.length:Int)))])] [some false] [] [] [0] (.exit 0) ((f19n2E bq1 .exit0).2) (ap (Qu (xs:=bq1) (c:=Qb.cells)) (ap3 h28 (ap h29 an))) (Qv.out rfl rfl)
  ·obtain rfl:=Qd h;exact rK Qh 1 [([(5,false),(6,false)],[(7,.bool false)],[(2,.val (jI (bq1.length:Int)))])] [none] [] [] [0] (.exit 0) ((f19n2E bq1 .exit0).2) (ap (Qu (xs:=bq1) (c:=Qb.cells)) (ap3 h28 an)) (Qv.out rfl rfl)
noncomputable def f19n2L(bq1:List Qb):List Qb→Int→Option f19n2O
 | [],v25 =>
  some .exit0
 | x0::rest,v25 =>
  bif decide (v25≤40) then
   bif decide (300<(x0.Account.size:Int)) then
    some .ret
   else
    bif decide (300<(x0.Ccy.size:Int)) then
     some .ret
    else
     (f19n2L bq1 rest (v25+1))
  else
   some .exit0
theorem f19n2L_eq(bq1:List Qb):∀(rest:List Qb)(f k:Nat),bq1.drop k=rest→bq1.length≤maxLen→rest.length<f→f19n2 f bq1 (k:Int)=f19n2L bq1 rest (k:Int)
 | _,0,_,_,_,hf=>absurd hf (Nat.not_lt_zero _)
 | [],f+1,k,hd,hm,hf=>by
  have hk:¬((k:Int)<(bq1.length:Int)):=by have:=Qak hd; omega
  rw [f19n2,f19n2L];simp only [decide_eq_false hk,cond_false]
 | x0::rest,f+1,k,hd,hm,hf=>by
  obtain ⟨hx,hlt,hd'⟩:=Qaj hd;have hk:(k:Int)<(bq1.length:Int):=by omega
  have hw:wr64 ((k:Int)+1)=(k:Int)+1:=Qbk (by omega) (by unfold maxLen at hm; omega);have ih:f19n2 f bq1 ((k:Int)+1)=f19n2L bq1 rest ((k:Int)+1):=f19n2L_eq bq1 rest f (k+1) hd' hm (by simpa using hf);rw [f19n2,f19n2L];simp only [decide_eq_true hk,cond_true,at_nat,hx,Option.bind_some,hw,ih]
theorem f19n2_run(bq1:List Qb)(hm:bq1.length≤maxLen):f19n2 FUEL bq1 0=f19n2L bq1 bq1 0:=f19n2L_eq bq1 bq1 FUEL 0 List.drop_zero hm (Qbi hm)
inductive f19n1O where
 | norm
 | ret
def f19n1E(bq1:List Qb):f19n1O→Ex×Tr×Hp
 | .norm=>(.norm,mkS [(0,(jL 3 Qb.cells bq1))],[])
 | .ret=>(.ret,mkS [(2,(jB true))],[])
def f19n1S(bq1:List Qb):Tr×Hp:=(mkS [(0,(jL 3 Qb.cells bq1))],[])
noncomputable def f19n1(bq1:List Qb):Option f19n1O :=
 (f19n2 FUEL bq1 0).bind fun o38=>match o38 with
 | .exit0=>some .norm
 | .ret=>some .ret
theorem f19n1_ok(bq1:List Qb){o:f19n1O}(h:f19n1 bq1=some o):T Tryd.prog Tryd.f19.ntmps 0 (cL (Qn 1 c19)) (f19n1S bq1) (·=f19n1E bq1 o):=by
 unfold f19n1 at h;refine rN Qh 1 [j3] [] [] [] [0,3] (f19n2S bq1 0) an ?_;obtain ⟨o38,h39,h⟩:=Qe h;cases o38 with
 | exit0 =>
  obtain rfl:=Qd h;exact T.last' (T.bl (i:=0) (by kernel_rfl) (by kernel_rfl) (f19n2_ok FUEL bq1 0 h39)) (tds:=[]) (m:=[]) (keep:=[0]) (st2:=(f19n1E bq1 .norm).2) (by kernel_rfl) an rfl
 | ret =>
  obtain rfl:=Qd h;exact T.last' (T.bl (i:=0) (by kernel_rfl) (by kernel_rfl) (f19n2_ok FUEL bq1 0 h39)) (tds:=[]) (m:=[]) (keep:=[2]) (st2:=(f19n1E bq1 .ret).2) (by kernel_rfl) an rfl
inductive f19n0O where
 | ret (v42:Bool)
def f19n0E(a1:List Qb):f19n0O→Ex×Tr×Hp
 | .ret v42=>(.ret,mkS [(2,(jB v42))],[])
def f19n0S(a1:List Qb):Tr×Hp:=(Qae [(jL 3 Qb.cells a1)] 0 .leaf,[])
noncomputable def f19n0(a1:List Qb):Option f19n0O :=
 (f19n1 a1).bind fun o40=>match o40 with
 | .norm=>some (.ret (decide (40<(a1.length:Int))))
 | .ret=>some (.ret true)
theorem f19n0_ok(a1:List Qb){o:f19n0O}(h:f19n0 a1=some o):T Tryd.prog Tryd.f19.ntmps 0 c19 (f19n0S a1) (·=f19n0E a1 o):=by
 unfold f19n0 at h;refine rN Qh 1 [j3] [] [] [] [0] (f19n1S a1) an ?_;obtain ⟨o40,h41,h⟩:=Qe h;cases o40 with
 | norm =>
  refine T.oneN (by kernel_rfl) (f19n1_ok a1 h41) (st2:=(f19n1E a1 .norm).2) rfl ?_;obtain rfl:=Qd h;exact rE Qh [([],[],[(1,.val (jI (a1.length:Int)))])] [] [] [] [2] (.ret,(f19n0E a1 (.ret (decide (40<(a1.length:Int))))).2) (ap (Qu (xs:=a1) (c:=Qb.cells)) an) rfl
 | ret =>
  obtain rfl:=Qd h;exact T.oneX' (by kernel_rfl) (f19n1_ok a1 h41) (tds:=[]) (m:=[]) (keep:=[2]) (st2:=(f19n0E a1 (.ret true)).2) (by kernel_rfl) an rfl rfl
noncomputable def f19(a1:List Qb):Option Bool:=(f19n0 a1).bind fun o=>match o with
 | .ret v42=>some v42
theorem f19_ok(a1:List Qb){r:Bool}(h:f19 a1=some r):Qo Tryd.prog false 19 [(jL 3 Qb.cells a1)] [] (jB r) []:=by
 unfold f19 at h;obtain ⟨o,ho,h⟩:=Qe h;cases o with
 | ret v42 =>
  obtain rfl:=Qd h;exact Qo.plain Qh (f:=Tryd.f19) (c:=c19) (by kernel_rfl) (by kernel_rfl) (by kernel_rfl) (by kernel_rfl) ((f19n0_ok a1 ho).mono fun r e=>by subst e; exact ⟨.inl rfl,(jB v42),(jB v42),by kernel_rfl,by kernel_rfl,((Wk.refl _):Wk (jB v42) (jB v42))⟩)

noncomputable def c43:Code:=Tryd.f43.body.getD .skip
inductive f43n2O where
 | exit0
 | ret
def f43n2E(bo1:Qi):f43n2O→Ex×Tr×Hp
 | .exit0=>((.exit 0),mkS [(1,(.bp 0 0))],[some (.box 43 ((Qi.cells bo1).map .pl))])
 | .ret=>(.ret,mkS [(2,(jB true))],[])
def f43n2S(bo1:Qi)(v33:Int):Tr×Hp:=(mkS [(1,(.bp 0 0)),(3,(jI v33))],[some (.box 43 ((Qi.cells bo1).map .pl))])
noncomputable def f43n2:Nat→Qi→Int→Option f43n2O
 | 0,_,_=>none
 | f+1,bo1,v33 =>
  bif decide (v33<(bo1.Records.length:Int)) then
   bif decide (v33≤220) then
    (at? bo1.Records v33).bind fun x44 =>
    (f19 x44.Lines).bind fun x46 =>
    bif x46 then
     some .ret
    else
     bif decide (300<(x44.Text.size:Int)) then
      some .ret
     else
      (f43n2 f bo1 (wr64 (v33+1)))
   else
    some .exit0
  else
   some .exit0
theorem f43n2_ok:∀(f:Nat)(bo1:Qi)(v33:Int){o:f43n2O},f43n2 f bo1 v33=some o→TL Tryd.prog Tryd.f43.ntmps 0 f (cL (cL (Qn 1 (cL (Qn 1 c43))))) (f43n2S bo1 v33) (·=f43n2E bo1 o)
 | 0,_,_,o,h=>by rw [f43n2] at h; cases h
 | f+1,bo1,v33,o,h=>by
  rw [f43n2] at h;refine TL.body (K:=fun s=>∃v33:Int,s=(f43n2S bo1 v33)∧f43n2 f bo1 v33=some o) ?_ (by rintro _ ⟨v33,rfl,hk⟩; exact f43n2_ok f _ _ hk);rcases Qg h with ⟨h36,h⟩|⟨h36,h⟩
  ·rcases Qg h with ⟨h37,h⟩|⟨h37,h⟩
   ·obtain ⟨x44,h45,h⟩:=Qe h;obtain ⟨x46,h47,h⟩:=Qe h;rcases Qg h with ⟨h48,h⟩|⟨h48,h⟩
    ·obtain rfl:=Qd h;exact rK Qh 2 [([(6,true),(7,true)],[(8,.bool true)],[(3,.val (jI (bo1.Records.length:Int)))]),(jT [8,9,10,11,12,13,14,15],[(3,.idx (Int.toNat v33) (Qc.cells x44)),jH 6 (jB x46),(16,.bool true)],[]),j3] [some true,none] [] [] [2] .ret ((f43n2E bo1 .ret).2) (ap (Qu (xs:=bo1.Records) (c:=Qc.cells)) (ap3 h36 (ap h37 (ap (Qk h45).1 (ap (Qt Qc.cells (Qk h45).2) (ap h48 (ap4 h48 (ap4 h48 (ap (f19_ok x44.Lines h47) an))))))))) (Qv.out rfl rfl)
    ·rcases Qg h with ⟨h49,h⟩|⟨h49,h⟩
     ·obtain rfl:=Qd h;exact rK Qh 2 [([(6,true),(7,true)],[(8,.bool true)],[(3,.val (jI (bo1.Records.length:Int)))]),(jF [8,9,10,11,12,13,14,15],[(3,.idx (Int.toNat v33) (Qc.cells x44)),jH 6 (jB x46),(11,.idx (Int.toNat v33) (Qc.cells x44)),(16,.bool false)],[]),j3] [some true,some true] [] [] [2] .ret ((f43n2E bo1 .ret).2) (ap (Qu (xs:=bo1.Records) (c:=Qc.cells)) (ap3 h36 (ap h37 (ap (Qk h45).1 (ap (Qt Qc.cells (Qk h45).2) (ap4 h48 (ap (Qk h45).1 (ap (Qt Qc.cells (Qk h45).2) (ap h48 (ap4 h48 (ap (f19_ok x44.Lines h47) (ap h49 an)))))))))))) (Qv.out rfl rfl)
     ·exact rE Qh [([(6,true),(7,true)],[(8,.bool true)],[(3,.val (jI (bo1.Records.length:Int)))]),(jF [8,9,10,11,12,13,14,15],[(3,.idx (Int.toNat v33) (Qc.cells x44)),jH 6 (jB x46),(11,.idx (Int.toNat v33) (Qc.cells x44)),(16,.bool false)],[]),j3] [some true,some false] [] [0] [1,3] (.norm,(f43n2S bo1 (wr64 (v33+1)))) (ap (Qu (xs:=bo1.Records) (c:=Qc.cells)) (ap3 h36 (ap h37 (ap (Qk h45).1 (ap (Qt Qc.cells (Qk h45).2) (ap4 h48 (ap (Qk h45).1 (ap (Qt Qc.cells (Qk h45).2) (ap h48 (ap4 h48 (ap (f19_ok x44.Lines h47) (ap h49 an)))))))))))) (Qv.norm ⟨(wr64 (v33+1)),rfl,h⟩)
   ·obtain rfl:=Qd h;exact rK Qh 1 [([(6,true),(7,true)],[(8,.bool true)],[(3,.val (jI (bo1.Records.length:Int)))])] [some false] [] [0] [1] (.exit 0) ((f43n2E bo1 .exit0).2) (ap (Qu (xs:=bo1.Records) (c:=Qc.cells)) (ap3 h36 (ap h37 an))) (Qv.out rfl rfl)
  ·obtain rfl:=Qd h;exact rK Qh 1 [([(6,false),(7,false)],[(8,.bool false)],[(3,.val (jI (bo1.Records.length:Int)))])] [none] [] [0] [1] (.exit 0) ((f43n2E bo1 .exit0).2) (ap (Qu (xs:=bo1.Records) (c:=Qc.cells)) (ap3 h36 an)) (Qv.out rfl rfl)
noncomputable def f43n2L(bo1:Qi):List Qc→Int→Option f43n2O
 | [],v33 =>
  some .exit0
 | x0::rest,v33 =>
  bif decide (v33≤220) then
   (f19 x0.Lines).bind fun x46 =>
   bif x46 then
    some .ret
   else
    bif decide (300<(x0.Text.size:Int)) then
     some .ret
    else
     (f43n2L bo1 rest (v33+1))
  else
   some .exit0
theorem f43n2L_eq(bo1:Qi):∀(rest:List Qc)(f k:Nat),bo1.Records.drop k=rest→bo1.Records.length≤maxLen→rest.length<f→f43n2 f bo1 (k:Int)=f43n2L bo1 rest (k:Int)
 | _,0,_,_,_,hf=>absurd hf (Nat.not_lt_zero _)
 | [],f+1,k,hd,hm,hf=>by
  have hk:¬((k:Int)<(bo1.Records.length:Int)):=by have:=Qak hd; omega
  rw [f43n2,f43n2L];simp only [decide_eq_false hk,cond_false]
 | x0::rest,f+1,k,hd,hm,hf=>by
  obtain ⟨hx,hlt,hd'⟩:=Qaj hd;have hk:(k:Int)<(bo1.Records.length:Int):=by omega
  have hw:wr64 ((k:Int)+1)=(k:Int)+1:=Qbk (by omega) (by unfold maxLen at hm; omega);have ih:f43n2 f bo1 ((k:Int)+1)=f43n2L bo1 rest ((k:Int)+1):=f43n2L_eq bo1 rest f (k+1) hd' hm (by simpa using hf);rw [f43n2,f43n2L];simp only [decide_eq_true hk,cond_true,at_nat,hx,Option.bind_some,hw,ih]
theorem f43n2_run(bo1:Qi)(hm:bo1.Records.length≤maxLen):f43n2 FUEL bo1 0=f43n2L bo1 bo1.Records 0:=f43n2L_eq bo1 bo1.Records FUEL 0 List.drop_zero hm (Qbi hm)
inductive f43n1O where
 | norm
 | ret
def f43n1E(bo1:Qi):f43n1O→Ex×Tr×Hp
 | .norm=>(.norm,mkS [(1,(.bp 0 0))],[some (.box 43 ((Qi.cells bo1).map .pl))])
 | .ret=>(.ret,mkS [(2,(jB true))],[])
def f43n1S(bo1:Qi):Tr×Hp:=(mkS [(1,(.bp 0 0))],[some (.box 43 ((Qi.cells bo1).map .pl))])
noncomputable def f43n1(bo1:Qi):Option f43n1O :=
 (f43n2 FUEL bo1 0).bind fun o50=>match o50 with
 | .exit0=>some .norm
 | .ret=>some .ret
theorem f43n1_ok(bo1:Qi){o:f43n1O}(h:f43n1 bo1=some o):T Tryd.prog Tryd.f43.ntmps 0 (cL (Qn 1 c43)) (f43n1S bo1) (·=f43n1E bo1 o):=by
 unfold f43n1 at h;refine rN Qh 1 [j3] [] [] [0] [1,3] (f43n2S bo1 0) an ?_;obtain ⟨o50,h51,h⟩:=Qe h;cases o50 with
 | exit0 =>
  obtain rfl:=Qd h;exact T.last' (T.bl (i:=0) (by kernel_rfl) (by kernel_rfl) (f43n2_ok FUEL bo1 0 h51)) (tds:=[]) (m:=[0]) (keep:=[1]) (st2:=(f43n1E bo1 .norm).2) (by kernel_rfl) an rfl
 | ret =>
  obtain rfl:=Qd h;exact T.last' (T.bl (i:=0) (by kernel_rfl) (by kernel_rfl) (f43n2_ok FUEL bo1 0 h51)) (tds:=[]) (m:=[]) (keep:=[2]) (st2:=(f43n1E bo1 .ret).2) (by kernel_rfl) an rfl
inductive f43n0O where
 | ret (v54:Bool)
def f43n0E(a1:Qi):f43n0O→Ex×Tr×Hp
 | .ret v54=>(.ret,mkS [(2,(jB v54))],[])
def f43n0S(a1:Qi):Tr×Hp:=(Qae [(jA Qi.cells a1)] 0 .leaf,[])
noncomputable def f43n0(a1:Qi):Option f43n0O :=
 (f43n1 a1).bind fun o52=>match o52 with
 | .norm=>some (.ret (decide (220<(a1.Records.length:Int))))
 | .ret=>some (.ret true)
theorem f43n0_ok(a1:Qi){o:f43n0O}(h:f43n0 a1=some o):T Tryd.prog Tryd.f43.ntmps 0 c43 (f43n0S a1) (·=f43n0E a1 o):=by
 unfold f43n0 at h;refine rN Qh 1 [j3] [] [] [0] [1] (f43n1S a1) an ?_;obtain ⟨o52,h53,h⟩:=Qe h;cases o52 with
 | norm =>
  refine T.oneN (by kernel_rfl) (f43n1_ok a1 h53) (st2:=(f43n1E a1 .norm).2) rfl ?_;obtain rfl:=Qd h;exact rE Qh [([],[],[(2,.val (jI (a1.Records.length:Int)))])] [] [] [] [2] (.ret,(f43n0E a1 (.ret (decide (220<(a1.Records.length:Int))))).2) (ap (Qu (xs:=a1.Records) (c:=Qc.cells)) an) rfl
 | ret =>
  obtain rfl:=Qd h;exact T.oneX' (by kernel_rfl) (f43n1_ok a1 h53) (tds:=[]) (m:=[]) (keep:=[2]) (st2:=(f43n0E a1 (.ret true)).2) (by kernel_rfl) an rfl rfl
noncomputable def f43(a1:Qi):Option Bool:=(f43n0 a1).bind fun o=>match o with
 | .ret v54=>some v54
theorem f43_ok(a1:Qi){r:Bool}(h:f43 a1=some r):Qo Tryd.prog false 43 [(jA Qi.cells a1)] [] (jB r) []:=by
 unfold f43 at h;obtain ⟨o,ho,h⟩:=Qe h;cases o with
 | ret v54 =>
  obtain rfl:=Qd h;exact Qo.plain Qh (f:=Tryd.f43) (c:=c43) (by kernel_rfl) (by kernel_rfl) (by kernel_rfl) (by kernel_rfl) ((f43n0_ok a1 ho).mono fun r e=>by subst e; exact ⟨.inl rfl,(jB v54),(jB v54),by kernel_rfl,by kernel_rfl,((Wk.refl _):Wk (jB v54) (jB v54))⟩)

noncomputable def c18:Code:=Tryd.f18.body.getD .skip
inductive f18n0O where
 | ret (v8:Bool)
def f18n0E(a1:Qi):f18n0O→Ex×Tr×Hp
 | .ret v8=>(.ret,mkS [(2,(jB v8))],[])
def f18n0S(a1:Qi):Tr×Hp:=(Qae [(jA Qi.cells a1)] 0 .leaf,[])
noncomputable def f18n0(a1:Qi):Option f18n0O :=
 bif decide (30<(a1.Records.length:Int)) then
  some (.ret true)
 else
  (f43 a1).bind fun x6 =>
  some (.ret x6)
theorem f18n0_ok(a1:Qi){o:f18n0O}(h:f18n0 a1=some o):T Tryd.prog Tryd.f18.ntmps 0 c18 (f18n0S a1) (·=f18n0E a1 o):=by
 unfold f18n0 at h;rcases Qg h with ⟨h5,h⟩|⟨h5,h⟩
 ·obtain rfl:=Qd h;exact rE Qh [j3,([(5,true),(6,true)],[(7,.bool true)],[(2,.val (jI (a1.Records.length:Int)))])] [] [] [] [2] (.ret,(f18n0E a1 (.ret true)).2) (ap (Qu (xs:=a1.Records) (c:=Qc.cells)) (ap3 h5 an)) rfl
 ·obtain ⟨x6,h7,h⟩:=Qe h;obtain rfl:=Qd h;exact rE Qh [j3,([(5,false),(6,false)],[jH 6 (jB x6),(7,.bool false)],[(2,.val (jI (a1.Records.length:Int)))])] [] [] [] [2] (.ret,(f18n0E a1 (.ret x6)).2) (ap (Qu (xs:=a1.Records) (c:=Qc.cells)) (ap3 h5 (ap (f43_ok a1 h7) an))) rfl
noncomputable def f18(a1:Qi):Option Bool:=(f18n0 a1).bind fun o=>match o with
 | .ret v8=>some v8
theorem f18_ok(a1:Qi){r:Bool}(h:f18 a1=some r):Qo Tryd.prog false 18 [(jA Qi.cells a1)] [] (jB r) []:=by
 unfold f18 at h;obtain ⟨o,ho,h⟩:=Qe h;cases o with
 | ret v8 =>
  obtain rfl:=Qd h;exact Qo.plain Qh (f:=Tryd.f18) (c:=c18) (by kernel_rfl) (by kernel_rfl) (by kernel_rfl) (by kernel_rfl) ((f18n0_ok a1 ho).mono fun r e=>by subst e; exact ⟨.inl rfl,(jB v8),(jB v8),by kernel_rfl,by kernel_rfl,((Wk.refl _):Wk (jB v8) (jB v8))⟩)


noncomputable def c24:Code:=Tryd.f24.body.getD .skip
inductive f24n2O where
 | exit0
 | ret (v36:Qa)
def f24n2E(bk1:List Qa)(bb2 bb3:ByteArray):f24n2O→Ex×Tr×Hp
 | .exit0=>((.exit 0),mkS [(6,(.bp 0 0))],[some (.box 39 ((Qa.cells (Qa.mk Qs Qs 0 0)).map .pl))])
 | .ret v36=>(.ret,mkS [(6,(.bp 0 0))],[some (.box 39 ((Qa.cells v36).map .pl))])
def f24n2S(bk1:List Qa)(bb2 bb3:ByteArray)(v25:Int):Tr×Hp:=(mkS [(0,(jL 4 Qa.cells bk1)),(1,(jS bb2)),(2,(jS bb3)),(6,(.bp 0 0)),(7,(jI v25))],[some (.box 39 ((Qa.cells (Qa.mk Qs Qs 0 0)).map .pl))])
noncomputable def f24n2:Nat→List Qa→ByteArray→ByteArray→Int→Option f24n2O
 | 0,_,_,_,_=>none
 | f+1,bk1,bb2,bb3,v25 =>
  bif decide (v25<(bk1.length:Int)) then
   (at? bk1 v25).bind fun x32 =>
   bif (seq x32.Account bb2) then
    bif (seq x32.Ccy bb3) then
     some (.ret x32)
    else
     (f24n2 f bk1 bb2 bb3 (wr64 (v25+1)))
   else
    (f24n2 f bk1 bb2 bb3 (wr64 (v25+1)))
  else
   some .exit0
theorem f24n2_ok:∀(f:Nat)(bk1:List Qa)(bb2 bb3:ByteArray)(v25:Int){o:f24n2O},f24n2 f bk1 bb2 bb3 v25=some o→TL Tryd.prog Tryd.f24.ntmps 0 f (cL (cL (Qn 1 (cL (Qn 1 c24))))) (f24n2S bk1 bb2 bb3 v25) (·=f24n2E bk1 bb2 bb3 o)
 | 0,_,_,_,_,o,h=>by rw [f24n2] at h; cases h
 | f+1,bk1,bb2,bb3,v25,o,h=>by
  rw [f24n2] at h;refine TL.body (K:=fun s=>∃v25:Int,s=(f24n2S bk1 bb2 bb3 v25)∧f24n2 f bk1 bb2 bb3 v25=some o) ?_ (by rintro _ ⟨v25,rfl,hk⟩; exact f24n2_ok f _ _ _ _ hk);rcases Qg h with ⟨h27,h⟩|⟨h27,h⟩
  ·obtain ⟨x32,h33,h⟩:=Qe h;rcases Qg h with ⟨h34,h⟩|⟨h34,h⟩
   ·rcases Qg h with ⟨h35,h⟩|⟨h35,h⟩
    ·obtain rfl:=Qd h;exact rK Qh 2 [([],[],[(2,.val (jI (bk1.length:Int)))]),(jT [8,9,10,11,12,13,14],[(2,.idx (Int.toNat v25) (Qa.cells x32)),(10,.idx (Int.toNat v25) (Qa.cells x32)),(15,.bool true)],[]),([],[(2,.idx (Int.toNat v25) (Qa.cells x32))],[])] [some true,some true] [] [0] [6] .ret ((f24n2E bk1 bb2 bb3 (.ret x32)).2) (ap (Qu (xs:=bk1) (c:=Qa.cells)) (ap h27 (ap (Qk h33).1 (ap (Qt Qa.cells (Qk h33).2) (ap3 h34 (ap (Qk h33).1 (ap (Qt Qa.cells (Qk h33).2) (ap h34 (ap4 h34 (ap h35 (ap (Qk h33).1 (ap (Qt Qa.cells (Qk h33).2) an)))))))))))) (Qv.out rfl rfl)
    ·exact rE Qh [([],[],[(2,.val (jI (bk1.length:Int)))]),(jT [8,9,10,11,12,13,14],[(2,.idx (Int.toNat v25) (Qa.cells x32)),(10,.idx (Int.toNat v25) (Qa.cells x32)),(15,.bool true)],[]),j3] [some true,some false] [] [0] [0,1,2,6,7] (.norm,(f24n2S bk1 bb2 bb3 (wr64 (v25+1)))) (ap (Qu (xs:=bk1) (c:=Qa.cells)) (ap h27 (ap (Qk h33).1 (ap (Qt Qa.cells (Qk h33).2) (ap3 h34 (ap (Qk h33).1 (ap (Qt Qa.cells (Qk h33).2) (ap h34 (ap4 h34 (ap h35 an)))))))))) (Qv.norm ⟨(wr64 (v25+1)),rfl,h⟩)
   ·exact rE Qh [([],[],[(2,.val (jI (bk1.length:Int)))]),(jF [8,9,10,11,12,13,14],[(2,.idx (Int.toNat v25) (Qa.cells x32)),(15,.bool false)],[]),j3] [some true,none] [] [0] [0,1,2,6,7] (.norm,(f24n2S bk1 bb2 bb3 (wr64 (v25+1)))) (ap (Qu (xs:=bk1) (c:=Qa.cells)) (ap h27 (ap (Qk h33).1 (ap (Qt Qa.cells (Qk h33).2) (ap4 h34 (ap4 h34 an)))))) (Qv.norm ⟨(wr64 (v25+1)),rfl,h⟩)
  ·obtain rfl:=Qd h;exact rK Qh 1 [([],[],[(2,.val (jI (bk1.length:Int)))])] [some false] [] [0] [6] (.exit 0) ((f24n2E bk1 bb2 bb3 .exit0).2) (ap (Qu (xs:=bk1) (c:=Qa.cells)) (ap h27 an)) (Qv.out rfl rfl)
noncomputable def f24n2L(bk1:List Qa)(bb2 bb3:ByteArray):List Qa→Int→Option f24n2O
 | [],v25 =>
  some .exit0
 | x0::rest,v25 =>
  bif (seq x0.Account bb2) then
   bif (seq x0.Ccy bb3) then
    some (.ret x0)
   else
    (f24n2L bk1 bb2 bb3 rest (v25+1))
  else
   (f24n2L bk1 bb2 bb3 rest (v25+1))
theorem f24n2L_eq(bk1:List Qa)(bb2 bb3:ByteArray):∀(rest:List Qa)(f k:Nat),bk1.drop k=rest→bk1.length≤maxLen→rest.length<f→f24n2 f bk1 bb2 bb3 (k:Int)=f24n2L bk1 bb2 bb3 rest (k:Int)
 | _,0,_,_,_,hf=>absurd hf (Nat.not_lt_zero _)
 | [],f+1,k,hd,hm,hf=>by
  have hk:¬((k:Int)<(bk1.length:Int)):=by have:=Qak hd; omega
  rw [f24n2,f24n2L];simp only [decide_eq_false hk,cond_false]
 | x0::rest,f+1,k,hd,hm,hf=>by
  obtain ⟨hx,hlt,hd'⟩:=Qaj hd;have hk:(k:Int)<(bk1.length:Int):=by omega
  have hw:wr64 ((k:Int)+1)=(k:Int)+1:=Qbk (by omega) (by unfold maxLen at hm; omega);have ih:f24n2 f bk1 bb2 bb3 ((k:Int)+1)=f24n2L bk1 bb2 bb3 rest ((k:Int)+1):=f24n2L_eq bk1 bb2 bb3 rest f (k+1) hd' hm (by simpa using hf);rw [f24n2,f24n2L];simp only [decide_eq_true hk,cond_true,at_nat,hx,Option.bind_some,hw,ih]
theorem f24n2_run(bk1:List Qa)(bb2 bb3:ByteArray)(hm:bk1.length≤maxLen):f24n2 FUEL bk1 bb2 bb3 0=f24n2L bk1 bb2 bb3 bk1 0:=f24n2L_eq bk1 bb2 bb3 bk1 FUEL 0 List.drop_zero hm (Qbi hm)
inductive f24n1O where
 | norm
 | ret (v40:Qa)
def f24n1E(bk1:List Qa)(bb2 bb3:ByteArray):f24n1O→Ex×Tr×Hp
 | .norm=>(.norm,mkS [(6,(.bp 0 0))],[some (.box 39 ((Qa.cells (Qa.mk Qs Qs 0 0)).map .pl))])
 | .ret v40=>(.ret,mkS [(6,(.bp 0 0))],[some (.box 39 ((Qa.cells v40).map .pl))])
def f24n1S(bk1:List Qa)(bb2 bb3:ByteArray):Tr×Hp:=(mkS [(0,(jL 4 Qa.cells bk1)),(1,(jS bb2)),(2,(jS bb3)),(6,(.bp 0 0))],[some (.box 39 ((Qa.cells (Qa.mk Qs Qs 0 0)).map .pl))])
noncomputable def f24n1(bk1:List Qa)(bb2 bb3:ByteArray):Option f24n1O :=
 (f24n2 FUEL bk1 bb2 bb3 0).bind fun o37=>match o37 with
 | .exit0=>some .norm
 | .ret v39=>some (.ret v39)
theorem f24n1_ok(bk1:List Qa)(bb2 bb3:ByteArray){o:f24n1O}(h:f24n1 bk1 bb2 bb3=some o):T Tryd.prog Tryd.f24.ntmps 0 (cL (Qn 1 c24)) (f24n1S bk1 bb2 bb3) (·=f24n1E bk1 bb2 bb3 o):=by
 unfold f24n1 at h;refine rN Qh 1 [j3] [] [] [0] [0,1,2,6,7] (f24n2S bk1 bb2 bb3 0) an ?_;obtain ⟨o37,h38,h⟩:=Qe h;cases o37 with
 | exit0 =>
  obtain rfl:=Qd h;exact T.last' (T.bl (i:=0) (by kernel_rfl) (by kernel_rfl) (f24n2_ok FUEL bk1 bb2 bb3 0 h38)) (tds:=[]) (m:=[0]) (keep:=[6]) (st2:=(f24n1E bk1 bb2 bb3 .norm).2) (by kernel_rfl) an rfl
 | ret v39 =>
  obtain rfl:=Qd h;exact T.last' (T.bl (i:=0) (by kernel_rfl) (by kernel_rfl) (f24n2_ok FUEL bk1 bb2 bb3 0 h38)) (tds:=[]) (m:=[0]) (keep:=[6]) (st2:=(f24n1E bk1 bb2 bb3 (.ret v39)).2) (by kernel_rfl) an rfl
inductive f24n0O where
 | ret (v44:Qa)
def f24n0E(a1:List Qa)(a2 a3:ByteArray):f24n0O→Ex×Tr×Hp
 | .ret v44=>(.ret,mkS [(6,(.bp 0 0))],[some (.box 39 ((Qa.cells v44).map .pl))])
def f24n0S(a1:List Qa)(a2 a3:ByteArray):Tr×Hp:=(Qae [(jL 4 Qa.cells a1),(jS a2),(jS a3)] 0 .leaf,[])
noncomputable def f24n0(a1:List Qa)(a2 a3:ByteArray):Option f24n0O :=
 (f24n1 a1 a2 a3).bind fun o41=>match o41 with
 | .norm=>some (.ret (Qa.mk Qs Qs 0 0))
 | .ret v43=>some (.ret v43)
theorem f24n0_ok(a1:List Qa)(a2 a3:ByteArray){o:f24n0O}(h:f24n0 a1 a2 a3=some o):T Tryd.prog Tryd.f24.ntmps 0 c24 (f24n0S a1 a2 a3) (·=f24n0E a1 a2 a3 o):=by
 unfold f24n0 at h;refine rN Qh 1 [j3] [] [] [0] [0,1,2,6] (f24n1S a1 a2 a3) an ?_;obtain ⟨o41,h42,h⟩:=Qe h;cases o41 with
 | norm =>
  refine T.oneN (by kernel_rfl) (f24n1_ok a1 a2 a3 h42) (st2:=(f24n1E a1 a2 a3 .norm).2) rfl ?_;obtain rfl:=Qd h;exact rE Qh [j3] [] [] [0] [6] (.ret,(f24n0E a1 a2 a3 (.ret (Qa.mk Qs Qs 0 0))).2) an rfl
 | ret v43 =>
  obtain rfl:=Qd h;exact T.oneX' (by kernel_rfl) (f24n1_ok a1 a2 a3 h42) (tds:=[]) (m:=[0]) (keep:=[6]) (st2:=(f24n0E a1 a2 a3 (.ret v43)).2) (by kernel_rfl) an rfl rfl
noncomputable def f24(a1:List Qa)(a2 a3:ByteArray):Option Qa:=(f24n0 a1 a2 a3).bind fun o=>match o with
 | .ret v44=>some v44
theorem f24_ok(a1:List Qa)(a2 a3:ByteArray){r:Qa}(h:f24 a1 a2 a3=some r):Qo Tryd.prog false 24 [(jL 4 Qa.cells a1),(jS a2),(jS a3)] [] (jA Qa.cells r) []:=by
 unfold f24 at h;obtain ⟨o,ho,h⟩:=Qe h;cases o with
 | ret v44 =>
  obtain rfl:=Qd h;exact Qo.plain Qh (f:=Tryd.f24) (c:=c24) (by kernel_rfl) (by kernel_rfl) (by kernel_rfl) (by kernel_rfl) ((f24n0_ok a1 a2 a3 ho).mono fun r e=>by subst e; exact ⟨.inl rfl,(jA Qa.cells v44),(jA Qa.cells v44),by kernel_rfl,by kernel_rfl,((Wk.refl _):Wk (jA Qa.cells v44) (jA Qa.cells v44))⟩)



noncomputable def c6:Code:=Tryd.f6.body.getD .skip
end Go.Proofs.YtfeklaffeigilaaDoor
