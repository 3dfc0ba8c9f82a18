/- Several texts in one. No condition. -/
import Derived.Test.YtinabbgjignkbaaA3
import Derived.Test.YtinabbgjignkbaaTU
namespace Go.Proofs.Ytinabbgjignkbaa
set_option linter.unusedVariables false
set_option linter.unusedSimpArgs false
set_option maxRecDepth 100000
open Go.RowKit
noncomputable def c65:Code:=Try.f65.body.getD .skip
inductive f65n0O where
 | ret
def f65n0E(a1:ByteArray):f65n0O→Ex×Tr×Hp
 | .ret=>(.ret,mkS [(2,(.pl (.bool (!(seq a1 a1)))))],[])
def f65n0S(a1:ByteArray):Tr×Hp:=(Qar [(jS a1)] 0 .leaf,[])
noncomputable def f65n0(a1:ByteArray):Option f65n0O :=
 some .ret
theorem f65n0_ok(a1:ByteArray){o:f65n0O}(h:f65n0 a1=some o):T Try.prog Try.f65.ntmps 0 c65 (f65n0S a1) (·=f65n0E a1 o):=by
 unfold f65n0 at h;obtain rfl:=Qe h;exact rE Qg [j3,j3] [] [] [] [2] (.ret,(f65n0E a1 .ret).2) an rfl
noncomputable def f65(a1:ByteArray):Option Bool:=(f65n0 a1).bind fun o=>match o with
 | .ret=>some (!(seq a1 a1))
theorem f65_ok(a1:ByteArray){r:Bool}(h:f65 a1=some r):Qo Try.prog false 65 [(jS a1)] [] (jB r) []:=by
 unfold f65 at h;obtain ⟨o,ho,h⟩:=Qd h;cases o with
 | ret =>
  obtain rfl:=Qe h;exact Qo.plain Qg (f:=Try.f65) (c:=c65) (by kernel_rfl) (by kernel_rfl) (by kernel_rfl) (by kernel_rfl) ((f65n0_ok a1 ho).mono fun r e=>by subst e; exact ⟨.inl rfl,(.pl (.bool (!(seq a1 a1)))),(.pl (.bool (!(seq a1 a1)))),by kernel_rfl,by kernel_rfl,((Wk.refl _):Wk (.pl (.bool (!(seq a1 a1)))) (.pl (.bool (!(seq a1 a1)))))⟩)

noncomputable def c49:Code:=Try.f49.body.getD .skip
inductive f49n0O where
 | ret (v21:Int)
def f49n0E(a1 a2:ByteArray):f49n0O→Ex×Tr×Hp
 | .ret v21=>(.ret,mkS [(4,(jI v21))],[])
def f49n0S(a1 a2:ByteArray):Tr×Hp:=(Qar [(jS a1),(jS a2)] 0 .leaf,[])
noncomputable def f49n0(a1 a2:ByteArray):Option f49n0O :=
 (f65 a1).bind fun x5 =>
 (f65 a2).bind fun x9 =>
 bif x5 then
  bif x9 then
   some (.ret 0)
  else
   some (.ret (-1))
 else
  bif x9 then
   some (.ret 1)
  else
   bif (slt a1 a2) then
    some (.ret (-1))
   else
    bif (slt a1 a2||seq a1 a2) then
     some (.ret 0)
    else
     some (.ret 1)
theorem f49n0_ok(a1 a2:ByteArray){o:f49n0O}(h:f49n0 a1 a2=some o):T Try.prog Try.f49.ntmps 0 c49 (f49n0S a1 a2) (·=f49n0E a1 a2 o):=by
 unfold f49n0 at h;obtain ⟨x5,h6,h⟩:=Qd h;obtain ⟨x9,h10,h⟩:=Qd h;rcases Qh h with ⟨h13,h⟩|⟨h13,h⟩
 ·rcases Qh h with ⟨h14,h⟩|⟨h14,h⟩
  ·obtain rfl:=Qe h;exact rK Qg 4 [j3,([],[jH 1 (jB x5)],[]),([],[jH 1 (jB x9)],[]),j3,j3,j3] [some true,some true] [] [] [4] .ret ((f49n0E a1 a2 (.ret 0)).2) (ap (f65_ok a1 h6) (ap (f65_ok a2 h10) (ap h13 (ap h14 an)))) rfl
  ·obtain rfl:=Qe h;exact rK Qg 4 [j3,([],[jH 1 (jB x5)],[]),([],[jH 1 (jB x9)],[]),j3,j3,j3] [some true,some false] [] [] [4] .ret ((f49n0E a1 a2 (.ret (-1))).2) (ap (f65_ok a1 h6) (ap (f65_ok a2 h10) (ap h13 (ap h14 an)))) rfl
 ·rcases Qh h with ⟨h16,h⟩|⟨h16,h⟩
  ·obtain rfl:=Qe h;exact rK Qg 5 [j3,([],[jH 1 (jB x5)],[]),([],[jH 1 (jB x9)],[]),j3,j3,j3] [some false,some true] [] [] [4] .ret ((f49n0E a1 a2 (.ret 1)).2) (ap (f65_ok a1 h6) (ap (f65_ok a2 h10) (ap h13 (ap h16 an)))) rfl
  ·rcases Qh h with ⟨h18,h⟩|⟨h18,h⟩
   ·obtain rfl:=Qe h;exact rK Qg 6 [j3,([],[jH 1 (jB x5)],[]),([],[jH 1 (jB x9)],[]),j3,j3,j3,j3] [some false,some false,some true] [] [] [4] .ret ((f49n0E a1 a2 (.ret (-1))).2) (ap (f65_ok a1 h6) (ap (f65_ok a2 h10) (ap h13 (ap h16 (ap h18 an))))) rfl
   ·rcases Qh h with ⟨h20,h⟩|⟨h20,h⟩
    ·obtain rfl:=Qe h;exact rE Qg [j3,([],[jH 1 (jB x5)],[]),([],[jH 1 (jB x9)],[]),j3,j3,j3,j3,j3] [some false,some false,some false,some false] [] [] [4] (.ret,(f49n0E a1 a2 (.ret 0)).2) (ap (f65_ok a1 h6) (ap (f65_ok a2 h10) (ap h13 (ap h16 (ap h18 (ap (Qr h20) an)))))) rfl
    ·obtain rfl:=Qe h;exact rK Qg 7 [j3,([],[jH 1 (jB x5)],[]),([],[jH 1 (jB x9)],[]),j3,j3,j3,j3,j3] [some false,some false,some false,some true] [] [] [4] .ret ((f49n0E a1 a2 (.ret 1)).2) (ap (f65_ok a1 h6) (ap (f65_ok a2 h10) (ap h13 (ap h16 (ap h18 (ap (Qah h20) an)))))) rfl
noncomputable def f49(a1 a2:ByteArray):Option Int:=(f49n0 a1 a2).bind fun o=>match o with
 | .ret v21=>some v21
theorem f49_ok(a1 a2:ByteArray){r:Int}(h:f49 a1 a2=some r):Qo Try.prog false 49 [(jS a1),(jS a2)] [] (jI r) []:=by
 unfold f49 at h;obtain ⟨o,ho,h⟩:=Qd h;cases o with
 | ret v21 =>
  obtain rfl:=Qe h;exact Qo.plain Qg (f:=Try.f49) (c:=c49) (by kernel_rfl) (by kernel_rfl) (by kernel_rfl) (by kernel_rfl) ((f49n0_ok a1 a2 ho).mono fun r e=>by subst e; exact ⟨.inl rfl,(jI v21),(jI v21),by kernel_rfl,by kernel_rfl,((Wk.refl _):Wk (jI v21) (jI v21))⟩)

noncomputable def c48:Code:=Try.f48.body.getD .skip
inductive f48n2O where
 | exit0
 | ret (v28:Int)
def f48n2E(bh1:List Int):f48n2O→Ex×Tr×Hp
 | .exit0=>((.exit 0),mkS [(3,(jI 0))],[])
 | .ret v28=>(.ret,mkS [(2,(jI v28))],[])
def f48n2S(bh1:List Int)(v19:Int):Tr×Hp:=(mkS [(3,(jI 0)),(6,(.pl (.sl .any 1 (bh1.map (cInt .i64))))),(7,(jI (bh1.length:Int))),(8,(jI v19))],[])
noncomputable def f48n2:Nat→List Int→Int→Option f48n2O
 | 0,_,_=>none
 | f+1,bh1,v19 =>
  bif decide (v19<(bh1.length:Int)) then
   (at? bh1 v19).bind fun x25 =>
   bif decide (x25=0) then
    (f48n2 f bh1 (wr64 (v19+1)))
   else
    some (.ret x25)
  else
   some .exit0
theorem f48n2_ok:∀(f:Nat)(bh1:List Int)(v19:Int){o:f48n2O},f48n2 f bh1 v19=some o→TL Try.prog Try.f48.ntmps 0 f (cL (cL (Qi 1 (cL (Qi 2 c48))))) (f48n2S bh1 v19) (·=f48n2E bh1 o)
 | 0,_,_,o,h=>by rw [f48n2] at h; cases h
 | f+1,bh1,v19,o,h=>by
  rw [f48n2] at h;refine TL.body (K:=fun s=>∃v19:Int,s=(f48n2S bh1 v19)∧f48n2 f bh1 v19=some o) ?_ (by rintro _ ⟨v19,rfl,hk⟩; exact f48n2_ok f _ _ hk);rcases Qh h with ⟨h21,h⟩|⟨h21,h⟩
  ·obtain ⟨x25,h26,h⟩:=Qd h;rcases Qh h with ⟨h27,h⟩|⟨h27,h⟩
   ·exact rE Qg [j3,([],[(0,.idx (Int.toNat v19) ((cInt .i64) x25))],[]),j3,j3] [some true,some false] [] [] [3,6,7,8] (.norm,(f48n2S bh1 (wr64 (v19+1)))) (ap h21 (ap (Qf h26).1 (ap (Qk (cInt .i64) (Qf h26).2) (ap (Qr h27) an)))) (Qm.norm ⟨(wr64 (v19+1)),rfl,h⟩)
   ·obtain rfl:=Qe h;exact rK Qg 3 [j3,([],[(0,.idx (Int.toNat v19) ((cInt .i64) x25))],[]),j3,j3] [some true,some true] [] [] [2] .ret ((f48n2E bh1 (.ret x25)).2) (ap h21 (ap (Qf h26).1 (ap (Qk (cInt .i64) (Qf h26).2) (ap (Qah h27) an)))) (Qm.out rfl rfl)
  ·obtain rfl:=Qe h;exact rK Qg 2 [j3] [some false] [] [] [3] (.exit 0) ((f48n2E bh1 .exit0).2) (ap h21 an) (Qm.out rfl rfl)
noncomputable def f48n2L(bh1:List Int):List Int→Int→Option f48n2O
 | [],v19 =>
  some .exit0
 | x0::rest,v19 =>
  bif decide (x0=0) then
   (f48n2L bh1 rest (v19+1))
  else
   some (.ret x0)
theorem f48n2L_eq(bh1:List Int):∀(rest:List Int)(f k:Nat),bh1.drop k=rest→bh1.length≤maxLen→rest.length<f→f48n2 f bh1 (k:Int)=f48n2L bh1 rest (k:Int)
 | _,0,_,_,_,hf=>absurd hf (Nat.not_lt_zero _)
 | [],f+1,k,hd,hm,hf=>by
  have hk:¬((k:Int)<(bh1.length:Int)):=by have:=Qan hd; omega
  rw [f48n2,f48n2L];simp only [decide_eq_false hk,cond_false]
 | x0::rest,f+1,k,hd,hm,hf=>by
  obtain ⟨hx,hlt,hd'⟩:=Qat hd;have hk:(k:Int)<(bh1.length:Int):=by omega
  have hw:wr64 ((k:Int)+1)=(k:Int)+1:=wr64_of (by omega) (by unfold maxLen at hm; omega);have ih:f48n2 f bh1 ((k:Int)+1)=f48n2L bh1 rest ((k:Int)+1):=f48n2L_eq bh1 rest f (k+1) hd' hm (by simpa using hf);rw [f48n2,f48n2L];simp only [decide_eq_true hk,cond_true,at_nat,hx,Option.bind_some,hw,ih]
theorem f48n2_run(bh1:List Int)(hm:bh1.length≤maxLen):f48n2 FUEL bh1 0=f48n2L bh1 bh1 0:=f48n2L_eq bh1 bh1 FUEL 0 List.drop_zero hm (Qbr hm)
inductive f48n1O where
 | norm
 | ret (v32:Int)
def f48n1E(bh1:List Int):f48n1O→Ex×Tr×Hp
 | .norm=>(.norm,mkS [(3,(jI 0))],[])
 | .ret v32=>(.ret,mkS [(2,(jI v32))],[])
def f48n1S(bh1:List Int):Tr×Hp:=(mkS [(0,(.pl (.sl .any 1 (bh1.map (cInt .i64))))),(3,(jI 0))],[])
noncomputable def f48n1(bh1:List Int):Option f48n1O :=
 (f48n2 FUEL bh1 0).bind fun o29=>match o29 with
 | .exit0=>some .norm
 | .ret v31=>some (.ret v31)
theorem f48n1_ok(bh1:List Int){o:f48n1O}(h:f48n1 bh1=some o):T Try.prog Try.f48.ntmps 0 (cL (Qi 2 c48)) (f48n1S bh1) (·=f48n1E bh1 o):=by
 unfold f48n1 at h;refine rN Qg 1 [([],[],[(1,.val (jI (bh1.length:Int)))])] [] [] [] [3,6,7,8] (f48n2S bh1 0) (ap (Qq (xs:=bh1) (c:=(cInt .i64))) an) ?_;obtain ⟨o29,h30,h⟩:=Qd h;cases o29 with
 | exit0 =>
  obtain rfl:=Qe h;exact T.last' (T.bl (i:=0) (by kernel_rfl) (by kernel_rfl) (f48n2_ok FUEL bh1 0 h30)) (tds:=[]) (m:=[]) (keep:=[3]) (st2:=(f48n1E bh1 .norm).2) (by kernel_rfl) an rfl
 | ret v31 =>
  obtain rfl:=Qe h;exact T.last' (T.bl (i:=0) (by kernel_rfl) (by kernel_rfl) (f48n2_ok FUEL bh1 0 h30)) (tds:=[]) (m:=[]) (keep:=[2]) (st2:=(f48n1E bh1 (.ret v31)).2) (by kernel_rfl) an rfl
inductive f48n0O where
 | ret (v36:Int)
def f48n0E(a1:List Int):f48n0O→Ex×Tr×Hp
 | .ret v36=>(.ret,mkS [(2,(jI v36))],[])
def f48n0S(a1:List Int):Tr×Hp:=(Qar [(.pl (.sl .any 1 (a1.map (cInt .i64))))] 0 .leaf,[])
noncomputable def f48n0(a1:List Int):Option f48n0O :=
 (f48n1 a1).bind fun o33=>match o33 with
 | .norm=>some (.ret 0)
 | .ret v35=>some (.ret v35)
theorem f48n0_ok(a1:List Int){o:f48n0O}(h:f48n0 a1=some o):T Try.prog Try.f48.ntmps 0 c48 (f48n0S a1) (·=f48n0E a1 o):=by
 unfold f48n0 at h;refine rN Qg 2 [j3,j3] [] [] [] [0,3] (f48n1S a1) an ?_;obtain ⟨o33,h34,h⟩:=Qd h;cases o33 with
 | norm =>
  refine T.oneN (by kernel_rfl) (f48n1_ok a1 h34) (st2:=(f48n1E a1 .norm).2) rfl ?_;obtain rfl:=Qe h;exact rE Qg [j3] [] [] [] [2] (.ret,(f48n0E a1 (.ret 0)).2) an rfl
 | ret v35 =>
  obtain rfl:=Qe h;exact T.oneX' (by kernel_rfl) (f48n1_ok a1 h34) (tds:=[]) (m:=[]) (keep:=[2]) (st2:=(f48n0E a1 (.ret v35)).2) (by kernel_rfl) an rfl rfl
noncomputable def f48(a1:List Int):Option Int:=(f48n0 a1).bind fun o=>match o with
 | .ret v36=>some v36
theorem f48_ok(a1:List Int){r:Int}(h:f48 a1=some r):Qo Try.prog false 48 [(.pl (.sl .any 1 (a1.map (cInt .i64))))] [] (jI r) []:=by
 unfold f48 at h;obtain ⟨o,ho,h⟩:=Qd h;cases o with
 | ret v36 =>
  obtain rfl:=Qe h;exact Qo.plain Qg (f:=Try.f48) (c:=c48) (by kernel_rfl) (by kernel_rfl) (by kernel_rfl) (by kernel_rfl) ((f48n0_ok a1 ho).mono fun r e=>by subst e; exact ⟨.inl rfl,(jI v36),(jI v36),by kernel_rfl,by kernel_rfl,((Wk.refl _):Wk (jI v36) (jI v36))⟩)

noncomputable def c27:Code:=Try.f27.body.getD .skip
inductive f27n0O where
 | ret (v15:Int)
def f27n0E(a1 a2:Qc):f27n0O→Ex×Tr×Hp
 | .ret v15=>(.ret,mkS [(4,(jI v15))],[])
def f27n0S(a1 a2:Qc):Tr×Hp:=(Qar [(jA Qc.cells a1),(jA Qc.cells a2)] 0 .leaf,[])
noncomputable def f27n0(a1 a2:Qc):Option f27n0O :=
 (f49 a1.Asset a2.Asset).bind fun x9 =>
 (f49 a1.Call a2.Call).bind fun x11 =>
 (f48 [x9,x11]).bind fun x13 =>
 some (.ret x13)
theorem f27n0_ok(a1 a2:Qc){o:f27n0O}(h:f27n0 a1 a2=some o):T Try.prog Try.f27.ntmps 0 c27 (f27n0S a1 a2) (·=f27n0E a1 a2 o):=by
 unfold f27n0 at h;obtain ⟨x9,h10,h⟩:=Qd h;obtain ⟨x11,h12,h⟩:=Qd h;obtain ⟨x13,h14,h⟩:=Qd h;obtain rfl:=Qe h
 exact rE Qg [j3,([],[jH 4 (jI x9),jH 9 (jI x11),jH 11 (jI x13)],[])] [] [] [] [4] (.ret,(f27n0E a1 a2 (.ret x13)).2) (ap (same_val (e:=⟨false,49,[(jS a1.Asset),(jS a2.Asset)],[],(jI x9),[]⟩) (f:=⟨false,49,[(jS a1.Call),(jS a2.Call)],[],(jI x11),[]⟩) (fun k=>by simp only [jL,jS,jI,jB,jA,Qb.cells_eq,Qb.map_eq,Qc.cells_eq,Qc.map_eq,Qbf.cells_eq,Qbf.map_eq,Arr83.cells_eq,Arr83.map_eq,List.cons.injEq,AV.pl.injEq,PV.str.injEq,PV.int.injEq,PV.bool.injEq,PV.agg.injEq,PV.sl.injEq,and_true,true_and] at k; have e0:x9=x11:=Option.some.inj (by rw [←h10,←h12]; first | exact congrArg _ k | (obtain ⟨k1,_⟩:=k; simp only [k1]; done) | simp only [k]); exact ⟨by rw [e0],rfl⟩)) (ap (f49_ok a1.Asset a2.Asset h10) (ap (f49_ok a1.Call a2.Call h12) (ap (f48_ok [x9,x11] h14) an)))) rfl
noncomputable def f27(a1 a2:Qc):Option Int:=(f27n0 a1 a2).bind fun o=>match o with
 | .ret v15=>some v15
theorem f27_ok(a1 a2:Qc){r:Int}(h:f27 a1 a2=some r):Qo Try.prog false 27 [(jA Qc.cells a1),(jA Qc.cells a2)] [] (jI r) []:=by
 unfold f27 at h;obtain ⟨o,ho,h⟩:=Qd h;cases o with
 | ret v15 =>
  obtain rfl:=Qe h;exact Qo.plain Qg (f:=Try.f27) (c:=c27) (by kernel_rfl) (by kernel_rfl) (by kernel_rfl) (by kernel_rfl) ((f27n0_ok a1 a2 ho).mono fun r e=>by subst e; exact ⟨.inl rfl,(jI v15),(jI v15),by kernel_rfl,by kernel_rfl,((Wk.refl _):Wk (jI v15) (jI v15))⟩)

instance:Inhabited Qc:=⟨(Qc.mk str_x str_x 0)⟩
def so26_27_good(xs:List Qc):Prop:=∃c:Qc→Qc→Int,(∀x y,f27 x y=some (c x y))∧Go.Sort.SWO (ltOf c)∧xs.length<4611686018427387904
open Classical in
noncomputable def so26_27(xs:List Qc):Option (List Qc):=if h:so26_27_good xs then some (sortL h.choose xs) else none
theorem so26_27_val{xs:List Qc}{c:Qc→Qc→Int}(hc:∀x y,f27 x y=some (c x y))(o:Go.Sort.SWO (ltOf c))(hl:xs.length<4611686018427387904):so26_27 xs=some (sortL c xs):=by
 have h:so26_27_good xs:=⟨c,hc,o,hl⟩;unfold so26_27;rw [dif_pos h];have e:h.choose=c:=funext fun x=>funext fun y=>Option.some.inj ((h.choose_spec.1 x y).symm.trans (hc x y));rw [e]
theorem so26_27_ok(xs:List Qc){r:List Qc}(h:so26_27 xs=some r) :
  Qo Try.prog true 26 [.own 0,.pl (.fn 27)] [some (.row false 3 (xs.map Qc.cells))] (.tup []) [some (.row false 3 (r.map Qc.cells))]:=by
 unfold so26_27 at h
 by_cases hc:so26_27_good xs
 ·rw [dif_pos hc] at h;obtain rfl:=Qe h;have hs:=hc.choose_spec;exact sort_callS (cells:=Qc.cells) so_lays rfl so_agg so_size (enters_of Try.func26 (by kernel_rfl) rfl) (fun _=>rfl) (fun x q hq=>by
   simp only [Qc.cells,List.mem_cons,List.not_mem_nil,or_false] at hq;rcases hq with rfl | rfl | rfl<;>rfl) _ hs.2.1 (fun x y=>f27_ok _ _ (hs.1 x y)) xs hs.2.2
 ·rw [dif_neg hc] at h; cases h


noncomputable def c11:Code:=Try.f11.body.getD .skip
inductive f11n2O where
 | exit0 (v47:Int) (v48:List Int)
def f11n2E(bj2:(List Bool)×(List Qa)×(List Int)×(List Int))(bb1:List Qb):f11n2O→Ex×Tr×Hp
 | .exit0 v47 v48=>((.exit 0),mkS [(7,(.bp 0 0)),(8,(.bp 1 0)),(9,(jI v47))],[some (.box 51 [(.bp 2 0)]),some (.box 33 [(.own 3)]),some (.abox 57 [(.own 4),(jL 2 Qb.cells bb1),(.own 5),(.own 6)] (bj2.1.map Qp)),some (.row false 1 (v48.map (cInt .i64))),jR 4 Qa.cells bj2.2.1,some (.row false 1 (bj2.2.2.1.map (cInt .i64))),some (.row false 1 (bj2.2.2.2.map (cInt .i64)))])
def f11n2S(bj2:(List Bool)×(List Qa)×(List Int)×(List Int))(bb1:List Qb)(v34 v35:Int)(v36:List Int):Tr×Hp:=(mkS [(7,(.bp 0 0)),(8,(.bp 1 0)),(9,(jI v34)),(32,(jI (bj2.2.2.1.length:Int))),(33,(jI v35))],[some (.box 51 [(.bp 2 0)]),some (.box 33 [(.own 3)]),some (.abox 57 [(.own 4),(jL 2 Qb.cells bb1),(.own 5),(.own 6)] (bj2.1.map Qp)),some (.row false 1 (v36.map (cInt .i64))),jR 4 Qa.cells bj2.2.1,some (.row false 1 (bj2.2.2.1.map (cInt .i64))),some (.row false 1 (bj2.2.2.2.map (cInt .i64)))])
noncomputable def f11n2:Nat→(List Bool)×(List Qa)×(List Int)×(List Int)→List Qb→Int→Int→List Int→Option f11n2O
 | 0,_,_,_,_,_=>none
 | f+1,bj2,bb1,v34,v35,v36 =>
  bif decide (v35<(bj2.2.2.1.length:Int)) then
   req (cutB 0 (wr64 (v35+1)) bj2.2.2.1.length) <|
   (f23r1 ((Int.toNat (wr64 (v35+1)))-0) bj2.2.2.1 bj2.2.2.2 bb1 bj2.1 bj2.2.1).bind fun x44 =>
   req (fit (v36.length+1) 8) <|
   (f11n2 f bj2 bb1 x44 (wr64 (v35+1)) (v36++[(wr64 (x44-v34))]))
  else
   some (.exit0 v34 v36)
theorem f11n2_ok:∀(f:Nat)(bj2:(List Bool)×(List Qa)×(List Int)×(List Int))(bb1:List Qb)(v34 v35:Int)(v36:List Int){o:f11n2O},f11n2 f bj2 bb1 v34 v35 v36=some o→TL Try.prog Try.f11.ntmps 0 f (cL (cL (Qi 1 (cL (Qi 5 c11))))) (f11n2S bj2 bb1 v34 v35 v36) (·=f11n2E bj2 bb1 o)
 | 0,_,_,_,_,_,o,h=>by rw [f11n2] at h; cases h
 | f+1,bj2,bb1,v34,v35,v36,o,h=>by
  rw [f11n2] at h;refine TL.body (K:=fun s=>∃v34:Int,∃v35:Int,∃v36:List Int,s=(f11n2S bj2 bb1 v34 v35 v36)∧f11n2 f bj2 bb1 v34 v35 v36=some o) ?_ (by rintro _ ⟨v34,v35,v36,rfl,hk⟩; exact f11n2_ok f _ _ _ _ _ hk);rcases Qh h with ⟨h38,h⟩|⟨h38,h⟩
  ·obtain ⟨h43,h⟩:=Ql h;obtain ⟨x44,h45,h⟩:=Qd h;obtain ⟨h46,h⟩:=Ql h
   exact rE Qg [j3,j3,([],[(6,.cut 0 (Int.toNat (wr64 (v35+1)))),(14,.call (jI x44) [none,none,some (.abox 57 [(.own 4),(jL 2 Qb.cells bb1),(.own 5),(.own 6)] (bj2.1.map Qp)),none,jR 4 Qa.cells bj2.2.1,some (.row false 1 (bj2.2.2.1.map (cInt .i64))),some (.row false 1 (bj2.2.2.2.map (cInt .i64))),none])],[]),([],[(5,.fits)],[(5,.row 9 ((v36++[(wr64 (x44-v34))]).map (cInt .i64)))]),j3,j3] [some true] [] [0,1,2,9,4,5,6] [7,8,9,32,33] (.norm,(f11n2S bj2 bb1 x44 (wr64 (v35+1)) (v36++[(wr64 (x44-v34))]))) (ap h38 (ap (cut_hn_1_map (c:=(cInt .i64)) h43) (ap (cut_hn_2 h43) (ap (cut_hn_3 h43) (ap (cut_hn_4_map (c:=(cInt .i64)) h43) (ap (Qo.rn 8 [5,6,2,4] (f23r1_ok ((Int.toNat (wr64 (v35+1)))-0) bj2.2.2.1 bj2.2.2.2 bb1 bj2.1 bj2.2.1 h45)) (ap (fit_map (te:=ti3) (xs:=v36) (n:=1) (c:=(cInt .i64)) h46 rfl) (ap (app_cv (xs:=v36) (ys:=[(wr64 (x44-v34))]) (c:=(cInt .i64))) an)))))))) (Qm.norm ⟨x44,(wr64 (v35+1)),(v36++[(wr64 (x44-v34))]),rfl,h⟩)
  ·obtain rfl:=Qe h;exact rK Qg 2 [j3] [some false] [] [0,1,2,3,4,5,6] [7,8,9] (.exit 0) ((f11n2E bj2 bb1 (.exit0 v34 v36)).2) (ap h38 an) (Qm.out rfl rfl)
inductive f11n1O where
 | norm (v53:Int) (v54:List Int)
def f11n1E(bb1:List Qb)(bj2:(List Bool)×(List Qa)×(List Int)×(List Int)):f11n1O→Ex×Tr×Hp
 | .norm v53 v54=>(.norm,mkS [(7,(.bp 0 0)),(8,(.bp 1 0)),(9,(jI v53))],[some (.box 51 [(.bp 2 0)]),some (.box 33 [(.own 3)]),some (.abox 57 [(.own 4),(jL 2 Qb.cells bb1),(.own 5),(.own 6)] (bj2.1.map Qp)),some (.row false 1 (v54.map (cInt .i64))),jR 4 Qa.cells bj2.2.1,some (.row false 1 (bj2.2.2.1.map (cInt .i64))),some (.row false 1 (bj2.2.2.2.map (cInt .i64)))])
def f11n1S(bb1:List Qb)(bj2:(List Bool)×(List Qa)×(List Int)×(List Int)):Tr×Hp:=(mkS [(7,(.bp 0 0)),(8,(.bp 1 0)),(9,(jI 0))],[some (.box 51 [(.bp 2 0)]),some (.box 33 [(.pl (.sl .nil 0 []))]),some (.abox 57 [(.own 3),(jL 2 Qb.cells bb1),(.own 4),(.own 5)] (bj2.1.map Qp)),jR 4 Qa.cells bj2.2.1,some (.row false 1 (bj2.2.2.1.map (cInt .i64))),some (.row false 1 (bj2.2.2.2.map (cInt .i64)))])
noncomputable def f11n1(bb1:List Qb)(bj2:(List Bool)×(List Qa)×(List Int)×(List Int)):Option f11n1O :=
 (f11n2 FUEL bj2 bb1 0 0 []).bind fun o49=>match o49 with
 | .exit0 v51 v52=>some (.norm v51 v52)
theorem f11n1_ok(bb1:List Qb)(bj2:(List Bool)×(List Qa)×(List Int)×(List Int)){o:f11n1O}(h:f11n1 bb1 bj2=some o):T Try.prog Try.f11.ntmps 0 (cL (Qi 5 c11)) (f11n1S bb1 bj2) (·=f11n1E bb1 bj2 o):=by
 unfold f11n1 at h;refine rN Qg 1 [([],[],[(4,.val (jI (bj2.2.2.1.length:Int)))])] [] [.matC 1 0 1] [0,1,2,6,3,4,5] [7,8,9,32,33] (f11n2S bj2 bb1 0 0 []) (ap (Qq (xs:=bj2.2.2.1) (c:=(cInt .i64))) an) ?_;obtain ⟨o49,h50,h⟩:=Qd h;cases o49 with
 | exit0 v51 v52 =>
  obtain rfl:=Qe h;exact T.last' (T.bl (i:=0) (by kernel_rfl) (by kernel_rfl) (f11n2_ok FUEL bj2 bb1 0 0 [] h50)) (tds:=[]) (m:=[0,1,2,3,4,5,6]) (keep:=[7,8,9]) (st2:=(f11n1E bb1 bj2 (.norm v51 v52)).2) (by kernel_rfl) an rfl
inductive f11n5O where
 | exit4 (v407:Int) (v408:List Bool) (v409:List Int) (v410:List Qc) (v411:List Int)
def f11n5E(bg2:Int)(bh1 bh9:List Int)(bb4:List Qb)(bj8:(List Bool)×(List Qa)×(List Int)×(List Int)):f11n5O→Ex×Tr×Hp
 | .exit4 v407 v408 v409 v410 v411=>((.exit 4),mkS [(7,(.bp 0 0)),(8,(.bp 1 0)),(12,(.bp 2 0)),(13,(.bp 3 0)),(14,(.clo 25 [(.bp 1 0),(.bp 0 0),(.bp 2 0),(.bp 3 0)])),(69,(jI (bh1.length:Int))),(70,(jI bg2))],[some (.box 51 [(.bp 4 0)]),some (.box 33 [(.own 5)]),some (.box 3 (((cInt .i64) v407).map .pl)),some (.box 26 [(.own 6)]),some (.abox 57 [(.own 7),(jL 2 Qb.cells bb4),(.own 8),(.own 9)] (v408.map Qp)),some (.row false 1 (v409.map (cInt .i64))),jR 3 Qc.cells v410,jR 4 Qa.cells bj8.2.1,some (.row false 1 (bj8.2.2.1.map (cInt .i64))),some (.row false 1 (v411.map (cInt .i64)))])
def f11n5S(bg2:Int)(bh1 bh9:List Int)(bb4:List Qb)(bj8:(List Bool)×(List Qa)×(List Int)×(List Int))(v373 v374:Int)(v375:List Bool)(v376:List Int)(v377:List Qc)(v378:List Int):Tr×Hp:=(mkS [(7,(.bp 0 0)),(8,(.bp 1 0)),(12,(.bp 2 0)),(13,(.bp 3 0)),(14,(.clo 25 [(.bp 1 0),(.bp 0 0),(.bp 2 0),(.bp 3 0)])),(15,(jI bg2)),(69,(jI (bh1.length:Int))),(70,(jI bg2)),(77,(jI (bh9.length:Int))),(78,(jI v373))],[some (.box 51 [(.bp 4 0)]),some (.box 33 [(.own 5)]),some (.box 3 (((cInt .i64) v374).map .pl)),some (.box 26 [(.own 6)]),some (.abox 57 [(.own 7),(jL 2 Qb.cells bb4),(.own 8),(.own 9)] (v375.map Qp)),some (.row false 1 (v376.map (cInt .i64))),jR 3 Qc.cells v377,jR 4 Qa.cells bj8.2.1,some (.row false 1 (bj8.2.2.1.map (cInt .i64))),some (.row false 1 (v378.map (cInt .i64)))])
noncomputable def f11n5:Nat→Int→List Int→List Int→List Qb→(List Bool)×(List Qa)×(List Int)×(List Int)→Int→Int→List Bool→List Int→List Qc→List Int→Option f11n5O
 | 0,_,_,_,_,_,_,_,_,_,_,_=>none
 | f+1,bg2,bh1,bh9,bb4,bj8,v373,v374,v375,v376,v377,v378 =>
  bif decide (v373<(bh9.length:Int)) then
   req (idxB bg2 10) <|
   req (idxB v373 8) <|
   (v375[((Int.toNat bg2)*8+(Int.toNat v373)*1)]?).bind fun x396 =>
   bif x396 then
    (at? v376 bg2).bind fun x399 =>
    (at? v378 v373).bind fun x401 =>
    (f23r2 (v376.set (Int.toNat bg2) (wr64 (x399-(mnI x399 x401)))) (v378.set (Int.toNat v373) (wr64 (x401-(mnI x399 x401)))) bb4 (v375.set ((Int.toNat bg2)*8+(Int.toNat v373)*1) false) bj8.2.1 bj8.2.2.1).bind fun x403 =>
    (f25r2 bg2 v373 (wr64 ((mnI x399 x401)-(wr64 ((wr64 (v374-(mnI x399 x401)))-x403)))) v374 ((v376.set (Int.toNat bg2) (wr64 (x399-(mnI x399 x401)))).set (Int.toNat bg2) (wr64 ((wr64 (x399-(mnI x399 x401)))+(mnI x399 x401)))) bb4 (v375.set ((Int.toNat bg2)*8+(Int.toNat v373)*1) false) v377 bj8.2.1 bj8.2.2.1 ((v378.set (Int.toNat v373) (wr64 (x401-(mnI x399 x401)))).set (Int.toNat v373) (wr64 ((wr64 (x401-(mnI x399 x401)))+(mnI x399 x401))))).bind fun x405 =>
    (f11n5 f bg2 bh1 bh9 bb4 bj8 (wr64 (v373+1)) (wr64 (v374-(wr64 ((mnI x399 x401)-(wr64 ((wr64 (v374-(mnI x399 x401)))-x403)))))) (v375.set ((Int.toNat bg2)*8+(Int.toNat v373)*1) false) x405.1 x405.2.2 x405.2.1)
   else
    (f11n5 f bg2 bh1 bh9 bb4 bj8 (wr64 (v373+1)) v374 v375 v376 v377 v378)
  else
   some (.exit4 v374 v375 v376 v377 v378)
theorem f11n5_ok:∀(f:Nat)(bg2:Int)(bh1 bh9:List Int)(bb4:List Qb)(bj8:(List Bool)×(List Qa)×(List Int)×(List Int))(v373 v374:Int)(v375:List Bool)(v376:List Int)(v377:List Qc)(v378:List Int){o:f11n5O},f11n5 f bg2 bh1 bh9 bb4 bj8 v373 v374 v375 v376 v377 v378=some o→TL Try.prog Try.f11.ntmps 0 f (cL (cL (Qi 2 (cL (cL (Qi 2 (cL (cL (Qi 1 (cL (Qi 4 (Qi 1 (Qi 5 c11))))))))))))) (f11n5S bg2 bh1 bh9 bb4 bj8 v373 v374 v375 v376 v377 v378) (·=f11n5E bg2 bh1 bh9 bb4 bj8 o)
 | 0,_,_,_,_,_,_,_,_,_,_,_,o,h=>by rw [f11n5] at h; cases h
 | f+1,bg2,bh1,bh9,bb4,bj8,v373,v374,v375,v376,v377,v378,o,h=>by
  rw [f11n5] at h;refine TL.body (K:=fun s=>∃v373:Int,∃v374:Int,∃v375:List Bool,∃v376:List Int,∃v377:List Qc,∃v378:List Int,s=(f11n5S bg2 bh1 bh9 bb4 bj8 v373 v374 v375 v376 v377 v378)∧f11n5 f bg2 bh1 bh9 bb4 bj8 v373 v374 v375 v376 v377 v378=some o) ?_ (by rintro _ ⟨v373,v374,v375,v376,v377,v378,rfl,hk⟩; exact f11n5_ok f _ _ _ _ _ _ _ _ _ _ _ hk);rcases Qh h with ⟨h380,h⟩|⟨h380,h⟩
  ·obtain ⟨h394,h⟩:=Ql h;obtain ⟨h395,h⟩:=Ql h;obtain ⟨x396,h397,h⟩:=Qd h;rcases Qh h with ⟨h398,h⟩|⟨h398,h⟩
   ·obtain ⟨x399,h400,h⟩:=Qd h;obtain ⟨x401,h402,h⟩:=Qd h;obtain ⟨x403,h404,h⟩:=Qd h;obtain ⟨x405,h406,h⟩:=Qd h
    exact rE Qg [j3,j3,([],[(5,.at_ (Int.toNat bg2)),(6,.at_ (Int.toNat v373)),(7,.arr ((Int.toNat bg2)*8+(Int.toNat v373)*1) (Qp x396))],[]),([],[(5,.at_ (Int.toNat bg2)),(6,.at_ (Int.toNat v373)),(7,.arw ((Int.toNat bg2)*8+(Int.toNat v373)*1))],[(7,.arr 4 ((v375.set ((Int.toNat bg2)*8+(Int.toNat v373)*1) false).map Qp))]),([],[(2,.at_ (Int.toNat bg2)),(3,.idx 0 ((cInt .i64) x399)),(9,.at_ (Int.toNat v373)),(10,.idx 0 ((cInt .i64) x401))],[]),([],[(2,.at_ (Int.toNat bg2)),(3,.idx 0 ((cInt .i64) x399)),(6,.at_ (Int.toNat bg2)),(7,.idx 0 ((cInt .i64) x399))],[(7,.row 5 ((v376.set (Int.toNat bg2) (wr64 (x399-(mnI x399 x401)))).map (cInt .i64)))]),([],[(5,.at_ (Int.toNat v373)),(6,.idx 0 ((cInt .i64) x401)),(9,.at_ (Int.toNat v373)),(10,.idx 0 ((cInt .i64) x401))],[(10,.row 9 ((v378.set (Int.toNat v373) (wr64 (x401-(mnI x399 x401)))).map (cInt .i64)))]),([],[(11,.call (jI x403) (jN 4 [some (.abox 57 [(.own 7),(jL 2 Qb.cells bb4),(.own 8),(.own 9)] ((v375.set ((Int.toNat bg2)*8+(Int.toNat v373)*1) false).map Qp)),some (.row false 1 ((v376.set (Int.toNat bg2) (wr64 (x399-(mnI x399 x401)))).map (cInt .i64))),none,jR 4 Qa.cells bj8.2.1,some (.row false 1 (bj8.2.2.1.map (cInt .i64))),some (.row false 1 ((v378.set (Int.toNat v373) (wr64 (x401-(mnI x399 x401)))).map (cInt .i64))),none,none]))],[]),([],[(2,.at_ (Int.toNat bg2)),(3,.idx 0 ((cInt .i64) (wr64 (x399-(mnI x399 x401))))),(6,.at_ (Int.toNat bg2)),(7,.idx 0 ((cInt .i64) (wr64 (x399-(mnI x399 x401)))))],[(7,.row 5 (((v376.set (Int.toNat bg2) (wr64 (x399-(mnI x399 x401)))).set (Int.toNat bg2) (wr64 ((wr64 (x399-(mnI x399 x401)))+(mnI x399 x401)))).map (cInt .i64)))]),([],[(5,.at_ (Int.toNat v373)),(6,.idx 0 ((cInt .i64) (wr64 (x401-(mnI x399 x401))))),(9,.at_ (Int.toNat v373)),(10,.idx 0 ((cInt .i64) (wr64 (x401-(mnI x399 x401)))))],[(10,.row 9 (((v378.set (Int.toNat v373) (wr64 (x401-(mnI x399 x401)))).set (Int.toNat v373) (wr64 ((wr64 (x401-(mnI x399 x401)))+(mnI x399 x401)))).map (cInt .i64)))]),([],[(6,.call (.tup []) [some (.box 51 [(.bp 4 0)]),some (.box 33 [(.own 5)]),some (.box 3 (((cInt .i64) (wr64 (v374-(wr64 ((mnI x399 x401)-(wr64 ((wr64 (v374-(mnI x399 x401)))-x403))))))).map .pl)),some (.box 26 [(.own 12)]),some (.abox 57 [(.own 7),(jL 2 Qb.cells bb4),(.own 8),(.own 9)] ((v375.set ((Int.toNat bg2)*8+(Int.toNat v373)*1) false).map Qp)),some (.row false 1 (x405.1.map (cInt .i64))),none,jR 4 Qa.cells bj8.2.1,some (.row false 1 (bj8.2.2.1.map (cInt .i64))),some (.row false 1 (x405.2.1.map (cInt .i64))),none,none,jR 3 Qc.cells x405.2.2])],[]),j3] [some true,some false] [] [0,1,2,3,4,5,12,7,8,9] [7,8,12,13,14,15,69,70,77,78] (.norm,(f11n5S bg2 bh1 bh9 bb4 bj8 (wr64 (v373+1)) (wr64 (v374-(wr64 ((mnI x399 x401)-(wr64 ((wr64 (v374-(mnI x399 x401)))-x403)))))) (v375.set ((Int.toNat bg2)*8+(Int.toNat v373)*1) false) x405.1 x405.2.2 x405.2.1)) (ap h380 (ap (Qt h394) (ap (Qu h394) (ap (Qt h395) (ap (Qu h395) (ap ((by omega:(4+(Int.toNat bg2)*8+(Int.toNat v373)*1)=4+((Int.toNat bg2)*8+(Int.toNat v373)*1))) (ap (Qae Qp h397) (ap (Qr h398) (ap (Qt h394) (ap (Qu h394) (ap (Qt h395) (ap (Qu h395) (ap ((by omega:(4+(Int.toNat bg2)*8+(Int.toNat v373)*1)=4+((Int.toNat bg2)*8+(Int.toNat v373)*1))) (ap (arr_lt' (f:=Qp) h397) (ap (Qaz (xs:=v375) (f:=Qp) (k:=((Int.toNat bg2)*8+(Int.toNat v373)*1)) (x:=false)) (ap (Qf h400).1 (ap (Qs (cInt .i64) (Qf h400).2) (ap (Qk (cInt .i64) (Qf h400).2) (ap (Qf h402).1 (ap (Qs (cInt .i64) (Qf h402).2) (ap (Qk (cInt .i64) (Qf h402).2) (ap (Qf h400).1 (ap (Qs (cInt .i64) (Qf h400).2) (ap (Qk (cInt .i64) (Qf h400).2) (ap (Qf h400).1 (ap (Qs (cInt .i64) (Qf h400).2) (ap (Qk (cInt .i64) (Qf h400).2) (ap (set_cv (xs:=v376) (c:=(cInt .i64)) (k:=(Int.toNat bg2)) (x:=(wr64 (x399-(mnI x399 x401))))) (ap (Qf h402).1 (ap (Qs (cInt .i64) (Qf h402).2) (ap (Qk (cInt .i64) (Qf h402).2) (ap (Qf h402).1 (ap (Qs (cInt .i64) (Qf h402).2) (ap (Qk (cInt .i64) (Qf h402).2) (ap (set_cv (xs:=v378) (c:=(cInt .i64)) (k:=(Int.toNat v373)) (x:=(wr64 (x401-(mnI x399 x401))))) (ap (Qo.rn 12 [5,9,4,7,8] (f23r2_ok (v376.set (Int.toNat bg2) (wr64 (x399-(mnI x399 x401)))) (v378.set (Int.toNat v373) (wr64 (x401-(mnI x399 x401)))) bb4 (v375.set ((Int.toNat bg2)*8+(Int.toNat v373)*1) false) bj8.2.1 bj8.2.2.1 h404)) (ap (Qf h400).1 (ap (Qs (cInt .i64) (set_at (xs:=v376) (k:=(Int.toNat bg2)) (wr64 (x399-(mnI x399 x401))) (Qf h400).2)) (ap (Qk (cInt .i64) (set_at (xs:=v376) (k:=(Int.toNat bg2)) (wr64 (x399-(mnI x399 x401))) (Qf h400).2)) (ap (Qf h400).1 (ap (Qs (cInt .i64) (set_at (xs:=v376) (k:=(Int.toNat bg2)) (wr64 (x399-(mnI x399 x401))) (Qf h400).2)) (ap (Qk (cInt .i64) (set_at (xs:=v376) (k:=(Int.toNat bg2)) (wr64 (x399-(mnI x399 x401))) (Qf h400).2)) (ap (set_cv (xs:=(v376.set (Int.toNat bg2) (wr64 (x399-(mnI x399 x401))))) (c:=(cInt .i64)) (k:=(Int.toNat bg2)) (x:=(wr64 ((wr64 (x399-(mnI x399 x401)))+(mnI x399 x401))))) (ap (Qf h402).1 (ap (Qs (cInt .i64) (set_at (xs:=v378) (k:=(Int.toNat v373)) (wr64 (x401-(mnI x399 x401))) (Qf h402).2)) (ap (Qk (cInt .i64) (set_at (xs:=v378) (k:=(Int.toNat v373)) (wr64 (x401-(mnI x399 x401))) (Qf h402).2)) (ap (Qf h402).1 (ap (Qs (cInt .i64) (set_at (xs:=v378) (k:=(Int.toNat v373)) (wr64 (x401-(mnI x399 x401))) (Qf h402).2)) (ap (Qk (cInt .i64) (set_at (xs:=v378) (k:=(Int.toNat v373)) (wr64 (x401-(mnI x399 x401))) (Qf h402).2)) (ap (set_cv (xs:=(v378.set (Int.toNat v373) (wr64 (x401-(mnI x399 x401))))) (c:=(cInt .i64)) (k:=(Int.toNat v373)) (x:=(wr64 ((wr64 (x401-(mnI x399 x401)))+(mnI x399 x401))))) (ap (Qo.rn 12 [1,0,2,3,5,4,6,7,8,9] (f25r2_ok bg2 v373 (wr64 ((mnI x399 x401)-(wr64 ((wr64 (v374-(mnI x399 x401)))-x403)))) v374 ((v376.set (Int.toNat bg2) (wr64 (x399-(mnI x399 x401)))).set (Int.toNat bg2) (wr64 ((wr64 (x399-(mnI x399 x401)))+(mnI x399 x401)))) bb4 (v375.set ((Int.toNat bg2)*8+(Int.toNat v373)*1) false) v377 bj8.2.1 bj8.2.2.1 ((v378.set (Int.toNat v373) (wr64 (x401-(mnI x399 x401)))).set (Int.toNat v373) (wr64 ((wr64 (x401-(mnI x399 x401)))+(mnI x399 x401)))) h406)) an))))))))))))))))))))))))))))))))))))))))))))))))))) (Qm.norm ⟨(wr64 (v373+1)),(wr64 (v374-(wr64 ((mnI x399 x401)-(wr64 ((wr64 (v374-(mnI x399 x401)))-x403)))))),(v375.set ((Int.toNat bg2)*8+(Int.toNat v373)*1) false),x405.1,x405.2.2,x405.2.1,rfl,h⟩)
   ·exact rE Qg [j3,j3,([],[(5,.at_ (Int.toNat bg2)),(6,.at_ (Int.toNat v373)),(7,.arr ((Int.toNat bg2)*8+(Int.toNat v373)*1) (Qp x396))],[]),j3] [some true,some true] [] [0,1,2,3,4,5,6,7,8,9] [7,8,12,13,14,15,69,70,77,78] (.norm,(f11n5S bg2 bh1 bh9 bb4 bj8 (wr64 (v373+1)) v374 v375 v376 v377 v378)) (ap h380 (ap (Qt h394) (ap (Qu h394) (ap (Qt h395) (ap (Qu h395) (ap ((by omega:(4+(Int.toNat bg2)*8+(Int.toNat v373)*1)=4+((Int.toNat bg2)*8+(Int.toNat v373)*1))) (ap (Qae Qp h397) (ap (Qah h398) an)))))))) (Qm.norm ⟨(wr64 (v373+1)),v374,v375,v376,v377,v378,rfl,h⟩)
  ·obtain rfl:=Qe h;exact rK Qg 2 [j3] [some false] [] [0,1,2,3,4,5,6,7,8,9] [7,8,12,13,14,69,70] (.exit 4) ((f11n5E bg2 bh1 bh9 bb4 bj8 (.exit4 v374 v375 v376 v377 v378)).2) (ap h380 an) (Qm.out rfl rfl)
inductive f11n4O where
 | norm (v419:Int) (v420:List Bool) (v421:List Int) (v422:List Qc) (v423:List Int)
def f11n4E(bh1:List Int)(bg2 bg3:Int)(bb4:List Qb)(bi5:List Bool)(bh6:List Int)(bc7:List Qc)(bj8:(List Bool)×(List Qa)×(List Int)×(List Int))(bh9:List Int):f11n4O→Ex×Tr×Hp
 | .norm v419 v420 v421 v422 v423=>(.norm,mkS [(7,(.bp 0 0)),(8,(.bp 1 0)),(12,(.bp 2 0)),(13,(.bp 3 0)),(14,(.clo 25 [(.bp 1 0),(.bp 0 0),(.bp 2 0),(.bp 3 0)])),(69,(jI (bh1.length:Int))),(70,(jI bg2))],[some (.box 51 [(.bp 4 0)]),some (.box 33 [(.own 5)]),some (.box 3 (((cInt .i64) v419).map .pl)),some (.box 26 [(.own 6)]),some (.abox 57 [(.own 7),(jL 2 Qb.cells bb4),(.own 8),(.own 9)] (v420.map Qp)),some (.row false 1 (v421.map (cInt .i64))),jR 3 Qc.cells v422,jR 4 Qa.cells bj8.2.1,some (.row false 1 (bj8.2.2.1.map (cInt .i64))),some (.row false 1 (v423.map (cInt .i64)))])
def f11n4S(bh1:List Int)(bg2 bg3:Int)(bb4:List Qb)(bi5:List Bool)(bh6:List Int)(bc7:List Qc)(bj8:(List Bool)×(List Qa)×(List Int)×(List Int))(bh9:List Int):Tr×Hp:=(mkS [(7,(.bp 0 0)),(8,(.bp 1 0)),(12,(.bp 2 0)),(13,(.bp 3 0)),(14,(.clo 25 [(.bp 1 0),(.bp 0 0),(.bp 2 0),(.bp 3 0)])),(69,(jI (bh1.length:Int))),(70,(jI bg2))],[some (.box 51 [(.bp 4 0)]),some (.box 33 [(.own 5)]),some (.box 3 (((cInt .i64) bg3).map .pl)),some (.box 26 [(.own 6)]),some (.abox 57 [(.own 7),(jL 2 Qb.cells bb4),(.own 8),(.own 9)] (bi5.map Qp)),some (.row false 1 (bh6.map (cInt .i64))),jR 3 Qc.cells bc7,jR 4 Qa.cells bj8.2.1,some (.row false 1 (bj8.2.2.1.map (cInt .i64))),some (.row false 1 (bh9.map (cInt .i64)))])
noncomputable def f11n4(bh1:List Int)(bg2 bg3:Int)(bb4:List Qb)(bi5:List Bool)(bh6:List Int)(bc7:List Qc)(bj8:(List Bool)×(List Qa)×(List Int)×(List Int))(bh9:List Int):Option f11n4O :=
 (f11n5 FUEL bg2 bh1 bh9 bb4 bj8 0 bg3 bi5 bh6 bc7 bh9).bind fun o412=>match o412 with
 | .exit4 v414 v415 v416 v417 v418=>some (.norm v414 v415 v416 v417 v418)
theorem f11n4_ok(bh1:List Int)(bg2 bg3:Int)(bb4:List Qb)(bi5:List Bool)(bh6:List Int)(bc7:List Qc)(bj8:(List Bool)×(List Qa)×(List Int)×(List Int))(bh9:List Int){o:f11n4O}(h:f11n4 bh1 bg2 bg3 bb4 bi5 bh6 bc7 bj8 bh9=some o):T Try.prog Try.f11.ntmps 0 (cL (Qi 2 (cL (cL (Qi 1 (cL (Qi 4 (Qi 1 (Qi 5 c11))))))))) (f11n4S bh1 bg2 bg3 bb4 bi5 bh6 bc7 bj8 bh9) (·=f11n4E bh1 bg2 bg3 bb4 bi5 bh6 bc7 bj8 bh9 o):=by
 unfold f11n4 at h;refine T.block' (i:=3) (by kernel_rfl) ?_;refine rN Qg 2 [j3,([],[],[(4,.val (jI (bh9.length:Int)))])] [] [] [0,1,2,3,4,5,6,7,8,9] [7,8,12,13,14,15,69,70,77,78] (f11n5S bg2 bh1 bh9 bb4 bj8 0 bg3 bi5 bh6 bc7 bh9) (ap (Qq (xs:=bh9) (c:=(cInt .i64))) an) ?_;obtain ⟨o412,h413,h⟩:=Qd h;cases o412 with
 | exit4 v414 v415 v416 v417 v418 =>
  obtain rfl:=Qe h;exact T.last' (T.bl (i:=4) (by kernel_rfl) (by kernel_rfl) (f11n5_ok FUEL bg2 bh1 bh9 bb4 bj8 0 bg3 bi5 bh6 bc7 bh9 h413)) (tds:=[]) (m:=[0,1,2,3,4,5,6,7,8,9]) (keep:=[7,8,12,13,14,69,70]) (st2:=(f11n4E bh1 bg2 bg3 bb4 bi5 bh6 bc7 bj8 bh9 (.norm v414 v415 v416 v417 v418)).2) (by kernel_rfl) an rfl
inductive f11n6O where
 | exit2 (v431:List Qc)
def f11n6E(bh4:List Int)(bb2:List Qb)(bj3:(List Bool)×(List Qa)×(List Int)×(List Int)):f11n6O→Ex×Tr×Hp
 | .exit2 v431=>((.exit 2),mkS [(13,(.bp 0 0))],[some (.box 26 [(.own 1)]),jR 3 Qc.cells v431])
def f11n6S(bh4:List Int)(bb2:List Qb)(bj3:(List Bool)×(List Qa)×(List Int)×(List Int))(v305 v306:Int)(v307:List Bool)(v308:List Int)(v309:List Qc)(v310:List Int):Tr×Hp:=(mkS [(7,(.bp 0 0)),(8,(.bp 1 0)),(12,(.bp 2 0)),(13,(.bp 3 0)),(14,(.clo 25 [(.bp 1 0),(.bp 0 0),(.bp 2 0),(.bp 3 0)])),(69,(jI (bh4.length:Int))),(70,(jI v305))],[some (.box 51 [(.bp 4 0)]),some (.box 33 [(.own 5)]),some (.box 3 (((cInt .i64) v306).map .pl)),some (.box 26 [(.own 6)]),some (.abox 57 [(.own 7),(jL 2 Qb.cells bb2),(.own 8),(.own 9)] (v307.map Qp)),some (.row false 1 (v308.map (cInt .i64))),jR 3 Qc.cells v309,jR 4 Qa.cells bj3.2.1,some (.row false 1 (bj3.2.2.1.map (cInt .i64))),some (.row false 1 (v310.map (cInt .i64)))])
noncomputable def f11n6:Nat→List Int→List Qb→(List Bool)×(List Qa)×(List Int)×(List Int)→Int→Int→List Bool→List Int→List Qc→List Int→Option f11n6O
 | 0,_,_,_,_,_,_,_,_,_=>none
 | f+1,bh4,bb2,bj3,v305,v306,v307,v308,v309,v310 =>
  bif decide (v305<(bh4.length:Int)) then
   (f11n4 bh4 v305 v306 bb2 v307 v308 v309 bj3 v310).bind fun o424=>match o424 with
   | .norm v426 v427 v428 v429 v430=>(f11n6 f bh4 bb2 bj3 (wr64 (v305+1)) v426 v427 v428 v429 v430)
  else
   some (.exit2 v309)
theorem f11n6_ok:∀(f:Nat)(bh4:List Int)(bb2:List Qb)(bj3:(List Bool)×(List Qa)×(List Int)×(List Int))(v305 v306:Int)(v307:List Bool)(v308:List Int)(v309:List Qc)(v310:List Int){o:f11n6O},f11n6 f bh4 bb2 bj3 v305 v306 v307 v308 v309 v310=some o→TL Try.prog Try.f11.ntmps 0 f (cL (cL (Qi 1 (cL (Qi 4 (Qi 1 (Qi 5 c11))))))) (f11n6S bh4 bb2 bj3 v305 v306 v307 v308 v309 v310) (·=f11n6E bh4 bb2 bj3 o)
 | 0,_,_,_,_,_,_,_,_,_,o,h=>by rw [f11n6] at h; cases h
 | f+1,bh4,bb2,bj3,v305,v306,v307,v308,v309,v310,o,h=>by
  rw [f11n6] at h;refine TL.body (K:=fun s=>∃v305:Int,∃v306:Int,∃v307:List Bool,∃v308:List Int,∃v309:List Qc,∃v310:List Int,s=(f11n6S bh4 bb2 bj3 v305 v306 v307 v308 v309 v310)∧f11n6 f bh4 bb2 bj3 v305 v306 v307 v308 v309 v310=some o) ?_ (by rintro _ ⟨v305,v306,v307,v308,v309,v310,rfl,hk⟩; exact f11n6_ok f _ _ _ _ _ _ _ _ _ hk);rcases Qh h with ⟨h312,h⟩|⟨h312,h⟩
  ·refine rN Qg 2 [j3] [some true] [] [0,1,2,3,4,5,6,7,8,9] [7,8,12,13,14,69,70] (f11n4S bh4 v305 v306 bb2 v307 v308 v309 bj3 v310) (ap h312 an) ?_;obtain ⟨o424,h425,h⟩:=Qd h;cases o424 with
   | norm v426 v427 v428 v429 v430 =>
    refine T.oneN (by kernel_rfl) (f11n4_ok bh4 v305 v306 bb2 v307 v308 v309 bj3 v310 h425) (st2:=(f11n4E bh4 v305 v306 bb2 v307 v308 v309 bj3 v310 (.norm v426 v427 v428 v429 v430)).2) rfl ?_;exact rE Qg [j3] [] [] [0,1,2,3,4,5,6,7,8,9] [7,8,12,13,14,69,70] (.norm,(f11n6S bh4 bb2 bj3 (wr64 (v305+1)) v426 v427 v428 v429 v430)) an (Qm.norm ⟨(wr64 (v305+1)),v426,v427,v428,v429,v430,rfl,h⟩)
  ·obtain rfl:=Qe h;exact rK Qg 2 [j3] [some false] [] [3,6] [13] (.exit 2) ((f11n6E bh4 bb2 bj3 (.exit2 v309)).2) (ap h312 an) (Qm.out rfl rfl)
inductive f11n3O where
 | norm (v435:List Qc)
def f11n3E(bg1:Int)(bb2:List Qb)(bj3:(List Bool)×(List Qa)×(List Int)×(List Int))(bh4:List Int):f11n3O→Ex×Tr×Hp
 | .norm v435=>(.norm,mkS [(13,(.bp 0 0))],[some (.box 26 [(.own 1)]),jR 3 Qc.cells v435])
def f11n3S(bg1:Int)(bb2:List Qb)(bj3:(List Bool)×(List Qa)×(List Int)×(List Int))(bh4:List Int):Tr×Hp:=(mkS [(7,(.bp 0 0)),(8,(.bp 1 0)),(12,(.bp 2 0)),(13,(.bp 3 0)),(14,(.clo 25 [(.bp 1 0),(.bp 0 0),(.bp 2 0),(.bp 3 0)]))],[some (.box 51 [(.bp 4 0)]),some (.box 33 [(.own 5)]),some (.box 3 (((cInt .i64) bg1).map .pl)),some (.box 26 [(.pl (.sl .nil 0 []))]),some (.abox 57 [(.own 6),(jL 2 Qb.cells bb2),(.own 7),(.own 8)] (bj3.1.map Qp)),some (.row false 1 (bh4.map (cInt .i64))),jR 4 Qa.cells bj3.2.1,some (.row false 1 (bj3.2.2.1.map (cInt .i64))),some (.row false 1 (bj3.2.2.2.map (cInt .i64)))])
noncomputable def f11n3(bg1:Int)(bb2:List Qb)(bj3:(List Bool)×(List Qa)×(List Int)×(List Int))(bh4:List Int):Option f11n3O :=
 (f11n6 FUEL bh4 bb2 bj3 0 bg1 bj3.1 bh4 [] bj3.2.2.2).bind fun o432=>match o432 with
 | .exit2 v434=>some (.norm v434)
theorem f11n3_ok(bg1:Int)(bb2:List Qb)(bj3:(List Bool)×(List Qa)×(List Int)×(List Int))(bh4:List Int){o:f11n3O}(h:f11n3 bg1 bb2 bj3 bh4=some o):T Try.prog Try.f11.ntmps 0 (cL (Qi 4 (Qi 1 (Qi 5 c11)))) (f11n3S bg1 bb2 bj3 bh4) (·=f11n3E bg1 bb2 bj3 bh4 o):=by
 unfold f11n3 at h;refine rN Qg 1 [([],[],[(1,.val (jI (bh4.length:Int)))])] [] [.matC 3 0 3] [0,1,2,3,4,5,9,6,7,8] [7,8,12,13,14,69,70] (f11n6S bh4 bb2 bj3 0 bg1 bj3.1 bh4 [] bj3.2.2.2) (ap (Qq (xs:=bh4) (c:=(cInt .i64))) an) ?_;obtain ⟨o432,h433,h⟩:=Qd h;cases o432 with
 | exit2 v434 =>
  obtain rfl:=Qe h;exact T.last' (T.bl (i:=2) (by kernel_rfl) (by kernel_rfl) (f11n6_ok FUEL bh4 bb2 bj3 0 bg1 bj3.1 bh4 [] bj3.2.2.2 h433)) (tds:=[]) (m:=[0,1]) (keep:=[13]) (st2:=(f11n3E bg1 bb2 bj3 bh4 (.norm v434)).2) (by kernel_rfl) an rfl
inductive f11n0O where
 | ret (v443:Int) (v444:List Qc)
def f11n0E(a1:List Qa)(a2:List Qb):f11n0O→Ex×Tr×Hp
 | .ret v443 v444=>(.ret,mkS [(4,(.own 0)),(5,(jI v443))],[jR 3 Qc.cells v444])
def f11n0S(a1:List Qa)(a2:List Qb):Tr×Hp:=(Qar [(jL 4 Qa.cells a1),(jL 2 Qb.cells a2)] 0 .leaf,[])
noncomputable def f11n0(a1:List Qa)(a2:List Qb):Option f11n0O :=
 (f13 a1 a2).bind fun x6 =>
 bif decide (x6=0) then
  (f22r1 a1 a2).bind fun x11 =>
  (f11n1 a2 x11).bind fun o55=>match o55 with
  | .norm v57 v58=>(f24r1 x11.2.2.2).bind fun x61 =>
   bif decide (v57<x61) then
    some (.ret 50 [])
   else
    (f11n3 x61 a2 x11 v58).bind fun o436=>match o436 with
    | .norm v438=>(so26_27 v438).bind fun x441 =>
     some (.ret 0 x441)
 else
  some (.ret x6 [])
theorem f11n0_ok(a1:List Qa)(a2:List Qb){o:f11n0O}(h:f11n0 a1 a2=some o):T Try.prog Try.f11.ntmps 0 c11 (f11n0S a1 a2) (·=f11n0E a1 a2 o):=by
 unfold f11n0 at h;obtain ⟨x6,h7,h⟩:=Qd h;rcases Qh h with ⟨h8,h⟩|⟨h8,h⟩
 ·obtain ⟨x11,h12,h⟩:=Qd h;refine rN Qg 5 [j3,([],[jH 2 (jI x6)],[]),j3,([],[(2,.call (.bp 0 0) [some (.abox 57 [(.own 1),(jL 2 Qb.cells a2),(.own 2),(.own 3)] (x11.1.map Qp)),jR 4 Qa.cells x11.2.1,some (.row false 1 (x11.2.2.1.map (cInt .i64))),some (.row false 1 (x11.2.2.2.map (cInt .i64)))])],[]),j3,j3] [some false] [] [4,5,0,1,2,3] [7,8,9] (f11n1S a2 x11) (ap (f13_ok a1 a2 h7) (ap (Qr h8) (ap (f22r1_ok a1 a2 h12) an))) ?_;obtain ⟨o55,h56,h⟩:=Qd h;cases o55 with
  | norm v57 v58 =>
   refine T.oneN (by kernel_rfl) (f11n1_ok a2 x11 h56) (st2:=(f11n1E a2 x11 (.norm v57 v58)).2) rfl ?_;obtain ⟨x61,h62,h⟩:=Qd h;rcases Qh h with ⟨h64,h⟩|⟨h64,h⟩
   ·obtain rfl:=Qe h;exact rK Qg 2 [([],[(4,.call (jI x61) (jN 6 [some (.row false 1 (x11.2.2.2.map (cInt .i64)))]))],[]),j3,j3] [some true] [.mat 4 3] [8] [4,5] .ret ((f11n0E a1 a2 (.ret 50 [])).2) (ap (Qo.rn 7 [6] (f24r1_ok x11.2.2.2 h62)) (ap h64 an)) rfl
   ·refine rN Qg 4 [([],[(4,.call (jI x61) (jN 6 [some (.row false 1 (x11.2.2.2.map (cInt .i64)))]))],[]),j3,j3,j3] [some false] [] [0,1,7,8,2,3,4,5,6] [7,8,12,13,14] (f11n3S x61 a2 x11 v58) (ap (Qo.rn 7 [6] (f24r1_ok x11.2.2.2 h62)) (ap h64 an)) ?_;obtain ⟨o436,h437,h⟩:=Qd h;cases o436 with
    | norm v438 =>
     refine T.oneN (by kernel_rfl) (f11n3_ok x61 a2 x11 v58 h437) (st2:=(f11n3E x61 a2 x11 v58 (.norm v438)).2) rfl ?_;obtain ⟨x441,h442,h⟩:=Qd h;obtain rfl:=Qe h;exact rE Qg [([],[(1,.call (.tup []) [none,jR 3 Qc.cells x441])],[]),j3] [] [] [1] [4,5] (.ret,(f11n0E a1 a2 (.ret 0 x441)).2) (ap (Qo.rn 2 [1] (so26_27_ok v438 h442)) an) rfl
 ·obtain rfl:=Qe h;exact rK Qg 2 [j3,([],[jH 2 (jI x6)],[]),j3,j3] [some true] [.mat 4 3] [0] [4,5] .ret ((f11n0E a1 a2 (.ret x6 [])).2) (ap (f13_ok a1 a2 h7) (ap (Qah h8) an)) rfl
noncomputable def f11(a1:List Qa)(a2:List Qb):Option ((List Qc)×Int):=(f11n0 a1 a2).bind fun o=>match o with
 | .ret v443 v444=>some (v444,v443)
theorem f11_ok(a1:List Qa)(a2:List Qb){r:(List Qc)×Int}(h:f11 a1 a2=some r):Qo Try.prog false 11 [(jL 4 Qa.cells a1),(jL 2 Qb.cells a2)] [] (.tup [(jL 3 Qc.cells r.1),(jI r.2)]) []:=by
 unfold f11 at h;obtain ⟨o,ho,h⟩:=Qd h;cases o with
 | ret v443 v444 =>
  obtain rfl:=Qe h;exact Qo.plain Qg (f:=Try.f11) (c:=c11) (by kernel_rfl) (by kernel_rfl) (by kernel_rfl) (by kernel_rfl) ((f11n0_ok a1 a2 ho).mono fun r e=>by subst e; exact ⟨.inl rfl,(.tup [(.own 0),(jI v443)]),(.tup [(jL 3 Qc.cells v444),(jI v443)]),by kernel_rfl,by kernel_rfl,((Wk.refl _):Wk (.tup [(jL 3 Qc.cells v444),(jI v443)]) (.tup [(jL 3 Qc.cells v444),(jI v443)]))⟩)


noncomputable def c15:Code:=Try.f15.body.getD .skip
inductive f15n4O where
 | norm (v696:Bool)
def f15n4E(ba1:List Qa)(bb2:List Qb)(bc3:List Qc)(bg4:Int):f15n4O→Ex×Tr×Hp
 | .norm v696=>(.norm,mkS [(0,(jL 4 Qa.cells ba1)),(1,(jL 2 Qb.cells bb2)),(2,(jL 3 Qc.cells bc3)),(7,(jI bg4)),(84,(jB v696))],[])
def f15n4S(ba1:List Qa)(bb2:List Qb)(bc3:List Qc)(bg4:Int):Tr×Hp:=(mkS [(0,(jL 4 Qa.cells ba1)),(1,(jL 2 Qb.cells bb2)),(2,(jL 3 Qc.cells bc3)),(7,(jI bg4))],[])
noncomputable def f15n4(ba1:List Qa)(bb2:List Qb)(bc3:List Qc)(bg4:Int):Option f15n4O :=
 (at? bc3 bg4).bind fun x687 =>
 bif decide (x687.Amount<1) then
  some (.norm true)
 else
  bif decide (68719476736<x687.Amount) then
   some (.norm true)
  else
   bif decide (0<bg4) then
    (at? bc3 (wr64 (bg4-1))).bind fun x692 =>
    bif (slt x692.Asset x687.Asset||seq x692.Asset x687.Asset) then
     bif (seq x692.Asset x687.Asset) then
      some (.norm (!(slt x692.Call x687.Call)))
     else
      some (.norm false)
    else
     some (.norm true)
   else
    some (.norm false)
theorem f15n4_ok(ba1:List Qa)(bb2:List Qb)(bc3:List Qc)(bg4:Int){o:f15n4O}(h:f15n4 ba1 bb2 bc3 bg4=some o):T Try.prog Try.f15.ntmps 0 (cL (Qi 0 (cL (Qi 0 (cL (cL (Qi 1 (cL (cL (Qi 1 (cL (Qi 1 c15)))))))))))) (f15n4S ba1 bb2 bc3 bg4) (·=f15n4E ba1 bb2 bc3 bg4 o):=by
 unfold f15n4 at h;obtain ⟨x687,h688,h⟩:=Qd h;rcases Qh h with ⟨h689,h⟩|⟨h689,h⟩
 ·obtain rfl:=Qe h;exact rE Qg [(jT [7,8,9,10,11,12],[(2,.idx (Int.toNat bg4) (Qc.cells x687)),(13,.bool true)],[])] [] [] [] [0,1,2,7,84] (.norm,(f15n4E ba1 bb2 bc3 bg4 (.norm true)).2) (ap (Qf h688).1 (ap (Qk Qc.cells (Qf h688).2) (ap3 h689 (ap4 h689 an)))) rfl
 ·rcases Qh h with ⟨h690,h⟩|⟨h690,h⟩
  ·obtain rfl:=Qe h;exact rE Qg [(jF [7,8,9,10,11,12]++jT [15,16,17,58],[(2,.idx (Int.toNat bg4) (Qc.cells x687)),(9,.idx (Int.toNat bg4) (Qc.cells x687)),(13,.bool false),(59,.bool true)],[])] [] [] [] [0,1,2,7,84] (.norm,(f15n4E ba1 bb2 bc3 bg4 (.norm true)).2) (ap (Qf h688).1 (ap (Qk Qc.cells (Qf h688).2) (ap3 h689 (ap (Qf h688).1 (ap (Qk Qc.cells (Qf h688).2) (ap4 h689 (ap h690 (ap4 h690 an)))))))) rfl
  ·rcases Qh h with ⟨h691,h⟩|⟨h691,h⟩
   ·obtain ⟨x692,h693,h⟩:=Qd h;rcases Qh h with ⟨h694,h⟩|⟨h694,h⟩
    ·rcases Qh h with ⟨h695,h⟩|⟨h695,h⟩
     ·obtain rfl:=Qe h
      exact rE Qg [(jF [7,8,9,10,11,12,15,16,17,31,32,33,34,35,36,37,38,39,40,41,42,43,56,58]++jT [18,19,20,21,22,23,24,25,26,27,28,29,30,44,45,46,47,48,49,50,51,52,53,54,55,57],[(2,.idx (Int.toNat bg4) (Qc.cells x687)),(9,.idx (Int.toNat bg4) (Qc.cells x687)),(13,.bool false),(21,.idx (Int.toNat (wr64 (bg4-1))) (Qc.cells x692)),(26,.idx (Int.toNat bg4) (Qc.cells x687)),(34,.idx (Int.toNat (wr64 (bg4-1))) (Qc.cells x692)),(39,.idx (Int.toNat bg4) (Qc.cells x687)),(47,.idx (Int.toNat (wr64 (bg4-1))) (Qc.cells x692)),(52,.idx (Int.toNat bg4) (Qc.cells x687)),(56,.bool true),(57,.bool false),(58,.bool true),(59,.bool false)],[])] [] [] [] [0,1,2,7,84] (.norm,(f15n4E ba1 bb2 bc3 bg4 (.norm (!(slt x692.Call x687.Call)))).2) (ap (Qf h688).1 (ap (Qk Qc.cells (Qf h688).2) (ap3 h689 (ap (Qf h688).1 (ap (Qk Qc.cells (Qf h688).2) (ap4 h689 (ap3 h690 (ap4 h691 (ap (Qf h693).1 (ap (Qk Qc.cells (Qf h693).2) (ap h691 (ap4 h691 (ap (Qf h688).1 (ap (Qk Qc.cells (Qf h688).2) (ap4 h691 (ap4 (Qr h694) (ap (Qf h693).1 (ap (Qk Qc.cells (Qf h693).2) (ap (Qr h694) (ap4 (Qr h694) (ap (Qf h688).1 (ap (Qk Qc.cells (Qf h688).2) (ap4 (Qr h694) (ap4 h695 (ap (Qf h693).1 (ap (Qk Qc.cells (Qf h693).2) (ap h695 (ap4 h695 (ap (Qf h688).1 (ap (Qk Qc.cells (Qf h688).2) (ap3 h695 (ap (Qr h694) (ap h695 (ap h691 (ap (Qr h694) (ap h690 (ap h691 (ap h690 an)))))))))))))))))))))))))))))))))))))) rfl
     ·obtain rfl:=Qe h
      exact rE Qg [(jF [7,8,9,10,11,12,15,16,17,31,32,33,34,35,36,37,38,39,40,41,42,43,44,45,46,47,48,49,50,51,52,53,54,55,56,58]++jT [18,19,20,21,22,23,24,25,26,27,28,29,30,57],[(2,.idx (Int.toNat bg4) (Qc.cells x687)),(9,.idx (Int.toNat bg4) (Qc.cells x687)),(13,.bool false),(21,.idx (Int.toNat (wr64 (bg4-1))) (Qc.cells x692)),(26,.idx (Int.toNat bg4) (Qc.cells x687)),(34,.idx (Int.toNat (wr64 (bg4-1))) (Qc.cells x692)),(39,.idx (Int.toNat bg4) (Qc.cells x687)),(56,.bool false),(57,.bool false),(58,.bool true),(59,.bool false)],[])] [] [] [] [0,1,2,7,84] (.norm,(f15n4E ba1 bb2 bc3 bg4 (.norm false)).2) (ap (Qf h688).1 (ap (Qk Qc.cells (Qf h688).2) (ap3 h689 (ap (Qf h688).1 (ap (Qk Qc.cells (Qf h688).2) (ap4 h689 (ap3 h690 (ap4 h691 (ap (Qf h693).1 (ap (Qk Qc.cells (Qf h693).2) (ap h691 (ap4 h691 (ap (Qf h688).1 (ap (Qk Qc.cells (Qf h688).2) (ap4 h691 (ap4 (Qr h694) (ap (Qf h693).1 (ap (Qk Qc.cells (Qf h693).2) (ap (Qr h694) (ap4 (Qr h694) (ap (Qf h688).1 (ap (Qk Qc.cells (Qf h688).2) (ap4 (Qr h694) (ap4 h695 (ap4 h695 (ap4 h695 (ap (Qr h694) (ap h695 (ap h691 (ap (Qr h694) (ap h690 (ap h691 (ap h690 an))))))))))))))))))))))))))))))))) rfl
    ·obtain rfl:=Qe h
     exact rE Qg [(jF [7,8,9,10,11,12,15,16,17,58]++jT [18,19,20,21,22,23,24,25,26,27,28,29,30,31,32,33,34,35,36,37,38,39,40,41,42,43,56,57],[(2,.idx (Int.toNat bg4) (Qc.cells x687)),(9,.idx (Int.toNat bg4) (Qc.cells x687)),(13,.bool false),(21,.idx (Int.toNat (wr64 (bg4-1))) (Qc.cells x692)),(26,.idx (Int.toNat bg4) (Qc.cells x687)),(57,.bool true),(58,.bool true),(59,.bool false)],[])] [] [] [] [0,1,2,7,84] (.norm,(f15n4E ba1 bb2 bc3 bg4 (.norm true)).2) (ap (Qf h688).1 (ap (Qk Qc.cells (Qf h688).2) (ap3 h689 (ap (Qf h688).1 (ap (Qk Qc.cells (Qf h688).2) (ap4 h689 (ap3 h690 (ap4 h691 (ap (Qf h693).1 (ap (Qk Qc.cells (Qf h693).2) (ap h691 (ap4 h691 (ap (Qf h688).1 (ap (Qk Qc.cells (Qf h688).2) (ap4 h691 (ap2 (Qah h694) (ap4 (Qah h694) (ap4 (Qah h694) (ap4 (Qah h694) (ap h691 (ap (Qah h694) (ap h690 (ap h691 (ap h690 an)))))))))))))))))))))))) rfl
   ·obtain rfl:=Qe h;exact rE Qg [(jF [7,8,9,10,11,12,15,16,17,18,19,20,21,22,23,24,25,26,27,28,29,30,57,58],[(2,.idx (Int.toNat bg4) (Qc.cells x687)),(9,.idx (Int.toNat bg4) (Qc.cells x687)),(13,.bool false),(58,.bool false),(59,.bool false)],[])] [] [] [] [0,1,2,7,84] (.norm,(f15n4E ba1 bb2 bc3 bg4 (.norm false)).2) (ap (Qf h688).1 (ap (Qk Qc.cells (Qf h688).2) (ap3 h689 (ap (Qf h688).1 (ap (Qk Qc.cells (Qf h688).2) (ap4 h689 (ap3 h690 (ap2 h691 (ap4 h691 (ap4 h691 (ap4 h691 (ap h690 (ap h691 (ap h690 an)))))))))))))) rfl
inductive f15n3O where
 | norm
 | ret
def f15n3E(ba1:List Qa)(bb2:List Qb)(bc3:List Qc)(bg4:Int):f15n3O→Ex×Tr×Hp
 | .norm=>(.norm,mkS [(0,(jL 4 Qa.cells ba1)),(1,(jL 2 Qb.cells bb2)),(2,(jL 3 Qc.cells bc3)),(7,(jI bg4))],[])
 | .ret=>(.ret,mkS [(6,(jB false))],[])
def f15n3S(ba1:List Qa)(bb2:List Qb)(bc3:List Qc)(bg4:Int):Tr×Hp:=(mkS [(0,(jL 4 Qa.cells ba1)),(1,(jL 2 Qb.cells bb2)),(2,(jL 3 Qc.cells bc3)),(7,(jI bg4))],[])
noncomputable def f15n3(ba1:List Qa)(bb2:List Qb)(bc3:List Qc)(bg4:Int):Option f15n3O :=
 (f15n4 ba1 bb2 bc3 bg4).bind fun o697=>match o697 with
 | .norm v699=>bif v699 then
   some .ret
  else
   some .norm
theorem f15n3_ok(ba1:List Qa)(bb2:List Qb)(bc3:List Qc)(bg4:Int){o:f15n3O}(h:f15n3 ba1 bb2 bc3 bg4=some o):T Try.prog Try.f15.ntmps 0 (cL (Qi 0 (cL (cL (Qi 1 (cL (cL (Qi 1 (cL (Qi 1 c15)))))))))) (f15n3S ba1 bb2 bc3 bg4) (·=f15n3E ba1 bb2 bc3 bg4 o):=by
 unfold f15n3 at h;refine rN Qg 0 [] [] [] [] [0,1,2,7] (f15n4S ba1 bb2 bc3 bg4) an ?_;obtain ⟨o697,h698,h⟩:=Qd h;cases o697 with
 | norm v699 =>
  refine T.oneN (by kernel_rfl) (f15n4_ok ba1 bb2 bc3 bg4 h698) (st2:=(f15n4E ba1 bb2 bc3 bg4 (.norm v699)).2) rfl ?_;rcases Qh h with ⟨h701,h⟩|⟨h701,h⟩
  ·obtain rfl:=Qe h;exact rE Qg [j3] [some true] [] [] [6] (.ret,(f15n3E ba1 bb2 bc3 bg4 .ret).2) (ap h701 an) rfl
  ·obtain rfl:=Qe h;exact rE Qg [] [some false] [] [] [0,1,2,7] (.norm,(f15n3E ba1 bb2 bc3 bg4 .norm).2) (ap h701 an) rfl
inductive f15n7O where
 | exit4 (v928:Bool)
def f15n7E(ba1:List Qa)(bb2:List Qb)(bc3:List Qc)(bg4 bg6:Int):f15n7O→Ex×Tr×Hp
 | .exit4 v928=>((.exit 4),mkS [(0,(jL 4 Qa.cells ba1)),(1,(jL 2 Qb.cells bb2)),(2,(jL 3 Qc.cells bc3)),(7,(jI bg4)),(8,(jB v928)),(9,(jB false)),(10,(jI bg6))],[])
def f15n7S(ba1:List Qa)(bb2:List Qb)(bc3:List Qc)(bg4 bg6:Int)(v905:Bool)(v906:Int):Tr×Hp:=(mkS [(0,(jL 4 Qa.cells ba1)),(1,(jL 2 Qb.cells bb2)),(2,(jL 3 Qc.cells bc3)),(7,(jI bg4)),(8,(jB v905)),(9,(jB false)),(10,(jI bg6)),(11,(jI v906))],[])
noncomputable def f15n7:Nat→List Qa→List Qb→List Qc→Int→Int→Bool→Int→Option f15n7O
 | 0,_,_,_,_,_,_,_=>none
 | f+1,ba1,bb2,bc3,bg4,bg6,v905,v906 =>
  (at? ba1 bg6).bind fun x913 =>
  bif decide (v906<(x913.For.length:Int)) then
   (at? bc3 bg4).bind fun x916 =>
   bif (seq x913.Name x916.Asset) then
    bif v905 then
     (f15n7 f ba1 bb2 bc3 bg4 bg6 true (wr64 (v906+1)))
    else
     (at? x913.For v906).bind fun x926 =>
     (f15n7 f ba1 bb2 bc3 bg4 bg6 (seq x926 x916.Call) (wr64 (v906+1)))
   else
    some (.exit4 v905)
  else
   some (.exit4 v905)
theorem f15n7_ok:∀(f:Nat)(ba1:List Qa)(bb2:List Qb)(bc3:List Qc)(bg4 bg6:Int)(v905:Bool)(v906:Int){o:f15n7O},f15n7 f ba1 bb2 bc3 bg4 bg6 v905 v906=some o→TL Try.prog Try.f15.ntmps 0 f (cL (cL (Qi 1 (cL (cL (Qi 1 (cL (cL (Qi 1 (cL (Qi 1 (Qi 1 (Qi 0 (cL (cL (Qi 1 (cL (cL (Qi 1 (cL (Qi 1 c15))))))))))))))))))))) (f15n7S ba1 bb2 bc3 bg4 bg6 v905 v906) (·=f15n7E ba1 bb2 bc3 bg4 bg6 o)
 | 0,_,_,_,_,_,_,_,o,h=>by rw [f15n7] at h; cases h
 | f+1,ba1,bb2,bc3,bg4,bg6,v905,v906,o,h=>by
  rw [f15n7] at h;refine TL.body (K:=fun s=>∃v905:Bool,∃v906:Int,s=(f15n7S ba1 bb2 bc3 bg4 bg6 v905 v906)∧f15n7 f ba1 bb2 bc3 bg4 bg6 v905 v906=some o) ?_ (by rintro _ ⟨v905,v906,rfl,hk⟩; exact f15n7_ok f _ _ _ _ _ _ _ hk);obtain ⟨x913,h914,h⟩:=Qd h;rcases Qh h with ⟨h915,h⟩|⟨h915,h⟩
  ·obtain ⟨x916,h917,h⟩:=Qd h;rcases Qh h with ⟨h918,h⟩|⟨h918,h⟩
   ·refine rN Qg 1 [(jT [9,10,11,12,13,14,15,16,17,18,19],[(3,.idx (Int.toNat bg6) (Qa.cells x913)),(11,.idx (Int.toNat bg6) (Qa.cells x913)),(16,.idx (Int.toNat bg4) (Qc.cells x916)),(20,.bool true)],[(6,.val (jI (x913.For.length:Int)))])] [some true] [] [] [0,1,2,7,8,9,10,11] (mkS [(0,(jL 4 Qa.cells ba1)),(1,(jL 2 Qb.cells bb2)),(2,(jL 3 Qc.cells bc3)),(7,(jI bg4)),(8,(jB v905)),(9,(jB false)),(10,(jI bg6)),(11,(jI v906))],[]) (ap (Qf h914).1 (ap (Qk Qa.cells (Qf h914).2) (ap (Qq (xs:=x913.For) (c:=cStr)) (ap3 h915 (ap (Qf h914).1 (ap (Qk Qa.cells (Qf h914).2) (ap h915 (ap4 h915 (ap (Qf h917).1 (ap (Qk Qc.cells (Qf h917).2) (ap4 h915 (ap h918 an)))))))))))) ?_;rcases Qh h with ⟨h925,h⟩|⟨h925,h⟩
    ·exact rE Qg [(jT [2,3,4,5,6,7,8,9,10,11,12,13,14,15],[(16,.bool true)],[]),j3] [] [] [] [0,1,2,7,8,9,10,11] (.norm,(f15n7S ba1 bb2 bc3 bg4 bg6 true (wr64 (v906+1)))) (ap3 h925 (ap4 h925 (ap4 h925 (ap4 h925 an)))) (Qm.norm ⟨true,(wr64 (v906+1)),rfl,h⟩)
    ·obtain ⟨x926,h927,h⟩:=Qd h;exact rE Qg [(jF [2,3,4,5,6,7,8,9,10,11,12,13,14,15],[(4,.idx (Int.toNat bg6) (Qa.cells x913)),(8,.idx (Int.toNat v906) (cStr x926)),(12,.idx (Int.toNat bg4) (Qc.cells x916)),(16,.bool false)],[]),j3] [] [] [] [0,1,2,7,8,9,10,11] (.norm,(f15n7S ba1 bb2 bc3 bg4 bg6 (seq x926 x916.Call) (wr64 (v906+1)))) (ap3 h925 (ap (Qf h914).1 (ap (Qk Qa.cells (Qf h914).2) (ap4 h925 (ap (Qf h927).1 (ap (Qk cStr (Qf h927).2) (ap4 h925 (ap (Qf h917).1 (ap (Qk Qc.cells (Qf h917).2) (ap4 h925 an)))))))))) (Qm.norm ⟨(seq x926 x916.Call),(wr64 (v906+1)),rfl,h⟩)
   ·obtain rfl:=Qe h;exact rK Qg 1 [(jT [9,10,11,12,13,14,15,16,17,18,19],[(3,.idx (Int.toNat bg6) (Qa.cells x913)),(11,.idx (Int.toNat bg6) (Qa.cells x913)),(16,.idx (Int.toNat bg4) (Qc.cells x916)),(20,.bool true)],[(6,.val (jI (x913.For.length:Int)))])] [some false] [] [] [0,1,2,7,8,9,10] (.exit 4) ((f15n7E ba1 bb2 bc3 bg4 bg6 (.exit4 v905)).2) (ap (Qf h914).1 (ap (Qk Qa.cells (Qf h914).2) (ap (Qq (xs:=x913.For) (c:=cStr)) (ap3 h915 (ap (Qf h914).1 (ap (Qk Qa.cells (Qf h914).2) (ap h915 (ap4 h915 (ap (Qf h917).1 (ap (Qk Qc.cells (Qf h917).2) (ap4 h915 (ap h918 an)))))))))))) (Qm.out rfl rfl)
  ·obtain rfl:=Qe h;exact rK Qg 1 [(jF [9,10,11,12,13,14,15,16,17,18,19],[(3,.idx (Int.toNat bg6) (Qa.cells x913)),(20,.bool false)],[(6,.val (jI (x913.For.length:Int)))])] [none] [] [] [0,1,2,7,8,9,10] (.exit 4) ((f15n7E ba1 bb2 bc3 bg4 bg6 (.exit4 v905)).2) (ap (Qf h914).1 (ap (Qk Qa.cells (Qf h914).2) (ap (Qq (xs:=x913.For) (c:=cStr)) (ap4 h915 (ap4 h915 (ap4 h915 an)))))) (Qm.out rfl rfl)
inductive f15n6O where
 | norm (v932:Bool)
def f15n6E(ba1:List Qa)(bb2:List Qb)(bc3:List Qc)(bg4:Int)(bl5:Bool)(bg6:Int):f15n6O→Ex×Tr×Hp
 | .norm v932=>(.norm,mkS [(0,(jL 4 Qa.cells ba1)),(1,(jL 2 Qb.cells bb2)),(2,(jL 3 Qc.cells bc3)),(7,(jI bg4)),(8,(jB v932)),(9,(jB false)),(10,(jI bg6))],[])
def f15n6S(ba1:List Qa)(bb2:List Qb)(bc3:List Qc)(bg4:Int)(bl5:Bool)(bg6:Int):Tr×Hp:=(mkS [(0,(jL 4 Qa.cells ba1)),(1,(jL 2 Qb.cells bb2)),(2,(jL 3 Qc.cells bc3)),(7,(jI bg4)),(8,(jB bl5)),(9,(jB false)),(10,(jI bg6))],[])
noncomputable def f15n6(ba1:List Qa)(bb2:List Qb)(bc3:List Qc)(bg4:Int)(bl5:Bool)(bg6:Int):Option f15n6O :=
 (f15n7 FUEL ba1 bb2 bc3 bg4 bg6 bl5 0).bind fun o929=>match o929 with
 | .exit4 v931=>some (.norm v931)
theorem f15n6_ok(ba1:List Qa)(bb2:List Qb)(bc3:List Qc)(bg4:Int)(bl5:Bool)(bg6:Int){o:f15n6O}(h:f15n6 ba1 bb2 bc3 bg4 bl5 bg6=some o):T Try.prog Try.f15.ntmps 0 (cL (Qi 1 (cL (cL (Qi 1 (cL (Qi 1 (Qi 1 (Qi 0 (cL (cL (Qi 1 (cL (cL (Qi 1 (cL (Qi 1 c15))))))))))))))))) (f15n6S ba1 bb2 bc3 bg4 bl5 bg6) (·=f15n6E ba1 bb2 bc3 bg4 bl5 bg6 o):=by
 unfold f15n6 at h;refine T.block' (i:=3) (by kernel_rfl) ?_;refine rN Qg 1 [j3] [] [] [] [0,1,2,7,8,9,10,11] (f15n7S ba1 bb2 bc3 bg4 bg6 bl5 0) an ?_;obtain ⟨o929,h930,h⟩:=Qd h;cases o929 with
 | exit4 v931 =>
  obtain rfl:=Qe h;exact T.last' (T.bl (i:=4) (by kernel_rfl) (by kernel_rfl) (f15n7_ok FUEL ba1 bb2 bc3 bg4 bg6 bl5 0 h930)) (tds:=[]) (m:=[]) (keep:=[0,1,2,7,8,9,10]) (st2:=(f15n6E ba1 bb2 bc3 bg4 bl5 bg6 (.norm v931)).2) (by kernel_rfl) an rfl
inductive f15n8O where
 | exit2 (v936:Bool)
def f15n8E(ba1:List Qa)(bb2:List Qb)(bc3:List Qc)(bg4:Int):f15n8O→Ex×Tr×Hp
 | .exit2 v936=>((.exit 2),mkS [(0,(jL 4 Qa.cells ba1)),(1,(jL 2 Qb.cells bb2)),(2,(jL 3 Qc.cells bc3)),(7,(jI bg4)),(8,(jB v936)),(9,(jB false))],[])
def f15n8S(ba1:List Qa)(bb2:List Qb)(bc3:List Qc)(bg4:Int)(v857:Bool)(v858:Int):Tr×Hp:=(mkS [(0,(jL 4 Qa.cells ba1)),(1,(jL 2 Qb.cells bb2)),(2,(jL 3 Qc.cells bc3)),(7,(jI bg4)),(8,(jB v857)),(9,(jB false)),(10,(jI v858))],[])
noncomputable def f15n8:Nat→List Qa→List Qb→List Qc→Int→Bool→Int→Option f15n8O
 | 0,_,_,_,_,_,_=>none
 | f+1,ba1,bb2,bc3,bg4,v857,v858 =>
  bif decide (v858<(ba1.length:Int)) then
   (f15n6 ba1 bb2 bc3 bg4 v857 v858).bind fun o933=>match o933 with
   | .norm v935=>(f15n8 f ba1 bb2 bc3 bg4 v935 (wr64 (v858+1)))
  else
   some (.exit2 v857)
theorem f15n8_ok:∀(f:Nat)(ba1:List Qa)(bb2:List Qb)(bc3:List Qc)(bg4:Int)(v857:Bool)(v858:Int){o:f15n8O},f15n8 f ba1 bb2 bc3 bg4 v857 v858=some o→TL Try.prog Try.f15.ntmps 0 f (cL (cL (Qi 1 (cL (Qi 1 (Qi 1 (Qi 0 (cL (cL (Qi 1 (cL (cL (Qi 1 (cL (Qi 1 c15))))))))))))))) (f15n8S ba1 bb2 bc3 bg4 v857 v858) (·=f15n8E ba1 bb2 bc3 bg4 o)
 | 0,_,_,_,_,_,_,o,h=>by rw [f15n8] at h; cases h
 | f+1,ba1,bb2,bc3,bg4,v857,v858,o,h=>by
  rw [f15n8] at h;refine TL.body (K:=fun s=>∃v857:Bool,∃v858:Int,s=(f15n8S ba1 bb2 bc3 bg4 v857 v858)∧f15n8 f ba1 bb2 bc3 bg4 v857 v858=some o) ?_ (by rintro _ ⟨v857,v858,rfl,hk⟩; exact f15n8_ok f _ _ _ _ _ _ hk);rcases Qh h with ⟨h860,h⟩|⟨h860,h⟩
  ·refine rN Qg 1 [([],[],[(2,.val (jI (ba1.length:Int)))])] [some true] [] [] [0,1,2,7,8,9,10] (f15n6S ba1 bb2 bc3 bg4 v857 v858) (ap (Qq (xs:=ba1) (c:=Qa.cells)) (ap h860 an)) ?_;obtain ⟨o933,h934,h⟩:=Qd h;cases o933 with
   | norm v935 =>
    refine T.oneN (by kernel_rfl) (f15n6_ok ba1 bb2 bc3 bg4 v857 v858 h934) (st2:=(f15n6E ba1 bb2 bc3 bg4 v857 v858 (.norm v935)).2) rfl ?_;exact rE Qg [j3] [] [] [] [0,1,2,7,8,9,10] (.norm,(f15n8S ba1 bb2 bc3 bg4 v935 (wr64 (v858+1)))) an (Qm.norm ⟨v935,(wr64 (v858+1)),rfl,h⟩)
  ·obtain rfl:=Qe h;exact rK Qg 1 [([],[],[(2,.val (jI (ba1.length:Int)))])] [some false] [] [] [0,1,2,7,8,9] (.exit 2) ((f15n8E ba1 bb2 bc3 bg4 (.exit2 v857)).2) (ap (Qq (xs:=ba1) (c:=Qa.cells)) (ap h860 an)) (Qm.out rfl rfl)
inductive f15n5O where
 | norm (v940:Bool)
def f15n5E(ba1:List Qa)(bb2:List Qb)(bc3:List Qc)(bg4:Int):f15n5O→Ex×Tr×Hp
 | .norm v940=>(.norm,mkS [(0,(jL 4 Qa.cells ba1)),(1,(jL 2 Qb.cells bb2)),(2,(jL 3 Qc.cells bc3)),(7,(jI bg4)),(8,(jB v940)),(9,(jB false))],[])
def f15n5S(ba1:List Qa)(bb2:List Qb)(bc3:List Qc)(bg4:Int):Tr×Hp:=(mkS [(0,(jL 4 Qa.cells ba1)),(1,(jL 2 Qb.cells bb2)),(2,(jL 3 Qc.cells bc3)),(7,(jI bg4)),(8,(jB false)),(9,(jB false))],[])
noncomputable def f15n5(ba1:List Qa)(bb2:List Qb)(bc3:List Qc)(bg4:Int):Option f15n5O :=
 (f15n8 FUEL ba1 bb2 bc3 bg4 false 0).bind fun o937=>match o937 with
 | .exit2 v939=>some (.norm v939)
theorem f15n5_ok(ba1:List Qa)(bb2:List Qb)(bc3:List Qc)(bg4:Int){o:f15n5O}(h:f15n5 ba1 bb2 bc3 bg4=some o):T Try.prog Try.f15.ntmps 0 (cL (Qi 1 (Qi 1 (Qi 0 (cL (cL (Qi 1 (cL (cL (Qi 1 (cL (Qi 1 c15)))))))))))) (f15n5S ba1 bb2 bc3 bg4) (·=f15n5E ba1 bb2 bc3 bg4 o):=by
 unfold f15n5 at h;refine rN Qg 1 [j3] [] [] [] [0,1,2,7,8,9,10] (f15n8S ba1 bb2 bc3 bg4 false 0) an ?_;obtain ⟨o937,h938,h⟩:=Qd h;cases o937 with
 | exit2 v939 =>
  obtain rfl:=Qe h;exact T.last' (T.bl (i:=2) (by kernel_rfl) (by kernel_rfl) (f15n8_ok FUEL ba1 bb2 bc3 bg4 false 0 h938)) (tds:=[]) (m:=[]) (keep:=[0,1,2,7,8,9]) (st2:=(f15n5E ba1 bb2 bc3 bg4 (.norm v939)).2) (by kernel_rfl) an rfl
inductive f15n10O where
 | exit6 (v982:Bool)
def f15n10E(ba1:List Qa)(bb2:List Qb)(bc3:List Qc)(bg4:Int)(bl5:Bool):f15n10O→Ex×Tr×Hp
 | .exit6 v982=>((.exit 6),mkS [(0,(jL 4 Qa.cells ba1)),(1,(jL 2 Qb.cells bb2)),(2,(jL 3 Qc.cells bc3)),(7,(jI bg4)),(8,(jB bl5)),(9,(jB v982))],[])
def f15n10S(ba1:List Qa)(bb2:List Qb)(bc3:List Qc)(bg4:Int)(bl5 v968:Bool)(v969:Int):Tr×Hp:=(mkS [(0,(jL 4 Qa.cells ba1)),(1,(jL 2 Qb.cells bb2)),(2,(jL 3 Qc.cells bc3)),(7,(jI bg4)),(8,(jB bl5)),(9,(jB v968)),(12,(jI v969))],[])
noncomputable def f15n10:Nat→List Qa→List Qb→List Qc→Int→Bool→Bool→Int→Option f15n10O
 | 0,_,_,_,_,_,_,_=>none
 | f+1,ba1,bb2,bc3,bg4,bl5,v968,v969 =>
  bif decide (v969<(bb2.length:Int)) then
   bif v968 then
    (f15n10 f ba1 bb2 bc3 bg4 bl5 true (wr64 (v969+1)))
   else
    (at? bb2 v969).bind fun x978 =>
    (at? bc3 bg4).bind fun x980 =>
    (f15n10 f ba1 bb2 bc3 bg4 bl5 (seq x978.Name x980.Call) (wr64 (v969+1)))
  else
   some (.exit6 v968)
theorem f15n10_ok:∀(f:Nat)(ba1:List Qa)(bb2:List Qb)(bc3:List Qc)(bg4:Int)(bl5 v968:Bool)(v969:Int){o:f15n10O},f15n10 f ba1 bb2 bc3 bg4 bl5 v968 v969=some o→TL Try.prog Try.f15.ntmps 0 f (cL (cL (Qi 1 (cL (Qi 0 (Qi 1 (Qi 1 (Qi 1 (Qi 0 (cL (cL (Qi 1 (cL (cL (Qi 1 (cL (Qi 1 c15))))))))))))))))) (f15n10S ba1 bb2 bc3 bg4 bl5 v968 v969) (·=f15n10E ba1 bb2 bc3 bg4 bl5 o)
 | 0,_,_,_,_,_,_,_,o,h=>by rw [f15n10] at h; cases h
 | f+1,ba1,bb2,bc3,bg4,bl5,v968,v969,o,h=>by
  rw [f15n10] at h;refine TL.body (K:=fun s=>∃v968:Bool,∃v969:Int,s=(f15n10S ba1 bb2 bc3 bg4 bl5 v968 v969)∧f15n10 f ba1 bb2 bc3 bg4 bl5 v968 v969=some o) ?_ (by rintro _ ⟨v968,v969,rfl,hk⟩; exact f15n10_ok f _ _ _ _ _ _ _ hk);rcases Qh h with ⟨h971,h⟩|⟨h971,h⟩
  ·rcases Qh h with ⟨h977,h⟩|⟨h977,h⟩
   ·exact rE Qg [([],[],[(2,.val (jI (bb2.length:Int)))]),(jT [2,3,4,5,6,7,8,9,10,11,12],[(13,.bool true)],[]),j3] [some true] [] [] [0,1,2,7,8,9,12] (.norm,(f15n10S ba1 bb2 bc3 bg4 bl5 true (wr64 (v969+1)))) (ap (Qq (xs:=bb2) (c:=Qb.cells)) (ap h971 (ap4 h977 (ap4 h977 (ap4 h977 an))))) (Qm.norm ⟨true,(wr64 (v969+1)),rfl,h⟩)
   ·obtain ⟨x978,h979,h⟩:=Qd h;obtain ⟨x980,h981,h⟩:=Qd h;exact rE Qg [([],[],[(2,.val (jI (bb2.length:Int)))]),(jF [2,3,4,5,6,7,8,9,10,11,12],[(4,.idx (Int.toNat v969) (Qb.cells x978)),(9,.idx (Int.toNat bg4) (Qc.cells x980)),(13,.bool false)],[]),j3] [some true] [] [] [0,1,2,7,8,9,12] (.norm,(f15n10S ba1 bb2 bc3 bg4 bl5 (seq x978.Name x980.Call) (wr64 (v969+1)))) (ap (Qq (xs:=bb2) (c:=Qb.cells)) (ap h971 (ap3 h977 (ap (Qf h979).1 (ap (Qk Qb.cells (Qf h979).2) (ap h977 (ap4 h977 (ap (Qf h981).1 (ap (Qk Qc.cells (Qf h981).2) (ap4 h977 an)))))))))) (Qm.norm ⟨(seq x978.Name x980.Call),(wr64 (v969+1)),rfl,h⟩)
  ·obtain rfl:=Qe h;exact rK Qg 1 [([],[],[(2,.val (jI (bb2.length:Int)))])] [some false] [] [] [0,1,2,7,8,9] (.exit 6) ((f15n10E ba1 bb2 bc3 bg4 bl5 (.exit6 v968)).2) (ap (Qq (xs:=bb2) (c:=Qb.cells)) (ap h971 an)) (Qm.out rfl rfl)
noncomputable def f15n10L(ba1:List Qa)(bb2:List Qb)(bc3:List Qc)(bg4:Int)(bl5:Bool):List Qb→Bool→Int→Option f15n10O
 | [],v968,v969 =>
  some (.exit6 v968)
 | x0::rest,v968,v969 =>
  bif v968 then
   (f15n10L ba1 bb2 bc3 bg4 bl5 rest true (v969+1))
  else
   (at? bc3 bg4).bind fun x980 =>
   (f15n10L ba1 bb2 bc3 bg4 bl5 rest (seq x0.Name x980.Call) (v969+1))
theorem f15n10L_eq(ba1:List Qa)(bb2:List Qb)(bc3:List Qc)(bg4:Int)(bl5:Bool):∀(rest:List Qb)(f k:Nat)(v968:Bool),bb2.drop k=rest→bb2.length≤maxLen→rest.length<f→f15n10 f ba1 bb2 bc3 bg4 bl5 v968 (k:Int)=f15n10L ba1 bb2 bc3 bg4 bl5 rest v968 (k:Int)
 | _,0,_,_,_,_,hf=>absurd hf (Nat.not_lt_zero _)
 | [],f+1,k,v968,hd,hm,hf=>by
  have hk:¬((k:Int)<(bb2.length:Int)):=by have:=Qan hd; omega
  rw [f15n10,f15n10L];simp only [decide_eq_false hk,cond_false]
 | x0::rest,f+1,k,v968,hd,hm,hf=>by
  obtain ⟨hx,hlt,hd'⟩:=Qat hd;have hk:(k:Int)<(bb2.length:Int):=by omega
  have hw:wr64 ((k:Int)+1)=(k:Int)+1:=wr64_of (by omega) (by unfold maxLen at hm; omega);have ih:∀(v968:Bool),f15n10 f ba1 bb2 bc3 bg4 bl5 v968 ((k:Int)+1)=f15n10L ba1 bb2 bc3 bg4 bl5 rest v968 ((k:Int)+1):=fun v968=>f15n10L_eq ba1 bb2 bc3 bg4 bl5 rest f (k+1) v968 hd' hm (by simpa using hf);rw [f15n10,f15n10L];simp only [decide_eq_true hk,cond_true,at_nat,hx,Option.bind_some,hw,ih]
theorem f15n10_run(ba1:List Qa)(bb2:List Qb)(bc3:List Qc)(bg4:Int)(bl5 v968:Bool)(hm:bb2.length≤maxLen):f15n10 FUEL ba1 bb2 bc3 bg4 bl5 v968 0=f15n10L ba1 bb2 bc3 bg4 bl5 bb2 v968 0:=f15n10L_eq ba1 bb2 bc3 bg4 bl5 bb2 FUEL 0 v968 List.drop_zero hm (Qbr hm)
inductive f15n9O where
 | norm (v986:Bool)
def f15n9E(ba1:List Qa)(bb2:List Qb)(bc3:List Qc)(bg4:Int)(bl5:Bool):f15n9O→Ex×Tr×Hp
 | .norm v986=>(.norm,mkS [(0,(jL 4 Qa.cells ba1)),(1,(jL 2 Qb.cells bb2)),(2,(jL 3 Qc.cells bc3)),(7,(jI bg4)),(8,(jB bl5)),(9,(jB v986))],[])
def f15n9S(ba1:List Qa)(bb2:List Qb)(bc3:List Qc)(bg4:Int)(bl5:Bool):Tr×Hp:=(mkS [(0,(jL 4 Qa.cells ba1)),(1,(jL 2 Qb.cells bb2)),(2,(jL 3 Qc.cells bc3)),(7,(jI bg4)),(8,(jB bl5)),(9,(jB false))],[])
noncomputable def f15n9(ba1:List Qa)(bb2:List Qb)(bc3:List Qc)(bg4:Int)(bl5:Bool):Option f15n9O :=
 (f15n10 FUEL ba1 bb2 bc3 bg4 bl5 false 0).bind fun o983=>match o983 with
 | .exit6 v985=>some (.norm v985)
theorem f15n9_ok(ba1:List Qa)(bb2:List Qb)(bc3:List Qc)(bg4:Int)(bl5:Bool){o:f15n9O}(h:f15n9 ba1 bb2 bc3 bg4 bl5=some o):T Try.prog Try.f15.ntmps 0 (cL (Qi 0 (Qi 1 (Qi 1 (Qi 1 (Qi 0 (cL (cL (Qi 1 (cL (cL (Qi 1 (cL (Qi 1 c15)))))))))))))) (f15n9S ba1 bb2 bc3 bg4 bl5) (·=f15n9E ba1 bb2 bc3 bg4 bl5 o):=by
 unfold f15n9 at h;refine rN Qg 1 [j3] [] [] [] [0,1,2,7,8,9,12] (f15n10S ba1 bb2 bc3 bg4 bl5 false 0) an ?_;obtain ⟨o983,h984,h⟩:=Qd h;cases o983 with
 | exit6 v985 =>
  obtain rfl:=Qe h;exact T.last' (T.bl (i:=6) (by kernel_rfl) (by kernel_rfl) (f15n10_ok FUEL ba1 bb2 bc3 bg4 bl5 false 0 h984)) (tds:=[]) (m:=[]) (keep:=[0,1,2,7,8,9]) (st2:=(f15n9E ba1 bb2 bc3 bg4 bl5 (.norm v985)).2) (by kernel_rfl) an rfl
inductive f15n11O where
 | norm (v993:Bool)
def f15n11E(ba1:List Qa)(bb2:List Qb)(bc3:List Qc)(bg4:Int)(bl5 bl6:Bool):f15n11O→Ex×Tr×Hp
 | .norm v993=>(.norm,mkS [(0,(jL 4 Qa.cells ba1)),(1,(jL 2 Qb.cells bb2)),(2,(jL 3 Qc.cells bc3)),(7,(jI bg4)),(156,(jB v993))],[])
def f15n11S(ba1:List Qa)(bb2:List Qb)(bc3:List Qc)(bg4:Int)(bl5 bl6:Bool):Tr×Hp:=(mkS [(0,(jL 4 Qa.cells ba1)),(1,(jL 2 Qb.cells bb2)),(2,(jL 3 Qc.cells bc3)),(7,(jI bg4)),(8,(jB bl5)),(9,(jB bl6))],[])
noncomputable def f15n11(ba1:List Qa)(bb2:List Qb)(bc3:List Qc)(bg4:Int)(bl5 bl6:Bool):Option f15n11O :=
 bif bl5 then
  some (.norm (!bl6))
 else
  some (.norm true)
theorem f15n11_ok(ba1:List Qa)(bb2:List Qb)(bc3:List Qc)(bg4:Int)(bl5 bl6:Bool){o:f15n11O}(h:f15n11 ba1 bb2 bc3 bg4 bl5 bl6=some o):T Try.prog Try.f15.ntmps 0 (cL (Qi 0 (Qi 1 (Qi 0 (Qi 1 (Qi 1 (Qi 1 (Qi 0 (cL (cL (Qi 1 (cL (cL (Qi 1 (cL (Qi 1 c15)))))))))))))))) (f15n11S ba1 bb2 bc3 bg4 bl5 bl6) (·=f15n11E ba1 bb2 bc3 bg4 bl5 bl6 o):=by
 unfold f15n11 at h;rcases Qh h with ⟨h992,h⟩|⟨h992,h⟩
 ·obtain rfl:=Qe h;exact rE Qg [([(3,false),(4,false)],[(5,.bool false)],[])] [] [] [] [0,1,2,7,156] (.norm,(f15n11E ba1 bb2 bc3 bg4 bl5 bl6 (.norm (!bl6))).2) (ap3 (Qr h992) an) rfl
 ·obtain rfl:=Qe h;exact rE Qg [([(3,true),(4,true)],[(5,.bool true)],[])] [] [] [] [0,1,2,7,156] (.norm,(f15n11E ba1 bb2 bc3 bg4 bl5 bl6 (.norm true)).2) (ap3 (Qah h992) an) rfl
inductive f15n2O where
 | norm
 | ret
def f15n2E(ba1:List Qa)(bb2:List Qb)(bc3:List Qc)(bg4:Int):f15n2O→Ex×Tr×Hp
 | .norm=>(.norm,mkS [(0,(jL 4 Qa.cells ba1)),(1,(jL 2 Qb.cells bb2)),(2,(jL 3 Qc.cells bc3)),(7,(jI bg4))],[])
 | .ret=>(.ret,mkS [(6,(jB false))],[])
def f15n2S(ba1:List Qa)(bb2:List Qb)(bc3:List Qc)(bg4:Int):Tr×Hp:=(mkS [(0,(jL 4 Qa.cells ba1)),(1,(jL 2 Qb.cells bb2)),(2,(jL 3 Qc.cells bc3)),(7,(jI bg4))],[])
noncomputable def f15n2(ba1:List Qa)(bb2:List Qb)(bc3:List Qc)(bg4:Int):Option f15n2O :=
 (f15n3 ba1 bb2 bc3 bg4).bind fun o702=>match o702 with
 | .norm=>(f15n5 ba1 bb2 bc3 bg4).bind fun o941=>match o941 with
  | .norm v943=>(f15n9 ba1 bb2 bc3 bg4 v943).bind fun o987=>match o987 with
   | .norm v989=>(f15n11 ba1 bb2 bc3 bg4 v943 v989).bind fun o994=>match o994 with
    | .norm v996=>bif v996 then
      some .ret
     else
      some .norm
 | .ret=>some .ret
theorem f15n2_ok(ba1:List Qa)(bb2:List Qb)(bc3:List Qc)(bg4:Int){o:f15n2O}(h:f15n2 ba1 bb2 bc3 bg4=some o):T Try.prog Try.f15.ntmps 0 (cL (Qi 1 (cL (cL (Qi 1 (cL (Qi 1 c15))))))) (f15n2S ba1 bb2 bc3 bg4) (·=f15n2E ba1 bb2 bc3 bg4 o):=by
 unfold f15n2 at h;refine T.block' (i:=1) (by kernel_rfl) ?_;refine rN Qg 0 [] [] [] [] [0,1,2,7] (f15n3S ba1 bb2 bc3 bg4) an ?_;obtain ⟨o702,h703,h⟩:=Qd h;cases o702 with
 | norm =>
  refine T.oneN (by kernel_rfl) (f15n3_ok ba1 bb2 bc3 bg4 h703) (st2:=(f15n3E ba1 bb2 bc3 bg4 .norm).2) rfl ?_;refine rN Qg 1 [j3] [] [] [] [0,1,2,7,8,9] (f15n5S ba1 bb2 bc3 bg4) an ?_;obtain ⟨o941,h942,h⟩:=Qd h;cases o941 with
  | norm v943 =>
   refine T.oneN (by kernel_rfl) (f15n5_ok ba1 bb2 bc3 bg4 h942) (st2:=(f15n5E ba1 bb2 bc3 bg4 (.norm v943)).2) rfl ?_;refine rN Qg 0 [] [] [] [] [0,1,2,7,8,9] (f15n9S ba1 bb2 bc3 bg4 v943) an ?_;obtain ⟨o987,h988,h⟩:=Qd h;cases o987 with
   | norm v989 =>
    refine T.oneN (by kernel_rfl) (f15n9_ok ba1 bb2 bc3 bg4 v943 h988) (st2:=(f15n9E ba1 bb2 bc3 bg4 v943 (.norm v989)).2) rfl ?_;refine rN Qg 0 [] [] [] [] [0,1,2,7,8,9] (f15n11S ba1 bb2 bc3 bg4 v943 v989) an ?_;obtain ⟨o994,h995,h⟩:=Qd h;cases o994 with
    | norm v996 =>
     refine T.oneN (by kernel_rfl) (f15n11_ok ba1 bb2 bc3 bg4 v943 v989 h995) (st2:=(f15n11E ba1 bb2 bc3 bg4 v943 v989 (.norm v996)).2) rfl ?_;rcases Qh h with ⟨h998,h⟩|⟨h998,h⟩
     ·obtain rfl:=Qe h;exact rE Qg [j3] [some true] [] [] [6] (.ret,(f15n2E ba1 bb2 bc3 bg4 .ret).2) (ap h998 an) rfl
     ·obtain rfl:=Qe h;exact rE Qg [] [some false] [] [] [0,1,2,7] (.norm,(f15n2E ba1 bb2 bc3 bg4 .norm).2) (ap h998 an) rfl
 | ret =>
  obtain rfl:=Qe h;exact T.oneX' (by kernel_rfl) (f15n3_ok ba1 bb2 bc3 bg4 h703) (tds:=[]) (m:=[]) (keep:=[6]) (st2:=(f15n2E ba1 bb2 bc3 bg4 .ret).2) (by kernel_rfl) an rfl rfl
inductive f15n12O where
 | exit0
 | ret
def f15n12E(ba1:List Qa)(bb2:List Qb)(bc3:List Qc):f15n12O→Ex×Tr×Hp
 | .exit0=>((.exit 0),mkS [(0,(jL 4 Qa.cells ba1)),(1,(jL 2 Qb.cells bb2)),(2,(jL 3 Qc.cells bc3))],[])
 | .ret=>(.ret,mkS [(6,(jB false))],[])
def f15n12S(ba1:List Qa)(bb2:List Qb)(bc3:List Qc)(v656:Int):Tr×Hp:=(mkS [(0,(jL 4 Qa.cells ba1)),(1,(jL 2 Qb.cells bb2)),(2,(jL 3 Qc.cells bc3)),(7,(jI v656))],[])
noncomputable def f15n12:Nat→List Qa→List Qb→List Qc→Int→Option f15n12O
 | 0,_,_,_,_=>none
 | f+1,ba1,bb2,bc3,v656 =>
  bif decide (v656<(bc3.length:Int)) then
   (f15n2 ba1 bb2 bc3 v656).bind fun o999=>match o999 with
   | .norm=>(f15n12 f ba1 bb2 bc3 (wr64 (v656+1)))
   | .ret=>some .ret
  else
   some .exit0
theorem f15n12_ok:∀(f:Nat)(ba1:List Qa)(bb2:List Qb)(bc3:List Qc)(v656:Int){o:f15n12O},f15n12 f ba1 bb2 bc3 v656=some o→TL Try.prog Try.f15.ntmps 0 f (cL (cL (Qi 1 (cL (Qi 1 c15))))) (f15n12S ba1 bb2 bc3 v656) (·=f15n12E ba1 bb2 bc3 o)
 | 0,_,_,_,_,o,h=>by rw [f15n12] at h; cases h
 | f+1,ba1,bb2,bc3,v656,o,h=>by
  rw [f15n12] at h;refine TL.body (K:=fun s=>∃v656:Int,s=(f15n12S ba1 bb2 bc3 v656)∧f15n12 f ba1 bb2 bc3 v656=some o) ?_ (by rintro _ ⟨v656,rfl,hk⟩; exact f15n12_ok f _ _ _ _ hk);rcases Qh h with ⟨h658,h⟩|⟨h658,h⟩
  ·refine rN Qg 1 [([],[],[(2,.val (jI (bc3.length:Int)))])] [some true] [] [] [0,1,2,7] (f15n2S ba1 bb2 bc3 v656) (ap (Qq (xs:=bc3) (c:=Qc.cells)) (ap h658 an)) ?_;obtain ⟨o999,h1000,h⟩:=Qd h;cases o999 with
   | norm =>
    refine T.oneN (by kernel_rfl) (f15n2_ok ba1 bb2 bc3 v656 h1000) (st2:=(f15n2E ba1 bb2 bc3 v656 .norm).2) rfl ?_;exact rE Qg [j3] [] [] [] [0,1,2,7] (.norm,(f15n12S ba1 bb2 bc3 (wr64 (v656+1)))) an (Qm.norm ⟨(wr64 (v656+1)),rfl,h⟩)
   | ret =>
    obtain rfl:=Qe h;exact T.oneX' (by kernel_rfl) (f15n2_ok ba1 bb2 bc3 v656 h1000) (tds:=[]) (m:=[]) (keep:=[6]) (st2:=(f15n12E ba1 bb2 bc3 .ret).2) (by kernel_rfl) an rfl (Qm.out rfl rfl)
  ·obtain rfl:=Qe h;exact rK Qg 1 [([],[],[(2,.val (jI (bc3.length:Int)))])] [some false] [] [] [0,1,2] (.exit 0) ((f15n12E ba1 bb2 bc3 .exit0).2) (ap (Qq (xs:=bc3) (c:=Qc.cells)) (ap h658 an)) (Qm.out rfl rfl)
inductive f15n1O where
 | norm
 | ret
def f15n1E(ba1:List Qa)(bb2:List Qb)(bc3:List Qc):f15n1O→Ex×Tr×Hp
 | .norm=>(.norm,mkS [(0,(jL 4 Qa.cells ba1)),(1,(jL 2 Qb.cells bb2)),(2,(jL 3 Qc.cells bc3))],[])
 | .ret=>(.ret,mkS [(6,(jB false))],[])
def f15n1S(ba1:List Qa)(bb2:List Qb)(bc3:List Qc):Tr×Hp:=(mkS [(0,(jL 4 Qa.cells ba1)),(1,(jL 2 Qb.cells bb2)),(2,(jL 3 Qc.cells bc3))],[])
noncomputable def f15n1(ba1:List Qa)(bb2:List Qb)(bc3:List Qc):Option f15n1O :=
 (f15n12 FUEL ba1 bb2 bc3 0).bind fun o1001=>match o1001 with
 | .exit0=>some .norm
 | .ret=>some .ret
theorem f15n1_ok(ba1:List Qa)(bb2:List Qb)(bc3:List Qc){o:f15n1O}(h:f15n1 ba1 bb2 bc3=some o):T Try.prog Try.f15.ntmps 0 (cL (Qi 1 c15)) (f15n1S ba1 bb2 bc3) (·=f15n1E ba1 bb2 bc3 o):=by
 unfold f15n1 at h;refine rN Qg 1 [j3] [] [] [] [0,1,2,7] (f15n12S ba1 bb2 bc3 0) an ?_;obtain ⟨o1001,h1002,h⟩:=Qd h;cases o1001 with
 | exit0 =>
  obtain rfl:=Qe h;exact T.last' (T.bl (i:=0) (by kernel_rfl) (by kernel_rfl) (f15n12_ok FUEL ba1 bb2 bc3 0 h1002)) (tds:=[]) (m:=[]) (keep:=[0,1,2]) (st2:=(f15n1E ba1 bb2 bc3 .norm).2) (by kernel_rfl) an rfl
 | ret =>
  obtain rfl:=Qe h;exact T.last' (T.bl (i:=0) (by kernel_rfl) (by kernel_rfl) (f15n12_ok FUEL ba1 bb2 bc3 0 h1002)) (tds:=[]) (m:=[]) (keep:=[6]) (st2:=(f15n1E ba1 bb2 bc3 .ret).2) (by kernel_rfl) an rfl
inductive f15n16O where
 | exit10 (v1165:Int)
def f15n16E(ba1:List Qa)(bb2:List Qb)(bc3:List Qc)(bg4:Int):f15n16O→Ex×Tr×Hp
 | .exit10 v1165=>((.exit 10),mkS [(0,(jL 4 Qa.cells ba1)),(1,(jL 2 Qb.cells bb2)),(2,(jL 3 Qc.cells bc3)),(13,(jI bg4)),(14,(jI v1165))],[])
def f15n16S(ba1:List Qa)(bb2:List Qb)(bc3:List Qc)(bg4 v1151 v1152:Int):Tr×Hp:=(mkS [(0,(jL 4 Qa.cells ba1)),(1,(jL 2 Qb.cells bb2)),(2,(jL 3 Qc.cells bc3)),(13,(jI bg4)),(14,(jI v1151)),(15,(jI v1152))],[])
noncomputable def f15n16:Nat→List Qa→List Qb→List Qc→Int→Int→Int→Option f15n16O
 | 0,_,_,_,_,_,_=>none
 | f+1,ba1,bb2,bc3,bg4,v1151,v1152 =>
  bif decide (v1152<(bc3.length:Int)) then
   (at? bc3 v1152).bind fun x1160 =>
   (at? ba1 bg4).bind fun x1162 =>
   bif (seq x1160.Asset x1162.Name) then
    (f15n16 f ba1 bb2 bc3 bg4 (wr64 (v1151+x1160.Amount)) (wr64 (v1152+1)))
   else
    (f15n16 f ba1 bb2 bc3 bg4 v1151 (wr64 (v1152+1)))
  else
   some (.exit10 v1151)
theorem f15n16_ok:∀(f:Nat)(ba1:List Qa)(bb2:List Qb)(bc3:List Qc)(bg4 v1151 v1152:Int){o:f15n16O},f15n16 f ba1 bb2 bc3 bg4 v1151 v1152=some o→TL Try.prog Try.f15.ntmps 0 f (cL (cL (Qi 1 (cL (Qi 1 (cL (cL (Qi 1 (cL (cL (Qi 1 (cL (Qi 0 (Qi 1 (Qi 1 c15))))))))))))))) (f15n16S ba1 bb2 bc3 bg4 v1151 v1152) (·=f15n16E ba1 bb2 bc3 bg4 o)
 | 0,_,_,_,_,_,_,o,h=>by rw [f15n16] at h; cases h
 | f+1,ba1,bb2,bc3,bg4,v1151,v1152,o,h=>by
  rw [f15n16] at h;refine TL.body (K:=fun s=>∃v1151:Int,∃v1152:Int,s=(f15n16S ba1 bb2 bc3 bg4 v1151 v1152)∧f15n16 f ba1 bb2 bc3 bg4 v1151 v1152=some o) ?_ (by rintro _ ⟨v1151,v1152,rfl,hk⟩; exact f15n16_ok f _ _ _ _ _ _ hk);rcases Qh h with ⟨h1154,h⟩|⟨h1154,h⟩
  ·obtain ⟨x1160,h1161,h⟩:=Qd h;obtain ⟨x1162,h1163,h⟩:=Qd h;rcases Qh h with ⟨h1164,h⟩|⟨h1164,h⟩
   ·exact rE Qg [([],[],[(2,.val (jI (bc3.length:Int)))]),([],[(2,.idx (Int.toNat v1152) (Qc.cells x1160)),(7,.idx (Int.toNat bg4) (Qa.cells x1162))],[]),([],[(3,.idx (Int.toNat v1152) (Qc.cells x1160))],[]),j3] [some true,some true] [] [] [0,1,2,13,14,15] (.norm,(f15n16S ba1 bb2 bc3 bg4 (wr64 (v1151+x1160.Amount)) (wr64 (v1152+1)))) (ap (Qq (xs:=bc3) (c:=Qc.cells)) (ap h1154 (ap (Qf h1161).1 (ap (Qk Qc.cells (Qf h1161).2) (ap (Qf h1163).1 (ap (Qk Qa.cells (Qf h1163).2) (ap h1164 (ap (Qf h1161).1 (ap (Qk Qc.cells (Qf h1161).2) an))))))))) (Qm.norm ⟨(wr64 (v1151+x1160.Amount)),(wr64 (v1152+1)),rfl,h⟩)
   ·exact rE Qg [([],[],[(2,.val (jI (bc3.length:Int)))]),([],[(2,.idx (Int.toNat v1152) (Qc.cells x1160)),(7,.idx (Int.toNat bg4) (Qa.cells x1162))],[]),j3] [some true,some false] [] [] [0,1,2,13,14,15] (.norm,(f15n16S ba1 bb2 bc3 bg4 v1151 (wr64 (v1152+1)))) (ap (Qq (xs:=bc3) (c:=Qc.cells)) (ap h1154 (ap (Qf h1161).1 (ap (Qk Qc.cells (Qf h1161).2) (ap (Qf h1163).1 (ap (Qk Qa.cells (Qf h1163).2) (ap h1164 an))))))) (Qm.norm ⟨v1151,(wr64 (v1152+1)),rfl,h⟩)
  ·obtain rfl:=Qe h;exact rK Qg 1 [([],[],[(2,.val (jI (bc3.length:Int)))])] [some false] [] [] [0,1,2,13,14] (.exit 10) ((f15n16E ba1 bb2 bc3 bg4 (.exit10 v1151)).2) (ap (Qq (xs:=bc3) (c:=Qc.cells)) (ap h1154 an)) (Qm.out rfl rfl)
noncomputable def f15n16L(ba1:List Qa)(bb2:List Qb)(bc3:List Qc)(bg4:Int):List Qc→Int→Int→Option f15n16O
 | [],v1151,v1152 =>
  some (.exit10 v1151)
 | x0::rest,v1151,v1152 =>
  (at? ba1 bg4).bind fun x1162 =>
  bif (seq x0.Asset x1162.Name) then
   (f15n16L ba1 bb2 bc3 bg4 rest (wr64 (v1151+x0.Amount)) (v1152+1))
  else
   (f15n16L ba1 bb2 bc3 bg4 rest v1151 (v1152+1))
theorem f15n16L_eq(ba1:List Qa)(bb2:List Qb)(bc3:List Qc)(bg4:Int):∀(rest:List Qc)(f k:Nat)(v1151:Int),bc3.drop k=rest→bc3.length≤maxLen→rest.length<f→f15n16 f ba1 bb2 bc3 bg4 v1151 (k:Int)=f15n16L ba1 bb2 bc3 bg4 rest v1151 (k:Int)
 | _,0,_,_,_,_,hf=>absurd hf (Nat.not_lt_zero _)
 | [],f+1,k,v1151,hd,hm,hf=>by
  have hk:¬((k:Int)<(bc3.length:Int)):=by have:=Qan hd; omega
  rw [f15n16,f15n16L];simp only [decide_eq_false hk,cond_false]
 | x0::rest,f+1,k,v1151,hd,hm,hf=>by
  obtain ⟨hx,hlt,hd'⟩:=Qat hd;have hk:(k:Int)<(bc3.length:Int):=by omega
  have hw:wr64 ((k:Int)+1)=(k:Int)+1:=wr64_of (by omega) (by unfold maxLen at hm; omega);have ih:∀(v1151:Int),f15n16 f ba1 bb2 bc3 bg4 v1151 ((k:Int)+1)=f15n16L ba1 bb2 bc3 bg4 rest v1151 ((k:Int)+1):=fun v1151=>f15n16L_eq ba1 bb2 bc3 bg4 rest f (k+1) v1151 hd' hm (by simpa using hf);rw [f15n16,f15n16L];simp only [decide_eq_true hk,cond_true,at_nat,hx,Option.bind_some,hw,ih]
theorem f15n16_run(ba1:List Qa)(bb2:List Qb)(bc3:List Qc)(bg4 v1151:Int)(hm:bc3.length≤maxLen):f15n16 FUEL ba1 bb2 bc3 bg4 v1151 0=f15n16L ba1 bb2 bc3 bg4 bc3 v1151 0:=f15n16L_eq ba1 bb2 bc3 bg4 bc3 FUEL 0 v1151 List.drop_zero hm (Qbr hm)
inductive f15n15O where
 | norm (v1169:Int)
def f15n15E(ba1:List Qa)(bb2:List Qb)(bc3:List Qc)(bg4:Int):f15n15O→Ex×Tr×Hp
 | .norm v1169=>(.norm,mkS [(0,(jL 4 Qa.cells ba1)),(1,(jL 2 Qb.cells bb2)),(2,(jL 3 Qc.cells bc3)),(13,(jI bg4)),(14,(jI v1169))],[])
def f15n15S(ba1:List Qa)(bb2:List Qb)(bc3:List Qc)(bg4:Int):Tr×Hp:=(mkS [(0,(jL 4 Qa.cells ba1)),(1,(jL 2 Qb.cells bb2)),(2,(jL 3 Qc.cells bc3)),(13,(jI bg4)),(14,(jI 0))],[])
noncomputable def f15n15(ba1:List Qa)(bb2:List Qb)(bc3:List Qc)(bg4:Int):Option f15n15O :=
 (f15n16 FUEL ba1 bb2 bc3 bg4 0 0).bind fun o1166=>match o1166 with
 | .exit10 v1168=>some (.norm v1168)
theorem f15n15_ok(ba1:List Qa)(bb2:List Qb)(bc3:List Qc)(bg4:Int){o:f15n15O}(h:f15n15 ba1 bb2 bc3 bg4=some o):T Try.prog Try.f15.ntmps 0 (cL (Qi 1 (cL (cL (Qi 1 (cL (cL (Qi 1 (cL (Qi 0 (Qi 1 (Qi 1 c15)))))))))))) (f15n15S ba1 bb2 bc3 bg4) (·=f15n15E ba1 bb2 bc3 bg4 o):=by
 unfold f15n15 at h;refine rN Qg 1 [j3] [] [] [] [0,1,2,13,14,15] (f15n16S ba1 bb2 bc3 bg4 0 0) an ?_;obtain ⟨o1166,h1167,h⟩:=Qd h;cases o1166 with
 | exit10 v1168 =>
  obtain rfl:=Qe h;exact T.last' (T.bl (i:=10) (by kernel_rfl) (by kernel_rfl) (f15n16_ok FUEL ba1 bb2 bc3 bg4 0 0 h1167)) (tds:=[]) (m:=[]) (keep:=[0,1,2,13,14]) (st2:=(f15n15E ba1 bb2 bc3 bg4 (.norm v1168)).2) (by kernel_rfl) an rfl
inductive f15n14O where
 | norm
 | ret
def f15n14E(ba1:List Qa)(bb2:List Qb)(bc3:List Qc)(bg4:Int):f15n14O→Ex×Tr×Hp
 | .norm=>(.norm,mkS [(0,(jL 4 Qa.cells ba1)),(1,(jL 2 Qb.cells bb2)),(2,(jL 3 Qc.cells bc3)),(13,(jI bg4))],[])
 | .ret=>(.ret,mkS [(6,(jB false))],[])
def f15n14S(ba1:List Qa)(bb2:List Qb)(bc3:List Qc)(bg4:Int):Tr×Hp:=(mkS [(0,(jL 4 Qa.cells ba1)),(1,(jL 2 Qb.cells bb2)),(2,(jL 3 Qc.cells bc3)),(13,(jI bg4))],[])
noncomputable def f15n14(ba1:List Qa)(bb2:List Qb)(bc3:List Qc)(bg4:Int):Option f15n14O :=
 (f15n15 ba1 bb2 bc3 bg4).bind fun o1170=>match o1170 with
 | .norm v1172=>(at? ba1 bg4).bind fun x1175 =>
  bif decide (x1175.Amount<v1172) then
   some .ret
  else
   some .norm
theorem f15n14_ok(ba1:List Qa)(bb2:List Qb)(bc3:List Qc)(bg4:Int){o:f15n14O}(h:f15n14 ba1 bb2 bc3 bg4=some o):T Try.prog Try.f15.ntmps 0 (cL (Qi 1 (cL (cL (Qi 1 (cL (Qi 0 (Qi 1 (Qi 1 c15))))))))) (f15n14S ba1 bb2 bc3 bg4) (·=f15n14E ba1 bb2 bc3 bg4 o):=by
 unfold f15n14 at h;refine T.block' (i:=9) (by kernel_rfl) ?_;refine rN Qg 1 [j3] [] [] [] [0,1,2,13,14] (f15n15S ba1 bb2 bc3 bg4) an ?_;obtain ⟨o1170,h1171,h⟩:=Qd h;cases o1170 with
 | norm v1172 =>
  refine T.oneN (by kernel_rfl) (f15n15_ok ba1 bb2 bc3 bg4 h1171) (st2:=(f15n15E ba1 bb2 bc3 bg4 (.norm v1172)).2) rfl ?_;obtain ⟨x1175,h1176,h⟩:=Qd h;rcases Qh h with ⟨h1178,h⟩|⟨h1178,h⟩
  ·obtain rfl:=Qe h;exact rE Qg [([],[(3,.idx (Int.toNat bg4) (Qa.cells x1175))],[]),j3] [some true] [] [] [6] (.ret,(f15n14E ba1 bb2 bc3 bg4 .ret).2) (ap (Qf h1176).1 (ap (Qk Qa.cells (Qf h1176).2) (ap h1178 an))) rfl
  ·obtain rfl:=Qe h;exact rE Qg [([],[(3,.idx (Int.toNat bg4) (Qa.cells x1175))],[])] [some false] [] [] [0,1,2,13] (.norm,(f15n14E ba1 bb2 bc3 bg4 .norm).2) (ap (Qf h1176).1 (ap (Qk Qa.cells (Qf h1176).2) (ap h1178 an))) rfl
inductive f15n17O where
 | exit8
 | ret
def f15n17E(ba1:List Qa)(bb2:List Qb)(bc3:List Qc):f15n17O→Ex×Tr×Hp
 | .exit8=>((.exit 8),mkS [(1,(jL 2 Qb.cells bb2)),(2,(jL 3 Qc.cells bc3))],[])
 | .ret=>(.ret,mkS [(6,(jB false))],[])
def f15n17S(ba1:List Qa)(bb2:List Qb)(bc3:List Qc)(v1122:Int):Tr×Hp:=(mkS [(0,(jL 4 Qa.cells ba1)),(1,(jL 2 Qb.cells bb2)),(2,(jL 3 Qc.cells bc3)),(13,(jI v1122))],[])
noncomputable def f15n17:Nat→List Qa→List Qb→List Qc→Int→Option f15n17O
 | 0,_,_,_,_=>none
 | f+1,ba1,bb2,bc3,v1122 =>
  bif decide (v1122<(ba1.length:Int)) then
   (f15n14 ba1 bb2 bc3 v1122).bind fun o1179=>match o1179 with
   | .norm=>(f15n17 f ba1 bb2 bc3 (wr64 (v1122+1)))
   | .ret=>some .ret
  else
   some .exit8
theorem f15n17_ok:∀(f:Nat)(ba1:List Qa)(bb2:List Qb)(bc3:List Qc)(v1122:Int){o:f15n17O},f15n17 f ba1 bb2 bc3 v1122=some o→TL Try.prog Try.f15.ntmps 0 f (cL (cL (Qi 1 (cL (Qi 0 (Qi 1 (Qi 1 c15))))))) (f15n17S ba1 bb2 bc3 v1122) (·=f15n17E ba1 bb2 bc3 o)
 | 0,_,_,_,_,o,h=>by rw [f15n17] at h; cases h
 | f+1,ba1,bb2,bc3,v1122,o,h=>by
  rw [f15n17] at h;refine TL.body (K:=fun s=>∃v1122:Int,s=(f15n17S ba1 bb2 bc3 v1122)∧f15n17 f ba1 bb2 bc3 v1122=some o) ?_ (by rintro _ ⟨v1122,rfl,hk⟩; exact f15n17_ok f _ _ _ _ hk);rcases Qh h with ⟨h1124,h⟩|⟨h1124,h⟩
  ·refine rN Qg 1 [([],[],[(2,.val (jI (ba1.length:Int)))])] [some true] [] [] [0,1,2,13] (f15n14S ba1 bb2 bc3 v1122) (ap (Qq (xs:=ba1) (c:=Qa.cells)) (ap h1124 an)) ?_;obtain ⟨o1179,h1180,h⟩:=Qd h;cases o1179 with
   | norm =>
    refine T.oneN (by kernel_rfl) (f15n14_ok ba1 bb2 bc3 v1122 h1180) (st2:=(f15n14E ba1 bb2 bc3 v1122 .norm).2) rfl ?_;exact rE Qg [j3] [] [] [] [0,1,2,13] (.norm,(f15n17S ba1 bb2 bc3 (wr64 (v1122+1)))) an (Qm.norm ⟨(wr64 (v1122+1)),rfl,h⟩)
   | ret =>
    obtain rfl:=Qe h;exact T.oneX' (by kernel_rfl) (f15n14_ok ba1 bb2 bc3 v1122 h1180) (tds:=[]) (m:=[]) (keep:=[6]) (st2:=(f15n17E ba1 bb2 bc3 .ret).2) (by kernel_rfl) an rfl (Qm.out rfl rfl)
  ·obtain rfl:=Qe h;exact rK Qg 1 [([],[],[(2,.val (jI (ba1.length:Int)))])] [some false] [] [] [1,2] (.exit 8) ((f15n17E ba1 bb2 bc3 .exit8).2) (ap (Qq (xs:=ba1) (c:=Qa.cells)) (ap h1124 an)) (Qm.out rfl rfl)
inductive f15n13O where
 | norm
 | ret
def f15n13E(ba1:List Qa)(bb2:List Qb)(bc3:List Qc):f15n13O→Ex×Tr×Hp
 | .norm=>(.norm,mkS [(1,(jL 2 Qb.cells bb2)),(2,(jL 3 Qc.cells bc3))],[])
 | .ret=>(.ret,mkS [(6,(jB false))],[])
def f15n13S(ba1:List Qa)(bb2:List Qb)(bc3:List Qc):Tr×Hp:=(mkS [(0,(jL 4 Qa.cells ba1)),(1,(jL 2 Qb.cells bb2)),(2,(jL 3 Qc.cells bc3))],[])
noncomputable def f15n13(ba1:List Qa)(bb2:List Qb)(bc3:List Qc):Option f15n13O :=
 (f15n17 FUEL ba1 bb2 bc3 0).bind fun o1181=>match o1181 with
 | .exit8=>some .norm
 | .ret=>some .ret
theorem f15n13_ok(ba1:List Qa)(bb2:List Qb)(bc3:List Qc){o:f15n13O}(h:f15n13 ba1 bb2 bc3=some o):T Try.prog Try.f15.ntmps 0 (cL (Qi 0 (Qi 1 (Qi 1 c15)))) (f15n13S ba1 bb2 bc3) (·=f15n13E ba1 bb2 bc3 o):=by
 unfold f15n13 at h;refine rN Qg 1 [j3] [] [] [] [0,1,2,13] (f15n17S ba1 bb2 bc3 0) an ?_;obtain ⟨o1181,h1182,h⟩:=Qd h;cases o1181 with
 | exit8 =>
  obtain rfl:=Qe h;exact T.last' (T.bl (i:=8) (by kernel_rfl) (by kernel_rfl) (f15n17_ok FUEL ba1 bb2 bc3 0 h1182)) (tds:=[]) (m:=[]) (keep:=[1,2]) (st2:=(f15n13E ba1 bb2 bc3 .norm).2) (by kernel_rfl) an rfl
 | ret =>
  obtain rfl:=Qe h;exact T.last' (T.bl (i:=8) (by kernel_rfl) (by kernel_rfl) (f15n17_ok FUEL ba1 bb2 bc3 0 h1182)) (tds:=[]) (m:=[]) (keep:=[6]) (st2:=(f15n13E ba1 bb2 bc3 .ret).2) (by kernel_rfl) an rfl
inductive f15n21O where
 | exit14 (v1345:Int)
def f15n21E(bb1:List Qb)(bc2:List Qc)(bg3:Int):f15n21O→Ex×Tr×Hp
 | .exit14 v1345=>((.exit 14),mkS [(1,(jL 2 Qb.cells bb1)),(2,(jL 3 Qc.cells bc2)),(16,(jI bg3)),(17,(jI v1345))],[])
def f15n21S(bb1:List Qb)(bc2:List Qc)(bg3 v1331 v1332:Int):Tr×Hp:=(mkS [(1,(jL 2 Qb.cells bb1)),(2,(jL 3 Qc.cells bc2)),(16,(jI bg3)),(17,(jI v1331)),(18,(jI v1332))],[])
noncomputable def f15n21:Nat→List Qb→List Qc→Int→Int→Int→Option f15n21O
 | 0,_,_,_,_,_=>none
 | f+1,bb1,bc2,bg3,v1331,v1332 =>
  bif decide (v1332<(bc2.length:Int)) then
   (at? bc2 v1332).bind fun x1340 =>
   (at? bb1 bg3).bind fun x1342 =>
   bif (seq x1340.Call x1342.Name) then
    (f15n21 f bb1 bc2 bg3 (wr64 (v1331+x1340.Amount)) (wr64 (v1332+1)))
   else
    (f15n21 f bb1 bc2 bg3 v1331 (wr64 (v1332+1)))
  else
   some (.exit14 v1331)
theorem f15n21_ok:∀(f:Nat)(bb1:List Qb)(bc2:List Qc)(bg3 v1331 v1332:Int){o:f15n21O},f15n21 f bb1 bc2 bg3 v1331 v1332=some o→TL Try.prog Try.f15.ntmps 0 f (cL (cL (Qi 1 (cL (Qi 1 (cL (cL (Qi 1 (cL (cL (Qi 1 (cL (Qi 0 (Qi 1 (Qi 0 (Qi 1 (Qi 1 c15))))))))))))))))) (f15n21S bb1 bc2 bg3 v1331 v1332) (·=f15n21E bb1 bc2 bg3 o)
 | 0,_,_,_,_,_,o,h=>by rw [f15n21] at h; cases h
 | f+1,bb1,bc2,bg3,v1331,v1332,o,h=>by
  rw [f15n21] at h;refine TL.body (K:=fun s=>∃v1331:Int,∃v1332:Int,s=(f15n21S bb1 bc2 bg3 v1331 v1332)∧f15n21 f bb1 bc2 bg3 v1331 v1332=some o) ?_ (by rintro _ ⟨v1331,v1332,rfl,hk⟩; exact f15n21_ok f _ _ _ _ _ hk);rcases Qh h with ⟨h1334,h⟩|⟨h1334,h⟩
  ·obtain ⟨x1340,h1341,h⟩:=Qd h;obtain ⟨x1342,h1343,h⟩:=Qd h;rcases Qh h with ⟨h1344,h⟩|⟨h1344,h⟩
   ·exact rE Qg [([],[],[(2,.val (jI (bc2.length:Int)))]),([],[(2,.idx (Int.toNat v1332) (Qc.cells x1340)),(7,.idx (Int.toNat bg3) (Qb.cells x1342))],[]),([],[(3,.idx (Int.toNat v1332) (Qc.cells x1340))],[]),j3] [some true,some true] [] [] [1,2,16,17,18] (.norm,(f15n21S bb1 bc2 bg3 (wr64 (v1331+x1340.Amount)) (wr64 (v1332+1)))) (ap (Qq (xs:=bc2) (c:=Qc.cells)) (ap h1334 (ap (Qf h1341).1 (ap (Qk Qc.cells (Qf h1341).2) (ap (Qf h1343).1 (ap (Qk Qb.cells (Qf h1343).2) (ap h1344 (ap (Qf h1341).1 (ap (Qk Qc.cells (Qf h1341).2) an))))))))) (Qm.norm ⟨(wr64 (v1331+x1340.Amount)),(wr64 (v1332+1)),rfl,h⟩)
   ·exact rE Qg [([],[],[(2,.val (jI (bc2.length:Int)))]),([],[(2,.idx (Int.toNat v1332) (Qc.cells x1340)),(7,.idx (Int.toNat bg3) (Qb.cells x1342))],[]),j3] [some true,some false] [] [] [1,2,16,17,18] (.norm,(f15n21S bb1 bc2 bg3 v1331 (wr64 (v1332+1)))) (ap (Qq (xs:=bc2) (c:=Qc.cells)) (ap h1334 (ap (Qf h1341).1 (ap (Qk Qc.cells (Qf h1341).2) (ap (Qf h1343).1 (ap (Qk Qb.cells (Qf h1343).2) (ap h1344 an))))))) (Qm.norm ⟨v1331,(wr64 (v1332+1)),rfl,h⟩)
  ·obtain rfl:=Qe h;exact rK Qg 1 [([],[],[(2,.val (jI (bc2.length:Int)))])] [some false] [] [] [1,2,16,17] (.exit 14) ((f15n21E bb1 bc2 bg3 (.exit14 v1331)).2) (ap (Qq (xs:=bc2) (c:=Qc.cells)) (ap h1334 an)) (Qm.out rfl rfl)
noncomputable def f15n21L(bb1:List Qb)(bc2:List Qc)(bg3:Int):List Qc→Int→Int→Option f15n21O
 | [],v1331,v1332 =>
  some (.exit14 v1331)
 | x0::rest,v1331,v1332 =>
  (at? bb1 bg3).bind fun x1342 =>
  bif (seq x0.Call x1342.Name) then
   (f15n21L bb1 bc2 bg3 rest (wr64 (v1331+x0.Amount)) (v1332+1))
  else
   (f15n21L bb1 bc2 bg3 rest v1331 (v1332+1))
theorem f15n21L_eq(bb1:List Qb)(bc2:List Qc)(bg3:Int):∀(rest:List Qc)(f k:Nat)(v1331:Int),bc2.drop k=rest→bc2.length≤maxLen→rest.length<f→f15n21 f bb1 bc2 bg3 v1331 (k:Int)=f15n21L bb1 bc2 bg3 rest v1331 (k:Int)
 | _,0,_,_,_,_,hf=>absurd hf (Nat.not_lt_zero _)
 | [],f+1,k,v1331,hd,hm,hf=>by
  have hk:¬((k:Int)<(bc2.length:Int)):=by have:=Qan hd; omega
  rw [f15n21,f15n21L];simp only [decide_eq_false hk,cond_false]
 | x0::rest,f+1,k,v1331,hd,hm,hf=>by
  obtain ⟨hx,hlt,hd'⟩:=Qat hd;have hk:(k:Int)<(bc2.length:Int):=by omega
  have hw:wr64 ((k:Int)+1)=(k:Int)+1:=wr64_of (by omega) (by unfold maxLen at hm; omega);have ih:∀(v1331:Int),f15n21 f bb1 bc2 bg3 v1331 ((k:Int)+1)=f15n21L bb1 bc2 bg3 rest v1331 ((k:Int)+1):=fun v1331=>f15n21L_eq bb1 bc2 bg3 rest f (k+1) v1331 hd' hm (by simpa using hf);rw [f15n21,f15n21L];simp only [decide_eq_true hk,cond_true,at_nat,hx,Option.bind_some,hw,ih]
theorem f15n21_run(bb1:List Qb)(bc2:List Qc)(bg3 v1331:Int)(hm:bc2.length≤maxLen):f15n21 FUEL bb1 bc2 bg3 v1331 0=f15n21L bb1 bc2 bg3 bc2 v1331 0:=f15n21L_eq bb1 bc2 bg3 bc2 FUEL 0 v1331 List.drop_zero hm (Qbr hm)
inductive f15n20O where
 | norm (v1349:Int)
def f15n20E(bb1:List Qb)(bc2:List Qc)(bg3:Int):f15n20O→Ex×Tr×Hp
 | .norm v1349=>(.norm,mkS [(1,(jL 2 Qb.cells bb1)),(2,(jL 3 Qc.cells bc2)),(16,(jI bg3)),(17,(jI v1349))],[])
def f15n20S(bb1:List Qb)(bc2:List Qc)(bg3:Int):Tr×Hp:=(mkS [(1,(jL 2 Qb.cells bb1)),(2,(jL 3 Qc.cells bc2)),(16,(jI bg3)),(17,(jI 0))],[])
noncomputable def f15n20(bb1:List Qb)(bc2:List Qc)(bg3:Int):Option f15n20O :=
 (f15n21 FUEL bb1 bc2 bg3 0 0).bind fun o1346=>match o1346 with
 | .exit14 v1348=>some (.norm v1348)
theorem f15n20_ok(bb1:List Qb)(bc2:List Qc)(bg3:Int){o:f15n20O}(h:f15n20 bb1 bc2 bg3=some o):T Try.prog Try.f15.ntmps 0 (cL (Qi 1 (cL (cL (Qi 1 (cL (cL (Qi 1 (cL (Qi 0 (Qi 1 (Qi 0 (Qi 1 (Qi 1 c15)))))))))))))) (f15n20S bb1 bc2 bg3) (·=f15n20E bb1 bc2 bg3 o):=by
 unfold f15n20 at h;refine rN Qg 1 [j3] [] [] [] [1,2,16,17,18] (f15n21S bb1 bc2 bg3 0 0) an ?_;obtain ⟨o1346,h1347,h⟩:=Qd h;cases o1346 with
 | exit14 v1348 =>
  obtain rfl:=Qe h;exact T.last' (T.bl (i:=14) (by kernel_rfl) (by kernel_rfl) (f15n21_ok FUEL bb1 bc2 bg3 0 0 h1347)) (tds:=[]) (m:=[]) (keep:=[1,2,16,17]) (st2:=(f15n20E bb1 bc2 bg3 (.norm v1348)).2) (by kernel_rfl) an rfl
inductive f15n19O where
 | norm
 | ret
def f15n19E(bb1:List Qb)(bc2:List Qc)(bg3:Int):f15n19O→Ex×Tr×Hp
 | .norm=>(.norm,mkS [(1,(jL 2 Qb.cells bb1)),(2,(jL 3 Qc.cells bc2)),(16,(jI bg3))],[])
 | .ret=>(.ret,mkS [(6,(jB false))],[])
def f15n19S(bb1:List Qb)(bc2:List Qc)(bg3:Int):Tr×Hp:=(mkS [(1,(jL 2 Qb.cells bb1)),(2,(jL 3 Qc.cells bc2)),(16,(jI bg3))],[])
noncomputable def f15n19(bb1:List Qb)(bc2:List Qc)(bg3:Int):Option f15n19O :=
 (f15n20 bb1 bc2 bg3).bind fun o1350=>match o1350 with
 | .norm v1352=>(at? bb1 bg3).bind fun x1355 =>
  bif decide (v1352=x1355.Need) then
   some .norm
  else
   some .ret
theorem f15n19_ok(bb1:List Qb)(bc2:List Qc)(bg3:Int){o:f15n19O}(h:f15n19 bb1 bc2 bg3=some o):T Try.prog Try.f15.ntmps 0 (cL (Qi 1 (cL (cL (Qi 1 (cL (Qi 0 (Qi 1 (Qi 0 (Qi 1 (Qi 1 c15))))))))))) (f15n19S bb1 bc2 bg3) (·=f15n19E bb1 bc2 bg3 o):=by
 unfold f15n19 at h;refine T.block' (i:=13) (by kernel_rfl) ?_;refine rN Qg 1 [j3] [] [] [] [1,2,16,17] (f15n20S bb1 bc2 bg3) an ?_;obtain ⟨o1350,h1351,h⟩:=Qd h;cases o1350 with
 | norm v1352 =>
  refine T.oneN (by kernel_rfl) (f15n20_ok bb1 bc2 bg3 h1351) (st2:=(f15n20E bb1 bc2 bg3 (.norm v1352)).2) rfl ?_;obtain ⟨x1355,h1356,h⟩:=Qd h;rcases Qh h with ⟨h1358,h⟩|⟨h1358,h⟩
  ·obtain rfl:=Qe h;exact rE Qg [([],[(3,.idx (Int.toNat bg3) (Qb.cells x1355))],[])] [some false] [] [] [1,2,16] (.norm,(f15n19E bb1 bc2 bg3 .norm).2) (ap (Qf h1356).1 (ap (Qk Qb.cells (Qf h1356).2) (ap (Qr h1358) an))) rfl
  ·obtain rfl:=Qe h;exact rE Qg [([],[(3,.idx (Int.toNat bg3) (Qb.cells x1355))],[]),j3] [some true] [] [] [6] (.ret,(f15n19E bb1 bc2 bg3 .ret).2) (ap (Qf h1356).1 (ap (Qk Qb.cells (Qf h1356).2) (ap (Qah h1358) an))) rfl
inductive f15n22O where
 | exit12
 | ret
def f15n22E(bb1:List Qb)(bc2:List Qc):f15n22O→Ex×Tr×Hp
 | .exit12=>((.exit 12),mkS [(2,(jL 3 Qc.cells bc2))],[])
 | .ret=>(.ret,mkS [(6,(jB false))],[])
def f15n22S(bb1:List Qb)(bc2:List Qc)(v1302:Int):Tr×Hp:=(mkS [(1,(jL 2 Qb.cells bb1)),(2,(jL 3 Qc.cells bc2)),(16,(jI v1302))],[])
noncomputable def f15n22:Nat→List Qb→List Qc→Int→Option f15n22O
 | 0,_,_,_=>none
 | f+1,bb1,bc2,v1302 =>
  bif decide (v1302<(bb1.length:Int)) then
   (f15n19 bb1 bc2 v1302).bind fun o1359=>match o1359 with
   | .norm=>(f15n22 f bb1 bc2 (wr64 (v1302+1)))
   | .ret=>some .ret
  else
   some .exit12
theorem f15n22_ok:∀(f:Nat)(bb1:List Qb)(bc2:List Qc)(v1302:Int){o:f15n22O},f15n22 f bb1 bc2 v1302=some o→TL Try.prog Try.f15.ntmps 0 f (cL (cL (Qi 1 (cL (Qi 0 (Qi 1 (Qi 0 (Qi 1 (Qi 1 c15))))))))) (f15n22S bb1 bc2 v1302) (·=f15n22E bb1 bc2 o)
 | 0,_,_,_,o,h=>by rw [f15n22] at h; cases h
 | f+1,bb1,bc2,v1302,o,h=>by
  rw [f15n22] at h;refine TL.body (K:=fun s=>∃v1302:Int,s=(f15n22S bb1 bc2 v1302)∧f15n22 f bb1 bc2 v1302=some o) ?_ (by rintro _ ⟨v1302,rfl,hk⟩; exact f15n22_ok f _ _ _ hk);rcases Qh h with ⟨h1304,h⟩|⟨h1304,h⟩
  ·refine rN Qg 1 [([],[],[(2,.val (jI (bb1.length:Int)))])] [some true] [] [] [1,2,16] (f15n19S bb1 bc2 v1302) (ap (Qq (xs:=bb1) (c:=Qb.cells)) (ap h1304 an)) ?_;obtain ⟨o1359,h1360,h⟩:=Qd h;cases o1359 with
   | norm =>
    refine T.oneN (by kernel_rfl) (f15n19_ok bb1 bc2 v1302 h1360) (st2:=(f15n19E bb1 bc2 v1302 .norm).2) rfl ?_;exact rE Qg [j3] [] [] [] [1,2,16] (.norm,(f15n22S bb1 bc2 (wr64 (v1302+1)))) an (Qm.norm ⟨(wr64 (v1302+1)),rfl,h⟩)
   | ret =>
    obtain rfl:=Qe h;exact T.oneX' (by kernel_rfl) (f15n19_ok bb1 bc2 v1302 h1360) (tds:=[]) (m:=[]) (keep:=[6]) (st2:=(f15n22E bb1 bc2 .ret).2) (by kernel_rfl) an rfl (Qm.out rfl rfl)
  ·obtain rfl:=Qe h;exact rK Qg 1 [([],[],[(2,.val (jI (bb1.length:Int)))])] [some false] [] [] [2] (.exit 12) ((f15n22E bb1 bc2 .exit12).2) (ap (Qq (xs:=bb1) (c:=Qb.cells)) (ap h1304 an)) (Qm.out rfl rfl)
inductive f15n18O where
 | norm
 | ret
def f15n18E(bb1:List Qb)(bc2:List Qc):f15n18O→Ex×Tr×Hp
 | .norm=>(.norm,mkS [(2,(jL 3 Qc.cells bc2))],[])
 | .ret=>(.ret,mkS [(6,(jB false))],[])
def f15n18S(bb1:List Qb)(bc2:List Qc):Tr×Hp:=(mkS [(1,(jL 2 Qb.cells bb1)),(2,(jL 3 Qc.cells bc2))],[])
noncomputable def f15n18(bb1:List Qb)(bc2:List Qc):Option f15n18O :=
 (f15n22 FUEL bb1 bc2 0).bind fun o1361=>match o1361 with
 | .exit12=>some .norm
 | .ret=>some .ret
theorem f15n18_ok(bb1:List Qb)(bc2:List Qc){o:f15n18O}(h:f15n18 bb1 bc2=some o):T Try.prog Try.f15.ntmps 0 (cL (Qi 0 (Qi 1 (Qi 0 (Qi 1 (Qi 1 c15)))))) (f15n18S bb1 bc2) (·=f15n18E bb1 bc2 o):=by
 unfold f15n18 at h;refine rN Qg 1 [j3] [] [] [] [1,2,16] (f15n22S bb1 bc2 0) an ?_;obtain ⟨o1361,h1362,h⟩:=Qd h;cases o1361 with
 | exit12 =>
  obtain rfl:=Qe h;exact T.last' (T.bl (i:=12) (by kernel_rfl) (by kernel_rfl) (f15n22_ok FUEL bb1 bc2 0 h1362)) (tds:=[]) (m:=[]) (keep:=[2]) (st2:=(f15n18E bb1 bc2 .norm).2) (by kernel_rfl) an rfl
 | ret =>
  obtain rfl:=Qe h;exact T.last' (T.bl (i:=12) (by kernel_rfl) (by kernel_rfl) (f15n22_ok FUEL bb1 bc2 0 h1362)) (tds:=[]) (m:=[]) (keep:=[6]) (st2:=(f15n18E bb1 bc2 .ret).2) (by kernel_rfl) an rfl
inductive f15n0O where
 | ret (v1365:Bool)
def f15n0E(a1:List Qa)(a2:List Qb)(a3:List Qc):f15n0O→Ex×Tr×Hp
 | .ret v1365=>(.ret,mkS [(6,(jB v1365))],[])
def f15n0S(a1:List Qa)(a2:List Qb)(a3:List Qc):Tr×Hp:=(Qar [(jL 4 Qa.cells a1),(jL 2 Qb.cells a2),(jL 3 Qc.cells a3)] 0 .leaf,[])
noncomputable def f15n0(a1:List Qa)(a2:List Qb)(a3:List Qc):Option f15n0O :=
 (f15n1 a1 a2 a3).bind fun o1003=>match o1003 with
 | .norm=>(f15n13 a1 a2 a3).bind fun o1183=>match o1183 with
  | .norm=>(f15n18 a2 a3).bind fun o1363=>match o1363 with
   | .norm=>some (.ret (decide ((a3.length:Int)≤80)))
   | .ret=>some (.ret false)
  | .ret=>some (.ret false)
 | .ret=>some (.ret false)
theorem f15n0_ok(a1:List Qa)(a2:List Qb)(a3:List Qc){o:f15n0O}(h:f15n0 a1 a2 a3=some o):T Try.prog Try.f15.ntmps 0 c15 (f15n0S a1 a2 a3) (·=f15n0E a1 a2 a3 o):=by
 unfold f15n0 at h;refine rN Qg 1 [j3] [] [] [] [0,1,2] (f15n1S a1 a2 a3) an ?_;obtain ⟨o1003,h1004,h⟩:=Qd h;cases o1003 with
 | norm =>
  refine T.oneN (by kernel_rfl) (f15n1_ok a1 a2 a3 h1004) (st2:=(f15n1E a1 a2 a3 .norm).2) rfl ?_;refine rN Qg 0 [] [] [] [] [0,1,2] (f15n13S a1 a2 a3) an ?_;obtain ⟨o1183,h1184,h⟩:=Qd h;cases o1183 with
  | norm =>
   refine T.oneN (by kernel_rfl) (f15n13_ok a1 a2 a3 h1184) (st2:=(f15n13E a1 a2 a3 .norm).2) rfl ?_;refine rN Qg 0 [] [] [] [] [1,2] (f15n18S a2 a3) an ?_;obtain ⟨o1363,h1364,h⟩:=Qd h;cases o1363 with
   | norm =>
    refine T.oneN (by kernel_rfl) (f15n18_ok a2 a3 h1364) (st2:=(f15n18E a2 a3 .norm).2) rfl ?_;obtain rfl:=Qe h;exact rE Qg [([],[],[(1,.val (jI (a3.length:Int)))])] [] [] [] [6] (.ret,(f15n0E a1 a2 a3 (.ret (decide ((a3.length:Int)≤80)))).2) (ap (Qq (xs:=a3) (c:=Qc.cells)) an) rfl
   | ret =>
    obtain rfl:=Qe h;exact T.oneX' (by kernel_rfl) (f15n18_ok a2 a3 h1364) (tds:=[]) (m:=[]) (keep:=[6]) (st2:=(f15n0E a1 a2 a3 (.ret false)).2) (by kernel_rfl) an rfl rfl
  | ret =>
   obtain rfl:=Qe h;exact T.oneX' (by kernel_rfl) (f15n13_ok a1 a2 a3 h1184) (tds:=[]) (m:=[]) (keep:=[6]) (st2:=(f15n0E a1 a2 a3 (.ret false)).2) (by kernel_rfl) an rfl rfl
 | ret =>
  obtain rfl:=Qe h;exact T.oneX' (by kernel_rfl) (f15n1_ok a1 a2 a3 h1004) (tds:=[]) (m:=[]) (keep:=[6]) (st2:=(f15n0E a1 a2 a3 (.ret false)).2) (by kernel_rfl) an rfl rfl
noncomputable def f15(a1:List Qa)(a2:List Qb)(a3:List Qc):Option Bool:=(f15n0 a1 a2 a3).bind fun o=>match o with
 | .ret v1365=>some v1365
theorem f15_ok(a1:List Qa)(a2:List Qb)(a3:List Qc){r:Bool}(h:f15 a1 a2 a3=some r):Qo Try.prog false 15 [(jL 4 Qa.cells a1),(jL 2 Qb.cells a2),(jL 3 Qc.cells a3)] [] (jB r) []:=by
 unfold f15 at h;obtain ⟨o,ho,h⟩:=Qd h;cases o with
 | ret v1365 =>
  obtain rfl:=Qe h;exact Qo.plain Qg (f:=Try.f15) (c:=c15) (by kernel_rfl) (by kernel_rfl) (by kernel_rfl) (by kernel_rfl) ((f15n0_ok a1 a2 a3 ho).mono fun r e=>by subst e; exact ⟨.inl rfl,(jB v1365),(jB v1365),by kernel_rfl,by kernel_rfl,((Wk.refl _):Wk (jB v1365) (jB v1365))⟩)
end Go.Proofs.Ytinabbgjignkbaa
namespace Go.Proofs.Ytinabbgjignkbaa
set_option linter.unusedVariables false
set_option linter.unusedSimpArgs false
set_option maxRecDepth 100000
open Go.RowKit
noncomputable def c31:Code:=Try.f31.body.getD .skip
inductive f31n2O where
 | exit0
 | ret
def f31n2E(bc1:List Qc):f31n2O→Ex×Tr×Hp
 | .exit0=>((.exit 0),mkS [],[])
 | .ret=>(.ret,mkS [(2,(jB false))],[])
def f31n2S(bc1:List Qc)(v41:Int):Tr×Hp:=(mkS [(0,(jL 3 Qc.cells bc1)),(8,(jL 3 Qc.cells bc1)),(9,(jI (bc1.length:Int))),(10,(jI v41))],[])
noncomputable def f31n2:Nat→List Qc→Int→Option f31n2O
 | 0,_,_=>none
 | f+1,bc1,v41 =>
  bif decide (v41<(bc1.length:Int)) then
   (at? bc1 v41).bind fun x55 =>
   (f29 x55.Amount 1 68719476736).bind fun x57 =>
   bif x57 then
    bif decide (0<v41) then
     (at? bc1 (wr64 (v41-1))).bind fun x61 =>
     (f27 x61 x55).bind fun x63 =>
     bif decide (0≤x63) then
      some .ret
     else
      (f31n2 f bc1 (wr64 (v41+1)))
    else
     (f31n2 f bc1 (wr64 (v41+1)))
   else
    some .ret
  else
   some .exit0
theorem f31n2_ok:∀(f:Nat)(bc1:List Qc)(v41:Int){o:f31n2O},f31n2 f bc1 v41=some o→TL Try.prog Try.f31.ntmps 0 f (cL (cL (Qi 1 (cL (Qi 2 c31))))) (f31n2S bc1 v41) (·=f31n2E bc1 o)
 | 0,_,_,o,h=>by rw [f31n2] at h; cases h
 | f+1,bc1,v41,o,h=>by
  rw [f31n2] at h;refine TL.body (K:=fun s=>∃v41:Int,s=(f31n2S bc1 v41)∧f31n2 f bc1 v41=some o) ?_ (by rintro _ ⟨v41,rfl,hk⟩; exact f31n2_ok f _ _ hk);rcases Qh h with ⟨h43,h⟩|⟨h43,h⟩
  ·obtain ⟨x55,h56,h⟩:=Qd h;obtain ⟨x57,h58,h⟩:=Qd h;rcases Qh h with ⟨h59,h⟩|⟨h59,h⟩
   ·rcases Qh h with ⟨h60,h⟩|⟨h60,h⟩
    ·obtain ⟨x61,h62,h⟩:=Qd h;obtain ⟨x63,h64,h⟩:=Qd h;rcases Qh h with ⟨h65,h⟩|⟨h65,h⟩
     ·obtain rfl:=Qe h;exact rK Qg 3 [j3,([],[(1,.idx (Int.toNat v41) (Qc.cells x55))],[]),(jF [5,6,7,16]++jT [8,9,10,11,12,13,14,15],[jH 2 (jB x57),(11,.idx (Int.toNat (wr64 (v41-1))) (Qc.cells x61)),jH 14 (jI x63),(16,.bool true),(17,.bool false)],[]),j3] [some true,some true] [] [] [2] .ret ((f31n2E bc1 .ret).2) (ap h43 (ap (Qf h56).1 (ap (Qk Qc.cells (Qf h56).2) (ap3 (Qr h59) (ap4 h60 (ap (Qf h62).1 (ap (Qk Qc.cells (Qf h62).2) (ap4 h60 (ap (Qr h59) (ap h60 (ap (Qr h59) (ap (f29_ok x55.Amount 1 68719476736 h58) (ap (f27_ok x61 x55 h64) (ap h65 an)))))))))))))) (Qm.out rfl rfl)
     ·exact rE Qg [j3,([],[(1,.idx (Int.toNat v41) (Qc.cells x55))],[]),(jF [5,6,7,16]++jT [8,9,10,11,12,13,14,15],[jH 2 (jB x57),(11,.idx (Int.toNat (wr64 (v41-1))) (Qc.cells x61)),jH 14 (jI x63),(16,.bool true),(17,.bool false)],[]),j3] [some true,some false] [] [] [0,8,9,10] (.norm,(f31n2S bc1 (wr64 (v41+1)))) (ap h43 (ap (Qf h56).1 (ap (Qk Qc.cells (Qf h56).2) (ap3 (Qr h59) (ap4 h60 (ap (Qf h62).1 (ap (Qk Qc.cells (Qf h62).2) (ap4 h60 (ap (Qr h59) (ap h60 (ap (Qr h59) (ap (f29_ok x55.Amount 1 68719476736 h58) (ap (f27_ok x61 x55 h64) (ap h65 an)))))))))))))) (Qm.norm ⟨(wr64 (v41+1)),rfl,h⟩)
    ·exact rE Qg [j3,([],[(1,.idx (Int.toNat v41) (Qc.cells x55))],[]),(jF [5,6,7,8,9,10,11,12,13,14,15,16],[jH 2 (jB x57),(16,.bool false),(17,.bool false)],[]),j3] [some true,none] [] [] [0,8,9,10] (.norm,(f31n2S bc1 (wr64 (v41+1)))) (ap h43 (ap (Qf h56).1 (ap (Qk Qc.cells (Qf h56).2) (ap3 (Qr h59) (ap4 h60 (ap4 h60 (ap (Qr h59) (ap h60 (ap (Qr h59) (ap (f29_ok x55.Amount 1 68719476736 h58) an)))))))))) (Qm.norm ⟨(wr64 (v41+1)),rfl,h⟩)
   ·obtain rfl:=Qe h;exact rK Qg 3 [j3,([],[(1,.idx (Int.toNat v41) (Qc.cells x55))],[]),(jT [5,6,7,16],[jH 2 (jB x57),(17,.bool true)],[]),j3] [some true,none] [] [] [2] .ret ((f31n2E bc1 .ret).2) (ap h43 (ap (Qf h56).1 (ap (Qk Qc.cells (Qf h56).2) (ap (Qah h59) (ap4 (Qah h59) (ap (f29_ok x55.Amount 1 68719476736 h58) an)))))) (Qm.out rfl rfl)
  ·obtain rfl:=Qe h;exact rK Qg 2 [j3] [some false] [] [] [] (.exit 0) ((f31n2E bc1 .exit0).2) (ap h43 an) (Qm.out rfl rfl)
inductive f31n1O where
 | norm
 | ret
def f31n1E(bc1:List Qc):f31n1O→Ex×Tr×Hp
 | .norm=>(.norm,mkS [],[])
 | .ret=>(.ret,mkS [(2,(jB false))],[])
def f31n1S(bc1:List Qc):Tr×Hp:=(mkS [(0,(jL 3 Qc.cells bc1))],[])
noncomputable def f31n1(bc1:List Qc):Option f31n1O :=
 (f31n2 FUEL bc1 0).bind fun o66=>match o66 with
 | .exit0=>some .norm
 | .ret=>some .ret
theorem f31n1_ok(bc1:List Qc){o:f31n1O}(h:f31n1 bc1=some o):T Try.prog Try.f31.ntmps 0 (cL (Qi 2 c31)) (f31n1S bc1) (·=f31n1E bc1 o):=by
 unfold f31n1 at h;refine rN Qg 1 [([],[],[(1,.val (jI (bc1.length:Int)))])] [] [] [] [0,8,9,10] (f31n2S bc1 0) (ap (Qq (xs:=bc1) (c:=Qc.cells)) an) ?_;obtain ⟨o66,h67,h⟩:=Qd h;cases o66 with
 | exit0 =>
  obtain rfl:=Qe h;exact T.last' (T.bl (i:=0) (by kernel_rfl) (by kernel_rfl) (f31n2_ok FUEL bc1 0 h67)) (tds:=[]) (m:=[]) (keep:=[]) (st2:=(f31n1E bc1 .norm).2) (by kernel_rfl) an rfl
 | ret =>
  obtain rfl:=Qe h;exact T.last' (T.bl (i:=0) (by kernel_rfl) (by kernel_rfl) (f31n2_ok FUEL bc1 0 h67)) (tds:=[]) (m:=[]) (keep:=[2]) (st2:=(f31n1E bc1 .ret).2) (by kernel_rfl) an rfl
inductive f31n0O where
 | ret (v70:Bool)
def f31n0E(a1:List Qc):f31n0O→Ex×Tr×Hp
 | .ret v70=>(.ret,mkS [(2,(jB v70))],[])
def f31n0S(a1:List Qc):Tr×Hp:=(Qar [(jL 3 Qc.cells a1)] 0 .leaf,[])
noncomputable def f31n0(a1:List Qc):Option f31n0O :=
 bif decide (80<(a1.length:Int)) then
  some (.ret false)
 else
  (f31n1 a1).bind fun o68=>match o68 with
  | .norm=>some (.ret true)
  | .ret=>some (.ret false)
theorem f31n0_ok(a1:List Qc){o:f31n0O}(h:f31n0 a1=some o):T Try.prog Try.f31.ntmps 0 c31 (f31n0S a1) (·=f31n0E a1 o):=by
 unfold f31n0 at h;rcases Qh h with ⟨h3,h⟩|⟨h3,h⟩
 ·obtain rfl:=Qe h;exact rK Qg 2 [j3,([],[],[(1,.val (jI (a1.length:Int)))]),j3] [some true] [] [] [2] .ret ((f31n0E a1 (.ret false)).2) (ap (Qq (xs:=a1) (c:=Qc.cells)) (ap h3 an)) rfl
 ·refine rN Qg 2 [j3,([],[],[(1,.val (jI (a1.length:Int)))])] [some false] [] [] [0] (f31n1S a1) (ap (Qq (xs:=a1) (c:=Qc.cells)) (ap h3 an)) ?_;obtain ⟨o68,h69,h⟩:=Qd h;cases o68 with
  | norm =>
   refine T.oneN (by kernel_rfl) (f31n1_ok a1 h69) (st2:=(f31n1E a1 .norm).2) rfl ?_;obtain rfl:=Qe h;exact rE Qg [j3] [] [] [] [2] (.ret,(f31n0E a1 (.ret true)).2) an rfl
  | ret =>
   obtain rfl:=Qe h;exact T.oneX' (by kernel_rfl) (f31n1_ok a1 h69) (tds:=[]) (m:=[]) (keep:=[2]) (st2:=(f31n0E a1 (.ret false)).2) (by kernel_rfl) an rfl rfl
noncomputable def f31(a1:List Qc):Option Bool:=(f31n0 a1).bind fun o=>match o with
 | .ret v70=>some v70
theorem f31_ok(a1:List Qc){r:Bool}(h:f31 a1=some r):Qo Try.prog false 31 [(jL 3 Qc.cells a1)] [] (jB r) []:=by
 unfold f31 at h;obtain ⟨o,ho,h⟩:=Qd h;cases o with
 | ret v70 =>
  obtain rfl:=Qe h;exact Qo.plain Qg (f:=Try.f31) (c:=c31) (by kernel_rfl) (by kernel_rfl) (by kernel_rfl) (by kernel_rfl) ((f31n0_ok a1 ho).mono fun r e=>by subst e; exact ⟨.inl rfl,(jB v70),(jB v70),by kernel_rfl,by kernel_rfl,((Wk.refl _):Wk (jB v70) (jB v70))⟩)


noncomputable def c32:Code:=Try.f32.body.getD .skip










noncomputable def c3:Code:=Try.f3.body.getD .skip

noncomputable def c39:Code:=Try.f39.body.getD .skip
inductive f39r1n0O where
 | ret
def f39r1n0E(a1:Qa)(a2:Qc):f39r1n0O→Ex×Tr×Hp
 | .ret=>(.ret,mkS [(3,(.pl (.bool (seq a1.Name a2.Asset))))],[some (.box 45 ((Qc.cells a2).map .pl))])
def f39r1n0S(a1:Qa)(a2:Qc):Tr×Hp:=(Qar [(jA Qa.cells a1),(.bp 0 0)] 0 .leaf,[some (.box 45 ((Qc.cells a2).map .pl))])
noncomputable def f39r1n0(a1:Qa)(a2:Qc):Option f39r1n0O :=
 some .ret
theorem f39r1n0_ok(a1:Qa)(a2:Qc){o:f39r1n0O}(h:f39r1n0 a1 a2=some o):T Try.prog Try.f39.ntmps 1 c39 (f39r1n0S a1 a2) (·=f39r1n0E a1 a2 o):=by
 unfold f39r1n0 at h;obtain rfl:=Qe h;exact rE Qg [j3,j3] [] [] [] [3] (.ret,(f39r1n0E a1 a2 .ret).2) an rfl
noncomputable def f39r1(a1:Qa)(a2:Qc):Option Unit:=(f39r1n0 a1 a2).bind fun o=>match o with
 | .ret=>some ()
theorem f39r1_ok(a1:Qa)(a2:Qc){r:Unit}(h:f39r1 a1 a2=some r):Qo Try.prog true 39 [(jA Qa.cells a1),(.bp 0 0)] [some (.box 45 ((Qc.cells a2).map .pl))] (.pl (.bool (seq a1.Name a2.Asset))) [some (.box 45 ((Qc.cells a2).map .pl))]:=by
 unfold f39r1 at h;obtain ⟨o,ho,h⟩:=Qd h;cases o with
 | ret =>
  obtain rfl:=Qe h;exact Qo.shared Qg (f:=Try.f39) (c:=c39) (by kernel_rfl) (by kernel_rfl) (by kernel_rfl) ((f39r1n0_ok a1 a2 ho).mono fun r e=>by subst e; exact ⟨.inl rfl,by kernel_rfl,by kernel_rfl⟩)

inductive f32r2n2O where
 | exit0
 | ret (v41:Int)
def f32r2n2E(ba1:List Qa)(bm2:Qc):f32r2n2O→Ex×Tr×Hp
 | .exit0=>((.exit 0),mkS [],[some (.box 45 ((Qc.cells bm2).map .pl))])
 | .ret v41=>(.ret,mkS [(4,(jI v41))],[some (.box 45 ((Qc.cells bm2).map .pl))])
def f32r2n2S(ba1:List Qa)(bm2:Qc)(v28:Int):Tr×Hp:=(mkS [(0,(jL 4 Qa.cells ba1)),(1,(.clo 39 [(.bp 0 0)])),(7,(jI (ba1.length:Int))),(8,(jI v28))],[some (.box 45 ((Qc.cells bm2).map .pl))])
noncomputable def f32r2n2:Nat→List Qa→Qc→Int→Option f32r2n2O
 | 0,_,_,_=>none
 | f+1,ba1,bm2,v28 =>
  bif decide (v28<(ba1.length:Int)) then
   (at? ba1 v28).bind fun x36 =>
   (f39r1 x36 bm2).bind fun x38 =>
   bif (seq x36.Name bm2.Asset) then
    some (.ret v28)
   else
    (f32r2n2 f ba1 bm2 (wr64 (v28+1)))
  else
   some .exit0
theorem f32r2n2_ok:∀(f:Nat)(ba1:List Qa)(bm2:Qc)(v28:Int){o:f32r2n2O},f32r2n2 f ba1 bm2 v28=some o→TL Try.prog Try.f32.ntmps 1 f (cL (cL (Qi 1 (cL (Qi 1 c32))))) (f32r2n2S ba1 bm2 v28) (·=f32r2n2E ba1 bm2 o)
 | 0,_,_,_,o,h=>by rw [f32r2n2] at h; cases h
 | f+1,ba1,bm2,v28,o,h=>by
  rw [f32r2n2] at h;refine TL.body (K:=fun s=>∃v28:Int,s=(f32r2n2S ba1 bm2 v28)∧f32r2n2 f ba1 bm2 v28=some o) ?_ (by rintro _ ⟨v28,rfl,hk⟩; exact f32r2n2_ok f _ _ _ hk);rcases Qh h with ⟨h30,h⟩|⟨h30,h⟩
  ·obtain ⟨x36,h37,h⟩:=Qd h;obtain ⟨x38,h39,h⟩:=Qd h;rcases Qh h with ⟨h40,h⟩|⟨h40,h⟩
   ·obtain rfl:=Qe h;exact rK Qg 3 [j3,j3,([],[(3,.idx (Int.toNat v28) (Qa.cells x36)),(5,.call (.pl (.bool (seq x36.Name bm2.Asset))) [some (.box 45 ((Qc.cells bm2).map .pl))])],[]),j3] [some true,some true] [] [] [4] .ret ((f32r2n2E ba1 bm2 (.ret v28)).2) (ap h30 (ap (Qf h37).1 (ap (Qk Qa.cells (Qf h37).2) (ap (f39r1_ok x36 bm2 h39) (ap h40 an))))) (Qm.out rfl rfl)
   ·exact rE Qg [j3,j3,([],[(3,.idx (Int.toNat v28) (Qa.cells x36)),(5,.call (.pl (.bool (seq x36.Name bm2.Asset))) [some (.box 45 ((Qc.cells bm2).map .pl))])],[]),j3] [some true,some false] [] [] [0,1,7,8] (.norm,(f32r2n2S ba1 bm2 (wr64 (v28+1)))) (ap h30 (ap (Qf h37).1 (ap (Qk Qa.cells (Qf h37).2) (ap (f39r1_ok x36 bm2 h39) (ap h40 an))))) (Qm.norm ⟨(wr64 (v28+1)),rfl,h⟩)
  ·obtain rfl:=Qe h;exact rK Qg 2 [j3] [some false] [] [] [] (.exit 0) ((f32r2n2E ba1 bm2 .exit0).2) (ap h30 an) (Qm.out rfl rfl)
noncomputable def f32r2n2L(ba1:List Qa)(bm2:Qc):List Qa→Int→Option f32r2n2O
 | [],v28 =>
  some .exit0
 | x0::rest,v28 =>
  (f39r1 x0 bm2).bind fun x38 =>
  bif (seq x0.Name bm2.Asset) then
   some (.ret v28)
  else
   (f32r2n2L ba1 bm2 rest (v28+1))
theorem f32r2n2L_eq(ba1:List Qa)(bm2:Qc):∀(rest:List Qa)(f k:Nat),ba1.drop k=rest→ba1.length≤maxLen→rest.length<f→f32r2n2 f ba1 bm2 (k:Int)=f32r2n2L ba1 bm2 rest (k:Int)
 | _,0,_,_,_,hf=>absurd hf (Nat.not_lt_zero _)
 | [],f+1,k,hd,hm,hf=>by
  have hk:¬((k:Int)<(ba1.length:Int)):=by have:=Qan hd; omega
  rw [f32r2n2,f32r2n2L];simp only [decide_eq_false hk,cond_false]
 | x0::rest,f+1,k,hd,hm,hf=>by
  obtain ⟨hx,hlt,hd'⟩:=Qat hd;have hk:(k:Int)<(ba1.length:Int):=by omega
  have hw:wr64 ((k:Int)+1)=(k:Int)+1:=wr64_of (by omega) (by unfold maxLen at hm; omega);have ih:f32r2n2 f ba1 bm2 ((k:Int)+1)=f32r2n2L ba1 bm2 rest ((k:Int)+1):=f32r2n2L_eq ba1 bm2 rest f (k+1) hd' hm (by simpa using hf);rw [f32r2n2,f32r2n2L];simp only [decide_eq_true hk,cond_true,at_nat,hx,Option.bind_some,hw,ih]
theorem f32r2n2_run(ba1:List Qa)(bm2:Qc)(hm:ba1.length≤maxLen):f32r2n2 FUEL ba1 bm2 0=f32r2n2L ba1 bm2 ba1 0:=f32r2n2L_eq ba1 bm2 ba1 FUEL 0 List.drop_zero hm (Qbr hm)
inductive f32r2n1O where
 | norm
 | ret (v45:Int)
def f32r2n1E(ba1:List Qa)(bm2:Qc):f32r2n1O→Ex×Tr×Hp
 | .norm=>(.norm,mkS [],[some (.box 45 ((Qc.cells bm2).map .pl))])
 | .ret v45=>(.ret,mkS [(4,(jI v45))],[some (.box 45 ((Qc.cells bm2).map .pl))])
def f32r2n1S(ba1:List Qa)(bm2:Qc):Tr×Hp:=(mkS [(0,(jL 4 Qa.cells ba1)),(1,(.clo 39 [(.bp 0 0)]))],[some (.box 45 ((Qc.cells bm2).map .pl))])
noncomputable def f32r2n1(ba1:List Qa)(bm2:Qc):Option f32r2n1O :=
 (f32r2n2 FUEL ba1 bm2 0).bind fun o42=>match o42 with
 | .exit0=>some .norm
 | .ret v44=>some (.ret v44)
theorem f32r2n1_ok(ba1:List Qa)(bm2:Qc){o:f32r2n1O}(h:f32r2n1 ba1 bm2=some o):T Try.prog Try.f32.ntmps 1 (cL (Qi 1 c32)) (f32r2n1S ba1 bm2) (·=f32r2n1E ba1 bm2 o):=by
 unfold f32r2n1 at h;refine rN Qg 1 [([],[],[(1,.val (jI (ba1.length:Int)))])] [] [] [] [0,1,7,8] (f32r2n2S ba1 bm2 0) (ap (Qq (xs:=ba1) (c:=Qa.cells)) an) ?_;obtain ⟨o42,h43,h⟩:=Qd h;cases o42 with
 | exit0 =>
  obtain rfl:=Qe h;exact T.last' (T.bl (i:=0) (by kernel_rfl) (by kernel_rfl) (f32r2n2_ok FUEL ba1 bm2 0 h43)) (tds:=[]) (m:=[]) (keep:=[]) (st2:=(f32r2n1E ba1 bm2 .norm).2) (by kernel_rfl) an rfl
 | ret v44 =>
  obtain rfl:=Qe h;exact T.last' (T.bl (i:=0) (by kernel_rfl) (by kernel_rfl) (f32r2n2_ok FUEL ba1 bm2 0 h43)) (tds:=[]) (m:=[]) (keep:=[4]) (st2:=(f32r2n1E ba1 bm2 (.ret v44)).2) (by kernel_rfl) an rfl
inductive f32r2n0O where
 | ret (v49:Int)
def f32r2n0E(a1:List Qa)(a2:Qc):f32r2n0O→Ex×Tr×Hp
 | .ret v49=>(.ret,mkS [(4,(jI v49))],[some (.box 45 ((Qc.cells a2).map .pl))])
def f32r2n0S(a1:List Qa)(a2:Qc):Tr×Hp:=(Qar [(jL 4 Qa.cells a1),(.clo 39 [(.bp 0 0)])] 0 .leaf,[some (.box 45 ((Qc.cells a2).map .pl))])
noncomputable def f32r2n0(a1:List Qa)(a2:Qc):Option f32r2n0O :=
 (f32r2n1 a1 a2).bind fun o46=>match o46 with
 | .norm=>some (.ret (-1))
 | .ret v48=>some (.ret v48)
theorem f32r2n0_ok(a1:List Qa)(a2:Qc){o:f32r2n0O}(h:f32r2n0 a1 a2=some o):T Try.prog Try.f32.ntmps 1 c32 (f32r2n0S a1 a2) (·=f32r2n0E a1 a2 o):=by
 unfold f32r2n0 at h;refine rN Qg 1 [j3] [] [] [] [0,1] (f32r2n1S a1 a2) an ?_;obtain ⟨o46,h47,h⟩:=Qd h;cases o46 with
 | norm =>
  refine T.oneN (by kernel_rfl) (f32r2n1_ok a1 a2 h47) (st2:=(f32r2n1E a1 a2 .norm).2) rfl ?_;obtain rfl:=Qe h;exact rE Qg [j3] [] [] [] [4] (.ret,(f32r2n0E a1 a2 (.ret (-1))).2) an rfl
 | ret v48 =>
  obtain rfl:=Qe h;exact T.oneX' (by kernel_rfl) (f32r2n1_ok a1 a2 h47) (tds:=[]) (m:=[]) (keep:=[4]) (st2:=(f32r2n0E a1 a2 (.ret v48)).2) (by kernel_rfl) an rfl rfl
noncomputable def f32r2(a1:List Qa)(a2:Qc):Option Int:=(f32r2n0 a1 a2).bind fun o=>match o with
 | .ret v49=>some v49
theorem f32r2_ok(a1:List Qa)(a2:Qc){r:Int}(h:f32r2 a1 a2=some r):Qo Try.prog true 32 [(jL 4 Qa.cells a1),(.clo 39 [(.bp 0 0)])] [some (.box 45 ((Qc.cells a2).map .pl))] (jI r) [some (.box 45 ((Qc.cells a2).map .pl))]:=by
 unfold f32r2 at h;obtain ⟨o,ho,h⟩:=Qd h;cases o with
 | ret v49 =>
  obtain rfl:=Qe h;exact Qo.shared Qg (f:=Try.f32) (c:=c32) (by kernel_rfl) (by kernel_rfl) (by kernel_rfl) ((f32r2n0_ok a1 a2 ho).mono fun r e=>by subst e; exact ⟨.inl rfl,by kernel_rfl,by kernel_rfl⟩)

noncomputable def c17:Code:=Try.f17.body.getD .skip
inductive f17n2O where
 | exit0 (v67:Int)
 | ret
def f17n2E(ba1:List Qa)(bc2:List Qc):f17n2O→Ex×Tr×Hp
 | .exit0 v67=>((.exit 0),mkS [(6,(jI v67))],[])
 | .ret=>(.ret,mkS [(4,(jI 0)),(5,(jI 8))],[])
def f17n2S(ba1:List Qa)(bc2:List Qc)(v49 v50:Int):Tr×Hp:=(mkS [(0,(jL 4 Qa.cells ba1)),(6,(jI v49)),(18,(jL 3 Qc.cells bc2)),(19,(jI (bc2.length:Int))),(20,(jI v50))],[])
noncomputable def f17n2:Nat→List Qa→List Qc→Int→Int→Option f17n2O
 | 0,_,_,_,_=>none
 | f+1,ba1,bc2,v49,v50 =>
  bif decide (v50<(bc2.length:Int)) then
   (at? bc2 v50).bind fun x60 =>
   (f32r2 ba1 x60).bind fun x62 =>
   bif decide (x62<0) then
    some .ret
   else
    (at? ba1 x62).bind fun x65 =>
    (f17n2 f ba1 bc2 (wr64 (v49+(wr64 (x60.Amount*x65.Cost)))) (wr64 (v50+1)))
  else
   some (.exit0 v49)
theorem f17n2_ok:∀(f:Nat)(ba1:List Qa)(bc2:List Qc)(v49 v50:Int){o:f17n2O},f17n2 f ba1 bc2 v49 v50=some o→TL Try.prog Try.f17.ntmps 0 f (cL (cL (Qi 1 (cL (Qi 3 c17))))) (f17n2S ba1 bc2 v49 v50) (·=f17n2E ba1 bc2 o)
 | 0,_,_,_,_,o,h=>by rw [f17n2] at h; cases h
 | f+1,ba1,bc2,v49,v50,o,h=>by
  rw [f17n2] at h;refine TL.body (K:=fun s=>∃v49:Int,∃v50:Int,s=(f17n2S ba1 bc2 v49 v50)∧f17n2 f ba1 bc2 v49 v50=some o) ?_ (by rintro _ ⟨v49,v50,rfl,hk⟩; exact f17n2_ok f _ _ _ _ hk);rcases Qh h with ⟨h52,h⟩|⟨h52,h⟩
  ·obtain ⟨x60,h61,h⟩:=Qd h;obtain ⟨x62,h63,h⟩:=Qd h;rcases Qh h with ⟨h64,h⟩|⟨h64,h⟩
   ·obtain rfl:=Qe h;exact rK Qg 3 [j3,([],[(0,.idx (Int.toNat v50) (Qc.cells x60))],[]),([],[(2,.call (jI x62) [some (.box 45 ((Qc.cells x60).map .pl))])],[]),j3,j3] [some true,some true] [] [] [4,5] .ret ((f17n2E ba1 bc2 .ret).2) (ap h52 (ap (Qf h61).1 (ap (Qk Qc.cells (Qf h61).2) (ap (f32r2_ok ba1 x60 h63) (ap h64 an))))) (Qm.out rfl rfl)
   ·obtain ⟨x65,h66,h⟩:=Qd h;exact rE Qg [j3,([],[(0,.idx (Int.toNat v50) (Qc.cells x60))],[]),([],[(2,.call (jI x62) [some (.box 45 ((Qc.cells x60).map .pl))])],[]),j3,([],[(5,.idx (Int.toNat x62) (Qa.cells x65))],[]),j3] [some true,some false] [] [] [0,6,18,19,20] (.norm,(f17n2S ba1 bc2 (wr64 (v49+(wr64 (x60.Amount*x65.Cost)))) (wr64 (v50+1)))) (ap h52 (ap (Qf h61).1 (ap (Qk Qc.cells (Qf h61).2) (ap (f32r2_ok ba1 x60 h63) (ap h64 (ap (Qf h66).1 (ap (Qk Qa.cells (Qf h66).2) an))))))) (Qm.norm ⟨(wr64 (v49+(wr64 (x60.Amount*x65.Cost)))),(wr64 (v50+1)),rfl,h⟩)
  ·obtain rfl:=Qe h;exact rK Qg 2 [j3] [some false] [] [] [6] (.exit 0) ((f17n2E ba1 bc2 (.exit0 v49)).2) (ap h52 an) (Qm.out rfl rfl)
noncomputable def f17n2L(ba1:List Qa)(bc2:List Qc):List Qc→Int→Int→Option f17n2O
 | [],v49,v50 =>
  some (.exit0 v49)
 | x0::rest,v49,v50 =>
  (f32r2 ba1 x0).bind fun x62 =>
  bif decide (x62<0) then
   some .ret
  else
   (at? ba1 x62).bind fun x65 =>
   (f17n2L ba1 bc2 rest (wr64 (v49+(wr64 (x0.Amount*x65.Cost)))) (v50+1))
theorem f17n2L_eq(ba1:List Qa)(bc2:List Qc):∀(rest:List Qc)(f k:Nat)(v49:Int),bc2.drop k=rest→bc2.length≤maxLen→rest.length<f→f17n2 f ba1 bc2 v49 (k:Int)=f17n2L ba1 bc2 rest v49 (k:Int)
 | _,0,_,_,_,_,hf=>absurd hf (Nat.not_lt_zero _)
 | [],f+1,k,v49,hd,hm,hf=>by
  have hk:¬((k:Int)<(bc2.length:Int)):=by have:=Qan hd; omega
  rw [f17n2,f17n2L];simp only [decide_eq_false hk,cond_false]
 | x0::rest,f+1,k,v49,hd,hm,hf=>by
  obtain ⟨hx,hlt,hd'⟩:=Qat hd;have hk:(k:Int)<(bc2.length:Int):=by omega
  have hw:wr64 ((k:Int)+1)=(k:Int)+1:=wr64_of (by omega) (by unfold maxLen at hm; omega);have ih:∀(v49:Int),f17n2 f ba1 bc2 v49 ((k:Int)+1)=f17n2L ba1 bc2 rest v49 ((k:Int)+1):=fun v49=>f17n2L_eq ba1 bc2 rest f (k+1) v49 hd' hm (by simpa using hf);rw [f17n2,f17n2L];simp only [decide_eq_true hk,cond_true,at_nat,hx,Option.bind_some,hw,ih]
theorem f17n2_run(ba1:List Qa)(bc2:List Qc)(v49:Int)(hm:bc2.length≤maxLen):f17n2 FUEL ba1 bc2 v49 0=f17n2L ba1 bc2 bc2 v49 0:=f17n2L_eq ba1 bc2 bc2 FUEL 0 v49 List.drop_zero hm (Qbr hm)
inductive f17n1O where
 | norm (v71:Int)
 | ret
def f17n1E(ba1:List Qa)(bc2:List Qc):f17n1O→Ex×Tr×Hp
 | .norm v71=>(.norm,mkS [(6,(jI v71))],[])
 | .ret=>(.ret,mkS [(4,(jI 0)),(5,(jI 8))],[])
def f17n1S(ba1:List Qa)(bc2:List Qc):Tr×Hp:=(mkS [(0,(jL 4 Qa.cells ba1)),(1,(jL 3 Qc.cells bc2)),(6,(jI 0))],[])
noncomputable def f17n1(ba1:List Qa)(bc2:List Qc):Option f17n1O :=
 (f17n2 FUEL ba1 bc2 0 0).bind fun o68=>match o68 with
 | .exit0 v70=>some (.norm v70)
 | .ret=>some .ret
theorem f17n1_ok(ba1:List Qa)(bc2:List Qc){o:f17n1O}(h:f17n1 ba1 bc2=some o):T Try.prog Try.f17.ntmps 0 (cL (Qi 3 c17)) (f17n1S ba1 bc2) (·=f17n1E ba1 bc2 o):=by
 unfold f17n1 at h;refine rN Qg 1 [([],[],[(1,.val (jI (bc2.length:Int)))])] [] [] [] [0,6,18,19,20] (f17n2S ba1 bc2 0 0) (ap (Qq (xs:=bc2) (c:=Qc.cells)) an) ?_;obtain ⟨o68,h69,h⟩:=Qd h;cases o68 with
 | exit0 v70 =>
  obtain rfl:=Qe h;exact T.last' (T.bl (i:=0) (by kernel_rfl) (by kernel_rfl) (f17n2_ok FUEL ba1 bc2 0 0 h69)) (tds:=[]) (m:=[]) (keep:=[6]) (st2:=(f17n1E ba1 bc2 (.norm v70)).2) (by kernel_rfl) an rfl
 | ret =>
  obtain rfl:=Qe h;exact T.last' (T.bl (i:=0) (by kernel_rfl) (by kernel_rfl) (f17n2_ok FUEL ba1 bc2 0 0 h69)) (tds:=[]) (m:=[]) (keep:=[4,5]) (st2:=(f17n1E ba1 bc2 .ret).2) (by kernel_rfl) an rfl
inductive f17n0O where
 | ret (v77:Int) (v78:Int)
def f17n0E(a1:List Qa)(a2:List Qc):f17n0O→Ex×Tr×Hp
 | .ret v77 v78=>(.ret,mkS [(4,(jI v77)),(5,(jI v78))],[])
def f17n0S(a1:List Qa)(a2:List Qc):Tr×Hp:=(Qar [(jL 4 Qa.cells a1),(jL 3 Qc.cells a2)] 0 .leaf,[])
noncomputable def f17n0(a1:List Qa)(a2:List Qc):Option f17n0O :=
 (f28 a1).bind fun x9 =>
 bif x9 then
  (f31 a2).bind fun x12 =>
  bif x12 then
   (f17n1 a1 a2).bind fun o72=>match o72 with
   | .norm v74=>bif decide (1125899906842624<v74) then
     some (.ret 0 14)
    else
     some (.ret v74 0)
   | .ret=>some (.ret 0 8)
  else
   some (.ret 0 8)
 else
  some (.ret 0 8)
theorem f17n0_ok(a1:List Qa)(a2:List Qc){o:f17n0O}(h:f17n0 a1 a2=some o):T Try.prog Try.f17.ntmps 0 c17 (f17n0S a1 a2) (·=f17n0E a1 a2 o):=by
 unfold f17n0 at h;obtain ⟨x9,h10,h⟩:=Qd h;rcases Qh h with ⟨h11,h⟩|⟨h11,h⟩
 ·obtain ⟨x12,h13,h⟩:=Qd h;rcases Qh h with ⟨h14,h⟩|⟨h14,h⟩
  ·refine rN Qg 3 [j3,(jF [4,5,6],[jH 1 (jB x9),jH 5 (jB x12),(7,.bool false)],[]),j3] [some false] [] [] [0,1,6] (f17n1S a1 a2) (ap4 (Qr h11) (ap (f28_ok a1 h10) (ap (f31_ok a2 h13) (ap (Qr h14) an)))) ?_;obtain ⟨o72,h73,h⟩:=Qd h;cases o72 with
   | norm v74 =>
    refine T.oneN (by kernel_rfl) (f17n1_ok a1 a2 h73) (st2:=(f17n1E a1 a2 (.norm v74)).2) rfl ?_;rcases Qh h with ⟨h76,h⟩|⟨h76,h⟩
    ·obtain rfl:=Qe h;exact rK Qg 1 [j3,j3] [some true] [] [] [4,5] .ret ((f17n0E a1 a2 (.ret 0 14)).2) (ap h76 an) rfl
    ·obtain rfl:=Qe h;exact rE Qg [j3,j3] [some false] [] [] [4,5] (.ret,(f17n0E a1 a2 (.ret v74 0)).2) (ap h76 an) rfl
   | ret =>
    obtain rfl:=Qe h;exact T.oneX' (by kernel_rfl) (f17n1_ok a1 a2 h73) (tds:=[]) (m:=[]) (keep:=[4,5]) (st2:=(f17n0E a1 a2 (.ret 0 8)).2) (by kernel_rfl) an rfl rfl
  ·obtain rfl:=Qe h;exact rK Qg 2 [j3,(jF [4,5,6],[jH 1 (jB x9),jH 5 (jB x12),(7,.bool false)],[]),j3] [some true] [] [] [4,5] .ret ((f17n0E a1 a2 (.ret 0 8)).2) (ap4 (Qr h11) (ap (f28_ok a1 h10) (ap (f31_ok a2 h13) (ap (Qah h14) an)))) rfl
 ·obtain rfl:=Qe h;exact rK Qg 2 [j3,(jT [4,5,6],[jH 1 (jB x9),(7,.bool true)],[]),j3] [none] [] [] [4,5] .ret ((f17n0E a1 a2 (.ret 0 8)).2) (ap4 (Qah h11) (ap (f28_ok a1 h10) an)) rfl
noncomputable def f17(a1:List Qa)(a2:List Qc):Option (Int×Int):=(f17n0 a1 a2).bind fun o=>match o with
 | .ret v77 v78=>some (v77,v78)
theorem f17_ok(a1:List Qa)(a2:List Qc){r:Int×Int}(h:f17 a1 a2=some r):Qo Try.prog false 17 [(jL 4 Qa.cells a1),(jL 3 Qc.cells a2)] [] (.tup [(jI r.1),(jI r.2)]) []:=by
 unfold f17 at h;obtain ⟨o,ho,h⟩:=Qd h;cases o with
 | ret v77 v78 =>
  obtain rfl:=Qe h;exact Qo.plain Qg (f:=Try.f17) (c:=c17) (by kernel_rfl) (by kernel_rfl) (by kernel_rfl) (by kernel_rfl) ((f17n0_ok a1 a2 ho).mono fun r e=>by subst e; exact ⟨.inl rfl,(.tup [(jI v77),(jI v78)]),(.tup [(jI v77),(jI v78)]),by kernel_rfl,by kernel_rfl,((Wk.refl _):Wk (.tup [(jI v77),(jI v78)]) (.tup [(jI v77),(jI v78)]))⟩)

noncomputable def c4:Code:=Try.f4.body.getD .skip
inductive f4n2O where
 | exit0 (v69:List Qa)
def f4n2E(ba1:List Qa)(bb2:List Qb)(bc3:List Qc)(bh4:List Int)(bl5:Bool)(bn6:(List Qc)×Int):f4n2O→Ex×Tr×Hp
 | .exit0 v69=>((.exit 0),mkS [(0,(jL 4 Qa.cells ba1)),(1,(jL 2 Qb.cells bb2)),(2,(jL 3 Qc.cells bc3)),(9,(jB bl5)),(10,(jL 3 Qc.cells bn6.1)),(11,(jI bn6.2)),(12,(.own 0))],[jR 4 Qa.cells v69])
def f4n2S(ba1:List Qa)(bb2:List Qb)(bc3:List Qc)(bh4:List Int)(bl5:Bool)(bn6:(List Qc)×Int)(v55:Int)(v56:List Qa):Tr×Hp:=(mkS [(0,(jL 4 Qa.cells ba1)),(1,(jL 2 Qb.cells bb2)),(2,(jL 3 Qc.cells bc3)),(3,(.pl (.sl .any 1 (bh4.map (cInt .i64))))),(9,(jB bl5)),(10,(jL 3 Qc.cells bn6.1)),(11,(jI bn6.2)),(12,(.own 0)),(13,(jI v55))],[jR 4 Qa.cells v56])
noncomputable def f4n2:Nat→List Qa→List Qb→List Qc→List Int→Bool→(List Qc)×Int→Int→List Qa→Option f4n2O
 | 0,_,_,_,_,_,_,_,_=>none
 | f+1,ba1,bb2,bc3,bh4,bl5,bn6,v55,v56 =>
  bif decide (v55<(v56.length:Int)) then
   bif decide (v55<(bh4.length:Int)) then
    (at? bh4 v55).bind fun x65 =>
    (at? v56 v55).bind fun x67 =>
    (f4n2 f ba1 bb2 bc3 bh4 bl5 bn6 (wr64 (v55+1)) (v56.set (Int.toNat v55) (Qa.mk x67.Name x67.Amount x65 x67.For)))
   else
    some (.exit0 v56)
  else
   some (.exit0 v56)
theorem f4n2_ok:∀(f:Nat)(ba1:List Qa)(bb2:List Qb)(bc3:List Qc)(bh4:List Int)(bl5:Bool)(bn6:(List Qc)×Int)(v55:Int)(v56:List Qa){o:f4n2O},f4n2 f ba1 bb2 bc3 bh4 bl5 bn6 v55 v56=some o→TL Try.prog Try.f4.ntmps 0 f (cL (cL (Qi 1 (cL (Qi 5 c4))))) (f4n2S ba1 bb2 bc3 bh4 bl5 bn6 v55 v56) (·=f4n2E ba1 bb2 bc3 bh4 bl5 bn6 o)
 | 0,_,_,_,_,_,_,_,_,o,h=>by rw [f4n2] at h; cases h
 | f+1,ba1,bb2,bc3,bh4,bl5,bn6,v55,v56,o,h=>by
  rw [f4n2] at h;refine TL.body (K:=fun s=>∃v55:Int,∃v56:List Qa,s=(f4n2S ba1 bb2 bc3 bh4 bl5 bn6 v55 v56)∧f4n2 f ba1 bb2 bc3 bh4 bl5 bn6 v55 v56=some o) ?_ (by rintro _ ⟨v55,v56,rfl,hk⟩; exact f4n2_ok f _ _ _ _ _ _ _ _ hk);rcases Qh h with ⟨h59,h⟩|⟨h59,h⟩
  ·rcases Qh h with ⟨h60,h⟩|⟨h60,h⟩
   ·obtain ⟨x65,h66,h⟩:=Qd h;obtain ⟨x67,h68,h⟩:=Qd h
    exact rE Qg [(jT [5,6,7,8],[(9,.bool true)],[(2,.val (jI (v56.length:Int))),(7,.val (jI (bh4.length:Int)))]),([],[(4,.idx (Int.toNat v55) ((cInt .i64) x65)),(6,.at_ (Int.toNat v55)),(8,.idx 0 (Qa.cells x67))],[(8,.row 0 ((v56.set (Int.toNat v55) (Qa.mk x67.Name x67.Amount x65 x67.For)).map Qa.cells))]),j3] [some true] [] [0] [0,1,2,3,9,10,11,12,13] (.norm,(f4n2S ba1 bb2 bc3 bh4 bl5 bn6 (wr64 (v55+1)) (v56.set (Int.toNat v55) (Qa.mk x67.Name x67.Amount x65 x67.For)))) (ap (Qq (xs:=v56) (c:=Qa.cells)) (ap3 h59 (ap (Qq (xs:=bh4) (c:=(cInt .i64))) (ap2 h59 (ap h60 (ap (Qf h66).1 (ap (Qk (cInt .i64) (Qf h66).2) (ap (Qf h68).1 (ap (Qs Qa.cells (Qf h68).2) (ap (Qk Qa.cells (Qf h68).2) (ap (set_cv (xs:=v56) (c:=Qa.cells) (k:=(Int.toNat v55)) (x:=(Qa.mk x67.Name x67.Amount x65 x67.For))) an))))))))))) (Qm.norm ⟨(wr64 (v55+1)),(v56.set (Int.toNat v55) (Qa.mk x67.Name x67.Amount x65 x67.For)),rfl,h⟩)
   ·obtain rfl:=Qe h;exact rK Qg 1 [(jT [5,6,7,8],[(9,.bool true)],[(2,.val (jI (v56.length:Int))),(7,.val (jI (bh4.length:Int)))])] [some false] [] [0] [0,1,2,9,10,11,12] (.exit 0) ((f4n2E ba1 bb2 bc3 bh4 bl5 bn6 (.exit0 v56)).2) (ap (Qq (xs:=v56) (c:=Qa.cells)) (ap3 h59 (ap (Qq (xs:=bh4) (c:=(cInt .i64))) (ap2 h59 (ap h60 an))))) (Qm.out rfl rfl)
  ·obtain rfl:=Qe h;exact rK Qg 1 [(jF [5,6,7,8],[(9,.bool false)],[(2,.val (jI (v56.length:Int)))])] [none] [] [0] [0,1,2,9,10,11,12] (.exit 0) ((f4n2E ba1 bb2 bc3 bh4 bl5 bn6 (.exit0 v56)).2) (ap (Qq (xs:=v56) (c:=Qa.cells)) (ap h59 (ap4 h59 an))) (Qm.out rfl rfl)
inductive f4n1O where
 | norm (v73:List Qa)
def f4n1E(ba1:List Qa)(bb2:List Qb)(bc3:List Qc)(bh4:List Int)(bl5:Bool)(bn6:(List Qc)×Int)(ba7:List Qa):f4n1O→Ex×Tr×Hp
 | .norm v73=>(.norm,mkS [(0,(jL 4 Qa.cells ba1)),(1,(jL 2 Qb.cells bb2)),(2,(jL 3 Qc.cells bc3)),(9,(jB bl5)),(10,(jL 3 Qc.cells bn6.1)),(11,(jI bn6.2)),(12,(.own 0))],[jR 4 Qa.cells v73])
def f4n1S(ba1:List Qa)(bb2:List Qb)(bc3:List Qc)(bh4:List Int)(bl5:Bool)(bn6:(List Qc)×Int)(ba7:List Qa):Tr×Hp:=(mkS [(0,(jL 4 Qa.cells ba1)),(1,(jL 2 Qb.cells bb2)),(2,(jL 3 Qc.cells bc3)),(3,(.pl (.sl .any 1 (bh4.map (cInt .i64))))),(9,(jB bl5)),(10,(jL 3 Qc.cells bn6.1)),(11,(jI bn6.2)),(12,(.own 0))],[jR 4 Qa.cells ba7])
noncomputable def f4n1(ba1:List Qa)(bb2:List Qb)(bc3:List Qc)(bh4:List Int)(bl5:Bool)(bn6:(List Qc)×Int)(ba7:List Qa):Option f4n1O :=
 (f4n2 FUEL ba1 bb2 bc3 bh4 bl5 bn6 0 ba7).bind fun o70=>match o70 with
 | .exit0 v72=>some (.norm v72)
theorem f4n1_ok(ba1:List Qa)(bb2:List Qb)(bc3:List Qc)(bh4:List Int)(bl5:Bool)(bn6:(List Qc)×Int)(ba7:List Qa){o:f4n1O}(h:f4n1 ba1 bb2 bc3 bh4 bl5 bn6 ba7=some o):T Try.prog Try.f4.ntmps 0 (cL (Qi 5 c4)) (f4n1S ba1 bb2 bc3 bh4 bl5 bn6 ba7) (·=f4n1E ba1 bb2 bc3 bh4 bl5 bn6 ba7 o):=by
 unfold f4n1 at h;refine rN Qg 1 [j3] [] [] [0] [0,1,2,3,9,10,11,12,13] (f4n2S ba1 bb2 bc3 bh4 bl5 bn6 0 ba7) an ?_;obtain ⟨o70,h71,h⟩:=Qd h;cases o70 with
 | exit0 v72 =>
  obtain rfl:=Qe h;exact T.last' (T.bl (i:=0) (by kernel_rfl) (by kernel_rfl) (f4n2_ok FUEL ba1 bb2 bc3 bh4 bl5 bn6 0 ba7 h71)) (tds:=[]) (m:=[0]) (keep:=[0,1,2,9,10,11,12]) (st2:=(f4n1E ba1 bb2 bc3 bh4 bl5 bn6 ba7 (.norm v72)).2) (by kernel_rfl) an rfl
inductive f4n0O where
 | ret (v160:Bool)
def f4n0E(a1:List Qa)(a2:List Qb)(a3:List Qc)(a4:List Int):f4n0O→Ex×Tr×Hp
 | .ret v160=>(.ret,mkS [(8,(jB v160))],[])
def f4n0S(a1:List Qa)(a2:List Qb)(a3:List Qc)(a4:List Int):Tr×Hp:=(Qar [(jL 4 Qa.cells a1),(jL 2 Qb.cells a2),(jL 3 Qc.cells a3),(.pl (.sl .any 1 (a4.map (cInt .i64))))] 0 .leaf,[])
noncomputable def f4n0(a1:List Qa)(a2:List Qb)(a3:List Qc)(a4:List Int):Option f4n0O :=
 f9.bind fun x7 =>
 (f10 a1 a2 a3).bind fun x13 =>
 bif x13 then
  some (.ret x7)
 else
  bif x7 then
   (f12r1 a1).bind fun x21 =>
   (f11 x21 a2).bind fun x23 =>
   (f12r1 a1).bind fun x27 =>
   (f4n1 a1 a2 a3 a4 x7 x23 x27).bind fun o74=>match o74 with
   | .norm v76=>(f13 a1 a2).bind fun x83 =>
    bif decide (x83=0) then
     (f13 v76 a2).bind fun x86 =>
     bif decide (x86=0) then
      (f11 v76 a2).bind fun x91 =>
      bif decide (x23.2=x91.2) then
       bif decide (x23.2=0) then
        (f17 a1 x23.1).bind fun x101 =>
        (f17 a1 x91.1).bind fun x105 =>
        bif decide (x101.2=0) then
         bif decide (x105.2=0) then
          bif decide (x105.1<x101.1) then
           some (.ret false)
          else
           (f15 a1 a2 x23.1).bind fun x134 =>
           bif x134 then
            (f15 a1 a2 x91.1).bind fun x137 =>
            bif x137 then
             (f15 a1 a2 a3).bind fun x149 =>
             bif x149 then
              (f17 a1 a3).bind fun x154 =>
              bif decide (x154.2=0) then
               some (.ret (decide (x101.1≤x154.1)))
              else
               some (.ret false)
             else
              some (.ret x7)
            else
             some (.ret false)
           else
            some (.ret false)
         else
          some (.ret false)
        else
         some (.ret false)
       else
        (f15 a1 a2 a3).bind fun x158 =>
        some (.ret (!x158))
      else
       some (.ret false)
     else
      some (.ret true)
    else
     some (.ret (decide (x23.2=8)))
  else
   some (.ret x7)
theorem f4n0_ok(a1:List Qa)(a2:List Qb)(a3:List Qc)(a4:List Int){o:f4n0O}(h:f4n0 a1 a2 a3 a4=some o):T Try.prog Try.f4.ntmps 0 c4 (f4n0S a1 a2 a3 a4) (·=f4n0E a1 a2 a3 a4 o):=by
 unfold f4n0 at h;obtain ⟨x7,h8,h⟩:=Qd h;obtain ⟨x13,h14,h⟩:=Qd h;rcases Qh h with ⟨h15,h⟩|⟨h15,h⟩
 ·obtain rfl:=Qe h;exact rK Qg 3 [j3,([],[jH 0 (jB x7)],[]),([(5,true),(6,true)],[jH 3 (jB x13),(7,.bool true)],[]),j3] [none] [] [] [8] .ret ((f4n0E a1 a2 a3 a4 (.ret x7)).2) (ap (f9_ok h8) (ap3 h15 (ap (f10_ok a1 a2 a3 h14) an))) rfl
 ·rcases Qh h with ⟨h16,h⟩|⟨h16,h⟩
  ·obtain ⟨x21,h22,h⟩:=Qd h;obtain ⟨x23,h24,h⟩:=Qd h;obtain ⟨x27,h28,h⟩:=Qd h;refine rN Qg 5 [j3,([],[jH 0 (jB x7)],[]),([(5,false),(6,false)],[jH 3 (jB x13),(7,.bool false)],[]),([],[(1,.call (.own 0) [jR 4 Qa.cells x21]),jH 3 (.tup [(jL 3 Qc.cells x23.1),(jI x23.2)])],[]),([],[(1,.call (.own 1) [none,jR 4 Qa.cells x27])],[])] [some false] [] [1] [0,1,2,3,9,10,11,12] (f4n1S a1 a2 a3 a4 x7 x23 x27) (ap (f9_ok h8) (ap3 h15 (ap (f10_ok a1 a2 a3 h14) (ap (Qr h16) (ap (f12r1_ok a1 h22) (ap (f11_ok x21 a2 h24) (ap (Qo.rn 1 [] (f12r1_ok a1 h28)) an))))))) ?_;obtain ⟨o74,h75,h⟩:=Qd h;cases o74 with
   | norm v76 =>
    refine T.oneN (by kernel_rfl) (f4n1_ok a1 a2 a3 a4 x7 x23 x27 h75) (st2:=(f4n1E a1 a2 a3 a4 x7 x23 x27 (.norm v76)).2) rfl ?_;obtain ⟨x83,h84,h⟩:=Qd h;rcases Qh h with ⟨h85,h⟩|⟨h85,h⟩
    ·obtain ⟨x86,h87,h⟩:=Qd h;rcases Qh h with ⟨h88,h⟩|⟨h88,h⟩
     ·obtain ⟨x91,h92,h⟩:=Qd h;rcases Qh h with ⟨h94,h⟩|⟨h94,h⟩
      ·rcases Qh h with ⟨h98,h⟩|⟨h98,h⟩
       ·obtain ⟨x101,h102,h⟩:=Qd h;obtain ⟨x105,h106,h⟩:=Qd h;refine rN Qg 6 [(jF [5,6,7,8],[jH 2 (jI x83),jH 7 (jI x86),(9,.bool false)],[]),([],[jH 2 (.tup [(jL 3 Qc.cells x91.1),(jI x91.2)])],[]),j3,j3,([],[jH 2 (.tup [(jI x101.1),(jI x101.2)])],[]),([],[jH 2 (.tup [(jI x105.1),(jI x105.2)])],[])] [some false,some false,some false] [] [] [0,1,2,9,10,14,16,17,18,19] (mkS [(0,(jL 4 Qa.cells a1)),(1,(jL 2 Qb.cells a2)),(2,(jL 3 Qc.cells a3)),(9,(jB x7)),(10,(jL 3 Qc.cells x23.1)),(14,(jL 3 Qc.cells x91.1)),(16,(jI x101.1)),(17,(jI x101.2)),(18,(jI x105.1)),(19,(jI x105.2))],[]) (ap (Qr h85) (ap4 (Qr h85) (ap (f13_ok a1 a2 h84) (ap (f13_ok v76 a2 h87) (ap (Qr h88) (ap (f11_ok v76 a2 h92) (ap (Qr h94) (ap (Qr h98) (ap (f17_ok a1 x23.1 h102) (ap (f17_ok a1 x91.1 h106) an)))))))))) ?_
        rcases Qh h with ⟨h131,h⟩|⟨h131,h⟩
        ·rcases Qh h with ⟨h132,h⟩|⟨h132,h⟩
         ·rcases Qh h with ⟨h133,h⟩|⟨h133,h⟩
          ·obtain rfl:=Qe h;exact rK Qg 1 [(jF [3,4,7,8,9]++jT [12,13,14,15,16],[(5,.bool false),(10,.bool false),(17,.bool true)],[]),j3] [none] [] [] [8] .ret ((f4n0E a1 a2 a3 a4 (.ret false)).2) (ap3 (Qr h131) (ap4 (Qr h132) (ap2 h133 (ap4 h133 an)))) rfl
          ·obtain ⟨x134,h135,h⟩:=Qd h;rcases Qh h with ⟨h136,h⟩|⟨h136,h⟩
           ·obtain ⟨x137,h138,h⟩:=Qd h;rcases Qh h with ⟨h139,h⟩|⟨h139,h⟩
            ·refine rN Qg 1 [(jF [3,4,7,8,9,12,13,14,15,16,19,20,21,22,23],[(5,.bool false),(10,.bool false),jH 15 (jB x134),(17,.bool false),jH 22 (jB x137),(24,.bool false)],[])] [some false] [] [] [0,1,2,9,16] (mkS [(0,(jL 4 Qa.cells a1)),(1,(jL 2 Qb.cells a2)),(2,(jL 3 Qc.cells a3)),(9,(jB x7)),(16,(jI x101.1))],[]) (ap3 (Qr h131) (ap4 (Qr h132) (ap2 h133 (ap4 h133 (ap2 (Qr h136) (ap4 (Qr h136) (ap (f15_ok a1 a2 x23.1 h135) (ap (f15_ok a1 a2 x91.1 h138) (ap (Qr h139) an))))))))) ?_;obtain ⟨x149,h150,h⟩:=Qd h;rcases Qh h with ⟨h151,h⟩|⟨h151,h⟩
             ·obtain ⟨x154,h155,h⟩:=Qd h;rcases Qh h with ⟨h157,h⟩|⟨h157,h⟩
              ·obtain rfl:=Qe h;exact rE Qg [([],[jH 3 (jB x149)],[]),([],[jH 2 (.tup [(jI x154.1),(jI x154.2)])],[]),(jT [2,3,6,7,8],[(4,.bool true),(9,.bool true)],[])] [some false] [] [] [8] (.ret,(f4n0E a1 a2 a3 a4 (.ret (decide (x101.1≤x154.1)))).2) (ap (f15_ok a1 a2 a3 h150) (ap (Qr h151) (ap (f17_ok a1 a3 h155) (ap3 h16 (ap4 h157 an))))) rfl
              ·obtain rfl:=Qe h;exact rE Qg [([],[jH 3 (jB x149)],[]),([],[jH 2 (.tup [(jI x154.1),(jI x154.2)])],[]),(jF [6,7,8]++jT [2,3],[(4,.bool true),(9,.bool false)],[])] [some false] [] [] [8] (.ret,(f4n0E a1 a2 a3 a4 (.ret false)).2) (ap (f15_ok a1 a2 a3 h150) (ap (Qr h151) (ap (f17_ok a1 a3 h155) (ap3 h16 (ap4 h157 an))))) rfl
             ·obtain rfl:=Qe h;exact rK Qg 1 [([],[jH 3 (jB x149)],[]),j3] [some true] [] [] [8] .ret ((f4n0E a1 a2 a3 a4 (.ret x7)).2) (ap (f15_ok a1 a2 a3 h150) (ap (Qah h151) an)) rfl
            ·obtain rfl:=Qe h;exact rK Qg 1 [(jF [3,4,7,8,9,12,13,14,15,16,19,20,21,22,23],[(5,.bool false),(10,.bool false),jH 15 (jB x134),(17,.bool false),jH 22 (jB x137),(24,.bool false)],[]),j3] [some true] [] [] [8] .ret ((f4n0E a1 a2 a3 a4 (.ret false)).2) (ap3 (Qr h131) (ap4 (Qr h132) (ap2 h133 (ap4 h133 (ap2 (Qr h136) (ap4 (Qr h136) (ap (f15_ok a1 a2 x23.1 h135) (ap (f15_ok a1 a2 x91.1 h138) (ap (Qah h139) an))))))))) rfl
           ·obtain rfl:=Qe h;exact rK Qg 1 [(jF [3,4,7,8,9,12,13,14,15,16]++jT [19,20,21,22,23],[(5,.bool false),(10,.bool false),jH 15 (jB x134),(17,.bool false),(24,.bool true)],[]),j3] [none] [] [] [8] .ret ((f4n0E a1 a2 a3 a4 (.ret false)).2) (ap3 (Qr h131) (ap4 (Qr h132) (ap2 h133 (ap4 h133 (ap2 (Qah h136) (ap4 (Qah h136) (ap (f15_ok a1 a2 x23.1 h135) an))))))) rfl
         ·obtain rfl:=Qe h;exact rK Qg 1 [(jF [3,4]++jT [7,8,9],[(5,.bool false),(10,.bool true)],[]),j3] [none] [] [] [8] .ret ((f4n0E a1 a2 a3 a4 (.ret false)).2) (ap3 (Qr h131) (ap4 (Qah h132) an)) rfl
        ·obtain rfl:=Qe h;exact rK Qg 1 [([(3,true),(4,true)],[(5,.bool true)],[]),j3] [none] [] [] [8] .ret ((f4n0E a1 a2 a3 a4 (.ret false)).2) (ap3 (Qah h131) an) rfl
       ·obtain ⟨x158,h159,h⟩:=Qd h;obtain rfl:=Qe h;exact rK Qg 4 [(jF [5,6,7,8],[jH 2 (jI x83),jH 7 (jI x86),(9,.bool false)],[]),([],[jH 2 (.tup [(jL 3 Qc.cells x91.1),(jI x91.2)])],[]),j3,j3,(jT [2,3,4,5,6],[jH 5 (jB x158),(7,.bool true)],[])] [some false,some false,some true] [] [] [8] .ret ((f4n0E a1 a2 a3 a4 (.ret (!x158))).2) (ap (Qr h85) (ap4 (Qr h85) (ap (f13_ok a1 a2 h84) (ap (f13_ok v76 a2 h87) (ap (Qr h88) (ap (f11_ok v76 a2 h92) (ap (Qr h94) (ap (Qah h98) (ap2 h16 (ap4 h16 (ap (f15_ok a1 a2 a3 h159) an))))))))))) rfl
      ·obtain rfl:=Qe h;exact rK Qg 3 [(jF [5,6,7,8],[jH 2 (jI x83),jH 7 (jI x86),(9,.bool false)],[]),([],[jH 2 (.tup [(jL 3 Qc.cells x91.1),(jI x91.2)])],[]),j3,j3] [some false,some true] [] [] [8] .ret ((f4n0E a1 a2 a3 a4 (.ret false)).2) (ap (Qr h85) (ap4 (Qr h85) (ap (f13_ok a1 a2 h84) (ap (f13_ok v76 a2 h87) (ap (Qr h88) (ap (f11_ok v76 a2 h92) (ap (Qah h94) an))))))) rfl
     ·obtain rfl:=Qe h;exact rK Qg 1 [(jF [5,6,7,8],[jH 2 (jI x83),jH 7 (jI x86),(9,.bool false)],[]),(jT [2,3,4,5,6,7,8,9],[jH 4 (jI x83),(9,.bool true),(10,.bool true)],[])] [some true] [] [] [8] .ret ((f4n0E a1 a2 a3 a4 (.ret true)).2) (ap (Qr h85) (ap4 (Qr h85) (ap (f13_ok a1 a2 h84) (ap (f13_ok v76 a2 h87) (ap (Qah h88) (ap h16 (ap4 h16 (ap2 h85 (ap h16 (ap h85 (ap h16 (ap (f13_ok a1 a2 h84) an)))))))))))) rfl
    ·obtain rfl:=Qe h;exact rK Qg 1 [(jT [5,6,7,8],[jH 2 (jI x83),(9,.bool true)],[]),(jF [7,8]++jT [2,3,4,5,6,9],[jH 4 (jI x83),(9,.bool false),(10,.bool true)],[])] [none] [] [] [8] .ret ((f4n0E a1 a2 a3 a4 (.ret (decide (x23.2=8)))).2) (ap (Qah h85) (ap4 (Qah h85) (ap (f13_ok a1 a2 h84) (ap h16 (ap4 h16 (ap2 h85 (ap h16 (ap h85 (ap h16 (ap (f13_ok a1 a2 h84) an)))))))))) rfl
  ·obtain rfl:=Qe h;exact rK Qg 3 [j3,([],[jH 0 (jB x7)],[]),([(5,false),(6,false)],[jH 3 (jB x13),(7,.bool false)],[]),j3] [some true] [] [] [8] .ret ((f4n0E a1 a2 a3 a4 (.ret x7)).2) (ap (f9_ok h8) (ap3 h15 (ap (f10_ok a1 a2 a3 h14) (ap (Qah h16) an)))) rfl
noncomputable def f4(a1:List Qa)(a2:List Qb)(a3:List Qc)(a4:List Int):Option Bool:=(f4n0 a1 a2 a3 a4).bind fun o=>match o with
 | .ret v160=>some v160
theorem f4_ok(a1:List Qa)(a2:List Qb)(a3:List Qc)(a4:List Int){r:Bool}(h:f4 a1 a2 a3 a4=some r):Qo Try.prog false 4 [(jL 4 Qa.cells a1),(jL 2 Qb.cells a2),(jL 3 Qc.cells a3),(.pl (.sl .any 1 (a4.map (cInt .i64))))] [] (jB r) []:=by
 unfold f4 at h;obtain ⟨o,ho,h⟩:=Qd h;cases o with
 | ret v160 =>
  obtain rfl:=Qe h;exact Qo.plain Qg (f:=Try.f4) (c:=c4) (by kernel_rfl) (by kernel_rfl) (by kernel_rfl) (by kernel_rfl) ((f4n0_ok a1 a2 a3 a4 ho).mono fun r e=>by subst e; exact ⟨.inl rfl,(jB v160),(jB v160),by kernel_rfl,by kernel_rfl,((Wk.refl _):Wk (jB v160) (jB v160))⟩)
end Go.Proofs.Ytinabbgjignkbaa
namespace Go.Proofs.Ytinabbgjignkbaa
set_option linter.unusedVariables false
set_option linter.unusedSimpArgs false
set_option maxRecDepth 100000
open Go.RowKit


noncomputable def c6:Code:=Try.f6.body.getD .skip
end Go.Proofs.Ytinabbgjignkbaa
namespace Go.Proofs.Ytinabbgjignkbaa
set_option linter.unusedVariables false
set_option linter.unusedSimpArgs false
set_option maxRecDepth 100000
open Go.RowKit
noncomputable def c7:Code:=Try.f7.body.getD .skip

end Go.Proofs.Ytinabbgjignkbaa
namespace Go.Proofs.Ytinabbgjignkbaa
set_option linter.unusedVariables false
set_option linter.unusedSimpArgs false
open Go.RowKit
section
variable {c:Qa→Qa→Int} (hc:∀x y,f42 x y=some (c x y)) (o:SWo fun x y=>decide (c x y<0))
abbrev st_lt(c:Qa→Qa→Int):Qa→Qa→Bool:=fun x y=>decide (c x y<0)

include hc o in
theorem st_ins_in(a b i:Int):∀(n:Nat)(S P R:List Qa)(x:Qa)(f:Nat),S.length=n→n<f→P.length+n≤1000000→Sd (st_lt c) S →
  ∃S',f67r1n2 f a b i ((P.length+n:Nat):Int) (P++(S++x::R))=some (.exit2 (P++(S'++R)))∧Sd (st_lt c) S'∧Cl (st_lt c) (S++[x]) S'∨a≠(P.length:Int)
 | _,S,P,R,x,0,_,h,_,_=>absurd h (Nat.not_lt_zero _)
 | n,S,P,R,x,f+1,hn,hf,hb,hs=>by
  by_cases ha:a=(P.length:Int)
  ·subst ha;rcases List.eq_nil_or_concat S with rfl | ⟨S0,y,rfl⟩
   ·refine ⟨[x],.inl ⟨?_,by simp,Cl.refl _⟩⟩;have:n=0:=by simpa using hn.symm
    subst this;rw [f67r1n2,decide_eq_false (by omega),cond_false]; simp
   ·rw [List.concat_eq_append] at hn hs ⊢;have hn':n=S0.length+1:=by simpa using hn.symm
    subst hn';have e1:P++((S0++[y])++x::R)=(P++S0)++y::x::R:=by simp
    have e2:P++((S0++[y])++x::R)=((P++S0)++[y])++x::R:=by simp
    have k1:wr64 (((P.length+(S0.length+1):Nat):Int)-1)=((P.length+S0.length:Nat):Int):=by rw [wrIn (by omega) (by omega)]; omega
    rw [f67r1n2,decide_eq_true (by omega),cond_true,k1,at_len (k:=P.length+(S0.length+1)) e2 (by simp<;>omega),at_len (k:=P.length+S0.length) e1 (by simp)];simp only [Option.bind_some,hc];rw [show (Int.toNat ((P.length+(S0.length+1):Nat):Int))=P.length+(S0.length+1) from rfl,show (Int.toNat ((P.length+S0.length:Nat):Int))=P.length+S0.length from rfl,set_len (k:=P.length+(S0.length+1)) (y:=y) e2 (by simp<;>omega)];have e3:((P++S0)++[y])++y::R=(P++S0)++y::y::R:=by simp
    rw [at_len (k:=P.length+S0.length) e3 (by simp),set_len (k:=P.length+S0.length) (y:=x) e3 (by simp)];cases hlt:decide (c x y<0) with
    | true =>
     have hs':=List.pairwise_append.1 hs;rcases st_ins_in (P.length:Int) b i S0.length S0 P (y::R) x f rfl (by omega) (by omega) hs'.1 with ⟨S',h | h⟩
     ·obtain ⟨h1,h2,h3⟩:=h;simp only [cond_true,Option.bind_some];rw [show (P++S0)++x::y::R=P++(S0++x::(y::R)) by simp,h1];refine ⟨S'++[y],.inl ⟨by simp,h2.app (by simp) fun z hz w hw=>?_,?_⟩⟩
      ·rw [List.mem_singleton.1 hw];rcases List.mem_append.1 (h3.mem.1 hz) with hz | hz
       ·exact hs'.2.2 z hz y (by simp)
       ·rw [List.mem_singleton.1 hz]; exact o.asym hlt
      ·have e:=(Cl.refl (lt:=st_lt c) S0).app (Cl.swap (lt:=st_lt c) (u:=[y]) (v:=[x]) o (fun a ha b hb=>by rw [List.mem_singleton.1 ha,List.mem_singleton.1 hb]; exact hlt));have e':=e.trans (by simpa using h3.app (Cl.refl (lt:=st_lt c) [y]):Cl (st_lt c) (S0++([x]++[y])) (S'++[y]));simpa using e'
     ·exact absurd rfl h
    | false =>
     refine ⟨(S0++[y])++[x],.inl ⟨by simp,hs.app (by simp) fun z hz w hw=>?_,Cl.refl _⟩⟩;rw [List.mem_singleton.1 hw];rcases List.mem_append.1 hz with hz | hz
     ·exact o.nt hlt ((List.pairwise_append.1 hs).2.2 z hz y (by simp))
     ·rw [List.mem_singleton.1 hz]; exact hlt
  ·exact ⟨[],.inr ha⟩
include hc o in
theorem st_ins_out:∀(X S P R:List Qa)(f:Nat),X.length<f→P.length+S.length+X.length≤1000000→Sd (st_lt c) S →
  ∃S',f67r1n3 f (P.length:Int) ((P.length+S.length+X.length:Nat):Int) ((P.length+S.length:Nat):Int) (P++(S++(X++R)))=some (.exit0 (P++(S'++R)))∧Sd (st_lt c) S'∧Cl (st_lt c) (S++X) S'
 | _,S,P,R,0,h,_,_=>absurd h (Nat.not_lt_zero _)
 | [],S,P,R,f+1,_,_,hs=>⟨S,by rw [f67r1n3,decide_eq_false (by simp),cond_false]; simp,hs,by simpa using Cl.refl _⟩
 | x::X,S,P,R,f+1,hf,hb,hs=>by
  simp only [List.length_cons] at hf hb;rcases st_ins_in hc o (P.length:Int) ((P.length+S.length+(x::X).length:Nat):Int) ((P.length+S.length:Nat):Int) S.length S P (X++R) x FUEL rfl (Qbr (Nat.le_trans (by omega:S.length≤1000000) (by unfold maxLen; decide))) (by omega) hs with ⟨S1,h | h⟩
  ·obtain ⟨h1,h2,h3⟩:=h;have hl:=h3.len;simp only [List.length_append,List.length_cons,List.length_nil] at hl;obtain ⟨S',k1,k2,k3⟩:=st_ins_out X S1 P R f (by omega) (by omega) h2;refine ⟨S',?_,k2,?_⟩
   ·rw [f67r1n3,decide_eq_true (by simp only [List.length_cons]; omega),cond_true];unfold f67r1n1;rw [show P++(S++(x::X++R))=P++(S++x::(X++R)) by simp,h1];simp only [Option.bind_some];rw [show wr64 (((P.length+S.length:Nat):Int)+1)=((P.length+S1.length:Nat):Int) by rw [wrIn (by omega) (by omega)]; omega];rw [show ((P.length+S.length+(x::X).length:Nat):Int)=((P.length+S1.length+X.length:Nat):Int) by simp only [List.length_cons]; omega];exact k1
   ·have:=(h3.app (Cl.refl (lt:=st_lt c) X)).trans k3;simpa using this
  ·exact absurd rfl h
include hc o in
theorem st_ins_ok(P X R:List Qa)(hb:P.length+X.length≤1000000):f67r1 (P.length:Int) ((P.length+X.length:Nat):Int) (P++(X++R))=some (P++(sortS (st_lt c) X++R)):=by
 have main:f67r1n3 FUEL (P.length:Int) ((P.length+X.length:Nat):Int) (wr64 ((P.length:Int)+1)) (P++(X++R))=some (.exit0 (P++(sortS (st_lt c) X++R))):=by
  rw [show wr64 ((P.length:Int)+1)=((P.length+1:Nat):Int) by rw [wrIn (by omega) (by omega)]; omega];have hF:∀n:Nat,n≤1000000→n<FUEL:=fun n hn=>Qbr (Nat.le_trans hn (by unfold maxLen; decide));cases X with
  | nil =>
   have:FUEL=(FUEL-1)+1:=by decide
   rw [this,f67r1n3,decide_eq_false (by simp<;>omega),cond_false]; rfl
  | cons x X =>
   simp only [List.length_cons] at hb;obtain ⟨S',k1,k2,k3⟩:=st_ins_out hc o X [x] P R FUEL (hF _ (by omega)) (by simp<;>omega) (by simp);rw [sortS_of o k2 k3] at k1;simp only [List.length_cons,List.length_nil,List.cons_append,List.nil_append] at k1 ⊢;rw [show P.length+(X.length+1)=P.length+(0+1)+X.length by omega,show P.length+1=P.length+(0+1) by omega];exact k1
 unfold f67r1 f67r1n0;rw [main]; rfl
end

end Go.Proofs.Ytinabbgjignkbaa
namespace Go.Proofs.Ytinabbgjignkbaa
set_option linter.unusedVariables false
set_option linter.unusedSimpArgs false
open Go.RowKit
abbrev AA:=Qa
abbrev AC:=Qb
abbrev AU:=Qc
theorem Qai{α:Type}{b:Bool}(h:b=true)(k:Option α):req b k=k:=by rw [h]; rfl
theorem bd_{α β:Type}(a:α)(k:α→Option β):(some a).bind k=k a:=rfl

theorem f66_eq(c:Int):f66 c=some (ltrI c):=by
 unfold f66 f66n0 ltrI;cases decide (97≤c)<;>cases decide (c≤122)<;>cases decide (65≤c)<;>cases decide (c≤90)<;>rfl
theorem f50n2_eq{s:ByteArray}{k:Int}{b:UInt8}(h:at? s.data.toList k=some b):f50n2 s k=some (bif chB b then .norm else .ret):=by
 have h3:f50n3 s b k=some (.norm (!(chB b))):=by
  unfold f50n3 chB othI;rw [f66_eq,ltNot,ltNot];simp only [Option.bind_some];cases ltrI b.toNat<;>cases decide ((48:Int)≤(b.toNat:Int))<;>cases decide ((b.toNat:Int)≤57)<;>cases decide ((b.toNat:Int)=95)<;>cases decide ((b.toNat:Int)=45)<;>rfl
 unfold f50n2;rw [h];simp only [Option.bind_some,h3];cases chB b<;>rfl
theorem f50n4_at(s:ByteArray)(hs:s.data.toList.length≤1000):∀(r:List UInt8)(f k:Nat),s.data.toList.drop k=r→r.length<f→f50n4 f s (k:Int)=some (bif r.all chB then .exit0 else .ret)
 | _,0,_,_,h=>absurd h (Nat.not_lt_zero _)
 | [],f+1,k,hd,_=>by
  have:=Qan hd;rw [f50n4,sizeList,decide_eq_false (by omega),cond_false]; rfl
 | b::r,f+1,k,hd,hf=>by
  obtain ⟨h1,h2,h3⟩:=dropAt hd;rw [f50n4,sizeList,decide_eq_true (by omega),cond_true,f50n2_eq h1,List.all_cons];cases chB b with
  | false=>rfl
  | true =>
   simp only [cond_true,Option.bind_some,Bool.true_and];rw [wrSucc (by omega)];exact f50n4_at s hs r f (k+1) h3 (by simpa using hf)
theorem f50_eq(s:ByteArray):f50 s=some (nmB s):=by
 unfold f50 f50n0 nmB;rw [sizeList]
 by_cases hs:s.data.toList.length≤40
 ·have h1:f50n1 s=some (bif s.data.toList.all chB then .norm else .ret):=by
   unfold f50n1;have:=f50n4_at s (by omega) s.data.toList FUEL 0 List.drop_zero (Qac (by omega));rw [show ((0:Nat):Int)=0 from rfl] at this;rw [this];cases s.data.toList.all chB<;>rfl
  rw [h1];generalize s.data.toList=l at hs;rw [decide_eq_false (by omega:¬(40:Int)<(l.length:Int))];cases l with
  | nil=>rfl
  | cons b r =>
   have h0:at? (b::r) 0=some b:=rfl;rw [decide_eq_false (by simp; omega:¬(((b::r).length:Nat):Int)<1),h0];simp only [cond_false,Option.bind_some,f66_eq,isNm,decide_eq_true hs,Bool.true_and,List.all_cons,chB];cases ltrI b.toNat<;>cases othI b.toNat<;>cases r.all chB<;>rfl
 ·rw [decide_eq_false (by omega:¬((s.data.toList.length:Nat):Int)<1),decide_eq_true (by omega:(40:Int)<((s.data.toList.length:Nat):Int))];have:isNm s.data.toList=false:=by
   generalize s.data.toList=l at hs;cases l with
   | nil=>rfl
   | cons b r=>simp only [isNm,decide_eq_false hs,Bool.false_and]
  rw [this]; rfl
theorem f53_eq(a:Int):f53 a=some false:=by unfold f53 f53n0; simp
theorem f65_eq(a:ByteArray):f65 a=some false:=by unfold f65 f65n0; simp [Qbp]
theorem f43_eq(a b:Int):f43 a b=some (cmpI a b):=by
 unfold f43 f43n0 cmpI;rw [f53_eq,f53_eq];simp only [Option.bind_some,cond_false];cases decide (a<b)<;>cases decide (b<a)<;>rfl
theorem f49_eq(a b:ByteArray):f49 a b=some (cmpB a b):=by
 unfold f49 f49n0 cmpB;rw [f65_eq,f65_eq];simp only [Option.bind_some,cond_false];cases slt a b<;>cases seq a b<;>rfl
theorem cmpOr_zero{a b:Int} : cmpOr a b=0↔a=0∧b=0:=by
 unfold cmpOr
 by_cases h:a=0
 ·rw [decide_eq_true h]; simp [h]
 ·rw [decide_eq_false h]; simp [h]
theorem f48_eq(x y:Int):f48 [x,y]=some (cmpOr x y):=by
 unfold f48 f48n0 f48n1 cmpOr;rw [f48n2_run [x,y] (Qbo (by simp))]
 by_cases hx:x=0
 ·by_cases hy:y=0
  ·subst hx hy; rfl
  ·subst hx; simp only [f48n2L,decide_eq_false hy,decide_true,cond_true,cond_false,Option.bind_some]
 ·simp only [f48n2L,decide_eq_false hx,cond_false,Option.bind_some]

def ordN:Option ByteArray→ByteArray→Bool
 | none,_=>true
 | some p,x=>slt p x
def okN:Option ByteArray→List ByteArray→Bool
 | _,[]=>true
 | p,x::r=>nmB x&&(ordN p x&&okN (some x) r)
theorem f30n2_at{l:List ByteArray}(hl:l.length≤1000):∀(r pre:List ByteArray)(f:Nat),l=pre++r→r.length<f→f30n2 f l ((pre.length:Nat):Int)=some (bif okN pre.getLast? r then .exit0 else .ret)
 | _,_,0,_,h=>absurd h (Nat.not_lt_zero _)
 | [],pre,f+1,h,_=>by rw [f30n2,decide_eq_false (by rw [h]; simp),cond_false]; rfl
 | x::r,pre,f+1,h,hf=>by
  have hp:pre.length<l.length:=by rw [h]; simp
  have ih:=f30n2_at hl r (pre++[x]) f (by rw [h]; simp) (by simpa using hf);rw [List.length_append,List.getLast?_concat] at ih;rw [f30n2,decide_eq_true (by omega),cond_true,at_len h rfl,bd_,f50_eq,bd_,okN];cases nmB x with
  | false=>rfl
  | true =>
   rw [cond_true,Bool.true_and];rcases List.eq_nil_or_concat pre with rfl | ⟨q,y,rfl⟩
   ·simp only [List.length_nil,Int.natCast_zero,List.getLast?_nil,ordN,Bool.true_and];rw [decide_eq_false (by omega:¬(0:Int)<0),cond_false,show wr64 ((0:Int)+1)=1 from rfl];simpa using ih
   ·rw [List.concat_eq_append] at h hp ih ⊢;have hq:q.length+1<1000:=by simp at hp; omega
    rw [decide_eq_true (by simp:(0:Int)<(((q++[y]).length:Nat):Int)),cond_true,show wr64 ((((q++[y]).length:Nat):Int)-1)=((q.length:Nat):Int) by rw [wrIn (by simp<;>omega) (by simp<;>omega)]; simp,at_len (k:=q.length) (a:=q) (x:=y) (b:=x::r) (by rw [h]; simp) rfl,bd_,List.getLast?_concat,ordN];cases slt y x with
    | false=>rfl
    | true =>
     rw [cond_true,Bool.true_and,wrSucc (by simp; omega)];exact ih
theorem f30_eq{l:List ByteArray}(hl:l.length≤1000):f30 l=some (okN none l):=by
 unfold f30 f30n0 f30n1;have:=f30n2_at hl l [] FUEL rfl (Qac (by omega));rw [show ((([]:List ByteArray).length:Nat):Int)=0 from rfl,List.getLast?_nil] at this;rw [this];cases okN none l<;>rfl

def inB(n a b:Int):Bool:=decide (a≤n)&&decide (n≤b)
theorem f29_eq(n a b:Int):f29 n a b=some (inB n a b):=by
 unfold f29 f29n0 inB;cases decide (a≤n)<;>rfl
def goodA(x:AA):Bool:=inB x.Amount 0 68719476736&&(inB x.Cost 0 1000&&(decide (x.For.length≤8)&&okN none x.For))
theorem f28w_eq(bg:List AA):∀(l:List AA)(v:Int)(o:List ByteArray),o.length+l.length≤10000→f28n2L bg l v o=some (bif l.all goodA then .exit0 (o++l.map Qa.Name) else .ret)
 | [],v,o,_=>by simp [f28n2L]
 | x::r,v,o,h=>by
  simp only [List.length_cons] at h;have ih:=f28w_eq bg r (v+1) (o++[x.Name]) (by simp; omega);rw [f28n2L,f29_eq,bd_,f29_eq,List.all_cons,goodA];simp only [bd_];cases inB x.Amount 0 68719476736 with
  | false=>rfl
  | true =>
   cases inB x.Cost 0 1000 with
   | false=>rfl
   | true =>
    by_cases hF:x.For.length≤8
    ·rw [decide_eq_false (by omega:¬(8:Int)<(x.For.length:Int)),decide_eq_true hF,f30_eq (by omega)];simp only [cond_true,cond_false,bd_,Bool.true_and];cases okN none x.For with
     | false=>rfl
     | true =>
      rw [cond_true,Bool.true_and,Qai (Qbc (by omega) (by omega)),ih]
      simp
    ·rw [decide_eq_true (by omega:(8:Int)<(x.For.length:Int)),decide_eq_false hF];rfl
def assetsB(l:List AA):Bool:=decide (l.length≤10)&&(l.all goodA&&okN none (l.map Qa.Name))
theorem f28_eq(l:List AA):f28 l=some (assetsB l):=by
 unfold f28 f28n0 assetsB
 by_cases hl:l.length≤10
 ·rw [decide_eq_false (by omega),decide_eq_true hl,cond_false,Bool.true_and];have h1:f28n1 l=some (bif l.all goodA then .norm (l.map Qa.Name) else .ret):=by
   unfold f28n1;have:=f28w_eq l l 0 [] (by simp; omega);rw [f28n2_run l [] (Qbo (by omega)),this];cases l.all goodA<;>rfl
  rw [h1];cases l.all goodA with
  | false=>rfl
  | true =>
   simp only [cond_true,Option.bind_some,Bool.true_and];rw [f30_eq (by simp; omega)]; rfl
 ·rw [decide_eq_true (by omega),decide_eq_false hl]; rfl

theorem f13w_eq(bg:List AC):∀(l:List AC)(v:Int)(o:List ByteArray),o.length+l.length≤10000→f13n2L bg l v o=some (bif l.all (fun x=>inB x.Need 1 68719476736) then .exit0 (o++l.map Qb.Name) else .ret)
 | [],v,o,_=>by simp [f13n2L]
 | x::r,v,o,h=>by
  simp only [List.length_cons] at h;have ih:=f13w_eq bg r (v+1) (o++[x.Name]) (by simp; omega);rw [f13n2L,f29_eq,bd_,List.all_cons];cases inB x.Need 1 68719476736 with
  | false=>rfl
  | true =>
   rw [cond_true,Bool.true_and,Qai (Qbc (by omega) (by omega)),ih]
   simp
def callsB(c:List AC):Bool:=decide (c.length≤8)&&(c.all (fun x=>inB x.Need 1 68719476736)&&okN none (c.map Qb.Name))
def checkB(l:List AA)(c:List AC):Bool:=assetsB l&&callsB c
theorem f13_eq(l:List AA)(c:List AC):f13 l c=some (bif checkB l c then 0 else 8):=by
 unfold f13 f13n0 checkB callsB
 by_cases hc:c.length≤8
 ·rw [decide_eq_false (by omega),decide_eq_true hc,cond_false,f28_eq,bd_,Bool.true_and];cases assetsB l with
  | false=>rfl
  | true =>
   have h1:f13n1 c=some (bif c.all (fun x=>inB x.Need 1 68719476736) then .norm (c.map Qb.Name) else .ret):=by
    unfold f13n1;have:=f13w_eq c c 0 [] (by simp; omega);rw [f13n2_run c [] (Qbo (by omega)),this];cases c.all (fun x=>inB x.Need 1 68719476736)<;>rfl
   rw [cond_true,h1,Bool.true_and];cases c.all (fun x=>inB x.Need 1 68719476736) with
   | false=>rfl
   | true =>
    simp only [cond_true,Option.bind_some,Bool.true_and];rw [f30_eq (by simp; omega),bd_];cases okN none (c.map Qb.Name)<;>rfl
 ·rw [decide_eq_true (by omega),decide_eq_false hc];cases assetsB l<;>rfl
theorem okN_some:∀{l:List ByteArray} {p:ByteArray},okN (some p) l=true→(p::l).Pairwise (fun a b=>slt a b=true)∧∀x∈l,nmB x=true
 | [],p,_=>by simp
 | y::r,p,h=>by
  rw [okN,ordN,Bool.and_eq_true,Bool.and_eq_true] at h;obtain ⟨h1,h2,h3⟩:=h;obtain ⟨h4,h5⟩:=okN_some h3;refine ⟨List.pairwise_cons.2 ⟨fun z hz=>?_,h4⟩,fun z hz=>?_⟩
  ·rcases List.mem_cons.1 hz with rfl | hz
   ·exact h2
   ·exact slt_trans h2 ((List.pairwise_cons.1 h4).1 z hz)
  ·rcases List.mem_cons.1 hz with rfl | hz
   ·exact h1
   ·exact h5 z hz
theorem okN_ok{l:List ByteArray}(h:okN none l=true):l.Pairwise (fun a b=>slt a b=true)∧∀x∈l,nmB x=true:=by
 cases l with
 | nil=>simp
 | cons y r =>
  rw [okN,Bool.and_eq_true,Bool.and_eq_true] at h;obtain ⟨h1,_,h3⟩:=h;obtain ⟨h4,h5⟩:=okN_some h3;exact ⟨h4,fun z hz=>by
   rcases List.mem_cons.1 hz with rfl | hz
   ·exact h1
   ·exact h5 z hz⟩
structure OkL (l:List AA) (c:List AC):Prop where
 len:l.length≤10
 clen:c.length≤8
 am:∀x∈l,0≤x.Amount∧x.Amount≤68719476736
 cost:∀x∈l,0≤x.Cost∧x.Cost≤1000
 flen:∀x∈l,x.For.length≤8
 fnd:∀x∈l,x.For.Pairwise (fun a b=>slt a b=true)
 nd:l.Pairwise (fun a b=>slt a.Name b.Name=true)
 need:∀x∈c,1≤x.Need∧x.Need≤68719476736
 cnd:c.Pairwise (fun a b=>slt a.Name b.Name=true)
theorem inB_iff{n a b:Int} : inB n a b=true↔a≤n∧n≤b:=by unfold inB; rw [Bool.and_eq_true,decide_eq_true_eq,decide_eq_true_eq]
theorem checkB_ok{l:List AA}{c:List AC}(h:checkB l c=true):OkL l c:=by
 unfold checkB assetsB callsB at h;simp only [Bool.and_eq_true,decide_eq_true_eq,List.all_eq_true] at h;obtain ⟨⟨h1,h2,h3⟩,h4,h5,h6⟩:=h;have ha:∀x∈l,_:=fun x hx=>by
  have:=h2 x hx;unfold goodA at this;simp only [Bool.and_eq_true,decide_eq_true_eq,inB_iff] at this;exact this
 exact ⟨h1,h4,fun x hx=>(ha x hx).1,fun x hx=>(ha x hx).2.1,fun x hx=>(ha x hx).2.2.1,fun x hx=>(okN_ok (ha x hx).2.2.2).1,List.pairwise_map.1 (okN_ok h3).1,fun x hx=>inB_iff.1 (h5 x hx),List.pairwise_map.1 (okN_ok h6).1⟩

theorem f12w_eq(bg:List AA):∀(l:List AA)(v:Int)(o:List AA),o.length+l.length≤10000→(∀x∈l,x.For.length≤1000)→f12r1n2L bg l v o=some (.exit0 (o++l))
 | [],v,o,_,_=>by simp [f12r1n2L]
 | x::r,v,o,h,hF=>by
  simp only [List.length_cons] at h;have ih:=fun y=>f12w_eq bg r (v+1) (o++[y]) (by simp; omega) fun z hz=>hF z (List.mem_cons_of_mem _ hz);have hx:=hF x List.mem_cons_self;rw [f12r1n2L];cases he:x.For with
  | nil =>
   have e:Qa.mk x.Name x.Amount x.Cost []=x:=by rw [←he]
   simp only [List.isEmpty_nil,cond_true];rw [Qai (Qbc (by omega) (by omega)),ih,e]; simp
  | cons a b =>
   rw [he] at hx;simp only [List.isEmpty_cons,cond_false];rw [Qai (Qbc (by omega) (by omega)),Qai (Qbc (by omega) (by omega)),ih]; simp
theorem f12_eq{l:List AA}(hl:l.length≤1000)(hF:∀x∈l,x.For.length≤1000):f12r1 l=some l:=by
 unfold f12r1 f12r1n0 f12r1n1;have:=f12w_eq l l 0 [] (by simp; omega) hF;rw [f12r1n2_run l [] (Qbo (by omega)),this]; rfl
theorem f10w_eq(bg:List AA)(b:List AC)(u:List AU):∀(l:List AA)(v:Int),(f10n2L bg b u l v=some .exit0∧((∀x∈l,x.For.length≤15)∨16≤v+l.length))∨f10n2L bg b u l v=some .ret
 | [],v=>.inl ⟨rfl,.inl fun x h=>(by cases h)⟩
 | x::r,v=>by
  rw [f10n2L]
  by_cases hv:v≤15
  ·rw [decide_eq_true hv,cond_true]
   by_cases hx:x.For.length≤15
   ·rw [decide_eq_false (by omega),cond_false];rcases f10w_eq bg b u r (v+1) with ⟨h1,h2⟩ | h1
    ·refine .inl ⟨h1,h2.imp (fun h y hy=>?_) fun h=>by simp; omega⟩;rcases List.mem_cons.1 hy with rfl | hy
     ·exact hx
     ·exact h y hy
    ·exact .inr h1
   ·rw [decide_eq_true (by omega)]; exact .inr rfl
  ·rw [decide_eq_false hv]; exact .inl ⟨rfl,.inr (by simp; omega)⟩
theorem f10_eq(l:List AA)(c:List AC)(u:List AU)(hm:l.length≤maxLen):∃b,f10 l c u=some b∧(b=false→l.length≤15∧c.length≤15∧u.length≤100∧∀x∈l,x.For.length≤15):=by
 unfold f10 f10n0 f10n1;rw [f10n2_run l c u hm];rcases f10w_eq l c u l 0 with ⟨h1,h2⟩ | h1
 ·rw [h1];simp only [Option.bind_some]
  by_cases hl:l.length≤15
  ·rw [decide_eq_false (by omega),cond_false]
   by_cases hc:c.length≤15
   ·rw [decide_eq_false (by omega),cond_false];refine ⟨_,rfl,fun h=>⟨hl,hc,by have:=of_decide_eq_false h; omega,h2.elim id fun h=>by omega⟩⟩
   ·rw [decide_eq_true (by omega)]; exact ⟨true,rfl,fun h=>by cases h⟩
  ·rw [decide_eq_true (by omega)]; exact ⟨true,rfl,fun h=>by cases h⟩
 ·rw [h1]; exact ⟨true,rfl,fun h=>by cases h⟩
end Go.Proofs.Ytinabbgjignkbaa
namespace Go.Proofs.Ytinabbgjignkbaa
namespace Flo
set_option linter.unusedVariables false
set_option linter.unusedSimpArgs false
def sN:Nat→(Nat→Int)→Int
 | 0,_=>0
 | n+1,f=>sN n f+f n
theorem Qw{f g:Nat→Int} : ∀{n:Nat},(∀i,i<n→f i=g i)→sN n f=sN n g
 | 0,_=>rfl
 | n+1,h=>by rw [sN,sN,Qw fun i hi=>h i (by omega),h n (by omega)]
theorem sN_add(f g:Nat→Int):∀n:Nat,sN n (fun i=>f i+g i)=sN n f+sN n g
 | 0=>rfl
 | n+1=>by rw [sN,sN,sN,sN_add f g n]; omega
theorem sN_sub(f g:Nat→Int):∀n:Nat,sN n (fun i=>f i-g i)=sN n f-sN n g
 | 0=>rfl
 | n+1=>by rw [sN,sN,sN,sN_sub f g n]; omega
theorem sN_le{f g:Nat→Int} : ∀{n:Nat},(∀i,i<n→f i≤g i)→sN n f≤sN n g
 | 0,_=>Int.le_refl _
 | n+1,h=>by
  have h1:=sN_le (n:=n) fun i hi=>h i (by omega);have h2:=h n (by omega);rw [sN,sN]; omega
theorem Qap{f:Nat→Int} : ∀{n:Nat},(∀i,i<n→f i=0)→sN n f=0
 | 0,_=>rfl
 | n+1,h=>by rw [sN,Qap fun i hi=>h i (by omega),h n (by omega)]; rfl
theorem sN_nn{f:Nat→Int}{n:Nat}(h:∀i,i<n→0≤f i):0≤sN n f:=by
 have:=sN_le (f:=fun _=>0) (g:=f) (n:=n) h
 rwa [Qap fun _ _=>rfl] at this
theorem sN_swap(f:Nat→Nat→Int)(m:Nat):∀n:Nat,sN n (fun j=>sN m (fun i=>f i j))=sN m (fun i=>sN n (fun j=>f i j))
 | 0=>(Qap (f:=fun _=>0) fun _ _=>rfl).symm
 | n+1=>by
  rw [sN,sN_swap f m n,←sN_add];rfl
theorem sN_one{f:Nat→Int}{n k:Nat}(hk:k<n)(h:∀i,i<n→i≠k→f i=0):sN n f=f k:=by
 induction n with
 | zero=>omega
 | succ n ih =>
  rw [sN]
  by_cases e:k=n
  ·subst e;rw [Qap fun i hi=>h i (by omega) (by omega)]; omega
  ·rw [ih (by omega) fun i hi hne=>h i (by omega) hne,h n (by omega) (by omega)]; omega

abbrev Set_:=Nat→Bool
def tch(n:Nat)(may:Nat→Nat→Bool)(T:Set_):Nat→Bool
 := fun i=>(List.range n).any fun j=>T j&&may i j
theorem Qag{n:Nat}{may:Nat→Nat→Bool}{T:Set_}{i:Nat} : tch n may T i=true↔∃j,j<n∧T j=true∧may i j=true:=by
 unfold tch;rw [List.any_eq_true]
 constructor
 ·rintro ⟨j,hj,h⟩
  rw [Bool.and_eq_true] at h;exact ⟨j,List.mem_range.1 hj,h.1,h.2⟩
 ·rintro ⟨j,hj,h1,h2⟩
  exact ⟨j,List.mem_range.2 hj,by rw [h1,h2]; rfl⟩
def cut(m n:Nat)(s d:Nat→Int)(may:Nat→Nat→Bool)(T:Set_):Int :=
 sN n (fun j=>bif T j then 0 else d j)+sN m (fun i=>bif tch n may T i then s i else 0)
def IsMin(m n:Nat)(s d:Nat→Int)(may:Nat→Nat→Bool)(v:Int):Prop:=(∃T,v=cut m n s d may T)∧∀T,v≤cut m n s d may T

structure Flw (m n:Nat) (s d:Nat→Int) (may:Nat→Nat→Bool) (x:Nat→Nat→Int):Prop where
 nn:∀i j,i<m→j<n→0≤x i j
 may:∀i j,i<m→j<n→x i j≠0→may i j=true
 row:∀i,i<m→sN n (x i)≤s i
 col:∀j,j<n→sN m (fun i=>x i j)≤d j
def tot(m n:Nat)(x:Nat→Nat→Int):Int:=sN m fun i=>sN n (x i)
section
variable {m n:Nat} {s d:Nat→Int} {may:Nat→Nat→Bool} {x:Nat→Nat→Int}
theorem row_split(T:Set_)(i:Nat):sN n (x i)=sN n (fun j=>bif T j then x i j else 0)+sN n (fun j=>bif T j then 0 else x i j):=by
 rw [←sN_add];refine Qw fun j _=>?_;cases T j<;>simp
theorem tot_split(T:Set_):tot m n x=sN m (fun i=>sN n (fun j=>bif T j then x i j else 0))+sN n (fun j=>bif T j then 0 else sN m (fun i=>x i j)):=by
 unfold tot;have e:sN n (fun j=>bif T j then 0 else sN m (fun i=>x i j))=sN m (fun i=>sN n (fun j=>bif T j then 0 else x i j)):=by
  rw [←sN_swap];refine Qw fun j _=>?_;cases T j with
  | true=>exact (Qap fun _ _=>rfl).symm
  | false=>rfl
 rw [e,←sN_add];exact Qw fun i _=>row_split T i
theorem Flw.in_set(h:Flw m n s d may x)(T:Set_){i:Nat}(hi:i<m):sN n (fun j=>bif T j then x i j else 0)≤bif tch n may T i then s i else 0:=by
 cases ht:tch n may T i with
 | true =>
  refine Int.le_trans (sN_le fun j hj=>?_) (h.row i hi);have:=h.nn i j hi hj;cases T j with
  | true=>exact Int.le_refl _
  | false=>exact this
 | false =>
  refine Int.le_of_eq (Qap fun j hj=>?_);cases hT:T j with
  | false=>rfl
  | true =>
   refine Classical.byContradiction fun hne=>?_;have:=Qag.2 ⟨j,hj,hT,h.may i j hi hj hne⟩;rw [ht] at this; cases this
theorem Flw.le_cut(h:Flw m n s d may x)(T:Set_):tot m n x≤cut m n s d may T:=by
 rw [tot_split T];unfold cut;have h1:sN m (fun i=>sN n (fun j=>bif T j then x i j else 0))≤sN m (fun i=>bif tch n may T i then s i else 0):=sN_le fun i hi=>h.in_set T hi;have h2:sN n (fun j=>bif T j then 0 else sN m (fun i=>x i j))≤sN n (fun j=>bif T j then 0 else d j):=sN_le fun j hj=>by
  cases T j with
  | true=>exact Int.le_refl _
  | false=>exact h.col j hj
 omega
theorem Flw.stop(h:Flw m n s d may x)(R C:Set_)(h1:∀i,i<m→sN n (x i)<s i→R i=true)(h2:∀i j,i<m→j<n→R i=true→may i j=true→C j=true)
  (h3:∀j,j<n→C j=true→sN m (fun i=>x i j)=d j) (h4:∀k j,k<m→j<n→C j=true→0<x k j→R k=true) :
  tot m n x=cut m n s d may (fun j=>!C j):=by
 rw [tot_split (fun j=>!C j)];unfold cut;have e1:sN n (fun j=>bif !C j then 0 else sN m (fun i=>x i j))=sN n (fun j=>bif !C j then 0 else d j):=Qw fun j hj=>by
  cases hC:C j with
  | true=>exact h3 j hj hC
  | false=>rfl
 have e2:sN m (fun i=>sN n (fun j=>bif !C j then x i j else 0))=sN m (fun i=>bif tch n may (fun j=>!C j) i then s i else 0):=Qw fun i hi=>by
  have hle:=h.in_set (fun j=>!C j) hi;cases ht:tch n may (fun j=>!C j) i with
  | false =>
   rw [ht] at hle;have h0:0≤sN n (fun j=>bif !C j then x i j else 0):=sN_nn fun j hj=>by
    have:=h.nn i j hi hj;cases C j with
    | true=>exact Int.le_refl _
    | false=>exact this
   have:(bif false then s i else 0)=0:=rfl;omega
  | true =>
   obtain ⟨j,hj,hT,hm⟩:=Qag.1 ht;have hC:C j=false:=by simpa using hT
   have hR:R i=false:=by
    cases hR:R i with
    | false=>rfl
    | true=>rw [h2 i j hi hj hR hm] at hC; cases hC
   have hs:sN n (x i)=s i:=by
    have h0:=h.row i hi;refine Classical.byContradiction fun hne=>?_;rw [h1 i hi (by omega)] at hR; cases hR
   show _=s i;rw [←hs];refine Qw fun k hk=>?_;cases hCk:C k with
   | false=>rfl
   | true =>
    show 0=x i k;have h0:=h.nn i k hi hk;refine Classical.byContradiction fun hne=>?_;rw [h4 i k hi hk hCk (by omega)] at hR; cases hR
 dsimp only at e1 e2 ⊢;omega
theorem Flw.min(h:Flw m n s d may x){T:Set_}(e:tot m n x=cut m n s d may T):IsMin m n s d may (tot m n x):=⟨⟨T,e⟩,h.le_cut⟩
end
def pre(s:Nat→Int)(k:Nat):Nat→Int:=fun i=>bif decide (i<k) then s i else 0
section
variable {m n:Nat} {s d:Nat→Int} {may:Nat→Nat→Bool}
def cutA(m n:Nat)(s d:Nat→Int)(may:Nat→Nat→Bool)(A T:Set_):Int :=
 sN n (fun j=>bif T j then 0 else d j)+sN m (fun i=>bif A i&&tch n may T i then s i else 0)
theorem cut_pre{k:Nat}(hk:k≤m)(T:Set_):cut k n s d may T=cutA m n s d may (fun i=>decide (i<k)) T:=by
 unfold cut cutA
 congr 1
 induction m with
 | zero =>
  have:k=0:=by omega
  subst this; rfl
 | succ m ih =>
  by_cases e:k=m+1
  ·subst e;refine Qw fun i hi=>?_;dsimp only;rw [decide_eq_true hi]; rfl
  ·rw [sN,ih (by omega)];dsimp only;rw [decide_eq_false (by omega)]
   simp
theorem cross(A B:Set_)(k:Nat)(hk:k<m)(hs:∀i,i<m→0≤s i)(hBA:∀i,i<m→B i=true→A i=true)(hAk:A k=false)(T U:Set_) :
  cutA m n s d may (fun i=>A i||decide (i=k)) (fun j=>T j&&U j)+cutA m n s d may B (fun j=>T j||U j)≤cutA m n s d may A T+cutA m n s d may (fun i=>B i||decide (i=k)) U:=by
 unfold cutA;have e1:sN n (fun j=>bif T j&&U j then 0 else d j)+sN n (fun j=>bif T j||U j then 0 else d j)=sN n (fun j=>bif T j then 0 else d j)+sN n (fun j=>bif U j then 0 else d j):=by
  rw [←sN_add,←sN_add];refine Qw fun j _=>?_;cases T j<;>cases U j<;>simp
 have e2:sN m (fun i=>bif (A i||decide (i=k))&&tch n may (fun j=>T j&&U j) i then s i else 0)+sN m (fun i=>bif B i&&tch n may (fun j=>T j||U j) i then s i else 0)
   ≤ sN m (fun i=>bif A i&&tch n may T i then s i else 0)+sN m (fun i=>bif (B i||decide (i=k))&&tch n may U i then s i else 0):=by
  rw [←sN_add,←sN_add];refine sN_le fun i hi=>?_;have h0:=hs i hi;have hand:tch n may (fun j=>T j&&U j) i=true→tch n may T i=true∧tch n may U i=true:=fun h=>by
   obtain ⟨j,hj,h1,h2⟩:=Qag.1 h;rw [Bool.and_eq_true] at h1;exact ⟨Qag.2 ⟨j,hj,h1.1,h2⟩,Qag.2 ⟨j,hj,h1.2,h2⟩⟩
  have hor:tch n may (fun j=>T j||U j) i=true→tch n may T i=true∨tch n may U i=true:=fun h=>by
   obtain ⟨j,hj,h1,h2⟩:=Qag.1 h;rw [Bool.or_eq_true] at h1;rcases h1 with h1 | h1
   ·exact .inl (Qag.2 ⟨j,hj,h1,h2⟩)
   ·exact .inr (Qag.2 ⟨j,hj,h1,h2⟩)
  have hb:=hBA i hi
  by_cases e:i=k
  ·subst e;have hB:B i=false:=by
    cases hB:B i with
    | false=>rfl
    | true=>rw [hb hB] at hAk; cases hAk
   rw [hAk,hB,decide_eq_true rfl]
   revert hand
   cases tch n may (fun j=>T j&&U j) i<;>cases tch n may T i<;>cases tch n may U i<;>intro hand<;>simp at hand ⊢<;>omega
  ·rw [decide_eq_false e]
   revert hand hor hb
   cases tch n may (fun j=>T j&&U j) i<;>cases tch n may (fun j=>T j||U j) i<;>cases tch n may T i<;>cases tch n may U i<;>cases A i<;>cases B i<;>intro hand hor hb<;>simp at hand hor hb ⊢<;>omega
 dsimp only at e1 e2 ⊢;omega
def Rch(m n:Nat)(s d:Nat→Int)(may:Nat→Nat→Bool)(f:Nat→Int):Prop:=∀k,k≤m→IsMin k n s d may (f k)
theorem greedy(hs:∀i,i<m→0≤s i){f:Nat→Int}(hf:Rch m n s d may f)(hd:∀j,j<n→0≤d j)(A T:Set_):∀k,k≤m→sN k (fun i=>bif A i then f (i+1)-f i else 0)≤cutA m n s d may (fun i=>A i&&decide (i<k)) T:=by
 intro k
 induction k generalizing T with
 | zero =>
  intro _;unfold cutA;have h1:0≤sN n (fun j=>bif T j then 0 else d j):=sN_nn fun j hj=>by
   have:=hd j hj;cases T j with
   | true=>exact Int.le_refl _
   | false=>exact this
  have h2:sN m (fun i=>bif (A i&&decide (i<0))&&tch n may T i then s i else 0)=0:=Qap fun i _=>by
   rw [decide_eq_false (by omega:¬i<0),Bool.and_false,Bool.false_and]; rfl
  rw [sN]; dsimp only at h2 ⊢; omega
 | succ k ih =>
  intro hk;rw [sN];cases hA:A k with
  | false =>
   have e:cutA m n s d may (fun i=>A i&&decide (i<k+1)) T=cutA m n s d may (fun i=>A i&&decide (i<k)) T:=by
    unfold cutA
    congr 1
    refine Qw fun i _=>?_;dsimp only
    by_cases h:i=k
    ·subst h; rw [hA]; rfl
    ·have:decide (i<k+1)=decide (i<k):=by rw [decide_eq_decide]; omega
     rw [this]
   have:=ih T (by omega);rw [e];show _+0≤_;omega
  | true =>
   show _+(f (k+1)-f k)≤_;obtain ⟨⟨T1,hT1⟩,_⟩:=hf k (by omega);have h2:=(hf (k+1) hk).2 (fun j=>T1 j&&T j);rw [cut_pre (m:=m) hk] at h2;rw [cut_pre (m:=m) (by omega:k≤m)] at hT1;have h3:=ih (fun j=>T1 j||T j) (by omega);have h4:=cross (d:=d) (n:=n) (may:=may) (fun i=>decide (i<k)) (fun i=>A i&&decide (i<k)) k (by omega) hs (fun i _ h=>by rw [Bool.and_eq_true] at h; exact h.2) (decide_eq_false (by omega)) T1 T;have e1:(fun i=>decide (i<k)||decide (i=k))=fun i=>decide (i<k+1):=by
    funext i
    rw [←Bool.decide_or,decide_eq_decide]; omega
   have e2:(fun i=>(A i&&decide (i<k))||decide (i=k))=fun i=>A i&&decide (i<k+1):=by
    funext i
    by_cases h:i=k
    ·subst h;rw [hA,decide_eq_true rfl,decide_eq_true (by omega:i<i+1)]; simp
    ·have:decide (i<k+1)=decide (i<k):=by rw [decide_eq_decide]; omega
     rw [decide_eq_false h,this,Bool.or_false]
   rw [e1,e2] at h4;omega
end
def sub(f:Nat→Int)(k:Nat)(z:Int):Nat→Int:=fun a=>f a-(bif decide (a=k) then z else 0)
def off(may:Nat→Nat→Bool)(i j:Nat):Nat→Nat→Bool:=fun a b=>may a b&&!(decide (a=i)&&decide (b=j))
structure HH (m n:Nat) (t d:Nat→Int) (may:Nat→Nat→Bool) (rest:Int):Prop where
 tn:∀i,i<m→0≤t i
 dn:∀j,j<n→0≤d j
 td:sN n d=rest
 tt:sN m t=rest
 ct:∀T,rest≤cut m n t d may T
theorem sN_sub1(q:Nat→Bool)(f:Nat→Int)(k:Nat)(z:Int):∀m:Nat,sN m (fun a=>bif q a then sub f k z a else 0)=sN m (fun a=>bif q a then f a else 0)-(bif decide (k<m)&&q k then z else 0)
 | 0=>by simp [sN]
 | m+1=>by
  rw [sN,sN,sN_sub1 q f k z m];unfold sub
  by_cases e:m=k
  ·subst e;rw [decide_eq_true rfl,decide_eq_false (by omega:¬m<m),decide_eq_true (by omega:m<m+1)];cases q m<;>simp<;>omega
  ·have:decide (k<m+1)=decide (k<m):=by rw [decide_eq_decide]; omega
   rw [decide_eq_false e,this];cases q m<;>simp<;>omega
theorem sN_subA(f:Nat→Int)(k:Nat)(z:Int)(m:Nat)(hk:k<m):sN m (sub f k z)=sN m f-z:=by
 have:=sN_sub1 (fun _=>true) f k z m;simp only [cond_true,Bool.and_true] at this;rw [decide_eq_true hk] at this;exact this
section
variable {m n:Nat} {t d:Nat→Int} {may:Nat→Nat→Bool} {i j:Nat}
theorem tch_off{T:Set_}{a:Nat} : tch n (off may i j) T a=true→tch n may T a=true:=fun h=>by
 obtain ⟨b,h1,h2,h3⟩:=Qag.1 h;unfold off at h3;rw [Bool.and_eq_true] at h3;exact Qag.2 ⟨b,h1,h2,h3.1⟩
theorem tch_off_ne{T:Set_}{a:Nat}(h:a≠i):tch n (off may i j) T a=tch n may T a:=by
 have e:∀b,off may i j a b=may a b:=fun b=>by unfold off; rw [decide_eq_false h]; simp
 unfold tch;simp only [e]
theorem tch_off_i{T:Set_}(hj:T j=false):tch n (off may i j) T i=tch n may T i:=by
 cases h:tch n may T i with
 | false =>
  cases h2:tch n (off may i j) T i with
  | false=>rfl
  | true=>rw [tch_off h2] at h; cases h
 | true =>
  obtain ⟨b,h1,h2,h3⟩:=Qag.1 h;refine Qag.2 ⟨b,h1,h2,?_⟩;unfold off;have:b≠j:=fun e=>by rw [e,hj] at h2; cases h2
  rw [h3,decide_eq_false this]; simp
theorem cut_give(hi:i<m)(hj:j<n)(mm:Nat→Nat→Bool)(z:Int)(T:Set_):cut m n (sub t i z) (sub d j z) mm T=cut m n t d mm T-(bif T j then 0 else z)-(bif tch n mm T i then z else 0):=by
 unfold cut;have h1:=sN_sub1 (fun b=>!(T b)) d j z n;have h2:=sN_sub1 (fun a=>tch n mm T a) t i z m;rw [decide_eq_true hj,Bool.true_and] at h1;rw [decide_eq_true hi,Bool.true_and] at h2;have e1:sN n (fun b=>bif T b then 0 else sub d j z b)=sN n (fun b=>bif !(T b) then sub d j z b else 0):=Qw fun b _=>by cases T b<;>rfl
 have e2:sN n (fun b=>bif T b then 0 else d b)=sN n (fun b=>bif !(T b) then d b else 0):=Qw fun b _=>by cases T b<;>rfl
 rw [e1,e2]
 try dsimp only at h1 h2 ⊢
 rw [h1,h2];cases T j<;>simp<;>omega
theorem cut_off(hi:i<m)(T:Set_)(h:T j=false∨tch n (off may i j) T i=true):cut m n t d (off may i j) T=cut m n t d may T:=by
 unfold cut
 congr 1
 refine Qw fun a _=>?_
 by_cases e:a=i
 ·subst e;rcases h with h | h
  ·rw [tch_off_i h]
  ·rw [h,tch_off h]
 ·rw [tch_off_ne e]
theorem sN_pick(q p:Nat→Bool)(f:Nat→Int)(k:Nat)(hk:k<m)(h:∀a,a≠k→q a=p a)(hq:q k=false)(hp:p k=true):sN m (fun a=>bif p a then f a else 0)=sN m (fun a=>bif q a then f a else 0)+f k:=by
 have e:sN m (fun a=>(bif p a then f a else 0)-(bif q a then f a else 0))=f k:=by
  rw [sN_one hk fun a _ hne=>by rw [h a hne]; omega,hq,hp]; simp
 rw [sN_sub] at e;omega
theorem cut_offC(hi:i<m)(T:Set_)(h:tch n (off may i j) T i=false)(hm:may i j=true)(hj:j<n)(hT:T j=true):cut m n t d may T=cut m n t d (off may i j) T+t i:=by
 unfold cut;have:=sN_pick (m:=m) (fun a=>tch n (off may i j) T a) (fun a=>tch n may T a) t i hi (fun a ha=>tch_off_ne ha) h (Qag.2 ⟨j,hj,hT,hm⟩)
 try dsimp only at this ⊢
 omega
theorem cut_mod(hs:∀a,a<m→0≤t a)(mm:Nat→Nat→Bool)(T U:Set_):cut m n t d mm (fun b=>T b||U b)+cut m n t d mm (fun b=>T b&&U b)≤cut m n t d mm T+cut m n t d mm U:=by
 unfold cut;have e1:sN n (fun b=>bif T b||U b then 0 else d b)+sN n (fun b=>bif T b&&U b then 0 else d b)=sN n (fun b=>bif T b then 0 else d b)+sN n (fun b=>bif U b then 0 else d b):=by
  rw [←sN_add,←sN_add];refine Qw fun b _=>?_;cases T b<;>cases U b<;>simp
 have e2:sN m (fun a=>bif tch n mm (fun b=>T b||U b) a then t a else 0)+sN m (fun a=>bif tch n mm (fun b=>T b&&U b) a then t a else 0)≤sN m (fun a=>bif tch n mm T a then t a else 0)+sN m (fun a=>bif tch n mm U a then t a else 0):=by
  rw [←sN_add,←sN_add];refine sN_le fun a ha=>?_;have h0:=hs a ha;have hand:tch n mm (fun b=>T b&&U b) a=true→tch n mm T a=true∧tch n mm U a=true:=fun h=>by
   obtain ⟨b,hb,h1,h2⟩:=Qag.1 h;rw [Bool.and_eq_true] at h1;exact ⟨Qag.2 ⟨b,hb,h1.1,h2⟩,Qag.2 ⟨b,hb,h1.2,h2⟩⟩
  have hor:tch n mm (fun b=>T b||U b) a=true→tch n mm T a=true∨tch n mm U a=true:=fun h=>by
   obtain ⟨b,hb,h1,h2⟩:=Qag.1 h;rw [Bool.or_eq_true] at h1;rcases h1 with h1 | h1
   ·exact .inl (Qag.2 ⟨b,hb,h1,h2⟩)
   ·exact .inr (Qag.2 ⟨b,hb,h1,h2⟩)
  revert hand hor
  cases tch n mm (fun b=>T b&&U b) a<;>cases tch n mm (fun b=>T b||U b) a<;>cases tch n mm T a<;>cases tch n mm U a<;>intro hand hor<;>simp at hand hor ⊢<;>omega
 dsimp only at e1 e2 ⊢;omega
theorem give_ok{rest most v:Int}(h:HH m n t d may rest)(hi:i<m)(hj:j<n)(hm:may i j=true)(h1:most≤t i)(h2:most≤d j)(h3:most=t i∨most=d j)
  (hv:IsMin m n (sub t i most) (sub d j most) (off may i j) v) :
  0≤most-(rest-most-v)∧most-(rest-most-v)≤most∧HH m n (sub t i (most-(rest-most-v))) (sub d j (most-(rest-most-v))) (off may i j) (rest-(most-(rest-most-v))):=by
 have hm0:0≤most:=by
  have:=h.tn i hi;have:=h.dn j hj;omega
 have gB:∀T:Set_,(T j=false∨tch n (off may i j) T i=true)→rest≤cut m n t d (off may i j) T:=fun T hT=>by rw [cut_off hi T hT]; exact h.ct T
 have gC:∀T:Set_,T j=true→tch n (off may i j) T i=false→rest-most≤cut m n t d (off may i j) T:=fun T hT hc=>by
  have a1:=h.ct T;rw [cut_offC hi T hc hm hj hT] at a1;have a2:=gB (fun b=>T b&&!(decide (b=j))) (.inl (by simp));have a3:cut m n t d (off may i j) (fun b=>T b&&!(decide (b=j)))≤cut m n t d (off may i j) T+d j:=by
   unfold cut;have e1:=sN_pick (m:=n) (fun b=>!(T b)) (fun b=>!(T b&&!(decide (b=j)))) d j hj (fun b hb=>by rw [decide_eq_false hb]; simp) (by rw [hT]; rfl) (by simp);have e2:sN m (fun a=>bif tch n (off may i j) (fun b=>T b&&!(decide (b=j))) a then t a else 0)≤sN m (fun a=>bif tch n (off may i j) T a then t a else 0):=sN_le fun a ha=>by
    have h0:=h.tn a ha;have:tch n (off may i j) (fun b=>T b&&!(decide (b=j))) a=true→tch n (off may i j) T a=true:=fun k=>by
     obtain ⟨b,hb,k1,k2⟩:=Qag.1 k;rw [Bool.and_eq_true] at k1;exact Qag.2 ⟨b,hb,k1.1,k2⟩
    revert this
    cases tch n (off may i j) (fun b=>T b&&!(decide (b=j))) a<;>cases tch n (off may i j) T a<;>intro this<;>simp at this ⊢<;>omega
   have e3:sN n (fun b=>bif T b&&!(decide (b=j)) then 0 else d b)=sN n (fun b=>bif !(T b&&!(decide (b=j))) then d b else 0):=Qw fun b _=>by cases T b&&!(decide (b=j))<;>rfl
   have e4:sN n (fun b=>bif T b then 0 else d b)=sN n (fun b=>bif !(T b) then d b else 0):=Qw fun b _=>by cases T b<;>rfl
   dsimp only at e1 e2 e3 e4 ⊢;omega
  omega
 have hle:∀T:Set_,v≤cut m n t d (off may i j) T-(bif T j then 0 else most)-(bif tch n (off may i j) T i then most else 0):=fun T=>by
  have:=hv.2 T;rw [cut_give hi hj] at this;exact this
 have hemp:v≤rest-most:=by
  have k1:=hle (fun _=>false);have k2:tch n (off may i j) (fun _=>false) i=false:=by
   cases k:tch n (off may i j) (fun _=>false) i with
   | false=>rfl
   | true =>
    obtain ⟨b,_,hb,_⟩:=Qag.1 k;cases hb
  have k3:cut m n t d (off may i j) (fun _=>false)=rest:=by
   rw [cut_off hi _ (.inl rfl)];unfold cut;have:sN m (fun a=>bif tch n may (fun _=>false) a then t a else 0)=0:=Qap fun a _=>by
    cases k:tch n may (fun _=>false) a with
    | false=>rfl
    | true =>
     obtain ⟨b,_,hb,_⟩:=Qag.1 k;cases hb
   rw [this];have:=h.td;simp only [cond_false];show sN n d+0=rest;omega
  rw [k2,k3] at k1;simp only [cond_false] at k1;omega
 obtain ⟨⟨U,hU⟩,_⟩:=hv;rw [cut_give hi hj] at hU;have hx0:0≤most-(rest-most-v):=by
  cases hUj:U j with
  | false =>
   cases hUi:tch n (off may i j) U i with
   | true=>have:=gB U (.inl hUj); rw [hUj,hUi] at hU; simp at hU; omega
   | false=>have:=gB U (.inl hUj); rw [hUj,hUi] at hU; simp at hU; omega
  | true =>
   cases hUi:tch n (off may i j) U i with
   | true=>have:=gB U (.inr hUi); rw [hUj,hUi] at hU; simp at hU; omega
   | false=>have:=gC U hUj hUi; rw [hUj,hUi] at hU; simp at hU; omega
 refine ⟨hx0,by omega,⟨fun a ha=>?_,fun b hb=>?_,?_,?_,fun T=>?_⟩⟩
 ·have:=h.tn a ha;unfold sub
  by_cases e:a=i
  ·subst e; rw [decide_eq_true rfl]; simp; omega
  ·rw [decide_eq_false e]; simpa using this
 ·have:=h.dn b hb;unfold sub
  by_cases e:b=j
  ·subst e; rw [decide_eq_true rfl]; simp; omega
  ·rw [decide_eq_false e]; simpa using this
 ·rw [sN_subA d j _ n hj,h.td]
 ·rw [sN_subA t i _ m hi,h.tt]
 ·rw [cut_give hi hj];cases hTj:T j with
  | false =>
   cases hTi:tch n (off may i j) T i with
   | true =>
    have k1:=hle T;rw [hTj,hTi] at k1;simp only [cond_true,cond_false] at k1 ⊢;omega
   | false =>
    have k1:=gB T (.inl hTj);simp only [cond_true,cond_false];omega
  | true =>
   cases hTi:tch n (off may i j) T i with
   | true =>
    have k1:=gB T (.inr hTi);simp only [cond_true,cond_false];omega
   | false =>
    have k1:=gC T hTj hTi;simp only [cond_true,cond_false]
    -- either nothing is lacking, or the least cut is crossed with this one
    by_cases hl:rest-most-v=0
    ·omega
    ·have hUA:U j=false∧tch n (off may i j) U i=true:=by
      cases hUj:U j with
      | false =>
       cases hUi:tch n (off may i j) U i with
       | true=>exact ⟨rfl,rfl⟩
       | false=>have:=gB U (.inl hUj); rw [hUj,hUi] at hU; simp at hU; omega
      | true =>
       cases hUi:tch n (off may i j) U i with
       | true=>have:=gB U (.inr hUi); rw [hUj,hUi] at hU; simp at hU; omega
       | false=>have:=gC U hUj hUi; rw [hUj,hUi] at hU; simp at hU; omega
     have c1:=cut_mod (n:=n) (d:=d) h.tn (off may i j) T U;have c2:=gB (fun b=>T b||U b) (.inr (by
      obtain ⟨b,q1,q2,q3⟩:=Qag.1 hUA.2;exact Qag.2 ⟨b,q1,by rw [q2,Bool.or_true],q3⟩))
     have c3:=gB (fun b=>T b&&U b) (.inl (by rw [hUA.1,Bool.and_false]));rw [hUA.1,hUA.2] at hU;simp only [cond_true,cond_false] at hU;omega
theorem HH.done{rest:Int}(h:HH m n t d may rest)(hm:∀a b,a<m→b<n→may a b=false):rest=0∧(∀a,a<m→t a=0)∧∀b,b<n→d b=0:=by
 have h1:=h.ct (fun _=>true);have e1:cut m n t d may (fun _=>true)=0:=by
  unfold cut;have q1:sN n (fun b=>bif (fun _:Nat=>true) b then 0 else d b)=0:=Qap fun _ _=>rfl;have q2:sN m (fun a=>bif tch n may (fun _=>true) a then t a else 0)=0:=Qap fun a ha=>by
   cases k:tch n may (fun _=>true) a with
   | false=>rfl
   | true =>
    obtain ⟨b,hb,_,hb2⟩:=Qag.1 k;rw [hm a b ha hb] at hb2; cases hb2
  rw [q1,q2]; rfl
 have h2:0≤rest:=by rw [←h.td]; exact sN_nn h.dn
 have h3:rest=0:=by omega
 have zero:∀{k:Nat} {f:Nat→Int},(∀a,a<k→0≤f a)→sN k f=0→∀a,a<k→f a=0:=fun {k}=>by
  induction k with
  | zero=>intro f _ _ a ha; omega
  | succ k ih =>
   intro f hf h0 a ha;rw [sN] at h0;have q1:0≤sN k f:=sN_nn fun b hb=>hf b (by omega);have q2:=hf k (by omega)
   by_cases e:a=k
   ·subst e; omega
   ·exact ih (fun b hb=>hf b (by omega)) (by omega) a (by omega)
 exact ⟨h3,zero h.tn (by rw [h.tt]; exact h3),zero h.dn (by rw [h.td]; exact h3)⟩
theorem Rch.zero{s f:Nat→Int}(hf:Rch m n s d may f)(hd:∀b,b<n→0≤d b):f 0=0:=by
 obtain ⟨⟨T,hT⟩,h2⟩:=hf 0 (Nat.zero_le _);have k1:=h2 (fun _=>true);unfold cut at hT k1;rw [sN] at hT k1;have q:0≤sN n (fun b=>bif T b then 0 else d b):=sN_nn fun b hb=>by
  have:=hd b hb;cases T b with
  | true=>exact Int.le_refl _
  | false=>exact this
 have q2:sN n (fun b=>bif (fun _=>true) b then 0 else d b)=0:=Qap fun _ _=>rfl;dsimp only at hT q q2 k1;omega
theorem Rch.step{s f:Nat→Int}(hf:Rch m n s d may f)(hs:∀a,a<m→0≤s a){k:Nat}(hk:k<m):0≤f (k+1)-f k∧f (k+1)-f k≤s k:=by
 obtain ⟨⟨T,hT⟩,h2⟩:=hf k (by omega);obtain ⟨⟨U,hU⟩,h4⟩:=hf (k+1) hk;have a1:=h2 U;have a2:=h4 T;have h0:=hs k hk;unfold cut at hT hU a1 a2;rw [sN] at hU a2
 constructor
 ·have:0≤(bif tch n may U k then s k else 0):=by cases tch n may U k<;>simp<;>omega
  omega
 ·have:(bif tch n may T k then s k else 0)≤s k:=by cases tch n may T k<;>simp<;>omega
  omega
theorem sN_tel(f:Nat→Int):∀k:Nat,sN k (fun a=>f (a+1)-f a)=f k-f 0
 | 0=>by simp [sN]
 | k+1=>by rw [sN,sN_tel f k]; omega
theorem HH.start{s f:Nat→Int}(hf:Rch m n s d may f)(hs:∀a,a<m→0≤s a)(hd:∀b,b<n→0≤d b)(hr:f m=sN n d):HH m n (fun a=>f (a+1)-f a) d may (sN n d) where
 tn a ha:=(hf.step hs ha).1
 dn:=hd
 td:=rfl
 tt:=by rw [sN_tel,hf.zero hd,hr]; omega
 ct T:=by
  have h1:=greedy hs hf hd (fun a=>!(tch n may T a)) T m (Nat.le_refl _);have e1:cutA m n s d may (fun a=>!(tch n may T a)&&decide (a<m)) T=sN n (fun b=>bif T b then 0 else d b):=by
   unfold cutA;rw [Qap (n:=m) (f:=fun a=>bif (!(tch n may T a)&&decide (a<m))&&tch n may T a then s a else 0) fun a _=>by cases tch n may T a<;>simp];omega
  rw [e1] at h1;have e2:sN m (fun a=>f (a+1)-f a)=sN m (fun a=>bif !(tch n may T a) then f (a+1)-f a else 0)+sN m (fun a=>bif tch n may T a then f (a+1)-f a else 0):=by
   rw [←sN_add];refine Qw fun a _=>?_;cases tch n may T a<;>simp
  have e3:sN m (fun a=>f (a+1)-f a)=sN n d:=by rw [sN_tel,hf.zero hd,hr]; omega
  unfold cut;dsimp only at h1 e2 ⊢;omega
end
end Flo
end Go.Proofs.Ytinabbgjignkbaa
