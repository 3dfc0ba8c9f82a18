/- Several texts in one. No condition. -/
import Derived.Test.YtinabbgjignkbaaA3
import Derived.Test.YtinabbgjignkbaaTU
namespace Go.Proofs.Ytinabbgjignkbaa
set_option linter.unusedVariables false
set_option linter.unusedSimpArgs false
set_option maxRecDepth 100000
open Go.RowKit
noncomputable def c65:Code:=Try.f65.body.getD .skip
inductive f65n0O where
 | ret
def f65n0E(a1:ByteArray):f65n0O→Ex×Tr×Hp
 | .ret=>(.ret,mkS [(2,(.pl (.bool (!(seq a1 a1)))))],[])
def f65n0S(a1:ByteArray):Tr×Hp:=(Qal [(jS a1)] 0 .leaf,[])
noncomputable def f65n0(a1:ByteArray):Option f65n0O :=
 some .ret
theorem f65n0_ok(a1:ByteArray){o:f65n0O}(h:f65n0 a1=some o):T Try.prog Try.f65.ntmps 0 c65 (f65n0S a1) (·=f65n0E a1 o):=by
 unfold f65n0 at h;obtain rfl:=Qe h;exact rE Qg [j3,j3] [] [] [] [2] (.ret,(f65n0E a1 .ret).2) an rfl
noncomputable def f65(a1:ByteArray):Option Bool:=(f65n0 a1).bind fun o=>match o with
 | .ret=>some (!(seq a1 a1))
theorem f65_ok(a1:ByteArray){r:Bool}(h:f65 a1=some r):Qn Try.prog false 65 [(jS a1)] [] (jB r) []:=by
 unfold f65 at h;obtain ⟨o,ho,h⟩:=Qd h;cases o with
 | ret =>
  obtain rfl:=Qe h;exact Qn.plain Qg (f:=Try.f65) (c:=c65) (by kernel_rfl) (by kernel_rfl) (by kernel_rfl) (by kernel_rfl) ((f65n0_ok a1 ho).mono fun r e=>by subst e; exact ⟨.inl rfl,(.pl (.bool (!(seq a1 a1)))),(.pl (.bool (!(seq a1 a1)))),by kernel_rfl,by kernel_rfl,((Wk.refl _):Wk (.pl (.bool (!(seq a1 a1)))) (.pl (.bool (!(seq a1 a1)))))⟩)

noncomputable def c49:Code:=Try.f49.body.getD .skip
inductive f49n0O where
 | ret (v21:Int)
def f49n0E(a1 a2:ByteArray):f49n0O→Ex×Tr×Hp
 | .ret v21=>(.ret,mkS [(4,(jI v21))],[])
def f49n0S(a1 a2:ByteArray):Tr×Hp:=(Qal [(jS a1),(jS a2)] 0 .leaf,[])
noncomputable def f49n0(a1 a2:ByteArray):Option f49n0O :=
 (f65 a1).bind fun x5 =>
 (f65 a2).bind fun x9 =>
 bif x5 then
  bif x9 then
   some (.ret 0)
  else
   some (.ret (-1))
 else
  bif x9 then
   some (.ret 1)
  else
   bif (slt a1 a2) then
    some (.ret (-1))
   else
    bif (slt a1 a2||seq a1 a2) then
     some (.ret 0)
    else
     some (.ret 1)
theorem f49n0_ok(a1 a2:ByteArray){o:f49n0O}(h:f49n0 a1 a2=some o):T Try.prog Try.f49.ntmps 0 c49 (f49n0S a1 a2) (·=f49n0E a1 a2 o):=by
 unfold f49n0 at h;obtain ⟨x5,h6,h⟩:=Qd h;obtain ⟨x9,h10,h⟩:=Qd h;rcases Qh h with ⟨h13,h⟩|⟨h13,h⟩
 ·rcases Qh h with ⟨h14,h⟩|⟨h14,h⟩
  ·obtain rfl:=Qe h;exact rK Qg 4 [j3,([],[jH 1 (jB x5)],[]),([],[jH 1 (jB x9)],[]),j3,j3,j3] [some true,some true] [] [] [4] .ret ((f49n0E a1 a2 (.ret 0)).2) (ap (f65_ok a1 h6) (ap (f65_ok a2 h10) (ap h13 (ap h14 an)))) rfl
  ·obtain rfl:=Qe h;exact rK Qg 4 [j3,([],[jH 1 (jB x5)],[]),([],[jH 1 (jB x9)],[]),j3,j3,j3] [some true,some false] [] [] [4] .ret ((f49n0E a1 a2 (.ret (-1))).2) (ap (f65_ok a1 h6) (ap (f65_ok a2 h10) (ap h13 (ap h14 an)))) rfl
 ·rcases Qh h with ⟨h16,h⟩|⟨h16,h⟩
  ·obtain rfl:=Qe h;exact rK Qg 5 [j3,([],[jH 1 (jB x5)],[]),([],[jH 1 (jB x9)],[]),j3,j3,j3] [some false,some true] [] [] [4] .ret ((f49n0E a1 a2 (.ret 1)).2) (ap (f65_ok a1 h6) (ap (f65_ok a2 h10) (ap h13 (ap h16 an)))) rfl
  ·rcases Qh h with ⟨h18,h⟩|⟨h18,h⟩
   ·obtain rfl:=Qe h;exact rK Qg 6 [j3,([],[jH 1 (jB x5)],[]),([],[jH 1 (jB x9)],[]),j3,j3,j3,j3] [some false,some false,some true] [] [] [4] .ret ((f49n0E a1 a2 (.ret (-1))).2) (ap (f65_ok a1 h6) (ap (f65_ok a2 h10) (ap h13 (ap h16 (ap h18 an))))) rfl
   ·rcases Qh h with ⟨h20,h⟩|⟨h20,h⟩
    ·obtain rfl:=Qe h;exact rE Qg [j3,([],[jH 1 (jB x5)],[]),([],[jH 1 (jB x9)],[]),j3,j3,j3,j3,j3] [some false,some false,some false,some false] [] [] [4] (.ret,(f49n0E a1 a2 (.ret 0)).2) (ap (f65_ok a1 h6) (ap (f65_ok a2 h10) (ap h13 (ap h16 (ap h18 (ap (Qv h20) an)))))) rfl
    ·obtain rfl:=Qe h;exact rK Qg 7 [j3,([],[jH 1 (jB x5)],[]),([],[jH 1 (jB x9)],[]),j3,j3,j3,j3,j3] [some false,some false,some false,some true] [] [] [4] .ret ((f49n0E a1 a2 (.ret 1)).2) (ap (f65_ok a1 h6) (ap (f65_ok a2 h10) (ap h13 (ap h16 (ap h18 (ap (Qak h20) an)))))) rfl
noncomputable def f49(a1 a2:ByteArray):Option Int:=(f49n0 a1 a2).bind fun o=>match o with
 | .ret v21=>some v21
theorem f49_ok(a1 a2:ByteArray){r:Int}(h:f49 a1 a2=some r):Qn Try.prog false 49 [(jS a1),(jS a2)] [] (jI r) []:=by
 unfold f49 at h;obtain ⟨o,ho,h⟩:=Qd h;cases o with
 | ret v21 =>
  obtain rfl:=Qe h;exact Qn.plain Qg (f:=Try.f49) (c:=c49) (by kernel_rfl) (by kernel_rfl) (by kernel_rfl) (by kernel_rfl) ((f49n0_ok a1 a2 ho).mono fun r e=>by subst e; exact ⟨.inl rfl,(jI v21),(jI v21),by kernel_rfl,by kernel_rfl,((Wk.refl _):Wk (jI v21) (jI v21))⟩)

noncomputable def c48:Code:=Try.f48.body.getD .skip
inductive f48n2O where
 | exit0
 | ret (v28:Int)
def f48n2E(bh1:List Int):f48n2O→Ex×Tr×Hp
 | .exit0=>((.exit 0),mkS [(3,(jI 0))],[])
 | .ret v28=>(.ret,mkS [(2,(jI v28))],[])
def f48n2S(bh1:List Int)(v19:Int):Tr×Hp:=(mkS [(3,(jI 0)),(6,(.pl (.sl .any 1 (bh1.map (cInt .i64))))),(7,(jI (bh1.length:Int))),(8,(jI v19))],[])
noncomputable def f48n2:Nat→List Int→Int→Option f48n2O
 | 0,_,_=>none
 | f+1,bh1,v19 =>
  bif decide (v19<(bh1.length:Int)) then
   (at? bh1 v19).bind fun x25 =>
   bif decide (x25=0) then
    (f48n2 f bh1 (wr64 (v19+1)))
   else
    some (.ret x25)
  else
   some .exit0
theorem f48n2_ok:∀(f:Nat)(bh1:List Int)(v19:Int){o:f48n2O},f48n2 f bh1 v19=some o→TL Try.prog Try.f48.ntmps 0 f (cL (cL (Qi 1 (cL (Qi 2 c48))))) (f48n2S bh1 v19) (·=f48n2E bh1 o)
 | 0,_,_,o,h=>by rw [f48n2] at h; cases h
 | f+1,bh1,v19,o,h=>by
  rw [f48n2] at h;refine TL.body (K:=fun s=>∃v19:Int,s=(f48n2S bh1 v19)∧f48n2 f bh1 v19=some o) ?_ (by rintro _ ⟨v19,rfl,hk⟩; exact f48n2_ok f _ _ hk);rcases Qh h with ⟨h21,h⟩|⟨h21,h⟩
  ·obtain ⟨x25,h26,h⟩:=Qd h;rcases Qh h with ⟨h27,h⟩|⟨h27,h⟩
   ·exact rE Qg [j3,([],[(0,.idx (Int.toNat v19) ((cInt .i64) x25))],[]),j3,j3] [some true,some false] [] [] [3,6,7,8] (.norm,(f48n2S bh1 (wr64 (v19+1)))) (ap h21 (ap (Qf h26).1 (ap (Qj (cInt .i64) (Qf h26).2) (ap (Qv h27) an)))) (Qm.norm ⟨(wr64 (v19+1)),rfl,h⟩)
   ·obtain rfl:=Qe h;exact rK Qg 3 [j3,([],[(0,.idx (Int.toNat v19) ((cInt .i64) x25))],[]),j3,j3] [some true,some true] [] [] [2] .ret ((f48n2E bh1 (.ret x25)).2) (ap h21 (ap (Qf h26).1 (ap (Qj (cInt .i64) (Qf h26).2) (ap (Qak h27) an)))) (Qm.out rfl rfl)
  ·obtain rfl:=Qe h;exact rK Qg 2 [j3] [some false] [] [] [3] (.exit 0) ((f48n2E bh1 .exit0).2) (ap h21 an) (Qm.out rfl rfl)
noncomputable def f48n2L(bh1:List Int):List Int→Int→Option f48n2O
 | [],v19 =>
  some .exit0
 | x0::rest,v19 =>
  bif decide (x0=0) then
   (f48n2L bh1 rest (v19+1))
  else
   some (.ret x0)
theorem f48n2L_eq(bh1:List Int):∀(rest:List Int)(f k:Nat),bh1.drop k=rest→bh1.length≤maxLen→rest.length<f→f48n2 f bh1 (k:Int)=f48n2L bh1 rest (k:Int)
 | _,0,_,_,_,hf=>absurd hf (Nat.not_lt_zero _)
 | [],f+1,k,hd,hm,hf=>by
  have hk:¬((k:Int)<(bh1.length:Int)):=by have:=Qai hd; omega
  rw [f48n2,f48n2L];simp only [decide_eq_false hk,cond_false]
 | x0::rest,f+1,k,hd,hm,hf=>by
  obtain ⟨hx,hlt,hd'⟩:=Qaj hd;have hk:(k:Int)<(bh1.length:Int):=by omega
  have hw:wr64 ((k:Int)+1)=(k:Int)+1:=Qbk (by omega) (by unfold maxLen at hm; omega);have ih:f48n2 f bh1 ((k:Int)+1)=f48n2L bh1 rest ((k:Int)+1):=f48n2L_eq bh1 rest f (k+1) hd' hm (by simpa using hf);rw [f48n2,f48n2L];simp only [decide_eq_true hk,cond_true,Qbv,hx,Option.bind_some,hw,ih]
theorem f48n2_run(bh1:List Int)(hm:bh1.length≤maxLen):f48n2 FUEL bh1 0=f48n2L bh1 bh1 0:=f48n2L_eq bh1 bh1 FUEL 0 List.drop_zero hm (Qaw hm)
inductive f48n1O where
 | norm
 | ret (v32:Int)
def f48n1E(bh1:List Int):f48n1O→Ex×Tr×Hp
 | .norm=>(.norm,mkS [(3,(jI 0))],[])
 | .ret v32=>(.ret,mkS [(2,(jI v32))],[])
def f48n1S(bh1:List Int):Tr×Hp:=(mkS [(0,(.pl (.sl .any 1 (bh1.map (cInt .i64))))),(3,(jI 0))],[])
noncomputable def f48n1(bh1:List Int):Option f48n1O :=
 (f48n2 FUEL bh1 0).bind fun o29=>match o29 with
 | .exit0=>some .norm
 | .ret v31=>some (.ret v31)
theorem f48n1_ok(bh1:List Int){o:f48n1O}(h:f48n1 bh1=some o):T Try.prog Try.f48.ntmps 0 (cL (Qi 2 c48)) (f48n1S bh1) (·=f48n1E bh1 o):=by
 unfold f48n1 at h;refine rN Qg 1 [([],[],[(1,.val (jI (bh1.length:Int)))])] [] [] [] [3,6,7,8] (f48n2S bh1 0) (ap (Qp (xs:=bh1) (c:=(cInt .i64))) an) ?_;obtain ⟨o29,h30,h⟩:=Qd h;cases o29 with
 | exit0 =>
  obtain rfl:=Qe h;exact T.last' (T.bl (i:=0) (by kernel_rfl) (by kernel_rfl) (f48n2_ok FUEL bh1 0 h30)) (tds:=[]) (m:=[]) (keep:=[3]) (st2:=(f48n1E bh1 .norm).2) (by kernel_rfl) an rfl
 | ret v31 =>
  obtain rfl:=Qe h;exact T.last' (T.bl (i:=0) (by kernel_rfl) (by kernel_rfl) (f48n2_ok FUEL bh1 0 h30)) (tds:=[]) (m:=[]) (keep:=[2]) (st2:=(f48n1E bh1 (.ret v31)).2) (by kernel_rfl) an rfl
inductive f48n0O where
 | ret (v36:Int)
def f48n0E(a1:List Int):f48n0O→Ex×Tr×Hp
 | .ret v36=>(.ret,mkS [(2,(jI v36))],[])
def f48n0S(a1:List Int):Tr×Hp:=(Qal [(.pl (.sl .any 1 (a1.map (cInt .i64))))] 0 .leaf,[])
noncomputable def f48n0(a1:List Int):Option f48n0O :=
 (f48n1 a1).bind fun o33=>match o33 with
 | .norm=>some (.ret 0)
 | .ret v35=>some (.ret v35)
theorem f48n0_ok(a1:List Int){o:f48n0O}(h:f48n0 a1=some o):T Try.prog Try.f48.ntmps 0 c48 (f48n0S a1) (·=f48n0E a1 o):=by
 unfold f48n0 at h;refine rN Qg 2 [j3,j3] [] [] [] [0,3] (f48n1S a1) an ?_;obtain ⟨o33,h34,h⟩:=Qd h;cases o33 with
 | norm =>
  refine T.oneN (by kernel_rfl) (f48n1_ok a1 h34) (st2:=(f48n1E a1 .norm).2) rfl ?_;obtain rfl:=Qe h;exact rE Qg [j3] [] [] [] [2] (.ret,(f48n0E a1 (.ret 0)).2) an rfl
 | ret v35 =>
  obtain rfl:=Qe h;exact T.oneX' (by kernel_rfl) (f48n1_ok a1 h34) (tds:=[]) (m:=[]) (keep:=[2]) (st2:=(f48n0E a1 (.ret v35)).2) (by kernel_rfl) an rfl rfl
noncomputable def f48(a1:List Int):Option Int:=(f48n0 a1).bind fun o=>match o with
 | .ret v36=>some v36
theorem f48_ok(a1:List Int){r:Int}(h:f48 a1=some r):Qn Try.prog false 48 [(.pl (.sl .any 1 (a1.map (cInt .i64))))] [] (jI r) []:=by
 unfold f48 at h;obtain ⟨o,ho,h⟩:=Qd h;cases o with
 | ret v36 =>
  obtain rfl:=Qe h;exact Qn.plain Qg (f:=Try.f48) (c:=c48) (by kernel_rfl) (by kernel_rfl) (by kernel_rfl) (by kernel_rfl) ((f48n0_ok a1 ho).mono fun r e=>by subst e; exact ⟨.inl rfl,(jI v36),(jI v36),by kernel_rfl,by kernel_rfl,((Wk.refl _):Wk (jI v36) (jI v36))⟩)

noncomputable def c27:Code:=Try.f27.body.getD .skip
inductive f27n0O where
 | ret (v15:Int)
def f27n0E(a1 a2:Qc):f27n0O→Ex×Tr×Hp
 | .ret v15=>(.ret,mkS [(4,(jI v15))],[])
def f27n0S(a1 a2:Qc):Tr×Hp:=(Qal [(jA Qc.cells a1),(jA Qc.cells a2)] 0 .leaf,[])
noncomputable def f27n0(a1 a2:Qc):Option f27n0O :=
 (f49 a1.Asset a2.Asset).bind fun x9 =>
 (f49 a1.Call a2.Call).bind fun x11 =>
 (f48 [x9,x11]).bind fun x13 =>
 some (.ret x13)
theorem f27n0_ok(a1 a2:Qc){o:f27n0O}(h:f27n0 a1 a2=some o):T Try.prog Try.f27.ntmps 0 c27 (f27n0S a1 a2) (·=f27n0E a1 a2 o):=by
 unfold f27n0 at h;obtain ⟨x9,h10,h⟩:=Qd h;obtain ⟨x11,h12,h⟩:=Qd h;obtain ⟨x13,h14,h⟩:=Qd h;obtain rfl:=Qe h
 exact rE Qg [j3,([],[jH 4 (jI x9),jH 9 (jI x11),jH 11 (jI x13)],[])] [] [] [] [4] (.ret,(f27n0E a1 a2 (.ret x13)).2) (ap (same_val (e:=⟨false,49,[(jS a1.Asset),(jS a2.Asset)],[],(jI x9),[]⟩) (f:=⟨false,49,[(jS a1.Call),(jS a2.Call)],[],(jI x11),[]⟩) (fun k=>by simp only [jL,jS,jI,jB,jA,Qb.cells_eq,Qb.map_eq,Qc.cells_eq,Qc.map_eq,Qbg.cells_eq,Qbg.map_eq,Arr83.cells_eq,Arr83.map_eq,List.cons.injEq,AV.pl.injEq,PV.str.injEq,PV.int.injEq,PV.bool.injEq,PV.agg.injEq,PV.sl.injEq,and_true,true_and] at k; have e0:x9=x11:=Option.some.inj (by rw [←h10,←h12]; first | exact congrArg _ k | (obtain ⟨k1,_⟩:=k; simp only [k1]; done) | simp only [k]); exact ⟨by rw [e0],rfl⟩)) (ap (f49_ok a1.Asset a2.Asset h10) (ap (f49_ok a1.Call a2.Call h12) (ap (f48_ok [x9,x11] h14) an)))) rfl
noncomputable def f27(a1 a2:Qc):Option Int:=(f27n0 a1 a2).bind fun o=>match o with
 | .ret v15=>some v15
theorem f27_ok(a1 a2:Qc){r:Int}(h:f27 a1 a2=some r):Qn Try.prog false 27 [(jA Qc.cells a1),(jA Qc.cells a2)] [] (jI r) []:=by
 unfold f27 at h;obtain ⟨o,ho,h⟩:=Qd h;cases o with
 | ret v15 =>
  obtain rfl:=Qe h;exact Qn.plain Qg (f:=Try.f27) (c:=c27) (by kernel_rfl) (by kernel_rfl) (by kernel_rfl) (by kernel_rfl) ((f27n0_ok a1 a2 ho).mono fun r e=>by subst e; exact ⟨.inl rfl,(jI v15),(jI v15),by kernel_rfl,by kernel_rfl,((Wk.refl _):Wk (jI v15) (jI v15))⟩)

instance:Inhabited Qc:=⟨(Qc.mk str_x str_x 0)⟩
def so26_27_good(xs:List Qc):Prop:=∃c:Qc→Qc→Int,(∀x y,f27 x y=some (c x y))∧Go.Sort.SWO (ltOf c)∧xs.length<4611686018427387904
open Classical in
noncomputable def so26_27(xs:List Qc):Option (List Qc):=if h:so26_27_good xs then some (sortL h.choose xs) else none
theorem so26_27_val{xs:List Qc}{c:Qc→Qc→Int}(hc:∀x y,f27 x y=some (c x y))(o:Go.Sort.SWO (ltOf c))(hl:xs.length<4611686018427387904):so26_27 xs=some (sortL c xs):=by
 have h:so26_27_good xs:=⟨c,hc,o,hl⟩;unfold so26_27;rw [dif_pos h];have e:h.choose=c:=funext fun x=>funext fun y=>Option.some.inj ((h.choose_spec.1 x y).symm.trans (hc x y));rw [e]
theorem so26_27_ok(xs:List Qc){r:List Qc}(h:so26_27 xs=some r) :
  Qn Try.prog true 26 [.own 0,.pl (.fn 27)] [some (.row false 3 (xs.map Qc.cells))] (.tup []) [some (.row false 3 (r.map Qc.cells))]:=by
 unfold so26_27 at h
 by_cases hc:so26_27_good xs
 ·rw [dif_pos hc] at h;obtain rfl:=Qe h;have hs:=hc.choose_spec;exact sort_callS (cells:=Qc.cells) so_lays rfl so_agg so_size (enters_of Try.func26 (by kernel_rfl) rfl) (fun _=>rfl) (fun x q hq=>by
   simp only [Qc.cells,List.mem_cons,List.not_mem_nil,or_false] at hq;rcases hq with rfl | rfl | rfl<;>rfl) _ hs.2.1 (fun x y=>f27_ok _ _ (hs.1 x y)) xs hs.2.2
 ·rw [dif_neg hc] at h; cases h


noncomputable def c11:Code:=Try.f11.body.getD .skip
inductive f11n2O where
 | exit0 (v47:Int) (v48:List Int)
def f11n2E(bj2:(List Bool)×(List Qa)×(List Int)×(List Int))(bb1:List Qb):f11n2O→Ex×Tr×Hp
 | .exit0 v47 v48=>((.exit 0),mkS [(7,(.bp 0 0)),(8,(.bp 1 0)),(9,(jI v47))],[some (.box 51 [(.bp 2 0)]),some (.box 33 [(.own 3)]),some (.abox 57 [(.own 4),(jL 2 Qb.cells bb1),(.own 5),(.own 6)] (bj2.1.map Qq)),some (.row false 1 (v48.map (cInt .i64))),jR 4 Qa.cells bj2.2.1,some (.row false 1 (bj2.2.2.1.map (cInt .i64))),some (.row false 1 (bj2.2.2.2.map (cInt .i64)))])
def f11n2S(bj2:(List Bool)×(List Qa)×(List Int)×(List Int))(bb1:List Qb)(v34 v35:Int)(v36:List Int):Tr×Hp:=(mkS [(7,(.bp 0 0)),(8,(.bp 1 0)),(9,(jI v34)),(32,(jI (bj2.2.2.1.length:Int))),(33,(jI v35))],[some (.box 51 [(.bp 2 0)]),some (.box 33 [(.own 3)]),some (.abox 57 [(.own 4),(jL 2 Qb.cells bb1),(.own 5),(.own 6)] (bj2.1.map Qq)),some (.row false 1 (v36.map (cInt .i64))),jR 4 Qa.cells bj2.2.1,some (.row false 1 (bj2.2.2.1.map (cInt .i64))),some (.row false 1 (bj2.2.2.2.map (cInt .i64)))])
noncomputable def f11n2:Nat→(List Bool)×(List Qa)×(List Int)×(List Int)→List Qb→Int→Int→List Int→Option f11n2O
 | 0,_,_,_,_,_=>none
 | f+1,bj2,bb1,v34,v35,v36 =>
  bif decide (v35<(bj2.2.2.1.length:Int)) then
   req (cutB 0 (wr64 (v35+1)) bj2.2.2.1.length) <|
   (f23r1 ((Int.toNat (wr64 (v35+1)))-0) bj2.2.2.1 bj2.2.2.2 bb1 bj2.1 bj2.2.1).bind fun x44 =>
   req (fit (v36.length+1) 8) <|
   (f11n2 f bj2 bb1 x44 (wr64 (v35+1)) (v36++[(wr64 (x44-v34))]))
  else
   some (.exit0 v34 v36)
theorem f11n2_ok:∀(f:Nat)(bj2:(List Bool)×(List Qa)×(List Int)×(List Int))(bb1:List Qb)(v34 v35:Int)(v36:List Int){o:f11n2O},f11n2 f bj2 bb1 v34 v35 v36=some o→TL Try.prog Try.f11.ntmps 0 f (cL (cL (Qi 1 (cL (Qi 5 c11))))) (f11n2S bj2 bb1 v34 v35 v36) (·=f11n2E bj2 bb1 o)
 | 0,_,_,_,_,_,o,h=>by rw [f11n2] at h; cases h
 | f+1,bj2,bb1,v34,v35,v36,o,h=>by
  rw [f11n2] at h;refine TL.body (K:=fun s=>∃v34:Int,∃v35:Int,∃v36:List Int,s=(f11n2S bj2 bb1 v34 v35 v36)∧f11n2 f bj2 bb1 v34 v35 v36=some o) ?_ (by rintro _ ⟨v34,v35,v36,rfl,hk⟩; exact f11n2_ok f _ _ _ _ _ hk);rcases Qh h with ⟨h38,h⟩|⟨h38,h⟩
  ·obtain ⟨h43,h⟩:=Ql h;obtain ⟨x44,h45,h⟩:=Qd h;obtain ⟨h46,h⟩:=Ql h
   exact rE Qg [j3,j3,([],[(6,.cut 0 (Int.toNat (wr64 (v35+1)))),(14,.call (jI x44) [none,none,some (.abox 57 [(.own 4),(jL 2 Qb.cells bb1),(.own 5),(.own 6)] (bj2.1.map Qq)),none,jR 4 Qa.cells bj2.2.1,some (.row false 1 (bj2.2.2.1.map (cInt .i64))),some (.row false 1 (bj2.2.2.2.map (cInt .i64))),none])],[]),([],[(5,.fits)],[(5,.row 9 ((v36++[(wr64 (x44-v34))]).map (cInt .i64)))]),j3,j3] [some true] [] [0,1,2,9,4,5,6] [7,8,9,32,33] (.norm,(f11n2S bj2 bb1 x44 (wr64 (v35+1)) (v36++[(wr64 (x44-v34))]))) (ap h38 (ap (cut_hn_1_map (c:=(cInt .i64)) h43) (ap (cut_hn_2 h43) (ap (cut_hn_3 h43) (ap (cut_hn_4_map (c:=(cInt .i64)) h43) (ap (Qn.rn 8 [5,6,2,4] (f23r1_ok ((Int.toNat (wr64 (v35+1)))-0) bj2.2.2.1 bj2.2.2.2 bb1 bj2.1 bj2.2.1 h45)) (ap (fit_map (te:=ti3) (xs:=v36) (n:=1) (c:=(cInt .i64)) h46 rfl) (ap (app_cv (xs:=v36) (ys:=[(wr64 (x44-v34))]) (c:=(cInt .i64))) an)))))))) (Qm.norm ⟨x44,(wr64 (v35+1)),(v36++[(wr64 (x44-v34))]),rfl,h⟩)
  ·obtain rfl:=Qe h;exact rK Qg 2 [j3] [some false] [] [0,1,2,3,4,5,6] [7,8,9] (.exit 0) ((f11n2E bj2 bb1 (.exit0 v34 v36)).2) (ap h38 an) (Qm.out rfl rfl)
inductive f11n1O where
 | norm (v53:Int) (v54:List Int)
def f11n1E(bb1:List Qb)(bj2:(List Bool)×(List Qa)×(List Int)×(List Int)):f11n1O→Ex×Tr×Hp
 | .norm v53 v54=>(.norm,mkS [(7,(.bp 0 0)),(8,(.bp 1 0)),(9,(jI v53))],[some (.box 51 [(.bp 2 0)]),some (.box 33 [(.own 3)]),some (.abox 57 [(.own 4),(jL 2 Qb.cells bb1),(.own 5),(.own 6)] (bj2.1.map Qq)),some (.row false 1 (v54.map (cInt .i64))),jR 4 Qa.cells bj2.2.1,some (.row false 1 (bj2.2.2.1.map (cInt .i64))),some (.row false 1 (bj2.2.2.2.map (cInt .i64)))])
def f11n1S(bb1:List Qb)(bj2:(List Bool)×(List Qa)×(List Int)×(List Int)):Tr×Hp:=(mkS [(7,(.bp 0 0)),(8,(.bp 1 0)),(9,(jI 0))],[some (.box 51 [(.bp 2 0)]),some (.box 33 [(.pl (.sl .nil 0 []))]),some (.abox 57 [(.own 3),(jL 2 Qb.cells bb1),(.own 4),(.own 5)] (bj2.1.map Qq)),jR 4 Qa.cells bj2.2.1,some (.row false 1 (bj2.2.2.1.map (cInt .i64))),some (.row false 1 (bj2.2.2.2.map (cInt .i64)))])
noncomputable def f11n1(bb1:List Qb)(bj2:(List Bool)×(List Qa)×(List Int)×(List Int)):Option f11n1O :=
 (f11n2 FUEL bj2 bb1 0 0 []).bind fun o49=>match o49 with
 | .exit0 v51 v52=>some (.norm v51 v52)
theorem f11n1_ok(bb1:List Qb)(bj2:(List Bool)×(List Qa)×(List Int)×(List Int)){o:f11n1O}(h:f11n1 bb1 bj2=some o):T Try.prog Try.f11.ntmps 0 (cL (Qi 5 c11)) (f11n1S bb1 bj2) (·=f11n1E bb1 bj2 o):=by
 unfold f11n1 at h;refine rN Qg 1 [([],[],[(4,.val (jI (bj2.2.2.1.length:Int)))])] [] [.matC 1 0 1] [0,1,2,6,3,4,5] [7,8,9,32,33] (f11n2S bj2 bb1 0 0 []) (ap (Qp (xs:=bj2.2.2.1) (c:=(cInt .i64))) an) ?_;obtain ⟨o49,h50,h⟩:=Qd h;cases o49 with
 | exit0 v51 v52 =>
  obtain rfl:=Qe h;exact T.last' (T.bl (i:=0) (by kernel_rfl) (by kernel_rfl) (f11n2_ok FUEL bj2 bb1 0 0 [] h50)) (tds:=[]) (m:=[0,1,2,3,4,5,6]) (keep:=[7,8,9]) (st2:=(f11n1E bb1 bj2 (.norm v51 v52)).2) (by kernel_rfl) an rfl
inductive f11n5O where
 | exit4 (v407:Int) (v408:List Bool) (v409:List Int) (v410:List Qc) (v411:List Int)
def f11n5E(bg2:Int)(bh1 bh9:List Int)(bb4:List Qb)(bj8:(List Bool)×(List Qa)×(List Int)×(List Int)):f11n5O→Ex×Tr×Hp
 | .exit4 v407 v408 v409 v410 v411=>((.exit 4),mkS [(7,(.bp 0 0)),(8,(.bp 1 0)),(12,(.bp 2 0)),(13,(.bp 3 0)),(14,(.clo 25 [(.bp 1 0),(.bp 0 0),(.bp 2 0),(.bp 3 0)])),(69,(jI (bh1.length:Int))),(70,(jI bg2))],[some (.box 51 [(.bp 4 0)]),some (.box 33 [(.own 5)]),some (.box 3 (((cInt .i64) v407).map .pl)),some (.box 26 [(.own 6)]),some (.abox 57 [(.own 7),(jL 2 Qb.cells bb4),(.own 8),(.own 9)] (v408.map Qq)),some (.row false 1 (v409.map (cInt .i64))),jR 3 Qc.cells v410,jR 4 Qa.cells bj8.2.1,some (.row false 1 (bj8.2.2.1.map (cInt .i64))),some (.row false 1 (v411.map (cInt .i64)))])
def f11n5S(bg2:Int)(bh1 bh9:List Int)(bb4:List Qb)(bj8:(List Bool)×(List Qa)×(List Int)×(List Int))(v373 v374:Int)(v375:List Bool)(v376:List Int)(v377:List Qc)(v378:List Int):Tr×Hp:=(mkS [(7,(.bp 0 0)),(8,(.bp 1 0)),(12,(.bp 2 0)),(13,(.bp 3 0)),(14,(.clo 25 [(.bp 1 0),(.bp 0 0),(.bp 2 0),(.bp 3 0)])),(15,(jI bg2)),(69,(jI (bh1.length:Int))),(70,(jI bg2)),(77,(jI (bh9.length:Int))),(78,(jI v373))],[some (.box 51 [(.bp 4 0)]),some (.box 33 [(.own 5)]),some (.box 3 (((cInt .i64) v374).map .pl)),some (.box 26 [(.own 6)]),some (.abox 57 [(.own 7),(jL 2 Qb.cells bb4),(.own 8),(.own 9)] (v375.map Qq)),some (.row false 1 (v376.map (cInt .i64))),jR 3 Qc.cells v377,jR 4 Qa.cells bj8.2.1,some (.row false 1 (bj8.2.2.1.map (cInt .i64))),some (.row false 1 (v378.map (cInt .i64)))])
noncomputable def f11n5:Nat→Int→List Int→List Int→List Qb→(List Bool)×(List Qa)×(List Int)×(List Int)→Int→Int→List Bool→List Int→List Qc→List Int→Option f11n5O
 | 0,_,_,_,_,_,_,_,_,_,_,_=>none
 | f+1,bg2,bh1,bh9,bb4,bj8,v373,v374,v375,v376,v377,v378 =>
  bif decide (v373<(bh9.length:Int)) then
   req (idxB bg2 10) <|
   req (idxB v373 8) <|
   (v375[((Int.toNat bg2)*8+(Int.toNat v373)*1)]?).bind fun x396 =>
   bif x396 then
    (at? v376 bg2).bind fun x399 =>
    (at? v378 v373).bind fun x401 =>
    (f23r2 (v376.set (Int.toNat bg2) (wr64 (x399-(mnI x399 x401)))) (v378.set (Int.toNat v373) (wr64 (x401-(mnI x399 x401)))) bb4 (v375.set ((Int.toNat bg2)*8+(Int.toNat v373)*1) false) bj8.2.1 bj8.2.2.1).bind fun x403 =>
    (f25r2 bg2 v373 (wr64 ((mnI x399 x401)-(wr64 ((wr64 (v374-(mnI x399 x401)))-x403)))) v374 ((v376.set (Int.toNat bg2) (wr64 (x399-(mnI x399 x401)))).set (Int.toNat bg2) (wr64 ((wr64 (x399-(mnI x399 x401)))+(mnI x399 x401)))) bb4 (v375.set ((Int.toNat bg2)*8+(Int.toNat v373)*1) false) v377 bj8.2.1 bj8.2.2.1 ((v378.set (Int.toNat v373) (wr64 (x401-(mnI x399 x401)))).set (Int.toNat v373) (wr64 ((wr64 (x401-(mnI x399 x401)))+(mnI x399 x401))))).bind fun x405 =>
    (f11n5 f bg2 bh1 bh9 bb4 bj8 (wr64 (v373+1)) (wr64 (v374-(wr64 ((mnI x399 x401)-(wr64 ((wr64 (v374-(mnI x399 x401)))-x403)))))) (v375.set ((Int.toNat bg2)*8+(Int.toNat v373)*1) false) x405.1 x405.2.2 x405.2.1)
   else
    (f11n5 f bg2 bh1 bh9 bb4 bj8 (wr64 (v373+1)) v374 v375 v376 v377 v378)
  else
   some (.exit4 v374 v375 v376 v377 v378)
theorem f11n5_ok:∀(f:Nat)(bg2:Int)(bh1 bh9:List Int)(bb4:List Qb)(bj8:(List Bool)×(List Qa)×(List Int)×(List Int))(v373 v374:Int)(v375:List Bool)(v376:List Int)(v377:List Qc)(v378:List Int){o:f11n5O},f11n5 f bg2 bh1 bh9 bb4 bj8 v373 v374 v375 v376 v377 v378=some o→TL Try.prog Try.f11.ntmps 0 f (cL (cL (Qi 2 (cL (cL (Qi 2 (cL (cL (Qi 1 (cL (Qi 4 (Qi 1 (Qi 5 c11))))))))))))) (f11n5S bg2 bh1 bh9 bb4 bj8 v373 v374 v375 v376 v377 v378) (·=f11n5E bg2 bh1 bh9 bb4 bj8 o)
 | 0,_,_,_,_,_,_,_,_,_,_,_,o,h=>by rw [f11n5] at h; cases h
 | f+1,bg2,bh1,bh9,bb4,bj8,v373,v374,v375,v376,v377,v378,o,h=>by
  rw [f11n5] at h;refine TL.body (K:=fun s=>∃v373:Int,∃v374:Int,∃v375:List Bool,∃v376:List Int,∃v377:List Qc,∃v378:List Int,s=(f11n5S bg2 bh1 bh9 bb4 bj8 v373 v374 v375 v376 v377 v378)∧f11n5 f bg2 bh1 bh9 bb4 bj8 v373 v374 v375 v376 v377 v378=some o) ?_ (by rintro _ ⟨v373,v374,v375,v376,v377,v378,rfl,hk⟩; exact f11n5_ok f _ _ _ _ _ _ _ _ _ _ _ hk);rcases Qh h with ⟨h380,h⟩|⟨h380,h⟩
  ·obtain ⟨h394,h⟩:=Ql h;obtain ⟨h395,h⟩:=Ql h;obtain ⟨x396,h397,h⟩:=Qd h;rcases Qh h with ⟨h398,h⟩|⟨h398,h⟩
   ·obtain ⟨x399,h400,h⟩:=Qd h;obtain ⟨x401,h402,h⟩:=Qd h;obtain ⟨x403,h404,h⟩:=Qd h;obtain ⟨x405,h406,h⟩:=Qd h
    exact rE Qg [j3,j3,([],[(5,.at_ (Int.toNat bg2)),(6,.at_ (Int.toNat v373)),(7,.arr ((Int.toNat bg2)*8+(Int.toNat v373)*1) (Qq x396))],[]),([],[(5,.at_ (Int.toNat bg2)),(6,.at_ (Int.toNat v373)),(7,.arw ((Int.toNat bg2)*8+(Int.toNat v373)*1))],[(7,.arr 4 ((v375.set ((Int.toNat bg2)*8+(Int.toNat v373)*1) false).map Qq))]),([],[(2,.at_ (Int.toNat bg2)),(3,.idx 0 ((cInt .i64) x399)),(9,.at_ (Int.toNat v373)),(10,.idx 0 ((cInt .i64) x401))],[]),([],[(2,.at_ (Int.toNat bg2)),(3,.idx 0 ((cInt .i64) x399)),(6,.at_ (Int.toNat bg2)),(7,.idx 0 ((cInt .i64) x399))],[(7,.row 5 ((v376.set (Int.toNat bg2) (wr64 (x399-(mnI x399 x401)))).map (cInt .i64)))]),([],[(5,.at_ (Int.toNat v373)),(6,.idx 0 ((cInt .i64) x401)),(9,.at_ (Int.toNat v373)),(10,.idx 0 ((cInt .i64) x401))],[(10,.row 9 ((v378.set (Int.toNat v373) (wr64 (x401-(mnI x399 x401)))).map (cInt .i64)))]),([],[(11,.call (jI x403) (jN 4 [some (.abox 57 [(.own 7),(jL 2 Qb.cells bb4),(.own 8),(.own 9)] ((v375.set ((Int.toNat bg2)*8+(Int.toNat v373)*1) false).map Qq)),some (.row false 1 ((v376.set (Int.toNat bg2) (wr64 (x399-(mnI x399 x401)))).map (cInt .i64))),none,jR 4 Qa.cells bj8.2.1,some (.row false 1 (bj8.2.2.1.map (cInt .i64))),some (.row false 1 ((v378.set (Int.toNat v373) (wr64 (x401-(mnI x399 x401)))).map (cInt .i64))),none,none]))],[]),([],[(2,.at_ (Int.toNat bg2)),(3,.idx 0 ((cInt .i64) (wr64 (x399-(mnI x399 x401))))),(6,.at_ (Int.toNat bg2)),(7,.idx 0 ((cInt .i64) (wr64 (x399-(mnI x399 x401)))))],[(7,.row 5 (((v376.set (Int.toNat bg2) (wr64 (x399-(mnI x399 x401)))).set (Int.toNat bg2) (wr64 ((wr64 (x399-(mnI x399 x401)))+(mnI x399 x401)))).map (cInt .i64)))]),([],[(5,.at_ (Int.toNat v373)),(6,.idx 0 ((cInt .i64) (wr64 (x401-(mnI x399 x401))))),(9,.at_ (Int.toNat v373)),(10,.idx 0 ((cInt .i64) (wr64 (x401-(mnI x399 x401)))))],[(10,.row 9 (((v378.set (Int.toNat v373) (wr64 (x401-(mnI x399 x401)))).set (Int.toNat v373) (wr64 ((wr64 (x401-(mnI x399 x401)))+(mnI x399 x401)))).map (cInt .i64)))]),([],[(6,.call (.tup []) [some (.box 51 [(.bp 4 0)]),some (.box 33 [(.own 5)]),some (.box 3 (((cInt .i64) (wr64 (v374-(wr64 ((mnI x399 x401)-(wr64 ((wr64 (v374-(mnI x399 x401)))-x403))))))).map .pl)),some (.box 26 [(.own 12)]),some (.abox 57 [(.own 7),(jL 2 Qb.cells bb4),(.own 8),(.own 9)] ((v375.set ((Int.toNat bg2)*8+(Int.toNat v373)*1) false).map Qq)),some (.row false 1 (x405.1.map (cInt .i64))),none,jR 4 Qa.cells bj8.2.1,some (.row false 1 (bj8.2.2.1.map (cInt .i64))),some (.row false 1 (x405.2.1.map (cInt .i64))),none,none,jR 3 Qc.cells x405.2.2])],[]),j3] [some true,some false] [] [0,1,2,3,4,5,12,7,8,9] [7,8,12,13,14,15,69,70,77,78] (.norm,(f11n5S bg2 bh1 bh9 bb4 bj8 (wr64 (v373+1)) (wr64 (v374-(wr64 ((mnI x399 x401)-(wr64 ((wr64 (v374-(mnI x399 x401)))-x403)))))) (v375.set ((Int.toNat bg2)*8+(Int.toNat v373)*1) false) x405.1 x405.2.2 x405.2.1)) (ap h380 (ap (Qu h394) (ap (Qt h394) (ap (Qu h395) (ap (Qt h395) (ap ((by omega:(4+(Int.toNat bg2)*8+(Int.toNat v373)*1)=4+((Int.toNat bg2)*8+(Int.toNat v373)*1))) (ap (Qac Qq h397) (ap (Qv h398) (ap (Qu h394) (ap (Qt h394) (ap (Qu h395) (ap (Qt h395) (ap ((by omega:(4+(Int.toNat bg2)*8+(Int.toNat v373)*1)=4+((Int.toNat bg2)*8+(Int.toNat v373)*1))) (ap (arr_lt' (f:=Qq) h397) (ap (Qba (xs:=v375) (f:=Qq) (k:=((Int.toNat bg2)*8+(Int.toNat v373)*1)) (x:=false)) (ap (Qf h400).1 (ap (Qr (cInt .i64) (Qf h400).2) (ap (Qj (cInt .i64) (Qf h400).2) (ap (Qf h402).1 (ap (Qr (cInt .i64) (Qf h402).2) (ap (Qj (cInt .i64) (Qf h402).2) (ap (Qf h400).1 (ap (Qr (cInt .i64) (Qf h400).2) (ap (Qj (cInt .i64) (Qf h400).2) (ap (Qf h400).1 (ap (Qr (cInt .i64) (Qf h400).2) (ap (Qj (cInt .i64) (Qf h400).2) (ap (Qch (xs:=v376) (c:=(cInt .i64)) (k:=(Int.toNat bg2)) (x:=(wr64 (x399-(mnI x399 x401))))) (ap (Qf h402).1 (ap (Qr (cInt .i64) (Qf h402).2) (ap (Qj (cInt .i64) (Qf h402).2) (ap (Qf h402).1 (ap (Qr (cInt .i64) (Qf h402).2) (ap (Qj (cInt .i64) (Qf h402).2) (ap (Qch (xs:=v378) (c:=(cInt .i64)) (k:=(Int.toNat v373)) (x:=(wr64 (x401-(mnI x399 x401))))) (ap (Qn.rn 12 [5,9,4,7,8] (f23r2_ok (v376.set (Int.toNat bg2) (wr64 (x399-(mnI x399 x401)))) (v378.set (Int.toNat v373) (wr64 (x401-(mnI x399 x401)))) bb4 (v375.set ((Int.toNat bg2)*8+(Int.toNat v373)*1) false) bj8.2.1 bj8.2.2.1 h404)) (ap (Qf h400).1 (ap (Qr (cInt .i64) (set_at (xs:=v376) (k:=(Int.toNat bg2)) (wr64 (x399-(mnI x399 x401))) (Qf h400).2)) (ap (Qj (cInt .i64) (set_at (xs:=v376) (k:=(Int.toNat bg2)) (wr64 (x399-(mnI x399 x401))) (Qf h400).2)) (ap (Qf h400).1 (ap (Qr (cInt .i64) (set_at (xs:=v376) (k:=(Int.toNat bg2)) (wr64 (x399-(mnI x399 x401))) (Qf h400).2)) (ap (Qj (cInt .i64) (set_at (xs:=v376) (k:=(Int.toNat bg2)) (wr64 (x399-(mnI x399 x401))) (Qf h400).2)) (ap (Qch (xs:=(v376.set (Int.toNat bg2) (wr64 (x399-(mnI x399 x401))))) (c:=(cInt .i64)) (k:=(Int.toNat bg2)) (x:=(wr64 ((wr64 (x399-(mnI x399 x401)))+(mnI x399 x401))))) (ap (Qf h402).1 (ap (Qr (cInt .i64) (set_at (xs:=v378) (k:=(Int.toNat v373)) (wr64 (x401-(mnI x399 x401))) (Qf h402).2)) (ap (Qj (cInt .i64) (set_at (xs:=v378) (k:=(Int.toNat v373)) (wr64 (x401-(mnI x399 x401))) (Qf h402).2)) (ap (Qf h402).1 (ap (Qr (cInt .i64) (set_at (xs:=v378) (k:=(Int.toNat v373)) (wr64 (x401-(mnI x399 x401))) (Qf h402).2)) (ap (Qj (cInt .i64) (set_at (xs:=v378) (k:=(Int.toNat v373)) (wr64 (x401-(mnI x399 x401))) (Qf h402).2)) (ap (Qch (xs:=(v378.set (Int.toNat v373) (wr64 (x401-(mnI x399 x401))))) (c:=(cInt .i64)) (k:=(Int.toNat v373)) (x:=(wr64 ((wr64 (x401-(mnI x399 x401)))+(mnI x399 x401))))) (ap (Qn.rn 12 [1,0,2,3,5,4,6,7,8,9] (f25r2_ok bg2 v373 (wr64 ((mnI x399 x401)-(wr64 ((wr64 (v374-(mnI x399 x401)))-x403)))) v374 ((v376.set (Int.toNat bg2) (wr64 (x399-(mnI x399 x401)))).set (Int.toNat bg2) (wr64 ((wr64 (x399-(mnI x399 x401)))+(mnI x399 x401)))) bb4 (v375.set ((Int.toNat bg2)*8+(Int.toNat v373)*1) false) v377 bj8.2.1 bj8.2.2.1 ((v378.set (Int.toNat v373) (wr64 (x401-(mnI x399 x401)))).set (Int.toNat v373) (wr64 ((wr64 (x401-(mnI x399 x401)))+(mnI x399 x401)))) h406)) an))))))))))))))))))))))))))))))))))))))))))))))))))) (Qm.norm ⟨(wr64 (v373+1)),(wr64 (v374-(wr64 ((mnI x399 x401)-(wr64 ((wr64 (v374-(mnI x399 x401)))-x403)))))),(v375.set ((Int.toNat bg2)*8+(Int.toNat v373)*1) false),x405.1,x405.2.2,x405.2.1,rfl,h⟩)
   ·exact rE Qg [j3,j3,([],[(5,.at_ (Int.toNat bg2)),(6,.at_ (Int.toNat v373)),(7,.arr ((Int.toNat bg2)*8+(Int.toNat v373)*1) (Qq x396))],[]),j3] [some true,some true] [] [0,1,2,3,4,5,6,7,8,9] [7,8,12,13,14,15,69,70,77,78] (.norm,(f11n5S bg2 bh1 bh9 bb4 bj8 (wr64 (v373+1)) v374 v375 v376 v377 v378)) (ap h380 (ap (Qu h394) (ap (Qt h394) (ap (Qu h395) (ap (Qt h395) (ap ((by omega:(4+(Int.toNat bg2)*8+(Int.toNat v373)*1)=4+((Int.toNat bg2)*8+(Int.toNat v373)*1))) (ap (Qac Qq h397) (ap (Qak h398) an)))))))) (Qm.norm ⟨(wr64 (v373+1)),v374,v375,v376,v377,v378,rfl,h⟩)
  ·obtain rfl:=Qe h;exact rK Qg 2 [j3] [some false] [] [0,1,2,3,4,5,6,7,8,9] [7,8,12,13,14,69,70] (.exit 4) ((f11n5E bg2 bh1 bh9 bb4 bj8 (.exit4 v374 v375 v376 v377 v378)).2) (ap h380 an) (Qm.out rfl rfl)
inductive f11n4O where
 | norm (v419:Int) (v420:List Bool) (v421:List Int) (v422:List Qc) (v423:List Int)
def f11n4E(bh1:List Int)(bg2 bg3:Int)(bb4:List Qb)(bi5:List Bool)(bh6:List Int)(bc7:List Qc)(bj8:(List Bool)×(List Qa)×(List Int)×(List Int))(bh9:List Int):f11n4O→Ex×Tr×Hp
 | .norm v419 v420 v421 v422 v423=>(.norm,mkS [(7,(.bp 0 0)),(8,(.bp 1 0)),(12,(.bp 2 0)),(13,(.bp 3 0)),(14,(.clo 25 [(.bp 1 0),(.bp 0 0),(.bp 2 0),(.bp 3 0)])),(69,(jI (bh1.length:Int))),(70,(jI bg2))],[some (.box 51 [(.bp 4 0)]),some (.box 33 [(.own 5)]),some (.box 3 (((cInt .i64) v419).map .pl)),some (.box 26 [(.own 6)]),some (.abox 57 [(.own 7),(jL 2 Qb.cells bb4),(.own 8),(.own 9)] (v420.map Qq)),some (.row false 1 (v421.map (cInt .i64))),jR 3 Qc.cells v422,jR 4 Qa.cells bj8.2.1,some (.row false 1 (bj8.2.2.1.map (cInt .i64))),some (.row false 1 (v423.map (cInt .i64)))])
def f11n4S(bh1:List Int)(bg2 bg3:Int)(bb4:List Qb)(bi5:List Bool)(bh6:List Int)(bc7:List Qc)(bj8:(List Bool)×(List Qa)×(List Int)×(List Int))(bh9:List Int):Tr×Hp:=(mkS [(7,(.bp 0 0)),(8,(.bp 1 0)),(12,(.bp 2 0)),(13,(.bp 3 0)),(14,(.clo 25 [(.bp 1 0),(.bp 0 0),(.bp 2 0),(.bp 3 0)])),(69,(jI (bh1.length:Int))),(70,(jI bg2))],[some (.box 51 [(.bp 4 0)]),some (.box 33 [(.own 5)]),some (.box 3 (((cInt .i64) bg3).map .pl)),some (.box 26 [(.own 6)]),some (.abox 57 [(.own 7),(jL 2 Qb.cells bb4),(.own 8),(.own 9)] (bi5.map Qq)),some (.row false 1 (bh6.map (cInt .i64))),jR 3 Qc.cells bc7,jR 4 Qa.cells bj8.2.1,some (.row false 1 (bj8.2.2.1.map (cInt .i64))),some (.row false 1 (bh9.map (cInt .i64)))])
noncomputable def f11n4(bh1:List Int)(bg2 bg3:Int)(bb4:List Qb)(bi5:List Bool)(bh6:List Int)(bc7:List Qc)(bj8:(List Bool)×(List Qa)×(List Int)×(List Int))(bh9:List Int):Option f11n4O :=
 (f11n5 FUEL bg2 bh1 bh9 bb4 bj8 0 bg3 bi5 bh6 bc7 bh9).bind fun o412=>match o412 with
 | .exit4 v414 v415 v416 v417 v418=>some (.norm v414 v415 v416 v417 v418)
theorem f11n4_ok(bh1:List Int)(bg2 bg3:Int)(bb4:List Qb)(bi5:List Bool)(bh6:List Int)(bc7:List Qc)(bj8:(List Bool)×(List Qa)×(List Int)×(List Int))(bh9:List Int){o:f11n4O}(h:f11n4 bh1 bg2 bg3 bb4 bi5 bh6 bc7 bj8 bh9=some o):T Try.prog Try.f11.ntmps 0 (cL (Qi 2 (cL (cL (Qi 1 (cL (Qi 4 (Qi 1 (Qi 5 c11))))))))) (f11n4S bh1 bg2 bg3 bb4 bi5 bh6 bc7 bj8 bh9) (·=f11n4E bh1 bg2 bg3 bb4 bi5 bh6 bc7 bj8 bh9 o):=by
 unfold f11n4 at h;refine T.block' (i:=3) (by kernel_rfl) ?_;refine rN Qg 2 [j3,([],[],[(4,.val (jI (bh9.length:Int)))])] [] [] [0,1,2,3,4,5,6,7,8,9] [7,8,12,13,14,15,69,70,77,78] (f11n5S bg2 bh1 bh9 bb4 bj8 0 bg3 bi5 bh6 bc7 bh9) (ap (Qp (xs:=bh9) (c:=(cInt .i64))) an) ?_;obtain ⟨o412,h413,h⟩:=Qd h;cases o412 with
 | exit4 v414 v415 v416 v417 v418 =>
  obtain rfl:=Qe h;exact T.last' (T.bl (i:=4) (by kernel_rfl) (by kernel_rfl) (f11n5_ok FUEL bg2 bh1 bh9 bb4 bj8 0 bg3 bi5 bh6 bc7 bh9 h413)) (tds:=[]) (m:=[0,1,2,3,4,5,6,7,8,9]) (keep:=[7,8,12,13,14,69,70]) (st2:=(f11n4E bh1 bg2 bg3 bb4 bi5 bh6 bc7 bj8 bh9 (.norm v414 v415 v416 v417 v418)).2) (by kernel_rfl) an rfl
inductive f11n6O where
 | exit2 (v431:List Qc)
def f11n6E(bh4:List Int)(bb2:List Qb)(bj3:(List Bool)×(List Qa)×(List Int)×(List Int)):f11n6O→Ex×Tr×Hp
 | .exit2 v431=>((.exit 2),mkS [(13,(.bp 0 0))],[some (.box 26 [(.own 1)]),jR 3 Qc.cells v431])
def f11n6S(bh4:List Int)(bb2:List Qb)(bj3:(List Bool)×(List Qa)×(List Int)×(List Int))(v305 v306:Int)(v307:List Bool)(v308:List Int)(v309:List Qc)(v310:List Int):Tr×Hp:=(mkS [(7,(.bp 0 0)),(8,(.bp 1 0)),(12,(.bp 2 0)),(13,(.bp 3 0)),(14,(.clo 25 [(.bp 1 0),(.bp 0 0),(.bp 2 0),(.bp 3 0)])),(69,(jI (bh4.length:Int))),(70,(jI v305))],[some (.box 51 [(.bp 4 0)]),some (.box 33 [(.own 5)]),some (.box 3 (((cInt .i64) v306).map .pl)),some (.box 26 [(.own 6)]),some (.abox 57 [(.own 7),(jL 2 Qb.cells bb2),(.own 8),(.own 9)] (v307.map Qq)),some (.row false 1 (v308.map (cInt .i64))),jR 3 Qc.cells v309,jR 4 Qa.cells bj3.2.1,some (.row false 1 (bj3.2.2.1.map (cInt .i64))),some (.row false 1 (v310.map (cInt .i64)))])
noncomputable def f11n6:Nat→List Int→List Qb→(List Bool)×(List Qa)×(List Int)×(List Int)→Int→Int→List Bool→List Int→List Qc→List Int→Option f11n6O
 | 0,_,_,_,_,_,_,_,_,_=>none
 | f+1,bh4,bb2,bj3,v305,v306,v307,v308,v309,v310 =>
  bif decide (v305<(bh4.length:Int)) then
   (f11n4 bh4 v305 v306 bb2 v307 v308 v309 bj3 v310).bind fun o424=>match o424 with
   | .norm v426 v427 v428 v429 v430=>(f11n6 f bh4 bb2 bj3 (wr64 (v305+1)) v426 v427 v428 v429 v430)
  else
   some (.exit2 v309)
theorem f11n6_ok:∀(f:Nat)(bh4:List Int)(bb2:List Qb)(bj3:(List Bool)×(List Qa)×(List Int)×(List Int))(v305 v306:Int)(v307:List Bool)(v308:List Int)(v309:List Qc)(v310:List Int){o:f11n6O},f11n6 f bh4 bb2 bj3 v305 v306 v307 v308 v309 v310=some o→TL Try.prog Try.f11.ntmps 0 f (cL (cL (Qi 1 (cL (Qi 4 (Qi 1 (Qi 5 c11))))))) (f11n6S bh4 bb2 bj3 v305 v306 v307 v308 v309 v310) (·=f11n6E bh4 bb2 bj3 o)
 | 0,_,_,_,_,_,_,_,_,_,o,h=>by rw [f11n6] at h; cases h
 | f+1,bh4,bb2,bj3,v305,v306,v307,v308,v309,v310,o,h=>by
  rw [f11n6] at h;refine TL.body (K:=fun s=>∃v305:Int,∃v306:Int,∃v307:List Bool,∃v308:List Int,∃v309:List Qc,∃v310:List Int,s=(f11n6S bh4 bb2 bj3 v305 v306 v307 v308 v309 v310)∧f11n6 f bh4 bb2 bj3 v305 v306 v307 v308 v309 v310=some o) ?_ (by rintro _ ⟨v305,v306,v307,v308,v309,v310,rfl,hk⟩; exact f11n6_ok f _ _ _ _ _ _ _ _ _ hk);rcases Qh h with ⟨h312,h⟩|⟨h312,h⟩
  ·refine rN Qg 2 [j3] [some true] [] [0,1,2,3,4,5,6,7,8,9] [7,8,12,13,14,69,70] (f11n4S bh4 v305 v306 bb2 v307 v308 v309 bj3 v310) (ap h312 an) ?_;obtain ⟨o424,h425,h⟩:=Qd h;cases o424 with
   | norm v426 v427 v428 v429 v430 =>
    refine T.oneN (by kernel_rfl) (f11n4_ok bh4 v305 v306 bb2 v307 v308 v309 bj3 v310 h425) (st2:=(f11n4E bh4 v305 v306 bb2 v307 v308 v309 bj3 v310 (.norm v426 v427 v428 v429 v430)).2) rfl ?_;exact rE Qg [j3] [] [] [0,1,2,3,4,5,6,7,8,9] [7,8,12,13,14,69,70] (.norm,(f11n6S bh4 bb2 bj3 (wr64 (v305+1)) v426 v427 v428 v429 v430)) an (Qm.norm ⟨(wr64 (v305+1)),v426,v427,v428,v429,v430,rfl,h⟩)
  ·obtain rfl:=Qe h;exact rK Qg 2 [j3] [some false] [] [3,6] [13] (.exit 2) ((f11n6E bh4 bb2 bj3 (.exit2 v309)).2) (ap h312 an) (Qm.out rfl rfl)
inductive f11n3O where
 | norm (v435:List Qc)
def f11n3E(bg1:Int)(bb2:List Qb)(bj3:(List Bool)×(List Qa)×(List Int)×(List Int))(bh4:List Int):f11n3O→Ex×Tr×Hp
 | .norm v435=>(.norm,mkS [(13,(.bp 0 0))],[some (.box 26 [(.own 1)]),jR 3 Qc.cells v435])
def f11n3S(bg1:Int)(bb2:List Qb)(bj3:(List Bool)×(List Qa)×(List Int)×(List Int))(bh4:List Int):Tr×Hp:=(mkS [(7,(.bp 0 0)),(8,(.bp 1 0)),(12,(.bp 2 0)),(13,(.bp 3 0)),(14,(.clo 25 [(.bp 1 0),(.bp 0 0),(.bp 2 0),(.bp 3 0)]))],[some (.box 51 [(.bp 4 0)]),some (.box 33 [(.own 5)]),some (.box 3 (((cInt .i64) bg1).map .pl)),some (.box 26 [(.pl (.sl .nil 0 []))]),some (.abox 57 [(.own 6),(jL 2 Qb.cells bb2),(.own 7),(.own 8)] (bj3.1.map Qq)),some (.row false 1 (bh4.map (cInt .i64))),jR 4 Qa.cells bj3.2.1,some (.row false 1 (bj3.2.2.1.map (cInt .i64))),some (.row false 1 (bj3.2.2.2.map (cInt .i64)))])
noncomputable def f11n3(bg1:Int)(bb2:List Qb)(bj3:(List Bool)×(List Qa)×(List Int)×(List Int))(bh4:List Int):Option f11n3O :=
 (f11n6 FUEL bh4 bb2 bj3 0 bg1 bj3.1 bh4 [] bj3.2.2.2).bind fun o432=>match o432 with
 | .exit2 v434=>some (.norm v434)
theorem f11n3_ok(bg1:Int)(bb2:List Qb)(bj3:(List Bool)×(List Qa)×(List Int)×(List Int))(bh4:List Int){o:f11n3O}(h:f11n3 bg1 bb2 bj3 bh4=some o):T Try.prog Try.f11.ntmps 0 (cL (Qi 4 (Qi 1 (Qi 5 c11)))) (f11n3S bg1 bb2 bj3 bh4) (·=f11n3E bg1 bb2 bj3 bh4 o):=by
 unfold f11n3 at h;refine rN Qg 1 [([],[],[(1,.val (jI (bh4.length:Int)))])] [] [.matC 3 0 3] [0,1,2,3,4,5,9,6,7,8] [7,8,12,13,14,69,70] (f11n6S bh4 bb2 bj3 0 bg1 bj3.1 bh4 [] bj3.2.2.2) (ap (Qp (xs:=bh4) (c:=(cInt .i64))) an) ?_;obtain ⟨o432,h433,h⟩:=Qd h;cases o432 with
 | exit2 v434 =>
  obtain rfl:=Qe h;exact T.last' (T.bl (i:=2) (by kernel_rfl) (by kernel_rfl) (f11n6_ok FUEL bh4 bb2 bj3 0 bg1 bj3.1 bh4 [] bj3.2.2.2 h433)) (tds:=[]) (m:=[0,1]) (keep:=[13]) (st2:=(f11n3E bg1 bb2 bj3 bh4 (.norm v434)).2) (by kernel_rfl) an rfl
inductive f11n0O where
 | ret (v443:Int) (v444:List Qc)
def f11n0E(a1:List Qa)(a2:List Qb):f11n0O→Ex×Tr×Hp
 | .ret v443 v444=>(.ret,mkS [(4,(.own 0)),(5,(jI v443))],[jR 3 Qc.cells v444])
def f11n0S(a1:List Qa)(a2:List Qb):Tr×Hp:=(Qal [(jL 4 Qa.cells a1),(jL 2 Qb.cells a2)] 0 .leaf,[])
noncomputable def f11n0(a1:List Qa)(a2:List Qb):Option f11n0O :=
 (f13 a1 a2).bind fun x6 =>
 bif decide (x6=0) then
  (f22r1 a1 a2).bind fun x11 =>
  (f11n1 a2 x11).bind fun o55=>match o55 with
  | .norm v57 v58=>(f24r1 x11.2.2.2).bind fun x61 =>
   bif decide (v57<x61) then
    some (.ret 50 [])
   else
    (f11n3 x61 a2 x11 v58).bind fun o436=>match o436 with
    | .norm v438=>(so26_27 v438).bind fun x441 =>
     some (.ret 0 x441)
 else
  some (.ret x6 [])
theorem f11n0_ok(a1:List Qa)(a2:List Qb){o:f11n0O}(h:f11n0 a1 a2=some o):T Try.prog Try.f11.ntmps 0 c11 (f11n0S a1 a2) (·=f11n0E a1 a2 o):=by
 unfold f11n0 at h;obtain ⟨x6,h7,h⟩:=Qd h;rcases Qh h with ⟨h8,h⟩|⟨h8,h⟩
 ·obtain ⟨x11,h12,h⟩:=Qd h;refine rN Qg 5 [j3,([],[jH 2 (jI x6)],[]),j3,([],[(2,.call (.bp 0 0) [some (.abox 57 [(.own 1),(jL 2 Qb.cells a2),(.own 2),(.own 3)] (x11.1.map Qq)),jR 4 Qa.cells x11.2.1,some (.row false 1 (x11.2.2.1.map (cInt .i64))),some (.row false 1 (x11.2.2.2.map (cInt .i64)))])],[]),j3,j3] [some false] [] [4,5,0,1,2,3] [7,8,9] (f11n1S a2 x11) (ap (f13_ok a1 a2 h7) (ap (Qv h8) (ap (f22r1_ok a1 a2 h12) an))) ?_;obtain ⟨o55,h56,h⟩:=Qd h;cases o55 with
  | norm v57 v58 =>
   refine T.oneN (by kernel_rfl) (f11n1_ok a2 x11 h56) (st2:=(f11n1E a2 x11 (.norm v57 v58)).2) rfl ?_;obtain ⟨x61,h62,h⟩:=Qd h;rcases Qh h with ⟨h64,h⟩|⟨h64,h⟩
   ·obtain rfl:=Qe h;exact rK Qg 2 [([],[(4,.call (jI x61) (jN 6 [some (.row false 1 (x11.2.2.2.map (cInt .i64)))]))],[]),j3,j3] [some true] [.mat 4 3] [8] [4,5] .ret ((f11n0E a1 a2 (.ret 50 [])).2) (ap (Qn.rn 7 [6] (f24r1_ok x11.2.2.2 h62)) (ap h64 an)) rfl
   ·refine rN Qg 4 [([],[(4,.call (jI x61) (jN 6 [some (.row false 1 (x11.2.2.2.map (cInt .i64)))]))],[]),j3,j3,j3] [some false] [] [0,1,7,8,2,3,4,5,6] [7,8,12,13,14] (f11n3S x61 a2 x11 v58) (ap (Qn.rn 7 [6] (f24r1_ok x11.2.2.2 h62)) (ap h64 an)) ?_;obtain ⟨o436,h437,h⟩:=Qd h;cases o436 with
    | norm v438 =>
     refine T.oneN (by kernel_rfl) (f11n3_ok x61 a2 x11 v58 h437) (st2:=(f11n3E x61 a2 x11 v58 (.norm v438)).2) rfl ?_;obtain ⟨x441,h442,h⟩:=Qd h;obtain rfl:=Qe h;exact rE Qg [([],[(1,.call (.tup []) [none,jR 3 Qc.cells x441])],[]),j3] [] [] [1] [4,5] (.ret,(f11n0E a1 a2 (.ret 0 x441)).2) (ap (Qn.rn 2 [1] (so26_27_ok v438 h442)) an) rfl
 ·obtain rfl:=Qe h;exact rK Qg 2 [j3,([],[jH 2 (jI x6)],[]),j3,j3] [some true] [.mat 4 3] [0] [4,5] .ret ((f11n0E a1 a2 (.ret x6 [])).2) (ap (f13_ok a1 a2 h7) (ap (Qak h8) an)) rfl
noncomputable def f11(a1:List Qa)(a2:List Qb):Option ((List Qc)×Int):=(f11n0 a1 a2).bind fun o=>match o with
 | .ret v443 v444=>some (v444,v443)
theorem f11_ok(a1:List Qa)(a2:List Qb){r:(List Qc)×Int}(h:f11 a1 a2=some r):Qn Try.prog false 11 [(jL 4 Qa.cells a1),(jL 2 Qb.cells a2)] [] (.tup [(jL 3 Qc.cells r.1),(jI r.2)]) []:=by
 unfold f11 at h;obtain ⟨o,ho,h⟩:=Qd h;cases o with
 | ret v443 v444 =>
  obtain rfl:=Qe h;exact Qn.plain Qg (f:=Try.f11) (c:=c11) (by kernel_rfl) (by kernel_rfl) (by kernel_rfl) (by kernel_rfl) ((f11n0_ok a1 a2 ho).mono fun r e=>by subst e; exact ⟨.inl rfl,(.tup [(.own 0),(jI v443)]),(.tup [(jL 3 Qc.cells v444),(jI v443)]),by kernel_rfl,by kernel_rfl,((Wk.refl _):Wk (.tup [(jL 3 Qc.cells v444),(jI v443)]) (.tup [(jL 3 Qc.cells v444),(jI v443)]))⟩)

noncomputable def c14:Code:=Try.f14.body.getD .skip
inductive f14n4O where
 | exit2 (v1597:Int)
def f14n4E(ba1:List Qa)(bb2:List Qb)(bg3:Int):f14n4O→Ex×Tr×Hp
 | .exit2 v1597=>((.exit 2),mkS [(0,(jL 4 Qa.cells ba1)),(1,(jL 2 Qb.cells bb2)),(5,(jI bg3)),(6,(jI v1597))],[])
def f14n4S(ba1:List Qa)(bb2:List Qb)(bg3 v1585 v1586:Int):Tr×Hp:=(mkS [(0,(jL 4 Qa.cells ba1)),(1,(jL 2 Qb.cells bb2)),(5,(jI bg3)),(6,(jI v1585)),(7,(jI v1586))],[])
noncomputable def f14n4:Nat→List Qa→List Qb→Int→Int→Int→Option f14n4O
 | 0,_,_,_,_,_=>none
 | f+1,ba1,bb2,bg3,v1585,v1586 =>
  bif decide (v1586<(bb2.length:Int)) then
   req (decide (0≤(Qs v1586))) <|
   bif (decide ((Int.tmod (shrK .i64 bg3 (Qs v1586)) 2)=1)) then
    (at? bb2 v1586).bind fun x1595 =>
    (f14n4 f ba1 bb2 bg3 (wr64 (v1585-x1595.Need)) (wr64 (v1586+1)))
   else
    (f14n4 f ba1 bb2 bg3 v1585 (wr64 (v1586+1)))
  else
   some (.exit2 v1585)
theorem f14n4_ok:∀(f:Nat)(ba1:List Qa)(bb2:List Qb)(bg3 v1585 v1586:Int){o:f14n4O},f14n4 f ba1 bb2 bg3 v1585 v1586=some o→TL Try.prog Try.f14.ntmps 0 f (cL (cL (Qi 1 (cL (Qi 1 (cL (cL (Qi 1 (cL (cL (Qi 1 (cL (Qi 1 c14))))))))))))) (f14n4S ba1 bb2 bg3 v1585 v1586) (·=f14n4E ba1 bb2 bg3 o)
 | 0,_,_,_,_,_,o,h=>by rw [f14n4] at h; cases h
 | f+1,ba1,bb2,bg3,v1585,v1586,o,h=>by
  rw [f14n4] at h;refine TL.body (K:=fun s=>∃v1585:Int,∃v1586:Int,s=(f14n4S ba1 bb2 bg3 v1585 v1586)∧f14n4 f ba1 bb2 bg3 v1585 v1586=some o) ?_ (by rintro _ ⟨v1585,v1586,rfl,hk⟩; exact f14n4_ok f _ _ _ _ _ hk);rcases Qh h with ⟨h1588,h⟩|⟨h1588,h⟩
  ·obtain ⟨h1593,h⟩:=Ql h;rcases Qh h with ⟨h1594,h⟩|⟨h1594,h⟩
   ·obtain ⟨x1595,h1596,h⟩:=Qd h;exact rE Qg [([],[],[(2,.val (jI (bb2.length:Int)))]),([],[(3,.fits)],[]),([],[(3,.idx (Int.toNat v1586) (Qb.cells x1595))],[]),j3] [some true,some true] [] [] [0,1,5,6,7] (.norm,(f14n4S ba1 bb2 bg3 (wr64 (v1585-x1595.Need)) (wr64 (v1586+1)))) (ap (Qp (xs:=bb2) (c:=Qb.cells)) (ap h1588 (ap (le_of h1593) (ap h1594 (ap (Qf h1596).1 (ap (Qj Qb.cells (Qf h1596).2) an)))))) (Qm.norm ⟨(wr64 (v1585-x1595.Need)),(wr64 (v1586+1)),rfl,h⟩)
   ·exact rE Qg [([],[],[(2,.val (jI (bb2.length:Int)))]),([],[(3,.fits)],[]),j3] [some true,some false] [] [] [0,1,5,6,7] (.norm,(f14n4S ba1 bb2 bg3 v1585 (wr64 (v1586+1)))) (ap (Qp (xs:=bb2) (c:=Qb.cells)) (ap h1588 (ap (le_of h1593) (ap h1594 an)))) (Qm.norm ⟨v1585,(wr64 (v1586+1)),rfl,h⟩)
  ·obtain rfl:=Qe h;exact rK Qg 1 [([],[],[(2,.val (jI (bb2.length:Int)))])] [some false] [] [] [0,1,5,6] (.exit 2) ((f14n4E ba1 bb2 bg3 (.exit2 v1585)).2) (ap (Qp (xs:=bb2) (c:=Qb.cells)) (ap h1588 an)) (Qm.out rfl rfl)
noncomputable def f14n4L(ba1:List Qa)(bb2:List Qb)(bg3:Int):List Qb→Int→Int→Option f14n4O
 | [],v1585,v1586 =>
  some (.exit2 v1585)
 | x0::rest,v1585,v1586 =>
  req (decide (0≤(Qs v1586))) <|
  bif (decide ((Int.tmod (shrK .i64 bg3 (Qs v1586)) 2)=1)) then
   (f14n4L ba1 bb2 bg3 rest (wr64 (v1585-x0.Need)) (v1586+1))
  else
   (f14n4L ba1 bb2 bg3 rest v1585 (v1586+1))
theorem f14n4L_eq(ba1:List Qa)(bb2:List Qb)(bg3:Int):∀(rest:List Qb)(f k:Nat)(v1585:Int),bb2.drop k=rest→bb2.length≤maxLen→rest.length<f→f14n4 f ba1 bb2 bg3 v1585 (k:Int)=f14n4L ba1 bb2 bg3 rest v1585 (k:Int)
 | _,0,_,_,_,_,hf=>absurd hf (Nat.not_lt_zero _)
 | [],f+1,k,v1585,hd,hm,hf=>by
  have hk:¬((k:Int)<(bb2.length:Int)):=by have:=Qai hd; omega
  rw [f14n4,f14n4L];simp only [decide_eq_false hk,cond_false]
 | x0::rest,f+1,k,v1585,hd,hm,hf=>by
  obtain ⟨hx,hlt,hd'⟩:=Qaj hd;have hk:(k:Int)<(bb2.length:Int):=by omega
  have hw:wr64 ((k:Int)+1)=(k:Int)+1:=Qbk (by omega) (by unfold maxLen at hm; omega);have ih:∀(v1585:Int),f14n4 f ba1 bb2 bg3 v1585 ((k:Int)+1)=f14n4L ba1 bb2 bg3 rest v1585 ((k:Int)+1):=fun v1585=>f14n4L_eq ba1 bb2 bg3 rest f (k+1) v1585 hd' hm (by simpa using hf);rw [f14n4,f14n4L];simp only [decide_eq_true hk,cond_true,Qbv,hx,Option.bind_some,hw,ih]
theorem f14n4_run(ba1:List Qa)(bb2:List Qb)(bg3 v1585:Int)(hm:bb2.length≤maxLen):f14n4 FUEL ba1 bb2 bg3 v1585 0=f14n4L ba1 bb2 bg3 bb2 v1585 0:=f14n4L_eq ba1 bb2 bg3 bb2 FUEL 0 v1585 List.drop_zero hm (Qaw hm)
inductive f14n3O where
 | norm (v1601:Int)
def f14n3E(ba1:List Qa)(bb2:List Qb)(bg3:Int):f14n3O→Ex×Tr×Hp
 | .norm v1601=>(.norm,mkS [(0,(jL 4 Qa.cells ba1)),(1,(jL 2 Qb.cells bb2)),(5,(jI bg3)),(6,(jI v1601))],[])
def f14n3S(ba1:List Qa)(bb2:List Qb)(bg3:Int):Tr×Hp:=(mkS [(0,(jL 4 Qa.cells ba1)),(1,(jL 2 Qb.cells bb2)),(5,(jI bg3)),(6,(jI 0))],[])
noncomputable def f14n3(ba1:List Qa)(bb2:List Qb)(bg3:Int):Option f14n3O :=
 (f14n4 FUEL ba1 bb2 bg3 0 0).bind fun o1598=>match o1598 with
 | .exit2 v1600=>some (.norm v1600)
theorem f14n3_ok(ba1:List Qa)(bb2:List Qb)(bg3:Int){o:f14n3O}(h:f14n3 ba1 bb2 bg3=some o):T Try.prog Try.f14.ntmps 0 (cL (Qi 1 (cL (cL (Qi 1 (cL (cL (Qi 1 (cL (Qi 1 c14)))))))))) (f14n3S ba1 bb2 bg3) (·=f14n3E ba1 bb2 bg3 o):=by
 unfold f14n3 at h;refine rN Qg 1 [j3] [] [] [] [0,1,5,6,7] (f14n4S ba1 bb2 bg3 0 0) an ?_;obtain ⟨o1598,h1599,h⟩:=Qd h;cases o1598 with
 | exit2 v1600 =>
  obtain rfl:=Qe h;exact T.last' (T.bl (i:=2) (by kernel_rfl) (by kernel_rfl) (f14n4_ok FUEL ba1 bb2 bg3 0 0 h1599)) (tds:=[]) (m:=[]) (keep:=[0,1,5,6]) (st2:=(f14n3E ba1 bb2 bg3 (.norm v1600)).2) (by kernel_rfl) an rfl
inductive f14n9O where
 | exit8 (v2333:Bool)
def f14n9E(ba1:List Qa)(bb2:List Qb)(bg3 bg4 bg5 bg7:Int):f14n9O→Ex×Tr×Hp
 | .exit8 v2333=>((.exit 8),mkS [(0,(jL 4 Qa.cells ba1)),(1,(jL 2 Qb.cells bb2)),(5,(jI bg3)),(6,(jI bg4)),(8,(jI bg5)),(9,(jB v2333)),(10,(jI bg7))],[])
def f14n9S(ba1:List Qa)(bb2:List Qb)(bg3 bg4 bg5 bg7:Int)(v2311:Bool)(v2312:Int):Tr×Hp:=(mkS [(0,(jL 4 Qa.cells ba1)),(1,(jL 2 Qb.cells bb2)),(5,(jI bg3)),(6,(jI bg4)),(8,(jI bg5)),(9,(jB v2311)),(10,(jI bg7)),(11,(jI v2312))],[])
noncomputable def f14n9:Nat→List Qa→List Qb→Int→Int→Int→Int→Bool→Int→Option f14n9O
 | 0,_,_,_,_,_,_,_,_=>none
 | f+1,ba1,bb2,bg3,bg4,bg5,bg7,v2311,v2312 =>
  bif decide (v2312<(bb2.length:Int)) then
   bif v2311 then
    (f14n9 f ba1 bb2 bg3 bg4 bg5 bg7 true (wr64 (v2312+1)))
   else
    req (decide (0≤(Qs v2312))) <|
    bif (decide ((Int.tmod (shrK .i64 bg3 (Qs v2312)) 2)=1)) then
     (at? bb2 v2312).bind fun x2327 =>
     (at? ba1 bg5).bind fun x2329 =>
     (at? x2329.For bg7).bind fun x2331 =>
     (f14n9 f ba1 bb2 bg3 bg4 bg5 bg7 (seq x2327.Name x2331) (wr64 (v2312+1)))
    else
     (f14n9 f ba1 bb2 bg3 bg4 bg5 bg7 false (wr64 (v2312+1)))
  else
   some (.exit8 v2311)
theorem f14n9_ok:∀(f:Nat)(ba1:List Qa)(bb2:List Qb)(bg3 bg4 bg5 bg7:Int)(v2311:Bool)(v2312:Int){o:f14n9O},f14n9 f ba1 bb2 bg3 bg4 bg5 bg7 v2311 v2312=some o→TL Try.prog Try.f14.ntmps 0 f (cL (cL (Qi 1 (cL (cL (Qi 1 (cL (cL (Qi 1 (cL (Qi 1 (cL (cL (Qi 1 (cL (cL (Qi 1 (cL (Qi 0 (Qi 1 (Qi 1 (cL (cL (Qi 1 (cL (cL (Qi 1 (cL (Qi 1 c14))))))))))))))))))))))))))))) (f14n9S ba1 bb2 bg3 bg4 bg5 bg7 v2311 v2312) (·=f14n9E ba1 bb2 bg3 bg4 bg5 bg7 o)
 | 0,_,_,_,_,_,_,_,_,o,h=>by rw [f14n9] at h; cases h
 | f+1,ba1,bb2,bg3,bg4,bg5,bg7,v2311,v2312,o,h=>by
  rw [f14n9] at h;refine TL.body (K:=fun s=>∃v2311:Bool,∃v2312:Int,s=(f14n9S ba1 bb2 bg3 bg4 bg5 bg7 v2311 v2312)∧f14n9 f ba1 bb2 bg3 bg4 bg5 bg7 v2311 v2312=some o) ?_ (by rintro _ ⟨v2311,v2312,rfl,hk⟩; exact f14n9_ok f _ _ _ _ _ _ _ _ hk);rcases Qh h with ⟨h2314,h⟩|⟨h2314,h⟩
  ·rcases Qh h with ⟨h2324,h⟩|⟨h2324,h⟩
   ·exact rE Qg [([],[],[(2,.val (jI (bb2.length:Int)))]),(jT [2,3,4,5,6,7,8,23],[(24,.bool true)],[]),j3] [some true] [] [] [0,1,5,6,8,9,10,11] (.norm,(f14n9S ba1 bb2 bg3 bg4 bg5 bg7 true (wr64 (v2312+1)))) (ap (Qp (xs:=bb2) (c:=Qb.cells)) (ap h2314 (ap h2324 (ap4 h2324 (ap4 h2324 an))))) (Qm.norm ⟨true,(wr64 (v2312+1)),rfl,h⟩)
   ·obtain ⟨h2325,h⟩:=Ql h;rcases Qh h with ⟨h2326,h⟩|⟨h2326,h⟩
    ·obtain ⟨x2327,h2328,h⟩:=Qd h;obtain ⟨x2329,h2330,h⟩:=Qd h;obtain ⟨x2331,h2332,h⟩:=Qd h
     exact rE Qg [([],[],[(2,.val (jI (bb2.length:Int)))]),(jF [2,3,4,5,6,7,8,23]++jT [9,10,11,12,13,14,15,16,17,18,19,20,21,22],[(5,.fits),(11,.idx (Int.toNat v2312) (Qb.cells x2327)),(16,.idx (Int.toNat bg5) (Qa.cells x2329)),(20,.idx (Int.toNat bg7) (cStr x2331)),(23,.bool true),(24,.bool false)],[]),j3] [some true] [] [] [0,1,5,6,8,9,10,11] (.norm,(f14n9S ba1 bb2 bg3 bg4 bg5 bg7 (seq x2327.Name x2331) (wr64 (v2312+1)))) (ap (Qp (xs:=bb2) (c:=Qb.cells)) (ap h2314 (ap4 h2324 (ap (le_of h2325) (ap3 h2324 (ap3 h2326 (ap (Qf h2328).1 (ap (Qj Qb.cells (Qf h2328).2) (ap h2326 (ap4 h2326 (ap (Qf h2330).1 (ap (Qj Qa.cells (Qf h2330).2) (ap4 h2326 (ap (Qf h2332).1 (ap (Qj cStr (Qf h2332).2) (ap2 h2326 (ap h2324 (ap h2326 (ap h2324 an))))))))))))))))))) (Qm.norm ⟨(seq x2327.Name x2331),(wr64 (v2312+1)),rfl,h⟩)
    ·exact rE Qg [([],[],[(2,.val (jI (bb2.length:Int)))]),(jF [2,3,4,5,6,7,8,9,10,11,12,13,14,15,16,17,18,19,20,21,22,23],[(5,.fits),(23,.bool false),(24,.bool false)],[]),j3] [some true] [] [] [0,1,5,6,8,9,10,11] (.norm,(f14n9S ba1 bb2 bg3 bg4 bg5 bg7 false (wr64 (v2312+1)))) (ap (Qp (xs:=bb2) (c:=Qb.cells)) (ap h2314 (ap4 h2324 (ap (le_of h2325) (ap3 h2324 (ap2 h2326 (ap4 h2326 (ap4 h2326 (ap4 h2326 (ap h2324 (ap h2326 (ap h2324 an)))))))))))) (Qm.norm ⟨false,(wr64 (v2312+1)),rfl,h⟩)
  ·obtain rfl:=Qe h;exact rK Qg 1 [([],[],[(2,.val (jI (bb2.length:Int)))])] [some false] [] [] [0,1,5,6,8,9,10] (.exit 8) ((f14n9E ba1 bb2 bg3 bg4 bg5 bg7 (.exit8 v2311)).2) (ap (Qp (xs:=bb2) (c:=Qb.cells)) (ap h2314 an)) (Qm.out rfl rfl)
noncomputable def f14n9L(ba1:List Qa)(bb2:List Qb)(bg3 bg4 bg5 bg7:Int):List Qb→Bool→Int→Option f14n9O
 | [],v2311,v2312 =>
  some (.exit8 v2311)
 | x0::rest,v2311,v2312 =>
  bif v2311 then
   (f14n9L ba1 bb2 bg3 bg4 bg5 bg7 rest true (v2312+1))
  else
   req (decide (0≤(Qs v2312))) <|
   bif (decide ((Int.tmod (shrK .i64 bg3 (Qs v2312)) 2)=1)) then
    (at? ba1 bg5).bind fun x2329 =>
    (at? x2329.For bg7).bind fun x2331 =>
    (f14n9L ba1 bb2 bg3 bg4 bg5 bg7 rest (seq x0.Name x2331) (v2312+1))
   else
    (f14n9L ba1 bb2 bg3 bg4 bg5 bg7 rest false (v2312+1))
theorem f14n9L_eq(ba1:List Qa)(bb2:List Qb)(bg3 bg4 bg5 bg7:Int):∀(rest:List Qb)(f k:Nat)(v2311:Bool),bb2.drop k=rest→bb2.length≤maxLen→rest.length<f→f14n9 f ba1 bb2 bg3 bg4 bg5 bg7 v2311 (k:Int)=f14n9L ba1 bb2 bg3 bg4 bg5 bg7 rest v2311 (k:Int)
 | _,0,_,_,_,_,hf=>absurd hf (Nat.not_lt_zero _)
 | [],f+1,k,v2311,hd,hm,hf=>by
  have hk:¬((k:Int)<(bb2.length:Int)):=by have:=Qai hd; omega
  rw [f14n9,f14n9L];simp only [decide_eq_false hk,cond_false]
 | x0::rest,f+1,k,v2311,hd,hm,hf=>by
  obtain ⟨hx,hlt,hd'⟩:=Qaj hd;have hk:(k:Int)<(bb2.length:Int):=by omega
  have hw:wr64 ((k:Int)+1)=(k:Int)+1:=Qbk (by omega) (by unfold maxLen at hm; omega);have ih:∀(v2311:Bool),f14n9 f ba1 bb2 bg3 bg4 bg5 bg7 v2311 ((k:Int)+1)=f14n9L ba1 bb2 bg3 bg4 bg5 bg7 rest v2311 ((k:Int)+1):=fun v2311=>f14n9L_eq ba1 bb2 bg3 bg4 bg5 bg7 rest f (k+1) v2311 hd' hm (by simpa using hf);rw [f14n9,f14n9L];simp only [decide_eq_true hk,cond_true,Qbv,hx,Option.bind_some,hw,ih]
theorem f14n9_run(ba1:List Qa)(bb2:List Qb)(bg3 bg4 bg5 bg7:Int)(v2311:Bool)(hm:bb2.length≤maxLen):f14n9 FUEL ba1 bb2 bg3 bg4 bg5 bg7 v2311 0=f14n9L ba1 bb2 bg3 bg4 bg5 bg7 bb2 v2311 0:=f14n9L_eq ba1 bb2 bg3 bg4 bg5 bg7 bb2 FUEL 0 v2311 List.drop_zero hm (Qaw hm)
inductive f14n8O where
 | norm (v2337:Bool)
def f14n8E(ba1:List Qa)(bb2:List Qb)(bg3 bg4 bg5:Int)(bl6:Bool)(bg7:Int):f14n8O→Ex×Tr×Hp
 | .norm v2337=>(.norm,mkS [(0,(jL 4 Qa.cells ba1)),(1,(jL 2 Qb.cells bb2)),(5,(jI bg3)),(6,(jI bg4)),(8,(jI bg5)),(9,(jB v2337)),(10,(jI bg7))],[])
def f14n8S(ba1:List Qa)(bb2:List Qb)(bg3 bg4 bg5:Int)(bl6:Bool)(bg7:Int):Tr×Hp:=(mkS [(0,(jL 4 Qa.cells ba1)),(1,(jL 2 Qb.cells bb2)),(5,(jI bg3)),(6,(jI bg4)),(8,(jI bg5)),(9,(jB bl6)),(10,(jI bg7))],[])
noncomputable def f14n8(ba1:List Qa)(bb2:List Qb)(bg3 bg4 bg5:Int)(bl6:Bool)(bg7:Int):Option f14n8O :=
 (f14n9 FUEL ba1 bb2 bg3 bg4 bg5 bg7 bl6 0).bind fun o2334=>match o2334 with
 | .exit8 v2336=>some (.norm v2336)
theorem f14n8_ok(ba1:List Qa)(bb2:List Qb)(bg3 bg4 bg5:Int)(bl6:Bool)(bg7:Int){o:f14n8O}(h:f14n8 ba1 bb2 bg3 bg4 bg5 bl6 bg7=some o):T Try.prog Try.f14.ntmps 0 (cL (Qi 1 (cL (cL (Qi 1 (cL (Qi 1 (cL (cL (Qi 1 (cL (cL (Qi 1 (cL (Qi 0 (Qi 1 (Qi 1 (cL (cL (Qi 1 (cL (cL (Qi 1 (cL (Qi 1 c14))))))))))))))))))))))))) (f14n8S ba1 bb2 bg3 bg4 bg5 bl6 bg7) (·=f14n8E ba1 bb2 bg3 bg4 bg5 bl6 bg7 o):=by
 unfold f14n8 at h;refine T.block' (i:=7) (by kernel_rfl) ?_;refine rN Qg 1 [j3] [] [] [] [0,1,5,6,8,9,10,11] (f14n9S ba1 bb2 bg3 bg4 bg5 bg7 bl6 0) an ?_;obtain ⟨o2334,h2335,h⟩:=Qd h;cases o2334 with
 | exit8 v2336 =>
  obtain rfl:=Qe h;exact T.last' (T.bl (i:=8) (by kernel_rfl) (by kernel_rfl) (f14n9_ok FUEL ba1 bb2 bg3 bg4 bg5 bg7 bl6 0 h2335)) (tds:=[]) (m:=[]) (keep:=[0,1,5,6,8,9,10]) (st2:=(f14n8E ba1 bb2 bg3 bg4 bg5 bl6 bg7 (.norm v2336)).2) (by kernel_rfl) an rfl
inductive f14n10O where
 | exit6 (v2341:Bool)
def f14n10E(ba1:List Qa)(bb2:List Qb)(bg3 bg4 bg5:Int):f14n10O→Ex×Tr×Hp
 | .exit6 v2341=>((.exit 6),mkS [(0,(jL 4 Qa.cells ba1)),(1,(jL 2 Qb.cells bb2)),(5,(jI bg3)),(6,(jI bg4)),(8,(jI bg5)),(9,(jB v2341))],[])
def f14n10S(ba1:List Qa)(bb2:List Qb)(bg3 bg4 bg5:Int)(v2263:Bool)(v2264:Int):Tr×Hp:=(mkS [(0,(jL 4 Qa.cells ba1)),(1,(jL 2 Qb.cells bb2)),(5,(jI bg3)),(6,(jI bg4)),(8,(jI bg5)),(9,(jB v2263)),(10,(jI v2264))],[])
noncomputable def f14n10:Nat→List Qa→List Qb→Int→Int→Int→Bool→Int→Option f14n10O
 | 0,_,_,_,_,_,_,_=>none
 | f+1,ba1,bb2,bg3,bg4,bg5,v2263,v2264 =>
  (at? ba1 bg5).bind fun x2268 =>
  bif decide (v2264<(x2268.For.length:Int)) then
   (f14n8 ba1 bb2 bg3 bg4 bg5 v2263 v2264).bind fun o2338=>match o2338 with
   | .norm v2340=>(f14n10 f ba1 bb2 bg3 bg4 bg5 v2340 (wr64 (v2264+1)))
  else
   some (.exit6 v2263)
theorem f14n10_ok:∀(f:Nat)(ba1:List Qa)(bb2:List Qb)(bg3 bg4 bg5:Int)(v2263:Bool)(v2264:Int){o:f14n10O},f14n10 f ba1 bb2 bg3 bg4 bg5 v2263 v2264=some o→TL Try.prog Try.f14.ntmps 0 f (cL (cL (Qi 1 (cL (Qi 1 (cL (cL (Qi 1 (cL (cL (Qi 1 (cL (Qi 0 (Qi 1 (Qi 1 (cL (cL (Qi 1 (cL (cL (Qi 1 (cL (Qi 1 c14))))))))))))))))))))))) (f14n10S ba1 bb2 bg3 bg4 bg5 v2263 v2264) (·=f14n10E ba1 bb2 bg3 bg4 bg5 o)
 | 0,_,_,_,_,_,_,_,o,h=>by rw [f14n10] at h; cases h
 | f+1,ba1,bb2,bg3,bg4,bg5,v2263,v2264,o,h=>by
  rw [f14n10] at h;refine TL.body (K:=fun s=>∃v2263:Bool,∃v2264:Int,s=(f14n10S ba1 bb2 bg3 bg4 bg5 v2263 v2264)∧f14n10 f ba1 bb2 bg3 bg4 bg5 v2263 v2264=some o) ?_ (by rintro _ ⟨v2263,v2264,rfl,hk⟩; exact f14n10_ok f _ _ _ _ _ _ _ hk);obtain ⟨x2268,h2269,h⟩:=Qd h;rcases Qh h with ⟨h2270,h⟩|⟨h2270,h⟩
  ·refine rN Qg 1 [([],[(3,.idx (Int.toNat bg5) (Qa.cells x2268))],[(6,.val (jI (x2268.For.length:Int)))])] [some true] [] [] [0,1,5,6,8,9,10] (f14n8S ba1 bb2 bg3 bg4 bg5 v2263 v2264) (ap (Qf h2269).1 (ap (Qj Qa.cells (Qf h2269).2) (ap (Qp (xs:=x2268.For) (c:=cStr)) (ap h2270 an)))) ?_;obtain ⟨o2338,h2339,h⟩:=Qd h;cases o2338 with
   | norm v2340 =>
    refine T.oneN (by kernel_rfl) (f14n8_ok ba1 bb2 bg3 bg4 bg5 v2263 v2264 h2339) (st2:=(f14n8E ba1 bb2 bg3 bg4 bg5 v2263 v2264 (.norm v2340)).2) rfl ?_;exact rE Qg [j3] [] [] [] [0,1,5,6,8,9,10] (.norm,(f14n10S ba1 bb2 bg3 bg4 bg5 v2340 (wr64 (v2264+1)))) an (Qm.norm ⟨v2340,(wr64 (v2264+1)),rfl,h⟩)
  ·obtain rfl:=Qe h;exact rK Qg 1 [([],[(3,.idx (Int.toNat bg5) (Qa.cells x2268))],[(6,.val (jI (x2268.For.length:Int)))])] [some false] [] [] [0,1,5,6,8,9] (.exit 6) ((f14n10E ba1 bb2 bg3 bg4 bg5 (.exit6 v2263)).2) (ap (Qf h2269).1 (ap (Qj Qa.cells (Qf h2269).2) (ap (Qp (xs:=x2268.For) (c:=cStr)) (ap h2270 an)))) (Qm.out rfl rfl)
inductive f14n7O where
 | norm (v2345:Bool)
def f14n7E(ba1:List Qa)(bb2:List Qb)(bg3 bg4 bg5:Int):f14n7O→Ex×Tr×Hp
 | .norm v2345=>(.norm,mkS [(0,(jL 4 Qa.cells ba1)),(1,(jL 2 Qb.cells bb2)),(5,(jI bg3)),(6,(jI bg4)),(8,(jI bg5)),(9,(jB v2345))],[])
def f14n7S(ba1:List Qa)(bb2:List Qb)(bg3 bg4 bg5:Int):Tr×Hp:=(mkS [(0,(jL 4 Qa.cells ba1)),(1,(jL 2 Qb.cells bb2)),(5,(jI bg3)),(6,(jI bg4)),(8,(jI bg5)),(9,(jB false))],[])
noncomputable def f14n7(ba1:List Qa)(bb2:List Qb)(bg3 bg4 bg5:Int):Option f14n7O :=
 (f14n10 FUEL ba1 bb2 bg3 bg4 bg5 false 0).bind fun o2342=>match o2342 with
 | .exit6 v2344=>some (.norm v2344)
theorem f14n7_ok(ba1:List Qa)(bb2:List Qb)(bg3 bg4 bg5:Int){o:f14n7O}(h:f14n7 ba1 bb2 bg3 bg4 bg5=some o):T Try.prog Try.f14.ntmps 0 (cL (Qi 1 (cL (cL (Qi 1 (cL (cL (Qi 1 (cL (Qi 0 (Qi 1 (Qi 1 (cL (cL (Qi 1 (cL (cL (Qi 1 (cL (Qi 1 c14)))))))))))))))))))) (f14n7S ba1 bb2 bg3 bg4 bg5) (·=f14n7E ba1 bb2 bg3 bg4 bg5 o):=by
 unfold f14n7 at h;refine rN Qg 1 [j3] [] [] [] [0,1,5,6,8,9,10] (f14n10S ba1 bb2 bg3 bg4 bg5 false 0) an ?_;obtain ⟨o2342,h2343,h⟩:=Qd h;cases o2342 with
 | exit6 v2344 =>
  obtain rfl:=Qe h;exact T.last' (T.bl (i:=6) (by kernel_rfl) (by kernel_rfl) (f14n10_ok FUEL ba1 bb2 bg3 bg4 bg5 false 0 h2343)) (tds:=[]) (m:=[]) (keep:=[0,1,5,6,8,9]) (st2:=(f14n7E ba1 bb2 bg3 bg4 bg5 (.norm v2344)).2) (by kernel_rfl) an rfl
inductive f14n6O where
 | norm (v2355:Int)
def f14n6E(ba1:List Qa)(bb2:List Qb)(bg3 bg4 bg5:Int):f14n6O→Ex×Tr×Hp
 | .norm v2355=>(.norm,mkS [(0,(jL 4 Qa.cells ba1)),(1,(jL 2 Qb.cells bb2)),(5,(jI bg3)),(6,(jI v2355)),(8,(jI bg5))],[])
def f14n6S(ba1:List Qa)(bb2:List Qb)(bg3 bg4 bg5:Int):Tr×Hp:=(mkS [(0,(jL 4 Qa.cells ba1)),(1,(jL 2 Qb.cells bb2)),(5,(jI bg3)),(6,(jI bg4)),(8,(jI bg5))],[])
noncomputable def f14n6(ba1:List Qa)(bb2:List Qb)(bg3 bg4 bg5:Int):Option f14n6O :=
 (f14n7 ba1 bb2 bg3 bg4 bg5).bind fun o2346=>match o2346 with
 | .norm v2348=>bif v2348 then
   (at? ba1 bg5).bind fun x2353 =>
   some (.norm (wr64 (bg4+x2353.Amount)))
  else
   some (.norm bg4)
theorem f14n6_ok(ba1:List Qa)(bb2:List Qb)(bg3 bg4 bg5:Int){o:f14n6O}(h:f14n6 ba1 bb2 bg3 bg4 bg5=some o):T Try.prog Try.f14.ntmps 0 (cL (Qi 1 (cL (cL (Qi 1 (cL (Qi 0 (Qi 1 (Qi 1 (cL (cL (Qi 1 (cL (cL (Qi 1 (cL (Qi 1 c14))))))))))))))))) (f14n6S ba1 bb2 bg3 bg4 bg5) (·=f14n6E ba1 bb2 bg3 bg4 bg5 o):=by
 unfold f14n6 at h;refine T.block' (i:=5) (by kernel_rfl) ?_;refine rN Qg 1 [j3] [] [] [] [0,1,5,6,8,9] (f14n7S ba1 bb2 bg3 bg4 bg5) an ?_;obtain ⟨o2346,h2347,h⟩:=Qd h;cases o2346 with
 | norm v2348 =>
  refine T.oneN (by kernel_rfl) (f14n7_ok ba1 bb2 bg3 bg4 bg5 h2347) (st2:=(f14n7E ba1 bb2 bg3 bg4 bg5 (.norm v2348)).2) rfl ?_;rcases Qh h with ⟨h2352,h⟩|⟨h2352,h⟩
  ·obtain ⟨x2353,h2354,h⟩:=Qd h;obtain rfl:=Qe h;exact rE Qg [j3,([],[(3,.idx (Int.toNat bg5) (Qa.cells x2353))],[])] [some true] [] [] [0,1,5,6,8] (.norm,(f14n6E ba1 bb2 bg3 bg4 bg5 (.norm (wr64 (bg4+x2353.Amount)))).2) (ap h2352 (ap (Qf h2354).1 (ap (Qj Qa.cells (Qf h2354).2) an))) rfl
  ·obtain rfl:=Qe h;exact rE Qg [j3] [some false] [] [] [0,1,5,6,8] (.norm,(f14n6E ba1 bb2 bg3 bg4 bg5 (.norm bg4)).2) (ap h2352 an) rfl
inductive f14n11O where
 | exit4 (v2359:Int)
def f14n11E(ba1:List Qa)(bb2:List Qb)(bg3:Int):f14n11O→Ex×Tr×Hp
 | .exit4 v2359=>((.exit 4),mkS [(0,(jL 4 Qa.cells ba1)),(1,(jL 2 Qb.cells bb2)),(5,(jI bg3)),(6,(jI v2359))],[])
def f14n11S(ba1:List Qa)(bb2:List Qb)(bg3 v2107 v2108:Int):Tr×Hp:=(mkS [(0,(jL 4 Qa.cells ba1)),(1,(jL 2 Qb.cells bb2)),(5,(jI bg3)),(6,(jI v2107)),(8,(jI v2108))],[])
noncomputable def f14n11:Nat→List Qa→List Qb→Int→Int→Int→Option f14n11O
 | 0,_,_,_,_,_=>none
 | f+1,ba1,bb2,bg3,v2107,v2108 =>
  bif decide (v2108<(ba1.length:Int)) then
   (f14n6 ba1 bb2 bg3 v2107 v2108).bind fun o2356=>match o2356 with
   | .norm v2358=>(f14n11 f ba1 bb2 bg3 v2358 (wr64 (v2108+1)))
  else
   some (.exit4 v2107)
theorem f14n11_ok:∀(f:Nat)(ba1:List Qa)(bb2:List Qb)(bg3 v2107 v2108:Int){o:f14n11O},f14n11 f ba1 bb2 bg3 v2107 v2108=some o→TL Try.prog Try.f14.ntmps 0 f (cL (cL (Qi 1 (cL (Qi 0 (Qi 1 (Qi 1 (cL (cL (Qi 1 (cL (cL (Qi 1 (cL (Qi 1 c14))))))))))))))) (f14n11S ba1 bb2 bg3 v2107 v2108) (·=f14n11E ba1 bb2 bg3 o)
 | 0,_,_,_,_,_,o,h=>by rw [f14n11] at h; cases h
 | f+1,ba1,bb2,bg3,v2107,v2108,o,h=>by
  rw [f14n11] at h;refine TL.body (K:=fun s=>∃v2107:Int,∃v2108:Int,s=(f14n11S ba1 bb2 bg3 v2107 v2108)∧f14n11 f ba1 bb2 bg3 v2107 v2108=some o) ?_ (by rintro _ ⟨v2107,v2108,rfl,hk⟩; exact f14n11_ok f _ _ _ _ _ hk);rcases Qh h with ⟨h2110,h⟩|⟨h2110,h⟩
  ·refine rN Qg 1 [([],[],[(2,.val (jI (ba1.length:Int)))])] [some true] [] [] [0,1,5,6,8] (f14n6S ba1 bb2 bg3 v2107 v2108) (ap (Qp (xs:=ba1) (c:=Qa.cells)) (ap h2110 an)) ?_;obtain ⟨o2356,h2357,h⟩:=Qd h;cases o2356 with
   | norm v2358 =>
    refine T.oneN (by kernel_rfl) (f14n6_ok ba1 bb2 bg3 v2107 v2108 h2357) (st2:=(f14n6E ba1 bb2 bg3 v2107 v2108 (.norm v2358)).2) rfl ?_;exact rE Qg [j3] [] [] [] [0,1,5,6,8] (.norm,(f14n11S ba1 bb2 bg3 v2358 (wr64 (v2108+1)))) an (Qm.norm ⟨v2358,(wr64 (v2108+1)),rfl,h⟩)
  ·obtain rfl:=Qe h;exact rK Qg 1 [([],[],[(2,.val (jI (ba1.length:Int)))])] [some false] [] [] [0,1,5,6] (.exit 4) ((f14n11E ba1 bb2 bg3 (.exit4 v2107)).2) (ap (Qp (xs:=ba1) (c:=Qa.cells)) (ap h2110 an)) (Qm.out rfl rfl)
inductive f14n5O where
 | norm (v2363:Int)
def f14n5E(ba1:List Qa)(bb2:List Qb)(bg3 bg4:Int):f14n5O→Ex×Tr×Hp
 | .norm v2363=>(.norm,mkS [(0,(jL 4 Qa.cells ba1)),(1,(jL 2 Qb.cells bb2)),(5,(jI bg3)),(6,(jI v2363))],[])
def f14n5S(ba1:List Qa)(bb2:List Qb)(bg3 bg4:Int):Tr×Hp:=(mkS [(0,(jL 4 Qa.cells ba1)),(1,(jL 2 Qb.cells bb2)),(5,(jI bg3)),(6,(jI bg4))],[])
noncomputable def f14n5(ba1:List Qa)(bb2:List Qb)(bg3 bg4:Int):Option f14n5O :=
 (f14n11 FUEL ba1 bb2 bg3 bg4 0).bind fun o2360=>match o2360 with
 | .exit4 v2362=>some (.norm v2362)
theorem f14n5_ok(ba1:List Qa)(bb2:List Qb)(bg3 bg4:Int){o:f14n5O}(h:f14n5 ba1 bb2 bg3 bg4=some o):T Try.prog Try.f14.ntmps 0 (cL (Qi 0 (Qi 1 (Qi 1 (cL (cL (Qi 1 (cL (cL (Qi 1 (cL (Qi 1 c14)))))))))))) (f14n5S ba1 bb2 bg3 bg4) (·=f14n5E ba1 bb2 bg3 bg4 o):=by
 unfold f14n5 at h;refine rN Qg 1 [j3] [] [] [] [0,1,5,6,8] (f14n11S ba1 bb2 bg3 bg4 0) an ?_;obtain ⟨o2360,h2361,h⟩:=Qd h;cases o2360 with
 | exit4 v2362 =>
  obtain rfl:=Qe h;exact T.last' (T.bl (i:=4) (by kernel_rfl) (by kernel_rfl) (f14n11_ok FUEL ba1 bb2 bg3 bg4 0 h2361)) (tds:=[]) (m:=[]) (keep:=[0,1,5,6]) (st2:=(f14n5E ba1 bb2 bg3 bg4 (.norm v2362)).2) (by kernel_rfl) an rfl
inductive f14n2O where
 | norm
 | ret
def f14n2E(ba1:List Qa)(bb2:List Qb)(bg3:Int):f14n2O→Ex×Tr×Hp
 | .norm=>(.norm,mkS [(0,(jL 4 Qa.cells ba1)),(1,(jL 2 Qb.cells bb2)),(5,(jI bg3))],[])
 | .ret=>(.ret,mkS [(4,(jB false))],[])
def f14n2S(ba1:List Qa)(bb2:List Qb)(bg3:Int):Tr×Hp:=(mkS [(0,(jL 4 Qa.cells ba1)),(1,(jL 2 Qb.cells bb2)),(5,(jI bg3))],[])
noncomputable def f14n2(ba1:List Qa)(bb2:List Qb)(bg3:Int):Option f14n2O :=
 (f14n3 ba1 bb2 bg3).bind fun o1602=>match o1602 with
 | .norm v1604=>(f14n5 ba1 bb2 bg3 v1604).bind fun o2364=>match o2364 with
  | .norm v2366=>bif decide (v2366<0) then
    some .ret
   else
    some .norm
theorem f14n2_ok(ba1:List Qa)(bb2:List Qb)(bg3:Int){o:f14n2O}(h:f14n2 ba1 bb2 bg3=some o):T Try.prog Try.f14.ntmps 0 (cL (Qi 1 (cL (cL (Qi 1 (cL (Qi 1 c14))))))) (f14n2S ba1 bb2 bg3) (·=f14n2E ba1 bb2 bg3 o):=by
 unfold f14n2 at h;refine T.block' (i:=1) (by kernel_rfl) ?_;refine rN Qg 1 [j3] [] [] [] [0,1,5,6] (f14n3S ba1 bb2 bg3) an ?_;obtain ⟨o1602,h1603,h⟩:=Qd h;cases o1602 with
 | norm v1604 =>
  refine T.oneN (by kernel_rfl) (f14n3_ok ba1 bb2 bg3 h1603) (st2:=(f14n3E ba1 bb2 bg3 (.norm v1604)).2) rfl ?_;refine rN Qg 0 [] [] [] [] [0,1,5,6] (f14n5S ba1 bb2 bg3 v1604) an ?_;obtain ⟨o2364,h2365,h⟩:=Qd h;cases o2364 with
  | norm v2366 =>
   refine T.oneN (by kernel_rfl) (f14n5_ok ba1 bb2 bg3 v1604 h2365) (st2:=(f14n5E ba1 bb2 bg3 v1604 (.norm v2366)).2) rfl ?_;rcases Qh h with ⟨h2368,h⟩|⟨h2368,h⟩
   ·obtain rfl:=Qe h;exact rE Qg [j3,j3] [some true] [] [] [4] (.ret,(f14n2E ba1 bb2 bg3 .ret).2) (ap h2368 an) rfl
   ·obtain rfl:=Qe h;exact rE Qg [j3] [some false] [] [] [0,1,5] (.norm,(f14n2E ba1 bb2 bg3 .norm).2) (ap h2368 an) rfl
inductive f14n12O where
 | exit0
 | ret
def f14n12E(ba1:List Qa)(bb2:List Qb):f14n12O→Ex×Tr×Hp
 | .exit0=>((.exit 0),mkS [],[])
 | .ret=>(.ret,mkS [(4,(jB false))],[])
def f14n12S(ba1:List Qa)(bb2:List Qb)(v1560:Int):Tr×Hp:=(mkS [(0,(jL 4 Qa.cells ba1)),(1,(jL 2 Qb.cells bb2)),(5,(jI v1560))],[])
noncomputable def f14n12:Nat→List Qa→List Qb→Int→Option f14n12O
 | 0,_,_,_=>none
 | f+1,ba1,bb2,v1560 =>
  req (decide (0≤(Qs (bb2.length:Int)))) <|
  bif (decide (v1560<(shlK .i64 1 (Qs (bb2.length:Int))))) then
   (f14n2 ba1 bb2 v1560).bind fun o2369=>match o2369 with
   | .norm=>(f14n12 f ba1 bb2 (wr64 (v1560+1)))
   | .ret=>some .ret
  else
   some .exit0
theorem f14n12_ok:∀(f:Nat)(ba1:List Qa)(bb2:List Qb)(v1560:Int){o:f14n12O},f14n12 f ba1 bb2 v1560=some o→TL Try.prog Try.f14.ntmps 0 f (cL (cL (Qi 1 (cL (Qi 1 c14))))) (f14n12S ba1 bb2 v1560) (·=f14n12E ba1 bb2 o)
 | 0,_,_,_,o,h=>by rw [f14n12] at h; cases h
 | f+1,ba1,bb2,v1560,o,h=>by
  rw [f14n12] at h;refine TL.body (K:=fun s=>∃v1560:Int,s=(f14n12S ba1 bb2 v1560)∧f14n12 f ba1 bb2 v1560=some o) ?_ (by rintro _ ⟨v1560,rfl,hk⟩; exact f14n12_ok f _ _ _ hk);obtain ⟨h1563,h⟩:=Ql h;rcases Qh h with ⟨h1564,h⟩|⟨h1564,h⟩
  ·refine rN Qg 1 [([],[(4,.fits)],[(2,.val (jI (bb2.length:Int)))])] [some true] [] [] [0,1,5] (f14n2S ba1 bb2 v1560) (ap (Qp (xs:=bb2) (c:=Qb.cells)) (ap (le_of h1563) (ap h1564 an))) ?_;obtain ⟨o2369,h2370,h⟩:=Qd h;cases o2369 with
   | norm =>
    refine T.oneN (by kernel_rfl) (f14n2_ok ba1 bb2 v1560 h2370) (st2:=(f14n2E ba1 bb2 v1560 .norm).2) rfl ?_;exact rE Qg [j3] [] [] [] [0,1,5] (.norm,(f14n12S ba1 bb2 (wr64 (v1560+1)))) an (Qm.norm ⟨(wr64 (v1560+1)),rfl,h⟩)
   | ret =>
    obtain rfl:=Qe h;exact T.oneX' (by kernel_rfl) (f14n2_ok ba1 bb2 v1560 h2370) (tds:=[]) (m:=[]) (keep:=[4]) (st2:=(f14n12E ba1 bb2 .ret).2) (by kernel_rfl) an rfl (Qm.out rfl rfl)
  ·obtain rfl:=Qe h;exact rK Qg 1 [([],[(4,.fits)],[(2,.val (jI (bb2.length:Int)))])] [some false] [] [] [] (.exit 0) ((f14n12E ba1 bb2 .exit0).2) (ap (Qp (xs:=bb2) (c:=Qb.cells)) (ap (le_of h1563) (ap h1564 an))) (Qm.out rfl rfl)
inductive f14n1O where
 | norm
 | ret
def f14n1E(ba1:List Qa)(bb2:List Qb):f14n1O→Ex×Tr×Hp
 | .norm=>(.norm,mkS [],[])
 | .ret=>(.ret,mkS [(4,(jB false))],[])
def f14n1S(ba1:List Qa)(bb2:List Qb):Tr×Hp:=(mkS [(0,(jL 4 Qa.cells ba1)),(1,(jL 2 Qb.cells bb2))],[])
noncomputable def f14n1(ba1:List Qa)(bb2:List Qb):Option f14n1O :=
 (f14n12 FUEL ba1 bb2 0).bind fun o2371=>match o2371 with
 | .exit0=>some .norm
 | .ret=>some .ret
theorem f14n1_ok(ba1:List Qa)(bb2:List Qb){o:f14n1O}(h:f14n1 ba1 bb2=some o):T Try.prog Try.f14.ntmps 0 (cL (Qi 1 c14)) (f14n1S ba1 bb2) (·=f14n1E ba1 bb2 o):=by
 unfold f14n1 at h;refine rN Qg 1 [j3] [] [] [] [0,1,5] (f14n12S ba1 bb2 0) an ?_;obtain ⟨o2371,h2372,h⟩:=Qd h;cases o2371 with
 | exit0 =>
  obtain rfl:=Qe h;exact T.last' (T.bl (i:=0) (by kernel_rfl) (by kernel_rfl) (f14n12_ok FUEL ba1 bb2 0 h2372)) (tds:=[]) (m:=[]) (keep:=[]) (st2:=(f14n1E ba1 bb2 .norm).2) (by kernel_rfl) an rfl
 | ret =>
  obtain rfl:=Qe h;exact T.last' (T.bl (i:=0) (by kernel_rfl) (by kernel_rfl) (f14n12_ok FUEL ba1 bb2 0 h2372)) (tds:=[]) (m:=[]) (keep:=[4]) (st2:=(f14n1E ba1 bb2 .ret).2) (by kernel_rfl) an rfl
inductive f14n0O where
 | ret (v2375:Bool)
def f14n0E(a1:List Qa)(a2:List Qb):f14n0O→Ex×Tr×Hp
 | .ret v2375=>(.ret,mkS [(4,(jB v2375))],[])
def f14n0S(a1:List Qa)(a2:List Qb):Tr×Hp:=(Qal [(jL 4 Qa.cells a1),(jL 2 Qb.cells a2)] 0 .leaf,[])
noncomputable def f14n0(a1:List Qa)(a2:List Qb):Option f14n0O :=
 (f14n1 a1 a2).bind fun o2373=>match o2373 with
 | .norm=>some (.ret true)
 | .ret=>some (.ret false)
theorem f14n0_ok(a1:List Qa)(a2:List Qb){o:f14n0O}(h:f14n0 a1 a2=some o):T Try.prog Try.f14.ntmps 0 c14 (f14n0S a1 a2) (·=f14n0E a1 a2 o):=by
 unfold f14n0 at h;refine rN Qg 1 [j3] [] [] [] [0,1] (f14n1S a1 a2) an ?_;obtain ⟨o2373,h2374,h⟩:=Qd h;cases o2373 with
 | norm =>
  refine T.oneN (by kernel_rfl) (f14n1_ok a1 a2 h2374) (st2:=(f14n1E a1 a2 .norm).2) rfl ?_;obtain rfl:=Qe h;exact rE Qg [j3] [] [] [] [4] (.ret,(f14n0E a1 a2 (.ret true)).2) an rfl
 | ret =>
  obtain rfl:=Qe h;exact T.oneX' (by kernel_rfl) (f14n1_ok a1 a2 h2374) (tds:=[]) (m:=[]) (keep:=[4]) (st2:=(f14n0E a1 a2 (.ret false)).2) (by kernel_rfl) an rfl rfl
noncomputable def f14(a1:List Qa)(a2:List Qb):Option Bool:=(f14n0 a1 a2).bind fun o=>match o with
 | .ret v2375=>some v2375
theorem f14_ok(a1:List Qa)(a2:List Qb){r:Bool}(h:f14 a1 a2=some r):Qn Try.prog false 14 [(jL 4 Qa.cells a1),(jL 2 Qb.cells a2)] [] (jB r) []:=by
 unfold f14 at h;obtain ⟨o,ho,h⟩:=Qd h;cases o with
 | ret v2375 =>
  obtain rfl:=Qe h;exact Qn.plain Qg (f:=Try.f14) (c:=c14) (by kernel_rfl) (by kernel_rfl) (by kernel_rfl) (by kernel_rfl) ((f14n0_ok a1 a2 ho).mono fun r e=>by subst e; exact ⟨.inl rfl,(jB v2375),(jB v2375),by kernel_rfl,by kernel_rfl,((Wk.refl _):Wk (jB v2375) (jB v2375))⟩)

noncomputable def c15:Code:=Try.f15.body.getD .skip
inductive f15n4O where
 | norm (v696:Bool)
def f15n4E(ba1:List Qa)(bb2:List Qb)(bc3:List Qc)(bg4:Int):f15n4O→Ex×Tr×Hp
 | .norm v696=>(.norm,mkS [(0,(jL 4 Qa.cells ba1)),(1,(jL 2 Qb.cells bb2)),(2,(jL 3 Qc.cells bc3)),(7,(jI bg4)),(84,(jB v696))],[])
def f15n4S(ba1:List Qa)(bb2:List Qb)(bc3:List Qc)(bg4:Int):Tr×Hp:=(mkS [(0,(jL 4 Qa.cells ba1)),(1,(jL 2 Qb.cells bb2)),(2,(jL 3 Qc.cells bc3)),(7,(jI bg4))],[])
noncomputable def f15n4(ba1:List Qa)(bb2:List Qb)(bc3:List Qc)(bg4:Int):Option f15n4O :=
 (at? bc3 bg4).bind fun x687 =>
 bif decide (x687.Amount<1) then
  some (.norm true)
 else
  bif decide (68719476736<x687.Amount) then
   some (.norm true)
  else
   bif decide (0<bg4) then
    (at? bc3 (wr64 (bg4-1))).bind fun x692 =>
    bif (slt x692.Asset x687.Asset||seq x692.Asset x687.Asset) then
     bif (seq x692.Asset x687.Asset) then
      some (.norm (!(slt x692.Call x687.Call)))
     else
      some (.norm false)
    else
     some (.norm true)
   else
    some (.norm false)
theorem f15n4_ok(ba1:List Qa)(bb2:List Qb)(bc3:List Qc)(bg4:Int){o:f15n4O}(h:f15n4 ba1 bb2 bc3 bg4=some o):T Try.prog Try.f15.ntmps 0 (cL (Qi 0 (cL (Qi 0 (cL (cL (Qi 1 (cL (cL (Qi 1 (cL (Qi 1 c15)))))))))))) (f15n4S ba1 bb2 bc3 bg4) (·=f15n4E ba1 bb2 bc3 bg4 o):=by
 unfold f15n4 at h;obtain ⟨x687,h688,h⟩:=Qd h;rcases Qh h with ⟨h689,h⟩|⟨h689,h⟩
 ·obtain rfl:=Qe h;exact rE Qg [(jT [7,8,9,10,11,12],[(2,.idx (Int.toNat bg4) (Qc.cells x687)),(13,.bool true)],[])] [] [] [] [0,1,2,7,84] (.norm,(f15n4E ba1 bb2 bc3 bg4 (.norm true)).2) (ap (Qf h688).1 (ap (Qj Qc.cells (Qf h688).2) (ap3 h689 (ap4 h689 an)))) rfl
 ·rcases Qh h with ⟨h690,h⟩|⟨h690,h⟩
  ·obtain rfl:=Qe h;exact rE Qg [(jF [7,8,9,10,11,12]++jT [15,16,17,58],[(2,.idx (Int.toNat bg4) (Qc.cells x687)),(9,.idx (Int.toNat bg4) (Qc.cells x687)),(13,.bool false),(59,.bool true)],[])] [] [] [] [0,1,2,7,84] (.norm,(f15n4E ba1 bb2 bc3 bg4 (.norm true)).2) (ap (Qf h688).1 (ap (Qj Qc.cells (Qf h688).2) (ap3 h689 (ap (Qf h688).1 (ap (Qj Qc.cells (Qf h688).2) (ap4 h689 (ap h690 (ap4 h690 an)))))))) rfl
  ·rcases Qh h with ⟨h691,h⟩|⟨h691,h⟩
   ·obtain ⟨x692,h693,h⟩:=Qd h;rcases Qh h with ⟨h694,h⟩|⟨h694,h⟩
    ·rcases Qh h with ⟨h695,h⟩|⟨h695,h⟩
     ·obtain rfl:=Qe h
      exact rE Qg [(jF [7,8,9,10,11,12,15,16,17,31,32,33,34,35,36,37,38,39,40,41,42,43,56,58]++jT [18,19,20,21,22,23,24,25,26,27,28,29,30,44,45,46,47,48,49,50,51,52,53,54,55,57],[(2,.idx (Int.toNat bg4) (Qc.cells x687)),(9,.idx (Int.toNat bg4) (Qc.cells x687)),(13,.bool false),(21,.idx (Int.toNat (wr64 (bg4-1))) (Qc.cells x692)),(26,.idx (Int.toNat bg4) (Qc.cells x687)),(34,.idx (Int.toNat (wr64 (bg4-1))) (Qc.cells x692)),(39,.idx (Int.toNat bg4) (Qc.cells x687)),(47,.idx (Int.toNat (wr64 (bg4-1))) (Qc.cells x692)),(52,.idx (Int.toNat bg4) (Qc.cells x687)),(56,.bool true),(57,.bool false),(58,.bool true),(59,.bool false)],[])] [] [] [] [0,1,2,7,84] (.norm,(f15n4E ba1 bb2 bc3 bg4 (.norm (!(slt x692.Call x687.Call)))).2) (ap (Qf h688).1 (ap (Qj Qc.cells (Qf h688).2) (ap3 h689 (ap (Qf h688).1 (ap (Qj Qc.cells (Qf h688).2) (ap4 h689 (ap3 h690 (ap4 h691 (ap (Qf h693).1 (ap (Qj Qc.cells (Qf h693).2) (ap h691 (ap4 h691 (ap (Qf h688).1 (ap (Qj Qc.cells (Qf h688).2) (ap4 h691 (ap4 (Qv h694) (ap (Qf h693).1 (ap (Qj Qc.cells (Qf h693).2) (ap (Qv h694) (ap4 (Qv h694) (ap (Qf h688).1 (ap (Qj Qc.cells (Qf h688).2) (ap4 (Qv h694) (ap4 h695 (ap (Qf h693).1 (ap (Qj Qc.cells (Qf h693).2) (ap h695 (ap4 h695 (ap (Qf h688).1 (ap (Qj Qc.cells (Qf h688).2) (ap3 h695 (ap (Qv h694) (ap h695 (ap h691 (ap (Qv h694) (ap h690 (ap h691 (ap h690 an)))))))))))))))))))))))))))))))))))))) rfl
     ·obtain rfl:=Qe h
      exact rE Qg [(jF [7,8,9,10,11,12,15,16,17,31,32,33,34,35,36,37,38,39,40,41,42,43,44,45,46,47,48,49,50,51,52,53,54,55,56,58]++jT [18,19,20,21,22,23,24,25,26,27,28,29,30,57],[(2,.idx (Int.toNat bg4) (Qc.cells x687)),(9,.idx (Int.toNat bg4) (Qc.cells x687)),(13,.bool false),(21,.idx (Int.toNat (wr64 (bg4-1))) (Qc.cells x692)),(26,.idx (Int.toNat bg4) (Qc.cells x687)),(34,.idx (Int.toNat (wr64 (bg4-1))) (Qc.cells x692)),(39,.idx (Int.toNat bg4) (Qc.cells x687)),(56,.bool false),(57,.bool false),(58,.bool true),(59,.bool false)],[])] [] [] [] [0,1,2,7,84] (.norm,(f15n4E ba1 bb2 bc3 bg4 (.norm false)).2) (ap (Qf h688).1 (ap (Qj Qc.cells (Qf h688).2) (ap3 h689 (ap (Qf h688).1 (ap (Qj Qc.cells (Qf h688).2) (ap4 h689 (ap3 h690 (ap4 h691 (ap (Qf h693).1 (ap (Qj Qc.cells (Qf h693).2) (ap h691 (ap4 h691 (ap (Qf h688).1 (ap (Qj Qc.cells (Qf h688).2) (ap4 h691 (ap4 (Qv h694) (ap (Qf h693).1 (ap (Qj Qc.cells (Qf h693).2) (ap (Qv h694) (ap4 (Qv h694) (ap (Qf h688).1 (ap (Qj Qc.cells (Qf h688).2) (ap4 (Qv h694) (ap4 h695 (ap4 h695 (ap4 h695 (ap (Qv h694) (ap h695 (ap h691 (ap (Qv h694) (ap h690 (ap h691 (ap h690 an))))))))))))))))))))))))))))))))) rfl
    ·obtain rfl:=Qe h
     exact rE Qg [(jF [7,8,9,10,11,12,15,16,17,58]++jT [18,19,20,21,22,23,24,25,26,27,28,29,30,31,32,33,34,35,36,37,38,39,40,41,42,43,56,57],[(2,.idx (Int.toNat bg4) (Qc.cells x687)),(9,.idx (Int.toNat bg4) (Qc.cells x687)),(13,.bool false),(21,.idx (Int.toNat (wr64 (bg4-1))) (Qc.cells x692)),(26,.idx (Int.toNat bg4) (Qc.cells x687)),(57,.bool true),(58,.bool true),(59,.bool false)],[])] [] [] [] [0,1,2,7,84] (.norm,(f15n4E ba1 bb2 bc3 bg4 (.norm true)).2) (ap (Qf h688).1 (ap (Qj Qc.cells (Qf h688).2) (ap3 h689 (ap (Qf h688).1 (ap (Qj Qc.cells (Qf h688).2) (ap4 h689 (ap3 h690 (ap4 h691 (ap (Qf h693).1 (ap (Qj Qc.cells (Qf h693).2) (ap h691 (ap4 h691 (ap (Qf h688).1 (ap (Qj Qc.cells (Qf h688).2) (ap4 h691 (ap2 (Qak h694) (ap4 (Qak h694) (ap4 (Qak h694) (ap4 (Qak h694) (ap h691 (ap (Qak h694) (ap h690 (ap h691 (ap h690 an)))))))))))))))))))))))) rfl
   ·obtain rfl:=Qe h;exact rE Qg [(jF [7,8,9,10,11,12,15,16,17,18,19,20,21,22,23,24,25,26,27,28,29,30,57,58],[(2,.idx (Int.toNat bg4) (Qc.cells x687)),(9,.idx (Int.toNat bg4) (Qc.cells x687)),(13,.bool false),(58,.bool false),(59,.bool false)],[])] [] [] [] [0,1,2,7,84] (.norm,(f15n4E ba1 bb2 bc3 bg4 (.norm false)).2) (ap (Qf h688).1 (ap (Qj Qc.cells (Qf h688).2) (ap3 h689 (ap (Qf h688).1 (ap (Qj Qc.cells (Qf h688).2) (ap4 h689 (ap3 h690 (ap2 h691 (ap4 h691 (ap4 h691 (ap4 h691 (ap h690 (ap h691 (ap h690 an)))))))))))))) rfl
inductive f15n3O where
 | norm
 | ret
def f15n3E(ba1:List Qa)(bb2:List Qb)(bc3:List Qc)(bg4:Int):f15n3O→Ex×Tr×Hp
 | .norm=>(.norm,mkS [(0,(jL 4 Qa.cells ba1)),(1,(jL 2 Qb.cells bb2)),(2,(jL 3 Qc.cells bc3)),(7,(jI bg4))],[])
 | .ret=>(.ret,mkS [(6,(jB false))],[])
def f15n3S(ba1:List Qa)(bb2:List Qb)(bc3:List Qc)(bg4:Int):Tr×Hp:=(mkS [(0,(jL 4 Qa.cells ba1)),(1,(jL 2 Qb.cells bb2)),(2,(jL 3 Qc.cells bc3)),(7,(jI bg4))],[])
noncomputable def f15n3(ba1:List Qa)(bb2:List Qb)(bc3:List Qc)(bg4:Int):Option f15n3O :=
 (f15n4 ba1 bb2 bc3 bg4).bind fun o697=>match o697 with
 | .norm v699=>bif v699 then
   some .ret
  else
   some .norm
theorem f15n3_ok(ba1:List Qa)(bb2:List Qb)(bc3:List Qc)(bg4:Int){o:f15n3O}(h:f15n3 ba1 bb2 bc3 bg4=some o):T Try.prog Try.f15.ntmps 0 (cL (Qi 0 (cL (cL (Qi 1 (cL (cL (Qi 1 (cL (Qi 1 c15)))))))))) (f15n3S ba1 bb2 bc3 bg4) (·=f15n3E ba1 bb2 bc3 bg4 o):=by
 unfold f15n3 at h;refine rN Qg 0 [] [] [] [] [0,1,2,7] (f15n4S ba1 bb2 bc3 bg4) an ?_;obtain ⟨o697,h698,h⟩:=Qd h;cases o697 with
 | norm v699 =>
  refine T.oneN (by kernel_rfl) (f15n4_ok ba1 bb2 bc3 bg4 h698) (st2:=(f15n4E ba1 bb2 bc3 bg4 (.norm v699)).2) rfl ?_;rcases Qh h with ⟨h701,h⟩|⟨h701,h⟩
  ·obtain rfl:=Qe h;exact rE Qg [j3] [some true] [] [] [6] (.ret,(f15n3E ba1 bb2 bc3 bg4 .ret).2) (ap h701 an) rfl
  ·obtain rfl:=Qe h;exact rE Qg [] [some false] [] [] [0,1,2,7] (.norm,(f15n3E ba1 bb2 bc3 bg4 .norm).2) (ap h701 an) rfl
inductive f15n7O where
 | exit4 (v928:Bool)
def f15n7E(ba1:List Qa)(bb2:List Qb)(bc3:List Qc)(bg4 bg6:Int):f15n7O→Ex×Tr×Hp
 | .exit4 v928=>((.exit 4),mkS [(0,(jL 4 Qa.cells ba1)),(1,(jL 2 Qb.cells bb2)),(2,(jL 3 Qc.cells bc3)),(7,(jI bg4)),(8,(jB v928)),(9,(jB false)),(10,(jI bg6))],[])
def f15n7S(ba1:List Qa)(bb2:List Qb)(bc3:List Qc)(bg4 bg6:Int)(v905:Bool)(v906:Int):Tr×Hp:=(mkS [(0,(jL 4 Qa.cells ba1)),(1,(jL 2 Qb.cells bb2)),(2,(jL 3 Qc.cells bc3)),(7,(jI bg4)),(8,(jB v905)),(9,(jB false)),(10,(jI bg6)),(11,(jI v906))],[])
noncomputable def f15n7:Nat→List Qa→List Qb→List Qc→Int→Int→Bool→Int→Option f15n7O
 | 0,_,_,_,_,_,_,_=>none
 | f+1,ba1,bb2,bc3,bg4,bg6,v905,v906 =>
  (at? ba1 bg6).bind fun x913 =>
  bif decide (v906<(x913.For.length:Int)) then
   (at? bc3 bg4).bind fun x916 =>
   bif (seq x913.Name x916.Asset) then
    bif v905 then
     (f15n7 f ba1 bb2 bc3 bg4 bg6 true (wr64 (v906+1)))
    else
     (at? x913.For v906).bind fun x926 =>
     (f15n7 f ba1 bb2 bc3 bg4 bg6 (seq x926 x916.Call) (wr64 (v906+1)))
   else
    some (.exit4 v905)
  else
   some (.exit4 v905)
theorem f15n7_ok:∀(f:Nat)(ba1:List Qa)(bb2:List Qb)(bc3:List Qc)(bg4 bg6:Int)(v905:Bool)(v906:Int){o:f15n7O},f15n7 f ba1 bb2 bc3 bg4 bg6 v905 v906=some o→TL Try.prog Try.f15.ntmps 0 f (cL (cL (Qi 1 (cL (cL (Qi 1 (cL (cL (Qi 1 (cL (Qi 1 (Qi 1 (Qi 0 (cL (cL (Qi 1 (cL (cL (Qi 1 (cL (Qi 1 c15))))))))))))))))))))) (f15n7S ba1 bb2 bc3 bg4 bg6 v905 v906) (·=f15n7E ba1 bb2 bc3 bg4 bg6 o)
 | 0,_,_,_,_,_,_,_,o,h=>by rw [f15n7] at h; cases h
 | f+1,ba1,bb2,bc3,bg4,bg6,v905,v906,o,h=>by
  rw [f15n7] at h;refine TL.body (K:=fun s=>∃v905:Bool,∃v906:Int,s=(f15n7S ba1 bb2 bc3 bg4 bg6 v905 v906)∧f15n7 f ba1 bb2 bc3 bg4 bg6 v905 v906=some o) ?_ (by rintro _ ⟨v905,v906,rfl,hk⟩; exact f15n7_ok f _ _ _ _ _ _ _ hk);obtain ⟨x913,h914,h⟩:=Qd h;rcases Qh h with ⟨h915,h⟩|⟨h915,h⟩
  ·obtain ⟨x916,h917,h⟩:=Qd h;rcases Qh h with ⟨h918,h⟩|⟨h918,h⟩
   ·refine rN Qg 1 [(jT [9,10,11,12,13,14,15,16,17,18,19],[(3,.idx (Int.toNat bg6) (Qa.cells x913)),(11,.idx (Int.toNat bg6) (Qa.cells x913)),(16,.idx (Int.toNat bg4) (Qc.cells x916)),(20,.bool true)],[(6,.val (jI (x913.For.length:Int)))])] [some true] [] [] [0,1,2,7,8,9,10,11] (mkS [(0,(jL 4 Qa.cells ba1)),(1,(jL 2 Qb.cells bb2)),(2,(jL 3 Qc.cells bc3)),(7,(jI bg4)),(8,(jB v905)),(9,(jB false)),(10,(jI bg6)),(11,(jI v906))],[]) (ap (Qf h914).1 (ap (Qj Qa.cells (Qf h914).2) (ap (Qp (xs:=x913.For) (c:=cStr)) (ap3 h915 (ap (Qf h914).1 (ap (Qj Qa.cells (Qf h914).2) (ap h915 (ap4 h915 (ap (Qf h917).1 (ap (Qj Qc.cells (Qf h917).2) (ap4 h915 (ap h918 an)))))))))))) ?_;rcases Qh h with ⟨h925,h⟩|⟨h925,h⟩
    ·exact rE Qg [(jT [2,3,4,5,6,7,8,9,10,11,12,13,14,15],[(16,.bool true)],[]),j3] [] [] [] [0,1,2,7,8,9,10,11] (.norm,(f15n7S ba1 bb2 bc3 bg4 bg6 true (wr64 (v906+1)))) (ap3 h925 (ap4 h925 (ap4 h925 (ap4 h925 an)))) (Qm.norm ⟨true,(wr64 (v906+1)),rfl,h⟩)
    ·obtain ⟨x926,h927,h⟩:=Qd h;exact rE Qg [(jF [2,3,4,5,6,7,8,9,10,11,12,13,14,15],[(4,.idx (Int.toNat bg6) (Qa.cells x913)),(8,.idx (Int.toNat v906) (cStr x926)),(12,.idx (Int.toNat bg4) (Qc.cells x916)),(16,.bool false)],[]),j3] [] [] [] [0,1,2,7,8,9,10,11] (.norm,(f15n7S ba1 bb2 bc3 bg4 bg6 (seq x926 x916.Call) (wr64 (v906+1)))) (ap3 h925 (ap (Qf h914).1 (ap (Qj Qa.cells (Qf h914).2) (ap4 h925 (ap (Qf h927).1 (ap (Qj cStr (Qf h927).2) (ap4 h925 (ap (Qf h917).1 (ap (Qj Qc.cells (Qf h917).2) (ap4 h925 an)))))))))) (Qm.norm ⟨(seq x926 x916.Call),(wr64 (v906+1)),rfl,h⟩)
   ·obtain rfl:=Qe h;exact rK Qg 1 [(jT [9,10,11,12,13,14,15,16,17,18,19],[(3,.idx (Int.toNat bg6) (Qa.cells x913)),(11,.idx (Int.toNat bg6) (Qa.cells x913)),(16,.idx (Int.toNat bg4) (Qc.cells x916)),(20,.bool true)],[(6,.val (jI (x913.For.length:Int)))])] [some false] [] [] [0,1,2,7,8,9,10] (.exit 4) ((f15n7E ba1 bb2 bc3 bg4 bg6 (.exit4 v905)).2) (ap (Qf h914).1 (ap (Qj Qa.cells (Qf h914).2) (ap (Qp (xs:=x913.For) (c:=cStr)) (ap3 h915 (ap (Qf h914).1 (ap (Qj Qa.cells (Qf h914).2) (ap h915 (ap4 h915 (ap (Qf h917).1 (ap (Qj Qc.cells (Qf h917).2) (ap4 h915 (ap h918 an)))))))))))) (Qm.out rfl rfl)
  ·obtain rfl:=Qe h;exact rK Qg 1 [(jF [9,10,11,12,13,14,15,16,17,18,19],[(3,.idx (Int.toNat bg6) (Qa.cells x913)),(20,.bool false)],[(6,.val (jI (x913.For.length:Int)))])] [none] [] [] [0,1,2,7,8,9,10] (.exit 4) ((f15n7E ba1 bb2 bc3 bg4 bg6 (.exit4 v905)).2) (ap (Qf h914).1 (ap (Qj Qa.cells (Qf h914).2) (ap (Qp (xs:=x913.For) (c:=cStr)) (ap4 h915 (ap4 h915 (ap4 h915 an)))))) (Qm.out rfl rfl)
inductive f15n6O where
 | norm (v932:Bool)
def f15n6E(ba1:List Qa)(bb2:List Qb)(bc3:List Qc)(bg4:Int)(bl5:Bool)(bg6:Int):f15n6O→Ex×Tr×Hp
 | .norm v932=>(.norm,mkS [(0,(jL 4 Qa.cells ba1)),(1,(jL 2 Qb.cells bb2)),(2,(jL 3 Qc.cells bc3)),(7,(jI bg4)),(8,(jB v932)),(9,(jB false)),(10,(jI bg6))],[])
def f15n6S(ba1:List Qa)(bb2:List Qb)(bc3:List Qc)(bg4:Int)(bl5:Bool)(bg6:Int):Tr×Hp:=(mkS [(0,(jL 4 Qa.cells ba1)),(1,(jL 2 Qb.cells bb2)),(2,(jL 3 Qc.cells bc3)),(7,(jI bg4)),(8,(jB bl5)),(9,(jB false)),(10,(jI bg6))],[])
noncomputable def f15n6(ba1:List Qa)(bb2:List Qb)(bc3:List Qc)(bg4:Int)(bl5:Bool)(bg6:Int):Option f15n6O :=
 (f15n7 FUEL ba1 bb2 bc3 bg4 bg6 bl5 0).bind fun o929=>match o929 with
 | .exit4 v931=>some (.norm v931)
theorem f15n6_ok(ba1:List Qa)(bb2:List Qb)(bc3:List Qc)(bg4:Int)(bl5:Bool)(bg6:Int){o:f15n6O}(h:f15n6 ba1 bb2 bc3 bg4 bl5 bg6=some o):T Try.prog Try.f15.ntmps 0 (cL (Qi 1 (cL (cL (Qi 1 (cL (Qi 1 (Qi 1 (Qi 0 (cL (cL (Qi 1 (cL (cL (Qi 1 (cL (Qi 1 c15))))))))))))))))) (f15n6S ba1 bb2 bc3 bg4 bl5 bg6) (·=f15n6E ba1 bb2 bc3 bg4 bl5 bg6 o):=by
 unfold f15n6 at h;refine T.block' (i:=3) (by kernel_rfl) ?_;refine rN Qg 1 [j3] [] [] [] [0,1,2,7,8,9,10,11] (f15n7S ba1 bb2 bc3 bg4 bg6 bl5 0) an ?_;obtain ⟨o929,h930,h⟩:=Qd h;cases o929 with
 | exit4 v931 =>
  obtain rfl:=Qe h;exact T.last' (T.bl (i:=4) (by kernel_rfl) (by kernel_rfl) (f15n7_ok FUEL ba1 bb2 bc3 bg4 bg6 bl5 0 h930)) (tds:=[]) (m:=[]) (keep:=[0,1,2,7,8,9,10]) (st2:=(f15n6E ba1 bb2 bc3 bg4 bl5 bg6 (.norm v931)).2) (by kernel_rfl) an rfl
inductive f15n8O where
 | exit2 (v936:Bool)
def f15n8E(ba1:List Qa)(bb2:List Qb)(bc3:List Qc)(bg4:Int):f15n8O→Ex×Tr×Hp
 | .exit2 v936=>((.exit 2),mkS [(0,(jL 4 Qa.cells ba1)),(1,(jL 2 Qb.cells bb2)),(2,(jL 3 Qc.cells bc3)),(7,(jI bg4)),(8,(jB v936)),(9,(jB false))],[])
def f15n8S(ba1:List Qa)(bb2:List Qb)(bc3:List Qc)(bg4:Int)(v857:Bool)(v858:Int):Tr×Hp:=(mkS [(0,(jL 4 Qa.cells ba1)),(1,(jL 2 Qb.cells bb2)),(2,(jL 3 Qc.cells bc3)),(7,(jI bg4)),(8,(jB v857)),(9,(jB false)),(10,(jI v858))],[])
noncomputable def f15n8:Nat→List Qa→List Qb→List Qc→Int→Bool→Int→Option f15n8O
 | 0,_,_,_,_,_,_=>none
 | f+1,ba1,bb2,bc3,bg4,v857,v858 =>
  bif decide (v858<(ba1.length:Int)) then
   (f15n6 ba1 bb2 bc3 bg4 v857 v858).bind fun o933=>match o933 with
   | .norm v935=>(f15n8 f ba1 bb2 bc3 bg4 v935 (wr64 (v858+1)))
  else
   some (.exit2 v857)
theorem f15n8_ok:∀(f:Nat)(ba1:List Qa)(bb2:List Qb)(bc3:List Qc)(bg4:Int)(v857:Bool)(v858:Int){o:f15n8O},f15n8 f ba1 bb2 bc3 bg4 v857 v858=some o→TL Try.prog Try.f15.ntmps 0 f (cL (cL (Qi 1 (cL (Qi 1 (Qi 1 (Qi 0 (cL (cL (Qi 1 (cL (cL (Qi 1 (cL (Qi 1 c15))))))))))))))) (f15n8S ba1 bb2 bc3 bg4 v857 v858) (·=f15n8E ba1 bb2 bc3 bg4 o)
 | 0,_,_,_,_,_,_,o,h=>by rw [f15n8] at h; cases h
 | f+1,ba1,bb2,bc3,bg4,v857,v858,o,h=>by
  rw [f15n8] at h;refine TL.body (K:=fun s=>∃v857:Bool,∃v858:Int,s=(f15n8S ba1 bb2 bc3 bg4 v857 v858)∧f15n8 f ba1 bb2 bc3 bg4 v857 v858=some o) ?_ (by rintro _ ⟨v857,v858,rfl,hk⟩; exact f15n8_ok f _ _ _ _ _ _ hk);rcases Qh h with ⟨h860,h⟩|⟨h860,h⟩
  ·refine rN Qg 1 [([],[],[(2,.val (jI (ba1.length:Int)))])] [some true] [] [] [0,1,2,7,8,9,10] (f15n6S ba1 bb2 bc3 bg4 v857 v858) (ap (Qp (xs:=ba1) (c:=Qa.cells)) (ap h860 an)) ?_;obtain ⟨o933,h934,h⟩:=Qd h;cases o933 with
   | norm v935 =>
    refine T.oneN (by kernel_rfl) (f15n6_ok ba1 bb2 bc3 bg4 v857 v858 h934) (st2:=(f15n6E ba1 bb2 bc3 bg4 v857 v858 (.norm v935)).2) rfl ?_;exact rE Qg [j3] [] [] [] [0,1,2,7,8,9,10] (.norm,(f15n8S ba1 bb2 bc3 bg4 v935 (wr64 (v858+1)))) an (Qm.norm ⟨v935,(wr64 (v858+1)),rfl,h⟩)
  ·obtain rfl:=Qe h;exact rK Qg 1 [([],[],[(2,.val (jI (ba1.length:Int)))])] [some false] [] [] [0,1,2,7,8,9] (.exit 2) ((f15n8E ba1 bb2 bc3 bg4 (.exit2 v857)).2) (ap (Qp (xs:=ba1) (c:=Qa.cells)) (ap h860 an)) (Qm.out rfl rfl)
inductive f15n5O where
 | norm (v940:Bool)
def f15n5E(ba1:List Qa)(bb2:List Qb)(bc3:List Qc)(bg4:Int):f15n5O→Ex×Tr×Hp
 | .norm v940=>(.norm,mkS [(0,(jL 4 Qa.cells ba1)),(1,(jL 2 Qb.cells bb2)),(2,(jL 3 Qc.cells bc3)),(7,(jI bg4)),(8,(jB v940)),(9,(jB false))],[])
def f15n5S(ba1:List Qa)(bb2:List Qb)(bc3:List Qc)(bg4:Int):Tr×Hp:=(mkS [(0,(jL 4 Qa.cells ba1)),(1,(jL 2 Qb.cells bb2)),(2,(jL 3 Qc.cells bc3)),(7,(jI bg4)),(8,(jB false)),(9,(jB false))],[])
noncomputable def f15n5(ba1:List Qa)(bb2:List Qb)(bc3:List Qc)(bg4:Int):Option f15n5O :=
 (f15n8 FUEL ba1 bb2 bc3 bg4 false 0).bind fun o937=>match o937 with
 | .exit2 v939=>some (.norm v939)
theorem f15n5_ok(ba1:List Qa)(bb2:List Qb)(bc3:List Qc)(bg4:Int){o:f15n5O}(h:f15n5 ba1 bb2 bc3 bg4=some o):T Try.prog Try.f15.ntmps 0 (cL (Qi 1 (Qi 1 (Qi 0 (cL (cL (Qi 1 (cL (cL (Qi 1 (cL (Qi 1 c15)))))))))))) (f15n5S ba1 bb2 bc3 bg4) (·=f15n5E ba1 bb2 bc3 bg4 o):=by
 unfold f15n5 at h;refine rN Qg 1 [j3] [] [] [] [0,1,2,7,8,9,10] (f15n8S ba1 bb2 bc3 bg4 false 0) an ?_;obtain ⟨o937,h938,h⟩:=Qd h;cases o937 with
 | exit2 v939 =>
  obtain rfl:=Qe h;exact T.last' (T.bl (i:=2) (by kernel_rfl) (by kernel_rfl) (f15n8_ok FUEL ba1 bb2 bc3 bg4 false 0 h938)) (tds:=[]) (m:=[]) (keep:=[0,1,2,7,8,9]) (st2:=(f15n5E ba1 bb2 bc3 bg4 (.norm v939)).2) (by kernel_rfl) an rfl
inductive f15n10O where
 | exit6 (v982:Bool)
def f15n10E(ba1:List Qa)(bb2:List Qb)(bc3:List Qc)(bg4:Int)(bl5:Bool):f15n10O→Ex×Tr×Hp
 | .exit6 v982=>((.exit 6),mkS [(0,(jL 4 Qa.cells ba1)),(1,(jL 2 Qb.cells bb2)),(2,(jL 3 Qc.cells bc3)),(7,(jI bg4)),(8,(jB bl5)),(9,(jB v982))],[])
def f15n10S(ba1:List Qa)(bb2:List Qb)(bc3:List Qc)(bg4:Int)(bl5 v968:Bool)(v969:Int):Tr×Hp:=(mkS [(0,(jL 4 Qa.cells ba1)),(1,(jL 2 Qb.cells bb2)),(2,(jL 3 Qc.cells bc3)),(7,(jI bg4)),(8,(jB bl5)),(9,(jB v968)),(12,(jI v969))],[])
noncomputable def f15n10:Nat→List Qa→List Qb→List Qc→Int→Bool→Bool→Int→Option f15n10O
 | 0,_,_,_,_,_,_,_=>none
 | f+1,ba1,bb2,bc3,bg4,bl5,v968,v969 =>
  bif decide (v969<(bb2.length:Int)) then
   bif v968 then
    (f15n10 f ba1 bb2 bc3 bg4 bl5 true (wr64 (v969+1)))
   else
    (at? bb2 v969).bind fun x978 =>
    (at? bc3 bg4).bind fun x980 =>
    (f15n10 f ba1 bb2 bc3 bg4 bl5 (seq x978.Name x980.Call) (wr64 (v969+1)))
  else
   some (.exit6 v968)
theorem f15n10_ok:∀(f:Nat)(ba1:List Qa)(bb2:List Qb)(bc3:List Qc)(bg4:Int)(bl5 v968:Bool)(v969:Int){o:f15n10O},f15n10 f ba1 bb2 bc3 bg4 bl5 v968 v969=some o→TL Try.prog Try.f15.ntmps 0 f (cL (cL (Qi 1 (cL (Qi 0 (Qi 1 (Qi 1 (Qi 1 (Qi 0 (cL (cL (Qi 1 (cL (cL (Qi 1 (cL (Qi 1 c15))))))))))))))))) (f15n10S ba1 bb2 bc3 bg4 bl5 v968 v969) (·=f15n10E ba1 bb2 bc3 bg4 bl5 o)
 | 0,_,_,_,_,_,_,_,o,h=>by rw [f15n10] at h; cases h
 | f+1,ba1,bb2,bc3,bg4,bl5,v968,v969,o,h=>by
  rw [f15n10] at h;refine TL.body (K:=fun s=>∃v968:Bool,∃v969:Int,s=(f15n10S ba1 bb2 bc3 bg4 bl5 v968 v969)∧f15n10 f ba1 bb2 bc3 bg4 bl5 v968 v969=some o) ?_ (by rintro _ ⟨v968,v969,rfl,hk⟩; exact f15n10_ok f _ _ _ _ _ _ _ hk);rcases Qh h with ⟨h971,h⟩|⟨h971,h⟩
  ·rcases Qh h with ⟨h977,h⟩|⟨h977,h⟩
   ·exact rE Qg [([],[],[(2,.val (jI (bb2.length:Int)))]),(jT [2,3,4,5,6,7,8,9,10,11,12],[(13,.bool true)],[]),j3] [some true] [] [] [0,1,2,7,8,9,12] (.norm,(f15n10S ba1 bb2 bc3 bg4 bl5 true (wr64 (v969+1)))) (ap (Qp (xs:=bb2) (c:=Qb.cells)) (ap h971 (ap4 h977 (ap4 h977 (ap4 h977 an))))) (Qm.norm ⟨true,(wr64 (v969+1)),rfl,h⟩)
   ·obtain ⟨x978,h979,h⟩:=Qd h;obtain ⟨x980,h981,h⟩:=Qd h;exact rE Qg [([],[],[(2,.val (jI (bb2.length:Int)))]),(jF [2,3,4,5,6,7,8,9,10,11,12],[(4,.idx (Int.toNat v969) (Qb.cells x978)),(9,.idx (Int.toNat bg4) (Qc.cells x980)),(13,.bool false)],[]),j3] [some true] [] [] [0,1,2,7,8,9,12] (.norm,(f15n10S ba1 bb2 bc3 bg4 bl5 (seq x978.Name x980.Call) (wr64 (v969+1)))) (ap (Qp (xs:=bb2) (c:=Qb.cells)) (ap h971 (ap3 h977 (ap (Qf h979).1 (ap (Qj Qb.cells (Qf h979).2) (ap h977 (ap4 h977 (ap (Qf h981).1 (ap (Qj Qc.cells (Qf h981).2) (ap4 h977 an)))))))))) (Qm.norm ⟨(seq x978.Name x980.Call),(wr64 (v969+1)),rfl,h⟩)
  ·obtain rfl:=Qe h;exact rK Qg 1 [([],[],[(2,.val (jI (bb2.length:Int)))])] [some false] [] [] [0,1,2,7,8,9] (.exit 6) ((f15n10E ba1 bb2 bc3 bg4 bl5 (.exit6 v968)).2) (ap (Qp (xs:=bb2) (c:=Qb.cells)) (ap h971 an)) (Qm.out rfl rfl)
noncomputable def f15n10L(ba1:List Qa)(bb2:List Qb)(bc3:List Qc)(bg4:Int)(bl5:Bool):List Qb→Bool→Int→Option f15n10O
 | [],v968,v969 =>
  some (.exit6 v968)
 | x0::rest,v968,v969 =>
  bif v968 then
   (f15n10L ba1 bb2 bc3 bg4 bl5 rest true (v969+1))
  else
   (at? bc3 bg4).bind fun x980 =>
   (f15n10L ba1 bb2 bc3 bg4 bl5 rest (seq x0.Name x980.Call) (v969+1))
theorem f15n10L_eq(ba1:List Qa)(bb2:List Qb)(bc3:List Qc)(bg4:Int)(bl5:Bool):∀(rest:List Qb)(f k:Nat)(v968:Bool),bb2.drop k=rest→bb2.length≤maxLen→rest.length<f→f15n10 f ba1 bb2 bc3 bg4 bl5 v968 (k:Int)=f15n10L ba1 bb2 bc3 bg4 bl5 rest v968 (k:Int)
 | _,0,_,_,_,_,hf=>absurd hf (Nat.not_lt_zero _)
 | [],f+1,k,v968,hd,hm,hf=>by
  have hk:¬((k:Int)<(bb2.length:Int)):=by have:=Qai hd; omega
  rw [f15n10,f15n10L];simp only [decide_eq_false hk,cond_false]
 | x0::rest,f+1,k,v968,hd,hm,hf=>by
  obtain ⟨hx,hlt,hd'⟩:=Qaj hd;have hk:(k:Int)<(bb2.length:Int):=by omega
  have hw:wr64 ((k:Int)+1)=(k:Int)+1:=Qbk (by omega) (by unfold maxLen at hm; omega);have ih:∀(v968:Bool),f15n10 f ba1 bb2 bc3 bg4 bl5 v968 ((k:Int)+1)=f15n10L ba1 bb2 bc3 bg4 bl5 rest v968 ((k:Int)+1):=fun v968=>f15n10L_eq ba1 bb2 bc3 bg4 bl5 rest f (k+1) v968 hd' hm (by simpa using hf);rw [f15n10,f15n10L];simp only [decide_eq_true hk,cond_true,Qbv,hx,Option.bind_some,hw,ih]
theorem f15n10_run(ba1:List Qa)(bb2:List Qb)(bc3:List Qc)(bg4:Int)(bl5 v968:Bool)(hm:bb2.length≤maxLen):f15n10 FUEL ba1 bb2 bc3 bg4 bl5 v968 0=f15n10L ba1 bb2 bc3 bg4 bl5 bb2 v968 0:=f15n10L_eq ba1 bb2 bc3 bg4 bl5 bb2 FUEL 0 v968 List.drop_zero hm (Qaw hm)
inductive f15n9O where
 | norm (v986:Bool)
def f15n9E(ba1:List Qa)(bb2:List Qb)(bc3:List Qc)(bg4:Int)(bl5:Bool):f15n9O→Ex×Tr×Hp
 | .norm v986=>(.norm,mkS [(0,(jL 4 Qa.cells ba1)),(1,(jL 2 Qb.cells bb2)),(2,(jL 3 Qc.cells bc3)),(7,(jI bg4)),(8,(jB bl5)),(9,(jB v986))],[])
def f15n9S(ba1:List Qa)(bb2:List Qb)(bc3:List Qc)(bg4:Int)(bl5:Bool):Tr×Hp:=(mkS [(0,(jL 4 Qa.cells ba1)),(1,(jL 2 Qb.cells bb2)),(2,(jL 3 Qc.cells bc3)),(7,(jI bg4)),(8,(jB bl5)),(9,(jB false))],[])
noncomputable def f15n9(ba1:List Qa)(bb2:List Qb)(bc3:List Qc)(bg4:Int)(bl5:Bool):Option f15n9O :=
 (f15n10 FUEL ba1 bb2 bc3 bg4 bl5 false 0).bind fun o983=>match o983 with
 | .exit6 v985=>some (.norm v985)
theorem f15n9_ok(ba1:List Qa)(bb2:List Qb)(bc3:List Qc)(bg4:Int)(bl5:Bool){o:f15n9O}(h:f15n9 ba1 bb2 bc3 bg4 bl5=some o):T Try.prog Try.f15.ntmps 0 (cL (Qi 0 (Qi 1 (Qi 1 (Qi 1 (Qi 0 (cL (cL (Qi 1 (cL (cL (Qi 1 (cL (Qi 1 c15)))))))))))))) (f15n9S ba1 bb2 bc3 bg4 bl5) (·=f15n9E ba1 bb2 bc3 bg4 bl5 o):=by
 unfold f15n9 at h;refine rN Qg 1 [j3] [] [] [] [0,1,2,7,8,9,12] (f15n10S ba1 bb2 bc3 bg4 bl5 false 0) an ?_;obtain ⟨o983,h984,h⟩:=Qd h;cases o983 with
 | exit6 v985 =>
  obtain rfl:=Qe h;exact T.last' (T.bl (i:=6) (by kernel_rfl) (by kernel_rfl) (f15n10_ok FUEL ba1 bb2 bc3 bg4 bl5 false 0 h984)) (tds:=[]) (m:=[]) (keep:=[0,1,2,7,8,9]) (st2:=(f15n9E ba1 bb2 bc3 bg4 bl5 (.norm v985)).2) (by kernel_rfl) an rfl
inductive f15n11O where
 | norm (v993:Bool)
def f15n11E(ba1:List Qa)(bb2:List Qb)(bc3:List Qc)(bg4:Int)(bl5 bl6:Bool):f15n11O→Ex×Tr×Hp
 | .norm v993=>(.norm,mkS [(0,(jL 4 Qa.cells ba1)),(1,(jL 2 Qb.cells bb2)),(2,(jL 3 Qc.cells bc3)),(7,(jI bg4)),(156,(jB v993))],[])
def f15n11S(ba1:List Qa)(bb2:List Qb)(bc3:List Qc)(bg4:Int)(bl5 bl6:Bool):Tr×Hp:=(mkS [(0,(jL 4 Qa.cells ba1)),(1,(jL 2 Qb.cells bb2)),(2,(jL 3 Qc.cells bc3)),(7,(jI bg4)),(8,(jB bl5)),(9,(jB bl6))],[])
noncomputable def f15n11(ba1:List Qa)(bb2:List Qb)(bc3:List Qc)(bg4:Int)(bl5 bl6:Bool):Option f15n11O :=
 bif bl5 then
  some (.norm (!bl6))
 else
  some (.norm true)
theorem f15n11_ok(ba1:List Qa)(bb2:List Qb)(bc3:List Qc)(bg4:Int)(bl5 bl6:Bool){o:f15n11O}(h:f15n11 ba1 bb2 bc3 bg4 bl5 bl6=some o):T Try.prog Try.f15.ntmps 0 (cL (Qi 0 (Qi 1 (Qi 0 (Qi 1 (Qi 1 (Qi 1 (Qi 0 (cL (cL (Qi 1 (cL (cL (Qi 1 (cL (Qi 1 c15)))))))))))))))) (f15n11S ba1 bb2 bc3 bg4 bl5 bl6) (·=f15n11E ba1 bb2 bc3 bg4 bl5 bl6 o):=by
 unfold f15n11 at h;rcases Qh h with ⟨h992,h⟩|⟨h992,h⟩
 ·obtain rfl:=Qe h;exact rE Qg [([(3,false),(4,false)],[(5,.bool false)],[])] [] [] [] [0,1,2,7,156] (.norm,(f15n11E ba1 bb2 bc3 bg4 bl5 bl6 (.norm (!bl6))).2) (ap3 (Qv h992) an) rfl
 ·obtain rfl:=Qe h;exact rE Qg [([(3,true),(4,true)],[(5,.bool true)],[])] [] [] [] [0,1,2,7,156] (.norm,(f15n11E ba1 bb2 bc3 bg4 bl5 bl6 (.norm true)).2) (ap3 (Qak h992) an) rfl
inductive f15n2O where
 | norm
 | ret
def f15n2E(ba1:List Qa)(bb2:List Qb)(bc3:List Qc)(bg4:Int):f15n2O→Ex×Tr×Hp
 | .norm=>(.norm,mkS [(0,(jL 4 Qa.cells ba1)),(1,(jL 2 Qb.cells bb2)),(2,(jL 3 Qc.cells bc3)),(7,(jI bg4))],[])
 | .ret=>(.ret,mkS [(6,(jB false))],[])
def f15n2S(ba1:List Qa)(bb2:List Qb)(bc3:List Qc)(bg4:Int):Tr×Hp:=(mkS [(0,(jL 4 Qa.cells ba1)),(1,(jL 2 Qb.cells bb2)),(2,(jL 3 Qc.cells bc3)),(7,(jI bg4))],[])
noncomputable def f15n2(ba1:List Qa)(bb2:List Qb)(bc3:List Qc)(bg4:Int):Option f15n2O :=
 (f15n3 ba1 bb2 bc3 bg4).bind fun o702=>match o702 with
 | .norm=>(f15n5 ba1 bb2 bc3 bg4).bind fun o941=>match o941 with
  | .norm v943=>(f15n9 ba1 bb2 bc3 bg4 v943).bind fun o987=>match o987 with
   | .norm v989=>(f15n11 ba1 bb2 bc3 bg4 v943 v989).bind fun o994=>match o994 with
    | .norm v996=>bif v996 then
      some .ret
     else
      some .norm
 | .ret=>some .ret
theorem f15n2_ok(ba1:List Qa)(bb2:List Qb)(bc3:List Qc)(bg4:Int){o:f15n2O}(h:f15n2 ba1 bb2 bc3 bg4=some o):T Try.prog Try.f15.ntmps 0 (cL (Qi 1 (cL (cL (Qi 1 (cL (Qi 1 c15))))))) (f15n2S ba1 bb2 bc3 bg4) (·=f15n2E ba1 bb2 bc3 bg4 o):=by
 unfold f15n2 at h;refine T.block' (i:=1) (by kernel_rfl) ?_;refine rN Qg 0 [] [] [] [] [0,1,2,7] (f15n3S ba1 bb2 bc3 bg4) an ?_;obtain ⟨o702,h703,h⟩:=Qd h;cases o702 with
 | norm =>
  refine T.oneN (by kernel_rfl) (f15n3_ok ba1 bb2 bc3 bg4 h703) (st2:=(f15n3E ba1 bb2 bc3 bg4 .norm).2) rfl ?_;refine rN Qg 1 [j3] [] [] [] [0,1,2,7,8,9] (f15n5S ba1 bb2 bc3 bg4) an ?_;obtain ⟨o941,h942,h⟩:=Qd h;cases o941 with
  | norm v943 =>
   refine T.oneN (by kernel_rfl) (f15n5_ok ba1 bb2 bc3 bg4 h942) (st2:=(f15n5E ba1 bb2 bc3 bg4 (.norm v943)).2) rfl ?_;refine rN Qg 0 [] [] [] [] [0,1,2,7,8,9] (f15n9S ba1 bb2 bc3 bg4 v943) an ?_;obtain ⟨o987,h988,h⟩:=Qd h;cases o987 with
   | norm v989 =>
    refine T.oneN (by kernel_rfl) (f15n9_ok ba1 bb2 bc3 bg4 v943 h988) (st2:=(f15n9E ba1 bb2 bc3 bg4 v943 (.norm v989)).2) rfl ?_;refine rN Qg 0 [] [] [] [] [0,1,2,7,8,9] (f15n11S ba1 bb2 bc3 bg4 v943 v989) an ?_;obtain ⟨o994,h995,h⟩:=Qd h;cases o994 with
    | norm v996 =>
     refine T.oneN (by kernel_rfl) (f15n11_ok ba1 bb2 bc3 bg4 v943 v989 h995) (st2:=(f15n11E ba1 bb2 bc3 bg4 v943 v989 (.norm v996)).2) rfl ?_;rcases Qh h with ⟨h998,h⟩|⟨h998,h⟩
     ·obtain rfl:=Qe h;exact rE Qg [j3] [some true] [] [] [6] (.ret,(f15n2E ba1 bb2 bc3 bg4 .ret).2) (ap h998 an) rfl
     ·obtain rfl:=Qe h;exact rE Qg [] [some false] [] [] [0,1,2,7] (.norm,(f15n2E ba1 bb2 bc3 bg4 .norm).2) (ap h998 an) rfl
 | ret =>
  obtain rfl:=Qe h;exact T.oneX' (by kernel_rfl) (f15n3_ok ba1 bb2 bc3 bg4 h703) (tds:=[]) (m:=[]) (keep:=[6]) (st2:=(f15n2E ba1 bb2 bc3 bg4 .ret).2) (by kernel_rfl) an rfl rfl
inductive f15n12O where
 | exit0
 | ret
def f15n12E(ba1:List Qa)(bb2:List Qb)(bc3:List Qc):f15n12O→Ex×Tr×Hp
 | .exit0=>((.exit 0),mkS [(0,(jL 4 Qa.cells ba1)),(1,(jL 2 Qb.cells bb2)),(2,(jL 3 Qc.cells bc3))],[])
 | .ret=>(.ret,mkS [(6,(jB false))],[])
def f15n12S(ba1:List Qa)(bb2:List Qb)(bc3:List Qc)(v656:Int):Tr×Hp:=(mkS [(0,(jL 4 Qa.cells ba1)),(1,(jL 2 Qb.cells bb2)),(2,(jL 3 Qc.cells bc3)),(7,(jI v656))],[])
noncomputable def f15n12:Nat→List Qa→List Qb→List Qc→Int→Option f15n12O
 | 0,_,_,_,_=>none
 | f+1,ba1,bb2,bc3,v656 =>
  bif decide (v656<(bc3.length:Int)) then
   (f15n2 ba1 bb2 bc3 v656).bind fun o999=>match o999 with
   | .norm=>(f15n12 f ba1 bb2 bc3 (wr64 (v656+1)))
   | .ret=>some .ret
  else
   some .exit0
theorem f15n12_ok:∀(f:Nat)(ba1:List Qa)(bb2:List Qb)(bc3:List Qc)(v656:Int){o:f15n12O},f15n12 f ba1 bb2 bc3 v656=some o→TL Try.prog Try.f15.ntmps 0 f (cL (cL (Qi 1 (cL (Qi 1 c15))))) (f15n12S ba1 bb2 bc3 v656) (·=f15n12E ba1 bb2 bc3 o)
 | 0,_,_,_,_,o,h=>by rw [f15n12] at h; cases h
 | f+1,ba1,bb2,bc3,v656,o,h=>by
  rw [f15n12] at h;refine TL.body (K:=fun s=>∃v656:Int,s=(f15n12S ba1 bb2 bc3 v656)∧f15n12 f ba1 bb2 bc3 v656=some o) ?_ (by rintro _ ⟨v656,rfl,hk⟩; exact f15n12_ok f _ _ _ _ hk);rcases Qh h with ⟨h658,h⟩|⟨h658,h⟩
  ·refine rN Qg 1 [([],[],[(2,.val (jI (bc3.length:Int)))])] [some true] [] [] [0,1,2,7] (f15n2S ba1 bb2 bc3 v656) (ap (Qp (xs:=bc3) (c:=Qc.cells)) (ap h658 an)) ?_;obtain ⟨o999,h1000,h⟩:=Qd h;cases o999 with
   | norm =>
    refine T.oneN (by kernel_rfl) (f15n2_ok ba1 bb2 bc3 v656 h1000) (st2:=(f15n2E ba1 bb2 bc3 v656 .norm).2) rfl ?_;exact rE Qg [j3] [] [] [] [0,1,2,7] (.norm,(f15n12S ba1 bb2 bc3 (wr64 (v656+1)))) an (Qm.norm ⟨(wr64 (v656+1)),rfl,h⟩)
   | ret =>
    obtain rfl:=Qe h;exact T.oneX' (by kernel_rfl) (f15n2_ok ba1 bb2 bc3 v656 h1000) (tds:=[]) (m:=[]) (keep:=[6]) (st2:=(f15n12E ba1 bb2 bc3 .ret).2) (by kernel_rfl) an rfl (Qm.out rfl rfl)
  ·obtain rfl:=Qe h;exact rK Qg 1 [([],[],[(2,.val (jI (bc3.length:Int)))])] [some false] [] [] [0,1,2] (.exit 0) ((f15n12E ba1 bb2 bc3 .exit0).2) (ap (Qp (xs:=bc3) (c:=Qc.cells)) (ap h658 an)) (Qm.out rfl rfl)
inductive f15n1O where
 | norm
 | ret
def f15n1E(ba1:List Qa)(bb2:List Qb)(bc3:List Qc):f15n1O→Ex×Tr×Hp
 | .norm=>(.norm,mkS [(0,(jL 4 Qa.cells ba1)),(1,(jL 2 Qb.cells bb2)),(2,(jL 3 Qc.cells bc3))],[])
 | .ret=>(.ret,mkS [(6,(jB false))],[])
def f15n1S(ba1:List Qa)(bb2:List Qb)(bc3:List Qc):Tr×Hp:=(mkS [(0,(jL 4 Qa.cells ba1)),(1,(jL 2 Qb.cells bb2)),(2,(jL 3 Qc.cells bc3))],[])
noncomputable def f15n1(ba1:List Qa)(bb2:List Qb)(bc3:List Qc):Option f15n1O :=
 (f15n12 FUEL ba1 bb2 bc3 0).bind fun o1001=>match o1001 with
 | .exit0=>some .norm
 | .ret=>some .ret
theorem f15n1_ok(ba1:List Qa)(bb2:List Qb)(bc3:List Qc){o:f15n1O}(h:f15n1 ba1 bb2 bc3=some o):T Try.prog Try.f15.ntmps 0 (cL (Qi 1 c15)) (f15n1S ba1 bb2 bc3) (·=f15n1E ba1 bb2 bc3 o):=by
 unfold f15n1 at h;refine rN Qg 1 [j3] [] [] [] [0,1,2,7] (f15n12S ba1 bb2 bc3 0) an ?_;obtain ⟨o1001,h1002,h⟩:=Qd h;cases o1001 with
 | exit0 =>
  obtain rfl:=Qe h;exact T.last' (T.bl (i:=0) (by kernel_rfl) (by kernel_rfl) (f15n12_ok FUEL ba1 bb2 bc3 0 h1002)) (tds:=[]) (m:=[]) (keep:=[0,1,2]) (st2:=(f15n1E ba1 bb2 bc3 .norm).2) (by kernel_rfl) an rfl
 | ret =>
  obtain rfl:=Qe h;exact T.last' (T.bl (i:=0) (by kernel_rfl) (by kernel_rfl) (f15n12_ok FUEL ba1 bb2 bc3 0 h1002)) (tds:=[]) (m:=[]) (keep:=[6]) (st2:=(f15n1E ba1 bb2 bc3 .ret).2) (by kernel_rfl) an rfl
inductive f15n16O where
 | exit10 (v1165:Int)
def f15n16E(ba1:List Qa)(bb2:List Qb)(bc3:List Qc)(bg4:Int):f15n16O→Ex×Tr×Hp
 | .exit10 v1165=>((.exit 10),mkS [(0,(jL 4 Qa.cells ba1)),(1,(jL 2 Qb.cells bb2)),(2,(jL 3 Qc.cells bc3)),(13,(jI bg4)),(14,(jI v1165))],[])
def f15n16S(ba1:List Qa)(bb2:List Qb)(bc3:List Qc)(bg4 v1151 v1152:Int):Tr×Hp:=(mkS [(0,(jL 4 Qa.cells ba1)),(1,(jL 2 Qb.cells bb2)),(2,(jL 3 Qc.cells bc3)),(13,(jI bg4)),(14,(jI v1151)),(15,(jI v1152))],[])
noncomputable def f15n16:Nat→List Qa→List Qb→List Qc→Int→Int→Int→Option f15n16O
 | 0,_,_,_,_,_,_=>none
 | f+1,ba1,bb2,bc3,bg4,v1151,v1152 =>
  bif decide (v1152<(bc3.length:Int)) then
   (at? bc3 v1152).bind fun x1160 =>
   (at? ba1 bg4).bind fun x1162 =>
   bif (seq x1160.Asset x1162.Name) then
    (f15n16 f ba1 bb2 bc3 bg4 (wr64 (v1151+x1160.Amount)) (wr64 (v1152+1)))
   else
    (f15n16 f ba1 bb2 bc3 bg4 v1151 (wr64 (v1152+1)))
  else
   some (.exit10 v1151)
theorem f15n16_ok:∀(f:Nat)(ba1:List Qa)(bb2:List Qb)(bc3:List Qc)(bg4 v1151 v1152:Int){o:f15n16O},f15n16 f ba1 bb2 bc3 bg4 v1151 v1152=some o→TL Try.prog Try.f15.ntmps 0 f (cL (cL (Qi 1 (cL (Qi 1 (cL (cL (Qi 1 (cL (cL (Qi 1 (cL (Qi 0 (Qi 1 (Qi 1 c15))))))))))))))) (f15n16S ba1 bb2 bc3 bg4 v1151 v1152) (·=f15n16E ba1 bb2 bc3 bg4 o)
 | 0,_,_,_,_,_,_,o,h=>by rw [f15n16] at h; cases h
 | f+1,ba1,bb2,bc3,bg4,v1151,v1152,o,h=>by
  rw [f15n16] at h;refine TL.body (K:=fun s=>∃v1151:Int,∃v1152:Int,s=(f15n16S ba1 bb2 bc3 bg4 v1151 v1152)∧f15n16 f ba1 bb2 bc3 bg4 v1151 v1152=some o) ?_ (by rintro _ ⟨v1151,v1152,rfl,hk⟩; exact f15n16_ok f _ _ _ _ _ _ hk);rcases Qh h with ⟨h1154,h⟩|⟨h1154,h⟩
  ·obtain ⟨x1160,h1161,h⟩:=Qd h;obtain ⟨x1162,h1163,h⟩:=Qd h;rcases Qh h with ⟨h1164,h⟩|⟨h1164,h⟩
   ·exact rE Qg [([],[],[(2,.val (jI (bc3.length:Int)))]),([],[(2,.idx (Int.toNat v1152) (Qc.cells x1160)),(7,.idx (Int.toNat bg4) (Qa.cells x1162))],[]),([],[(3,.idx (Int.toNat v1152) (Qc.cells x1160))],[]),j3] [some true,some true] [] [] [0,1,2,13,14,15] (.norm,(f15n16S ba1 bb2 bc3 bg4 (wr64 (v1151+x1160.Amount)) (wr64 (v1152+1)))) (ap (Qp (xs:=bc3) (c:=Qc.cells)) (ap h1154 (ap (Qf h1161).1 (ap (Qj Qc.cells (Qf h1161).2) (ap (Qf h1163).1 (ap (Qj Qa.cells (Qf h1163).2) (ap h1164 (ap (Qf h1161).1 (ap (Qj Qc.cells (Qf h1161).2) an))))))))) (Qm.norm ⟨(wr64 (v1151+x1160.Amount)),(wr64 (v1152+1)),rfl,h⟩)
   ·exact rE Qg [([],[],[(2,.val (jI (bc3.length:Int)))]),([],[(2,.idx (Int.toNat v1152) (Qc.cells x1160)),(7,.idx (Int.toNat bg4) (Qa.cells x1162))],[]),j3] [some true,some false] [] [] [0,1,2,13,14,15] (.norm,(f15n16S ba1 bb2 bc3 bg4 v1151 (wr64 (v1152+1)))) (ap (Qp (xs:=bc3) (c:=Qc.cells)) (ap h1154 (ap (Qf h1161).1 (ap (Qj Qc.cells (Qf h1161).2) (ap (Qf h1163).1 (ap (Qj Qa.cells (Qf h1163).2) (ap h1164 an))))))) (Qm.norm ⟨v1151,(wr64 (v1152+1)),rfl,h⟩)
  ·obtain rfl:=Qe h;exact rK Qg 1 [([],[],[(2,.val (jI (bc3.length:Int)))])] [some false] [] [] [0,1,2,13,14] (.exit 10) ((f15n16E ba1 bb2 bc3 bg4 (.exit10 v1151)).2) (ap (Qp (xs:=bc3) (c:=Qc.cells)) (ap h1154 an)) (Qm.out rfl rfl)
noncomputable def f15n16L(ba1:List Qa)(bb2:List Qb)(bc3:List Qc)(bg4:Int):List Qc→Int→Int→Option f15n16O
 | [],v1151,v1152 =>
  some (.exit10 v1151)
 | x0::rest,v1151,v1152 =>
  (at? ba1 bg4).bind fun x1162 =>
  bif (seq x0.Asset x1162.Name) then
   (f15n16L ba1 bb2 bc3 bg4 rest (wr64 (v1151+x0.Amount)) (v1152+1))
  else
   (f15n16L ba1 bb2 bc3 bg4 rest v1151 (v1152+1))
theorem f15n16L_eq(ba1:List Qa)(bb2:List Qb)(bc3:List Qc)(bg4:Int):∀(rest:List Qc)(f k:Nat)(v1151:Int),bc3.drop k=rest→bc3.length≤maxLen→rest.length<f→f15n16 f ba1 bb2 bc3 bg4 v1151 (k:Int)=f15n16L ba1 bb2 bc3 bg4 rest v1151 (k:Int)
 | _,0,_,_,_,_,hf=>absurd hf (Nat.not_lt_zero _)
 | [],f+1,k,v1151,hd,hm,hf=>by
  have hk:¬((k:Int)<(bc3.length:Int)):=by have:=Qai hd; omega
  rw [f15n16,f15n16L];simp only [decide_eq_false hk,cond_false]
 | x0::rest,f+1,k,v1151,hd,hm,hf=>by
  obtain ⟨hx,hlt,hd'⟩:=Qaj hd;have hk:(k:Int)<(bc3.length:Int):=by omega
  have hw:wr64 ((k:Int)+1)=(k:Int)+1:=Qbk (by omega) (by unfold maxLen at hm; omega);have ih:∀(v1151:Int),f15n16 f ba1 bb2 bc3 bg4 v1151 ((k:Int)+1)=f15n16L ba1 bb2 bc3 bg4 rest v1151 ((k:Int)+1):=fun v1151=>f15n16L_eq ba1 bb2 bc3 bg4 rest f (k+1) v1151 hd' hm (by simpa using hf);rw [f15n16,f15n16L];simp only [decide_eq_true hk,cond_true,Qbv,hx,Option.bind_some,hw,ih]
theorem f15n16_run(ba1:List Qa)(bb2:List Qb)(bc3:List Qc)(bg4 v1151:Int)(hm:bc3.length≤maxLen):f15n16 FUEL ba1 bb2 bc3 bg4 v1151 0=f15n16L ba1 bb2 bc3 bg4 bc3 v1151 0:=f15n16L_eq ba1 bb2 bc3 bg4 bc3 FUEL 0 v1151 List.drop_zero hm (Qaw hm)
inductive f15n15O where
 | norm (v1169:Int)
def f15n15E(ba1:List Qa)(bb2:List Qb)(bc3:List Qc)(bg4:Int):f15n15O→Ex×Tr×Hp
 | .norm v1169=>(.norm,mkS [(0,(jL 4 Qa.cells ba1)),(1,(jL 2 Qb.cells bb2)),(2,(jL 3 Qc.cells bc3)),(13,(jI bg4)),(14,(jI v1169))],[])
def f15n15S(ba1:List Qa)(bb2:List Qb)(bc3:List Qc)(bg4:Int):Tr×Hp:=(mkS [(0,(jL 4 Qa.cells ba1)),(1,(jL 2 Qb.cells bb2)),(2,(jL 3 Qc.cells bc3)),(13,(jI bg4)),(14,(jI 0))],[])
noncomputable def f15n15(ba1:List Qa)(bb2:List Qb)(bc3:List Qc)(bg4:Int):Option f15n15O :=
 (f15n16 FUEL ba1 bb2 bc3 bg4 0 0).bind fun o1166=>match o1166 with
 | .exit10 v1168=>some (.norm v1168)
theorem f15n15_ok(ba1:List Qa)(bb2:List Qb)(bc3:List Qc)(bg4:Int){o:f15n15O}(h:f15n15 ba1 bb2 bc3 bg4=some o):T Try.prog Try.f15.ntmps 0 (cL (Qi 1 (cL (cL (Qi 1 (cL (cL (Qi 1 (cL (Qi 0 (Qi 1 (Qi 1 c15)))))))))))) (f15n15S ba1 bb2 bc3 bg4) (·=f15n15E ba1 bb2 bc3 bg4 o):=by
 unfold f15n15 at h;refine rN Qg 1 [j3] [] [] [] [0,1,2,13,14,15] (f15n16S ba1 bb2 bc3 bg4 0 0) an ?_;obtain ⟨o1166,h1167,h⟩:=Qd h;cases o1166 with
 | exit10 v1168 =>
  obtain rfl:=Qe h;exact T.last' (T.bl (i:=10) (by kernel_rfl) (by kernel_rfl) (f15n16_ok FUEL ba1 bb2 bc3 bg4 0 0 h1167)) (tds:=[]) (m:=[]) (keep:=[0,1,2,13,14]) (st2:=(f15n15E ba1 bb2 bc3 bg4 (.norm v1168)).2) (by kernel_rfl) an rfl
inductive f15n14O where
 | norm
 | ret
def f15n14E(ba1:List Qa)(bb2:List Qb)(bc3:List Qc)(bg4:Int):f15n14O→Ex×Tr×Hp
 | .norm=>(.norm,mkS [(0,(jL 4 Qa.cells ba1)),(1,(jL 2 Qb.cells bb2)),(2,(jL 3 Qc.cells bc3)),(13,(jI bg4))],[])
 | .ret=>(.ret,mkS [(6,(jB false))],[])
def f15n14S(ba1:List Qa)(bb2:List Qb)(bc3:List Qc)(bg4:Int):Tr×Hp:=(mkS [(0,(jL 4 Qa.cells ba1)),(1,(jL 2 Qb.cells bb2)),(2,(jL 3 Qc.cells bc3)),(13,(jI bg4))],[])
noncomputable def f15n14(ba1:List Qa)(bb2:List Qb)(bc3:List Qc)(bg4:Int):Option f15n14O :=
 (f15n15 ba1 bb2 bc3 bg4).bind fun o1170=>match o1170 with
 | .norm v1172=>(at? ba1 bg4).bind fun x1175 =>
  bif decide (x1175.Amount<v1172) then
   some .ret
  else
   some .norm
theorem f15n14_ok(ba1:List Qa)(bb2:List Qb)(bc3:List Qc)(bg4:Int){o:f15n14O}(h:f15n14 ba1 bb2 bc3 bg4=some o):T Try.prog Try.f15.ntmps 0 (cL (Qi 1 (cL (cL (Qi 1 (cL (Qi 0 (Qi 1 (Qi 1 c15))))))))) (f15n14S ba1 bb2 bc3 bg4) (·=f15n14E ba1 bb2 bc3 bg4 o):=by
 unfold f15n14 at h;refine T.block' (i:=9) (by kernel_rfl) ?_;refine rN Qg 1 [j3] [] [] [] [0,1,2,13,14] (f15n15S ba1 bb2 bc3 bg4) an ?_;obtain ⟨o1170,h1171,h⟩:=Qd h;cases o1170 with
 | norm v1172 =>
  refine T.oneN (by kernel_rfl) (f15n15_ok ba1 bb2 bc3 bg4 h1171) (st2:=(f15n15E ba1 bb2 bc3 bg4 (.norm v1172)).2) rfl ?_;obtain ⟨x1175,h1176,h⟩:=Qd h;rcases Qh h with ⟨h1178,h⟩|⟨h1178,h⟩
  ·obtain rfl:=Qe h;exact rE Qg [([],[(3,.idx (Int.toNat bg4) (Qa.cells x1175))],[]),j3] [some true] [] [] [6] (.ret,(f15n14E ba1 bb2 bc3 bg4 .ret).2) (ap (Qf h1176).1 (ap (Qj Qa.cells (Qf h1176).2) (ap h1178 an))) rfl
  ·obtain rfl:=Qe h;exact rE Qg [([],[(3,.idx (Int.toNat bg4) (Qa.cells x1175))],[])] [some false] [] [] [0,1,2,13] (.norm,(f15n14E ba1 bb2 bc3 bg4 .norm).2) (ap (Qf h1176).1 (ap (Qj Qa.cells (Qf h1176).2) (ap h1178 an))) rfl
inductive f15n17O where
 | exit8
 | ret
def f15n17E(ba1:List Qa)(bb2:List Qb)(bc3:List Qc):f15n17O→Ex×Tr×Hp
 | .exit8=>((.exit 8),mkS [(1,(jL 2 Qb.cells bb2)),(2,(jL 3 Qc.cells bc3))],[])
 | .ret=>(.ret,mkS [(6,(jB false))],[])
def f15n17S(ba1:List Qa)(bb2:List Qb)(bc3:List Qc)(v1122:Int):Tr×Hp:=(mkS [(0,(jL 4 Qa.cells ba1)),(1,(jL 2 Qb.cells bb2)),(2,(jL 3 Qc.cells bc3)),(13,(jI v1122))],[])
noncomputable def f15n17:Nat→List Qa→List Qb→List Qc→Int→Option f15n17O
 | 0,_,_,_,_=>none
 | f+1,ba1,bb2,bc3,v1122 =>
  bif decide (v1122<(ba1.length:Int)) then
   (f15n14 ba1 bb2 bc3 v1122).bind fun o1179=>match o1179 with
   | .norm=>(f15n17 f ba1 bb2 bc3 (wr64 (v1122+1)))
   | .ret=>some .ret
  else
   some .exit8
theorem f15n17_ok:∀(f:Nat)(ba1:List Qa)(bb2:List Qb)(bc3:List Qc)(v1122:Int){o:f15n17O},f15n17 f ba1 bb2 bc3 v1122=some o→TL Try.prog Try.f15.ntmps 0 f (cL (cL (Qi 1 (cL (Qi 0 (Qi 1 (Qi 1 c15))))))) (f15n17S ba1 bb2 bc3 v1122) (·=f15n17E ba1 bb2 bc3 o)
 | 0,_,_,_,_,o,h=>by rw [f15n17] at h; cases h
 | f+1,ba1,bb2,bc3,v1122,o,h=>by
  rw [f15n17] at h;refine TL.body (K:=fun s=>∃v1122:Int,s=(f15n17S ba1 bb2 bc3 v1122)∧f15n17 f ba1 bb2 bc3 v1122=some o) ?_ (by rintro _ ⟨v1122,rfl,hk⟩; exact f15n17_ok f _ _ _ _ hk);rcases Qh h with ⟨h1124,h⟩|⟨h1124,h⟩
  ·refine rN Qg 1 [([],[],[(2,.val (jI (ba1.length:Int)))])] [some true] [] [] [0,1,2,13] (f15n14S ba1 bb2 bc3 v1122) (ap (Qp (xs:=ba1) (c:=Qa.cells)) (ap h1124 an)) ?_;obtain ⟨o1179,h1180,h⟩:=Qd h;cases o1179 with
   | norm =>
    refine T.oneN (by kernel_rfl) (f15n14_ok ba1 bb2 bc3 v1122 h1180) (st2:=(f15n14E ba1 bb2 bc3 v1122 .norm).2) rfl ?_;exact rE Qg [j3] [] [] [] [0,1,2,13] (.norm,(f15n17S ba1 bb2 bc3 (wr64 (v1122+1)))) an (Qm.norm ⟨(wr64 (v1122+1)),rfl,h⟩)
   | ret =>
    obtain rfl:=Qe h;exact T.oneX' (by kernel_rfl) (f15n14_ok ba1 bb2 bc3 v1122 h1180) (tds:=[]) (m:=[]) (keep:=[6]) (st2:=(f15n17E ba1 bb2 bc3 .ret).2) (by kernel_rfl) an rfl (Qm.out rfl rfl)
  ·obtain rfl:=Qe h;exact rK Qg 1 [([],[],[(2,.val (jI (ba1.length:Int)))])] [some false] [] [] [1,2] (.exit 8) ((f15n17E ba1 bb2 bc3 .exit8).2) (ap (Qp (xs:=ba1) (c:=Qa.cells)) (ap h1124 an)) (Qm.out rfl rfl)
inductive f15n13O where
 | norm
 | ret
def f15n13E(ba1:List Qa)(bb2:List Qb)(bc3:List Qc):f15n13O→Ex×Tr×Hp
 | .norm=>(.norm,mkS [(1,(jL 2 Qb.cells bb2)),(2,(jL 3 Qc.cells bc3))],[])
 | .ret=>(.ret,mkS [(6,(jB false))],[])
def f15n13S(ba1:List Qa)(bb2:List Qb)(bc3:List Qc):Tr×Hp:=(mkS [(0,(jL 4 Qa.cells ba1)),(1,(jL 2 Qb.cells bb2)),(2,(jL 3 Qc.cells bc3))],[])
noncomputable def f15n13(ba1:List Qa)(bb2:List Qb)(bc3:List Qc):Option f15n13O :=
 (f15n17 FUEL ba1 bb2 bc3 0).bind fun o1181=>match o1181 with
 | .exit8=>some .norm
 | .ret=>some .ret
theorem f15n13_ok(ba1:List Qa)(bb2:List Qb)(bc3:List Qc){o:f15n13O}(h:f15n13 ba1 bb2 bc3=some o):T Try.prog Try.f15.ntmps 0 (cL (Qi 0 (Qi 1 (Qi 1 c15)))) (f15n13S ba1 bb2 bc3) (·=f15n13E ba1 bb2 bc3 o):=by
 unfold f15n13 at h;refine rN Qg 1 [j3] [] [] [] [0,1,2,13] (f15n17S ba1 bb2 bc3 0) an ?_;obtain ⟨o1181,h1182,h⟩:=Qd h;cases o1181 with
 | exit8 =>
  obtain rfl:=Qe h;exact T.last' (T.bl (i:=8) (by kernel_rfl) (by kernel_rfl) (f15n17_ok FUEL ba1 bb2 bc3 0 h1182)) (tds:=[]) (m:=[]) (keep:=[1,2]) (st2:=(f15n13E ba1 bb2 bc3 .norm).2) (by kernel_rfl) an rfl
 | ret =>
  obtain rfl:=Qe h;exact T.last' (T.bl (i:=8) (by kernel_rfl) (by kernel_rfl) (f15n17_ok FUEL ba1 bb2 bc3 0 h1182)) (tds:=[]) (m:=[]) (keep:=[6]) (st2:=(f15n13E ba1 bb2 bc3 .ret).2) (by kernel_rfl) an rfl
inductive f15n21O where
 | exit14 (v1345:Int)
def f15n21E(bb1:List Qb)(bc2:List Qc)(bg3:Int):f15n21O→Ex×Tr×Hp
 | .exit14 v1345=>((.exit 14),mkS [(1,(jL 2 Qb.cells bb1)),(2,(jL 3 Qc.cells bc2)),(16,(jI bg3)),(17,(jI v1345))],[])
def f15n21S(bb1:List Qb)(bc2:List Qc)(bg3 v1331 v1332:Int):Tr×Hp:=(mkS [(1,(jL 2 Qb.cells bb1)),(2,(jL 3 Qc.cells bc2)),(16,(jI bg3)),(17,(jI v1331)),(18,(jI v1332))],[])
noncomputable def f15n21:Nat→List Qb→List Qc→Int→Int→Int→Option f15n21O
 | 0,_,_,_,_,_=>none
 | f+1,bb1,bc2,bg3,v1331,v1332 =>
  bif decide (v1332<(bc2.length:Int)) then
   (at? bc2 v1332).bind fun x1340 =>
   (at? bb1 bg3).bind fun x1342 =>
   bif (seq x1340.Call x1342.Name) then
    (f15n21 f bb1 bc2 bg3 (wr64 (v1331+x1340.Amount)) (wr64 (v1332+1)))
   else
    (f15n21 f bb1 bc2 bg3 v1331 (wr64 (v1332+1)))
  else
   some (.exit14 v1331)
theorem f15n21_ok:∀(f:Nat)(bb1:List Qb)(bc2:List Qc)(bg3 v1331 v1332:Int){o:f15n21O},f15n21 f bb1 bc2 bg3 v1331 v1332=some o→TL Try.prog Try.f15.ntmps 0 f (cL (cL (Qi 1 (cL (Qi 1 (cL (cL (Qi 1 (cL (cL (Qi 1 (cL (Qi 0 (Qi 1 (Qi 0 (Qi 1 (Qi 1 c15))))))))))))))))) (f15n21S bb1 bc2 bg3 v1331 v1332) (·=f15n21E bb1 bc2 bg3 o)
 | 0,_,_,_,_,_,o,h=>by rw [f15n21] at h; cases h
 | f+1,bb1,bc2,bg3,v1331,v1332,o,h=>by
  rw [f15n21] at h;refine TL.body (K:=fun s=>∃v1331:Int,∃v1332:Int,s=(f15n21S bb1 bc2 bg3 v1331 v1332)∧f15n21 f bb1 bc2 bg3 v1331 v1332=some o) ?_ (by rintro _ ⟨v1331,v1332,rfl,hk⟩; exact f15n21_ok f _ _ _ _ _ hk);rcases Qh h with ⟨h1334,h⟩|⟨h1334,h⟩
  ·obtain ⟨x1340,h1341,h⟩:=Qd h;obtain ⟨x1342,h1343,h⟩:=Qd h;rcases Qh h with ⟨h1344,h⟩|⟨h1344,h⟩
   ·exact rE Qg [([],[],[(2,.val (jI (bc2.length:Int)))]),([],[(2,.idx (Int.toNat v1332) (Qc.cells x1340)),(7,.idx (Int.toNat bg3) (Qb.cells x1342))],[]),([],[(3,.idx (Int.toNat v1332) (Qc.cells x1340))],[]),j3] [some true,some true] [] [] [1,2,16,17,18] (.norm,(f15n21S bb1 bc2 bg3 (wr64 (v1331+x1340.Amount)) (wr64 (v1332+1)))) (ap (Qp (xs:=bc2) (c:=Qc.cells)) (ap h1334 (ap (Qf h1341).1 (ap (Qj Qc.cells (Qf h1341).2) (ap (Qf h1343).1 (ap (Qj Qb.cells (Qf h1343).2) (ap h1344 (ap (Qf h1341).1 (ap (Qj Qc.cells (Qf h1341).2) an))))))))) (Qm.norm ⟨(wr64 (v1331+x1340.Amount)),(wr64 (v1332+1)),rfl,h⟩)
   ·exact rE Qg [([],[],[(2,.val (jI (bc2.length:Int)))]),([],[(2,.idx (Int.toNat v1332) (Qc.cells x1340)),(7,.idx (Int.toNat bg3) (Qb.cells x1342))],[]),j3] [some true,some false] [] [] [1,2,16,17,18] (.norm,(f15n21S bb1 bc2 bg3 v1331 (wr64 (v1332+1)))) (ap (Qp (xs:=bc2) (c:=Qc.cells)) (ap h1334 (ap (Qf h1341).1 (ap (Qj Qc.cells (Qf h1341).2) (ap (Qf h1343).1 (ap (Qj Qb.cells (Qf h1343).2) (ap h1344 an))))))) (Qm.norm ⟨v1331,(wr64 (v1332+1)),rfl,h⟩)
  ·obtain rfl:=Qe h;exact rK Qg 1 [([],[],[(2,.val (jI (bc2.length:Int)))])] [some false] [] [] [1,2,16,17] (.exit 14) ((f15n21E bb1 bc2 bg3 (.exit14 v1331)).2) (ap (Qp (xs:=bc2) (c:=Qc.cells)) (ap h1334 an)) (Qm.out rfl rfl)
noncomputable def f15n21L(bb1:List Qb)(bc2:List Qc)(bg3:Int):List Qc→Int→Int→Option f15n21O
 | [],v1331,v1332 =>
  some (.exit14 v1331)
 | x0::rest,v1331,v1332 =>
  (at? bb1 bg3).bind fun x1342 =>
  bif (seq x0.Call x1342.Name) then
   (f15n21L bb1 bc2 bg3 rest (wr64 (v1331+x0.Amount)) (v1332+1))
  else
   (f15n21L bb1 bc2 bg3 rest v1331 (v1332+1))
theorem f15n21L_eq(bb1:List Qb)(bc2:List Qc)(bg3:Int):∀(rest:List Qc)(f k:Nat)(v1331:Int),bc2.drop k=rest→bc2.length≤maxLen→rest.length<f→f15n21 f bb1 bc2 bg3 v1331 (k:Int)=f15n21L bb1 bc2 bg3 rest v1331 (k:Int)
 | _,0,_,_,_,_,hf=>absurd hf (Nat.not_lt_zero _)
 | [],f+1,k,v1331,hd,hm,hf=>by
  have hk:¬((k:Int)<(bc2.length:Int)):=by have:=Qai hd; omega
  rw [f15n21,f15n21L];simp only [decide_eq_false hk,cond_false]
 | x0::rest,f+1,k,v1331,hd,hm,hf=>by
  obtain ⟨hx,hlt,hd'⟩:=Qaj hd;have hk:(k:Int)<(bc2.length:Int):=by omega
  have hw:wr64 ((k:Int)+1)=(k:Int)+1:=Qbk (by omega) (by unfold maxLen at hm; omega);have ih:∀(v1331:Int),f15n21 f bb1 bc2 bg3 v1331 ((k:Int)+1)=f15n21L bb1 bc2 bg3 rest v1331 ((k:Int)+1):=fun v1331=>f15n21L_eq bb1 bc2 bg3 rest f (k+1) v1331 hd' hm (by simpa using hf);rw [f15n21,f15n21L];simp only [decide_eq_true hk,cond_true,Qbv,hx,Option.bind_some,hw,ih]
theorem f15n21_run(bb1:List Qb)(bc2:List Qc)(bg3 v1331:Int)(hm:bc2.length≤maxLen):f15n21 FUEL bb1 bc2 bg3 v1331 0=f15n21L bb1 bc2 bg3 bc2 v1331 0:=f15n21L_eq bb1 bc2 bg3 bc2 FUEL 0 v1331 List.drop_zero hm (Qaw hm)
inductive f15n20O where
 | norm (v1349:Int)
def f15n20E(bb1:List Qb)(bc2:List Qc)(bg3:Int):f15n20O→Ex×Tr×Hp
 | .norm v1349=>(.norm,mkS [(1,(jL 2 Qb.cells bb1)),(2,(jL 3 Qc.cells bc2)),(16,(jI bg3)),(17,(jI v1349))],[])
def f15n20S(bb1:List Qb)(bc2:List Qc)(bg3:Int):Tr×Hp:=(mkS [(1,(jL 2 Qb.cells bb1)),(2,(jL 3 Qc.cells bc2)),(16,(jI bg3)),(17,(jI 0))],[])
noncomputable def f15n20(bb1:List Qb)(bc2:List Qc)(bg3:Int):Option f15n20O :=
 (f15n21 FUEL bb1 bc2 bg3 0 0).bind fun o1346=>match o1346 with
 | .exit14 v1348=>some (.norm v1348)
theorem f15n20_ok(bb1:List Qb)(bc2:List Qc)(bg3:Int){o:f15n20O}(h:f15n20 bb1 bc2 bg3=some o):T Try.prog Try.f15.ntmps 0 (cL (Qi 1 (cL (cL (Qi 1 (cL (cL (Qi 1 (cL (Qi 0 (Qi 1 (Qi 0 (Qi 1 (Qi 1 c15)))))))))))))) (f15n20S bb1 bc2 bg3) (·=f15n20E bb1 bc2 bg3 o):=by
 unfold f15n20 at h;refine rN Qg 1 [j3] [] [] [] [1,2,16,17,18] (f15n21S bb1 bc2 bg3 0 0) an ?_;obtain ⟨o1346,h1347,h⟩:=Qd h;cases o1346 with
 | exit14 v1348 =>
  obtain rfl:=Qe h;exact T.last' (T.bl (i:=14) (by kernel_rfl) (by kernel_rfl) (f15n21_ok FUEL bb1 bc2 bg3 0 0 h1347)) (tds:=[]) (m:=[]) (keep:=[1,2,16,17]) (st2:=(f15n20E bb1 bc2 bg3 (.norm v1348)).2) (by kernel_rfl) an rfl
inductive f15n19O where
 | norm
 | ret
def f15n19E(bb1:List Qb)(bc2:List Qc)(bg3:Int):f15n19O→Ex×Tr×Hp
 | .norm=>(.norm,mkS [(1,(jL 2 Qb.cells bb1)),(2,(jL 3 Qc.cells bc2)),(16,(jI bg3))],[])
 | .ret=>(.ret,mkS [(6,(jB false))],[])
def f15n19S(bb1:List Qb)(bc2:List Qc)(bg3:Int):Tr×Hp:=(mkS [(1,(jL 2 Qb.cells bb1)),(2,(jL 3 Qc.cells bc2)),(16,(jI bg3))],[])
noncomputable def f15n19(bb1:List Qb)(bc2:List Qc)(bg3:Int):Option f15n19O :=
 (f15n20 bb1 bc2 bg3).bind fun o1350=>match o1350 with
 | .norm v1352=>(at? bb1 bg3).bind fun x1355 =>
  bif decide (v1352=x1355.Need) then
   some .norm
  else
   some .ret
theorem f15n19_ok(bb1:List Qb)(bc2:List Qc)(bg3:Int){o:f15n19O}(h:f15n19 bb1 bc2 bg3=some o):T Try.prog Try.f15.ntmps 0 (cL (Qi 1 (cL (cL (Qi 1 (cL (Qi 0 (Qi 1 (Qi 0 (Qi 1 (Qi 1 c15))))))))))) (f15n19S bb1 bc2 bg3) (·=f15n19E bb1 bc2 bg3 o):=by
 unfold f15n19 at h;refine T.block' (i:=13) (by kernel_rfl) ?_;refine rN Qg 1 [j3] [] [] [] [1,2,16,17] (f15n20S bb1 bc2 bg3) an ?_;obtain ⟨o1350,h1351,h⟩:=Qd h;cases o1350 with
 | norm v1352 =>
  refine T.oneN (by kernel_rfl) (f15n20_ok bb1 bc2 bg3 h1351) (st2:=(f15n20E bb1 bc2 bg3 (.norm v1352)).2) rfl ?_;obtain ⟨x1355,h1356,h⟩:=Qd h;rcases Qh h with ⟨h1358,h⟩|⟨h1358,h⟩
  ·obtain rfl:=Qe h;exact rE Qg [([],[(3,.idx (Int.toNat bg3) (Qb.cells x1355))],[])] [some false] [] [] [1,2,16] (.norm,(f15n19E bb1 bc2 bg3 .norm).2) (ap (Qf h1356).1 (ap (Qj Qb.cells (Qf h1356).2) (ap (Qv h1358) an))) rfl
  ·obtain rfl:=Qe h;exact rE Qg [([],[(3,.idx (Int.toNat bg3) (Qb.cells x1355))],[]),j3] [some true] [] [] [6] (.ret,(f15n19E bb1 bc2 bg3 .ret).2) (ap (Qf h1356).1 (ap (Qj Qb.cells (Qf h1356).2) (ap (Qak h1358) an))) rfl
inductive f15n22O where
 | exit12
 | ret
def f15n22E(bb1:List Qb)(bc2:List Qc):f15n22O→Ex×Tr×Hp
 | .exit12=>((.exit 12),mkS [(2,(jL 3 Qc.cells bc2))],[])
 | .ret=>(.ret,mkS [(6,(jB false))],[])
def f15n22S(bb1:List Qb)(bc2:List Qc)(v1302:Int):Tr×Hp:=(mkS [(1,(jL 2 Qb.cells bb1)),(2,(jL 3 Qc.cells bc2)),(16,(jI v1302))],[])
noncomputable def f15n22:Nat→List Qb→List Qc→Int→Option f15n22O
 | 0,_,_,_=>none
 | f+1,bb1,bc2,v1302 =>
  bif decide (v1302<(bb1.length:Int)) then
   (f15n19 bb1 bc2 v1302).bind fun o1359=>match o1359 with
   | .norm=>(f15n22 f bb1 bc2 (wr64 (v1302+1)))
   | .ret=>some .ret
  else
   some .exit12
theorem f15n22_ok:∀(f:Nat)(bb1:List Qb)(bc2:List Qc)(v1302:Int){o:f15n22O},f15n22 f bb1 bc2 v1302=some o→TL Try.prog Try.f15.ntmps 0 f (cL (cL (Qi 1 (cL (Qi 0 (Qi 1 (Qi 0 (Qi 1 (Qi 1 c15))))))))) (f15n22S bb1 bc2 v1302) (·=f15n22E bb1 bc2 o)
 | 0,_,_,_,o,h=>by rw [f15n22] at h; cases h
 | f+1,bb1,bc2,v1302,o,h=>by
  rw [f15n22] at h;refine TL.body (K:=fun s=>∃v1302:Int,s=(f15n22S bb1 bc2 v1302)∧f15n22 f bb1 bc2 v1302=some o) ?_ (by rintro _ ⟨v1302,rfl,hk⟩; exact f15n22_ok f _ _ _ hk);rcases Qh h with ⟨h1304,h⟩|⟨h1304,h⟩
  ·refine rN Qg 1 [([],[],[(2,.val (jI (bb1.length:Int)))])] [some true] [] [] [1,2,16] (f15n19S bb1 bc2 v1302) (ap (Qp (xs:=bb1) (c:=Qb.cells)) (ap h1304 an)) ?_;obtain ⟨o1359,h1360,h⟩:=Qd h;cases o1359 with
   | norm =>
    refine T.oneN (by kernel_rfl) (f15n19_ok bb1 bc2 v1302 h1360) (st2:=(f15n19E bb1 bc2 v1302 .norm).2) rfl ?_;exact rE Qg [j3] [] [] [] [1,2,16] (.norm,(f15n22S bb1 bc2 (wr64 (v1302+1)))) an (Qm.norm ⟨(wr64 (v1302+1)),rfl,h⟩)
   | ret =>
    obtain rfl:=Qe h;exact T.oneX' (by kernel_rfl) (f15n19_ok bb1 bc2 v1302 h1360) (tds:=[]) (m:=[]) (keep:=[6]) (st2:=(f15n22E bb1 bc2 .ret).2) (by kernel_rfl) an rfl (Qm.out rfl rfl)
  ·obtain rfl:=Qe h;exact rK Qg 1 [([],[],[(2,.val (jI (bb1.length:Int)))])] [some false] [] [] [2] (.exit 12) ((f15n22E bb1 bc2 .exit12).2) (ap (Qp (xs:=bb1) (c:=Qb.cells)) (ap h1304 an)) (Qm.out rfl rfl)
inductive f15n18O where
 | norm
 | ret
def f15n18E(bb1:List Qb)(bc2:List Qc):f15n18O→Ex×Tr×Hp
 | .norm=>(.norm,mkS [(2,(jL 3 Qc.cells bc2))],[])
 | .ret=>(.ret,mkS [(6,(jB false))],[])
def f15n18S(bb1:List Qb)(bc2:List Qc):Tr×Hp:=(mkS [(1,(jL 2 Qb.cells bb1)),(2,(jL 3 Qc.cells bc2))],[])
noncomputable def f15n18(bb1:List Qb)(bc2:List Qc):Option f15n18O :=
 (f15n22 FUEL bb1 bc2 0).bind fun o1361=>match o1361 with
 | .exit12=>some .norm
 | .ret=>some .ret
theorem f15n18_ok(bb1:List Qb)(bc2:List Qc){o:f15n18O}(h:f15n18 bb1 bc2=some o):T Try.prog Try.f15.ntmps 0 (cL (Qi 0 (Qi 1 (Qi 0 (Qi 1 (Qi 1 c15)))))) (f15n18S bb1 bc2) (·=f15n18E bb1 bc2 o):=by
 unfold f15n18 at h;refine rN Qg 1 [j3] [] [] [] [1,2,16] (f15n22S bb1 bc2 0) an ?_;obtain ⟨o1361,h1362,h⟩:=Qd h;cases o1361 with
 | exit12 =>
  obtain rfl:=Qe h;exact T.last' (T.bl (i:=12) (by kernel_rfl) (by kernel_rfl) (f15n22_ok FUEL bb1 bc2 0 h1362)) (tds:=[]) (m:=[]) (keep:=[2]) (st2:=(f15n18E bb1 bc2 .norm).2) (by kernel_rfl) an rfl
 | ret =>
  obtain rfl:=Qe h;exact T.last' (T.bl (i:=12) (by kernel_rfl) (by kernel_rfl) (f15n22_ok FUEL bb1 bc2 0 h1362)) (tds:=[]) (m:=[]) (keep:=[6]) (st2:=(f15n18E bb1 bc2 .ret).2) (by kernel_rfl) an rfl
inductive f15n0O where
 | ret (v1365:Bool)
def f15n0E(a1:List Qa)(a2:List Qb)(a3:List Qc):f15n0O→Ex×Tr×Hp
 | .ret v1365=>(.ret,mkS [(6,(jB v1365))],[])
def f15n0S(a1:List Qa)(a2:List Qb)(a3:List Qc):Tr×Hp:=(Qal [(jL 4 Qa.cells a1),(jL 2 Qb.cells a2),(jL 3 Qc.cells a3)] 0 .leaf,[])
noncomputable def f15n0(a1:List Qa)(a2:List Qb)(a3:List Qc):Option f15n0O :=
 (f15n1 a1 a2 a3).bind fun o1003=>match o1003 with
 | .norm=>(f15n13 a1 a2 a3).bind fun o1183=>match o1183 with
  | .norm=>(f15n18 a2 a3).bind fun o1363=>match o1363 with
   | .norm=>some (.ret (decide ((a3.length:Int)≤80)))
   | .ret=>some (.ret false)
  | .ret=>some (.ret false)
 | .ret=>some (.ret false)
theorem f15n0_ok(a1:List Qa)(a2:List Qb)(a3:List Qc){o:f15n0O}(h:f15n0 a1 a2 a3=some o):T Try.prog Try.f15.ntmps 0 c15 (f15n0S a1 a2 a3) (·=f15n0E a1 a2 a3 o):=by
 unfold f15n0 at h;refine rN Qg 1 [j3] [] [] [] [0,1,2] (f15n1S a1 a2 a3) an ?_;obtain ⟨o1003,h1004,h⟩:=Qd h;cases o1003 with
 | norm =>
  refine T.oneN (by kernel_rfl) (f15n1_ok a1 a2 a3 h1004) (st2:=(f15n1E a1 a2 a3 .norm).2) rfl ?_;refine rN Qg 0 [] [] [] [] [0,1,2] (f15n13S a1 a2 a3) an ?_;obtain ⟨o1183,h1184,h⟩:=Qd h;cases o1183 with
  | norm =>
   refine T.oneN (by kernel_rfl) (f15n13_ok a1 a2 a3 h1184) (st2:=(f15n13E a1 a2 a3 .norm).2) rfl ?_;refine rN Qg 0 [] [] [] [] [1,2] (f15n18S a2 a3) an ?_;obtain ⟨o1363,h1364,h⟩:=Qd h;cases o1363 with
   | norm =>
    refine T.oneN (by kernel_rfl) (f15n18_ok a2 a3 h1364) (st2:=(f15n18E a2 a3 .norm).2) rfl ?_;obtain rfl:=Qe h;exact rE Qg [([],[],[(1,.val (jI (a3.length:Int)))])] [] [] [] [6] (.ret,(f15n0E a1 a2 a3 (.ret (decide ((a3.length:Int)≤80)))).2) (ap (Qp (xs:=a3) (c:=Qc.cells)) an) rfl
   | ret =>
    obtain rfl:=Qe h;exact T.oneX' (by kernel_rfl) (f15n18_ok a2 a3 h1364) (tds:=[]) (m:=[]) (keep:=[6]) (st2:=(f15n0E a1 a2 a3 (.ret false)).2) (by kernel_rfl) an rfl rfl
  | ret =>
   obtain rfl:=Qe h;exact T.oneX' (by kernel_rfl) (f15n13_ok a1 a2 a3 h1184) (tds:=[]) (m:=[]) (keep:=[6]) (st2:=(f15n0E a1 a2 a3 (.ret false)).2) (by kernel_rfl) an rfl rfl
 | ret =>
  obtain rfl:=Qe h;exact T.oneX' (by kernel_rfl) (f15n1_ok a1 a2 a3 h1004) (tds:=[]) (m:=[]) (keep:=[6]) (st2:=(f15n0E a1 a2 a3 (.ret false)).2) (by kernel_rfl) an rfl rfl
noncomputable def f15(a1:List Qa)(a2:List Qb)(a3:List Qc):Option Bool:=(f15n0 a1 a2 a3).bind fun o=>match o with
 | .ret v1365=>some v1365
theorem f15_ok(a1:List Qa)(a2:List Qb)(a3:List Qc){r:Bool}(h:f15 a1 a2 a3=some r):Qn Try.prog false 15 [(jL 4 Qa.cells a1),(jL 2 Qb.cells a2),(jL 3 Qc.cells a3)] [] (jB r) []:=by
 unfold f15 at h;obtain ⟨o,ho,h⟩:=Qd h;cases o with
 | ret v1365 =>
  obtain rfl:=Qe h;exact Qn.plain Qg (f:=Try.f15) (c:=c15) (by kernel_rfl) (by kernel_rfl) (by kernel_rfl) (by kernel_rfl) ((f15n0_ok a1 a2 a3 ho).mono fun r e=>by subst e; exact ⟨.inl rfl,(jB v1365),(jB v1365),by kernel_rfl,by kernel_rfl,((Wk.refl _):Wk (jB v1365) (jB v1365))⟩)
end Go.Proofs.Ytinabbgjignkbaa
namespace Go.Proofs.Ytinabbgjignkbaa
set_option linter.unusedVariables false
set_option linter.unusedSimpArgs false
set_option maxRecDepth 100000
open Go.RowKit
noncomputable def c31:Code:=Try.f31.body.getD .skip
inductive f31n2O where
 | exit0
 | ret
def f31n2E(bc1:List Qc):f31n2O→Ex×Tr×Hp
 | .exit0=>((.exit 0),mkS [],[])
 | .ret=>(.ret,mkS [(2,(jB false))],[])
def f31n2S(bc1:List Qc)(v41:Int):Tr×Hp:=(mkS [(0,(jL 3 Qc.cells bc1)),(8,(jL 3 Qc.cells bc1)),(9,(jI (bc1.length:Int))),(10,(jI v41))],[])
noncomputable def f31n2:Nat→List Qc→Int→Option f31n2O
 | 0,_,_=>none
 | f+1,bc1,v41 =>
  bif decide (v41<(bc1.length:Int)) then
   (at? bc1 v41).bind fun x55 =>
   (f29 x55.Amount 1 68719476736).bind fun x57 =>
   bif x57 then
    bif decide (0<v41) then
     (at? bc1 (wr64 (v41-1))).bind fun x61 =>
     (f27 x61 x55).bind fun x63 =>
     bif decide (0≤x63) then
      some .ret
     else
      (f31n2 f bc1 (wr64 (v41+1)))
    else
     (f31n2 f bc1 (wr64 (v41+1)))
   else
    some .ret
  else
   some .exit0
theorem f31n2_ok:∀(f:Nat)(bc1:List Qc)(v41:Int){o:f31n2O},f31n2 f bc1 v41=some o→TL Try.prog Try.f31.ntmps 0 f (cL (cL (Qi 1 (cL (Qi 2 c31))))) (f31n2S bc1 v41) (·=f31n2E bc1 o)
 | 0,_,_,o,h=>by rw [f31n2] at h; cases h
 | f+1,bc1,v41,o,h=>by
  rw [f31n2] at h;refine TL.body (K:=fun s=>∃v41:Int,s=(f31n2S bc1 v41)∧f31n2 f bc1 v41=some o) ?_ (by rintro _ ⟨v41,rfl,hk⟩; exact f31n2_ok f _ _ hk);rcases Qh h with ⟨h43,h⟩|⟨h43,h⟩
  ·obtain ⟨x55,h56,h⟩:=Qd h;obtain ⟨x57,h58,h⟩:=Qd h;rcases Qh h with ⟨h59,h⟩|⟨h59,h⟩
   ·rcases Qh h with ⟨h60,h⟩|⟨h60,h⟩
    ·obtain ⟨x61,h62,h⟩:=Qd h;obtain ⟨x63,h64,h⟩:=Qd h;rcases Qh h with ⟨h65,h⟩|⟨h65,h⟩
     ·obtain rfl:=Qe h;exact rK Qg 3 [j3,([],[(1,.idx (Int.toNat v41) (Qc.cells x55))],[]),(jF [5,6,7,16]++jT [8,9,10,11,12,13,14,15],[jH 2 (jB x57),(11,.idx (Int.toNat (wr64 (v41-1))) (Qc.cells x61)),jH 14 (jI x63),(16,.bool true),(17,.bool false)],[]),j3] [some true,some true] [] [] [2] .ret ((f31n2E bc1 .ret).2) (ap h43 (ap (Qf h56).1 (ap (Qj Qc.cells (Qf h56).2) (ap3 (Qv h59) (ap4 h60 (ap (Qf h62).1 (ap (Qj Qc.cells (Qf h62).2) (ap4 h60 (ap (Qv h59) (ap h60 (ap (Qv h59) (ap (f29_ok x55.Amount 1 68719476736 h58) (ap (f27_ok x61 x55 h64) (ap h65 an)))))))))))))) (Qm.out rfl rfl)
     ·exact rE Qg [j3,([],[(1,.idx (Int.toNat v41) (Qc.cells x55))],[]),(jF [5,6,7,16]++jT [8,9,10,11,12,13,14,15],[jH 2 (jB x57),(11,.idx (Int.toNat (wr64 (v41-1))) (Qc.cells x61)),jH 14 (jI x63),(16,.bool true),(17,.bool false)],[]),j3] [some true,some false] [] [] [0,8,9,10] (.norm,(f31n2S bc1 (wr64 (v41+1)))) (ap h43 (ap (Qf h56).1 (ap (Qj Qc.cells (Qf h56).2) (ap3 (Qv h59) (ap4 h60 (ap (Qf h62).1 (ap (Qj Qc.cells (Qf h62).2) (ap4 h60 (ap (Qv h59) (ap h60 (ap (Qv h59) (ap (f29_ok x55.Amount 1 68719476736 h58) (ap (f27_ok x61 x55 h64) (ap h65 an)))))))))))))) (Qm.norm ⟨(wr64 (v41+1)),rfl,h⟩)
    ·exact rE Qg [j3,([],[(1,.idx (Int.toNat v41) (Qc.cells x55))],[]),(jF [5,6,7,8,9,10,11,12,13,14,15,16],[jH 2 (jB x57),(16,.bool false),(17,.bool false)],[]),j3] [some true,none] [] [] [0,8,9,10] (.norm,(f31n2S bc1 (wr64 (v41+1)))) (ap h43 (ap (Qf h56).1 (ap (Qj Qc.cells (Qf h56).2) (ap3 (Qv h59) (ap4 h60 (ap4 h60 (ap (Qv h59) (ap h60 (ap (Qv h59) (ap (f29_ok x55.Amount 1 68719476736 h58) an)))))))))) (Qm.norm ⟨(wr64 (v41+1)),rfl,h⟩)
   ·obtain rfl:=Qe h;exact rK Qg 3 [j3,([],[(1,.idx (Int.toNat v41) (Qc.cells x55))],[]),(jT [5,6,7,16],[jH 2 (jB x57),(17,.bool true)],[]),j3] [some true,none] [] [] [2] .ret ((f31n2E bc1 .ret).2) (ap h43 (ap (Qf h56).1 (ap (Qj Qc.cells (Qf h56).2) (ap (Qak h59) (ap4 (Qak h59) (ap (f29_ok x55.Amount 1 68719476736 h58) an)))))) (Qm.out rfl rfl)
  ·obtain rfl:=Qe h;exact rK Qg 2 [j3] [some false] [] [] [] (.exit 0) ((f31n2E bc1 .exit0).2) (ap h43 an) (Qm.out rfl rfl)
inductive f31n1O where
 | norm
 | ret
def f31n1E(bc1:List Qc):f31n1O→Ex×Tr×Hp
 | .norm=>(.norm,mkS [],[])
 | .ret=>(.ret,mkS [(2,(jB false))],[])
def f31n1S(bc1:List Qc):Tr×Hp:=(mkS [(0,(jL 3 Qc.cells bc1))],[])
noncomputable def f31n1(bc1:List Qc):Option f31n1O :=
 (f31n2 FUEL bc1 0).bind fun o66=>match o66 with
 | .exit0=>some .norm
 | .ret=>some .ret
theorem f31n1_ok(bc1:List Qc){o:f31n1O}(h:f31n1 bc1=some o):T Try.prog Try.f31.ntmps 0 (cL (Qi 2 c31)) (f31n1S bc1) (·=f31n1E bc1 o):=by
 unfold f31n1 at h;refine rN Qg 1 [([],[],[(1,.val (jI (bc1.length:Int)))])] [] [] [] [0,8,9,10] (f31n2S bc1 0) (ap (Qp (xs:=bc1) (c:=Qc.cells)) an) ?_;obtain ⟨o66,h67,h⟩:=Qd h;cases o66 with
 | exit0 =>
  obtain rfl:=Qe h;exact T.last' (T.bl (i:=0) (by kernel_rfl) (by kernel_rfl) (f31n2_ok FUEL bc1 0 h67)) (tds:=[]) (m:=[]) (keep:=[]) (st2:=(f31n1E bc1 .norm).2) (by kernel_rfl) an rfl
 | ret =>
  obtain rfl:=Qe h;exact T.last' (T.bl (i:=0) (by kernel_rfl) (by kernel_rfl) (f31n2_ok FUEL bc1 0 h67)) (tds:=[]) (m:=[]) (keep:=[2]) (st2:=(f31n1E bc1 .ret).2) (by kernel_rfl) an rfl
inductive f31n0O where
 | ret (v70:Bool)
def f31n0E(a1:List Qc):f31n0O→Ex×Tr×Hp
 | .ret v70=>(.ret,mkS [(2,(jB v70))],[])
def f31n0S(a1:List Qc):Tr×Hp:=(Qal [(jL 3 Qc.cells a1)] 0 .leaf,[])
noncomputable def f31n0(a1:List Qc):Option f31n0O :=
 bif decide (80<(a1.length:Int)) then
  some (.ret false)
 else
  (f31n1 a1).bind fun o68=>match o68 with
  | .norm=>some (.ret true)
  | .ret=>some (.ret false)
theorem f31n0_ok(a1:List Qc){o:f31n0O}(h:f31n0 a1=some o):T Try.prog Try.f31.ntmps 0 c31 (f31n0S a1) (·=f31n0E a1 o):=by
 unfold f31n0 at h;rcases Qh h with ⟨h3,h⟩|⟨h3,h⟩
 ·obtain rfl:=Qe h;exact rK Qg 2 [j3,([],[],[(1,.val (jI (a1.length:Int)))]),j3] [some true] [] [] [2] .ret ((f31n0E a1 (.ret false)).2) (ap (Qp (xs:=a1) (c:=Qc.cells)) (ap h3 an)) rfl
 ·refine rN Qg 2 [j3,([],[],[(1,.val (jI (a1.length:Int)))])] [some false] [] [] [0] (f31n1S a1) (ap (Qp (xs:=a1) (c:=Qc.cells)) (ap h3 an)) ?_;obtain ⟨o68,h69,h⟩:=Qd h;cases o68 with
  | norm =>
   refine T.oneN (by kernel_rfl) (f31n1_ok a1 h69) (st2:=(f31n1E a1 .norm).2) rfl ?_;obtain rfl:=Qe h;exact rE Qg [j3] [] [] [] [2] (.ret,(f31n0E a1 (.ret true)).2) an rfl
  | ret =>
   obtain rfl:=Qe h;exact T.oneX' (by kernel_rfl) (f31n1_ok a1 h69) (tds:=[]) (m:=[]) (keep:=[2]) (st2:=(f31n0E a1 (.ret false)).2) (by kernel_rfl) an rfl rfl
noncomputable def f31(a1:List Qc):Option Bool:=(f31n0 a1).bind fun o=>match o with
 | .ret v70=>some v70
theorem f31_ok(a1:List Qc){r:Bool}(h:f31 a1=some r):Qn Try.prog false 31 [(jL 3 Qc.cells a1)] [] (jB r) []:=by
 unfold f31 at h;obtain ⟨o,ho,h⟩:=Qd h;cases o with
 | ret v70 =>
  obtain rfl:=Qe h;exact Qn.plain Qg (f:=Try.f31) (c:=c31) (by kernel_rfl) (by kernel_rfl) (by kernel_rfl) (by kernel_rfl) ((f31n0_ok a1 ho).mono fun r e=>by subst e; exact ⟨.inl rfl,(jB v70),(jB v70),by kernel_rfl,by kernel_rfl,((Wk.refl _):Wk (jB v70) (jB v70))⟩)

noncomputable def c33:Code:=Try.f33.body.getD .skip
inductive f33r1n0O where
 | ret
def f33r1n0E(a1:Qa)(a2:Qc):f33r1n0O→Ex×Tr×Hp
 | .ret=>(.ret,mkS [(3,(.pl (.bool (seq a1.Name a2.Asset))))],[some (.box 45 ((Qc.cells a2).map .pl))])
def f33r1n0S(a1:Qa)(a2:Qc):Tr×Hp:=(Qal [(jA Qa.cells a1),(.bp 0 0)] 0 .leaf,[some (.box 45 ((Qc.cells a2).map .pl))])
noncomputable def f33r1n0(a1:Qa)(a2:Qc):Option f33r1n0O :=
 some .ret
theorem f33r1n0_ok(a1:Qa)(a2:Qc){o:f33r1n0O}(h:f33r1n0 a1 a2=some o):T Try.prog Try.f33.ntmps 1 c33 (f33r1n0S a1 a2) (·=f33r1n0E a1 a2 o):=by
 unfold f33r1n0 at h;obtain rfl:=Qe h;exact rE Qg [j3,j3] [] [] [] [3] (.ret,(f33r1n0E a1 a2 .ret).2) an rfl
noncomputable def f33r1(a1:Qa)(a2:Qc):Option Unit:=(f33r1n0 a1 a2).bind fun o=>match o with
 | .ret=>some ()
theorem f33r1_ok(a1:Qa)(a2:Qc){r:Unit}(h:f33r1 a1 a2=some r):Qn Try.prog true 33 [(jA Qa.cells a1),(.bp 0 0)] [some (.box 45 ((Qc.cells a2).map .pl))] (.pl (.bool (seq a1.Name a2.Asset))) [some (.box 45 ((Qc.cells a2).map .pl))]:=by
 unfold f33r1 at h;obtain ⟨o,ho,h⟩:=Qd h;cases o with
 | ret =>
  obtain rfl:=Qe h;exact Qn.shared Qg (f:=Try.f33) (c:=c33) (by kernel_rfl) (by kernel_rfl) (by kernel_rfl) ((f33r1n0_ok a1 a2 ho).mono fun r e=>by subst e; exact ⟨.inl rfl,by kernel_rfl,by kernel_rfl⟩)

noncomputable def c32:Code:=Try.f32.body.getD .skip
inductive f32r1n2O where
 | exit0
 | ret (v41:Int)
def f32r1n2E(ba1:List Qa)(bm2:Qc):f32r1n2O→Ex×Tr×Hp
 | .exit0=>((.exit 0),mkS [],[jR 4 Qa.cells ba1,some (.box 45 ((Qc.cells bm2).map .pl))])
 | .ret v41=>(.ret,mkS [(4,(jI v41))],[jR 4 Qa.cells ba1,some (.box 45 ((Qc.cells bm2).map .pl))])
def f32r1n2S(ba1:List Qa)(bm2:Qc)(v28:Int):Tr×Hp:=(mkS [(0,(.own 0)),(1,(.clo 33 [(.bp 1 0)])),(7,(jI (ba1.length:Int))),(8,(jI v28))],[jR 4 Qa.cells ba1,some (.box 45 ((Qc.cells bm2).map .pl))])
noncomputable def f32r1n2:Nat→List Qa→Qc→Int→Option f32r1n2O
 | 0,_,_,_=>none
 | f+1,ba1,bm2,v28 =>
  bif decide (v28<(ba1.length:Int)) then
   (at? ba1 v28).bind fun x36 =>
   (f33r1 x36 bm2).bind fun x38 =>
   bif (seq x36.Name bm2.Asset) then
    some (.ret v28)
   else
    (f32r1n2 f ba1 bm2 (wr64 (v28+1)))
  else
   some .exit0
theorem f32r1n2_ok:∀(f:Nat)(ba1:List Qa)(bm2:Qc)(v28:Int){o:f32r1n2O},f32r1n2 f ba1 bm2 v28=some o→TL Try.prog Try.f32.ntmps 2 f (cL (cL (Qi 1 (cL (Qi 1 c32))))) (f32r1n2S ba1 bm2 v28) (·=f32r1n2E ba1 bm2 o)
 | 0,_,_,_,o,h=>by rw [f32r1n2] at h; cases h
 | f+1,ba1,bm2,v28,o,h=>by
  rw [f32r1n2] at h;refine TL.body (K:=fun s=>∃v28:Int,s=(f32r1n2S ba1 bm2 v28)∧f32r1n2 f ba1 bm2 v28=some o) ?_ (by rintro _ ⟨v28,rfl,hk⟩; exact f32r1n2_ok f _ _ _ hk);rcases Qh h with ⟨h30,h⟩|⟨h30,h⟩
  ·obtain ⟨x36,h37,h⟩:=Qd h;obtain ⟨x38,h39,h⟩:=Qd h;rcases Qh h with ⟨h40,h⟩|⟨h40,h⟩
   ·obtain rfl:=Qe h;exact rK Qg 3 [j3,j3,([],[(3,.at_ (Int.toNat v28)),(4,.idx 0 (Qa.cells x36)),(5,.call (.pl (.bool (seq x36.Name bm2.Asset))) [none,some (.box 45 ((Qc.cells bm2).map .pl))])],[]),j3] [some true,some true] [] [] [4] .ret ((f32r1n2E ba1 bm2 (.ret v28)).2) (ap h30 (ap (Qf h37).1 (ap (Qr Qa.cells (Qf h37).2) (ap (Qj Qa.cells (Qf h37).2) (ap (Qn.rn 2 [1] (f33r1_ok x36 bm2 h39)) (ap h40 an)))))) (Qm.out rfl rfl)
   ·exact rE Qg [j3,j3,([],[(3,.at_ (Int.toNat v28)),(4,.idx 0 (Qa.cells x36)),(5,.call (.pl (.bool (seq x36.Name bm2.Asset))) [none,some (.box 45 ((Qc.cells bm2).map .pl))])],[]),j3] [some true,some false] [] [] [0,1,7,8] (.norm,(f32r1n2S ba1 bm2 (wr64 (v28+1)))) (ap h30 (ap (Qf h37).1 (ap (Qr Qa.cells (Qf h37).2) (ap (Qj Qa.cells (Qf h37).2) (ap (Qn.rn 2 [1] (f33r1_ok x36 bm2 h39)) (ap h40 an)))))) (Qm.norm ⟨(wr64 (v28+1)),rfl,h⟩)
  ·obtain rfl:=Qe h;exact rK Qg 2 [j3] [some false] [] [] [] (.exit 0) ((f32r1n2E ba1 bm2 .exit0).2) (ap h30 an) (Qm.out rfl rfl)
noncomputable def f32r1n2L(ba1:List Qa)(bm2:Qc):List Qa→Int→Option f32r1n2O
 | [],v28 =>
  some .exit0
 | x0::rest,v28 =>
  (f33r1 x0 bm2).bind fun x38 =>
  bif (seq x0.Name bm2.Asset) then
   some (.ret v28)
  else
   (f32r1n2L ba1 bm2 rest (v28+1))
theorem f32r1n2L_eq(ba1:List Qa)(bm2:Qc):∀(rest:List Qa)(f k:Nat),ba1.drop k=rest→ba1.length≤maxLen→rest.length<f→f32r1n2 f ba1 bm2 (k:Int)=f32r1n2L ba1 bm2 rest (k:Int)
 | _,0,_,_,_,hf=>absurd hf (Nat.not_lt_zero _)
 | [],f+1,k,hd,hm,hf=>by
  have hk:¬((k:Int)<(ba1.length:Int)):=by have:=Qai hd; omega
  rw [f32r1n2,f32r1n2L];simp only [decide_eq_false hk,cond_false]
 | x0::rest,f+1,k,hd,hm,hf=>by
  obtain ⟨hx,hlt,hd'⟩:=Qaj hd;have hk:(k:Int)<(ba1.length:Int):=by omega
  have hw:wr64 ((k:Int)+1)=(k:Int)+1:=Qbk (by omega) (by unfold maxLen at hm; omega);have ih:f32r1n2 f ba1 bm2 ((k:Int)+1)=f32r1n2L ba1 bm2 rest ((k:Int)+1):=f32r1n2L_eq ba1 bm2 rest f (k+1) hd' hm (by simpa using hf);rw [f32r1n2,f32r1n2L];simp only [decide_eq_true hk,cond_true,Qbv,hx,Option.bind_some,hw,ih]
theorem f32r1n2_run(ba1:List Qa)(bm2:Qc)(hm:ba1.length≤maxLen):f32r1n2 FUEL ba1 bm2 0=f32r1n2L ba1 bm2 ba1 0:=f32r1n2L_eq ba1 bm2 ba1 FUEL 0 List.drop_zero hm (Qaw hm)
inductive f32r1n1O where
 | norm
 | ret (v45:Int)
def f32r1n1E(ba1:List Qa)(bm2:Qc):f32r1n1O→Ex×Tr×Hp
 | .norm=>(.norm,mkS [],[jR 4 Qa.cells ba1,some (.box 45 ((Qc.cells bm2).map .pl))])
 | .ret v45=>(.ret,mkS [(4,(jI v45))],[jR 4 Qa.cells ba1,some (.box 45 ((Qc.cells bm2).map .pl))])
def f32r1n1S(ba1:List Qa)(bm2:Qc):Tr×Hp:=(mkS [(0,(.own 0)),(1,(.clo 33 [(.bp 1 0)]))],[jR 4 Qa.cells ba1,some (.box 45 ((Qc.cells bm2).map .pl))])
noncomputable def f32r1n1(ba1:List Qa)(bm2:Qc):Option f32r1n1O :=
 (f32r1n2 FUEL ba1 bm2 0).bind fun o42=>match o42 with
 | .exit0=>some .norm
 | .ret v44=>some (.ret v44)
theorem f32r1n1_ok(ba1:List Qa)(bm2:Qc){o:f32r1n1O}(h:f32r1n1 ba1 bm2=some o):T Try.prog Try.f32.ntmps 2 (cL (Qi 1 c32)) (f32r1n1S ba1 bm2) (·=f32r1n1E ba1 bm2 o):=by
 unfold f32r1n1 at h;refine rN Qg 1 [([],[],[(1,.val (jI (ba1.length:Int)))])] [] [] [] [0,1,7,8] (f32r1n2S ba1 bm2 0) (ap (Qp (xs:=ba1) (c:=Qa.cells)) an) ?_;obtain ⟨o42,h43,h⟩:=Qd h;cases o42 with
 | exit0 =>
  obtain rfl:=Qe h;exact T.last' (T.bl (i:=0) (by kernel_rfl) (by kernel_rfl) (f32r1n2_ok FUEL ba1 bm2 0 h43)) (tds:=[]) (m:=[]) (keep:=[]) (st2:=(f32r1n1E ba1 bm2 .norm).2) (by kernel_rfl) an rfl
 | ret v44 =>
  obtain rfl:=Qe h;exact T.last' (T.bl (i:=0) (by kernel_rfl) (by kernel_rfl) (f32r1n2_ok FUEL ba1 bm2 0 h43)) (tds:=[]) (m:=[]) (keep:=[4]) (st2:=(f32r1n1E ba1 bm2 (.ret v44)).2) (by kernel_rfl) an rfl
inductive f32r1n0O where
 | ret (v49:Int)
def f32r1n0E(a1:List Qa)(a2:Qc):f32r1n0O→Ex×Tr×Hp
 | .ret v49=>(.ret,mkS [(4,(jI v49))],[jR 4 Qa.cells a1,some (.box 45 ((Qc.cells a2).map .pl))])
def f32r1n0S(a1:List Qa)(a2:Qc):Tr×Hp:=(Qal [(.own 0),(.clo 33 [(.bp 1 0)])] 0 .leaf,[jR 4 Qa.cells a1,some (.box 45 ((Qc.cells a2).map .pl))])
noncomputable def f32r1n0(a1:List Qa)(a2:Qc):Option f32r1n0O :=
 (f32r1n1 a1 a2).bind fun o46=>match o46 with
 | .norm=>some (.ret (-1))
 | .ret v48=>some (.ret v48)
theorem f32r1n0_ok(a1:List Qa)(a2:Qc){o:f32r1n0O}(h:f32r1n0 a1 a2=some o):T Try.prog Try.f32.ntmps 2 c32 (f32r1n0S a1 a2) (·=f32r1n0E a1 a2 o):=by
 unfold f32r1n0 at h;refine rN Qg 1 [j3] [] [] [] [0,1] (f32r1n1S a1 a2) an ?_;obtain ⟨o46,h47,h⟩:=Qd h;cases o46 with
 | norm =>
  refine T.oneN (by kernel_rfl) (f32r1n1_ok a1 a2 h47) (st2:=(f32r1n1E a1 a2 .norm).2) rfl ?_;obtain rfl:=Qe h;exact rE Qg [j3] [] [] [] [4] (.ret,(f32r1n0E a1 a2 (.ret (-1))).2) an rfl
 | ret v48 =>
  obtain rfl:=Qe h;exact T.oneX' (by kernel_rfl) (f32r1n1_ok a1 a2 h47) (tds:=[]) (m:=[]) (keep:=[4]) (st2:=(f32r1n0E a1 a2 (.ret v48)).2) (by kernel_rfl) an rfl rfl
noncomputable def f32r1(a1:List Qa)(a2:Qc):Option Int:=(f32r1n0 a1 a2).bind fun o=>match o with
 | .ret v49=>some v49
theorem f32r1_ok(a1:List Qa)(a2:Qc){r:Int}(h:f32r1 a1 a2=some r):Qn Try.prog true 32 [(.own 0),(.clo 33 [(.bp 1 0)])] [jR 4 Qa.cells a1,some (.box 45 ((Qc.cells a2).map .pl))] (jI r) [jR 4 Qa.cells a1,some (.box 45 ((Qc.cells a2).map .pl))]:=by
 unfold f32r1 at h;obtain ⟨o,ho,h⟩:=Qd h;cases o with
 | ret v49 =>
  obtain rfl:=Qe h;exact Qn.shared Qg (f:=Try.f32) (c:=c32) (by kernel_rfl) (by kernel_rfl) (by kernel_rfl) ((f32r1n0_ok a1 a2 ho).mono fun r e=>by subst e; exact ⟨.inl rfl,by kernel_rfl,by kernel_rfl⟩)

noncomputable def c35:Code:=Try.f35.body.getD .skip
inductive f35r1n0O where
 | ret
def f35r1n0E(a1:Qb)(a2:Qc):f35r1n0O→Ex×Tr×Hp
 | .ret=>(.ret,mkS [(3,(.pl (.bool (seq a1.Name a2.Call))))],[some (.box 45 ((Qc.cells a2).map .pl))])
def f35r1n0S(a1:Qb)(a2:Qc):Tr×Hp:=(Qal [(jA Qb.cells a1),(.bp 0 0)] 0 .leaf,[some (.box 45 ((Qc.cells a2).map .pl))])
noncomputable def f35r1n0(a1:Qb)(a2:Qc):Option f35r1n0O :=
 some .ret
theorem f35r1n0_ok(a1:Qb)(a2:Qc){o:f35r1n0O}(h:f35r1n0 a1 a2=some o):T Try.prog Try.f35.ntmps 1 c35 (f35r1n0S a1 a2) (·=f35r1n0E a1 a2 o):=by
 unfold f35r1n0 at h;obtain rfl:=Qe h;exact rE Qg [j3,j3] [] [] [] [3] (.ret,(f35r1n0E a1 a2 .ret).2) an rfl
noncomputable def f35r1(a1:Qb)(a2:Qc):Option Unit:=(f35r1n0 a1 a2).bind fun o=>match o with
 | .ret=>some ()
theorem f35r1_ok(a1:Qb)(a2:Qc){r:Unit}(h:f35r1 a1 a2=some r):Qn Try.prog true 35 [(jA Qb.cells a1),(.bp 0 0)] [some (.box 45 ((Qc.cells a2).map .pl))] (.pl (.bool (seq a1.Name a2.Call))) [some (.box 45 ((Qc.cells a2).map .pl))]:=by
 unfold f35r1 at h;obtain ⟨o,ho,h⟩:=Qd h;cases o with
 | ret =>
  obtain rfl:=Qe h;exact Qn.shared Qg (f:=Try.f35) (c:=c35) (by kernel_rfl) (by kernel_rfl) (by kernel_rfl) ((f35r1n0_ok a1 a2 ho).mono fun r e=>by subst e; exact ⟨.inl rfl,by kernel_rfl,by kernel_rfl⟩)

noncomputable def c34:Code:=Try.f34.body.getD .skip
inductive f34r1n2O where
 | exit0
 | ret (v41:Int)
def f34r1n2E(bb1:List Qb)(bm2:Qc):f34r1n2O→Ex×Tr×Hp
 | .exit0=>((.exit 0),mkS [],[some (.box 45 ((Qc.cells bm2).map .pl))])
 | .ret v41=>(.ret,mkS [(4,(jI v41))],[some (.box 45 ((Qc.cells bm2).map .pl))])
def f34r1n2S(bb1:List Qb)(bm2:Qc)(v28:Int):Tr×Hp:=(mkS [(0,(jL 2 Qb.cells bb1)),(1,(.clo 35 [(.bp 0 0)])),(7,(jI (bb1.length:Int))),(8,(jI v28))],[some (.box 45 ((Qc.cells bm2).map .pl))])
noncomputable def f34r1n2:Nat→List Qb→Qc→Int→Option f34r1n2O
 | 0,_,_,_=>none
 | f+1,bb1,bm2,v28 =>
  bif decide (v28<(bb1.length:Int)) then
   (at? bb1 v28).bind fun x36 =>
   (f35r1 x36 bm2).bind fun x38 =>
   bif (seq x36.Name bm2.Call) then
    some (.ret v28)
   else
    (f34r1n2 f bb1 bm2 (wr64 (v28+1)))
  else
   some .exit0
theorem f34r1n2_ok:∀(f:Nat)(bb1:List Qb)(bm2:Qc)(v28:Int){o:f34r1n2O},f34r1n2 f bb1 bm2 v28=some o→TL Try.prog Try.f34.ntmps 1 f (cL (cL (Qi 1 (cL (Qi 1 c34))))) (f34r1n2S bb1 bm2 v28) (·=f34r1n2E bb1 bm2 o)
 | 0,_,_,_,o,h=>by rw [f34r1n2] at h; cases h
 | f+1,bb1,bm2,v28,o,h=>by
  rw [f34r1n2] at h;refine TL.body (K:=fun s=>∃v28:Int,s=(f34r1n2S bb1 bm2 v28)∧f34r1n2 f bb1 bm2 v28=some o) ?_ (by rintro _ ⟨v28,rfl,hk⟩; exact f34r1n2_ok f _ _ _ hk);rcases Qh h with ⟨h30,h⟩|⟨h30,h⟩
  ·obtain ⟨x36,h37,h⟩:=Qd h;obtain ⟨x38,h39,h⟩:=Qd h;rcases Qh h with ⟨h40,h⟩|⟨h40,h⟩
   ·obtain rfl:=Qe h;exact rK Qg 3 [j3,j3,([],[(3,.idx (Int.toNat v28) (Qb.cells x36)),(5,.call (.pl (.bool (seq x36.Name bm2.Call))) [some (.box 45 ((Qc.cells bm2).map .pl))])],[]),j3] [some true,some true] [] [] [4] .ret ((f34r1n2E bb1 bm2 (.ret v28)).2) (ap h30 (ap (Qf h37).1 (ap (Qj Qb.cells (Qf h37).2) (ap (f35r1_ok x36 bm2 h39) (ap h40 an))))) (Qm.out rfl rfl)
   ·exact rE Qg [j3,j3,([],[(3,.idx (Int.toNat v28) (Qb.cells x36)),(5,.call (.pl (.bool (seq x36.Name bm2.Call))) [some (.box 45 ((Qc.cells bm2).map .pl))])],[]),j3] [some true,some false] [] [] [0,1,7,8] (.norm,(f34r1n2S bb1 bm2 (wr64 (v28+1)))) (ap h30 (ap (Qf h37).1 (ap (Qj Qb.cells (Qf h37).2) (ap (f35r1_ok x36 bm2 h39) (ap h40 an))))) (Qm.norm ⟨(wr64 (v28+1)),rfl,h⟩)
  ·obtain rfl:=Qe h;exact rK Qg 2 [j3] [some false] [] [] [] (.exit 0) ((f34r1n2E bb1 bm2 .exit0).2) (ap h30 an) (Qm.out rfl rfl)
noncomputable def f34r1n2L(bb1:List Qb)(bm2:Qc):List Qb→Int→Option f34r1n2O
 | [],v28 =>
  some .exit0
 | x0::rest,v28 =>
  (f35r1 x0 bm2).bind fun x38 =>
  bif (seq x0.Name bm2.Call) then
   some (.ret v28)
  else
   (f34r1n2L bb1 bm2 rest (v28+1))
theorem f34r1n2L_eq(bb1:List Qb)(bm2:Qc):∀(rest:List Qb)(f k:Nat),bb1.drop k=rest→bb1.length≤maxLen→rest.length<f→f34r1n2 f bb1 bm2 (k:Int)=f34r1n2L bb1 bm2 rest (k:Int)
 | _,0,_,_,_,hf=>absurd hf (Nat.not_lt_zero _)
 | [],f+1,k,hd,hm,hf=>by
  have hk:¬((k:Int)<(bb1.length:Int)):=by have:=Qai hd; omega
  rw [f34r1n2,f34r1n2L];simp only [decide_eq_false hk,cond_false]
 | x0::rest,f+1,k,hd,hm,hf=>by
  obtain ⟨hx,hlt,hd'⟩:=Qaj hd;have hk:(k:Int)<(bb1.length:Int):=by omega
  have hw:wr64 ((k:Int)+1)=(k:Int)+1:=Qbk (by omega) (by unfold maxLen at hm; omega);have ih:f34r1n2 f bb1 bm2 ((k:Int)+1)=f34r1n2L bb1 bm2 rest ((k:Int)+1):=f34r1n2L_eq bb1 bm2 rest f (k+1) hd' hm (by simpa using hf);rw [f34r1n2,f34r1n2L];simp only [decide_eq_true hk,cond_true,Qbv,hx,Option.bind_some,hw,ih]
theorem f34r1n2_run(bb1:List Qb)(bm2:Qc)(hm:bb1.length≤maxLen):f34r1n2 FUEL bb1 bm2 0=f34r1n2L bb1 bm2 bb1 0:=f34r1n2L_eq bb1 bm2 bb1 FUEL 0 List.drop_zero hm (Qaw hm)
inductive f34r1n1O where
 | norm
 | ret (v45:Int)
def f34r1n1E(bb1:List Qb)(bm2:Qc):f34r1n1O→Ex×Tr×Hp
 | .norm=>(.norm,mkS [],[some (.box 45 ((Qc.cells bm2).map .pl))])
 | .ret v45=>(.ret,mkS [(4,(jI v45))],[some (.box 45 ((Qc.cells bm2).map .pl))])
def f34r1n1S(bb1:List Qb)(bm2:Qc):Tr×Hp:=(mkS [(0,(jL 2 Qb.cells bb1)),(1,(.clo 35 [(.bp 0 0)]))],[some (.box 45 ((Qc.cells bm2).map .pl))])
noncomputable def f34r1n1(bb1:List Qb)(bm2:Qc):Option f34r1n1O :=
 (f34r1n2 FUEL bb1 bm2 0).bind fun o42=>match o42 with
 | .exit0=>some .norm
 | .ret v44=>some (.ret v44)
theorem f34r1n1_ok(bb1:List Qb)(bm2:Qc){o:f34r1n1O}(h:f34r1n1 bb1 bm2=some o):T Try.prog Try.f34.ntmps 1 (cL (Qi 1 c34)) (f34r1n1S bb1 bm2) (·=f34r1n1E bb1 bm2 o):=by
 unfold f34r1n1 at h;refine rN Qg 1 [([],[],[(1,.val (jI (bb1.length:Int)))])] [] [] [] [0,1,7,8] (f34r1n2S bb1 bm2 0) (ap (Qp (xs:=bb1) (c:=Qb.cells)) an) ?_;obtain ⟨o42,h43,h⟩:=Qd h;cases o42 with
 | exit0 =>
  obtain rfl:=Qe h;exact T.last' (T.bl (i:=0) (by kernel_rfl) (by kernel_rfl) (f34r1n2_ok FUEL bb1 bm2 0 h43)) (tds:=[]) (m:=[]) (keep:=[]) (st2:=(f34r1n1E bb1 bm2 .norm).2) (by kernel_rfl) an rfl
 | ret v44 =>
  obtain rfl:=Qe h;exact T.last' (T.bl (i:=0) (by kernel_rfl) (by kernel_rfl) (f34r1n2_ok FUEL bb1 bm2 0 h43)) (tds:=[]) (m:=[]) (keep:=[4]) (st2:=(f34r1n1E bb1 bm2 (.ret v44)).2) (by kernel_rfl) an rfl
inductive f34r1n0O where
 | ret (v49:Int)
def f34r1n0E(a1:List Qb)(a2:Qc):f34r1n0O→Ex×Tr×Hp
 | .ret v49=>(.ret,mkS [(4,(jI v49))],[some (.box 45 ((Qc.cells a2).map .pl))])
def f34r1n0S(a1:List Qb)(a2:Qc):Tr×Hp:=(Qal [(jL 2 Qb.cells a1),(.clo 35 [(.bp 0 0)])] 0 .leaf,[some (.box 45 ((Qc.cells a2).map .pl))])
noncomputable def f34r1n0(a1:List Qb)(a2:Qc):Option f34r1n0O :=
 (f34r1n1 a1 a2).bind fun o46=>match o46 with
 | .norm=>some (.ret (-1))
 | .ret v48=>some (.ret v48)
theorem f34r1n0_ok(a1:List Qb)(a2:Qc){o:f34r1n0O}(h:f34r1n0 a1 a2=some o):T Try.prog Try.f34.ntmps 1 c34 (f34r1n0S a1 a2) (·=f34r1n0E a1 a2 o):=by
 unfold f34r1n0 at h;refine rN Qg 1 [j3] [] [] [] [0,1] (f34r1n1S a1 a2) an ?_;obtain ⟨o46,h47,h⟩:=Qd h;cases o46 with
 | norm =>
  refine T.oneN (by kernel_rfl) (f34r1n1_ok a1 a2 h47) (st2:=(f34r1n1E a1 a2 .norm).2) rfl ?_;obtain rfl:=Qe h;exact rE Qg [j3] [] [] [] [4] (.ret,(f34r1n0E a1 a2 (.ret (-1))).2) an rfl
 | ret v48 =>
  obtain rfl:=Qe h;exact T.oneX' (by kernel_rfl) (f34r1n1_ok a1 a2 h47) (tds:=[]) (m:=[]) (keep:=[4]) (st2:=(f34r1n0E a1 a2 (.ret v48)).2) (by kernel_rfl) an rfl rfl
noncomputable def f34r1(a1:List Qb)(a2:Qc):Option Int:=(f34r1n0 a1 a2).bind fun o=>match o with
 | .ret v49=>some v49
theorem f34r1_ok(a1:List Qb)(a2:Qc){r:Int}(h:f34r1 a1 a2=some r):Qn Try.prog true 34 [(jL 2 Qb.cells a1),(.clo 35 [(.bp 0 0)])] [some (.box 45 ((Qc.cells a2).map .pl))] (jI r) [some (.box 45 ((Qc.cells a2).map .pl))]:=by
 unfold f34r1 at h;obtain ⟨o,ho,h⟩:=Qd h;cases o with
 | ret v49 =>
  obtain rfl:=Qe h;exact Qn.shared Qg (f:=Try.f34) (c:=c34) (by kernel_rfl) (by kernel_rfl) (by kernel_rfl) ((f34r1n0_ok a1 a2 ho).mono fun r e=>by subst e; exact ⟨.inl rfl,by kernel_rfl,by kernel_rfl⟩)

noncomputable def c36:Code:=Try.f36.body.getD .skip
inductive f36n0O where
 | ret
def f36n0E(a1:Int):f36n0O→Ex×Tr×Hp
 | .ret=>(.ret,mkS [(2,(.pl (.bool (decide (a1<0)))))],[])
def f36n0S(a1:Int):Tr×Hp:=(Qal [(jI a1)] 0 .leaf,[])
noncomputable def f36n0(a1:Int):Option f36n0O :=
 some .ret
theorem f36n0_ok(a1:Int){o:f36n0O}(h:f36n0 a1=some o):T Try.prog Try.f36.ntmps 0 c36 (f36n0S a1) (·=f36n0E a1 o):=by
 unfold f36n0 at h;obtain rfl:=Qe h;exact rE Qg [j3,j3] [] [] [] [2] (.ret,(f36n0E a1 .ret).2) an rfl
noncomputable def f36(a1:Int):Option Bool:=(f36n0 a1).bind fun o=>match o with
 | .ret=>some (decide (a1<0))
theorem f36_ok(a1:Int){r:Bool}(h:f36 a1=some r):Qn Try.prog false 36 [(jI a1)] [] (jB r) []:=by
 unfold f36 at h;obtain ⟨o,ho,h⟩:=Qd h;cases o with
 | ret =>
  obtain rfl:=Qe h;exact Qn.plain Qg (f:=Try.f36) (c:=c36) (by kernel_rfl) (by kernel_rfl) (by kernel_rfl) (by kernel_rfl) ((f36n0_ok a1 ho).mono fun r e=>by subst e; exact ⟨.inl rfl,(.pl (.bool (decide (a1<0)))),(.pl (.bool (decide (a1<0)))),by kernel_rfl,by kernel_rfl,((Wk.refl _):Wk (.pl (.bool (decide (a1<0)))) (.pl (.bool (decide (a1<0)))))⟩)

noncomputable def c51:Code:=Try.f51.body.getD .skip
inductive f51_36n2O where
 | exit0
 | ret (v40:Int)
def f51_36n2E(bh1:List Int):f51_36n2O→Ex×Tr×Hp
 | .exit0=>((.exit 0),mkS [],[])
 | .ret v40=>(.ret,mkS [(4,(jI v40))],[])
def f51_36n2S(bh1:List Int)(v27:Int):Tr×Hp:=(mkS [(0,(.pl (.sl .any 1 (bh1.map (cInt .i64))))),(1,(.pl (.fn 36))),(7,(jI (bh1.length:Int))),(8,(jI v27))],[])
noncomputable def f51_36n2:Nat→List Int→Int→Option f51_36n2O
 | 0,_,_=>none
 | f+1,bh1,v27 =>
  bif decide (v27<(bh1.length:Int)) then
   (at? bh1 v27).bind fun x35 =>
   (f36 x35).bind fun x37 =>
   bif x37 then
    some (.ret v27)
   else
    (f51_36n2 f bh1 (wr64 (v27+1)))
  else
   some .exit0
theorem f51_36n2_ok:∀(f:Nat)(bh1:List Int)(v27:Int){o:f51_36n2O},f51_36n2 f bh1 v27=some o→TL Try.prog Try.f51.ntmps 0 f (cL (cL (Qi 1 (cL (Qi 1 c51))))) (f51_36n2S bh1 v27) (·=f51_36n2E bh1 o)
 | 0,_,_,o,h=>by rw [f51_36n2] at h; cases h
 | f+1,bh1,v27,o,h=>by
  rw [f51_36n2] at h;refine TL.body (K:=fun s=>∃v27:Int,s=(f51_36n2S bh1 v27)∧f51_36n2 f bh1 v27=some o) ?_ (by rintro _ ⟨v27,rfl,hk⟩; exact f51_36n2_ok f _ _ hk);rcases Qh h with ⟨h29,h⟩|⟨h29,h⟩
  ·obtain ⟨x35,h36,h⟩:=Qd h;obtain ⟨x37,h38,h⟩:=Qd h;rcases Qh h with ⟨h39,h⟩|⟨h39,h⟩
   ·obtain rfl:=Qe h;exact rK Qg 3 [j3,j3,([],[(3,.idx (Int.toNat v27) ((cInt .i64) x35)),jH 5 (jB x37)],[]),j3] [some true,some true] [] [] [4] .ret ((f51_36n2E bh1 (.ret v27)).2) (ap h29 (ap (Qf h36).1 (ap (Qj (cInt .i64) (Qf h36).2) (ap (f36_ok x35 h38) (ap h39 an))))) (Qm.out rfl rfl)
   ·exact rE Qg [j3,j3,([],[(3,.idx (Int.toNat v27) ((cInt .i64) x35)),jH 5 (jB x37)],[]),j3] [some true,some false] [] [] [0,1,7,8] (.norm,(f51_36n2S bh1 (wr64 (v27+1)))) (ap h29 (ap (Qf h36).1 (ap (Qj (cInt .i64) (Qf h36).2) (ap (f36_ok x35 h38) (ap h39 an))))) (Qm.norm ⟨(wr64 (v27+1)),rfl,h⟩)
  ·obtain rfl:=Qe h;exact rK Qg 2 [j3] [some false] [] [] [] (.exit 0) ((f51_36n2E bh1 .exit0).2) (ap h29 an) (Qm.out rfl rfl)
noncomputable def f51_36n2L(bh1:List Int):List Int→Int→Option f51_36n2O
 | [],v27 =>
  some .exit0
 | x0::rest,v27 =>
  (f36 x0).bind fun x37 =>
  bif x37 then
   some (.ret v27)
  else
   (f51_36n2L bh1 rest (v27+1))
theorem f51_36n2L_eq(bh1:List Int):∀(rest:List Int)(f k:Nat),bh1.drop k=rest→bh1.length≤maxLen→rest.length<f→f51_36n2 f bh1 (k:Int)=f51_36n2L bh1 rest (k:Int)
 | _,0,_,_,_,hf=>absurd hf (Nat.not_lt_zero _)
 | [],f+1,k,hd,hm,hf=>by
  have hk:¬((k:Int)<(bh1.length:Int)):=by have:=Qai hd; omega
  rw [f51_36n2,f51_36n2L];simp only [decide_eq_false hk,cond_false]
 | x0::rest,f+1,k,hd,hm,hf=>by
  obtain ⟨hx,hlt,hd'⟩:=Qaj hd;have hk:(k:Int)<(bh1.length:Int):=by omega
  have hw:wr64 ((k:Int)+1)=(k:Int)+1:=Qbk (by omega) (by unfold maxLen at hm; omega);have ih:f51_36n2 f bh1 ((k:Int)+1)=f51_36n2L bh1 rest ((k:Int)+1):=f51_36n2L_eq bh1 rest f (k+1) hd' hm (by simpa using hf);rw [f51_36n2,f51_36n2L];simp only [decide_eq_true hk,cond_true,Qbv,hx,Option.bind_some,hw,ih]
theorem f51_36n2_run(bh1:List Int)(hm:bh1.length≤maxLen):f51_36n2 FUEL bh1 0=f51_36n2L bh1 bh1 0:=f51_36n2L_eq bh1 bh1 FUEL 0 List.drop_zero hm (Qaw hm)
inductive f51_36n1O where
 | norm
 | ret (v44:Int)
def f51_36n1E(bh1:List Int):f51_36n1O→Ex×Tr×Hp
 | .norm=>(.norm,mkS [],[])
 | .ret v44=>(.ret,mkS [(4,(jI v44))],[])
def f51_36n1S(bh1:List Int):Tr×Hp:=(mkS [(0,(.pl (.sl .any 1 (bh1.map (cInt .i64))))),(1,(.pl (.fn 36)))],[])
noncomputable def f51_36n1(bh1:List Int):Option f51_36n1O :=
 (f51_36n2 FUEL bh1 0).bind fun o41=>match o41 with
 | .exit0=>some .norm
 | .ret v43=>some (.ret v43)
theorem f51_36n1_ok(bh1:List Int){o:f51_36n1O}(h:f51_36n1 bh1=some o):T Try.prog Try.f51.ntmps 0 (cL (Qi 1 c51)) (f51_36n1S bh1) (·=f51_36n1E bh1 o):=by
 unfold f51_36n1 at h;refine rN Qg 1 [([],[],[(1,.val (jI (bh1.length:Int)))])] [] [] [] [0,1,7,8] (f51_36n2S bh1 0) (ap (Qp (xs:=bh1) (c:=(cInt .i64))) an) ?_;obtain ⟨o41,h42,h⟩:=Qd h;cases o41 with
 | exit0 =>
  obtain rfl:=Qe h;exact T.last' (T.bl (i:=0) (by kernel_rfl) (by kernel_rfl) (f51_36n2_ok FUEL bh1 0 h42)) (tds:=[]) (m:=[]) (keep:=[]) (st2:=(f51_36n1E bh1 .norm).2) (by kernel_rfl) an rfl
 | ret v43 =>
  obtain rfl:=Qe h;exact T.last' (T.bl (i:=0) (by kernel_rfl) (by kernel_rfl) (f51_36n2_ok FUEL bh1 0 h42)) (tds:=[]) (m:=[]) (keep:=[4]) (st2:=(f51_36n1E bh1 (.ret v43)).2) (by kernel_rfl) an rfl
inductive f51_36n0O where
 | ret (v48:Int)
def f51_36n0E(a1:List Int):f51_36n0O→Ex×Tr×Hp
 | .ret v48=>(.ret,mkS [(4,(jI v48))],[])
def f51_36n0S(a1:List Int):Tr×Hp:=(Qal [(.pl (.sl .any 1 (a1.map (cInt .i64)))),(.pl (.fn 36))] 0 .leaf,[])
noncomputable def f51_36n0(a1:List Int):Option f51_36n0O :=
 (f51_36n1 a1).bind fun o45=>match o45 with
 | .norm=>some (.ret (-1))
 | .ret v47=>some (.ret v47)
theorem f51_36n0_ok(a1:List Int){o:f51_36n0O}(h:f51_36n0 a1=some o):T Try.prog Try.f51.ntmps 0 c51 (f51_36n0S a1) (·=f51_36n0E a1 o):=by
 unfold f51_36n0 at h;refine rN Qg 1 [j3] [] [] [] [0,1] (f51_36n1S a1) an ?_;obtain ⟨o45,h46,h⟩:=Qd h;cases o45 with
 | norm =>
  refine T.oneN (by kernel_rfl) (f51_36n1_ok a1 h46) (st2:=(f51_36n1E a1 .norm).2) rfl ?_;obtain rfl:=Qe h;exact rE Qg [j3] [] [] [] [4] (.ret,(f51_36n0E a1 (.ret (-1))).2) an rfl
 | ret v47 =>
  obtain rfl:=Qe h;exact T.oneX' (by kernel_rfl) (f51_36n1_ok a1 h46) (tds:=[]) (m:=[]) (keep:=[4]) (st2:=(f51_36n0E a1 (.ret v47)).2) (by kernel_rfl) an rfl rfl
noncomputable def f51_36(a1:List Int):Option Int:=(f51_36n0 a1).bind fun o=>match o with
 | .ret v48=>some v48
theorem f51_36_ok(a1:List Int){r:Int}(h:f51_36 a1=some r):Qn Try.prog false 51 [(.pl (.sl .any 1 (a1.map (cInt .i64)))),(.pl (.fn 36))] [] (jI r) []:=by
 unfold f51_36 at h;obtain ⟨o,ho,h⟩:=Qd h;cases o with
 | ret v48 =>
  obtain rfl:=Qe h;exact Qn.plain Qg (f:=Try.f51) (c:=c51) (by kernel_rfl) (by kernel_rfl) (by kernel_rfl) (by kernel_rfl) ((f51_36n0_ok a1 ho).mono fun r e=>by subst e; exact ⟨.inl rfl,(jI v48),(jI v48),by kernel_rfl,by kernel_rfl,((Wk.refl _):Wk (jI v48) (jI v48))⟩)

noncomputable def c38:Code:=Try.f38.body.getD .skip
inductive f38_36n0O where
 | ret (v6:Bool)
def f38_36n0E(a1:List Int):f38_36n0O→Ex×Tr×Hp
 | .ret v6=>(.ret,mkS [(4,(jB v6))],[])
def f38_36n0S(a1:List Int):Tr×Hp:=(Qal [(.pl (.sl .any 1 (a1.map (cInt .i64)))),(.pl (.fn 36))] 0 .leaf,[])
noncomputable def f38_36n0(a1:List Int):Option f38_36n0O :=
 (f51_36 a1).bind fun x4 =>
 some (.ret (decide (0≤x4)))
theorem f38_36n0_ok(a1:List Int){o:f38_36n0O}(h:f38_36n0 a1=some o):T Try.prog Try.f38.ntmps 0 c38 (f38_36n0S a1) (·=f38_36n0E a1 o):=by
 unfold f38_36n0 at h;obtain ⟨x4,h5,h⟩:=Qd h;obtain rfl:=Qe h;exact rE Qg [j3,([],[jH 2 (jI x4)],[])] [] [] [] [4] (.ret,(f38_36n0E a1 (.ret (decide (0≤x4)))).2) (ap (f51_36_ok a1 h5) an) rfl
noncomputable def f38_36(a1:List Int):Option Bool:=(f38_36n0 a1).bind fun o=>match o with
 | .ret v6=>some v6
theorem f38_36_ok(a1:List Int){r:Bool}(h:f38_36 a1=some r):Qn Try.prog false 38 [(.pl (.sl .any 1 (a1.map (cInt .i64)))),(.pl (.fn 36))] [] (jB r) []:=by
 unfold f38_36 at h;obtain ⟨o,ho,h⟩:=Qd h;cases o with
 | ret v6 =>
  obtain rfl:=Qe h;exact Qn.plain Qg (f:=Try.f38) (c:=c38) (by kernel_rfl) (by kernel_rfl) (by kernel_rfl) (by kernel_rfl) ((f38_36n0_ok a1 ho).mono fun r e=>by subst e; exact ⟨.inl rfl,(jB v6),(jB v6),by kernel_rfl,by kernel_rfl,((Wk.refl _):Wk (jB v6) (jB v6))⟩)

noncomputable def c37:Code:=Try.f37.body.getD .skip
inductive f37n0O where
 | ret
def f37n0E(a1:Int):f37n0O→Ex×Tr×Hp
 | .ret=>(.ret,mkS [(2,(.pl (.bool (!(decide (a1=0))))))],[])
def f37n0S(a1:Int):Tr×Hp:=(Qal [(jI a1)] 0 .leaf,[])
noncomputable def f37n0(a1:Int):Option f37n0O :=
 some .ret
theorem f37n0_ok(a1:Int){o:f37n0O}(h:f37n0 a1=some o):T Try.prog Try.f37.ntmps 0 c37 (f37n0S a1) (·=f37n0E a1 o):=by
 unfold f37n0 at h;obtain rfl:=Qe h;exact rE Qg [j3,j3] [] [] [] [2] (.ret,(f37n0E a1 .ret).2) an rfl
noncomputable def f37(a1:Int):Option Bool:=(f37n0 a1).bind fun o=>match o with
 | .ret=>some (!(decide (a1=0)))
theorem f37_ok(a1:Int){r:Bool}(h:f37 a1=some r):Qn Try.prog false 37 [(jI a1)] [] (jB r) []:=by
 unfold f37 at h;obtain ⟨o,ho,h⟩:=Qd h;cases o with
 | ret =>
  obtain rfl:=Qe h;exact Qn.plain Qg (f:=Try.f37) (c:=c37) (by kernel_rfl) (by kernel_rfl) (by kernel_rfl) (by kernel_rfl) ((f37n0_ok a1 ho).mono fun r e=>by subst e; exact ⟨.inl rfl,(.pl (.bool (!(decide (a1=0))))),(.pl (.bool (!(decide (a1=0))))),by kernel_rfl,by kernel_rfl,((Wk.refl _):Wk (.pl (.bool (!(decide (a1=0))))) (.pl (.bool (!(decide (a1=0))))))⟩)

inductive f51_37n2O where
 | exit0
 | ret (v40:Int)
def f51_37n2E(bh1:List Int):f51_37n2O→Ex×Tr×Hp
 | .exit0=>((.exit 0),mkS [],[])
 | .ret v40=>(.ret,mkS [(4,(jI v40))],[])
def f51_37n2S(bh1:List Int)(v27:Int):Tr×Hp:=(mkS [(0,(.pl (.sl .any 1 (bh1.map (cInt .i64))))),(1,(.pl (.fn 37))),(7,(jI (bh1.length:Int))),(8,(jI v27))],[])
noncomputable def f51_37n2:Nat→List Int→Int→Option f51_37n2O
 | 0,_,_=>none
 | f+1,bh1,v27 =>
  bif decide (v27<(bh1.length:Int)) then
   (at? bh1 v27).bind fun x35 =>
   (f37 x35).bind fun x37 =>
   bif x37 then
    some (.ret v27)
   else
    (f51_37n2 f bh1 (wr64 (v27+1)))
  else
   some .exit0
theorem f51_37n2_ok:∀(f:Nat)(bh1:List Int)(v27:Int){o:f51_37n2O},f51_37n2 f bh1 v27=some o→TL Try.prog Try.f51.ntmps 0 f (cL (cL (Qi 1 (cL (Qi 1 c51))))) (f51_37n2S bh1 v27) (·=f51_37n2E bh1 o)
 | 0,_,_,o,h=>by rw [f51_37n2] at h; cases h
 | f+1,bh1,v27,o,h=>by
  rw [f51_37n2] at h;refine TL.body (K:=fun s=>∃v27:Int,s=(f51_37n2S bh1 v27)∧f51_37n2 f bh1 v27=some o) ?_ (by rintro _ ⟨v27,rfl,hk⟩; exact f51_37n2_ok f _ _ hk);rcases Qh h with ⟨h29,h⟩|⟨h29,h⟩
  ·obtain ⟨x35,h36,h⟩:=Qd h;obtain ⟨x37,h38,h⟩:=Qd h;rcases Qh h with ⟨h39,h⟩|⟨h39,h⟩
   ·obtain rfl:=Qe h;exact rK Qg 3 [j3,j3,([],[(3,.idx (Int.toNat v27) ((cInt .i64) x35)),jH 5 (jB x37)],[]),j3] [some true,some true] [] [] [4] .ret ((f51_37n2E bh1 (.ret v27)).2) (ap h29 (ap (Qf h36).1 (ap (Qj (cInt .i64) (Qf h36).2) (ap (f37_ok x35 h38) (ap h39 an))))) (Qm.out rfl rfl)
   ·exact rE Qg [j3,j3,([],[(3,.idx (Int.toNat v27) ((cInt .i64) x35)),jH 5 (jB x37)],[]),j3] [some true,some false] [] [] [0,1,7,8] (.norm,(f51_37n2S bh1 (wr64 (v27+1)))) (ap h29 (ap (Qf h36).1 (ap (Qj (cInt .i64) (Qf h36).2) (ap (f37_ok x35 h38) (ap h39 an))))) (Qm.norm ⟨(wr64 (v27+1)),rfl,h⟩)
  ·obtain rfl:=Qe h;exact rK Qg 2 [j3] [some false] [] [] [] (.exit 0) ((f51_37n2E bh1 .exit0).2) (ap h29 an) (Qm.out rfl rfl)
noncomputable def f51_37n2L(bh1:List Int):List Int→Int→Option f51_37n2O
 | [],v27 =>
  some .exit0
 | x0::rest,v27 =>
  (f37 x0).bind fun x37 =>
  bif x37 then
   some (.ret v27)
  else
   (f51_37n2L bh1 rest (v27+1))
theorem f51_37n2L_eq(bh1:List Int):∀(rest:List Int)(f k:Nat),bh1.drop k=rest→bh1.length≤maxLen→rest.length<f→f51_37n2 f bh1 (k:Int)=f51_37n2L bh1 rest (k:Int)
 | _,0,_,_,_,hf=>absurd hf (Nat.not_lt_zero _)
 | [],f+1,k,hd,hm,hf=>by
  have hk:¬((k:Int)<(bh1.length:Int)):=by have:=Qai hd; omega
  rw [f51_37n2,f51_37n2L];simp only [decide_eq_false hk,cond_false]
 | x0::rest,f+1,k,hd,hm,hf=>by
  obtain ⟨hx,hlt,hd'⟩:=Qaj hd;have hk:(k:Int)<(bh1.length:Int):=by omega
  have hw:wr64 ((k:Int)+1)=(k:Int)+1:=Qbk (by omega) (by unfold maxLen at hm; omega);have ih:f51_37n2 f bh1 ((k:Int)+1)=f51_37n2L bh1 rest ((k:Int)+1):=f51_37n2L_eq bh1 rest f (k+1) hd' hm (by simpa using hf);rw [f51_37n2,f51_37n2L];simp only [decide_eq_true hk,cond_true,Qbv,hx,Option.bind_some,hw,ih]
theorem f51_37n2_run(bh1:List Int)(hm:bh1.length≤maxLen):f51_37n2 FUEL bh1 0=f51_37n2L bh1 bh1 0:=f51_37n2L_eq bh1 bh1 FUEL 0 List.drop_zero hm (Qaw hm)
inductive f51_37n1O where
 | norm
 | ret (v44:Int)
def f51_37n1E(bh1:List Int):f51_37n1O→Ex×Tr×Hp
 | .norm=>(.norm,mkS [],[])
 | .ret v44=>(.ret,mkS [(4,(jI v44))],[])
def f51_37n1S(bh1:List Int):Tr×Hp:=(mkS [(0,(.pl (.sl .any 1 (bh1.map (cInt .i64))))),(1,(.pl (.fn 37)))],[])
noncomputable def f51_37n1(bh1:List Int):Option f51_37n1O :=
 (f51_37n2 FUEL bh1 0).bind fun o41=>match o41 with
 | .exit0=>some .norm
 | .ret v43=>some (.ret v43)
theorem f51_37n1_ok(bh1:List Int){o:f51_37n1O}(h:f51_37n1 bh1=some o):T Try.prog Try.f51.ntmps 0 (cL (Qi 1 c51)) (f51_37n1S bh1) (·=f51_37n1E bh1 o):=by
 unfold f51_37n1 at h;refine rN Qg 1 [([],[],[(1,.val (jI (bh1.length:Int)))])] [] [] [] [0,1,7,8] (f51_37n2S bh1 0) (ap (Qp (xs:=bh1) (c:=(cInt .i64))) an) ?_;obtain ⟨o41,h42,h⟩:=Qd h;cases o41 with
 | exit0 =>
  obtain rfl:=Qe h;exact T.last' (T.bl (i:=0) (by kernel_rfl) (by kernel_rfl) (f51_37n2_ok FUEL bh1 0 h42)) (tds:=[]) (m:=[]) (keep:=[]) (st2:=(f51_37n1E bh1 .norm).2) (by kernel_rfl) an rfl
 | ret v43 =>
  obtain rfl:=Qe h;exact T.last' (T.bl (i:=0) (by kernel_rfl) (by kernel_rfl) (f51_37n2_ok FUEL bh1 0 h42)) (tds:=[]) (m:=[]) (keep:=[4]) (st2:=(f51_37n1E bh1 (.ret v43)).2) (by kernel_rfl) an rfl
inductive f51_37n0O where
 | ret (v48:Int)
def f51_37n0E(a1:List Int):f51_37n0O→Ex×Tr×Hp
 | .ret v48=>(.ret,mkS [(4,(jI v48))],[])
def f51_37n0S(a1:List Int):Tr×Hp:=(Qal [(.pl (.sl .any 1 (a1.map (cInt .i64)))),(.pl (.fn 37))] 0 .leaf,[])
noncomputable def f51_37n0(a1:List Int):Option f51_37n0O :=
 (f51_37n1 a1).bind fun o45=>match o45 with
 | .norm=>some (.ret (-1))
 | .ret v47=>some (.ret v47)
theorem f51_37n0_ok(a1:List Int){o:f51_37n0O}(h:f51_37n0 a1=some o):T Try.prog Try.f51.ntmps 0 c51 (f51_37n0S a1) (·=f51_37n0E a1 o):=by
 unfold f51_37n0 at h;refine rN Qg 1 [j3] [] [] [] [0,1] (f51_37n1S a1) an ?_;obtain ⟨o45,h46,h⟩:=Qd h;cases o45 with
 | norm =>
  refine T.oneN (by kernel_rfl) (f51_37n1_ok a1 h46) (st2:=(f51_37n1E a1 .norm).2) rfl ?_;obtain rfl:=Qe h;exact rE Qg [j3] [] [] [] [4] (.ret,(f51_37n0E a1 (.ret (-1))).2) an rfl
 | ret v47 =>
  obtain rfl:=Qe h;exact T.oneX' (by kernel_rfl) (f51_37n1_ok a1 h46) (tds:=[]) (m:=[]) (keep:=[4]) (st2:=(f51_37n0E a1 (.ret v47)).2) (by kernel_rfl) an rfl rfl
noncomputable def f51_37(a1:List Int):Option Int:=(f51_37n0 a1).bind fun o=>match o with
 | .ret v48=>some v48
theorem f51_37_ok(a1:List Int){r:Int}(h:f51_37 a1=some r):Qn Try.prog false 51 [(.pl (.sl .any 1 (a1.map (cInt .i64)))),(.pl (.fn 37))] [] (jI r) []:=by
 unfold f51_37 at h;obtain ⟨o,ho,h⟩:=Qd h;cases o with
 | ret v48 =>
  obtain rfl:=Qe h;exact Qn.plain Qg (f:=Try.f51) (c:=c51) (by kernel_rfl) (by kernel_rfl) (by kernel_rfl) (by kernel_rfl) ((f51_37n0_ok a1 ho).mono fun r e=>by subst e; exact ⟨.inl rfl,(jI v48),(jI v48),by kernel_rfl,by kernel_rfl,((Wk.refl _):Wk (jI v48) (jI v48))⟩)

inductive f38_37n0O where
 | ret (v6:Bool)
def f38_37n0E(a1:List Int):f38_37n0O→Ex×Tr×Hp
 | .ret v6=>(.ret,mkS [(4,(jB v6))],[])
def f38_37n0S(a1:List Int):Tr×Hp:=(Qal [(.pl (.sl .any 1 (a1.map (cInt .i64)))),(.pl (.fn 37))] 0 .leaf,[])
noncomputable def f38_37n0(a1:List Int):Option f38_37n0O :=
 (f51_37 a1).bind fun x4 =>
 some (.ret (decide (0≤x4)))
theorem f38_37n0_ok(a1:List Int){o:f38_37n0O}(h:f38_37n0 a1=some o):T Try.prog Try.f38.ntmps 0 c38 (f38_37n0S a1) (·=f38_37n0E a1 o):=by
 unfold f38_37n0 at h;obtain ⟨x4,h5,h⟩:=Qd h;obtain rfl:=Qe h;exact rE Qg [j3,([],[jH 2 (jI x4)],[])] [] [] [] [4] (.ret,(f38_37n0E a1 (.ret (decide (0≤x4)))).2) (ap (f51_37_ok a1 h5) an) rfl
noncomputable def f38_37(a1:List Int):Option Bool:=(f38_37n0 a1).bind fun o=>match o with
 | .ret v6=>some v6
theorem f38_37_ok(a1:List Int){r:Bool}(h:f38_37 a1=some r):Qn Try.prog false 38 [(.pl (.sl .any 1 (a1.map (cInt .i64)))),(.pl (.fn 37))] [] (jB r) []:=by
 unfold f38_37 at h;obtain ⟨o,ho,h⟩:=Qd h;cases o with
 | ret v6 =>
  obtain rfl:=Qe h;exact Qn.plain Qg (f:=Try.f38) (c:=c38) (by kernel_rfl) (by kernel_rfl) (by kernel_rfl) (by kernel_rfl) ((f38_37n0_ok a1 ho).mono fun r e=>by subst e; exact ⟨.inl rfl,(jB v6),(jB v6),by kernel_rfl,by kernel_rfl,((Wk.refl _):Wk (jB v6) (jB v6))⟩)

noncomputable def c16:Code:=Try.f16.body.getD .skip
inductive f16n2O where
 | exit0 (v134:List Int) (v135:List Int)
 | ret
def f16n2E(bc1:List Qc)(bb2:List Qb)(bj3:(List Bool)×(List Qa)×(List Int)×(List Int)):f16n2O→Ex×Tr×Hp
 | .exit0 v134 v135=>((.exit 0),mkS [(7,(.bp 0 0))],[some (.abox 57 [(.own 1),(jL 2 Qb.cells bb2),(.own 2),(.own 3)] (bj3.1.map Qq)),jR 4 Qa.cells bj3.2.1,some (.row false 1 (v134.map (cInt .i64))),some (.row false 1 (v135.map (cInt .i64)))])
 | .ret=>(.ret,mkS [(6,(jB false))],[])
def f16n2S(bc1:List Qc)(bb2:List Qb)(bj3:(List Bool)×(List Qa)×(List Int)×(List Int))(v95:Int)(v96 v97:List Int):Tr×Hp:=(mkS [(7,(.bp 0 0)),(26,(jL 3 Qc.cells bc1)),(27,(jI (bc1.length:Int))),(28,(jI v95))],[some (.abox 57 [(.own 1),(jL 2 Qb.cells bb2),(.own 2),(.own 3)] (bj3.1.map Qq)),jR 4 Qa.cells bj3.2.1,some (.row false 1 (v96.map (cInt .i64))),some (.row false 1 (v97.map (cInt .i64)))])
noncomputable def f16n2:Nat→List Qc→List Qb→(List Bool)×(List Qa)×(List Int)×(List Int)→Int→List Int→List Int→Option f16n2O
 | 0,_,_,_,_,_,_=>none
 | f+1,bc1,bb2,bj3,v95,v96,v97 =>
  bif decide (v95<(bc1.length:Int)) then
   (at? bc1 v95).bind fun x117 =>
   (f32r1 bj3.2.1 x117).bind fun x119 =>
   (f34r1 bb2 x117).bind fun x121 =>
   bif decide (x119<0) then
    some .ret
   else
    bif decide (x121<0) then
     some .ret
    else
     req (idxB x119 10) <|
     req (idxB x121 8) <|
     (bj3.1[((Int.toNat x119)*8+(Int.toNat x121)*1)]?).bind fun x127 =>
     bif x127 then
      (at? v96 x119).bind fun x130 =>
      (at? v97 x121).bind fun x132 =>
      (f16n2 f bc1 bb2 bj3 (wr64 (v95+1)) (v96.set (Int.toNat x119) (wr64 (x130-x117.Amount))) (v97.set (Int.toNat x121) (wr64 (x132-x117.Amount))))
     else
      some .ret
  else
   some (.exit0 v96 v97)
theorem f16n2_ok:∀(f:Nat)(bc1:List Qc)(bb2:List Qb)(bj3:(List Bool)×(List Qa)×(List Int)×(List Int))(v95:Int)(v96 v97:List Int){o:f16n2O},f16n2 f bc1 bb2 bj3 v95 v96 v97=some o→TL Try.prog Try.f16.ntmps 0 f (cL (cL (Qi 1 (cL (Qi 3 c16))))) (f16n2S bc1 bb2 bj3 v95 v96 v97) (·=f16n2E bc1 bb2 bj3 o)
 | 0,_,_,_,_,_,_,o,h=>by rw [f16n2] at h; cases h
 | f+1,bc1,bb2,bj3,v95,v96,v97,o,h=>by
  rw [f16n2] at h;refine TL.body (K:=fun s=>∃v95:Int,∃v96:List Int,∃v97:List Int,s=(f16n2S bc1 bb2 bj3 v95 v96 v97)∧f16n2 f bc1 bb2 bj3 v95 v96 v97=some o) ?_ (by rintro _ ⟨v95,v96,v97,rfl,hk⟩; exact f16n2_ok f _ _ _ _ _ _ hk);rcases Qh h with ⟨h99,h⟩|⟨h99,h⟩
  ·obtain ⟨x117,h118,h⟩:=Qd h;obtain ⟨x119,h120,h⟩:=Qd h;obtain ⟨x121,h122,h⟩:=Qd h;rcases Qh h with ⟨h123,h⟩|⟨h123,h⟩
   ·obtain rfl:=Qe h;exact rK Qg 3 [j3,([],[(0,.idx (Int.toNat v95) (Qc.cells x117))],[]),([],[(5,.call (jI x119) [none,jR 4 Qa.cells bj3.2.1,none,none,some (.box 45 ((Qc.cells x117).map .pl))])],[]),([],[(5,.call (jI x121) (jN 4 [some (.box 45 ((Qc.cells x117).map .pl))]))],[]),([(3,true),(4,true)],[(5,.bool true)],[]),j3] [some true,none] [] [] [6] .ret ((f16n2E bc1 bb2 bj3 .ret).2) (ap h99 (ap (Qf h118).1 (ap (Qj Qc.cells (Qf h118).2) (ap (Qn.rn 5 [1,4] (f32r1_ok bj3.2.1 x117 h120)) (ap (Qn.rn 5 [4] (f34r1_ok bb2 x117 h122)) (ap3 h123 an)))))) (Qm.out rfl rfl)
   ·rcases Qh h with ⟨h124,h⟩|⟨h124,h⟩
    ·obtain rfl:=Qe h;exact rK Qg 3 [j3,([],[(0,.idx (Int.toNat v95) (Qc.cells x117))],[]),([],[(5,.call (jI x119) [none,jR 4 Qa.cells bj3.2.1,none,none,some (.box 45 ((Qc.cells x117).map .pl))])],[]),([],[(5,.call (jI x121) (jN 4 [some (.box 45 ((Qc.cells x117).map .pl))]))],[]),(jF [3,4]++jT [7,8,9,10,11,12,13,14,15],[(5,.bool false),(16,.bool true)],[]),j3] [some true,none] [] [] [6] .ret ((f16n2E bc1 bb2 bj3 .ret).2) (ap h99 (ap (Qf h118).1 (ap (Qj Qc.cells (Qf h118).2) (ap (Qn.rn 5 [1,4] (f32r1_ok bj3.2.1 x117 h120)) (ap (Qn.rn 5 [4] (f34r1_ok bb2 x117 h122)) (ap3 h123 (ap2 h124 (ap4 h124 (ap4 h124 an))))))))) (Qm.out rfl rfl)
    ·obtain ⟨h125,h⟩:=Ql h;obtain ⟨h126,h⟩:=Ql h;obtain ⟨x127,h128,h⟩:=Qd h;rcases Qh h with ⟨h129,h⟩|⟨h129,h⟩
     ·obtain ⟨x130,h131,h⟩:=Qd h;obtain ⟨x132,h133,h⟩:=Qd h
      exact rE Qg [j3,([],[(0,.idx (Int.toNat v95) (Qc.cells x117))],[]),([],[(5,.call (jI x119) [none,jR 4 Qa.cells bj3.2.1,none,none,some (.box 45 ((Qc.cells x117).map .pl))])],[]),([],[(5,.call (jI x121) (jN 4 [some (.box 45 ((Qc.cells x117).map .pl))]))],[]),(jF [3,4,7,8,9,10,11,12,13,14,15],[(5,.bool false),(12,.at_ (Int.toNat x119)),(13,.at_ (Int.toNat x121)),(14,.arr ((Int.toNat x119)*8+(Int.toNat x121)*1) (Qq x127)),(16,.bool false)],[]),([],[(5,.at_ (Int.toNat x119)),(6,.idx 0 ((cInt .i64) x130)),(10,.at_ (Int.toNat x119)),(11,.idx 0 ((cInt .i64) x130))],[(11,.row 2 ((v96.set (Int.toNat x119) (wr64 (x130-x117.Amount))).map (cInt .i64)))]),([],[(5,.at_ (Int.toNat x121)),(6,.idx 0 ((cInt .i64) x132)),(10,.at_ (Int.toNat x121)),(11,.idx 0 ((cInt .i64) x132))],[(11,.row 3 ((v97.set (Int.toNat x121) (wr64 (x132-x117.Amount))).map (cInt .i64)))]),j3] [some true,some false] [] [0,1,2,3] [7,26,27,28] (.norm,(f16n2S bc1 bb2 bj3 (wr64 (v95+1)) (v96.set (Int.toNat x119) (wr64 (x130-x117.Amount))) (v97.set (Int.toNat x121) (wr64 (x132-x117.Amount))))) (ap h99 (ap (Qf h118).1 (ap (Qj Qc.cells (Qf h118).2) (ap (Qn.rn 5 [1,4] (f32r1_ok bj3.2.1 x117 h120)) (ap (Qn.rn 5 [4] (f34r1_ok bb2 x117 h122)) (ap3 h123 (ap2 h124 (ap4 h124 (ap (Qu h125) (ap (Qt h125) (ap h124 (ap (Qu h126) (ap (Qt h126) (ap h124 (ap ((by omega:(4+(Int.toNat x119)*8+(Int.toNat x121)*1)=4+((Int.toNat x119)*8+(Int.toNat x121)*1))) (ap (Qac Qq h128) (ap2 h124 (ap (Qv h129) (ap (Qf h131).1 (ap (Qr (cInt .i64) (Qf h131).2) (ap (Qj (cInt .i64) (Qf h131).2) (ap (Qf h131).1 (ap (Qr (cInt .i64) (Qf h131).2) (ap (Qj (cInt .i64) (Qf h131).2) (ap (Qch (xs:=v96) (c:=(cInt .i64)) (k:=(Int.toNat x119)) (x:=(wr64 (x130-x117.Amount)))) (ap (Qf h133).1 (ap (Qr (cInt .i64) (Qf h133).2) (ap (Qj (cInt .i64) (Qf h133).2) (ap (Qf h133).1 (ap (Qr (cInt .i64) (Qf h133).2) (ap (Qj (cInt .i64) (Qf h133).2) (ap (Qch (xs:=v97) (c:=(cInt .i64)) (k:=(Int.toNat x121)) (x:=(wr64 (x132-x117.Amount)))) an)))))))))))))))))))))))))))))))) (Qm.norm ⟨(wr64 (v95+1)),(v96.set (Int.toNat x119) (wr64 (x130-x117.Amount))),(v97.set (Int.toNat x121) (wr64 (x132-x117.Amount))),rfl,h⟩)
     ·obtain rfl:=Qe h
      exact rK Qg 3 [j3,([],[(0,.idx (Int.toNat v95) (Qc.cells x117))],[]),([],[(5,.call (jI x119) [none,jR 4 Qa.cells bj3.2.1,none,none,some (.box 45 ((Qc.cells x117).map .pl))])],[]),([],[(5,.call (jI x121) (jN 4 [some (.box 45 ((Qc.cells x117).map .pl))]))],[]),(jF [3,4,7,8,9,10,11,12,13,14,15],[(5,.bool false),(12,.at_ (Int.toNat x119)),(13,.at_ (Int.toNat x121)),(14,.arr ((Int.toNat x119)*8+(Int.toNat x121)*1) (Qq x127)),(16,.bool false)],[]),j3] [some true,some true] [] [] [6] .ret ((f16n2E bc1 bb2 bj3 .ret).2) (ap h99 (ap (Qf h118).1 (ap (Qj Qc.cells (Qf h118).2) (ap (Qn.rn 5 [1,4] (f32r1_ok bj3.2.1 x117 h120)) (ap (Qn.rn 5 [4] (f34r1_ok bb2 x117 h122)) (ap3 h123 (ap2 h124 (ap4 h124 (ap (Qu h125) (ap (Qt h125) (ap h124 (ap (Qu h126) (ap (Qt h126) (ap h124 (ap ((by omega:(4+(Int.toNat x119)*8+(Int.toNat x121)*1)=4+((Int.toNat x119)*8+(Int.toNat x121)*1))) (ap (Qac Qq h128) (ap2 h124 (ap (Qak h129) an)))))))))))))))))) (Qm.out rfl rfl)
  ·obtain rfl:=Qe h;exact rK Qg 2 [j3] [some false] [] [0,1,2,3] [7] (.exit 0) ((f16n2E bc1 bb2 bj3 (.exit0 v96 v97)).2) (ap h99 an) (Qm.out rfl rfl)
noncomputable def f16n2L(bc1:List Qc)(bb2:List Qb)(bj3:(List Bool)×(List Qa)×(List Int)×(List Int)):List Qc→Int→(List Int)→(List Int)→Option f16n2O
 | [],v95,v96,v97 =>
  some (.exit0 v96 v97)
 | x0::rest,v95,v96,v97 =>
  (f32r1 bj3.2.1 x0).bind fun x119 =>
  (f34r1 bb2 x0).bind fun x121 =>
  bif decide (x119<0) then
   some .ret
  else
   bif decide (x121<0) then
    some .ret
   else
    req (idxB x119 10) <|
    req (idxB x121 8) <|
    (bj3.1[((Int.toNat x119)*8+(Int.toNat x121)*1)]?).bind fun x127 =>
    bif x127 then
     (at? v96 x119).bind fun x130 =>
     (at? v97 x121).bind fun x132 =>
     (f16n2L bc1 bb2 bj3 rest (v95+1) (v96.set (Int.toNat x119) (wr64 (x130-x0.Amount))) (v97.set (Int.toNat x121) (wr64 (x132-x0.Amount))))
    else
     some .ret
theorem f16n2L_eq(bc1:List Qc)(bb2:List Qb)(bj3:(List Bool)×(List Qa)×(List Int)×(List Int)):∀(rest:List Qc)(f k:Nat)(v96 v97:List Int),bc1.drop k=rest→bc1.length≤maxLen→rest.length<f→f16n2 f bc1 bb2 bj3 (k:Int) v96 v97=f16n2L bc1 bb2 bj3 rest (k:Int) v96 v97
 | _,0,_,_,_,_,_,hf=>absurd hf (Nat.not_lt_zero _)
 | [],f+1,k,v96,v97,hd,hm,hf=>by
  have hk:¬((k:Int)<(bc1.length:Int)):=by have:=Qai hd; omega
  rw [f16n2,f16n2L];simp only [decide_eq_false hk,cond_false]
 | x0::rest,f+1,k,v96,v97,hd,hm,hf=>by
  obtain ⟨hx,hlt,hd'⟩:=Qaj hd;have hk:(k:Int)<(bc1.length:Int):=by omega
  have hw:wr64 ((k:Int)+1)=(k:Int)+1:=Qbk (by omega) (by unfold maxLen at hm; omega);have ih:∀(v96 v97:List Int),f16n2 f bc1 bb2 bj3 ((k:Int)+1) v96 v97=f16n2L bc1 bb2 bj3 rest ((k:Int)+1) v96 v97:=fun v96 v97=>f16n2L_eq bc1 bb2 bj3 rest f (k+1) v96 v97 hd' hm (by simpa using hf);rw [f16n2,f16n2L];simp only [decide_eq_true hk,cond_true,Qbv,hx,Option.bind_some,hw,ih]
theorem f16n2_run(bc1:List Qc)(bb2:List Qb)(bj3:(List Bool)×(List Qa)×(List Int)×(List Int))(v96 v97:List Int)(hm:bc1.length≤maxLen):f16n2 FUEL bc1 bb2 bj3 0 v96 v97=f16n2L bc1 bb2 bj3 bc1 0 v96 v97:=f16n2L_eq bc1 bb2 bj3 bc1 FUEL 0 v96 v97 List.drop_zero hm (Qaw hm)
inductive f16n1O where
 | norm (v140:List Int) (v141:List Int)
 | ret
def f16n1E(bc1:List Qc)(bb2:List Qb)(bj3:(List Bool)×(List Qa)×(List Int)×(List Int)):f16n1O→Ex×Tr×Hp
 | .norm v140 v141=>(.norm,mkS [(7,(.bp 0 0))],[some (.abox 57 [(.own 1),(jL 2 Qb.cells bb2),(.own 2),(.own 3)] (bj3.1.map Qq)),jR 4 Qa.cells bj3.2.1,some (.row false 1 (v140.map (cInt .i64))),some (.row false 1 (v141.map (cInt .i64)))])
 | .ret=>(.ret,mkS [(6,(jB false))],[])
def f16n1S(bc1:List Qc)(bb2:List Qb)(bj3:(List Bool)×(List Qa)×(List Int)×(List Int)):Tr×Hp:=(mkS [(2,(jL 3 Qc.cells bc1)),(7,(.bp 0 0))],[some (.abox 57 [(.own 1),(jL 2 Qb.cells bb2),(.own 2),(.own 3)] (bj3.1.map Qq)),jR 4 Qa.cells bj3.2.1,some (.row false 1 (bj3.2.2.1.map (cInt .i64))),some (.row false 1 (bj3.2.2.2.map (cInt .i64)))])
noncomputable def f16n1(bc1:List Qc)(bb2:List Qb)(bj3:(List Bool)×(List Qa)×(List Int)×(List Int)):Option f16n1O :=
 (f16n2 FUEL bc1 bb2 bj3 0 bj3.2.2.1 bj3.2.2.2).bind fun o136=>match o136 with
 | .exit0 v138 v139=>some (.norm v138 v139)
 | .ret=>some .ret
theorem f16n1_ok(bc1:List Qc)(bb2:List Qb)(bj3:(List Bool)×(List Qa)×(List Int)×(List Int)){o:f16n1O}(h:f16n1 bc1 bb2 bj3=some o):T Try.prog Try.f16.ntmps 0 (cL (Qi 3 c16)) (f16n1S bc1 bb2 bj3) (·=f16n1E bc1 bb2 bj3 o):=by
 unfold f16n1 at h;refine rN Qg 1 [([],[],[(1,.val (jI (bc1.length:Int)))])] [] [] [0,1,2,3] [7,26,27,28] (f16n2S bc1 bb2 bj3 0 bj3.2.2.1 bj3.2.2.2) (ap (Qp (xs:=bc1) (c:=Qc.cells)) an) ?_;obtain ⟨o136,h137,h⟩:=Qd h;cases o136 with
 | exit0 v138 v139 =>
  obtain rfl:=Qe h;exact T.last' (T.bl (i:=0) (by kernel_rfl) (by kernel_rfl) (f16n2_ok FUEL bc1 bb2 bj3 0 bj3.2.2.1 bj3.2.2.2 h137)) (tds:=[]) (m:=[0,1,2,3]) (keep:=[7]) (st2:=(f16n1E bc1 bb2 bj3 (.norm v138 v139)).2) (by kernel_rfl) an rfl
 | ret =>
  obtain rfl:=Qe h;exact T.last' (T.bl (i:=0) (by kernel_rfl) (by kernel_rfl) (f16n2_ok FUEL bc1 bb2 bj3 0 bj3.2.2.1 bj3.2.2.2 h137)) (tds:=[]) (m:=[]) (keep:=[6]) (st2:=(f16n1E bc1 bb2 bj3 .ret).2) (by kernel_rfl) an rfl
inductive f16n0O where
 | ret (v156:Bool)
def f16n0E(a1:List Qa)(a2:List Qb)(a3:List Qc):f16n0O→Ex×Tr×Hp
 | .ret v156=>(.ret,mkS [(6,(jB v156))],[])
def f16n0S(a1:List Qa)(a2:List Qb)(a3:List Qc):Tr×Hp:=(Qal [(jL 4 Qa.cells a1),(jL 2 Qb.cells a2),(jL 3 Qc.cells a3)] 0 .leaf,[])
noncomputable def f16n0(a1:List Qa)(a2:List Qb)(a3:List Qc):Option f16n0O :=
 (f13 a1 a2).bind fun x10 =>
 bif decide (x10=0) then
  (f31 a3).bind fun x13 =>
  bif x13 then
   (f22r1 a1 a2).bind fun x18 =>
   (f16n1 a3 a2 x18).bind fun o142=>match o142 with
   | .norm v144 v145=>(f38_36 v144).bind fun x151 =>
    bif x151 then
     some (.ret false)
    else
     (f38_37 v145).bind fun x154 =>
     some (.ret (!x154))
   | .ret=>some (.ret false)
  else
   some (.ret false)
 else
  some (.ret false)
theorem f16n0_ok(a1:List Qa)(a2:List Qb)(a3:List Qc){o:f16n0O}(h:f16n0 a1 a2 a3=some o):T Try.prog Try.f16.ntmps 0 c16 (f16n0S a1 a2 a3) (·=f16n0E a1 a2 a3 o):=by
 unfold f16n0 at h;obtain ⟨x10,h11,h⟩:=Qd h;rcases Qh h with ⟨h12,h⟩|⟨h12,h⟩
 ·obtain ⟨x13,h14,h⟩:=Qd h;rcases Qh h with ⟨h15,h⟩|⟨h15,h⟩
  ·obtain ⟨x18,h19,h⟩:=Qd h;refine rN Qg 3 [j3,(jF [5,6,7],[jH 2 (jI x10),jH 6 (jB x13),(8,.bool false)],[]),([],[(2,.call (.bp 0 0) [some (.abox 57 [(.own 1),(jL 2 Qb.cells a2),(.own 2),(.own 3)] (x18.1.map Qq)),jR 4 Qa.cells x18.2.1,some (.row false 1 (x18.2.2.1.map (cInt .i64))),some (.row false 1 (x18.2.2.2.map (cInt .i64)))])],[])] [some false] [] [0,1,2,3] [2,7] (f16n1S a3 a2 x18) (ap4 (Qv h12) (ap (f13_ok a1 a2 h11) (ap (f31_ok a3 h14) (ap (Qv h15) (ap (f22r1_ok a1 a2 h19) an))))) ?_;obtain ⟨o142,h143,h⟩:=Qd h;cases o142 with
   | norm v144 v145 =>
    refine T.oneN (by kernel_rfl) (f16n1_ok a3 a2 x18 h143) (st2:=(f16n1E a3 a2 x18 (.norm v144 v145)).2) rfl ?_;obtain ⟨x151,h152,h⟩:=Qd h;rcases Qh h with ⟨h153,h⟩|⟨h153,h⟩
    ·obtain rfl:=Qe h;exact rE Qg [j3,j3,(jF [8,9,10,11,12,13,14],[jH 5 (jB x151),(15,.bool false)],[])] [] [] [] [6] (.ret,(f16n0E a1 a2 a3 (.ret false)).2) (ap4 (Qv h153) (ap4 (Qv h153) (ap (f38_36_ok v144 h152) an))) rfl
    ·obtain ⟨x154,h155,h⟩:=Qd h;obtain rfl:=Qe h;exact rE Qg [j3,j3,(jT [8,9,10,11,12,13,14],[jH 5 (jB x151),jH 13 (jB x154),(15,.bool true)],[])] [] [] [] [6] (.ret,(f16n0E a1 a2 a3 (.ret (!x154))).2) (ap4 (Qak h153) (ap4 (Qak h153) (ap (f38_36_ok v144 h152) (ap (f38_37_ok v145 h155) an)))) rfl
   | ret =>
    obtain rfl:=Qe h;exact T.oneX' (by kernel_rfl) (f16n1_ok a3 a2 x18 h143) (tds:=[]) (m:=[]) (keep:=[6]) (st2:=(f16n0E a1 a2 a3 (.ret false)).2) (by kernel_rfl) an rfl rfl
  ·obtain rfl:=Qe h;exact rK Qg 2 [j3,(jF [5,6,7],[jH 2 (jI x10),jH 6 (jB x13),(8,.bool false)],[]),j3] [some true] [] [] [6] .ret ((f16n0E a1 a2 a3 (.ret false)).2) (ap4 (Qv h12) (ap (f13_ok a1 a2 h11) (ap (f31_ok a3 h14) (ap (Qak h15) an)))) rfl
 ·obtain rfl:=Qe h;exact rK Qg 2 [j3,(jT [5,6,7],[jH 2 (jI x10),(8,.bool true)],[]),j3] [none] [] [] [6] .ret ((f16n0E a1 a2 a3 (.ret false)).2) (ap4 (Qak h12) (ap (f13_ok a1 a2 h11) an)) rfl
noncomputable def f16(a1:List Qa)(a2:List Qb)(a3:List Qc):Option Bool:=(f16n0 a1 a2 a3).bind fun o=>match o with
 | .ret v156=>some v156
theorem f16_ok(a1:List Qa)(a2:List Qb)(a3:List Qc){r:Bool}(h:f16 a1 a2 a3=some r):Qn Try.prog false 16 [(jL 4 Qa.cells a1),(jL 2 Qb.cells a2),(jL 3 Qc.cells a3)] [] (jB r) []:=by
 unfold f16 at h;obtain ⟨o,ho,h⟩:=Qd h;cases o with
 | ret v156 =>
  obtain rfl:=Qe h;exact Qn.plain Qg (f:=Try.f16) (c:=c16) (by kernel_rfl) (by kernel_rfl) (by kernel_rfl) (by kernel_rfl) ((f16n0_ok a1 a2 a3 ho).mono fun r e=>by subst e; exact ⟨.inl rfl,(jB v156),(jB v156),by kernel_rfl,by kernel_rfl,((Wk.refl _):Wk (jB v156) (jB v156))⟩)

noncomputable def c3:Code:=Try.f3.body.getD .skip
inductive f3n0O where
 | ret (v68:Bool)
def f3n0E(a1:List Qa)(a2:List Qb):f3n0O→Ex×Tr×Hp
 | .ret v68=>(.ret,mkS [(4,(jB v68))],[])
def f3n0S(a1:List Qa)(a2:List Qb):Tr×Hp:=(Qal [(jL 4 Qa.cells a1),(jL 2 Qb.cells a2)] 0 .leaf,[])
noncomputable def f3n0(a1:List Qa)(a2:List Qb):Option f3n0O :=
 f9.bind fun x5 =>
 (f10 a1 a2 []).bind fun x11 =>
 bif x11 then
  some (.ret x5)
 else
  bif x5 then
   (f12r1 a1).bind fun x19 =>
   (f11 x19 a2).bind fun x21 =>
   (f13 a1 a2).bind fun x42 =>
   bif decide (x42=0) then
    bif decide (8<(a2.length:Int)) then
     some (.ret false)
    else
     (f14 a1 a2).bind fun x51 =>
     bif x51 then
      bif decide (x21.2=0) then
       (f15 a1 a2 x21.1).bind fun x61 =>
       bif x61 then
        (f16 a1 a2 x21.1).bind fun x64 =>
        some (.ret x64)
       else
        some (.ret false)
      else
       some (.ret false)
     else
      bif decide (x21.2=50) then
       some (.ret (decide ((x21.1.length:Int)=0)))
      else
       some (.ret false)
   else
    bif decide (x21.2=8) then
     some (.ret (decide ((x21.1.length:Int)=0)))
    else
     some (.ret false)
  else
   some (.ret x5)
theorem f3n0_ok(a1:List Qa)(a2:List Qb){o:f3n0O}(h:f3n0 a1 a2=some o):T Try.prog Try.f3.ntmps 0 c3 (f3n0S a1 a2) (·=f3n0E a1 a2 o):=by
 unfold f3n0 at h;obtain ⟨x5,h6,h⟩:=Qd h;obtain ⟨x11,h12,h⟩:=Qd h;rcases Qh h with ⟨h13,h⟩|⟨h13,h⟩
 ·obtain rfl:=Qe h;exact rK Qg 3 [j3,([],[jH 0 (jB x5)],[]),([(4,true),(5,true)],[jH 2 (jB x11),(6,.bool true)],[]),j3] [none] [] [] [4] .ret ((f3n0E a1 a2 (.ret x5)).2) (ap (f9_ok h6) (ap3 h13 (ap (Qn.wk (args':=[(jL 4 Qa.cells a1),(jL 2 Qb.cells a2),(.pl (.sl .nil 0 []))]) (f10_ok a1 a2 [] h12) (wlc (Wk.refl _) (wlc (Wk.refl _) (wlc (Wk.pl (WkP.nil (f:=.nil) (sz:=0) (sz':=3))) wln))) (Wk.refl _) rfl) an))) rfl
 ·rcases Qh h with ⟨h14,h⟩|⟨h14,h⟩
  ·obtain ⟨x19,h20,h⟩:=Qd h;obtain ⟨x21,h22,h⟩:=Qd h;refine rN Qg 4 [j3,([],[jH 0 (jB x5)],[]),([(4,false),(5,false)],[jH 2 (jB x11),(6,.bool false)],[]),([],[(1,.call (.own 0) [jR 4 Qa.cells x19]),jH 3 (.tup [(jL 3 Qc.cells x21.1),(jI x21.2)])],[])] [some false] [] [] [0,1,5,6,7] (mkS [(0,(jL 4 Qa.cells a1)),(1,(jL 2 Qb.cells a2)),(5,(jB x5)),(6,(jL 3 Qc.cells x21.1)),(7,(jI x21.2))],[]) (ap (f9_ok h6) (ap3 h13 (ap (Qn.wk (args':=[(jL 4 Qa.cells a1),(jL 2 Qb.cells a2),(.pl (.sl .nil 0 []))]) (f10_ok a1 a2 [] h12) (wlc (Wk.refl _) (wlc (Wk.refl _) (wlc (Wk.pl (WkP.nil (f:=.nil) (sz:=0) (sz':=3))) wln))) (Wk.refl _) rfl) (ap (Qv h14) (ap (f12r1_ok a1 h20) (ap (f11_ok x19 a2 h22) an)))))) ?_;obtain ⟨x42,h43,h⟩:=Qd h;rcases Qh h with ⟨h44,h⟩|⟨h44,h⟩
   ·rcases Qh h with ⟨h46,h⟩|⟨h46,h⟩
    ·obtain rfl:=Qe h;exact rK Qg 2 [([],[jH 2 (jI x42)],[]),([],[],[(1,.val (jI (a2.length:Int)))]),j3] [some false,some true] [] [] [4] .ret ((f3n0E a1 a2 (.ret false)).2) (ap (f13_ok a1 a2 h43) (ap (Qv h44) (ap (Qp (xs:=a2) (c:=Qb.cells)) (ap h46 an)))) rfl
    ·obtain ⟨x51,h52,h⟩:=Qd h;rcases Qh h with ⟨h53,h⟩|⟨h53,h⟩
     ·rcases Qh h with ⟨h60,h⟩|⟨h60,h⟩
      ·obtain ⟨x61,h62,h⟩:=Qd h;rcases Qh h with ⟨h63,h⟩|⟨h63,h⟩
       ·obtain ⟨x64,h65,h⟩:=Qd h;obtain rfl:=Qe h;exact rE Qg [([],[jH 2 (jI x42)],[]),([],[],[(1,.val (jI (a2.length:Int)))]),([],[jH 2 (jB x51)],[]),(jT [2,3,6,7,8,9,12,13,14,15],[(4,.bool true),jH 9 (jB x61),(10,.bool true),jH 15 (jB x64),(16,.bool true)],[])] [some false,some false,some false] [] [] [4] (.ret,(f3n0E a1 a2 (.ret x64)).2) (ap (f13_ok a1 a2 h43) (ap (Qv h44) (ap (Qp (xs:=a2) (c:=Qb.cells)) (ap h46 (ap (f14_ok a1 a2 h52) (ap (Qv h53) (ap3 h14 (ap h60 (ap4 h60 (ap h63 (ap4 h63 (ap (f15_ok a1 a2 x21.1 h62) (ap (f16_ok a1 a2 x21.1 h65) an))))))))))))) rfl
       ·obtain rfl:=Qe h;exact rE Qg [([],[jH 2 (jI x42)],[]),([],[],[(1,.val (jI (a2.length:Int)))]),([],[jH 2 (jB x51)],[]),(jF [12,13,14,15]++jT [2,3,6,7,8,9],[(4,.bool true),jH 9 (jB x61),(10,.bool true),(16,.bool false)],[])] [some false,some false,some false] [] [] [4] (.ret,(f3n0E a1 a2 (.ret false)).2) (ap (f13_ok a1 a2 h43) (ap (Qv h44) (ap (Qp (xs:=a2) (c:=Qb.cells)) (ap h46 (ap (f14_ok a1 a2 h52) (ap (Qv h53) (ap3 h14 (ap h60 (ap4 h60 (ap h63 (ap4 h63 (ap (f15_ok a1 a2 x21.1 h62) an)))))))))))) rfl
      ·obtain rfl:=Qe h;exact rE Qg [([],[jH 2 (jI x42)],[]),([],[],[(1,.val (jI (a2.length:Int)))]),([],[jH 2 (jB x51)],[]),(jF [6,7,8,9]++jT [2,3],[(4,.bool true),(10,.bool false)],[])] [some false,some false,some false] [] [] [4] (.ret,(f3n0E a1 a2 (.ret false)).2) (ap (f13_ok a1 a2 h43) (ap (Qv h44) (ap (Qp (xs:=a2) (c:=Qb.cells)) (ap h46 (ap (f14_ok a1 a2 h52) (ap (Qv h53) (ap3 h14 (ap h60 (ap4 h60 an))))))))) rfl
     ·rcases Qh h with ⟨h66,h⟩|⟨h66,h⟩
      ·obtain rfl:=Qe h;exact rK Qg 3 [([],[jH 2 (jI x42)],[]),([],[],[(1,.val (jI (a2.length:Int)))]),([],[jH 2 (jB x51)],[]),(jT [2,3,6,7,8],[(4,.bool true),(9,.bool true)],[(7,.val (jI (x21.1.length:Int)))])] [some false,some false,some true] [] [] [4] .ret ((f3n0E a1 a2 (.ret (decide ((x21.1.length:Int)=0)))).2) (ap (f13_ok a1 a2 h43) (ap (Qv h44) (ap (Qp (xs:=a2) (c:=Qb.cells)) (ap h46 (ap (f14_ok a1 a2 h52) (ap (Qak h53) (ap3 h14 (ap2 h66 (ap (Qp (xs:=x21.1) (c:=Qc.cells)) (ap2 h66 an)))))))))) rfl
      ·obtain rfl:=Qe h;exact rK Qg 3 [([],[jH 2 (jI x42)],[]),([],[],[(1,.val (jI (a2.length:Int)))]),([],[jH 2 (jB x51)],[]),(jF [6,7,8]++jT [2,3],[(4,.bool true),(9,.bool false)],[])] [some false,some false,some true] [] [] [4] .ret ((f3n0E a1 a2 (.ret false)).2) (ap (f13_ok a1 a2 h43) (ap (Qv h44) (ap (Qp (xs:=a2) (c:=Qb.cells)) (ap h46 (ap (f14_ok a1 a2 h52) (ap (Qak h53) (ap3 h14 (ap4 h66 an)))))))) rfl
   ·rcases Qh h with ⟨h67,h⟩|⟨h67,h⟩
    ·obtain rfl:=Qe h;exact rK Qg 1 [([],[jH 2 (jI x42)],[]),(jT [2,3,6,7,8],[(4,.bool true),(9,.bool true)],[(7,.val (jI (x21.1.length:Int)))])] [some true] [] [] [4] .ret ((f3n0E a1 a2 (.ret (decide ((x21.1.length:Int)=0)))).2) (ap (f13_ok a1 a2 h43) (ap (Qak h44) (ap3 h14 (ap2 h67 (ap (Qp (xs:=x21.1) (c:=Qc.cells)) (ap2 h67 an)))))) rfl
    ·obtain rfl:=Qe h;exact rK Qg 1 [([],[jH 2 (jI x42)],[]),(jF [6,7,8]++jT [2,3],[(4,.bool true),(9,.bool false)],[])] [some true] [] [] [4] .ret ((f3n0E a1 a2 (.ret false)).2) (ap (f13_ok a1 a2 h43) (ap (Qak h44) (ap3 h14 (ap4 h67 an)))) rfl
  ·obtain rfl:=Qe h;exact rK Qg 3 [j3,([],[jH 0 (jB x5)],[]),([(4,false),(5,false)],[jH 2 (jB x11),(6,.bool false)],[]),j3] [some true] [] [] [4] .ret ((f3n0E a1 a2 (.ret x5)).2) (ap (f9_ok h6) (ap3 h13 (ap (Qn.wk (args':=[(jL 4 Qa.cells a1),(jL 2 Qb.cells a2),(.pl (.sl .nil 0 []))]) (f10_ok a1 a2 [] h12) (wlc (Wk.refl _) (wlc (Wk.refl _) (wlc (Wk.pl (WkP.nil (f:=.nil) (sz:=0) (sz':=3))) wln))) (Wk.refl _) rfl) (ap (Qak h14) an)))) rfl
noncomputable def f3(a1:List Qa)(a2:List Qb):Option Bool:=(f3n0 a1 a2).bind fun o=>match o with
 | .ret v68=>some v68
theorem f3_ok(a1:List Qa)(a2:List Qb){r:Bool}(h:f3 a1 a2=some r):Qn Try.prog false 3 [(jL 4 Qa.cells a1),(jL 2 Qb.cells a2)] [] (jB r) []:=by
 unfold f3 at h;obtain ⟨o,ho,h⟩:=Qd h;cases o with
 | ret v68 =>
  obtain rfl:=Qe h;exact Qn.plain Qg (f:=Try.f3) (c:=c3) (by kernel_rfl) (by kernel_rfl) (by kernel_rfl) (by kernel_rfl) ((f3n0_ok a1 a2 ho).mono fun r e=>by subst e; exact ⟨.inl rfl,(jB v68),(jB v68),by kernel_rfl,by kernel_rfl,((Wk.refl _):Wk (jB v68) (jB v68))⟩)




noncomputable def c4:Code:=Try.f4.body.getD .skip
end Go.Proofs.Ytinabbgjignkbaa
namespace Go.Proofs.Ytinabbgjignkbaa
set_option linter.unusedVariables false
set_option linter.unusedSimpArgs false
set_option maxRecDepth 100000
open Go.RowKit


noncomputable def c6:Code:=Try.f6.body.getD .skip
end Go.Proofs.Ytinabbgjignkbaa
namespace Go.Proofs.Ytinabbgjignkbaa
set_option linter.unusedVariables false
set_option linter.unusedSimpArgs false
set_option maxRecDepth 100000
open Go.RowKit
noncomputable def c7:Code:=Try.f7.body.getD .skip

end Go.Proofs.Ytinabbgjignkbaa
namespace Go.Proofs.Ytinabbgjignkbaa
set_option linter.unusedVariables false
set_option linter.unusedSimpArgs false
open Go.RowKit
section
variable {c:Qa→Qa→Int} (hc:∀x y,f42 x y=some (c x y)) (o:SWo fun x y=>decide (c x y<0))
abbrev st_lt(c:Qa→Qa→Int):Qa→Qa→Bool:=fun x y=>decide (c x y<0)

include hc o in
theorem st_ins_in(a b i:Int):∀(n:Nat)(S P R:List Qa)(x:Qa)(f:Nat),S.length=n→n<f→P.length+n≤1000000→Sd (st_lt c) S →
  ∃S',f67r1n2 f a b i ((P.length+n:Nat):Int) (P++(S++x::R))=some (.exit2 (P++(S'++R)))∧Sd (st_lt c) S'∧Cl (st_lt c) (S++[x]) S'∨a≠(P.length:Int)
 | _,S,P,R,x,0,_,h,_,_=>absurd h (Nat.not_lt_zero _)
 | n,S,P,R,x,f+1,hn,hf,hb,hs=>by
  by_cases ha:a=(P.length:Int)
  ·subst ha;rcases List.eq_nil_or_concat S with rfl | ⟨S0,y,rfl⟩
   ·refine ⟨[x],.inl ⟨?_,by simp,Cl.refl _⟩⟩;have:n=0:=by simpa using hn.symm
    subst this;rw [f67r1n2,decide_eq_false (by omega),cond_false]; simp
   ·rw [List.concat_eq_append] at hn hs ⊢;have hn':n=S0.length+1:=by simpa using hn.symm
    subst hn';have e1:P++((S0++[y])++x::R)=(P++S0)++y::x::R:=by simp
    have e2:P++((S0++[y])++x::R)=((P++S0)++[y])++x::R:=by simp
    have k1:wr64 (((P.length+(S0.length+1):Nat):Int)-1)=((P.length+S0.length:Nat):Int):=by rw [wrIn (by omega) (by omega)]; omega
    rw [f67r1n2,decide_eq_true (by omega),cond_true,k1,at_len (k:=P.length+(S0.length+1)) e2 (by simp<;>omega),at_len (k:=P.length+S0.length) e1 (by simp)];simp only [Option.bind_some,hc];rw [show (Int.toNat ((P.length+(S0.length+1):Nat):Int))=P.length+(S0.length+1) from rfl,show (Int.toNat ((P.length+S0.length:Nat):Int))=P.length+S0.length from rfl,set_len (k:=P.length+(S0.length+1)) (y:=y) e2 (by simp<;>omega)];have e3:((P++S0)++[y])++y::R=(P++S0)++y::y::R:=by simp
    rw [at_len (k:=P.length+S0.length) e3 (by simp),set_len (k:=P.length+S0.length) (y:=x) e3 (by simp)];cases hlt:decide (c x y<0) with
    | true =>
     have hs':=List.pairwise_append.1 hs;rcases st_ins_in (P.length:Int) b i S0.length S0 P (y::R) x f rfl (by omega) (by omega) hs'.1 with ⟨S',h | h⟩
     ·obtain ⟨h1,h2,h3⟩:=h;simp only [cond_true,Option.bind_some];rw [show (P++S0)++x::y::R=P++(S0++x::(y::R)) by simp,h1];refine ⟨S'++[y],.inl ⟨by simp,h2.app (by simp) fun z hz w hw=>?_,?_⟩⟩
      ·rw [List.mem_singleton.1 hw];rcases List.mem_append.1 (h3.mem.1 hz) with hz | hz
       ·exact hs'.2.2 z hz y (by simp)
       ·rw [List.mem_singleton.1 hz]; exact o.asym hlt
      ·have e:=(Cl.refl (lt:=st_lt c) S0).app (Cl.swap (lt:=st_lt c) (u:=[y]) (v:=[x]) o (fun a ha b hb=>by rw [List.mem_singleton.1 ha,List.mem_singleton.1 hb]; exact hlt));have e':=e.trans (by simpa using h3.app (Cl.refl (lt:=st_lt c) [y]):Cl (st_lt c) (S0++([x]++[y])) (S'++[y]));simpa using e'
     ·exact absurd rfl h
    | false =>
     refine ⟨(S0++[y])++[x],.inl ⟨by simp,hs.app (by simp) fun z hz w hw=>?_,Cl.refl _⟩⟩;rw [List.mem_singleton.1 hw];rcases List.mem_append.1 hz with hz | hz
     ·exact o.nt hlt ((List.pairwise_append.1 hs).2.2 z hz y (by simp))
     ·rw [List.mem_singleton.1 hz]; exact hlt
  ·exact ⟨[],.inr ha⟩
include hc o in
theorem st_ins_out:∀(X S P R:List Qa)(f:Nat),X.length<f→P.length+S.length+X.length≤1000000→Sd (st_lt c) S →
  ∃S',f67r1n3 f (P.length:Int) ((P.length+S.length+X.length:Nat):Int) ((P.length+S.length:Nat):Int) (P++(S++(X++R)))=some (.exit0 (P++(S'++R)))∧Sd (st_lt c) S'∧Cl (st_lt c) (S++X) S'
 | _,S,P,R,0,h,_,_=>absurd h (Nat.not_lt_zero _)
 | [],S,P,R,f+1,_,_,hs=>⟨S,by rw [f67r1n3,decide_eq_false (by simp),cond_false]; simp,hs,by simpa using Cl.refl _⟩
 | x::X,S,P,R,f+1,hf,hb,hs=>by
  simp only [List.length_cons] at hf hb;rcases st_ins_in hc o (P.length:Int) ((P.length+S.length+(x::X).length:Nat):Int) ((P.length+S.length:Nat):Int) S.length S P (X++R) x FUEL rfl (Qaw (Nat.le_trans (by omega:S.length≤1000000) (by unfold maxLen; decide))) (by omega) hs with ⟨S1,h | h⟩
  ·obtain ⟨h1,h2,h3⟩:=h;have hl:=h3.len;simp only [List.length_append,List.length_cons,List.length_nil] at hl;obtain ⟨S',k1,k2,k3⟩:=st_ins_out X S1 P R f (by omega) (by omega) h2;refine ⟨S',?_,k2,?_⟩
   ·rw [f67r1n3,decide_eq_true (by simp only [List.length_cons]; omega),cond_true];unfold f67r1n1;rw [show P++(S++(x::X++R))=P++(S++x::(X++R)) by simp,h1];simp only [Option.bind_some];rw [show wr64 (((P.length+S.length:Nat):Int)+1)=((P.length+S1.length:Nat):Int) by rw [wrIn (by omega) (by omega)]; omega];rw [show ((P.length+S.length+(x::X).length:Nat):Int)=((P.length+S1.length+X.length:Nat):Int) by simp only [List.length_cons]; omega];exact k1
   ·have:=(h3.app (Cl.refl (lt:=st_lt c) X)).trans k3;simpa using this
  ·exact absurd rfl h
include hc o in
theorem st_ins_ok(P X R:List Qa)(hb:P.length+X.length≤1000000):f67r1 (P.length:Int) ((P.length+X.length:Nat):Int) (P++(X++R))=some (P++(sortS (st_lt c) X++R)):=by
 have main:f67r1n3 FUEL (P.length:Int) ((P.length+X.length:Nat):Int) (wr64 ((P.length:Int)+1)) (P++(X++R))=some (.exit0 (P++(sortS (st_lt c) X++R))):=by
  rw [show wr64 ((P.length:Int)+1)=((P.length+1:Nat):Int) by rw [wrIn (by omega) (by omega)]; omega];have hF:∀n:Nat,n≤1000000→n<FUEL:=fun n hn=>Qaw (Nat.le_trans hn (by unfold maxLen; decide));cases X with
  | nil =>
   have:FUEL=(FUEL-1)+1:=by decide
   rw [this,f67r1n3,decide_eq_false (by simp<;>omega),cond_false]; rfl
  | cons x X =>
   simp only [List.length_cons] at hb;obtain ⟨S',k1,k2,k3⟩:=st_ins_out hc o X [x] P R FUEL (hF _ (by omega)) (by simp<;>omega) (by simp);rw [sortS_of o k2 k3] at k1;simp only [List.length_cons,List.length_nil,List.cons_append,List.nil_append] at k1 ⊢;rw [show P.length+(X.length+1)=P.length+(0+1)+X.length by omega,show P.length+1=P.length+(0+1) by omega];exact k1
 unfold f67r1 f67r1n0;rw [main]; rfl
end

end Go.Proofs.Ytinabbgjignkbaa
namespace Go.Proofs.Ytinabbgjignkbaa
set_option linter.unusedVariables false
set_option linter.unusedSimpArgs false
open Go.RowKit
abbrev AA:=Qa
abbrev AC:=Qb
abbrev AU:=Qc
theorem Qaf{α:Type}{b:Bool}(h:b=true)(k:Option α):req b k=k:=by rw [h]; rfl
theorem bd_{α β:Type}(a:α)(k:α→Option β):(some a).bind k=k a:=rfl

theorem f66_eq(c:Int):f66 c=some (ltrI c):=by
 unfold f66 f66n0 ltrI;cases decide (97≤c)<;>cases decide (c≤122)<;>cases decide (65≤c)<;>cases decide (c≤90)<;>rfl
theorem f50n2_eq{s:ByteArray}{k:Int}{b:UInt8}(h:at? s.data.toList k=some b):f50n2 s k=some (bif chB b then .norm else .ret):=by
 have h3:f50n3 s b k=some (.norm (!(chB b))):=by
  unfold f50n3 chB othI;rw [f66_eq,ltNot,ltNot];simp only [Option.bind_some];cases ltrI b.toNat<;>cases decide ((48:Int)≤(b.toNat:Int))<;>cases decide ((b.toNat:Int)≤57)<;>cases decide ((b.toNat:Int)=95)<;>cases decide ((b.toNat:Int)=45)<;>rfl
 unfold f50n2;rw [h];simp only [Option.bind_some,h3];cases chB b<;>rfl
theorem f50n4_at(s:ByteArray)(hs:s.data.toList.length≤1000):∀(r:List UInt8)(f k:Nat),s.data.toList.drop k=r→r.length<f→f50n4 f s (k:Int)=some (bif r.all chB then .exit0 else .ret)
 | _,0,_,_,h=>absurd h (Nat.not_lt_zero _)
 | [],f+1,k,hd,_=>by
  have:=Qai hd;rw [f50n4,sizeList,decide_eq_false (by omega),cond_false]; rfl
 | b::r,f+1,k,hd,hf=>by
  obtain ⟨h1,h2,h3⟩:=dropAt hd;rw [f50n4,sizeList,decide_eq_true (by omega),cond_true,f50n2_eq h1,List.all_cons];cases chB b with
  | false=>rfl
  | true =>
   simp only [cond_true,Option.bind_some,Bool.true_and];rw [Qcd (by omega)];exact f50n4_at s hs r f (k+1) h3 (by simpa using hf)
theorem f50_eq(s:ByteArray):f50 s=some (nmB s):=by
 unfold f50 f50n0 nmB;rw [sizeList]
 by_cases hs:s.data.toList.length≤40
 ·have h1:f50n1 s=some (bif s.data.toList.all chB then .norm else .ret):=by
   unfold f50n1;have:=f50n4_at s (by omega) s.data.toList FUEL 0 List.drop_zero (Qz (by omega));rw [show ((0:Nat):Int)=0 from rfl] at this;rw [this];cases s.data.toList.all chB<;>rfl
  rw [h1];generalize s.data.toList=l at hs;rw [decide_eq_false (by omega:¬(40:Int)<(l.length:Int))];cases l with
  | nil=>rfl
  | cons b r =>
   have h0:at? (b::r) 0=some b:=rfl;rw [decide_eq_false (by simp; omega:¬(((b::r).length:Nat):Int)<1),h0];simp only [cond_false,Option.bind_some,f66_eq,isNm,decide_eq_true hs,Bool.true_and,List.all_cons,chB];cases ltrI b.toNat<;>cases othI b.toNat<;>cases r.all chB<;>rfl
 ·rw [decide_eq_false (by omega:¬((s.data.toList.length:Nat):Int)<1),decide_eq_true (by omega:(40:Int)<((s.data.toList.length:Nat):Int))];have:isNm s.data.toList=false:=by
   generalize s.data.toList=l at hs;cases l with
   | nil=>rfl
   | cons b r=>simp only [isNm,decide_eq_false hs,Bool.false_and]
  rw [this]; rfl
theorem f53_eq(a:Int):f53 a=some false:=by unfold f53 f53n0; simp
theorem f65_eq(a:ByteArray):f65 a=some false:=by unfold f65 f65n0; simp [seq_refl]
theorem f43_eq(a b:Int):f43 a b=some (cmpI a b):=by
 unfold f43 f43n0 cmpI;rw [f53_eq,f53_eq];simp only [Option.bind_some,cond_false];cases decide (a<b)<;>cases decide (b<a)<;>rfl
theorem f49_eq(a b:ByteArray):f49 a b=some (cmpB a b):=by
 unfold f49 f49n0 cmpB;rw [f65_eq,f65_eq];simp only [Option.bind_some,cond_false];cases slt a b<;>cases seq a b<;>rfl
theorem cmpOr_zero{a b:Int} : cmpOr a b=0↔a=0∧b=0:=by
 unfold cmpOr
 by_cases h:a=0
 ·rw [decide_eq_true h]; simp [h]
 ·rw [decide_eq_false h]; simp [h]
theorem f48_eq(x y:Int):f48 [x,y]=some (cmpOr x y):=by
 unfold f48 f48n0 f48n1 cmpOr;rw [f48n2_run [x,y] (Qaq (by simp))]
 by_cases hx:x=0
 ·by_cases hy:y=0
  ·subst hx hy; rfl
  ·subst hx; simp only [f48n2L,decide_eq_false hy,decide_true,cond_true,cond_false,Option.bind_some]
 ·simp only [f48n2L,decide_eq_false hx,cond_false,Option.bind_some]

def ordN:Option ByteArray→ByteArray→Bool
 | none,_=>true
 | some p,x=>slt p x
def okN:Option ByteArray→List ByteArray→Bool
 | _,[]=>true
 | p,x::r=>nmB x&&(ordN p x&&okN (some x) r)
theorem f30n2_at{l:List ByteArray}(hl:l.length≤1000):∀(r pre:List ByteArray)(f:Nat),l=pre++r→r.length<f→f30n2 f l ((pre.length:Nat):Int)=some (bif okN pre.getLast? r then .exit0 else .ret)
 | _,_,0,_,h=>absurd h (Nat.not_lt_zero _)
 | [],pre,f+1,h,_=>by rw [f30n2,decide_eq_false (by rw [h]; simp),cond_false]; rfl
 | x::r,pre,f+1,h,hf=>by
  have hp:pre.length<l.length:=by rw [h]; simp
  have ih:=f30n2_at hl r (pre++[x]) f (by rw [h]; simp) (by simpa using hf);rw [List.length_append,List.getLast?_concat] at ih;rw [f30n2,decide_eq_true (by omega),cond_true,at_len h rfl,bd_,f50_eq,bd_,okN];cases nmB x with
  | false=>rfl
  | true =>
   rw [cond_true,Bool.true_and];rcases List.eq_nil_or_concat pre with rfl | ⟨q,y,rfl⟩
   ·simp only [List.length_nil,Int.natCast_zero,List.getLast?_nil,ordN,Bool.true_and];rw [decide_eq_false (by omega:¬(0:Int)<0),cond_false,show wr64 ((0:Int)+1)=1 from rfl];simpa using ih
   ·rw [List.concat_eq_append] at h hp ih ⊢;have hq:q.length+1<1000:=by simp at hp; omega
    rw [decide_eq_true (by simp:(0:Int)<(((q++[y]).length:Nat):Int)),cond_true,show wr64 ((((q++[y]).length:Nat):Int)-1)=((q.length:Nat):Int) by rw [wrIn (by simp<;>omega) (by simp<;>omega)]; simp,at_len (k:=q.length) (a:=q) (x:=y) (b:=x::r) (by rw [h]; simp) rfl,bd_,List.getLast?_concat,ordN];cases slt y x with
    | false=>rfl
    | true =>
     rw [cond_true,Bool.true_and,Qcd (by simp; omega)];exact ih
theorem f30_eq{l:List ByteArray}(hl:l.length≤1000):f30 l=some (okN none l):=by
 unfold f30 f30n0 f30n1;have:=f30n2_at hl l [] FUEL rfl (Qz (by omega));rw [show ((([]:List ByteArray).length:Nat):Int)=0 from rfl,List.getLast?_nil] at this;rw [this];cases okN none l<;>rfl

def inB(n a b:Int):Bool:=decide (a≤n)&&decide (n≤b)
theorem f29_eq(n a b:Int):f29 n a b=some (inB n a b):=by
 unfold f29 f29n0 inB;cases decide (a≤n)<;>rfl
def goodA(x:AA):Bool:=inB x.Amount 0 68719476736&&(inB x.Cost 0 1000&&(decide (x.For.length≤8)&&okN none x.For))
theorem f28w_eq(bg:List AA):∀(l:List AA)(v:Int)(o:List ByteArray),o.length+l.length≤10000→f28n2L bg l v o=some (bif l.all goodA then .exit0 (o++l.map Qa.Name) else .ret)
 | [],v,o,_=>by simp [f28n2L]
 | x::r,v,o,h=>by
  simp only [List.length_cons] at h;have ih:=f28w_eq bg r (v+1) (o++[x.Name]) (by simp; omega);rw [f28n2L,f29_eq,bd_,f29_eq,List.all_cons,goodA];simp only [bd_];cases inB x.Amount 0 68719476736 with
  | false=>rfl
  | true =>
   cases inB x.Cost 0 1000 with
   | false=>rfl
   | true =>
    by_cases hF:x.For.length≤8
    ·rw [decide_eq_false (by omega:¬(8:Int)<(x.For.length:Int)),decide_eq_true hF,f30_eq (by omega)];simp only [cond_true,cond_false,bd_,Bool.true_and];cases okN none x.For with
     | false=>rfl
     | true =>
      rw [cond_true,Bool.true_and,Qaf (Qbd (by omega) (by omega)),ih]
      simp
    ·rw [decide_eq_true (by omega:(8:Int)<(x.For.length:Int)),decide_eq_false hF];rfl
def assetsB(l:List AA):Bool:=decide (l.length≤10)&&(l.all goodA&&okN none (l.map Qa.Name))
theorem f28_eq(l:List AA):f28 l=some (assetsB l):=by
 unfold f28 f28n0 assetsB
 by_cases hl:l.length≤10
 ·rw [decide_eq_false (by omega),decide_eq_true hl,cond_false,Bool.true_and];have h1:f28n1 l=some (bif l.all goodA then .norm (l.map Qa.Name) else .ret):=by
   unfold f28n1;have:=f28w_eq l l 0 [] (by simp; omega);rw [f28n2_run l [] (Qaq (by omega)),this];cases l.all goodA<;>rfl
  rw [h1];cases l.all goodA with
  | false=>rfl
  | true =>
   simp only [cond_true,Option.bind_some,Bool.true_and];rw [f30_eq (by simp; omega)]; rfl
 ·rw [decide_eq_true (by omega),decide_eq_false hl]; rfl

theorem f13w_eq(bg:List AC):∀(l:List AC)(v:Int)(o:List ByteArray),o.length+l.length≤10000→f13n2L bg l v o=some (bif l.all (fun x=>inB x.Need 1 68719476736) then .exit0 (o++l.map Qb.Name) else .ret)
 | [],v,o,_=>by simp [f13n2L]
 | x::r,v,o,h=>by
  simp only [List.length_cons] at h;have ih:=f13w_eq bg r (v+1) (o++[x.Name]) (by simp; omega);rw [f13n2L,f29_eq,bd_,List.all_cons];cases inB x.Need 1 68719476736 with
  | false=>rfl
  | true =>
   rw [cond_true,Bool.true_and,Qaf (Qbd (by omega) (by omega)),ih]
   simp
def callsB(c:List AC):Bool:=decide (c.length≤8)&&(c.all (fun x=>inB x.Need 1 68719476736)&&okN none (c.map Qb.Name))
def checkB(l:List AA)(c:List AC):Bool:=assetsB l&&callsB c
theorem f13_eq(l:List AA)(c:List AC):f13 l c=some (bif checkB l c then 0 else 8):=by
 unfold f13 f13n0 checkB callsB
 by_cases hc:c.length≤8
 ·rw [decide_eq_false (by omega),decide_eq_true hc,cond_false,f28_eq,bd_,Bool.true_and];cases assetsB l with
  | false=>rfl
  | true =>
   have h1:f13n1 c=some (bif c.all (fun x=>inB x.Need 1 68719476736) then .norm (c.map Qb.Name) else .ret):=by
    unfold f13n1;have:=f13w_eq c c 0 [] (by simp; omega);rw [f13n2_run c [] (Qaq (by omega)),this];cases c.all (fun x=>inB x.Need 1 68719476736)<;>rfl
   rw [cond_true,h1,Bool.true_and];cases c.all (fun x=>inB x.Need 1 68719476736) with
   | false=>rfl
   | true =>
    simp only [cond_true,Option.bind_some,Bool.true_and];rw [f30_eq (by simp; omega),bd_];cases okN none (c.map Qb.Name)<;>rfl
 ·rw [decide_eq_true (by omega),decide_eq_false hc];cases assetsB l<;>rfl
theorem okN_some:∀{l:List ByteArray} {p:ByteArray},okN (some p) l=true→(p::l).Pairwise (fun a b=>slt a b=true)∧∀x∈l,nmB x=true
 | [],p,_=>by simp
 | y::r,p,h=>by
  rw [okN,ordN,Bool.and_eq_true,Bool.and_eq_true] at h;obtain ⟨h1,h2,h3⟩:=h;obtain ⟨h4,h5⟩:=okN_some h3;refine ⟨List.pairwise_cons.2 ⟨fun z hz=>?_,h4⟩,fun z hz=>?_⟩
  ·rcases List.mem_cons.1 hz with rfl | hz
   ·exact h2
   ·exact slt_trans h2 ((List.pairwise_cons.1 h4).1 z hz)
  ·rcases List.mem_cons.1 hz with rfl | hz
   ·exact h1
   ·exact h5 z hz
theorem okN_ok{l:List ByteArray}(h:okN none l=true):l.Pairwise (fun a b=>slt a b=true)∧∀x∈l,nmB x=true:=by
 cases l with
 | nil=>simp
 | cons y r =>
  rw [okN,Bool.and_eq_true,Bool.and_eq_true] at h;obtain ⟨h1,_,h3⟩:=h;obtain ⟨h4,h5⟩:=okN_some h3;exact ⟨h4,fun z hz=>by
   rcases List.mem_cons.1 hz with rfl | hz
   ·exact h1
   ·exact h5 z hz⟩
structure OkL (l:List AA) (c:List AC):Prop where
 len:l.length≤10
 clen:c.length≤8
 am:∀x∈l,0≤x.Amount∧x.Amount≤68719476736
 cost:∀x∈l,0≤x.Cost∧x.Cost≤1000
 flen:∀x∈l,x.For.length≤8
 fnd:∀x∈l,x.For.Pairwise (fun a b=>slt a b=true)
 nd:l.Pairwise (fun a b=>slt a.Name b.Name=true)
 need:∀x∈c,1≤x.Need∧x.Need≤68719476736
 cnd:c.Pairwise (fun a b=>slt a.Name b.Name=true)
theorem inB_iff{n a b:Int} : inB n a b=true↔a≤n∧n≤b:=by unfold inB; rw [Bool.and_eq_true,decide_eq_true_eq,decide_eq_true_eq]
theorem checkB_ok{l:List AA}{c:List AC}(h:checkB l c=true):OkL l c:=by
 unfold checkB assetsB callsB at h;simp only [Bool.and_eq_true,decide_eq_true_eq,List.all_eq_true] at h;obtain ⟨⟨h1,h2,h3⟩,h4,h5,h6⟩:=h;have ha:∀x∈l,_:=fun x hx=>by
  have:=h2 x hx;unfold goodA at this;simp only [Bool.and_eq_true,decide_eq_true_eq,inB_iff] at this;exact this
 exact ⟨h1,h4,fun x hx=>(ha x hx).1,fun x hx=>(ha x hx).2.1,fun x hx=>(ha x hx).2.2.1,fun x hx=>(okN_ok (ha x hx).2.2.2).1,List.pairwise_map.1 (okN_ok h3).1,fun x hx=>inB_iff.1 (h5 x hx),List.pairwise_map.1 (okN_ok h6).1⟩

theorem f12w_eq(bg:List AA):∀(l:List AA)(v:Int)(o:List AA),o.length+l.length≤10000→(∀x∈l,x.For.length≤1000)→f12r1n2L bg l v o=some (.exit0 (o++l))
 | [],v,o,_,_=>by simp [f12r1n2L]
 | x::r,v,o,h,hF=>by
  simp only [List.length_cons] at h;have ih:=fun y=>f12w_eq bg r (v+1) (o++[y]) (by simp; omega) fun z hz=>hF z (List.mem_cons_of_mem _ hz);have hx:=hF x List.mem_cons_self;rw [f12r1n2L];cases he:x.For with
  | nil =>
   have e:Qa.mk x.Name x.Amount x.Cost []=x:=by rw [←he]
   simp only [List.isEmpty_nil,cond_true];rw [Qaf (Qbd (by omega) (by omega)),ih,e]; simp
  | cons a b =>
   rw [he] at hx;simp only [List.isEmpty_cons,cond_false];rw [Qaf (Qbd (by omega) (by omega)),Qaf (Qbd (by omega) (by omega)),ih]; simp
theorem f12_eq{l:List AA}(hl:l.length≤1000)(hF:∀x∈l,x.For.length≤1000):f12r1 l=some l:=by
 unfold f12r1 f12r1n0 f12r1n1;have:=f12w_eq l l 0 [] (by simp; omega) hF;rw [f12r1n2_run l [] (Qaq (by omega)),this]; rfl
theorem f10w_eq(bg:List AA)(b:List AC)(u:List AU):∀(l:List AA)(v:Int),(f10n2L bg b u l v=some .exit0∧((∀x∈l,x.For.length≤15)∨16≤v+l.length))∨f10n2L bg b u l v=some .ret
 | [],v=>.inl ⟨rfl,.inl fun x h=>(by cases h)⟩
 | x::r,v=>by
  rw [f10n2L]
  by_cases hv:v≤15
  ·rw [decide_eq_true hv,cond_true]
   by_cases hx:x.For.length≤15
   ·rw [decide_eq_false (by omega),cond_false];rcases f10w_eq bg b u r (v+1) with ⟨h1,h2⟩ | h1
    ·refine .inl ⟨h1,h2.imp (fun h y hy=>?_) fun h=>by simp; omega⟩;rcases List.mem_cons.1 hy with rfl | hy
     ·exact hx
     ·exact h y hy
    ·exact .inr h1
   ·rw [decide_eq_true (by omega)]; exact .inr rfl
  ·rw [decide_eq_false hv]; exact .inl ⟨rfl,.inr (by simp; omega)⟩
theorem f10_eq(l:List AA)(c:List AC)(u:List AU)(hm:l.length≤maxLen):∃b,f10 l c u=some b∧(b=false→l.length≤15∧c.length≤15∧u.length≤100∧∀x∈l,x.For.length≤15):=by
 unfold f10 f10n0 f10n1;rw [f10n2_run l c u hm];rcases f10w_eq l c u l 0 with ⟨h1,h2⟩ | h1
 ·rw [h1];simp only [Option.bind_some]
  by_cases hl:l.length≤15
  ·rw [decide_eq_false (by omega),cond_false]
   by_cases hc:c.length≤15
   ·rw [decide_eq_false (by omega),cond_false];refine ⟨_,rfl,fun h=>⟨hl,hc,by have:=of_decide_eq_false h; omega,h2.elim id fun h=>by omega⟩⟩
   ·rw [decide_eq_true (by omega)]; exact ⟨true,rfl,fun h=>by cases h⟩
  ·rw [decide_eq_true (by omega)]; exact ⟨true,rfl,fun h=>by cases h⟩
 ·rw [h1]; exact ⟨true,rfl,fun h=>by cases h⟩
end Go.Proofs.Ytinabbgjignkbaa
