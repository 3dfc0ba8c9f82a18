/- Several texts in one. No condition. -/
import Derived.Test.YtinabbgjignkbaaA3
import Derived.Test.YtinabbgjignkbaaTU
namespace Go.Proofs.Ytinabbgjignkbaa
set_option linter.unusedVariables false
set_option linter.unusedSimpArgs false
set_option maxRecDepth 100000
open Go.RowKit
noncomputable def c65:Code:=Try.f65.body.getD .skip
inductive f65n0O where
 | ret
def f65n0E(a1:ByteArray):f65n0O→Ex×Tr×Hp
 | .ret=>(.ret,mkS [(2,(.pl (.bool (!(seq a1 a1)))))],[])
def f65n0S(a1:ByteArray):Tr×Hp:=(Qaz [(jS a1)] 0 .leaf,[])
noncomputable def f65n0(a1:ByteArray):Option f65n0O :=
 some .ret
theorem f65n0_ok(a1:ByteArray){o:f65n0O}(h:f65n0 a1=some o):T Try.prog Try.f65.ntmps 0 c65 (f65n0S a1) (·=f65n0E a1 o):=by
 unfold f65n0 at h;obtain rfl:=Qf h;exact rE Qg [j3,j3] [] [] [] [2] (.ret,(f65n0E a1 .ret).2) an rfl
noncomputable def f65(a1:ByteArray):Option Bool:=(f65n0 a1).bind fun o=>match o with
 | .ret=>some (!(seq a1 a1))
theorem f65_ok(a1:ByteArray){r:Bool}(h:f65 a1=some r):Qr Try.prog false 65 [(jS a1)] [] (jB r) []:=by
 unfold f65 at h;obtain ⟨o,ho,h⟩:=Qc h;cases o with
 | ret =>
  obtain rfl:=Qf h;exact Qr.plain Qg (f:=Try.f65) (c:=c65) (by kernel_rfl) (by kernel_rfl) (by kernel_rfl) (by kernel_rfl) ((f65n0_ok a1 ho).mono fun r e=>by subst e; exact ⟨.inl rfl,(.pl (.bool (!(seq a1 a1)))),(.pl (.bool (!(seq a1 a1)))),by kernel_rfl,by kernel_rfl,((Wk.refl _):Wk (.pl (.bool (!(seq a1 a1)))) (.pl (.bool (!(seq a1 a1)))))⟩)

noncomputable def c49:Code:=Try.f49.body.getD .skip
inductive f49n0O where
 | ret (v21:Int)
def f49n0E(a1 a2:ByteArray):f49n0O→Ex×Tr×Hp
 | .ret v21=>(.ret,mkS [(4,(jI v21))],[])
def f49n0S(a1 a2:ByteArray):Tr×Hp:=(Qaz [(jS a1),(jS a2)] 0 .leaf,[])
noncomputable def f49n0(a1 a2:ByteArray):Option f49n0O :=
 (f65 a1).bind fun x5 =>
 (f65 a2).bind fun x9 =>
 bif x5 then
  bif x9 then
   some (.ret 0)
  else
   some (.ret (-1))
 else
  bif x9 then
   some (.ret 1)
  else
   bif (slt a1 a2) then
    some (.ret (-1))
   else
    bif (slt a1 a2||seq a1 a2) then
     some (.ret 0)
    else
     some (.ret 1)
theorem f49n0_ok(a1 a2:ByteArray){o:f49n0O}(h:f49n0 a1 a2=some o):T Try.prog Try.f49.ntmps 0 c49 (f49n0S a1 a2) (·=f49n0E a1 a2 o):=by
 unfold f49n0 at h;obtain ⟨x5,h6,h⟩:=Qc h;obtain ⟨x9,h10,h⟩:=Qc h;rcases Qi h with ⟨h13,h⟩|⟨h13,h⟩
 ·rcases Qi h with ⟨h14,h⟩|⟨h14,h⟩
  ·obtain rfl:=Qf h;exact rK Qg 4 [j3,([],[jH 1 (jB x5)],[]),([],[jH 1 (jB x9)],[]),j3,j3,j3] [some true,some true] [] [] [4] .ret ((f49n0E a1 a2 (.ret 0)).2) (ap (f65_ok a1 h6) (ap (f65_ok a2 h10) (ap h13 (ap h14 an)))) rfl
  ·obtain rfl:=Qf h;exact rK Qg 4 [j3,([],[jH 1 (jB x5)],[]),([],[jH 1 (jB x9)],[]),j3,j3,j3] [some true,some false] [] [] [4] .ret ((f49n0E a1 a2 (.ret (-1))).2) (ap (f65_ok a1 h6) (ap (f65_ok a2 h10) (ap h13 (ap h14 an)))) rfl
 ·rcases Qi h with ⟨h16,h⟩|⟨h16,h⟩
  ·obtain rfl:=Qf h;exact rK Qg 5 [j3,([],[jH 1 (jB x5)],[]),([],[jH 1 (jB x9)],[]),j3,j3,j3] [some false,some true] [] [] [4] .ret ((f49n0E a1 a2 (.ret 1)).2) (ap (f65_ok a1 h6) (ap (f65_ok a2 h10) (ap h13 (ap h16 an)))) rfl
  ·rcases Qi h with ⟨h18,h⟩|⟨h18,h⟩
   ·obtain rfl:=Qf h;exact rK Qg 6 [j3,([],[jH 1 (jB x5)],[]),([],[jH 1 (jB x9)],[]),j3,j3,j3,j3] [some false,some false,some true] [] [] [4] .ret ((f49n0E a1 a2 (.ret (-1))).2) (ap (f65_ok a1 h6) (ap (f65_ok a2 h10) (ap h13 (ap h16 (ap h18 an))))) rfl
   ·rcases Qi h with ⟨h20,h⟩|⟨h20,h⟩
    ·obtain rfl:=Qf h;exact rE Qg [j3,([],[jH 1 (jB x5)],[]),([],[jH 1 (jB x9)],[]),j3,j3,j3,j3,j3] [some false,some false,some false,some false] [] [] [4] (.ret,(f49n0E a1 a2 (.ret 0)).2) (ap (f65_ok a1 h6) (ap (f65_ok a2 h10) (ap h13 (ap h16 (ap h18 (ap (Qab h20) an)))))) rfl
    ·obtain rfl:=Qf h;exact rK Qg 7 [j3,([],[jH 1 (jB x5)],[]),([],[jH 1 (jB x9)],[]),j3,j3,j3,j3,j3] [some false,some false,some false,some true] [] [] [4] .ret ((f49n0E a1 a2 (.ret 1)).2) (ap (f65_ok a1 h6) (ap (f65_ok a2 h10) (ap h13 (ap h16 (ap h18 (ap (Qak h20) an)))))) rfl
noncomputable def f49(a1 a2:ByteArray):Option Int:=(f49n0 a1 a2).bind fun o=>match o with
 | .ret v21=>some v21
theorem f49_ok(a1 a2:ByteArray){r:Int}(h:f49 a1 a2=some r):Qr Try.prog false 49 [(jS a1),(jS a2)] [] (jI r) []:=by
 unfold f49 at h;obtain ⟨o,ho,h⟩:=Qc h;cases o with
 | ret v21 =>
  obtain rfl:=Qf h;exact Qr.plain Qg (f:=Try.f49) (c:=c49) (by kernel_rfl) (by kernel_rfl) (by kernel_rfl) (by kernel_rfl) ((f49n0_ok a1 a2 ho).mono fun r e=>by subst e; exact ⟨.inl rfl,(jI v21),(jI v21),by kernel_rfl,by kernel_rfl,((Wk.refl _):Wk (jI v21) (jI v21))⟩)

noncomputable def c48:Code:=Try.f48.body.getD .skip
inductive f48n2O where
 | exit0
 | ret (v28:Int)
def f48n2E(bh1:List Int):f48n2O→Ex×Tr×Hp
 | .exit0=>((.exit 0),mkS [(3,(jI 0))],[])
 | .ret v28=>(.ret,mkS [(2,(jI v28))],[])
def f48n2S(bh1:List Int)(v19:Int):Tr×Hp:=(mkS [(3,(jI 0)),(6,(.pl (.sl .any 1 (bh1.map (cInt .i64))))),(7,(jI (bh1.length:Int))),(8,(jI v19))],[])
noncomputable def f48n2:Nat→List Int→Int→Option f48n2O
 | 0,_,_=>none
 | f+1,bh1,v19 =>
  bif decide (v19<(bh1.length:Int)) then
   (at? bh1 v19).bind fun x25 =>
   bif decide (x25=0) then
    (f48n2 f bh1 (wr64 (v19+1)))
   else
    some (.ret x25)
  else
   some .exit0
theorem f48n2_ok:∀(f:Nat)(bh1:List Int)(v19:Int){o:f48n2O},f48n2 f bh1 v19=some o→TL Try.prog Try.f48.ntmps 0 f (cL (cL (Qh 1 (cL (Qh 2 c48))))) (f48n2S bh1 v19) (·=f48n2E bh1 o)
 | 0,_,_,o,h=>by rw [f48n2] at h; cases h
 | f+1,bh1,v19,o,h=>by
  rw [f48n2] at h;refine TL.body (K:=fun s=>∃v19:Int,s=(f48n2S bh1 v19)∧f48n2 f bh1 v19=some o) ?_ (by rintro _ ⟨v19,rfl,hk⟩; exact f48n2_ok f _ _ hk);rcases Qi h with ⟨h21,h⟩|⟨h21,h⟩
  ·obtain ⟨x25,h26,h⟩:=Qc h;rcases Qi h with ⟨h27,h⟩|⟨h27,h⟩
   ·exact rE Qg [j3,([],[(0,.idx (Int.toNat v19) ((cInt .i64) x25))],[]),j3,j3] [some true,some false] [] [] [3,6,7,8] (.norm,(f48n2S bh1 (wr64 (v19+1)))) (ap h21 (ap (Qe h26).1 (ap (Ql (cInt .i64) (Qe h26).2) (ap (Qab h27) an)))) (Qn.norm ⟨(wr64 (v19+1)),rfl,h⟩)
   ·obtain rfl:=Qf h;exact rK Qg 3 [j3,([],[(0,.idx (Int.toNat v19) ((cInt .i64) x25))],[]),j3,j3] [some true,some true] [] [] [2] .ret ((f48n2E bh1 (.ret x25)).2) (ap h21 (ap (Qe h26).1 (ap (Ql (cInt .i64) (Qe h26).2) (ap (Qak h27) an)))) (Qn.out rfl rfl)
  ·obtain rfl:=Qf h;exact rK Qg 2 [j3] [some false] [] [] [3] (.exit 0) ((f48n2E bh1 .exit0).2) (ap h21 an) (Qn.out rfl rfl)
noncomputable def f48n2L(bh1:List Int):List Int→Int→Option f48n2O
 | [],v19 =>
  some .exit0
 | x0::rest,v19 =>
  bif decide (x0=0) then
   (f48n2L bh1 rest (v19+1))
  else
   some (.ret x0)
theorem f48n2L_eq(bh1:List Int):∀(rest:List Int)(f k:Nat),bh1.drop k=rest→bh1.length≤maxLen→rest.length<f→f48n2 f bh1 (k:Int)=f48n2L bh1 rest (k:Int)
 | _,0,_,_,_,hf=>absurd hf (Nat.not_lt_zero _)
 | [],f+1,k,hd,hm,hf=>by
  have hk:¬((k:Int)<(bh1.length:Int)):=by have:=Qbj hd; omega
  rw [f48n2,f48n2L];simp only [decide_eq_false hk,cond_false]
 | x0::rest,f+1,k,hd,hm,hf=>by
  obtain ⟨hx,hlt,hd'⟩:=Qbk hd;have hk:(k:Int)<(bh1.length:Int):=by omega
  have hw:wr64 ((k:Int)+1)=(k:Int)+1:=wr64_of (by omega) (by unfold maxLen at hm; omega);have ih:f48n2 f bh1 ((k:Int)+1)=f48n2L bh1 rest ((k:Int)+1):=f48n2L_eq bh1 rest f (k+1) hd' hm (by simpa using hf);rw [f48n2,f48n2L];simp only [decide_eq_true hk,cond_true,at_nat,hx,Option.bind_some,hw,ih]
theorem f48n2_run(bh1:List Int)(hm:bh1.length≤maxLen):f48n2 FUEL bh1 0=f48n2L bh1 bh1 0:=f48n2L_eq bh1 bh1 FUEL 0 List.drop_zero hm (lt_FUEL hm)
inductive f48n1O where
 | norm
 | ret (v32:Int)
def f48n1E(bh1:List Int):f48n1O→Ex×Tr×Hp
 | .norm=>(.norm,mkS [(3,(jI 0))],[])
 | .ret v32=>(.ret,mkS [(2,(jI v32))],[])
def f48n1S(bh1:List Int):Tr×Hp:=(mkS [(0,(.pl (.sl .any 1 (bh1.map (cInt .i64))))),(3,(jI 0))],[])
noncomputable def f48n1(bh1:List Int):Option f48n1O :=
 (f48n2 FUEL bh1 0).bind fun o29=>match o29 with
 | .exit0=>some .norm
 | .ret v31=>some (.ret v31)
theorem f48n1_ok(bh1:List Int){o:f48n1O}(h:f48n1 bh1=some o):T Try.prog Try.f48.ntmps 0 (cL (Qh 2 c48)) (f48n1S bh1) (·=f48n1E bh1 o):=by
 unfold f48n1 at h;refine rN Qg 1 [([],[],[(1,.val (jI (bh1.length:Int)))])] [] [] [] [3,6,7,8] (f48n2S bh1 0) (ap (Qu (xs:=bh1) (c:=(cInt .i64))) an) ?_;obtain ⟨o29,h30,h⟩:=Qc h;cases o29 with
 | exit0 =>
  obtain rfl:=Qf h;exact T.last' (T.bl (i:=0) (by kernel_rfl) (by kernel_rfl) (f48n2_ok FUEL bh1 0 h30)) (tds:=[]) (m:=[]) (keep:=[3]) (st2:=(f48n1E bh1 .norm).2) (by kernel_rfl) an rfl
 | ret v31 =>
  obtain rfl:=Qf h;exact T.last' (T.bl (i:=0) (by kernel_rfl) (by kernel_rfl) (f48n2_ok FUEL bh1 0 h30)) (tds:=[]) (m:=[]) (keep:=[2]) (st2:=(f48n1E bh1 (.ret v31)).2) (by kernel_rfl) an rfl
inductive f48n0O where
 | ret (v36:Int)
def f48n0E(a1:List Int):f48n0O→Ex×Tr×Hp
 | .ret v36=>(.ret,mkS [(2,(jI v36))],[])
def f48n0S(a1:List Int):Tr×Hp:=(Qaz [(.pl (.sl .any 1 (a1.map (cInt .i64))))] 0 .leaf,[])
noncomputable def f48n0(a1:List Int):Option f48n0O :=
 (f48n1 a1).bind fun o33=>match o33 with
 | .norm=>some (.ret 0)
 | .ret v35=>some (.ret v35)
theorem f48n0_ok(a1:List Int){o:f48n0O}(h:f48n0 a1=some o):T Try.prog Try.f48.ntmps 0 c48 (f48n0S a1) (·=f48n0E a1 o):=by
 unfold f48n0 at h;refine rN Qg 2 [j3,j3] [] [] [] [0,3] (f48n1S a1) an ?_;obtain ⟨o33,h34,h⟩:=Qc h;cases o33 with
 | norm =>
  refine T.oneN (by kernel_rfl) (f48n1_ok a1 h34) (st2:=(f48n1E a1 .norm).2) rfl ?_;obtain rfl:=Qf h;exact rE Qg [j3] [] [] [] [2] (.ret,(f48n0E a1 (.ret 0)).2) an rfl
 | ret v35 =>
  obtain rfl:=Qf h;exact T.oneX' (by kernel_rfl) (f48n1_ok a1 h34) (tds:=[]) (m:=[]) (keep:=[2]) (st2:=(f48n0E a1 (.ret v35)).2) (by kernel_rfl) an rfl rfl
noncomputable def f48(a1:List Int):Option Int:=(f48n0 a1).bind fun o=>match o with
 | .ret v36=>some v36
theorem f48_ok(a1:List Int){r:Int}(h:f48 a1=some r):Qr Try.prog false 48 [(.pl (.sl .any 1 (a1.map (cInt .i64))))] [] (jI r) []:=by
 unfold f48 at h;obtain ⟨o,ho,h⟩:=Qc h;cases o with
 | ret v36 =>
  obtain rfl:=Qf h;exact Qr.plain Qg (f:=Try.f48) (c:=c48) (by kernel_rfl) (by kernel_rfl) (by kernel_rfl) (by kernel_rfl) ((f48n0_ok a1 ho).mono fun r e=>by subst e; exact ⟨.inl rfl,(jI v36),(jI v36),by kernel_rfl,by kernel_rfl,((Wk.refl _):Wk (jI v36) (jI v36))⟩)

noncomputable def c27:Code:=Try.f27.body.getD .skip
inductive f27n0O where
 | ret (v15:Int)
def f27n0E(a1 a2:Qd):f27n0O→Ex×Tr×Hp
 | .ret v15=>(.ret,mkS [(4,(jI v15))],[])
def f27n0S(a1 a2:Qd):Tr×Hp:=(Qaz [(jA Qd.cells a1),(jA Qd.cells a2)] 0 .leaf,[])
noncomputable def f27n0(a1 a2:Qd):Option f27n0O :=
 (f49 a1.Asset a2.Asset).bind fun x9 =>
 (f49 a1.Call a2.Call).bind fun x11 =>
 (f48 [x9,x11]).bind fun x13 =>
 some (.ret x13)
theorem f27n0_ok(a1 a2:Qd){o:f27n0O}(h:f27n0 a1 a2=some o):T Try.prog Try.f27.ntmps 0 c27 (f27n0S a1 a2) (·=f27n0E a1 a2 o):=by
 unfold f27n0 at h;obtain ⟨x9,h10,h⟩:=Qc h;obtain ⟨x11,h12,h⟩:=Qc h;obtain ⟨x13,h14,h⟩:=Qc h;obtain rfl:=Qf h
 exact rE Qg [j3,([],[jH 4 (jI x9),jH 9 (jI x11),jH 11 (jI x13)],[])] [] [] [] [4] (.ret,(f27n0E a1 a2 (.ret x13)).2) (ap (same_val (e:=⟨false,49,[(jS a1.Asset),(jS a2.Asset)],[],(jI x9),[]⟩) (f:=⟨false,49,[(jS a1.Call),(jS a2.Call)],[],(jI x11),[]⟩) (fun k=>by simp only [jL,jS,jI,jB,jA,Qb.cells_eq,Qb.map_eq,Qd.cells_eq,Qd.map_eq,Qbd.cells_eq,Qbd.map_eq,Arr83.cells_eq,Arr83.map_eq,List.cons.injEq,AV.pl.injEq,PV.str.injEq,PV.int.injEq,PV.bool.injEq,PV.agg.injEq,PV.sl.injEq,and_true,true_and] at k; have e0:x9=x11:=Option.some.inj (by rw [←h10,←h12]; first | exact congrArg _ k | (obtain ⟨k1,_⟩:=k; simp only [k1]; done) | simp only [k]); exact ⟨by rw [e0],rfl⟩)) (ap (f49_ok a1.Asset a2.Asset h10) (ap (f49_ok a1.Call a2.Call h12) (ap (f48_ok [x9,x11] h14) an)))) rfl
noncomputable def f27(a1 a2:Qd):Option Int:=(f27n0 a1 a2).bind fun o=>match o with
 | .ret v15=>some v15
theorem f27_ok(a1 a2:Qd){r:Int}(h:f27 a1 a2=some r):Qr Try.prog false 27 [(jA Qd.cells a1),(jA Qd.cells a2)] [] (jI r) []:=by
 unfold f27 at h;obtain ⟨o,ho,h⟩:=Qc h;cases o with
 | ret v15 =>
  obtain rfl:=Qf h;exact Qr.plain Qg (f:=Try.f27) (c:=c27) (by kernel_rfl) (by kernel_rfl) (by kernel_rfl) (by kernel_rfl) ((f27n0_ok a1 a2 ho).mono fun r e=>by subst e; exact ⟨.inl rfl,(jI v15),(jI v15),by kernel_rfl,by kernel_rfl,((Wk.refl _):Wk (jI v15) (jI v15))⟩)

instance:Inhabited Qd:=⟨(Qd.mk str_x str_x 0)⟩
def so26_27_good(xs:List Qd):Prop:=∃c:Qd→Qd→Int,(∀x y,f27 x y=some (c x y))∧Go.Sort.SWO (ltOf c)∧xs.length<4611686018427387904
open Classical in
noncomputable def so26_27(xs:List Qd):Option (List Qd):=if h:so26_27_good xs then some (sortL h.choose xs) else none
theorem so26_27_val{xs:List Qd}{c:Qd→Qd→Int}(hc:∀x y,f27 x y=some (c x y))(o:Go.Sort.SWO (ltOf c))(hl:xs.length<4611686018427387904):so26_27 xs=some (sortL c xs):=by
 have h:so26_27_good xs:=⟨c,hc,o,hl⟩;unfold so26_27;rw [dif_pos h];have e:h.choose=c:=funext fun x=>funext fun y=>Option.some.inj ((h.choose_spec.1 x y).symm.trans (hc x y));rw [e]
theorem so26_27_ok(xs:List Qd){r:List Qd}(h:so26_27 xs=some r) :
  Qr Try.prog true 26 [.own 0,.pl (.fn 27)] [some (.row false 3 (xs.map Qd.cells))] (.tup []) [some (.row false 3 (r.map Qd.cells))]:=by
 unfold so26_27 at h
 by_cases hc:so26_27_good xs
 ·rw [dif_pos hc] at h;obtain rfl:=Qf h;have hs:=hc.choose_spec;exact sort_callS (cells:=Qd.cells) so_lays rfl so_agg so_size (enters_of Try.func26 (by kernel_rfl) rfl) (fun _=>rfl) (fun x q hq=>by
   simp only [Qd.cells,List.mem_cons,List.not_mem_nil,or_false] at hq;rcases hq with rfl | rfl | rfl<;>rfl) _ hs.2.1 (fun x y=>f27_ok _ _ (hs.1 x y)) xs hs.2.2
 ·rw [dif_neg hc] at h; cases h


noncomputable def c11:Code:=Try.f11.body.getD .skip
inductive f11n2O where
 | exit0 (v47:Int) (v48:List Int)
def f11n2E(bj2:(List Bool)×(List Qa)×(List Int)×(List Int))(bb1:List Qb):f11n2O→Ex×Tr×Hp
 | .exit0 v47 v48=>((.exit 0),mkS [(7,(.bp 0 0)),(8,(.bp 1 0)),(9,(jI v47))],[some (.box 51 [(.bp 2 0)]),some (.box 33 [(.own 3)]),some (.abox 57 [(.own 4),(jL 2 Qb.cells bb1),(.own 5),(.own 6)] (bj2.1.map Qm)),some (.row false 1 (v48.map (cInt .i64))),jR 4 Qa.cells bj2.2.1,some (.row false 1 (bj2.2.2.1.map (cInt .i64))),some (.row false 1 (bj2.2.2.2.map (cInt .i64)))])
def f11n2S(bj2:(List Bool)×(List Qa)×(List Int)×(List Int))(bb1:List Qb)(v34 v35:Int)(v36:List Int):Tr×Hp:=(mkS [(7,(.bp 0 0)),(8,(.bp 1 0)),(9,(jI v34)),(32,(jI (bj2.2.2.1.length:Int))),(33,(jI v35))],[some (.box 51 [(.bp 2 0)]),some (.box 33 [(.own 3)]),some (.abox 57 [(.own 4),(jL 2 Qb.cells bb1),(.own 5),(.own 6)] (bj2.1.map Qm)),some (.row false 1 (v36.map (cInt .i64))),jR 4 Qa.cells bj2.2.1,some (.row false 1 (bj2.2.2.1.map (cInt .i64))),some (.row false 1 (bj2.2.2.2.map (cInt .i64)))])
noncomputable def f11n2:Nat→(List Bool)×(List Qa)×(List Int)×(List Int)→List Qb→Int→Int→List Int→Option f11n2O
 | 0,_,_,_,_,_=>none
 | f+1,bj2,bb1,v34,v35,v36 =>
  bif decide (v35<(bj2.2.2.1.length:Int)) then
   req (cutB 0 (wr64 (v35+1)) bj2.2.2.1.length) <|
   (f23r1 ((Int.toNat (wr64 (v35+1)))-0) bj2.2.2.1 bj2.2.2.2 bb1 bj2.1 bj2.2.1).bind fun x44 =>
   req (fit (v36.length+1) 8) <|
   (f11n2 f bj2 bb1 x44 (wr64 (v35+1)) (v36++[(wr64 (x44-v34))]))
  else
   some (.exit0 v34 v36)
theorem f11n2_ok:∀(f:Nat)(bj2:(List Bool)×(List Qa)×(List Int)×(List Int))(bb1:List Qb)(v34 v35:Int)(v36:List Int){o:f11n2O},f11n2 f bj2 bb1 v34 v35 v36=some o→TL Try.prog Try.f11.ntmps 0 f (cL (cL (Qh 1 (cL (Qh 5 c11))))) (f11n2S bj2 bb1 v34 v35 v36) (·=f11n2E bj2 bb1 o)
 | 0,_,_,_,_,_,o,h=>by rw [f11n2] at h; cases h
 | f+1,bj2,bb1,v34,v35,v36,o,h=>by
  rw [f11n2] at h;refine TL.body (K:=fun s=>∃v34:Int,∃v35:Int,∃v36:List Int,s=(f11n2S bj2 bb1 v34 v35 v36)∧f11n2 f bj2 bb1 v34 v35 v36=some o) ?_ (by rintro _ ⟨v34,v35,v36,rfl,hk⟩; exact f11n2_ok f _ _ _ _ _ hk);rcases Qi h with ⟨h38,h⟩|⟨h38,h⟩
  ·obtain ⟨h43,h⟩:=Qk h;obtain ⟨x44,h45,h⟩:=Qc h;obtain ⟨h46,h⟩:=Qk h
   exact rE Qg [j3,j3,([],[(6,.cut 0 (Int.toNat (wr64 (v35+1)))),(14,.call (jI x44) [none,none,some (.abox 57 [(.own 4),(jL 2 Qb.cells bb1),(.own 5),(.own 6)] (bj2.1.map Qm)),none,jR 4 Qa.cells bj2.2.1,some (.row false 1 (bj2.2.2.1.map (cInt .i64))),some (.row false 1 (bj2.2.2.2.map (cInt .i64))),none])],[]),([],[(5,.fits)],[(5,.row 9 ((v36++[(wr64 (x44-v34))]).map (cInt .i64)))]),j3,j3] [some true] [] [0,1,2,9,4,5,6] [7,8,9,32,33] (.norm,(f11n2S bj2 bb1 x44 (wr64 (v35+1)) (v36++[(wr64 (x44-v34))]))) (ap h38 (ap (cut_hn_1_map (c:=(cInt .i64)) h43) (ap (cut_hn_2 h43) (ap (cut_hn_3 h43) (ap (cut_hn_4_map (c:=(cInt .i64)) h43) (ap (Qr.rn 8 [5,6,2,4] (f23r1_ok ((Int.toNat (wr64 (v35+1)))-0) bj2.2.2.1 bj2.2.2.2 bb1 bj2.1 bj2.2.1 h45)) (ap (fit_map (te:=ti3) (xs:=v36) (n:=1) (c:=(cInt .i64)) h46 rfl) (ap (app_cv (xs:=v36) (ys:=[(wr64 (x44-v34))]) (c:=(cInt .i64))) an)))))))) (Qn.norm ⟨x44,(wr64 (v35+1)),(v36++[(wr64 (x44-v34))]),rfl,h⟩)
  ·obtain rfl:=Qf h;exact rK Qg 2 [j3] [some false] [] [0,1,2,3,4,5,6] [7,8,9] (.exit 0) ((f11n2E bj2 bb1 (.exit0 v34 v36)).2) (ap h38 an) (Qn.out rfl rfl)
inductive f11n1O where
 | norm (v53:Int) (v54:List Int)
def f11n1E(bb1:List Qb)(bj2:(List Bool)×(List Qa)×(List Int)×(List Int)):f11n1O→Ex×Tr×Hp
 | .norm v53 v54=>(.norm,mkS [(7,(.bp 0 0)),(8,(.bp 1 0)),(9,(jI v53))],[some (.box 51 [(.bp 2 0)]),some (.box 33 [(.own 3)]),some (.abox 57 [(.own 4),(jL 2 Qb.cells bb1),(.own 5),(.own 6)] (bj2.1.map Qm)),some (.row false 1 (v54.map (cInt .i64))),jR 4 Qa.cells bj2.2.1,some (.row false 1 (bj2.2.2.1.map (cInt .i64))),some (.row false 1 (bj2.2.2.2.map (cInt .i64)))])
def f11n1S(bb1:List Qb)(bj2:(List Bool)×(List Qa)×(List Int)×(List Int)):Tr×Hp:=(mkS [(7,(.bp 0 0)),(8,(.bp 1 0)),(9,(jI 0))],[some (.box 51 [(.bp 2 0)]),some (.box 33 [(.pl (.sl .nil 0 []))]),some (.abox 57 [(.own 3),(jL 2 Qb.cells bb1),(.own 4),(.own 5)] (bj2.1.map Qm)),jR 4 Qa.cells bj2.2.1,some (.row false 1 (bj2.2.2.1.map (cInt .i64))),some (.row false 1 (bj2.2.2.2.map (cInt .i64)))])
noncomputable def f11n1(bb1:List Qb)(bj2:(List Bool)×(List Qa)×(List Int)×(List Int)):Option f11n1O :=
 (f11n2 FUEL bj2 bb1 0 0 []).bind fun o49=>match o49 with
 | .exit0 v51 v52=>some (.norm v51 v52)
theorem f11n1_ok(bb1:List Qb)(bj2:(List Bool)×(List Qa)×(List Int)×(List Int)){o:f11n1O}(h:f11n1 bb1 bj2=some o):T Try.prog Try.f11.ntmps 0 (cL (Qh 5 c11)) (f11n1S bb1 bj2) (·=f11n1E bb1 bj2 o):=by
 unfold f11n1 at h;refine rN Qg 1 [([],[],[(4,.val (jI (bj2.2.2.1.length:Int)))])] [] [.matC 1 0 1] [0,1,2,6,3,4,5] [7,8,9,32,33] (f11n2S bj2 bb1 0 0 []) (ap (Qu (xs:=bj2.2.2.1) (c:=(cInt .i64))) an) ?_;obtain ⟨o49,h50,h⟩:=Qc h;cases o49 with
 | exit0 v51 v52 =>
  obtain rfl:=Qf h;exact T.last' (T.bl (i:=0) (by kernel_rfl) (by kernel_rfl) (f11n2_ok FUEL bj2 bb1 0 0 [] h50)) (tds:=[]) (m:=[0,1,2,3,4,5,6]) (keep:=[7,8,9]) (st2:=(f11n1E bb1 bj2 (.norm v51 v52)).2) (by kernel_rfl) an rfl
inductive f11n5O where
 | exit4 (v407:Int) (v408:List Bool) (v409:List Int) (v410:List Qd) (v411:List Int)
def f11n5E(bg2:Int)(bh1 bh9:List Int)(bb4:List Qb)(bj8:(List Bool)×(List Qa)×(List Int)×(List Int)):f11n5O→Ex×Tr×Hp
 | .exit4 v407 v408 v409 v410 v411=>((.exit 4),mkS [(7,(.bp 0 0)),(8,(.bp 1 0)),(12,(.bp 2 0)),(13,(.bp 3 0)),(14,(.clo 25 [(.bp 1 0),(.bp 0 0),(.bp 2 0),(.bp 3 0)])),(69,(jI (bh1.length:Int))),(70,(jI bg2))],[some (.box 51 [(.bp 4 0)]),some (.box 33 [(.own 5)]),some (.box 3 (((cInt .i64) v407).map .pl)),some (.box 26 [(.own 6)]),some (.abox 57 [(.own 7),(jL 2 Qb.cells bb4),(.own 8),(.own 9)] (v408.map Qm)),some (.row false 1 (v409.map (cInt .i64))),jR 3 Qd.cells v410,jR 4 Qa.cells bj8.2.1,some (.row false 1 (bj8.2.2.1.map (cInt .i64))),some (.row false 1 (v411.map (cInt .i64)))])
def f11n5S(bg2:Int)(bh1 bh9:List Int)(bb4:List Qb)(bj8:(List Bool)×(List Qa)×(List Int)×(List Int))(v373 v374:Int)(v375:List Bool)(v376:List Int)(v377:List Qd)(v378:List Int):Tr×Hp:=(mkS [(7,(.bp 0 0)),(8,(.bp 1 0)),(12,(.bp 2 0)),(13,(.bp 3 0)),(14,(.clo 25 [(.bp 1 0),(.bp 0 0),(.bp 2 0),(.bp 3 0)])),(15,(jI bg2)),(69,(jI (bh1.length:Int))),(70,(jI bg2)),(77,(jI (bh9.length:Int))),(78,(jI v373))],[some (.box 51 [(.bp 4 0)]),some (.box 33 [(.own 5)]),some (.box 3 (((cInt .i64) v374).map .pl)),some (.box 26 [(.own 6)]),some (.abox 57 [(.own 7),(jL 2 Qb.cells bb4),(.own 8),(.own 9)] (v375.map Qm)),some (.row false 1 (v376.map (cInt .i64))),jR 3 Qd.cells v377,jR 4 Qa.cells bj8.2.1,some (.row false 1 (bj8.2.2.1.map (cInt .i64))),some (.row false 1 (v378.map (cInt .i64)))])
noncomputable def f11n5:Nat→Int→List Int→List Int→List Qb→(List Bool)×(List Qa)×(List Int)×(List Int)→Int→Int→List Bool→List Int→List Qd→List Int→Option f11n5O
 | 0,_,_,_,_,_,_,_,_,_,_,_=>none
 | f+1,bg2,bh1,bh9,bb4,bj8,v373,v374,v375,v376,v377,v378 =>
  bif decide (v373<(bh9.length:Int)) then
   req (idxB bg2 10) <|
   req (idxB v373 8) <|
   (v375[((Int.toNat bg2)*8+(Int.toNat v373)*1)]?).bind fun x396 =>
   bif x396 then
    (at? v376 bg2).bind fun x399 =>
    (at? v378 v373).bind fun x401 =>
    (f23r2 (v376.set (Int.toNat bg2) (wr64 (x399-(mnI x399 x401)))) (v378.set (Int.toNat v373) (wr64 (x401-(mnI x399 x401)))) bb4 (v375.set ((Int.toNat bg2)*8+(Int.toNat v373)*1) false) bj8.2.1 bj8.2.2.1).bind fun x403 =>
    (f25r2 bg2 v373 (wr64 ((mnI x399 x401)-(wr64 ((wr64 (v374-(mnI x399 x401)))-x403)))) v374 ((v376.set (Int.toNat bg2) (wr64 (x399-(mnI x399 x401)))).set (Int.toNat bg2) (wr64 ((wr64 (x399-(mnI x399 x401)))+(mnI x399 x401)))) bb4 (v375.set ((Int.toNat bg2)*8+(Int.toNat v373)*1) false) v377 bj8.2.1 bj8.2.2.1 ((v378.set (Int.toNat v373) (wr64 (x401-(mnI x399 x401)))).set (Int.toNat v373) (wr64 ((wr64 (x401-(mnI x399 x401)))+(mnI x399 x401))))).bind fun x405 =>
    (f11n5 f bg2 bh1 bh9 bb4 bj8 (wr64 (v373+1)) (wr64 (v374-(wr64 ((mnI x399 x401)-(wr64 ((wr64 (v374-(mnI x399 x401)))-x403)))))) (v375.set ((Int.toNat bg2)*8+(Int.toNat v373)*1) false) x405.1 x405.2.2 x405.2.1)
   else
    (f11n5 f bg2 bh1 bh9 bb4 bj8 (wr64 (v373+1)) v374 v375 v376 v377 v378)
  else
   some (.exit4 v374 v375 v376 v377 v378)
theorem f11n5_ok:∀(f:Nat)(bg2:Int)(bh1 bh9:List Int)(bb4:List Qb)(bj8:(List Bool)×(List Qa)×(List Int)×(List Int))(v373 v374:Int)(v375:List Bool)(v376:List Int)(v377:List Qd)(v378:List Int){o:f11n5O},f11n5 f bg2 bh1 bh9 bb4 bj8 v373 v374 v375 v376 v377 v378=some o→TL Try.prog Try.f11.ntmps 0 f (cL (cL (Qh 2 (cL (cL (Qh 2 (cL (cL (Qh 1 (cL (Qh 4 (Qh 1 (Qh 5 c11))))))))))))) (f11n5S bg2 bh1 bh9 bb4 bj8 v373 v374 v375 v376 v377 v378) (·=f11n5E bg2 bh1 bh9 bb4 bj8 o)
 | 0,_,_,_,_,_,_,_,_,_,_,_,o,h=>by rw [f11n5] at h; cases h
 | f+1,bg2,bh1,bh9,bb4,bj8,v373,v374,v375,v376,v377,v378,o,h=>by
  rw [f11n5] at h;refine TL.body (K:=fun s=>∃v373:Int,∃v374:Int,∃v375:List Bool,∃v376:List Int,∃v377:List Qd,∃v378:List Int,s=(f11n5S bg2 bh1 bh9 bb4 bj8 v373 v374 v375 v376 v377 v378)∧f11n5 f bg2 bh1 bh9 bb4 bj8 v373 v374 v375 v376 v377 v378=some o) ?_ (by rintro _ ⟨v373,v374,v375,v376,v377,v378,rfl,hk⟩; exact f11n5_ok f _ _ _ _ _ _ _ _ _ _ _ hk);rcases Qi h with ⟨h380,h⟩|⟨h380,h⟩
  ·obtain ⟨h394,h⟩:=Qk h;obtain ⟨h395,h⟩:=Qk h;obtain ⟨x396,h397,h⟩:=Qc h;rcases Qi h with ⟨h398,h⟩|⟨h398,h⟩
   ·obtain ⟨x399,h400,h⟩:=Qc h;obtain ⟨x401,h402,h⟩:=Qc h;obtain ⟨x403,h404,h⟩:=Qc h;obtain ⟨x405,h406,h⟩:=Qc h
    exact rE Qg [j3,j3,([],[(5,.at_ (Int.toNat bg2)),(6,.at_ (Int.toNat v373)),(7,.arr ((Int.toNat bg2)*8+(Int.toNat v373)*1) (Qm x396))],[]),([],[(5,.at_ (Int.toNat bg2)),(6,.at_ (Int.toNat v373)),(7,.arw ((Int.toNat bg2)*8+(Int.toNat v373)*1))],[(7,.arr 4 ((v375.set ((Int.toNat bg2)*8+(Int.toNat v373)*1) false).map Qm))]),([],[(2,.at_ (Int.toNat bg2)),(3,.idx 0 ((cInt .i64) x399)),(9,.at_ (Int.toNat v373)),(10,.idx 0 ((cInt .i64) x401))],[]),([],[(2,.at_ (Int.toNat bg2)),(3,.idx 0 ((cInt .i64) x399)),(6,.at_ (Int.toNat bg2)),(7,.idx 0 ((cInt .i64) x399))],[(7,.row 5 ((v376.set (Int.toNat bg2) (wr64 (x399-(mnI x399 x401)))).map (cInt .i64)))]),([],[(5,.at_ (Int.toNat v373)),(6,.idx 0 ((cInt .i64) x401)),(9,.at_ (Int.toNat v373)),(10,.idx 0 ((cInt .i64) x401))],[(10,.row 9 ((v378.set (Int.toNat v373) (wr64 (x401-(mnI x399 x401)))).map (cInt .i64)))]),([],[(11,.call (jI x403) (jN 4 [some (.abox 57 [(.own 7),(jL 2 Qb.cells bb4),(.own 8),(.own 9)] ((v375.set ((Int.toNat bg2)*8+(Int.toNat v373)*1) false).map Qm)),some (.row false 1 ((v376.set (Int.toNat bg2) (wr64 (x399-(mnI x399 x401)))).map (cInt .i64))),none,jR 4 Qa.cells bj8.2.1,some (.row false 1 (bj8.2.2.1.map (cInt .i64))),some (.row false 1 ((v378.set (Int.toNat v373) (wr64 (x401-(mnI x399 x401)))).map (cInt .i64))),none,none]))],[]),([],[(2,.at_ (Int.toNat bg2)),(3,.idx 0 ((cInt .i64) (wr64 (x399-(mnI x399 x401))))),(6,.at_ (Int.toNat bg2)),(7,.idx 0 ((cInt .i64) (wr64 (x399-(mnI x399 x401)))))],[(7,.row 5 (((v376.set (Int.toNat bg2) (wr64 (x399-(mnI x399 x401)))).set (Int.toNat bg2) (wr64 ((wr64 (x399-(mnI x399 x401)))+(mnI x399 x401)))).map (cInt .i64)))]),([],[(5,.at_ (Int.toNat v373)),(6,.idx 0 ((cInt .i64) (wr64 (x401-(mnI x399 x401))))),(9,.at_ (Int.toNat v373)),(10,.idx 0 ((cInt .i64) (wr64 (x401-(mnI x399 x401)))))],[(10,.row 9 (((v378.set (Int.toNat v373) (wr64 (x401-(mnI x399 x401)))).set (Int.toNat v373) (wr64 ((wr64 (x401-(mnI x399 x401)))+(mnI x399 x401)))).map (cInt .i64)))]),([],[(6,.call (.tup []) [some (.box 51 [(.bp 4 0)]),some (.box 33 [(.own 5)]),some (.box 3 (((cInt .i64) (wr64 (v374-(wr64 ((mnI x399 x401)-(wr64 ((wr64 (v374-(mnI x399 x401)))-x403))))))).map .pl)),some (.box 26 [(.own 12)]),some (.abox 57 [(.own 7),(jL 2 Qb.cells bb4),(.own 8),(.own 9)] ((v375.set ((Int.toNat bg2)*8+(Int.toNat v373)*1) false).map Qm)),some (.row false 1 (x405.1.map (cInt .i64))),none,jR 4 Qa.cells bj8.2.1,some (.row false 1 (bj8.2.2.1.map (cInt .i64))),some (.row false 1 (x405.2.1.map (cInt .i64))),none,none,jR 3 Qd.cells x405.2.2])],[]),j3] [some true,some false] [] [0,1,2,3,4,5,12,7,8,9] [7,8,12,13,14,15,69,70,77,78] (.norm,(f11n5S bg2 bh1 bh9 bb4 bj8 (wr64 (v373+1)) (wr64 (v374-(wr64 ((mnI x399 x401)-(wr64 ((wr64 (v374-(mnI x399 x401)))-x403)))))) (v375.set ((Int.toNat bg2)*8+(Int.toNat v373)*1) false) x405.1 x405.2.2 x405.2.1)) (ap h380 (ap (Qq h394) (ap (Qs h394) (ap (Qq h395) (ap (Qs h395) (ap ((by omega:(4+(Int.toNat bg2)*8+(Int.toNat v373)*1)=4+((Int.toNat bg2)*8+(Int.toNat v373)*1))) (ap (Qt Qm h397) (ap (Qab h398) (ap (Qq h394) (ap (Qs h394) (ap (Qq h395) (ap (Qs h395) (ap ((by omega:(4+(Int.toNat bg2)*8+(Int.toNat v373)*1)=4+((Int.toNat bg2)*8+(Int.toNat v373)*1))) (ap (Qcg (f:=Qm) h397) (ap (Qai (xs:=v375) (f:=Qm) (k:=((Int.toNat bg2)*8+(Int.toNat v373)*1)) (x:=false)) (ap (Qe h400).1 (ap (Qp (cInt .i64) (Qe h400).2) (ap (Ql (cInt .i64) (Qe h400).2) (ap (Qe h402).1 (ap (Qp (cInt .i64) (Qe h402).2) (ap (Ql (cInt .i64) (Qe h402).2) (ap (Qe h400).1 (ap (Qp (cInt .i64) (Qe h400).2) (ap (Ql (cInt .i64) (Qe h400).2) (ap (Qe h400).1 (ap (Qp (cInt .i64) (Qe h400).2) (ap (Ql (cInt .i64) (Qe h400).2) (ap (Qcj (xs:=v376) (c:=(cInt .i64)) (k:=(Int.toNat bg2)) (x:=(wr64 (x399-(mnI x399 x401))))) (ap (Qe h402).1 (ap (Qp (cInt .i64) (Qe h402).2) (ap (Ql (cInt .i64) (Qe h402).2) (ap (Qe h402).1 (ap (Qp (cInt .i64) (Qe h402).2) (ap (Ql (cInt .i64) (Qe h402).2) (ap (Qcj (xs:=v378) (c:=(cInt .i64)) (k:=(Int.toNat v373)) (x:=(wr64 (x401-(mnI x399 x401))))) (ap (Qr.rn 12 [5,9,4,7,8] (f23r2_ok (v376.set (Int.toNat bg2) (wr64 (x399-(mnI x399 x401)))) (v378.set (Int.toNat v373) (wr64 (x401-(mnI x399 x401)))) bb4 (v375.set ((Int.toNat bg2)*8+(Int.toNat v373)*1) false) bj8.2.1 bj8.2.2.1 h404)) (ap (Qe h400).1 (ap (Qp (cInt .i64) (set_at (xs:=v376) (k:=(Int.toNat bg2)) (wr64 (x399-(mnI x399 x401))) (Qe h400).2)) (ap (Ql (cInt .i64) (set_at (xs:=v376) (k:=(Int.toNat bg2)) (wr64 (x399-(mnI x399 x401))) (Qe h400).2)) (ap (Qe h400).1 (ap (Qp (cInt .i64) (set_at (xs:=v376) (k:=(Int.toNat bg2)) (wr64 (x399-(mnI x399 x401))) (Qe h400).2)) (ap (Ql (cInt .i64) (set_at (xs:=v376) (k:=(Int.toNat bg2)) (wr64 (x399-(mnI x399 x401))) (Qe h400).2)) (ap (Qcj (xs:=(v376.set (Int.toNat bg2) (wr64 (x399-(mnI x399 x401))))) (c:=(cInt .i64)) (k:=(Int.toNat bg2)) (x:=(wr64 ((wr64 (x399-(mnI x399 x401)))+(mnI x399 x401))))) (ap (Qe h402).1 (ap (Qp (cInt .i64) (set_at (xs:=v378) (k:=(Int.toNat v373)) (wr64 (x401-(mnI x399 x401))) (Qe h402).2)) (ap (Ql (cInt .i64) (set_at (xs:=v378) (k:=(Int.toNat v373)) (wr64 (x401-(mnI x399 x401))) (Qe h402).2)) (ap (Qe h402).1 (ap (Qp (cInt .i64) (set_at (xs:=v378) (k:=(Int.toNat v373)) (wr64 (x401-(mnI x399 x401))) (Qe h402).2)) (ap (Ql (cInt .i64) (set_at (xs:=v378) (k:=(Int.toNat v373)) (wr64 (x401-(mnI x399 x401))) (Qe h402).2)) (ap (Qcj (xs:=(v378.set (Int.toNat v373) (wr64 (x401-(mnI x399 x401))))) (c:=(cInt .i64)) (k:=(Int.toNat v373)) (x:=(wr64 ((wr64 (x401-(mnI x399 x401)))+(mnI x399 x401))))) (ap (Qr.rn 12 [1,0,2,3,5,4,6,7,8,9] (f25r2_ok bg2 v373 (wr64 ((mnI x399 x401)-(wr64 ((wr64 (v374-(mnI x399 x401)))-x403)))) v374 ((v376.set (Int.toNat bg2) (wr64 (x399-(mnI x399 x401)))).set (Int.toNat bg2) (wr64 ((wr64 (x399-(mnI x399 x401)))+(mnI x399 x401)))) bb4 (v375.set ((Int.toNat bg2)*8+(Int.toNat v373)*1) false) v377 bj8.2.1 bj8.2.2.1 ((v378.set (Int.toNat v373) (wr64 (x401-(mnI x399 x401)))).set (Int.toNat v373) (wr64 ((wr64 (x401-(mnI x399 x401)))+(mnI x399 x401)))) h406)) an))))))))))))))))))))))))))))))))))))))))))))))))))) (Qn.norm ⟨(wr64 (v373+1)),(wr64 (v374-(wr64 ((mnI x399 x401)-(wr64 ((wr64 (v374-(mnI x399 x401)))-x403)))))),(v375.set ((Int.toNat bg2)*8+(Int.toNat v373)*1) false),x405.1,x405.2.2,x405.2.1,rfl,h⟩)
   ·exact rE Qg [j3,j3,([],[(5,.at_ (Int.toNat bg2)),(6,.at_ (Int.toNat v373)),(7,.arr ((Int.toNat bg2)*8+(Int.toNat v373)*1) (Qm x396))],[]),j3] [some true,some true] [] [0,1,2,3,4,5,6,7,8,9] [7,8,12,13,14,15,69,70,77,78] (.norm,(f11n5S bg2 bh1 bh9 bb4 bj8 (wr64 (v373+1)) v374 v375 v376 v377 v378)) (ap h380 (ap (Qq h394) (ap (Qs h394) (ap (Qq h395) (ap (Qs h395) (ap ((by omega:(4+(Int.toNat bg2)*8+(Int.toNat v373)*1)=4+((Int.toNat bg2)*8+(Int.toNat v373)*1))) (ap (Qt Qm h397) (ap (Qak h398) an)))))))) (Qn.norm ⟨(wr64 (v373+1)),v374,v375,v376,v377,v378,rfl,h⟩)
  ·obtain rfl:=Qf h;exact rK Qg 2 [j3] [some false] [] [0,1,2,3,4,5,6,7,8,9] [7,8,12,13,14,69,70] (.exit 4) ((f11n5E bg2 bh1 bh9 bb4 bj8 (.exit4 v374 v375 v376 v377 v378)).2) (ap h380 an) (Qn.out rfl rfl)
inductive f11n4O where
 | norm (v419:Int) (v420:List Bool) (v421:List Int) (v422:List Qd) (v423:List Int)
def f11n4E(bh1:List Int)(bg2 bg3:Int)(bb4:List Qb)(bi5:List Bool)(bh6:List Int)(bc7:List Qd)(bj8:(List Bool)×(List Qa)×(List Int)×(List Int))(bh9:List Int):f11n4O→Ex×Tr×Hp
 | .norm v419 v420 v421 v422 v423=>(.norm,mkS [(7,(.bp 0 0)),(8,(.bp 1 0)),(12,(.bp 2 0)),(13,(.bp 3 0)),(14,(.clo 25 [(.bp 1 0),(.bp 0 0),(.bp 2 0),(.bp 3 0)])),(69,(jI (bh1.length:Int))),(70,(jI bg2))],[some (.box 51 [(.bp 4 0)]),some (.box 33 [(.own 5)]),some (.box 3 (((cInt .i64) v419).map .pl)),some (.box 26 [(.own 6)]),some (.abox 57 [(.own 7),(jL 2 Qb.cells bb4),(.own 8),(.own 9)] (v420.map Qm)),some (.row false 1 (v421.map (cInt .i64))),jR 3 Qd.cells v422,jR 4 Qa.cells bj8.2.1,some (.row false 1 (bj8.2.2.1.map (cInt .i64))),some (.row false 1 (v423.map (cInt .i64)))])
def f11n4S(bh1:List Int)(bg2 bg3:Int)(bb4:List Qb)(bi5:List Bool)(bh6:List Int)(bc7:List Qd)(bj8:(List Bool)×(List Qa)×(List Int)×(List Int))(bh9:List Int):Tr×Hp:=(mkS [(7,(.bp 0 0)),(8,(.bp 1 0)),(12,(.bp 2 0)),(13,(.bp 3 0)),(14,(.clo 25 [(.bp 1 0),(.bp 0 0),(.bp 2 0),(.bp 3 0)])),(69,(jI (bh1.length:Int))),(70,(jI bg2))],[some (.box 51 [(.bp 4 0)]),some (.box 33 [(.own 5)]),some (.box 3 (((cInt .i64) bg3).map .pl)),some (.box 26 [(.own 6)]),some (.abox 57 [(.own 7),(jL 2 Qb.cells bb4),(.own 8),(.own 9)] (bi5.map Qm)),some (.row false 1 (bh6.map (cInt .i64))),jR 3 Qd.cells bc7,jR 4 Qa.cells bj8.2.1,some (.row false 1 (bj8.2.2.1.map (cInt .i64))),some (.row false 1 (bh9.map (cInt .i64)))])
noncomputable def f11n4(bh1:List Int)(bg2 bg3:Int)(bb4:List Qb)(bi5:List Bool)(bh6:List Int)(bc7:List Qd)(bj8:(List Bool)×(List Qa)×(List Int)×(List Int))(bh9:List Int):Option f11n4O :=
 (f11n5 FUEL bg2 bh1 bh9 bb4 bj8 0 bg3 bi5 bh6 bc7 bh9).bind fun o412=>match o412 with
 | .exit4 v414 v415 v416 v417 v418=>some (.norm v414 v415 v416 v417 v418)
theorem f11n4_ok(bh1:List Int)(bg2 bg3:Int)(bb4:List Qb)(bi5:List Bool)(bh6:List Int)(bc7:List Qd)(bj8:(List Bool)×(List Qa)×(List Int)×(List Int))(bh9:List Int){o:f11n4O}(h:f11n4 bh1 bg2 bg3 bb4 bi5 bh6 bc7 bj8 bh9=some o):T Try.prog Try.f11.ntmps 0 (cL (Qh 2 (cL (cL (Qh 1 (cL (Qh 4 (Qh 1 (Qh 5 c11))))))))) (f11n4S bh1 bg2 bg3 bb4 bi5 bh6 bc7 bj8 bh9) (·=f11n4E bh1 bg2 bg3 bb4 bi5 bh6 bc7 bj8 bh9 o):=by
 unfold f11n4 at h;refine T.block' (i:=3) (by kernel_rfl) ?_;refine rN Qg 2 [j3,([],[],[(4,.val (jI (bh9.length:Int)))])] [] [] [0,1,2,3,4,5,6,7,8,9] [7,8,12,13,14,15,69,70,77,78] (f11n5S bg2 bh1 bh9 bb4 bj8 0 bg3 bi5 bh6 bc7 bh9) (ap (Qu (xs:=bh9) (c:=(cInt .i64))) an) ?_;obtain ⟨o412,h413,h⟩:=Qc h;cases o412 with
 | exit4 v414 v415 v416 v417 v418 =>
  obtain rfl:=Qf h;exact T.last' (T.bl (i:=4) (by kernel_rfl) (by kernel_rfl) (f11n5_ok FUEL bg2 bh1 bh9 bb4 bj8 0 bg3 bi5 bh6 bc7 bh9 h413)) (tds:=[]) (m:=[0,1,2,3,4,5,6,7,8,9]) (keep:=[7,8,12,13,14,69,70]) (st2:=(f11n4E bh1 bg2 bg3 bb4 bi5 bh6 bc7 bj8 bh9 (.norm v414 v415 v416 v417 v418)).2) (by kernel_rfl) an rfl
inductive f11n6O where
 | exit2 (v431:List Qd)
def f11n6E(bh4:List Int)(bb2:List Qb)(bj3:(List Bool)×(List Qa)×(List Int)×(List Int)):f11n6O→Ex×Tr×Hp
 | .exit2 v431=>((.exit 2),mkS [(13,(.bp 0 0))],[some (.box 26 [(.own 1)]),jR 3 Qd.cells v431])
def f11n6S(bh4:List Int)(bb2:List Qb)(bj3:(List Bool)×(List Qa)×(List Int)×(List Int))(v305 v306:Int)(v307:List Bool)(v308:List Int)(v309:List Qd)(v310:List Int):Tr×Hp:=(mkS [(7,(.bp 0 0)),(8,(.bp 1 0)),(12,(.bp 2 0)),(13,(.bp 3 0)),(14,(.clo 25 [(.bp 1 0),(.bp 0 0),(.bp 2 0),(.bp 3 0)])),(69,(jI (bh4.length:Int))),(70,(jI v305))],[some (.box 51 [(.bp 4 0)]),some (.box 33 [(.own 5)]),some (.box 3 (((cInt .i64) v306).map .pl)),some (.box 26 [(.own 6)]),some (.abox 57 [(.own 7),(jL 2 Qb.cells bb2),(.own 8),(.own 9)] (v307.map Qm)),some (.row false 1 (v308.map (cInt .i64))),jR 3 Qd.cells v309,jR 4 Qa.cells bj3.2.1,some (.row false 1 (bj3.2.2.1.map (cInt .i64))),some (.row false 1 (v310.map (cInt .i64)))])
noncomputable def f11n6:Nat→List Int→List Qb→(List Bool)×(List Qa)×(List Int)×(List Int)→Int→Int→List Bool→List Int→List Qd→List Int→Option f11n6O
 | 0,_,_,_,_,_,_,_,_,_=>none
 | f+1,bh4,bb2,bj3,v305,v306,v307,v308,v309,v310 =>
  bif decide (v305<(bh4.length:Int)) then
   (f11n4 bh4 v305 v306 bb2 v307 v308 v309 bj3 v310).bind fun o424=>match o424 with
   | .norm v426 v427 v428 v429 v430=>(f11n6 f bh4 bb2 bj3 (wr64 (v305+1)) v426 v427 v428 v429 v430)
  else
   some (.exit2 v309)
theorem f11n6_ok:∀(f:Nat)(bh4:List Int)(bb2:List Qb)(bj3:(List Bool)×(List Qa)×(List Int)×(List Int))(v305 v306:Int)(v307:List Bool)(v308:List Int)(v309:List Qd)(v310:List Int){o:f11n6O},f11n6 f bh4 bb2 bj3 v305 v306 v307 v308 v309 v310=some o→TL Try.prog Try.f11.ntmps 0 f (cL (cL (Qh 1 (cL (Qh 4 (Qh 1 (Qh 5 c11))))))) (f11n6S bh4 bb2 bj3 v305 v306 v307 v308 v309 v310) (·=f11n6E bh4 bb2 bj3 o)
 | 0,_,_,_,_,_,_,_,_,_,o,h=>by rw [f11n6] at h; cases h
 | f+1,bh4,bb2,bj3,v305,v306,v307,v308,v309,v310,o,h=>by
  rw [f11n6] at h;refine TL.body (K:=fun s=>∃v305:Int,∃v306:Int,∃v307:List Bool,∃v308:List Int,∃v309:List Qd,∃v310:List Int,s=(f11n6S bh4 bb2 bj3 v305 v306 v307 v308 v309 v310)∧f11n6 f bh4 bb2 bj3 v305 v306 v307 v308 v309 v310=some o) ?_ (by rintro _ ⟨v305,v306,v307,v308,v309,v310,rfl,hk⟩; exact f11n6_ok f _ _ _ _ _ _ _ _ _ hk);rcases Qi h with ⟨h312,h⟩|⟨h312,h⟩
  ·refine rN Qg 2 [j3] [some true] [] [0,1,2,3,4,5,6,7,8,9] [7,8,12,13,14,69,70] (f11n4S bh4 v305 v306 bb2 v307 v308 v309 bj3 v310) (ap h312 an) ?_;obtain ⟨o424,h425,h⟩:=Qc h;cases o424 with
   | norm v426 v427 v428 v429 v430 =>
    refine T.oneN (by kernel_rfl) (f11n4_ok bh4 v305 v306 bb2 v307 v308 v309 bj3 v310 h425) (st2:=(f11n4E bh4 v305 v306 bb2 v307 v308 v309 bj3 v310 (.norm v426 v427 v428 v429 v430)).2) rfl ?_;exact rE Qg [j3] [] [] [0,1,2,3,4,5,6,7,8,9] [7,8,12,13,14,69,70] (.norm,(f11n6S bh4 bb2 bj3 (wr64 (v305+1)) v426 v427 v428 v429 v430)) an (Qn.norm ⟨(wr64 (v305+1)),v426,v427,v428,v429,v430,rfl,h⟩)
  ·obtain rfl:=Qf h;exact rK Qg 2 [j3] [some false] [] [3,6] [13] (.exit 2) ((f11n6E bh4 bb2 bj3 (.exit2 v309)).2) (ap h312 an) (Qn.out rfl rfl)
inductive f11n3O where
 | norm (v435:List Qd)
def f11n3E(bg1:Int)(bb2:List Qb)(bj3:(List Bool)×(List Qa)×(List Int)×(List Int))(bh4:List Int):f11n3O→Ex×Tr×Hp
 | .norm v435=>(.norm,mkS [(13,(.bp 0 0))],[some (.box 26 [(.own 1)]),jR 3 Qd.cells v435])
def f11n3S(bg1:Int)(bb2:List Qb)(bj3:(List Bool)×(List Qa)×(List Int)×(List Int))(bh4:List Int):Tr×Hp:=(mkS [(7,(.bp 0 0)),(8,(.bp 1 0)),(12,(.bp 2 0)),(13,(.bp 3 0)),(14,(.clo 25 [(.bp 1 0),(.bp 0 0),(.bp 2 0),(.bp 3 0)]))],[some (.box 51 [(.bp 4 0)]),some (.box 33 [(.own 5)]),some (.box 3 (((cInt .i64) bg1).map .pl)),some (.box 26 [(.pl (.sl .nil 0 []))]),some (.abox 57 [(.own 6),(jL 2 Qb.cells bb2),(.own 7),(.own 8)] (bj3.1.map Qm)),some (.row false 1 (bh4.map (cInt .i64))),jR 4 Qa.cells bj3.2.1,some (.row false 1 (bj3.2.2.1.map (cInt .i64))),some (.row false 1 (bj3.2.2.2.map (cInt .i64)))])
noncomputable def f11n3(bg1:Int)(bb2:List Qb)(bj3:(List Bool)×(List Qa)×(List Int)×(List Int))(bh4:List Int):Option f11n3O :=
 (f11n6 FUEL bh4 bb2 bj3 0 bg1 bj3.1 bh4 [] bj3.2.2.2).bind fun o432=>match o432 with
 | .exit2 v434=>some (.norm v434)
theorem f11n3_ok(bg1:Int)(bb2:List Qb)(bj3:(List Bool)×(List Qa)×(List Int)×(List Int))(bh4:List Int){o:f11n3O}(h:f11n3 bg1 bb2 bj3 bh4=some o):T Try.prog Try.f11.ntmps 0 (cL (Qh 4 (Qh 1 (Qh 5 c11)))) (f11n3S bg1 bb2 bj3 bh4) (·=f11n3E bg1 bb2 bj3 bh4 o):=by
 unfold f11n3 at h;refine rN Qg 1 [([],[],[(1,.val (jI (bh4.length:Int)))])] [] [.matC 3 0 3] [0,1,2,3,4,5,9,6,7,8] [7,8,12,13,14,69,70] (f11n6S bh4 bb2 bj3 0 bg1 bj3.1 bh4 [] bj3.2.2.2) (ap (Qu (xs:=bh4) (c:=(cInt .i64))) an) ?_;obtain ⟨o432,h433,h⟩:=Qc h;cases o432 with
 | exit2 v434 =>
  obtain rfl:=Qf h;exact T.last' (T.bl (i:=2) (by kernel_rfl) (by kernel_rfl) (f11n6_ok FUEL bh4 bb2 bj3 0 bg1 bj3.1 bh4 [] bj3.2.2.2 h433)) (tds:=[]) (m:=[0,1]) (keep:=[13]) (st2:=(f11n3E bg1 bb2 bj3 bh4 (.norm v434)).2) (by kernel_rfl) an rfl
inductive f11n0O where
 | ret (v443:Int) (v444:List Qd)
def f11n0E(a1:List Qa)(a2:List Qb):f11n0O→Ex×Tr×Hp
 | .ret v443 v444=>(.ret,mkS [(4,(.own 0)),(5,(jI v443))],[jR 3 Qd.cells v444])
def f11n0S(a1:List Qa)(a2:List Qb):Tr×Hp:=(Qaz [(jL 4 Qa.cells a1),(jL 2 Qb.cells a2)] 0 .leaf,[])
noncomputable def f11n0(a1:List Qa)(a2:List Qb):Option f11n0O :=
 (f13 a1 a2).bind fun x6 =>
 bif decide (x6=0) then
  (f22r1 a1 a2).bind fun x11 =>
  (f11n1 a2 x11).bind fun o55=>match o55 with
  | .norm v57 v58=>(f24r1 x11.2.2.2).bind fun x61 =>
   bif decide (v57<x61) then
    some (.ret 50 [])
   else
    (f11n3 x61 a2 x11 v58).bind fun o436=>match o436 with
    | .norm v438=>(so26_27 v438).bind fun x441 =>
     some (.ret 0 x441)
 else
  some (.ret x6 [])
theorem f11n0_ok(a1:List Qa)(a2:List Qb){o:f11n0O}(h:f11n0 a1 a2=some o):T Try.prog Try.f11.ntmps 0 c11 (f11n0S a1 a2) (·=f11n0E a1 a2 o):=by
 unfold f11n0 at h;obtain ⟨x6,h7,h⟩:=Qc h;rcases Qi h with ⟨h8,h⟩|⟨h8,h⟩
 ·obtain ⟨x11,h12,h⟩:=Qc h;refine rN Qg 5 [j3,([],[jH 2 (jI x6)],[]),j3,([],[(2,.call (.bp 0 0) [some (.abox 57 [(.own 1),(jL 2 Qb.cells a2),(.own 2),(.own 3)] (x11.1.map Qm)),jR 4 Qa.cells x11.2.1,some (.row false 1 (x11.2.2.1.map (cInt .i64))),some (.row false 1 (x11.2.2.2.map (cInt .i64)))])],[]),j3,j3] [some false] [] [4,5,0,1,2,3] [7,8,9] (f11n1S a2 x11) (ap (f13_ok a1 a2 h7) (ap (Qab h8) (ap (f22r1_ok a1 a2 h12) an))) ?_;obtain ⟨o55,h56,h⟩:=Qc h;cases o55 with
  | norm v57 v58 =>
   refine T.oneN (by kernel_rfl) (f11n1_ok a2 x11 h56) (st2:=(f11n1E a2 x11 (.norm v57 v58)).2) rfl ?_;obtain ⟨x61,h62,h⟩:=Qc h;rcases Qi h with ⟨h64,h⟩|⟨h64,h⟩
   ·obtain rfl:=Qf h;exact rK Qg 2 [([],[(4,.call (jI x61) (jN 6 [some (.row false 1 (x11.2.2.2.map (cInt .i64)))]))],[]),j3,j3] [some true] [.mat 4 3] [8] [4,5] .ret ((f11n0E a1 a2 (.ret 50 [])).2) (ap (Qr.rn 7 [6] (f24r1_ok x11.2.2.2 h62)) (ap h64 an)) rfl
   ·refine rN Qg 4 [([],[(4,.call (jI x61) (jN 6 [some (.row false 1 (x11.2.2.2.map (cInt .i64)))]))],[]),j3,j3,j3] [some false] [] [0,1,7,8,2,3,4,5,6] [7,8,12,13,14] (f11n3S x61 a2 x11 v58) (ap (Qr.rn 7 [6] (f24r1_ok x11.2.2.2 h62)) (ap h64 an)) ?_;obtain ⟨o436,h437,h⟩:=Qc h;cases o436 with
    | norm v438 =>
     refine T.oneN (by kernel_rfl) (f11n3_ok x61 a2 x11 v58 h437) (st2:=(f11n3E x61 a2 x11 v58 (.norm v438)).2) rfl ?_;obtain ⟨x441,h442,h⟩:=Qc h;obtain rfl:=Qf h;exact rE Qg [([],[(1,.call (.tup []) [none,jR 3 Qd.cells x441])],[]),j3] [] [] [1] [4,5] (.ret,(f11n0E a1 a2 (.ret 0 x441)).2) (ap (Qr.rn 2 [1] (so26_27_ok v438 h442)) an) rfl
 ·obtain rfl:=Qf h;exact rK Qg 2 [j3,([],[jH 2 (jI x6)],[]),j3,j3] [some true] [.mat 4 3] [0] [4,5] .ret ((f11n0E a1 a2 (.ret x6 [])).2) (ap (f13_ok a1 a2 h7) (ap (Qak h8) an)) rfl
noncomputable def f11(a1:List Qa)(a2:List Qb):Option ((List Qd)×Int):=(f11n0 a1 a2).bind fun o=>match o with
 | .ret v443 v444=>some (v444,v443)
theorem f11_ok(a1:List Qa)(a2:List Qb){r:(List Qd)×Int}(h:f11 a1 a2=some r):Qr Try.prog false 11 [(jL 4 Qa.cells a1),(jL 2 Qb.cells a2)] [] (.tup [(jL 3 Qd.cells r.1),(jI r.2)]) []:=by
 unfold f11 at h;obtain ⟨o,ho,h⟩:=Qc h;cases o with
 | ret v443 v444 =>
  obtain rfl:=Qf h;exact Qr.plain Qg (f:=Try.f11) (c:=c11) (by kernel_rfl) (by kernel_rfl) (by kernel_rfl) (by kernel_rfl) ((f11n0_ok a1 a2 ho).mono fun r e=>by subst e; exact ⟨.inl rfl,(.tup [(.own 0),(jI v443)]),(.tup [(jL 3 Qd.cells v444),(jI v443)]),by kernel_rfl,by kernel_rfl,((Wk.refl _):Wk (.tup [(jL 3 Qd.cells v444),(jI v443)]) (.tup [(jL 3 Qd.cells v444),(jI v443)]))⟩)


end Go.Proofs.Ytinabbgjignkbaa
namespace Go.Proofs.Ytinabbgjignkbaa
set_option linter.unusedVariables false
set_option linter.unusedSimpArgs false
set_option maxRecDepth 100000
open Go.RowKit












noncomputable def c3:Code:=Try.f3.body.getD .skip




noncomputable def c4:Code:=Try.f4.body.getD .skip
end Go.Proofs.Ytinabbgjignkbaa
namespace Go.Proofs.Ytinabbgjignkbaa
set_option linter.unusedVariables false
set_option linter.unusedSimpArgs false
set_option maxRecDepth 100000
open Go.RowKit
inductive f23r3n2O where
 | exit2 (v3108:List Int)
def f23r3n2E(bg1:Int)(bh2 bh3:List Int)(bb4:List Qb)(bi5:List Bool)(ba6:List Qa)(bh7 bh8 bh9:List Int):f23r3n2O→Ex×Tr×Hp
 | .exit2 v3108=>((.exit 2),mkS [(0,(.own 4)),(1,(.own 5)),(2,(.bp 2 4)),(7,(.bp 6 0)),(8,(jI bg1)),(9,(.bp 7 0)),(10,(.bp 8 0))],[some (.row false 1 (bh2.map (cInt .i64))),some (.row false 1 (bh3.map (cInt .i64))),some (.abox 57 [(.own 3),(jL 2 Qb.cells bb4),(.own 0),(.own 1)] (bi5.map Qm)),jR 4 Qa.cells ba6,some (.row false 1 (bh7.map (cInt .i64))),some (.row false 1 (bh8.map (cInt .i64))),some (.abox 82 [] (bh9.map (pInt .i64))),some (.abox 83 [] ((List.replicate 10 0).map (pInt .i64))),some (.abox 80 [] (v3108.map (pInt .i64)))])
def f23r3n2S(bg1:Int)(bh2 bh3:List Int)(bb4:List Qb)(bi5:List Bool)(ba6:List Qa)(bh7 bh8 bh9:List Int)(v3100:Int)(v3101:List Int):Tr×Hp:=(mkS [(0,(.own 4)),(1,(.own 5)),(2,(.bp 2 4)),(7,(.bp 6 0)),(8,(jI bg1)),(9,(.bp 7 0)),(10,(.bp 8 0)),(27,(jI v3100))],[some (.row false 1 (bh2.map (cInt .i64))),some (.row false 1 (bh3.map (cInt .i64))),some (.abox 57 [(.own 3),(jL 2 Qb.cells bb4),(.own 0),(.own 1)] (bi5.map Qm)),jR 4 Qa.cells ba6,some (.row false 1 (bh7.map (cInt .i64))),some (.row false 1 (bh8.map (cInt .i64))),some (.abox 82 [] (bh9.map (pInt .i64))),some (.abox 83 [] ((List.replicate 10 0).map (pInt .i64))),some (.abox 80 [] (v3101.map (pInt .i64)))])
noncomputable def f23r3n2:Nat→Int→List Int→List Int→List Qb→List Bool→List Qa→List Int→List Int→List Int→Int→List Int→Option f23r3n2O
 | 0,_,_,_,_,_,_,_,_,_,_,_=>none
 | f+1,bg1,bh2,bh3,bb4,bi5,ba6,bh7,bh8,bh9,v3100,v3101 =>
  bif decide (v3100<8) then
   req (idxB v3100 8) <|
   req (decide (((Int.toNat v3100)*1)<v3101.length)) <|
   (f23r3n2 f bg1 bh2 bh3 bb4 bi5 ba6 bh7 bh8 bh9 (wr64 (v3100+1)) (v3101.set ((Int.toNat v3100)*1) (-1)))
  else
   some (.exit2 v3101)
theorem f23r3n2_ok:∀(f:Nat)(bg1:Int)(bh2 bh3:List Int)(bb4:List Qb)(bi5:List Bool)(ba6:List Qa)(bh7 bh8 bh9:List Int)(v3100:Int)(v3101:List Int){o:f23r3n2O},f23r3n2 f bg1 bh2 bh3 bb4 bi5 ba6 bh7 bh8 bh9 v3100 v3101=some o→TL Try.prog Try.f23.ntmps 4 f (cL (cL (Qh 1 (cL (Qh 2 (cL (cL (cL (Qh 4 c23))))))))) (f23r3n2S bg1 bh2 bh3 bb4 bi5 ba6 bh7 bh8 bh9 v3100 v3101) (·=f23r3n2E bg1 bh2 bh3 bb4 bi5 ba6 bh7 bh8 bh9 o)
 | 0,_,_,_,_,_,_,_,_,_,_,_,o,h=>by rw [f23r3n2] at h; cases h
 | f+1,bg1,bh2,bh3,bb4,bi5,ba6,bh7,bh8,bh9,v3100,v3101,o,h=>by
  rw [f23r3n2] at h;refine TL.body (K:=fun s=>∃v3100:Int,∃v3101:List Int,s=(f23r3n2S bg1 bh2 bh3 bb4 bi5 ba6 bh7 bh8 bh9 v3100 v3101)∧f23r3n2 f bg1 bh2 bh3 bb4 bi5 ba6 bh7 bh8 bh9 v3100 v3101=some o) ?_ (by rintro _ ⟨v3100,v3101,rfl,hk⟩; exact f23r3n2_ok f _ _ _ _ _ _ _ _ _ _ _ hk);rcases Qi h with ⟨h3103,h⟩|⟨h3103,h⟩
  ·obtain ⟨h3106,h⟩:=Qk h;obtain ⟨h3107,h⟩:=Qk h;exact rE Qg [j3,j3,([],[(1,.at_ (Int.toNat v3100)),(2,.arw ((Int.toNat v3100)*1))],[(2,.arr 8 ((v3101.set ((Int.toNat v3100)*1) (-1)).map (pInt .i64)))]),j3] [some true] [] [4,5,6,7,8] [0,1,2,7,8,9,10,27] (.norm,(f23r3n2S bg1 bh2 bh3 bb4 bi5 ba6 bh7 bh8 bh9 (wr64 (v3100+1)) (v3101.set ((Int.toNat v3100)*1) (-1)))) (ap h3103 (ap (Qq h3106) (ap (Qs h3106) (ap ((by omega:(0+(Int.toNat v3100)*1)=0+((Int.toNat v3100)*1))) (ap (arr_lt (f:=(pInt .i64)) h3107) (ap (Qai (xs:=v3101) (f:=(pInt .i64)) (k:=((Int.toNat v3100)*1)) (x:=(-1))) an)))))) (Qn.norm ⟨(wr64 (v3100+1)),(v3101.set ((Int.toNat v3100)*1) (-1)),rfl,h⟩)
  ·obtain rfl:=Qf h;exact rK Qg 2 [j3] [some false] [] [4,5,6,7,8] [0,1,2,7,8,9,10] (.exit 2) ((f23r3n2E bg1 bh2 bh3 bb4 bi5 ba6 bh7 bh8 bh9 (.exit2 v3101)).2) (ap h3103 an) (Qn.out rfl rfl)
inductive f23r3n1O where
 | norm (v3112:List Int)
def f23r3n1E(bg1:Int)(bh2 bh3:List Int)(bb4:List Qb)(bi5:List Bool)(ba6:List Qa)(bh7 bh8 bh9:List Int):f23r3n1O→Ex×Tr×Hp
 | .norm v3112=>(.norm,mkS [(0,(.own 4)),(1,(.own 5)),(2,(.bp 2 4)),(7,(.bp 6 0)),(8,(jI bg1)),(9,(.bp 7 0)),(10,(.bp 8 0))],[some (.row false 1 (bh2.map (cInt .i64))),some (.row false 1 (bh3.map (cInt .i64))),some (.abox 57 [(.own 3),(jL 2 Qb.cells bb4),(.own 0),(.own 1)] (bi5.map Qm)),jR 4 Qa.cells ba6,some (.row false 1 (bh7.map (cInt .i64))),some (.row false 1 (bh8.map (cInt .i64))),some (.abox 82 [] (bh9.map (pInt .i64))),some (.abox 83 [] ((List.replicate 10 0).map (pInt .i64))),some (.abox 80 [] (v3112.map (pInt .i64)))])
def f23r3n1S(bg1:Int)(bh2 bh3:List Int)(bb4:List Qb)(bi5:List Bool)(ba6:List Qa)(bh7 bh8 bh9:List Int):Tr×Hp:=(mkS [(0,(.own 4)),(1,(.own 5)),(2,(.bp 2 4)),(7,(.bp 6 0)),(8,(jI bg1)),(9,(.bp 7 0)),(10,(.bp 8 0))],[some (.row false 1 (bh2.map (cInt .i64))),some (.row false 1 (bh3.map (cInt .i64))),some (.abox 57 [(.own 3),(jL 2 Qb.cells bb4),(.own 0),(.own 1)] (bi5.map Qm)),jR 4 Qa.cells ba6,some (.row false 1 (bh7.map (cInt .i64))),some (.row false 1 (bh8.map (cInt .i64))),some (.abox 82 [] (bh9.map (pInt .i64))),some (.box 83 ((Arr83.cells (Arr83.mk 0 0 0 0 0 0 0 0 0 0)).map .pl)),some (.box 80 ((Qbd.cells (Qbd.mk 0 0 0 0 0 0 0 0)).map .pl))])
noncomputable def f23r3n1(bg1:Int)(bh2 bh3:List Int)(bb4:List Qb)(bi5:List Bool)(ba6:List Qa)(bh7 bh8 bh9:List Int):Option f23r3n1O :=
 (f23r3n2 FUEL bg1 bh2 bh3 bb4 bi5 ba6 bh7 bh8 bh9 0 (List.replicate 8 0)).bind fun o3109=>match o3109 with
 | .exit2 v3111=>some (.norm v3111)
theorem f23r3n1_ok(bg1:Int)(bh2 bh3:List Int)(bb4:List Qb)(bi5:List Bool)(ba6:List Qa)(bh7 bh8 bh9:List Int){o:f23r3n1O}(h:f23r3n1 bg1 bh2 bh3 bb4 bi5 ba6 bh7 bh8 bh9=some o):T Try.prog Try.f23.ntmps 4 (cL (Qh 2 (cL (cL (cL (Qh 4 c23)))))) (f23r3n1S bg1 bh2 bh3 bb4 bi5 ba6 bh7 bh8 bh9) (·=f23r3n1E bg1 bh2 bh3 bb4 bi5 ba6 bh7 bh8 bh9 o):=by
 unfold f23r3n1 at h;refine rN Qg 1 [j3] [] [.toA 7 0 ((List.replicate 10 0).map (pInt .i64)),.toA 8 0 ((List.replicate 8 0).map (pInt .i64))] [4,5,6,7,8] [0,1,2,7,8,9,10,27] (f23r3n2S bg1 bh2 bh3 bb4 bi5 ba6 bh7 bh8 bh9 0 (List.replicate 8 0)) (ap (toA_r ((List.replicate 10 0).map (pInt .i64))) (ap (toA_r ((List.replicate 8 0).map (pInt .i64))) an)) ?_;obtain ⟨o3109,h3110,h⟩:=Qc h;cases o3109 with
 | exit2 v3111 =>
  obtain rfl:=Qf h;exact T.last' (T.bl (i:=2) (by kernel_rfl) (by kernel_rfl) (f23r3n2_ok FUEL bg1 bh2 bh3 bb4 bi5 ba6 bh7 bh8 bh9 0 (List.replicate 8 0) h3110)) (tds:=[]) (m:=[4,5,6,7,8]) (keep:=[0,1,2,7,8,9,10]) (st2:=(f23r3n1E bg1 bh2 bh3 bb4 bi5 ba6 bh7 bh8 bh9 (.norm v3111)).2) (by kernel_rfl) an rfl
inductive f23r3n4O where
 | exit4 (v3170:List Int) (v3171:List Int)
def f23r3n4E(bg1:Int)(bh2 bh3:List Int)(bb4:List Qb)(bi5:List Bool)(ba6:List Qa)(bh7 bh8 bh9 bh10:List Int):f23r3n4O→Ex×Tr×Hp
 | .exit4 v3170 v3171=>((.exit 4),mkS [(0,(.own 4)),(1,(.own 5)),(2,(.bp 2 4)),(7,(.bp 6 0)),(8,(jI bg1)),(9,(.bp 7 0)),(10,(.bp 8 0)),(12,(.own 9))],[some (.row false 1 (bh2.map (cInt .i64))),some (.row false 1 (bh3.map (cInt .i64))),some (.abox 57 [(.own 3),(jL 2 Qb.cells bb4),(.own 0),(.own 1)] (bi5.map Qm)),jR 4 Qa.cells ba6,some (.row false 1 (bh7.map (cInt .i64))),some (.row false 1 (bh8.map (cInt .i64))),some (.abox 82 [] (bh9.map (pInt .i64))),some (.abox 83 [] (v3170.map (pInt .i64))),some (.abox 80 [] (bh10.map (pInt .i64))),some (.row false 1 (v3171.map (cInt .i64)))])
def f23r3n4S(bg1:Int)(bh2 bh3:List Int)(bb4:List Qb)(bi5:List Bool)(ba6:List Qa)(bh7 bh8 bh9 bh10:List Int)(v3149:Int)(v3150 v3151:List Int):Tr×Hp:=(mkS [(0,(.own 4)),(1,(.own 5)),(2,(.bp 2 4)),(7,(.bp 6 0)),(8,(jI bg1)),(9,(.bp 7 0)),(10,(.bp 8 0)),(12,(.own 9)),(33,(jI v3149))],[some (.row false 1 (bh2.map (cInt .i64))),some (.row false 1 (bh3.map (cInt .i64))),some (.abox 57 [(.own 3),(jL 2 Qb.cells bb4),(.own 0),(.own 1)] (bi5.map Qm)),jR 4 Qa.cells ba6,some (.row false 1 (bh7.map (cInt .i64))),some (.row false 1 (bh8.map (cInt .i64))),some (.abox 82 [] (bh9.map (pInt .i64))),some (.abox 83 [] (v3150.map (pInt .i64))),some (.abox 80 [] (bh10.map (pInt .i64))),some (.row false 1 (v3151.map (cInt .i64)))])
noncomputable def f23r3n4:Nat→Int→List Int→List Int→List Qb→List Bool→List Qa→List Int→List Int→List Int→List Int→Int→List Int→List Int→Option f23r3n4O
 | 0,_,_,_,_,_,_,_,_,_,_,_,_,_=>none
 | f+1,bg1,bh2,bh3,bb4,bi5,ba6,bh7,bh8,bh9,bh10,v3149,v3150,v3151 =>
  bif decide (v3149<10) then
   req (idxB v3149 10) <|
   req (decide (((Int.toNat v3149)*1)<v3150.length)) <|
   bif decide (v3149<(bh7.length:Int)) then
    (at? bh7 v3149).bind fun x3165 =>
    bif decide (0<x3165) then
     req (decide (((Int.toNat v3149)*1)<(v3150.set ((Int.toNat v3149)*1) (-1)).length)) <|
     req (fit (v3151.length+1) 8) <|
     (f23r3n4 f bg1 bh2 bh3 bb4 bi5 ba6 bh7 bh8 bh9 bh10 (wr64 (v3149+1)) ((v3150.set ((Int.toNat v3149)*1) (-1)).set ((Int.toNat v3149)*1) (-2)) (v3151++[v3149]))
    else
     (f23r3n4 f bg1 bh2 bh3 bb4 bi5 ba6 bh7 bh8 bh9 bh10 (wr64 (v3149+1)) (v3150.set ((Int.toNat v3149)*1) (-1)) v3151)
   else
    (f23r3n4 f bg1 bh2 bh3 bb4 bi5 ba6 bh7 bh8 bh9 bh10 (wr64 (v3149+1)) (v3150.set ((Int.toNat v3149)*1) (-1)) v3151)
  else
   some (.exit4 v3150 v3151)
theorem f23r3n4_ok:∀(f:Nat)(bg1:Int)(bh2 bh3:List Int)(bb4:List Qb)(bi5:List Bool)(ba6:List Qa)(bh7 bh8 bh9 bh10:List Int)(v3149:Int)(v3150 v3151:List Int){o:f23r3n4O},f23r3n4 f bg1 bh2 bh3 bb4 bi5 ba6 bh7 bh8 bh9 bh10 v3149 v3150 v3151=some o→TL Try.prog Try.f23.ntmps 4 f (cL (cL (Qh 1 (cL (Qh 1 (Qh 1 (Qh 2 (cL (cL (cL (Qh 4 c23))))))))))) (f23r3n4S bg1 bh2 bh3 bb4 bi5 ba6 bh7 bh8 bh9 bh10 v3149 v3150 v3151) (·=f23r3n4E bg1 bh2 bh3 bb4 bi5 ba6 bh7 bh8 bh9 bh10 o)
 | 0,_,_,_,_,_,_,_,_,_,_,_,_,_,o,h=>by rw [f23r3n4] at h; cases h
 | f+1,bg1,bh2,bh3,bb4,bi5,ba6,bh7,bh8,bh9,bh10,v3149,v3150,v3151,o,h=>by
  rw [f23r3n4] at h;refine TL.body (K:=fun s=>∃v3149:Int,∃v3150:List Int,∃v3151:List Int,s=(f23r3n4S bg1 bh2 bh3 bb4 bi5 ba6 bh7 bh8 bh9 bh10 v3149 v3150 v3151)∧f23r3n4 f bg1 bh2 bh3 bb4 bi5 ba6 bh7 bh8 bh9 bh10 v3149 v3150 v3151=some o) ?_ (by rintro _ ⟨v3149,v3150,v3151,rfl,hk⟩; exact f23r3n4_ok f _ _ _ _ _ _ _ _ _ _ _ _ _ hk);rcases Qi h with ⟨h3153,h⟩|⟨h3153,h⟩
  ·obtain ⟨h3162,h⟩:=Qk h;obtain ⟨h3163,h⟩:=Qk h;rcases Qi h with ⟨h3164,h⟩|⟨h3164,h⟩
   ·obtain ⟨x3165,h3166,h⟩:=Qc h;rcases Qi h with ⟨h3167,h⟩|⟨h3167,h⟩
    ·obtain ⟨h3168,h⟩:=Qk h;obtain ⟨h3169,h⟩:=Qk h
     exact rE Qg [j3,j3,([],[(1,.at_ (Int.toNat v3149)),(2,.arw ((Int.toNat v3149)*1))],[(2,.arr 7 ((v3150.set ((Int.toNat v3149)*1) (-1)).map (pInt .i64)))]),(jT [5,6,7,8,9],[(7,.at_ (Int.toNat v3149)),(8,.idx 0 ((cInt .i64) x3165)),(10,.bool true)],[(2,.val (jI (bh7.length:Int)))]),([],[(1,.at_ (Int.toNat v3149)),(2,.arw ((Int.toNat v3149)*1))],[(2,.arr 7 (((v3150.set ((Int.toNat v3149)*1) (-1)).set ((Int.toNat v3149)*1) (-2)).map (pInt .i64)))]),([],[(3,.fits)],[(3,.row 11 ((v3151++[v3149]).map (cInt .i64)))]),j3] [some true,some true] [] [4,5,6,7,8,11] [0,1,2,7,8,9,10,12,33] (.norm,(f23r3n4S bg1 bh2 bh3 bb4 bi5 ba6 bh7 bh8 bh9 bh10 (wr64 (v3149+1)) ((v3150.set ((Int.toNat v3149)*1) (-1)).set ((Int.toNat v3149)*1) (-2)) (v3151++[v3149]))) (ap h3153 (ap (Qq h3162) (ap (Qs h3162) (ap ((by omega:(0+(Int.toNat v3149)*1)=0+((Int.toNat v3149)*1))) (ap (arr_lt (f:=(pInt .i64)) h3163) (ap (Qai (xs:=v3150) (f:=(pInt .i64)) (k:=((Int.toNat v3149)*1)) (x:=(-1))) (ap (Qu (xs:=bh7) (c:=(cInt .i64))) (ap3 h3164 (ap (Qe h3166).1 (ap (Qp (cInt .i64) (Qe h3166).2) (ap h3164 (ap (Ql (cInt .i64) (Qe h3166).2) (ap2 h3164 (ap h3167 (ap (Qq h3162) (ap (Qs h3162) (ap ((by omega:(0+(Int.toNat v3149)*1)=0+((Int.toNat v3149)*1))) (ap (arr_lt (f:=(pInt .i64)) h3168) (ap (Qai (xs:=(v3150.set ((Int.toNat v3149)*1) (-1))) (f:=(pInt .i64)) (k:=((Int.toNat v3149)*1)) (x:=(-2))) (ap (fit_map (te:=ti3) (xs:=v3151) (n:=1) (c:=(cInt .i64)) h3169 rfl) (ap (app_cv (xs:=v3151) (ys:=[v3149]) (c:=(cInt .i64))) an))))))))))))))))))))) (Qn.norm ⟨(wr64 (v3149+1)),((v3150.set ((Int.toNat v3149)*1) (-1)).set ((Int.toNat v3149)*1) (-2)),(v3151++[v3149]),rfl,h⟩)
    ·exact rE Qg [j3,j3,([],[(1,.at_ (Int.toNat v3149)),(2,.arw ((Int.toNat v3149)*1))],[(2,.arr 7 ((v3150.set ((Int.toNat v3149)*1) (-1)).map (pInt .i64)))]),(jT [5,6,7,8,9],[(7,.at_ (Int.toNat v3149)),(8,.idx 0 ((cInt .i64) x3165)),(10,.bool true)],[(2,.val (jI (bh7.length:Int)))]),j3] [some true,some false] [] [4,5,6,7,8,9] [0,1,2,7,8,9,10,12,33] (.norm,(f23r3n4S bg1 bh2 bh3 bb4 bi5 ba6 bh7 bh8 bh9 bh10 (wr64 (v3149+1)) (v3150.set ((Int.toNat v3149)*1) (-1)) v3151)) (ap h3153 (ap (Qq h3162) (ap (Qs h3162) (ap ((by omega:(0+(Int.toNat v3149)*1)=0+((Int.toNat v3149)*1))) (ap (arr_lt (f:=(pInt .i64)) h3163) (ap (Qai (xs:=v3150) (f:=(pInt .i64)) (k:=((Int.toNat v3149)*1)) (x:=(-1))) (ap (Qu (xs:=bh7) (c:=(cInt .i64))) (ap3 h3164 (ap (Qe h3166).1 (ap (Qp (cInt .i64) (Qe h3166).2) (ap h3164 (ap (Ql (cInt .i64) (Qe h3166).2) (ap2 h3164 (ap h3167 an)))))))))))))) (Qn.norm ⟨(wr64 (v3149+1)),(v3150.set ((Int.toNat v3149)*1) (-1)),v3151,rfl,h⟩)
   ·exact rE Qg [j3,j3,([],[(1,.at_ (Int.toNat v3149)),(2,.arw ((Int.toNat v3149)*1))],[(2,.arr 7 ((v3150.set ((Int.toNat v3149)*1) (-1)).map (pInt .i64)))]),(jF [5,6,7,8,9],[(10,.bool false)],[(2,.val (jI (bh7.length:Int)))]),j3] [some true,none] [] [4,5,6,7,8,9] [0,1,2,7,8,9,10,12,33] (.norm,(f23r3n4S bg1 bh2 bh3 bb4 bi5 ba6 bh7 bh8 bh9 bh10 (wr64 (v3149+1)) (v3150.set ((Int.toNat v3149)*1) (-1)) v3151)) (ap h3153 (ap (Qq h3162) (ap (Qs h3162) (ap ((by omega:(0+(Int.toNat v3149)*1)=0+((Int.toNat v3149)*1))) (ap (arr_lt (f:=(pInt .i64)) h3163) (ap (Qai (xs:=v3150) (f:=(pInt .i64)) (k:=((Int.toNat v3149)*1)) (x:=(-1))) (ap (Qu (xs:=bh7) (c:=(cInt .i64))) (ap2 h3164 (ap4 h3164 an))))))))) (Qn.norm ⟨(wr64 (v3149+1)),(v3150.set ((Int.toNat v3149)*1) (-1)),v3151,rfl,h⟩)
  ·obtain rfl:=Qf h;exact rK Qg 2 [j3] [some false] [] [4,5,6,7,8,9] [0,1,2,7,8,9,10,12] (.exit 4) ((f23r3n4E bg1 bh2 bh3 bb4 bi5 ba6 bh7 bh8 bh9 bh10 (.exit4 v3150 v3151)).2) (ap h3153 an) (Qn.out rfl rfl)
inductive f23r3n3O where
 | norm (v3176:List Int) (v3177:List Int)
def f23r3n3E(bg1:Int)(bh2 bh3:List Int)(bb4:List Qb)(bi5:List Bool)(ba6:List Qa)(bh7 bh8 bh9 bh10:List Int):f23r3n3O→Ex×Tr×Hp
 | .norm v3176 v3177=>(.norm,mkS [(0,(.own 4)),(1,(.own 5)),(2,(.bp 2 4)),(7,(.bp 6 0)),(8,(jI bg1)),(9,(.bp 7 0)),(10,(.bp 8 0)),(12,(.own 9))],[some (.row false 1 (bh2.map (cInt .i64))),some (.row false 1 (bh3.map (cInt .i64))),some (.abox 57 [(.own 3),(jL 2 Qb.cells bb4),(.own 0),(.own 1)] (bi5.map Qm)),jR 4 Qa.cells ba6,some (.row false 1 (bh7.map (cInt .i64))),some (.row false 1 (bh8.map (cInt .i64))),some (.abox 82 [] (bh9.map (pInt .i64))),some (.abox 83 [] (v3176.map (pInt .i64))),some (.abox 80 [] (bh10.map (pInt .i64))),some (.row false 1 (v3177.map (cInt .i64)))])
def f23r3n3S(bg1:Int)(bh2 bh3:List Int)(bb4:List Qb)(bi5:List Bool)(ba6:List Qa)(bh7 bh8 bh9 bh10:List Int):Tr×Hp:=(mkS [(0,(.own 4)),(1,(.own 5)),(2,(.bp 2 4)),(7,(.bp 6 0)),(8,(jI bg1)),(9,(.bp 7 0)),(10,(.bp 8 0)),(12,(.pl (.sl .nil 0 [])))],[some (.row false 1 (bh2.map (cInt .i64))),some (.row false 1 (bh3.map (cInt .i64))),some (.abox 57 [(.own 3),(jL 2 Qb.cells bb4),(.own 0),(.own 1)] (bi5.map Qm)),jR 4 Qa.cells ba6,some (.row false 1 (bh7.map (cInt .i64))),some (.row false 1 (bh8.map (cInt .i64))),some (.abox 82 [] (bh9.map (pInt .i64))),some (.abox 83 [] ((List.replicate 10 0).map (pInt .i64))),some (.abox 80 [] (bh10.map (pInt .i64)))])
noncomputable def f23r3n3(bg1:Int)(bh2 bh3:List Int)(bb4:List Qb)(bi5:List Bool)(ba6:List Qa)(bh7 bh8 bh9 bh10:List Int):Option f23r3n3O :=
 (f23r3n4 FUEL bg1 bh2 bh3 bb4 bi5 ba6 bh7 bh8 bh9 bh10 0 (List.replicate 10 0) []).bind fun o3172=>match o3172 with
 | .exit4 v3174 v3175=>some (.norm v3174 v3175)
theorem f23r3n3_ok(bg1:Int)(bh2 bh3:List Int)(bb4:List Qb)(bi5:List Bool)(ba6:List Qa)(bh7 bh8 bh9 bh10:List Int){o:f23r3n3O}(h:f23r3n3 bg1 bh2 bh3 bb4 bi5 ba6 bh7 bh8 bh9 bh10=some o):T Try.prog Try.f23.ntmps 4 (cL (Qh 1 (Qh 1 (Qh 2 (cL (cL (cL (Qh 4 c23)))))))) (f23r3n3S bg1 bh2 bh3 bb4 bi5 ba6 bh7 bh8 bh9 bh10) (·=f23r3n3E bg1 bh2 bh3 bb4 bi5 ba6 bh7 bh8 bh9 bh10 o):=by
 unfold f23r3n3 at h;refine rN Qg 1 [j3] [] [.mat 12 1] [4,5,6,7,8,9] [0,1,2,7,8,9,10,12,33] (f23r3n4S bg1 bh2 bh3 bb4 bi5 ba6 bh7 bh8 bh9 bh10 0 (List.replicate 10 0) []) an ?_;obtain ⟨o3172,h3173,h⟩:=Qc h;cases o3172 with
 | exit4 v3174 v3175 =>
  obtain rfl:=Qf h;exact T.last' (T.bl (i:=4) (by kernel_rfl) (by kernel_rfl) (f23r3n4_ok FUEL bg1 bh2 bh3 bb4 bi5 ba6 bh7 bh8 bh9 bh10 0 (List.replicate 10 0) [] h3173)) (tds:=[]) (m:=[4,5,6,7,8,9]) (keep:=[0,1,2,7,8,9,10,12]) (st2:=(f23r3n3E bg1 bh2 bh3 bb4 bi5 ba6 bh7 bh8 bh9 bh10 (.norm v3174 v3175)).2) (by kernel_rfl) an rfl
inductive f23r3n7O where
 | exit10 (v4352:Nat) (v4353:Nat) (v4354:List Int) (v4355:List Int)
def f23r3n7E(bg1 bg4 bg5 bg7:Int)(bh6 bh13 bh8 bh9:List Int)(bb10:List Qb)(bi11:List Bool)(ba12:List Qa)(bh14 bh16:List Int):f23r3n7O→Ex×Tr×Hp
 | .exit10 v4352 v4353 v4354 v4355=>((.exit 10),mkS [(0,(.own 4)),(1,(.own 5)),(2,(.bp 2 4)),(7,(.bp 6 0)),(8,(jI bg1)),(9,(.bp 7 0)),(10,(.bp 8 0)),(12,(.vw 9 v4352 v4353)),(14,(jI bg4)),(15,(jI bg5)),(69,(jI (bh6.length:Int))),(70,(jI bg7))],[some (.row false 1 (bh8.map (cInt .i64))),some (.row false 1 (bh9.map (cInt .i64))),some (.abox 57 [(.own 3),(jL 2 Qb.cells bb10),(.own 0),(.own 1)] (bi11.map Qm)),jR 4 Qa.cells ba12,some (.row false 1 (bh13.map (cInt .i64))),some (.row false 1 (bh6.map (cInt .i64))),some (.abox 82 [] (bh14.map (pInt .i64))),some (.abox 83 [] (v4354.map (pInt .i64))),some (.abox 80 [] ((bh16.set ((Int.toNat bg7)*1) bg5).map (pInt .i64))),some (.row false 1 (v4355.map (cInt .i64)))])
def f23r3n7S(bg1 bg4 bg5 bg7:Int)(bh6 bh13 bh8 bh9:List Int)(bb10:List Qb)(bi11:List Bool)(ba12:List Qa)(bh14 bh16:List Int)(v4325 v4326:Nat)(v4327:Int)(v4328 v4329:List Int):Tr×Hp:=(mkS [(0,(.own 4)),(1,(.own 5)),(2,(.bp 2 4)),(7,(.bp 6 0)),(8,(jI bg1)),(9,(.bp 7 0)),(10,(.bp 8 0)),(12,(.vw 9 v4325 v4326)),(14,(jI bg4)),(15,(jI bg5)),(16,(jI bg7)),(69,(jI (bh6.length:Int))),(70,(jI bg7)),(97,(jI (bh13.length:Int))),(98,(jI v4327))],[some (.row false 1 (bh8.map (cInt .i64))),some (.row false 1 (bh9.map (cInt .i64))),some (.abox 57 [(.own 3),(jL 2 Qb.cells bb10),(.own 0),(.own 1)] (bi11.map Qm)),jR 4 Qa.cells ba12,some (.row false 1 (bh13.map (cInt .i64))),some (.row false 1 (bh6.map (cInt .i64))),some (.abox 82 [] (bh14.map (pInt .i64))),some (.abox 83 [] (v4328.map (pInt .i64))),some (.abox 80 [] ((bh16.set ((Int.toNat bg7)*1) bg5).map (pInt .i64))),some (.row false 1 (v4329.map (cInt .i64)))])
noncomputable def f23r3n7:Nat→Int→Int→Int→Int→List Int→List Int→List Int→List Int→List Qb→List Bool→List Qa→List Int→List Int→Nat→Nat→Int→List Int→List Int→Option f23r3n7O
 | 0,_,_,_,_,_,_,_,_,_,_,_,_,_,_,_,_,_,_=>none
 | f+1,bg1,bg4,bg5,bg7,bh6,bh13,bh8,bh9,bb10,bi11,ba12,bh14,bh16,v4325,v4326,v4327,v4328,v4329 =>
  bif decide (v4327<(bh13.length:Int)) then
   req (idxB v4327 10) <|
   (v4328[((Int.toNat v4327)*1)]?).bind fun x4343 =>
   bif decide (x4343=(-1)) then
    req (idxB bg7 8) <|
    (bh14[((Int.toNat v4327)*8+(Int.toNat bg7)*1)]?).bind fun x4347 =>
    bif decide (0<x4347) then
     req (fit (v4326+1) 8) <|
     req (decide (v4325+v4326=v4329.length)) <|
     (f23r3n7 f bg1 bg4 bg5 bg7 bh6 bh13 bh8 bh9 bb10 bi11 ba12 bh14 bh16 0 ((v4329.drop v4325++[v4327]).length) (wr64 (v4327+1)) (v4328.set ((Int.toNat v4327)*1) bg7) (v4329.drop v4325++[v4327]))
    else
     (f23r3n7 f bg1 bg4 bg5 bg7 bh6 bh13 bh8 bh9 bb10 bi11 ba12 bh14 bh16 v4325 v4326 (wr64 (v4327+1)) v4328 v4329)
   else
    (f23r3n7 f bg1 bg4 bg5 bg7 bh6 bh13 bh8 bh9 bb10 bi11 ba12 bh14 bh16 v4325 v4326 (wr64 (v4327+1)) v4328 v4329)
  else
   some (.exit10 v4325 v4326 v4328 v4329)
theorem f23r3n7_ok:∀(f:Nat)(bg1 bg4 bg5 bg7:Int)(bh6 bh13 bh8 bh9:List Int)(bb10:List Qb)(bi11:List Bool)(ba12:List Qa)(bh14 bh16:List Int)(v4325 v4326:Nat)(v4327:Int)(v4328 v4329:List Int){o:f23r3n7O},f23r3n7 f bg1 bg4 bg5 bg7 bh6 bh13 bh8 bh9 bb10 bi11 ba12 bh14 bh16 v4325 v4326 v4327 v4328 v4329=some o→TL Try.prog Try.f23.ntmps 4 f (cL (cL (Qh 3 (Qh 2 (cL (cL (Qh 2 (cL (cL (Qh 3 (cL (Qh 1 (cL (cL (cL (Qh 1 (Qh 1 (Qh 1 (Qh 1 (Qh 2 (cL (cL (cL (Qh 4 c23)))))))))))))))))))))))) (f23r3n7S bg1 bg4 bg5 bg7 bh6 bh13 bh8 bh9 bb10 bi11 ba12 bh14 bh16 v4325 v4326 v4327 v4328 v4329) (·=f23r3n7E bg1 bg4 bg5 bg7 bh6 bh13 bh8 bh9 bb10 bi11 ba12 bh14 bh16 o)
 | 0,_,_,_,_,_,_,_,_,_,_,_,_,_,_,_,_,_,_,o,h=>by rw [f23r3n7] at h; cases h
 | f+1,bg1,bg4,bg5,bg7,bh6,bh13,bh8,bh9,bb10,bi11,ba12,bh14,bh16,v4325,v4326,v4327,v4328,v4329,o,h=>by
  rw [f23r3n7] at h;refine TL.body (K:=fun s=>∃v4325:Nat,∃v4326:Nat,∃v4327:Int,∃v4328:List Int,∃v4329:List Int,s=(f23r3n7S bg1 bg4 bg5 bg7 bh6 bh13 bh8 bh9 bb10 bi11 ba12 bh14 bh16 v4325 v4326 v4327 v4328 v4329)∧f23r3n7 f bg1 bg4 bg5 bg7 bh6 bh13 bh8 bh9 bb10 bi11 ba12 bh14 bh16 v4325 v4326 v4327 v4328 v4329=some o) ?_ (by rintro _ ⟨v4325,v4326,v4327,v4328,v4329,rfl,hk⟩; exact f23r3n7_ok f _ _ _ _ _ _ _ _ _ _ _ _ _ _ _ _ _ _ hk);rcases Qi h with ⟨h4331,h⟩|⟨h4331,h⟩
  ·obtain ⟨h4342,h⟩:=Qk h;obtain ⟨x4343,h4344,h⟩:=Qc h;rcases Qi h with ⟨h4345,h⟩|⟨h4345,h⟩
   ·obtain ⟨h4346,h⟩:=Qk h;obtain ⟨x4347,h4348,h⟩:=Qc h;rcases Qi h with ⟨h4349,h⟩|⟨h4349,h⟩
    ·obtain ⟨h4350,h⟩:=Qk h;obtain ⟨h4351,h⟩:=Qk h
     exact rE Qg [j3,j3,(jT [5,6,7,8,9,10],[(1,.at_ (Int.toNat v4327)),(2,.arr ((Int.toNat v4327)*1) ((pInt .i64) x4343)),(7,.at_ (Int.toNat v4327)),(8,.at_ (Int.toNat bg7)),(9,.arr ((Int.toNat v4327)*8+(Int.toNat bg7)*1) ((pInt .i64) x4347)),(11,.bool true)],[]),([],[(2,.at_ (Int.toNat v4327)),(3,.arw ((Int.toNat v4327)*1))],[(3,.arr 7 ((v4328.set ((Int.toNat v4327)*1) bg7).map (pInt .i64)))]),([],[(3,.fits)],[(3,.row 11 ((v4329.drop v4325++[v4327]).map (cInt .i64)))]),j3] [some true,some true] [.ovw 12 ((v4329.drop v4325++[v4327]).length)] [4,5,6,7,8,11] [0,1,2,7,8,9,10,12,14,15,16,69,70,97,98] (.norm,(f23r3n7S bg1 bg4 bg5 bg7 bh6 bh13 bh8 bh9 bb10 bi11 ba12 bh14 bh16 0 ((v4329.drop v4325++[v4327]).length) (wr64 (v4327+1)) (v4328.set ((Int.toNat v4327)*1) bg7) (v4329.drop v4325++[v4327]))) (ap h4331 (ap (Qq h4342) (ap (Qs h4342) (ap ((by omega:(0+(Int.toNat v4327)*1)=0+((Int.toNat v4327)*1))) (ap (Qt (pInt .i64) h4344) (ap3 h4345 (ap (Qq h4342) (ap (Qs h4342) (ap h4345 (ap (Qq h4346) (ap (Qs h4346) (ap h4345 (ap ((by omega:(0+(Int.toNat v4327)*8+(Int.toNat bg7)*1)=0+((Int.toNat v4327)*8+(Int.toNat bg7)*1))) (ap (Qt (pInt .i64) h4348) (ap2 h4345 (ap h4349 (ap (Qq h4342) (ap (Qs h4342) (ap ((by omega:(0+(Int.toNat v4327)*1)=0+((Int.toNat v4327)*1))) (ap (Qcg (f:=(pInt .i64)) h4344) (ap (Qai (xs:=v4328) (f:=(pInt .i64)) (k:=((Int.toNat v4327)*1)) (x:=bg7)) (ap (fit_num (te:=ti3) (n:=v4326) (k:=1) h4350 rfl) (ap (vw_end (xs:=v4329) (c:=(cInt .i64)) (a:=v4325) (l:=v4326) h4351) (ap (app_cvd (xs:=v4329) (ys:=[v4327]) (c:=(cInt .i64)) (a:=v4325)) (ap (len_ov (xs:=(v4329.drop v4325++[v4327])) (c:=(cInt .i64))) an))))))))))))))))))))))))) (Qn.norm ⟨0,(v4329.drop v4325++[v4327]).length,(wr64 (v4327+1)),(v4328.set ((Int.toNat v4327)*1) bg7),(v4329.drop v4325++[v4327]),rfl,h⟩)
    ·exact rE Qg [j3,j3,(jT [5,6,7,8,9,10],[(1,.at_ (Int.toNat v4327)),(2,.arr ((Int.toNat v4327)*1) ((pInt .i64) x4343)),(7,.at_ (Int.toNat v4327)),(8,.at_ (Int.toNat bg7)),(9,.arr ((Int.toNat v4327)*8+(Int.toNat bg7)*1) ((pInt .i64) x4347)),(11,.bool true)],[]),j3] [some true,some false] [] [4,5,6,7,8,9] [0,1,2,7,8,9,10,12,14,15,16,69,70,97,98] (.norm,(f23r3n7S bg1 bg4 bg5 bg7 bh6 bh13 bh8 bh9 bb10 bi11 ba12 bh14 bh16 v4325 v4326 (wr64 (v4327+1)) v4328 v4329)) (ap h4331 (ap (Qq h4342) (ap (Qs h4342) (ap ((by omega:(0+(Int.toNat v4327)*1)=0+((Int.toNat v4327)*1))) (ap (Qt (pInt .i64) h4344) (ap3 h4345 (ap (Qq h4342) (ap (Qs h4342) (ap h4345 (ap (Qq h4346) (ap (Qs h4346) (ap h4345 (ap ((by omega:(0+(Int.toNat v4327)*8+(Int.toNat bg7)*1)=0+((Int.toNat v4327)*8+(Int.toNat bg7)*1))) (ap (Qt (pInt .i64) h4348) (ap2 h4345 (ap h4349 an)))))))))))))))) (Qn.norm ⟨v4325,v4326,(wr64 (v4327+1)),v4328,v4329,rfl,h⟩)
   ·exact rE Qg [j3,j3,(jF [5,6,7,8,9,10],[(1,.at_ (Int.toNat v4327)),(2,.arr ((Int.toNat v4327)*1) ((pInt .i64) x4343)),(11,.bool false)],[]),j3] [some true,none] [] [4,5,6,7,8,9] [0,1,2,7,8,9,10,12,14,15,16,69,70,97,98] (.norm,(f23r3n7S bg1 bg4 bg5 bg7 bh6 bh13 bh8 bh9 bb10 bi11 ba12 bh14 bh16 v4325 v4326 (wr64 (v4327+1)) v4328 v4329)) (ap h4331 (ap (Qq h4342) (ap (Qs h4342) (ap ((by omega:(0+(Int.toNat v4327)*1)=0+((Int.toNat v4327)*1))) (ap (Qt (pInt .i64) h4344) (ap3 h4345 (ap4 h4345 an))))))) (Qn.norm ⟨v4325,v4326,(wr64 (v4327+1)),v4328,v4329,rfl,h⟩)
  ·obtain rfl:=Qf h;exact rK Qg 2 [j3] [some false] [] [4,5,6,7,8,9] [0,1,2,7,8,9,10,12,14,15,69,70] (.exit 10) ((f23r3n7E bg1 bg4 bg5 bg7 bh6 bh13 bh8 bh9 bb10 bi11 ba12 bh14 bh16 (.exit10 v4325 v4326 v4328 v4329)).2) (ap h4331 an) (Qn.out rfl rfl)
inductive f23r3n6O where
 | exit8
 | norm (v4362:Nat) (v4363:Nat) (v4364:List Int) (v4365:List Int) (v4366:List Int)
def f23r3n6E(bg1:Int)(bk2 bk3:Nat)(bg4 bg5:Int)(bh6:List Int)(bg7:Int)(bh8 bh9:List Int)(bb10:List Qb)(bi11:List Bool)(ba12:List Qa)(bh13 bh14 bh15 bh16 bh17:List Int):f23r3n6O→Ex×Tr×Hp
 | .exit8=>((.exit 8),mkS [(0,(.own 4)),(1,(.own 5)),(2,(.bp 2 4)),(7,(.bp 6 0)),(8,(jI bg1)),(9,(.bp 7 0)),(10,(.bp 8 0)),(12,(.vw 9 bk2 bk3)),(14,(jI bg7))],[some (.row false 1 (bh8.map (cInt .i64))),some (.row false 1 (bh9.map (cInt .i64))),some (.abox 57 [(.own 3),(jL 2 Qb.cells bb10),(.own 0),(.own 1)] (bi11.map Qm)),jR 4 Qa.cells ba12,some (.row false 1 (bh13.map (cInt .i64))),some (.row false 1 (bh6.map (cInt .i64))),some (.abox 82 [] (bh14.map (pInt .i64))),some (.abox 83 [] (bh15.map (pInt .i64))),some (.abox 80 [] ((bh16.set ((Int.toNat bg7)*1) bg5).map (pInt .i64))),some (.row false 1 (bh17.map (cInt .i64)))])
 | .norm v4362 v4363 v4364 v4365 v4366=>(.norm,mkS [(0,(.own 4)),(1,(.own 5)),(2,(.bp 2 4)),(7,(.bp 6 0)),(8,(jI bg1)),(9,(.bp 7 0)),(10,(.bp 8 0)),(12,(.vw 9 v4362 v4363)),(14,(jI bg4)),(15,(jI bg5)),(69,(jI (bh6.length:Int))),(70,(jI bg7))],[some (.row false 1 (bh8.map (cInt .i64))),some (.row false 1 (bh9.map (cInt .i64))),some (.abox 57 [(.own 3),(jL 2 Qb.cells bb10),(.own 0),(.own 1)] (bi11.map Qm)),jR 4 Qa.cells ba12,some (.row false 1 (bh13.map (cInt .i64))),some (.row false 1 (bh6.map (cInt .i64))),some (.abox 82 [] (bh14.map (pInt .i64))),some (.abox 83 [] (v4364.map (pInt .i64))),some (.abox 80 [] (v4365.map (pInt .i64))),some (.row false 1 (v4366.map (cInt .i64)))])
def f23r3n6S(bg1:Int)(bk2 bk3:Nat)(bg4 bg5:Int)(bh6:List Int)(bg7:Int)(bh8 bh9:List Int)(bb10:List Qb)(bi11:List Bool)(ba12:List Qa)(bh13 bh14 bh15 bh16 bh17:List Int):Tr×Hp:=(mkS [(0,(.own 4)),(1,(.own 5)),(2,(.bp 2 4)),(7,(.bp 6 0)),(8,(jI bg1)),(9,(.bp 7 0)),(10,(.bp 8 0)),(12,(.vw 9 bk2 bk3)),(14,(jI bg4)),(15,(jI bg5)),(69,(jI (bh6.length:Int))),(70,(jI bg7))],[some (.row false 1 (bh8.map (cInt .i64))),some (.row false 1 (bh9.map (cInt .i64))),some (.abox 57 [(.own 3),(jL 2 Qb.cells bb10),(.own 0),(.own 1)] (bi11.map Qm)),jR 4 Qa.cells ba12,some (.row false 1 (bh13.map (cInt .i64))),some (.row false 1 (bh6.map (cInt .i64))),some (.abox 82 [] (bh14.map (pInt .i64))),some (.abox 83 [] (bh15.map (pInt .i64))),some (.abox 80 [] (bh16.map (pInt .i64))),some (.row false 1 (bh17.map (cInt .i64)))])
noncomputable def f23r3n6(bg1:Int)(bk2 bk3:Nat)(bg4 bg5:Int)(bh6:List Int)(bg7:Int)(bh8 bh9:List Int)(bb10:List Qb)(bi11:List Bool)(ba12:List Qa)(bh13 bh14 bh15 bh16 bh17:List Int):Option f23r3n6O :=
 req (idxB bg5 10) <|
 req (idxB bg7 8) <|
 (bi11[((Int.toNat bg5)*8+(Int.toNat bg7)*1)]?).bind fun x4266 =>
 bif x4266 then
  (bh16[((Int.toNat bg7)*1)]?).bind fun x4269 =>
  bif decide (0≤x4269) then
   some (.norm bk2 bk3 bh15 bh16 bh17)
  else
   (at? bh6 bg7).bind fun x4275 =>
   bif decide (0<x4275) then
    some .exit8
   else
    (f23r3n7 FUEL bg1 bg4 bg5 bg7 bh6 bh13 bh8 bh9 bb10 bi11 ba12 bh14 bh16 bk2 bk3 0 bh15 bh17).bind fun o4356=>match o4356 with
    | .exit10 v4358 v4359 v4360 v4361=>some (.norm v4358 v4359 v4360 (bh16.set ((Int.toNat bg7)*1) bg5) v4361)
 else
  some (.norm bk2 bk3 bh15 bh16 bh17)
theorem f23r3n6_ok(bg1:Int)(bk2 bk3:Nat)(bg4 bg5:Int)(bh6:List Int)(bg7:Int)(bh8 bh9:List Int)(bb10:List Qb)(bi11:List Bool)(ba12:List Qa)(bh13 bh14 bh15 bh16 bh17:List Int){o:f23r3n6O}(h:f23r3n6 bg1 bk2 bk3 bg4 bg5 bh6 bg7 bh8 bh9 bb10 bi11 ba12 bh13 bh14 bh15 bh16 bh17=some o):T Try.prog Try.f23.ntmps 4 (cL (Qh 2 (cL (cL (Qh 3 (cL (Qh 1 (cL (cL (cL (Qh 1 (Qh 1 (Qh 1 (Qh 1 (Qh 2 (cL (cL (cL (Qh 4 c23))))))))))))))))))) (f23r3n6S bg1 bk2 bk3 bg4 bg5 bh6 bg7 bh8 bh9 bb10 bi11 ba12 bh13 bh14 bh15 bh16 bh17) (·=f23r3n6E bg1 bk2 bk3 bg4 bg5 bh6 bg7 bh8 bh9 bb10 bi11 ba12 bh13 bh14 bh15 bh16 bh17 o):=by
 unfold f23r3n6 at h;refine T.block' (i:=9) (by kernel_rfl) ?_;obtain ⟨h4264,h⟩:=Qk h;obtain ⟨h4265,h⟩:=Qk h;obtain ⟨x4266,h4267,h⟩:=Qc h;rcases Qi h with ⟨h4268,h⟩|⟨h4268,h⟩
 ·obtain ⟨x4269,h4270,h⟩:=Qc h;rcases Qi h with ⟨h4271,h⟩|⟨h4271,h⟩
  ·obtain rfl:=Qf h;exact rK Qg 2 [j3,(jF [9,10,11,12],[(4,.at_ (Int.toNat bg5)),(5,.at_ (Int.toNat bg7)),(6,.arr ((Int.toNat bg5)*8+(Int.toNat bg7)*1) (Qm x4266)),(10,.at_ (Int.toNat bg7)),(11,.arr ((Int.toNat bg7)*1) ((pInt .i64) x4269)),(13,.bool false)],[])] [some true] [] [4,5,6,7,8,9] [0,1,2,7,8,9,10,12,14,15,69,70] (.exit 9) ((f23r3n6E bg1 bk2 bk3 bg4 bg5 bh6 bg7 bh8 bh9 bb10 bi11 ba12 bh13 bh14 bh15 bh16 bh17 (.norm bk2 bk3 bh15 bh16 bh17)).2) (ap (Qq h4264) (ap (Qs h4264) (ap (Qq h4265) (ap (Qs h4265) (ap ((by omega:(4+(Int.toNat bg5)*8+(Int.toNat bg7)*1)=4+((Int.toNat bg5)*8+(Int.toNat bg7)*1))) (ap (Qt Qm h4267) (ap2 (Qab h4268) (ap (Qq h4265) (ap (Qs h4265) (ap (Qab h4268) (ap ((by omega:(0+(Int.toNat bg7)*1)=0+((Int.toNat bg7)*1))) (ap (Qt (pInt .i64) h4270) (ap2 (Qab h4268) (ap h4271 an)))))))))))))) rfl
  ·refine rN Qg 2 [j3,(jF [9,10,11,12],[(4,.at_ (Int.toNat bg5)),(5,.at_ (Int.toNat bg7)),(6,.arr ((Int.toNat bg5)*8+(Int.toNat bg7)*1) (Qm x4266)),(10,.at_ (Int.toNat bg7)),(11,.arr ((Int.toNat bg7)*1) ((pInt .i64) x4269)),(13,.bool false)],[])] [some false] [] [4,5,6,7,8,9] [0,1,2,7,8,9,10,12,14,15,16,69,70] (mkS [(0,(.own 4)),(1,(.own 5)),(2,(.bp 2 4)),(7,(.bp 6 0)),(8,(jI bg1)),(9,(.bp 7 0)),(10,(.bp 8 0)),(12,(.vw 9 bk2 bk3)),(14,(jI bg4)),(15,(jI bg5)),(16,(jI bg7)),(69,(jI (bh6.length:Int))),(70,(jI bg7))],[some (.row false 1 (bh8.map (cInt .i64))),some (.row false 1 (bh9.map (cInt .i64))),some (.abox 57 [(.own 3),(jL 2 Qb.cells bb10),(.own 0),(.own 1)] (bi11.map Qm)),jR 4 Qa.cells ba12,some (.row false 1 (bh13.map (cInt .i64))),some (.row false 1 (bh6.map (cInt .i64))),some (.abox 82 [] (bh14.map (pInt .i64))),some (.abox 83 [] (bh15.map (pInt .i64))),some (.abox 80 [] (bh16.map (pInt .i64))),some (.row false 1 (bh17.map (cInt .i64)))]) (ap (Qq h4264) (ap (Qs h4264) (ap (Qq h4265) (ap (Qs h4265) (ap ((by omega:(4+(Int.toNat bg5)*8+(Int.toNat bg7)*1)=4+((Int.toNat bg5)*8+(Int.toNat bg7)*1))) (ap (Qt Qm h4267) (ap2 (Qab h4268) (ap (Qq h4265) (ap (Qs h4265) (ap (Qab h4268) (ap ((by omega:(0+(Int.toNat bg7)*1)=0+((Int.toNat bg7)*1))) (ap (Qt (pInt .i64) h4270) (ap2 (Qab h4268) (ap h4271 an)))))))))))))) ?_
   obtain ⟨x4275,h4276,h⟩:=Qc h;rcases Qi h with ⟨h4277,h⟩|⟨h4277,h⟩
   ·obtain rfl:=Qf h;exact rK Qg 2 [([],[(2,.at_ (Int.toNat bg7)),(3,.arw ((Int.toNat bg7)*1))],[(3,.arr 8 ((bh16.set ((Int.toNat bg7)*1) bg5).map (pInt .i64)))]),([],[(2,.at_ (Int.toNat bg7)),(3,.idx 0 ((cInt .i64) x4275))],[]),j3] [some true] [] [4,5,6,7,8,9] [0,1,2,7,8,9,10,12,14] (.exit 8) ((f23r3n6E bg1 bk2 bk3 bg4 bg5 bh6 bg7 bh8 bh9 bb10 bi11 ba12 bh13 bh14 bh15 bh16 bh17 .exit8).2) (ap (Qq h4265) (ap (Qs h4265) (ap ((by omega:(0+(Int.toNat bg7)*1)=0+((Int.toNat bg7)*1))) (ap (Qcg (f:=(pInt .i64)) h4270) (ap (Qai (xs:=bh16) (f:=(pInt .i64)) (k:=((Int.toNat bg7)*1)) (x:=bg5)) (ap (Qe h4276).1 (ap (Qp (cInt .i64) (Qe h4276).2) (ap (Ql (cInt .i64) (Qe h4276).2) (ap h4277 an))))))))) rfl
   ·refine rN Qg 3 [([],[(2,.at_ (Int.toNat bg7)),(3,.arw ((Int.toNat bg7)*1))],[(3,.arr 8 ((bh16.set ((Int.toNat bg7)*1) bg5).map (pInt .i64)))]),([],[(2,.at_ (Int.toNat bg7)),(3,.idx 0 ((cInt .i64) x4275))],[]),([],[],[(1,.val (jI (bh13.length:Int)))])] [some false] [] [4,5,6,7,8,9] [0,1,2,7,8,9,10,12,14,15,16,69,70,97,98] (f23r3n7S bg1 bg4 bg5 bg7 bh6 bh13 bh8 bh9 bb10 bi11 ba12 bh14 bh16 bk2 bk3 0 bh15 bh17) (ap (Qq h4265) (ap (Qs h4265) (ap ((by omega:(0+(Int.toNat bg7)*1)=0+((Int.toNat bg7)*1))) (ap (Qcg (f:=(pInt .i64)) h4270) (ap (Qai (xs:=bh16) (f:=(pInt .i64)) (k:=((Int.toNat bg7)*1)) (x:=bg5)) (ap (Qe h4276).1 (ap (Qp (cInt .i64) (Qe h4276).2) (ap (Ql (cInt .i64) (Qe h4276).2) (ap h4277 (ap (Qu (xs:=bh13) (c:=(cInt .i64))) an)))))))))) ?_;obtain ⟨o4356,h4357,h⟩:=Qc h;cases o4356 with
    | exit10 v4358 v4359 v4360 v4361 =>
     obtain rfl:=Qf h;exact T.last' (T.bl (i:=10) (by kernel_rfl) (by kernel_rfl) (f23r3n7_ok FUEL bg1 bg4 bg5 bg7 bh6 bh13 bh8 bh9 bb10 bi11 ba12 bh14 bh16 bk2 bk3 0 bh15 bh17 h4357)) (tds:=[]) (m:=[4,5,6,7,8,9]) (keep:=[0,1,2,7,8,9,10,12,14,15,69,70]) (st2:=(f23r3n6E bg1 bk2 bk3 bg4 bg5 bh6 bg7 bh8 bh9 bb10 bi11 ba12 bh13 bh14 bh15 bh16 bh17 (.norm v4358 v4359 v4360 (bh16.set ((Int.toNat bg7)*1) bg5) v4361)).2) (by kernel_rfl) an rfl
 ·obtain rfl:=Qf h;exact rK Qg 2 [j3,(jT [9,10,11,12],[(4,.at_ (Int.toNat bg5)),(5,.at_ (Int.toNat bg7)),(6,.arr ((Int.toNat bg5)*8+(Int.toNat bg7)*1) (Qm x4266)),(13,.bool true)],[])] [none] [] [4,5,6,7,8,9] [0,1,2,7,8,9,10,12,14,15,69,70] (.exit 9) ((f23r3n6E bg1 bk2 bk3 bg4 bg5 bh6 bg7 bh8 bh9 bb10 bi11 ba12 bh13 bh14 bh15 bh16 bh17 (.norm bk2 bk3 bh15 bh16 bh17)).2) (ap (Qq h4264) (ap (Qs h4264) (ap (Qq h4265) (ap (Qs h4265) (ap ((by omega:(4+(Int.toNat bg5)*8+(Int.toNat bg7)*1)=4+((Int.toNat bg5)*8+(Int.toNat bg7)*1))) (ap (Qt Qm h4267) (ap (Qak h4268) (ap4 (Qak h4268) an)))))))) rfl
inductive f23r3n8O where
 | exit8 (v4374:Nat) (v4375:Nat) (v4376:Int) (v4377:List Int) (v4378:List Int) (v4379:List Int)
def f23r3n8E(bg1 bg4 x4006:Int)(bh11 bh5 bh6:List Int)(bb7:List Qb)(bi8:List Bool)(ba9:List Qa)(bh10 bh12:List Int):f23r3n8O→Ex×Tr×Hp
 | .exit8 v4374 v4375 v4376 v4377 v4378 v4379=>((.exit 8),mkS [(0,(.own 4)),(1,(.own 5)),(2,(.bp 2 4)),(7,(.bp 6 0)),(8,(jI bg1)),(9,(.bp 7 0)),(10,(.bp 8 0)),(12,(.vw 9 v4374 v4375)),(14,(jI v4376))],[some (.row false 1 (bh5.map (cInt .i64))),some (.row false 1 (bh6.map (cInt .i64))),some (.abox 57 [(.own 3),(jL 2 Qb.cells bb7),(.own 0),(.own 1)] (bi8.map Qm)),jR 4 Qa.cells ba9,some (.row false 1 (bh10.map (cInt .i64))),some (.row false 1 (bh11.map (cInt .i64))),some (.abox 82 [] (bh12.map (pInt .i64))),some (.abox 83 [] (v4377.map (pInt .i64))),some (.abox 80 [] (v4378.map (pInt .i64))),some (.row false 1 (v4379.map (cInt .i64)))])
def f23r3n8S(bg1 bg4 x4006:Int)(bh11 bh5 bh6:List Int)(bb7:List Qb)(bi8:List Bool)(ba9:List Qa)(bh10 bh12:List Int)(v4248 v4249:Nat)(v4250:Int)(v4251 v4252 v4253:List Int):Tr×Hp:=(mkS [(0,(.own 4)),(1,(.own 5)),(2,(.bp 2 4)),(7,(.bp 6 0)),(8,(jI bg1)),(9,(.bp 7 0)),(10,(.bp 8 0)),(12,(.vw 9 v4248 v4249)),(14,(jI bg4)),(15,(jI x4006)),(69,(jI (bh11.length:Int))),(70,(jI v4250))],[some (.row false 1 (bh5.map (cInt .i64))),some (.row false 1 (bh6.map (cInt .i64))),some (.abox 57 [(.own 3),(jL 2 Qb.cells bb7),(.own 0),(.own 1)] (bi8.map Qm)),jR 4 Qa.cells ba9,some (.row false 1 (bh10.map (cInt .i64))),some (.row false 1 (bh11.map (cInt .i64))),some (.abox 82 [] (bh12.map (pInt .i64))),some (.abox 83 [] (v4251.map (pInt .i64))),some (.abox 80 [] (v4252.map (pInt .i64))),some (.row false 1 (v4253.map (cInt .i64)))])
noncomputable def f23r3n8:Nat→Int→Int→Int→List Int→List Int→List Int→List Qb→List Bool→List Qa→List Int→List Int→Nat→Nat→Int→List Int→List Int→List Int→Option f23r3n8O
 | 0,_,_,_,_,_,_,_,_,_,_,_,_,_,_,_,_,_=>none
 | f+1,bg1,bg4,x4006,bh11,bh5,bh6,bb7,bi8,ba9,bh10,bh12,v4248,v4249,v4250,v4251,v4252,v4253 =>
  bif decide (v4250<(bh11.length:Int)) then
   (f23r3n6 bg1 v4248 v4249 bg4 x4006 bh11 v4250 bh5 bh6 bb7 bi8 ba9 bh10 bh12 v4251 v4252 v4253).bind fun o4367=>match o4367 with
   | .exit8=>some (.exit8 v4248 v4249 v4250 v4251 (v4252.set ((Int.toNat v4250)*1) x4006) v4253)
   | .norm v4369 v4370 v4371 v4372 v4373=>(f23r3n8 f bg1 bg4 x4006 bh11 bh5 bh6 bb7 bi8 ba9 bh10 bh12 v4369 v4370 (wr64 (v4250+1)) v4371 v4372 v4373)
  else
   some (.exit8 v4248 v4249 bg4 v4251 v4252 v4253)
theorem f23r3n8_ok:∀(f:Nat)(bg1 bg4 x4006:Int)(bh11 bh5 bh6:List Int)(bb7:List Qb)(bi8:List Bool)(ba9:List Qa)(bh10 bh12:List Int)(v4248 v4249:Nat)(v4250:Int)(v4251 v4252 v4253:List Int){o:f23r3n8O},f23r3n8 f bg1 bg4 x4006 bh11 bh5 bh6 bb7 bi8 ba9 bh10 bh12 v4248 v4249 v4250 v4251 v4252 v4253=some o→TL Try.prog Try.f23.ntmps 4 f (cL (cL (Qh 3 (cL (Qh 1 (cL (cL (cL (Qh 1 (Qh 1 (Qh 1 (Qh 1 (Qh 2 (cL (cL (cL (Qh 4 c23))))))))))))))))) (f23r3n8S bg1 bg4 x4006 bh11 bh5 bh6 bb7 bi8 ba9 bh10 bh12 v4248 v4249 v4250 v4251 v4252 v4253) (·=f23r3n8E bg1 bg4 x4006 bh11 bh5 bh6 bb7 bi8 ba9 bh10 bh12 o)
 | 0,_,_,_,_,_,_,_,_,_,_,_,_,_,_,_,_,_,o,h=>by rw [f23r3n8] at h; cases h
 | f+1,bg1,bg4,x4006,bh11,bh5,bh6,bb7,bi8,ba9,bh10,bh12,v4248,v4249,v4250,v4251,v4252,v4253,o,h=>by
  rw [f23r3n8] at h;refine TL.body (K:=fun s=>∃v4248:Nat,∃v4249:Nat,∃v4250:Int,∃v4251:List Int,∃v4252:List Int,∃v4253:List Int,s=(f23r3n8S bg1 bg4 x4006 bh11 bh5 bh6 bb7 bi8 ba9 bh10 bh12 v4248 v4249 v4250 v4251 v4252 v4253)∧f23r3n8 f bg1 bg4 x4006 bh11 bh5 bh6 bb7 bi8 ba9 bh10 bh12 v4248 v4249 v4250 v4251 v4252 v4253=some o) ?_ (by rintro _ ⟨v4248,v4249,v4250,v4251,v4252,v4253,rfl,hk⟩; exact f23r3n8_ok f _ _ _ _ _ _ _ _ _ _ _ _ _ _ _ _ _ hk);rcases Qi h with ⟨h4255,h⟩|⟨h4255,h⟩
  ·refine rN Qg 2 [j3] [some true] [] [4,5,6,7,8,9] [0,1,2,7,8,9,10,12,14,15,69,70] (f23r3n6S bg1 v4248 v4249 bg4 x4006 bh11 v4250 bh5 bh6 bb7 bi8 ba9 bh10 bh12 v4251 v4252 v4253) (ap h4255 an) ?_;obtain ⟨o4367,h4368,h⟩:=Qc h;cases o4367 with
   | exit8 =>
    obtain rfl:=Qf h;exact T.oneX' (by kernel_rfl) (f23r3n6_ok bg1 v4248 v4249 bg4 x4006 bh11 v4250 bh5 bh6 bb7 bi8 ba9 bh10 bh12 v4251 v4252 v4253 h4368) (tds:=[]) (m:=[4,5,6,7,8,9]) (keep:=[0,1,2,7,8,9,10,12,14]) (st2:=(f23r3n8E bg1 bg4 x4006 bh11 bh5 bh6 bb7 bi8 ba9 bh10 bh12 (.exit8 v4248 v4249 v4250 v4251 (v4252.set ((Int.toNat v4250)*1) x4006) v4253)).2) (by kernel_rfl) an rfl (Qn.out rfl rfl)
   | norm v4369 v4370 v4371 v4372 v4373 =>
    refine T.oneN (by kernel_rfl) (f23r3n6_ok bg1 v4248 v4249 bg4 x4006 bh11 v4250 bh5 bh6 bb7 bi8 ba9 bh10 bh12 v4251 v4252 v4253 h4368) (st2:=(f23r3n6E bg1 v4248 v4249 bg4 x4006 bh11 v4250 bh5 bh6 bb7 bi8 ba9 bh10 bh12 v4251 v4252 v4253 (.norm v4369 v4370 v4371 v4372 v4373)).2) rfl ?_;exact rE Qg [j3] [] [] [4,5,6,7,8,9] [0,1,2,7,8,9,10,12,14,15,69,70] (.norm,(f23r3n8S bg1 bg4 x4006 bh11 bh5 bh6 bb7 bi8 ba9 bh10 bh12 v4369 v4370 (wr64 (v4250+1)) v4371 v4372 v4373)) an (Qn.norm ⟨v4369,v4370,(wr64 (v4250+1)),v4371,v4372,v4373,rfl,h⟩)
  ·obtain rfl:=Qf h;exact rK Qg 2 [j3] [some false] [] [4,5,6,7,8,9] [0,1,2,7,8,9,10,12,14] (.exit 8) ((f23r3n8E bg1 bg4 x4006 bh11 bh5 bh6 bb7 bi8 ba9 bh10 bh12 (.exit8 v4248 v4249 bg4 v4251 v4252 v4253)).2) (ap h4255 an) (Qn.out rfl rfl)
inductive f23r3n5O where
 | norm (v4388:Nat) (v4389:Nat) (v4390:Int) (v4391:List Int) (v4392:List Int) (v4393:List Int)
def f23r3n5E(bg1:Int)(bk2 bk3:Nat)(bg4:Int)(bh5 bh6:List Int)(bb7:List Qb)(bi8:List Bool)(ba9:List Qa)(bh10 bh11 bh12 bh13 bh14 bh15:List Int):f23r3n5O→Ex×Tr×Hp
 | .norm v4388 v4389 v4390 v4391 v4392 v4393=>(.norm,mkS [(0,(.own 4)),(1,(.own 5)),(2,(.bp 2 4)),(7,(.bp 6 0)),(8,(jI bg1)),(9,(.bp 7 0)),(10,(.bp 8 0)),(12,(.vw 9 v4388 v4389)),(14,(jI v4390))],[some (.row false 1 (bh5.map (cInt .i64))),some (.row false 1 (bh6.map (cInt .i64))),some (.abox 57 [(.own 3),(jL 2 Qb.cells bb7),(.own 0),(.own 1)] (bi8.map Qm)),jR 4 Qa.cells ba9,some (.row false 1 (bh10.map (cInt .i64))),some (.row false 1 (bh11.map (cInt .i64))),some (.abox 82 [] (bh12.map (pInt .i64))),some (.abox 83 [] (v4391.map (pInt .i64))),some (.abox 80 [] (v4392.map (pInt .i64))),some (.row false 1 (v4393.map (cInt .i64)))])
def f23r3n5S(bg1:Int)(bk2 bk3:Nat)(bg4:Int)(bh5 bh6:List Int)(bb7:List Qb)(bi8:List Bool)(ba9:List Qa)(bh10 bh11 bh12 bh13 bh14 bh15:List Int):Tr×Hp:=(mkS [(0,(.own 4)),(1,(.own 5)),(2,(.bp 2 4)),(7,(.bp 6 0)),(8,(jI bg1)),(9,(.bp 7 0)),(10,(.bp 8 0)),(12,(.vw 9 bk2 bk3)),(14,(jI bg4))],[some (.row false 1 (bh5.map (cInt .i64))),some (.row false 1 (bh6.map (cInt .i64))),some (.abox 57 [(.own 3),(jL 2 Qb.cells bb7),(.own 0),(.own 1)] (bi8.map Qm)),jR 4 Qa.cells ba9,some (.row false 1 (bh10.map (cInt .i64))),some (.row false 1 (bh11.map (cInt .i64))),some (.abox 82 [] (bh12.map (pInt .i64))),some (.abox 83 [] (bh13.map (pInt .i64))),some (.abox 80 [] (bh14.map (pInt .i64))),some (.row false 1 (bh15.map (cInt .i64)))])
noncomputable def f23r3n5(bg1:Int)(bk2 bk3:Nat)(bg4:Int)(bh5 bh6:List Int)(bb7:List Qb)(bi8:List Bool)(ba9:List Qa)(bh10 bh11 bh12 bh13 bh14 bh15:List Int):Option f23r3n5O :=
 req (decide (bk2+bk3≤bh15.length)) <|
 (at? ((bh15.drop bk2).take bk3) 0).bind fun x4006 =>
 req (cutB 1 (bk3:Int) bk3) <|
 (f23r3n8 FUEL bg1 bg4 x4006 bh11 bh5 bh6 bb7 bi8 ba9 bh10 bh12 (bk2+(Int.toNat 1)) (bk3-(Int.toNat 1)) 0 bh13 bh14 bh15).bind fun o4380=>match o4380 with
 | .exit8 v4382 v4383 v4384 v4385 v4386 v4387=>some (.norm v4382 v4383 v4384 v4385 v4386 v4387)
theorem f23r3n5_ok(bg1:Int)(bk2 bk3:Nat)(bg4:Int)(bh5 bh6:List Int)(bb7:List Qb)(bi8:List Bool)(ba9:List Qa)(bh10 bh11 bh12 bh13 bh14 bh15:List Int){o:f23r3n5O}(h:f23r3n5 bg1 bk2 bk3 bg4 bh5 bh6 bb7 bi8 ba9 bh10 bh11 bh12 bh13 bh14 bh15=some o):T Try.prog Try.f23.ntmps 4 (Qh 1 (cL (cL (cL (Qh 1 (Qh 1 (Qh 1 (Qh 1 (Qh 2 (cL (cL (cL (Qh 4 c23))))))))))))) (f23r3n5S bg1 bk2 bk3 bg4 bh5 bh6 bb7 bi8 ba9 bh10 bh11 bh12 bh13 bh14 bh15) (·=f23r3n5E bg1 bk2 bk3 bg4 bh5 bh6 bb7 bi8 ba9 bh10 bh11 bh12 bh13 bh14 bh15 o):=by
 unfold f23r3n5 at h;refine T.block' (i:=7) (by kernel_rfl) ?_;obtain ⟨h4005,h⟩:=Qk h;obtain ⟨x4006,h4007,h⟩:=Qc h;obtain ⟨h4009,h⟩:=Qk h;refine rN Qg 3 [([],[(1,.at_ (Int.toNat 0)),(2,.idx 0 ((cInt .i64) x4006))],[]),([],[(1,.cut (Int.toNat 1) bk3)],[]),([],[],[(1,.val (jI (bh11.length:Int)))])] [] [] [4,5,6,7,8,9] [0,1,2,7,8,9,10,12,14,15,69,70] (f23r3n8S bg1 bg4 x4006 bh11 bh5 bh6 bb7 bi8 ba9 bh10 bh12 (bk2+(Int.toNat 1)) (bk3-(Int.toNat 1)) 0 bh13 bh14 bh15) (ap (Qe h4007).1 (ap (vw_lt h4007) (ap (vw_req (c:=(cInt .i64)) h4005) (ap (Ql (cInt .i64) (vw_at h4007)) (ap (rfl:bk3=bk3) (ap (cut_nl_2 h4009) (ap (cut_nl_3 h4009) (ap (vw_cut (cut_nl_4 h4009) (vw_req (c:=(cInt .i64)) h4005)) (ap (Qu (xs:=bh11) (c:=(cInt .i64))) an))))))))) ?_;obtain ⟨o4380,h4381,h⟩:=Qc h;cases o4380 with
 | exit8 v4382 v4383 v4384 v4385 v4386 v4387 =>
  obtain rfl:=Qf h;exact T.last' (T.bl (i:=8) (by kernel_rfl) (by kernel_rfl) (f23r3n8_ok FUEL bg1 bg4 x4006 bh11 bh5 bh6 bb7 bi8 ba9 bh10 bh12 (bk2+(Int.toNat 1)) (bk3-(Int.toNat 1)) 0 bh13 bh14 bh15 h4381)) (tds:=[]) (m:=[4,5,6,7,8,9]) (keep:=[0,1,2,7,8,9,10,12,14]) (st2:=(f23r3n5E bg1 bk2 bk3 bg4 bh5 bh6 bb7 bi8 ba9 bh10 bh11 bh12 bh13 bh14 bh15 (.norm v4382 v4383 v4384 v4385 v4386 v4387)).2) (by kernel_rfl) an rfl
inductive f23r3n9O where
 | exit6 (v4402:Int) (v4403:List Int) (v4404:List Int)
def f23r3n9E(v3086:Int)(a1 a2:List Int)(a3:List Qb)(a4:List Bool)(a5:List Qa)(v3087 v3088 v3089:List Int):f23r3n9O→Ex×Tr×Hp
 | .exit6 v4402 v4403 v4404=>((.exit 6),mkS [(0,(.own 4)),(1,(.own 5)),(2,(.bp 2 4)),(7,(.bp 6 0)),(8,(jI v3086)),(9,(.bp 7 0)),(10,(.bp 8 0)),(14,(jI v4402))],[some (.row false 1 (a1.map (cInt .i64))),some (.row false 1 (a2.map (cInt .i64))),some (.abox 57 [(.own 3),(jL 2 Qb.cells a3),(.own 0),(.own 1)] (a4.map Qm)),jR 4 Qa.cells a5,some (.row false 1 (v3087.map (cInt .i64))),some (.row false 1 (v3088.map (cInt .i64))),some (.abox 82 [] (v3089.map (pInt .i64))),some (.abox 83 [] (v4403.map (pInt .i64))),some (.abox 80 [] (v4404.map (pInt .i64)))])
def f23r3n9S(v3086:Int)(a1 a2:List Int)(a3:List Qb)(a4:List Bool)(a5:List Qa)(v3087 v3088 v3089:List Int)(v3992 v3993:Nat)(v3994:Int)(v3995 v3996 v3997:List Int):Tr×Hp:=(mkS [(0,(.own 4)),(1,(.own 5)),(2,(.bp 2 4)),(7,(.bp 6 0)),(8,(jI v3086)),(9,(.bp 7 0)),(10,(.bp 8 0)),(12,(.vw 9 v3992 v3993)),(14,(jI v3994))],[some (.row false 1 (a1.map (cInt .i64))),some (.row false 1 (a2.map (cInt .i64))),some (.abox 57 [(.own 3),(jL 2 Qb.cells a3),(.own 0),(.own 1)] (a4.map Qm)),jR 4 Qa.cells a5,some (.row false 1 (v3087.map (cInt .i64))),some (.row false 1 (v3088.map (cInt .i64))),some (.abox 82 [] (v3089.map (pInt .i64))),some (.abox 83 [] (v3995.map (pInt .i64))),some (.abox 80 [] (v3996.map (pInt .i64))),some (.row false 1 (v3997.map (cInt .i64)))])
noncomputable def f23r3n9:Nat→Int→List Int→List Int→List Qb→List Bool→List Qa→List Int→List Int→List Int→Nat→Nat→Int→List Int→List Int→List Int→Option f23r3n9O
 | 0,_,_,_,_,_,_,_,_,_,_,_,_,_,_,_=>none
 | f+1,v3086,a1,a2,a3,a4,a5,v3087,v3088,v3089,v3992,v3993,v3994,v3995,v3996,v3997 =>
  bif decide (v3994<0) then
   bif (decide (0<((v3993:Nat):Int))) then
    (f23r3n5 v3086 v3992 v3993 v3994 a1 a2 a3 a4 a5 v3087 v3088 v3089 v3995 v3996 v3997).bind fun o4394=>match o4394 with
    | .norm v4396 v4397 v4398 v4399 v4400 v4401=>(f23r3n9 f v3086 a1 a2 a3 a4 a5 v3087 v3088 v3089 v4396 v4397 v4398 v4399 v4400 v4401)
   else
    some (.exit6 v3994 v3995 v3996)
  else
   some (.exit6 v3994 v3995 v3996)
theorem f23r3n9_ok:∀(f:Nat)(v3086:Int)(a1 a2:List Int)(a3:List Qb)(a4:List Bool)(a5:List Qa)(v3087 v3088 v3089:List Int)(v3992 v3993:Nat)(v3994:Int)(v3995 v3996 v3997:List Int){o:f23r3n9O},f23r3n9 f v3086 a1 a2 a3 a4 a5 v3087 v3088 v3089 v3992 v3993 v3994 v3995 v3996 v3997=some o→TL Try.prog Try.f23.ntmps 4 f (cL (cL (cL (Qh 1 (Qh 1 (Qh 1 (Qh 1 (Qh 2 (cL (cL (cL (Qh 4 c23)))))))))))) (f23r3n9S v3086 a1 a2 a3 a4 a5 v3087 v3088 v3089 v3992 v3993 v3994 v3995 v3996 v3997) (·=f23r3n9E v3086 a1 a2 a3 a4 a5 v3087 v3088 v3089 o)
 | 0,_,_,_,_,_,_,_,_,_,_,_,_,_,_,_,o,h=>by rw [f23r3n9] at h; cases h
 | f+1,v3086,a1,a2,a3,a4,a5,v3087,v3088,v3089,v3992,v3993,v3994,v3995,v3996,v3997,o,h=>by
  rw [f23r3n9] at h;refine TL.body (K:=fun s=>∃v3992:Nat,∃v3993:Nat,∃v3994:Int,∃v3995:List Int,∃v3996:List Int,∃v3997:List Int,s=(f23r3n9S v3086 a1 a2 a3 a4 a5 v3087 v3088 v3089 v3992 v3993 v3994 v3995 v3996 v3997)∧f23r3n9 f v3086 a1 a2 a3 a4 a5 v3087 v3088 v3089 v3992 v3993 v3994 v3995 v3996 v3997=some o) ?_ (by rintro _ ⟨v3992,v3993,v3994,v3995,v3996,v3997,rfl,hk⟩; exact f23r3n9_ok f _ _ _ _ _ _ _ _ _ _ _ _ _ _ _ hk);rcases Qi h with ⟨h4000,h⟩|⟨h4000,h⟩
  ·rcases Qi h with ⟨h4001,h⟩|⟨h4001,h⟩
   ·refine rN Qg 1 [(jT [3,4,5],[(6,.bool true)],[])] [some true] [] [4,5,6,7,8,9] [0,1,2,7,8,9,10,12,14] (f23r3n5S v3086 v3992 v3993 v3994 a1 a2 a3 a4 a5 v3087 v3088 v3089 v3995 v3996 v3997) (ap4 h4000 (ap h4001 an)) ?_;obtain ⟨o4394,h4395,h⟩:=Qc h;cases o4394 with
    | norm v4396 v4397 v4398 v4399 v4400 v4401 =>
     exact T.last' (f23r3n5_ok v3086 v3992 v3993 v3994 a1 a2 a3 a4 a5 v3087 v3088 v3089 v3995 v3996 v3997 h4395) (tds:=[]) (m:=[4,5,6,7,8,9]) (keep:=[0,1,2,7,8,9,10,12,14]) (st2:=(f23r3n9S v3086 a1 a2 a3 a4 a5 v3087 v3088 v3089 v4396 v4397 v4398 v4399 v4400 v4401)) (by kernel_rfl) an (Qn.norm ⟨v4396,v4397,v4398,v4399,v4400,v4401,rfl,h⟩)
   ·obtain rfl:=Qf h;exact rK Qg 1 [(jT [3,4,5],[(6,.bool true)],[])] [some false] [] [4,5,6,7,8] [0,1,2,7,8,9,10,14] (.exit 6) ((f23r3n9E v3086 a1 a2 a3 a4 a5 v3087 v3088 v3089 (.exit6 v3994 v3995 v3996)).2) (ap4 h4000 (ap h4001 an)) (Qn.out rfl rfl)
  ·obtain rfl:=Qf h;exact rK Qg 1 [(jF [3,4,5],[(6,.bool false)],[])] [none] [] [4,5,6,7,8] [0,1,2,7,8,9,10,14] (.exit 6) ((f23r3n9E v3086 a1 a2 a3 a4 a5 v3087 v3088 v3089 (.exit6 v3994 v3995 v3996)).2) (ap4 h4000 an) (Qn.out rfl rfl)
inductive f23r3n11O where
 | exit12 (v4492:Int)
def f23r3n11E(bg1 bg2:Int)(bh4 bh5:List Int)(bb6:List Qb)(bi7:List Bool)(ba8:List Qa)(bh9 bh10 bh11 bh12 bh13:List Int):f23r3n11O→Ex×Tr×Hp
 | .exit12 v4492=>((.exit 12),mkS [(0,(.own 4)),(1,(.own 5)),(2,(.bp 2 4)),(7,(.bp 6 0)),(8,(jI bg1)),(9,(.bp 7 0)),(10,(.bp 8 0)),(14,(jI bg2)),(18,(jI v4492))],[some (.row false 1 (bh4.map (cInt .i64))),some (.row false 1 (bh5.map (cInt .i64))),some (.abox 57 [(.own 3),(jL 2 Qb.cells bb6),(.own 0),(.own 1)] (bi7.map Qm)),jR 4 Qa.cells ba8,some (.row false 1 (bh9.map (cInt .i64))),some (.row false 1 (bh10.map (cInt .i64))),some (.abox 82 [] (bh11.map (pInt .i64))),some (.abox 83 [] (bh12.map (pInt .i64))),some (.abox 80 [] (bh13.map (pInt .i64)))])
def f23r3n11S(bg1 bg2:Int)(bh4 bh5:List Int)(bb6:List Qb)(bi7:List Bool)(ba8:List Qa)(bh9 bh10 bh11 bh12 bh13:List Int)(v4466 v4467:Int):Tr×Hp:=(mkS [(0,(.own 4)),(1,(.own 5)),(2,(.bp 2 4)),(7,(.bp 6 0)),(8,(jI bg1)),(9,(.bp 7 0)),(10,(.bp 8 0)),(14,(jI bg2)),(18,(jI v4466)),(19,(jI v4467))],[some (.row false 1 (bh4.map (cInt .i64))),some (.row false 1 (bh5.map (cInt .i64))),some (.abox 57 [(.own 3),(jL 2 Qb.cells bb6),(.own 0),(.own 1)] (bi7.map Qm)),jR 4 Qa.cells ba8,some (.row false 1 (bh9.map (cInt .i64))),some (.row false 1 (bh10.map (cInt .i64))),some (.abox 82 [] (bh11.map (pInt .i64))),some (.abox 83 [] (bh12.map (pInt .i64))),some (.abox 80 [] (bh13.map (pInt .i64)))])
noncomputable def f23r3n11:Nat→Int→Int→List Int→List Int→List Qb→List Bool→List Qa→List Int→List Int→List Int→List Int→List Int→Int→Int→Option f23r3n11O
 | 0,_,_,_,_,_,_,_,_,_,_,_,_,_,_=>none
 | f+1,bg1,bg2,bh4,bh5,bb6,bi7,ba8,bh9,bh10,bh11,bh12,bh13,v4466,v4467 =>
  req (idxB v4467 8) <|
  (bh13[((Int.toNat v4467)*1)]?).bind fun x4472 =>
  req (idxB x4472 10) <|
  (bh12[((Int.toNat x4472)*1)]?).bind fun x4481 =>
  bif decide (x4481=(-2)) then
   (at? bh9 x4472).bind fun x4484 =>
   some (.exit12 (mnI v4466 x4484))
  else
   req (idxB x4481 8) <|
   (bh11[((Int.toNat x4472)*8+(Int.toNat x4481)*1)]?).bind fun x4490 =>
   (f23r3n11 f bg1 bg2 bh4 bh5 bb6 bi7 ba8 bh9 bh10 bh11 bh12 bh13 (mnI v4466 x4490) x4481)
theorem f23r3n11_ok:∀(f:Nat)(bg1 bg2:Int)(bh4 bh5:List Int)(bb6:List Qb)(bi7:List Bool)(ba8:List Qa)(bh9 bh10 bh11 bh12 bh13:List Int)(v4466 v4467:Int){o:f23r3n11O},f23r3n11 f bg1 bg2 bh4 bh5 bb6 bi7 ba8 bh9 bh10 bh11 bh12 bh13 v4466 v4467=some o→TL Try.prog Try.f23.ntmps 4 f (cL (cL (Qh 1 (cL (Qh 2 (Qh 1 (Qh 1 (Qh 1 (Qh 1 (Qh 1 (Qh 2 (cL (cL (cL (Qh 4 c23))))))))))))))) (f23r3n11S bg1 bg2 bh4 bh5 bb6 bi7 ba8 bh9 bh10 bh11 bh12 bh13 v4466 v4467) (·=f23r3n11E bg1 bg2 bh4 bh5 bb6 bi7 ba8 bh9 bh10 bh11 bh12 bh13 o)
 | 0,_,_,_,_,_,_,_,_,_,_,_,_,_,_,o,h=>by rw [f23r3n11] at h; cases h
 | f+1,bg1,bg2,bh4,bh5,bb6,bi7,ba8,bh9,bh10,bh11,bh12,bh13,v4466,v4467,o,h=>by
  rw [f23r3n11] at h;refine TL.body (K:=fun s=>∃v4466:Int,∃v4467:Int,s=(f23r3n11S bg1 bg2 bh4 bh5 bb6 bi7 ba8 bh9 bh10 bh11 bh12 bh13 v4466 v4467)∧f23r3n11 f bg1 bg2 bh4 bh5 bb6 bi7 ba8 bh9 bh10 bh11 bh12 bh13 v4466 v4467=some o) ?_ (by rintro _ ⟨v4466,v4467,rfl,hk⟩; exact f23r3n11_ok f _ _ _ _ _ _ _ _ _ _ _ _ _ _ hk);refine T.block' (i:=13) (by kernel_rfl) ?_;obtain ⟨h4471,h⟩:=Qk h;obtain ⟨x4472,h4473,h⟩:=Qc h;obtain ⟨h4480,h⟩:=Qk h;obtain ⟨x4481,h4482,h⟩:=Qc h;rcases Qi h with ⟨h4483,h⟩|⟨h4483,h⟩
  ·obtain ⟨x4484,h4485,h⟩:=Qc h;obtain rfl:=Qf h
   exact rK Qg 2 [([],[(1,.at_ (Int.toNat v4467)),(2,.arr ((Int.toNat v4467)*1) ((pInt .i64) x4472))],[]),([],[(1,.at_ (Int.toNat x4472)),(2,.arr ((Int.toNat x4472)*1) ((pInt .i64) x4481))],[]),([],[(3,.at_ (Int.toNat x4472)),(4,.idx 0 ((cInt .i64) x4484))],[])] [some true] [] [4,5,6,7,8] [0,1,2,7,8,9,10,14,18] (.exit 12) ((f23r3n11E bg1 bg2 bh4 bh5 bb6 bi7 ba8 bh9 bh10 bh11 bh12 bh13 (.exit12 (mnI v4466 x4484))).2) (ap (Qq h4471) (ap (Qs h4471) (ap ((by omega:(0+(Int.toNat v4467)*1)=0+((Int.toNat v4467)*1))) (ap (Qt (pInt .i64) h4473) (ap (Qq h4480) (ap (Qs h4480) (ap ((by omega:(0+(Int.toNat x4472)*1)=0+((Int.toNat x4472)*1))) (ap (Qt (pInt .i64) h4482) (ap h4483 (ap (Qe h4485).1 (ap (Qp (cInt .i64) (Qe h4485).2) (ap (Ql (cInt .i64) (Qe h4485).2) an)))))))))))) (Qn.out rfl rfl)
  ·obtain ⟨h4489,h⟩:=Qk h;obtain ⟨x4490,h4491,h⟩:=Qc h
   exact rE Qg [([],[(1,.at_ (Int.toNat v4467)),(2,.arr ((Int.toNat v4467)*1) ((pInt .i64) x4472))],[]),([],[(1,.at_ (Int.toNat x4472)),(2,.arr ((Int.toNat x4472)*1) ((pInt .i64) x4481))],[]),([],[(1,.at_ (Int.toNat x4472)),(2,.arr ((Int.toNat x4472)*1) ((pInt .i64) x4481))],[]),([],[(3,.at_ (Int.toNat x4472)),(4,.at_ (Int.toNat x4481)),(5,.arr ((Int.toNat x4472)*8+(Int.toNat x4481)*1) ((pInt .i64) x4490))],[])] [some false] [] [4,5,6,7,8] [0,1,2,7,8,9,10,14,18,19] (.norm,(f23r3n11S bg1 bg2 bh4 bh5 bb6 bi7 ba8 bh9 bh10 bh11 bh12 bh13 (mnI v4466 x4490) x4481)) (ap (Qq h4471) (ap (Qs h4471) (ap ((by omega:(0+(Int.toNat v4467)*1)=0+((Int.toNat v4467)*1))) (ap (Qt (pInt .i64) h4473) (ap (Qq h4480) (ap (Qs h4480) (ap ((by omega:(0+(Int.toNat x4472)*1)=0+((Int.toNat x4472)*1))) (ap (Qt (pInt .i64) h4482) (ap h4483 (ap (Qq h4480) (ap (Qs h4480) (ap ((by omega:(0+(Int.toNat x4472)*1)=0+((Int.toNat x4472)*1))) (ap (Qt (pInt .i64) h4482) (ap (Qq h4480) (ap (Qs h4480) (ap (Qq h4489) (ap (Qs h4489) (ap ((by omega:(0+(Int.toNat x4472)*8+(Int.toNat x4481)*1)=0+((Int.toNat x4472)*8+(Int.toNat x4481)*1))) (ap (Qt (pInt .i64) h4491) an))))))))))))))))))) (Qn.norm ⟨(mnI v4466 x4490),x4481,rfl,h⟩)
inductive f23r3n10O where
 | norm (v4496:Int)
def f23r3n10E(bg1 bg2 bg3:Int)(bh4 bh5:List Int)(bb6:List Qb)(bi7:List Bool)(ba8:List Qa)(bh9 bh10 bh11 bh12 bh13:List Int):f23r3n10O→Ex×Tr×Hp
 | .norm v4496=>(.norm,mkS [(0,(.own 4)),(1,(.own 5)),(2,(.bp 2 4)),(7,(.bp 6 0)),(8,(jI bg1)),(9,(.bp 7 0)),(10,(.bp 8 0)),(14,(jI bg2)),(18,(jI v4496))],[some (.row false 1 (bh4.map (cInt .i64))),some (.row false 1 (bh5.map (cInt .i64))),some (.abox 57 [(.own 3),(jL 2 Qb.cells bb6),(.own 0),(.own 1)] (bi7.map Qm)),jR 4 Qa.cells ba8,some (.row false 1 (bh9.map (cInt .i64))),some (.row false 1 (bh10.map (cInt .i64))),some (.abox 82 [] (bh11.map (pInt .i64))),some (.abox 83 [] (bh12.map (pInt .i64))),some (.abox 80 [] (bh13.map (pInt .i64)))])
def f23r3n10S(bg1 bg2 bg3:Int)(bh4 bh5:List Int)(bb6:List Qb)(bi7:List Bool)(ba8:List Qa)(bh9 bh10 bh11 bh12 bh13:List Int):Tr×Hp:=(mkS [(0,(.own 4)),(1,(.own 5)),(2,(.bp 2 4)),(7,(.bp 6 0)),(8,(jI bg1)),(9,(.bp 7 0)),(10,(.bp 8 0)),(14,(jI bg2)),(18,(jI bg3))],[some (.row false 1 (bh4.map (cInt .i64))),some (.row false 1 (bh5.map (cInt .i64))),some (.abox 57 [(.own 3),(jL 2 Qb.cells bb6),(.own 0),(.own 1)] (bi7.map Qm)),jR 4 Qa.cells ba8,some (.row false 1 (bh9.map (cInt .i64))),some (.row false 1 (bh10.map (cInt .i64))),some (.abox 82 [] (bh11.map (pInt .i64))),some (.abox 83 [] (bh12.map (pInt .i64))),some (.abox 80 [] (bh13.map (pInt .i64)))])
noncomputable def f23r3n10(bg1 bg2 bg3:Int)(bh4 bh5:List Int)(bb6:List Qb)(bi7:List Bool)(ba8:List Qa)(bh9 bh10 bh11 bh12 bh13:List Int):Option f23r3n10O :=
 (f23r3n11 FUEL bg1 bg2 bh4 bh5 bb6 bi7 ba8 bh9 bh10 bh11 bh12 bh13 bg3 bg2).bind fun o4493=>match o4493 with
 | .exit12 v4495=>some (.norm v4495)
theorem f23r3n10_ok(bg1 bg2 bg3:Int)(bh4 bh5:List Int)(bb6:List Qb)(bi7:List Bool)(ba8:List Qa)(bh9 bh10 bh11 bh12 bh13:List Int){o:f23r3n10O}(h:f23r3n10 bg1 bg2 bg3 bh4 bh5 bb6 bi7 ba8 bh9 bh10 bh11 bh12 bh13=some o):T Try.prog Try.f23.ntmps 4 (cL (Qh 2 (Qh 1 (Qh 1 (Qh 1 (Qh 1 (Qh 1 (Qh 2 (cL (cL (cL (Qh 4 c23)))))))))))) (f23r3n10S bg1 bg2 bg3 bh4 bh5 bb6 bi7 ba8 bh9 bh10 bh11 bh12 bh13) (·=f23r3n10E bg1 bg2 bg3 bh4 bh5 bb6 bi7 ba8 bh9 bh10 bh11 bh12 bh13 o):=by
 unfold f23r3n10 at h;refine rN Qg 1 [j3] [] [] [4,5,6,7,8] [0,1,2,7,8,9,10,14,18,19] (f23r3n11S bg1 bg2 bh4 bh5 bb6 bi7 ba8 bh9 bh10 bh11 bh12 bh13 bg3 bg2) an ?_;obtain ⟨o4493,h4494,h⟩:=Qc h;cases o4493 with
 | exit12 v4495 =>
  obtain rfl:=Qf h;exact T.last' (T.bl (i:=12) (by kernel_rfl) (by kernel_rfl) (f23r3n11_ok FUEL bg1 bg2 bh4 bh5 bb6 bi7 ba8 bh9 bh10 bh11 bh12 bh13 bg3 bg2 h4494)) (tds:=[]) (m:=[4,5,6,7,8]) (keep:=[0,1,2,7,8,9,10,14,18]) (st2:=(f23r3n10E bg1 bg2 bg3 bh4 bh5 bb6 bi7 ba8 bh9 bh10 bh11 bh12 bh13 (.norm v4495)).2) (by kernel_rfl) an rfl
inductive f23r3n13O where
 | exit14 (v4612:List Int) (v4613:List Int)
def f23r3n13E(bg1 bg3:Int)(bh4 bh5:List Int)(bb6:List Qb)(bi7:List Bool)(ba8:List Qa)(bh9 bh10:List Int)(bg2 bg11:Int)(bh13 bh14:List Int):f23r3n13O→Ex×Tr×Hp
 | .exit14 v4612 v4613=>((.exit 14),mkS [(0,(.own 4)),(1,(.own 5)),(2,(.bp 2 4)),(7,(.bp 6 0)),(8,(jI bg1)),(18,(jI bg3))],[some (.row false 1 (bh4.map (cInt .i64))),some (.row false 1 (bh5.map (cInt .i64))),some (.abox 57 [(.own 3),(jL 2 Qb.cells bb6),(.own 0),(.own 1)] (bi7.map Qm)),jR 4 Qa.cells ba8,some (.row false 1 (v4612.map (cInt .i64))),some (.row false 1 ((bh10.set (Int.toNat bg2) (wr64 (bg11-bg3))).map (cInt .i64))),some (.abox 82 [] (v4613.map (pInt .i64)))])
def f23r3n13S(bg1 bg3:Int)(bh4 bh5:List Int)(bb6:List Qb)(bi7:List Bool)(ba8:List Qa)(bh9 bh10:List Int)(bg2 bg11:Int)(bh13 bh14:List Int)(v4574:Int)(v4575:List Int):Tr×Hp:=(mkS [(0,(.own 4)),(1,(.own 5)),(2,(.bp 2 4)),(7,(.bp 6 0)),(8,(jI bg1)),(9,(.bp 7 0)),(10,(.bp 8 0)),(18,(jI bg3)),(21,(jI v4574))],[some (.row false 1 (bh4.map (cInt .i64))),some (.row false 1 (bh5.map (cInt .i64))),some (.abox 57 [(.own 3),(jL 2 Qb.cells bb6),(.own 0),(.own 1)] (bi7.map Qm)),jR 4 Qa.cells ba8,some (.row false 1 (bh9.map (cInt .i64))),some (.row false 1 ((bh10.set (Int.toNat bg2) (wr64 (bg11-bg3))).map (cInt .i64))),some (.abox 82 [] (v4575.map (pInt .i64))),some (.abox 83 [] (bh13.map (pInt .i64))),some (.abox 80 [] (bh14.map (pInt .i64)))])
noncomputable def f23r3n13:Nat→Int→Int→List Int→List Int→List Qb→List Bool→List Qa→List Int→List Int→Int→Int→List Int→List Int→Int→List Int→Option f23r3n13O
 | 0,_,_,_,_,_,_,_,_,_,_,_,_,_,_,_=>none
 | f+1,bg1,bg3,bh4,bh5,bb6,bi7,ba8,bh9,bh10,bg2,bg11,bh13,bh14,v4574,v4575 =>
  req (idxB v4574 8) <|
  (bh14[((Int.toNat v4574)*1)]?).bind fun x4580 =>
  req (idxB x4580 10) <|
  (v4575[((Int.toNat x4580)*8+(Int.toNat v4574)*1)]?).bind fun x4586 =>
  (bh13[((Int.toNat x4580)*1)]?).bind fun x4601 =>
  bif decide (x4601=(-2)) then
   (at? bh9 x4580).bind fun x4604 =>
   some (.exit14 (bh9.set (Int.toNat x4580) (wr64 (x4604-bg3))) (v4575.set ((Int.toNat x4580)*8+(Int.toNat v4574)*1) (wr64 (x4586+bg3))))
  else
   req (idxB x4601 8) <|
   (v4575.set ((Int.toNat x4580)*8+(Int.toNat v4574)*1) (wr64 (x4586+bg3)))[((Int.toNat x4580)*8+(Int.toNat x4601)*1)]?.bind fun x4610 =>
   (f23r3n13 f bg1 bg3 bh4 bh5 bb6 bi7 ba8 bh9 bh10 bg2 bg11 bh13 bh14 x4601 ((v4575.set ((Int.toNat x4580)*8+(Int.toNat v4574)*1) (wr64 (x4586+bg3))).set ((Int.toNat x4580)*8+(Int.toNat x4601)*1) (wr64 (x4610-bg3))))
theorem f23r3n13_ok:∀(f:Nat)(bg1 bg3:Int)(bh4 bh5:List Int)(bb6:List Qb)(bi7:List Bool)(ba8:List Qa)(bh9 bh10:List Int)(bg2 bg11:Int)(bh13 bh14:List Int)(v4574:Int)(v4575:List Int){o:f23r3n13O},f23r3n13 f bg1 bg3 bh4 bh5 bb6 bi7 ba8 bh9 bh10 bg2 bg11 bh13 bh14 v4574 v4575=some o→TL Try.prog Try.f23.ntmps 4 f (cL (cL (Qh 1 (cL (Qh 1 (Qh 1 (Qh 2 (Qh 1 (Qh 1 (Qh 1 (Qh 1 (Qh 1 (Qh 2 (cL (cL (cL (Qh 4 c23))))))))))))))))) (f23r3n13S bg1 bg3 bh4 bh5 bb6 bi7 ba8 bh9 bh10 bg2 bg11 bh13 bh14 v4574 v4575) (·=f23r3n13E bg1 bg3 bh4 bh5 bb6 bi7 ba8 bh9 bh10 bg2 bg11 bh13 bh14 o)
 | 0,_,_,_,_,_,_,_,_,_,_,_,_,_,_,_,o,h=>by rw [f23r3n13] at h; cases h
 | f+1,bg1,bg3,bh4,bh5,bb6,bi7,ba8,bh9,bh10,bg2,bg11,bh13,bh14,v4574,v4575,o,h=>by
  rw [f23r3n13] at h;refine TL.body (K:=fun s=>∃v4574:Int,∃v4575:List Int,s=(f23r3n13S bg1 bg3 bh4 bh5 bb6 bi7 ba8 bh9 bh10 bg2 bg11 bh13 bh14 v4574 v4575)∧f23r3n13 f bg1 bg3 bh4 bh5 bb6 bi7 ba8 bh9 bh10 bg2 bg11 bh13 bh14 v4574 v4575=some o) ?_ (by rintro _ ⟨v4574,v4575,rfl,hk⟩; exact f23r3n13_ok f _ _ _ _ _ _ _ _ _ _ _ _ _ _ _ hk);refine T.block' (i:=15) (by kernel_rfl) ?_;obtain ⟨h4579,h⟩:=Qk h;obtain ⟨x4580,h4581,h⟩:=Qc h;obtain ⟨h4585,h⟩:=Qk h;obtain ⟨x4586,h4587,h⟩:=Qc h
  refine rN Qg 2 [([],[(1,.at_ (Int.toNat v4574)),(2,.arr ((Int.toNat v4574)*1) ((pInt .i64) x4580))],[]),([],[(2,.at_ (Int.toNat x4580)),(3,.at_ (Int.toNat v4574)),(4,.arr ((Int.toNat x4580)*8+(Int.toNat v4574)*1) ((pInt .i64) x4586)),(7,.at_ (Int.toNat x4580)),(8,.at_ (Int.toNat v4574)),(9,.arw ((Int.toNat x4580)*8+(Int.toNat v4574)*1))],[(9,.arr 6 ((v4575.set ((Int.toNat x4580)*8+(Int.toNat v4574)*1) (wr64 (x4586+bg3))).map (pInt .i64)))])] [] [] [4,5,6,7,8] [0,1,2,7,8,9,10,18,22] (mkS [(0,(.own 4)),(1,(.own 5)),(2,(.bp 2 4)),(7,(.bp 6 0)),(8,(jI bg1)),(9,(.bp 7 0)),(10,(.bp 8 0)),(18,(jI bg3)),(22,(jI x4580))],[some (.row false 1 (bh4.map (cInt .i64))),some (.row false 1 (bh5.map (cInt .i64))),some (.abox 57 [(.own 3),(jL 2 Qb.cells bb6),(.own 0),(.own 1)] (bi7.map Qm)),jR 4 Qa.cells ba8,some (.row false 1 (bh9.map (cInt .i64))),some (.row false 1 ((bh10.set (Int.toNat bg2) (wr64 (bg11-bg3))).map (cInt .i64))),some (.abox 82 [] ((v4575.set ((Int.toNat x4580)*8+(Int.toNat v4574)*1) (wr64 (x4586+bg3))).map (pInt .i64))),some (.abox 83 [] (bh13.map (pInt .i64))),some (.abox 80 [] (bh14.map (pInt .i64)))]) (ap (Qq h4579) (ap (Qs h4579) (ap ((by omega:(0+(Int.toNat v4574)*1)=0+((Int.toNat v4574)*1))) (ap (Qt (pInt .i64) h4581) (ap (Qq h4585) (ap (Qs h4585) (ap (Qq h4579) (ap (Qs h4579) (ap ((by omega:(0+(Int.toNat x4580)*8+(Int.toNat v4574)*1)=0+((Int.toNat x4580)*8+(Int.toNat v4574)*1))) (ap (Qt (pInt .i64) h4587) (ap (Qq h4585) (ap (Qs h4585) (ap (Qq h4579) (ap (Qs h4579) (ap ((by omega:(0+(Int.toNat x4580)*8+(Int.toNat v4574)*1)=0+((Int.toNat x4580)*8+(Int.toNat v4574)*1))) (ap (Qcg (f:=(pInt .i64)) h4587) (ap (Qai (xs:=v4575) (f:=(pInt .i64)) (k:=((Int.toNat x4580)*8+(Int.toNat v4574)*1)) (x:=(wr64 (x4586+bg3)))) an))))))))))))))))) ?_
  obtain ⟨x4601,h4602,h⟩:=Qc h;rcases Qi h with ⟨h4603,h⟩|⟨h4603,h⟩
  ·obtain ⟨x4604,h4605,h⟩:=Qc h;obtain rfl:=Qf h
   exact rK Qg 1 [([],[(1,.at_ (Int.toNat x4580)),(2,.arr ((Int.toNat x4580)*1) ((pInt .i64) x4601))],[]),([],[(2,.at_ (Int.toNat x4580)),(3,.idx 0 ((cInt .i64) x4604)),(6,.at_ (Int.toNat x4580)),(7,.idx 0 ((cInt .i64) x4604))],[(7,.row 4 ((bh9.set (Int.toNat x4580) (wr64 (x4604-bg3))).map (cInt .i64)))])] [some true] [] [4,5,6] [0,1,2,7,8,18] (.exit 14) ((f23r3n13E bg1 bg3 bh4 bh5 bb6 bi7 ba8 bh9 bh10 bg2 bg11 bh13 bh14 (.exit14 (bh9.set (Int.toNat x4580) (wr64 (x4604-bg3))) (v4575.set ((Int.toNat x4580)*8+(Int.toNat v4574)*1) (wr64 (x4586+bg3))))).2) (ap (Qq h4585) (ap (Qs h4585) (ap ((by omega:(0+(Int.toNat x4580)*1)=0+((Int.toNat x4580)*1))) (ap (Qt (pInt .i64) h4602) (ap h4603 (ap (Qe h4605).1 (ap (Qp (cInt .i64) (Qe h4605).2) (ap (Ql (cInt .i64) (Qe h4605).2) (ap (Qe h4605).1 (ap (Qp (cInt .i64) (Qe h4605).2) (ap (Ql (cInt .i64) (Qe h4605).2) (ap (Qcj (xs:=bh9) (c:=(cInt .i64)) (k:=(Int.toNat x4580)) (x:=(wr64 (x4604-bg3)))) an)))))))))))) (Qn.out rfl rfl)
  ·obtain ⟨h4609,h⟩:=Qk h;obtain ⟨x4610,h4611,h⟩:=Qc h
   exact rE Qg [([],[(1,.at_ (Int.toNat x4580)),(2,.arr ((Int.toNat x4580)*1) ((pInt .i64) x4601))],[]),([],[(1,.at_ (Int.toNat x4580)),(2,.arr ((Int.toNat x4580)*1) ((pInt .i64) x4601))],[]),([],[(2,.at_ (Int.toNat x4580)),(3,.at_ (Int.toNat x4601)),(4,.arr ((Int.toNat x4580)*8+(Int.toNat x4601)*1) ((pInt .i64) x4610)),(7,.at_ (Int.toNat x4580)),(8,.at_ (Int.toNat x4601)),(9,.arw ((Int.toNat x4580)*8+(Int.toNat x4601)*1))],[(9,.arr 6 (((v4575.set ((Int.toNat x4580)*8+(Int.toNat v4574)*1) (wr64 (x4586+bg3))).set ((Int.toNat x4580)*8+(Int.toNat x4601)*1) (wr64 (x4610-bg3))).map (pInt .i64)))])] [some false] [] [4,5,6,7,8] [0,1,2,7,8,9,10,18,21] (.norm,(f23r3n13S bg1 bg3 bh4 bh5 bb6 bi7 ba8 bh9 bh10 bg2 bg11 bh13 bh14 x4601 ((v4575.set ((Int.toNat x4580)*8+(Int.toNat v4574)*1) (wr64 (x4586+bg3))).set ((Int.toNat x4580)*8+(Int.toNat x4601)*1) (wr64 (x4610-bg3))))) (ap (Qq h4585) (ap (Qs h4585) (ap ((by omega:(0+(Int.toNat x4580)*1)=0+((Int.toNat x4580)*1))) (ap (Qt (pInt .i64) h4602) (ap h4603 (ap (Qq h4585) (ap (Qs h4585) (ap ((by omega:(0+(Int.toNat x4580)*1)=0+((Int.toNat x4580)*1))) (ap (Qt (pInt .i64) h4602) (ap (Qq h4585) (ap (Qs h4585) (ap (Qq h4609) (ap (Qs h4609) (ap ((by omega:(0+(Int.toNat x4580)*8+(Int.toNat x4601)*1)=0+((Int.toNat x4580)*8+(Int.toNat x4601)*1))) (ap (Qt (pInt .i64) h4611) (ap (Qq h4585) (ap (Qs h4585) (ap (Qq h4609) (ap (Qs h4609) (ap ((by omega:(0+(Int.toNat x4580)*8+(Int.toNat x4601)*1)=0+((Int.toNat x4580)*8+(Int.toNat x4601)*1))) (ap (Qcg (f:=(pInt .i64)) h4611) (ap (Qai (xs:=(v4575.set ((Int.toNat x4580)*8+(Int.toNat v4574)*1) (wr64 (x4586+bg3)))) (f:=(pInt .i64)) (k:=((Int.toNat x4580)*8+(Int.toNat x4601)*1)) (x:=(wr64 (x4610-bg3)))) an)))))))))))))))))))))) (Qn.norm ⟨x4601,((v4575.set ((Int.toNat x4580)*8+(Int.toNat v4574)*1) (wr64 (x4586+bg3))).set ((Int.toNat x4580)*8+(Int.toNat x4601)*1) (wr64 (x4610-bg3))),rfl,h⟩)
inductive f23r3n12O where
 | norm (v4618:List Int) (v4619:List Int)
def f23r3n12E(bg1 bg2 bg3:Int)(bh4 bh5:List Int)(bb6:List Qb)(bi7:List Bool)(ba8:List Qa)(bh9 bh10:List Int)(bg11:Int)(bh12 bh13 bh14:List Int):f23r3n12O→Ex×Tr×Hp
 | .norm v4618 v4619=>(.norm,mkS [(0,(.own 4)),(1,(.own 5)),(2,(.bp 2 4)),(7,(.bp 6 0)),(8,(jI bg1)),(18,(jI bg3))],[some (.row false 1 (bh4.map (cInt .i64))),some (.row false 1 (bh5.map (cInt .i64))),some (.abox 57 [(.own 3),(jL 2 Qb.cells bb6),(.own 0),(.own 1)] (bi7.map Qm)),jR 4 Qa.cells ba8,some (.row false 1 (v4618.map (cInt .i64))),some (.row false 1 ((bh10.set (Int.toNat bg2) (wr64 (bg11-bg3))).map (cInt .i64))),some (.abox 82 [] (v4619.map (pInt .i64)))])
def f23r3n12S(bg1 bg2 bg3:Int)(bh4 bh5:List Int)(bb6:List Qb)(bi7:List Bool)(ba8:List Qa)(bh9 bh10:List Int)(bg11:Int)(bh12 bh13 bh14:List Int):Tr×Hp:=(mkS [(0,(.own 4)),(1,(.own 5)),(2,(.bp 2 4)),(7,(.bp 6 0)),(8,(jI bg1)),(9,(.bp 7 0)),(10,(.bp 8 0)),(14,(jI bg2)),(18,(jI bg3))],[some (.row false 1 (bh4.map (cInt .i64))),some (.row false 1 (bh5.map (cInt .i64))),some (.abox 57 [(.own 3),(jL 2 Qb.cells bb6),(.own 0),(.own 1)] (bi7.map Qm)),jR 4 Qa.cells ba8,some (.row false 1 (bh9.map (cInt .i64))),some (.row false 1 ((bh10.set (Int.toNat bg2) (wr64 (bg11-bg3))).map (cInt .i64))),some (.abox 82 [] (bh12.map (pInt .i64))),some (.abox 83 [] (bh13.map (pInt .i64))),some (.abox 80 [] (bh14.map (pInt .i64)))])
noncomputable def f23r3n12(bg1 bg2 bg3:Int)(bh4 bh5:List Int)(bb6:List Qb)(bi7:List Bool)(ba8:List Qa)(bh9 bh10:List Int)(bg11:Int)(bh12 bh13 bh14:List Int):Option f23r3n12O :=
 (f23r3n13 FUEL bg1 bg3 bh4 bh5 bb6 bi7 ba8 bh9 bh10 bg2 bg11 bh13 bh14 bg2 bh12).bind fun o4614=>match o4614 with
 | .exit14 v4616 v4617=>some (.norm v4616 v4617)
theorem f23r3n12_ok(bg1 bg2 bg3:Int)(bh4 bh5:List Int)(bb6:List Qb)(bi7:List Bool)(ba8:List Qa)(bh9 bh10:List Int)(bg11:Int)(bh12 bh13 bh14:List Int){o:f23r3n12O}(h:f23r3n12 bg1 bg2 bg3 bh4 bh5 bb6 bi7 ba8 bh9 bh10 bg11 bh12 bh13 bh14=some o):T Try.prog Try.f23.ntmps 4 (cL (Qh 1 (Qh 1 (Qh 2 (Qh 1 (Qh 1 (Qh 1 (Qh 1 (Qh 1 (Qh 2 (cL (cL (cL (Qh 4 c23)))))))))))))) (f23r3n12S bg1 bg2 bg3 bh4 bh5 bb6 bi7 ba8 bh9 bh10 bg11 bh12 bh13 bh14) (·=f23r3n12E bg1 bg2 bg3 bh4 bh5 bb6 bi7 ba8 bh9 bh10 bg11 bh12 bh13 bh14 o):=by
 unfold f23r3n12 at h;refine rN Qg 1 [j3] [] [] [4,5,6,7,8] [0,1,2,7,8,9,10,18,21] (f23r3n13S bg1 bg3 bh4 bh5 bb6 bi7 ba8 bh9 bh10 bg2 bg11 bh13 bh14 bg2 bh12) an ?_;obtain ⟨o4614,h4615,h⟩:=Qc h;cases o4614 with
 | exit14 v4616 v4617 =>
  obtain rfl:=Qf h;exact T.last' (T.bl (i:=14) (by kernel_rfl) (by kernel_rfl) (f23r3n13_ok FUEL bg1 bg3 bh4 bh5 bb6 bi7 ba8 bh9 bh10 bg2 bg11 bh13 bh14 bg2 bh12 h4615)) (tds:=[]) (m:=[4,5,6]) (keep:=[0,1,2,7,8,18]) (st2:=(f23r3n12E bg1 bg2 bg3 bh4 bh5 bb6 bi7 ba8 bh9 bh10 bg11 bh12 bh13 bh14 (.norm v4616 v4617)).2) (by kernel_rfl) an rfl
inductive f23r3n14O where
 | ret (v4624:Int)
def f23r3n14E(a1 a2:List Int)(a3:List Qb)(a4:List Bool)(a5:List Qa):f23r3n14O→Ex×Tr×Hp
 | .ret v4624=>(.ret,mkS [(6,(jI v4624))],[some (.row false 1 (a1.map (cInt .i64))),some (.row false 1 (a2.map (cInt .i64))),some (.abox 57 [(.own 3),(jL 2 Qb.cells a3),(.own 0),(.own 1)] (a4.map Qm)),jR 4 Qa.cells a5])
def f23r3n14S(a1 a2:List Int)(a3:List Qb)(a4:List Bool)(a5:List Qa)(v3086:Int)(v3087 v3088 v3089:List Int):Tr×Hp:=(mkS [(0,(.own 4)),(1,(.own 5)),(2,(.bp 2 4)),(7,(.bp 6 0)),(8,(jI v3086))],[some (.row false 1 (a1.map (cInt .i64))),some (.row false 1 (a2.map (cInt .i64))),some (.abox 57 [(.own 3),(jL 2 Qb.cells a3),(.own 0),(.own 1)] (a4.map Qm)),jR 4 Qa.cells a5,some (.row false 1 (v3087.map (cInt .i64))),some (.row false 1 (v3088.map (cInt .i64))),some (.abox 82 [] (v3089.map (pInt .i64)))])
noncomputable def f23r3n14:Nat→List Int→List Int→List Qb→List Bool→List Qa→Int→List Int→List Int→List Int→Option f23r3n14O
 | 0,_,_,_,_,_,_,_,_,_=>none
 | f+1,a1,a2,a3,a4,a5,v3086,v3087,v3088,v3089 =>
  (f23r3n1 v3086 a1 a2 a3 a4 a5 v3087 v3088 v3089).bind fun o3113=>match o3113 with
  | .norm v3115=>(f23r3n3 v3086 a1 a2 a3 a4 a5 v3087 v3088 v3089 v3115).bind fun o3178=>match o3178 with
   | .norm v3180 v3181=>(f23r3n9 FUEL v3086 a1 a2 a3 a4 a5 v3087 v3088 v3089 0 v3181.length (-1) v3180 v3115 v3181).bind fun o4405=>match o4405 with
    | .exit6 v4407 v4408 v4409=>bif decide (v4407<0) then
      some (.ret v3086)
     else
      (at? v3088 v4407).bind fun x4414 =>
      (f23r3n10 v3086 v4407 x4414 a1 a2 a3 a4 a5 v3087 v3088 v3089 v4408 v4409).bind fun o4497=>match o4497 with
      | .norm v4499=>(f23r3n12 v3086 v4407 v4499 a1 a2 a3 a4 a5 v3087 v3088 x4414 v3089 v4408 v4409).bind fun o4620=>match o4620 with
       | .norm v4622 v4623=>(f23r3n14 f a1 a2 a3 a4 a5 (wr64 (v3086+v4499)) v4622 (v3088.set (Int.toNat v4407) (wr64 (x4414-v4499))) v4623)
theorem f23r3n14_ok:∀(f:Nat)(a1 a2:List Int)(a3:List Qb)(a4:List Bool)(a5:List Qa)(v3086:Int)(v3087 v3088 v3089:List Int){o:f23r3n14O},f23r3n14 f a1 a2 a3 a4 a5 v3086 v3087 v3088 v3089=some o→TL Try.prog Try.f23.ntmps 4 f (cL (cL (Qh 4 c23))) (f23r3n14S a1 a2 a3 a4 a5 v3086 v3087 v3088 v3089) (·=f23r3n14E a1 a2 a3 a4 a5 o)
 | 0,_,_,_,_,_,_,_,_,_,o,h=>by rw [f23r3n14] at h; cases h
 | f+1,a1,a2,a3,a4,a5,v3086,v3087,v3088,v3089,o,h=>by
  rw [f23r3n14] at h;refine TL.body (K:=fun s=>∃v3086:Int,∃v3087:List Int,∃v3088:List Int,∃v3089:List Int,s=(f23r3n14S a1 a2 a3 a4 a5 v3086 v3087 v3088 v3089)∧f23r3n14 f a1 a2 a3 a4 a5 v3086 v3087 v3088 v3089=some o) ?_ (by rintro _ ⟨v3086,v3087,v3088,v3089,rfl,hk⟩; exact f23r3n14_ok f _ _ _ _ _ _ _ _ _ hk);refine T.block' (i:=1) (by kernel_rfl) ?_;refine rN Qg 2 [j3,j3] [] [] [4,5,6,7,8] [0,1,2,7,8,9,10] (f23r3n1S v3086 a1 a2 a3 a4 a5 v3087 v3088 v3089) an ?_;obtain ⟨o3113,h3114,h⟩:=Qc h;cases o3113 with
  | norm v3115 =>
   refine T.oneN (by kernel_rfl) (f23r3n1_ok v3086 a1 a2 a3 a4 a5 v3087 v3088 v3089 h3114) (st2:=(f23r3n1E v3086 a1 a2 a3 a4 a5 v3087 v3088 v3089 (.norm v3115)).2) rfl ?_;refine rN Qg 1 [j3] [] [] [4,5,6,7,8] [0,1,2,7,8,9,10,12] (f23r3n3S v3086 a1 a2 a3 a4 a5 v3087 v3088 v3089 v3115) an ?_;obtain ⟨o3178,h3179,h⟩:=Qc h;cases o3178 with
   | norm v3180 v3181 =>
    refine T.oneN (by kernel_rfl) (f23r3n3_ok v3086 a1 a2 a3 a4 a5 v3087 v3088 v3089 v3115 h3179) (st2:=(f23r3n3E v3086 a1 a2 a3 a4 a5 v3087 v3088 v3089 v3115 (.norm v3180 v3181)).2) rfl ?_;refine rN Qg 1 [j3] [] [.ovw 12 v3181.length] [4,5,6,7,8,9] [0,1,2,7,8,9,10,12,14] (f23r3n9S v3086 a1 a2 a3 a4 a5 v3087 v3088 v3089 0 v3181.length (-1) v3180 v3115 v3181) (ap (len_ov (xs:=v3181) (c:=(cInt .i64))) an) ?_;obtain ⟨o4405,h4406,h⟩:=Qc h;cases o4405 with
    | exit6 v4407 v4408 v4409 =>
     refine T.oneN (by kernel_rfl) (T.bl (i:=6) (by kernel_rfl) (by kernel_rfl) (f23r3n9_ok FUEL v3086 a1 a2 a3 a4 a5 v3087 v3088 v3089 0 v3181.length (-1) v3180 v3115 v3181 h4406)) (st2:=(f23r3n9E v3086 a1 a2 a3 a4 a5 v3087 v3088 v3089 (.exit6 v4407 v4408 v4409)).2) rfl ?_;rcases Qi h with ⟨h4411,h⟩|⟨h4411,h⟩
     ·obtain rfl:=Qf h;exact rK Qg 1 [j3,j3] [some true] [] [] [6] .ret ((f23r3n14E a1 a2 a3 a4 a5 (.ret v3086)).2) (ap h4411 an) (Qn.out rfl rfl)
     ·obtain ⟨x4414,h4415,h⟩:=Qc h;refine rN Qg 2 [j3,([],[(2,.at_ (Int.toNat v4407)),(3,.idx 0 ((cInt .i64) x4414))],[])] [some false] [] [4,5,6,7,8] [0,1,2,7,8,9,10,14,18] (f23r3n10S v3086 v4407 x4414 a1 a2 a3 a4 a5 v3087 v3088 v3089 v4408 v4409) (ap h4411 (ap (Qe h4415).1 (ap (Qp (cInt .i64) (Qe h4415).2) (ap (Ql (cInt .i64) (Qe h4415).2) an)))) ?_;obtain ⟨o4497,h4498,h⟩:=Qc h;cases o4497 with
      | norm v4499 =>
       refine T.oneN (by kernel_rfl) (f23r3n10_ok v3086 v4407 x4414 a1 a2 a3 a4 a5 v3087 v3088 v3089 v4408 v4409 h4498) (st2:=(f23r3n10E v3086 v4407 x4414 a1 a2 a3 a4 a5 v3087 v3088 v3089 v4408 v4409 (.norm v4499)).2) rfl ?_;refine rN Qg 1 [([],[(2,.at_ (Int.toNat v4407)),(3,.idx 0 ((cInt .i64) x4414)),(6,.at_ (Int.toNat v4407)),(7,.idx 0 ((cInt .i64) x4414))],[(7,.row 5 ((v3088.set (Int.toNat v4407) (wr64 (x4414-v4499))).map (cInt .i64)))])] [] [] [4,5,6,7,8] [0,1,2,7,8,9,10,14,18] (f23r3n12S v3086 v4407 v4499 a1 a2 a3 a4 a5 v3087 v3088 x4414 v3089 v4408 v4409) (ap (Qe h4415).1 (ap (Qp (cInt .i64) (Qe h4415).2) (ap (Ql (cInt .i64) (Qe h4415).2) (ap (Qe h4415).1 (ap (Qp (cInt .i64) (Qe h4415).2) (ap (Ql (cInt .i64) (Qe h4415).2) (ap (Qcj (xs:=v3088) (c:=(cInt .i64)) (k:=(Int.toNat v4407)) (x:=(wr64 (x4414-v4499)))) an))))))) ?_
       obtain ⟨o4620,h4621,h⟩:=Qc h;cases o4620 with
       | norm v4622 v4623 =>
        refine T.oneN (by kernel_rfl) (f23r3n12_ok v3086 v4407 v4499 a1 a2 a3 a4 a5 v3087 v3088 x4414 v3089 v4408 v4409 h4621) (st2:=(f23r3n12E v3086 v4407 v4499 a1 a2 a3 a4 a5 v3087 v3088 x4414 v3089 v4408 v4409 (.norm v4622 v4623)).2) rfl ?_;exact rE Qg [j3] [] [] [4,5,6] [0,1,2,7,8] (.norm,(f23r3n14S a1 a2 a3 a4 a5 (wr64 (v3086+v4499)) v4622 (v3088.set (Int.toNat v4407) (wr64 (x4414-v4499))) v4623)) an (Qn.norm ⟨(wr64 (v3086+v4499)),v4622,(v3088.set (Int.toNat v4407) (wr64 (x4414-v4499))),v4623,rfl,h⟩)
inductive f23r3n0O where
 | ret (v4628:Int)
def f23r3n0E(a1 a2:List Int)(a3:List Qb)(a4:List Bool)(a5:List Qa):f23r3n0O→Ex×Tr×Hp
 | .ret v4628=>(.ret,mkS [(6,(jI v4628))],[some (.row false 1 (a1.map (cInt .i64))),some (.row false 1 (a2.map (cInt .i64))),some (.abox 57 [(.own 3),(jL 2 Qb.cells a3),(.own 0),(.own 1)] (a4.map Qm)),jR 4 Qa.cells a5])
def f23r3n0S(a1 a2:List Int)(a3:List Qb)(a4:List Bool)(a5:List Qa):Tr×Hp:=(Qaz [(.own 0),(.own 1),(.bp 2 4)] 0 .leaf,[some (.row false 1 (a1.map (cInt .i64))),some (.row false 1 (a2.map (cInt .i64))),some (.abox 57 [(.own 3),(jL 2 Qb.cells a3),(.own 0),(.own 1)] (a4.map Qm)),jR 4 Qa.cells a5])
noncomputable def f23r3n0(a1 a2:List Int)(a3:List Qb)(a4:List Bool)(a5:List Qa):Option f23r3n0O :=
 (f45r2 a1).bind fun x10 =>
 (f45r2 a2).bind fun x12 =>
 (f23r3n14 FUEL a1 a2 a3 a4 a5 0 x10 x12 (List.replicate 80 0)).bind fun o4625=>match o4625 with
 | .ret v4627=>some (.ret v4627)
theorem f23r3n0_ok(a1 a2:List Int)(a3:List Qb)(a4:List Bool)(a5:List Qa){o:f23r3n0O}(h:f23r3n0 a1 a2 a3 a4 a5=some o):T Try.prog Try.f23.ntmps 4 c23 (f23r3n0S a1 a2 a3 a4 a5) (·=f23r3n0E a1 a2 a3 a4 a5 o):=by
 unfold f23r3n0 at h;obtain ⟨x10,h11,h⟩:=Qc h;obtain ⟨x12,h13,h⟩:=Qc h;refine rN Qg 4 [j3,([],[(1,.call (.own 4) [some (.row false 1 (a1.map (cInt .i64))),none,none,none,some (.row false 1 (x10.map (cInt .i64)))]),(3,.call (.own 5) [none,some (.row false 1 (a2.map (cInt .i64))),none,none,none,some (.row false 1 (x12.map (cInt .i64)))])],[]),j3,j3] [] [.toA 6 0 ((List.replicate 80 0).map (pInt .i64))] [4,5,6] [0,1,2,7,8] (f23r3n14S a1 a2 a3 a4 a5 0 x10 x12 (List.replicate 80 0)) (ap (Qr.rn 4 [0] (f45r2_ok a1 h11)) (ap (Qr.rn 5 [1] (f45r2_ok a2 h13)) (ap (toA_r ((List.replicate 80 0).map (pInt .i64))) an))) ?_;obtain ⟨o4625,h4626,h⟩:=Qc h;cases o4625 with
 | ret v4627 =>
  obtain rfl:=Qf h;exact T.last' (T.bl (i:=0) (by kernel_rfl) (by kernel_rfl) (f23r3n14_ok FUEL a1 a2 a3 a4 a5 0 x10 x12 (List.replicate 80 0) h4626)) (tds:=[]) (m:=[]) (keep:=[6]) (st2:=(f23r3n0E a1 a2 a3 a4 a5 (.ret v4627)).2) (by kernel_rfl) an rfl
noncomputable def f23r3(a1 a2:List Int)(a3:List Qb)(a4:List Bool)(a5:List Qa):Option Int:=(f23r3n0 a1 a2 a3 a4 a5).bind fun o=>match o with
 | .ret v4628=>some v4628
theorem f23r3_ok(a1 a2:List Int)(a3:List Qb)(a4:List Bool)(a5:List Qa){r:Int}(h:f23r3 a1 a2 a3 a4 a5=some r):Qr Try.prog true 23 [(.own 0),(.own 1),(.bp 2 4)] [some (.row false 1 (a1.map (cInt .i64))),some (.row false 1 (a2.map (cInt .i64))),some (.abox 57 [(.own 3),(jL 2 Qb.cells a3),(.own 0),(.own 1)] (a4.map Qm)),jR 4 Qa.cells a5] (jI r) [some (.row false 1 (a1.map (cInt .i64))),some (.row false 1 (a2.map (cInt .i64))),some (.abox 57 [(.own 3),(jL 2 Qb.cells a3),(.own 0),(.own 1)] (a4.map Qm)),jR 4 Qa.cells a5]:=by
 unfold f23r3 at h;obtain ⟨o,ho,h⟩:=Qc h;cases o with
 | ret v4628 =>
  obtain rfl:=Qf h;exact Qr.shared Qg (f:=Try.f23) (c:=c23) (by kernel_rfl) (by kernel_rfl) (by kernel_rfl) ((f23r3n0_ok a1 a2 a3 a4 a5 ho).mono fun r e=>by subst e; exact ⟨.inl rfl,by kernel_rfl,by kernel_rfl⟩)

noncomputable def c20:Code:=Try.f20.body.getD .skip
inductive f20n0O where
 | ret (v17:Int) (v18:Int)
def f20n0E(a1:List Qa)(a2:List Qb):f20n0O→Ex×Tr×Hp
 | .ret v17 v18=>(.ret,mkS [(4,(jI v17)),(5,(jI v18))],[])
def f20n0S(a1:List Qa)(a2:List Qb):Tr×Hp:=(Qaz [(jL 4 Qa.cells a1),(jL 2 Qb.cells a2)] 0 .leaf,[])
noncomputable def f20n0(a1:List Qa)(a2:List Qb):Option f20n0O :=
 (f13 a1 a2).bind fun x6 =>
 bif decide (x6=0) then
  (f22r1 a1 a2).bind fun x11 =>
  (f23r3 x11.2.2.1 x11.2.2.2 a2 x11.1 x11.2.1).bind fun x15 =>
  some (.ret x15 0)
 else
  some (.ret 0 x6)
theorem f20n0_ok(a1:List Qa)(a2:List Qb){o:f20n0O}(h:f20n0 a1 a2=some o):T Try.prog Try.f20.ntmps 0 c20 (f20n0S a1 a2) (·=f20n0E a1 a2 o):=by
 unfold f20n0 at h;obtain ⟨x6,h7,h⟩:=Qc h;rcases Qi h with ⟨h8,h⟩|⟨h8,h⟩
 ·obtain ⟨x11,h12,h⟩:=Qc h;obtain ⟨x15,h16,h⟩:=Qc h;obtain rfl:=Qf h;exact rE Qg [j3,([],[jH 2 (jI x6)],[]),j3,([],[(2,.call (.bp 0 0) [some (.abox 57 [(.own 1),(jL 2 Qb.cells a2),(.own 2),(.own 3)] (x11.1.map Qm)),jR 4 Qa.cells x11.2.1,some (.row false 1 (x11.2.2.1.map (cInt .i64))),some (.row false 1 (x11.2.2.2.map (cInt .i64)))])],[]),([],[(11,.call (jI x15) [some (.abox 57 [(.own 1),(jL 2 Qb.cells a2),(.own 2),(.own 3)] (x11.1.map Qm)),jR 4 Qa.cells x11.2.1,some (.row false 1 (x11.2.2.1.map (cInt .i64))),some (.row false 1 (x11.2.2.2.map (cInt .i64))),none])],[])] [some false] [] [] [4,5] (.ret,(f20n0E a1 a2 (.ret x15 0)).2) (ap (f13_ok a1 a2 h7) (ap (Qab h8) (ap (f22r1_ok a1 a2 h12) (ap (Qr.rn 5 [2,3,0,1] (f23r3_ok x11.2.2.1 x11.2.2.2 a2 x11.1 x11.2.1 h16)) an)))) rfl
 ·obtain rfl:=Qf h;exact rK Qg 2 [j3,([],[jH 2 (jI x6)],[]),j3,j3] [some true] [] [] [4,5] .ret ((f20n0E a1 a2 (.ret 0 x6)).2) (ap (f13_ok a1 a2 h7) (ap (Qak h8) an)) rfl
noncomputable def f20(a1:List Qa)(a2:List Qb):Option (Int×Int):=(f20n0 a1 a2).bind fun o=>match o with
 | .ret v17 v18=>some (v17,v18)
theorem f20_ok(a1:List Qa)(a2:List Qb){r:Int×Int}(h:f20 a1 a2=some r):Qr Try.prog false 20 [(jL 4 Qa.cells a1),(jL 2 Qb.cells a2)] [] (.tup [(jI r.1),(jI r.2)]) []:=by
 unfold f20 at h;obtain ⟨o,ho,h⟩:=Qc h;cases o with
 | ret v17 v18 =>
  obtain rfl:=Qf h;exact Qr.plain Qg (f:=Try.f20) (c:=c20) (by kernel_rfl) (by kernel_rfl) (by kernel_rfl) (by kernel_rfl) ((f20n0_ok a1 a2 ho).mono fun r e=>by subst e; exact ⟨.inl rfl,(.tup [(jI v17),(jI v18)]),(.tup [(jI v17),(jI v18)]),by kernel_rfl,by kernel_rfl,((Wk.refl _):Wk (.tup [(jI v17),(jI v18)]) (.tup [(jI v17),(jI v18)]))⟩)

noncomputable def c6:Code:=Try.f6.body.getD .skip
end Go.Proofs.Ytinabbgjignkbaa
namespace Go.Proofs.Ytinabbgjignkbaa
set_option linter.unusedVariables false
set_option linter.unusedSimpArgs false
set_option maxRecDepth 100000
open Go.RowKit
noncomputable def c7:Code:=Try.f7.body.getD .skip

noncomputable def c8:Code:=Try.f8.body.getD .skip
inductive f8n3O where
 | exit2 (v207:Int) (v208:List Qa)
def f8n3E(ba1:List Qa)(bl2:Bool)(bn3:(List Qd)×Int)(bo4:Int×Int)(bg6:Int)(bp7:Qb):f8n3O→Ex×Tr×Hp
 | .exit2 v207 v208=>((.exit 2),mkS [(0,(jL 4 Qa.cells ba1)),(3,(.bp 0 0)),(5,(jB bl2)),(7,(jL 3 Qd.cells bn3.1)),(8,(jI bn3.2)),(9,(jI bo4.1)),(11,(jI v207)),(12,(.own 1)),(13,(jI bg6))],[some (.box 43 ((Qb.cells bp7).map .pl)),jR 4 Qa.cells v208])
def f8n3S(ba1:List Qa)(bl2:Bool)(bn3:(List Qd)×Int)(bo4:Int×Int)(bg6:Int)(bp7:Qb)(v190 v191:Int)(v192:List Qa):Tr×Hp:=(mkS [(0,(jL 4 Qa.cells ba1)),(3,(.bp 0 0)),(5,(jB bl2)),(7,(jL 3 Qd.cells bn3.1)),(8,(jI bn3.2)),(9,(jI bo4.1)),(11,(jI v190)),(12,(.own 1)),(13,(jI bg6)),(14,(jI v191))],[some (.box 43 ((Qb.cells bp7).map .pl)),jR 4 Qa.cells v192])
noncomputable def f8n3:Nat→List Qa→Bool→(List Qd)×Int→Int×Int→Int→Qb→Int→Int→List Qa→Option f8n3O
 | 0,_,_,_,_,_,_,_,_,_=>none
 | f+1,ba1,bl2,bn3,bo4,bg6,bp7,v190,v191,v192 =>
  (at? ba1 bg6).bind fun x196 =>
  bif decide (v191<(x196.For.length:Int)) then
   (at? x196.For v191).bind fun x203 =>
   bif (seq x203 bp7.Name) then
    req (fit (v192.length+1) 56) <|
    (f8n3 f ba1 bl2 bn3 bo4 bg6 bp7 (wr64 (v190+x196.Amount)) (wr64 (v191+1)) (v192++[x196]))
   else
    (f8n3 f ba1 bl2 bn3 bo4 bg6 bp7 v190 (wr64 (v191+1)) v192)
  else
   some (.exit2 v190 v192)
theorem f8n3_ok:∀(f:Nat)(ba1:List Qa)(bl2:Bool)(bn3:(List Qd)×Int)(bo4:Int×Int)(bg6:Int)(bp7:Qb)(v190 v191:Int)(v192:List Qa){o:f8n3O},f8n3 f ba1 bl2 bn3 bo4 bg6 bp7 v190 v191 v192=some o→TL Try.prog Try.f8.ntmps 0 f (cL (cL (Qh 1 (cL (cL (Qh 1 (cL (cL (Qh 1 (cL (Qh 4 (Qh 5 c8)))))))))))) (f8n3S ba1 bl2 bn3 bo4 bg6 bp7 v190 v191 v192) (·=f8n3E ba1 bl2 bn3 bo4 bg6 bp7 o)
 | 0,_,_,_,_,_,_,_,_,_,o,h=>by rw [f8n3] at h; cases h
 | f+1,ba1,bl2,bn3,bo4,bg6,bp7,v190,v191,v192,o,h=>by
  rw [f8n3] at h;refine TL.body (K:=fun s=>∃v190:Int,∃v191:Int,∃v192:List Qa,s=(f8n3S ba1 bl2 bn3 bo4 bg6 bp7 v190 v191 v192)∧f8n3 f ba1 bl2 bn3 bo4 bg6 bp7 v190 v191 v192=some o) ?_ (by rintro _ ⟨v190,v191,v192,rfl,hk⟩; exact f8n3_ok f _ _ _ _ _ _ _ _ _ hk);obtain ⟨x196,h197,h⟩:=Qc h;rcases Qi h with ⟨h198,h⟩|⟨h198,h⟩
  ·obtain ⟨x203,h204,h⟩:=Qc h;rcases Qi h with ⟨h205,h⟩|⟨h205,h⟩
   ·obtain ⟨h206,h⟩:=Qk h
    exact rE Qg [([],[(3,.idx (Int.toNat bg6) (Qa.cells x196))],[(6,.val (jI (x196.For.length:Int)))]),([],[(2,.idx (Int.toNat bg6) (Qa.cells x196)),(6,.idx (Int.toNat v191) (cStr x203))],[]),([],[(3,.idx (Int.toNat bg6) (Qa.cells x196))],[]),([],[(3,.idx (Int.toNat bg6) (Qa.cells x196)),(6,.fits)],[(6,.row 4 ((v192++[x196]).map Qa.cells))]),j3] [some true,some true] [] [0,4] [0,3,5,7,8,9,11,12,13,14] (.norm,(f8n3S ba1 bl2 bn3 bo4 bg6 bp7 (wr64 (v190+x196.Amount)) (wr64 (v191+1)) (v192++[x196]))) (ap (Qe h197).1 (ap (Ql Qa.cells (Qe h197).2) (ap (Qu (xs:=x196.For) (c:=cStr)) (ap h198 (ap (Qe h197).1 (ap (Ql Qa.cells (Qe h197).2) (ap (Qe h204).1 (ap (Ql cStr (Qe h204).2) (ap h205 (ap (Qe h197).1 (ap (Ql Qa.cells (Qe h197).2) (ap (Qe h197).1 (ap (Ql Qa.cells (Qe h197).2) (ap (fit_map (te:=ti36) (xs:=v192) (n:=1) (c:=Qa.cells) h206 rfl) (ap (app_cv (xs:=v192) (ys:=[x196]) (c:=Qa.cells)) an))))))))))))))) (Qn.norm ⟨(wr64 (v190+x196.Amount)),(wr64 (v191+1)),(v192++[x196]),rfl,h⟩)
   ·exact rE Qg [([],[(3,.idx (Int.toNat bg6) (Qa.cells x196))],[(6,.val (jI (x196.For.length:Int)))]),([],[(2,.idx (Int.toNat bg6) (Qa.cells x196)),(6,.idx (Int.toNat v191) (cStr x203))],[]),j3] [some true,some false] [] [0,1] [0,3,5,7,8,9,11,12,13,14] (.norm,(f8n3S ba1 bl2 bn3 bo4 bg6 bp7 v190 (wr64 (v191+1)) v192)) (ap (Qe h197).1 (ap (Ql Qa.cells (Qe h197).2) (ap (Qu (xs:=x196.For) (c:=cStr)) (ap h198 (ap (Qe h197).1 (ap (Ql Qa.cells (Qe h197).2) (ap (Qe h204).1 (ap (Ql cStr (Qe h204).2) (ap h205 an))))))))) (Qn.norm ⟨v190,(wr64 (v191+1)),v192,rfl,h⟩)
  ·obtain rfl:=Qf h;exact rK Qg 1 [([],[(3,.idx (Int.toNat bg6) (Qa.cells x196))],[(6,.val (jI (x196.For.length:Int)))])] [some false] [] [0,1] [0,3,5,7,8,9,11,12,13] (.exit 2) ((f8n3E ba1 bl2 bn3 bo4 bg6 bp7 (.exit2 v190 v192)).2) (ap (Qe h197).1 (ap (Ql Qa.cells (Qe h197).2) (ap (Qu (xs:=x196.For) (c:=cStr)) (ap h198 an)))) (Qn.out rfl rfl)
inductive f8n2O where
 | norm (v213:Int) (v214:List Qa)
def f8n2E(ba1:List Qa)(bl2:Bool)(bn3:(List Qd)×Int)(bo4:Int×Int)(bg5 bg6:Int)(bp7:Qb)(ba8:List Qa):f8n2O→Ex×Tr×Hp
 | .norm v213 v214=>(.norm,mkS [(0,(jL 4 Qa.cells ba1)),(3,(.bp 0 0)),(5,(jB bl2)),(7,(jL 3 Qd.cells bn3.1)),(8,(jI bn3.2)),(9,(jI bo4.1)),(11,(jI v213)),(12,(.own 1)),(13,(jI bg6))],[some (.box 43 ((Qb.cells bp7).map .pl)),jR 4 Qa.cells v214])
def f8n2S(ba1:List Qa)(bl2:Bool)(bn3:(List Qd)×Int)(bo4:Int×Int)(bg5 bg6:Int)(bp7:Qb)(ba8:List Qa):Tr×Hp:=(mkS [(0,(jL 4 Qa.cells ba1)),(3,(.bp 0 0)),(5,(jB bl2)),(7,(jL 3 Qd.cells bn3.1)),(8,(jI bn3.2)),(9,(jI bo4.1)),(11,(jI bg5)),(12,(.own 1)),(13,(jI bg6))],[some (.box 43 ((Qb.cells bp7).map .pl)),jR 4 Qa.cells ba8])
noncomputable def f8n2(ba1:List Qa)(bl2:Bool)(bn3:(List Qd)×Int)(bo4:Int×Int)(bg5 bg6:Int)(bp7:Qb)(ba8:List Qa):Option f8n2O :=
 (f8n3 FUEL ba1 bl2 bn3 bo4 bg6 bp7 bg5 0 ba8).bind fun o209=>match o209 with
 | .exit2 v211 v212=>some (.norm v211 v212)
theorem f8n2_ok(ba1:List Qa)(bl2:Bool)(bn3:(List Qd)×Int)(bo4:Int×Int)(bg5 bg6:Int)(bp7:Qb)(ba8:List Qa){o:f8n2O}(h:f8n2 ba1 bl2 bn3 bo4 bg5 bg6 bp7 ba8=some o):T Try.prog Try.f8.ntmps 0 (cL (Qh 1 (cL (cL (Qh 1 (cL (Qh 4 (Qh 5 c8)))))))) (f8n2S ba1 bl2 bn3 bo4 bg5 bg6 bp7 ba8) (·=f8n2E ba1 bl2 bn3 bo4 bg5 bg6 bp7 ba8 o):=by
 unfold f8n2 at h;refine T.block' (i:=1) (by kernel_rfl) ?_;refine rN Qg 1 [j3] [] [] [0,1] [0,3,5,7,8,9,11,12,13,14] (f8n3S ba1 bl2 bn3 bo4 bg6 bp7 bg5 0 ba8) an ?_;obtain ⟨o209,h210,h⟩:=Qc h;cases o209 with
 | exit2 v211 v212 =>
  obtain rfl:=Qf h;exact T.last' (T.bl (i:=2) (by kernel_rfl) (by kernel_rfl) (f8n3_ok FUEL ba1 bl2 bn3 bo4 bg6 bp7 bg5 0 ba8 h210)) (tds:=[]) (m:=[0,1]) (keep:=[0,3,5,7,8,9,11,12,13]) (st2:=(f8n2E ba1 bl2 bn3 bo4 bg5 bg6 bp7 ba8 (.norm v211 v212)).2) (by kernel_rfl) an rfl
inductive f8n4O where
 | exit0 (v219:Int) (v220:List Qa)
def f8n4E(ba1:List Qa)(bl2:Bool)(bn3:(List Qd)×Int)(bo4:Int×Int)(bp5:Qb):f8n4O→Ex×Tr×Hp
 | .exit0 v219 v220=>((.exit 0),mkS [(3,(.bp 0 0)),(5,(jB bl2)),(7,(jL 3 Qd.cells bn3.1)),(8,(jI bn3.2)),(9,(jI bo4.1)),(11,(jI v219)),(12,(.own 1))],[some (.box 43 ((Qb.cells bp5).map .pl)),jR 4 Qa.cells v220])
def f8n4S(ba1:List Qa)(bl2:Bool)(bn3:(List Qd)×Int)(bo4:Int×Int)(bp5:Qb)(v154 v155:Int)(v156:List Qa):Tr×Hp:=(mkS [(0,(jL 4 Qa.cells ba1)),(3,(.bp 0 0)),(5,(jB bl2)),(7,(jL 3 Qd.cells bn3.1)),(8,(jI bn3.2)),(9,(jI bo4.1)),(11,(jI v154)),(12,(.own 1)),(13,(jI v155))],[some (.box 43 ((Qb.cells bp5).map .pl)),jR 4 Qa.cells v156])
noncomputable def f8n4:Nat→List Qa→Bool→(List Qd)×Int→Int×Int→Qb→Int→Int→List Qa→Option f8n4O
 | 0,_,_,_,_,_,_,_,_=>none
 | f+1,ba1,bl2,bn3,bo4,bp5,v154,v155,v156 =>
  bif decide (v155<(ba1.length:Int)) then
   (f8n2 ba1 bl2 bn3 bo4 v154 v155 bp5 v156).bind fun o215=>match o215 with
   | .norm v217 v218=>(f8n4 f ba1 bl2 bn3 bo4 bp5 v217 (wr64 (v155+1)) v218)
  else
   some (.exit0 v154 v156)
theorem f8n4_ok:∀(f:Nat)(ba1:List Qa)(bl2:Bool)(bn3:(List Qd)×Int)(bo4:Int×Int)(bp5:Qb)(v154 v155:Int)(v156:List Qa){o:f8n4O},f8n4 f ba1 bl2 bn3 bo4 bp5 v154 v155 v156=some o→TL Try.prog Try.f8.ntmps 0 f (cL (cL (Qh 1 (cL (Qh 4 (Qh 5 c8)))))) (f8n4S ba1 bl2 bn3 bo4 bp5 v154 v155 v156) (·=f8n4E ba1 bl2 bn3 bo4 bp5 o)
 | 0,_,_,_,_,_,_,_,_,o,h=>by rw [f8n4] at h; cases h
 | f+1,ba1,bl2,bn3,bo4,bp5,v154,v155,v156,o,h=>by
  rw [f8n4] at h;refine TL.body (K:=fun s=>∃v154:Int,∃v155:Int,∃v156:List Qa,s=(f8n4S ba1 bl2 bn3 bo4 bp5 v154 v155 v156)∧f8n4 f ba1 bl2 bn3 bo4 bp5 v154 v155 v156=some o) ?_ (by rintro _ ⟨v154,v155,v156,rfl,hk⟩; exact f8n4_ok f _ _ _ _ _ _ _ _ hk);rcases Qi h with ⟨h158,h⟩|⟨h158,h⟩
  ·refine rN Qg 1 [([],[],[(2,.val (jI (ba1.length:Int)))])] [some true] [] [0,1] [0,3,5,7,8,9,11,12,13] (f8n2S ba1 bl2 bn3 bo4 v154 v155 bp5 v156) (ap (Qu (xs:=ba1) (c:=Qa.cells)) (ap h158 an)) ?_;obtain ⟨o215,h216,h⟩:=Qc h;cases o215 with
   | norm v217 v218 =>
    refine T.oneN (by kernel_rfl) (f8n2_ok ba1 bl2 bn3 bo4 v154 v155 bp5 v156 h216) (st2:=(f8n2E ba1 bl2 bn3 bo4 v154 v155 bp5 v156 (.norm v217 v218)).2) rfl ?_;exact rE Qg [j3] [] [] [0,1] [0,3,5,7,8,9,11,12,13] (.norm,(f8n4S ba1 bl2 bn3 bo4 bp5 v217 (wr64 (v155+1)) v218)) an (Qn.norm ⟨v217,(wr64 (v155+1)),v218,rfl,h⟩)
  ·obtain rfl:=Qf h;exact rK Qg 1 [([],[],[(2,.val (jI (ba1.length:Int)))])] [some false] [] [0,1] [3,5,7,8,9,11,12] (.exit 0) ((f8n4E ba1 bl2 bn3 bo4 bp5 (.exit0 v154 v156)).2) (ap (Qu (xs:=ba1) (c:=Qa.cells)) (ap h158 an)) (Qn.out rfl rfl)
inductive f8n1O where
 | norm (v225:Int) (v226:List Qa)
def f8n1E(ba1:List Qa)(bl2:Bool)(bn3:(List Qd)×Int)(bo4:Int×Int)(bp5:Qb):f8n1O→Ex×Tr×Hp
 | .norm v225 v226=>(.norm,mkS [(3,(.bp 0 0)),(5,(jB bl2)),(7,(jL 3 Qd.cells bn3.1)),(8,(jI bn3.2)),(9,(jI bo4.1)),(11,(jI v225)),(12,(.own 1))],[some (.box 43 ((Qb.cells bp5).map .pl)),jR 4 Qa.cells v226])
def f8n1S(ba1:List Qa)(bl2:Bool)(bn3:(List Qd)×Int)(bo4:Int×Int)(bp5:Qb):Tr×Hp:=(mkS [(0,(jL 4 Qa.cells ba1)),(3,(.bp 0 0)),(5,(jB bl2)),(7,(jL 3 Qd.cells bn3.1)),(8,(jI bn3.2)),(9,(jI bo4.1)),(11,(jI 0)),(12,(.pl (.sl .nil 0 [])))],[some (.box 43 ((Qb.cells bp5).map .pl))])
noncomputable def f8n1(ba1:List Qa)(bl2:Bool)(bn3:(List Qd)×Int)(bo4:Int×Int)(bp5:Qb):Option f8n1O :=
 (f8n4 FUEL ba1 bl2 bn3 bo4 bp5 0 0 []).bind fun o221=>match o221 with
 | .exit0 v223 v224=>some (.norm v223 v224)
theorem f8n1_ok(ba1:List Qa)(bl2:Bool)(bn3:(List Qd)×Int)(bo4:Int×Int)(bp5:Qb){o:f8n1O}(h:f8n1 ba1 bl2 bn3 bo4 bp5=some o):T Try.prog Try.f8.ntmps 0 (cL (Qh 4 (Qh 5 c8))) (f8n1S ba1 bl2 bn3 bo4 bp5) (·=f8n1E ba1 bl2 bn3 bo4 bp5 o):=by
 unfold f8n1 at h;refine rN Qg 1 [j3] [] [.mat 12 4] [0,1] [0,3,5,7,8,9,11,12,13] (f8n4S ba1 bl2 bn3 bo4 bp5 0 0 []) an ?_;obtain ⟨o221,h222,h⟩:=Qc h;cases o221 with
 | exit0 v223 v224 =>
  obtain rfl:=Qf h;exact T.last' (T.bl (i:=0) (by kernel_rfl) (by kernel_rfl) (f8n4_ok FUEL ba1 bl2 bn3 bo4 bp5 0 0 [] h222)) (tds:=[]) (m:=[0,1]) (keep:=[3,5,7,8,9,11,12]) (st2:=(f8n1E ba1 bl2 bn3 bo4 bp5 (.norm v223 v224)).2) (by kernel_rfl) an rfl
inductive f8n6O where
 | norm (v244:Bool)
def f8n6E(bl1:Bool)(bn2:(List Qd)×Int)(bo3:Int×Int)(bg4:Int)(bp5:Qb)(ba6:List Qa):f8n6O→Ex×Tr×Hp
 | .norm v244=>(.norm,mkS [(3,(.bp 0 0)),(5,(jB bl1)),(7,(jL 3 Qd.cells bn2.1)),(8,(jI bn2.2)),(12,(.own 1)),(115,(jB v244))],[some (.box 43 ((Qb.cells bp5).map .pl)),jR 4 Qa.cells ba6])
def f8n6S(bl1:Bool)(bn2:(List Qd)×Int)(bo3:Int×Int)(bg4:Int)(bp5:Qb)(ba6:List Qa):Tr×Hp:=(mkS [(3,(.bp 0 0)),(5,(jB bl1)),(7,(jL 3 Qd.cells bn2.1)),(8,(jI bn2.2)),(9,(jI bo3.1)),(11,(jI bg4)),(12,(.own 1))],[some (.box 43 ((Qb.cells bp5).map .pl)),jR 4 Qa.cells ba6])
noncomputable def f8n6(bl1:Bool)(bn2:(List Qd)×Int)(bo3:Int×Int)(bg4:Int)(bp5:Qb)(ba6:List Qa):Option f8n6O :=
 bif decide (bo3.1=(mnI bg4 bp5.Need)) then
  bif ((decide (bn2.2=0)) == (decide (bp5.Need≤bg4))) then
   bif decide (bn2.2=0) then
    some (.norm false)
   else
    some (.norm (!(decide (bn2.2=50))))
  else
   some (.norm true)
 else
  some (.norm true)
theorem f8n6_ok(bl1:Bool)(bn2:(List Qd)×Int)(bo3:Int×Int)(bg4:Int)(bp5:Qb)(ba6:List Qa){o:f8n6O}(h:f8n6 bl1 bn2 bo3 bg4 bp5 ba6=some o):T Try.prog Try.f8.ntmps 0 (cL (Qh 0 (cL (Qh 0 (Qh 1 (Qh 4 (Qh 5 c8))))))) (f8n6S bl1 bn2 bo3 bg4 bp5 ba6) (·=f8n6E bl1 bn2 bo3 bg4 bp5 ba6 o):=by
 unfold f8n6 at h;rcases Qi h with ⟨h241,h⟩|⟨h241,h⟩
 ·rcases Qi h with ⟨h242,h⟩|⟨h242,h⟩
  ·rcases Qi h with ⟨h243,h⟩|⟨h243,h⟩
   ·obtain rfl:=Qf h;exact rE Qg [(jF [7,8,9,10,11,12,13,16,17,18,19,20,21],[(14,.bool false),(21,.bool false),(22,.bool false)],[])] [] [] [0,1] [3,5,7,8,12,115] (.norm,(f8n6E bl1 bn2 bo3 bg4 bp5 ba6 (.norm false)).2) (ap4 (Qab h241) (ap4 (Qab h241) (ap3 (Qab h242) (ap2 (Qab h243) (ap (Qab h242) (ap (Qab h243) (ap (Qab h242) an))))))) rfl
   ·obtain rfl:=Qf h;exact rE Qg [(jF [7,8,9,10,11,12,13,16,17,18,21]++jT [19,20],[(14,.bool false),(21,.bool true),(22,.bool false)],[])] [] [] [0,1] [3,5,7,8,12,115] (.norm,(f8n6E bl1 bn2 bo3 bg4 bp5 ba6 (.norm (!(decide (bn2.2=50))))).2) (ap4 (Qab h241) (ap4 (Qab h241) (ap3 (Qab h242) (ap2 (Qak h243) (ap (Qab h242) (ap (Qak h243) (ap (Qab h242) an))))))) rfl
  ·obtain rfl:=Qf h;exact rE Qg [(jF [7,8,9,10,11,12,13]++jT [16,17,18,21],[(14,.bool false),(22,.bool true)],[])] [] [] [0,1] [3,5,7,8,12,115] (.norm,(f8n6E bl1 bn2 bo3 bg4 bp5 ba6 (.norm true)).2) (ap4 (Qab h241) (ap4 (Qab h241) (ap (Qak h242) (ap4 (Qak h242) an)))) rfl
 ·obtain rfl:=Qf h;exact rE Qg [(jT [7,8,9,10,11,12,13],[(14,.bool true)],[])] [] [] [0,1] [3,5,7,8,12,115] (.norm,(f8n6E bl1 bn2 bo3 bg4 bp5 ba6 (.norm true)).2) (ap4 (Qak h241) (ap4 (Qak h241) an)) rfl
inductive f8n5O where
 | norm
 | ret
def f8n5E(bl1:Bool)(bn2:(List Qd)×Int)(bo3:Int×Int)(bg4:Int)(bp5:Qb)(ba6:List Qa):f8n5O→Ex×Tr×Hp
 | .norm=>(.norm,mkS [(3,(.bp 0 0)),(5,(jB bl1)),(7,(jL 3 Qd.cells bn2.1)),(8,(jI bn2.2)),(12,(.own 1))],[some (.box 43 ((Qb.cells bp5).map .pl)),jR 4 Qa.cells ba6])
 | .ret=>(.ret,mkS [(4,(jB false))],[])
def f8n5S(bl1:Bool)(bn2:(List Qd)×Int)(bo3:Int×Int)(bg4:Int)(bp5:Qb)(ba6:List Qa):Tr×Hp:=(mkS [(3,(.bp 0 0)),(5,(jB bl1)),(7,(jL 3 Qd.cells bn2.1)),(8,(jI bn2.2)),(9,(jI bo3.1)),(11,(jI bg4)),(12,(.own 1))],[some (.box 43 ((Qb.cells bp5).map .pl)),jR 4 Qa.cells ba6])
noncomputable def f8n5(bl1:Bool)(bn2:(List Qd)×Int)(bo3:Int×Int)(bg4:Int)(bp5:Qb)(ba6:List Qa):Option f8n5O :=
 (f8n6 bl1 bn2 bo3 bg4 bp5 ba6).bind fun o245=>match o245 with
 | .norm v247=>bif v247 then
   some .ret
  else
   some .norm
theorem f8n5_ok(bl1:Bool)(bn2:(List Qd)×Int)(bo3:Int×Int)(bg4:Int)(bp5:Qb)(ba6:List Qa){o:f8n5O}(h:f8n5 bl1 bn2 bo3 bg4 bp5 ba6=some o):T Try.prog Try.f8.ntmps 0 (cL (Qh 0 (Qh 1 (Qh 4 (Qh 5 c8))))) (f8n5S bl1 bn2 bo3 bg4 bp5 ba6) (·=f8n5E bl1 bn2 bo3 bg4 bp5 ba6 o):=by
 unfold f8n5 at h;refine rN Qg 0 [] [] [] [0,1] [3,5,7,8,9,11,12] (f8n6S bl1 bn2 bo3 bg4 bp5 ba6) an ?_;obtain ⟨o245,h246,h⟩:=Qc h;cases o245 with
 | norm v247 =>
  refine T.oneN (by kernel_rfl) (f8n6_ok bl1 bn2 bo3 bg4 bp5 ba6 h246) (st2:=(f8n6E bl1 bn2 bo3 bg4 bp5 ba6 (.norm v247)).2) rfl ?_;rcases Qi h with ⟨h249,h⟩|⟨h249,h⟩
  ·obtain rfl:=Qf h;exact rE Qg [j3] [some true] [] [] [4] (.ret,(f8n5E bl1 bn2 bo3 bg4 bp5 ba6 .ret).2) (ap h249 an) rfl
  ·obtain rfl:=Qf h;exact rE Qg [] [some false] [] [0,1] [3,5,7,8,12] (.norm,(f8n5E bl1 bn2 bo3 bg4 bp5 ba6 .norm).2) (ap h249 an) rfl
inductive f8n10O where
 | exit6 (v540:Int)
def f8n10E(bl1:Bool)(bn2:(List Qd)×Int)(bg3:Int)(bp4:Qb)(ba5:List Qa):f8n10O→Ex×Tr×Hp
 | .exit6 v540=>((.exit 6),mkS [(3,(.bp 0 0)),(5,(jB bl1)),(7,(jL 3 Qd.cells bn2.1)),(12,(.own 1)),(15,(jI bg3)),(16,(jI v540)),(17,(jI 0))],[some (.box 43 ((Qb.cells bp4).map .pl)),jR 4 Qa.cells ba5])
def f8n10S(bl1:Bool)(bn2:(List Qd)×Int)(bg3:Int)(bp4:Qb)(ba5:List Qa)(v522 v523:Int):Tr×Hp:=(mkS [(3,(.bp 0 0)),(5,(jB bl1)),(7,(jL 3 Qd.cells bn2.1)),(12,(.own 1)),(15,(jI bg3)),(16,(jI v522)),(17,(jI 0)),(18,(jI v523))],[some (.box 43 ((Qb.cells bp4).map .pl)),jR 4 Qa.cells ba5])
noncomputable def f8n10:Nat→Bool→(List Qd)×Int→Int→Qb→List Qa→Int→Int→Option f8n10O
 | 0,_,_,_,_,_,_,_=>none
 | f+1,bl1,bn2,bg3,bp4,ba5,v522,v523 =>
  bif decide (v523<(ba5.length:Int)) then
   (at? ba5 v523).bind fun x533 =>
   (at? ba5 bg3).bind fun x535 =>
   bif decide (x533.Cost<x535.Cost) then
    (f8n10 f bl1 bn2 bg3 bp4 ba5 (wr64 (v522+x533.Amount)) (wr64 (v523+1)))
   else
    bif decide (x533.Cost=x535.Cost) then
     bif decide (v523<bg3) then
      (f8n10 f bl1 bn2 bg3 bp4 ba5 (wr64 (v522+x533.Amount)) (wr64 (v523+1)))
     else
      (f8n10 f bl1 bn2 bg3 bp4 ba5 v522 (wr64 (v523+1)))
    else
     (f8n10 f bl1 bn2 bg3 bp4 ba5 v522 (wr64 (v523+1)))
  else
   some (.exit6 v522)
theorem f8n10_ok:∀(f:Nat)(bl1:Bool)(bn2:(List Qd)×Int)(bg3:Int)(bp4:Qb)(ba5:List Qa)(v522 v523:Int){o:f8n10O},f8n10 f bl1 bn2 bg3 bp4 ba5 v522 v523=some o→TL Try.prog Try.f8.ntmps 0 f (cL (cL (Qh 1 (cL (Qh 1 (cL (cL (Qh 1 (cL (cL (Qh 1 (cL (Qh 1 (Qh 1 (Qh 0 (Qh 1 (Qh 4 (Qh 5 c8)))))))))))))))))) (f8n10S bl1 bn2 bg3 bp4 ba5 v522 v523) (·=f8n10E bl1 bn2 bg3 bp4 ba5 o)
 | 0,_,_,_,_,_,_,_,o,h=>by rw [f8n10] at h; cases h
 | f+1,bl1,bn2,bg3,bp4,ba5,v522,v523,o,h=>by
  rw [f8n10] at h;refine TL.body (K:=fun s=>∃v522:Int,∃v523:Int,s=(f8n10S bl1 bn2 bg3 bp4 ba5 v522 v523)∧f8n10 f bl1 bn2 bg3 bp4 ba5 v522 v523=some o) ?_ (by rintro _ ⟨v522,v523,rfl,hk⟩; exact f8n10_ok f _ _ _ _ _ _ _ hk);rcases Qi h with ⟨h525,h⟩|⟨h525,h⟩
  ·obtain ⟨x533,h534,h⟩:=Qc h;obtain ⟨x535,h536,h⟩:=Qc h;rcases Qi h with ⟨h537,h⟩|⟨h537,h⟩
   ·exact rE Qg [([],[],[(2,.val (jI (ba5.length:Int)))]),(jT [12,13,14,15,16,17,18,19,20,21,22,23,27],[(2,.at_ (Int.toNat v523)),(4,.idx 0 (Qa.cells x533)),(7,.at_ (Int.toNat bg3)),(9,.idx 0 (Qa.cells x535)),(28,.bool true)],[]),([],[(3,.at_ (Int.toNat v523)),(5,.idx 0 (Qa.cells x533))],[]),j3] [some true,none] [] [0,1] [3,5,7,12,15,16,17,18] (.norm,(f8n10S bl1 bn2 bg3 bp4 ba5 (wr64 (v522+x533.Amount)) (wr64 (v523+1)))) (ap (Qu (xs:=ba5) (c:=Qa.cells)) (ap h525 (ap (Qe h534).1 (ap (Qp Qa.cells (Qe h534).2) (ap (Ql Qa.cells (Qe h534).2) (ap (Qe h536).1 (ap (Qp Qa.cells (Qe h536).2) (ap (Ql Qa.cells (Qe h536).2) (ap2 h537 (ap4 h537 (ap4 h537 (ap4 h537 (ap (Qe h534).1 (ap (Qp Qa.cells (Qe h534).2) (ap (Ql Qa.cells (Qe h534).2) an))))))))))))))) (Qn.norm ⟨(wr64 (v522+x533.Amount)),(wr64 (v523+1)),rfl,h⟩)
   ·rcases Qi h with ⟨h538,h⟩|⟨h538,h⟩
    ·rcases Qi h with ⟨h539,h⟩|⟨h539,h⟩
     ·exact rE Qg [([],[],[(2,.val (jI (ba5.length:Int)))]),(jF [12,13,14,15,16,17,18,19,20,21,22,23,27]++jT [24,25,26],[(2,.at_ (Int.toNat v523)),(4,.idx 0 (Qa.cells x533)),(7,.at_ (Int.toNat bg3)),(9,.idx 0 (Qa.cells x535)),(14,.at_ (Int.toNat v523)),(16,.idx 0 (Qa.cells x533)),(19,.at_ (Int.toNat bg3)),(21,.idx 0 (Qa.cells x535)),(27,.bool true),(28,.bool false)],[]),([],[(3,.at_ (Int.toNat v523)),(5,.idx 0 (Qa.cells x533))],[]),j3] [some true,some true] [] [0,1] [3,5,7,12,15,16,17,18] (.norm,(f8n10S bl1 bn2 bg3 bp4 ba5 (wr64 (v522+x533.Amount)) (wr64 (v523+1)))) (ap (Qu (xs:=ba5) (c:=Qa.cells)) (ap h525 (ap (Qe h534).1 (ap (Qp Qa.cells (Qe h534).2) (ap (Ql Qa.cells (Qe h534).2) (ap (Qe h536).1 (ap (Qp Qa.cells (Qe h536).2) (ap (Ql Qa.cells (Qe h536).2) (ap3 h537 (ap (Qe h534).1 (ap (Qp Qa.cells (Qe h534).2) (ap2 h537 (ap (Ql Qa.cells (Qe h534).2) (ap3 h537 (ap (Qe h536).1 (ap (Qp Qa.cells (Qe h536).2) (ap2 h537 (ap (Ql Qa.cells (Qe h536).2) (ap2 h537 (ap3 h538 (ap h537 (ap h538 (ap h537 (ap h539 (ap (Qe h534).1 (ap (Qp Qa.cells (Qe h534).2) (ap (Ql Qa.cells (Qe h534).2) an))))))))))))))))))))))))))) (Qn.norm ⟨(wr64 (v522+x533.Amount)),(wr64 (v523+1)),rfl,h⟩)
     ·exact rE Qg [([],[],[(2,.val (jI (ba5.length:Int)))]),(jF [12,13,14,15,16,17,18,19,20,21,22,23,27]++jT [24,25,26],[(2,.at_ (Int.toNat v523)),(4,.idx 0 (Qa.cells x533)),(7,.at_ (Int.toNat bg3)),(9,.idx 0 (Qa.cells x535)),(14,.at_ (Int.toNat v523)),(16,.idx 0 (Qa.cells x533)),(19,.at_ (Int.toNat bg3)),(21,.idx 0 (Qa.cells x535)),(27,.bool true),(28,.bool false)],[]),j3] [some true,some false] [] [0,1] [3,5,7,12,15,16,17,18] (.norm,(f8n10S bl1 bn2 bg3 bp4 ba5 v522 (wr64 (v523+1)))) (ap (Qu (xs:=ba5) (c:=Qa.cells)) (ap h525 (ap (Qe h534).1 (ap (Qp Qa.cells (Qe h534).2) (ap (Ql Qa.cells (Qe h534).2) (ap (Qe h536).1 (ap (Qp Qa.cells (Qe h536).2) (ap (Ql Qa.cells (Qe h536).2) (ap3 h537 (ap (Qe h534).1 (ap (Qp Qa.cells (Qe h534).2) (ap2 h537 (ap (Ql Qa.cells (Qe h534).2) (ap3 h537 (ap (Qe h536).1 (ap (Qp Qa.cells (Qe h536).2) (ap2 h537 (ap (Ql Qa.cells (Qe h536).2) (ap2 h537 (ap3 h538 (ap h537 (ap h538 (ap h537 (ap h539 an)))))))))))))))))))))))) (Qn.norm ⟨v522,(wr64 (v523+1)),rfl,h⟩)
    ·exact rE Qg [([],[],[(2,.val (jI (ba5.length:Int)))]),(jF [12,13,14,15,16,17,18,19,20,21,22,23,24,25,26,27],[(2,.at_ (Int.toNat v523)),(4,.idx 0 (Qa.cells x533)),(7,.at_ (Int.toNat bg3)),(9,.idx 0 (Qa.cells x535)),(14,.at_ (Int.toNat v523)),(16,.idx 0 (Qa.cells x533)),(19,.at_ (Int.toNat bg3)),(21,.idx 0 (Qa.cells x535)),(27,.bool false),(28,.bool false)],[]),j3] [some true,none] [] [0,1] [3,5,7,12,15,16,17,18] (.norm,(f8n10S bl1 bn2 bg3 bp4 ba5 v522 (wr64 (v523+1)))) (ap (Qu (xs:=ba5) (c:=Qa.cells)) (ap h525 (ap (Qe h534).1 (ap (Qp Qa.cells (Qe h534).2) (ap (Ql Qa.cells (Qe h534).2) (ap (Qe h536).1 (ap (Qp Qa.cells (Qe h536).2) (ap (Ql Qa.cells (Qe h536).2) (ap3 h537 (ap (Qe h534).1 (ap (Qp Qa.cells (Qe h534).2) (ap2 h537 (ap (Ql Qa.cells (Qe h534).2) (ap3 h537 (ap (Qe h536).1 (ap (Qp Qa.cells (Qe h536).2) (ap2 h537 (ap (Ql Qa.cells (Qe h536).2) (ap2 h537 (ap3 h538 (ap h537 (ap h538 (ap h537 an))))))))))))))))))))))) (Qn.norm ⟨v522,(wr64 (v523+1)),rfl,h⟩)
  ·obtain rfl:=Qf h;exact rK Qg 1 [([],[],[(2,.val (jI (ba5.length:Int)))])] [some false] [] [0,1] [3,5,7,12,15,16,17] (.exit 6) ((f8n10E bl1 bn2 bg3 bp4 ba5 (.exit6 v522)).2) (ap (Qu (xs:=ba5) (c:=Qa.cells)) (ap h525 an)) (Qn.out rfl rfl)
noncomputable def f8n10L(bl1:Bool)(bn2:(List Qd)×Int)(bg3:Int)(bp4:Qb)(ba5:List Qa):List Qa→Int→Int→Option f8n10O
 | [],v522,v523 =>
  some (.exit6 v522)
 | x0::rest,v522,v523 =>
  (at? ba5 bg3).bind fun x535 =>
  bif decide (x0.Cost<x535.Cost) then
   (f8n10L bl1 bn2 bg3 bp4 ba5 rest (wr64 (v522+x0.Amount)) (v523+1))
  else
   bif decide (x0.Cost=x535.Cost) then
    bif decide (v523<bg3) then
     (f8n10L bl1 bn2 bg3 bp4 ba5 rest (wr64 (v522+x0.Amount)) (v523+1))
    else
     (f8n10L bl1 bn2 bg3 bp4 ba5 rest v522 (v523+1))
   else
    (f8n10L bl1 bn2 bg3 bp4 ba5 rest v522 (v523+1))
theorem f8n10L_eq(bl1:Bool)(bn2:(List Qd)×Int)(bg3:Int)(bp4:Qb)(ba5:List Qa):∀(rest:List Qa)(f k:Nat)(v522:Int),ba5.drop k=rest→ba5.length≤maxLen→rest.length<f→f8n10 f bl1 bn2 bg3 bp4 ba5 v522 (k:Int)=f8n10L bl1 bn2 bg3 bp4 ba5 rest v522 (k:Int)
 | _,0,_,_,_,_,hf=>absurd hf (Nat.not_lt_zero _)
 | [],f+1,k,v522,hd,hm,hf=>by
  have hk:¬((k:Int)<(ba5.length:Int)):=by have:=Qbj hd; omega
  rw [f8n10,f8n10L];simp only [decide_eq_false hk,cond_false]
 | x0::rest,f+1,k,v522,hd,hm,hf=>by
  obtain ⟨hx,hlt,hd'⟩:=Qbk hd;have hk:(k:Int)<(ba5.length:Int):=by omega
  have hw:wr64 ((k:Int)+1)=(k:Int)+1:=wr64_of (by omega) (by unfold maxLen at hm; omega);have ih:∀(v522:Int),f8n10 f bl1 bn2 bg3 bp4 ba5 v522 ((k:Int)+1)=f8n10L bl1 bn2 bg3 bp4 ba5 rest v522 ((k:Int)+1):=fun v522=>f8n10L_eq bl1 bn2 bg3 bp4 ba5 rest f (k+1) v522 hd' hm (by simpa using hf);rw [f8n10,f8n10L];simp only [decide_eq_true hk,cond_true,at_nat,hx,Option.bind_some,hw,ih]
theorem f8n10_run(bl1:Bool)(bn2:(List Qd)×Int)(bg3:Int)(bp4:Qb)(ba5:List Qa)(v522:Int)(hm:ba5.length≤maxLen):f8n10 FUEL bl1 bn2 bg3 bp4 ba5 v522 0=f8n10L bl1 bn2 bg3 bp4 ba5 ba5 v522 0:=f8n10L_eq bl1 bn2 bg3 bp4 ba5 ba5 FUEL 0 v522 List.drop_zero hm (lt_FUEL hm)
inductive f8n9O where
 | norm (v544:Int)
def f8n9E(bl1:Bool)(bn2:(List Qd)×Int)(bg3:Int)(bp4:Qb)(ba5:List Qa):f8n9O→Ex×Tr×Hp
 | .norm v544=>(.norm,mkS [(3,(.bp 0 0)),(5,(jB bl1)),(7,(jL 3 Qd.cells bn2.1)),(12,(.own 1)),(15,(jI bg3)),(16,(jI v544)),(17,(jI 0))],[some (.box 43 ((Qb.cells bp4).map .pl)),jR 4 Qa.cells ba5])
def f8n9S(bl1:Bool)(bn2:(List Qd)×Int)(bg3:Int)(bp4:Qb)(ba5:List Qa):Tr×Hp:=(mkS [(3,(.bp 0 0)),(5,(jB bl1)),(7,(jL 3 Qd.cells bn2.1)),(12,(.own 1)),(15,(jI bg3)),(16,(jI 0)),(17,(jI 0))],[some (.box 43 ((Qb.cells bp4).map .pl)),jR 4 Qa.cells ba5])
noncomputable def f8n9(bl1:Bool)(bn2:(List Qd)×Int)(bg3:Int)(bp4:Qb)(ba5:List Qa):Option f8n9O :=
 (f8n10 FUEL bl1 bn2 bg3 bp4 ba5 0 0).bind fun o541=>match o541 with
 | .exit6 v543=>some (.norm v543)
theorem f8n9_ok(bl1:Bool)(bn2:(List Qd)×Int)(bg3:Int)(bp4:Qb)(ba5:List Qa){o:f8n9O}(h:f8n9 bl1 bn2 bg3 bp4 ba5=some o):T Try.prog Try.f8.ntmps 0 (cL (Qh 1 (cL (cL (Qh 1 (cL (cL (Qh 1 (cL (Qh 1 (Qh 1 (Qh 0 (Qh 1 (Qh 4 (Qh 5 c8))))))))))))))) (f8n9S bl1 bn2 bg3 bp4 ba5) (·=f8n9E bl1 bn2 bg3 bp4 ba5 o):=by
 unfold f8n9 at h;refine rN Qg 1 [j3] [] [] [0,1] [3,5,7,12,15,16,17,18] (f8n10S bl1 bn2 bg3 bp4 ba5 0 0) an ?_;obtain ⟨o541,h542,h⟩:=Qc h;cases o541 with
 | exit6 v543 =>
  obtain rfl:=Qf h;exact T.last' (T.bl (i:=6) (by kernel_rfl) (by kernel_rfl) (f8n10_ok FUEL bl1 bn2 bg3 bp4 ba5 0 0 h542)) (tds:=[]) (m:=[0,1]) (keep:=[3,5,7,12,15,16,17]) (st2:=(f8n9E bl1 bn2 bg3 bp4 ba5 (.norm v543)).2) (by kernel_rfl) an rfl
inductive f8n12O where
 | exit8 (v588:Int)
def f8n12E(bl1:Bool)(bn2:(List Qd)×Int)(bg3 bg4:Int)(bp5:Qb)(ba6:List Qa):f8n12O→Ex×Tr×Hp
 | .exit8 v588=>((.exit 8),mkS [(3,(.bp 0 0)),(5,(jB bl1)),(7,(jL 3 Qd.cells bn2.1)),(12,(.own 1)),(15,(jI bg3)),(16,(jI bg4)),(17,(jI v588))],[some (.box 43 ((Qb.cells bp5).map .pl)),jR 4 Qa.cells ba6])
def f8n12S(bl1:Bool)(bn2:(List Qd)×Int)(bg3 bg4:Int)(bp5:Qb)(ba6:List Qa)(v574 v575:Int):Tr×Hp:=(mkS [(3,(.bp 0 0)),(5,(jB bl1)),(7,(jL 3 Qd.cells bn2.1)),(12,(.own 1)),(15,(jI bg3)),(16,(jI bg4)),(17,(jI v574)),(19,(jI v575))],[some (.box 43 ((Qb.cells bp5).map .pl)),jR 4 Qa.cells ba6])
noncomputable def f8n12:Nat→Bool→(List Qd)×Int→Int→Int→Qb→List Qa→Int→Int→Option f8n12O
 | 0,_,_,_,_,_,_,_,_=>none
 | f+1,bl1,bn2,bg3,bg4,bp5,ba6,v574,v575 =>
  bif decide (v575<(bn2.1.length:Int)) then
   (at? bn2.1 v575).bind fun x583 =>
   (at? ba6 bg3).bind fun x585 =>
   bif (seq x583.Asset x585.Name) then
    (f8n12 f bl1 bn2 bg3 bg4 bp5 ba6 (wr64 (v574+x583.Amount)) (wr64 (v575+1)))
   else
    (f8n12 f bl1 bn2 bg3 bg4 bp5 ba6 v574 (wr64 (v575+1)))
  else
   some (.exit8 v574)
theorem f8n12_ok:∀(f:Nat)(bl1:Bool)(bn2:(List Qd)×Int)(bg3 bg4:Int)(bp5:Qb)(ba6:List Qa)(v574 v575:Int){o:f8n12O},f8n12 f bl1 bn2 bg3 bg4 bp5 ba6 v574 v575=some o→TL Try.prog Try.f8.ntmps 0 f (cL (cL (Qh 1 (cL (Qh 0 (Qh 1 (Qh 1 (cL (cL (Qh 1 (cL (cL (Qh 1 (cL (Qh 1 (Qh 1 (Qh 0 (Qh 1 (Qh 4 (Qh 5 c8)))))))))))))))))))) (f8n12S bl1 bn2 bg3 bg4 bp5 ba6 v574 v575) (·=f8n12E bl1 bn2 bg3 bg4 bp5 ba6 o)
 | 0,_,_,_,_,_,_,_,_,o,h=>by rw [f8n12] at h; cases h
 | f+1,bl1,bn2,bg3,bg4,bp5,ba6,v574,v575,o,h=>by
  rw [f8n12] at h;refine TL.body (K:=fun s=>∃v574:Int,∃v575:Int,s=(f8n12S bl1 bn2 bg3 bg4 bp5 ba6 v574 v575)∧f8n12 f bl1 bn2 bg3 bg4 bp5 ba6 v574 v575=some o) ?_ (by rintro _ ⟨v574,v575,rfl,hk⟩; exact f8n12_ok f _ _ _ _ _ _ _ _ hk);rcases Qi h with ⟨h577,h⟩|⟨h577,h⟩
  ·obtain ⟨x583,h584,h⟩:=Qc h;obtain ⟨x585,h586,h⟩:=Qc h;rcases Qi h with ⟨h587,h⟩|⟨h587,h⟩
   ·exact rE Qg [([],[],[(2,.val (jI (bn2.1.length:Int)))]),([],[(2,.idx (Int.toNat v575) (Qd.cells x583)),(7,.at_ (Int.toNat bg3)),(9,.idx 0 (Qa.cells x585))],[]),([],[(3,.idx (Int.toNat v575) (Qd.cells x583))],[]),j3] [some true,some true] [] [0,1] [3,5,7,12,15,16,17,19] (.norm,(f8n12S bl1 bn2 bg3 bg4 bp5 ba6 (wr64 (v574+x583.Amount)) (wr64 (v575+1)))) (ap (Qu (xs:=bn2.1) (c:=Qd.cells)) (ap h577 (ap (Qe h584).1 (ap (Ql Qd.cells (Qe h584).2) (ap (Qe h586).1 (ap (Qp Qa.cells (Qe h586).2) (ap (Ql Qa.cells (Qe h586).2) (ap h587 (ap (Qe h584).1 (ap (Ql Qd.cells (Qe h584).2) an)))))))))) (Qn.norm ⟨(wr64 (v574+x583.Amount)),(wr64 (v575+1)),rfl,h⟩)
   ·exact rE Qg [([],[],[(2,.val (jI (bn2.1.length:Int)))]),([],[(2,.idx (Int.toNat v575) (Qd.cells x583)),(7,.at_ (Int.toNat bg3)),(9,.idx 0 (Qa.cells x585))],[]),j3] [some true,some false] [] [0,1] [3,5,7,12,15,16,17,19] (.norm,(f8n12S bl1 bn2 bg3 bg4 bp5 ba6 v574 (wr64 (v575+1)))) (ap (Qu (xs:=bn2.1) (c:=Qd.cells)) (ap h577 (ap (Qe h584).1 (ap (Ql Qd.cells (Qe h584).2) (ap (Qe h586).1 (ap (Qp Qa.cells (Qe h586).2) (ap (Ql Qa.cells (Qe h586).2) (ap h587 an)))))))) (Qn.norm ⟨v574,(wr64 (v575+1)),rfl,h⟩)
  ·obtain rfl:=Qf h;exact rK Qg 1 [([],[],[(2,.val (jI (bn2.1.length:Int)))])] [some false] [] [0,1] [3,5,7,12,15,16,17] (.exit 8) ((f8n12E bl1 bn2 bg3 bg4 bp5 ba6 (.exit8 v574)).2) (ap (Qu (xs:=bn2.1) (c:=Qd.cells)) (ap h577 an)) (Qn.out rfl rfl)
noncomputable def f8n12L(bl1:Bool)(bn2:(List Qd)×Int)(bg3 bg4:Int)(bp5:Qb)(ba6:List Qa):List Qd→Int→Int→Option f8n12O
 | [],v574,v575 =>
  some (.exit8 v574)
 | x0::rest,v574,v575 =>
  (at? ba6 bg3).bind fun x585 =>
  bif (seq x0.Asset x585.Name) then
   (f8n12L bl1 bn2 bg3 bg4 bp5 ba6 rest (wr64 (v574+x0.Amount)) (v575+1))
  else
   (f8n12L bl1 bn2 bg3 bg4 bp5 ba6 rest v574 (v575+1))
theorem f8n12L_eq(bl1:Bool)(bn2:(List Qd)×Int)(bg3 bg4:Int)(bp5:Qb)(ba6:List Qa):∀(rest:List Qd)(f k:Nat)(v574:Int),bn2.1.drop k=rest→bn2.1.length≤maxLen→rest.length<f→f8n12 f bl1 bn2 bg3 bg4 bp5 ba6 v574 (k:Int)=f8n12L bl1 bn2 bg3 bg4 bp5 ba6 rest v574 (k:Int)
 | _,0,_,_,_,_,hf=>absurd hf (Nat.not_lt_zero _)
 | [],f+1,k,v574,hd,hm,hf=>by
  have hk:¬((k:Int)<(bn2.1.length:Int)):=by have:=Qbj hd; omega
  rw [f8n12,f8n12L];simp only [decide_eq_false hk,cond_false]
 | x0::rest,f+1,k,v574,hd,hm,hf=>by
  obtain ⟨hx,hlt,hd'⟩:=Qbk hd;have hk:(k:Int)<(bn2.1.length:Int):=by omega
  have hw:wr64 ((k:Int)+1)=(k:Int)+1:=wr64_of (by omega) (by unfold maxLen at hm; omega);have ih:∀(v574:Int),f8n12 f bl1 bn2 bg3 bg4 bp5 ba6 v574 ((k:Int)+1)=f8n12L bl1 bn2 bg3 bg4 bp5 ba6 rest v574 ((k:Int)+1):=fun v574=>f8n12L_eq bl1 bn2 bg3 bg4 bp5 ba6 rest f (k+1) v574 hd' hm (by simpa using hf);rw [f8n12,f8n12L];simp only [decide_eq_true hk,cond_true,at_nat,hx,Option.bind_some,hw,ih]
theorem f8n12_run(bl1:Bool)(bn2:(List Qd)×Int)(bg3 bg4:Int)(bp5:Qb)(ba6:List Qa)(v574:Int)(hm:bn2.1.length≤maxLen):f8n12 FUEL bl1 bn2 bg3 bg4 bp5 ba6 v574 0=f8n12L bl1 bn2 bg3 bg4 bp5 ba6 bn2.1 v574 0:=f8n12L_eq bl1 bn2 bg3 bg4 bp5 ba6 bn2.1 FUEL 0 v574 List.drop_zero hm (lt_FUEL hm)
inductive f8n11O where
 | norm (v592:Int)
def f8n11E(bl1:Bool)(bn2:(List Qd)×Int)(bg3 bg4:Int)(bp5:Qb)(ba6:List Qa):f8n11O→Ex×Tr×Hp
 | .norm v592=>(.norm,mkS [(3,(.bp 0 0)),(5,(jB bl1)),(7,(jL 3 Qd.cells bn2.1)),(12,(.own 1)),(15,(jI bg3)),(16,(jI bg4)),(17,(jI v592))],[some (.box 43 ((Qb.cells bp5).map .pl)),jR 4 Qa.cells ba6])
def f8n11S(bl1:Bool)(bn2:(List Qd)×Int)(bg3 bg4:Int)(bp5:Qb)(ba6:List Qa):Tr×Hp:=(mkS [(3,(.bp 0 0)),(5,(jB bl1)),(7,(jL 3 Qd.cells bn2.1)),(12,(.own 1)),(15,(jI bg3)),(16,(jI bg4)),(17,(jI 0))],[some (.box 43 ((Qb.cells bp5).map .pl)),jR 4 Qa.cells ba6])
noncomputable def f8n11(bl1:Bool)(bn2:(List Qd)×Int)(bg3 bg4:Int)(bp5:Qb)(ba6:List Qa):Option f8n11O :=
 (f8n12 FUEL bl1 bn2 bg3 bg4 bp5 ba6 0 0).bind fun o589=>match o589 with
 | .exit8 v591=>some (.norm v591)
theorem f8n11_ok(bl1:Bool)(bn2:(List Qd)×Int)(bg3 bg4:Int)(bp5:Qb)(ba6:List Qa){o:f8n11O}(h:f8n11 bl1 bn2 bg3 bg4 bp5 ba6=some o):T Try.prog Try.f8.ntmps 0 (cL (Qh 0 (Qh 1 (Qh 1 (cL (cL (Qh 1 (cL (cL (Qh 1 (cL (Qh 1 (Qh 1 (Qh 0 (Qh 1 (Qh 4 (Qh 5 c8))))))))))))))))) (f8n11S bl1 bn2 bg3 bg4 bp5 ba6) (·=f8n11E bl1 bn2 bg3 bg4 bp5 ba6 o):=by
 unfold f8n11 at h;refine rN Qg 1 [j3] [] [] [0,1] [3,5,7,12,15,16,17,19] (f8n12S bl1 bn2 bg3 bg4 bp5 ba6 0 0) an ?_;obtain ⟨o589,h590,h⟩:=Qc h;cases o589 with
 | exit8 v591 =>
  obtain rfl:=Qf h;exact T.last' (T.bl (i:=8) (by kernel_rfl) (by kernel_rfl) (f8n12_ok FUEL bl1 bn2 bg3 bg4 bp5 ba6 0 0 h590)) (tds:=[]) (m:=[0,1]) (keep:=[3,5,7,12,15,16,17]) (st2:=(f8n11E bl1 bn2 bg3 bg4 bp5 ba6 (.norm v591)).2) (by kernel_rfl) an rfl
inductive f8n8O where
 | norm
 | ret
def f8n8E(bl1:Bool)(bn2:(List Qd)×Int)(bg3:Int)(bp4:Qb)(ba5:List Qa):f8n8O→Ex×Tr×Hp
 | .norm=>(.norm,mkS [(3,(.bp 0 0)),(5,(jB bl1)),(7,(jL 3 Qd.cells bn2.1)),(12,(.own 1)),(15,(jI bg3))],[some (.box 43 ((Qb.cells bp4).map .pl)),jR 4 Qa.cells ba5])
 | .ret=>(.ret,mkS [(4,(jB false))],[])
def f8n8S(bl1:Bool)(bn2:(List Qd)×Int)(bg3:Int)(bp4:Qb)(ba5:List Qa):Tr×Hp:=(mkS [(3,(.bp 0 0)),(5,(jB bl1)),(7,(jL 3 Qd.cells bn2.1)),(12,(.own 1)),(15,(jI bg3))],[some (.box 43 ((Qb.cells bp4).map .pl)),jR 4 Qa.cells ba5])
noncomputable def f8n8(bl1:Bool)(bn2:(List Qd)×Int)(bg3:Int)(bp4:Qb)(ba5:List Qa):Option f8n8O :=
 (f8n9 bl1 bn2 bg3 bp4 ba5).bind fun o545=>match o545 with
 | .norm v547=>(f8n11 bl1 bn2 bg3 v547 bp4 ba5).bind fun o593=>match o593 with
  | .norm v595=>(at? ba5 bg3).bind fun x598 =>
   bif (decide (v595=(mxI 0 (mnI x598.Amount (wr64 (bp4.Need-v547)))))) then
    some .norm
   else
    some .ret
theorem f8n8_ok(bl1:Bool)(bn2:(List Qd)×Int)(bg3:Int)(bp4:Qb)(ba5:List Qa){o:f8n8O}(h:f8n8 bl1 bn2 bg3 bp4 ba5=some o):T Try.prog Try.f8.ntmps 0 (cL (Qh 1 (cL (cL (Qh 1 (cL (Qh 1 (Qh 1 (Qh 0 (Qh 1 (Qh 4 (Qh 5 c8)))))))))))) (f8n8S bl1 bn2 bg3 bp4 ba5) (·=f8n8E bl1 bn2 bg3 bp4 ba5 o):=by
 unfold f8n8 at h;refine T.block' (i:=5) (by kernel_rfl) ?_;refine rN Qg 1 [j3] [] [] [0,1] [3,5,7,12,15,16,17] (f8n9S bl1 bn2 bg3 bp4 ba5) an ?_;obtain ⟨o545,h546,h⟩:=Qc h;cases o545 with
 | norm v547 =>
  refine T.oneN (by kernel_rfl) (f8n9_ok bl1 bn2 bg3 bp4 ba5 h546) (st2:=(f8n9E bl1 bn2 bg3 bp4 ba5 (.norm v547)).2) rfl ?_;refine rN Qg 0 [] [] [] [0,1] [3,5,7,12,15,16,17] (f8n11S bl1 bn2 bg3 v547 bp4 ba5) an ?_;obtain ⟨o593,h594,h⟩:=Qc h;cases o593 with
  | norm v595 =>
   refine T.oneN (by kernel_rfl) (f8n11_ok bl1 bn2 bg3 v547 bp4 ba5 h594) (st2:=(f8n11E bl1 bn2 bg3 v547 bp4 ba5 (.norm v595)).2) rfl ?_;obtain ⟨x598,h599,h⟩:=Qc h;rcases Qi h with ⟨h601,h⟩|⟨h601,h⟩
   ·obtain rfl:=Qf h;exact rE Qg [([],[(3,.at_ (Int.toNat bg3)),(5,.idx 0 (Qa.cells x598))],[])] [some false] [] [0,1] [3,5,7,12,15] (.norm,(f8n8E bl1 bn2 bg3 bp4 ba5 .norm).2) (ap (Qe h599).1 (ap (Qp Qa.cells (Qe h599).2) (ap (Ql Qa.cells (Qe h599).2) (ap (Qab h601) an)))) rfl
   ·obtain rfl:=Qf h;exact rE Qg [([],[(3,.at_ (Int.toNat bg3)),(5,.idx 0 (Qa.cells x598))],[]),j3] [some true] [] [] [4] (.ret,(f8n8E bl1 bn2 bg3 bp4 ba5 .ret).2) (ap (Qe h599).1 (ap (Qp Qa.cells (Qe h599).2) (ap (Ql Qa.cells (Qe h599).2) (ap (Qak h601) an)))) rfl
inductive f8n13O where
 | exit4
 | ret
def f8n13E(bl1:Bool)(bn2:(List Qd)×Int)(bp3:Qb)(ba4:List Qa):f8n13O→Ex×Tr×Hp
 | .exit4=>((.exit 4),mkS [(5,(jB bl1))],[])
 | .ret=>(.ret,mkS [(4,(jB false))],[])
def f8n13S(bl1:Bool)(bn2:(List Qd)×Int)(bp3:Qb)(ba4:List Qa)(v485:Int):Tr×Hp:=(mkS [(3,(.bp 0 0)),(5,(jB bl1)),(7,(jL 3 Qd.cells bn2.1)),(12,(.own 1)),(15,(jI v485))],[some (.box 43 ((Qb.cells bp3).map .pl)),jR 4 Qa.cells ba4])
noncomputable def f8n13:Nat→Bool→(List Qd)×Int→Qb→List Qa→Int→Option f8n13O
 | 0,_,_,_,_,_=>none
 | f+1,bl1,bn2,bp3,ba4,v485 =>
  bif decide (v485<(ba4.length:Int)) then
   (f8n8 bl1 bn2 v485 bp3 ba4).bind fun o602=>match o602 with
   | .norm=>(f8n13 f bl1 bn2 bp3 ba4 (wr64 (v485+1)))
   | .ret=>some .ret
  else
   some .exit4
theorem f8n13_ok:∀(f:Nat)(bl1:Bool)(bn2:(List Qd)×Int)(bp3:Qb)(ba4:List Qa)(v485:Int){o:f8n13O},f8n13 f bl1 bn2 bp3 ba4 v485=some o→TL Try.prog Try.f8.ntmps 0 f (cL (cL (Qh 1 (cL (Qh 1 (Qh 1 (Qh 0 (Qh 1 (Qh 4 (Qh 5 c8)))))))))) (f8n13S bl1 bn2 bp3 ba4 v485) (·=f8n13E bl1 bn2 bp3 ba4 o)
 | 0,_,_,_,_,_,o,h=>by rw [f8n13] at h; cases h
 | f+1,bl1,bn2,bp3,ba4,v485,o,h=>by
  rw [f8n13] at h;refine TL.body (K:=fun s=>∃v485:Int,s=(f8n13S bl1 bn2 bp3 ba4 v485)∧f8n13 f bl1 bn2 bp3 ba4 v485=some o) ?_ (by rintro _ ⟨v485,rfl,hk⟩; exact f8n13_ok f _ _ _ _ _ hk);rcases Qi h with ⟨h487,h⟩|⟨h487,h⟩
  ·refine rN Qg 1 [([],[],[(2,.val (jI (ba4.length:Int)))])] [some true] [] [0,1] [3,5,7,12,15] (f8n8S bl1 bn2 v485 bp3 ba4) (ap (Qu (xs:=ba4) (c:=Qa.cells)) (ap h487 an)) ?_;obtain ⟨o602,h603,h⟩:=Qc h;cases o602 with
   | norm =>
    refine T.oneN (by kernel_rfl) (f8n8_ok bl1 bn2 v485 bp3 ba4 h603) (st2:=(f8n8E bl1 bn2 v485 bp3 ba4 .norm).2) rfl ?_;exact rE Qg [j3] [] [] [0,1] [3,5,7,12,15] (.norm,(f8n13S bl1 bn2 bp3 ba4 (wr64 (v485+1)))) an (Qn.norm ⟨(wr64 (v485+1)),rfl,h⟩)
   | ret =>
    obtain rfl:=Qf h;exact T.oneX' (by kernel_rfl) (f8n8_ok bl1 bn2 v485 bp3 ba4 h603) (tds:=[]) (m:=[]) (keep:=[4]) (st2:=(f8n13E bl1 bn2 bp3 ba4 .ret).2) (by kernel_rfl) an rfl (Qn.out rfl rfl)
  ·obtain rfl:=Qf h;exact rK Qg 1 [([],[],[(2,.val (jI (ba4.length:Int)))])] [some false] [] [] [5] (.exit 4) ((f8n13E bl1 bn2 bp3 ba4 .exit4).2) (ap (Qu (xs:=ba4) (c:=Qa.cells)) (ap h487 an)) (Qn.out rfl rfl)
inductive f8n7O where
 | norm
 | ret
def f8n7E(bl1:Bool)(bn2:(List Qd)×Int)(bp3:Qb)(ba4:List Qa):f8n7O→Ex×Tr×Hp
 | .norm=>(.norm,mkS [(5,(jB bl1))],[])
 | .ret=>(.ret,mkS [(4,(jB false))],[])
def f8n7S(bl1:Bool)(bn2:(List Qd)×Int)(bp3:Qb)(ba4:List Qa):Tr×Hp:=(mkS [(3,(.bp 0 0)),(5,(jB bl1)),(7,(jL 3 Qd.cells bn2.1)),(12,(.own 1))],[some (.box 43 ((Qb.cells bp3).map .pl)),jR 4 Qa.cells ba4])
noncomputable def f8n7(bl1:Bool)(bn2:(List Qd)×Int)(bp3:Qb)(ba4:List Qa):Option f8n7O :=
 (f8n13 FUEL bl1 bn2 bp3 ba4 0).bind fun o604=>match o604 with
 | .exit4=>some .norm
 | .ret=>some .ret
theorem f8n7_ok(bl1:Bool)(bn2:(List Qd)×Int)(bp3:Qb)(ba4:List Qa){o:f8n7O}(h:f8n7 bl1 bn2 bp3 ba4=some o):T Try.prog Try.f8.ntmps 0 (cL (Qh 1 (Qh 1 (Qh 0 (Qh 1 (Qh 4 (Qh 5 c8))))))) (f8n7S bl1 bn2 bp3 ba4) (·=f8n7E bl1 bn2 bp3 ba4 o):=by
 unfold f8n7 at h;refine rN Qg 1 [j3] [] [] [0,1] [3,5,7,12,15] (f8n13S bl1 bn2 bp3 ba4 0) an ?_;obtain ⟨o604,h605,h⟩:=Qc h;cases o604 with
 | exit4 =>
  obtain rfl:=Qf h;exact T.last' (T.bl (i:=4) (by kernel_rfl) (by kernel_rfl) (f8n13_ok FUEL bl1 bn2 bp3 ba4 0 h605)) (tds:=[]) (m:=[]) (keep:=[5]) (st2:=(f8n7E bl1 bn2 bp3 ba4 .norm).2) (by kernel_rfl) an rfl
 | ret =>
  obtain rfl:=Qf h;exact T.last' (T.bl (i:=4) (by kernel_rfl) (by kernel_rfl) (f8n13_ok FUEL bl1 bn2 bp3 ba4 0 h605)) (tds:=[]) (m:=[]) (keep:=[4]) (st2:=(f8n7E bl1 bn2 bp3 ba4 .ret).2) (by kernel_rfl) an rfl
inductive f8n0O where
 | ret (v608:Bool)
def f8n0E(a1:List Qa)(a2:Qb):f8n0O→Ex×Tr×Hp
 | .ret v608=>(.ret,mkS [(4,(jB v608))],[])
def f8n0S(a1:List Qa)(a2:Qb):Tr×Hp:=(Qaz [(jL 4 Qa.cells a1),(jA Qb.cells a2)] 0 .leaf,[])
noncomputable def f8n0(a1:List Qa)(a2:Qb):Option f8n0O :=
 f9.bind fun x5 =>
 (f10 a1 [a2] []).bind fun x11 =>
 bif x11 then
  some (.ret x5)
 else
  bif x5 then
   (f12r1 a1).bind fun x19 =>
   (f11 x19 [a2]).bind fun x21 =>
   (f20 a1 [a2]).bind fun x25 =>
   bif decide (x25.2=0) then
    (f8n1 a1 x5 x21 x25 a2).bind fun o227=>match o227 with
    | .norm v229 v230=>(f8n5 x5 x21 x25 v229 a2 v230).bind fun o250=>match o250 with
     | .norm=>bif decide (x21.2=0) then
       (f8n7 x5 x21 a2 v230).bind fun o606=>match o606 with
       | .norm=>some (.ret x5)
       | .ret=>some (.ret false)
      else
       some (.ret x5)
     | .ret=>some (.ret false)
   else
    some (.ret (decide (x21.2=x25.2)))
  else
   some (.ret x5)
theorem f8n0_ok(a1:List Qa)(a2:Qb){o:f8n0O}(h:f8n0 a1 a2=some o):T Try.prog Try.f8.ntmps 0 c8 (f8n0S a1 a2) (·=f8n0E a1 a2 o):=by
 unfold f8n0 at h;obtain ⟨x5,h6,h⟩:=Qc h;obtain ⟨x11,h12,h⟩:=Qc h;rcases Qi h with ⟨h13,h⟩|⟨h13,h⟩
 ·obtain rfl:=Qf h;exact rK Qg 4 [j3,([],[jH 0 (jB x5)],[]),j3,([(4,true),(5,true)],[jH 2 (jB x11),(6,.bool true)],[]),j3] [none] [] [] [4] .ret ((f8n0E a1 a2 (.ret x5)).2) (ap (f9_ok h6) (ap3 h13 (ap (Qr.wk (args':=[(jL 4 Qa.cells a1),(.pl (.sl .any 2 ([a2].map Qb.cells))),(.pl (.sl .nil 0 []))]) (f10_ok a1 [a2] [] h12) (wlc (Wk.refl _) (wlc (Wk.refl _) (wlc (Wk.pl (WkP.nil (f:=.nil) (sz:=0) (sz':=3))) wln))) (Wk.refl _) rfl) an))) rfl
 ·rcases Qi h with ⟨h14,h⟩|⟨h14,h⟩
  ·obtain ⟨x19,h20,h⟩:=Qc h;obtain ⟨x21,h22,h⟩:=Qc h
   refine rN Qg 5 [j3,([],[jH 0 (jB x5)],[]),j3,([(4,false),(5,false)],[jH 2 (jB x11),(6,.bool false)],[]),([],[(1,.call (.own 2) [none,none,jR 4 Qa.cells x19]),jH 3 (.tup [(jL 3 Qd.cells x21.1),(jI x21.2)])],[])] [some false] [] [0,1] [0,3,5,6,7,8] (mkS [(0,(jL 4 Qa.cells a1)),(3,(.bp 0 0)),(5,(jB x5)),(6,(.own 1)),(7,(jL 3 Qd.cells x21.1)),(8,(jI x21.2))],[some (.box 43 ((Qb.cells a2).map .pl)),some (.row true 2 ([a2].map Qb.cells))]) (ap (f9_ok h6) (ap3 h13 (ap (Qr.wk (args':=[(jL 4 Qa.cells a1),(.pl (.sl .any 2 ([a2].map Qb.cells))),(.pl (.sl .nil 0 []))]) (f10_ok a1 [a2] [] h12) (wlc (Wk.refl _) (wlc (Wk.refl _) (wlc (Wk.pl (WkP.nil (f:=.nil) (sz:=0) (sz':=3))) wln))) (Wk.refl _) rfl) (ap (Qab h14) (ap (Qr.rn 2 [] (f12r1_ok a1 h20)) (ap (f11_ok x19 [a2] h22) an)))))) ?_
   obtain ⟨x25,h26,h⟩:=Qc h;rcases Qi h with ⟨h28,h⟩|⟨h28,h⟩
   ·refine rN Qg 4 [([],[jH 2 (.tup [(jI x25.1),(jI x25.2)])],[]),j3,j3,j3] [some false] [] [0] [0,3,5,7,8,9,11,12] (f8n1S a1 x5 x21 x25 a2) (ap (f20_ok a1 [a2] h26) (ap (Qab h28) an)) ?_;obtain ⟨o227,h228,h⟩:=Qc h;cases o227 with
    | norm v229 v230 =>
     refine T.oneN (by kernel_rfl) (f8n1_ok a1 x5 x21 x25 a2 h228) (st2:=(f8n1E a1 x5 x21 x25 a2 (.norm v229 v230)).2) rfl ?_;refine rN Qg 0 [] [] [] [0,1] [3,5,7,8,9,11,12] (f8n5S x5 x21 x25 v229 a2 v230) an ?_;obtain ⟨o250,h251,h⟩:=Qc h;cases o250 with
     | norm =>
      refine T.oneN (by kernel_rfl) (f8n5_ok x5 x21 x25 v229 a2 v230 h251) (st2:=(f8n5E x5 x21 x25 v229 a2 v230 .norm).2) rfl ?_;rcases Qi h with ⟨h253,h⟩|⟨h253,h⟩
      ·refine rN Qg 1 [j3] [some false] [] [0,1] [3,5,7,12] (f8n7S x5 x21 a2 v230) (ap (Qab h253) an) ?_;obtain ⟨o606,h607,h⟩:=Qc h;cases o606 with
       | norm =>
        refine T.oneN (by kernel_rfl) (f8n7_ok x5 x21 a2 v230 h607) (st2:=(f8n7E x5 x21 a2 v230 .norm).2) rfl ?_;obtain rfl:=Qf h;exact rE Qg [j3] [] [] [] [4] (.ret,(f8n0E a1 a2 (.ret x5)).2) an rfl
       | ret =>
        obtain rfl:=Qf h;exact T.oneX' (by kernel_rfl) (f8n7_ok x5 x21 a2 v230 h607) (tds:=[]) (m:=[]) (keep:=[4]) (st2:=(f8n0E a1 a2 (.ret false)).2) (by kernel_rfl) an rfl rfl
      ·obtain rfl:=Qf h;exact rK Qg 1 [j3,j3] [some true] [] [] [4] .ret ((f8n0E a1 a2 (.ret x5)).2) (ap (Qak h253) an) rfl
     | ret =>
      obtain rfl:=Qf h;exact T.oneX' (by kernel_rfl) (f8n5_ok x5 x21 x25 v229 a2 v230 h251) (tds:=[]) (m:=[]) (keep:=[4]) (st2:=(f8n0E a1 a2 (.ret false)).2) (by kernel_rfl) an rfl rfl
   ·obtain rfl:=Qf h;exact rK Qg 2 [([],[jH 2 (.tup [(jI x25.1),(jI x25.2)])],[]),j3,(jT [2,3,4],[(5,.bool true)],[])] [some true] [] [] [4] .ret ((f8n0E a1 a2 (.ret (decide (x21.2=x25.2)))).2) (ap (f20_ok a1 [a2] h26) (ap (Qak h28) (ap4 h14 an))) rfl
  ·obtain rfl:=Qf h;exact rK Qg 4 [j3,([],[jH 0 (jB x5)],[]),j3,([(4,false),(5,false)],[jH 2 (jB x11),(6,.bool false)],[]),j3] [some true] [] [] [4] .ret ((f8n0E a1 a2 (.ret x5)).2) (ap (f9_ok h6) (ap3 h13 (ap (Qr.wk (args':=[(jL 4 Qa.cells a1),(.pl (.sl .any 2 ([a2].map Qb.cells))),(.pl (.sl .nil 0 []))]) (f10_ok a1 [a2] [] h12) (wlc (Wk.refl _) (wlc (Wk.refl _) (wlc (Wk.pl (WkP.nil (f:=.nil) (sz:=0) (sz':=3))) wln))) (Wk.refl _) rfl) (ap (Qak h14) an)))) rfl
noncomputable def f8(a1:List Qa)(a2:Qb):Option Bool:=(f8n0 a1 a2).bind fun o=>match o with
 | .ret v608=>some v608
theorem f8_ok(a1:List Qa)(a2:Qb){r:Bool}(h:f8 a1 a2=some r):Qr Try.prog false 8 [(jL 4 Qa.cells a1),(jA Qb.cells a2)] [] (jB r) []:=by
 unfold f8 at h;obtain ⟨o,ho,h⟩:=Qc h;cases o with
 | ret v608 =>
  obtain rfl:=Qf h;exact Qr.plain Qg (f:=Try.f8) (c:=c8) (by kernel_rfl) (by kernel_rfl) (by kernel_rfl) (by kernel_rfl) ((f8n0_ok a1 a2 ho).mono fun r e=>by subst e; exact ⟨.inl rfl,(jB v608),(jB v608),by kernel_rfl,by kernel_rfl,((Wk.refl _):Wk (jB v608) (jB v608))⟩)
end Go.Proofs.Ytinabbgjignkbaa
namespace Go.Proofs.Ytinabbgjignkbaa
set_option linter.unusedVariables false
set_option linter.unusedSimpArgs false
open Go.RowKit
section
variable {c:Qa→Qa→Int} (hc:∀x y,f42 x y=some (c x y)) (o:SWo fun x y=>decide (c x y<0))
abbrev st_lt(c:Qa→Qa→Int):Qa→Qa→Bool:=fun x y=>decide (c x y<0)

include hc o in
theorem st_ins_in(a b i:Int):∀(n:Nat)(S P R:List Qa)(x:Qa)(f:Nat),S.length=n→n<f→P.length+n≤1000000→Sd (st_lt c) S →
  ∃S',f67r1n2 f a b i ((P.length+n:Nat):Int) (P++(S++x::R))=some (.exit2 (P++(S'++R)))∧Sd (st_lt c) S'∧Cl (st_lt c) (S++[x]) S'∨a≠(P.length:Int)
 | _,S,P,R,x,0,_,h,_,_=>absurd h (Nat.not_lt_zero _)
 | n,S,P,R,x,f+1,hn,hf,hb,hs=>by
  by_cases ha:a=(P.length:Int)
  ·subst ha;rcases List.eq_nil_or_concat S with rfl | ⟨S0,y,rfl⟩
   ·refine ⟨[x],.inl ⟨?_,by simp,Cl.refl _⟩⟩;have:n=0:=by simpa using hn.symm
    subst this;rw [f67r1n2,decide_eq_false (by omega),cond_false]; simp
   ·rw [List.concat_eq_append] at hn hs ⊢;have hn':n=S0.length+1:=by simpa using hn.symm
    subst hn';have e1:P++((S0++[y])++x::R)=(P++S0)++y::x::R:=by simp
    have e2:P++((S0++[y])++x::R)=((P++S0)++[y])++x::R:=by simp
    have k1:wr64 (((P.length+(S0.length+1):Nat):Int)-1)=((P.length+S0.length:Nat):Int):=by rw [wrIn (by omega) (by omega)]; omega
    rw [f67r1n2,decide_eq_true (by omega),cond_true,k1,at_len (k:=P.length+(S0.length+1)) e2 (by simp<;>omega),at_len (k:=P.length+S0.length) e1 (by simp)];simp only [Option.bind_some,hc];rw [show (Int.toNat ((P.length+(S0.length+1):Nat):Int))=P.length+(S0.length+1) from rfl,show (Int.toNat ((P.length+S0.length:Nat):Int))=P.length+S0.length from rfl,set_len (k:=P.length+(S0.length+1)) (y:=y) e2 (by simp<;>omega)];have e3:((P++S0)++[y])++y::R=(P++S0)++y::y::R:=by simp
    rw [at_len (k:=P.length+S0.length) e3 (by simp),set_len (k:=P.length+S0.length) (y:=x) e3 (by simp)];cases hlt:decide (c x y<0) with
    | true =>
     have hs':=List.pairwise_append.1 hs;rcases st_ins_in (P.length:Int) b i S0.length S0 P (y::R) x f rfl (by omega) (by omega) hs'.1 with ⟨S',h | h⟩
     ·obtain ⟨h1,h2,h3⟩:=h;simp only [cond_true,Option.bind_some];rw [show (P++S0)++x::y::R=P++(S0++x::(y::R)) by simp,h1];refine ⟨S'++[y],.inl ⟨by simp,h2.app (by simp) fun z hz w hw=>?_,?_⟩⟩
      ·rw [List.mem_singleton.1 hw];rcases List.mem_append.1 (h3.mem.1 hz) with hz | hz
       ·exact hs'.2.2 z hz y (by simp)
       ·rw [List.mem_singleton.1 hz]; exact o.asym hlt
      ·have e:=(Cl.refl (lt:=st_lt c) S0).app (Cl.swap (lt:=st_lt c) (u:=[y]) (v:=[x]) o (fun a ha b hb=>by rw [List.mem_singleton.1 ha,List.mem_singleton.1 hb]; exact hlt));have e':=e.trans (by simpa using h3.app (Cl.refl (lt:=st_lt c) [y]):Cl (st_lt c) (S0++([x]++[y])) (S'++[y]));simpa using e'
     ·exact absurd rfl h
    | false =>
     refine ⟨(S0++[y])++[x],.inl ⟨by simp,hs.app (by simp) fun z hz w hw=>?_,Cl.refl _⟩⟩;rw [List.mem_singleton.1 hw];rcases List.mem_append.1 hz with hz | hz
     ·exact o.nt hlt ((List.pairwise_append.1 hs).2.2 z hz y (by simp))
     ·rw [List.mem_singleton.1 hz]; exact hlt
  ·exact ⟨[],.inr ha⟩
include hc o in
theorem st_ins_out:∀(X S P R:List Qa)(f:Nat),X.length<f→P.length+S.length+X.length≤1000000→Sd (st_lt c) S →
  ∃S',f67r1n3 f (P.length:Int) ((P.length+S.length+X.length:Nat):Int) ((P.length+S.length:Nat):Int) (P++(S++(X++R)))=some (.exit0 (P++(S'++R)))∧Sd (st_lt c) S'∧Cl (st_lt c) (S++X) S'
 | _,S,P,R,0,h,_,_=>absurd h (Nat.not_lt_zero _)
 | [],S,P,R,f+1,_,_,hs=>⟨S,by rw [f67r1n3,decide_eq_false (by simp),cond_false]; simp,hs,by simpa using Cl.refl _⟩
 | x::X,S,P,R,f+1,hf,hb,hs=>by
  simp only [List.length_cons] at hf hb;rcases st_ins_in hc o (P.length:Int) ((P.length+S.length+(x::X).length:Nat):Int) ((P.length+S.length:Nat):Int) S.length S P (X++R) x FUEL rfl (lt_FUEL (Nat.le_trans (by omega:S.length≤1000000) (by unfold maxLen; decide))) (by omega) hs with ⟨S1,h | h⟩
  ·obtain ⟨h1,h2,h3⟩:=h;have hl:=h3.len;simp only [List.length_append,List.length_cons,List.length_nil] at hl;obtain ⟨S',k1,k2,k3⟩:=st_ins_out X S1 P R f (by omega) (by omega) h2;refine ⟨S',?_,k2,?_⟩
   ·rw [f67r1n3,decide_eq_true (by simp only [List.length_cons]; omega),cond_true];unfold f67r1n1;rw [show P++(S++(x::X++R))=P++(S++x::(X++R)) by simp,h1];simp only [Option.bind_some];rw [show wr64 (((P.length+S.length:Nat):Int)+1)=((P.length+S1.length:Nat):Int) by rw [wrIn (by omega) (by omega)]; omega];rw [show ((P.length+S.length+(x::X).length:Nat):Int)=((P.length+S1.length+X.length:Nat):Int) by simp only [List.length_cons]; omega];exact k1
   ·have:=(h3.app (Cl.refl (lt:=st_lt c) X)).trans k3;simpa using this
  ·exact absurd rfl h
include hc o in
theorem st_ins_ok(P X R:List Qa)(hb:P.length+X.length≤1000000):f67r1 (P.length:Int) ((P.length+X.length:Nat):Int) (P++(X++R))=some (P++(sortS (st_lt c) X++R)):=by
 have main:f67r1n3 FUEL (P.length:Int) ((P.length+X.length:Nat):Int) (wr64 ((P.length:Int)+1)) (P++(X++R))=some (.exit0 (P++(sortS (st_lt c) X++R))):=by
  rw [show wr64 ((P.length:Int)+1)=((P.length+1:Nat):Int) by rw [wrIn (by omega) (by omega)]; omega];have hF:∀n:Nat,n≤1000000→n<FUEL:=fun n hn=>lt_FUEL (Nat.le_trans hn (by unfold maxLen; decide));cases X with
  | nil =>
   have:FUEL=(FUEL-1)+1:=by decide
   rw [this,f67r1n3,decide_eq_false (by simp<;>omega),cond_false]; rfl
  | cons x X =>
   simp only [List.length_cons] at hb;obtain ⟨S',k1,k2,k3⟩:=st_ins_out hc o X [x] P R FUEL (hF _ (by omega)) (by simp<;>omega) (by simp);rw [sortS_of o k2 k3] at k1;simp only [List.length_cons,List.length_nil,List.cons_append,List.nil_append] at k1 ⊢;rw [show P.length+(X.length+1)=P.length+(0+1)+X.length by omega,show P.length+1=P.length+(0+1) by omega];exact k1
 unfold f67r1 f67r1n0;rw [main]; rfl
end

end Go.Proofs.Ytinabbgjignkbaa
namespace Go.Proofs.Ytinabbgjignkbaa
set_option linter.unusedVariables false
set_option linter.unusedSimpArgs false
open Go.RowKit
abbrev AA:=Qa
abbrev AC:=Qb
abbrev AU:=Qd
theorem Qw{α:Type}{b:Bool}(h:b=true)(k:Option α):req b k=k:=by rw [h]; rfl
theorem bd_{α β:Type}(a:α)(k:α→Option β):(some a).bind k=k a:=rfl

theorem f66_eq(c:Int):f66 c=some (ltrI c):=by
 unfold f66 f66n0 ltrI;cases decide (97≤c)<;>cases decide (c≤122)<;>cases decide (65≤c)<;>cases decide (c≤90)<;>rfl
theorem f50n2_eq{s:ByteArray}{k:Int}{b:UInt8}(h:at? s.data.toList k=some b):f50n2 s k=some (bif chB b then .norm else .ret):=by
 have h3:f50n3 s b k=some (.norm (!(chB b))):=by
  unfold f50n3 chB othI;rw [f66_eq,ltNot,ltNot];simp only [Option.bind_some];cases ltrI b.toNat<;>cases decide ((48:Int)≤(b.toNat:Int))<;>cases decide ((b.toNat:Int)≤57)<;>cases decide ((b.toNat:Int)=95)<;>cases decide ((b.toNat:Int)=45)<;>rfl
 unfold f50n2;rw [h];simp only [Option.bind_some,h3];cases chB b<;>rfl
theorem f50n4_at(s:ByteArray)(hs:s.data.toList.length≤1000):∀(r:List UInt8)(f k:Nat),s.data.toList.drop k=r→r.length<f→f50n4 f s (k:Int)=some (bif r.all chB then .exit0 else .ret)
 | _,0,_,_,h=>absurd h (Nat.not_lt_zero _)
 | [],f+1,k,hd,_=>by
  have:=Qbj hd;rw [f50n4,sizeList,decide_eq_false (by omega),cond_false]; rfl
 | b::r,f+1,k,hd,hf=>by
  obtain ⟨h1,h2,h3⟩:=dropAt hd;rw [f50n4,sizeList,decide_eq_true (by omega),cond_true,f50n2_eq h1,List.all_cons];cases chB b with
  | false=>rfl
  | true =>
   simp only [cond_true,Option.bind_some,Bool.true_and];rw [wrSucc (by omega)];exact f50n4_at s hs r f (k+1) h3 (by simpa using hf)
theorem f50_eq(s:ByteArray):f50 s=some (nmB s):=by
 unfold f50 f50n0 nmB;rw [sizeList]
 by_cases hs:s.data.toList.length≤40
 ·have h1:f50n1 s=some (bif s.data.toList.all chB then .norm else .ret):=by
   unfold f50n1;have:=f50n4_at s (by omega) s.data.toList FUEL 0 List.drop_zero (Qad (by omega));rw [show ((0:Nat):Int)=0 from rfl] at this;rw [this];cases s.data.toList.all chB<;>rfl
  rw [h1];generalize s.data.toList=l at hs;rw [decide_eq_false (by omega:¬(40:Int)<(l.length:Int))];cases l with
  | nil=>rfl
  | cons b r =>
   have h0:at? (b::r) 0=some b:=rfl;rw [decide_eq_false (by simp; omega:¬(((b::r).length:Nat):Int)<1),h0];simp only [cond_false,Option.bind_some,f66_eq,isNm,decide_eq_true hs,Bool.true_and,List.all_cons,chB];cases ltrI b.toNat<;>cases othI b.toNat<;>cases r.all chB<;>rfl
 ·rw [decide_eq_false (by omega:¬((s.data.toList.length:Nat):Int)<1),decide_eq_true (by omega:(40:Int)<((s.data.toList.length:Nat):Int))];have:isNm s.data.toList=false:=by
   generalize s.data.toList=l at hs;cases l with
   | nil=>rfl
   | cons b r=>simp only [isNm,decide_eq_false hs,Bool.false_and]
  rw [this]; rfl
theorem f53_eq(a:Int):f53 a=some false:=by unfold f53 f53n0; simp
theorem f65_eq(a:ByteArray):f65 a=some false:=by unfold f65 f65n0; simp [Qbr]
theorem f43_eq(a b:Int):f43 a b=some (cmpI a b):=by
 unfold f43 f43n0 cmpI;rw [f53_eq,f53_eq];simp only [Option.bind_some,cond_false];cases decide (a<b)<;>cases decide (b<a)<;>rfl
theorem f49_eq(a b:ByteArray):f49 a b=some (cmpB a b):=by
 unfold f49 f49n0 cmpB;rw [f65_eq,f65_eq];simp only [Option.bind_some,cond_false];cases slt a b<;>cases seq a b<;>rfl
theorem cmpOr_zero{a b:Int} : cmpOr a b=0↔a=0∧b=0:=by
 unfold cmpOr
 by_cases h:a=0
 ·rw [decide_eq_true h]; simp [h]
 ·rw [decide_eq_false h]; simp [h]
theorem f48_eq(x y:Int):f48 [x,y]=some (cmpOr x y):=by
 unfold f48 f48n0 f48n1 cmpOr;rw [f48n2_run [x,y] (maxSmall (by simp))]
 by_cases hx:x=0
 ·by_cases hy:y=0
  ·subst hx hy; rfl
  ·subst hx; simp only [f48n2L,decide_eq_false hy,decide_true,cond_true,cond_false,Option.bind_some]
 ·simp only [f48n2L,decide_eq_false hx,cond_false,Option.bind_some]

def ordN:Option ByteArray→ByteArray→Bool
 | none,_=>true
 | some p,x=>slt p x
def okN:Option ByteArray→List ByteArray→Bool
 | _,[]=>true
 | p,x::r=>nmB x&&(ordN p x&&okN (some x) r)
theorem f30n2_at{l:List ByteArray}(hl:l.length≤1000):∀(r pre:List ByteArray)(f:Nat),l=pre++r→r.length<f→f30n2 f l ((pre.length:Nat):Int)=some (bif okN pre.getLast? r then .exit0 else .ret)
 | _,_,0,_,h=>absurd h (Nat.not_lt_zero _)
 | [],pre,f+1,h,_=>by rw [f30n2,decide_eq_false (by rw [h]; simp),cond_false]; rfl
 | x::r,pre,f+1,h,hf=>by
  have hp:pre.length<l.length:=by rw [h]; simp
  have ih:=f30n2_at hl r (pre++[x]) f (by rw [h]; simp) (by simpa using hf);rw [List.length_append,List.getLast?_concat] at ih;rw [f30n2,decide_eq_true (by omega),cond_true,at_len h rfl,bd_,f50_eq,bd_,okN];cases nmB x with
  | false=>rfl
  | true =>
   rw [cond_true,Bool.true_and];rcases List.eq_nil_or_concat pre with rfl | ⟨q,y,rfl⟩
   ·simp only [List.length_nil,Int.natCast_zero,List.getLast?_nil,ordN,Bool.true_and];rw [decide_eq_false (by omega:¬(0:Int)<0),cond_false,show wr64 ((0:Int)+1)=1 from rfl];simpa using ih
   ·rw [List.concat_eq_append] at h hp ih ⊢;have hq:q.length+1<1000:=by simp at hp; omega
    rw [decide_eq_true (by simp:(0:Int)<(((q++[y]).length:Nat):Int)),cond_true,show wr64 ((((q++[y]).length:Nat):Int)-1)=((q.length:Nat):Int) by rw [wrIn (by simp<;>omega) (by simp<;>omega)]; simp,at_len (k:=q.length) (a:=q) (x:=y) (b:=x::r) (by rw [h]; simp) rfl,bd_,List.getLast?_concat,ordN];cases slt y x with
    | false=>rfl
    | true =>
     rw [cond_true,Bool.true_and,wrSucc (by simp; omega)];exact ih
theorem f30_eq{l:List ByteArray}(hl:l.length≤1000):f30 l=some (okN none l):=by
 unfold f30 f30n0 f30n1;have:=f30n2_at hl l [] FUEL rfl (Qad (by omega));rw [show ((([]:List ByteArray).length:Nat):Int)=0 from rfl,List.getLast?_nil] at this;rw [this];cases okN none l<;>rfl

def inB(n a b:Int):Bool:=decide (a≤n)&&decide (n≤b)
theorem f29_eq(n a b:Int):f29 n a b=some (inB n a b):=by
 unfold f29 f29n0 inB;cases decide (a≤n)<;>rfl
def goodA(x:AA):Bool:=inB x.Amount 0 68719476736&&(inB x.Cost 0 1000&&(decide (x.For.length≤8)&&okN none x.For))
theorem f28w_eq(bg:List AA):∀(l:List AA)(v:Int)(o:List ByteArray),o.length+l.length≤10000→f28n2L bg l v o=some (bif l.all goodA then .exit0 (o++l.map Qa.Name) else .ret)
 | [],v,o,_=>by simp [f28n2L]
 | x::r,v,o,h=>by
  simp only [List.length_cons] at h;have ih:=f28w_eq bg r (v+1) (o++[x.Name]) (by simp; omega);rw [f28n2L,f29_eq,bd_,f29_eq,List.all_cons,goodA];simp only [bd_];cases inB x.Amount 0 68719476736 with
  | false=>rfl
  | true =>
   cases inB x.Cost 0 1000 with
   | false=>rfl
   | true =>
    by_cases hF:x.For.length≤8
    ·rw [decide_eq_false (by omega:¬(8:Int)<(x.For.length:Int)),decide_eq_true hF,f30_eq (by omega)];simp only [cond_true,cond_false,bd_,Bool.true_and];cases okN none x.For with
     | false=>rfl
     | true =>
      rw [cond_true,Bool.true_and,Qw (Qao (by omega) (by omega)),ih]
      simp
    ·rw [decide_eq_true (by omega:(8:Int)<(x.For.length:Int)),decide_eq_false hF];rfl
def assetsB(l:List AA):Bool:=decide (l.length≤10)&&(l.all goodA&&okN none (l.map Qa.Name))
theorem f28_eq(l:List AA):f28 l=some (assetsB l):=by
 unfold f28 f28n0 assetsB
 by_cases hl:l.length≤10
 ·rw [decide_eq_false (by omega),decide_eq_true hl,cond_false,Bool.true_and];have h1:f28n1 l=some (bif l.all goodA then .norm (l.map Qa.Name) else .ret):=by
   unfold f28n1;have:=f28w_eq l l 0 [] (by simp; omega);rw [f28n2_run l [] (maxSmall (by omega)),this];cases l.all goodA<;>rfl
  rw [h1];cases l.all goodA with
  | false=>rfl
  | true =>
   simp only [cond_true,Option.bind_some,Bool.true_and];rw [f30_eq (by simp; omega)]; rfl
 ·rw [decide_eq_true (by omega),decide_eq_false hl]; rfl

theorem f13w_eq(bg:List AC):∀(l:List AC)(v:Int)(o:List ByteArray),o.length+l.length≤10000→f13n2L bg l v o=some (bif l.all (fun x=>inB x.Need 1 68719476736) then .exit0 (o++l.map Qb.Name) else .ret)
 | [],v,o,_=>by simp [f13n2L]
 | x::r,v,o,h=>by
  simp only [List.length_cons] at h;have ih:=f13w_eq bg r (v+1) (o++[x.Name]) (by simp; omega);rw [f13n2L,f29_eq,bd_,List.all_cons];cases inB x.Need 1 68719476736 with
  | false=>rfl
  | true =>
   rw [cond_true,Bool.true_and,Qw (Qao (by omega) (by omega)),ih]
   simp
def callsB(c:List AC):Bool:=decide (c.length≤8)&&(c.all (fun x=>inB x.Need 1 68719476736)&&okN none (c.map Qb.Name))
def checkB(l:List AA)(c:List AC):Bool:=assetsB l&&callsB c
theorem f13_eq(l:List AA)(c:List AC):f13 l c=some (bif checkB l c then 0 else 8):=by
 unfold f13 f13n0 checkB callsB
 by_cases hc:c.length≤8
 ·rw [decide_eq_false (by omega),decide_eq_true hc,cond_false,f28_eq,bd_,Bool.true_and];cases assetsB l with
  | false=>rfl
  | true =>
   have h1:f13n1 c=some (bif c.all (fun x=>inB x.Need 1 68719476736) then .norm (c.map Qb.Name) else .ret):=by
    unfold f13n1;have:=f13w_eq c c 0 [] (by simp; omega);rw [f13n2_run c [] (maxSmall (by omega)),this];cases c.all (fun x=>inB x.Need 1 68719476736)<;>rfl
   rw [cond_true,h1,Bool.true_and];cases c.all (fun x=>inB x.Need 1 68719476736) with
   | false=>rfl
   | true =>
    simp only [cond_true,Option.bind_some,Bool.true_and];rw [f30_eq (by simp; omega),bd_];cases okN none (c.map Qb.Name)<;>rfl
 ·rw [decide_eq_true (by omega),decide_eq_false hc];cases assetsB l<;>rfl
theorem okN_some:∀{l:List ByteArray} {p:ByteArray},okN (some p) l=true→(p::l).Pairwise (fun a b=>slt a b=true)∧∀x∈l,nmB x=true
 | [],p,_=>by simp
 | y::r,p,h=>by
  rw [okN,ordN,Bool.and_eq_true,Bool.and_eq_true] at h;obtain ⟨h1,h2,h3⟩:=h;obtain ⟨h4,h5⟩:=okN_some h3;refine ⟨List.pairwise_cons.2 ⟨fun z hz=>?_,h4⟩,fun z hz=>?_⟩
  ·rcases List.mem_cons.1 hz with rfl | hz
   ·exact h2
   ·exact slt_trans h2 ((List.pairwise_cons.1 h4).1 z hz)
  ·rcases List.mem_cons.1 hz with rfl | hz
   ·exact h1
   ·exact h5 z hz
theorem okN_ok{l:List ByteArray}(h:okN none l=true):l.Pairwise (fun a b=>slt a b=true)∧∀x∈l,nmB x=true:=by
 cases l with
 | nil=>simp
 | cons y r =>
  rw [okN,Bool.and_eq_true,Bool.and_eq_true] at h;obtain ⟨h1,_,h3⟩:=h;obtain ⟨h4,h5⟩:=okN_some h3;exact ⟨h4,fun z hz=>by
   rcases List.mem_cons.1 hz with rfl | hz
   ·exact h1
   ·exact h5 z hz⟩
structure OkL (l:List AA) (c:List AC):Prop where
 len:l.length≤10
 clen:c.length≤8
 am:∀x∈l,0≤x.Amount∧x.Amount≤68719476736
 cost:∀x∈l,0≤x.Cost∧x.Cost≤1000
 flen:∀x∈l,x.For.length≤8
 fnd:∀x∈l,x.For.Pairwise (fun a b=>slt a b=true)
 nd:l.Pairwise (fun a b=>slt a.Name b.Name=true)
 need:∀x∈c,1≤x.Need∧x.Need≤68719476736
 cnd:c.Pairwise (fun a b=>slt a.Name b.Name=true)
theorem inB_iff{n a b:Int} : inB n a b=true↔a≤n∧n≤b:=by unfold inB; rw [Bool.and_eq_true,decide_eq_true_eq,decide_eq_true_eq]
theorem checkB_ok{l:List AA}{c:List AC}(h:checkB l c=true):OkL l c:=by
 unfold checkB assetsB callsB at h;simp only [Bool.and_eq_true,decide_eq_true_eq,List.all_eq_true] at h;obtain ⟨⟨h1,h2,h3⟩,h4,h5,h6⟩:=h;have ha:∀x∈l,_:=fun x hx=>by
  have:=h2 x hx;unfold goodA at this;simp only [Bool.and_eq_true,decide_eq_true_eq,inB_iff] at this;exact this
 exact ⟨h1,h4,fun x hx=>(ha x hx).1,fun x hx=>(ha x hx).2.1,fun x hx=>(ha x hx).2.2.1,fun x hx=>(okN_ok (ha x hx).2.2.2).1,List.pairwise_map.1 (okN_ok h3).1,fun x hx=>inB_iff.1 (h5 x hx),List.pairwise_map.1 (okN_ok h6).1⟩

theorem f12w_eq(bg:List AA):∀(l:List AA)(v:Int)(o:List AA),o.length+l.length≤10000→(∀x∈l,x.For.length≤1000)→f12r1n2L bg l v o=some (.exit0 (o++l))
 | [],v,o,_,_=>by simp [f12r1n2L]
 | x::r,v,o,h,hF=>by
  simp only [List.length_cons] at h;have ih:=fun y=>f12w_eq bg r (v+1) (o++[y]) (by simp; omega) fun z hz=>hF z (List.mem_cons_of_mem _ hz);have hx:=hF x List.mem_cons_self;rw [f12r1n2L];cases he:x.For with
  | nil =>
   have e:Qa.mk x.Name x.Amount x.Cost []=x:=by rw [←he]
   simp only [List.isEmpty_nil,cond_true];rw [Qw (Qao (by omega) (by omega)),ih,e]; simp
  | cons a b =>
   rw [he] at hx;simp only [List.isEmpty_cons,cond_false];rw [Qw (Qao (by omega) (by omega)),Qw (Qao (by omega) (by omega)),ih]; simp
theorem f12_eq{l:List AA}(hl:l.length≤1000)(hF:∀x∈l,x.For.length≤1000):f12r1 l=some l:=by
 unfold f12r1 f12r1n0 f12r1n1;have:=f12w_eq l l 0 [] (by simp; omega) hF;rw [f12r1n2_run l [] (maxSmall (by omega)),this]; rfl
theorem f10w_eq(bg:List AA)(b:List AC)(u:List AU):∀(l:List AA)(v:Int),(f10n2L bg b u l v=some .exit0∧((∀x∈l,x.For.length≤15)∨16≤v+l.length))∨f10n2L bg b u l v=some .ret
 | [],v=>.inl ⟨rfl,.inl fun x h=>(by cases h)⟩
 | x::r,v=>by
  rw [f10n2L]
  by_cases hv:v≤15
  ·rw [decide_eq_true hv,cond_true]
   by_cases hx:x.For.length≤15
   ·rw [decide_eq_false (by omega),cond_false];rcases f10w_eq bg b u r (v+1) with ⟨h1,h2⟩ | h1
    ·refine .inl ⟨h1,h2.imp (fun h y hy=>?_) fun h=>by simp; omega⟩;rcases List.mem_cons.1 hy with rfl | hy
     ·exact hx
     ·exact h y hy
    ·exact .inr h1
   ·rw [decide_eq_true (by omega)]; exact .inr rfl
  ·rw [decide_eq_false hv]; exact .inl ⟨rfl,.inr (by simp; omega)⟩
theorem f10_eq(l:List AA)(c:List AC)(u:List AU)(hm:l.length≤maxLen):∃b,f10 l c u=some b∧(b=false→l.length≤15∧c.length≤15∧u.length≤100∧∀x∈l,x.For.length≤15):=by
 unfold f10 f10n0 f10n1;rw [f10n2_run l c u hm];rcases f10w_eq l c u l 0 with ⟨h1,h2⟩ | h1
 ·rw [h1];simp only [Option.bind_some]
  by_cases hl:l.length≤15
  ·rw [decide_eq_false (by omega),cond_false]
   by_cases hc:c.length≤15
   ·rw [decide_eq_false (by omega),cond_false];refine ⟨_,rfl,fun h=>⟨hl,hc,by have:=of_decide_eq_false h; omega,h2.elim id fun h=>by omega⟩⟩
   ·rw [decide_eq_true (by omega)]; exact ⟨true,rfl,fun h=>by cases h⟩
  ·rw [decide_eq_true (by omega)]; exact ⟨true,rfl,fun h=>by cases h⟩
 ·rw [h1]; exact ⟨true,rfl,fun h=>by cases h⟩
end Go.Proofs.Ytinabbgjignkbaa
namespace Go.Proofs.Ytinabbgjignkbaa
namespace Flo
set_option linter.unusedVariables false
set_option linter.unusedSimpArgs false
def sN:Nat→(Nat→Int)→Int
 | 0,_=>0
 | n+1,f=>sN n f+f n
theorem Qz{f g:Nat→Int} : ∀{n:Nat},(∀i,i<n→f i=g i)→sN n f=sN n g
 | 0,_=>rfl
 | n+1,h=>by rw [sN,sN,Qz fun i hi=>h i (by omega),h n (by omega)]
theorem sN_add(f g:Nat→Int):∀n:Nat,sN n (fun i=>f i+g i)=sN n f+sN n g
 | 0=>rfl
 | n+1=>by rw [sN,sN,sN,sN_add f g n]; omega
theorem sN_sub(f g:Nat→Int):∀n:Nat,sN n (fun i=>f i-g i)=sN n f-sN n g
 | 0=>rfl
 | n+1=>by rw [sN,sN,sN,sN_sub f g n]; omega
theorem sN_le{f g:Nat→Int} : ∀{n:Nat},(∀i,i<n→f i≤g i)→sN n f≤sN n g
 | 0,_=>Int.le_refl _
 | n+1,h=>by
  have h1:=sN_le (n:=n) fun i hi=>h i (by omega);have h2:=h n (by omega);rw [sN,sN]; omega
theorem Qar{f:Nat→Int} : ∀{n:Nat},(∀i,i<n→f i=0)→sN n f=0
 | 0,_=>rfl
 | n+1,h=>by rw [sN,Qar fun i hi=>h i (by omega),h n (by omega)]; rfl
theorem sN_nn{f:Nat→Int}{n:Nat}(h:∀i,i<n→0≤f i):0≤sN n f:=by
 have:=sN_le (f:=fun _=>0) (g:=f) (n:=n) h
 rwa [Qar fun _ _=>rfl] at this
theorem sN_swap(f:Nat→Nat→Int)(m:Nat):∀n:Nat,sN n (fun j=>sN m (fun i=>f i j))=sN m (fun i=>sN n (fun j=>f i j))
 | 0=>(Qar (f:=fun _=>0) fun _ _=>rfl).symm
 | n+1=>by
  rw [sN,sN_swap f m n,←sN_add];rfl
theorem sN_one{f:Nat→Int}{n k:Nat}(hk:k<n)(h:∀i,i<n→i≠k→f i=0):sN n f=f k:=by
 induction n with
 | zero=>omega
 | succ n ih =>
  rw [sN]
  by_cases e:k=n
  ·subst e;rw [Qar fun i hi=>h i (by omega) (by omega)]; omega
  ·rw [ih (by omega) fun i hi hne=>h i (by omega) hne,h n (by omega) (by omega)]; omega

abbrev Set_:=Nat→Bool
def tch(n:Nat)(may:Nat→Nat→Bool)(T:Set_):Nat→Bool
 := fun i=>(List.range n).any fun j=>T j&&may i j
theorem Qag{n:Nat}{may:Nat→Nat→Bool}{T:Set_}{i:Nat} : tch n may T i=true↔∃j,j<n∧T j=true∧may i j=true:=by
 unfold tch;rw [List.any_eq_true]
 constructor
 ·rintro ⟨j,hj,h⟩
  rw [Bool.and_eq_true] at h;exact ⟨j,List.mem_range.1 hj,h.1,h.2⟩
 ·rintro ⟨j,hj,h1,h2⟩
  exact ⟨j,List.mem_range.2 hj,by rw [h1,h2]; rfl⟩
def cut(m n:Nat)(s d:Nat→Int)(may:Nat→Nat→Bool)(T:Set_):Int :=
 sN n (fun j=>bif T j then 0 else d j)+sN m (fun i=>bif tch n may T i then s i else 0)
def IsMin(m n:Nat)(s d:Nat→Int)(may:Nat→Nat→Bool)(v:Int):Prop:=(∃T,v=cut m n s d may T)∧∀T,v≤cut m n s d may T

structure Flw (m n:Nat) (s d:Nat→Int) (may:Nat→Nat→Bool) (x:Nat→Nat→Int):Prop where
 nn:∀i j,i<m→j<n→0≤x i j
 may:∀i j,i<m→j<n→x i j≠0→may i j=true
 row:∀i,i<m→sN n (x i)≤s i
 col:∀j,j<n→sN m (fun i=>x i j)≤d j
def tot(m n:Nat)(x:Nat→Nat→Int):Int:=sN m fun i=>sN n (x i)
section
variable {m n:Nat} {s d:Nat→Int} {may:Nat→Nat→Bool} {x:Nat→Nat→Int}
theorem row_split(T:Set_)(i:Nat):sN n (x i)=sN n (fun j=>bif T j then x i j else 0)+sN n (fun j=>bif T j then 0 else x i j):=by
 rw [←sN_add];refine Qz fun j _=>?_;cases T j<;>simp
theorem tot_split(T:Set_):tot m n x=sN m (fun i=>sN n (fun j=>bif T j then x i j else 0))+sN n (fun j=>bif T j then 0 else sN m (fun i=>x i j)):=by
 unfold tot;have e:sN n (fun j=>bif T j then 0 else sN m (fun i=>x i j))=sN m (fun i=>sN n (fun j=>bif T j then 0 else x i j)):=by
  rw [←sN_swap];refine Qz fun j _=>?_;cases T j with
  | true=>exact (Qar fun _ _=>rfl).symm
  | false=>rfl
 rw [e,←sN_add];exact Qz fun i _=>row_split T i
theorem Flw.in_set(h:Flw m n s d may x)(T:Set_){i:Nat}(hi:i<m):sN n (fun j=>bif T j then x i j else 0)≤bif tch n may T i then s i else 0:=by
 cases ht:tch n may T i with
 | true =>
  refine Int.le_trans (sN_le fun j hj=>?_) (h.row i hi);have:=h.nn i j hi hj;cases T j with
  | true=>exact Int.le_refl _
  | false=>exact this
 | false =>
  refine Int.le_of_eq (Qar fun j hj=>?_);cases hT:T j with
  | false=>rfl
  | true =>
   refine Classical.byContradiction fun hne=>?_;have:=Qag.2 ⟨j,hj,hT,h.may i j hi hj hne⟩;rw [ht] at this; cases this
theorem Flw.le_cut(h:Flw m n s d may x)(T:Set_):tot m n x≤cut m n s d may T:=by
 rw [tot_split T];unfold cut;have h1:sN m (fun i=>sN n (fun j=>bif T j then x i j else 0))≤sN m (fun i=>bif tch n may T i then s i else 0):=sN_le fun i hi=>h.in_set T hi;have h2:sN n (fun j=>bif T j then 0 else sN m (fun i=>x i j))≤sN n (fun j=>bif T j then 0 else d j):=sN_le fun j hj=>by
  cases T j with
  | true=>exact Int.le_refl _
  | false=>exact h.col j hj
 omega
theorem Flw.stop(h:Flw m n s d may x)(R C:Set_)(h1:∀i,i<m→sN n (x i)<s i→R i=true)(h2:∀i j,i<m→j<n→R i=true→may i j=true→C j=true)
  (h3:∀j,j<n→C j=true→sN m (fun i=>x i j)=d j) (h4:∀k j,k<m→j<n→C j=true→0<x k j→R k=true) :
  tot m n x=cut m n s d may (fun j=>!C j):=by
 rw [tot_split (fun j=>!C j)];unfold cut;have e1:sN n (fun j=>bif !C j then 0 else sN m (fun i=>x i j))=sN n (fun j=>bif !C j then 0 else d j):=Qz fun j hj=>by
  cases hC:C j with
  | true=>exact h3 j hj hC
  | false=>rfl
 have e2:sN m (fun i=>sN n (fun j=>bif !C j then x i j else 0))=sN m (fun i=>bif tch n may (fun j=>!C j) i then s i else 0):=Qz fun i hi=>by
  have hle:=h.in_set (fun j=>!C j) hi;cases ht:tch n may (fun j=>!C j) i with
  | false =>
   rw [ht] at hle;have h0:0≤sN n (fun j=>bif !C j then x i j else 0):=sN_nn fun j hj=>by
    have:=h.nn i j hi hj;cases C j with
    | true=>exact Int.le_refl _
    | false=>exact this
   have:(bif false then s i else 0)=0:=rfl;omega
  | true =>
   obtain ⟨j,hj,hT,hm⟩:=Qag.1 ht;have hC:C j=false:=by simpa using hT
   have hR:R i=false:=by
    cases hR:R i with
    | false=>rfl
    | true=>rw [h2 i j hi hj hR hm] at hC; cases hC
   have hs:sN n (x i)=s i:=by
    have h0:=h.row i hi;refine Classical.byContradiction fun hne=>?_;rw [h1 i hi (by omega)] at hR; cases hR
   show _=s i;rw [←hs];refine Qz fun k hk=>?_;cases hCk:C k with
   | false=>rfl
   | true =>
    show 0=x i k;have h0:=h.nn i k hi hk;refine Classical.byContradiction fun hne=>?_;rw [h4 i k hi hk hCk (by omega)] at hR; cases hR
 dsimp only at e1 e2 ⊢;omega
theorem Flw.min(h:Flw m n s d may x){T:Set_}(e:tot m n x=cut m n s d may T):IsMin m n s d may (tot m n x):=⟨⟨T,e⟩,h.le_cut⟩
end
def pre(s:Nat→Int)(k:Nat):Nat→Int:=fun i=>bif decide (i<k) then s i else 0
section
variable {m n:Nat} {s d:Nat→Int} {may:Nat→Nat→Bool}
def cutA(m n:Nat)(s d:Nat→Int)(may:Nat→Nat→Bool)(A T:Set_):Int :=
 sN n (fun j=>bif T j then 0 else d j)+sN m (fun i=>bif A i&&tch n may T i then s i else 0)
theorem cut_pre{k:Nat}(hk:k≤m)(T:Set_):cut k n s d may T=cutA m n s d may (fun i=>decide (i<k)) T:=by
 unfold cut cutA
 congr 1
 induction m with
 | zero =>
  have:k=0:=by omega
  subst this; rfl
 | succ m ih =>
  by_cases e:k=m+1
  ·subst e;refine Qz fun i hi=>?_;dsimp only;rw [decide_eq_true hi]; rfl
  ·rw [sN,ih (by omega)];dsimp only;rw [decide_eq_false (by omega)]
   simp
theorem cross(A B:Set_)(k:Nat)(hk:k<m)(hs:∀i,i<m→0≤s i)(hBA:∀i,i<m→B i=true→A i=true)(hAk:A k=false)(T U:Set_) :
  cutA m n s d may (fun i=>A i||decide (i=k)) (fun j=>T j&&U j)+cutA m n s d may B (fun j=>T j||U j)≤cutA m n s d may A T+cutA m n s d may (fun i=>B i||decide (i=k)) U:=by
 unfold cutA;have e1:sN n (fun j=>bif T j&&U j then 0 else d j)+sN n (fun j=>bif T j||U j then 0 else d j)=sN n (fun j=>bif T j then 0 else d j)+sN n (fun j=>bif U j then 0 else d j):=by
  rw [←sN_add,←sN_add];refine Qz fun j _=>?_;cases T j<;>cases U j<;>simp
 have e2:sN m (fun i=>bif (A i||decide (i=k))&&tch n may (fun j=>T j&&U j) i then s i else 0)+sN m (fun i=>bif B i&&tch n may (fun j=>T j||U j) i then s i else 0)
   ≤ sN m (fun i=>bif A i&&tch n may T i then s i else 0)+sN m (fun i=>bif (B i||decide (i=k))&&tch n may U i then s i else 0):=by
  rw [←sN_add,←sN_add];refine sN_le fun i hi=>?_;have h0:=hs i hi;have hand:tch n may (fun j=>T j&&U j) i=true→tch n may T i=true∧tch n may U i=true:=fun h=>by
   obtain ⟨j,hj,h1,h2⟩:=Qag.1 h;rw [Bool.and_eq_true] at h1;exact ⟨Qag.2 ⟨j,hj,h1.1,h2⟩,Qag.2 ⟨j,hj,h1.2,h2⟩⟩
  have hor:tch n may (fun j=>T j||U j) i=true→tch n may T i=true∨tch n may U i=true:=fun h=>by
   obtain ⟨j,hj,h1,h2⟩:=Qag.1 h;rw [Bool.or_eq_true] at h1;rcases h1 with h1 | h1
   ·exact .inl (Qag.2 ⟨j,hj,h1,h2⟩)
   ·exact .inr (Qag.2 ⟨j,hj,h1,h2⟩)
  have hb:=hBA i hi
  by_cases e:i=k
  ·subst e;have hB:B i=false:=by
    cases hB:B i with
    | false=>rfl
    | true=>rw [hb hB] at hAk; cases hAk
   rw [hAk,hB,decide_eq_true rfl]
   revert hand
   cases tch n may (fun j=>T j&&U j) i<;>cases tch n may T i<;>cases tch n may U i<;>intro hand<;>simp at hand ⊢<;>omega
  ·rw [decide_eq_false e]
   revert hand hor hb
   cases tch n may (fun j=>T j&&U j) i<;>cases tch n may (fun j=>T j||U j) i<;>cases tch n may T i<;>cases tch n may U i<;>cases A i<;>cases B i<;>intro hand hor hb<;>simp at hand hor hb ⊢<;>omega
 dsimp only at e1 e2 ⊢;omega
def Rch(m n:Nat)(s d:Nat→Int)(may:Nat→Nat→Bool)(f:Nat→Int):Prop:=∀k,k≤m→IsMin k n s d may (f k)
theorem greedy(hs:∀i,i<m→0≤s i){f:Nat→Int}(hf:Rch m n s d may f)(hd:∀j,j<n→0≤d j)(A T:Set_):∀k,k≤m→sN k (fun i=>bif A i then f (i+1)-f i else 0)≤cutA m n s d may (fun i=>A i&&decide (i<k)) T:=by
 intro k
 induction k generalizing T with
 | zero =>
  intro _;unfold cutA;have h1:0≤sN n (fun j=>bif T j then 0 else d j):=sN_nn fun j hj=>by
   have:=hd j hj;cases T j with
   | true=>exact Int.le_refl _
   | false=>exact this
  have h2:sN m (fun i=>bif (A i&&decide (i<0))&&tch n may T i then s i else 0)=0:=Qar fun i _=>by
   rw [decide_eq_false (by omega:¬i<0),Bool.and_false,Bool.false_and]; rfl
  rw [sN]; dsimp only at h2 ⊢; omega
 | succ k ih =>
  intro hk;rw [sN];cases hA:A k with
  | false =>
   have e:cutA m n s d may (fun i=>A i&&decide (i<k+1)) T=cutA m n s d may (fun i=>A i&&decide (i<k)) T:=by
    unfold cutA
    congr 1
    refine Qz fun i _=>?_;dsimp only
    by_cases h:i=k
    ·subst h; rw [hA]; rfl
    ·have:decide (i<k+1)=decide (i<k):=by rw [decide_eq_decide]; omega
     rw [this]
   have:=ih T (by omega);rw [e];show _+0≤_;omega
  | true =>
   show _+(f (k+1)-f k)≤_;obtain ⟨⟨T1,hT1⟩,_⟩:=hf k (by omega);have h2:=(hf (k+1) hk).2 (fun j=>T1 j&&T j);rw [cut_pre (m:=m) hk] at h2;rw [cut_pre (m:=m) (by omega:k≤m)] at hT1;have h3:=ih (fun j=>T1 j||T j) (by omega);have h4:=cross (d:=d) (n:=n) (may:=may) (fun i=>decide (i<k)) (fun i=>A i&&decide (i<k)) k (by omega) hs (fun i _ h=>by rw [Bool.and_eq_true] at h; exact h.2) (decide_eq_false (by omega)) T1 T;have e1:(fun i=>decide (i<k)||decide (i=k))=fun i=>decide (i<k+1):=by
    funext i
    rw [←Bool.decide_or,decide_eq_decide]; omega
   have e2:(fun i=>(A i&&decide (i<k))||decide (i=k))=fun i=>A i&&decide (i<k+1):=by
    funext i
    by_cases h:i=k
    ·subst h;rw [hA,decide_eq_true rfl,decide_eq_true (by omega:i<i+1)]; simp
    ·have:decide (i<k+1)=decide (i<k):=by rw [decide_eq_decide]; omega
     rw [decide_eq_false h,this,Bool.or_false]
   rw [e1,e2] at h4;omega
end
def sub(f:Nat→Int)(k:Nat)(z:Int):Nat→Int:=fun a=>f a-(bif decide (a=k) then z else 0)
def off(may:Nat→Nat→Bool)(i j:Nat):Nat→Nat→Bool:=fun a b=>may a b&&!(decide (a=i)&&decide (b=j))
structure HH (m n:Nat) (t d:Nat→Int) (may:Nat→Nat→Bool) (rest:Int):Prop where
 tn:∀i,i<m→0≤t i
 dn:∀j,j<n→0≤d j
 td:sN n d=rest
 tt:sN m t=rest
 ct:∀T,rest≤cut m n t d may T
theorem sN_sub1(q:Nat→Bool)(f:Nat→Int)(k:Nat)(z:Int):∀m:Nat,sN m (fun a=>bif q a then sub f k z a else 0)=sN m (fun a=>bif q a then f a else 0)-(bif decide (k<m)&&q k then z else 0)
 | 0=>by simp [sN]
 | m+1=>by
  rw [sN,sN,sN_sub1 q f k z m];unfold sub
  by_cases e:m=k
  ·subst e;rw [decide_eq_true rfl,decide_eq_false (by omega:¬m<m),decide_eq_true (by omega:m<m+1)];cases q m<;>simp<;>omega
  ·have:decide (k<m+1)=decide (k<m):=by rw [decide_eq_decide]; omega
   rw [decide_eq_false e,this];cases q m<;>simp<;>omega
theorem sN_subA(f:Nat→Int)(k:Nat)(z:Int)(m:Nat)(hk:k<m):sN m (sub f k z)=sN m f-z:=by
 have:=sN_sub1 (fun _=>true) f k z m;simp only [cond_true,Bool.and_true] at this;rw [decide_eq_true hk] at this;exact this
section
variable {m n:Nat} {t d:Nat→Int} {may:Nat→Nat→Bool} {i j:Nat}
theorem tch_off{T:Set_}{a:Nat} : tch n (off may i j) T a=true→tch n may T a=true:=fun h=>by
 obtain ⟨b,h1,h2,h3⟩:=Qag.1 h;unfold off at h3;rw [Bool.and_eq_true] at h3;exact Qag.2 ⟨b,h1,h2,h3.1⟩
theorem tch_off_ne{T:Set_}{a:Nat}(h:a≠i):tch n (off may i j) T a=tch n may T a:=by
 have e:∀b,off may i j a b=may a b:=fun b=>by unfold off; rw [decide_eq_false h]; simp
 unfold tch;simp only [e]
theorem tch_off_i{T:Set_}(hj:T j=false):tch n (off may i j) T i=tch n may T i:=by
 cases h:tch n may T i with
 | false =>
  cases h2:tch n (off may i j) T i with
  | false=>rfl
  | true=>rw [tch_off h2] at h; cases h
 | true =>
  obtain ⟨b,h1,h2,h3⟩:=Qag.1 h;refine Qag.2 ⟨b,h1,h2,?_⟩;unfold off;have:b≠j:=fun e=>by rw [e,hj] at h2; cases h2
  rw [h3,decide_eq_false this]; simp
theorem cut_give(hi:i<m)(hj:j<n)(mm:Nat→Nat→Bool)(z:Int)(T:Set_):cut m n (sub t i z) (sub d j z) mm T=cut m n t d mm T-(bif T j then 0 else z)-(bif tch n mm T i then z else 0):=by
 unfold cut;have h1:=sN_sub1 (fun b=>!(T b)) d j z n;have h2:=sN_sub1 (fun a=>tch n mm T a) t i z m;rw [decide_eq_true hj,Bool.true_and] at h1;rw [decide_eq_true hi,Bool.true_and] at h2;have e1:sN n (fun b=>bif T b then 0 else sub d j z b)=sN n (fun b=>bif !(T b) then sub d j z b else 0):=Qz fun b _=>by cases T b<;>rfl
 have e2:sN n (fun b=>bif T b then 0 else d b)=sN n (fun b=>bif !(T b) then d b else 0):=Qz fun b _=>by cases T b<;>rfl
 rw [e1,e2]
 try dsimp only at h1 h2 ⊢
 rw [h1,h2];cases T j<;>simp<;>omega
theorem cut_off(hi:i<m)(T:Set_)(h:T j=false∨tch n (off may i j) T i=true):cut m n t d (off may i j) T=cut m n t d may T:=by
 unfold cut
 congr 1
 refine Qz fun a _=>?_
 by_cases e:a=i
 ·subst e;rcases h with h | h
  ·rw [tch_off_i h]
  ·rw [h,tch_off h]
 ·rw [tch_off_ne e]
theorem sN_pick(q p:Nat→Bool)(f:Nat→Int)(k:Nat)(hk:k<m)(h:∀a,a≠k→q a=p a)(hq:q k=false)(hp:p k=true):sN m (fun a=>bif p a then f a else 0)=sN m (fun a=>bif q a then f a else 0)+f k:=by
 have e:sN m (fun a=>(bif p a then f a else 0)-(bif q a then f a else 0))=f k:=by
  rw [sN_one hk fun a _ hne=>by rw [h a hne]; omega,hq,hp]; simp
 rw [sN_sub] at e;omega
theorem cut_offC(hi:i<m)(T:Set_)(h:tch n (off may i j) T i=false)(hm:may i j=true)(hj:j<n)(hT:T j=true):cut m n t d may T=cut m n t d (off may i j) T+t i:=by
 unfold cut;have:=sN_pick (m:=m) (fun a=>tch n (off may i j) T a) (fun a=>tch n may T a) t i hi (fun a ha=>tch_off_ne ha) h (Qag.2 ⟨j,hj,hT,hm⟩)
 try dsimp only at this ⊢
 omega
theorem cut_mod(hs:∀a,a<m→0≤t a)(mm:Nat→Nat→Bool)(T U:Set_):cut m n t d mm (fun b=>T b||U b)+cut m n t d mm (fun b=>T b&&U b)≤cut m n t d mm T+cut m n t d mm U:=by
 unfold cut;have e1:sN n (fun b=>bif T b||U b then 0 else d b)+sN n (fun b=>bif T b&&U b then 0 else d b)=sN n (fun b=>bif T b then 0 else d b)+sN n (fun b=>bif U b then 0 else d b):=by
  rw [←sN_add,←sN_add];refine Qz fun b _=>?_;cases T b<;>cases U b<;>simp
 have e2:sN m (fun a=>bif tch n mm (fun b=>T b||U b) a then t a else 0)+sN m (fun a=>bif tch n mm (fun b=>T b&&U b) a then t a else 0)≤sN m (fun a=>bif tch n mm T a then t a else 0)+sN m (fun a=>bif tch n mm U a then t a else 0):=by
  rw [←sN_add,←sN_add];refine sN_le fun a ha=>?_;have h0:=hs a ha;have hand:tch n mm (fun b=>T b&&U b) a=true→tch n mm T a=true∧tch n mm U a=true:=fun h=>by
   obtain ⟨b,hb,h1,h2⟩:=Qag.1 h;rw [Bool.and_eq_true] at h1;exact ⟨Qag.2 ⟨b,hb,h1.1,h2⟩,Qag.2 ⟨b,hb,h1.2,h2⟩⟩
  have hor:tch n mm (fun b=>T b||U b) a=true→tch n mm T a=true∨tch n mm U a=true:=fun h=>by
   obtain ⟨b,hb,h1,h2⟩:=Qag.1 h;rw [Bool.or_eq_true] at h1;rcases h1 with h1 | h1
   ·exact .inl (Qag.2 ⟨b,hb,h1,h2⟩)
   ·exact .inr (Qag.2 ⟨b,hb,h1,h2⟩)
  revert hand hor
  cases tch n mm (fun b=>T b&&U b) a<;>cases tch n mm (fun b=>T b||U b) a<;>cases tch n mm T a<;>cases tch n mm U a<;>intro hand hor<;>simp at hand hor ⊢<;>omega
 dsimp only at e1 e2 ⊢;omega
theorem give_ok{rest most v:Int}(h:HH m n t d may rest)(hi:i<m)(hj:j<n)(hm:may i j=true)(h1:most≤t i)(h2:most≤d j)(h3:most=t i∨most=d j)
  (hv:IsMin m n (sub t i most) (sub d j most) (off may i j) v) :
  0≤most-(rest-most-v)∧most-(rest-most-v)≤most∧HH m n (sub t i (most-(rest-most-v))) (sub d j (most-(rest-most-v))) (off may i j) (rest-(most-(rest-most-v))):=by
 have hm0:0≤most:=by
  have:=h.tn i hi;have:=h.dn j hj;omega
 have gB:∀T:Set_,(T j=false∨tch n (off may i j) T i=true)→rest≤cut m n t d (off may i j) T:=fun T hT=>by rw [cut_off hi T hT]; exact h.ct T
 have gC:∀T:Set_,T j=true→tch n (off may i j) T i=false→rest-most≤cut m n t d (off may i j) T:=fun T hT hc=>by
  have a1:=h.ct T;rw [cut_offC hi T hc hm hj hT] at a1;have a2:=gB (fun b=>T b&&!(decide (b=j))) (.inl (by simp));have a3:cut m n t d (off may i j) (fun b=>T b&&!(decide (b=j)))≤cut m n t d (off may i j) T+d j:=by
   unfold cut;have e1:=sN_pick (m:=n) (fun b=>!(T b)) (fun b=>!(T b&&!(decide (b=j)))) d j hj (fun b hb=>by rw [decide_eq_false hb]; simp) (by rw [hT]; rfl) (by simp);have e2:sN m (fun a=>bif tch n (off may i j) (fun b=>T b&&!(decide (b=j))) a then t a else 0)≤sN m (fun a=>bif tch n (off may i j) T a then t a else 0):=sN_le fun a ha=>by
    have h0:=h.tn a ha;have:tch n (off may i j) (fun b=>T b&&!(decide (b=j))) a=true→tch n (off may i j) T a=true:=fun k=>by
     obtain ⟨b,hb,k1,k2⟩:=Qag.1 k;rw [Bool.and_eq_true] at k1;exact Qag.2 ⟨b,hb,k1.1,k2⟩
    revert this
    cases tch n (off may i j) (fun b=>T b&&!(decide (b=j))) a<;>cases tch n (off may i j) T a<;>intro this<;>simp at this ⊢<;>omega
   have e3:sN n (fun b=>bif T b&&!(decide (b=j)) then 0 else d b)=sN n (fun b=>bif !(T b&&!(decide (b=j))) then d b else 0):=Qz fun b _=>by cases T b&&!(decide (b=j))<;>rfl
   have e4:sN n (fun b=>bif T b then 0 else d b)=sN n (fun b=>bif !(T b) then d b else 0):=Qz fun b _=>by cases T b<;>rfl
   dsimp only at e1 e2 e3 e4 ⊢;omega
  omega
 have hle:∀T:Set_,v≤cut m n t d (off may i j) T-(bif T j then 0 else most)-(bif tch n (off may i j) T i then most else 0):=fun T=>by
  have:=hv.2 T;rw [cut_give hi hj] at this;exact this
 have hemp:v≤rest-most:=by
  have k1:=hle (fun _=>false);have k2:tch n (off may i j) (fun _=>false) i=false:=by
   cases k:tch n (off may i j) (fun _=>false) i with
   | false=>rfl
   | true =>
    obtain ⟨b,_,hb,_⟩:=Qag.1 k;cases hb
  have k3:cut m n t d (off may i j) (fun _=>false)=rest:=by
   rw [cut_off hi _ (.inl rfl)];unfold cut;have:sN m (fun a=>bif tch n may (fun _=>false) a then t a else 0)=0:=Qar fun a _=>by
    cases k:tch n may (fun _=>false) a with
    | false=>rfl
    | true =>
     obtain ⟨b,_,hb,_⟩:=Qag.1 k;cases hb
   rw [this];have:=h.td;simp only [cond_false];show sN n d+0=rest;omega
  rw [k2,k3] at k1;simp only [cond_false] at k1;omega
 obtain ⟨⟨U,hU⟩,_⟩:=hv;rw [cut_give hi hj] at hU;have hx0:0≤most-(rest-most-v):=by
  cases hUj:U j with
  | false =>
   cases hUi:tch n (off may i j) U i with
   | true=>have:=gB U (.inl hUj); rw [hUj,hUi] at hU; simp at hU; omega
   | false=>have:=gB U (.inl hUj); rw [hUj,hUi] at hU; simp at hU; omega
  | true =>
   cases hUi:tch n (off may i j) U i with
   | true=>have:=gB U (.inr hUi); rw [hUj,hUi] at hU; simp at hU; omega
   | false=>have:=gC U hUj hUi; rw [hUj,hUi] at hU; simp at hU; omega
 refine ⟨hx0,by omega,⟨fun a ha=>?_,fun b hb=>?_,?_,?_,fun T=>?_⟩⟩
 ·have:=h.tn a ha;unfold sub
  by_cases e:a=i
  ·subst e; rw [decide_eq_true rfl]; simp; omega
  ·rw [decide_eq_false e]; simpa using this
 ·have:=h.dn b hb;unfold sub
  by_cases e:b=j
  ·subst e; rw [decide_eq_true rfl]; simp; omega
  ·rw [decide_eq_false e]; simpa using this
 ·rw [sN_subA d j _ n hj,h.td]
 ·rw [sN_subA t i _ m hi,h.tt]
 ·rw [cut_give hi hj];cases hTj:T j with
  | false =>
   cases hTi:tch n (off may i j) T i with
   | true =>
    have k1:=hle T;rw [hTj,hTi] at k1;simp only [cond_true,cond_false] at k1 ⊢;omega
   | false =>
    have k1:=gB T (.inl hTj);simp only [cond_true,cond_false];omega
  | true =>
   cases hTi:tch n (off may i j) T i with
   | true =>
    have k1:=gB T (.inr hTi);simp only [cond_true,cond_false];omega
   | false =>
    have k1:=gC T hTj hTi;simp only [cond_true,cond_false]
    -- either nothing is lacking, or the least cut is crossed with this one
    by_cases hl:rest-most-v=0
    ·omega
    ·have hUA:U j=false∧tch n (off may i j) U i=true:=by
      cases hUj:U j with
      | false =>
       cases hUi:tch n (off may i j) U i with
       | true=>exact ⟨rfl,rfl⟩
       | false=>have:=gB U (.inl hUj); rw [hUj,hUi] at hU; simp at hU; omega
      | true =>
       cases hUi:tch n (off may i j) U i with
       | true=>have:=gB U (.inr hUi); rw [hUj,hUi] at hU; simp at hU; omega
       | false=>have:=gC U hUj hUi; rw [hUj,hUi] at hU; simp at hU; omega
     have c1:=cut_mod (n:=n) (d:=d) h.tn (off may i j) T U;have c2:=gB (fun b=>T b||U b) (.inr (by
      obtain ⟨b,q1,q2,q3⟩:=Qag.1 hUA.2;exact Qag.2 ⟨b,q1,by rw [q2,Bool.or_true],q3⟩))
     have c3:=gB (fun b=>T b&&U b) (.inl (by rw [hUA.1,Bool.and_false]));rw [hUA.1,hUA.2] at hU;simp only [cond_true,cond_false] at hU;omega
theorem HH.done{rest:Int}(h:HH m n t d may rest)(hm:∀a b,a<m→b<n→may a b=false):rest=0∧(∀a,a<m→t a=0)∧∀b,b<n→d b=0:=by
 have h1:=h.ct (fun _=>true);have e1:cut m n t d may (fun _=>true)=0:=by
  unfold cut;have q1:sN n (fun b=>bif (fun _:Nat=>true) b then 0 else d b)=0:=Qar fun _ _=>rfl;have q2:sN m (fun a=>bif tch n may (fun _=>true) a then t a else 0)=0:=Qar fun a ha=>by
   cases k:tch n may (fun _=>true) a with
   | false=>rfl
   | true =>
    obtain ⟨b,hb,_,hb2⟩:=Qag.1 k;rw [hm a b ha hb] at hb2; cases hb2
  rw [q1,q2]; rfl
 have h2:0≤rest:=by rw [←h.td]; exact sN_nn h.dn
 have h3:rest=0:=by omega
 have zero:∀{k:Nat} {f:Nat→Int},(∀a,a<k→0≤f a)→sN k f=0→∀a,a<k→f a=0:=fun {k}=>by
  induction k with
  | zero=>intro f _ _ a ha; omega
  | succ k ih =>
   intro f hf h0 a ha;rw [sN] at h0;have q1:0≤sN k f:=sN_nn fun b hb=>hf b (by omega);have q2:=hf k (by omega)
   by_cases e:a=k
   ·subst e; omega
   ·exact ih (fun b hb=>hf b (by omega)) (by omega) a (by omega)
 exact ⟨h3,zero h.tn (by rw [h.tt]; exact h3),zero h.dn (by rw [h.td]; exact h3)⟩
theorem Rch.zero{s f:Nat→Int}(hf:Rch m n s d may f)(hd:∀b,b<n→0≤d b):f 0=0:=by
 obtain ⟨⟨T,hT⟩,h2⟩:=hf 0 (Nat.zero_le _);have k1:=h2 (fun _=>true);unfold cut at hT k1;rw [sN] at hT k1;have q:0≤sN n (fun b=>bif T b then 0 else d b):=sN_nn fun b hb=>by
  have:=hd b hb;cases T b with
  | true=>exact Int.le_refl _
  | false=>exact this
 have q2:sN n (fun b=>bif (fun _=>true) b then 0 else d b)=0:=Qar fun _ _=>rfl;dsimp only at hT q q2 k1;omega
theorem Rch.step{s f:Nat→Int}(hf:Rch m n s d may f)(hs:∀a,a<m→0≤s a){k:Nat}(hk:k<m):0≤f (k+1)-f k∧f (k+1)-f k≤s k:=by
 obtain ⟨⟨T,hT⟩,h2⟩:=hf k (by omega);obtain ⟨⟨U,hU⟩,h4⟩:=hf (k+1) hk;have a1:=h2 U;have a2:=h4 T;have h0:=hs k hk;unfold cut at hT hU a1 a2;rw [sN] at hU a2
 constructor
 ·have:0≤(bif tch n may U k then s k else 0):=by cases tch n may U k<;>simp<;>omega
  omega
 ·have:(bif tch n may T k then s k else 0)≤s k:=by cases tch n may T k<;>simp<;>omega
  omega
theorem sN_tel(f:Nat→Int):∀k:Nat,sN k (fun a=>f (a+1)-f a)=f k-f 0
 | 0=>by simp [sN]
 | k+1=>by rw [sN,sN_tel f k]; omega
theorem HH.start{s f:Nat→Int}(hf:Rch m n s d may f)(hs:∀a,a<m→0≤s a)(hd:∀b,b<n→0≤d b)(hr:f m=sN n d):HH m n (fun a=>f (a+1)-f a) d may (sN n d) where
 tn a ha:=(hf.step hs ha).1
 dn:=hd
 td:=rfl
 tt:=by rw [sN_tel,hf.zero hd,hr]; omega
 ct T:=by
  have h1:=greedy hs hf hd (fun a=>!(tch n may T a)) T m (Nat.le_refl _);have e1:cutA m n s d may (fun a=>!(tch n may T a)&&decide (a<m)) T=sN n (fun b=>bif T b then 0 else d b):=by
   unfold cutA;rw [Qar (n:=m) (f:=fun a=>bif (!(tch n may T a)&&decide (a<m))&&tch n may T a then s a else 0) fun a _=>by cases tch n may T a<;>simp];omega
  rw [e1] at h1;have e2:sN m (fun a=>f (a+1)-f a)=sN m (fun a=>bif !(tch n may T a) then f (a+1)-f a else 0)+sN m (fun a=>bif tch n may T a then f (a+1)-f a else 0):=by
   rw [←sN_add];refine Qz fun a _=>?_;cases tch n may T a<;>simp
  have e3:sN m (fun a=>f (a+1)-f a)=sN n d:=by rw [sN_tel,hf.zero hd,hr]; omega
  unfold cut;dsimp only at h1 e2 ⊢;omega
end
end Flo
end Go.Proofs.Ytinabbgjignkbaa
