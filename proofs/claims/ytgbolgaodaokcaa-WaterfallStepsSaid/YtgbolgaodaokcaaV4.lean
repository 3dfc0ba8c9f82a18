/- Several texts in one. No condition. -/
import Derived.Test.YtgbolgaodaokcaaV2
namespace Go.Proofs.Ytgbolgaodaokcaa
set_option linter.unusedVariables false
set_option linter.unusedSimpArgs false
set_option maxRecDepth 100000
open Go.RowKit
noncomputable def c68:Code:=Try.f68.body.getD .skip
inductive f68r1n0O where
 | norm (v7:List Int)
def f68r1n0E(a1 a2:List Int):f68r1n0O→Ex×Tr×Hp
 | .norm v7=>(.norm,mkS [],[some (.row false 1 (v7.map (cInt .i64))),some (.box [(.own 2)]),some (.row false 1 (a2.map (cInt .u64)))])
def f68r1n0S(a1 a2:List Int):Tr×Hp:=(Qaa [(.own 0),(.clo 69 [(.bp 1 0)])] 0 .leaf,[some (.row false 1 (a1.map (cInt .i64))),some (.box [(.own 2)]),some (.row false 1 (a2.map (cInt .u64)))])
noncomputable def f68r1n0(a1 a2:List Int):Option f68r1n0O :=
 (f78r1 (a1.length:Int) a1 a2).bind fun x5 =>
 some (.norm x5)
theorem f68r1n0_ok(a1 a2:List Int){o:f68r1n0O}(h:f68r1n0 a1 a2=some o):T Try.prog Try.f68.ntmps 3 c68 (f68r1n0S a1 a2) (·=f68r1n0E a1 a2 o):=by
 unfold f68r1n0 at h;obtain ⟨x5,h6,h⟩:=Qd h;obtain rfl:=Qe h;exact rE Qf [([],[(4,.call (.tup []) [some (.row false 1 (x5.map (cInt .i64))),some (.box [(.own 2)]),some (.row false 1 (a2.map (cInt .u64)))])],[(2,.val (jI (a1.length:Int)))])] [] [] [] [] (.norm,(f68r1n0E a1 a2 (.norm x5)).2) (ap (Qx (xs:=a1) (c:=(cInt .i64))) (ap (f78r1_ok (a1.length:Int) a1 a2 h6) an)) rfl
noncomputable def f68r1(a1 a2:List Int):Option (List Int):=(f68r1n0 a1 a2).bind fun o=>match o with
 | .norm v7=>some v7
theorem f68r1_ok(a1 a2:List Int){r:List Int}(h:f68r1 a1 a2=some r):Ql Try.prog true 68 [(.own 0),(.clo 69 [(.bp 1 0)])] [some (.row false 1 (a1.map (cInt .i64))),some (.box [(.own 2)]),some (.row false 1 (a2.map (cInt .u64)))] (.tup []) [some (.row false 1 (r.map (cInt .i64))),some (.box [(.own 2)]),some (.row false 1 (a2.map (cInt .u64)))]:=by
 unfold f68r1 at h;obtain ⟨o,ho,h⟩:=Qd h;cases o with
 | norm v7 =>
  obtain rfl:=Qe h;exact Ql.shared Qf (f:=Try.f68) (c:=c68) (by kernel_rfl) (by kernel_rfl) (by kernel_rfl) ((f68r1n0_ok a1 a2 ho).mono fun r e=>by subst e; exact ⟨.inr rfl,by kernel_rfl,by kernel_rfl⟩)

noncomputable def c55:Code:=Try.f55.body.getD .skip
inductive f55n2O where
 | exit0 (v93:Int) (v94:List Int) (v95:List Int) (v96:List Int)
def f55n2E(bb1 bb3:Int)(be2:List Int):f55n2O→Ex×Tr×Hp
 | .exit0 v93 v94 v95 v96=>((.exit 0),mkS [(6,(.own 0)),(7,(.bp 1 0)),(8,(.own 2)),(9,(jI v93))],[some (.row false 1 (v94.map (cInt .i64))),some (.box [(.own 3)]),some (.row false 1 (v95.map (cInt .i64))),some (.row false 1 (v96.map (cInt .u64)))])
def f55n2S(bb1 bb3:Int)(be2:List Int)(v62 v63:Int)(v64 v65 v66:List Int):Tr×Hp:=(mkS [(0,(jI bb1)),(5,(jI bb3)),(6,(.own 0)),(7,(.bp 1 0)),(8,(.own 2)),(9,(jI v62)),(33,(.pl (.sl .any 1 (be2.map (cInt .i64))))),(34,(jI (be2.length:Int))),(35,(jI v63))],[some (.row false 1 (v64.map (cInt .i64))),some (.box [(.own 3)]),some (.row false 1 (v65.map (cInt .i64))),some (.row false 1 (v66.map (cInt .u64)))])
noncomputable def f55n2:Nat→Int→Int→List Int→Int→Int→List Int→List Int→List Int→Option f55n2O
 | 0,_,_,_,_,_,_,_,_=>none
 | f+1,bb1,bb3,be2,v62,v63,v64,v65,v66 =>
  bif decide (v63<(be2.length:Int)) then
   (at? be2 v63).bind fun x81 =>
   (f66 (Qi bb1) (Qi x81)).bind fun x83 =>
   (f67 x83.1 x83.2 (Qi bb3)).bind fun x85 =>
   (at? v64 v63).bind fun x87 =>
   (at? v66 v63).bind fun x89 =>
   (at? v65 v63).bind fun x91 =>
   (f55n2 f bb1 bb3 be2 (wr64 (v62-(wr64 x85.1))) (wr64 (v63+1)) (v64.set (Int.toNat v63) (wr64 x85.1)) (v65.set (Int.toNat v63) v63) (v66.set (Int.toNat v63) x85.2))
  else
   some (.exit0 v62 v64 v65 v66)
theorem f55n2_ok:∀(f:Nat)(bb1 bb3:Int)(be2:List Int)(v62 v63:Int)(v64 v65 v66:List Int){o:f55n2O},f55n2 f bb1 bb3 be2 v62 v63 v64 v65 v66=some o→TL Try.prog Try.f55.ntmps 0 f (cL (cL (Qj 1 (cL (Qj 2 (Qj 5 c55)))))) (f55n2S bb1 bb3 be2 v62 v63 v64 v65 v66) (·=f55n2E bb1 bb3 be2 o)
 | 0,_,_,_,_,_,_,_,_,o,h=>by rw [f55n2] at h; cases h
 | f+1,bb1,bb3,be2,v62,v63,v64,v65,v66,o,h=>by
  rw [f55n2] at h;refine TL.body (K:=fun s=>∃v62:Int,∃v63:Int,∃v64:List Int,∃v65:List Int,∃v66:List Int,s=(f55n2S bb1 bb3 be2 v62 v63 v64 v65 v66)∧f55n2 f bb1 bb3 be2 v62 v63 v64 v65 v66=some o) ?_ (by rintro _ ⟨v62,v63,v64,v65,v66,rfl,hk⟩; exact f55n2_ok f _ _ _ _ _ _ _ _ hk);rcases Qh h with ⟨h68,h⟩|⟨h68,h⟩
  ·obtain ⟨x81,h82,h⟩:=Qd h;obtain ⟨x83,h84,h⟩:=Qd h;obtain ⟨x85,h86,h⟩:=Qd h;obtain ⟨x87,h88,h⟩:=Qd h;obtain ⟨x89,h90,h⟩:=Qd h;obtain ⟨x91,h92,h⟩:=Qd h
   exact rE Qf [j3,([],[(1,.idx (Int.toNat v63) ((cInt .i64) x81))],[]),([],[jH 4 (.tup [(.pl (.int .u64 x83.1)),(.pl (.int .u64 x83.2))])],[]),([],[jH 4 (.tup [(.pl (.int .u64 x85.1)),(.pl (.int .u64 x85.2))])],[]),([],[(10,.at_ (Int.toNat v63)),(11,.idx 0 ((cInt .i64) x87)),(12,.at_ (Int.toNat v63)),(13,.idx 0 ((cInt .u64) x89)),(14,.at_ (Int.toNat v63)),(15,.idx 0 ((cInt .i64) x91))],[(11,.row 0 ((v64.set (Int.toNat v63) (wr64 x85.1)).map (cInt .i64))),(13,.row 3 ((v66.set (Int.toNat v63) x85.2).map (cInt .u64))),(15,.row 2 ((v65.set (Int.toNat v63) v63).map (cInt .i64)))]),j3,j3] [some true] [] [0,1,2,3] [0,5,6,7,8,9,33,34,35] (.norm,(f55n2S bb1 bb3 be2 (wr64 (v62-(wr64 x85.1))) (wr64 (v63+1)) (v64.set (Int.toNat v63) (wr64 x85.1)) (v65.set (Int.toNat v63) v63) (v66.set (Int.toNat v63) x85.2))) (ap h68 (ap (Qg h82).1 (ap (Qm (cInt .i64) (Qg h82).2) (ap (f66_ok (Qi bb1) (Qi x81) h84) (ap (f67_ok x83.1 x83.2 (Qi bb3) h86) (ap (Qg h88).1 (ap (Qs (cInt .i64) (Qg h88).2) (ap (Qm (cInt .i64) (Qg h88).2) (ap (set_cv (xs:=v64) (c:=(cInt .i64)) (k:=(Int.toNat v63)) (x:=(wr64 x85.1))) (ap (Qg h90).1 (ap (Qs (cInt .u64) (Qg h90).2) (ap (Qm (cInt .u64) (Qg h90).2) (ap (set_cv (xs:=v66) (c:=(cInt .u64)) (k:=(Int.toNat v63)) (x:=x85.2)) (ap (Qg h92).1 (ap (Qs (cInt .i64) (Qg h92).2) (ap (Qm (cInt .i64) (Qg h92).2) (ap (set_cv (xs:=v65) (c:=(cInt .i64)) (k:=(Int.toNat v63)) (x:=v63)) an))))))))))))))))) (Qp.norm ⟨(wr64 (v62-(wr64 x85.1))),(wr64 (v63+1)),(v64.set (Int.toNat v63) (wr64 x85.1)),(v65.set (Int.toNat v63) v63),(v66.set (Int.toNat v63) x85.2),rfl,h⟩)
  ·obtain rfl:=Qe h;exact rK Qf 2 [j3] [some false] [] [0,1,2,3] [6,7,8,9] (.exit 0) ((f55n2E bb1 bb3 be2 (.exit0 v62 v64 v65 v66)).2) (ap h68 an) (Qp.out rfl rfl)
noncomputable def f55n2L(bb1 bb3:Int)(be2:List Int):List Int→Int→Int→(List Int)→(List Int)→(List Int)→Option f55n2O
 | [],v62,v63,v64,v65,v66 =>
  some (.exit0 v62 v64 v65 v66)
 | x0::rest,v62,v63,v64,v65,v66 =>
  (f66 (Qi bb1) (Qi x0)).bind fun x83 =>
  (f67 x83.1 x83.2 (Qi bb3)).bind fun x85 =>
  (at? v64 v63).bind fun x87 =>
  (at? v66 v63).bind fun x89 =>
  (at? v65 v63).bind fun x91 =>
  (f55n2L bb1 bb3 be2 rest (wr64 (v62-(wr64 x85.1))) (v63+1) (v64.set (Int.toNat v63) (wr64 x85.1)) (v65.set (Int.toNat v63) v63) (v66.set (Int.toNat v63) x85.2))
theorem f55n2L_eq(bb1 bb3:Int)(be2:List Int):∀(rest:List Int)(f k:Nat)(v62:Int)(v64 v65 v66:List Int),be2.drop k=rest→be2.length≤maxLen→rest.length<f→f55n2 f bb1 bb3 be2 v62 (k:Int) v64 v65 v66=f55n2L bb1 bb3 be2 rest v62 (k:Int) v64 v65 v66
 | _,0,_,_,_,_,_,_,_,hf=>absurd hf (Nat.not_lt_zero _)
 | [],f+1,k,v62,v64,v65,v66,hd,hm,hf=>by
  have hk:¬((k:Int)<(be2.length:Int)):=by have:=Qcb hd; omega
  rw [f55n2,f55n2L];simp only [decide_eq_false hk,cond_false]
 | x0::rest,f+1,k,v62,v64,v65,v66,hd,hm,hf=>by
  obtain ⟨hx,hlt,hd'⟩:=Qbl hd;have hk:(k:Int)<(be2.length:Int):=by omega
  have hw:wr64 ((k:Int)+1)=(k:Int)+1:=wr64_of (by omega) (by unfold maxLen at hm; omega);have ih:∀(v62:Int)(v64 v65 v66:List Int),f55n2 f bb1 bb3 be2 v62 ((k:Int)+1) v64 v65 v66=f55n2L bb1 bb3 be2 rest v62 ((k:Int)+1) v64 v65 v66:=fun v62 v64 v65 v66=>f55n2L_eq bb1 bb3 be2 rest f (k+1) v62 v64 v65 v66 hd' hm (by simpa using hf);rw [f55n2,f55n2L];simp only [decide_eq_true hk,cond_true,at_nat,hx,Option.bind_some,hw,ih]
theorem f55n2_run(bb1 bb3:Int)(be2:List Int)(v62:Int)(v64 v65 v66:List Int)(hm:be2.length≤maxLen):f55n2 FUEL bb1 bb3 be2 v62 0 v64 v65 v66=f55n2L bb1 bb3 be2 be2 v62 0 v64 v65 v66:=f55n2L_eq bb1 bb3 be2 be2 FUEL 0 v62 v64 v65 v66 List.drop_zero hm (Qam hm)
inductive f55n1O where
 | norm (v103:Int) (v104:List Int) (v105:List Int) (v106:List Int)
def f55n1E(bb1:Int)(be2:List Int)(bb3:Int):f55n1O→Ex×Tr×Hp
 | .norm v103 v104 v105 v106=>(.norm,mkS [(6,(.own 0)),(7,(.bp 1 0)),(8,(.own 2)),(9,(jI v103))],[some (.row false 1 (v104.map (cInt .i64))),some (.box [(.own 3)]),some (.row false 1 (v105.map (cInt .i64))),some (.row false 1 (v106.map (cInt .u64)))])
def f55n1S(bb1:Int)(be2:List Int)(bb3:Int):Tr×Hp:=(mkS [(0,(jI bb1)),(1,(.pl (.sl .any 1 (be2.map (cInt .i64))))),(5,(jI bb3)),(6,(.own 0)),(7,(.bp 1 0)),(8,(.own 2)),(9,(jI bb1))],[some (.row false 1 ((List.replicate (Int.toNat (be2.length:Int)) 0).map (cInt .i64))),some (.box [(.own 3)]),some (.row false 1 ((List.replicate (Int.toNat (be2.length:Int)) 0).map (cInt .i64))),some (.row false 1 ((List.replicate (Int.toNat (be2.length:Int)) 0).map (cInt .u64)))])
noncomputable def f55n1(bb1:Int)(be2:List Int)(bb3:Int):Option f55n1O :=
 (f55n2 FUEL bb1 bb3 be2 bb1 0 (List.replicate (Int.toNat (be2.length:Int)) 0) (List.replicate (Int.toNat (be2.length:Int)) 0) (List.replicate (Int.toNat (be2.length:Int)) 0)).bind fun o97=>match o97 with
 | .exit0 v99 v100 v101 v102=>some (.norm v99 v100 v101 v102)
theorem f55n1_ok(bb1:Int)(be2:List Int)(bb3:Int){o:f55n1O}(h:f55n1 bb1 be2 bb3=some o):T Try.prog Try.f55.ntmps 0 (cL (Qj 2 (Qj 5 c55))) (f55n1S bb1 be2 bb3) (·=f55n1E bb1 be2 bb3 o):=by
 unfold f55n1 at h;refine rN Qf 1 [([],[],[(1,.val (jI (be2.length:Int)))])] [] [] [0,1,2,3] [0,5,6,7,8,9,33,34,35] (f55n2S bb1 bb3 be2 bb1 0 (List.replicate (Int.toNat (be2.length:Int)) 0) (List.replicate (Int.toNat (be2.length:Int)) 0) (List.replicate (Int.toNat (be2.length:Int)) 0)) (ap (Qx (xs:=be2) (c:=(cInt .i64))) an) ?_;obtain ⟨o97,h98,h⟩:=Qd h;cases o97 with
 | exit0 v99 v100 v101 v102 =>
  obtain rfl:=Qe h;exact T.last' (T.bl (i:=0) (by kernel_rfl) (by kernel_rfl) (f55n2_ok FUEL bb1 bb3 be2 bb1 0 (List.replicate (Int.toNat (be2.length:Int)) 0) (List.replicate (Int.toNat (be2.length:Int)) 0) (List.replicate (Int.toNat (be2.length:Int)) 0) h98)) (tds:=[]) (m:=[0,1,2,3]) (keep:=[6,7,8,9]) (st2:=(f55n1E bb1 be2 bb3 (.norm v99 v100 v101 v102)).2) (by kernel_rfl) an rfl
inductive f55n4O where
 | exit2 (v159:List Int)
def f55n4E(bb1:Int)(be3:List Int):f55n4O→Ex×Tr×Hp
 | .exit2 v159=>((.exit 2),mkS [(6,(.own 0))],[some (.row false 1 (v159.map (cInt .i64)))])
def f55n4S(bb1:Int)(be3:List Int)(v145:Int)(v146:List Int):Tr×Hp:=(mkS [(6,(.own 0)),(79,(.vw 1 0 ((Int.toNat bb1)-0))),(80,(.pl (.int .i64 ((((Int.toNat bb1)-0):Nat):Int)))),(81,(jI v145))],[some (.row false 1 (v146.map (cInt .i64))),some (.row false 1 (be3.map (cInt .i64)))])
noncomputable def f55n4:Nat→Int→List Int→Int→List Int→Option f55n4O
 | 0,_,_,_,_=>none
 | f+1,bb1,be3,v145,v146 =>
  bif (decide (v145<((((Int.toNat bb1)-0):Nat):Int))) then
   req (decide (0+((Int.toNat bb1)-0)≤be3.length)) <|
   (at? ((be3.drop 0).take ((Int.toNat bb1)-0)) v145).bind fun x155 =>
   (at? v146 x155).bind fun x157 =>
   (f55n4 f bb1 be3 (wr64 (v145+1)) (v146.set (Int.toNat x155) (wr64 (x157+1))))
  else
   some (.exit2 v146)
theorem f55n4_ok:∀(f:Nat)(bb1:Int)(be3:List Int)(v145:Int)(v146:List Int){o:f55n4O},f55n4 f bb1 be3 v145 v146=some o→TL Try.prog Try.f55.ntmps 0 f (cL (cL (Qj 1 (cL (Qj 1 (Qj 1 (Qj 2 (Qj 5 c55)))))))) (f55n4S bb1 be3 v145 v146) (·=f55n4E bb1 be3 o)
 | 0,_,_,_,_,o,h=>by rw [f55n4] at h; cases h
 | f+1,bb1,be3,v145,v146,o,h=>by
  rw [f55n4] at h;refine TL.body (K:=fun s=>∃v145:Int,∃v146:List Int,s=(f55n4S bb1 be3 v145 v146)∧f55n4 f bb1 be3 v145 v146=some o) ?_ (by rintro _ ⟨v145,v146,rfl,hk⟩; exact f55n4_ok f _ _ _ _ hk);rcases Qh h with ⟨h148,h⟩|⟨h148,h⟩
  ·obtain ⟨h154,h⟩:=Qt h;obtain ⟨x155,h156,h⟩:=Qd h;obtain ⟨x157,h158,h⟩:=Qd h
   exact rE Qf [j3,([],[(0,.at_ (Int.toNat v145)),(1,.idx 0 ((cInt .i64) x155))],[]),([],[(2,.at_ (Int.toNat x155)),(3,.idx 0 ((cInt .i64) x157)),(5,.at_ (Int.toNat x155)),(6,.idx 0 ((cInt .i64) x157))],[(6,.row 0 ((v146.set (Int.toNat x155) (wr64 (x157+1))).map (cInt .i64)))]),j3] [some true] [] [0,1] [6,79,80,81] (.norm,(f55n4S bb1 be3 (wr64 (v145+1)) (v146.set (Int.toNat x155) (wr64 (x157+1))))) (ap h148 (ap (Qg h156).1 (ap (vw_lt h156) (ap (vw_req (c:=(cInt .i64)) h154) (ap (Qm (cInt .i64) (vw_at h156)) (ap (Qg h158).1 (ap (Qs (cInt .i64) (Qg h158).2) (ap (Qm (cInt .i64) (Qg h158).2) (ap (Qg h158).1 (ap (Qs (cInt .i64) (Qg h158).2) (ap (Qm (cInt .i64) (Qg h158).2) (ap (set_cv (xs:=v146) (c:=(cInt .i64)) (k:=(Int.toNat x155)) (x:=(wr64 (x157+1)))) an)))))))))))) (Qp.norm ⟨(wr64 (v145+1)),(v146.set (Int.toNat x155) (wr64 (x157+1))),rfl,h⟩)
  ·obtain rfl:=Qe h;exact rK Qf 2 [j3] [some false] [] [0] [6] (.exit 2) ((f55n4E bb1 be3 (.exit2 v146)).2) (ap h148 an) (Qp.out rfl rfl)
inductive f55n3O where
 | norm (v163:List Int)
def f55n3E(bb1:Int)(be2 be3:List Int):f55n3O→Ex×Tr×Hp
 | .norm v163=>(.norm,mkS [(6,(.own 0))],[some (.row false 1 (v163.map (cInt .i64)))])
def f55n3S(bb1:Int)(be2 be3:List Int):Tr×Hp:=(mkS [(6,(.own 0)),(8,(.own 1)),(9,(jI bb1))],[some (.row false 1 (be2.map (cInt .i64))),some (.row false 1 (be3.map (cInt .i64)))])
noncomputable def f55n3(bb1:Int)(be2 be3:List Int):Option f55n3O :=
 req (cutB 0 bb1 be3.length) <|
 (f55n4 FUEL bb1 be3 0 be2).bind fun o160=>match o160 with
 | .exit2 v162=>some (.norm v162)
theorem f55n3_ok(bb1:Int)(be2 be3:List Int){o:f55n3O}(h:f55n3 bb1 be2 be3=some o):T Try.prog Try.f55.ntmps 0 (cL (Qj 1 (Qj 1 (Qj 2 (Qj 5 c55))))) (f55n3S bb1 be2 be3) (·=f55n3E bb1 be2 be3 o):=by
 unfold f55n3 at h;obtain ⟨h118,h⟩:=Qt h;refine rN Qf 1 [([],[(2,.cut 0 (Int.toNat bb1))],[])] [] [] [0,1] [6,79,80,81] (f55n4S bb1 be3 0 be2) (ap (cut_hn_1_map (c:=(cInt .i64)) h118) (ap (cut_hn_2 h118) (ap (cut_hn_3 h118) (ap (cut_hn_4_map (c:=(cInt .i64)) h118) an)))) ?_;obtain ⟨o160,h161,h⟩:=Qd h;cases o160 with
 | exit2 v162 =>
  obtain rfl:=Qe h;exact T.last' (T.bl (i:=2) (by kernel_rfl) (by kernel_rfl) (f55n4_ok FUEL bb1 be3 0 be2 h161)) (tds:=[]) (m:=[0]) (keep:=[6]) (st2:=(f55n3E bb1 be2 be3 (.norm v162)).2) (by kernel_rfl) an rfl
inductive f55n0O where
 | ret (v167:List Int)
def f55n0E(a1:Int)(a2:List Int):f55n0O→Ex×Tr×Hp
 | .ret v167=>(.ret,mkS [(4,(.own 0))],[some (.row false 1 (v167.map (cInt .i64)))])
def f55n0S(a1:Int)(a2:List Int):Tr×Hp:=(Qaa [(jI a1),(.pl (.sl .any 1 (a2.map (cInt .i64))))] 0 .leaf,[])
noncomputable def f55n0(a1:Int)(a2:List Int):Option f55n0O :=
 (f64_65 a2).bind fun x5 =>
 req (decide (0≤(a2.length:Int))) <|
 req (fit (Int.toNat (a2.length:Int)) 8) <|
 bif decide (x5=0) then
  some (.ret (List.replicate (Int.toNat (a2.length:Int)) 0))
 else
  (f55n1 a1 a2 x5).bind fun o107=>match o107 with
  | .norm v109 v110 v111 v112=>(f68r1 v111 v112).bind fun x115 =>
   (f55n3 v109 v110 x115).bind fun o164=>match o164 with
   | .norm v166=>some (.ret v166)
theorem f55n0_ok(a1:Int)(a2:List Int){o:f55n0O}(h:f55n0 a1 a2=some o):T Try.prog Try.f55.ntmps 0 c55 (f55n0S a1 a2) (·=f55n0E a1 a2 o):=by
 unfold f55n0 at h;obtain ⟨x5,h6,h⟩:=Qd h;obtain ⟨h9,h⟩:=Qt h;obtain ⟨h10,h⟩:=Qt h;rcases Qh h with ⟨h12,h⟩|⟨h12,h⟩
 ·obtain rfl:=Qe h;exact rK Qf 4 [j3,([],[jH 1 (jI x5)],[]),([],[(2,.num (Int.toNat (a2.length:Int)))],[(1,.val (jI (a2.length:Int))),(2,.row 0 ((List.replicate (Int.toNat (a2.length:Int)) 0).map (cInt .i64)))]),j3,j3] [some true] [] [0] [4] .ret ((f55n0E a1 a2 (.ret (List.replicate (Int.toNat (a2.length:Int)) 0))).2) (ap (f64_65_ok a2 h6) (ap (Qx (xs:=a2) (c:=(cInt .i64))) (ap2 (nat_of h9) (ap (fit_of (te:=ti3) h10 rfl) (ap (rep_cv (c:=(cInt .i64)) (x:=0) (n:=Int.toNat (a2.length:Int))) (ap h12 an)))))) rfl
 ·refine rN Qf 5 [j3,([],[jH 1 (jI x5)],[]),([],[(2,.num (Int.toNat (a2.length:Int)))],[(1,.val (jI (a2.length:Int))),(2,.row 0 ((List.replicate (Int.toNat (a2.length:Int)) 0).map (cInt .i64)))]),j3,([],[(2,.num (Int.toNat (a2.length:Int)))],[(1,.val (jI (a2.length:Int))),(2,.row 1 ((List.replicate (Int.toNat (a2.length:Int)) 0).map (cInt .u64)))])] [some false] [] [0,2,1] [0,1,5,6,7] (mkS [(0,(jI a1)),(1,(.pl (.sl .any 1 (a2.map (cInt .i64))))),(5,(jI x5)),(6,(.own 0)),(7,(.bp 1 0))],[some (.row false 1 ((List.replicate (Int.toNat (a2.length:Int)) 0).map (cInt .i64))),some (.box [(.own 2)]),some (.row false 1 ((List.replicate (Int.toNat (a2.length:Int)) 0).map (cInt .u64)))]) (ap (f64_65_ok a2 h6) (ap (Qx (xs:=a2) (c:=(cInt .i64))) (ap2 (nat_of h9) (ap (fit_of (te:=ti3) h10 rfl) (ap (rep_cv (c:=(cInt .i64)) (x:=0) (n:=Int.toNat (a2.length:Int))) (ap h12 (ap (Qx (xs:=a2) (c:=(cInt .i64))) (ap2 (nat_of h9) (ap (fit_of (te:=ti99) h10 rfl) (ap (rep_cv (c:=(cInt .u64)) (x:=0) (n:=Int.toNat (a2.length:Int))) an)))))))))) ?_
  refine rN Qf 2 [([],[(2,.num (Int.toNat (a2.length:Int)))],[(1,.val (jI (a2.length:Int))),(2,.row 3 ((List.replicate (Int.toNat (a2.length:Int)) 0).map (cInt .i64)))]),j3] [] [] [0,1,3,2] [0,1,5,6,7,8,9] (f55n1S a1 a2 x5) (ap (Qx (xs:=a2) (c:=(cInt .i64))) (ap2 (nat_of h9) (ap (fit_of (te:=ti3) h10 rfl) (ap (rep_cv (c:=(cInt .i64)) (x:=0) (n:=Int.toNat (a2.length:Int))) an)))) ?_;obtain ⟨o107,h108,h⟩:=Qd h;cases o107 with
  | norm v109 v110 v111 v112 =>
   refine T.oneN (by kernel_rfl) (f55n1_ok a1 a2 x5 h108) (st2:=(f55n1E a1 a2 x5 (.norm v109 v110 v111 v112)).2) rfl ?_;obtain ⟨x115,h116,h⟩:=Qd h;refine rN Qf 1 [([],[(2,.call (.tup []) [none,some (.box [(.own 3)]),some (.row false 1 (x115.map (cInt .i64))),some (.row false 1 (v112.map (cInt .u64)))])],[])] [] [] [0,2] [6,8,9] (f55n3S v109 v110 x115) (ap (Ql.rn 4 [2,1,3] (f68r1_ok v111 v112 h116)) an) ?_;obtain ⟨o164,h165,h⟩:=Qd h;cases o164 with
   | norm v166 =>
    refine T.oneN (by kernel_rfl) (f55n3_ok v109 v110 x115 h165) (st2:=(f55n3E v109 v110 x115 (.norm v166)).2) rfl ?_;obtain rfl:=Qe h;exact rE Qf [j3] [] [] [0] [4] (.ret,(f55n0E a1 a2 (.ret v166)).2) an rfl
noncomputable def f55(a1:Int)(a2:List Int):Option (List Int):=(f55n0 a1 a2).bind fun o=>match o with
 | .ret v167=>some v167
theorem f55_ok(a1:Int)(a2:List Int){r:List Int}(h:f55 a1 a2=some r):Ql Try.prog false 55 [(jI a1),(.pl (.sl .any 1 (a2.map (cInt .i64))))] [] (.pl (.sl .any 1 (r.map (cInt .i64)))) []:=by
 unfold f55 at h;obtain ⟨o,ho,h⟩:=Qd h;cases o with
 | ret v167 =>
  obtain rfl:=Qe h;exact Ql.plain Qf (f:=Try.f55) (c:=c55) (by kernel_rfl) (by kernel_rfl) (by kernel_rfl) (by kernel_rfl) ((f55n0_ok a1 a2 ho).mono fun r e=>by subst e; exact ⟨.inl rfl,(.own 0),(.pl (.sl .any 1 (v167.map (cInt .i64)))),by kernel_rfl,by kernel_rfl,((Wk.refl _):Wk (.pl (.sl .any 1 (v167.map (cInt .i64)))) (.pl (.sl .any 1 (v167.map (cInt .i64)))))⟩)

noncomputable def c35:Code:=Try.f35.body.getD .skip
noncomputable def Qai:Code:=(Qj 0 (cL (Qj 1 (cL (Qj 2 c35)))))
inductive f35y1n2O where
 | exit2 (v50:List Int)
noncomputable def f35y1n2E(bb1 bb2 bb4 bb5:Int)(ba3:List Qb)(be6:List Int):f35y1n2O→Ex×Tr×Hp
 | .exit2 v50=>((.exit 2),mkS [(8,(.bp 3 0)),(12,(.bp 4 0)),(13,(jI bb1)),(14,(jI bb2)),(16,(jI (mnI bb4 bb5))),(17,(.own 6))],[some (.lp Qai .busy none (kL 96 [(5,(.bp 1 0)),(7,(.bp 2 0)),(8,(.bp 3 0)),(12,(.bp 4 0))])),some (.box (((cLst 4 Qb.cells) ba3).map .pl)),some (.box [(.pl (.fn 37))]),some (.box (((cInt .i64) bb4).map .pl)),some (.box [(.own 5)]),some (.row false 1 (be6.map (cInt .i64))),some (.row false 1 (v50.map (cInt .i64)))])
noncomputable def f35y1n2S(bb1 bb2 bb4 bb5:Int)(ba3:List Qb)(be6:List Int)(v36:Int)(v37:List Int):Tr×Hp:=(mkS [(7,(.bp 2 0)),(8,(.bp 3 0)),(12,(.bp 4 0)),(13,(jI bb1)),(14,(jI bb2)),(16,(jI (mnI bb4 bb5))),(17,(.own 6)),(41,(.pl (.sl .any 4 (((ba3.take (Int.toNat bb2)).drop (Int.toNat bb1)).map Qb.cells)))),(42,(.pl (.int .i64 (((ba3.take (Int.toNat bb2)).drop (Int.toNat bb1)).length:Int)))),(43,(jI v36))],[some (.lp Qai .busy none (kL 96 [(5,(.bp 1 0)),(7,(.bp 2 0)),(8,(.bp 3 0)),(12,(.bp 4 0))])),some (.box (((cLst 4 Qb.cells) ba3).map .pl)),some (.box [(.pl (.fn 37))]),some (.box (((cInt .i64) bb4).map .pl)),some (.box [(.own 5)]),some (.row false 1 (be6.map (cInt .i64))),some (.row false 1 (v37.map (cInt .i64)))])
noncomputable def f35y1n2:Nat→Int→Int→Int→Int→List Qb→List Int→Int→List Int→Option f35y1n2O
 | 0,_,_,_,_,_,_,_,_=>none
 | f+1,bb1,bb2,bb4,bb5,ba3,be6,v36,v37 =>
  bif (decide (v36<(((ba3.take (Int.toNat bb2)).drop (Int.toNat bb1)).length:Int))) then
   (at? ((ba3.take (Int.toNat bb2)).drop (Int.toNat bb1)) v36).bind fun x45 =>
   (f37 x45).bind fun x47 =>
   req (fit (v37.length+1) 8) <|
   (f35y1n2 f bb1 bb2 bb4 bb5 ba3 be6 (wr64 (v36+1)) (v37++[x47]))
  else
   some (.exit2 v37)
theorem f35y1n2_ok:∀(f:Nat)(bb1 bb2 bb4 bb5:Int)(ba3:List Qb)(be6:List Int)(v36:Int)(v37:List Int){o:f35y1n2O},f35y1n2 f bb1 bb2 bb4 bb5 ba3 be6 v36 v37=some o→TL Try.prog Try.f35.ntmps 6 f (cL (cL (Qj 1 (cL (Qj 3 (cL (rfB Qai))))))) (f35y1n2S bb1 bb2 bb4 bb5 ba3 be6 v36 v37) (·=f35y1n2E bb1 bb2 bb4 bb5 ba3 be6 o)
 | 0,_,_,_,_,_,_,_,_,o,h=>by rw [f35y1n2] at h; cases h
 | f+1,bb1,bb2,bb4,bb5,ba3,be6,v36,v37,o,h=>by
  rw [f35y1n2] at h;refine TL.body (K:=fun s=>∃v36:Int,∃v37:List Int,s=(f35y1n2S bb1 bb2 bb4 bb5 ba3 be6 v36 v37)∧f35y1n2 f bb1 bb2 bb4 bb5 ba3 be6 v36 v37=some o) ?_ (by rintro _ ⟨v36,v37,rfl,hk⟩; exact f35y1n2_ok f _ _ _ _ _ _ _ _ hk);rcases Qh h with ⟨h39,h⟩|⟨h39,h⟩
  ·obtain ⟨x45,h46,h⟩:=Qd h;obtain ⟨x47,h48,h⟩:=Qd h;obtain ⟨h49,h⟩:=Qt h;exact rE Qf [j3,([],[(0,.idx (Int.toNat v36) (Qb.cells x45))],[]),([],[jH 3 (jI x47),(5,.fits)],[(5,.row 9 ((v37++[x47]).map (cInt .i64)))]),j3] [some true] [] [9] [7,8,12,13,14,16,17,41,42,43] (.norm,(f35y1n2S bb1 bb2 bb4 bb5 ba3 be6 (wr64 (v36+1)) (v37++[x47]))) (ap h39 (ap (Qg h46).1 (ap (Qm Qb.cells (Qg h46).2) (ap (fit_map (te:=ti3) (xs:=v37) (n:=1) (c:=(cInt .i64)) h49 rfl) (ap (app_cv (xs:=v37) (ys:=[x47]) (c:=(cInt .i64))) (ap (f37_ok x45 h48) an)))))) (Qp.norm ⟨(wr64 (v36+1)),(v37++[x47]),rfl,h⟩)
  ·obtain rfl:=Qe h;exact rK Qf 2 [j3] [some false] [] [6] [8,12,13,14,16,17] (.exit 2) ((f35y1n2E bb1 bb2 bb4 bb5 ba3 be6 (.exit2 v37)).2) (ap h39 an) (Qp.out rfl rfl)
noncomputable def f35y1n2L(bb1 bb2 bb4 bb5:Int)(ba3:List Qb)(be6:List Int):List Qb→Int→(List Int)→Option f35y1n2O
 | [],v36,v37 =>
  some (.exit2 v37)
 | x0::rest,v36,v37 =>
  (f37 x0).bind fun x47 =>
  req (fit (v37.length+1) 8) <|
  (f35y1n2L bb1 bb2 bb4 bb5 ba3 be6 rest (v36+1) (v37++[x47]))
theorem f35y1n2L_eq(bb1 bb2 bb4 bb5:Int)(ba3:List Qb)(be6:List Int):∀(rest:List Qb)(f k:Nat)(v37:List Int),((ba3.take (Int.toNat bb2)).drop (Int.toNat bb1)).drop k=rest→((ba3.take (Int.toNat bb2)).drop (Int.toNat bb1)).length≤maxLen→rest.length<f→f35y1n2 f bb1 bb2 bb4 bb5 ba3 be6 (k:Int) v37=f35y1n2L bb1 bb2 bb4 bb5 ba3 be6 rest (k:Int) v37
 | _,0,_,_,_,_,hf=>absurd hf (Nat.not_lt_zero _)
 | [],f+1,k,v37,hd,hm,hf=>by
  have hk:¬((k:Int)<(((ba3.take (Int.toNat bb2)).drop (Int.toNat bb1)).length:Int)):=by have:=Qcb hd; omega
  rw [f35y1n2,f35y1n2L];simp only [decide_eq_false hk,cond_false]
 | x0::rest,f+1,k,v37,hd,hm,hf=>by
  obtain ⟨hx,hlt,hd'⟩:=Qbl hd;have hk:(k:Int)<(((ba3.take (Int.toNat bb2)).drop (Int.toNat bb1)).length:Int):=by omega
  have hw:wr64 ((k:Int)+1)=(k:Int)+1:=wr64_of (by omega) (by unfold maxLen at hm; omega);have ih:∀(v37:List Int),f35y1n2 f bb1 bb2 bb4 bb5 ba3 be6 ((k:Int)+1) v37=f35y1n2L bb1 bb2 bb4 bb5 ba3 be6 rest ((k:Int)+1) v37:=fun v37=>f35y1n2L_eq bb1 bb2 bb4 bb5 ba3 be6 rest f (k+1) v37 hd' hm (by simpa using hf);rw [f35y1n2,f35y1n2L];simp only [decide_eq_true hk,cond_true,at_nat,hx,Option.bind_some,hw,ih]
theorem f35y1n2_run(bb1 bb2 bb4 bb5:Int)(ba3:List Qb)(be6 v37:List Int) (hm:((ba3.take (Int.toNat bb2)).drop (Int.toNat bb1)).length≤maxLen):f35y1n2 FUEL bb1 bb2 bb4 bb5 ba3 be6 0 v37=f35y1n2L bb1 bb2 bb4 bb5 ba3 be6 ((ba3.take (Int.toNat bb2)).drop (Int.toNat bb1)) 0 v37:=f35y1n2L_eq bb1 bb2 bb4 bb5 ba3 be6 ((ba3.take (Int.toNat bb2)).drop (Int.toNat bb1)) FUEL 0 v37 List.drop_zero hm (Qam hm)
inductive f35y1n1O where
 | norm (v54:List Int)
noncomputable def f35y1n1E(bb1 bb2:Int)(ba3:List Qb)(bb4 bb5:Int)(be6:List Int):f35y1n1O→Ex×Tr×Hp
 | .norm v54=>(.norm,mkS [(8,(.bp 3 0)),(12,(.bp 4 0)),(13,(jI bb1)),(14,(jI bb2)),(16,(jI (mnI bb4 bb5))),(17,(.own 6))],[some (.lp Qai .busy none (kL 96 [(5,(.bp 1 0)),(7,(.bp 2 0)),(8,(.bp 3 0)),(12,(.bp 4 0))])),some (.box (((cLst 4 Qb.cells) ba3).map .pl)),some (.box [(.pl (.fn 37))]),some (.box (((cInt .i64) bb4).map .pl)),some (.box [(.own 5)]),some (.row false 1 (be6.map (cInt .i64))),some (.row false 1 (v54.map (cInt .i64)))])
noncomputable def f35y1n1S(bb1 bb2:Int)(ba3:List Qb)(bb4 bb5:Int)(be6:List Int):Tr×Hp:=(mkS [(7,(.bp 2 0)),(8,(.bp 3 0)),(12,(.bp 4 0)),(13,(jI bb1)),(14,(jI bb2)),(15,(.pl (.sl .any 4 (((ba3.take (Int.toNat bb2)).drop (Int.toNat bb1)).map Qb.cells)))),(16,(jI (mnI bb4 bb5))),(17,(.pl (.sl .nil 0 [])))],[some (.lp Qai .busy none (kL 96 [(5,(.bp 1 0)),(7,(.bp 2 0)),(8,(.bp 3 0)),(12,(.bp 4 0))])),some (.box (((cLst 4 Qb.cells) ba3).map .pl)),some (.box [(.pl (.fn 37))]),some (.box (((cInt .i64) bb4).map .pl)),some (.box [(.own 5)]),some (.row false 1 (be6.map (cInt .i64)))])
noncomputable def f35y1n1(bb1 bb2:Int)(ba3:List Qb)(bb4 bb5:Int)(be6:List Int):Option f35y1n1O :=
 (f35y1n2 FUEL bb1 bb2 bb4 bb5 ba3 be6 0 []).bind fun o51=>match o51 with
 | .exit2 v53=>some (.norm v53)
theorem f35y1n1_ok(bb1 bb2:Int)(ba3:List Qb)(bb4 bb5:Int)(be6:List Int){o:f35y1n1O}(h:f35y1n1 bb1 bb2 ba3 bb4 bb5 be6=some o):T Try.prog Try.f35.ntmps 6 (cL (Qj 3 (cL (rfB Qai)))) (f35y1n1S bb1 bb2 ba3 bb4 bb5 be6) (·=f35y1n1E bb1 bb2 ba3 bb4 bb5 be6 o):=by
 unfold f35y1n1 at h;refine rN Qf 1 [([],[],[(1,.val (.pl (.int .i64 (((ba3.take (Int.toNat bb2)).drop (Int.toNat bb1)).length:Int))))])] [] [.mat 17 1] [6] [7,8,12,13,14,16,17,41,42,43] (f35y1n2S bb1 bb2 bb4 bb5 ba3 be6 0 []) (ap (Qx (xs:=((ba3.take (Int.toNat bb2)).drop (Int.toNat bb1))) (c:=Qb.cells)) an) ?_;obtain ⟨o51,h52,h⟩:=Qd h;cases o51 with
 | exit2 v53 =>
  obtain rfl:=Qe h;exact T.last' (T.bl (i:=2) (by kernel_rfl) (by kernel_rfl) (f35y1n2_ok FUEL bb1 bb2 bb4 bb5 ba3 be6 0 [] h52)) (tds:=[]) (m:=[6]) (keep:=[8,12,13,14,16,17]) (st2:=(f35y1n1E bb1 bb2 ba3 bb4 bb5 be6 (.norm v53)).2) (by kernel_rfl) an rfl
inductive f35y1n0O where
 | norm (v64:Int) (v65:List Int)
noncomputable def f35y1n0E(a1 a2:Int)(a3:List Qb)(a4:Int)(a5:List Int):f35y1n0O→Ex×Tr×Hp
 | .norm v64 v65=>(.norm,mkS [],[some (.lp Qai .busy none (kL 96 [(5,(.bp 1 0)),(7,(.bp 2 0)),(8,(.bp 3 0)),(12,(.bp 4 0))])),some (.box (((cLst 4 Qb.cells) a3).map .pl)),some (.box [(.pl (.fn 37))]),some (.box (((cInt .i64) v64).map .pl)),some (.box [(.own 5)]),some (.row false 1 (v65.map (cInt .i64)))])
noncomputable def f35y1n0S(a1 a2:Int)(a3:List Qb)(a4:Int)(a5:List Int):Tr×Hp:=(mkS [(5,(.bp 1 0)),(7,(.bp 2 0)),(8,(.bp 3 0)),(12,(.bp 4 0)),(13,(jI a1)),(14,(jI a2))],[some (.lp Qai .busy none (kL 96 [(5,(.bp 1 0)),(7,(.bp 2 0)),(8,(.bp 3 0)),(12,(.bp 4 0))])),some (.box (((cLst 4 Qb.cells) a3).map .pl)),some (.box [(.pl (.fn 37))]),some (.box (((cInt .i64) a4).map .pl)),some (.box [(.own 5)]),some (.row false 1 (a5.map (cInt .i64)))])
noncomputable def f35y1n0(a1 a2:Int)(a3:List Qb)(a4:Int)(a5:List Int):Option f35y1n0O :=
 req (cutB a1 a2 a3.length) <|
 (f45_37 ((a3.take (Int.toNat a2)).drop (Int.toNat a1))).bind fun x10 =>
 (f35y1n1 a1 a2 a3 a4 x10 a5).bind fun o55=>match o55 with
 | .norm v57=>req (cutB a1 a2 a5.length) <|
  (f55 (mnI a4 x10) v57).bind fun x62 =>
  some (.norm (wr64 (a4-(mnI a4 x10))) (putL a5 (Int.toNat a1) (x62.take (Nat.min x62.length ((Int.toNat a2)-(Int.toNat a1))))))
theorem f35y1n0_ok(a1 a2:Int)(a3:List Qb)(a4:Int)(a5:List Int){o:f35y1n0O}(h:f35y1n0 a1 a2 a3 a4 a5=some o):T Try.prog Try.f35.ntmps 6 (rfB Qai) (f35y1n0S a1 a2 a3 a4 a5) (·=f35y1n0E a1 a2 a3 a4 a5 o):=by
 unfold f35y1n0 at h;refine T.block' (i:=1) (by kernel_rfl) ?_;obtain ⟨h7,h⟩:=Qt h;obtain ⟨x10,h11,h⟩:=Qd h;refine rN Qf 3 [([],[(3,.cut (Int.toNat a1) (Int.toNat a2))],[(3,.val (.pl (.sl .any 4 (((a3.take (Int.toNat a2)).drop (Int.toNat a1)).map Qb.cells))))]),([],[jH 3 (jI x10)],[]),j3] [] [] [] [7,8,12,13,14,15,16,17] (f35y1n1S a1 a2 a3 a4 x10 a5) (ap (cut_hl_1_map (c:=Qb.cells) h7) (ap (cut_hl_2 h7) (ap (cut_hl_3 h7) (ap (Qcg (c:=Qb.cells) h7) (ap (congrArg (fun l=>AV.pl (.sl .any 4 l)) (cut_cv (xs:=a3) (c:=Qb.cells) (n:=(Int.toNat a2)) (m:=(Int.toNat a1)))) (ap (f45_37_ok ((a3.take (Int.toNat a2)).drop (Int.toNat a1)) h11) an)))))) ?_;obtain ⟨o55,h56,h⟩:=Qd h;cases o55 with
 | norm v57 =>
  refine T.oneN (by kernel_rfl) (f35y1n1_ok a1 a2 a3 a4 x10 a5 h56) (st2:=(f35y1n1E a1 a2 a3 a4 x10 a5 (.norm v57)).2) rfl ?_;obtain ⟨h61,h⟩:=Qt h;obtain ⟨x62,h63,h⟩:=Qd h;obtain rfl:=Qe h
  exact rE Qf [([],[(3,.cut (Int.toNat a1) (Int.toNat a2)),jH 6 (.pl (.sl .any 1 (x62.map (cInt .i64)))),(7,.num (Nat.min x62.length ((Int.toNat a2)-(Int.toNat a1))))],[(7,.row 5 ((putL a5 (Int.toNat a1) (x62.take (Nat.min x62.length ((Int.toNat a2)-(Int.toNat a1))))).map (cInt .i64)))]),j3] [] [] [] [] (.norm,(f35y1n0E a1 a2 a3 a4 a5 (.norm (wr64 (a4-(mnI a4 x10))) (putL a5 (Int.toNat a1) (x62.take (Nat.min x62.length ((Int.toNat a2)-(Int.toNat a1))))))).2) (ap (cut_hl_1_map (c:=(cInt .i64)) h61) (ap (cut_hl_2 h61) (ap (cut_hl_3 h61) (ap (Qcg (c:=(cInt .i64)) h61) (ap (cpy_k (l:=((Int.toNat a2)-(Int.toNat a1))) (c:=(cInt .i64)) (ys:=x62)) (ap (vw_le (cut_hl_3 h61) (Qcg (c:=(cInt .i64)) h61)) (ap (len_all (c:=(cInt .i64)) (xs:=x62) (n:=1) (fun _=>rfl)) (ap (cpy_cv (xs:=a5) (ys:=x62) (c:=(cInt .i64)) (a:=(Int.toNat a1)) (k:=(Nat.min x62.length ((Int.toNat a2)-(Int.toNat a1))))) (ap (f55_ok (mnI a4 x10) v57 h63) an))))))))) rfl
theorem f35y1_norm(a1 a2:Int)(a3:List Qb)(a4:Int)(a5:List Int){v64:Int}{v65:List Int}(h:f35y1n0 a1 a2 a3 a4 a5=some (.norm v64 v65)):CallY Try.prog [(jI a1),(jI a2)] 0 [some (.lp Qai .ready none (kL 96 [(5,(.bp 1 0)),(7,(.bp 2 0)),(8,(.bp 3 0)),(12,(.bp 4 0))])),some (.box (((cLst 4 Qb.cells) a3).map .pl)),some (.box [(.pl (.fn 37))]),some (.box (((cInt .i64) a4).map .pl)),some (.box [(.own 5)]),some (.row false 1 (a5.map (cInt .i64)))] true [some (.lp Qai .ready none (kL 96 [(5,(.bp 1 0)),(7,(.bp 2 0)),(8,(.bp 3 0)),(12,(.bp 4 0))])),some (.box (((cLst 4 Qb.cells) a3).map .pl)),some (.box [(.pl (.fn 37))]),some (.box (((cInt .i64) v64).map .pl)),some (.box [(.own 5)]),some (.row false 1 (v65.map (cInt .i64)))] :=
 CallY.mk (c:=Qai) (n:=Try.f35.ntmps) (base:=6) (cs:=(kL 96 [(5,(.bp 1 0)),(7,(.bp 2 0)),(8,(.bp 3 0)),(12,(.bp 4 0))])) (cs2:=(kL 96 [(5,(.bp 1 0)),(7,(.bp 2 0)),(8,(.bp 3 0)),(12,(.bp 4 0))])) (cs3:=(kL 96 [(5,(.bp 1 0)),(7,(.bp 2 0)),(8,(.bp 3 0)),(12,(.bp 4 0))])) (st2:=(mkS [(5,(.bp 1 0)),(7,(.bp 2 0)),(8,(.bp 3 0)),(12,(.bp 4 0)),(13,(jI a1)),(14,(jI a2))],[some (.lp Qai .ready none (kL 96 [(5,(.bp 1 0)),(7,(.bp 2 0)),(8,(.bp 3 0)),(12,(.bp 4 0))])),some (.box (((cLst 4 Qb.cells) a3).map .pl)),some (.box [(.pl (.fn 37))]),some (.box (((cInt .i64) a4).map .pl)),some (.box [(.own 5)]),some (.row false 1 (a5.map (cInt .i64)))])) (e:=(f35y1n0E a1 a2 a3 a4 a5 (.norm v64 v65))) (pend:=none)
  (run_ok (P:=Try.prog) (C:=cfg) Qf (c:=rfA Qai) (rs:=[j3,j3]) (ps:=[]) (tds:=[]) (m:=[]) (keep:=[5,7,8,12,13,14]) (by kernel_rfl) an)
  (f35y1n0_ok a1 a2 a3 a4 a5 h)

noncomputable def c63:Code:=Try.f63.body.getD .skip
inductive f63r1n2O where
 | exit0 (v82:List Int)
noncomputable def f63r1n2E(ba1:List Qb)(bb2:Int)(be3:List Int):f63r1n2O→Ex×Tr×Hp
 | .exit0 v82=>((.exit 0),mkS [(0,(.yl 0)),(3,(.bp 3 0)),(5,(.own 9))],[some (.lp Qai .ready none (kL 96 [(5,(.bp 4 0)),(7,(.bp 5 0)),(8,(.bp 6 0)),(12,(.bp 7 0))])),some (.box (((cLst 4 Qb.cells) ba1).map .pl)),some (.box [(.pl (.fn 36))]),some (.box ((Qaq false).map .pl)),some (.box (((cLst 4 Qb.cells) ba1).map .pl)),some (.box [(.pl (.fn 37))]),some (.box (((cInt .i64) bb2).map .pl)),some (.box [(.own 8)]),some (.row false 1 (be3.map (cInt .i64))),some (.row false 1 (v82.map (cInt .i64)))])
noncomputable def f63r1n2S(ba1:List Qb)(bb2:Int)(be3:List Int)(v54:Int)(v55:List Int):Tr×Hp:=(mkS [(0,(.yl 0)),(1,(.bp 1 0)),(2,(.bp 2 0)),(3,(.bp 3 0)),(5,(.own 9)),(11,(jI (ba1.length:Int))),(12,(jI v54))],[some (.lp Qai .ready none (kL 96 [(5,(.bp 4 0)),(7,(.bp 5 0)),(8,(.bp 6 0)),(12,(.bp 7 0))])),some (.box (((cLst 4 Qb.cells) ba1).map .pl)),some (.box [(.pl (.fn 36))]),some (.box ((Qaq false).map .pl)),some (.box (((cLst 4 Qb.cells) ba1).map .pl)),some (.box [(.pl (.fn 37))]),some (.box (((cInt .i64) bb2).map .pl)),some (.box [(.own 8)]),some (.row false 1 (be3.map (cInt .i64))),some (.row false 1 (v55.map (cInt .i64)))])
noncomputable def f63r1n2:Nat→List Qb→Int→List Int→Int→List Int→Option f63r1n2O
 | 0,_,_,_,_,_=>none
 | f+1,ba1,bb2,be3,v54,v55 =>
  bif decide (v54<(ba1.length:Int)) then
   bif (decide ((wr64 (v54+1))=(ba1.length:Int))) then
    req (fit (v55.length+1) 8) <|
    (f63r1n2 f ba1 bb2 be3 (wr64 (v54+1)) (v55++[(wr64 (v54+1))]))
   else
    (at? ba1 v54).bind fun x72 =>
    (f36 x72).bind fun x74 =>
    (at? ba1 (wr64 (v54+1))).bind fun x76 =>
    (f36 x76).bind fun x78 =>
    bif decide (x74.level=x78.level) then
     (f63r1n2 f ba1 bb2 be3 (wr64 (v54+1)) v55)
    else
     req (fit (v55.length+1) 8) <|
     (f63r1n2 f ba1 bb2 be3 (wr64 (v54+1)) (v55++[(wr64 (v54+1))]))
  else
   some (.exit0 v55)
theorem f63r1n2_ok:∀(f:Nat)(ba1:List Qb)(bb2:Int)(be3:List Int)(v54:Int)(v55:List Int){o:f63r1n2O},f63r1n2 f ba1 bb2 be3 v54 v55=some o→TL Try.prog Try.f63.ntmps 9 f (cL (cL (Qj 1 (cL (Qj 1 c63))))) (f63r1n2S ba1 bb2 be3 v54 v55) (·=f63r1n2E ba1 bb2 be3 o)
 | 0,_,_,_,_,_,o,h=>by rw [f63r1n2] at h; cases h
 | f+1,ba1,bb2,be3,v54,v55,o,h=>by
  rw [f63r1n2] at h;refine TL.body (K:=fun s=>∃v54:Int,∃v55:List Int,s=(f63r1n2S ba1 bb2 be3 v54 v55)∧f63r1n2 f ba1 bb2 be3 v54 v55=some o) ?_ (by rintro _ ⟨v54,v55,rfl,hk⟩; exact f63r1n2_ok f _ _ _ _ _ hk);rcases Qh h with ⟨h57,h⟩|⟨h57,h⟩
  ·rcases Qh h with ⟨h70,h⟩|⟨h70,h⟩
   ·obtain ⟨h71,h⟩:=Qt h;exact rE Qf [j3,j3,(jT [6,7,8,9,10,11,12,13,14,15,16,17,18,19,20,21],[(22,.bool true)],[(3,.val (jI (ba1.length:Int)))]),([],[(4,.fits)],[(4,.row 12 ((v55++[(wr64 (v54+1))]).map (cInt .i64)))]),j3] [some true,none] [] [12] [0,1,2,3,5,11,12] (.norm,(f63r1n2S ba1 bb2 be3 (wr64 (v54+1)) (v55++[(wr64 (v54+1))]))) (ap h57 (ap (Qx (xs:=ba1) (c:=Qb.cells)) (ap h70 (ap4 h70 (ap4 h70 (ap4 h70 (ap4 h70 (ap (fit_map (te:=ti3) (xs:=v55) (n:=1) (c:=(cInt .i64)) h71 rfl) (ap (app_cv (xs:=v55) (ys:=[(wr64 (v54+1))]) (c:=(cInt .i64))) an))))))))) (Qp.norm ⟨(wr64 (v54+1)),(v55++[(wr64 (v54+1))]),rfl,h⟩)
   ·obtain ⟨x72,h73,h⟩:=Qd h;obtain ⟨x74,h75,h⟩:=Qd h;obtain ⟨x76,h77,h⟩:=Qd h;obtain ⟨x78,h79,h⟩:=Qd h;rcases Qh h with ⟨h80,h⟩|⟨h80,h⟩
    ·exact rE Qf [j3,j3,(jF [6,7,8,9,10,11,12,13,14,15,16,17,18,19,20,21],[(9,.idx (Int.toNat v54) (Qb.cells x72)),jH 11 (jA Key_.cells x74),(17,.idx (Int.toNat (wr64 (v54+1))) (Qb.cells x76)),jH 19 (jA Key_.cells x78),(22,.bool false)],[(3,.val (jI (ba1.length:Int)))]),j3] [some true,some false] [] [9] [0,1,2,3,5,11,12] (.norm,(f63r1n2S ba1 bb2 be3 (wr64 (v54+1)) v55)) (ap h57 (ap (Qx (xs:=ba1) (c:=Qb.cells)) (ap4 h70 (ap (Qg h73).1 (ap (Qm Qb.cells (Qg h73).2) (ap4 h70 (ap4 h70 (ap (Qg h77).1 (ap (Qm Qb.cells (Qg h77).2) (ap h70 (ap4 h70 (ap (same_val (e:=⟨false,36,[(jA Qb.cells x72)],[],(jA Key_.cells x74),[]⟩) (f:=⟨false,36,[(jA Qb.cells x76)],[],(jA Key_.cells x78),[]⟩) (fun k=>by simp only [jL,jS,jI,jB,jA,Qb.cells_eq,Qb.map_eq,Qa.cells_eq,Qa.map_eq,Key_.cells_eq,Key_.map_eq,Qn.cells_eq,Qn.map_eq,List.cons.injEq,AV.pl.injEq,PV.str.injEq,PV.int.injEq,PV.bool.injEq,PV.agg.injEq,PV.sl.injEq,and_true,true_and] at k; have e0:x74=x78:=Option.some.inj (by rw [←h75,←h79]; simp only [k]); exact ⟨by rw [e0],rfl⟩)) (ap (f36_ok x72 h75) (ap (f36_ok x76 h79) (ap (Qaf h80) an))))))))))))))) (Qp.norm ⟨(wr64 (v54+1)),v55,rfl,h⟩)
    ·obtain ⟨h81,h⟩:=Qt h
     exact rE Qf [j3,j3,(jF [6,7,8,9,10,11,12,13,14,15,16,17,18,19,20,21],[(9,.idx (Int.toNat v54) (Qb.cells x72)),jH 11 (jA Key_.cells x74),(17,.idx (Int.toNat (wr64 (v54+1))) (Qb.cells x76)),jH 19 (jA Key_.cells x78),(22,.bool false)],[(3,.val (jI (ba1.length:Int)))]),([],[(4,.fits)],[(4,.row 12 ((v55++[(wr64 (v54+1))]).map (cInt .i64)))]),j3] [some true,some true] [] [12] [0,1,2,3,5,11,12] (.norm,(f63r1n2S ba1 bb2 be3 (wr64 (v54+1)) (v55++[(wr64 (v54+1))]))) (ap h57 (ap (Qx (xs:=ba1) (c:=Qb.cells)) (ap4 h70 (ap (Qg h73).1 (ap (Qm Qb.cells (Qg h73).2) (ap4 h70 (ap4 h70 (ap (Qg h77).1 (ap (Qm Qb.cells (Qg h77).2) (ap h70 (ap4 h70 (ap (same_val (e:=⟨false,36,[(jA Qb.cells x72)],[],(jA Key_.cells x74),[]⟩) (f:=⟨false,36,[(jA Qb.cells x76)],[],(jA Key_.cells x78),[]⟩) (fun k=>by simp only [jL,jS,jI,jB,jA,Qb.cells_eq,Qb.map_eq,Qa.cells_eq,Qa.map_eq,Key_.cells_eq,Key_.map_eq,Qn.cells_eq,Qn.map_eq,List.cons.injEq,AV.pl.injEq,PV.str.injEq,PV.int.injEq,PV.bool.injEq,PV.agg.injEq,PV.sl.injEq,and_true,true_and] at k; have e0:x74=x78:=Option.some.inj (by rw [←h75,←h79]; simp only [k]); exact ⟨by rw [e0],rfl⟩)) (ap (f36_ok x72 h75) (ap (f36_ok x76 h79) (ap (Qao h80) (ap (fit_map (te:=ti3) (xs:=v55) (n:=1) (c:=(cInt .i64)) h81 rfl) (ap (app_cv (xs:=v55) (ys:=[(wr64 (v54+1))]) (c:=(cInt .i64))) an))))))))))))))))) (Qp.norm ⟨(wr64 (v54+1)),(v55++[(wr64 (v54+1))]),rfl,h⟩)
  ·obtain rfl:=Qe h;exact rK Qf 2 [j3] [some false] [] [9] [0,3,5] (.exit 0) ((f63r1n2E ba1 bb2 be3 (.exit0 v55)).2) (ap h57 an) (Qp.out rfl rfl)
noncomputable def f63r1n2L(ba1:List Qb)(bb2:Int)(be3:List Int):List Qb→Int→(List Int)→Option f63r1n2O
 | [],v54,v55 =>
  some (.exit0 v55)
 | x0::rest,v54,v55 =>
  bif (decide ((wr64 (v54+1))=(ba1.length:Int))) then
   req (fit (v55.length+1) 8) <|
   (f63r1n2L ba1 bb2 be3 rest (v54+1) (v55++[(wr64 (v54+1))]))
  else
   (f36 x0).bind fun x74 =>
   (at? ba1 (wr64 (v54+1))).bind fun x76 =>
   (f36 x76).bind fun x78 =>
   bif decide (x74.level=x78.level) then
    (f63r1n2L ba1 bb2 be3 rest (v54+1) v55)
   else
    req (fit (v55.length+1) 8) <|
    (f63r1n2L ba1 bb2 be3 rest (v54+1) (v55++[(wr64 (v54+1))]))
theorem f63r1n2L_eq(ba1:List Qb)(bb2:Int)(be3:List Int):∀(rest:List Qb)(f k:Nat)(v55:List Int),ba1.drop k=rest→ba1.length≤maxLen→rest.length<f→f63r1n2 f ba1 bb2 be3 (k:Int) v55=f63r1n2L ba1 bb2 be3 rest (k:Int) v55
 | _,0,_,_,_,_,hf=>absurd hf (Nat.not_lt_zero _)
 | [],f+1,k,v55,hd,hm,hf=>by
  have hk:¬((k:Int)<(ba1.length:Int)):=by have:=Qcb hd; omega
  rw [f63r1n2,f63r1n2L];simp only [decide_eq_false hk,cond_false]
 | x0::rest,f+1,k,v55,hd,hm,hf=>by
  obtain ⟨hx,hlt,hd'⟩:=Qbl hd;have hk:(k:Int)<(ba1.length:Int):=by omega
  have hw:wr64 ((k:Int)+1)=(k:Int)+1:=wr64_of (by omega) (by unfold maxLen at hm; omega);have ih:∀(v55:List Int),f63r1n2 f ba1 bb2 be3 ((k:Int)+1) v55=f63r1n2L ba1 bb2 be3 rest ((k:Int)+1) v55:=fun v55=>f63r1n2L_eq ba1 bb2 be3 rest f (k+1) v55 hd' hm (by simpa using hf);rw [f63r1n2,f63r1n2L];simp only [decide_eq_true hk,cond_true,at_nat,hx,Option.bind_some,hw,ih]
theorem f63r1n2_run(ba1:List Qb)(bb2:Int)(be3 v55:List Int)(hm:ba1.length≤maxLen):f63r1n2 FUEL ba1 bb2 be3 0 v55=f63r1n2L ba1 bb2 be3 ba1 0 v55:=f63r1n2L_eq ba1 bb2 be3 ba1 FUEL 0 v55 List.drop_zero hm (Qam hm)
inductive f63r1n1O where
 | norm (v86:List Int)
noncomputable def f63r1n1E(ba1:List Qb)(bb2:Int)(be3:List Int):f63r1n1O→Ex×Tr×Hp
 | .norm v86=>(.norm,mkS [(0,(.yl 0)),(3,(.bp 3 0)),(5,(.own 9))],[some (.lp Qai .ready none (kL 96 [(5,(.bp 4 0)),(7,(.bp 5 0)),(8,(.bp 6 0)),(12,(.bp 7 0))])),some (.box (((cLst 4 Qb.cells) ba1).map .pl)),some (.box [(.pl (.fn 36))]),some (.box ((Qaq false).map .pl)),some (.box (((cLst 4 Qb.cells) ba1).map .pl)),some (.box [(.pl (.fn 37))]),some (.box (((cInt .i64) bb2).map .pl)),some (.box [(.own 8)]),some (.row false 1 (be3.map (cInt .i64))),some (.row false 1 (v86.map (cInt .i64)))])
noncomputable def f63r1n1S(ba1:List Qb)(bb2:Int)(be3:List Int):Tr×Hp:=(mkS [(0,(.yl 0)),(1,(.bp 1 0)),(2,(.bp 2 0)),(3,(.bp 3 0)),(5,(.pl (.sl .nil 0 [])))],[some (.lp Qai .ready none (kL 96 [(5,(.bp 4 0)),(7,(.bp 5 0)),(8,(.bp 6 0)),(12,(.bp 7 0))])),some (.box (((cLst 4 Qb.cells) ba1).map .pl)),some (.box [(.pl (.fn 36))]),some (.box ((Qaq false).map .pl)),some (.box (((cLst 4 Qb.cells) ba1).map .pl)),some (.box [(.pl (.fn 37))]),some (.box (((cInt .i64) bb2).map .pl)),some (.box [(.own 8)]),some (.row false 1 (be3.map (cInt .i64)))])
noncomputable def f63r1n1(ba1:List Qb)(bb2:Int)(be3:List Int):Option f63r1n1O :=
 (f63r1n2 FUEL ba1 bb2 be3 0 []).bind fun o83=>match o83 with
 | .exit0 v85=>some (.norm v85)
theorem f63r1n1_ok(ba1:List Qb)(bb2:Int)(be3:List Int){o:f63r1n1O}(h:f63r1n1 ba1 bb2 be3=some o):T Try.prog Try.f63.ntmps 9 (cL (Qj 1 c63)) (f63r1n1S ba1 bb2 be3) (·=f63r1n1E ba1 bb2 be3 o):=by
 unfold f63r1n1 at h;refine rN Qf 1 [([],[],[(1,.val (jI (ba1.length:Int)))])] [] [.mat 5 1] [9] [0,1,2,3,5,11,12] (f63r1n2S ba1 bb2 be3 0 []) (ap (Qx (xs:=ba1) (c:=Qb.cells)) an) ?_;obtain ⟨o83,h84,h⟩:=Qd h;cases o83 with
 | exit0 v85 =>
  obtain rfl:=Qe h;exact T.last' (T.bl (i:=0) (by kernel_rfl) (by kernel_rfl) (f63r1n2_ok FUEL ba1 bb2 be3 0 [] h84)) (tds:=[]) (m:=[9]) (keep:=[0,3,5]) (st2:=(f63r1n1E ba1 bb2 be3 (.norm v85)).2) (by kernel_rfl) an rfl
inductive f63r1n4O where
 | norm (v148:Int)
noncomputable def f63r1n4E(bb1:Int)(be2:List Int)(ba3:List Qb)(bb4:Int)(be5:List Int):f63r1n4O→Ex×Tr×Hp
 | .norm v148=>(.norm,mkS [(0,(.yl 0)),(3,(.bp 3 0)),(5,(.own 9)),(8,(jI bb1)),(9,(jI v148)),(45,(jI (be2.length:Int))),(46,(jI bb1))],[some (.lp Qai .ready none (kL 96 [(5,(.bp 4 0)),(7,(.bp 5 0)),(8,(.bp 6 0)),(12,(.bp 7 0))])),some (.box (((cLst 4 Qb.cells) ba3).map .pl)),some (.box [(.pl (.fn 36))]),some (.box ((Qaq false).map .pl)),some (.box (((cLst 4 Qb.cells) ba3).map .pl)),some (.box [(.pl (.fn 37))]),some (.box (((cInt .i64) bb4).map .pl)),some (.box [(.own 8)]),some (.row false 1 (be5.map (cInt .i64))),some (.row false 1 (be2.map (cInt .i64)))])
noncomputable def f63r1n4S(bb1:Int)(be2:List Int)(ba3:List Qb)(bb4:Int)(be5:List Int):Tr×Hp:=(mkS [(0,(.yl 0)),(3,(.bp 3 0)),(5,(.own 9)),(8,(jI bb1)),(9,(jI 0)),(45,(jI (be2.length:Int))),(46,(jI bb1))],[some (.lp Qai .ready none (kL 96 [(5,(.bp 4 0)),(7,(.bp 5 0)),(8,(.bp 6 0)),(12,(.bp 7 0))])),some (.box (((cLst 4 Qb.cells) ba3).map .pl)),some (.box [(.pl (.fn 36))]),some (.box ((Qaq false).map .pl)),some (.box (((cLst 4 Qb.cells) ba3).map .pl)),some (.box [(.pl (.fn 37))]),some (.box (((cInt .i64) bb4).map .pl)),some (.box [(.own 8)]),some (.row false 1 (be5.map (cInt .i64))),some (.row false 1 (be2.map (cInt .i64)))])
noncomputable def f63r1n4(bb1:Int)(be2:List Int)(ba3:List Qb)(bb4:Int)(be5:List Int):Option f63r1n4O :=
 bif decide (0<bb1) then
  (at? be2 (wr64 (bb1-1))).bind fun x146 =>
  some (.norm x146)
 else
  some (.norm 0)
theorem f63r1n4_ok(bb1:Int)(be2:List Int)(ba3:List Qb)(bb4:Int)(be5:List Int){o:f63r1n4O}(h:f63r1n4 bb1 be2 ba3 bb4 be5=some o):T Try.prog Try.f63.ntmps 9 (cL (Qj 4 (cL (cL (Qj 2 (cL (cL (Qj 1 (Qj 1 (Qj 1 c63)))))))))) (f63r1n4S bb1 be2 ba3 bb4 be5) (·=f63r1n4E bb1 be2 ba3 bb4 be5 o):=by
 unfold f63r1n4 at h;rcases Qh h with ⟨h145,h⟩|⟨h145,h⟩
 ·obtain ⟨x146,h147,h⟩:=Qd h;obtain rfl:=Qe h;exact rE Qf [j3,([],[(3,.at_ (Int.toNat (wr64 (bb1-1)))),(4,.idx 0 ((cInt .i64) x146))],[])] [some true] [] [9] [0,3,5,8,9,45,46] (.norm,(f63r1n4E bb1 be2 ba3 bb4 be5 (.norm x146)).2) (ap h145 (ap (Qg h147).1 (ap (Qs (cInt .i64) (Qg h147).2) (ap (Qm (cInt .i64) (Qg h147).2) an)))) rfl
 ·obtain rfl:=Qe h;exact rE Qf [j3] [some false] [] [9] [0,3,5,8,9,45,46] (.norm,(f63r1n4E bb1 be2 ba3 bb4 be5 (.norm 0)).2) (ap h145 an) rfl
inductive f63r1n3O where
 | norm (v158:Int) (v159:List Int)
noncomputable def f63r1n3E(be1:List Int)(bb2:Int)(ba3:List Qb)(bb4:Int)(be5:List Int):f63r1n3O→Ex×Tr×Hp
 | .norm v158 v159=>(.norm,mkS [(0,(.yl 0)),(3,(.bp 3 0)),(5,(.own 9)),(45,(jI (be1.length:Int))),(46,(jI bb2))],[some (.lp Qai .ready none (kL 96 [(5,(.bp 4 0)),(7,(.bp 5 0)),(8,(.bp 6 0)),(12,(.bp 7 0))])),some (.box (((cLst 4 Qb.cells) ba3).map .pl)),some (.box [(.pl (.fn 36))]),some (.box ((Qaq false).map .pl)),some (.box (((cLst 4 Qb.cells) ba3).map .pl)),some (.box [(.pl (.fn 37))]),some (.box (((cInt .i64) v158).map .pl)),some (.box [(.own 8)]),some (.row false 1 (v159.map (cInt .i64))),some (.row false 1 (be1.map (cInt .i64)))])
noncomputable def f63r1n3S(be1:List Int)(bb2:Int)(ba3:List Qb)(bb4:Int)(be5:List Int):Tr×Hp:=(mkS [(0,(.yl 0)),(3,(.bp 3 0)),(5,(.own 9)),(45,(jI (be1.length:Int))),(46,(jI bb2))],[some (.lp Qai .ready none (kL 96 [(5,(.bp 4 0)),(7,(.bp 5 0)),(8,(.bp 6 0)),(12,(.bp 7 0))])),some (.box (((cLst 4 Qb.cells) ba3).map .pl)),some (.box [(.pl (.fn 36))]),some (.box ((Qaq false).map .pl)),some (.box (((cLst 4 Qb.cells) ba3).map .pl)),some (.box [(.pl (.fn 37))]),some (.box (((cInt .i64) bb4).map .pl)),some (.box [(.own 8)]),some (.row false 1 (be5.map (cInt .i64))),some (.row false 1 (be1.map (cInt .i64)))])
noncomputable def f63r1n3(be1:List Int)(bb2:Int)(ba3:List Qb)(bb4:Int)(be5:List Int):Option f63r1n3O :=
 (f63r1n4 bb2 be1 ba3 bb4 be5).bind fun o149=>match o149 with
 | .norm v151=>(at? be1 bb2).bind fun x152 =>
  (f35y1n0 v151 x152 ba3 bb4 be5).bind fun o154=>match o154 with
  | .norm v156 v157=>some (.norm v156 v157)
theorem f63r1n3_ok(be1:List Int)(bb2:Int)(ba3:List Qb)(bb4:Int)(be5:List Int){o:f63r1n3O}(h:f63r1n3 be1 bb2 ba3 bb4 be5=some o):T Try.prog Try.f63.ntmps 9 (cL (Qj 2 (cL (cL (Qj 1 (Qj 1 (Qj 1 c63))))))) (f63r1n3S be1 bb2 ba3 bb4 be5) (·=f63r1n3E be1 bb2 ba3 bb4 be5 o):=by
 unfold f63r1n3 at h;refine T.block' (i:=3) (by kernel_rfl) ?_;refine rN Qf 4 [j3,j3,j3,j3] [none] [] [9] [0,3,5,8,9,45,46] (f63r1n4S bb2 be1 ba3 bb4 be5) an ?_;obtain ⟨o149,h150,h⟩:=Qd h;cases o149 with
 | norm v151 =>
  refine T.oneN (by kernel_rfl) (f63r1n4_ok bb2 be1 ba3 bb4 be5 h150) (st2:=(f63r1n4E bb2 be1 ba3 bb4 be5 (.norm v151)).2) rfl ?_;refine rN Qf 0 [] [] [] [9] [0,3,5,8,9,45,46] (mkS [(0,(.yl 0)),(3,(.bp 3 0)),(5,(.own 9)),(8,(jI bb2)),(9,(jI v151)),(45,(jI (be1.length:Int))),(46,(jI bb2))],[some (.lp Qai .ready none (kL 96 [(5,(.bp 4 0)),(7,(.bp 5 0)),(8,(.bp 6 0)),(12,(.bp 7 0))])),some (.box (((cLst 4 Qb.cells) ba3).map .pl)),some (.box [(.pl (.fn 36))]),some (.box ((Qaq false).map .pl)),some (.box (((cLst 4 Qb.cells) ba3).map .pl)),some (.box [(.pl (.fn 37))]),some (.box (((cInt .i64) bb4).map .pl)),some (.box [(.own 8)]),some (.row false 1 (be5.map (cInt .i64))),some (.row false 1 (be1.map (cInt .i64)))]) an ?_;obtain ⟨x152,h153,h⟩:=Qd h;obtain ⟨o154,h155,h⟩:=Qd h;cases o154 with
  | norm v156 v157 =>
   refine T.oneN (by kernel_rfl) (yN Qf ([],[(4,.at_ (Int.toNat bb2)),(5,.idx 0 ((cInt .i64) x152))],[]) 6 true [some (.lp Qai .ready none (kL 96 [(5,(.bp 4 0)),(7,(.bp 5 0)),(8,(.bp 6 0)),(12,(.bp 7 0))])),none,none,none,some (.box (((cLst 4 Qb.cells) ba3).map .pl)),some (.box [(.pl (.fn 37))]),some (.box (((cInt .i64) v156).map .pl)),some (.box [(.own 8)]),some (.row false 1 (v157.map (cInt .i64))),none] [] [9] [0,3,5,45,46,70] (mkS [(0,(.yl 0)),(3,(.bp 3 0)),(5,(.own 9)),(45,(jI (be1.length:Int))),(46,(jI bb2)),(70,(jB false))],[some (.lp Qai .ready none (kL 96 [(5,(.bp 4 0)),(7,(.bp 5 0)),(8,(.bp 6 0)),(12,(.bp 7 0))])),some (.box (((cLst 4 Qb.cells) ba3).map .pl)),some (.box [(.pl (.fn 36))]),some (.box ((Qaq false).map .pl)),some (.box (((cLst 4 Qb.cells) ba3).map .pl)),some (.box [(.pl (.fn 37))]),some (.box (((cInt .i64) v156).map .pl)),some (.box [(.own 8)]),some (.row false 1 (v157.map (cInt .i64))),some (.row false 1 (be1.map (cInt .i64)))]) (ap (Qg h153).1 (ap (Qs (cInt .i64) (Qg h153).2) (ap (Qm (cInt .i64) (Qg h153).2) (ap (CallY.rn 10 [0,4,5,6,7,8] (f35y1_norm v151 x152 ba3 bb4 be5 h155)) an))))) rfl ?_
   obtain rfl:=Qe h;exact rE Qf [] [none] [] [9] [0,3,5,45,46] (.norm,(f63r1n3E be1 bb2 ba3 bb4 be5 (.norm v156 v157)).2) an rfl
inductive f63r1n5O where
 | exit2 (v164:Int) (v165:List Int)
noncomputable def f63r1n5E(v89:List Int)(a1:List Qb):f63r1n5O→Ex×Tr×Hp
 | .exit2 v164 v165=>((.exit 2),mkS [],[some (.lp Qai .ready none (kL 96 [(5,(.bp 4 0)),(7,(.bp 5 0)),(8,(.bp 6 0)),(12,(.bp 7 0))])),some (.box (((cLst 4 Qb.cells) a1).map .pl)),some (.box [(.pl (.fn 36))]),some (.box ((Qaq false).map .pl)),some (.box (((cLst 4 Qb.cells) a1).map .pl)),some (.box [(.pl (.fn 37))]),some (.box (((cInt .i64) v164).map .pl)),some (.box [(.own 8)]),some (.row false 1 (v165.map (cInt .i64)))])
noncomputable def f63r1n5S(v89:List Int)(a1:List Qb)(v134 v135:Int)(v136:List Int):Tr×Hp:=(mkS [(0,(.yl 0)),(3,(.bp 3 0)),(5,(.own 9)),(45,(jI (v89.length:Int))),(46,(jI v134))],[some (.lp Qai .ready none (kL 96 [(5,(.bp 4 0)),(7,(.bp 5 0)),(8,(.bp 6 0)),(12,(.bp 7 0))])),some (.box (((cLst 4 Qb.cells) a1).map .pl)),some (.box [(.pl (.fn 36))]),some (.box ((Qaq false).map .pl)),some (.box (((cLst 4 Qb.cells) a1).map .pl)),some (.box [(.pl (.fn 37))]),some (.box (((cInt .i64) v135).map .pl)),some (.box [(.own 8)]),some (.row false 1 (v136.map (cInt .i64))),some (.row false 1 (v89.map (cInt .i64)))])
noncomputable def f63r1n5:Nat→List Int→List Qb→Int→Int→List Int→Option f63r1n5O
 | 0,_,_,_,_,_=>none
 | f+1,v89,a1,v134,v135,v136 =>
  bif decide (v134<(v89.length:Int)) then
   (f63r1n3 v89 v134 a1 v135 v136).bind fun o160=>match o160 with
   | .norm v162 v163=>(f63r1n5 f v89 a1 (wr64 (v134+1)) v162 v163)
  else
   some (.exit2 v135 v136)
theorem f63r1n5_ok:∀(f:Nat)(v89:List Int)(a1:List Qb)(v134 v135:Int)(v136:List Int){o:f63r1n5O},f63r1n5 f v89 a1 v134 v135 v136=some o→TL Try.prog Try.f63.ntmps 9 f (cL (cL (Qj 1 (Qj 1 (Qj 1 c63))))) (f63r1n5S v89 a1 v134 v135 v136) (·=f63r1n5E v89 a1 o)
 | 0,_,_,_,_,_,o,h=>by rw [f63r1n5] at h; cases h
 | f+1,v89,a1,v134,v135,v136,o,h=>by
  rw [f63r1n5] at h;refine TL.body (K:=fun s=>∃v134:Int,∃v135:Int,∃v136:List Int,s=(f63r1n5S v89 a1 v134 v135 v136)∧f63r1n5 f v89 a1 v134 v135 v136=some o) ?_ (by rintro _ ⟨v134,v135,v136,rfl,hk⟩; exact f63r1n5_ok f _ _ _ _ _ hk);rcases Qh h with ⟨h138,h⟩|⟨h138,h⟩
  ·refine rN Qf 2 [j3] [some true] [] [9] [0,3,5,45,46] (f63r1n3S v89 v134 a1 v135 v136) (ap h138 an) ?_;obtain ⟨o160,h161,h⟩:=Qd h;cases o160 with
   | norm v162 v163 =>
    refine T.oneN (by kernel_rfl) (f63r1n3_ok v89 v134 a1 v135 v136 h161) (st2:=(f63r1n3E v89 v134 a1 v135 v136 (.norm v162 v163)).2) rfl ?_;exact rE Qf [j3] [] [] [9] [0,3,5,45,46] (.norm,(f63r1n5S v89 a1 (wr64 (v134+1)) v162 v163)) an (Qp.norm ⟨(wr64 (v134+1)),v162,v163,rfl,h⟩)
  ·obtain rfl:=Qe h;exact rK Qf 2 [j3] [some false] [] [] [] (.exit 2) ((f63r1n5E v89 a1 (.exit2 v135 v136)).2) (ap h138 an) (Qp.out rfl rfl)
inductive f63r1n0O where
 | norm (v170:Int) (v171:List Int)
noncomputable def f63r1n0E(a1:List Qb)(a2:Int)(a3:List Int):f63r1n0O→Ex×Tr×Hp
 | .norm v170 v171=>(.norm,mkS [],[some (.lp Qai .ready none (kL 96 [(5,(.bp 4 0)),(7,(.bp 5 0)),(8,(.bp 6 0)),(12,(.bp 7 0))])),some (.box (((cLst 4 Qb.cells) a1).map .pl)),some (.box [(.pl (.fn 36))]),some (.box ((Qaq false).map .pl)),some (.box (((cLst 4 Qb.cells) a1).map .pl)),some (.box [(.pl (.fn 37))]),some (.box (((cInt .i64) v170).map .pl)),some (.box [(.own 8)]),some (.row false 1 (v171.map (cInt .i64)))])
noncomputable def f63r1n0S(a1:List Qb)(a2:Int)(a3:List Int):Tr×Hp:=(Qaa [(.yl 0),(.bp 1 0),(.bp 2 0),(.bp 3 0)] 0 .leaf,[some (.lp Qai .ready none (kL 96 [(5,(.bp 4 0)),(7,(.bp 5 0)),(8,(.bp 6 0)),(12,(.bp 7 0))])),some (.box (((cLst 4 Qb.cells) a1).map .pl)),some (.box [(.pl (.fn 36))]),some (.box ((Qaq false).map .pl)),some (.box (((cLst 4 Qb.cells) a1).map .pl)),some (.box [(.pl (.fn 37))]),some (.box (((cInt .i64) a2).map .pl)),some (.box [(.own 8)]),some (.row false 1 (a3.map (cInt .i64)))])
noncomputable def f63r1n0(a1:List Qb)(a2:Int)(a3:List Int):Option f63r1n0O :=
 (f63r1n1 a1 a2 a3).bind fun o87=>match o87 with
 | .norm v89=>(f63r1n5 FUEL v89 a1 0 a2 a3).bind fun o166=>match o166 with
  | .exit2 v168 v169=>some (.norm v168 v169)
theorem f63r1n0_ok(a1:List Qb)(a2:Int)(a3:List Int){o:f63r1n0O}(h:f63r1n0 a1 a2 a3=some o):T Try.prog Try.f63.ntmps 9 c63 (f63r1n0S a1 a2 a3) (·=f63r1n0E a1 a2 a3 o):=by
 unfold f63r1n0 at h;refine rN Qf 1 [j3] [] [] [] [0,1,2,3,5] (f63r1n1S a1 a2 a3) an ?_;obtain ⟨o87,h88,h⟩:=Qd h;cases o87 with
 | norm v89 =>
  refine T.oneN (by kernel_rfl) (f63r1n1_ok a1 a2 a3 h88) (st2:=(f63r1n1E a1 a2 a3 (.norm v89)).2) rfl ?_;refine rN Qf 1 [([],[],[(1,.val (jI (v89.length:Int)))])] [] [] [9] [0,3,5,45,46] (f63r1n5S v89 a1 0 a2 a3) (ap (Qx (xs:=v89) (c:=(cInt .i64))) an) ?_;obtain ⟨o166,h167,h⟩:=Qd h;cases o166 with
  | exit2 v168 v169 =>
   obtain rfl:=Qe h;exact T.last' (T.bl (i:=2) (by kernel_rfl) (by kernel_rfl) (f63r1n5_ok FUEL v89 a1 0 a2 a3 h167)) (tds:=[]) (m:=[]) (keep:=[]) (st2:=(f63r1n0E a1 a2 a3 (.norm v168 v169)).2) (by kernel_rfl) an rfl
noncomputable def f63r1(a1:List Qb)(a2:Int)(a3:List Int):Option (Int×(List Int)):=(f63r1n0 a1 a2 a3).bind fun o=>match o with
 | .norm v170 v171=>some (v170,v171)
theorem f63r1_ok(a1:List Qb)(a2:Int)(a3:List Int){r:Int×(List Int)}(h:f63r1 a1 a2 a3=some r):Ql Try.prog true 63 [(.yl 0),(.bp 1 0),(.bp 2 0),(.bp 3 0)] [some (.lp Qai .ready none (kL 96 [(5,(.bp 4 0)),(7,(.bp 5 0)),(8,(.bp 6 0)),(12,(.bp 7 0))])),some (.box (((cLst 4 Qb.cells) a1).map .pl)),some (.box [(.pl (.fn 36))]),some (.box ((Qaq false).map .pl)),some (.box (((cLst 4 Qb.cells) a1).map .pl)),some (.box [(.pl (.fn 37))]),some (.box (((cInt .i64) a2).map .pl)),some (.box [(.own 8)]),some (.row false 1 (a3.map (cInt .i64)))] (.tup []) [some (.lp Qai .ready none (kL 96 [(5,(.bp 4 0)),(7,(.bp 5 0)),(8,(.bp 6 0)),(12,(.bp 7 0))])),some (.box (((cLst 4 Qb.cells) a1).map .pl)),some (.box [(.pl (.fn 36))]),some (.box ((Qaq false).map .pl)),some (.box (((cLst 4 Qb.cells) a1).map .pl)),some (.box [(.pl (.fn 37))]),some (.box (((cInt .i64) r.1).map .pl)),some (.box [(.own 8)]),some (.row false 1 (r.2.map (cInt .i64)))]:=by
 unfold f63r1 at h;obtain ⟨o,ho,h⟩:=Qd h;cases o with
 | norm v170 v171 =>
  obtain rfl:=Qe h;exact Ql.shared Qf (f:=Try.f63) (c:=c63) (by kernel_rfl) (by kernel_rfl) (by kernel_rfl) ((f63r1n0_ok a1 a2 a3 ho).mono fun r e=>by subst e; exact ⟨.inr rfl,by kernel_rfl,by kernel_rfl⟩)

inductive f35r1n2O where
 | norm (v13:Int) (v14:List Int)
def f35r1n2E(ba1:List Qb)(bb2:Int):f35r1n2O→Ex×Tr×Hp
 | .norm v13 v14=>(.norm,mkS [(1,(.pl (.fn 36))),(5,(.bp 0 0)),(8,(.bp 1 0)),(12,(.bp 2 0))],[some (.box (((cLst 4 Qb.cells) ba1).map .pl)),some (.box (((cInt .i64) v13).map .pl)),some (.box [(.own 3)]),some (.row false 1 (v14.map (cInt .i64)))])
def f35r1n2S(ba1:List Qb)(bb2:Int):Tr×Hp:=(mkS [(1,(.pl (.fn 36))),(5,(.bp 0 0)),(7,(.bp 1 0)),(8,(.bp 2 0)),(10,(.pl (.sl .nil 0 []))),(11,(jI 0)),(12,(.bp 3 0)),(29,(.clo 63 [(.bp 4 0),(.bp 5 0),(.bp 6 0)]))],[some (.box (((cLst 4 Qb.cells) ba1).map .pl)),some (.box [(.pl (.fn 37))]),some (.box (((cInt .i64) bb2).map .pl)),some (.box [(.own 7)]),some (.box (((cLst 4 Qb.cells) ba1).map .pl)),some (.box [(.pl (.fn 36))]),some (.box ((Qaq false).map .pl)),some (.row false 1 ((List.replicate (Int.toNat (ba1.length:Int)) 0).map (cInt .i64)))])
noncomputable def f35r1n2(ba1:List Qb)(bb2:Int):Option f35r1n2O :=
 (f63r1 ba1 bb2 (List.replicate (Int.toNat (ba1.length:Int)) 0)).bind fun x11 =>
 some (.norm x11.1 x11.2)
theorem f35r1n2_ok(ba1:List Qb)(bb2:Int){o:f35r1n2O}(h:f35r1n2 ba1 bb2=some o):T Try.prog Try.f35.ntmps 0 (Qj 1 (cL (Qj 2 c35))) (f35r1n2S ba1 bb2) (·=f35r1n2E ba1 bb2 o):=by
 unfold f35r1n2 at h;refine T.block' (i:=0) (by kernel_rfl) ?_;refine rN Qf 0 [] [] [] [0,1,2,3,4,5,6,7] [1,5,7,8,10,11,12,29] (mkS [(1,(.pl (.fn 36))),(5,(.bp 0 0)),(7,(.bp 1 0)),(8,(.bp 2 0)),(10,(.pl (.sl .nil 0 []))),(11,(jI 0)),(12,(.bp 3 0)),(29,(.clo 63 [(.bp 4 0),(.bp 5 0),(.bp 6 0)]))],[some (.box (((cLst 4 Qb.cells) ba1).map .pl)),some (.box [(.pl (.fn 37))]),some (.box (((cInt .i64) bb2).map .pl)),some (.box [(.own 7)]),some (.box (((cLst 4 Qb.cells) ba1).map .pl)),some (.box [(.pl (.fn 36))]),some (.box ((Qaq false).map .pl)),some (.row false 1 ((List.replicate (Int.toNat (ba1.length:Int)) 0).map (cInt .i64)))]) an ?_;obtain ⟨x11,h12,h⟩:=Qd h;obtain rfl:=Qe h
 exact T.last' (rgN 63 [(.bp 4 0),(.bp 5 0),(.bp 6 0)] [5,7,8,12] (.tup []) [some (.box (((cLst 4 Qb.cells) ba1).map .pl)),some (.box [(.pl (.fn 37))]),some (.box (((cInt .i64) x11.1).map .pl)),some (.box [(.own 7)]),some (.box (((cLst 4 Qb.cells) ba1).map .pl)),some (.box [(.pl (.fn 36))]),some (.box ((Qaq false).map .pl)),some (.row false 1 (x11.2.map (cInt .i64))),some (.lp Qai .ready none (kL 96 [(5,(.bp 0 0)),(7,(.bp 1 0)),(8,(.bp 2 0)),(12,(.bp 3 0))]))] none .ready (kL 96 [(5,(.bp 0 0)),(7,(.bp 1 0)),(8,(.bp 2 0)),(12,(.bp 3 0))]) .norm [] [0,2,3,7] [1,5,8,12] (mkS [(1,(.pl (.fn 36))),(5,(.bp 0 0)),(8,(.bp 1 0)),(12,(.bp 2 0))],[some (.box (((cLst 4 Qb.cells) ba1).map .pl)),some (.box (((cInt .i64) x11.1).map .pl)),some (.box [(.own 3)]),some (.row false 1 (x11.2.map (cInt .i64)))]) (Ql.rn 9 [8,4,5,6,0,1,2,3,7] (f63r1_ok ba1 bb2 (List.replicate (Int.toNat (ba1.length:Int)) 0) h12)) an) (tds:=[]) (m:=[0,1,2,3]) (keep:=[1,5,8,12]) (st2:=(f35r1n2E ba1 bb2 (.norm x11.1 x11.2)).2) (by kernel_rfl) an rfl
inductive f35r1n1O where
 | norm (v19:Int) (v20:List Int)
def f35r1n1E(ba1:List Qb)(bb2:Int):f35r1n1O→Ex×Tr×Hp
 | .norm v19 v20=>(.norm,mkS [(1,(.pl (.fn 36))),(5,(.bp 0 0)),(8,(.bp 1 0)),(12,(.bp 2 0))],[some (.box (((cLst 4 Qb.cells) ba1).map .pl)),some (.box (((cInt .i64) v19).map .pl)),some (.box [(.own 3)]),some (.row false 1 (v20.map (cInt .i64)))])
def f35r1n1S(ba1:List Qb)(bb2:Int):Tr×Hp:=(mkS [(1,(.pl (.fn 36))),(4,(jB false)),(5,(.bp 0 0)),(7,(.bp 1 0)),(8,(.bp 2 0)),(10,(.pl (.sl .nil 0 []))),(11,(jI 0)),(12,(.bp 3 0))],[some (.box (((cLst 4 Qb.cells) ba1).map .pl)),some (.box [(.pl (.fn 37))]),some (.box (((cInt .i64) bb2).map .pl)),some (.box [(.own 4)]),some (.row false 1 ((List.replicate (Int.toNat (ba1.length:Int)) 0).map (cInt .i64)))])
noncomputable def f35r1n1(ba1:List Qb)(bb2:Int):Option f35r1n1O :=
 (f54r1 ba1).bind fun x9 =>
 (f35r1n2 ba1 bb2).bind fun o15=>match o15 with
 | .norm v17 v18=>some (.norm v17 v18)
theorem f35r1n1_ok(ba1:List Qb)(bb2:Int){o:f35r1n1O}(h:f35r1n1 ba1 bb2=some o):T Try.prog Try.f35.ntmps 0 (cL (Qj 2 c35)) (f35r1n1S ba1 bb2) (·=f35r1n1E ba1 bb2 o):=by
 unfold f35r1n1 at h;obtain ⟨x9,h10,h⟩:=Qd h;refine rN Qf 1 [([],[(3,.call (.clo 63 [(.bp 5 0),(.bp 6 0),(.bp 7 0)]) (jN 5 [some (.box (((cLst 4 Qb.cells) ba1).map .pl)),some (.box [(.pl (.fn 36))]),some (.box ((Qaq false).map .pl))]))],[])] [] [] [0,1,2,3,5,6,7,4] [1,5,7,8,10,11,12,29] (f35r1n2S ba1 bb2) (ap (Ql.rn 5 [] (f54r1_ok ba1 h10)) an) ?_;obtain ⟨o15,h16,h⟩:=Qd h;cases o15 with
 | norm v17 v18 =>
  obtain rfl:=Qe h;exact T.last' (f35r1n2_ok ba1 bb2 h16) (tds:=[]) (m:=[0,1,2,3]) (keep:=[1,5,8,12]) (st2:=(f35r1n1E ba1 bb2 (.norm v17 v18)).2) (by kernel_rfl) an rfl
inductive f35r1n4O where
 | exit4 (v81:List Qa)
def f35r1n4E(ba1:List Qb)(bb2:Int)(be3:List Int):f35r1n4O→Ex×Tr×Hp
 | .exit4 v81=>((.exit 4),mkS [(8,(.bp 0 0)),(20,(.own 1))],[some (.box (((cInt .i64) bb2).map .pl)),jR 3 Qa.cells v81])
def f35r1n4S(ba1:List Qb)(bb2:Int)(be3:List Int)(v61:Int)(v62:List Qa):Tr×Hp:=(mkS [(1,(.pl (.fn 36))),(8,(.bp 0 0)),(12,(.bp 1 0)),(20,(.own 2)),(65,(jL 4 Qb.cells ba1)),(66,(jI (ba1.length:Int))),(67,(jI v61))],[some (.box (((cInt .i64) bb2).map .pl)),some (.box [(.own 3)]),jR 3 Qa.cells v62,some (.row false 1 (be3.map (cInt .i64)))])
noncomputable def f35r1n4:Nat→List Qb→Int→List Int→Int→List Qa→Option f35r1n4O
 | 0,_,_,_,_,_=>none
 | f+1,ba1,bb2,be3,v61,v62 =>
  bif decide (v61<(ba1.length:Int)) then
   (at? ba1 v61).bind fun x73 =>
   (at? be3 v61).bind fun x75 =>
   bif decide (0<x75) then
    (f36 x73).bind fun x78 =>
    req (fit (v62.length+1) 32) <|
    (f35r1n4 f ba1 bb2 be3 (wr64 (v61+1)) (v62++[(Qa.mk x78.level x78.owner x75)]))
   else
    (f35r1n4 f ba1 bb2 be3 (wr64 (v61+1)) v62)
  else
   some (.exit4 v62)
theorem f35r1n4_ok:∀(f:Nat)(ba1:List Qb)(bb2:Int)(be3:List Int)(v61:Int)(v62:List Qa){o:f35r1n4O},f35r1n4 f ba1 bb2 be3 v61 v62=some o→TL Try.prog Try.f35.ntmps 0 f (cL (cL (Qj 1 (cL (Qj 1 (Qj 1 (Qj 2 c35))))))) (f35r1n4S ba1 bb2 be3 v61 v62) (·=f35r1n4E ba1 bb2 be3 o)
 | 0,_,_,_,_,_,o,h=>by rw [f35r1n4] at h; cases h
 | f+1,ba1,bb2,be3,v61,v62,o,h=>by
  rw [f35r1n4] at h;refine TL.body (K:=fun s=>∃v61:Int,∃v62:List Qa,s=(f35r1n4S ba1 bb2 be3 v61 v62)∧f35r1n4 f ba1 bb2 be3 v61 v62=some o) ?_ (by rintro _ ⟨v61,v62,rfl,hk⟩; exact f35r1n4_ok f _ _ _ _ _ hk);rcases Qh h with ⟨h64,h⟩|⟨h64,h⟩
  ·obtain ⟨x73,h74,h⟩:=Qd h;obtain ⟨x75,h76,h⟩:=Qd h;rcases Qh h with ⟨h77,h⟩|⟨h77,h⟩
   ·obtain ⟨x78,h79,h⟩:=Qd h;obtain ⟨h80,h⟩:=Qt h
    exact rE Qf [j3,([],[(1,.idx (Int.toNat v61) (Qb.cells x73))],[]),([],[(2,.at_ (Int.toNat v61)),(3,.idx 0 ((cInt .i64) x75))],[]),([],[jH 3 (jA Key_.cells x78),jH 7 (jA Key_.cells x78),(11,.at_ (Int.toNat v61)),(12,.idx 0 ((cInt .i64) x75)),(15,.fits)],[(15,.row 6 ((v62++[(Qa.mk x78.level x78.owner x75)]).map Qa.cells))]),j3] [some true,some true] [] [0,1,6,3] [1,8,12,20,65,66,67] (.norm,(f35r1n4S ba1 bb2 be3 (wr64 (v61+1)) (v62++[(Qa.mk x78.level x78.owner x75)]))) (ap h64 (ap (Qg h74).1 (ap (Qm Qb.cells (Qg h74).2) (ap (Qg h76).1 (ap (Qs (cInt .i64) (Qg h76).2) (ap (Qm (cInt .i64) (Qg h76).2) (ap h77 (ap (Qg h76).1 (ap (Qs (cInt .i64) (Qg h76).2) (ap (Qm (cInt .i64) (Qg h76).2) (ap (fit_map (te:=ti59) (xs:=v62) (n:=1) (c:=Qa.cells) h80 rfl) (ap (app_cv (xs:=v62) (ys:=[(Qa.mk x78.level x78.owner x75)]) (c:=Qa.cells)) (ap (same_self (e:=⟨false,36,[(jA Qb.cells x73)],[],(jA Key_.cells x78),[]⟩)) (ap2 (f36_ok x73 h79) an)))))))))))))) (Qp.norm ⟨(wr64 (v61+1)),(v62++[(Qa.mk x78.level x78.owner x75)]),rfl,h⟩)
   ·exact rE Qf [j3,([],[(1,.idx (Int.toNat v61) (Qb.cells x73))],[]),([],[(2,.at_ (Int.toNat v61)),(3,.idx 0 ((cInt .i64) x75))],[]),j3] [some true,some false] [] [0,1,2,3] [1,8,12,20,65,66,67] (.norm,(f35r1n4S ba1 bb2 be3 (wr64 (v61+1)) v62)) (ap h64 (ap (Qg h74).1 (ap (Qm Qb.cells (Qg h74).2) (ap (Qg h76).1 (ap (Qs (cInt .i64) (Qg h76).2) (ap (Qm (cInt .i64) (Qg h76).2) (ap h77 an))))))) (Qp.norm ⟨(wr64 (v61+1)),v62,rfl,h⟩)
  ·obtain rfl:=Qe h;exact rK Qf 2 [j3] [some false] [] [0,2] [8,20] (.exit 4) ((f35r1n4E ba1 bb2 be3 (.exit4 v62)).2) (ap h64 an) (Qp.out rfl rfl)
noncomputable def f35r1n4L(ba1:List Qb)(bb2:Int)(be3:List Int):List Qb→Int→(List Qa)→Option f35r1n4O
 | [],v61,v62 =>
  some (.exit4 v62)
 | x0::rest,v61,v62 =>
  (at? be3 v61).bind fun x75 =>
  bif decide (0<x75) then
   (f36 x0).bind fun x78 =>
   req (fit (v62.length+1) 32) <|
   (f35r1n4L ba1 bb2 be3 rest (v61+1) (v62++[(Qa.mk x78.level x78.owner x75)]))
  else
   (f35r1n4L ba1 bb2 be3 rest (v61+1) v62)
theorem f35r1n4L_eq(ba1:List Qb)(bb2:Int)(be3:List Int):∀(rest:List Qb)(f k:Nat)(v62:List Qa),ba1.drop k=rest→ba1.length≤maxLen→rest.length<f→f35r1n4 f ba1 bb2 be3 (k:Int) v62=f35r1n4L ba1 bb2 be3 rest (k:Int) v62
 | _,0,_,_,_,_,hf=>absurd hf (Nat.not_lt_zero _)
 | [],f+1,k,v62,hd,hm,hf=>by
  have hk:¬((k:Int)<(ba1.length:Int)):=by have:=Qcb hd; omega
  rw [f35r1n4,f35r1n4L];simp only [decide_eq_false hk,cond_false]
 | x0::rest,f+1,k,v62,hd,hm,hf=>by
  obtain ⟨hx,hlt,hd'⟩:=Qbl hd;have hk:(k:Int)<(ba1.length:Int):=by omega
  have hw:wr64 ((k:Int)+1)=(k:Int)+1:=wr64_of (by omega) (by unfold maxLen at hm; omega);have ih:∀(v62:List Qa),f35r1n4 f ba1 bb2 be3 ((k:Int)+1) v62=f35r1n4L ba1 bb2 be3 rest ((k:Int)+1) v62:=fun v62=>f35r1n4L_eq ba1 bb2 be3 rest f (k+1) v62 hd' hm (by simpa using hf);rw [f35r1n4,f35r1n4L];simp only [decide_eq_true hk,cond_true,at_nat,hx,Option.bind_some,hw,ih]
theorem f35r1n4_run(ba1:List Qb)(bb2:Int)(be3:List Int)(v62:List Qa)(hm:ba1.length≤maxLen):f35r1n4 FUEL ba1 bb2 be3 0 v62=f35r1n4L ba1 bb2 be3 ba1 0 v62:=f35r1n4L_eq ba1 bb2 be3 ba1 FUEL 0 v62 List.drop_zero hm (Qam hm)
inductive f35r1n3O where
 | norm (v85:List Qa)
def f35r1n3E(ba1:List Qb)(bb2:Int)(be3:List Int):f35r1n3O→Ex×Tr×Hp
 | .norm v85=>(.norm,mkS [(8,(.bp 0 0)),(20,(.own 1))],[some (.box (((cInt .i64) bb2).map .pl)),jR 3 Qa.cells v85])
def f35r1n3S(ba1:List Qb)(bb2:Int)(be3:List Int):Tr×Hp:=(mkS [(1,(.pl (.fn 36))),(5,(.bp 0 0)),(8,(.bp 1 0)),(12,(.bp 2 0)),(20,(.pl (.sl .nil 0 [])))],[some (.box (((cLst 4 Qb.cells) ba1).map .pl)),some (.box (((cInt .i64) bb2).map .pl)),some (.box [(.own 3)]),some (.row false 1 (be3.map (cInt .i64)))])
noncomputable def f35r1n3(ba1:List Qb)(bb2:Int)(be3:List Int):Option f35r1n3O :=
 (f35r1n4 FUEL ba1 bb2 be3 0 []).bind fun o82=>match o82 with
 | .exit4 v84=>some (.norm v84)
theorem f35r1n3_ok(ba1:List Qb)(bb2:Int)(be3:List Int){o:f35r1n3O}(h:f35r1n3 ba1 bb2 be3=some o):T Try.prog Try.f35.ntmps 0 (cL (Qj 1 (Qj 1 (Qj 2 c35)))) (f35r1n3S ba1 bb2 be3) (·=f35r1n3E ba1 bb2 be3 o):=by
 unfold f35r1n3 at h;refine rN Qf 1 [([],[],[(1,.val (jI (ba1.length:Int)))])] [] [.mat 20 3] [1,2,4,3] [1,8,12,20,65,66,67] (f35r1n4S ba1 bb2 be3 0 []) (ap (Qx (xs:=ba1) (c:=Qb.cells)) an) ?_;obtain ⟨o82,h83,h⟩:=Qd h;cases o82 with
 | exit4 v84 =>
  obtain rfl:=Qe h;exact T.last' (T.bl (i:=4) (by kernel_rfl) (by kernel_rfl) (f35r1n4_ok FUEL ba1 bb2 be3 0 [] h83)) (tds:=[]) (m:=[0,1]) (keep:=[8,20]) (st2:=(f35r1n3E ba1 bb2 be3 (.norm v84)).2) (by kernel_rfl) an rfl
inductive f35r1n0O where
 | ret (v89:Int) (v90:List Qa)
def f35r1n0E(a1:List Qb)(a2:Int):f35r1n0O→Ex×Tr×Hp
 | .ret v89 v90=>(.ret,mkS [(10,(.own 0)),(11,(jI v89))],[jR 3 Qa.cells v90])
def f35r1n0S(a1:List Qb)(a2:Int):Tr×Hp:=(Qaa [(jL 4 Qb.cells a1),(.pl (.fn 36)),(.pl (.fn 37)),(jI a2),(jB false)] 0 .leaf,[])
noncomputable def f35r1n0(a1:List Qb)(a2:Int):Option f35r1n0O :=
 req (decide (0≤(a1.length:Int))) <|
 req (fit (Int.toNat (a1.length:Int)) 8) <|
 (f35r1n1 a1 a2).bind fun o21=>match o21 with
 | .norm v23 v24=>(f35r1n3 a1 v23 v24).bind fun o86=>match o86 with
  | .norm v88=>some (.ret v23 v88)
theorem f35r1n0_ok(a1:List Qb)(a2:Int){o:f35r1n0O}(h:f35r1n0 a1 a2=some o):T Try.prog Try.f35.ntmps 0 c35 (f35r1n0S a1 a2) (·=f35r1n0E a1 a2 o):=by
 unfold f35r1n0 at h;obtain ⟨h5,h⟩:=Qt h;obtain ⟨h6,h⟩:=Qt h;refine rN Qf 2 [j3,([],[(2,.num (Int.toNat (a1.length:Int)))],[(1,.val (jI (a1.length:Int))),(2,.row 3 ((List.replicate (Int.toNat (a1.length:Int)) 0).map (cInt .i64)))])] [] [] [0,1,2,4,3] [1,4,5,7,8,10,11,12] (f35r1n1S a1 a2) (ap (Qx (xs:=a1) (c:=Qb.cells)) (ap2 (nat_of h5) (ap (fit_of (te:=ti3) h6 rfl) (ap (rep_cv (c:=(cInt .i64)) (x:=0) (n:=Int.toNat (a1.length:Int))) an)))) ?_;obtain ⟨o21,h22,h⟩:=Qd h;cases o21 with
 | norm v23 v24 =>
  refine T.oneN (by kernel_rfl) (f35r1n1_ok a1 a2 h22) (st2:=(f35r1n1E a1 a2 (.norm v23 v24)).2) rfl ?_;refine rN Qf 1 [j3] [] [] [0,1,2,3] [1,5,8,12,20] (f35r1n3S a1 v23 v24) an ?_;obtain ⟨o86,h87,h⟩:=Qd h;cases o86 with
  | norm v88 =>
   refine T.oneN (by kernel_rfl) (f35r1n3_ok a1 v23 v24 h87) (st2:=(f35r1n3E a1 v23 v24 (.norm v88)).2) rfl ?_;obtain rfl:=Qe h;exact rE Qf [j3] [] [] [1] [10,11] (.ret,(f35r1n0E a1 a2 (.ret v23 v88)).2) an rfl
noncomputable def f35r1(a1:List Qb)(a2:Int):Option (Int×(List Qa)):=(f35r1n0 a1 a2).bind fun o=>match o with
 | .ret v89 v90=>some (v89,v90)
theorem f35r1_ok(a1:List Qb)(a2:Int){r:Int×(List Qa)}(h:f35r1 a1 a2=some r):Ql Try.prog true 35 [(jL 4 Qb.cells a1),(.pl (.fn 36)),(.pl (.fn 37)),(jI a2),(jB false)] [] (.tup [(.own 0),(jI r.1)]) [jR 3 Qa.cells r.2]:=by
 unfold f35r1 at h;obtain ⟨o,ho,h⟩:=Qd h;cases o with
 | ret v89 v90 =>
  obtain rfl:=Qe h;exact Ql.shared Qf (f:=Try.f35) (c:=c35) (by kernel_rfl) (by kernel_rfl) (by kernel_rfl) ((f35r1n0_ok a1 a2 ho).mono fun r e=>by subst e; exact ⟨.inl rfl,by kernel_rfl,by kernel_rfl⟩)

noncomputable def c13:Code:=Try.f13.body.getD .skip
inductive f13n0O where
 | ret (v19:Int) (v20:Int) (v21:List Qa)
def f13n0E(a1:List Qb)(a2:Int):f13n0O→Ex×Tr×Hp
 | .ret v19 v20 v21=>(.ret,mkS [(4,(.own 0)),(5,(jI v19)),(6,(jI v20))],[jR 3 Qa.cells v21])
def f13n0S(a1:List Qb)(a2:Int):Tr×Hp:=(Qaa [(jL 4 Qb.cells a1),(jI a2)] 0 .leaf,[])
noncomputable def f13n0(a1:List Qb)(a2:Int):Option f13n0O :=
 (f23 a1).bind fun x6 =>
 bif decide (x6=0) then
  (f34 a2).bind fun x12 =>
  bif x12 then
   (f35r1 a1 a2).bind fun x17 =>
   some (.ret x17.1 0 x17.2)
  else
   some (.ret 0 2 [])
 else
  some (.ret 0 x6 [])
theorem f13n0_ok(a1:List Qb)(a2:Int){o:f13n0O}(h:f13n0 a1 a2=some o):T Try.prog Try.f13.ntmps 0 c13 (f13n0S a1 a2) (·=f13n0E a1 a2 o):=by
 unfold f13n0 at h;obtain ⟨x6,h7,h⟩:=Qd h;rcases Qh h with ⟨h8,h⟩|⟨h8,h⟩
 ·obtain ⟨x12,h13,h⟩:=Qd h;rcases Qh h with ⟨h14,h⟩|⟨h14,h⟩
  ·obtain ⟨x17,h18,h⟩:=Qd h;obtain rfl:=Qe h;exact rE Qf [j3,([],[jH 1 (jI x6)],[]),j3,([],[jH 1 (jB x12)],[]),([],[(2,.call (.tup [(.own 0),(jI x17.1)]) [jR 3 Qa.cells x17.2])],[]),j3] [some false,some false] [] [0] [4,5,6] (.ret,(f13n0E a1 a2 (.ret x17.1 0 x17.2)).2) (ap (f23_ok a1 h7) (ap (Qaf h8) (ap (f34_ok a2 h13) (ap (Qaf h14) (ap (f35r1_ok a1 a2 h18) an))))) rfl
  ·obtain rfl:=Qe h;exact rK Qf 3 [j3,([],[jH 1 (jI x6)],[]),j3,([],[jH 1 (jB x12)],[]),j3] [some false,some true] [.mat 4 3] [0] [4,5,6] .ret ((f13n0E a1 a2 (.ret 0 2 [])).2) (ap (f23_ok a1 h7) (ap (Qaf h8) (ap (f34_ok a2 h13) (ap (Qao h14) an)))) rfl
 ·obtain rfl:=Qe h;exact rK Qf 2 [j3,([],[jH 1 (jI x6)],[]),j3,j3] [some true] [.mat 4 3] [0] [4,5,6] .ret ((f13n0E a1 a2 (.ret 0 x6 [])).2) (ap (f23_ok a1 h7) (ap (Qao h8) an)) rfl
noncomputable def f13(a1:List Qb)(a2:Int):Option ((List Qa)×Int×Int):=(f13n0 a1 a2).bind fun o=>match o with
 | .ret v19 v20 v21=>some (v21,v19,v20)
theorem f13_ok(a1:List Qb)(a2:Int){r:(List Qa)×Int×Int}(h:f13 a1 a2=some r):Ql Try.prog false 13 [(jL 4 Qb.cells a1),(jI a2)] [] (.tup [(jL 3 Qa.cells r.1),(jI r.2.1),(jI r.2.2)]) []:=by
 unfold f13 at h;obtain ⟨o,ho,h⟩:=Qd h;cases o with
 | ret v19 v20 v21 =>
  obtain rfl:=Qe h;exact Ql.plain Qf (f:=Try.f13) (c:=c13) (by kernel_rfl) (by kernel_rfl) (by kernel_rfl) (by kernel_rfl) ((f13n0_ok a1 a2 ho).mono fun r e=>by subst e; exact ⟨.inl rfl,(.tup [(.own 0),(jI v19),(jI v20)]),(.tup [(jL 3 Qa.cells v21),(jI v19),(jI v20)]),by kernel_rfl,by kernel_rfl,((Wk.refl _):Wk (.tup [(jL 3 Qa.cells v21),(jI v19),(jI v20)]) (.tup [(jL 3 Qa.cells v21),(jI v19),(jI v20)]))⟩)

noncomputable def c39:Code:=Try.f39.body.getD .skip
inductive f39n0O where
 | ret
def f39n0E(a1:Qa):f39n0O→Ex×Tr×Hp
 | .ret=>(.ret,mkS [(2,(.bp 0 0))],[some (.box ((Key_.cells (Key_.mk a1.Level a1.Owner)).map .pl))])
def f39n0S(a1:Qa):Tr×Hp:=(Qaa [(jA Qa.cells a1)] 0 .leaf,[])
noncomputable def f39n0(a1:Qa):Option f39n0O :=
 some .ret
theorem f39n0_ok(a1:Qa){o:f39n0O}(h:f39n0 a1=some o):T Try.prog Try.f39.ntmps 0 c39 (f39n0S a1) (·=f39n0E a1 o):=by
 unfold f39n0 at h;obtain rfl:=Qe h;exact rE Qf [j3,j3] [] [] [1] [2] (.ret,(f39n0E a1 .ret).2) an rfl
noncomputable def f39(a1:Qa):Option Key_:=(f39n0 a1).bind fun o=>match o with
 | .ret=>some (Key_.mk a1.Level a1.Owner)
theorem f39_ok(a1:Qa){r:Key_}(h:f39 a1=some r):Ql Try.prog false 39 [(jA Qa.cells a1)] [] (jA Key_.cells r) []:=by
 unfold f39 at h;obtain ⟨o,ho,h⟩:=Qd h;cases o with
 | ret =>
  obtain rfl:=Qe h;exact Ql.plain Qf (f:=Try.f39) (c:=c39) (by kernel_rfl) (by kernel_rfl) (by kernel_rfl) (by kernel_rfl) ((f39n0_ok a1 ho).mono fun r e=>by subst e; exact ⟨.inl rfl,(.pl (.agg (Key_.cells (Key_.mk a1.Level a1.Owner)))),(.pl (.agg (Key_.cells (Key_.mk a1.Level a1.Owner)))),by kernel_rfl,by kernel_rfl,((Wk.refl _):Wk (.pl (.agg (Key_.cells (Key_.mk a1.Level a1.Owner)))) (.pl (.agg (Key_.cells (Key_.mk a1.Level a1.Owner)))))⟩)

noncomputable def c40:Code:=Try.f40.body.getD .skip
inductive f40n0O where
 | ret
def f40n0E(a1:Qa):f40n0O→Ex×Tr×Hp
 | .ret=>(.ret,mkS [(2,(jI a1.Amount))],[])
def f40n0S(a1:Qa):Tr×Hp:=(Qaa [(jA Qa.cells a1)] 0 .leaf,[])
noncomputable def f40n0(a1:Qa):Option f40n0O :=
 some .ret
theorem f40n0_ok(a1:Qa){o:f40n0O}(h:f40n0 a1=some o):T Try.prog Try.f40.ntmps 0 c40 (f40n0S a1) (·=f40n0E a1 o):=by
 unfold f40n0 at h;obtain rfl:=Qe h;exact rE Qf [j3,j3] [] [] [] [2] (.ret,(f40n0E a1 .ret).2) an rfl
noncomputable def f40(a1:Qa):Option Int:=(f40n0 a1).bind fun o=>match o with
 | .ret=>some a1.Amount
theorem f40_ok(a1:Qa){r:Int}(h:f40 a1=some r):Ql Try.prog false 40 [(jA Qa.cells a1)] [] (jI r) []:=by
 unfold f40 at h;obtain ⟨o,ho,h⟩:=Qd h;cases o with
 | ret =>
  obtain rfl:=Qe h;exact Ql.plain Qf (f:=Try.f40) (c:=c40) (by kernel_rfl) (by kernel_rfl) (by kernel_rfl) (by kernel_rfl) ((f40n0_ok a1 ho).mono fun r e=>by subst e; exact ⟨.inl rfl,(jI a1.Amount),(jI a1.Amount),by kernel_rfl,by kernel_rfl,((Wk.refl _):Wk (jI a1.Amount) (jI a1.Amount))⟩)

noncomputable def c38:Code:=Try.f38.body.getD .skip
inductive f38_39_40n4O where
 | norm (v233:Bool)
def Qat(bg1:List Qa)(bb2 bb3 bb4 bb5:Int)(bf6:Key_):f38_39_40n4O→Ex×Tr×Hp
 | .norm v233=>(.norm,mkS [(0,(jL 3 Qa.cells bg1)),(1,(.pl (.fn 39))),(2,(.pl (.fn 40))),(3,(jI bb2)),(9,(jI bb3)),(13,(jI bb5)),(17,(jL 3 Qa.cells bg1)),(18,(jI (bg1.length:Int))),(19,(jI bb4)),(68,(jB v233))],[])
def f38_39_40n4S(bg1:List Qa)(bb2 bb3 bb4 bb5:Int)(bf6:Key_):Tr×Hp:=(mkS [(0,(jL 3 Qa.cells bg1)),(1,(.pl (.fn 39))),(2,(.pl (.fn 40))),(3,(jI bb2)),(9,(jI bb3)),(10,(jI bb4)),(12,(.bp 0 0)),(13,(jI bb5)),(17,(jL 3 Qa.cells bg1)),(18,(jI (bg1.length:Int))),(19,(jI bb4))],[some (.box ((Key_.cells bf6).map .pl))])
noncomputable def f38_39_40n4(bg1:List Qa)(bb2 bb3 bb4 bb5:Int)(bf6:Key_):Option f38_39_40n4O :=
 bif decide (bf6.level<0) then
  some (.norm true)
 else
  bif decide (10≤bf6.level) then
   some (.norm true)
  else
   (f56 bf6.owner).bind fun x221 =>
   bif x221 then
    bif decide (bb5<bb2) then
     some (.norm true)
    else
     bif decide (1125899906842624<bb5) then
      some (.norm true)
     else
      bif decide (0<bb4) then
       (at? bg1 (wr64 (bb4-1))).bind fun x227 =>
       (f39 x227).bind fun x229 =>
       (f57 x229 bf6).bind fun x231 =>
       some (.norm (decide (0≤x231)))
      else
       some (.norm false)
   else
    some (.norm true)
theorem f38_39_40n4_ok(bg1:List Qa)(bb2 bb3 bb4 bb5:Int)(bf6:Key_){o:f38_39_40n4O}(h:f38_39_40n4 bg1 bb2 bb3 bb4 bb5 bf6=some o):T Try.prog Try.f38.ntmps 0 (cL (Qj 0 (cL (Qj 2 (cL (cL (Qj 2 (cL (cL (Qj 1 (cL (Qj 3 c38)))))))))))) (f38_39_40n4S bg1 bb2 bb3 bb4 bb5 bf6) (·=Qat bg1 bb2 bb3 bb4 bb5 bf6 o):=by
 unfold f38_39_40n4 at h;rcases Qh h with ⟨h219,h⟩|⟨h219,h⟩
 ·obtain rfl:=Qe h;exact rE Qf [(jT [4,5,6],[(7,.bool true)],[])] [] [] [] [0,1,2,3,9,13,17,18,19,68] (.norm,(Qat bg1 bb2 bb3 bb4 bb5 bf6 (.norm true)).2) (ap4 h219 an) rfl
 ·rcases Qh h with ⟨h220,h⟩|⟨h220,h⟩
  ·obtain rfl:=Qe h;exact rE Qf [(jF [4,5,6]++jT [9,10,11,12],[(7,.bool false),(13,.bool true)],[])] [] [] [] [0,1,2,3,9,13,17,18,19,68] (.norm,(Qat bg1 bb2 bb3 bb4 bb5 bf6 (.norm true)).2) (ap4 h219 (ap h220 (ap4 h220 an))) rfl
  ·obtain ⟨x221,h222,h⟩:=Qd h;rcases Qh h with ⟨h223,h⟩|⟨h223,h⟩
   ·rcases Qh h with ⟨h224,h⟩|⟨h224,h⟩
    ·obtain rfl:=Qe h;exact rE Qf [(jF [4,5,6,9,10,11,12,15,16,17]++jT [20,21],[(7,.bool false),jH 11 (jB x221),(13,.bool false),(18,.bool false),(22,.bool true)],[])] [] [] [] [0,1,2,3,9,13,17,18,19,68] (.norm,(Qat bg1 bb2 bb3 bb4 bb5 bf6 (.norm true)).2) (ap4 h219 (ap h220 (ap4 h220 (ap4 (Qaf h223) (ap3 h224 (ap (f56_ok bf6.owner h222) an)))))) rfl
    ·rcases Qh h with ⟨h225,h⟩|⟨h225,h⟩
     ·obtain rfl:=Qe h;exact rE Qf [(jF [4,5,6,9,10,11,12,15,16,17,20,21]++jT [24,25,26,37],[(7,.bool false),jH 11 (jB x221),(13,.bool false),(18,.bool false),(22,.bool false),(38,.bool true)],[])] [] [] [] [0,1,2,3,9,13,17,18,19,68] (.norm,(Qat bg1 bb2 bb3 bb4 bb5 bf6 (.norm true)).2) (ap4 h219 (ap h220 (ap4 h220 (ap4 (Qaf h223) (ap3 h224 (ap h225 (ap4 h225 (ap (f56_ok bf6.owner h222) an)))))))) rfl
     ·rcases Qh h with ⟨h226,h⟩|⟨h226,h⟩
      ·obtain ⟨x227,h228,h⟩:=Qd h;obtain ⟨x229,h230,h⟩:=Qd h;obtain ⟨x231,h232,h⟩:=Qd h;obtain rfl:=Qe h;exact rE Qf [(jF [4,5,6,9,10,11,12,15,16,17,20,21,24,25,26,37]++jT [27,28,29,30,31,32,33,34,35,36],[(7,.bool false),jH 11 (jB x221),(13,.bool false),(18,.bool false),(22,.bool false),(31,.idx (Int.toNat (wr64 (bb4-1))) (Qa.cells x227)),jH 33 (jA Key_.cells x229),jH 35 (jI x231),(37,.bool true),(38,.bool false)],[])] [] [] [] [0,1,2,3,9,13,17,18,19,68] (.norm,(Qat bg1 bb2 bb3 bb4 bb5 bf6 (.norm (decide (0≤x231)))).2) (ap4 h219 (ap h220 (ap4 h220 (ap4 (Qaf h223) (ap3 h224 (ap3 h225 (ap h226 (ap4 h226 (ap (Qg h228).1 (ap (Qm Qa.cells (Qg h228).2) (ap h226 (ap4 h226 (ap h225 (ap h226 (ap h225 (ap (f56_ok bf6.owner h222) (ap (f39_ok x227 h230) (ap (f57_ok x229 bf6 h232) an)))))))))))))))))) rfl
      ·obtain rfl:=Qe h;exact rE Qf [(jF [4,5,6,9,10,11,12,15,16,17,20,21,24,25,26,27,28,29,30,31,32,33,34,35,36,37],[(7,.bool false),jH 11 (jB x221),(13,.bool false),(18,.bool false),(22,.bool false),(37,.bool false),(38,.bool false)],[])] [] [] [] [0,1,2,3,9,13,17,18,19,68] (.norm,(Qat bg1 bb2 bb3 bb4 bb5 bf6 (.norm false)).2) (ap4 h219 (ap h220 (ap4 h220 (ap4 (Qaf h223) (ap3 h224 (ap3 h225 (ap2 h226 (ap4 h226 (ap4 h226 (ap h225 (ap h226 (ap h225 (ap (f56_ok bf6.owner h222) an))))))))))))) rfl
   ·obtain rfl:=Qe h;exact rE Qf [(jF [4,5,6,9,10,11,12]++jT [15,16,17],[(7,.bool false),jH 11 (jB x221),(13,.bool false),(18,.bool true)],[])] [] [] [] [0,1,2,3,9,13,17,18,19,68] (.norm,(Qat bg1 bb2 bb3 bb4 bb5 bf6 (.norm true)).2) (ap4 h219 (ap h220 (ap4 h220 (ap4 (Qao h223) (ap (f56_ok bf6.owner h222) an))))) rfl
inductive f38_39_40n3O where
 | norm
 | ret
def f38_39_40n3E(bg1:List Qa)(bb2 bb3 bb4 bb5:Int)(bf6:Key_):f38_39_40n3O→Ex×Tr×Hp
 | .norm=>(.norm,mkS [(0,(jL 3 Qa.cells bg1)),(1,(.pl (.fn 39))),(2,(.pl (.fn 40))),(3,(jI bb2)),(9,(jI bb3)),(13,(jI bb5)),(17,(jL 3 Qa.cells bg1)),(18,(jI (bg1.length:Int))),(19,(jI bb4))],[])
 | .ret=>(.ret,mkS [(8,(jB false))],[])
def f38_39_40n3S(bg1:List Qa)(bb2 bb3 bb4 bb5:Int)(bf6:Key_):Tr×Hp:=(mkS [(0,(jL 3 Qa.cells bg1)),(1,(.pl (.fn 39))),(2,(.pl (.fn 40))),(3,(jI bb2)),(9,(jI bb3)),(10,(jI bb4)),(12,(.bp 0 0)),(13,(jI bb5)),(17,(jL 3 Qa.cells bg1)),(18,(jI (bg1.length:Int))),(19,(jI bb4))],[some (.box ((Key_.cells bf6).map .pl))])
noncomputable def f38_39_40n3(bg1:List Qa)(bb2 bb3 bb4 bb5:Int)(bf6:Key_):Option f38_39_40n3O :=
 (f38_39_40n4 bg1 bb2 bb3 bb4 bb5 bf6).bind fun o234=>match o234 with
 | .norm v236=>bif v236 then
   some .ret
  else
   some .norm
theorem f38_39_40n3_ok(bg1:List Qa)(bb2 bb3 bb4 bb5:Int)(bf6:Key_){o:f38_39_40n3O}(h:f38_39_40n3 bg1 bb2 bb3 bb4 bb5 bf6=some o):T Try.prog Try.f38.ntmps 0 (cL (Qj 2 (cL (cL (Qj 2 (cL (cL (Qj 1 (cL (Qj 3 c38)))))))))) (f38_39_40n3S bg1 bb2 bb3 bb4 bb5 bf6) (·=f38_39_40n3E bg1 bb2 bb3 bb4 bb5 bf6 o):=by
 unfold f38_39_40n3 at h;refine rN Qf 0 [] [] [] [0] [0,1,2,3,9,10,12,13,17,18,19] (f38_39_40n4S bg1 bb2 bb3 bb4 bb5 bf6) an ?_;obtain ⟨o234,h235,h⟩:=Qd h;cases o234 with
 | norm v236 =>
  refine T.oneN (by kernel_rfl) (f38_39_40n4_ok bg1 bb2 bb3 bb4 bb5 bf6 h235) (st2:=(Qat bg1 bb2 bb3 bb4 bb5 bf6 (.norm v236)).2) rfl ?_;rcases Qh h with ⟨h238,h⟩|⟨h238,h⟩
  ·obtain rfl:=Qe h;exact rE Qf [j3] [some true] [] [] [8] (.ret,(f38_39_40n3E bg1 bb2 bb3 bb4 bb5 bf6 .ret).2) (ap h238 an) rfl
  ·obtain rfl:=Qe h;exact rE Qf [] [some false] [] [] [0,1,2,3,9,13,17,18,19] (.norm,(f38_39_40n3E bg1 bb2 bb3 bb4 bb5 bf6 .norm).2) (ap h238 an) rfl
inductive f38_39_40n2O where
 | norm (v241:Int)
 | ret
def f38_39_40n2E(bg1:List Qa)(bb2 bb3 bb4:Int):f38_39_40n2O→Ex×Tr×Hp
 | .norm v241=>(.norm,mkS [(0,(jL 3 Qa.cells bg1)),(1,(.pl (.fn 39))),(2,(.pl (.fn 40))),(3,(jI bb2)),(9,(jI v241)),(17,(jL 3 Qa.cells bg1)),(18,(jI (bg1.length:Int))),(19,(jI bb4))],[])
 | .ret=>(.ret,mkS [(8,(jB false))],[])
def f38_39_40n2S(bg1:List Qa)(bb2 bb3 bb4:Int):Tr×Hp:=(mkS [(0,(jL 3 Qa.cells bg1)),(1,(.pl (.fn 39))),(2,(.pl (.fn 40))),(3,(jI bb2)),(9,(jI bb3)),(17,(jL 3 Qa.cells bg1)),(18,(jI (bg1.length:Int))),(19,(jI bb4))],[])
noncomputable def f38_39_40n2(bg1:List Qa)(bb2 bb3 bb4:Int):Option f38_39_40n2O :=
 (at? bg1 bb4).bind fun x166 =>
 (f39 x166).bind fun x172 =>
 (f40 x166).bind fun x174 =>
 (f38_39_40n3 bg1 bb2 bb3 bb4 x174 x172).bind fun o239=>match o239 with
 | .norm=>some (.norm (wr64 (bb3+x174)))
 | .ret=>some .ret
theorem f38_39_40n2_ok(bg1:List Qa)(bb2 bb3 bb4:Int){o:f38_39_40n2O}(h:f38_39_40n2 bg1 bb2 bb3 bb4=some o):T Try.prog Try.f38.ntmps 0 (cL (Qj 2 (cL (cL (Qj 1 (cL (Qj 3 c38))))))) (f38_39_40n2S bg1 bb2 bb3 bb4) (·=f38_39_40n2E bg1 bb2 bb3 bb4 o):=by
 unfold f38_39_40n2 at h;refine T.block' (i:=1) (by kernel_rfl) ?_;obtain ⟨x166,h167,h⟩:=Qd h;obtain ⟨x172,h173,h⟩:=Qd h;obtain ⟨x174,h175,h⟩:=Qd h;refine rN Qf 2 [([],[(1,.idx (Int.toNat bb4) (Qa.cells x166))],[]),([],[jH 2 (jA Key_.cells x172),jH 5 (jI x174)],[])] [] [] [1] [0,1,2,3,9,10,12,13,17,18,19] (f38_39_40n3S bg1 bb2 bb3 bb4 x174 x172) (ap (Qg h167).1 (ap (Qm Qa.cells (Qg h167).2) (ap (f39_ok x166 h173) (ap (f40_ok x166 h175) an)))) ?_;obtain ⟨o239,h240,h⟩:=Qd h;cases o239 with
 | norm =>
  refine T.oneN (by kernel_rfl) (f38_39_40n3_ok bg1 bb2 bb3 bb4 x174 x172 h240) (st2:=(f38_39_40n3E bg1 bb2 bb3 bb4 x174 x172 .norm).2) rfl ?_;obtain rfl:=Qe h;exact rE Qf [j3] [] [] [] [0,1,2,3,9,17,18,19] (.norm,(f38_39_40n2E bg1 bb2 bb3 bb4 (.norm (wr64 (bb3+x174)))).2) an rfl
 | ret =>
  obtain rfl:=Qe h;exact T.oneX' (by kernel_rfl) (f38_39_40n3_ok bg1 bb2 bb3 bb4 x174 x172 h240) (tds:=[]) (m:=[]) (keep:=[8]) (st2:=(f38_39_40n2E bg1 bb2 bb3 bb4 .ret).2) (by kernel_rfl) an rfl rfl
inductive f38_39_40n5O where
 | exit0 (v245:Int)
 | ret
def f38_39_40n5E(bg1:List Qa)(bb2:Int):f38_39_40n5O→Ex×Tr×Hp
 | .exit0 v245=>((.exit 0),mkS [(9,(jI v245))],[])
 | .ret=>(.ret,mkS [(8,(jB false))],[])
def f38_39_40n5S(bg1:List Qa)(bb2 v139 v140:Int):Tr×Hp:=(mkS [(0,(jL 3 Qa.cells bg1)),(1,(.pl (.fn 39))),(2,(.pl (.fn 40))),(3,(jI bb2)),(9,(jI v139)),(17,(jL 3 Qa.cells bg1)),(18,(jI (bg1.length:Int))),(19,(jI v140))],[])
noncomputable def Qbg:Nat→List Qa→Int→Int→Int→Option f38_39_40n5O
 | 0,_,_,_,_=>none
 | f+1,bg1,bb2,v139,v140 =>
  bif decide (v140<(bg1.length:Int)) then
   (f38_39_40n2 bg1 bb2 v139 v140).bind fun o242=>match o242 with
   | .norm v244=>(Qbg f bg1 bb2 v244 (wr64 (v140+1)))
   | .ret=>some .ret
  else
   some (.exit0 v139)
theorem f38_39_40n5_ok:∀(f:Nat)(bg1:List Qa)(bb2 v139 v140:Int){o:f38_39_40n5O},Qbg f bg1 bb2 v139 v140=some o→TL Try.prog Try.f38.ntmps 0 f (cL (cL (Qj 1 (cL (Qj 3 c38))))) (f38_39_40n5S bg1 bb2 v139 v140) (·=f38_39_40n5E bg1 bb2 o)
 | 0,_,_,_,_,o,h=>by rw [Qbg] at h; cases h
 | f+1,bg1,bb2,v139,v140,o,h=>by
  rw [Qbg] at h;refine TL.body (K:=fun s=>∃v139:Int,∃v140:Int,s=(f38_39_40n5S bg1 bb2 v139 v140)∧Qbg f bg1 bb2 v139 v140=some o) ?_ (by rintro _ ⟨v139,v140,rfl,hk⟩; exact f38_39_40n5_ok f _ _ _ _ hk);rcases Qh h with ⟨h142,h⟩|⟨h142,h⟩
  ·refine rN Qf 2 [j3] [some true] [] [] [0,1,2,3,9,17,18,19] (f38_39_40n2S bg1 bb2 v139 v140) (ap h142 an) ?_;obtain ⟨o242,h243,h⟩:=Qd h;cases o242 with
   | norm v244 =>
    refine T.oneN (by kernel_rfl) (f38_39_40n2_ok bg1 bb2 v139 v140 h243) (st2:=(f38_39_40n2E bg1 bb2 v139 v140 (.norm v244)).2) rfl ?_;exact rE Qf [j3] [] [] [] [0,1,2,3,9,17,18,19] (.norm,(f38_39_40n5S bg1 bb2 v244 (wr64 (v140+1)))) an (Qp.norm ⟨v244,(wr64 (v140+1)),rfl,h⟩)
   | ret =>
    obtain rfl:=Qe h;exact T.oneX' (by kernel_rfl) (f38_39_40n2_ok bg1 bb2 v139 v140 h243) (tds:=[]) (m:=[]) (keep:=[8]) (st2:=(f38_39_40n5E bg1 bb2 .ret).2) (by kernel_rfl) an rfl (Qp.out rfl rfl)
  ·obtain rfl:=Qe h;exact rK Qf 2 [j3] [some false] [] [] [9] (.exit 0) ((f38_39_40n5E bg1 bb2 (.exit0 v139)).2) (ap h142 an) (Qp.out rfl rfl)
inductive f38_39_40n1O where
 | norm (v249:Int)
 | ret
def f38_39_40n1E(bg1:List Qa)(bb2:Int):f38_39_40n1O→Ex×Tr×Hp
 | .norm v249=>(.norm,mkS [(9,(jI v249))],[])
 | .ret=>(.ret,mkS [(8,(jB false))],[])
def f38_39_40n1S(bg1:List Qa)(bb2:Int):Tr×Hp:=(mkS [(0,(jL 3 Qa.cells bg1)),(1,(.pl (.fn 39))),(2,(.pl (.fn 40))),(3,(jI bb2)),(9,(jI 0))],[])
noncomputable def f38_39_40n1(bg1:List Qa)(bb2:Int):Option f38_39_40n1O :=
 (Qbg FUEL bg1 bb2 0 0).bind fun o246=>match o246 with
 | .exit0 v248=>some (.norm v248)
 | .ret=>some .ret
theorem f38_39_40n1_ok(bg1:List Qa)(bb2:Int){o:f38_39_40n1O}(h:f38_39_40n1 bg1 bb2=some o):T Try.prog Try.f38.ntmps 0 (cL (Qj 3 c38)) (f38_39_40n1S bg1 bb2) (·=f38_39_40n1E bg1 bb2 o):=by
 unfold f38_39_40n1 at h;refine rN Qf 1 [([],[],[(1,.val (jI (bg1.length:Int)))])] [] [] [] [0,1,2,3,9,17,18,19] (f38_39_40n5S bg1 bb2 0 0) (ap (Qx (xs:=bg1) (c:=Qa.cells)) an) ?_;obtain ⟨o246,h247,h⟩:=Qd h;cases o246 with
 | exit0 v248 =>
  obtain rfl:=Qe h;exact T.last' (T.bl (i:=0) (by kernel_rfl) (by kernel_rfl) (f38_39_40n5_ok FUEL bg1 bb2 0 0 h247)) (tds:=[]) (m:=[]) (keep:=[9]) (st2:=(f38_39_40n1E bg1 bb2 (.norm v248)).2) (by kernel_rfl) an rfl
 | ret =>
  obtain rfl:=Qe h;exact T.last' (T.bl (i:=0) (by kernel_rfl) (by kernel_rfl) (f38_39_40n5_ok FUEL bg1 bb2 0 0 h247)) (tds:=[]) (m:=[]) (keep:=[8]) (st2:=(f38_39_40n1E bg1 bb2 .ret).2) (by kernel_rfl) an rfl
inductive f38_39_40n0O where
 | ret (v253:Bool)
def f38_39_40n0E(a1:List Qa)(a2:Int):f38_39_40n0O→Ex×Tr×Hp
 | .ret v253=>(.ret,mkS [(8,(jB v253))],[])
def f38_39_40n0S(a1:List Qa)(a2:Int):Tr×Hp:=(Qaa [(jL 3 Qa.cells a1),(.pl (.fn 39)),(.pl (.fn 40)),(jI a2)] 0 .leaf,[])
noncomputable def f38_39_40n0(a1:List Qa)(a2:Int):Option f38_39_40n0O :=
 bif decide (100<(a1.length:Int)) then
  some (.ret false)
 else
  (f38_39_40n1 a1 a2).bind fun o250=>match o250 with
  | .norm v252=>some (.ret (decide (v252≤1125899906842624)))
  | .ret=>some (.ret false)
theorem f38_39_40n0_ok(a1:List Qa)(a2:Int){o:f38_39_40n0O}(h:f38_39_40n0 a1 a2=some o):T Try.prog Try.f38.ntmps 0 c38 (f38_39_40n0S a1 a2) (·=f38_39_40n0E a1 a2 o):=by
 unfold f38_39_40n0 at h;rcases Qh h with ⟨h4,h⟩|⟨h4,h⟩
 ·obtain rfl:=Qe h;exact rK Qf 2 [j3,([],[],[(1,.val (jI (a1.length:Int)))]),j3] [some true] [] [] [8] .ret ((f38_39_40n0E a1 a2 (.ret false)).2) (ap (Qx (xs:=a1) (c:=Qa.cells)) (ap h4 an)) rfl
 ·refine rN Qf 3 [j3,([],[],[(1,.val (jI (a1.length:Int)))]),j3] [some false] [] [] [0,1,2,3,9] (f38_39_40n1S a1 a2) (ap (Qx (xs:=a1) (c:=Qa.cells)) (ap h4 an)) ?_;obtain ⟨o250,h251,h⟩:=Qd h;cases o250 with
  | norm v252 =>
   refine T.oneN (by kernel_rfl) (f38_39_40n1_ok a1 a2 h251) (st2:=(f38_39_40n1E a1 a2 (.norm v252)).2) rfl ?_;obtain rfl:=Qe h;exact rE Qf [j3] [] [] [] [8] (.ret,(f38_39_40n0E a1 a2 (.ret (decide (v252≤1125899906842624)))).2) an rfl
  | ret =>
   obtain rfl:=Qe h;exact T.oneX' (by kernel_rfl) (f38_39_40n1_ok a1 a2 h251) (tds:=[]) (m:=[]) (keep:=[8]) (st2:=(f38_39_40n0E a1 a2 (.ret false)).2) (by kernel_rfl) an rfl rfl
noncomputable def f38_39_40(a1:List Qa)(a2:Int):Option Bool:=(f38_39_40n0 a1 a2).bind fun o=>match o with
 | .ret v253=>some v253
theorem f38_39_40_ok(a1:List Qa)(a2:Int){r:Bool}(h:f38_39_40 a1 a2=some r):Ql Try.prog false 38 [(jL 3 Qa.cells a1),(.pl (.fn 39)),(.pl (.fn 40)),(jI a2)] [] (jB r) []:=by
 unfold f38_39_40 at h;obtain ⟨o,ho,h⟩:=Qd h;cases o with
 | ret v253 =>
  obtain rfl:=Qe h;exact Ql.plain Qf (f:=Try.f38) (c:=c38) (by kernel_rfl) (by kernel_rfl) (by kernel_rfl) (by kernel_rfl) ((f38_39_40n0_ok a1 a2 ho).mono fun r e=>by subst e; exact ⟨.inl rfl,(jB v253),(jB v253),by kernel_rfl,by kernel_rfl,((Wk.refl _):Wk (jB v253) (jB v253))⟩)

noncomputable def c58:Code:=Try.f58.body.getD .skip
inductive f58r1n0O where
 | ret
def f58r1n0E(a1:List Qa):f58r1n0O→Ex×Tr×Hp
 | .ret=>(.ret,mkS [(6,(.clo 75 [(.bp 0 0),(.bp 1 0),(.bp 2 0)]))],[some (.box (((cLst 3 Qa.cells) a1).map .pl)),some (.box [(.pl (.fn 39))]),some (.box ((Qaq true).map .pl))])
def f58r1n0S(a1:List Qa):Tr×Hp:=(Qaa [(jL 3 Qa.cells a1),(.pl (.fn 39)),(jB true)] 0 .leaf,[])
noncomputable def f58r1n0(a1:List Qa):Option f58r1n0O :=
 some .ret
theorem f58r1n0_ok(a1:List Qa){o:f58r1n0O}(h:f58r1n0 a1=some o):T Try.prog Try.f58.ntmps 0 c58 (f58r1n0S a1) (·=f58r1n0E a1 o):=by
 unfold f58r1n0 at h;obtain rfl:=Qe h;exact rE Qf [j3,j3] [] [] [0,1,2] [6] (.ret,(f58r1n0E a1 .ret).2) an rfl
noncomputable def f58r1(a1:List Qa):Option Unit:=(f58r1n0 a1).bind fun o=>match o with
 | .ret=>some ()
theorem f58r1_ok(a1:List Qa){r:Unit}(h:f58r1 a1=some r):Ql Try.prog true 58 [(jL 3 Qa.cells a1),(.pl (.fn 39)),(jB true)] [] (.clo 75 [(.bp 0 0),(.bp 1 0),(.bp 2 0)]) [some (.box (((cLst 3 Qa.cells) a1).map .pl)),some (.box [(.pl (.fn 39))]),some (.box ((Qaq true).map .pl))]:=by
 unfold f58r1 at h;obtain ⟨o,ho,h⟩:=Qd h;cases o with
 | ret =>
  obtain rfl:=Qe h;exact Ql.shared Qf (f:=Try.f58) (c:=c58) (by kernel_rfl) (by kernel_rfl) (by kernel_rfl) ((f58r1n0_ok a1 ho).mono fun r e=>by subst e; exact ⟨.inl rfl,by kernel_rfl,by kernel_rfl⟩)

noncomputable def c59:Code:=Try.f59.body.getD .skip
inductive f59_40n2O where
 | exit0 (v36:Int)
def f59_40n2E(bg1:List Qa):f59_40n2O→Ex×Tr×Hp
 | .exit0 v36=>((.exit 0),mkS [(5,(jI v36))],[])
def f59_40n2S(bg1:List Qa)(v24 v25:Int):Tr×Hp:=(mkS [(1,(.pl (.fn 40))),(5,(jI v24)),(8,(jL 3 Qa.cells bg1)),(9,(jI (bg1.length:Int))),(10,(jI v25))],[])
noncomputable def f59_40n2:Nat→List Qa→Int→Int→Option f59_40n2O
 | 0,_,_,_=>none
 | f+1,bg1,v24,v25 =>
  bif decide (v25<(bg1.length:Int)) then
   (at? bg1 v25).bind fun x32 =>
   (f40 x32).bind fun x34 =>
   (f59_40n2 f bg1 (wr64 (v24+x34)) (wr64 (v25+1)))
  else
   some (.exit0 v24)
theorem f59_40n2_ok:∀(f:Nat)(bg1:List Qa)(v24 v25:Int){o:f59_40n2O},f59_40n2 f bg1 v24 v25=some o→TL Try.prog Try.f59.ntmps 0 f (cL (cL (Qj 1 (cL (Qj 2 c59))))) (f59_40n2S bg1 v24 v25) (·=f59_40n2E bg1 o)
 | 0,_,_,_,o,h=>by rw [f59_40n2] at h; cases h
 | f+1,bg1,v24,v25,o,h=>by
  rw [f59_40n2] at h;refine TL.body (K:=fun s=>∃v24:Int,∃v25:Int,s=(f59_40n2S bg1 v24 v25)∧f59_40n2 f bg1 v24 v25=some o) ?_ (by rintro _ ⟨v24,v25,rfl,hk⟩; exact f59_40n2_ok f _ _ _ hk);rcases Qh h with ⟨h27,h⟩|⟨h27,h⟩
  ·obtain ⟨x32,h33,h⟩:=Qd h;obtain ⟨x34,h35,h⟩:=Qd h;exact rE Qf [j3,([],[(0,.idx (Int.toNat v25) (Qa.cells x32))],[]),([],[jH 3 (jI x34)],[]),j3] [some true] [] [] [1,5,8,9,10] (.norm,(f59_40n2S bg1 (wr64 (v24+x34)) (wr64 (v25+1)))) (ap h27 (ap (Qg h33).1 (ap (Qm Qa.cells (Qg h33).2) (ap (f40_ok x32 h35) an)))) (Qp.norm ⟨(wr64 (v24+x34)),(wr64 (v25+1)),rfl,h⟩)
  ·obtain rfl:=Qe h;exact rK Qf 2 [j3] [some false] [] [] [5] (.exit 0) ((f59_40n2E bg1 (.exit0 v24)).2) (ap h27 an) (Qp.out rfl rfl)
inductive f59_40n1O where
 | norm (v40:Int)
def f59_40n1E(bg1:List Qa):f59_40n1O→Ex×Tr×Hp
 | .norm v40=>(.norm,mkS [(5,(jI v40))],[])
def f59_40n1S(bg1:List Qa):Tr×Hp:=(mkS [(0,(jL 3 Qa.cells bg1)),(1,(.pl (.fn 40))),(5,(jI 0))],[])
noncomputable def f59_40n1(bg1:List Qa):Option f59_40n1O :=
 (f59_40n2 FUEL bg1 0 0).bind fun o37=>match o37 with
 | .exit0 v39=>some (.norm v39)
theorem f59_40n1_ok(bg1:List Qa){o:f59_40n1O}(h:f59_40n1 bg1=some o):T Try.prog Try.f59.ntmps 0 (cL (Qj 2 c59)) (f59_40n1S bg1) (·=f59_40n1E bg1 o):=by
 unfold f59_40n1 at h;refine rN Qf 1 [([],[],[(1,.val (jI (bg1.length:Int)))])] [] [] [] [1,5,8,9,10] (f59_40n2S bg1 0 0) (ap (Qx (xs:=bg1) (c:=Qa.cells)) an) ?_;obtain ⟨o37,h38,h⟩:=Qd h;cases o37 with
 | exit0 v39 =>
  obtain rfl:=Qe h;exact T.last' (T.bl (i:=0) (by kernel_rfl) (by kernel_rfl) (f59_40n2_ok FUEL bg1 0 0 h38)) (tds:=[]) (m:=[]) (keep:=[5]) (st2:=(f59_40n1E bg1 (.norm v39)).2) (by kernel_rfl) an rfl
inductive f59_40n0O where
 | ret (v44:Int)
def f59_40n0E(a1:List Qa):f59_40n0O→Ex×Tr×Hp
 | .ret v44=>(.ret,mkS [(4,(jI v44))],[])
def f59_40n0S(a1:List Qa):Tr×Hp:=(Qaa [(jL 3 Qa.cells a1),(.pl (.fn 40))] 0 .leaf,[])
noncomputable def f59_40n0(a1:List Qa):Option f59_40n0O :=
 (f59_40n1 a1).bind fun o41=>match o41 with
 | .norm v43=>some (.ret v43)
theorem f59_40n0_ok(a1:List Qa){o:f59_40n0O}(h:f59_40n0 a1=some o):T Try.prog Try.f59.ntmps 0 c59 (f59_40n0S a1) (·=f59_40n0E a1 o):=by
 unfold f59_40n0 at h;refine rN Qf 2 [j3,j3] [] [] [] [0,1,5] (f59_40n1S a1) an ?_;obtain ⟨o41,h42,h⟩:=Qd h;cases o41 with
 | norm v43 =>
  refine T.oneN (by kernel_rfl) (f59_40n1_ok a1 h42) (st2:=(f59_40n1E a1 (.norm v43)).2) rfl ?_;obtain rfl:=Qe h;exact rE Qf [j3] [] [] [] [4] (.ret,(f59_40n0E a1 (.ret v43)).2) an rfl
noncomputable def f59_40(a1:List Qa):Option Int:=(f59_40n0 a1).bind fun o=>match o with
 | .ret v44=>some v44
theorem f59_40_ok(a1:List Qa){r:Int}(h:f59_40 a1=some r):Ql Try.prog false 59 [(jL 3 Qa.cells a1),(.pl (.fn 40))] [] (jI r) []:=by
 unfold f59_40 at h;obtain ⟨o,ho,h⟩:=Qd h;cases o with
 | ret v44 =>
  obtain rfl:=Qe h;exact Ql.plain Qf (f:=Try.f59) (c:=c59) (by kernel_rfl) (by kernel_rfl) (by kernel_rfl) (by kernel_rfl) ((f59_40n0_ok a1 ho).mono fun r e=>by subst e; exact ⟨.inl rfl,(jI v44),(jI v44),by kernel_rfl,by kernel_rfl,((Wk.refl _):Wk (jI v44) (jI v44))⟩)
end Go.Proofs.Ytgbolgaodaokcaa
namespace Go.Proofs.Ytgbolgaodaokcaa
set_option linter.unusedVariables false
set_option linter.unusedSimpArgs false
set_option maxRecDepth 100000
open Go.RowKit
noncomputable def c41:Code:=Try.f41.body.getD .skip
noncomputable def Qah:Code:=(Qj 0 (cL (Qj 1 (cL (Qj 2 c41)))))
inductive f41y1n2O where
 | exit2 (v50:List Int)
noncomputable def f41y1n2E(bb1 bb2 bb4 bb5:Int)(bg3:List Qa)(be6:List Int):f41y1n2O→Ex×Tr×Hp
 | .exit2 v50=>((.exit 2),mkS [(8,(.bp 3 0)),(12,(.bp 4 0)),(13,(jI bb1)),(14,(jI bb2)),(16,(jI (mnI bb4 bb5))),(17,(.own 6))],[some (.lp Qah .busy none (kL 96 [(5,(.bp 1 0)),(7,(.bp 2 0)),(8,(.bp 3 0)),(12,(.bp 4 0))])),some (.box (((cLst 3 Qa.cells) bg3).map .pl)),some (.box [(.pl (.fn 40))]),some (.box (((cInt .i64) bb4).map .pl)),some (.box [(.own 5)]),some (.row false 1 (be6.map (cInt .i64))),some (.row false 1 (v50.map (cInt .i64)))])
noncomputable def f41y1n2S(bb1 bb2 bb4 bb5:Int)(bg3:List Qa)(be6:List Int)(v36:Int)(v37:List Int):Tr×Hp:=(mkS [(7,(.bp 2 0)),(8,(.bp 3 0)),(12,(.bp 4 0)),(13,(jI bb1)),(14,(jI bb2)),(16,(jI (mnI bb4 bb5))),(17,(.own 6)),(41,(.pl (.sl .any 3 (((bg3.take (Int.toNat bb2)).drop (Int.toNat bb1)).map Qa.cells)))),(42,(.pl (.int .i64 (((bg3.take (Int.toNat bb2)).drop (Int.toNat bb1)).length:Int)))),(43,(jI v36))],[some (.lp Qah .busy none (kL 96 [(5,(.bp 1 0)),(7,(.bp 2 0)),(8,(.bp 3 0)),(12,(.bp 4 0))])),some (.box (((cLst 3 Qa.cells) bg3).map .pl)),some (.box [(.pl (.fn 40))]),some (.box (((cInt .i64) bb4).map .pl)),some (.box [(.own 5)]),some (.row false 1 (be6.map (cInt .i64))),some (.row false 1 (v37.map (cInt .i64)))])
noncomputable def f41y1n2:Nat→Int→Int→Int→Int→List Qa→List Int→Int→List Int→Option f41y1n2O
 | 0,_,_,_,_,_,_,_,_=>none
 | f+1,bb1,bb2,bb4,bb5,bg3,be6,v36,v37 =>
  bif (decide (v36<(((bg3.take (Int.toNat bb2)).drop (Int.toNat bb1)).length:Int))) then
   (at? ((bg3.take (Int.toNat bb2)).drop (Int.toNat bb1)) v36).bind fun x45 =>
   (f40 x45).bind fun x47 =>
   req (fit (v37.length+1) 8) <|
   (f41y1n2 f bb1 bb2 bb4 bb5 bg3 be6 (wr64 (v36+1)) (v37++[x47]))
  else
   some (.exit2 v37)
theorem f41y1n2_ok:∀(f:Nat)(bb1 bb2 bb4 bb5:Int)(bg3:List Qa)(be6:List Int)(v36:Int)(v37:List Int){o:f41y1n2O},f41y1n2 f bb1 bb2 bb4 bb5 bg3 be6 v36 v37=some o→TL Try.prog Try.f41.ntmps 6 f (cL (cL (Qj 1 (cL (Qj 3 (cL (rfB Qah))))))) (f41y1n2S bb1 bb2 bb4 bb5 bg3 be6 v36 v37) (·=f41y1n2E bb1 bb2 bb4 bb5 bg3 be6 o)
 | 0,_,_,_,_,_,_,_,_,o,h=>by rw [f41y1n2] at h; cases h
 | f+1,bb1,bb2,bb4,bb5,bg3,be6,v36,v37,o,h=>by
  rw [f41y1n2] at h;refine TL.body (K:=fun s=>∃v36:Int,∃v37:List Int,s=(f41y1n2S bb1 bb2 bb4 bb5 bg3 be6 v36 v37)∧f41y1n2 f bb1 bb2 bb4 bb5 bg3 be6 v36 v37=some o) ?_ (by rintro _ ⟨v36,v37,rfl,hk⟩; exact f41y1n2_ok f _ _ _ _ _ _ _ _ hk);rcases Qh h with ⟨h39,h⟩|⟨h39,h⟩
  ·obtain ⟨x45,h46,h⟩:=Qd h;obtain ⟨x47,h48,h⟩:=Qd h;obtain ⟨h49,h⟩:=Qt h;exact rE Qf [j3,([],[(0,.idx (Int.toNat v36) (Qa.cells x45))],[]),([],[jH 3 (jI x47),(5,.fits)],[(5,.row 9 ((v37++[x47]).map (cInt .i64)))]),j3] [some true] [] [9] [7,8,12,13,14,16,17,41,42,43] (.norm,(f41y1n2S bb1 bb2 bb4 bb5 bg3 be6 (wr64 (v36+1)) (v37++[x47]))) (ap h39 (ap (Qg h46).1 (ap (Qm Qa.cells (Qg h46).2) (ap (fit_map (te:=ti3) (xs:=v37) (n:=1) (c:=(cInt .i64)) h49 rfl) (ap (app_cv (xs:=v37) (ys:=[x47]) (c:=(cInt .i64))) (ap (f40_ok x45 h48) an)))))) (Qp.norm ⟨(wr64 (v36+1)),(v37++[x47]),rfl,h⟩)
  ·obtain rfl:=Qe h;exact rK Qf 2 [j3] [some false] [] [6] [8,12,13,14,16,17] (.exit 2) ((f41y1n2E bb1 bb2 bb4 bb5 bg3 be6 (.exit2 v37)).2) (ap h39 an) (Qp.out rfl rfl)
inductive f41y1n1O where
 | norm (v54:List Int)
noncomputable def f41y1n1E(bb1 bb2:Int)(bg3:List Qa)(bb4 bb5:Int)(be6:List Int):f41y1n1O→Ex×Tr×Hp
 | .norm v54=>(.norm,mkS [(8,(.bp 3 0)),(12,(.bp 4 0)),(13,(jI bb1)),(14,(jI bb2)),(16,(jI (mnI bb4 bb5))),(17,(.own 6))],[some (.lp Qah .busy none (kL 96 [(5,(.bp 1 0)),(7,(.bp 2 0)),(8,(.bp 3 0)),(12,(.bp 4 0))])),some (.box (((cLst 3 Qa.cells) bg3).map .pl)),some (.box [(.pl (.fn 40))]),some (.box (((cInt .i64) bb4).map .pl)),some (.box [(.own 5)]),some (.row false 1 (be6.map (cInt .i64))),some (.row false 1 (v54.map (cInt .i64)))])
noncomputable def f41y1n1S(bb1 bb2:Int)(bg3:List Qa)(bb4 bb5:Int)(be6:List Int):Tr×Hp:=(mkS [(7,(.bp 2 0)),(8,(.bp 3 0)),(12,(.bp 4 0)),(13,(jI bb1)),(14,(jI bb2)),(15,(.pl (.sl .any 3 (((bg3.take (Int.toNat bb2)).drop (Int.toNat bb1)).map Qa.cells)))),(16,(jI (mnI bb4 bb5))),(17,(.pl (.sl .nil 0 [])))],[some (.lp Qah .busy none (kL 96 [(5,(.bp 1 0)),(7,(.bp 2 0)),(8,(.bp 3 0)),(12,(.bp 4 0))])),some (.box (((cLst 3 Qa.cells) bg3).map .pl)),some (.box [(.pl (.fn 40))]),some (.box (((cInt .i64) bb4).map .pl)),some (.box [(.own 5)]),some (.row false 1 (be6.map (cInt .i64)))])
noncomputable def f41y1n1(bb1 bb2:Int)(bg3:List Qa)(bb4 bb5:Int)(be6:List Int):Option f41y1n1O :=
 (f41y1n2 FUEL bb1 bb2 bb4 bb5 bg3 be6 0 []).bind fun o51=>match o51 with
 | .exit2 v53=>some (.norm v53)
theorem f41y1n1_ok(bb1 bb2:Int)(bg3:List Qa)(bb4 bb5:Int)(be6:List Int){o:f41y1n1O}(h:f41y1n1 bb1 bb2 bg3 bb4 bb5 be6=some o):T Try.prog Try.f41.ntmps 6 (cL (Qj 3 (cL (rfB Qah)))) (f41y1n1S bb1 bb2 bg3 bb4 bb5 be6) (·=f41y1n1E bb1 bb2 bg3 bb4 bb5 be6 o):=by
 unfold f41y1n1 at h;refine rN Qf 1 [([],[],[(1,.val (.pl (.int .i64 (((bg3.take (Int.toNat bb2)).drop (Int.toNat bb1)).length:Int))))])] [] [.mat 17 1] [6] [7,8,12,13,14,16,17,41,42,43] (f41y1n2S bb1 bb2 bb4 bb5 bg3 be6 0 []) (ap (Qx (xs:=((bg3.take (Int.toNat bb2)).drop (Int.toNat bb1))) (c:=Qa.cells)) an) ?_;obtain ⟨o51,h52,h⟩:=Qd h;cases o51 with
 | exit2 v53 =>
  obtain rfl:=Qe h;exact T.last' (T.bl (i:=2) (by kernel_rfl) (by kernel_rfl) (f41y1n2_ok FUEL bb1 bb2 bb4 bb5 bg3 be6 0 [] h52)) (tds:=[]) (m:=[6]) (keep:=[8,12,13,14,16,17]) (st2:=(f41y1n1E bb1 bb2 bg3 bb4 bb5 be6 (.norm v53)).2) (by kernel_rfl) an rfl
inductive f41y1n0O where
 | norm (v64:Int) (v65:List Int)
noncomputable def f41y1n0E(a1 a2:Int)(a3:List Qa)(a4:Int)(a5:List Int):f41y1n0O→Ex×Tr×Hp
 | .norm v64 v65=>(.norm,mkS [],[some (.lp Qah .busy none (kL 96 [(5,(.bp 1 0)),(7,(.bp 2 0)),(8,(.bp 3 0)),(12,(.bp 4 0))])),some (.box (((cLst 3 Qa.cells) a3).map .pl)),some (.box [(.pl (.fn 40))]),some (.box (((cInt .i64) v64).map .pl)),some (.box [(.own 5)]),some (.row false 1 (v65.map (cInt .i64)))])
noncomputable def f41y1n0S(a1 a2:Int)(a3:List Qa)(a4:Int)(a5:List Int):Tr×Hp:=(mkS [(5,(.bp 1 0)),(7,(.bp 2 0)),(8,(.bp 3 0)),(12,(.bp 4 0)),(13,(jI a1)),(14,(jI a2))],[some (.lp Qah .busy none (kL 96 [(5,(.bp 1 0)),(7,(.bp 2 0)),(8,(.bp 3 0)),(12,(.bp 4 0))])),some (.box (((cLst 3 Qa.cells) a3).map .pl)),some (.box [(.pl (.fn 40))]),some (.box (((cInt .i64) a4).map .pl)),some (.box [(.own 5)]),some (.row false 1 (a5.map (cInt .i64)))])
noncomputable def f41y1n0(a1 a2:Int)(a3:List Qa)(a4:Int)(a5:List Int):Option f41y1n0O :=
 req (cutB a1 a2 a3.length) <|
 (f59_40 ((a3.take (Int.toNat a2)).drop (Int.toNat a1))).bind fun x10 =>
 (f41y1n1 a1 a2 a3 a4 x10 a5).bind fun o55=>match o55 with
 | .norm v57=>req (cutB a1 a2 a5.length) <|
  (f55 (mnI a4 x10) v57).bind fun x62 =>
  some (.norm (wr64 (a4-(mnI a4 x10))) (putL a5 (Int.toNat a1) (x62.take (Nat.min x62.length ((Int.toNat a2)-(Int.toNat a1))))))
theorem f41y1n0_ok(a1 a2:Int)(a3:List Qa)(a4:Int)(a5:List Int){o:f41y1n0O}(h:f41y1n0 a1 a2 a3 a4 a5=some o):T Try.prog Try.f41.ntmps 6 (rfB Qah) (f41y1n0S a1 a2 a3 a4 a5) (·=f41y1n0E a1 a2 a3 a4 a5 o):=by
 unfold f41y1n0 at h;refine T.block' (i:=1) (by kernel_rfl) ?_;obtain ⟨h7,h⟩:=Qt h;obtain ⟨x10,h11,h⟩:=Qd h;refine rN Qf 3 [([],[(3,.cut (Int.toNat a1) (Int.toNat a2))],[(3,.val (.pl (.sl .any 3 (((a3.take (Int.toNat a2)).drop (Int.toNat a1)).map Qa.cells))))]),([],[jH 3 (jI x10)],[]),j3] [] [] [] [7,8,12,13,14,15,16,17] (f41y1n1S a1 a2 a3 a4 x10 a5) (ap (cut_hl_1_map (c:=Qa.cells) h7) (ap (cut_hl_2 h7) (ap (cut_hl_3 h7) (ap (Qcg (c:=Qa.cells) h7) (ap (congrArg (fun l=>AV.pl (.sl .any 3 l)) (cut_cv (xs:=a3) (c:=Qa.cells) (n:=(Int.toNat a2)) (m:=(Int.toNat a1)))) (ap (f59_40_ok ((a3.take (Int.toNat a2)).drop (Int.toNat a1)) h11) an)))))) ?_;obtain ⟨o55,h56,h⟩:=Qd h;cases o55 with
 | norm v57 =>
  refine T.oneN (by kernel_rfl) (f41y1n1_ok a1 a2 a3 a4 x10 a5 h56) (st2:=(f41y1n1E a1 a2 a3 a4 x10 a5 (.norm v57)).2) rfl ?_;obtain ⟨h61,h⟩:=Qt h;obtain ⟨x62,h63,h⟩:=Qd h;obtain rfl:=Qe h
  exact rE Qf [([],[(3,.cut (Int.toNat a1) (Int.toNat a2)),jH 6 (.pl (.sl .any 1 (x62.map (cInt .i64)))),(7,.num (Nat.min x62.length ((Int.toNat a2)-(Int.toNat a1))))],[(7,.row 5 ((putL a5 (Int.toNat a1) (x62.take (Nat.min x62.length ((Int.toNat a2)-(Int.toNat a1))))).map (cInt .i64)))]),j3] [] [] [] [] (.norm,(f41y1n0E a1 a2 a3 a4 a5 (.norm (wr64 (a4-(mnI a4 x10))) (putL a5 (Int.toNat a1) (x62.take (Nat.min x62.length ((Int.toNat a2)-(Int.toNat a1))))))).2) (ap (cut_hl_1_map (c:=(cInt .i64)) h61) (ap (cut_hl_2 h61) (ap (cut_hl_3 h61) (ap (Qcg (c:=(cInt .i64)) h61) (ap (cpy_k (l:=((Int.toNat a2)-(Int.toNat a1))) (c:=(cInt .i64)) (ys:=x62)) (ap (vw_le (cut_hl_3 h61) (Qcg (c:=(cInt .i64)) h61)) (ap (len_all (c:=(cInt .i64)) (xs:=x62) (n:=1) (fun _=>rfl)) (ap (cpy_cv (xs:=a5) (ys:=x62) (c:=(cInt .i64)) (a:=(Int.toNat a1)) (k:=(Nat.min x62.length ((Int.toNat a2)-(Int.toNat a1))))) (ap (f55_ok (mnI a4 x10) v57 h63) an))))))))) rfl
theorem f41y1_norm(a1 a2:Int)(a3:List Qa)(a4:Int)(a5:List Int){v64:Int}{v65:List Int}(h:f41y1n0 a1 a2 a3 a4 a5=some (.norm v64 v65)):CallY Try.prog [(jI a1),(jI a2)] 0 [some (.lp Qah .ready none (kL 96 [(5,(.bp 1 0)),(7,(.bp 2 0)),(8,(.bp 3 0)),(12,(.bp 4 0))])),some (.box (((cLst 3 Qa.cells) a3).map .pl)),some (.box [(.pl (.fn 40))]),some (.box (((cInt .i64) a4).map .pl)),some (.box [(.own 5)]),some (.row false 1 (a5.map (cInt .i64)))] true [some (.lp Qah .ready none (kL 96 [(5,(.bp 1 0)),(7,(.bp 2 0)),(8,(.bp 3 0)),(12,(.bp 4 0))])),some (.box (((cLst 3 Qa.cells) a3).map .pl)),some (.box [(.pl (.fn 40))]),some (.box (((cInt .i64) v64).map .pl)),some (.box [(.own 5)]),some (.row false 1 (v65.map (cInt .i64)))] :=
 CallY.mk (c:=Qah) (n:=Try.f41.ntmps) (base:=6) (cs:=(kL 96 [(5,(.bp 1 0)),(7,(.bp 2 0)),(8,(.bp 3 0)),(12,(.bp 4 0))])) (cs2:=(kL 96 [(5,(.bp 1 0)),(7,(.bp 2 0)),(8,(.bp 3 0)),(12,(.bp 4 0))])) (cs3:=(kL 96 [(5,(.bp 1 0)),(7,(.bp 2 0)),(8,(.bp 3 0)),(12,(.bp 4 0))])) (st2:=(mkS [(5,(.bp 1 0)),(7,(.bp 2 0)),(8,(.bp 3 0)),(12,(.bp 4 0)),(13,(jI a1)),(14,(jI a2))],[some (.lp Qah .ready none (kL 96 [(5,(.bp 1 0)),(7,(.bp 2 0)),(8,(.bp 3 0)),(12,(.bp 4 0))])),some (.box (((cLst 3 Qa.cells) a3).map .pl)),some (.box [(.pl (.fn 40))]),some (.box (((cInt .i64) a4).map .pl)),some (.box [(.own 5)]),some (.row false 1 (a5.map (cInt .i64)))])) (e:=(f41y1n0E a1 a2 a3 a4 a5 (.norm v64 v65))) (pend:=none)
  (run_ok (P:=Try.prog) (C:=cfg) Qf (c:=rfA Qah) (rs:=[j3,j3]) (ps:=[]) (tds:=[]) (m:=[]) (keep:=[5,7,8,12,13,14]) (by kernel_rfl) an)
  (f41y1n0_ok a1 a2 a3 a4 a5 h)

noncomputable def c75:Code:=Try.f75.body.getD .skip
inductive f75r1n2O where
 | exit0 (v82:List Int)
noncomputable def f75r1n2E(bg1:List Qa)(bb2:Int)(be3:List Int):f75r1n2O→Ex×Tr×Hp
 | .exit0 v82=>((.exit 0),mkS [(0,(.yl 0)),(3,(.bp 3 0)),(5,(.own 9))],[some (.lp Qah .ready none (kL 96 [(5,(.bp 4 0)),(7,(.bp 5 0)),(8,(.bp 6 0)),(12,(.bp 7 0))])),some (.box (((cLst 3 Qa.cells) bg1).map .pl)),some (.box [(.pl (.fn 39))]),some (.box ((Qaq true).map .pl)),some (.box (((cLst 3 Qa.cells) bg1).map .pl)),some (.box [(.pl (.fn 40))]),some (.box (((cInt .i64) bb2).map .pl)),some (.box [(.own 8)]),some (.row false 1 (be3.map (cInt .i64))),some (.row false 1 (v82.map (cInt .i64)))])
noncomputable def f75r1n2S(bg1:List Qa)(bb2:Int)(be3:List Int)(v54:Int)(v55:List Int):Tr×Hp:=(mkS [(0,(.yl 0)),(1,(.bp 1 0)),(2,(.bp 2 0)),(3,(.bp 3 0)),(5,(.own 9)),(11,(jI (bg1.length:Int))),(12,(jI v54))],[some (.lp Qah .ready none (kL 96 [(5,(.bp 4 0)),(7,(.bp 5 0)),(8,(.bp 6 0)),(12,(.bp 7 0))])),some (.box (((cLst 3 Qa.cells) bg1).map .pl)),some (.box [(.pl (.fn 39))]),some (.box ((Qaq true).map .pl)),some (.box (((cLst 3 Qa.cells) bg1).map .pl)),some (.box [(.pl (.fn 40))]),some (.box (((cInt .i64) bb2).map .pl)),some (.box [(.own 8)]),some (.row false 1 (be3.map (cInt .i64))),some (.row false 1 (v55.map (cInt .i64)))])
noncomputable def f75r1n2:Nat→List Qa→Int→List Int→Int→List Int→Option f75r1n2O
 | 0,_,_,_,_,_=>none
 | f+1,bg1,bb2,be3,v54,v55 =>
  bif decide (v54<(bg1.length:Int)) then
   bif (decide ((wr64 (v54+1))=(bg1.length:Int))) then
    req (fit (v55.length+1) 8) <|
    (f75r1n2 f bg1 bb2 be3 (wr64 (v54+1)) (v55++[(wr64 (v54+1))]))
   else
    (at? bg1 v54).bind fun x72 =>
    (f39 x72).bind fun x74 =>
    (at? bg1 (wr64 (v54+1))).bind fun x76 =>
    (f39 x76).bind fun x78 =>
    bif decide (x74.level=x78.level) then
     (f75r1n2 f bg1 bb2 be3 (wr64 (v54+1)) v55)
    else
     req (fit (v55.length+1) 8) <|
     (f75r1n2 f bg1 bb2 be3 (wr64 (v54+1)) (v55++[(wr64 (v54+1))]))
  else
   some (.exit0 v55)
theorem f75r1n2_ok:∀(f:Nat)(bg1:List Qa)(bb2:Int)(be3:List Int)(v54:Int)(v55:List Int){o:f75r1n2O},f75r1n2 f bg1 bb2 be3 v54 v55=some o→TL Try.prog Try.f75.ntmps 9 f (cL (cL (Qj 1 (cL (Qj 1 c75))))) (f75r1n2S bg1 bb2 be3 v54 v55) (·=f75r1n2E bg1 bb2 be3 o)
 | 0,_,_,_,_,_,o,h=>by rw [f75r1n2] at h; cases h
 | f+1,bg1,bb2,be3,v54,v55,o,h=>by
  rw [f75r1n2] at h;refine TL.body (K:=fun s=>∃v54:Int,∃v55:List Int,s=(f75r1n2S bg1 bb2 be3 v54 v55)∧f75r1n2 f bg1 bb2 be3 v54 v55=some o) ?_ (by rintro _ ⟨v54,v55,rfl,hk⟩; exact f75r1n2_ok f _ _ _ _ _ hk);rcases Qh h with ⟨h57,h⟩|⟨h57,h⟩
  ·rcases Qh h with ⟨h70,h⟩|⟨h70,h⟩
   ·obtain ⟨h71,h⟩:=Qt h;exact rE Qf [j3,j3,(jT [6,7,8,9,10,11,12,13,14,15,16,17,18,19,20,21],[(22,.bool true)],[(3,.val (jI (bg1.length:Int)))]),([],[(4,.fits)],[(4,.row 12 ((v55++[(wr64 (v54+1))]).map (cInt .i64)))]),j3] [some true,none] [] [12] [0,1,2,3,5,11,12] (.norm,(f75r1n2S bg1 bb2 be3 (wr64 (v54+1)) (v55++[(wr64 (v54+1))]))) (ap h57 (ap (Qx (xs:=bg1) (c:=Qa.cells)) (ap h70 (ap4 h70 (ap4 h70 (ap4 h70 (ap4 h70 (ap (fit_map (te:=ti3) (xs:=v55) (n:=1) (c:=(cInt .i64)) h71 rfl) (ap (app_cv (xs:=v55) (ys:=[(wr64 (v54+1))]) (c:=(cInt .i64))) an))))))))) (Qp.norm ⟨(wr64 (v54+1)),(v55++[(wr64 (v54+1))]),rfl,h⟩)
   ·obtain ⟨x72,h73,h⟩:=Qd h;obtain ⟨x74,h75,h⟩:=Qd h;obtain ⟨x76,h77,h⟩:=Qd h;obtain ⟨x78,h79,h⟩:=Qd h;rcases Qh h with ⟨h80,h⟩|⟨h80,h⟩
    ·exact rE Qf [j3,j3,(jF [6,7,8,9,10,11,12,13,14,15,16,17,18,19,20,21],[(9,.idx (Int.toNat v54) (Qa.cells x72)),jH 11 (jA Key_.cells x74),(17,.idx (Int.toNat (wr64 (v54+1))) (Qa.cells x76)),jH 19 (jA Key_.cells x78),(22,.bool false)],[(3,.val (jI (bg1.length:Int)))]),j3] [some true,some false] [] [9] [0,1,2,3,5,11,12] (.norm,(f75r1n2S bg1 bb2 be3 (wr64 (v54+1)) v55)) (ap h57 (ap (Qx (xs:=bg1) (c:=Qa.cells)) (ap4 h70 (ap (Qg h73).1 (ap (Qm Qa.cells (Qg h73).2) (ap4 h70 (ap4 h70 (ap (Qg h77).1 (ap (Qm Qa.cells (Qg h77).2) (ap h70 (ap4 h70 (ap (same_val (e:=⟨false,39,[(jA Qa.cells x72)],[],(jA Key_.cells x74),[]⟩) (f:=⟨false,39,[(jA Qa.cells x76)],[],(jA Key_.cells x78),[]⟩) (fun k=>by simp only [jL,jS,jI,jB,jA,Qb.cells_eq,Qb.map_eq,Qa.cells_eq,Qa.map_eq,Key_.cells_eq,Key_.map_eq,Qn.cells_eq,Qn.map_eq,List.cons.injEq,AV.pl.injEq,PV.str.injEq,PV.int.injEq,PV.bool.injEq,PV.agg.injEq,PV.sl.injEq,and_true,true_and] at k; have e0:x74=x78:=Option.some.inj (by rw [←h75,←h79]; simp only [k]); exact ⟨by rw [e0],rfl⟩)) (ap (f39_ok x72 h75) (ap (f39_ok x76 h79) (ap (Qaf h80) an))))))))))))))) (Qp.norm ⟨(wr64 (v54+1)),v55,rfl,h⟩)
    ·obtain ⟨h81,h⟩:=Qt h
     exact rE Qf [j3,j3,(jF [6,7,8,9,10,11,12,13,14,15,16,17,18,19,20,21],[(9,.idx (Int.toNat v54) (Qa.cells x72)),jH 11 (jA Key_.cells x74),(17,.idx (Int.toNat (wr64 (v54+1))) (Qa.cells x76)),jH 19 (jA Key_.cells x78),(22,.bool false)],[(3,.val (jI (bg1.length:Int)))]),([],[(4,.fits)],[(4,.row 12 ((v55++[(wr64 (v54+1))]).map (cInt .i64)))]),j3] [some true,some true] [] [12] [0,1,2,3,5,11,12] (.norm,(f75r1n2S bg1 bb2 be3 (wr64 (v54+1)) (v55++[(wr64 (v54+1))]))) (ap h57 (ap (Qx (xs:=bg1) (c:=Qa.cells)) (ap4 h70 (ap (Qg h73).1 (ap (Qm Qa.cells (Qg h73).2) (ap4 h70 (ap4 h70 (ap (Qg h77).1 (ap (Qm Qa.cells (Qg h77).2) (ap h70 (ap4 h70 (ap (same_val (e:=⟨false,39,[(jA Qa.cells x72)],[],(jA Key_.cells x74),[]⟩) (f:=⟨false,39,[(jA Qa.cells x76)],[],(jA Key_.cells x78),[]⟩) (fun k=>by simp only [jL,jS,jI,jB,jA,Qb.cells_eq,Qb.map_eq,Qa.cells_eq,Qa.map_eq,Key_.cells_eq,Key_.map_eq,Qn.cells_eq,Qn.map_eq,List.cons.injEq,AV.pl.injEq,PV.str.injEq,PV.int.injEq,PV.bool.injEq,PV.agg.injEq,PV.sl.injEq,and_true,true_and] at k; have e0:x74=x78:=Option.some.inj (by rw [←h75,←h79]; simp only [k]); exact ⟨by rw [e0],rfl⟩)) (ap (f39_ok x72 h75) (ap (f39_ok x76 h79) (ap (Qao h80) (ap (fit_map (te:=ti3) (xs:=v55) (n:=1) (c:=(cInt .i64)) h81 rfl) (ap (app_cv (xs:=v55) (ys:=[(wr64 (v54+1))]) (c:=(cInt .i64))) an))))))))))))))))) (Qp.norm ⟨(wr64 (v54+1)),(v55++[(wr64 (v54+1))]),rfl,h⟩)
  ·obtain rfl:=Qe h;exact rK Qf 2 [j3] [some false] [] [9] [0,3,5] (.exit 0) ((f75r1n2E bg1 bb2 be3 (.exit0 v55)).2) (ap h57 an) (Qp.out rfl rfl)
inductive f75r1n1O where
 | norm (v86:List Int)
noncomputable def f75r1n1E(bg1:List Qa)(bb2:Int)(be3:List Int):f75r1n1O→Ex×Tr×Hp
 | .norm v86=>(.norm,mkS [(0,(.yl 0)),(3,(.bp 3 0)),(5,(.own 9))],[some (.lp Qah .ready none (kL 96 [(5,(.bp 4 0)),(7,(.bp 5 0)),(8,(.bp 6 0)),(12,(.bp 7 0))])),some (.box (((cLst 3 Qa.cells) bg1).map .pl)),some (.box [(.pl (.fn 39))]),some (.box ((Qaq true).map .pl)),some (.box (((cLst 3 Qa.cells) bg1).map .pl)),some (.box [(.pl (.fn 40))]),some (.box (((cInt .i64) bb2).map .pl)),some (.box [(.own 8)]),some (.row false 1 (be3.map (cInt .i64))),some (.row false 1 (v86.map (cInt .i64)))])
noncomputable def f75r1n1S(bg1:List Qa)(bb2:Int)(be3:List Int):Tr×Hp:=(mkS [(0,(.yl 0)),(1,(.bp 1 0)),(2,(.bp 2 0)),(3,(.bp 3 0)),(5,(.pl (.sl .nil 0 [])))],[some (.lp Qah .ready none (kL 96 [(5,(.bp 4 0)),(7,(.bp 5 0)),(8,(.bp 6 0)),(12,(.bp 7 0))])),some (.box (((cLst 3 Qa.cells) bg1).map .pl)),some (.box [(.pl (.fn 39))]),some (.box ((Qaq true).map .pl)),some (.box (((cLst 3 Qa.cells) bg1).map .pl)),some (.box [(.pl (.fn 40))]),some (.box (((cInt .i64) bb2).map .pl)),some (.box [(.own 8)]),some (.row false 1 (be3.map (cInt .i64)))])
noncomputable def f75r1n1(bg1:List Qa)(bb2:Int)(be3:List Int):Option f75r1n1O :=
 (f75r1n2 FUEL bg1 bb2 be3 0 []).bind fun o83=>match o83 with
 | .exit0 v85=>some (.norm v85)
theorem f75r1n1_ok(bg1:List Qa)(bb2:Int)(be3:List Int){o:f75r1n1O}(h:f75r1n1 bg1 bb2 be3=some o):T Try.prog Try.f75.ntmps 9 (cL (Qj 1 c75)) (f75r1n1S bg1 bb2 be3) (·=f75r1n1E bg1 bb2 be3 o):=by
 unfold f75r1n1 at h;refine rN Qf 1 [([],[],[(1,.val (jI (bg1.length:Int)))])] [] [.mat 5 1] [9] [0,1,2,3,5,11,12] (f75r1n2S bg1 bb2 be3 0 []) (ap (Qx (xs:=bg1) (c:=Qa.cells)) an) ?_;obtain ⟨o83,h84,h⟩:=Qd h;cases o83 with
 | exit0 v85 =>
  obtain rfl:=Qe h;exact T.last' (T.bl (i:=0) (by kernel_rfl) (by kernel_rfl) (f75r1n2_ok FUEL bg1 bb2 be3 0 [] h84)) (tds:=[]) (m:=[9]) (keep:=[0,3,5]) (st2:=(f75r1n1E bg1 bb2 be3 (.norm v85)).2) (by kernel_rfl) an rfl
inductive f75r1n4O where
 | norm (v161:Int)
noncomputable def f75r1n4E(be1:List Int)(bb2:Int)(bg3:List Qa)(bb4:Int)(be5:List Int):f75r1n4O→Ex×Tr×Hp
 | .norm v161=>(.norm,mkS [(0,(.yl 0)),(3,(.bp 3 0)),(5,(.own 9)),(8,(.pl (.int .i64 (wr64 ((wr64 ((be1.length:Int)-1))-bb2))))),(9,(jI v161)),(45,(jI (be1.length:Int))),(46,(jI bb2))],[some (.lp Qah .ready none (kL 96 [(5,(.bp 4 0)),(7,(.bp 5 0)),(8,(.bp 6 0)),(12,(.bp 7 0))])),some (.box (((cLst 3 Qa.cells) bg3).map .pl)),some (.box [(.pl (.fn 39))]),some (.box ((Qaq true).map .pl)),some (.box (((cLst 3 Qa.cells) bg3).map .pl)),some (.box [(.pl (.fn 40))]),some (.box (((cInt .i64) bb4).map .pl)),some (.box [(.own 8)]),some (.row false 1 (be5.map (cInt .i64))),some (.row false 1 (be1.map (cInt .i64)))])
noncomputable def f75r1n4S(be1:List Int)(bb2:Int)(bg3:List Qa)(bb4:Int)(be5:List Int):Tr×Hp:=(mkS [(0,(.yl 0)),(3,(.bp 3 0)),(5,(.own 9)),(8,(.pl (.int .i64 (wr64 ((wr64 ((be1.length:Int)-1))-bb2))))),(9,(jI 0)),(45,(jI (be1.length:Int))),(46,(jI bb2))],[some (.lp Qah .ready none (kL 96 [(5,(.bp 4 0)),(7,(.bp 5 0)),(8,(.bp 6 0)),(12,(.bp 7 0))])),some (.box (((cLst 3 Qa.cells) bg3).map .pl)),some (.box [(.pl (.fn 39))]),some (.box ((Qaq true).map .pl)),some (.box (((cLst 3 Qa.cells) bg3).map .pl)),some (.box [(.pl (.fn 40))]),some (.box (((cInt .i64) bb4).map .pl)),some (.box [(.own 8)]),some (.row false 1 (be5.map (cInt .i64))),some (.row false 1 (be1.map (cInt .i64)))])
noncomputable def f75r1n4(be1:List Int)(bb2:Int)(bg3:List Qa)(bb4:Int)(be5:List Int):Option f75r1n4O :=
 bif (decide (0<(wr64 ((wr64 ((be1.length:Int)-1))-bb2)))) then
  (at? be1 (wr64 ((wr64 ((wr64 ((be1.length:Int)-1))-bb2))-1))).bind fun x159 =>
  some (.norm x159)
 else
  some (.norm 0)
theorem f75r1n4_ok(be1:List Int)(bb2:Int)(bg3:List Qa)(bb4:Int)(be5:List Int){o:f75r1n4O}(h:f75r1n4 be1 bb2 bg3 bb4 be5=some o):T Try.prog Try.f75.ntmps 9 (cL (Qj 4 (cL (cL (Qj 2 (cL (cL (Qj 1 (Qj 1 (Qj 1 c75)))))))))) (f75r1n4S be1 bb2 bg3 bb4 be5) (·=f75r1n4E be1 bb2 bg3 bb4 be5 o):=by
 unfold f75r1n4 at h;rcases Qh h with ⟨h158,h⟩|⟨h158,h⟩
 ·obtain ⟨x159,h160,h⟩:=Qd h;obtain rfl:=Qe h;exact rE Qf [j3,([],[(3,.at_ (Int.toNat (wr64 ((wr64 ((wr64 ((be1.length:Int)-1))-bb2))-1)))),(4,.idx 0 ((cInt .i64) x159))],[])] [some true] [] [9] [0,3,5,8,9,45,46] (.norm,(f75r1n4E be1 bb2 bg3 bb4 be5 (.norm x159)).2) (ap h158 (ap (Qg h160).1 (ap (Qs (cInt .i64) (Qg h160).2) (ap (Qm (cInt .i64) (Qg h160).2) an)))) rfl
 ·obtain rfl:=Qe h;exact rE Qf [j3] [some false] [] [9] [0,3,5,8,9,45,46] (.norm,(f75r1n4E be1 bb2 bg3 bb4 be5 (.norm 0)).2) (ap h158 an) rfl
inductive f75r1n3O where
 | norm (v171:Int) (v172:List Int)
noncomputable def f75r1n3E(be1:List Int)(bb2:Int)(bg3:List Qa)(bb4:Int)(be5:List Int):f75r1n3O→Ex×Tr×Hp
 | .norm v171 v172=>(.norm,mkS [(0,(.yl 0)),(3,(.bp 3 0)),(5,(.own 9)),(45,(jI (be1.length:Int))),(46,(jI bb2))],[some (.lp Qah .ready none (kL 96 [(5,(.bp 4 0)),(7,(.bp 5 0)),(8,(.bp 6 0)),(12,(.bp 7 0))])),some (.box (((cLst 3 Qa.cells) bg3).map .pl)),some (.box [(.pl (.fn 39))]),some (.box ((Qaq true).map .pl)),some (.box (((cLst 3 Qa.cells) bg3).map .pl)),some (.box [(.pl (.fn 40))]),some (.box (((cInt .i64) v171).map .pl)),some (.box [(.own 8)]),some (.row false 1 (v172.map (cInt .i64))),some (.row false 1 (be1.map (cInt .i64)))])
noncomputable def f75r1n3S(be1:List Int)(bb2:Int)(bg3:List Qa)(bb4:Int)(be5:List Int):Tr×Hp:=(mkS [(0,(.yl 0)),(3,(.bp 3 0)),(5,(.own 9)),(45,(jI (be1.length:Int))),(46,(jI bb2))],[some (.lp Qah .ready none (kL 96 [(5,(.bp 4 0)),(7,(.bp 5 0)),(8,(.bp 6 0)),(12,(.bp 7 0))])),some (.box (((cLst 3 Qa.cells) bg3).map .pl)),some (.box [(.pl (.fn 39))]),some (.box ((Qaq true).map .pl)),some (.box (((cLst 3 Qa.cells) bg3).map .pl)),some (.box [(.pl (.fn 40))]),some (.box (((cInt .i64) bb4).map .pl)),some (.box [(.own 8)]),some (.row false 1 (be5.map (cInt .i64))),some (.row false 1 (be1.map (cInt .i64)))])
noncomputable def f75r1n3(be1:List Int)(bb2:Int)(bg3:List Qa)(bb4:Int)(be5:List Int):Option f75r1n3O :=
 (f75r1n4 be1 bb2 bg3 bb4 be5).bind fun o162=>match o162 with
 | .norm v164=>(at? be1 (wr64 ((wr64 ((be1.length:Int)-1))-bb2))).bind fun x165 =>
  (f41y1n0 v164 x165 bg3 bb4 be5).bind fun o167=>match o167 with
  | .norm v169 v170=>some (.norm v169 v170)
theorem f75r1n3_ok(be1:List Int)(bb2:Int)(bg3:List Qa)(bb4:Int)(be5:List Int){o:f75r1n3O}(h:f75r1n3 be1 bb2 bg3 bb4 be5=some o):T Try.prog Try.f75.ntmps 9 (cL (Qj 2 (cL (cL (Qj 1 (Qj 1 (Qj 1 c75))))))) (f75r1n3S be1 bb2 bg3 bb4 be5) (·=f75r1n3E be1 bb2 bg3 bb4 be5 o):=by
 unfold f75r1n3 at h;refine T.block' (i:=3) (by kernel_rfl) ?_;refine rN Qf 4 [j3,j3,j3,([],[],[(1,.val (jI (be1.length:Int)))]),j3] [none] [] [9] [0,3,5,8,9,45,46] (f75r1n4S be1 bb2 bg3 bb4 be5) (ap (Qx (xs:=be1) (c:=(cInt .i64))) an) ?_;obtain ⟨o162,h163,h⟩:=Qd h;cases o162 with
 | norm v164 =>
  refine T.oneN (by kernel_rfl) (f75r1n4_ok be1 bb2 bg3 bb4 be5 h163) (st2:=(f75r1n4E be1 bb2 bg3 bb4 be5 (.norm v164)).2) rfl ?_;refine rN Qf 0 [] [] [] [9] [0,3,5,8,9,45,46] (mkS [(0,(.yl 0)),(3,(.bp 3 0)),(5,(.own 9)),(8,(.pl (.int .i64 (wr64 ((wr64 ((be1.length:Int)-1))-bb2))))),(9,(jI v164)),(45,(jI (be1.length:Int))),(46,(jI bb2))],[some (.lp Qah .ready none (kL 96 [(5,(.bp 4 0)),(7,(.bp 5 0)),(8,(.bp 6 0)),(12,(.bp 7 0))])),some (.box (((cLst 3 Qa.cells) bg3).map .pl)),some (.box [(.pl (.fn 39))]),some (.box ((Qaq true).map .pl)),some (.box (((cLst 3 Qa.cells) bg3).map .pl)),some (.box [(.pl (.fn 40))]),some (.box (((cInt .i64) bb4).map .pl)),some (.box [(.own 8)]),some (.row false 1 (be5.map (cInt .i64))),some (.row false 1 (be1.map (cInt .i64)))]) an ?_;obtain ⟨x165,h166,h⟩:=Qd h;obtain ⟨o167,h168,h⟩:=Qd h;cases o167 with
  | norm v169 v170 =>
   refine T.oneN (by kernel_rfl) (yN Qf ([],[(4,.at_ (Int.toNat (wr64 ((wr64 ((be1.length:Int)-1))-bb2)))),(5,.idx 0 ((cInt .i64) x165))],[]) 6 true [some (.lp Qah .ready none (kL 96 [(5,(.bp 4 0)),(7,(.bp 5 0)),(8,(.bp 6 0)),(12,(.bp 7 0))])),none,none,none,some (.box (((cLst 3 Qa.cells) bg3).map .pl)),some (.box [(.pl (.fn 40))]),some (.box (((cInt .i64) v169).map .pl)),some (.box [(.own 8)]),some (.row false 1 (v170.map (cInt .i64))),none] [] [9] [0,3,5,45,46,70] (mkS [(0,(.yl 0)),(3,(.bp 3 0)),(5,(.own 9)),(45,(jI (be1.length:Int))),(46,(jI bb2)),(70,(jB false))],[some (.lp Qah .ready none (kL 96 [(5,(.bp 4 0)),(7,(.bp 5 0)),(8,(.bp 6 0)),(12,(.bp 7 0))])),some (.box (((cLst 3 Qa.cells) bg3).map .pl)),some (.box [(.pl (.fn 39))]),some (.box ((Qaq true).map .pl)),some (.box (((cLst 3 Qa.cells) bg3).map .pl)),some (.box [(.pl (.fn 40))]),some (.box (((cInt .i64) v169).map .pl)),some (.box [(.own 8)]),some (.row false 1 (v170.map (cInt .i64))),some (.row false 1 (be1.map (cInt .i64)))]) (ap (Qg h166).1 (ap (Qs (cInt .i64) (Qg h166).2) (ap (Qm (cInt .i64) (Qg h166).2) (ap (CallY.rn 10 [0,4,5,6,7,8] (f41y1_norm v164 x165 bg3 bb4 be5 h168)) an))))) rfl ?_
   obtain rfl:=Qe h;exact rE Qf [] [none] [] [9] [0,3,5,45,46] (.norm,(f75r1n3E be1 bb2 bg3 bb4 be5 (.norm v169 v170)).2) an rfl
inductive f75r1n5O where
 | exit2 (v177:Int) (v178:List Int)
noncomputable def f75r1n5E(v89:List Int)(a1:List Qa):f75r1n5O→Ex×Tr×Hp
 | .exit2 v177 v178=>((.exit 2),mkS [],[some (.lp Qah .ready none (kL 96 [(5,(.bp 4 0)),(7,(.bp 5 0)),(8,(.bp 6 0)),(12,(.bp 7 0))])),some (.box (((cLst 3 Qa.cells) a1).map .pl)),some (.box [(.pl (.fn 39))]),some (.box ((Qaq true).map .pl)),some (.box (((cLst 3 Qa.cells) a1).map .pl)),some (.box [(.pl (.fn 40))]),some (.box (((cInt .i64) v177).map .pl)),some (.box [(.own 8)]),some (.row false 1 (v178.map (cInt .i64)))])
noncomputable def f75r1n5S(v89:List Int)(a1:List Qa)(v147 v148:Int)(v149:List Int):Tr×Hp:=(mkS [(0,(.yl 0)),(3,(.bp 3 0)),(5,(.own 9)),(45,(jI (v89.length:Int))),(46,(jI v147))],[some (.lp Qah .ready none (kL 96 [(5,(.bp 4 0)),(7,(.bp 5 0)),(8,(.bp 6 0)),(12,(.bp 7 0))])),some (.box (((cLst 3 Qa.cells) a1).map .pl)),some (.box [(.pl (.fn 39))]),some (.box ((Qaq true).map .pl)),some (.box (((cLst 3 Qa.cells) a1).map .pl)),some (.box [(.pl (.fn 40))]),some (.box (((cInt .i64) v148).map .pl)),some (.box [(.own 8)]),some (.row false 1 (v149.map (cInt .i64))),some (.row false 1 (v89.map (cInt .i64)))])
noncomputable def f75r1n5:Nat→List Int→List Qa→Int→Int→List Int→Option f75r1n5O
 | 0,_,_,_,_,_=>none
 | f+1,v89,a1,v147,v148,v149 =>
  bif decide (v147<(v89.length:Int)) then
   (f75r1n3 v89 v147 a1 v148 v149).bind fun o173=>match o173 with
   | .norm v175 v176=>(f75r1n5 f v89 a1 (wr64 (v147+1)) v175 v176)
  else
   some (.exit2 v148 v149)
theorem f75r1n5_ok:∀(f:Nat)(v89:List Int)(a1:List Qa)(v147 v148:Int)(v149:List Int){o:f75r1n5O},f75r1n5 f v89 a1 v147 v148 v149=some o→TL Try.prog Try.f75.ntmps 9 f (cL (cL (Qj 1 (Qj 1 (Qj 1 c75))))) (f75r1n5S v89 a1 v147 v148 v149) (·=f75r1n5E v89 a1 o)
 | 0,_,_,_,_,_,o,h=>by rw [f75r1n5] at h; cases h
 | f+1,v89,a1,v147,v148,v149,o,h=>by
  rw [f75r1n5] at h;refine TL.body (K:=fun s=>∃v147:Int,∃v148:Int,∃v149:List Int,s=(f75r1n5S v89 a1 v147 v148 v149)∧f75r1n5 f v89 a1 v147 v148 v149=some o) ?_ (by rintro _ ⟨v147,v148,v149,rfl,hk⟩; exact f75r1n5_ok f _ _ _ _ _ hk);rcases Qh h with ⟨h151,h⟩|⟨h151,h⟩
  ·refine rN Qf 2 [j3] [some true] [] [9] [0,3,5,45,46] (f75r1n3S v89 v147 a1 v148 v149) (ap h151 an) ?_;obtain ⟨o173,h174,h⟩:=Qd h;cases o173 with
   | norm v175 v176 =>
    refine T.oneN (by kernel_rfl) (f75r1n3_ok v89 v147 a1 v148 v149 h174) (st2:=(f75r1n3E v89 v147 a1 v148 v149 (.norm v175 v176)).2) rfl ?_;exact rE Qf [j3] [] [] [9] [0,3,5,45,46] (.norm,(f75r1n5S v89 a1 (wr64 (v147+1)) v175 v176)) an (Qp.norm ⟨(wr64 (v147+1)),v175,v176,rfl,h⟩)
  ·obtain rfl:=Qe h;exact rK Qf 2 [j3] [some false] [] [] [] (.exit 2) ((f75r1n5E v89 a1 (.exit2 v148 v149)).2) (ap h151 an) (Qp.out rfl rfl)
inductive f75r1n0O where
 | norm (v183:Int) (v184:List Int)
noncomputable def f75r1n0E(a1:List Qa)(a2:Int)(a3:List Int):f75r1n0O→Ex×Tr×Hp
 | .norm v183 v184=>(.norm,mkS [],[some (.lp Qah .ready none (kL 96 [(5,(.bp 4 0)),(7,(.bp 5 0)),(8,(.bp 6 0)),(12,(.bp 7 0))])),some (.box (((cLst 3 Qa.cells) a1).map .pl)),some (.box [(.pl (.fn 39))]),some (.box ((Qaq true).map .pl)),some (.box (((cLst 3 Qa.cells) a1).map .pl)),some (.box [(.pl (.fn 40))]),some (.box (((cInt .i64) v183).map .pl)),some (.box [(.own 8)]),some (.row false 1 (v184.map (cInt .i64)))])
noncomputable def f75r1n0S(a1:List Qa)(a2:Int)(a3:List Int):Tr×Hp:=(Qaa [(.yl 0),(.bp 1 0),(.bp 2 0),(.bp 3 0)] 0 .leaf,[some (.lp Qah .ready none (kL 96 [(5,(.bp 4 0)),(7,(.bp 5 0)),(8,(.bp 6 0)),(12,(.bp 7 0))])),some (.box (((cLst 3 Qa.cells) a1).map .pl)),some (.box [(.pl (.fn 39))]),some (.box ((Qaq true).map .pl)),some (.box (((cLst 3 Qa.cells) a1).map .pl)),some (.box [(.pl (.fn 40))]),some (.box (((cInt .i64) a2).map .pl)),some (.box [(.own 8)]),some (.row false 1 (a3.map (cInt .i64)))])
noncomputable def f75r1n0(a1:List Qa)(a2:Int)(a3:List Int):Option f75r1n0O :=
 (f75r1n1 a1 a2 a3).bind fun o87=>match o87 with
 | .norm v89=>(f75r1n5 FUEL v89 a1 0 a2 a3).bind fun o179=>match o179 with
  | .exit2 v181 v182=>some (.norm v181 v182)
theorem f75r1n0_ok(a1:List Qa)(a2:Int)(a3:List Int){o:f75r1n0O}(h:f75r1n0 a1 a2 a3=some o):T Try.prog Try.f75.ntmps 9 c75 (f75r1n0S a1 a2 a3) (·=f75r1n0E a1 a2 a3 o):=by
 unfold f75r1n0 at h;refine rN Qf 1 [j3] [] [] [] [0,1,2,3,5] (f75r1n1S a1 a2 a3) an ?_;obtain ⟨o87,h88,h⟩:=Qd h;cases o87 with
 | norm v89 =>
  refine T.oneN (by kernel_rfl) (f75r1n1_ok a1 a2 a3 h88) (st2:=(f75r1n1E a1 a2 a3 (.norm v89)).2) rfl ?_;refine rN Qf 1 [([],[],[(1,.val (jI (v89.length:Int)))])] [] [] [9] [0,3,5,45,46] (f75r1n5S v89 a1 0 a2 a3) (ap (Qx (xs:=v89) (c:=(cInt .i64))) an) ?_;obtain ⟨o179,h180,h⟩:=Qd h;cases o179 with
  | exit2 v181 v182 =>
   obtain rfl:=Qe h;exact T.last' (T.bl (i:=2) (by kernel_rfl) (by kernel_rfl) (f75r1n5_ok FUEL v89 a1 0 a2 a3 h180)) (tds:=[]) (m:=[]) (keep:=[]) (st2:=(f75r1n0E a1 a2 a3 (.norm v181 v182)).2) (by kernel_rfl) an rfl
noncomputable def f75r1(a1:List Qa)(a2:Int)(a3:List Int):Option (Int×(List Int)):=(f75r1n0 a1 a2 a3).bind fun o=>match o with
 | .norm v183 v184=>some (v183,v184)
theorem f75r1_ok(a1:List Qa)(a2:Int)(a3:List Int){r:Int×(List Int)}(h:f75r1 a1 a2 a3=some r):Ql Try.prog true 75 [(.yl 0),(.bp 1 0),(.bp 2 0),(.bp 3 0)] [some (.lp Qah .ready none (kL 96 [(5,(.bp 4 0)),(7,(.bp 5 0)),(8,(.bp 6 0)),(12,(.bp 7 0))])),some (.box (((cLst 3 Qa.cells) a1).map .pl)),some (.box [(.pl (.fn 39))]),some (.box ((Qaq true).map .pl)),some (.box (((cLst 3 Qa.cells) a1).map .pl)),some (.box [(.pl (.fn 40))]),some (.box (((cInt .i64) a2).map .pl)),some (.box [(.own 8)]),some (.row false 1 (a3.map (cInt .i64)))] (.tup []) [some (.lp Qah .ready none (kL 96 [(5,(.bp 4 0)),(7,(.bp 5 0)),(8,(.bp 6 0)),(12,(.bp 7 0))])),some (.box (((cLst 3 Qa.cells) a1).map .pl)),some (.box [(.pl (.fn 39))]),some (.box ((Qaq true).map .pl)),some (.box (((cLst 3 Qa.cells) a1).map .pl)),some (.box [(.pl (.fn 40))]),some (.box (((cInt .i64) r.1).map .pl)),some (.box [(.own 8)]),some (.row false 1 (r.2.map (cInt .i64)))]:=by
 unfold f75r1 at h;obtain ⟨o,ho,h⟩:=Qd h;cases o with
 | norm v183 v184 =>
  obtain rfl:=Qe h;exact Ql.shared Qf (f:=Try.f75) (c:=c75) (by kernel_rfl) (by kernel_rfl) (by kernel_rfl) ((f75r1n0_ok a1 a2 a3 ho).mono fun r e=>by subst e; exact ⟨.inr rfl,by kernel_rfl,by kernel_rfl⟩)

inductive f41r1n2O where
 | norm (v13:Int) (v14:List Int)
def f41r1n2E(bg1:List Qa)(bb2:Int):f41r1n2O→Ex×Tr×Hp
 | .norm v13 v14=>(.norm,mkS [(1,(.pl (.fn 39))),(5,(.bp 0 0)),(8,(.bp 1 0)),(12,(.bp 2 0))],[some (.box (((cLst 3 Qa.cells) bg1).map .pl)),some (.box (((cInt .i64) v13).map .pl)),some (.box [(.own 3)]),some (.row false 1 (v14.map (cInt .i64)))])
def f41r1n2S(bg1:List Qa)(bb2:Int):Tr×Hp:=(mkS [(1,(.pl (.fn 39))),(5,(.bp 0 0)),(7,(.bp 1 0)),(8,(.bp 2 0)),(10,(.pl (.sl .nil 0 []))),(11,(jI 0)),(12,(.bp 3 0)),(29,(.clo 75 [(.bp 4 0),(.bp 5 0),(.bp 6 0)]))],[some (.box (((cLst 3 Qa.cells) bg1).map .pl)),some (.box [(.pl (.fn 40))]),some (.box (((cInt .i64) bb2).map .pl)),some (.box [(.own 7)]),some (.box (((cLst 3 Qa.cells) bg1).map .pl)),some (.box [(.pl (.fn 39))]),some (.box ((Qaq true).map .pl)),some (.row false 1 ((List.replicate (Int.toNat (bg1.length:Int)) 0).map (cInt .i64)))])
noncomputable def f41r1n2(bg1:List Qa)(bb2:Int):Option f41r1n2O :=
 (f75r1 bg1 bb2 (List.replicate (Int.toNat (bg1.length:Int)) 0)).bind fun x11 =>
 some (.norm x11.1 x11.2)
theorem f41r1n2_ok(bg1:List Qa)(bb2:Int){o:f41r1n2O}(h:f41r1n2 bg1 bb2=some o):T Try.prog Try.f41.ntmps 0 (Qj 1 (cL (Qj 2 c41))) (f41r1n2S bg1 bb2) (·=f41r1n2E bg1 bb2 o):=by
 unfold f41r1n2 at h;refine T.block' (i:=0) (by kernel_rfl) ?_;refine rN Qf 0 [] [] [] [0,1,2,3,4,5,6,7] [1,5,7,8,10,11,12,29] (mkS [(1,(.pl (.fn 39))),(5,(.bp 0 0)),(7,(.bp 1 0)),(8,(.bp 2 0)),(10,(.pl (.sl .nil 0 []))),(11,(jI 0)),(12,(.bp 3 0)),(29,(.clo 75 [(.bp 4 0),(.bp 5 0),(.bp 6 0)]))],[some (.box (((cLst 3 Qa.cells) bg1).map .pl)),some (.box [(.pl (.fn 40))]),some (.box (((cInt .i64) bb2).map .pl)),some (.box [(.own 7)]),some (.box (((cLst 3 Qa.cells) bg1).map .pl)),some (.box [(.pl (.fn 39))]),some (.box ((Qaq true).map .pl)),some (.row false 1 ((List.replicate (Int.toNat (bg1.length:Int)) 0).map (cInt .i64)))]) an ?_;obtain ⟨x11,h12,h⟩:=Qd h;obtain rfl:=Qe h
 exact T.last' (rgN 75 [(.bp 4 0),(.bp 5 0),(.bp 6 0)] [5,7,8,12] (.tup []) [some (.box (((cLst 3 Qa.cells) bg1).map .pl)),some (.box [(.pl (.fn 40))]),some (.box (((cInt .i64) x11.1).map .pl)),some (.box [(.own 7)]),some (.box (((cLst 3 Qa.cells) bg1).map .pl)),some (.box [(.pl (.fn 39))]),some (.box ((Qaq true).map .pl)),some (.row false 1 (x11.2.map (cInt .i64))),some (.lp Qah .ready none (kL 96 [(5,(.bp 0 0)),(7,(.bp 1 0)),(8,(.bp 2 0)),(12,(.bp 3 0))]))] none .ready (kL 96 [(5,(.bp 0 0)),(7,(.bp 1 0)),(8,(.bp 2 0)),(12,(.bp 3 0))]) .norm [] [0,2,3,7] [1,5,8,12] (mkS [(1,(.pl (.fn 39))),(5,(.bp 0 0)),(8,(.bp 1 0)),(12,(.bp 2 0))],[some (.box (((cLst 3 Qa.cells) bg1).map .pl)),some (.box (((cInt .i64) x11.1).map .pl)),some (.box [(.own 3)]),some (.row false 1 (x11.2.map (cInt .i64)))]) (Ql.rn 9 [8,4,5,6,0,1,2,3,7] (f75r1_ok bg1 bb2 (List.replicate (Int.toNat (bg1.length:Int)) 0) h12)) an) (tds:=[]) (m:=[0,1,2,3]) (keep:=[1,5,8,12]) (st2:=(f41r1n2E bg1 bb2 (.norm x11.1 x11.2)).2) (by kernel_rfl) an rfl
inductive f41r1n1O where
 | norm (v19:Int) (v20:List Int)
def f41r1n1E(bg1:List Qa)(bb2:Int):f41r1n1O→Ex×Tr×Hp
 | .norm v19 v20=>(.norm,mkS [(1,(.pl (.fn 39))),(5,(.bp 0 0)),(8,(.bp 1 0)),(12,(.bp 2 0))],[some (.box (((cLst 3 Qa.cells) bg1).map .pl)),some (.box (((cInt .i64) v19).map .pl)),some (.box [(.own 3)]),some (.row false 1 (v20.map (cInt .i64)))])
def f41r1n1S(bg1:List Qa)(bb2:Int):Tr×Hp:=(mkS [(1,(.pl (.fn 39))),(4,(jB true)),(5,(.bp 0 0)),(7,(.bp 1 0)),(8,(.bp 2 0)),(10,(.pl (.sl .nil 0 []))),(11,(jI 0)),(12,(.bp 3 0))],[some (.box (((cLst 3 Qa.cells) bg1).map .pl)),some (.box [(.pl (.fn 40))]),some (.box (((cInt .i64) bb2).map .pl)),some (.box [(.own 4)]),some (.row false 1 ((List.replicate (Int.toNat (bg1.length:Int)) 0).map (cInt .i64)))])
noncomputable def f41r1n1(bg1:List Qa)(bb2:Int):Option f41r1n1O :=
 (f58r1 bg1).bind fun x9 =>
 (f41r1n2 bg1 bb2).bind fun o15=>match o15 with
 | .norm v17 v18=>some (.norm v17 v18)
theorem f41r1n1_ok(bg1:List Qa)(bb2:Int){o:f41r1n1O}(h:f41r1n1 bg1 bb2=some o):T Try.prog Try.f41.ntmps 0 (cL (Qj 2 c41)) (f41r1n1S bg1 bb2) (·=f41r1n1E bg1 bb2 o):=by
 unfold f41r1n1 at h;obtain ⟨x9,h10,h⟩:=Qd h;refine rN Qf 1 [([],[(3,.call (.clo 75 [(.bp 5 0),(.bp 6 0),(.bp 7 0)]) (jN 5 [some (.box (((cLst 3 Qa.cells) bg1).map .pl)),some (.box [(.pl (.fn 39))]),some (.box ((Qaq true).map .pl))]))],[])] [] [] [0,1,2,3,5,6,7,4] [1,5,7,8,10,11,12,29] (f41r1n2S bg1 bb2) (ap (Ql.rn 5 [] (f58r1_ok bg1 h10)) an) ?_;obtain ⟨o15,h16,h⟩:=Qd h;cases o15 with
 | norm v17 v18 =>
  obtain rfl:=Qe h;exact T.last' (f41r1n2_ok bg1 bb2 h16) (tds:=[]) (m:=[0,1,2,3]) (keep:=[1,5,8,12]) (st2:=(f41r1n1E bg1 bb2 (.norm v17 v18)).2) (by kernel_rfl) an rfl
inductive f41r1n4O where
 | exit4 (v81:List Qa)
def f41r1n4E(bg1:List Qa)(bb2:Int)(be3:List Int):f41r1n4O→Ex×Tr×Hp
 | .exit4 v81=>((.exit 4),mkS [(8,(.bp 0 0)),(20,(.own 1))],[some (.box (((cInt .i64) bb2).map .pl)),jR 3 Qa.cells v81])
def f41r1n4S(bg1:List Qa)(bb2:Int)(be3:List Int)(v61:Int)(v62:List Qa):Tr×Hp:=(mkS [(1,(.pl (.fn 39))),(8,(.bp 0 0)),(12,(.bp 1 0)),(20,(.own 2)),(65,(jL 3 Qa.cells bg1)),(66,(jI (bg1.length:Int))),(67,(jI v61))],[some (.box (((cInt .i64) bb2).map .pl)),some (.box [(.own 3)]),jR 3 Qa.cells v62,some (.row false 1 (be3.map (cInt .i64)))])
noncomputable def f41r1n4:Nat→List Qa→Int→List Int→Int→List Qa→Option f41r1n4O
 | 0,_,_,_,_,_=>none
 | f+1,bg1,bb2,be3,v61,v62 =>
  bif decide (v61<(bg1.length:Int)) then
   (at? bg1 v61).bind fun x73 =>
   (at? be3 v61).bind fun x75 =>
   bif decide (0<x75) then
    (f39 x73).bind fun x78 =>
    req (fit (v62.length+1) 32) <|
    (f41r1n4 f bg1 bb2 be3 (wr64 (v61+1)) (v62++[(Qa.mk x78.level x78.owner x75)]))
   else
    (f41r1n4 f bg1 bb2 be3 (wr64 (v61+1)) v62)
  else
   some (.exit4 v62)
theorem f41r1n4_ok:∀(f:Nat)(bg1:List Qa)(bb2:Int)(be3:List Int)(v61:Int)(v62:List Qa){o:f41r1n4O},f41r1n4 f bg1 bb2 be3 v61 v62=some o→TL Try.prog Try.f41.ntmps 0 f (cL (cL (Qj 1 (cL (Qj 1 (Qj 1 (Qj 2 c41))))))) (f41r1n4S bg1 bb2 be3 v61 v62) (·=f41r1n4E bg1 bb2 be3 o)
 | 0,_,_,_,_,_,o,h=>by rw [f41r1n4] at h; cases h
 | f+1,bg1,bb2,be3,v61,v62,o,h=>by
  rw [f41r1n4] at h;refine TL.body (K:=fun s=>∃v61:Int,∃v62:List Qa,s=(f41r1n4S bg1 bb2 be3 v61 v62)∧f41r1n4 f bg1 bb2 be3 v61 v62=some o) ?_ (by rintro _ ⟨v61,v62,rfl,hk⟩; exact f41r1n4_ok f _ _ _ _ _ hk);rcases Qh h with ⟨h64,h⟩|⟨h64,h⟩
  ·obtain ⟨x73,h74,h⟩:=Qd h;obtain ⟨x75,h76,h⟩:=Qd h;rcases Qh h with ⟨h77,h⟩|⟨h77,h⟩
   ·obtain ⟨x78,h79,h⟩:=Qd h;obtain ⟨h80,h⟩:=Qt h
    exact rE Qf [j3,([],[(1,.idx (Int.toNat v61) (Qa.cells x73))],[]),([],[(2,.at_ (Int.toNat v61)),(3,.idx 0 ((cInt .i64) x75))],[]),([],[jH 3 (jA Key_.cells x78),jH 7 (jA Key_.cells x78),(11,.at_ (Int.toNat v61)),(12,.idx 0 ((cInt .i64) x75)),(15,.fits)],[(15,.row 6 ((v62++[(Qa.mk x78.level x78.owner x75)]).map Qa.cells))]),j3] [some true,some true] [] [0,1,6,3] [1,8,12,20,65,66,67] (.norm,(f41r1n4S bg1 bb2 be3 (wr64 (v61+1)) (v62++[(Qa.mk x78.level x78.owner x75)]))) (ap h64 (ap (Qg h74).1 (ap (Qm Qa.cells (Qg h74).2) (ap (Qg h76).1 (ap (Qs (cInt .i64) (Qg h76).2) (ap (Qm (cInt .i64) (Qg h76).2) (ap h77 (ap (Qg h76).1 (ap (Qs (cInt .i64) (Qg h76).2) (ap (Qm (cInt .i64) (Qg h76).2) (ap (fit_map (te:=ti59) (xs:=v62) (n:=1) (c:=Qa.cells) h80 rfl) (ap (app_cv (xs:=v62) (ys:=[(Qa.mk x78.level x78.owner x75)]) (c:=Qa.cells)) (ap (same_self (e:=⟨false,39,[(jA Qa.cells x73)],[],(jA Key_.cells x78),[]⟩)) (ap2 (f39_ok x73 h79) an)))))))))))))) (Qp.norm ⟨(wr64 (v61+1)),(v62++[(Qa.mk x78.level x78.owner x75)]),rfl,h⟩)
   ·exact rE Qf [j3,([],[(1,.idx (Int.toNat v61) (Qa.cells x73))],[]),([],[(2,.at_ (Int.toNat v61)),(3,.idx 0 ((cInt .i64) x75))],[]),j3] [some true,some false] [] [0,1,2,3] [1,8,12,20,65,66,67] (.norm,(f41r1n4S bg1 bb2 be3 (wr64 (v61+1)) v62)) (ap h64 (ap (Qg h74).1 (ap (Qm Qa.cells (Qg h74).2) (ap (Qg h76).1 (ap (Qs (cInt .i64) (Qg h76).2) (ap (Qm (cInt .i64) (Qg h76).2) (ap h77 an))))))) (Qp.norm ⟨(wr64 (v61+1)),v62,rfl,h⟩)
  ·obtain rfl:=Qe h;exact rK Qf 2 [j3] [some false] [] [0,2] [8,20] (.exit 4) ((f41r1n4E bg1 bb2 be3 (.exit4 v62)).2) (ap h64 an) (Qp.out rfl rfl)
inductive f41r1n3O where
 | norm (v85:List Qa)
def f41r1n3E(bg1:List Qa)(bb2:Int)(be3:List Int):f41r1n3O→Ex×Tr×Hp
 | .norm v85=>(.norm,mkS [(8,(.bp 0 0)),(20,(.own 1))],[some (.box (((cInt .i64) bb2).map .pl)),jR 3 Qa.cells v85])
def f41r1n3S(bg1:List Qa)(bb2:Int)(be3:List Int):Tr×Hp:=(mkS [(1,(.pl (.fn 39))),(5,(.bp 0 0)),(8,(.bp 1 0)),(12,(.bp 2 0)),(20,(.pl (.sl .nil 0 [])))],[some (.box (((cLst 3 Qa.cells) bg1).map .pl)),some (.box (((cInt .i64) bb2).map .pl)),some (.box [(.own 3)]),some (.row false 1 (be3.map (cInt .i64)))])
noncomputable def f41r1n3(bg1:List Qa)(bb2:Int)(be3:List Int):Option f41r1n3O :=
 (f41r1n4 FUEL bg1 bb2 be3 0 []).bind fun o82=>match o82 with
 | .exit4 v84=>some (.norm v84)
theorem f41r1n3_ok(bg1:List Qa)(bb2:Int)(be3:List Int){o:f41r1n3O}(h:f41r1n3 bg1 bb2 be3=some o):T Try.prog Try.f41.ntmps 0 (cL (Qj 1 (Qj 1 (Qj 2 c41)))) (f41r1n3S bg1 bb2 be3) (·=f41r1n3E bg1 bb2 be3 o):=by
 unfold f41r1n3 at h;refine rN Qf 1 [([],[],[(1,.val (jI (bg1.length:Int)))])] [] [.mat 20 3] [1,2,4,3] [1,8,12,20,65,66,67] (f41r1n4S bg1 bb2 be3 0 []) (ap (Qx (xs:=bg1) (c:=Qa.cells)) an) ?_;obtain ⟨o82,h83,h⟩:=Qd h;cases o82 with
 | exit4 v84 =>
  obtain rfl:=Qe h;exact T.last' (T.bl (i:=4) (by kernel_rfl) (by kernel_rfl) (f41r1n4_ok FUEL bg1 bb2 be3 0 [] h83)) (tds:=[]) (m:=[0,1]) (keep:=[8,20]) (st2:=(f41r1n3E bg1 bb2 be3 (.norm v84)).2) (by kernel_rfl) an rfl
inductive f41r1n0O where
 | ret (v89:Int) (v90:List Qa)
def f41r1n0E(a1:List Qa)(a2:Int):f41r1n0O→Ex×Tr×Hp
 | .ret v89 v90=>(.ret,mkS [(10,(.own 0)),(11,(jI v89))],[jR 3 Qa.cells v90])
def f41r1n0S(a1:List Qa)(a2:Int):Tr×Hp:=(Qaa [(jL 3 Qa.cells a1),(.pl (.fn 39)),(.pl (.fn 40)),(jI a2),(jB true)] 0 .leaf,[])
noncomputable def f41r1n0(a1:List Qa)(a2:Int):Option f41r1n0O :=
 req (decide (0≤(a1.length:Int))) <|
 req (fit (Int.toNat (a1.length:Int)) 8) <|
 (f41r1n1 a1 a2).bind fun o21=>match o21 with
 | .norm v23 v24=>(f41r1n3 a1 v23 v24).bind fun o86=>match o86 with
  | .norm v88=>some (.ret v23 v88)
theorem f41r1n0_ok(a1:List Qa)(a2:Int){o:f41r1n0O}(h:f41r1n0 a1 a2=some o):T Try.prog Try.f41.ntmps 0 c41 (f41r1n0S a1 a2) (·=f41r1n0E a1 a2 o):=by
 unfold f41r1n0 at h;obtain ⟨h5,h⟩:=Qt h;obtain ⟨h6,h⟩:=Qt h;refine rN Qf 2 [j3,([],[(2,.num (Int.toNat (a1.length:Int)))],[(1,.val (jI (a1.length:Int))),(2,.row 3 ((List.replicate (Int.toNat (a1.length:Int)) 0).map (cInt .i64)))])] [] [] [0,1,2,4,3] [1,4,5,7,8,10,11,12] (f41r1n1S a1 a2) (ap (Qx (xs:=a1) (c:=Qa.cells)) (ap2 (nat_of h5) (ap (fit_of (te:=ti3) h6 rfl) (ap (rep_cv (c:=(cInt .i64)) (x:=0) (n:=Int.toNat (a1.length:Int))) an)))) ?_;obtain ⟨o21,h22,h⟩:=Qd h;cases o21 with
 | norm v23 v24 =>
  refine T.oneN (by kernel_rfl) (f41r1n1_ok a1 a2 h22) (st2:=(f41r1n1E a1 a2 (.norm v23 v24)).2) rfl ?_;refine rN Qf 1 [j3] [] [] [0,1,2,3] [1,5,8,12,20] (f41r1n3S a1 v23 v24) an ?_;obtain ⟨o86,h87,h⟩:=Qd h;cases o86 with
  | norm v88 =>
   refine T.oneN (by kernel_rfl) (f41r1n3_ok a1 v23 v24 h87) (st2:=(f41r1n3E a1 v23 v24 (.norm v88)).2) rfl ?_;obtain rfl:=Qe h;exact rE Qf [j3] [] [] [1] [10,11] (.ret,(f41r1n0E a1 a2 (.ret v23 v88)).2) an rfl
noncomputable def f41r1(a1:List Qa)(a2:Int):Option (Int×(List Qa)):=(f41r1n0 a1 a2).bind fun o=>match o with
 | .ret v89 v90=>some (v89,v90)
theorem f41r1_ok(a1:List Qa)(a2:Int){r:Int×(List Qa)}(h:f41r1 a1 a2=some r):Ql Try.prog true 41 [(jL 3 Qa.cells a1),(.pl (.fn 39)),(.pl (.fn 40)),(jI a2),(jB true)] [] (.tup [(.own 0),(jI r.1)]) [jR 3 Qa.cells r.2]:=by
 unfold f41r1 at h;obtain ⟨o,ho,h⟩:=Qd h;cases o with
 | ret v89 v90 =>
  obtain rfl:=Qe h;exact Ql.shared Qf (f:=Try.f41) (c:=c41) (by kernel_rfl) (by kernel_rfl) (by kernel_rfl) ((f41r1n0_ok a1 a2 ho).mono fun r e=>by subst e; exact ⟨.inl rfl,by kernel_rfl,by kernel_rfl⟩)

noncomputable def c16:Code:=Try.f16.body.getD .skip
inductive f16r1n0O where
 | ret (v19:Int) (v20:Int) (v21:List Qa)
def f16r1n0E(a1:List Qa)(a2:Int):f16r1n0O→Ex×Tr×Hp
 | .ret v19 v20 v21=>(.ret,mkS [(4,(.own 0)),(5,(jI v19)),(6,(jI v20))],[jR 3 Qa.cells v21])
def f16r1n0S(a1:List Qa)(a2:Int):Tr×Hp:=(Qaa [(jL 3 Qa.cells a1),(jI a2)] 0 .leaf,[])
noncomputable def f16r1n0(a1:List Qa)(a2:Int):Option f16r1n0O :=
 (f38_39_40 a1 1).bind fun x9 =>
 bif x9 then
  (f34 a2).bind fun x12 =>
  bif x12 then
   (f41r1 a1 a2).bind fun x17 =>
   some (.ret x17.1 0 x17.2)
  else
   some (.ret 0 2 [])
 else
  some (.ret 0 2 [])
theorem f16r1n0_ok(a1:List Qa)(a2:Int){o:f16r1n0O}(h:f16r1n0 a1 a2=some o):T Try.prog Try.f16.ntmps 0 c16 (f16r1n0S a1 a2) (·=f16r1n0E a1 a2 o):=by
 unfold f16r1n0 at h;obtain ⟨x9,h10,h⟩:=Qd h;rcases Qh h with ⟨h11,h⟩|⟨h11,h⟩
 ·obtain ⟨x12,h13,h⟩:=Qd h;rcases Qh h with ⟨h14,h⟩|⟨h14,h⟩
  ·obtain ⟨x17,h18,h⟩:=Qd h;obtain rfl:=Qe h;exact rE Qf [j3,(jF [4,5,6],[jH 1 (jB x9),jH 5 (jB x12),(7,.bool false)],[]),([],[(2,.call (.tup [(.own 0),(jI x17.1)]) [jR 3 Qa.cells x17.2])],[]),j3] [some false] [] [0] [4,5,6] (.ret,(f16r1n0E a1 a2 (.ret x17.1 0 x17.2)).2) (ap4 (Qaf h11) (ap (f38_39_40_ok a1 1 h10) (ap (f34_ok a2 h13) (ap (Qaf h14) (ap (f41r1_ok a1 a2 h18) an))))) rfl
  ·obtain rfl:=Qe h;exact rK Qf 2 [j3,(jF [4,5,6],[jH 1 (jB x9),jH 5 (jB x12),(7,.bool false)],[]),j3] [some true] [.mat 4 3] [0] [4,5,6] .ret ((f16r1n0E a1 a2 (.ret 0 2 [])).2) (ap4 (Qaf h11) (ap (f38_39_40_ok a1 1 h10) (ap (f34_ok a2 h13) (ap (Qao h14) an)))) rfl
 ·obtain rfl:=Qe h;exact rK Qf 2 [j3,(jT [4,5,6],[jH 1 (jB x9),(7,.bool true)],[]),j3] [none] [.mat 4 3] [0] [4,5,6] .ret ((f16r1n0E a1 a2 (.ret 0 2 [])).2) (ap4 (Qao h11) (ap (f38_39_40_ok a1 1 h10) an)) rfl
noncomputable def f16r1(a1:List Qa)(a2:Int):Option (Int×Int×(List Qa)):=(f16r1n0 a1 a2).bind fun o=>match o with
 | .ret v19 v20 v21=>some (v19,v20,v21)
theorem f16r1_ok(a1:List Qa)(a2:Int){r:Int×Int×(List Qa)}(h:f16r1 a1 a2=some r):Ql Try.prog true 16 [(jL 3 Qa.cells a1),(jI a2)] [] (.tup [(.own 0),(jI r.1),(jI r.2.1)]) [jR 3 Qa.cells r.2.2]:=by
 unfold f16r1 at h;obtain ⟨o,ho,h⟩:=Qd h;cases o with
 | ret v19 v20 v21 =>
  obtain rfl:=Qe h;exact Ql.shared Qf (f:=Try.f16) (c:=c16) (by kernel_rfl) (by kernel_rfl) (by kernel_rfl) ((f16r1n0_ok a1 a2 ho).mono fun r e=>by subst e; exact ⟨.inl rfl,by kernel_rfl,by kernel_rfl⟩)

noncomputable def c33:Code:=Try.f33.body.getD .skip
inductive f33r1n2O where
 | exit0 (v37:List Qa)
def f33r1n2E(bg1:List Qa):f33r1n2O→Ex×Tr×Hp
 | .exit0 v37=>((.exit 0),mkS [(10,(.own 0))],[jR 3 Qa.cells v37])
def f33r1n2S(bg1:List Qa)(v25:Int)(v26:List Qa):Tr×Hp:=(mkS [(9,(.own 0)),(10,(.own 1)),(11,(jI v25))],[jR 3 Qa.cells bg1,jR 3 Qa.cells v26])
noncomputable def f33r1n2:Nat→List Qa→Int→List Qa→Option f33r1n2O
 | 0,_,_,_=>none
 | f+1,bg1,v25,v26 =>
  bif decide (v25<(bg1.length:Int)) then
   (at? bg1 v25).bind fun x33 =>
   bif decide (0<x33.Amount) then
    req (fit (v26.length+1) 32) <|
    (f33r1n2 f bg1 (wr64 (v25+1)) (v26++[x33]))
   else
    (f33r1n2 f bg1 (wr64 (v25+1)) v26)
  else
   some (.exit0 v26)
theorem f33r1n2_ok:∀(f:Nat)(bg1:List Qa)(v25:Int)(v26:List Qa){o:f33r1n2O},f33r1n2 f bg1 v25 v26=some o→TL Try.prog Try.f33.ntmps 0 f (cL (cL (Qj 1 (cL (Qj 3 c33))))) (f33r1n2S bg1 v25 v26) (·=f33r1n2E bg1 o)
 | 0,_,_,_,o,h=>by rw [f33r1n2] at h; cases h
 | f+1,bg1,v25,v26,o,h=>by
  rw [f33r1n2] at h;refine TL.body (K:=fun s=>∃v25:Int,∃v26:List Qa,s=(f33r1n2S bg1 v25 v26)∧f33r1n2 f bg1 v25 v26=some o) ?_ (by rintro _ ⟨v25,v26,rfl,hk⟩; exact f33r1n2_ok f _ _ _ hk);rcases Qh h with ⟨h28,h⟩|⟨h28,h⟩
  ·obtain ⟨x33,h34,h⟩:=Qd h;rcases Qh h with ⟨h35,h⟩|⟨h35,h⟩
   ·obtain ⟨h36,h⟩:=Qt h;exact rE Qf [([],[],[(2,.val (jI (bg1.length:Int)))]),([],[(2,.at_ (Int.toNat v25)),(4,.idx 0 (Qa.cells x33))],[]),([],[(3,.at_ (Int.toNat v25)),(4,.idx 0 (Qa.cells x33)),(6,.fits)],[(6,.row 3 ((v26++[x33]).map Qa.cells))]),j3] [some true,some true] [] [0,3] [9,10,11] (.norm,(f33r1n2S bg1 (wr64 (v25+1)) (v26++[x33]))) (ap (Qx (xs:=bg1) (c:=Qa.cells)) (ap h28 (ap (Qg h34).1 (ap (Qs Qa.cells (Qg h34).2) (ap (Qm Qa.cells (Qg h34).2) (ap h35 (ap (Qg h34).1 (ap (Qs Qa.cells (Qg h34).2) (ap (Qm Qa.cells (Qg h34).2) (ap (fit_map (te:=ti59) (xs:=v26) (n:=1) (c:=Qa.cells) h36 rfl) (ap (app_cv (xs:=v26) (ys:=[x33]) (c:=Qa.cells)) an))))))))))) (Qp.norm ⟨(wr64 (v25+1)),(v26++[x33]),rfl,h⟩)
   ·exact rE Qf [([],[],[(2,.val (jI (bg1.length:Int)))]),([],[(2,.at_ (Int.toNat v25)),(4,.idx 0 (Qa.cells x33))],[]),j3] [some true,some false] [] [0,1] [9,10,11] (.norm,(f33r1n2S bg1 (wr64 (v25+1)) v26)) (ap (Qx (xs:=bg1) (c:=Qa.cells)) (ap h28 (ap (Qg h34).1 (ap (Qs Qa.cells (Qg h34).2) (ap (Qm Qa.cells (Qg h34).2) (ap h35 an)))))) (Qp.norm ⟨(wr64 (v25+1)),v26,rfl,h⟩)
  ·obtain rfl:=Qe h;exact rK Qf 1 [([],[],[(2,.val (jI (bg1.length:Int)))])] [some false] [] [1] [10] (.exit 0) ((f33r1n2E bg1 (.exit0 v26)).2) (ap (Qx (xs:=bg1) (c:=Qa.cells)) (ap h28 an)) (Qp.out rfl rfl)
inductive f33r1n1O where
 | norm (v41:List Qa)
def f33r1n1E(bg1:List Qa):f33r1n1O→Ex×Tr×Hp
 | .norm v41=>(.norm,mkS [(10,(.own 0))],[jR 3 Qa.cells v41])
def f33r1n1S(bg1:List Qa):Tr×Hp:=(mkS [(9,(.own 0)),(10,(.pl (.sl .nil 0 [])))],[jR 3 Qa.cells bg1])
noncomputable def f33r1n1(bg1:List Qa):Option f33r1n1O :=
 (f33r1n2 FUEL bg1 0 []).bind fun o38=>match o38 with
 | .exit0 v40=>some (.norm v40)
theorem f33r1n1_ok(bg1:List Qa){o:f33r1n1O}(h:f33r1n1 bg1=some o):T Try.prog Try.f33.ntmps 0 (cL (Qj 3 c33)) (f33r1n1S bg1) (·=f33r1n1E bg1 o):=by
 unfold f33r1n1 at h;refine rN Qf 1 [j3] [] [.mat 10 3] [0,1] [9,10,11] (f33r1n2S bg1 0 []) an ?_;obtain ⟨o38,h39,h⟩:=Qd h;cases o38 with
 | exit0 v40 =>
  obtain rfl:=Qe h;exact T.last' (T.bl (i:=0) (by kernel_rfl) (by kernel_rfl) (f33r1n2_ok FUEL bg1 0 [] h39)) (tds:=[]) (m:=[0]) (keep:=[10]) (st2:=(f33r1n1E bg1 (.norm v40)).2) (by kernel_rfl) an rfl
inductive f33r1n0O where
 | ret (v45:List Qa)
def f33r1n0E(a1 a2 a3:Int):f33r1n0O→Ex×Tr×Hp
 | .ret v45=>(.ret,mkS [(8,(.own 0))],[jR 3 Qa.cells v45])
def f33r1n0S(a1 a2 a3:Int):Tr×Hp:=(Qaa [(jI a1),(jI a2),(jI a2),(jI a3)] 0 .leaf,[])
noncomputable def f33r1n0(a1 a2 a3:Int):Option f33r1n0O :=
 (f33r1n1 [(Qa.mk 0 Qbw a1),(Qa.mk 1 Qbu a2),(Qa.mk 1 Qbz a2),(Qa.mk 1 Qbv a3)]).bind fun o42=>match o42 with
 | .norm v44=>some (.ret v44)
theorem f33r1n0_ok(a1 a2 a3:Int){o:f33r1n0O}(h:f33r1n0 a1 a2 a3=some o):T Try.prog Try.f33.ntmps 0 c33 (f33r1n0S a1 a2 a3) (·=f33r1n0E a1 a2 a3 o):=by
 unfold f33r1n0 at h;refine rN Qf 3 [j3,j3,j3] [] [] [0] [9,10] (f33r1n1S [(Qa.mk 0 Qbw a1),(Qa.mk 1 Qbu a2),(Qa.mk 1 Qbz a2),(Qa.mk 1 Qbv a3)]) an ?_;obtain ⟨o42,h43,h⟩:=Qd h;cases o42 with
 | norm v44 =>
  refine T.oneN (by kernel_rfl) (f33r1n1_ok [(Qa.mk 0 Qbw a1),(Qa.mk 1 Qbu a2),(Qa.mk 1 Qbz a2),(Qa.mk 1 Qbv a3)] h43) (st2:=(f33r1n1E [(Qa.mk 0 Qbw a1),(Qa.mk 1 Qbu a2),(Qa.mk 1 Qbz a2),(Qa.mk 1 Qbv a3)] (.norm v44)).2) rfl ?_;obtain rfl:=Qe h;exact rE Qf [j3] [] [] [0] [8] (.ret,(f33r1n0E a1 a2 a3 (.ret v44)).2) an rfl
noncomputable def f33r1(a1 a2 a3:Int):Option (List Qa):=(f33r1n0 a1 a2 a3).bind fun o=>match o with
 | .ret v45=>some v45
theorem f33r1_ok(a1 a2 a3:Int){r:List Qa}(h:f33r1 a1 a2 a3=some r):Ql Try.prog true 33 [(jI a1),(jI a2),(jI a2),(jI a3)] [] (.own 0) [jR 3 Qa.cells r]:=by
 unfold f33r1 at h;obtain ⟨o,ho,h⟩:=Qd h;cases o with
 | ret v45 =>
  obtain rfl:=Qe h;exact Ql.shared Qf (f:=Try.f33) (c:=c33) (by kernel_rfl) (by kernel_rfl) (by kernel_rfl) ((f33r1n0_ok a1 a2 a3 ho).mono fun r e=>by subst e; exact ⟨.inl rfl,by kernel_rfl,by kernel_rfl⟩)

noncomputable def c18:Code:=Try.f18.body.getD .skip
inductive f18n2O where
 | exit0
 | ret
def f18n2E(bg1 bg2:List Qa):f18n2O→Ex×Tr×Hp
 | .exit0=>((.exit 0),mkS [],[])
 | .ret=>(.ret,mkS [(4,(jB false))],[])
def f18n2S(bg1 bg2:List Qa)(v30:Int):Tr×Hp:=(mkS [(0,(jL 3 Qa.cells bg1)),(1,(jL 3 Qa.cells bg2)),(5,(jI v30))],[])
noncomputable def f18n2:Nat→List Qa→List Qa→Int→Option f18n2O
 | 0,_,_,_=>none
 | f+1,bg1,bg2,v30 =>
  bif decide (v30<(bg1.length:Int)) then
   (at? bg1 v30).bind fun x38 =>
   (at? bg2 v30).bind fun x40 =>
   bif (Qa.eqb x38 x40) then
    (f18n2 f bg1 bg2 (wr64 (v30+1)))
   else
    some .ret
  else
   some .exit0
theorem f18n2_ok:∀(f:Nat)(bg1 bg2:List Qa)(v30:Int){o:f18n2O},f18n2 f bg1 bg2 v30=some o→TL Try.prog Try.f18.ntmps 0 f (cL (cL (Qj 1 (cL (Qj 2 c18))))) (f18n2S bg1 bg2 v30) (·=f18n2E bg1 bg2 o)
 | 0,_,_,_,o,h=>by rw [f18n2] at h; cases h
 | f+1,bg1,bg2,v30,o,h=>by
  rw [f18n2] at h;refine TL.body (K:=fun s=>∃v30:Int,s=(f18n2S bg1 bg2 v30)∧f18n2 f bg1 bg2 v30=some o) ?_ (by rintro _ ⟨v30,rfl,hk⟩; exact f18n2_ok f _ _ _ hk);rcases Qh h with ⟨h32,h⟩|⟨h32,h⟩
  ·obtain ⟨x38,h39,h⟩:=Qd h;obtain ⟨x40,h41,h⟩:=Qd h;rcases Qh h with ⟨h42,h⟩|⟨h42,h⟩
   ·exact rE Qf [([],[],[(2,.val (jI (bg1.length:Int)))]),([],[(2,.idx (Int.toNat v30) (Qa.cells x38)),(6,.idx (Int.toNat v30) (Qa.cells x40)),(8,.bool (Qa.eqb x38 x40))],[]),j3] [some true,some false] [] [] [0,1,5] (.norm,(f18n2S bg1 bg2 (wr64 (v30+1)))) (ap (Qx (xs:=bg1) (c:=Qa.cells)) (ap h32 (ap (Qg h39).1 (ap (Qm Qa.cells (Qg h39).2) (ap (Qg h41).1 (ap (Qm Qa.cells (Qg h41).2) (ap (Qa.eqb_ok x38 x40) (ap (Qaf h42) an)))))))) (Qp.norm ⟨(wr64 (v30+1)),rfl,h⟩)
   ·obtain rfl:=Qe h;exact rK Qf 2 [([],[],[(2,.val (jI (bg1.length:Int)))]),([],[(2,.idx (Int.toNat v30) (Qa.cells x38)),(6,.idx (Int.toNat v30) (Qa.cells x40)),(8,.bool (Qa.eqb x38 x40))],[]),j3] [some true,some true] [] [] [4] .ret ((f18n2E bg1 bg2 .ret).2) (ap (Qx (xs:=bg1) (c:=Qa.cells)) (ap h32 (ap (Qg h39).1 (ap (Qm Qa.cells (Qg h39).2) (ap (Qg h41).1 (ap (Qm Qa.cells (Qg h41).2) (ap (Qa.eqb_ok x38 x40) (ap (Qao h42) an)))))))) (Qp.out rfl rfl)
  ·obtain rfl:=Qe h;exact rK Qf 1 [([],[],[(2,.val (jI (bg1.length:Int)))])] [some false] [] [] [] (.exit 0) ((f18n2E bg1 bg2 .exit0).2) (ap (Qx (xs:=bg1) (c:=Qa.cells)) (ap h32 an)) (Qp.out rfl rfl)
inductive f18n1O where
 | norm
 | ret
def f18n1E(bg1 bg2:List Qa):f18n1O→Ex×Tr×Hp
 | .norm=>(.norm,mkS [],[])
 | .ret=>(.ret,mkS [(4,(jB false))],[])
def f18n1S(bg1 bg2:List Qa):Tr×Hp:=(mkS [(0,(jL 3 Qa.cells bg1)),(1,(jL 3 Qa.cells bg2))],[])
noncomputable def f18n1(bg1 bg2:List Qa):Option f18n1O :=
 (f18n2 FUEL bg1 bg2 0).bind fun o43=>match o43 with
 | .exit0=>some .norm
 | .ret=>some .ret
theorem f18n1_ok(bg1 bg2:List Qa){o:f18n1O}(h:f18n1 bg1 bg2=some o):T Try.prog Try.f18.ntmps 0 (cL (Qj 2 c18)) (f18n1S bg1 bg2) (·=f18n1E bg1 bg2 o):=by
 unfold f18n1 at h;refine rN Qf 1 [j3] [] [] [] [0,1,5] (f18n2S bg1 bg2 0) an ?_;obtain ⟨o43,h44,h⟩:=Qd h;cases o43 with
 | exit0 =>
  obtain rfl:=Qe h;exact T.last' (T.bl (i:=0) (by kernel_rfl) (by kernel_rfl) (f18n2_ok FUEL bg1 bg2 0 h44)) (tds:=[]) (m:=[]) (keep:=[]) (st2:=(f18n1E bg1 bg2 .norm).2) (by kernel_rfl) an rfl
 | ret =>
  obtain rfl:=Qe h;exact T.last' (T.bl (i:=0) (by kernel_rfl) (by kernel_rfl) (f18n2_ok FUEL bg1 bg2 0 h44)) (tds:=[]) (m:=[]) (keep:=[4]) (st2:=(f18n1E bg1 bg2 .ret).2) (by kernel_rfl) an rfl
inductive f18n0O where
 | ret (v47:Bool)
def f18n0E(a1 a2:List Qa):f18n0O→Ex×Tr×Hp
 | .ret v47=>(.ret,mkS [(4,(jB v47))],[])
def f18n0S(a1 a2:List Qa):Tr×Hp:=(Qaa [(jL 3 Qa.cells a1),(jL 3 Qa.cells a2)] 0 .leaf,[])
noncomputable def f18n0(a1 a2:List Qa):Option f18n0O :=
 bif decide ((a1.length:Int)=(a2.length:Int)) then
  (f18n1 a1 a2).bind fun o45=>match o45 with
  | .norm=>some (.ret true)
  | .ret=>some (.ret false)
 else
  some (.ret false)
theorem f18n0_ok(a1 a2:List Qa){o:f18n0O}(h:f18n0 a1 a2=some o):T Try.prog Try.f18.ntmps 0 c18 (f18n0S a1 a2) (·=f18n0E a1 a2 o):=by
 unfold f18n0 at h;rcases Qh h with ⟨h4,h⟩|⟨h4,h⟩
 ·refine rN Qf 2 [j3,([],[],[(1,.val (jI (a1.length:Int))),(3,.val (jI (a2.length:Int)))])] [some false] [] [] [0,1] (f18n1S a1 a2) (ap (Qx (xs:=a1) (c:=Qa.cells)) (ap (Qx (xs:=a2) (c:=Qa.cells)) (ap (Qaf h4) an))) ?_;obtain ⟨o45,h46,h⟩:=Qd h;cases o45 with
  | norm =>
   refine T.oneN (by kernel_rfl) (f18n1_ok a1 a2 h46) (st2:=(f18n1E a1 a2 .norm).2) rfl ?_;obtain rfl:=Qe h;exact rE Qf [j3] [] [] [] [4] (.ret,(f18n0E a1 a2 (.ret true)).2) an rfl
  | ret =>
   obtain rfl:=Qe h;exact T.oneX' (by kernel_rfl) (f18n1_ok a1 a2 h46) (tds:=[]) (m:=[]) (keep:=[4]) (st2:=(f18n0E a1 a2 (.ret false)).2) (by kernel_rfl) an rfl rfl
 ·obtain rfl:=Qe h;exact rK Qf 2 [j3,([],[],[(1,.val (jI (a1.length:Int))),(3,.val (jI (a2.length:Int)))]),j3] [some true] [] [] [4] .ret ((f18n0E a1 a2 (.ret false)).2) (ap (Qx (xs:=a1) (c:=Qa.cells)) (ap (Qx (xs:=a2) (c:=Qa.cells)) (ap (Qao h4) an))) rfl
noncomputable def f18(a1 a2:List Qa):Option Bool:=(f18n0 a1 a2).bind fun o=>match o with
 | .ret v47=>some v47
theorem f18_ok(a1 a2:List Qa){r:Bool}(h:f18 a1 a2=some r):Ql Try.prog false 18 [(jL 3 Qa.cells a1),(jL 3 Qa.cells a2)] [] (jB r) []:=by
 unfold f18 at h;obtain ⟨o,ho,h⟩:=Qd h;cases o with
 | ret v47 =>
  obtain rfl:=Qe h;exact Ql.plain Qf (f:=Try.f18) (c:=c18) (by kernel_rfl) (by kernel_rfl) (by kernel_rfl) (by kernel_rfl) ((f18n0_ok a1 a2 ho).mono fun r e=>by subst e; exact ⟨.inl rfl,(jB v47),(jB v47),by kernel_rfl,by kernel_rfl,((Wk.refl _):Wk (jB v47) (jB v47))⟩)

inductive f33r2n2O where
 | exit0 (v36:List Qa)
def f33r2n2E(bg1:List Qa):f33r2n2O→Ex×Tr×Hp
 | .exit0 v36=>((.exit 0),mkS [(10,(.own 0))],[jR 3 Qa.cells v36])
def f33r2n2S(bg1:List Qa)(v24:Int)(v25:List Qa):Tr×Hp:=(mkS [(9,(.own 0)),(10,(.own 1)),(11,(jI v24))],[jR 3 Qa.cells bg1,jR 3 Qa.cells v25])
noncomputable def f33r2n2:Nat→List Qa→Int→List Qa→Option f33r2n2O
 | 0,_,_,_=>none
 | f+1,bg1,v24,v25 =>
  bif decide (v24<(bg1.length:Int)) then
   (at? bg1 v24).bind fun x32 =>
   bif decide (0<x32.Amount) then
    req (fit (v25.length+1) 32) <|
    (f33r2n2 f bg1 (wr64 (v24+1)) (v25++[x32]))
   else
    (f33r2n2 f bg1 (wr64 (v24+1)) v25)
  else
   some (.exit0 v25)
theorem f33r2n2_ok:∀(f:Nat)(bg1:List Qa)(v24:Int)(v25:List Qa){o:f33r2n2O},f33r2n2 f bg1 v24 v25=some o→TL Try.prog Try.f33.ntmps 0 f (cL (cL (Qj 1 (cL (Qj 3 c33))))) (f33r2n2S bg1 v24 v25) (·=f33r2n2E bg1 o)
 | 0,_,_,_,o,h=>by rw [f33r2n2] at h; cases h
 | f+1,bg1,v24,v25,o,h=>by
  rw [f33r2n2] at h;refine TL.body (K:=fun s=>∃v24:Int,∃v25:List Qa,s=(f33r2n2S bg1 v24 v25)∧f33r2n2 f bg1 v24 v25=some o) ?_ (by rintro _ ⟨v24,v25,rfl,hk⟩; exact f33r2n2_ok f _ _ _ hk);rcases Qh h with ⟨h27,h⟩|⟨h27,h⟩
  ·obtain ⟨x32,h33,h⟩:=Qd h;rcases Qh h with ⟨h34,h⟩|⟨h34,h⟩
   ·obtain ⟨h35,h⟩:=Qt h;exact rE Qf [([],[],[(2,.val (jI (bg1.length:Int)))]),([],[(2,.at_ (Int.toNat v24)),(4,.idx 0 (Qa.cells x32))],[]),([],[(3,.at_ (Int.toNat v24)),(4,.idx 0 (Qa.cells x32)),(6,.fits)],[(6,.row 3 ((v25++[x32]).map Qa.cells))]),j3] [some true,some true] [] [0,3] [9,10,11] (.norm,(f33r2n2S bg1 (wr64 (v24+1)) (v25++[x32]))) (ap (Qx (xs:=bg1) (c:=Qa.cells)) (ap h27 (ap (Qg h33).1 (ap (Qs Qa.cells (Qg h33).2) (ap (Qm Qa.cells (Qg h33).2) (ap h34 (ap (Qg h33).1 (ap (Qs Qa.cells (Qg h33).2) (ap (Qm Qa.cells (Qg h33).2) (ap (fit_map (te:=ti59) (xs:=v25) (n:=1) (c:=Qa.cells) h35 rfl) (ap (app_cv (xs:=v25) (ys:=[x32]) (c:=Qa.cells)) an))))))))))) (Qp.norm ⟨(wr64 (v24+1)),(v25++[x32]),rfl,h⟩)
   ·exact rE Qf [([],[],[(2,.val (jI (bg1.length:Int)))]),([],[(2,.at_ (Int.toNat v24)),(4,.idx 0 (Qa.cells x32))],[]),j3] [some true,some false] [] [0,1] [9,10,11] (.norm,(f33r2n2S bg1 (wr64 (v24+1)) v25)) (ap (Qx (xs:=bg1) (c:=Qa.cells)) (ap h27 (ap (Qg h33).1 (ap (Qs Qa.cells (Qg h33).2) (ap (Qm Qa.cells (Qg h33).2) (ap h34 an)))))) (Qp.norm ⟨(wr64 (v24+1)),v25,rfl,h⟩)
  ·obtain rfl:=Qe h;exact rK Qf 1 [([],[],[(2,.val (jI (bg1.length:Int)))])] [some false] [] [1] [10] (.exit 0) ((f33r2n2E bg1 (.exit0 v25)).2) (ap (Qx (xs:=bg1) (c:=Qa.cells)) (ap h27 an)) (Qp.out rfl rfl)
inductive f33r2n1O where
 | norm (v40:List Qa)
def f33r2n1E(bg1:List Qa):f33r2n1O→Ex×Tr×Hp
 | .norm v40=>(.norm,mkS [(10,(.own 0))],[jR 3 Qa.cells v40])
def f33r2n1S(bg1:List Qa):Tr×Hp:=(mkS [(9,(.own 0)),(10,(.pl (.sl .nil 0 [])))],[jR 3 Qa.cells bg1])
noncomputable def f33r2n1(bg1:List Qa):Option f33r2n1O :=
 (f33r2n2 FUEL bg1 0 []).bind fun o37=>match o37 with
 | .exit0 v39=>some (.norm v39)
theorem f33r2n1_ok(bg1:List Qa){o:f33r2n1O}(h:f33r2n1 bg1=some o):T Try.prog Try.f33.ntmps 0 (cL (Qj 3 c33)) (f33r2n1S bg1) (·=f33r2n1E bg1 o):=by
 unfold f33r2n1 at h;refine rN Qf 1 [j3] [] [.mat 10 3] [0,1] [9,10,11] (f33r2n2S bg1 0 []) an ?_;obtain ⟨o37,h38,h⟩:=Qd h;cases o37 with
 | exit0 v39 =>
  obtain rfl:=Qe h;exact T.last' (T.bl (i:=0) (by kernel_rfl) (by kernel_rfl) (f33r2n2_ok FUEL bg1 0 [] h38)) (tds:=[]) (m:=[0]) (keep:=[10]) (st2:=(f33r2n1E bg1 (.norm v39)).2) (by kernel_rfl) an rfl
inductive f33r2n0O where
 | ret (v44:List Qa)
def f33r2n0E(a1 a2:Int):f33r2n0O→Ex×Tr×Hp
 | .ret v44=>(.ret,mkS [(8,(.own 0))],[jR 3 Qa.cells v44])
def f33r2n0S(a1 a2:Int):Tr×Hp:=(Qaa [(jI a1),(jI a1),(jI a1),(jI a2)] 0 .leaf,[])
noncomputable def f33r2n0(a1 a2:Int):Option f33r2n0O :=
 (f33r2n1 [(Qa.mk 0 Qbw a1),(Qa.mk 1 Qbu a1),(Qa.mk 1 Qbz a1),(Qa.mk 1 Qbv a2)]).bind fun o41=>match o41 with
 | .norm v43=>some (.ret v43)
theorem f33r2n0_ok(a1 a2:Int){o:f33r2n0O}(h:f33r2n0 a1 a2=some o):T Try.prog Try.f33.ntmps 0 c33 (f33r2n0S a1 a2) (·=f33r2n0E a1 a2 o):=by
 unfold f33r2n0 at h;refine rN Qf 3 [j3,j3,j3] [] [] [0] [9,10] (f33r2n1S [(Qa.mk 0 Qbw a1),(Qa.mk 1 Qbu a1),(Qa.mk 1 Qbz a1),(Qa.mk 1 Qbv a2)]) an ?_;obtain ⟨o41,h42,h⟩:=Qd h;cases o41 with
 | norm v43 =>
  refine T.oneN (by kernel_rfl) (f33r2n1_ok [(Qa.mk 0 Qbw a1),(Qa.mk 1 Qbu a1),(Qa.mk 1 Qbz a1),(Qa.mk 1 Qbv a2)] h42) (st2:=(f33r2n1E [(Qa.mk 0 Qbw a1),(Qa.mk 1 Qbu a1),(Qa.mk 1 Qbz a1),(Qa.mk 1 Qbv a2)] (.norm v43)).2) rfl ?_;obtain rfl:=Qe h;exact rE Qf [j3] [] [] [0] [8] (.ret,(f33r2n0E a1 a2 (.ret v43)).2) an rfl
noncomputable def f33r2(a1 a2:Int):Option (List Qa):=(f33r2n0 a1 a2).bind fun o=>match o with
 | .ret v44=>some v44
theorem f33r2_ok(a1 a2:Int){r:List Qa}(h:f33r2 a1 a2=some r):Ql Try.prog true 33 [(jI a1),(jI a1),(jI a1),(jI a2)] [] (.own 0) [jR 3 Qa.cells r]:=by
 unfold f33r2 at h;obtain ⟨o,ho,h⟩:=Qd h;cases o with
 | ret v44 =>
  obtain rfl:=Qe h;exact Ql.shared Qf (f:=Try.f33) (c:=c33) (by kernel_rfl) (by kernel_rfl) (by kernel_rfl) ((f33r2n0_ok a1 a2 ho).mono fun r e=>by subst e; exact ⟨.inl rfl,by kernel_rfl,by kernel_rfl⟩)

noncomputable def c11:Code:=Try.f11.body.getD .skip
inductive f11n0O where
 | ret (v85:Bool)
def f11n0E:f11n0O→Ex×Tr×Hp
 | .ret v85=>(.ret,mkS [(0,(jB v85))],[])
def f11n0S:Tr×Hp:=(Qaa [] 0 .leaf,[])
noncomputable def f11n0:Option f11n0O :=
 f32r1.bind fun x5 =>
 (f13 [(Qb.mk 0 Qbw 10 false),(Qb.mk 1 Qbu 5 false),(Qb.mk 1 Qbz 5 true),(Qb.mk 1 Qbv 20 false)] 20).bind fun x7 =>
 (f16r1 x7.1 12).bind fun x11 =>
 f32r1.bind fun x41 =>
 (f13 [(Qb.mk 0 Qbw 10 false),(Qb.mk 1 Qbu 5 false),(Qb.mk 1 Qbz 5 true),(Qb.mk 1 Qbv 20 false)] 50).bind fun x43 =>
 bif decide (x7.2.2=0) then
  bif decide (x7.2.1=0) then
   (f33r1 10 2 6).bind fun x67 =>
   (f18 x7.1 x67).bind fun x69 =>
   bif x69 then
    bif decide (x11.2.1=0) then
     bif decide (x11.1=0) then
      (f33r2 2 6).bind fun x74 =>
      (f18 x11.2.2 x74).bind fun x76 =>
      bif x76 then
       bif decide (x43.2.2=0) then
        bif decide (x43.2.1=10) then
         (f33r1 10 5 20).bind fun x81 =>
         (f18 x43.1 x81).bind fun x83 =>
         some (.ret x83)
        else
         some (.ret false)
       else
        some (.ret false)
      else
       some (.ret false)
     else
      some (.ret false)
    else
     some (.ret false)
   else
    some (.ret false)
  else
   some (.ret false)
 else
  some (.ret false)
theorem f11n0_ok{o:f11n0O}(h:f11n0=some o):T Try.prog Try.f11.ntmps 0 c11 f11n0S (·=f11n0E o):=by
 unfold f11n0 at h;obtain ⟨x5,h6,h⟩:=Qd h;obtain ⟨x7,h8,h⟩:=Qd h;obtain ⟨x11,h12,h⟩:=Qd h
 refine rN Qf 3 [j3,([],[(0,.call (.own 0) [some (.row false 4 ([(Qb.mk 0 Qbw 10 false),(Qb.mk 1 Qbu 5 false),(Qb.mk 1 Qbz 5 true),(Qb.mk 1 Qbv 20 false)].map Qb.cells))]),jH 1 (.tup [(jL 3 Qa.cells x7.1),(jI x7.2.1),(jI x7.2.2)])],[]),([],[(1,.call (.tup [(.own 1),(jI x11.1),(jI x11.2.1)]) [none,jR 3 Qa.cells x11.2.2])],[])] [] [] [1] [1,2,3,4,5,6] (mkS [(1,(jL 3 Qa.cells x7.1)),(2,(jI x7.2.1)),(3,(jI x7.2.2)),(4,(.own 0)),(5,(jI x11.1)),(6,(jI x11.2.1))],[jR 3 Qa.cells x11.2.2]) (ap (f32r1_ok h6) (ap (f13_ok [(Qb.mk 0 Qbw 10 false),(Qb.mk 1 Qbu 5 false),(Qb.mk 1 Qbz 5 true),(Qb.mk 1 Qbv 20 false)] 20 h8) (ap (Ql.rn 1 [] (f16r1_ok x7.1 12 h12)) an))) ?_;obtain ⟨x41,h42,h⟩:=Qd h;obtain ⟨x43,h44,h⟩:=Qd h
 rcases Qh h with ⟨h65,h⟩|⟨h65,h⟩
 ·rcases Qh h with ⟨h66,h⟩|⟨h66,h⟩
  ·obtain ⟨x67,h68,h⟩:=Qd h;obtain ⟨x69,h70,h⟩:=Qd h;rcases Qh h with ⟨h71,h⟩|⟨h71,h⟩
   ·rcases Qh h with ⟨h72,h⟩|⟨h72,h⟩
    ·rcases Qh h with ⟨h73,h⟩|⟨h73,h⟩
     ·obtain ⟨x74,h75,h⟩:=Qd h;obtain ⟨x76,h77,h⟩:=Qd h;rcases Qh h with ⟨h78,h⟩|⟨h78,h⟩
      ·rcases Qh h with ⟨h79,h⟩|⟨h79,h⟩
       ·rcases Qh h with ⟨h80,h⟩|⟨h80,h⟩
        ·obtain ⟨x81,h82,h⟩:=Qd h;obtain ⟨x83,h84,h⟩:=Qd h;obtain rfl:=Qe h
         exact rE Qf [([],[(0,.call (.own 1) [none,some (.row false 4 ([(Qb.mk 0 Qbw 10 false),(Qb.mk 1 Qbu 5 false),(Qb.mk 1 Qbz 5 true),(Qb.mk 1 Qbv 20 false)].map Qb.cells))]),jH 1 (.tup [(jL 3 Qa.cells x43.1),(jI x43.2.1),(jI x43.2.2)])],[]),(jT [3,4,7,8,9,12,13,16,17,20,21,22,25,26,29,30,33,34,35],[(5,.bool true),(8,.call (.own 2) [none,none,jR 3 Qa.cells x67]),jH 9 (jB x69),(10,.bool true),(14,.bool true),(18,.bool true),(21,.call (.own 3) (jN 3 [jR 3 Qa.cells x74])),jH 22 (jB x76),(23,.bool true),(27,.bool true),(31,.bool true),(34,.call (.own 4) (jN 4 [jR 3 Qa.cells x81])),jH 35 (jB x83),(36,.bool true)],[])] [] [] [] [0] (.ret,(f11n0E (.ret x83)).2) (ap (Ql.rn 1 [] (f32r1_ok h42)) (ap (f13_ok [(Qb.mk 0 Qbw 10 false),(Qb.mk 1 Qbu 5 false),(Qb.mk 1 Qbz 5 true),(Qb.mk 1 Qbv 20 false)] 50 h44) (ap3 h65 (ap4 h66 (ap3 h71 (ap3 h72 (ap4 h73 (ap3 h78 (ap3 h79 (ap4 h80 (ap (Ql.rn 2 [] (f33r1_ok 10 2 6 h68)) (ap (f18_ok x7.1 x67 h70) (ap (Ql.rn 3 [] (f33r2_ok 2 6 h75)) (ap (f18_ok x11.2.2 x74 h77) (ap (Ql.rn 4 [] (f33r1_ok 10 5 20 h82)) (ap (f18_ok x43.1 x81 h84) an)))))))))))))))) rfl
        ·obtain rfl:=Qe h
         exact rE Qf [([],[(0,.call (.own 1) [none,some (.row false 4 ([(Qb.mk 0 Qbw 10 false),(Qb.mk 1 Qbu 5 false),(Qb.mk 1 Qbz 5 true),(Qb.mk 1 Qbv 20 false)].map Qb.cells))]),jH 1 (.tup [(jL 3 Qa.cells x43.1),(jI x43.2.1),(jI x43.2.2)])],[]),(jF [33,34,35]++jT [3,4,7,8,9,12,13,16,17,20,21,22,25,26,29,30],[(5,.bool true),(8,.call (.own 2) [none,none,jR 3 Qa.cells x67]),jH 9 (jB x69),(10,.bool true),(14,.bool true),(18,.bool true),(21,.call (.own 3) (jN 3 [jR 3 Qa.cells x74])),jH 22 (jB x76),(23,.bool true),(27,.bool true),(31,.bool true),(36,.bool false)],[])] [] [] [] [0] (.ret,(f11n0E (.ret false)).2) (ap (Ql.rn 1 [] (f32r1_ok h42)) (ap (f13_ok [(Qb.mk 0 Qbw 10 false),(Qb.mk 1 Qbu 5 false),(Qb.mk 1 Qbz 5 true),(Qb.mk 1 Qbv 20 false)] 50 h44) (ap3 h65 (ap4 h66 (ap3 h71 (ap3 h72 (ap4 h73 (ap3 h78 (ap3 h79 (ap4 h80 (ap (Ql.rn 2 [] (f33r1_ok 10 2 6 h68)) (ap (f18_ok x7.1 x67 h70) (ap (Ql.rn 3 [] (f33r2_ok 2 6 h75)) (ap (f18_ok x11.2.2 x74 h77) an)))))))))))))) rfl
       ·obtain rfl:=Qe h
        exact rE Qf [([],[(0,.call (.own 1) [none,some (.row false 4 ([(Qb.mk 0 Qbw 10 false),(Qb.mk 1 Qbu 5 false),(Qb.mk 1 Qbz 5 true),(Qb.mk 1 Qbv 20 false)].map Qb.cells))]),jH 1 (.tup [(jL 3 Qa.cells x43.1),(jI x43.2.1),(jI x43.2.2)])],[]),(jF [29,30]++jT [3,4,7,8,9,12,13,16,17,20,21,22,25,26],[(5,.bool true),(8,.call (.own 2) [none,none,jR 3 Qa.cells x67]),jH 9 (jB x69),(10,.bool true),(14,.bool true),(18,.bool true),(21,.call (.own 3) (jN 3 [jR 3 Qa.cells x74])),jH 22 (jB x76),(23,.bool true),(27,.bool true),(31,.bool false)],[])] [] [] [] [0] (.ret,(f11n0E (.ret false)).2) (ap (Ql.rn 1 [] (f32r1_ok h42)) (ap (f13_ok [(Qb.mk 0 Qbw 10 false),(Qb.mk 1 Qbu 5 false),(Qb.mk 1 Qbz 5 true),(Qb.mk 1 Qbv 20 false)] 50 h44) (ap3 h65 (ap4 h66 (ap3 h71 (ap3 h72 (ap4 h73 (ap3 h78 (ap3 h79 (ap (Ql.rn 2 [] (f33r1_ok 10 2 6 h68)) (ap (f18_ok x7.1 x67 h70) (ap (Ql.rn 3 [] (f33r2_ok 2 6 h75)) (ap (f18_ok x11.2.2 x74 h77) an))))))))))))) rfl
      ·obtain rfl:=Qe h
       exact rE Qf [([],[(0,.call (.own 1) [none,some (.row false 4 ([(Qb.mk 0 Qbw 10 false),(Qb.mk 1 Qbu 5 false),(Qb.mk 1 Qbz 5 true),(Qb.mk 1 Qbv 20 false)].map Qb.cells))]),jH 1 (.tup [(jL 3 Qa.cells x43.1),(jI x43.2.1),(jI x43.2.2)])],[]),(jF [25,26]++jT [3,4,7,8,9,12,13,16,17,20,21,22],[(5,.bool true),(8,.call (.own 2) [none,none,jR 3 Qa.cells x67]),jH 9 (jB x69),(10,.bool true),(14,.bool true),(18,.bool true),(21,.call (.own 3) (jN 3 [jR 3 Qa.cells x74])),jH 22 (jB x76),(23,.bool true),(27,.bool false)],[])] [] [] [] [0] (.ret,(f11n0E (.ret false)).2) (ap (Ql.rn 1 [] (f32r1_ok h42)) (ap (f13_ok [(Qb.mk 0 Qbw 10 false),(Qb.mk 1 Qbu 5 false),(Qb.mk 1 Qbz 5 true),(Qb.mk 1 Qbv 20 false)] 50 h44) (ap3 h65 (ap4 h66 (ap3 h71 (ap3 h72 (ap4 h73 (ap3 h78 (ap (Ql.rn 2 [] (f33r1_ok 10 2 6 h68)) (ap (f18_ok x7.1 x67 h70) (ap (Ql.rn 3 [] (f33r2_ok 2 6 h75)) (ap (f18_ok x11.2.2 x74 h77) an)))))))))))) rfl
     ·obtain rfl:=Qe h
      exact rE Qf [([],[(0,.call (.own 1) [none,some (.row false 4 ([(Qb.mk 0 Qbw 10 false),(Qb.mk 1 Qbu 5 false),(Qb.mk 1 Qbz 5 true),(Qb.mk 1 Qbv 20 false)].map Qb.cells))]),jH 1 (.tup [(jL 3 Qa.cells x43.1),(jI x43.2.1),(jI x43.2.2)])],[]),(jF [20,21,22]++jT [3,4,7,8,9,12,13,16,17],[(5,.bool true),(8,.call (.own 2) [none,none,jR 3 Qa.cells x67]),jH 9 (jB x69),(10,.bool true),(14,.bool true),(18,.bool true),(23,.bool false)],[])] [] [] [] [0] (.ret,(f11n0E (.ret false)).2) (ap (Ql.rn 1 [] (f32r1_ok h42)) (ap (f13_ok [(Qb.mk 0 Qbw 10 false),(Qb.mk 1 Qbu 5 false),(Qb.mk 1 Qbz 5 true),(Qb.mk 1 Qbv 20 false)] 50 h44) (ap3 h65 (ap4 h66 (ap3 h71 (ap3 h72 (ap4 h73 (ap (Ql.rn 2 [] (f33r1_ok 10 2 6 h68)) (ap (f18_ok x7.1 x67 h70) an))))))))) rfl
    ·obtain rfl:=Qe h;exact rE Qf [([],[(0,.call (.own 1) [none,some (.row false 4 ([(Qb.mk 0 Qbw 10 false),(Qb.mk 1 Qbu 5 false),(Qb.mk 1 Qbz 5 true),(Qb.mk 1 Qbv 20 false)].map Qb.cells))]),jH 1 (.tup [(jL 3 Qa.cells x43.1),(jI x43.2.1),(jI x43.2.2)])],[]),(jF [16,17]++jT [3,4,7,8,9,12,13],[(5,.bool true),(8,.call (.own 2) [none,none,jR 3 Qa.cells x67]),jH 9 (jB x69),(10,.bool true),(14,.bool true),(18,.bool false)],[])] [] [] [] [0] (.ret,(f11n0E (.ret false)).2) (ap (Ql.rn 1 [] (f32r1_ok h42)) (ap (f13_ok [(Qb.mk 0 Qbw 10 false),(Qb.mk 1 Qbu 5 false),(Qb.mk 1 Qbz 5 true),(Qb.mk 1 Qbv 20 false)] 50 h44) (ap3 h65 (ap4 h66 (ap3 h71 (ap3 h72 (ap (Ql.rn 2 [] (f33r1_ok 10 2 6 h68)) (ap (f18_ok x7.1 x67 h70) an)))))))) rfl
   ·obtain rfl:=Qe h;exact rE Qf [([],[(0,.call (.own 1) [none,some (.row false 4 ([(Qb.mk 0 Qbw 10 false),(Qb.mk 1 Qbu 5 false),(Qb.mk 1 Qbz 5 true),(Qb.mk 1 Qbv 20 false)].map Qb.cells))]),jH 1 (.tup [(jL 3 Qa.cells x43.1),(jI x43.2.1),(jI x43.2.2)])],[]),(jF [12,13]++jT [3,4,7,8,9],[(5,.bool true),(8,.call (.own 2) [none,none,jR 3 Qa.cells x67]),jH 9 (jB x69),(10,.bool true),(14,.bool false)],[])] [] [] [] [0] (.ret,(f11n0E (.ret false)).2) (ap (Ql.rn 1 [] (f32r1_ok h42)) (ap (f13_ok [(Qb.mk 0 Qbw 10 false),(Qb.mk 1 Qbu 5 false),(Qb.mk 1 Qbz 5 true),(Qb.mk 1 Qbv 20 false)] 50 h44) (ap3 h65 (ap4 h66 (ap3 h71 (ap (Ql.rn 2 [] (f33r1_ok 10 2 6 h68)) (ap (f18_ok x7.1 x67 h70) an))))))) rfl
  ·obtain rfl:=Qe h;exact rE Qf [([],[(0,.call (.own 1) [none,some (.row false 4 ([(Qb.mk 0 Qbw 10 false),(Qb.mk 1 Qbu 5 false),(Qb.mk 1 Qbz 5 true),(Qb.mk 1 Qbv 20 false)].map Qb.cells))]),jH 1 (.tup [(jL 3 Qa.cells x43.1),(jI x43.2.1),(jI x43.2.2)])],[]),(jF [7,8,9]++jT [3,4],[(5,.bool true),(10,.bool false)],[])] [] [] [] [0] (.ret,(f11n0E (.ret false)).2) (ap (Ql.rn 1 [] (f32r1_ok h42)) (ap (f13_ok [(Qb.mk 0 Qbw 10 false),(Qb.mk 1 Qbu 5 false),(Qb.mk 1 Qbz 5 true),(Qb.mk 1 Qbv 20 false)] 50 h44) (ap3 h65 (ap4 h66 an)))) rfl
 ·obtain rfl:=Qe h;exact rE Qf [([],[(0,.call (.own 1) [none,some (.row false 4 ([(Qb.mk 0 Qbw 10 false),(Qb.mk 1 Qbu 5 false),(Qb.mk 1 Qbz 5 true),(Qb.mk 1 Qbv 20 false)].map Qb.cells))]),jH 1 (.tup [(jL 3 Qa.cells x43.1),(jI x43.2.1),(jI x43.2.2)])],[]),([(3,false),(4,false)],[(5,.bool false)],[])] [] [] [] [0] (.ret,(f11n0E (.ret false)).2) (ap (Ql.rn 1 [] (f32r1_ok h42)) (ap (f13_ok [(Qb.mk 0 Qbw 10 false),(Qb.mk 1 Qbu 5 false),(Qb.mk 1 Qbz 5 true),(Qb.mk 1 Qbv 20 false)] 50 h44) (ap3 h65 an))) rfl
noncomputable def f11:Option Bool:=f11n0.bind fun o=>match o with
 | .ret v85=>some v85
theorem f11_ok{r:Bool}(h:f11=some r):Ql Try.prog false 11 [] [] (jB r) []:=by
 unfold f11 at h;obtain ⟨o,ho,h⟩:=Qd h;cases o with
 | ret v85 =>
  obtain rfl:=Qe h;exact Ql.plain Qf (f:=Try.f11) (c:=c11) (by kernel_rfl) (by kernel_rfl) (by kernel_rfl) (by kernel_rfl) ((f11n0_ok  ho).mono fun r e=>by subst e; exact ⟨.inl rfl,(jB v85),(jB v85),by kernel_rfl,by kernel_rfl,((Wk.refl _):Wk (jB v85) (jB v85))⟩)

noncomputable def c12:Code:=Try.f12.body.getD .skip
inductive f12n0O where
 | ret (v5:Bool)
def f12n0E(a1:List Qb)(a2:List Qa):f12n0O→Ex×Tr×Hp
 | .ret v5=>(.ret,mkS [(4,(jB v5))],[])
def f12n0S(a1:List Qb)(a2:List Qa):Tr×Hp:=(Qaa [(jL 4 Qb.cells a1),(jL 3 Qa.cells a2)] 0 .leaf,[])
noncomputable def f12n0(a1:List Qb)(a2:List Qa):Option f12n0O :=
 bif decide (120<(a1.length:Int)) then
  some (.ret true)
 else
  some (.ret (decide (120<(a2.length:Int))))
theorem f12n0_ok(a1:List Qb)(a2:List Qa){o:f12n0O}(h:f12n0 a1 a2=some o):T Try.prog Try.f12.ntmps 0 c12 (f12n0S a1 a2) (·=f12n0E a1 a2 o):=by
 unfold f12n0 at h;rcases Qh h with ⟨h4,h⟩|⟨h4,h⟩
 ·obtain rfl:=Qe h;exact rE Qf [j3,(jT [4,5,6],[(7,.bool true)],[(1,.val (jI (a1.length:Int)))])] [] [] [] [4] (.ret,(f12n0E a1 a2 (.ret true)).2) (ap (Qx (xs:=a1) (c:=Qb.cells)) (ap4 h4 an)) rfl
 ·obtain rfl:=Qe h;exact rE Qf [j3,(jF [4,5,6],[(7,.bool false)],[(1,.val (jI (a1.length:Int))),(5,.val (jI (a2.length:Int)))])] [] [] [] [4] (.ret,(f12n0E a1 a2 (.ret (decide (120<(a2.length:Int))))).2) (ap (Qx (xs:=a1) (c:=Qb.cells)) (ap2 h4 (ap (Qx (xs:=a2) (c:=Qa.cells)) (ap2 h4 an)))) rfl
noncomputable def f12(a1:List Qb)(a2:List Qa):Option Bool:=(f12n0 a1 a2).bind fun o=>match o with
 | .ret v5=>some v5
theorem f12_ok(a1:List Qb)(a2:List Qa){r:Bool}(h:f12 a1 a2=some r):Ql Try.prog false 12 [(jL 4 Qb.cells a1),(jL 3 Qa.cells a2)] [] (jB r) []:=by
 unfold f12 at h;obtain ⟨o,ho,h⟩:=Qd h;cases o with
 | ret v5 =>
  obtain rfl:=Qe h;exact Ql.plain Qf (f:=Try.f12) (c:=c12) (by kernel_rfl) (by kernel_rfl) (by kernel_rfl) (by kernel_rfl) ((f12n0_ok a1 a2 ho).mono fun r e=>by subst e; exact ⟨.inl rfl,(jB v5),(jB v5),by kernel_rfl,by kernel_rfl,((Wk.refl _):Wk (jB v5) (jB v5))⟩)

noncomputable def c19:Code:=Try.f19.body.getD .skip
inductive f19n0O where
 | ret (v6:List Qb)
def f19n0E(a1:List Qb):f19n0O→Ex×Tr×Hp
 | .ret v6=>(.ret,mkS [(2,(.own 0))],[jR 4 Qb.cells v6])
def f19n0S(a1:List Qb):Tr×Hp:=(Qaa [(jL 4 Qb.cells a1)] 0 .leaf,[])
noncomputable def f19n0(a1:List Qb):Option f19n0O :=
 bif (a1.isEmpty) then
  some (.ret [])
 else
  req (fit a1.length 40) <|
  some (.ret a1)
theorem f19n0_ok(a1:List Qb){o:f19n0O}(h:f19n0 a1=some o):T Try.prog Try.f19.ntmps 0 c19 (f19n0S a1) (·=f19n0E a1 o):=by
 unfold f19n0 at h;rcases Qh h with ⟨h4,h⟩|⟨h4,h⟩
 ·obtain rfl:=Qe h;exact rE Qf [j3,([],[(2,.app false)],[])] [] [] [0] [2] (.ret,(f19n0E a1 (.ret [])).2) (ap (nil_map (c:=Qb.cells) h4) an) rfl
 ·obtain ⟨h5,h⟩:=Qt h;obtain rfl:=Qe h;exact rE Qf [j3,([],[(2,.app true)],[])] [] [] [1] [2] (.ret,(f19n0E a1 (.ret a1)).2) (ap (fit_map0z (te:=ti33) (xs:=a1) (c:=Qb.cells) h5 rfl) (ap (ne_map (c:=Qb.cells) h4) (ap (len_all (c:=Qb.cells) (xs:=a1) (n:=4) (fun _=>rfl)) an))) rfl
noncomputable def f19(a1:List Qb):Option (List Qb):=(f19n0 a1).bind fun o=>match o with
 | .ret v6=>some v6
theorem f19_ok(a1:List Qb){r:List Qb}(h:f19 a1=some r):Ql Try.prog false 19 [(jL 4 Qb.cells a1)] [] (jL 4 Qb.cells r) []:=by
 unfold f19 at h;obtain ⟨o,ho,h⟩:=Qd h;cases o with
 | ret v6 =>
  obtain rfl:=Qe h;exact Ql.plain Qf (f:=Try.f19) (c:=c19) (by kernel_rfl) (by kernel_rfl) (by kernel_rfl) (by kernel_rfl) ((f19n0_ok a1 ho).mono fun r e=>by subst e; exact ⟨.inl rfl,(.own 0),(jL 4 Qb.cells v6),by kernel_rfl,by kernel_rfl,((Wk.refl _):Wk (jL 4 Qb.cells v6) (jL 4 Qb.cells v6))⟩)

noncomputable def c48:Code:=Try.f48.body.getD .skip
inductive f48r1n0O where
 | ret (v5:List Qb)
def f48r1n0E(a1:List Qb):f48r1n0O→Ex×Tr×Hp
 | .ret v5=>(.ret,mkS [(2,(.own 0))],[jR 4 Qb.cells v5])
def f48r1n0S(a1:List Qb):Tr×Hp:=(Qaa [(jL 4 Qb.cells a1)] 0 .leaf,[])
noncomputable def f48r1n0(a1:List Qb):Option f48r1n0O :=
 bif (a1.isEmpty) then
  some (.ret [])
 else
  req (fit a1.length 40) <|
  some (.ret a1)
theorem f48r1n0_ok(a1:List Qb){o:f48r1n0O}(h:f48r1n0 a1=some o):T Try.prog Try.f48.ntmps 0 c48 (f48r1n0S a1) (·=f48r1n0E a1 o):=by
 unfold f48r1n0 at h;refine rN Qf 1 [j3] [] [] [] [0] (mkS [(0,(jL 4 Qb.cells a1))],[]) an ?_;refine T.nest (by kernel_rfl) ?_;rcases Qh h with ⟨h2,h⟩|⟨h2,h⟩
 ·refine rN Qf 0 [] [] [] [] [0] (mkS [(0,(jL 4 Qb.cells a1))],[]) an ?_;refine T.oneNil Qf (x:=.tmp 0) (t:=22) (t3:=3) (t4:=4) (sz:=4) (es:=(a1.map Qb.cells)) (by kernel_rfl) (by kernel_rfl) (by kernel_rfl) (by kernel_rfl) (by kernel_rfl) (fun b hb=>?_);cases b
  ·refine rE Qf [] [none] [] [] [0] (.norm,(mkS [(0,(jL 4 Qb.cells a1))],[])) an (ThenQ.norm ?_);obtain rfl:=Qe h;exact rE Qf [([],[(2,.app false)],[])] [] [] [0] [2] (.ret,(f48r1n0E a1 (.ret [])).2) (ap (nil_map (c:=Qb.cells) h2) an) rfl
  ·obtain rfl:=Qe h;exact rE Qf [j3] [none] [.mat 2 4] [0] [2] (.ret,(f48r1n0E a1 (.ret [])).2) an (ThenQ.out rfl rfl)
 ·refine rN Qf 0 [] [] [] [] [0] (mkS [(0,(jL 4 Qb.cells a1))],[]) an ?_;refine T.oneNil Qf (x:=.tmp 0) (t:=22) (t3:=3) (t4:=4) (sz:=4) (es:=(a1.map Qb.cells)) (by kernel_rfl) (by kernel_rfl) (by kernel_rfl) (by kernel_rfl) (by kernel_rfl) (fun b hb=>?_);cases b
  ·refine rE Qf [] [none] [] [] [0] (.norm,(mkS [(0,(jL 4 Qb.cells a1))],[])) an (ThenQ.norm ?_);obtain ⟨h4,h⟩:=Qt h;obtain rfl:=Qe h;exact rE Qf [([],[(2,.app true)],[])] [] [] [1] [2] (.ret,(f48r1n0E a1 (.ret a1)).2) (ap (fit_map0z (te:=ti33) (xs:=a1) (c:=Qb.cells) h4 rfl) (ap (ne_map (c:=Qb.cells) h2) (ap (len_all (c:=Qb.cells) (xs:=a1) (n:=4) (fun _=>rfl)) an))) rfl
  ·exact absurd (hb rfl) (ne_map (c:=Qb.cells) h2)
noncomputable def f48r1(a1:List Qb):Option (List Qb):=(f48r1n0 a1).bind fun o=>match o with
 | .ret v5=>some v5
theorem f48r1_ok(a1:List Qb){r:List Qb}(h:f48r1 a1=some r):Ql Try.prog true 48 [(jL 4 Qb.cells a1)] [] (.own 0) [jR 4 Qb.cells r]:=by
 unfold f48r1 at h;obtain ⟨o,ho,h⟩:=Qd h;cases o with
 | ret v5 =>
  obtain rfl:=Qe h;exact Ql.shared Qf (f:=Try.f48) (c:=c48) (by kernel_rfl) (by kernel_rfl) (by kernel_rfl) ((f48r1n0_ok a1 ho).mono fun r e=>by subst e; exact ⟨.inl rfl,by kernel_rfl,by kernel_rfl⟩)

noncomputable def c50:Code:=Try.f50.body.getD .skip
inductive f50r1n0O where
 | norm (v8:List Qb)
def f50r1n0E(a1 a2:Int)(a3:List Qb):f50r1n0O→Ex×Tr×Hp
 | .norm v8=>(.norm,mkS [],[some (.box [(.own 1)]),jR 4 Qb.cells v8])
def f50r1n0S(a1 a2:Int)(a3:List Qb):Tr×Hp:=(Qaa [(jI a1),(jI a2),(.bp 0 0)] 0 .leaf,[some (.box [(.own 1)]),jR 4 Qb.cells a3])
noncomputable def f50r1n0(a1 a2:Int)(a3:List Qb):Option f50r1n0O :=
 (at? a3 a1).bind fun x6 =>
 some (.norm (a3.set (Int.toNat a1) (Qb.mk x6.Level x6.Owner (wr64 (x6.Size-a2)) x6.Called)))
theorem f50r1n0_ok(a1 a2:Int)(a3:List Qb){o:f50r1n0O}(h:f50r1n0 a1 a2 a3=some o):T Try.prog Try.f50.ntmps 2 c50 (f50r1n0S a1 a2 a3) (·=f50r1n0E a1 a2 a3 o):=by
 unfold f50r1n0 at h;obtain ⟨x6,h7,h⟩:=Qd h;obtain rfl:=Qe h;exact rE Qf [([],[(2,.at_ (Int.toNat a1)),(4,.idx 0 (Qb.cells x6)),(7,.at_ (Int.toNat a1)),(9,.idx 0 (Qb.cells x6))],[(9,.row 1 ((a3.set (Int.toNat a1) (Qb.mk x6.Level x6.Owner (wr64 (x6.Size-a2)) x6.Called)).map Qb.cells))])] [] [] [] [] (.norm,(f50r1n0E a1 a2 a3 (.norm (a3.set (Int.toNat a1) (Qb.mk x6.Level x6.Owner (wr64 (x6.Size-a2)) x6.Called)))).2) (ap (Qg h7).1 (ap (Qs Qb.cells (Qg h7).2) (ap (Qm Qb.cells (Qg h7).2) (ap (Qg h7).1 (ap (Qs Qb.cells (Qg h7).2) (ap (Qm Qb.cells (Qg h7).2) (ap (set_cv (xs:=a3) (c:=Qb.cells) (k:=(Int.toNat a1)) (x:=(Qb.mk x6.Level x6.Owner (wr64 (x6.Size-a2)) x6.Called))) an))))))) rfl
noncomputable def f50r1(a1 a2:Int)(a3:List Qb):Option (List Qb):=(f50r1n0 a1 a2 a3).bind fun o=>match o with
 | .norm v8=>some v8
theorem f50r1_ok(a1 a2:Int)(a3:List Qb){r:List Qb}(h:f50r1 a1 a2 a3=some r):Ql Try.prog true 50 [(jI a1),(jI a2),(.bp 0 0)] [some (.box [(.own 1)]),jR 4 Qb.cells a3] (.tup []) [some (.box [(.own 1)]),jR 4 Qb.cells r]:=by
 unfold f50r1 at h;obtain ⟨o,ho,h⟩:=Qd h;cases o with
 | norm v8 =>
  obtain rfl:=Qe h;exact Ql.shared Qf (f:=Try.f50) (c:=c50) (by kernel_rfl) (by kernel_rfl) (by kernel_rfl) ((f50r1n0_ok a1 a2 a3 ho).mono fun r e=>by subst e; exact ⟨.inr rfl,by kernel_rfl,by kernel_rfl⟩)
end Go.Proofs.Ytgbolgaodaokcaa
