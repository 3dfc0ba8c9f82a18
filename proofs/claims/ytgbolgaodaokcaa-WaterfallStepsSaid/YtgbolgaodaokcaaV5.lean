/- Functions of the program, plainly, and that the machine computes them. No condition. -/
import Derived.Test.YtgbolgaodaokcaaV4
namespace Go.Proofs.Ytgbolgaodaokcaa
set_option linter.unusedVariables false
set_option linter.unusedSimpArgs false
set_option maxRecDepth 100000
open Go.RowKit
noncomputable def c49:Code:=Try.f49.body.getD .skip
inductive f49r1n2O where
 | exit0 (v50:List (Key_×Int))
def f49r1n2E(ba1:List Qb)(bg2:List Qa)(ba3:List Qb):f49r1n2O→Ex×Tr×Hp
 | .exit0 v50=>((.exit 0),mkS [(0,(jL 4 Qb.cells ba1)),(1,(jL 3 Qa.cells bg2)),(2,(.clo 50 [(.bp 0 0)])),(8,(.mp 2))],[some (.box [(.own 1)]),jR 4 Qb.cells ba3,some (.map (v50.map (mkv (pAgg Key_.cells) (pInt .i64))))])
def f49r1n2S(ba1:List Qb)(bg2:List Qa)(ba3:List Qb)(v38:Int)(v39:List (Key_×Int)):Tr×Hp:=(mkS [(0,(jL 4 Qb.cells ba1)),(1,(jL 3 Qa.cells bg2)),(2,(.clo 50 [(.bp 0 0)])),(8,(.mp 2)),(27,(jL 4 Qb.cells ba1)),(28,(jI (ba1.length:Int))),(29,(jI v38))],[some (.box [(.own 1)]),jR 4 Qb.cells ba3,some (.map (v39.map (mkv (pAgg Key_.cells) (pInt .i64))))])
noncomputable def f49r1n2:Nat→List Qb→List Qa→List Qb→Int→List (Key_×Int)→Option f49r1n2O
 | 0,_,_,_,_,_=>none
 | f+1,ba1,bg2,ba3,v38,v39 =>
  bif decide (v38<(ba1.length:Int)) then
   (at? ba1 v38).bind fun x46 =>
   (f36 x46).bind fun x48 =>
   (f49r1n2 f ba1 bg2 ba3 (wr64 (v38+1)) (mPut Key_.eqb x48 v38 v39))
  else
   some (.exit0 v39)
theorem f49r1n2_ok:∀(f:Nat)(ba1:List Qb)(bg2:List Qa)(ba3:List Qb)(v38:Int)(v39:List (Key_×Int)){o:f49r1n2O},f49r1n2 f ba1 bg2 ba3 v38 v39=some o→TL Try.prog Try.f49.ntmps 2 f (cL (cL (Qj 1 (cL (Qj 4 c49))))) (f49r1n2S ba1 bg2 ba3 v38 v39) (·=f49r1n2E ba1 bg2 ba3 o)
 | 0,_,_,_,_,_,o,h=>by rw [f49r1n2] at h; cases h
 | f+1,ba1,bg2,ba3,v38,v39,o,h=>by
  rw [f49r1n2] at h;refine TL.body (K:=fun s=>∃v38:Int,∃v39:List (Key_×Int),s=(f49r1n2S ba1 bg2 ba3 v38 v39)∧f49r1n2 f ba1 bg2 ba3 v38 v39=some o) ?_ (by rintro _ ⟨v38,v39,rfl,hk⟩; exact f49r1n2_ok f _ _ _ _ _ hk);rcases Qh h with ⟨h41,h⟩|⟨h41,h⟩
  ·obtain ⟨x46,h47,h⟩:=Qd h;obtain ⟨x48,h49,h⟩:=Qd h;exact rE Qf [j3,([],[(1,.idx (Int.toNat v38) (Qb.cells x46))],[]),([],[jH 2 (jA Key_.cells x48),(4,.mset ((mPut Key_.eqb x48 v38 v39).map (mkv (pAgg Key_.cells) (pInt .i64))))],[]),j3] [some true] [] [2] [0,1,2,8,27,28,29] (.norm,(f49r1n2S ba1 bg2 ba3 (wr64 (v38+1)) (mPut Key_.eqb x48 v38 v39))) (ap h41 (ap (Qg h47).1 (ap (Qm Qb.cells (Qg h47).2) (ap (mset_map (vp:=(pInt .i64)) key_87 x48 v38 v39) (ap (f36_ok x46 h49) an))))) (Qp.norm ⟨(wr64 (v38+1)),(mPut Key_.eqb x48 v38 v39),rfl,h⟩)
  ·obtain rfl:=Qe h;exact rK Qf 2 [j3] [some false] [] [2] [0,1,2,8] (.exit 0) ((f49r1n2E ba1 bg2 ba3 (.exit0 v39)).2) (ap h41 an) (Qp.out rfl rfl)
noncomputable def f49r1n2L(ba1:List Qb)(bg2:List Qa)(ba3:List Qb):List Qb→Int→(List (Key_×Int))→Option f49r1n2O
 | [],v38,v39 =>
  some (.exit0 v39)
 | x0::rest,v38,v39 =>
  (f36 x0).bind fun x48 =>
  (f49r1n2L ba1 bg2 ba3 rest (v38+1) (mPut Key_.eqb x48 v38 v39))
theorem f49r1n2L_eq(ba1:List Qb)(bg2:List Qa)(ba3:List Qb):∀(rest:List Qb)(f k:Nat)(v39:List (Key_×Int)),ba1.drop k=rest→ba1.length≤maxLen→rest.length<f→f49r1n2 f ba1 bg2 ba3 (k:Int) v39=f49r1n2L ba1 bg2 ba3 rest (k:Int) v39
 | _,0,_,_,_,_,hf=>absurd hf (Nat.not_lt_zero _)
 | [],f+1,k,v39,hd,hm,hf=>by
  have hk:¬((k:Int)<(ba1.length:Int)):=by have:=Qcb hd; omega
  rw [f49r1n2,f49r1n2L];simp only [decide_eq_false hk,cond_false]
 | x0::rest,f+1,k,v39,hd,hm,hf=>by
  obtain ⟨hx,hlt,hd'⟩:=Qbl hd;have hk:(k:Int)<(ba1.length:Int):=by omega
  have hw:wr64 ((k:Int)+1)=(k:Int)+1:=wr64_of (by omega) (by unfold maxLen at hm; omega);have ih:∀(v39:List (Key_×Int)),f49r1n2 f ba1 bg2 ba3 ((k:Int)+1) v39=f49r1n2L ba1 bg2 ba3 rest ((k:Int)+1) v39:=fun v39=>f49r1n2L_eq ba1 bg2 ba3 rest f (k+1) v39 hd' hm (by simpa using hf);rw [f49r1n2,f49r1n2L];simp only [decide_eq_true hk,cond_true,at_nat,hx,Option.bind_some,hw,ih]
theorem f49r1n2_run(ba1:List Qb)(bg2:List Qa)(ba3:List Qb)(v39:List (Key_×Int))(hm:ba1.length≤maxLen):f49r1n2 FUEL ba1 bg2 ba3 0 v39=f49r1n2L ba1 bg2 ba3 ba1 0 v39:=f49r1n2L_eq ba1 bg2 ba3 ba1 FUEL 0 v39 List.drop_zero hm (Qam hm)
inductive f49r1n1O where
 | norm (v54:List (Key_×Int))
def f49r1n1E(ba1:List Qb)(bg2:List Qa)(ba3:List Qb):f49r1n1O→Ex×Tr×Hp
 | .norm v54=>(.norm,mkS [(0,(jL 4 Qb.cells ba1)),(1,(jL 3 Qa.cells bg2)),(2,(.clo 50 [(.bp 0 0)])),(8,(.mp 2))],[some (.box [(.own 1)]),jR 4 Qb.cells ba3,some (.map (v54.map (mkv (pAgg Key_.cells) (pInt .i64))))])
def f49r1n1S(ba1:List Qb)(bg2:List Qa)(ba3:List Qb):Tr×Hp:=(mkS [(0,(jL 4 Qb.cells ba1)),(1,(jL 3 Qa.cells bg2)),(2,(.clo 50 [(.bp 0 0)])),(8,(.mp 2))],[some (.box [(.own 1)]),jR 4 Qb.cells ba3,some (.map ([].map (mkv (pAgg Key_.cells) (pInt .i64))))])
noncomputable def f49r1n1(ba1:List Qb)(bg2:List Qa)(ba3:List Qb):Option f49r1n1O :=
 (f49r1n2 FUEL ba1 bg2 ba3 0 []).bind fun o51=>match o51 with
 | .exit0 v53=>some (.norm v53)
theorem f49r1n1_ok(ba1:List Qb)(bg2:List Qa)(ba3:List Qb){o:f49r1n1O}(h:f49r1n1 ba1 bg2 ba3=some o):T Try.prog Try.f49.ntmps 2 (cL (Qj 4 c49)) (f49r1n1S ba1 bg2 ba3) (·=f49r1n1E ba1 bg2 ba3 o):=by
 unfold f49r1n1 at h;refine rN Qf 1 [([],[],[(1,.val (jI (ba1.length:Int)))])] [] [] [2] [0,1,2,8,27,28,29] (f49r1n2S ba1 bg2 ba3 0 []) (ap (Qx (xs:=ba1) (c:=Qb.cells)) an) ?_;obtain ⟨o51,h52,h⟩:=Qd h;cases o51 with
 | exit0 v53 =>
  obtain rfl:=Qe h;exact T.last' (T.bl (i:=0) (by kernel_rfl) (by kernel_rfl) (f49r1n2_ok FUEL ba1 bg2 ba3 0 [] h52)) (tds:=[]) (m:=[2]) (keep:=[0,1,2,8]) (st2:=(f49r1n1E ba1 bg2 ba3 (.norm v53)).2) (by kernel_rfl) an rfl
inductive f49r1n4O where
 | exit2 (v116:Int)
 | ret
def f49r1n4E(ba1:List Qb)(bg2:List Qa)(ba3:List Qb)(bi4:List (Key_×Int)):f49r1n4O→Ex×Tr×Hp
 | .exit2 v116=>((.exit 2),mkS [(1,(jL 3 Qa.cells bg2)),(2,(.clo 50 [(.bp 0 0)])),(8,(.mp 2)),(11,(jI v116))],[some (.box [(.own 1)]),jR 4 Qb.cells ba3,some (.map (bi4.map (mkv (pAgg Key_.cells) (pInt .i64))))])
 | .ret=>(.ret,mkS [(6,(jI 6))],[some (.box [(.own 1)]),jR 4 Qb.cells ba3])
def f49r1n4S(ba1:List Qb)(bg2:List Qa)(ba3:List Qb)(bi4:List (Key_×Int))(v96 v97:Int):Tr×Hp:=(mkS [(0,(jL 4 Qb.cells ba1)),(1,(jL 3 Qa.cells bg2)),(2,(.clo 50 [(.bp 0 0)])),(8,(.mp 2)),(11,(jI v96)),(39,(jL 3 Qa.cells bg2)),(40,(jI (bg2.length:Int))),(41,(jI v97))],[some (.box [(.own 1)]),jR 4 Qb.cells ba3,some (.map (bi4.map (mkv (pAgg Key_.cells) (pInt .i64))))])
noncomputable def f49r1n4:Nat→List Qb→List Qa→List Qb→List (Key_×Int)→Int→Int→Option f49r1n4O
 | 0,_,_,_,_,_,_=>none
 | f+1,ba1,bg2,ba3,bi4,v96,v97 =>
  bif decide (v97<(bg2.length:Int)) then
   (at? bg2 v97).bind fun x108 =>
   (f39 x108).bind fun x110 =>
   bif (mHas Key_.eqb x110 bi4) then
    (at? ba1 (mGet Key_.eqb 0 x110 bi4)).bind fun x113 =>
    bif decide (x113.Size<x108.Amount) then
     (f49r1n4 f ba1 bg2 ba3 bi4 50 (wr64 (v97+1)))
    else
     (f49r1n4 f ba1 bg2 ba3 bi4 v96 (wr64 (v97+1)))
   else
    some .ret
  else
   some (.exit2 v96)
theorem f49r1n4_ok:∀(f:Nat)(ba1:List Qb)(bg2:List Qa)(ba3:List Qb)(bi4:List (Key_×Int))(v96 v97:Int){o:f49r1n4O},f49r1n4 f ba1 bg2 ba3 bi4 v96 v97=some o→TL Try.prog Try.f49.ntmps 2 f (cL (cL (Qj 1 (cL (Qj 1 (Qj 1 (Qj 4 c49))))))) (f49r1n4S ba1 bg2 ba3 bi4 v96 v97) (·=f49r1n4E ba1 bg2 ba3 bi4 o)
 | 0,_,_,_,_,_,_,o,h=>by rw [f49r1n4] at h; cases h
 | f+1,ba1,bg2,ba3,bi4,v96,v97,o,h=>by
  rw [f49r1n4] at h;refine TL.body (K:=fun s=>∃v96:Int,∃v97:Int,s=(f49r1n4S ba1 bg2 ba3 bi4 v96 v97)∧f49r1n4 f ba1 bg2 ba3 bi4 v96 v97=some o) ?_ (by rintro _ ⟨v96,v97,rfl,hk⟩; exact f49r1n4_ok f _ _ _ _ _ _ hk);rcases Qh h with ⟨h99,h⟩|⟨h99,h⟩
  ·obtain ⟨x108,h109,h⟩:=Qd h;obtain ⟨x110,h111,h⟩:=Qd h;rcases Qh h with ⟨h112,h⟩|⟨h112,h⟩
   ·obtain ⟨x113,h114,h⟩:=Qd h;rcases Qh h with ⟨h115,h⟩|⟨h115,h⟩
    ·exact rE Qf [j3,([],[(0,.idx (Int.toNat v97) (Qa.cells x108))],[]),([],[jH 2 (jA Key_.cells x110),(3,.look ((pInt .i64) (mGet Key_.eqb 0 x110 bi4)) (mHas Key_.eqb x110 bi4))],[]),j3,([],[(4,.idx (Int.toNat (mGet Key_.eqb 0 x110 bi4)) (Qb.cells x113))],[]),j3,j3] [some true,some false,some true] [] [2] [0,1,2,8,11,39,40,41] (.norm,(f49r1n4S ba1 bg2 ba3 bi4 50 (wr64 (v97+1)))) (ap h99 (ap (Qg h109).1 (ap (Qm Qa.cells (Qg h109).2) (ap (look_map (vp:=(pInt .i64)) (e:=3) key_87 0 (by kernel_rfl) x110 bi4) (ap (f39_ok x108 h111) (ap (Qaf h112) (ap (Qg h114).1 (ap (Qm Qb.cells (Qg h114).2) (ap h115 an))))))))) (Qp.norm ⟨50,(wr64 (v97+1)),rfl,h⟩)
    ·exact rE Qf [j3,([],[(0,.idx (Int.toNat v97) (Qa.cells x108))],[]),([],[jH 2 (jA Key_.cells x110),(3,.look ((pInt .i64) (mGet Key_.eqb 0 x110 bi4)) (mHas Key_.eqb x110 bi4))],[]),j3,([],[(4,.idx (Int.toNat (mGet Key_.eqb 0 x110 bi4)) (Qb.cells x113))],[]),j3] [some true,some false,some false] [] [2] [0,1,2,8,11,39,40,41] (.norm,(f49r1n4S ba1 bg2 ba3 bi4 v96 (wr64 (v97+1)))) (ap h99 (ap (Qg h109).1 (ap (Qm Qa.cells (Qg h109).2) (ap (look_map (vp:=(pInt .i64)) (e:=3) key_87 0 (by kernel_rfl) x110 bi4) (ap (f39_ok x108 h111) (ap (Qaf h112) (ap (Qg h114).1 (ap (Qm Qb.cells (Qg h114).2) (ap h115 an))))))))) (Qp.norm ⟨v96,(wr64 (v97+1)),rfl,h⟩)
   ·obtain rfl:=Qe h;exact rK Qf 3 [j3,([],[(0,.idx (Int.toNat v97) (Qa.cells x108))],[]),([],[jH 2 (jA Key_.cells x110),(3,.look ((pInt .i64) (mGet Key_.eqb 0 x110 bi4)) (mHas Key_.eqb x110 bi4))],[]),j3,j3] [some true,some true] [] [] [6] .ret ((f49r1n4E ba1 bg2 ba3 bi4 .ret).2) (ap h99 (ap (Qg h109).1 (ap (Qm Qa.cells (Qg h109).2) (ap (look_map (vp:=(pInt .i64)) (e:=3) key_87 0 (by kernel_rfl) x110 bi4) (ap (f39_ok x108 h111) (ap (Qao h112) an)))))) (Qp.out rfl rfl)
  ·obtain rfl:=Qe h;exact rK Qf 2 [j3] [some false] [] [2] [1,2,8,11] (.exit 2) ((f49r1n4E ba1 bg2 ba3 bi4 (.exit2 v96)).2) (ap h99 an) (Qp.out rfl rfl)
noncomputable def f49r1n4L(ba1:List Qb)(bg2:List Qa)(ba3:List Qb)(bi4:List (Key_×Int)):List Qa→Int→Int→Option f49r1n4O
 | [],v96,v97 =>
  some (.exit2 v96)
 | x0::rest,v96,v97 =>
  (f39 x0).bind fun x110 =>
  bif (mHas Key_.eqb x110 bi4) then
   (at? ba1 (mGet Key_.eqb 0 x110 bi4)).bind fun x113 =>
   bif decide (x113.Size<x0.Amount) then
    (f49r1n4L ba1 bg2 ba3 bi4 rest 50 (v97+1))
   else
    (f49r1n4L ba1 bg2 ba3 bi4 rest v96 (v97+1))
  else
   some .ret
theorem f49r1n4L_eq(ba1:List Qb)(bg2:List Qa)(ba3:List Qb)(bi4:List (Key_×Int)):∀(rest:List Qa)(f k:Nat)(v96:Int),bg2.drop k=rest→bg2.length≤maxLen→rest.length<f→f49r1n4 f ba1 bg2 ba3 bi4 v96 (k:Int)=f49r1n4L ba1 bg2 ba3 bi4 rest v96 (k:Int)
 | _,0,_,_,_,_,hf=>absurd hf (Nat.not_lt_zero _)
 | [],f+1,k,v96,hd,hm,hf=>by
  have hk:¬((k:Int)<(bg2.length:Int)):=by have:=Qcb hd; omega
  rw [f49r1n4,f49r1n4L];simp only [decide_eq_false hk,cond_false]
 | x0::rest,f+1,k,v96,hd,hm,hf=>by
  obtain ⟨hx,hlt,hd'⟩:=Qbl hd;have hk:(k:Int)<(bg2.length:Int):=by omega
  have hw:wr64 ((k:Int)+1)=(k:Int)+1:=wr64_of (by omega) (by unfold maxLen at hm; omega);have ih:∀(v96:Int),f49r1n4 f ba1 bg2 ba3 bi4 v96 ((k:Int)+1)=f49r1n4L ba1 bg2 ba3 bi4 rest v96 ((k:Int)+1):=fun v96=>f49r1n4L_eq ba1 bg2 ba3 bi4 rest f (k+1) v96 hd' hm (by simpa using hf);rw [f49r1n4,f49r1n4L];simp only [decide_eq_true hk,cond_true,at_nat,hx,Option.bind_some,hw,ih]
theorem f49r1n4_run(ba1:List Qb)(bg2:List Qa)(ba3:List Qb)(bi4:List (Key_×Int))(v96:Int)(hm:bg2.length≤maxLen):f49r1n4 FUEL ba1 bg2 ba3 bi4 v96 0=f49r1n4L ba1 bg2 ba3 bi4 bg2 v96 0:=f49r1n4L_eq ba1 bg2 ba3 bi4 bg2 FUEL 0 v96 List.drop_zero hm (Qam hm)
inductive f49r1n3O where
 | norm (v120:Int)
 | ret
def f49r1n3E(ba1:List Qb)(bg2:List Qa)(ba3:List Qb)(bi4:List (Key_×Int)):f49r1n3O→Ex×Tr×Hp
 | .norm v120=>(.norm,mkS [(1,(jL 3 Qa.cells bg2)),(2,(.clo 50 [(.bp 0 0)])),(8,(.mp 2)),(11,(jI v120))],[some (.box [(.own 1)]),jR 4 Qb.cells ba3,some (.map (bi4.map (mkv (pAgg Key_.cells) (pInt .i64))))])
 | .ret=>(.ret,mkS [(6,(jI 6))],[some (.box [(.own 1)]),jR 4 Qb.cells ba3])
def f49r1n3S(ba1:List Qb)(bg2:List Qa)(ba3:List Qb)(bi4:List (Key_×Int)):Tr×Hp:=(mkS [(0,(jL 4 Qb.cells ba1)),(1,(jL 3 Qa.cells bg2)),(2,(.clo 50 [(.bp 0 0)])),(8,(.mp 2)),(11,(jI 0))],[some (.box [(.own 1)]),jR 4 Qb.cells ba3,some (.map (bi4.map (mkv (pAgg Key_.cells) (pInt .i64))))])
noncomputable def f49r1n3(ba1:List Qb)(bg2:List Qa)(ba3:List Qb)(bi4:List (Key_×Int)):Option f49r1n3O :=
 (f49r1n4 FUEL ba1 bg2 ba3 bi4 0 0).bind fun o117=>match o117 with
 | .exit2 v119=>some (.norm v119)
 | .ret=>some .ret
theorem f49r1n3_ok(ba1:List Qb)(bg2:List Qa)(ba3:List Qb)(bi4:List (Key_×Int)){o:f49r1n3O}(h:f49r1n3 ba1 bg2 ba3 bi4=some o):T Try.prog Try.f49.ntmps 2 (cL (Qj 1 (Qj 1 (Qj 4 c49)))) (f49r1n3S ba1 bg2 ba3 bi4) (·=f49r1n3E ba1 bg2 ba3 bi4 o):=by
 unfold f49r1n3 at h;refine rN Qf 1 [([],[],[(1,.val (jI (bg2.length:Int)))])] [] [] [2] [0,1,2,8,11,39,40,41] (f49r1n4S ba1 bg2 ba3 bi4 0 0) (ap (Qx (xs:=bg2) (c:=Qa.cells)) an) ?_;obtain ⟨o117,h118,h⟩:=Qd h;cases o117 with
 | exit2 v119 =>
  obtain rfl:=Qe h;exact T.last' (T.bl (i:=2) (by kernel_rfl) (by kernel_rfl) (f49r1n4_ok FUEL ba1 bg2 ba3 bi4 0 0 h118)) (tds:=[]) (m:=[2]) (keep:=[1,2,8,11]) (st2:=(f49r1n3E ba1 bg2 ba3 bi4 (.norm v119)).2) (by kernel_rfl) an rfl
 | ret =>
  obtain rfl:=Qe h;exact T.last' (T.bl (i:=2) (by kernel_rfl) (by kernel_rfl) (f49r1n4_ok FUEL ba1 bg2 ba3 bi4 0 0 h118)) (tds:=[]) (m:=[]) (keep:=[6]) (st2:=(f49r1n3E ba1 bg2 ba3 bi4 .ret).2) (by kernel_rfl) an rfl
inductive f49r1n6O where
 | exit4 (v172:List Qb)
def f49r1n6E(bg1:List Qa)(bi3:List (Key_×Int)):f49r1n6O→Ex×Tr×Hp
 | .exit4 v172=>((.exit 4),mkS [],[some (.box [(.own 1)]),jR 4 Qb.cells v172])
def f49r1n6S(bg1:List Qa)(bi3:List (Key_×Int))(v156:Int)(v157:List Qb):Tr×Hp:=(mkS [(2,(.clo 50 [(.bp 0 0)])),(8,(.mp 2)),(66,(jL 3 Qa.cells bg1)),(67,(jI (bg1.length:Int))),(68,(jI v156))],[some (.box [(.own 1)]),jR 4 Qb.cells v157,some (.map (bi3.map (mkv (pAgg Key_.cells) (pInt .i64))))])
noncomputable def f49r1n6:Nat→List Qa→List (Key_×Int)→Int→List Qb→Option f49r1n6O
 | 0,_,_,_,_=>none
 | f+1,bg1,bi3,v156,v157 =>
  bif decide (v156<(bg1.length:Int)) then
   (at? bg1 v156).bind fun x166 =>
   (f39 x166).bind fun x168 =>
   (f50r1 (mGet Key_.eqb 0 x168 bi3) x166.Amount v157).bind fun x170 =>
   (f49r1n6 f bg1 bi3 (wr64 (v156+1)) x170)
  else
   some (.exit4 v157)
theorem f49r1n6_ok:∀(f:Nat)(bg1:List Qa)(bi3:List (Key_×Int))(v156:Int)(v157:List Qb){o:f49r1n6O},f49r1n6 f bg1 bi3 v156 v157=some o→TL Try.prog Try.f49.ntmps 2 f (cL (cL (Qj 1 (cL (Qj 1 (Qj 1 (Qj 1 (Qj 1 (Qj 4 c49))))))))) (f49r1n6S bg1 bi3 v156 v157) (·=f49r1n6E bg1 bi3 o)
 | 0,_,_,_,_,o,h=>by rw [f49r1n6] at h; cases h
 | f+1,bg1,bi3,v156,v157,o,h=>by
  rw [f49r1n6] at h;refine TL.body (K:=fun s=>∃v156:Int,∃v157:List Qb,s=(f49r1n6S bg1 bi3 v156 v157)∧f49r1n6 f bg1 bi3 v156 v157=some o) ?_ (by rintro _ ⟨v156,v157,rfl,hk⟩; exact f49r1n6_ok f _ _ _ _ hk);rcases Qh h with ⟨h159,h⟩|⟨h159,h⟩
  ·obtain ⟨x166,h167,h⟩:=Qd h;obtain ⟨x168,h169,h⟩:=Qd h;obtain ⟨x170,h171,h⟩:=Qd h;exact rE Qf [j3,([],[(0,.idx (Int.toNat v156) (Qa.cells x166))],[]),([],[jH 3 (jA Key_.cells x168),(4,.look ((pInt .i64) (mGet Key_.eqb 0 x168 bi3)) (mHas Key_.eqb x168 bi3)),(7,.call (.tup []) [some (.box [(.own 1)]),jR 4 Qb.cells x170,none,none,none])],[]),j3] [some true] [] [2] [2,8,66,67,68] (.norm,(f49r1n6S bg1 bi3 (wr64 (v156+1)) x170)) (ap h159 (ap (Qg h167).1 (ap (Qm Qa.cells (Qg h167).2) (ap (look_map (vp:=(pInt .i64)) (e:=3) key_87 0 (by kernel_rfl) x168 bi3) (ap (f39_ok x166 h169) (ap (Ql.rn 5 [0,1] (f50r1_ok (mGet Key_.eqb 0 x168 bi3) x166.Amount v157 h171)) an)))))) (Qp.norm ⟨(wr64 (v156+1)),x170,rfl,h⟩)
  ·obtain rfl:=Qe h;exact rK Qf 2 [j3] [some false] [] [] [] (.exit 4) ((f49r1n6E bg1 bi3 (.exit4 v157)).2) (ap h159 an) (Qp.out rfl rfl)
noncomputable def f49r1n6L(bg1:List Qa)(bi3:List (Key_×Int)):List Qa→Int→(List Qb)→Option f49r1n6O
 | [],v156,v157 =>
  some (.exit4 v157)
 | x0::rest,v156,v157 =>
  (f39 x0).bind fun x168 =>
  (f50r1 (mGet Key_.eqb 0 x168 bi3) x0.Amount v157).bind fun x170 =>
  (f49r1n6L bg1 bi3 rest (v156+1) x170)
theorem f49r1n6L_eq(bg1:List Qa)(bi3:List (Key_×Int)):∀(rest:List Qa)(f k:Nat)(v157:List Qb),bg1.drop k=rest→bg1.length≤maxLen→rest.length<f→f49r1n6 f bg1 bi3 (k:Int) v157=f49r1n6L bg1 bi3 rest (k:Int) v157
 | _,0,_,_,_,_,hf=>absurd hf (Nat.not_lt_zero _)
 | [],f+1,k,v157,hd,hm,hf=>by
  have hk:¬((k:Int)<(bg1.length:Int)):=by have:=Qcb hd; omega
  rw [f49r1n6,f49r1n6L];simp only [decide_eq_false hk,cond_false]
 | x0::rest,f+1,k,v157,hd,hm,hf=>by
  obtain ⟨hx,hlt,hd'⟩:=Qbl hd;have hk:(k:Int)<(bg1.length:Int):=by omega
  have hw:wr64 ((k:Int)+1)=(k:Int)+1:=wr64_of (by omega) (by unfold maxLen at hm; omega);have ih:∀(v157:List Qb),f49r1n6 f bg1 bi3 ((k:Int)+1) v157=f49r1n6L bg1 bi3 rest ((k:Int)+1) v157:=fun v157=>f49r1n6L_eq bg1 bi3 rest f (k+1) v157 hd' hm (by simpa using hf);rw [f49r1n6,f49r1n6L];simp only [decide_eq_true hk,cond_true,at_nat,hx,Option.bind_some,hw,ih]
theorem f49r1n6_run(bg1:List Qa)(bi3:List (Key_×Int))(v157:List Qb)(hm:bg1.length≤maxLen):f49r1n6 FUEL bg1 bi3 0 v157=f49r1n6L bg1 bi3 bg1 0 v157:=f49r1n6L_eq bg1 bi3 bg1 FUEL 0 v157 List.drop_zero hm (Qam hm)
inductive f49r1n5O where
 | norm (v176:List Qb)
def f49r1n5E(bg1:List Qa)(ba2:List Qb)(bi3:List (Key_×Int)):f49r1n5O→Ex×Tr×Hp
 | .norm v176=>(.norm,mkS [],[some (.box [(.own 1)]),jR 4 Qb.cells v176])
def f49r1n5S(bg1:List Qa)(ba2:List Qb)(bi3:List (Key_×Int)):Tr×Hp:=(mkS [(1,(jL 3 Qa.cells bg1)),(2,(.clo 50 [(.bp 0 0)])),(8,(.mp 2))],[some (.box [(.own 1)]),jR 4 Qb.cells ba2,some (.map (bi3.map (mkv (pAgg Key_.cells) (pInt .i64))))])
noncomputable def f49r1n5(bg1:List Qa)(ba2:List Qb)(bi3:List (Key_×Int)):Option f49r1n5O :=
 (f49r1n6 FUEL bg1 bi3 0 ba2).bind fun o173=>match o173 with
 | .exit4 v175=>some (.norm v175)
theorem f49r1n5_ok(bg1:List Qa)(ba2:List Qb)(bi3:List (Key_×Int)){o:f49r1n5O}(h:f49r1n5 bg1 ba2 bi3=some o):T Try.prog Try.f49.ntmps 2 (cL (Qj 1 (Qj 1 (Qj 1 (Qj 1 (Qj 4 c49)))))) (f49r1n5S bg1 ba2 bi3) (·=f49r1n5E bg1 ba2 bi3 o):=by
 unfold f49r1n5 at h;refine rN Qf 1 [([],[],[(1,.val (jI (bg1.length:Int)))])] [] [] [2] [2,8,66,67,68] (f49r1n6S bg1 bi3 0 ba2) (ap (Qx (xs:=bg1) (c:=Qa.cells)) an) ?_;obtain ⟨o173,h174,h⟩:=Qd h;cases o173 with
 | exit4 v175 =>
  obtain rfl:=Qe h;exact T.last' (T.bl (i:=4) (by kernel_rfl) (by kernel_rfl) (f49r1n6_ok FUEL bg1 bi3 0 ba2 h174)) (tds:=[]) (m:=[]) (keep:=[]) (st2:=(f49r1n5E bg1 ba2 bi3 (.norm v175)).2) (by kernel_rfl) an rfl
inductive f49r1n0O where
 | ret (v180:Int) (v181:List Qb)
def f49r1n0E(a1:List Qb)(a2:List Qa)(a3:List Qb):f49r1n0O→Ex×Tr×Hp
 | .ret v180 v181=>(.ret,mkS [(6,(jI v180))],[some (.box [(.own 1)]),jR 4 Qb.cells v181])
def f49r1n0S(a1:List Qb)(a2:List Qa)(a3:List Qb):Tr×Hp:=(Qaa [(jL 4 Qb.cells a1),(jL 3 Qa.cells a2),(.clo 50 [(.bp 0 0)])] 0 .leaf,[some (.box [(.own 1)]),jR 4 Qb.cells a3])
noncomputable def f49r1n0(a1:List Qb)(a2:List Qa)(a3:List Qb):Option f49r1n0O :=
 (f23 a1).bind fun x7 =>
 bif decide (x7=0) then
  (f38_39_40 a2 1).bind fun x13 =>
  bif x13 then
   (f49r1n1 a1 a2 a3).bind fun o55=>match o55 with
   | .norm v57=>(f49r1n3 a1 a2 a3 v57).bind fun o121=>match o121 with
    | .norm v123=>bif decide (v123=0) then
      (f49r1n5 a2 a3 v57).bind fun o177=>match o177 with
      | .norm v179=>some (.ret 0 v179)
     else
      some (.ret v123 a3)
    | .ret=>some (.ret 6 a3)
  else
   some (.ret 2 a3)
 else
  some (.ret x7 a3)
theorem f49r1n0_ok(a1:List Qb)(a2:List Qa)(a3:List Qb){o:f49r1n0O}(h:f49r1n0 a1 a2 a3=some o):T Try.prog Try.f49.ntmps 2 c49 (f49r1n0S a1 a2 a3) (·=f49r1n0E a1 a2 a3 o):=by
 unfold f49r1n0 at h;obtain ⟨x7,h8,h⟩:=Qd h;rcases Qh h with ⟨h9,h⟩|⟨h9,h⟩
 ·obtain ⟨x13,h14,h⟩:=Qd h;rcases Qh h with ⟨h15,h⟩|⟨h15,h⟩
  ·refine rN Qf 4 [j3,([],[jH 1 (jI x7)],[]),j3,([],[jH 1 (jB x13)],[]),j3] [some false,some false] [] [2] [0,1,2,8] (f49r1n1S a1 a2 a3) (ap (f23_ok a1 h8) (ap (Qaf h9) (ap (f38_39_40_ok a2 1 h14) (ap (Qaf h15) an)))) ?_;obtain ⟨o55,h56,h⟩:=Qd h;cases o55 with
   | norm v57 =>
    refine T.oneN (by kernel_rfl) (f49r1n1_ok a1 a2 a3 h56) (st2:=(f49r1n1E a1 a2 a3 (.norm v57)).2) rfl ?_;refine rN Qf 1 [j3] [] [] [2] [0,1,2,8,11] (f49r1n3S a1 a2 a3 v57) an ?_;obtain ⟨o121,h122,h⟩:=Qd h;cases o121 with
    | norm v123 =>
     refine T.oneN (by kernel_rfl) (f49r1n3_ok a1 a2 a3 v57 h122) (st2:=(f49r1n3E a1 a2 a3 v57 (.norm v123)).2) rfl ?_;rcases Qh h with ⟨h125,h⟩|⟨h125,h⟩
     ·refine rN Qf 1 [j3] [some false] [] [2] [1,2,8] (f49r1n5S a2 a3 v57) (ap (Qaf h125) an) ?_;obtain ⟨o177,h178,h⟩:=Qd h;cases o177 with
      | norm v179 =>
       refine T.oneN (by kernel_rfl) (f49r1n5_ok a2 a3 v57 h178) (st2:=(f49r1n5E a2 a3 v57 (.norm v179)).2) rfl ?_;obtain rfl:=Qe h;exact rE Qf [j3] [] [] [] [6] (.ret,(f49r1n0E a1 a2 a3 (.ret 0 v179)).2) an rfl
     ·obtain rfl:=Qe h;exact rK Qf 1 [j3,j3] [some true] [] [] [6] .ret ((f49r1n0E a1 a2 a3 (.ret v123 a3)).2) (ap (Qao h125) an) rfl
    | ret =>
     obtain rfl:=Qe h;exact T.oneX' (by kernel_rfl) (f49r1n3_ok a1 a2 a3 v57 h122) (tds:=[]) (m:=[]) (keep:=[6]) (st2:=(f49r1n0E a1 a2 a3 (.ret 6 a3)).2) (by kernel_rfl) an rfl rfl
  ·obtain rfl:=Qe h;exact rK Qf 3 [j3,([],[jH 1 (jI x7)],[]),j3,([],[jH 1 (jB x13)],[]),j3] [some false,some true] [] [] [6] .ret ((f49r1n0E a1 a2 a3 (.ret 2 a3)).2) (ap (f23_ok a1 h8) (ap (Qaf h9) (ap (f38_39_40_ok a2 1 h14) (ap (Qao h15) an)))) rfl
 ·obtain rfl:=Qe h;exact rK Qf 2 [j3,([],[jH 1 (jI x7)],[]),j3,j3] [some true] [] [] [6] .ret ((f49r1n0E a1 a2 a3 (.ret x7 a3)).2) (ap (f23_ok a1 h8) (ap (Qao h9) an)) rfl
noncomputable def f49r1(a1:List Qb)(a2:List Qa)(a3:List Qb):Option (Int×(List Qb)):=(f49r1n0 a1 a2 a3).bind fun o=>match o with
 | .ret v180 v181=>some (v180,v181)
theorem f49r1_ok(a1:List Qb)(a2:List Qa)(a3:List Qb){r:Int×(List Qb)}(h:f49r1 a1 a2 a3=some r):Ql Try.prog true 49 [(jL 4 Qb.cells a1),(jL 3 Qa.cells a2),(.clo 50 [(.bp 0 0)])] [some (.box [(.own 1)]),jR 4 Qb.cells a3] (jI r.1) [some (.box [(.own 1)]),jR 4 Qb.cells r.2]:=by
 unfold f49r1 at h;obtain ⟨o,ho,h⟩:=Qd h;cases o with
 | ret v180 v181 =>
  obtain rfl:=Qe h;exact Ql.shared Qf (f:=Try.f49) (c:=c49) (by kernel_rfl) (by kernel_rfl) (by kernel_rfl) ((f49r1n0_ok a1 a2 a3 ho).mono fun r e=>by subst e; exact ⟨.inl rfl,by kernel_rfl,by kernel_rfl⟩)

noncomputable def c26:Code:=Try.f26.body.getD .skip
inductive f26n0O where
 | ret (v13:Int) (v14:List Qb)
def f26n0E(a1:List Qb)(a2:List Qa):f26n0O→Ex×Tr×Hp
 | .ret v13 v14=>(.ret,mkS [(4,(.own 0)),(5,(jI v13))],[jR 4 Qb.cells v14])
def f26n0S(a1:List Qb)(a2:List Qa):Tr×Hp:=(Qaa [(jL 4 Qb.cells a1),(jL 3 Qa.cells a2)] 0 .leaf,[])
noncomputable def f26n0(a1:List Qb)(a2:List Qa):Option f26n0O :=
 (f48r1 a1).bind fun x5 =>
 (f49r1 a1 a2 x5).bind fun x10 =>
 bif decide (x10.1=0) then
  some (.ret 0 x10.2)
 else
  some (.ret x10.1 [])
theorem f26n0_ok(a1:List Qb)(a2:List Qa){o:f26n0O}(h:f26n0 a1 a2=some o):T Try.prog Try.f26.ntmps 0 c26 (f26n0S a1 a2) (·=f26n0E a1 a2 o):=by
 unfold f26n0 at h;obtain ⟨x5,h6,h⟩:=Qd h;obtain ⟨x10,h11,h⟩:=Qd h;rcases Qh h with ⟨h12,h⟩|⟨h12,h⟩
 ·obtain rfl:=Qe h;exact rE Qf [j3,([],[(1,.call (.own 0) [jR 4 Qb.cells x5])],[]),([],[(3,.call (jI x10.1) [jR 4 Qb.cells x10.2,some (.box [(.own 0)])])],[]),j3,j3] [some false] [] [0] [4,5] (.ret,(f26n0E a1 a2 (.ret 0 x10.2)).2) (ap (f48r1_ok a1 h6) (ap (Ql.rn 2 [1,0] (f49r1_ok a1 a2 x5 h11)) (ap (Qaf h12) an))) rfl
 ·obtain rfl:=Qe h;exact rK Qf 3 [j3,([],[(1,.call (.own 0) [jR 4 Qb.cells x5])],[]),([],[(3,.call (jI x10.1) [jR 4 Qb.cells x10.2,some (.box [(.own 0)])])],[]),j3,j3] [some true] [.mat 4 4] [2] [4,5] .ret ((f26n0E a1 a2 (.ret x10.1 [])).2) (ap (f48r1_ok a1 h6) (ap (Ql.rn 2 [1,0] (f49r1_ok a1 a2 x5 h11)) (ap (Qao h12) an))) rfl
noncomputable def f26(a1:List Qb)(a2:List Qa):Option ((List Qb)×Int):=(f26n0 a1 a2).bind fun o=>match o with
 | .ret v13 v14=>some (v14,v13)
theorem f26_ok(a1:List Qb)(a2:List Qa){r:(List Qb)×Int}(h:f26 a1 a2=some r):Ql Try.prog false 26 [(jL 4 Qb.cells a1),(jL 3 Qa.cells a2)] [] (.tup [(jL 4 Qb.cells r.1),(jI r.2)]) []:=by
 unfold f26 at h;obtain ⟨o,ho,h⟩:=Qd h;cases o with
 | ret v13 v14 =>
  obtain rfl:=Qe h;exact Ql.plain Qf (f:=Try.f26) (c:=c26) (by kernel_rfl) (by kernel_rfl) (by kernel_rfl) (by kernel_rfl) ((f26n0_ok a1 a2 ho).mono fun r e=>by subst e; exact ⟨.inl rfl,(.tup [(.own 0),(jI v13)]),(.tup [(jL 4 Qb.cells v14),(jI v13)]),by kernel_rfl,by kernel_rfl,((Wk.refl _):Wk (.tup [(jL 4 Qb.cells v14),(jI v13)]) (.tup [(jL 4 Qb.cells v14),(jI v13)]))⟩)

noncomputable def c27:Code:=Try.f27.body.getD .skip
inductive f27r1n3O where
 | norm (v181:Bool)
def f27r1n3E(bg1:List Qa)(bb2:Int)(bj3:Qn):f27r1n3O→Ex×Tr×Hp
 | .norm v181=>(.norm,mkS [(0,(jL 3 Qa.cells bg1)),(2,(.bp 0 0)),(3,(.bp 1 0)),(4,(jI bb2)),(24,(jB v181))],[some (.box ((Qn.cells (Qn.mk 0 0 0 0 0 0 0 0 0 0)).map .pl)),some (.box ((Qn.cells bj3).map .pl))])
def f27r1n3S(bg1:List Qa)(bb2:Int)(bj3:Qn):Tr×Hp:=(mkS [(0,(jL 3 Qa.cells bg1)),(2,(.bp 0 0)),(3,(.bp 1 0)),(4,(jI bb2))],[some (.box ((Qn.cells (Qn.mk 0 0 0 0 0 0 0 0 0 0)).map .pl)),some (.box ((Qn.cells bj3).map .pl))])
noncomputable def f27r1n3(bg1:List Qa)(bb2:Int)(bj3:Qn):Option f27r1n3O :=
 (at? bg1 bb2).bind fun x178 =>
 bif decide (0≤x178.Level) then
  some (.norm (decide (x178.Level<10)))
 else
  some (.norm false)
theorem f27r1n3_ok(bg1:List Qa)(bb2:Int)(bj3:Qn){o:f27r1n3O}(h:f27r1n3 bg1 bb2 bj3=some o):T Try.prog Try.f27.ntmps 0 (cL (Qj 0 (cL (cL (Qj 1 (cL (cL (Qj 1 (cL (Qj 2 c27)))))))))) (f27r1n3S bg1 bb2 bj3) (·=f27r1n3E bg1 bb2 bj3 o):=by
 unfold f27r1n3 at h;obtain ⟨x178,h179,h⟩:=Qd h;rcases Qh h with ⟨h180,h⟩|⟨h180,h⟩
 ·obtain rfl:=Qe h;exact rE Qf [(jT [7,8,9,10,11,12],[(2,.idx (Int.toNat bb2) (Qa.cells x178)),(9,.idx (Int.toNat bb2) (Qa.cells x178)),(13,.bool true)],[])] [] [] [0,1] [0,2,3,4,24] (.norm,(f27r1n3E bg1 bb2 bj3 (.norm (decide (x178.Level<10)))).2) (ap (Qg h179).1 (ap (Qm Qa.cells (Qg h179).2) (ap3 h180 (ap (Qg h179).1 (ap (Qm Qa.cells (Qg h179).2) (ap4 h180 an)))))) rfl
 ·obtain rfl:=Qe h;exact rE Qf [(jF [7,8,9,10,11,12],[(2,.idx (Int.toNat bb2) (Qa.cells x178)),(13,.bool false)],[])] [] [] [0,1] [0,2,3,4,24] (.norm,(f27r1n3E bg1 bb2 bj3 (.norm false)).2) (ap (Qg h179).1 (ap (Qm Qa.cells (Qg h179).2) (ap3 h180 (ap4 h180 an)))) rfl
inductive f27r1n4O where
 | norm (v223:Qn)
def Qcc(bg1:List Qa)(bb2:Int)(bh3:Bool)(bj4:Qn):f27r1n4O→Ex×Tr×Hp
 | .norm v223=>(.norm,mkS [(0,(jL 3 Qa.cells bg1)),(2,(.bp 0 0)),(3,(.bp 1 0)),(4,(jI bb2))],[some (.box ((Qn.cells (Qn.mk 0 0 0 0 0 0 0 0 0 0)).map .pl)),some (.box ((Qn.cells v223).map .pl))])
def f27r1n4S(bg1:List Qa)(bb2:Int)(bh3:Bool)(bj4:Qn):Tr×Hp:=(mkS [(0,(jL 3 Qa.cells bg1)),(2,(.bp 0 0)),(3,(.bp 1 0)),(4,(jI bb2)),(24,(jB bh3))],[some (.box ((Qn.cells (Qn.mk 0 0 0 0 0 0 0 0 0 0)).map .pl)),some (.box ((Qn.cells bj4).map .pl))])
noncomputable def f27r1n4(bg1:List Qa)(bb2:Int)(bh3:Bool)(bj4:Qn):Option f27r1n4O :=
 bif bh3 then
  (at? bg1 bb2).bind fun x211 =>
  bif decide (x211.Level=0) then
   some (.norm (Qn.mk (wr64 (bj4.e0+x211.Amount)) bj4.e1 bj4.e2 bj4.e3 bj4.e4 bj4.e5 bj4.e6 bj4.e7 bj4.e8 bj4.e9))
  else
   bif decide (x211.Level=1) then
    some (.norm (Qn.mk bj4.e0 (wr64 (bj4.e1+x211.Amount)) bj4.e2 bj4.e3 bj4.e4 bj4.e5 bj4.e6 bj4.e7 bj4.e8 bj4.e9))
   else
    bif decide (x211.Level=2) then
     some (.norm (Qn.mk bj4.e0 bj4.e1 (wr64 (bj4.e2+x211.Amount)) bj4.e3 bj4.e4 bj4.e5 bj4.e6 bj4.e7 bj4.e8 bj4.e9))
    else
     bif decide (x211.Level=3) then
      some (.norm (Qn.mk bj4.e0 bj4.e1 bj4.e2 (wr64 (bj4.e3+x211.Amount)) bj4.e4 bj4.e5 bj4.e6 bj4.e7 bj4.e8 bj4.e9))
     else
      bif decide (x211.Level=4) then
       some (.norm (Qn.mk bj4.e0 bj4.e1 bj4.e2 bj4.e3 (wr64 (bj4.e4+x211.Amount)) bj4.e5 bj4.e6 bj4.e7 bj4.e8 bj4.e9))
      else
       bif decide (x211.Level=5) then
        some (.norm (Qn.mk bj4.e0 bj4.e1 bj4.e2 bj4.e3 bj4.e4 (wr64 (bj4.e5+x211.Amount)) bj4.e6 bj4.e7 bj4.e8 bj4.e9))
       else
        bif decide (x211.Level=6) then
         some (.norm (Qn.mk bj4.e0 bj4.e1 bj4.e2 bj4.e3 bj4.e4 bj4.e5 (wr64 (bj4.e6+x211.Amount)) bj4.e7 bj4.e8 bj4.e9))
        else
         bif decide (x211.Level=7) then
          some (.norm (Qn.mk bj4.e0 bj4.e1 bj4.e2 bj4.e3 bj4.e4 bj4.e5 bj4.e6 (wr64 (bj4.e7+x211.Amount)) bj4.e8 bj4.e9))
         else
          bif decide (x211.Level=8) then
           some (.norm (Qn.mk bj4.e0 bj4.e1 bj4.e2 bj4.e3 bj4.e4 bj4.e5 bj4.e6 bj4.e7 (wr64 (bj4.e8+x211.Amount)) bj4.e9))
          else
           bif decide (x211.Level=9) then
            some (.norm (Qn.mk bj4.e0 bj4.e1 bj4.e2 bj4.e3 bj4.e4 bj4.e5 bj4.e6 bj4.e7 bj4.e8 (wr64 (bj4.e9+x211.Amount))))
           else
            none
 else
  some (.norm bj4)
theorem f27r1n4_ok(bg1:List Qa)(bb2:Int)(bh3:Bool)(bj4:Qn){o:f27r1n4O}(h:f27r1n4 bg1 bb2 bh3 bj4=some o):T Try.prog Try.f27.ntmps 0 (Qj 0 (Qj 1 (Qj 0 (cL (cL (Qj 1 (cL (cL (Qj 1 (cL (Qj 2 c27))))))))))) (f27r1n4S bg1 bb2 bh3 bj4) (·=Qcc bg1 bb2 bh3 bj4 o):=by
 unfold f27r1n4 at h;rcases Qh h with ⟨h198,h⟩|⟨h198,h⟩
 ·refine T.condT (o:=.tmp 24) (b:=bh3) (by kernel_rfl) (by kernel_rfl) h198 ?_;obtain ⟨x211,h212,h⟩:=Qd h;rcases Qh h with ⟨h213,h⟩|⟨h213,h⟩
  ·obtain rfl:=Qe h;exact rE Qf [([],[(2,.idx (Int.toNat bb2) (Qa.cells x211)),(7,.idx (Int.toNat bb2) (Qa.cells x211)),(10,.at_ 0),(14,.idx (Int.toNat bb2) (Qa.cells x211)),(18,.at_ 0)],[])] [] [] [0,1] [0,2,3,4] (.norm,(Qcc bg1 bb2 bh3 bj4 (.norm (Qn.mk (wr64 (bj4.e0+x211.Amount)) bj4.e1 bj4.e2 bj4.e3 bj4.e4 bj4.e5 bj4.e6 bj4.e7 bj4.e8 bj4.e9))).2) (ap (Qg h212).1 (ap (Qm Qa.cells (Qg h212).2) (ap (Qg h212).1 (ap (Qm Qa.cells (Qg h212).2) (ap (of_decide_eq_true h213) (ap (by decide:(0:Nat)<10) (ap (Qg h212).1 (ap (Qm Qa.cells (Qg h212).2) (ap (of_decide_eq_true h213) (ap (by decide:(0:Nat)<10) an)))))))))) rfl
  ·rcases Qh h with ⟨h214,h⟩|⟨h214,h⟩
   ·obtain rfl:=Qe h;exact rE Qf [([],[(2,.idx (Int.toNat bb2) (Qa.cells x211)),(7,.idx (Int.toNat bb2) (Qa.cells x211)),(10,.at_ 1),(14,.idx (Int.toNat bb2) (Qa.cells x211)),(18,.at_ 1)],[])] [] [] [0,1] [0,2,3,4] (.norm,(Qcc bg1 bb2 bh3 bj4 (.norm (Qn.mk bj4.e0 (wr64 (bj4.e1+x211.Amount)) bj4.e2 bj4.e3 bj4.e4 bj4.e5 bj4.e6 bj4.e7 bj4.e8 bj4.e9))).2) (ap (Qg h212).1 (ap (Qm Qa.cells (Qg h212).2) (ap (Qg h212).1 (ap (Qm Qa.cells (Qg h212).2) (ap (of_decide_eq_true h214) (ap (by decide:(1:Nat)<10) (ap (Qg h212).1 (ap (Qm Qa.cells (Qg h212).2) (ap (of_decide_eq_true h214) (ap (by decide:(1:Nat)<10) an)))))))))) rfl
   ·rcases Qh h with ⟨h215,h⟩|⟨h215,h⟩
    ·obtain rfl:=Qe h;exact rE Qf [([],[(2,.idx (Int.toNat bb2) (Qa.cells x211)),(7,.idx (Int.toNat bb2) (Qa.cells x211)),(10,.at_ 2),(14,.idx (Int.toNat bb2) (Qa.cells x211)),(18,.at_ 2)],[])] [] [] [0,1] [0,2,3,4] (.norm,(Qcc bg1 bb2 bh3 bj4 (.norm (Qn.mk bj4.e0 bj4.e1 (wr64 (bj4.e2+x211.Amount)) bj4.e3 bj4.e4 bj4.e5 bj4.e6 bj4.e7 bj4.e8 bj4.e9))).2) (ap (Qg h212).1 (ap (Qm Qa.cells (Qg h212).2) (ap (Qg h212).1 (ap (Qm Qa.cells (Qg h212).2) (ap (of_decide_eq_true h215) (ap (by decide:(2:Nat)<10) (ap (Qg h212).1 (ap (Qm Qa.cells (Qg h212).2) (ap (of_decide_eq_true h215) (ap (by decide:(2:Nat)<10) an)))))))))) rfl
    ·rcases Qh h with ⟨h216,h⟩|⟨h216,h⟩
     ·obtain rfl:=Qe h;exact rE Qf [([],[(2,.idx (Int.toNat bb2) (Qa.cells x211)),(7,.idx (Int.toNat bb2) (Qa.cells x211)),(10,.at_ 3),(14,.idx (Int.toNat bb2) (Qa.cells x211)),(18,.at_ 3)],[])] [] [] [0,1] [0,2,3,4] (.norm,(Qcc bg1 bb2 bh3 bj4 (.norm (Qn.mk bj4.e0 bj4.e1 bj4.e2 (wr64 (bj4.e3+x211.Amount)) bj4.e4 bj4.e5 bj4.e6 bj4.e7 bj4.e8 bj4.e9))).2) (ap (Qg h212).1 (ap (Qm Qa.cells (Qg h212).2) (ap (Qg h212).1 (ap (Qm Qa.cells (Qg h212).2) (ap (of_decide_eq_true h216) (ap (by decide:(3:Nat)<10) (ap (Qg h212).1 (ap (Qm Qa.cells (Qg h212).2) (ap (of_decide_eq_true h216) (ap (by decide:(3:Nat)<10) an)))))))))) rfl
     ·rcases Qh h with ⟨h217,h⟩|⟨h217,h⟩
      ·obtain rfl:=Qe h;exact rE Qf [([],[(2,.idx (Int.toNat bb2) (Qa.cells x211)),(7,.idx (Int.toNat bb2) (Qa.cells x211)),(10,.at_ 4),(14,.idx (Int.toNat bb2) (Qa.cells x211)),(18,.at_ 4)],[])] [] [] [0,1] [0,2,3,4] (.norm,(Qcc bg1 bb2 bh3 bj4 (.norm (Qn.mk bj4.e0 bj4.e1 bj4.e2 bj4.e3 (wr64 (bj4.e4+x211.Amount)) bj4.e5 bj4.e6 bj4.e7 bj4.e8 bj4.e9))).2) (ap (Qg h212).1 (ap (Qm Qa.cells (Qg h212).2) (ap (Qg h212).1 (ap (Qm Qa.cells (Qg h212).2) (ap (of_decide_eq_true h217) (ap (by decide:(4:Nat)<10) (ap (Qg h212).1 (ap (Qm Qa.cells (Qg h212).2) (ap (of_decide_eq_true h217) (ap (by decide:(4:Nat)<10) an)))))))))) rfl
      ·rcases Qh h with ⟨h218,h⟩|⟨h218,h⟩
       ·obtain rfl:=Qe h;exact rE Qf [([],[(2,.idx (Int.toNat bb2) (Qa.cells x211)),(7,.idx (Int.toNat bb2) (Qa.cells x211)),(10,.at_ 5),(14,.idx (Int.toNat bb2) (Qa.cells x211)),(18,.at_ 5)],[])] [] [] [0,1] [0,2,3,4] (.norm,(Qcc bg1 bb2 bh3 bj4 (.norm (Qn.mk bj4.e0 bj4.e1 bj4.e2 bj4.e3 bj4.e4 (wr64 (bj4.e5+x211.Amount)) bj4.e6 bj4.e7 bj4.e8 bj4.e9))).2) (ap (Qg h212).1 (ap (Qm Qa.cells (Qg h212).2) (ap (Qg h212).1 (ap (Qm Qa.cells (Qg h212).2) (ap (of_decide_eq_true h218) (ap (by decide:(5:Nat)<10) (ap (Qg h212).1 (ap (Qm Qa.cells (Qg h212).2) (ap (of_decide_eq_true h218) (ap (by decide:(5:Nat)<10) an)))))))))) rfl
       ·rcases Qh h with ⟨h219,h⟩|⟨h219,h⟩
        ·obtain rfl:=Qe h;exact rE Qf [([],[(2,.idx (Int.toNat bb2) (Qa.cells x211)),(7,.idx (Int.toNat bb2) (Qa.cells x211)),(10,.at_ 6),(14,.idx (Int.toNat bb2) (Qa.cells x211)),(18,.at_ 6)],[])] [] [] [0,1] [0,2,3,4] (.norm,(Qcc bg1 bb2 bh3 bj4 (.norm (Qn.mk bj4.e0 bj4.e1 bj4.e2 bj4.e3 bj4.e4 bj4.e5 (wr64 (bj4.e6+x211.Amount)) bj4.e7 bj4.e8 bj4.e9))).2) (ap (Qg h212).1 (ap (Qm Qa.cells (Qg h212).2) (ap (Qg h212).1 (ap (Qm Qa.cells (Qg h212).2) (ap (of_decide_eq_true h219) (ap (by decide:(6:Nat)<10) (ap (Qg h212).1 (ap (Qm Qa.cells (Qg h212).2) (ap (of_decide_eq_true h219) (ap (by decide:(6:Nat)<10) an)))))))))) rfl
        ·rcases Qh h with ⟨h220,h⟩|⟨h220,h⟩
         ·obtain rfl:=Qe h;exact rE Qf [([],[(2,.idx (Int.toNat bb2) (Qa.cells x211)),(7,.idx (Int.toNat bb2) (Qa.cells x211)),(10,.at_ 7),(14,.idx (Int.toNat bb2) (Qa.cells x211)),(18,.at_ 7)],[])] [] [] [0,1] [0,2,3,4] (.norm,(Qcc bg1 bb2 bh3 bj4 (.norm (Qn.mk bj4.e0 bj4.e1 bj4.e2 bj4.e3 bj4.e4 bj4.e5 bj4.e6 (wr64 (bj4.e7+x211.Amount)) bj4.e8 bj4.e9))).2) (ap (Qg h212).1 (ap (Qm Qa.cells (Qg h212).2) (ap (Qg h212).1 (ap (Qm Qa.cells (Qg h212).2) (ap (of_decide_eq_true h220) (ap (by decide:(7:Nat)<10) (ap (Qg h212).1 (ap (Qm Qa.cells (Qg h212).2) (ap (of_decide_eq_true h220) (ap (by decide:(7:Nat)<10) an)))))))))) rfl
         ·rcases Qh h with ⟨h221,h⟩|⟨h221,h⟩
          ·obtain rfl:=Qe h;exact rE Qf [([],[(2,.idx (Int.toNat bb2) (Qa.cells x211)),(7,.idx (Int.toNat bb2) (Qa.cells x211)),(10,.at_ 8),(14,.idx (Int.toNat bb2) (Qa.cells x211)),(18,.at_ 8)],[])] [] [] [0,1] [0,2,3,4] (.norm,(Qcc bg1 bb2 bh3 bj4 (.norm (Qn.mk bj4.e0 bj4.e1 bj4.e2 bj4.e3 bj4.e4 bj4.e5 bj4.e6 bj4.e7 (wr64 (bj4.e8+x211.Amount)) bj4.e9))).2) (ap (Qg h212).1 (ap (Qm Qa.cells (Qg h212).2) (ap (Qg h212).1 (ap (Qm Qa.cells (Qg h212).2) (ap (of_decide_eq_true h221) (ap (by decide:(8:Nat)<10) (ap (Qg h212).1 (ap (Qm Qa.cells (Qg h212).2) (ap (of_decide_eq_true h221) (ap (by decide:(8:Nat)<10) an)))))))))) rfl
          ·rcases Qh h with ⟨h222,h⟩|⟨h222,h⟩
           ·obtain rfl:=Qe h;exact rE Qf [([],[(2,.idx (Int.toNat bb2) (Qa.cells x211)),(7,.idx (Int.toNat bb2) (Qa.cells x211)),(10,.at_ 9),(14,.idx (Int.toNat bb2) (Qa.cells x211)),(18,.at_ 9)],[])] [] [] [0,1] [0,2,3,4] (.norm,(Qcc bg1 bb2 bh3 bj4 (.norm (Qn.mk bj4.e0 bj4.e1 bj4.e2 bj4.e3 bj4.e4 bj4.e5 bj4.e6 bj4.e7 bj4.e8 (wr64 (bj4.e9+x211.Amount))))).2) (ap (Qg h212).1 (ap (Qm Qa.cells (Qg h212).2) (ap (Qg h212).1 (ap (Qm Qa.cells (Qg h212).2) (ap (of_decide_eq_true h222) (ap (by decide:(9:Nat)<10) (ap (Qg h212).1 (ap (Qm Qa.cells (Qg h212).2) (ap (of_decide_eq_true h222) (ap (by decide:(9:Nat)<10) an)))))))))) rfl
           ·cases h
 ·refine T.condF (o:=.tmp 24) (b:=bh3) (by kernel_rfl) (by kernel_rfl) h198 ?_;obtain rfl:=Qe h;exact rE Qf [] [] [] [0,1] [0,2,3,4] (.norm,(Qcc bg1 bb2 bh3 bj4 (.norm bj4)).2) an rfl
inductive f27r1n2O where
 | norm (v227:Qn)
def f27r1n2E(bg1:List Qa)(bb2:Int)(bj3:Qn):f27r1n2O→Ex×Tr×Hp
 | .norm v227=>(.norm,mkS [(0,(jL 3 Qa.cells bg1)),(2,(.bp 0 0)),(3,(.bp 1 0)),(4,(jI bb2))],[some (.box ((Qn.cells (Qn.mk 0 0 0 0 0 0 0 0 0 0)).map .pl)),some (.box ((Qn.cells v227).map .pl))])
def f27r1n2S(bg1:List Qa)(bb2:Int)(bj3:Qn):Tr×Hp:=(mkS [(0,(jL 3 Qa.cells bg1)),(2,(.bp 0 0)),(3,(.bp 1 0)),(4,(jI bb2))],[some (.box ((Qn.cells (Qn.mk 0 0 0 0 0 0 0 0 0 0)).map .pl)),some (.box ((Qn.cells bj3).map .pl))])
noncomputable def f27r1n2(bg1:List Qa)(bb2:Int)(bj3:Qn):Option f27r1n2O :=
 (f27r1n3 bg1 bb2 bj3).bind fun o182=>match o182 with
 | .norm v184=>(f27r1n4 bg1 bb2 v184 bj3).bind fun o224=>match o224 with
  | .norm v226=>some (.norm v226)
theorem f27r1n2_ok(bg1:List Qa)(bb2:Int)(bj3:Qn){o:f27r1n2O}(h:f27r1n2 bg1 bb2 bj3=some o):T Try.prog Try.f27.ntmps 0 (cL (Qj 1 (cL (cL (Qj 1 (cL (Qj 2 c27))))))) (f27r1n2S bg1 bb2 bj3) (·=f27r1n2E bg1 bb2 bj3 o):=by
 unfold f27r1n2 at h;refine T.block' (i:=1) (by kernel_rfl) ?_;refine rN Qf 0 [] [] [] [0,1] [0,2,3,4] (f27r1n3S bg1 bb2 bj3) an ?_;obtain ⟨o182,h183,h⟩:=Qd h;cases o182 with
 | norm v184 =>
  refine T.oneN (by kernel_rfl) (f27r1n3_ok bg1 bb2 bj3 h183) (st2:=(f27r1n3E bg1 bb2 bj3 (.norm v184)).2) rfl ?_;refine rN Qf 0 [] [] [] [0,1] [0,2,3,4,24] (f27r1n4S bg1 bb2 v184 bj3) an ?_;obtain ⟨o224,h225,h⟩:=Qd h;cases o224 with
  | norm v226 =>
   obtain rfl:=Qe h;exact T.last' (f27r1n4_ok bg1 bb2 v184 bj3 h225) (tds:=[]) (m:=[0,1]) (keep:=[0,2,3,4]) (st2:=(f27r1n2E bg1 bb2 bj3 (.norm v226)).2) (by kernel_rfl) an rfl
inductive f27r1n5O where
 | exit0 (v231:Qn)
def f27r1n5E(bg1:List Qa):f27r1n5O→Ex×Tr×Hp
 | .exit0 v231=>((.exit 0),mkS [(2,(.bp 0 0)),(3,(.bp 1 0))],[some (.box ((Qn.cells (Qn.mk 0 0 0 0 0 0 0 0 0 0)).map .pl)),some (.box ((Qn.cells v231).map .pl))])
def f27r1n5S(bg1:List Qa)(v154:Int)(v155:Qn):Tr×Hp:=(mkS [(0,(jL 3 Qa.cells bg1)),(2,(.bp 0 0)),(3,(.bp 1 0)),(4,(jI v154))],[some (.box ((Qn.cells (Qn.mk 0 0 0 0 0 0 0 0 0 0)).map .pl)),some (.box ((Qn.cells v155).map .pl))])
noncomputable def f27r1n5:Nat→List Qa→Int→Qn→Option f27r1n5O
 | 0,_,_,_=>none
 | f+1,bg1,v154,v155 =>
  bif decide (v154<(bg1.length:Int)) then
   (f27r1n2 bg1 v154 v155).bind fun o228=>match o228 with
   | .norm v230=>(f27r1n5 f bg1 (wr64 (v154+1)) v230)
  else
   some (.exit0 v155)
theorem f27r1n5_ok:∀(f:Nat)(bg1:List Qa)(v154:Int)(v155:Qn){o:f27r1n5O},f27r1n5 f bg1 v154 v155=some o→TL Try.prog Try.f27.ntmps 0 f (cL (cL (Qj 1 (cL (Qj 2 c27))))) (f27r1n5S bg1 v154 v155) (·=f27r1n5E bg1 o)
 | 0,_,_,_,o,h=>by rw [f27r1n5] at h; cases h
 | f+1,bg1,v154,v155,o,h=>by
  rw [f27r1n5] at h;refine TL.body (K:=fun s=>∃v154:Int,∃v155:Qn,s=(f27r1n5S bg1 v154 v155)∧f27r1n5 f bg1 v154 v155=some o) ?_ (by rintro _ ⟨v154,v155,rfl,hk⟩; exact f27r1n5_ok f _ _ _ hk);rcases Qh h with ⟨h157,h⟩|⟨h157,h⟩
  ·refine rN Qf 1 [([],[],[(2,.val (jI (bg1.length:Int)))])] [some true] [] [0,1] [0,2,3,4] (f27r1n2S bg1 v154 v155) (ap (Qx (xs:=bg1) (c:=Qa.cells)) (ap h157 an)) ?_;obtain ⟨o228,h229,h⟩:=Qd h;cases o228 with
   | norm v230 =>
    refine T.oneN (by kernel_rfl) (f27r1n2_ok bg1 v154 v155 h229) (st2:=(f27r1n2E bg1 v154 v155 (.norm v230)).2) rfl ?_;exact rE Qf [j3] [] [] [0,1] [0,2,3,4] (.norm,(f27r1n5S bg1 (wr64 (v154+1)) v230)) an (Qp.norm ⟨(wr64 (v154+1)),v230,rfl,h⟩)
  ·obtain rfl:=Qe h;exact rK Qf 1 [([],[],[(2,.val (jI (bg1.length:Int)))])] [some false] [] [0,1] [2,3] (.exit 0) ((f27r1n5E bg1 (.exit0 v155)).2) (ap (Qx (xs:=bg1) (c:=Qa.cells)) (ap h157 an)) (Qp.out rfl rfl)
inductive f27r1n1O where
 | norm (v235:Qn)
def f27r1n1E(bg1:List Qa):f27r1n1O→Ex×Tr×Hp
 | .norm v235=>(.norm,mkS [(2,(.bp 0 0)),(3,(.bp 1 0))],[some (.box ((Qn.cells (Qn.mk 0 0 0 0 0 0 0 0 0 0)).map .pl)),some (.box ((Qn.cells v235).map .pl))])
def f27r1n1S(bg1:List Qa):Tr×Hp:=(mkS [(0,(jL 3 Qa.cells bg1)),(2,(.bp 0 0)),(3,(.bp 1 0))],[some (.box ((Qn.cells (Qn.mk 0 0 0 0 0 0 0 0 0 0)).map .pl)),some (.box ((Qn.cells (Qn.mk 0 0 0 0 0 0 0 0 0 0)).map .pl))])
noncomputable def f27r1n1(bg1:List Qa):Option f27r1n1O :=
 (f27r1n5 FUEL bg1 0 (Qn.mk 0 0 0 0 0 0 0 0 0 0)).bind fun o232=>match o232 with
 | .exit0 v234=>some (.norm v234)
theorem f27r1n1_ok(bg1:List Qa){o:f27r1n1O}(h:f27r1n1 bg1=some o):T Try.prog Try.f27.ntmps 0 (cL (Qj 2 c27)) (f27r1n1S bg1) (·=f27r1n1E bg1 o):=by
 unfold f27r1n1 at h;refine rN Qf 1 [j3] [] [] [0,1] [0,2,3,4] (f27r1n5S bg1 0 (Qn.mk 0 0 0 0 0 0 0 0 0 0)) an ?_;obtain ⟨o232,h233,h⟩:=Qd h;cases o232 with
 | exit0 v234 =>
  obtain rfl:=Qe h;exact T.last' (T.bl (i:=0) (by kernel_rfl) (by kernel_rfl) (f27r1n5_ok FUEL bg1 0 (Qn.mk 0 0 0 0 0 0 0 0 0 0) h233)) (tds:=[]) (m:=[0,1]) (keep:=[2,3]) (st2:=(f27r1n1E bg1 (.norm v234)).2) (by kernel_rfl) an rfl
inductive f27r1n0O where
 | ret (v239:Qn)
def f27r1n0E(a1:List Qa):f27r1n0O→Ex×Tr×Hp
 | .ret v239=>(.ret,mkS [(2,(.bp 0 0))],[some (.box ((Qn.cells v239).map .pl))])
def f27r1n0S(a1:List Qa):Tr×Hp:=(Qaa [(jL 3 Qa.cells a1)] 0 .leaf,[])
noncomputable def f27r1n0(a1:List Qa):Option f27r1n0O :=
 (f27r1n1 a1).bind fun o236=>match o236 with
 | .norm v238=>some (.ret v238)
theorem f27r1n0_ok(a1:List Qa){o:f27r1n0O}(h:f27r1n0 a1=some o):T Try.prog Try.f27.ntmps 0 c27 (f27r1n0S a1) (·=f27r1n0E a1 o):=by
 unfold f27r1n0 at h;refine rN Qf 2 [j3,j3] [] [] [0,1] [0,2,3] (f27r1n1S a1) an ?_;obtain ⟨o236,h237,h⟩:=Qd h;cases o236 with
 | norm v238 =>
  refine T.oneN (by kernel_rfl) (f27r1n1_ok a1 h237) (st2:=(f27r1n1E a1 (.norm v238)).2) rfl ?_;obtain rfl:=Qe h;exact rE Qf [j3] [] [] [0] [2] (.ret,(f27r1n0E a1 (.ret v238)).2) an rfl
noncomputable def f27r1(a1:List Qa):Option Qn:=(f27r1n0 a1).bind fun o=>match o with
 | .ret v239=>some v239
theorem f27r1_ok(a1:List Qa){r:Qn}(h:f27r1 a1=some r):Ql Try.prog true 27 [(jL 3 Qa.cells a1)] [] (jA Qn.cells r) [some (.box ((Qn.cells r).map .pl))]:=by
 unfold f27r1 at h;obtain ⟨o,ho,h⟩:=Qd h;cases o with
 | ret v239 =>
  obtain rfl:=Qe h;exact Ql.shared Qf (f:=Try.f27) (c:=c27) (by kernel_rfl) (by kernel_rfl) (by kernel_rfl) ((f27r1n0_ok a1 ho).mono fun r e=>by subst e; exact ⟨.inl rfl,by kernel_rfl,by kernel_rfl⟩)

noncomputable def c7:Code:=Try.f7.body.getD .skip
inductive f7n2O where
 | norm (v37:Bool)
def f7n2E(ba1:List Qb)(bb2 bb3:Int)(bh4:Bool):f7n2O→Ex×Tr×Hp
 | .norm v37=>(.norm,mkS [(0,(jL 4 Qb.cells ba1)),(1,(jI bb2)),(2,(jI bb3)),(7,(jB bh4)),(47,(jB v37))],[])
def f7n2S(ba1:List Qb)(bb2 bb3:Int)(bh4:Bool):Tr×Hp:=(mkS [(0,(jL 4 Qb.cells ba1)),(1,(jI bb2)),(2,(jI bb3)),(7,(jB bh4))],[])
noncomputable def f7n2(ba1:List Qb)(bb2 bb3:Int)(bh4:Bool):Option f7n2O :=
 (f12 ba1 []).bind fun x30 =>
 bif x30 then
  some (.norm true)
 else
  bif decide (bb2<0) then
   some (.norm true)
  else
   bif decide (bb3<0) then
    some (.norm true)
   else
    bif decide (1125899906842624<bb2) then
     some (.norm true)
    else
     bif (decide ((wr64 (1125899906842624-bb2))<bb3)) then
      some (.norm true)
     else
      some (.norm (!bh4))
theorem f7n2_ok(ba1:List Qb)(bb2 bb3:Int)(bh4:Bool){o:f7n2O}(h:f7n2 ba1 bb2 bb3 bh4=some o):T Try.prog Try.f7.ntmps 0 (cL (Qj 0 (cL (Qj 2 c7)))) (f7n2S ba1 bb2 bb3 bh4) (·=f7n2E ba1 bb2 bb3 bh4 o):=by
 unfold f7n2 at h;obtain ⟨x30,h31,h⟩:=Qd h;rcases Qh h with ⟨h32,h⟩|⟨h32,h⟩
 ·obtain rfl:=Qe h;exact rE Qf [([(3,true),(4,true)],[jH 1 (jB x30),(5,.bool true)],[])] [] [] [] [0,1,2,7,47] (.norm,(f7n2E ba1 bb2 bb3 bh4 (.norm true)).2) (ap3 h32 (ap (Ql.wk (args':=[(jL 4 Qb.cells ba1),(.pl (.sl .nil 0 []))]) (f12_ok ba1 [] h31) (wlc (Wk.refl _) (wlc (Wk.pl (WkP.nil (f:=.nil) (sz:=0) (sz':=3))) wln)) (Wk.refl _) rfl) an)) rfl
 ·rcases Qh h with ⟨h33,h⟩|⟨h33,h⟩
  ·obtain rfl:=Qe h;exact rE Qf [(jF [3,4]++jT [7,8],[jH 1 (jB x30),(5,.bool false),(9,.bool true)],[])] [] [] [] [0,1,2,7,47] (.norm,(f7n2E ba1 bb2 bb3 bh4 (.norm true)).2) (ap3 h32 (ap3 h33 (ap (Ql.wk (args':=[(jL 4 Qb.cells ba1),(.pl (.sl .nil 0 []))]) (f12_ok ba1 [] h31) (wlc (Wk.refl _) (wlc (Wk.pl (WkP.nil (f:=.nil) (sz:=0) (sz':=3))) wln)) (Wk.refl _) rfl) an))) rfl
  ·rcases Qh h with ⟨h34,h⟩|⟨h34,h⟩
   ·obtain rfl:=Qe h;exact rE Qf [(jF [3,4,7,8]++jT [11,12],[jH 1 (jB x30),(5,.bool false),(9,.bool false),(13,.bool true)],[])] [] [] [] [0,1,2,7,47] (.norm,(f7n2E ba1 bb2 bb3 bh4 (.norm true)).2) (ap3 h32 (ap3 h33 (ap3 h34 (ap (Ql.wk (args':=[(jL 4 Qb.cells ba1),(.pl (.sl .nil 0 []))]) (f12_ok ba1 [] h31) (wlc (Wk.refl _) (wlc (Wk.pl (WkP.nil (f:=.nil) (sz:=0) (sz':=3))) wln)) (Wk.refl _) rfl) an)))) rfl
   ·rcases Qh h with ⟨h35,h⟩|⟨h35,h⟩
    ·obtain rfl:=Qe h;exact rE Qf [(jF [3,4,7,8,11,12]++jT [15,16,17,18],[jH 1 (jB x30),(5,.bool false),(9,.bool false),(13,.bool false),(19,.bool true)],[])] [] [] [] [0,1,2,7,47] (.norm,(f7n2E ba1 bb2 bb3 bh4 (.norm true)).2) (ap3 h32 (ap3 h33 (ap3 h34 (ap h35 (ap4 h35 (ap (Ql.wk (args':=[(jL 4 Qb.cells ba1),(.pl (.sl .nil 0 []))]) (f12_ok ba1 [] h31) (wlc (Wk.refl _) (wlc (Wk.pl (WkP.nil (f:=.nil) (sz:=0) (sz':=3))) wln)) (Wk.refl _) rfl) an)))))) rfl
    ·rcases Qh h with ⟨h36,h⟩|⟨h36,h⟩
     ·obtain rfl:=Qe h;exact rE Qf [(jF [3,4,7,8,11,12,15,16,17,18]++jT [21,22],[jH 1 (jB x30),(5,.bool false),(9,.bool false),(13,.bool false),(19,.bool false),(23,.bool true)],[])] [] [] [] [0,1,2,7,47] (.norm,(f7n2E ba1 bb2 bb3 bh4 (.norm true)).2) (ap3 h32 (ap3 h33 (ap3 h34 (ap h35 (ap4 h35 (ap3 h36 (ap (Ql.wk (args':=[(jL 4 Qb.cells ba1),(.pl (.sl .nil 0 []))]) (f12_ok ba1 [] h31) (wlc (Wk.refl _) (wlc (Wk.pl (WkP.nil (f:=.nil) (sz:=0) (sz':=3))) wln)) (Wk.refl _) rfl) an))))))) rfl
     ·obtain rfl:=Qe h;exact rE Qf [(jF [3,4,7,8,11,12,15,16,17,18,21,22],[jH 1 (jB x30),(5,.bool false),(9,.bool false),(13,.bool false),(19,.bool false),(23,.bool false)],[])] [] [] [] [0,1,2,7,47] (.norm,(f7n2E ba1 bb2 bb3 bh4 (.norm (!bh4))).2) (ap3 h32 (ap3 h33 (ap3 h34 (ap h35 (ap4 h35 (ap3 h36 (ap (Ql.wk (args':=[(jL 4 Qb.cells ba1),(.pl (.sl .nil 0 []))]) (f12_ok ba1 [] h31) (wlc (Wk.refl _) (wlc (Wk.pl (WkP.nil (f:=.nil) (sz:=0) (sz':=3))) wln)) (Wk.refl _) rfl) an))))))) rfl
inductive f7n1O where
 | norm
 | ret
def f7n1E(ba1:List Qb)(bb2 bb3:Int)(bh4:Bool):f7n1O→Ex×Tr×Hp
 | .norm=>(.norm,mkS [(0,(jL 4 Qb.cells ba1)),(1,(jI bb2)),(2,(jI bb3)),(7,(jB bh4))],[])
 | .ret=>(.ret,mkS [(6,(jB bh4))],[])
def f7n1S(ba1:List Qb)(bb2 bb3:Int)(bh4:Bool):Tr×Hp:=(mkS [(0,(jL 4 Qb.cells ba1)),(1,(jI bb2)),(2,(jI bb3)),(7,(jB bh4))],[])
noncomputable def f7n1(ba1:List Qb)(bb2 bb3:Int)(bh4:Bool):Option f7n1O :=
 (f7n2 ba1 bb2 bb3 bh4).bind fun o38=>match o38 with
 | .norm v40=>bif v40 then
   some .ret
  else
   some .norm
theorem f7n1_ok(ba1:List Qb)(bb2 bb3:Int)(bh4:Bool){o:f7n1O}(h:f7n1 ba1 bb2 bb3 bh4=some o):T Try.prog Try.f7.ntmps 0 (cL (Qj 2 c7)) (f7n1S ba1 bb2 bb3 bh4) (·=f7n1E ba1 bb2 bb3 bh4 o):=by
 unfold f7n1 at h;refine rN Qf 0 [] [] [] [] [0,1,2,7] (f7n2S ba1 bb2 bb3 bh4) an ?_;obtain ⟨o38,h39,h⟩:=Qd h;cases o38 with
 | norm v40 =>
  refine T.oneN (by kernel_rfl) (f7n2_ok ba1 bb2 bb3 bh4 h39) (st2:=(f7n2E ba1 bb2 bb3 bh4 (.norm v40)).2) rfl ?_;rcases Qh h with ⟨h42,h⟩|⟨h42,h⟩
  ·obtain rfl:=Qe h;exact rE Qf [j3] [some true] [] [] [6] (.ret,(f7n1E ba1 bb2 bb3 bh4 .ret).2) (ap h42 an) rfl
  ·obtain rfl:=Qe h;exact rE Qf [] [some false] [] [] [0,1,2,7] (.norm,(f7n1E ba1 bb2 bb3 bh4 .norm).2) (ap h42 an) rfl
inductive f7n5O where
 | norm (v203:Bool)
def f7n5E(bh1:Bool)(bb2:Int)(bj3 bj4 bj5:Qn):f7n5O→Ex×Tr×Hp
 | .norm v203=>(.norm,mkS [(7,(jB bh1)),(19,(.bp 0 0)),(20,(.bp 1 0)),(21,(.bp 2 0)),(22,(jI bb2)),(119,(jB v203))],[some (.box ((Qn.cells bj3).map .pl)),some (.box ((Qn.cells bj4).map .pl)),some (.box ((Qn.cells bj5).map .pl))])
def f7n5S(bh1:Bool)(bb2:Int)(bj3 bj4 bj5:Qn):Tr×Hp:=(mkS [(7,(jB bh1)),(19,(.bp 0 0)),(20,(.bp 1 0)),(21,(.bp 2 0)),(22,(jI bb2))],[some (.box ((Qn.cells bj3).map .pl)),some (.box ((Qn.cells bj4).map .pl)),some (.box ((Qn.cells bj5).map .pl))])
noncomputable def f7n5(bh1:Bool)(bb2:Int)(bj3 bj4 bj5:Qn):Option f7n5O :=
 bif decide (bb2=0) then
  some (.norm (!(decide ((wr64 (bj3.e0+bj4.e0))=bj5.e0))))
 else
  bif decide (bb2=1) then
   some (.norm (!(decide ((wr64 (bj3.e1+bj4.e1))=bj5.e1))))
  else
   bif decide (bb2=2) then
    some (.norm (!(decide ((wr64 (bj3.e2+bj4.e2))=bj5.e2))))
   else
    bif decide (bb2=3) then
     some (.norm (!(decide ((wr64 (bj3.e3+bj4.e3))=bj5.e3))))
    else
     bif decide (bb2=4) then
      some (.norm (!(decide ((wr64 (bj3.e4+bj4.e4))=bj5.e4))))
     else
      bif decide (bb2=5) then
       some (.norm (!(decide ((wr64 (bj3.e5+bj4.e5))=bj5.e5))))
      else
       bif decide (bb2=6) then
        some (.norm (!(decide ((wr64 (bj3.e6+bj4.e6))=bj5.e6))))
       else
        bif decide (bb2=7) then
         some (.norm (!(decide ((wr64 (bj3.e7+bj4.e7))=bj5.e7))))
        else
         bif decide (bb2=8) then
          some (.norm (!(decide ((wr64 (bj3.e8+bj4.e8))=bj5.e8))))
         else
          bif decide (bb2=9) then
           some (.norm (!(decide ((wr64 (bj3.e9+bj4.e9))=bj5.e9))))
          else
           none
theorem f7n5_ok(bh1:Bool)(bb2:Int)(bj3 bj4 bj5:Qn){o:f7n5O}(h:f7n5 bh1 bb2 bj3 bj4 bj5=some o):T Try.prog Try.f7.ntmps 0 (cL (Qj 0 (cL (cL (Qj 1 (cL (cL (Qj 1 (cL (Qj 0 (Qj 2 (Qj 5 (Qj 1 (Qj 2 c7)))))))))))))) (f7n5S bh1 bb2 bj3 bj4 bj5) (·=f7n5E bh1 bb2 bj3 bj4 bj5 o):=by
 unfold f7n5 at h;rcases Qh h with ⟨h193,h⟩|⟨h193,h⟩
 ·obtain rfl:=Qe h;exact rE Qf [([],[(1,.at_ 0),(4,.at_ 0),(8,.at_ 0)],[])] [] [] [0,1,2] [7,19,20,21,22,119] (.norm,(f7n5E bh1 bb2 bj3 bj4 bj5 (.norm (!(decide ((wr64 (bj3.e0+bj4.e0))=bj5.e0))))).2) (ap (of_decide_eq_true h193) (ap (by decide:(0:Nat)<10) (ap (of_decide_eq_true h193) (ap (by decide:(0:Nat)<10) (ap (of_decide_eq_true h193) (ap (by decide:(0:Nat)<10) an)))))) rfl
 ·rcases Qh h with ⟨h194,h⟩|⟨h194,h⟩
  ·obtain rfl:=Qe h;exact rE Qf [([],[(1,.at_ 1),(4,.at_ 1),(8,.at_ 1)],[])] [] [] [0,1,2] [7,19,20,21,22,119] (.norm,(f7n5E bh1 bb2 bj3 bj4 bj5 (.norm (!(decide ((wr64 (bj3.e1+bj4.e1))=bj5.e1))))).2) (ap (of_decide_eq_true h194) (ap (by decide:(1:Nat)<10) (ap (of_decide_eq_true h194) (ap (by decide:(1:Nat)<10) (ap (of_decide_eq_true h194) (ap (by decide:(1:Nat)<10) an)))))) rfl
  ·rcases Qh h with ⟨h195,h⟩|⟨h195,h⟩
   ·obtain rfl:=Qe h;exact rE Qf [([],[(1,.at_ 2),(4,.at_ 2),(8,.at_ 2)],[])] [] [] [0,1,2] [7,19,20,21,22,119] (.norm,(f7n5E bh1 bb2 bj3 bj4 bj5 (.norm (!(decide ((wr64 (bj3.e2+bj4.e2))=bj5.e2))))).2) (ap (of_decide_eq_true h195) (ap (by decide:(2:Nat)<10) (ap (of_decide_eq_true h195) (ap (by decide:(2:Nat)<10) (ap (of_decide_eq_true h195) (ap (by decide:(2:Nat)<10) an)))))) rfl
   ·rcases Qh h with ⟨h196,h⟩|⟨h196,h⟩
    ·obtain rfl:=Qe h;exact rE Qf [([],[(1,.at_ 3),(4,.at_ 3),(8,.at_ 3)],[])] [] [] [0,1,2] [7,19,20,21,22,119] (.norm,(f7n5E bh1 bb2 bj3 bj4 bj5 (.norm (!(decide ((wr64 (bj3.e3+bj4.e3))=bj5.e3))))).2) (ap (of_decide_eq_true h196) (ap (by decide:(3:Nat)<10) (ap (of_decide_eq_true h196) (ap (by decide:(3:Nat)<10) (ap (of_decide_eq_true h196) (ap (by decide:(3:Nat)<10) an)))))) rfl
    ·rcases Qh h with ⟨h197,h⟩|⟨h197,h⟩
     ·obtain rfl:=Qe h;exact rE Qf [([],[(1,.at_ 4),(4,.at_ 4),(8,.at_ 4)],[])] [] [] [0,1,2] [7,19,20,21,22,119] (.norm,(f7n5E bh1 bb2 bj3 bj4 bj5 (.norm (!(decide ((wr64 (bj3.e4+bj4.e4))=bj5.e4))))).2) (ap (of_decide_eq_true h197) (ap (by decide:(4:Nat)<10) (ap (of_decide_eq_true h197) (ap (by decide:(4:Nat)<10) (ap (of_decide_eq_true h197) (ap (by decide:(4:Nat)<10) an)))))) rfl
     ·rcases Qh h with ⟨h198,h⟩|⟨h198,h⟩
      ·obtain rfl:=Qe h;exact rE Qf [([],[(1,.at_ 5),(4,.at_ 5),(8,.at_ 5)],[])] [] [] [0,1,2] [7,19,20,21,22,119] (.norm,(f7n5E bh1 bb2 bj3 bj4 bj5 (.norm (!(decide ((wr64 (bj3.e5+bj4.e5))=bj5.e5))))).2) (ap (of_decide_eq_true h198) (ap (by decide:(5:Nat)<10) (ap (of_decide_eq_true h198) (ap (by decide:(5:Nat)<10) (ap (of_decide_eq_true h198) (ap (by decide:(5:Nat)<10) an)))))) rfl
      ·rcases Qh h with ⟨h199,h⟩|⟨h199,h⟩
       ·obtain rfl:=Qe h;exact rE Qf [([],[(1,.at_ 6),(4,.at_ 6),(8,.at_ 6)],[])] [] [] [0,1,2] [7,19,20,21,22,119] (.norm,(f7n5E bh1 bb2 bj3 bj4 bj5 (.norm (!(decide ((wr64 (bj3.e6+bj4.e6))=bj5.e6))))).2) (ap (of_decide_eq_true h199) (ap (by decide:(6:Nat)<10) (ap (of_decide_eq_true h199) (ap (by decide:(6:Nat)<10) (ap (of_decide_eq_true h199) (ap (by decide:(6:Nat)<10) an)))))) rfl
       ·rcases Qh h with ⟨h200,h⟩|⟨h200,h⟩
        ·obtain rfl:=Qe h;exact rE Qf [([],[(1,.at_ 7),(4,.at_ 7),(8,.at_ 7)],[])] [] [] [0,1,2] [7,19,20,21,22,119] (.norm,(f7n5E bh1 bb2 bj3 bj4 bj5 (.norm (!(decide ((wr64 (bj3.e7+bj4.e7))=bj5.e7))))).2) (ap (of_decide_eq_true h200) (ap (by decide:(7:Nat)<10) (ap (of_decide_eq_true h200) (ap (by decide:(7:Nat)<10) (ap (of_decide_eq_true h200) (ap (by decide:(7:Nat)<10) an)))))) rfl
        ·rcases Qh h with ⟨h201,h⟩|⟨h201,h⟩
         ·obtain rfl:=Qe h;exact rE Qf [([],[(1,.at_ 8),(4,.at_ 8),(8,.at_ 8)],[])] [] [] [0,1,2] [7,19,20,21,22,119] (.norm,(f7n5E bh1 bb2 bj3 bj4 bj5 (.norm (!(decide ((wr64 (bj3.e8+bj4.e8))=bj5.e8))))).2) (ap (of_decide_eq_true h201) (ap (by decide:(8:Nat)<10) (ap (of_decide_eq_true h201) (ap (by decide:(8:Nat)<10) (ap (of_decide_eq_true h201) (ap (by decide:(8:Nat)<10) an)))))) rfl
         ·rcases Qh h with ⟨h202,h⟩|⟨h202,h⟩
          ·obtain rfl:=Qe h;exact rE Qf [([],[(1,.at_ 9),(4,.at_ 9),(8,.at_ 9)],[])] [] [] [0,1,2] [7,19,20,21,22,119] (.norm,(f7n5E bh1 bb2 bj3 bj4 bj5 (.norm (!(decide ((wr64 (bj3.e9+bj4.e9))=bj5.e9))))).2) (ap (of_decide_eq_true h202) (ap (by decide:(9:Nat)<10) (ap (of_decide_eq_true h202) (ap (by decide:(9:Nat)<10) (ap (of_decide_eq_true h202) (ap (by decide:(9:Nat)<10) an)))))) rfl
          ·cases h
inductive f7n4O where
 | norm
 | ret
def f7n4E(bh1:Bool)(bb2:Int)(bj3 bj4 bj5:Qn):f7n4O→Ex×Tr×Hp
 | .norm=>(.norm,mkS [(7,(jB bh1)),(19,(.bp 0 0)),(20,(.bp 1 0)),(21,(.bp 2 0)),(22,(jI bb2))],[some (.box ((Qn.cells bj3).map .pl)),some (.box ((Qn.cells bj4).map .pl)),some (.box ((Qn.cells bj5).map .pl))])
 | .ret=>(.ret,mkS [(6,(jB false))],[])
def f7n4S(bh1:Bool)(bb2:Int)(bj3 bj4 bj5:Qn):Tr×Hp:=(mkS [(7,(jB bh1)),(19,(.bp 0 0)),(20,(.bp 1 0)),(21,(.bp 2 0)),(22,(jI bb2))],[some (.box ((Qn.cells bj3).map .pl)),some (.box ((Qn.cells bj4).map .pl)),some (.box ((Qn.cells bj5).map .pl))])
noncomputable def f7n4(bh1:Bool)(bb2:Int)(bj3 bj4 bj5:Qn):Option f7n4O :=
 (f7n5 bh1 bb2 bj3 bj4 bj5).bind fun o204=>match o204 with
 | .norm v206=>bif v206 then
   some .ret
  else
   some .norm
theorem f7n4_ok(bh1:Bool)(bb2:Int)(bj3 bj4 bj5:Qn){o:f7n4O}(h:f7n4 bh1 bb2 bj3 bj4 bj5=some o):T Try.prog Try.f7.ntmps 0 (cL (Qj 1 (cL (cL (Qj 1 (cL (Qj 0 (Qj 2 (Qj 5 (Qj 1 (Qj 2 c7))))))))))) (f7n4S bh1 bb2 bj3 bj4 bj5) (·=f7n4E bh1 bb2 bj3 bj4 bj5 o):=by
 unfold f7n4 at h;refine T.block' (i:=1) (by kernel_rfl) ?_;refine rN Qf 0 [] [] [] [0,1,2] [7,19,20,21,22] (f7n5S bh1 bb2 bj3 bj4 bj5) an ?_;obtain ⟨o204,h205,h⟩:=Qd h;cases o204 with
 | norm v206 =>
  refine T.oneN (by kernel_rfl) (f7n5_ok bh1 bb2 bj3 bj4 bj5 h205) (st2:=(f7n5E bh1 bb2 bj3 bj4 bj5 (.norm v206)).2) rfl ?_;rcases Qh h with ⟨h208,h⟩|⟨h208,h⟩
  ·obtain rfl:=Qe h;exact rE Qf [j3] [some true] [] [] [6] (.ret,(f7n4E bh1 bb2 bj3 bj4 bj5 .ret).2) (ap h208 an) rfl
  ·obtain rfl:=Qe h;exact rE Qf [] [some false] [] [0,1,2] [7,19,20,21,22] (.norm,(f7n4E bh1 bb2 bj3 bj4 bj5 .norm).2) (ap h208 an) rfl
inductive f7n6O where
 | exit0
 | ret
def f7n6E(bh1:Bool)(bj2 bj3 bj4:Qn):f7n6O→Ex×Tr×Hp
 | .exit0=>((.exit 0),mkS [(7,(jB bh1))],[])
 | .ret=>(.ret,mkS [(6,(jB false))],[])
def f7n6S(bh1:Bool)(bj2 bj3 bj4:Qn)(v150:Int):Tr×Hp:=(mkS [(7,(jB bh1)),(19,(.bp 0 0)),(20,(.bp 1 0)),(21,(.bp 2 0)),(22,(jI v150))],[some (.box ((Qn.cells bj2).map .pl)),some (.box ((Qn.cells bj3).map .pl)),some (.box ((Qn.cells bj4).map .pl))])
noncomputable def f7n6:Nat→Bool→Qn→Qn→Qn→Int→Option f7n6O
 | 0,_,_,_,_,_=>none
 | f+1,bh1,bj2,bj3,bj4,v150 =>
  bif decide (v150<10) then
   (f7n4 bh1 v150 bj2 bj3 bj4).bind fun o209=>match o209 with
   | .norm=>(f7n6 f bh1 bj2 bj3 bj4 (wr64 (v150+1)))
   | .ret=>some .ret
  else
   some .exit0
theorem f7n6_ok:∀(f:Nat)(bh1:Bool)(bj2 bj3 bj4:Qn)(v150:Int){o:f7n6O},f7n6 f bh1 bj2 bj3 bj4 v150=some o→TL Try.prog Try.f7.ntmps 0 f (cL (cL (Qj 1 (cL (Qj 0 (Qj 2 (Qj 5 (Qj 1 (Qj 2 c7))))))))) (f7n6S bh1 bj2 bj3 bj4 v150) (·=f7n6E bh1 bj2 bj3 bj4 o)
 | 0,_,_,_,_,_,o,h=>by rw [f7n6] at h; cases h
 | f+1,bh1,bj2,bj3,bj4,v150,o,h=>by
  rw [f7n6] at h;refine TL.body (K:=fun s=>∃v150:Int,s=(f7n6S bh1 bj2 bj3 bj4 v150)∧f7n6 f bh1 bj2 bj3 bj4 v150=some o) ?_ (by rintro _ ⟨v150,rfl,hk⟩; exact f7n6_ok f _ _ _ _ _ hk);rcases Qh h with ⟨h152,h⟩|⟨h152,h⟩
  ·refine rN Qf 1 [j3] [some true] [] [0,1,2] [7,19,20,21,22] (f7n4S bh1 v150 bj2 bj3 bj4) (ap h152 an) ?_;obtain ⟨o209,h210,h⟩:=Qd h;cases o209 with
   | norm =>
    refine T.oneN (by kernel_rfl) (f7n4_ok bh1 v150 bj2 bj3 bj4 h210) (st2:=(f7n4E bh1 v150 bj2 bj3 bj4 .norm).2) rfl ?_;exact rE Qf [j3] [] [] [0,1,2] [7,19,20,21,22] (.norm,(f7n6S bh1 bj2 bj3 bj4 (wr64 (v150+1)))) an (Qp.norm ⟨(wr64 (v150+1)),rfl,h⟩)
   | ret =>
    obtain rfl:=Qe h;exact T.oneX' (by kernel_rfl) (f7n4_ok bh1 v150 bj2 bj3 bj4 h210) (tds:=[]) (m:=[]) (keep:=[6]) (st2:=(f7n6E bh1 bj2 bj3 bj4 .ret).2) (by kernel_rfl) an rfl (Qp.out rfl rfl)
  ·obtain rfl:=Qe h;exact rK Qf 1 [j3] [some false] [] [] [7] (.exit 0) ((f7n6E bh1 bj2 bj3 bj4 .exit0).2) (ap h152 an) (Qp.out rfl rfl)
inductive f7n3O where
 | norm
 | ret
def f7n3E(bh1:Bool)(bj2 bj3 bj4:Qn):f7n3O→Ex×Tr×Hp
 | .norm=>(.norm,mkS [(7,(jB bh1))],[])
 | .ret=>(.ret,mkS [(6,(jB false))],[])
def f7n3S(bh1:Bool)(bj2 bj3 bj4:Qn):Tr×Hp:=(mkS [(7,(jB bh1)),(19,(.bp 0 0)),(20,(.bp 1 0)),(21,(.bp 2 0))],[some (.box ((Qn.cells bj2).map .pl)),some (.box ((Qn.cells bj3).map .pl)),some (.box ((Qn.cells bj4).map .pl))])
noncomputable def f7n3(bh1:Bool)(bj2 bj3 bj4:Qn):Option f7n3O :=
 (f7n6 FUEL bh1 bj2 bj3 bj4 0).bind fun o211=>match o211 with
 | .exit0=>some .norm
 | .ret=>some .ret
theorem f7n3_ok(bh1:Bool)(bj2 bj3 bj4:Qn){o:f7n3O}(h:f7n3 bh1 bj2 bj3 bj4=some o):T Try.prog Try.f7.ntmps 0 (cL (Qj 0 (Qj 2 (Qj 5 (Qj 1 (Qj 2 c7)))))) (f7n3S bh1 bj2 bj3 bj4) (·=f7n3E bh1 bj2 bj3 bj4 o):=by
 unfold f7n3 at h;refine rN Qf 1 [j3] [] [] [0,1,2] [7,19,20,21,22] (f7n6S bh1 bj2 bj3 bj4 0) an ?_;obtain ⟨o211,h212,h⟩:=Qd h;cases o211 with
 | exit0 =>
  obtain rfl:=Qe h;exact T.last' (T.bl (i:=0) (by kernel_rfl) (by kernel_rfl) (f7n6_ok FUEL bh1 bj2 bj3 bj4 0 h212)) (tds:=[]) (m:=[]) (keep:=[7]) (st2:=(f7n3E bh1 bj2 bj3 bj4 .norm).2) (by kernel_rfl) an rfl
 | ret =>
  obtain rfl:=Qe h;exact T.last' (T.bl (i:=0) (by kernel_rfl) (by kernel_rfl) (f7n6_ok FUEL bh1 bj2 bj3 bj4 0 h212)) (tds:=[]) (m:=[]) (keep:=[6]) (st2:=(f7n3E bh1 bj2 bj3 bj4 .ret).2) (by kernel_rfl) an rfl
inductive f7n0O where
 | ret (v215:Bool)
def f7n0E(a1:List Qb)(a2 a3:Int):f7n0O→Ex×Tr×Hp
 | .ret v215=>(.ret,mkS [(6,(jB v215))],[])
def f7n0S(a1:List Qb)(a2 a3:Int):Tr×Hp:=(Qaa [(jL 4 Qb.cells a1),(jI a2),(jI a3)] 0 .leaf,[])
noncomputable def f7n0(a1:List Qb)(a2 a3:Int):Option f7n0O :=
 f11.bind fun x6 =>
 (f7n1 a1 a2 a3 x6).bind fun o43=>match o43 with
 | .norm=>(f13 a1 a2).bind fun x47 =>
  bif decide (x47.2.2=0) then
   (f19 a1).bind fun x55 =>
   (f26 x55 x47.1).bind fun x57 =>
   (f13 x57.1 a3).bind fun x61 =>
   (f13 a1 (wr64 (a2+a3))).bind fun x65 =>
   bif decide (x57.2=0) then
    bif decide (x61.2.2=0) then
     bif decide (x65.2.2=0) then
      bif (decide ((wr64 (x47.2.1+x61.2.1))=x65.2.1)) then
       (f27r1 x47.1).bind fun x81 =>
       (f27r1 x61.1).bind fun x83 =>
       (f27r1 x65.1).bind fun x85 =>
       (f7n3 x6 x81 x83 x85).bind fun o213=>match o213 with
       | .norm=>some (.ret x6)
       | .ret=>some (.ret false)
      else
       some (.ret false)
     else
      some (.ret false)
    else
     some (.ret false)
   else
    some (.ret false)
  else
   some (.ret x6)
 | .ret=>some (.ret x6)
theorem f7n0_ok(a1:List Qb)(a2 a3:Int){o:f7n0O}(h:f7n0 a1 a2 a3=some o):T Try.prog Try.f7.ntmps 0 c7 (f7n0S a1 a2 a3) (·=f7n0E a1 a2 a3 o):=by
 unfold f7n0 at h;obtain ⟨x6,h7,h⟩:=Qd h;refine rN Qf 2 [j3,([],[jH 0 (jB x6)],[])] [] [] [] [0,1,2,7] (f7n1S a1 a2 a3 x6) (ap (f11_ok h7) an) ?_;obtain ⟨o43,h44,h⟩:=Qd h;cases o43 with
 | norm =>
  refine T.oneN (by kernel_rfl) (f7n1_ok a1 a2 a3 x6 h44) (st2:=(f7n1E a1 a2 a3 x6 .norm).2) rfl ?_;obtain ⟨x47,h48,h⟩:=Qd h;rcases Qh h with ⟨h50,h⟩|⟨h50,h⟩
  ·obtain ⟨x55,h56,h⟩:=Qd h;obtain ⟨x57,h58,h⟩:=Qd h;obtain ⟨x61,h62,h⟩:=Qd h;obtain ⟨x65,h66,h⟩:=Qd h
   refine rN Qf 5 [([],[jH 2 (.tup [(jL 3 Qa.cells x47.1),(jI x47.2.1),(jI x47.2.2)])],[]),j3,([],[jH 1 (jL 4 Qb.cells x55),jH 3 (.tup [(jL 4 Qb.cells x57.1),(jI x57.2)])],[]),([],[jH 2 (.tup [(jL 3 Qa.cells x61.1),(jI x61.2.1),(jI x61.2.2)])],[]),([],[jH 4 (.tup [(jL 3 Qa.cells x65.1),(jI x65.2.1),(jI x65.2.2)])],[])] [some false] [] [] [7,8,9,12,13,14,15,16,17,18] (mkS [(7,(jB x6)),(8,(jL 3 Qa.cells x47.1)),(9,(jI x47.2.1)),(12,(jI x57.2)),(13,(jL 3 Qa.cells x61.1)),(14,(jI x61.2.1)),(15,(jI x61.2.2)),(16,(jL 3 Qa.cells x65.1)),(17,(jI x65.2.1)),(18,(jI x65.2.2))],[]) (ap (f13_ok a1 a2 h48) (ap (Qaf h50) (ap (f19_ok a1 h56) (ap (f26_ok x55 x47.1 h58) (ap (f13_ok x57.1 a3 h62) (ap (f13_ok a1 (wr64 (a2+a3)) h66) an)))))) ?_;rcases Qh h with ⟨h71,h⟩|⟨h71,h⟩
   ·rcases Qh h with ⟨h72,h⟩|⟨h72,h⟩
    ·rcases Qh h with ⟨h73,h⟩|⟨h73,h⟩
     ·rcases Qh h with ⟨h74,h⟩|⟨h74,h⟩
      ·obtain ⟨x81,h82,h⟩:=Qd h;obtain ⟨x83,h84,h⟩:=Qd h;obtain ⟨x85,h86,h⟩:=Qd h;refine rN Qf 2 [(jF [3,4,7,8,11,12,13,14,15],[(5,.bool false),(9,.bool false),(16,.bool false)],[]),([],[(1,.call (jA Qn.cells x81) [some (.box ((Qn.cells x81).map .pl))]),(3,.call (jA Qn.cells x83) [none,some (.box ((Qn.cells x83).map .pl))]),(5,.call (jA Qn.cells x85) [none,none,some (.box ((Qn.cells x85).map .pl))])],[])] [some false] [] [3,4,5] [7,19,20,21] (mkS [(7,(jB x6)),(19,(.bp 0 0)),(20,(.bp 1 0)),(21,(.bp 2 0))],[some (.box ((Qn.cells x81).map .pl)),some (.box ((Qn.cells x83).map .pl)),some (.box ((Qn.cells x85).map .pl))]) (ap3 (Qaf h71) (ap3 (Qaf h72) (ap2 (Qaf h73) (ap4 (Qaf h73) (ap (Qaf h74) (ap (f27r1_ok x47.1 h82) (ap (Ql.rn 1 [] (f27r1_ok x61.1 h84)) (ap (Ql.rn 2 [] (f27r1_ok x65.1 h86)) an)))))))) ?_
       refine rN Qf 0 [] [] [] [0,1,2] [7,19,20,21] (f7n3S x6 x81 x83 x85) an ?_;obtain ⟨o213,h214,h⟩:=Qd h;cases o213 with
       | norm =>
        refine T.oneN (by kernel_rfl) (f7n3_ok x6 x81 x83 x85 h214) (st2:=(f7n3E x6 x81 x83 x85 .norm).2) rfl ?_;obtain rfl:=Qe h;exact rE Qf [j3] [] [] [] [6] (.ret,(f7n0E a1 a2 a3 (.ret x6)).2) an rfl
       | ret =>
        obtain rfl:=Qe h;exact T.oneX' (by kernel_rfl) (f7n3_ok x6 x81 x83 x85 h214) (tds:=[]) (m:=[]) (keep:=[6]) (st2:=(f7n0E a1 a2 a3 (.ret false)).2) (by kernel_rfl) an rfl rfl
      ·obtain rfl:=Qe h;exact rK Qf 1 [(jF [3,4,7,8,11,12,13,14,15],[(5,.bool false),(9,.bool false),(16,.bool false)],[]),j3] [some true] [] [] [6] .ret ((f7n0E a1 a2 a3 (.ret false)).2) (ap3 (Qaf h71) (ap3 (Qaf h72) (ap2 (Qaf h73) (ap4 (Qaf h73) (ap (Qao h74) an))))) rfl
     ·obtain rfl:=Qe h;exact rK Qf 1 [(jF [3,4,7,8]++jT [11,12,13,14,15],[(5,.bool false),(9,.bool false),(16,.bool true)],[]),j3] [none] [] [] [6] .ret ((f7n0E a1 a2 a3 (.ret false)).2) (ap3 (Qaf h71) (ap3 (Qaf h72) (ap2 (Qao h73) (ap4 (Qao h73) an)))) rfl
    ·obtain rfl:=Qe h;exact rK Qf 1 [(jF [3,4]++jT [7,8],[(5,.bool false),(9,.bool true)],[]),j3] [none] [] [] [6] .ret ((f7n0E a1 a2 a3 (.ret false)).2) (ap3 (Qaf h71) (ap3 (Qao h72) an)) rfl
   ·obtain rfl:=Qe h;exact rK Qf 1 [([(3,true),(4,true)],[(5,.bool true)],[]),j3] [none] [] [] [6] .ret ((f7n0E a1 a2 a3 (.ret false)).2) (ap3 (Qao h71) an) rfl
  ·obtain rfl:=Qe h;exact rK Qf 2 [([],[jH 2 (.tup [(jL 3 Qa.cells x47.1),(jI x47.2.1),(jI x47.2.2)])],[]),j3,j3] [some true] [] [] [6] .ret ((f7n0E a1 a2 a3 (.ret x6)).2) (ap (f13_ok a1 a2 h48) (ap (Qao h50) an)) rfl
 | ret =>
  obtain rfl:=Qe h;exact T.oneX' (by kernel_rfl) (f7n1_ok a1 a2 a3 x6 h44) (tds:=[]) (m:=[]) (keep:=[6]) (st2:=(f7n0E a1 a2 a3 (.ret x6)).2) (by kernel_rfl) an rfl rfl
noncomputable def f7(a1:List Qb)(a2 a3:Int):Option Bool:=(f7n0 a1 a2 a3).bind fun o=>match o with
 | .ret v215=>some v215
theorem f7_ok(a1:List Qb)(a2 a3:Int){r:Bool}(h:f7 a1 a2 a3=some r):Ql Try.prog false 7 [(jL 4 Qb.cells a1),(jI a2),(jI a3)] [] (jB r) []:=by
 unfold f7 at h;obtain ⟨o,ho,h⟩:=Qd h;cases o with
 | ret v215 =>
  obtain rfl:=Qe h;exact Ql.plain Qf (f:=Try.f7) (c:=c7) (by kernel_rfl) (by kernel_rfl) (by kernel_rfl) (by kernel_rfl) ((f7n0_ok a1 a2 a3 ho).mono fun r e=>by subst e; exact ⟨.inl rfl,(jB v215),(jB v215),by kernel_rfl,by kernel_rfl,((Wk.refl _):Wk (jB v215) (jB v215))⟩)
end Go.Proofs.Ytgbolgaodaokcaa
