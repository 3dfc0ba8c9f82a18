/- Several texts in one. No condition. -/
import Derived.Test.YtgbolgaodaokcaaR4
namespace Go.Proofs.Ytgbolgaodaokcaa
set_option linter.unusedVariables false
set_option linter.unusedSimpArgs false
set_option maxRecDepth 100000
open Go.RowKit
noncomputable def c49:Code:=Try.f49.body.getD .skip
inductive f49r1n2O where
 | exit0 (v50:List (Key_×Int))
def f49r1n2E(ba1:List Qb)(bg2:List Qa)(ba3:List Qb):f49r1n2O→Ex×Tr×Hp
 | .exit0 v50=>((.exit 0),mkS [(0,(jL 4 Qb.cells ba1)),(1,(jL 3 Qa.cells bg2)),(2,(.clo 50 [(.bp 0 0)])),(8,(.mp 2))],[some (.box [(.own 1)]),jR 4 Qb.cells ba3,some (.map (v50.map (mkv (pAgg Key_.cells) (pInt .i64))))])
def f49r1n2S(ba1:List Qb)(bg2:List Qa)(ba3:List Qb)(v38:Int)(v39:List (Key_×Int)):Tr×Hp:=(mkS [(0,(jL 4 Qb.cells ba1)),(1,(jL 3 Qa.cells bg2)),(2,(.clo 50 [(.bp 0 0)])),(8,(.mp 2)),(27,(jL 4 Qb.cells ba1)),(28,(jI (ba1.length:Int))),(29,(jI v38))],[some (.box [(.own 1)]),jR 4 Qb.cells ba3,some (.map (v39.map (mkv (pAgg Key_.cells) (pInt .i64))))])
noncomputable def f49r1n2:Nat→List Qb→List Qa→List Qb→Int→List (Key_×Int)→Option f49r1n2O
 | 0,_,_,_,_,_=>none
 | f+1,ba1,bg2,ba3,v38,v39 =>
  bif decide (v38<(ba1.length:Int)) then
   (at? ba1 v38).bind fun x46 =>
   (f36 x46).bind fun x48 =>
   (f49r1n2 f ba1 bg2 ba3 (wr64 (v38+1)) (mPut Key_.eqb x48 v38 v39))
  else
   some (.exit0 v39)
theorem f49r1n2_ok:∀(f:Nat)(ba1:List Qb)(bg2:List Qa)(ba3:List Qb)(v38:Int)(v39:List (Key_×Int)){o:f49r1n2O},f49r1n2 f ba1 bg2 ba3 v38 v39=some o→TL Try.prog Try.f49.ntmps 2 f (cL (cL (Qj 1 (cL (Qj 4 c49))))) (f49r1n2S ba1 bg2 ba3 v38 v39) (·=f49r1n2E ba1 bg2 ba3 o)
 | 0,_,_,_,_,_,o,h=>by rw [f49r1n2] at h; cases h
 | f+1,ba1,bg2,ba3,v38,v39,o,h=>by
  rw [f49r1n2] at h;refine TL.body (K:=fun s=>∃v38:Int,∃v39:List (Key_×Int),s=(f49r1n2S ba1 bg2 ba3 v38 v39)∧f49r1n2 f ba1 bg2 ba3 v38 v39=some o) ?_ (by rintro _ ⟨v38,v39,rfl,hk⟩; exact f49r1n2_ok f _ _ _ _ _ hk);rcases Qh h with ⟨h41,h⟩|⟨h41,h⟩
  ·obtain ⟨x46,h47,h⟩:=Qc h;obtain ⟨x48,h49,h⟩:=Qc h;exact rE Qf [j3,([],[(1,.idx (Int.toNat v38) (Qb.cells x46))],[]),([],[jH 2 (jA Key_.cells x48),(4,.mset ((mPut Key_.eqb x48 v38 v39).map (mkv (pAgg Key_.cells) (pInt .i64))))],[]),j3] [some true] [] [2] [0,1,2,8,27,28,29] (.norm,(f49r1n2S ba1 bg2 ba3 (wr64 (v38+1)) (mPut Key_.eqb x48 v38 v39))) (ap h41 (ap (Qg h47).1 (ap (Qk Qb.cells (Qg h47).2) (ap (mset_map (vp:=(pInt .i64)) key_87 x48 v38 v39) (ap (f36_ok x46 h49) an))))) (Qn.norm ⟨(wr64 (v38+1)),(mPut Key_.eqb x48 v38 v39),rfl,h⟩)
  ·obtain rfl:=Qe h;exact rK Qf 2 [j3] [some false] [] [2] [0,1,2,8] (.exit 0) ((f49r1n2E ba1 bg2 ba3 (.exit0 v39)).2) (ap h41 an) (Qn.out rfl rfl)
noncomputable def f49r1n2L(ba1:List Qb)(bg2:List Qa)(ba3:List Qb):List Qb→Int→(List (Key_×Int))→Option f49r1n2O
 | [],v38,v39 =>
  some (.exit0 v39)
 | x0::rest,v38,v39 =>
  (f36 x0).bind fun x48 =>
  (f49r1n2L ba1 bg2 ba3 rest (v38+1) (mPut Key_.eqb x48 v38 v39))
theorem f49r1n2L_eq(ba1:List Qb)(bg2:List Qa)(ba3:List Qb):∀(rest:List Qb)(f k:Nat)(v39:List (Key_×Int)),ba1.drop k=rest→ba1.length≤maxLen→rest.length<f→f49r1n2 f ba1 bg2 ba3 (k:Int) v39=f49r1n2L ba1 bg2 ba3 rest (k:Int) v39
 | _,0,_,_,_,_,hf=>absurd hf (Nat.not_lt_zero _)
 | [],f+1,k,v39,hd,hm,hf=>by
  have hk:¬((k:Int)<(ba1.length:Int)):=by have:=Qab hd; omega
  rw [f49r1n2,f49r1n2L];simp only [decide_eq_false hk,cond_false]
 | x0::rest,f+1,k,v39,hd,hm,hf=>by
  obtain ⟨hx,hlt,hd'⟩:=Qv hd;have hk:(k:Int)<(ba1.length:Int):=by omega
  have hw:wr64 ((k:Int)+1)=(k:Int)+1:=Qaj (by omega) (by unfold maxLen at hm; omega);have ih:∀(v39:List (Key_×Int)),f49r1n2 f ba1 bg2 ba3 ((k:Int)+1) v39=f49r1n2L ba1 bg2 ba3 rest ((k:Int)+1) v39:=fun v39=>f49r1n2L_eq ba1 bg2 ba3 rest f (k+1) v39 hd' hm (by simpa using hf);rw [f49r1n2,f49r1n2L];simp only [decide_eq_true hk,cond_true,Qay,hx,Option.bind_some,hw,ih]
theorem f49r1n2_run(ba1:List Qb)(bg2:List Qa)(ba3:List Qb)(v39:List (Key_×Int))(hm:ba1.length≤maxLen):f49r1n2 FUEL ba1 bg2 ba3 0 v39=f49r1n2L ba1 bg2 ba3 ba1 0 v39:=f49r1n2L_eq ba1 bg2 ba3 ba1 FUEL 0 v39 List.drop_zero hm (Qz hm)
inductive f49r1n1O where
 | norm (v54:List (Key_×Int))
def f49r1n1E(ba1:List Qb)(bg2:List Qa)(ba3:List Qb):f49r1n1O→Ex×Tr×Hp
 | .norm v54=>(.norm,mkS [(0,(jL 4 Qb.cells ba1)),(1,(jL 3 Qa.cells bg2)),(2,(.clo 50 [(.bp 0 0)])),(8,(.mp 2))],[some (.box [(.own 1)]),jR 4 Qb.cells ba3,some (.map (v54.map (mkv (pAgg Key_.cells) (pInt .i64))))])
def f49r1n1S(ba1:List Qb)(bg2:List Qa)(ba3:List Qb):Tr×Hp:=(mkS [(0,(jL 4 Qb.cells ba1)),(1,(jL 3 Qa.cells bg2)),(2,(.clo 50 [(.bp 0 0)])),(8,(.mp 2))],[some (.box [(.own 1)]),jR 4 Qb.cells ba3,some (.map ([].map (mkv (pAgg Key_.cells) (pInt .i64))))])
noncomputable def f49r1n1(ba1:List Qb)(bg2:List Qa)(ba3:List Qb):Option f49r1n1O :=
 (f49r1n2 FUEL ba1 bg2 ba3 0 []).bind fun o51=>match o51 with
 | .exit0 v53=>some (.norm v53)
theorem f49r1n1_ok(ba1:List Qb)(bg2:List Qa)(ba3:List Qb){o:f49r1n1O}(h:f49r1n1 ba1 bg2 ba3=some o):T Try.prog Try.f49.ntmps 2 (cL (Qj 4 c49)) (f49r1n1S ba1 bg2 ba3) (·=f49r1n1E ba1 bg2 ba3 o):=by
 unfold f49r1n1 at h;refine rN Qf 1 [([],[],[(1,.val (jI (ba1.length:Int)))])] [] [] [2] [0,1,2,8,27,28,29] (f49r1n2S ba1 bg2 ba3 0 []) (ap (Qo (xs:=ba1) (c:=Qb.cells)) an) ?_;obtain ⟨o51,h52,h⟩:=Qc h;cases o51 with
 | exit0 v53 =>
  obtain rfl:=Qe h;exact T.last' (T.bl (i:=0) (by kernel_rfl) (by kernel_rfl) (f49r1n2_ok FUEL ba1 bg2 ba3 0 [] h52)) (tds:=[]) (m:=[2]) (keep:=[0,1,2,8]) (st2:=(f49r1n1E ba1 bg2 ba3 (.norm v53)).2) (by kernel_rfl) an rfl
inductive f49r1n4O where
 | exit2 (v116:Int)
 | ret
def f49r1n4E(ba1:List Qb)(bg2:List Qa)(ba3:List Qb)(bh4:List (Key_×Int)):f49r1n4O→Ex×Tr×Hp
 | .exit2 v116=>((.exit 2),mkS [(1,(jL 3 Qa.cells bg2)),(2,(.clo 50 [(.bp 0 0)])),(8,(.mp 2)),(11,(jI v116))],[some (.box [(.own 1)]),jR 4 Qb.cells ba3,some (.map (bh4.map (mkv (pAgg Key_.cells) (pInt .i64))))])
 | .ret=>(.ret,mkS [(6,(jI 6))],[some (.box [(.own 1)]),jR 4 Qb.cells ba3])
def f49r1n4S(ba1:List Qb)(bg2:List Qa)(ba3:List Qb)(bh4:List (Key_×Int))(v96 v97:Int):Tr×Hp:=(mkS [(0,(jL 4 Qb.cells ba1)),(1,(jL 3 Qa.cells bg2)),(2,(.clo 50 [(.bp 0 0)])),(8,(.mp 2)),(11,(jI v96)),(39,(jL 3 Qa.cells bg2)),(40,(jI (bg2.length:Int))),(41,(jI v97))],[some (.box [(.own 1)]),jR 4 Qb.cells ba3,some (.map (bh4.map (mkv (pAgg Key_.cells) (pInt .i64))))])
noncomputable def f49r1n4:Nat→List Qb→List Qa→List Qb→List (Key_×Int)→Int→Int→Option f49r1n4O
 | 0,_,_,_,_,_,_=>none
 | f+1,ba1,bg2,ba3,bh4,v96,v97 =>
  bif decide (v97<(bg2.length:Int)) then
   (at? bg2 v97).bind fun x108 =>
   (f39 x108).bind fun x110 =>
   bif (mHas Key_.eqb x110 bh4) then
    (at? ba1 (mGet Key_.eqb 0 x110 bh4)).bind fun x113 =>
    bif decide (x113.Size<x108.Amount) then
     (f49r1n4 f ba1 bg2 ba3 bh4 50 (wr64 (v97+1)))
    else
     (f49r1n4 f ba1 bg2 ba3 bh4 v96 (wr64 (v97+1)))
   else
    some .ret
  else
   some (.exit2 v96)
theorem f49r1n4_ok:∀(f:Nat)(ba1:List Qb)(bg2:List Qa)(ba3:List Qb)(bh4:List (Key_×Int))(v96 v97:Int){o:f49r1n4O},f49r1n4 f ba1 bg2 ba3 bh4 v96 v97=some o→TL Try.prog Try.f49.ntmps 2 f (cL (cL (Qj 1 (cL (Qj 1 (Qj 1 (Qj 4 c49))))))) (f49r1n4S ba1 bg2 ba3 bh4 v96 v97) (·=f49r1n4E ba1 bg2 ba3 bh4 o)
 | 0,_,_,_,_,_,_,o,h=>by rw [f49r1n4] at h; cases h
 | f+1,ba1,bg2,ba3,bh4,v96,v97,o,h=>by
  rw [f49r1n4] at h;refine TL.body (K:=fun s=>∃v96:Int,∃v97:Int,s=(f49r1n4S ba1 bg2 ba3 bh4 v96 v97)∧f49r1n4 f ba1 bg2 ba3 bh4 v96 v97=some o) ?_ (by rintro _ ⟨v96,v97,rfl,hk⟩; exact f49r1n4_ok f _ _ _ _ _ _ hk);rcases Qh h with ⟨h99,h⟩|⟨h99,h⟩
  ·obtain ⟨x108,h109,h⟩:=Qc h;obtain ⟨x110,h111,h⟩:=Qc h;rcases Qh h with ⟨h112,h⟩|⟨h112,h⟩
   ·obtain ⟨x113,h114,h⟩:=Qc h;rcases Qh h with ⟨h115,h⟩|⟨h115,h⟩
    ·exact rE Qf [j3,([],[(0,.idx (Int.toNat v97) (Qa.cells x108))],[]),([],[jH 2 (jA Key_.cells x110),(3,.look ((pInt .i64) (mGet Key_.eqb 0 x110 bh4)) (mHas Key_.eqb x110 bh4))],[]),j3,([],[(4,.idx (Int.toNat (mGet Key_.eqb 0 x110 bh4)) (Qb.cells x113))],[]),j3,j3] [some true,some false,some true] [] [2] [0,1,2,8,11,39,40,41] (.norm,(f49r1n4S ba1 bg2 ba3 bh4 50 (wr64 (v97+1)))) (ap h99 (ap (Qg h109).1 (ap (Qk Qa.cells (Qg h109).2) (ap (look_map (vp:=(pInt .i64)) (e:=3) key_87 0 (by kernel_rfl) x110 bh4) (ap (f39_ok x108 h111) (ap (Qag h112) (ap (Qg h114).1 (ap (Qk Qb.cells (Qg h114).2) (ap h115 an))))))))) (Qn.norm ⟨50,(wr64 (v97+1)),rfl,h⟩)
    ·exact rE Qf [j3,([],[(0,.idx (Int.toNat v97) (Qa.cells x108))],[]),([],[jH 2 (jA Key_.cells x110),(3,.look ((pInt .i64) (mGet Key_.eqb 0 x110 bh4)) (mHas Key_.eqb x110 bh4))],[]),j3,([],[(4,.idx (Int.toNat (mGet Key_.eqb 0 x110 bh4)) (Qb.cells x113))],[]),j3] [some true,some false,some false] [] [2] [0,1,2,8,11,39,40,41] (.norm,(f49r1n4S ba1 bg2 ba3 bh4 v96 (wr64 (v97+1)))) (ap h99 (ap (Qg h109).1 (ap (Qk Qa.cells (Qg h109).2) (ap (look_map (vp:=(pInt .i64)) (e:=3) key_87 0 (by kernel_rfl) x110 bh4) (ap (f39_ok x108 h111) (ap (Qag h112) (ap (Qg h114).1 (ap (Qk Qb.cells (Qg h114).2) (ap h115 an))))))))) (Qn.norm ⟨v96,(wr64 (v97+1)),rfl,h⟩)
   ·obtain rfl:=Qe h;exact rK Qf 3 [j3,([],[(0,.idx (Int.toNat v97) (Qa.cells x108))],[]),([],[jH 2 (jA Key_.cells x110),(3,.look ((pInt .i64) (mGet Key_.eqb 0 x110 bh4)) (mHas Key_.eqb x110 bh4))],[]),j3,j3] [some true,some true] [] [] [6] .ret ((f49r1n4E ba1 bg2 ba3 bh4 .ret).2) (ap h99 (ap (Qg h109).1 (ap (Qk Qa.cells (Qg h109).2) (ap (look_map (vp:=(pInt .i64)) (e:=3) key_87 0 (by kernel_rfl) x110 bh4) (ap (f39_ok x108 h111) (ap (Qae h112) an)))))) (Qn.out rfl rfl)
  ·obtain rfl:=Qe h;exact rK Qf 2 [j3] [some false] [] [2] [1,2,8,11] (.exit 2) ((f49r1n4E ba1 bg2 ba3 bh4 (.exit2 v96)).2) (ap h99 an) (Qn.out rfl rfl)
noncomputable def f49r1n4L(ba1:List Qb)(bg2:List Qa)(ba3:List Qb)(bh4:List (Key_×Int)):List Qa→Int→Int→Option f49r1n4O
 | [],v96,v97 =>
  some (.exit2 v96)
 | x0::rest,v96,v97 =>
  (f39 x0).bind fun x110 =>
  bif (mHas Key_.eqb x110 bh4) then
   (at? ba1 (mGet Key_.eqb 0 x110 bh4)).bind fun x113 =>
   bif decide (x113.Size<x0.Amount) then
    (f49r1n4L ba1 bg2 ba3 bh4 rest 50 (v97+1))
   else
    (f49r1n4L ba1 bg2 ba3 bh4 rest v96 (v97+1))
  else
   some .ret
theorem f49r1n4L_eq(ba1:List Qb)(bg2:List Qa)(ba3:List Qb)(bh4:List (Key_×Int)):∀(rest:List Qa)(f k:Nat)(v96:Int),bg2.drop k=rest→bg2.length≤maxLen→rest.length<f→f49r1n4 f ba1 bg2 ba3 bh4 v96 (k:Int)=f49r1n4L ba1 bg2 ba3 bh4 rest v96 (k:Int)
 | _,0,_,_,_,_,hf=>absurd hf (Nat.not_lt_zero _)
 | [],f+1,k,v96,hd,hm,hf=>by
  have hk:¬((k:Int)<(bg2.length:Int)):=by have:=Qab hd; omega
  rw [f49r1n4,f49r1n4L];simp only [decide_eq_false hk,cond_false]
 | x0::rest,f+1,k,v96,hd,hm,hf=>by
  obtain ⟨hx,hlt,hd'⟩:=Qv hd;have hk:(k:Int)<(bg2.length:Int):=by omega
  have hw:wr64 ((k:Int)+1)=(k:Int)+1:=Qaj (by omega) (by unfold maxLen at hm; omega);have ih:∀(v96:Int),f49r1n4 f ba1 bg2 ba3 bh4 v96 ((k:Int)+1)=f49r1n4L ba1 bg2 ba3 bh4 rest v96 ((k:Int)+1):=fun v96=>f49r1n4L_eq ba1 bg2 ba3 bh4 rest f (k+1) v96 hd' hm (by simpa using hf);rw [f49r1n4,f49r1n4L];simp only [decide_eq_true hk,cond_true,Qay,hx,Option.bind_some,hw,ih]
theorem f49r1n4_run(ba1:List Qb)(bg2:List Qa)(ba3:List Qb)(bh4:List (Key_×Int))(v96:Int)(hm:bg2.length≤maxLen):f49r1n4 FUEL ba1 bg2 ba3 bh4 v96 0=f49r1n4L ba1 bg2 ba3 bh4 bg2 v96 0:=f49r1n4L_eq ba1 bg2 ba3 bh4 bg2 FUEL 0 v96 List.drop_zero hm (Qz hm)
inductive f49r1n3O where
 | norm (v120:Int)
 | ret
def f49r1n3E(ba1:List Qb)(bg2:List Qa)(ba3:List Qb)(bh4:List (Key_×Int)):f49r1n3O→Ex×Tr×Hp
 | .norm v120=>(.norm,mkS [(1,(jL 3 Qa.cells bg2)),(2,(.clo 50 [(.bp 0 0)])),(8,(.mp 2)),(11,(jI v120))],[some (.box [(.own 1)]),jR 4 Qb.cells ba3,some (.map (bh4.map (mkv (pAgg Key_.cells) (pInt .i64))))])
 | .ret=>(.ret,mkS [(6,(jI 6))],[some (.box [(.own 1)]),jR 4 Qb.cells ba3])
def f49r1n3S(ba1:List Qb)(bg2:List Qa)(ba3:List Qb)(bh4:List (Key_×Int)):Tr×Hp:=(mkS [(0,(jL 4 Qb.cells ba1)),(1,(jL 3 Qa.cells bg2)),(2,(.clo 50 [(.bp 0 0)])),(8,(.mp 2)),(11,(jI 0))],[some (.box [(.own 1)]),jR 4 Qb.cells ba3,some (.map (bh4.map (mkv (pAgg Key_.cells) (pInt .i64))))])
noncomputable def f49r1n3(ba1:List Qb)(bg2:List Qa)(ba3:List Qb)(bh4:List (Key_×Int)):Option f49r1n3O :=
 (f49r1n4 FUEL ba1 bg2 ba3 bh4 0 0).bind fun o117=>match o117 with
 | .exit2 v119=>some (.norm v119)
 | .ret=>some .ret
theorem f49r1n3_ok(ba1:List Qb)(bg2:List Qa)(ba3:List Qb)(bh4:List (Key_×Int)){o:f49r1n3O}(h:f49r1n3 ba1 bg2 ba3 bh4=some o):T Try.prog Try.f49.ntmps 2 (cL (Qj 1 (Qj 1 (Qj 4 c49)))) (f49r1n3S ba1 bg2 ba3 bh4) (·=f49r1n3E ba1 bg2 ba3 bh4 o):=by
 unfold f49r1n3 at h;refine rN Qf 1 [([],[],[(1,.val (jI (bg2.length:Int)))])] [] [] [2] [0,1,2,8,11,39,40,41] (f49r1n4S ba1 bg2 ba3 bh4 0 0) (ap (Qo (xs:=bg2) (c:=Qa.cells)) an) ?_;obtain ⟨o117,h118,h⟩:=Qc h;cases o117 with
 | exit2 v119 =>
  obtain rfl:=Qe h;exact T.last' (T.bl (i:=2) (by kernel_rfl) (by kernel_rfl) (f49r1n4_ok FUEL ba1 bg2 ba3 bh4 0 0 h118)) (tds:=[]) (m:=[2]) (keep:=[1,2,8,11]) (st2:=(f49r1n3E ba1 bg2 ba3 bh4 (.norm v119)).2) (by kernel_rfl) an rfl
 | ret =>
  obtain rfl:=Qe h;exact T.last' (T.bl (i:=2) (by kernel_rfl) (by kernel_rfl) (f49r1n4_ok FUEL ba1 bg2 ba3 bh4 0 0 h118)) (tds:=[]) (m:=[]) (keep:=[6]) (st2:=(f49r1n3E ba1 bg2 ba3 bh4 .ret).2) (by kernel_rfl) an rfl
inductive f49r1n6O where
 | exit4 (v172:List Qb)
def f49r1n6E(bg1:List Qa)(bh3:List (Key_×Int)):f49r1n6O→Ex×Tr×Hp
 | .exit4 v172=>((.exit 4),mkS [],[some (.box [(.own 1)]),jR 4 Qb.cells v172])
def f49r1n6S(bg1:List Qa)(bh3:List (Key_×Int))(v156:Int)(v157:List Qb):Tr×Hp:=(mkS [(2,(.clo 50 [(.bp 0 0)])),(8,(.mp 2)),(66,(jL 3 Qa.cells bg1)),(67,(jI (bg1.length:Int))),(68,(jI v156))],[some (.box [(.own 1)]),jR 4 Qb.cells v157,some (.map (bh3.map (mkv (pAgg Key_.cells) (pInt .i64))))])
noncomputable def f49r1n6:Nat→List Qa→List (Key_×Int)→Int→List Qb→Option f49r1n6O
 | 0,_,_,_,_=>none
 | f+1,bg1,bh3,v156,v157 =>
  bif decide (v156<(bg1.length:Int)) then
   (at? bg1 v156).bind fun x166 =>
   (f39 x166).bind fun x168 =>
   (f50r1 (mGet Key_.eqb 0 x168 bh3) x166.Amount v157).bind fun x170 =>
   (f49r1n6 f bg1 bh3 (wr64 (v156+1)) x170)
  else
   some (.exit4 v157)
theorem f49r1n6_ok:∀(f:Nat)(bg1:List Qa)(bh3:List (Key_×Int))(v156:Int)(v157:List Qb){o:f49r1n6O},f49r1n6 f bg1 bh3 v156 v157=some o→TL Try.prog Try.f49.ntmps 2 f (cL (cL (Qj 1 (cL (Qj 1 (Qj 1 (Qj 1 (Qj 1 (Qj 4 c49))))))))) (f49r1n6S bg1 bh3 v156 v157) (·=f49r1n6E bg1 bh3 o)
 | 0,_,_,_,_,o,h=>by rw [f49r1n6] at h; cases h
 | f+1,bg1,bh3,v156,v157,o,h=>by
  rw [f49r1n6] at h;refine TL.body (K:=fun s=>∃v156:Int,∃v157:List Qb,s=(f49r1n6S bg1 bh3 v156 v157)∧f49r1n6 f bg1 bh3 v156 v157=some o) ?_ (by rintro _ ⟨v156,v157,rfl,hk⟩; exact f49r1n6_ok f _ _ _ _ hk);rcases Qh h with ⟨h159,h⟩|⟨h159,h⟩
  ·obtain ⟨x166,h167,h⟩:=Qc h;obtain ⟨x168,h169,h⟩:=Qc h;obtain ⟨x170,h171,h⟩:=Qc h;exact rE Qf [j3,([],[(0,.idx (Int.toNat v156) (Qa.cells x166))],[]),([],[jH 3 (jA Key_.cells x168),(4,.look ((pInt .i64) (mGet Key_.eqb 0 x168 bh3)) (mHas Key_.eqb x168 bh3)),(7,.call (.tup []) [some (.box [(.own 1)]),jR 4 Qb.cells x170,none,none,none])],[]),j3] [some true] [] [2] [2,8,66,67,68] (.norm,(f49r1n6S bg1 bh3 (wr64 (v156+1)) x170)) (ap h159 (ap (Qg h167).1 (ap (Qk Qa.cells (Qg h167).2) (ap (look_map (vp:=(pInt .i64)) (e:=3) key_87 0 (by kernel_rfl) x168 bh3) (ap (f39_ok x166 h169) (ap (Qm.rn 5 [0,1] (f50r1_ok (mGet Key_.eqb 0 x168 bh3) x166.Amount v157 h171)) an)))))) (Qn.norm ⟨(wr64 (v156+1)),x170,rfl,h⟩)
  ·obtain rfl:=Qe h;exact rK Qf 2 [j3] [some false] [] [] [] (.exit 4) ((f49r1n6E bg1 bh3 (.exit4 v157)).2) (ap h159 an) (Qn.out rfl rfl)
noncomputable def f49r1n6L(bg1:List Qa)(bh3:List (Key_×Int)):List Qa→Int→(List Qb)→Option f49r1n6O
 | [],v156,v157 =>
  some (.exit4 v157)
 | x0::rest,v156,v157 =>
  (f39 x0).bind fun x168 =>
  (f50r1 (mGet Key_.eqb 0 x168 bh3) x0.Amount v157).bind fun x170 =>
  (f49r1n6L bg1 bh3 rest (v156+1) x170)
theorem f49r1n6L_eq(bg1:List Qa)(bh3:List (Key_×Int)):∀(rest:List Qa)(f k:Nat)(v157:List Qb),bg1.drop k=rest→bg1.length≤maxLen→rest.length<f→f49r1n6 f bg1 bh3 (k:Int) v157=f49r1n6L bg1 bh3 rest (k:Int) v157
 | _,0,_,_,_,_,hf=>absurd hf (Nat.not_lt_zero _)
 | [],f+1,k,v157,hd,hm,hf=>by
  have hk:¬((k:Int)<(bg1.length:Int)):=by have:=Qab hd; omega
  rw [f49r1n6,f49r1n6L];simp only [decide_eq_false hk,cond_false]
 | x0::rest,f+1,k,v157,hd,hm,hf=>by
  obtain ⟨hx,hlt,hd'⟩:=Qv hd;have hk:(k:Int)<(bg1.length:Int):=by omega
  have hw:wr64 ((k:Int)+1)=(k:Int)+1:=Qaj (by omega) (by unfold maxLen at hm; omega);have ih:∀(v157:List Qb),f49r1n6 f bg1 bh3 ((k:Int)+1) v157=f49r1n6L bg1 bh3 rest ((k:Int)+1) v157:=fun v157=>f49r1n6L_eq bg1 bh3 rest f (k+1) v157 hd' hm (by simpa using hf);rw [f49r1n6,f49r1n6L];simp only [decide_eq_true hk,cond_true,Qay,hx,Option.bind_some,hw,ih]
theorem f49r1n6_run(bg1:List Qa)(bh3:List (Key_×Int))(v157:List Qb)(hm:bg1.length≤maxLen):f49r1n6 FUEL bg1 bh3 0 v157=f49r1n6L bg1 bh3 bg1 0 v157:=f49r1n6L_eq bg1 bh3 bg1 FUEL 0 v157 List.drop_zero hm (Qz hm)
inductive f49r1n5O where
 | norm (v176:List Qb)
def f49r1n5E(bg1:List Qa)(ba2:List Qb)(bh3:List (Key_×Int)):f49r1n5O→Ex×Tr×Hp
 | .norm v176=>(.norm,mkS [],[some (.box [(.own 1)]),jR 4 Qb.cells v176])
def f49r1n5S(bg1:List Qa)(ba2:List Qb)(bh3:List (Key_×Int)):Tr×Hp:=(mkS [(1,(jL 3 Qa.cells bg1)),(2,(.clo 50 [(.bp 0 0)])),(8,(.mp 2))],[some (.box [(.own 1)]),jR 4 Qb.cells ba2,some (.map (bh3.map (mkv (pAgg Key_.cells) (pInt .i64))))])
noncomputable def f49r1n5(bg1:List Qa)(ba2:List Qb)(bh3:List (Key_×Int)):Option f49r1n5O :=
 (f49r1n6 FUEL bg1 bh3 0 ba2).bind fun o173=>match o173 with
 | .exit4 v175=>some (.norm v175)
theorem f49r1n5_ok(bg1:List Qa)(ba2:List Qb)(bh3:List (Key_×Int)){o:f49r1n5O}(h:f49r1n5 bg1 ba2 bh3=some o):T Try.prog Try.f49.ntmps 2 (cL (Qj 1 (Qj 1 (Qj 1 (Qj 1 (Qj 4 c49)))))) (f49r1n5S bg1 ba2 bh3) (·=f49r1n5E bg1 ba2 bh3 o):=by
 unfold f49r1n5 at h;refine rN Qf 1 [([],[],[(1,.val (jI (bg1.length:Int)))])] [] [] [2] [2,8,66,67,68] (f49r1n6S bg1 bh3 0 ba2) (ap (Qo (xs:=bg1) (c:=Qa.cells)) an) ?_;obtain ⟨o173,h174,h⟩:=Qc h;cases o173 with
 | exit4 v175 =>
  obtain rfl:=Qe h;exact T.last' (T.bl (i:=4) (by kernel_rfl) (by kernel_rfl) (f49r1n6_ok FUEL bg1 bh3 0 ba2 h174)) (tds:=[]) (m:=[]) (keep:=[]) (st2:=(f49r1n5E bg1 ba2 bh3 (.norm v175)).2) (by kernel_rfl) an rfl
inductive f49r1n0O where
 | ret (v180:Int) (v181:List Qb)
def f49r1n0E(a1:List Qb)(a2:List Qa)(a3:List Qb):f49r1n0O→Ex×Tr×Hp
 | .ret v180 v181=>(.ret,mkS [(6,(jI v180))],[some (.box [(.own 1)]),jR 4 Qb.cells v181])
def f49r1n0S(a1:List Qb)(a2:List Qa)(a3:List Qb):Tr×Hp:=(Qu [(jL 4 Qb.cells a1),(jL 3 Qa.cells a2),(.clo 50 [(.bp 0 0)])] 0 .leaf,[some (.box [(.own 1)]),jR 4 Qb.cells a3])
noncomputable def f49r1n0(a1:List Qb)(a2:List Qa)(a3:List Qb):Option f49r1n0O :=
 (f23 a1).bind fun x7 =>
 bif decide (x7=0) then
  (f38_39_40 a2 1).bind fun x13 =>
  bif x13 then
   (f49r1n1 a1 a2 a3).bind fun o55=>match o55 with
   | .norm v57=>(f49r1n3 a1 a2 a3 v57).bind fun o121=>match o121 with
    | .norm v123=>bif decide (v123=0) then
      (f49r1n5 a2 a3 v57).bind fun o177=>match o177 with
      | .norm v179=>some (.ret 0 v179)
     else
      some (.ret v123 a3)
    | .ret=>some (.ret 6 a3)
  else
   some (.ret 2 a3)
 else
  some (.ret x7 a3)
theorem f49r1n0_ok(a1:List Qb)(a2:List Qa)(a3:List Qb){o:f49r1n0O}(h:f49r1n0 a1 a2 a3=some o):T Try.prog Try.f49.ntmps 2 c49 (f49r1n0S a1 a2 a3) (·=f49r1n0E a1 a2 a3 o):=by
 unfold f49r1n0 at h;obtain ⟨x7,h8,h⟩:=Qc h;rcases Qh h with ⟨h9,h⟩|⟨h9,h⟩
 ·obtain ⟨x13,h14,h⟩:=Qc h;rcases Qh h with ⟨h15,h⟩|⟨h15,h⟩
  ·refine rN Qf 4 [j3,([],[jH 1 (jI x7)],[]),j3,([],[jH 1 (jB x13)],[]),j3] [some false,some false] [] [2] [0,1,2,8] (f49r1n1S a1 a2 a3) (ap (f23_ok a1 h8) (ap (Qag h9) (ap (Qbr a2 1 h14) (ap (Qag h15) an)))) ?_;obtain ⟨o55,h56,h⟩:=Qc h;cases o55 with
   | norm v57 =>
    refine T.oneN (by kernel_rfl) (f49r1n1_ok a1 a2 a3 h56) (st2:=(f49r1n1E a1 a2 a3 (.norm v57)).2) rfl ?_;refine rN Qf 1 [j3] [] [] [2] [0,1,2,8,11] (f49r1n3S a1 a2 a3 v57) an ?_;obtain ⟨o121,h122,h⟩:=Qc h;cases o121 with
    | norm v123 =>
     refine T.oneN (by kernel_rfl) (f49r1n3_ok a1 a2 a3 v57 h122) (st2:=(f49r1n3E a1 a2 a3 v57 (.norm v123)).2) rfl ?_;rcases Qh h with ⟨h125,h⟩|⟨h125,h⟩
     ·refine rN Qf 1 [j3] [some false] [] [2] [1,2,8] (f49r1n5S a2 a3 v57) (ap (Qag h125) an) ?_;obtain ⟨o177,h178,h⟩:=Qc h;cases o177 with
      | norm v179 =>
       refine T.oneN (by kernel_rfl) (f49r1n5_ok a2 a3 v57 h178) (st2:=(f49r1n5E a2 a3 v57 (.norm v179)).2) rfl ?_;obtain rfl:=Qe h;exact rE Qf [j3] [] [] [] [6] (.ret,(f49r1n0E a1 a2 a3 (.ret 0 v179)).2) an rfl
     ·obtain rfl:=Qe h;exact rK Qf 1 [j3,j3] [some true] [] [] [6] .ret ((f49r1n0E a1 a2 a3 (.ret v123 a3)).2) (ap (Qae h125) an) rfl
    | ret =>
     obtain rfl:=Qe h;exact T.oneX' (by kernel_rfl) (f49r1n3_ok a1 a2 a3 v57 h122) (tds:=[]) (m:=[]) (keep:=[6]) (st2:=(f49r1n0E a1 a2 a3 (.ret 6 a3)).2) (by kernel_rfl) an rfl rfl
  ·obtain rfl:=Qe h;exact rK Qf 3 [j3,([],[jH 1 (jI x7)],[]),j3,([],[jH 1 (jB x13)],[]),j3] [some false,some true] [] [] [6] .ret ((f49r1n0E a1 a2 a3 (.ret 2 a3)).2) (ap (f23_ok a1 h8) (ap (Qag h9) (ap (Qbr a2 1 h14) (ap (Qae h15) an)))) rfl
 ·obtain rfl:=Qe h;exact rK Qf 2 [j3,([],[jH 1 (jI x7)],[]),j3,j3] [some true] [] [] [6] .ret ((f49r1n0E a1 a2 a3 (.ret x7 a3)).2) (ap (f23_ok a1 h8) (ap (Qae h9) an)) rfl
noncomputable def f49r1(a1:List Qb)(a2:List Qa)(a3:List Qb):Option (Int×(List Qb)):=(f49r1n0 a1 a2 a3).bind fun o=>match o with
 | .ret v180 v181=>some (v180,v181)
theorem f49r1_ok(a1:List Qb)(a2:List Qa)(a3:List Qb){r:Int×(List Qb)}(h:f49r1 a1 a2 a3=some r):Qm Try.prog true 49 [(jL 4 Qb.cells a1),(jL 3 Qa.cells a2),(.clo 50 [(.bp 0 0)])] [some (.box [(.own 1)]),jR 4 Qb.cells a3] (jI r.1) [some (.box [(.own 1)]),jR 4 Qb.cells r.2]:=by
 unfold f49r1 at h;obtain ⟨o,ho,h⟩:=Qc h;cases o with
 | ret v180 v181 =>
  obtain rfl:=Qe h;exact Qm.shared Qf (f:=Try.f49) (c:=c49) (by kernel_rfl) (by kernel_rfl) (by kernel_rfl) ((f49r1n0_ok a1 a2 a3 ho).mono fun r e=>by subst e; exact ⟨.inl rfl,by kernel_rfl,by kernel_rfl⟩)

noncomputable def c26:Code:=Try.f26.body.getD .skip
inductive f26r1n0O where
 | ret (v13:Int) (v14:List Qb)
def f26r1n0E(a1:List Qb)(a2:List Qa):f26r1n0O→Ex×Tr×Hp
 | .ret v13 v14=>(.ret,mkS [(4,(.own 0)),(5,(jI v13))],[jR 4 Qb.cells v14])
def f26r1n0S(a1:List Qb)(a2:List Qa):Tr×Hp:=(Qu [(jL 4 Qb.cells a1),(jL 3 Qa.cells a2)] 0 .leaf,[])
noncomputable def f26r1n0(a1:List Qb)(a2:List Qa):Option f26r1n0O :=
 (f48r1 a1).bind fun x5 =>
 (f49r1 a1 a2 x5).bind fun x10 =>
 bif decide (x10.1=0) then
  some (.ret 0 x10.2)
 else
  some (.ret x10.1 [])
theorem f26r1n0_ok(a1:List Qb)(a2:List Qa){o:f26r1n0O}(h:f26r1n0 a1 a2=some o):T Try.prog Try.f26.ntmps 0 c26 (f26r1n0S a1 a2) (·=f26r1n0E a1 a2 o):=by
 unfold f26r1n0 at h;obtain ⟨x5,h6,h⟩:=Qc h;obtain ⟨x10,h11,h⟩:=Qc h;rcases Qh h with ⟨h12,h⟩|⟨h12,h⟩
 ·obtain rfl:=Qe h;exact rE Qf [j3,([],[(1,.call (.own 0) [jR 4 Qb.cells x5])],[]),([],[(3,.call (jI x10.1) [jR 4 Qb.cells x10.2,some (.box [(.own 0)])])],[]),j3,j3] [some false] [] [0] [4,5] (.ret,(f26r1n0E a1 a2 (.ret 0 x10.2)).2) (ap (f48r1_ok a1 h6) (ap (Qm.rn 2 [1,0] (f49r1_ok a1 a2 x5 h11)) (ap (Qag h12) an))) rfl
 ·obtain rfl:=Qe h;exact rK Qf 3 [j3,([],[(1,.call (.own 0) [jR 4 Qb.cells x5])],[]),([],[(3,.call (jI x10.1) [jR 4 Qb.cells x10.2,some (.box [(.own 0)])])],[]),j3,j3] [some true] [.mat 4 4] [2] [4,5] .ret ((f26r1n0E a1 a2 (.ret x10.1 [])).2) (ap (f48r1_ok a1 h6) (ap (Qm.rn 2 [1,0] (f49r1_ok a1 a2 x5 h11)) (ap (Qae h12) an))) rfl
noncomputable def f26r1(a1:List Qb)(a2:List Qa):Option (Int×(List Qb)):=(f26r1n0 a1 a2).bind fun o=>match o with
 | .ret v13 v14=>some (v13,v14)
theorem f26r1_ok(a1:List Qb)(a2:List Qa){r:Int×(List Qb)}(h:f26r1 a1 a2=some r):Qm Try.prog true 26 [(jL 4 Qb.cells a1),(jL 3 Qa.cells a2)] [] (.tup [(.own 0),(jI r.1)]) [jR 4 Qb.cells r.2]:=by
 unfold f26r1 at h;obtain ⟨o,ho,h⟩:=Qc h;cases o with
 | ret v13 v14 =>
  obtain rfl:=Qe h;exact Qm.shared Qf (f:=Try.f26) (c:=c26) (by kernel_rfl) (by kernel_rfl) (by kernel_rfl) ((f26r1n0_ok a1 a2 ho).mono fun r e=>by subst e; exact ⟨.inl rfl,by kernel_rfl,by kernel_rfl⟩)

noncomputable def c44:Code:=Try.f44.body.getD .skip
inductive f44n2O where
 | exit0 (v28:List Qa)
def f44n2E(ba1:List Qb):f44n2O→Ex×Tr×Hp
 | .exit0 v28=>((.exit 0),mkS [(3,(.own 0))],[jR 3 Qa.cells v28])
def f44n2S(ba1:List Qb)(v18:Int)(v19:List Qa):Tr×Hp:=(mkS [(0,(jL 4 Qb.cells ba1)),(3,(.own 0)),(4,(jI v18))],[jR 3 Qa.cells v19])
noncomputable def f44n2:Nat→List Qb→Int→List Qa→Option f44n2O
 | 0,_,_,_=>none
 | f+1,ba1,v18,v19 =>
  bif decide (v18<(ba1.length:Int)) then
   (at? ba1 v18).bind fun x25 =>
   req (fit (v19.length+1) 32) <|
   (f44n2 f ba1 (wr64 (v18+1)) (v19++[(Qa.mk x25.Level x25.Owner x25.Size)]))
  else
   some (.exit0 v19)
theorem f44n2_ok:∀(f:Nat)(ba1:List Qb)(v18:Int)(v19:List Qa){o:f44n2O},f44n2 f ba1 v18 v19=some o→TL Try.prog Try.f44.ntmps 0 f (cL (cL (Qj 1 (cL (Qj 2 c44))))) (f44n2S ba1 v18 v19) (·=f44n2E ba1 o)
 | 0,_,_,_,o,h=>by rw [f44n2] at h; cases h
 | f+1,ba1,v18,v19,o,h=>by
  rw [f44n2] at h;refine TL.body (K:=fun s=>∃v18:Int,∃v19:List Qa,s=(f44n2S ba1 v18 v19)∧f44n2 f ba1 v18 v19=some o) ?_ (by rintro _ ⟨v18,v19,rfl,hk⟩; exact f44n2_ok f _ _ _ hk);rcases Qh h with ⟨h21,h⟩|⟨h21,h⟩
  ·obtain ⟨x25,h26,h⟩:=Qc h;obtain ⟨h27,h⟩:=Qq h
   exact rE Qf [([],[],[(2,.val (jI (ba1.length:Int)))]),([],[(3,.idx (Int.toNat v18) (Qb.cells x25)),(8,.idx (Int.toNat v18) (Qb.cells x25)),(13,.idx (Int.toNat v18) (Qb.cells x25)),(18,.fits)],[(18,.row 2 ((v19++[(Qa.mk x25.Level x25.Owner x25.Size)]).map Qa.cells))]),j3] [some true] [] [2] [0,3,4] (.norm,(f44n2S ba1 (wr64 (v18+1)) (v19++[(Qa.mk x25.Level x25.Owner x25.Size)]))) (ap (Qo (xs:=ba1) (c:=Qb.cells)) (ap h21 (ap (Qg h26).1 (ap (Qk Qb.cells (Qg h26).2) (ap (Qg h26).1 (ap (Qk Qb.cells (Qg h26).2) (ap (Qg h26).1 (ap (Qk Qb.cells (Qg h26).2) (ap (Qbt (te:=ti59) (xs:=v19) (n:=1) (c:=Qa.cells) h27 rfl) (ap (app_cv (xs:=v19) (ys:=[(Qa.mk x25.Level x25.Owner x25.Size)]) (c:=Qa.cells)) an)))))))))) (Qn.norm ⟨(wr64 (v18+1)),(v19++[(Qa.mk x25.Level x25.Owner x25.Size)]),rfl,h⟩)
  ·obtain rfl:=Qe h;exact rK Qf 1 [([],[],[(2,.val (jI (ba1.length:Int)))])] [some false] [] [0] [3] (.exit 0) ((f44n2E ba1 (.exit0 v19)).2) (ap (Qo (xs:=ba1) (c:=Qb.cells)) (ap h21 an)) (Qn.out rfl rfl)
noncomputable def f44n2L(ba1:List Qb):List Qb→Int→(List Qa)→Option f44n2O
 | [],v18,v19 =>
  some (.exit0 v19)
 | x0::rest,v18,v19 =>
  req (fit (v19.length+1) 32) <|
  (f44n2L ba1 rest (v18+1) (v19++[(Qa.mk x0.Level x0.Owner x0.Size)]))
theorem f44n2L_eq(ba1:List Qb):∀(rest:List Qb)(f k:Nat)(v19:List Qa),ba1.drop k=rest→ba1.length≤maxLen→rest.length<f→f44n2 f ba1 (k:Int) v19=f44n2L ba1 rest (k:Int) v19
 | _,0,_,_,_,_,hf=>absurd hf (Nat.not_lt_zero _)
 | [],f+1,k,v19,hd,hm,hf=>by
  have hk:¬((k:Int)<(ba1.length:Int)):=by have:=Qab hd; omega
  rw [f44n2,f44n2L];simp only [decide_eq_false hk,cond_false]
 | x0::rest,f+1,k,v19,hd,hm,hf=>by
  obtain ⟨hx,hlt,hd'⟩:=Qv hd;have hk:(k:Int)<(ba1.length:Int):=by omega
  have hw:wr64 ((k:Int)+1)=(k:Int)+1:=Qaj (by omega) (by unfold maxLen at hm; omega);have ih:∀(v19:List Qa),f44n2 f ba1 ((k:Int)+1) v19=f44n2L ba1 rest ((k:Int)+1) v19:=fun v19=>f44n2L_eq ba1 rest f (k+1) v19 hd' hm (by simpa using hf);rw [f44n2,f44n2L];simp only [decide_eq_true hk,cond_true,Qay,hx,Option.bind_some,hw,ih]
theorem f44n2_run(ba1:List Qb)(v19:List Qa)(hm:ba1.length≤maxLen):f44n2 FUEL ba1 0 v19=f44n2L ba1 ba1 0 v19:=f44n2L_eq ba1 ba1 FUEL 0 v19 List.drop_zero hm (Qz hm)
inductive f44n1O where
 | norm (v32:List Qa)
def f44n1E(ba1:List Qb):f44n1O→Ex×Tr×Hp
 | .norm v32=>(.norm,mkS [(3,(.own 0))],[jR 3 Qa.cells v32])
def f44n1S(ba1:List Qb):Tr×Hp:=(mkS [(0,(jL 4 Qb.cells ba1)),(3,(.pl (.sl .nil 0 [])))],[])
noncomputable def f44n1(ba1:List Qb):Option f44n1O :=
 (f44n2 FUEL ba1 0 []).bind fun o29=>match o29 with
 | .exit0 v31=>some (.norm v31)
theorem f44n1_ok(ba1:List Qb){o:f44n1O}(h:f44n1 ba1=some o):T Try.prog Try.f44.ntmps 0 (cL (Qj 2 c44)) (f44n1S ba1) (·=f44n1E ba1 o):=by
 unfold f44n1 at h;refine rN Qf 1 [j3] [] [.mat 3 3] [0] [0,3,4] (f44n2S ba1 0 []) an ?_;obtain ⟨o29,h30,h⟩:=Qc h;cases o29 with
 | exit0 v31 =>
  obtain rfl:=Qe h;exact T.last' (T.bl (i:=0) (by kernel_rfl) (by kernel_rfl) (f44n2_ok FUEL ba1 0 [] h30)) (tds:=[]) (m:=[0]) (keep:=[3]) (st2:=(f44n1E ba1 (.norm v31)).2) (by kernel_rfl) an rfl
inductive f44n0O where
 | ret (v36:List Qa)
def f44n0E(a1:List Qb):f44n0O→Ex×Tr×Hp
 | .ret v36=>(.ret,mkS [(2,(.own 0))],[jR 3 Qa.cells v36])
def f44n0S(a1:List Qb):Tr×Hp:=(Qu [(jL 4 Qb.cells a1)] 0 .leaf,[])
noncomputable def f44n0(a1:List Qb):Option f44n0O :=
 (f44n1 a1).bind fun o33=>match o33 with
 | .norm v35=>some (.ret v35)
theorem f44n0_ok(a1:List Qb){o:f44n0O}(h:f44n0 a1=some o):T Try.prog Try.f44.ntmps 0 c44 (f44n0S a1) (·=f44n0E a1 o):=by
 unfold f44n0 at h;refine rN Qf 2 [j3,j3] [] [] [] [0,3] (f44n1S a1) an ?_;obtain ⟨o33,h34,h⟩:=Qc h;cases o33 with
 | norm v35 =>
  refine T.oneN (by kernel_rfl) (f44n1_ok a1 h34) (st2:=(f44n1E a1 (.norm v35)).2) rfl ?_;obtain rfl:=Qe h;exact rE Qf [j3] [] [] [0] [2] (.ret,(f44n0E a1 (.ret v35)).2) an rfl
noncomputable def f44(a1:List Qb):Option (List Qa):=(f44n0 a1).bind fun o=>match o with
 | .ret v36=>some v36
theorem f44_ok(a1:List Qb){r:List Qa}(h:f44 a1=some r):Qm Try.prog false 44 [(jL 4 Qb.cells a1)] [] (jL 3 Qa.cells r) []:=by
 unfold f44 at h;obtain ⟨o,ho,h⟩:=Qc h;cases o with
 | ret v36 =>
  obtain rfl:=Qe h;exact Qm.plain Qf (f:=Try.f44) (c:=c44) (by kernel_rfl) (by kernel_rfl) (by kernel_rfl) (by kernel_rfl) ((f44n0_ok a1 ho).mono fun r e=>by subst e; exact ⟨.inl rfl,(.own 0),(jL 3 Qa.cells v36),by kernel_rfl,by kernel_rfl,((Wk.refl _):Wk (jL 3 Qa.cells v36) (jL 3 Qa.cells v36))⟩)

noncomputable def c62:Code:=Try.f62.body.getD .skip
inductive f62n3O where
 | norm (v302:Bool)
def f62n3E(bc1:ByteArray)(bb2:Int)(bd3:UInt8):f62n3O→Ex×Tr×Hp
 | .norm v302=>(.norm,mkS [(0,(jS bc1)),(3,(jI bb2)),(4,(.pl (.int .u8 (bd3.toNat:Int)))),(5,(jB v302))],[])
def f62n3S(bc1:ByteArray)(bb2:Int)(bd3:UInt8):Tr×Hp:=(mkS [(0,(jS bc1)),(3,(jI bb2)),(4,(.pl (.int .u8 (bd3.toNat:Int))))],[])
noncomputable def f62n3(bc1:ByteArray)(bb2:Int)(bd3:UInt8):Option f62n3O :=
 bif decide (97≤(bd3.toNat:Int)) then
  bif decide ((bd3.toNat:Int)≤122) then
   some (.norm true)
  else
   bif decide (65≤(bd3.toNat:Int)) then
    some (.norm (decide ((bd3.toNat:Int)≤90)))
   else
    some (.norm false)
 else
  bif decide (65≤(bd3.toNat:Int)) then
   some (.norm (decide ((bd3.toNat:Int)≤90)))
  else
   some (.norm false)
theorem f62n3_ok(bc1:ByteArray)(bb2:Int)(bd3:UInt8){o:f62n3O}(h:f62n3 bc1 bb2 bd3=some o):T Try.prog Try.f62.ntmps 0 (cL (Qj 1 (cL (cL (Qj 1 (cL (cL (Qj 1 (cL (Qj 2 c62)))))))))) (f62n3S bc1 bb2 bd3) (·=f62n3E bc1 bb2 bd3 o):=by
 unfold f62n3 at h;rcases Qh h with ⟨h298,h⟩|⟨h298,h⟩
 ·rcases Qh h with ⟨h299,h⟩|⟨h299,h⟩
  ·obtain rfl:=Qe h;exact rE Qf [(jT [3,4,7,8,9,12],[(5,.bool true),(13,.bool true)],[])] [] [] [] [0,3,4,5] (.norm,(f62n3E bc1 bb2 bd3 (.norm true)).2) (ap3 h298 (ap h299 (ap4 h299 an))) rfl
  ·rcases Qh h with ⟨h300,h⟩|⟨h300,h⟩
   ·obtain rfl:=Qe h;exact rE Qf [(jF [7,8,9,12]++jT [3,4,10,11],[(5,.bool true),(12,.bool true),(13,.bool false)],[])] [] [] [] [0,3,4,5] (.norm,(f62n3E bc1 bb2 bd3 (.norm (decide ((bd3.toNat:Int)≤90)))).2) (ap3 h298 (ap3 h299 (ap2 h300 (ap h299 (ap h300 (ap h299 an)))))) rfl
   ·obtain rfl:=Qe h;exact rE Qf [(jF [7,8,9,10,11,12]++jT [3,4],[(5,.bool true),(12,.bool false),(13,.bool false)],[])] [] [] [] [0,3,4,5] (.norm,(f62n3E bc1 bb2 bd3 (.norm false)).2) (ap3 h298 (ap3 h299 (ap2 h300 (ap h299 (ap h300 (ap h299 an)))))) rfl
 ·rcases Qh h with ⟨h301,h⟩|⟨h301,h⟩
  ·obtain rfl:=Qe h;exact rE Qf [(jF [3,4]++jT [10,11],[(5,.bool false),(12,.bool true)],[])] [] [] [] [0,3,4,5] (.norm,(f62n3E bc1 bb2 bd3 (.norm (decide ((bd3.toNat:Int)≤90)))).2) (ap3 h298 (ap3 h301 an)) rfl
  ·obtain rfl:=Qe h;exact rE Qf [(jF [3,4,10,11],[(5,.bool false),(12,.bool false)],[])] [] [] [] [0,3,4,5] (.norm,(f62n3E bc1 bb2 bd3 (.norm false)).2) (ap3 h298 (ap3 h301 an)) rfl
inductive f62n4O where
 | norm (v318:Bool)
def f62n4E(bc1:ByteArray)(bb2:Int)(bd3:UInt8)(bi4:Bool):f62n4O→Ex×Tr×Hp
 | .norm v318=>(.norm,mkS [(0,(jS bc1)),(3,(jI bb2)),(5,(jB bi4)),(6,(jB v318))],[])
def f62n4S(bc1:ByteArray)(bb2:Int)(bd3:UInt8)(bi4:Bool):Tr×Hp:=(mkS [(0,(jS bc1)),(3,(jI bb2)),(4,(.pl (.int .u8 (bd3.toNat:Int)))),(5,(jB bi4))],[])
noncomputable def f62n4(bc1:ByteArray)(bb2:Int)(bd3:UInt8)(bi4:Bool):Option f62n4O :=
 bif decide (48≤(bd3.toNat:Int)) then
  bif decide ((bd3.toNat:Int)≤57) then
   some (.norm true)
  else
   bif decide ((bd3.toNat:Int)=95) then
    some (.norm true)
   else
    some (.norm (decide ((bd3.toNat:Int)=45)))
 else
  bif decide ((bd3.toNat:Int)=95) then
   some (.norm true)
  else
   some (.norm (decide ((bd3.toNat:Int)=45)))
theorem f62n4_ok(bc1:ByteArray)(bb2:Int)(bd3:UInt8)(bi4:Bool){o:f62n4O}(h:f62n4 bc1 bb2 bd3 bi4=some o):T Try.prog Try.f62.ntmps 0 (cL (Qj 0 (Qj 1 (Qj 1 (cL (cL (Qj 1 (cL (cL (Qj 1 (cL (Qj 2 c62)))))))))))) (f62n4S bc1 bb2 bd3 bi4) (·=f62n4E bc1 bb2 bd3 bi4 o):=by
 unfold f62n4 at h;rcases Qh h with ⟨h314,h⟩|⟨h314,h⟩
 ·rcases Qh h with ⟨h315,h⟩|⟨h315,h⟩
  ·obtain rfl:=Qe h;exact rE Qf [(jT [3,4,7,8],[(5,.bool true),(9,.bool true)],[])] [] [] [] [0,3,5,6] (.norm,(f62n4E bc1 bb2 bd3 bi4 (.norm true)).2) (ap3 h314 (ap3 h315 an)) rfl
  ·rcases Qh h with ⟨h316,h⟩|⟨h316,h⟩
   ·obtain rfl:=Qe h;exact rE Qf [(jF [7,8]++jT [3,4,11,12],[(5,.bool true),(9,.bool false),(13,.bool true)],[])] [] [] [] [0,3,5,6] (.norm,(f62n4E bc1 bb2 bd3 bi4 (.norm true)).2) (ap3 h314 (ap3 h315 (ap3 h316 an))) rfl
   ·obtain rfl:=Qe h;exact rE Qf [(jF [7,8,11,12]++jT [3,4],[(5,.bool true),(9,.bool false),(13,.bool false)],[])] [] [] [] [0,3,5,6] (.norm,(f62n4E bc1 bb2 bd3 bi4 (.norm (decide ((bd3.toNat:Int)=45)))).2) (ap3 h314 (ap3 h315 (ap3 h316 an))) rfl
 ·rcases Qh h with ⟨h317,h⟩|⟨h317,h⟩
  ·obtain rfl:=Qe h;exact rE Qf [(jF [3,4]++jT [11,12],[(5,.bool false),(13,.bool true)],[])] [] [] [] [0,3,5,6] (.norm,(f62n4E bc1 bb2 bd3 bi4 (.norm true)).2) (ap3 h314 (ap3 h317 an)) rfl
  ·obtain rfl:=Qe h;exact rE Qf [(jF [3,4,11,12],[(5,.bool false),(13,.bool false)],[])] [] [] [] [0,3,5,6] (.norm,(f62n4E bc1 bb2 bd3 bi4 (.norm (decide ((bd3.toNat:Int)=45)))).2) (ap3 h314 (ap3 h317 an)) rfl
inductive f62n5O where
 | norm (v328:Bool)
def f62n5E(bc1:ByteArray)(bb2:Int)(bi3 bi4:Bool):f62n5O→Ex×Tr×Hp
 | .norm v328=>(.norm,mkS [(0,(jS bc1)),(3,(jI bb2)),(61,(jB v328))],[])
def f62n5S(bc1:ByteArray)(bb2:Int)(bi3 bi4:Bool):Tr×Hp:=(mkS [(0,(jS bc1)),(3,(jI bb2)),(5,(jB bi3)),(6,(jB bi4))],[])
noncomputable def f62n5(bc1:ByteArray)(bb2:Int)(bi3 bi4:Bool):Option f62n5O :=
 bif bi3 then
  some (.norm false)
 else
  bif bi4 then
   some (.norm (decide (bb2=0)))
  else
   some (.norm true)
theorem f62n5_ok(bc1:ByteArray)(bb2:Int)(bi3 bi4:Bool){o:f62n5O}(h:f62n5 bc1 bb2 bi3 bi4=some o):T Try.prog Try.f62.ntmps 0 (cL (Qj 0 (Qj 1 (Qj 0 (Qj 1 (Qj 1 (cL (cL (Qj 1 (cL (cL (Qj 1 (cL (Qj 2 c62)))))))))))))) (f62n5S bc1 bb2 bi3 bi4) (·=f62n5E bc1 bb2 bi3 bi4 o):=by
 unfold f62n5 at h;rcases Qh h with ⟨h326,h⟩|⟨h326,h⟩
 ·obtain rfl:=Qe h;exact rE Qf [(jF [3,4,5,8],[(9,.bool false)],[])] [] [] [] [0,3,61] (.norm,(f62n5E bc1 bb2 bi3 bi4 (.norm false)).2) (ap (Qag h326) (ap4 (Qag h326) an)) rfl
 ·rcases Qh h with ⟨h327,h⟩|⟨h327,h⟩
  ·obtain rfl:=Qe h;exact rE Qf [(jF [6,7]++jT [3,4,5,8],[(8,.bool false),(9,.bool true)],[])] [] [] [] [0,3,61] (.norm,(f62n5E bc1 bb2 bi3 bi4 (.norm (decide (bb2=0)))).2) (ap3 (Qae h326) (ap2 (Qag h327) (ap (Qae h326) (ap (Qag h327) (ap (Qae h326) an))))) rfl
  ·obtain rfl:=Qe h;exact rE Qf [(jT [3,4,5,6,7,8],[(8,.bool true),(9,.bool true)],[])] [] [] [] [0,3,61] (.norm,(f62n5E bc1 bb2 bi3 bi4 (.norm true)).2) (ap3 (Qae h326) (ap2 (Qae h327) (ap (Qae h326) (ap (Qae h327) (ap (Qae h326) an))))) rfl
inductive f62n2O where
 | norm
 | ret
def f62n2E(bc1:ByteArray)(bb2:Int):f62n2O→Ex×Tr×Hp
 | .norm=>(.norm,mkS [(0,(jS bc1)),(3,(jI bb2))],[])
 | .ret=>(.ret,mkS [(2,(jB false))],[])
def f62n2S(bc1:ByteArray)(bb2:Int):Tr×Hp:=(mkS [(0,(jS bc1)),(3,(jI bb2))],[])
noncomputable def f62n2(bc1:ByteArray)(bb2:Int):Option f62n2O :=
 (at? bc1.data.toList bb2).bind fun x288 =>
 (f62n3 bc1 bb2 x288).bind fun o303=>match o303 with
 | .norm v305=>(f62n4 bc1 bb2 x288 v305).bind fun o319=>match o319 with
  | .norm v321=>(f62n5 bc1 bb2 v305 v321).bind fun o329=>match o329 with
   | .norm v331=>bif v331 then
     some .ret
    else
     some .norm
theorem f62n2_ok(bc1:ByteArray)(bb2:Int){o:f62n2O}(h:f62n2 bc1 bb2=some o):T Try.prog Try.f62.ntmps 0 (cL (Qj 1 (cL (cL (Qj 1 (cL (Qj 2 c62))))))) (f62n2S bc1 bb2) (·=f62n2E bc1 bb2 o):=by
 unfold f62n2 at h;refine T.block' (i:=1) (by kernel_rfl) ?_;obtain ⟨x288,h289,h⟩:=Qc h;refine rN Qf 1 [([],[(2,.byte (Int.toNat bb2) x288)],[])] [] [] [] [0,3,4] (f62n3S bc1 bb2 x288) (ap (Qg h289).1 (ap (Qg h289).2 an)) ?_;obtain ⟨o303,h304,h⟩:=Qc h;cases o303 with
 | norm v305 =>
  refine T.oneN (by kernel_rfl) (f62n3_ok bc1 bb2 x288 h304) (st2:=(f62n3E bc1 bb2 x288 (.norm v305)).2) rfl ?_;refine rN Qf 0 [] [] [] [] [0,3,4,5] (f62n4S bc1 bb2 x288 v305) an ?_;obtain ⟨o319,h320,h⟩:=Qc h;cases o319 with
  | norm v321 =>
   refine T.oneN (by kernel_rfl) (f62n4_ok bc1 bb2 x288 v305 h320) (st2:=(f62n4E bc1 bb2 x288 v305 (.norm v321)).2) rfl ?_;refine rN Qf 0 [] [] [] [] [0,3,5,6] (f62n5S bc1 bb2 v305 v321) an ?_;obtain ⟨o329,h330,h⟩:=Qc h;cases o329 with
   | norm v331 =>
    refine T.oneN (by kernel_rfl) (f62n5_ok bc1 bb2 v305 v321 h330) (st2:=(f62n5E bc1 bb2 v305 v321 (.norm v331)).2) rfl ?_;rcases Qh h with ⟨h333,h⟩|⟨h333,h⟩
    ·obtain rfl:=Qe h;exact rE Qf [j3] [some true] [] [] [2] (.ret,(f62n2E bc1 bb2 .ret).2) (ap h333 an) rfl
    ·obtain rfl:=Qe h;exact rE Qf [] [some false] [] [] [0,3] (.norm,(f62n2E bc1 bb2 .norm).2) (ap h333 an) rfl
inductive f62n6O where
 | exit0
 | ret
def f62n6E(bc1:ByteArray):f62n6O→Ex×Tr×Hp
 | .exit0=>((.exit 0),mkS [],[])
 | .ret=>(.ret,mkS [(2,(jB false))],[])
def f62n6S(bc1:ByteArray)(v219:Int):Tr×Hp:=(mkS [(0,(jS bc1)),(3,(jI v219))],[])
noncomputable def f62n6:Nat→ByteArray→Int→Option f62n6O
 | 0,_,_=>none
 | f+1,bc1,v219 =>
  bif decide (v219<(bc1.size:Int)) then
   (f62n2 bc1 v219).bind fun o334=>match o334 with
   | .norm=>(f62n6 f bc1 (wr64 (v219+1)))
   | .ret=>some .ret
  else
   some .exit0
theorem f62n6_ok:∀(f:Nat)(bc1:ByteArray)(v219:Int){o:f62n6O},f62n6 f bc1 v219=some o→TL Try.prog Try.f62.ntmps 0 f (cL (cL (Qj 1 (cL (Qj 2 c62))))) (f62n6S bc1 v219) (·=f62n6E bc1 o)
 | 0,_,_,o,h=>by rw [f62n6] at h; cases h
 | f+1,bc1,v219,o,h=>by
  rw [f62n6] at h;refine TL.body (K:=fun s=>∃v219:Int,s=(f62n6S bc1 v219)∧f62n6 f bc1 v219=some o) ?_ (by rintro _ ⟨v219,rfl,hk⟩; exact f62n6_ok f _ _ hk);rcases Qh h with ⟨h221,h⟩|⟨h221,h⟩
  ·refine rN Qf 1 [j3] [some true] [] [] [0,3] (f62n2S bc1 v219) (ap h221 an) ?_;obtain ⟨o334,h335,h⟩:=Qc h;cases o334 with
   | norm =>
    refine T.oneN (by kernel_rfl) (f62n2_ok bc1 v219 h335) (st2:=(f62n2E bc1 v219 .norm).2) rfl ?_;exact rE Qf [j3] [] [] [] [0,3] (.norm,(f62n6S bc1 (wr64 (v219+1)))) an (Qn.norm ⟨(wr64 (v219+1)),rfl,h⟩)
   | ret =>
    obtain rfl:=Qe h;exact T.oneX' (by kernel_rfl) (f62n2_ok bc1 v219 h335) (tds:=[]) (m:=[]) (keep:=[2]) (st2:=(f62n6E bc1 .ret).2) (by kernel_rfl) an rfl (Qn.out rfl rfl)
  ·obtain rfl:=Qe h;exact rK Qf 1 [j3] [some false] [] [] [] (.exit 0) ((f62n6E bc1 .exit0).2) (ap h221 an) (Qn.out rfl rfl)
inductive f62n1O where
 | norm
 | ret
def f62n1E(bc1:ByteArray):f62n1O→Ex×Tr×Hp
 | .norm=>(.norm,mkS [],[])
 | .ret=>(.ret,mkS [(2,(jB false))],[])
def f62n1S(bc1:ByteArray):Tr×Hp:=(mkS [(0,(jS bc1))],[])
noncomputable def f62n1(bc1:ByteArray):Option f62n1O :=
 (f62n6 FUEL bc1 0).bind fun o336=>match o336 with
 | .exit0=>some .norm
 | .ret=>some .ret
theorem f62n1_ok(bc1:ByteArray){o:f62n1O}(h:f62n1 bc1=some o):T Try.prog Try.f62.ntmps 0 (cL (Qj 2 c62)) (f62n1S bc1) (·=f62n1E bc1 o):=by
 unfold f62n1 at h;refine rN Qf 1 [j3] [] [] [] [0,3] (f62n6S bc1 0) an ?_;obtain ⟨o336,h337,h⟩:=Qc h;cases o336 with
 | exit0 =>
  obtain rfl:=Qe h;exact T.last' (T.bl (i:=0) (by kernel_rfl) (by kernel_rfl) (f62n6_ok FUEL bc1 0 h337)) (tds:=[]) (m:=[]) (keep:=[]) (st2:=(f62n1E bc1 .norm).2) (by kernel_rfl) an rfl
 | ret =>
  obtain rfl:=Qe h;exact T.last' (T.bl (i:=0) (by kernel_rfl) (by kernel_rfl) (f62n6_ok FUEL bc1 0 h337)) (tds:=[]) (m:=[]) (keep:=[2]) (st2:=(f62n1E bc1 .ret).2) (by kernel_rfl) an rfl
inductive f62n0O where
 | ret (v340:Bool)
def f62n0E(a1:ByteArray):f62n0O→Ex×Tr×Hp
 | .ret v340=>(.ret,mkS [(2,(jB v340))],[])
def f62n0S(a1:ByteArray):Tr×Hp:=(Qu [(jS a1)] 0 .leaf,[])
noncomputable def f62n0(a1:ByteArray):Option f62n0O :=
 bif decide ((a1.size:Int)<1) then
  some (.ret false)
 else
  bif decide (40<(a1.size:Int)) then
   some (.ret false)
  else
   (f62n1 a1).bind fun o338=>match o338 with
   | .norm=>some (.ret true)
   | .ret=>some (.ret false)
theorem f62n0_ok(a1:ByteArray){o:f62n0O}(h:f62n0 a1=some o):T Try.prog Try.f62.ntmps 0 c62 (f62n0S a1) (·=f62n0E a1 o):=by
 unfold f62n0 at h;rcases Qh h with ⟨h4,h⟩|⟨h4,h⟩
 ·obtain rfl:=Qe h;exact rK Qf 2 [j3,(jT [4,5,6],[(7,.bool true)],[]),j3] [none] [] [] [2] .ret ((f62n0E a1 (.ret false)).2) (ap4 h4 an) rfl
 ·rcases Qh h with ⟨h5,h⟩|⟨h5,h⟩
  ·obtain rfl:=Qe h;exact rK Qf 2 [j3,(jF [4,5,6],[(7,.bool false)],[]),j3] [some true] [] [] [2] .ret ((f62n0E a1 (.ret false)).2) (ap4 h4 (ap h5 an)) rfl
  ·refine rN Qf 2 [j3,(jF [4,5,6],[(7,.bool false)],[])] [some false] [] [] [0] (f62n1S a1) (ap4 h4 (ap h5 an)) ?_;obtain ⟨o338,h339,h⟩:=Qc h;cases o338 with
   | norm =>
    refine T.oneN (by kernel_rfl) (f62n1_ok a1 h339) (st2:=(f62n1E a1 .norm).2) rfl ?_;obtain rfl:=Qe h;exact rE Qf [j3] [] [] [] [2] (.ret,(f62n0E a1 (.ret true)).2) an rfl
   | ret =>
    obtain rfl:=Qe h;exact T.oneX' (by kernel_rfl) (f62n1_ok a1 h339) (tds:=[]) (m:=[]) (keep:=[2]) (st2:=(f62n0E a1 (.ret false)).2) (by kernel_rfl) an rfl rfl
noncomputable def f62(a1:ByteArray):Option Bool:=(f62n0 a1).bind fun o=>match o with
 | .ret v340=>some v340
theorem f62_ok(a1:ByteArray){r:Bool}(h:f62 a1=some r):Qm Try.prog false 62 [(jS a1)] [] (jB r) []:=by
 unfold f62 at h;obtain ⟨o,ho,h⟩:=Qc h;cases o with
 | ret v340 =>
  obtain rfl:=Qe h;exact Qm.plain Qf (f:=Try.f62) (c:=c62) (by kernel_rfl) (by kernel_rfl) (by kernel_rfl) (by kernel_rfl) ((f62n0_ok a1 ho).mono fun r e=>by subst e; exact ⟨.inl rfl,(jB v340),(jB v340),by kernel_rfl,by kernel_rfl,((Wk.refl _):Wk (jB v340) (jB v340))⟩)

noncomputable def c47:Code:=Try.f47.body.getD .skip
inductive f47n2O where
 | norm (v139:Int)
 | ret
def f47n2E(bg1:List Qa)(bb2 bb3 bb4:Int):f47n2O→Ex×Tr×Hp
 | .norm v139=>(.norm,mkS [(0,(jL 3 Qa.cells bg1)),(1,(jI bb2)),(5,(jI v139)),(6,(jI bb4))],[])
 | .ret=>(.ret,mkS [(4,(jB false))],[])
def f47n2S(bg1:List Qa)(bb2 bb3 bb4:Int):Tr×Hp:=(mkS [(0,(jL 3 Qa.cells bg1)),(1,(jI bb2)),(5,(jI bb3)),(6,(jI bb4))],[])
noncomputable def f47n2(bg1:List Qa)(bb2 bb3 bb4:Int):Option f47n2O :=
 (at? bg1 bb4).bind fun x105 =>
 bif decide (x105.Level<0) then
  some .ret
 else
  bif decide (10≤x105.Level) then
   some .ret
  else
   (f62 x105.Owner).bind fun x116 =>
   bif x116 then
    bif decide (x105.Amount<bb2) then
     some .ret
    else
     bif decide (1125899906842624<x105.Amount) then
      some .ret
     else
      bif decide (0<bb4) then
       (at? bg1 (wr64 (bb4-1))).bind fun x134 =>
       bif decide (x105.Level<x134.Level) then
        some .ret
       else
        bif decide (x134.Level=x105.Level) then
         bif (slt x134.Owner x105.Owner) then
          some (.norm (wr64 (bb3+x105.Amount)))
         else
          some .ret
        else
         some (.norm (wr64 (bb3+x105.Amount)))
      else
       some (.norm (wr64 (bb3+x105.Amount)))
   else
    some .ret
theorem f47n2_ok(bg1:List Qa)(bb2 bb3 bb4:Int){o:f47n2O}(h:f47n2 bg1 bb2 bb3 bb4=some o):T Try.prog Try.f47.ntmps 0 (cL (Qj 1 (cL (cL (Qj 1 (cL (Qj 3 c47))))))) (f47n2S bg1 bb2 bb3 bb4) (·=f47n2E bg1 bb2 bb3 bb4 o):=by
 unfold f47n2 at h;refine T.block' (i:=1) (by kernel_rfl) ?_;obtain ⟨x105,h106,h⟩:=Qc h;rcases Qh h with ⟨h114,h⟩|⟨h114,h⟩
 ·obtain rfl:=Qe h;exact rK Qf 2 [([],[(2,.idx (Int.toNat bb4) (Qa.cells x105))],[]),(jT [4,5,6],[(7,.bool true)],[]),j3] [none] [] [] [4] .ret ((f47n2E bg1 bb2 bb3 bb4 .ret).2) (ap (Qg h106).1 (ap (Qk Qa.cells (Qg h106).2) (ap4 h114 an))) rfl
 ·rcases Qh h with ⟨h115,h⟩|⟨h115,h⟩
  ·obtain rfl:=Qe h;exact rK Qf 2 [([],[(2,.idx (Int.toNat bb4) (Qa.cells x105))],[]),(jF [4,5,6]++jT [9,10,11,12],[(7,.bool false),(13,.bool true)],[]),j3] [none] [] [] [4] .ret ((f47n2E bg1 bb2 bb3 bb4 .ret).2) (ap (Qg h106).1 (ap (Qk Qa.cells (Qg h106).2) (ap4 h114 (ap h115 (ap4 h115 an))))) rfl
  ·obtain ⟨x116,h117,h⟩:=Qc h;rcases Qh h with ⟨h118,h⟩|⟨h118,h⟩
   ·rcases Qh h with ⟨h119,h⟩|⟨h119,h⟩
    ·obtain rfl:=Qe h;exact rK Qf 2 [([],[(2,.idx (Int.toNat bb4) (Qa.cells x105))],[]),(jF [4,5,6,9,10,11,12,15,16,17,18]++jT [21,22,23],[(7,.bool false),jH 11 (jB x116),(13,.bool false),(19,.bool false),(24,.bool true)],[]),j3] [none] [] [] [4] .ret ((f47n2E bg1 bb2 bb3 bb4 .ret).2) (ap (Qg h106).1 (ap (Qk Qa.cells (Qg h106).2) (ap4 h114 (ap h115 (ap4 h115 (ap (Qag h118) (ap4 (Qag h118) (ap4 h119 (ap (f62_ok x105.Owner h117) an))))))))) rfl
    ·rcases Qh h with ⟨h120,h⟩|⟨h120,h⟩
     ·obtain rfl:=Qe h;exact rK Qf 2 [([],[(2,.idx (Int.toNat bb4) (Qa.cells x105))],[]),(jF [4,5,6,9,10,11,12,15,16,17,18,21,22,23],[(7,.bool false),jH 11 (jB x116),(13,.bool false),(19,.bool false),(24,.bool false)],[]),j3] [some true] [] [] [4] .ret ((f47n2E bg1 bb2 bb3 bb4 .ret).2) (ap (Qg h106).1 (ap (Qk Qa.cells (Qg h106).2) (ap4 h114 (ap h115 (ap4 h115 (ap (Qag h118) (ap4 (Qag h118) (ap4 h119 (ap (f62_ok x105.Owner h117) (ap h120 an)))))))))) rfl
     ·refine rN Qf 2 [([],[(2,.idx (Int.toNat bb4) (Qa.cells x105))],[]),(jF [4,5,6,9,10,11,12,15,16,17,18,21,22,23],[(7,.bool false),jH 11 (jB x116),(13,.bool false),(19,.bool false),(24,.bool false)],[])] [some false] [] [0] [0,1,5,6,7] (mkS [(0,(jL 3 Qa.cells bg1)),(1,(jI bb2)),(5,(jI bb3)),(6,(jI bb4)),(7,(.bp 0 0))],[some (.box ((Qa.cells x105).map .pl))]) (ap (Qg h106).1 (ap (Qk Qa.cells (Qg h106).2) (ap4 h114 (ap h115 (ap4 h115 (ap (Qag h118) (ap4 (Qag h118) (ap4 h119 (ap (f62_ok x105.Owner h117) (ap h120 an)))))))))) ?_;rcases Qh h with ⟨h133,h⟩|⟨h133,h⟩
      ·obtain ⟨x134,h135,h⟩:=Qc h;rcases Qh h with ⟨h136,h⟩|⟨h136,h⟩
       ·obtain rfl:=Qe h;exact rK Qf 1 [(jT [3,4,5,6,7,8,9,10,11,12,13,14,15,16,17,18,19,20,21,22,32,33],[(6,.idx (Int.toNat (wr64 (bb4-1))) (Qa.cells x134)),(33,.bool true),(34,.bool true)],[]),j3] [none] [] [] [4] .ret ((f47n2E bg1 bb2 bb3 bb4 .ret).2) (ap4 h133 (ap (Qg h135).1 (ap (Qk Qa.cells (Qg h135).2) (ap2 h133 (ap4 h133 (ap3 h136 (ap4 h136 (ap4 h136 (ap h133 (ap h136 (ap h133 an))))))))))) rfl
       ·rcases Qh h with ⟨h137,h⟩|⟨h137,h⟩
        ·rcases Qh h with ⟨h138,h⟩|⟨h138,h⟩
         ·obtain rfl:=Qe h
          exact rE Qf [(jF [13,14,15,16,17,18,19,20,21,22,32]++jT [3,4,5,6,7,8,9,10,11,12,23,24,25,26,27,28,29,30,31,33],[(6,.idx (Int.toNat (wr64 (bb4-1))) (Qa.cells x134)),(16,.idx (Int.toNat (wr64 (bb4-1))) (Qa.cells x134)),(26,.idx (Int.toNat (wr64 (bb4-1))) (Qa.cells x134)),(32,.bool true),(33,.bool false),(34,.bool true)],[]),j3] [some false] [] [] [0,1,5,6] (.norm,(f47n2E bg1 bb2 bb3 bb4 (.norm (wr64 (bb3+x105.Amount)))).2) (ap4 h133 (ap (Qg h135).1 (ap (Qk Qa.cells (Qg h135).2) (ap2 h133 (ap4 h133 (ap4 h136 (ap (Qg h135).1 (ap (Qk Qa.cells (Qg h135).2) (ap2 h136 (ap4 h136 (ap4 h137 (ap (Qg h135).1 (ap (Qk Qa.cells (Qg h135).2) (ap h137 (ap4 h137 (ap h136 (ap h137 (ap h133 (ap h136 (ap h133 (ap (Qag h138) an))))))))))))))))))))) rfl
         ·obtain rfl:=Qe h;exact rK Qf 1 [(jF [13,14,15,16,17,18,19,20,21,22,32]++jT [3,4,5,6,7,8,9,10,11,12,23,24,25,26,27,28,29,30,31,33],[(6,.idx (Int.toNat (wr64 (bb4-1))) (Qa.cells x134)),(16,.idx (Int.toNat (wr64 (bb4-1))) (Qa.cells x134)),(26,.idx (Int.toNat (wr64 (bb4-1))) (Qa.cells x134)),(32,.bool true),(33,.bool false),(34,.bool true)],[]),j3] [some true] [] [] [4] .ret ((f47n2E bg1 bb2 bb3 bb4 .ret).2) (ap4 h133 (ap (Qg h135).1 (ap (Qk Qa.cells (Qg h135).2) (ap2 h133 (ap4 h133 (ap4 h136 (ap (Qg h135).1 (ap (Qk Qa.cells (Qg h135).2) (ap2 h136 (ap4 h136 (ap4 h137 (ap (Qg h135).1 (ap (Qk Qa.cells (Qg h135).2) (ap h137 (ap4 h137 (ap h136 (ap h137 (ap h133 (ap h136 (ap h133 (ap (Qae h138) an))))))))))))))))))))) rfl
        ·obtain rfl:=Qe h;exact rE Qf [(jF [13,14,15,16,17,18,19,20,21,22,23,24,25,26,27,28,29,30,31,32]++jT [3,4,5,6,7,8,9,10,11,12,33],[(6,.idx (Int.toNat (wr64 (bb4-1))) (Qa.cells x134)),(16,.idx (Int.toNat (wr64 (bb4-1))) (Qa.cells x134)),(32,.bool false),(33,.bool false),(34,.bool true)],[]),j3] [none] [] [] [0,1,5,6] (.norm,(f47n2E bg1 bb2 bb3 bb4 (.norm (wr64 (bb3+x105.Amount)))).2) (ap4 h133 (ap (Qg h135).1 (ap (Qk Qa.cells (Qg h135).2) (ap2 h133 (ap4 h133 (ap4 h136 (ap (Qg h135).1 (ap (Qk Qa.cells (Qg h135).2) (ap2 h136 (ap4 h136 (ap h137 (ap4 h137 (ap4 h137 (ap h136 (ap h137 (ap h133 (ap h136 (ap h133 an)))))))))))))))))) rfl
      ·obtain rfl:=Qe h;exact rE Qf [(jF [3,4,5,6,7,8,9,10,11,12,33],[(34,.bool false)],[]),j3] [none] [] [] [0,1,5,6] (.norm,(f47n2E bg1 bb2 bb3 bb4 (.norm (wr64 (bb3+x105.Amount)))).2) (ap4 h133 (ap4 h133 (ap4 h133 an))) rfl
   ·obtain rfl:=Qe h;exact rK Qf 2 [([],[(2,.idx (Int.toNat bb4) (Qa.cells x105))],[]),(jF [4,5,6,9,10,11,12]++jT [15,16,17,18],[(7,.bool false),jH 11 (jB x116),(13,.bool false),(19,.bool true)],[]),j3] [none] [] [] [4] .ret ((f47n2E bg1 bb2 bb3 bb4 .ret).2) (ap (Qg h106).1 (ap (Qk Qa.cells (Qg h106).2) (ap4 h114 (ap h115 (ap4 h115 (ap (Qae h118) (ap4 (Qae h118) (ap (f62_ok x105.Owner h117) an)))))))) rfl
inductive f47n3O where
 | exit0 (v143:Int)
 | ret
def f47n3E(bg1:List Qa)(bb2:Int):f47n3O→Ex×Tr×Hp
 | .exit0 v143=>((.exit 0),mkS [(5,(jI v143))],[])
 | .ret=>(.ret,mkS [(4,(jB false))],[])
def f47n3S(bg1:List Qa)(bb2 v84 v85:Int):Tr×Hp:=(mkS [(0,(jL 3 Qa.cells bg1)),(1,(jI bb2)),(5,(jI v84)),(6,(jI v85))],[])
noncomputable def f47n3:Nat→List Qa→Int→Int→Int→Option f47n3O
 | 0,_,_,_,_=>none
 | f+1,bg1,bb2,v84,v85 =>
  bif decide (v85<(bg1.length:Int)) then
   (f47n2 bg1 bb2 v84 v85).bind fun o140=>match o140 with
   | .norm v142=>(f47n3 f bg1 bb2 v142 (wr64 (v85+1)))
   | .ret=>some .ret
  else
   some (.exit0 v84)
theorem f47n3_ok:∀(f:Nat)(bg1:List Qa)(bb2 v84 v85:Int){o:f47n3O},f47n3 f bg1 bb2 v84 v85=some o→TL Try.prog Try.f47.ntmps 0 f (cL (cL (Qj 1 (cL (Qj 3 c47))))) (f47n3S bg1 bb2 v84 v85) (·=f47n3E bg1 bb2 o)
 | 0,_,_,_,_,o,h=>by rw [f47n3] at h; cases h
 | f+1,bg1,bb2,v84,v85,o,h=>by
  rw [f47n3] at h;refine TL.body (K:=fun s=>∃v84:Int,∃v85:Int,s=(f47n3S bg1 bb2 v84 v85)∧f47n3 f bg1 bb2 v84 v85=some o) ?_ (by rintro _ ⟨v84,v85,rfl,hk⟩; exact f47n3_ok f _ _ _ _ hk);rcases Qh h with ⟨h87,h⟩|⟨h87,h⟩
  ·refine rN Qf 1 [([],[],[(2,.val (jI (bg1.length:Int)))])] [some true] [] [] [0,1,5,6] (f47n2S bg1 bb2 v84 v85) (ap (Qo (xs:=bg1) (c:=Qa.cells)) (ap h87 an)) ?_;obtain ⟨o140,h141,h⟩:=Qc h;cases o140 with
   | norm v142 =>
    refine T.oneN (by kernel_rfl) (f47n2_ok bg1 bb2 v84 v85 h141) (st2:=(f47n2E bg1 bb2 v84 v85 (.norm v142)).2) rfl ?_;exact rE Qf [j3] [] [] [] [0,1,5,6] (.norm,(f47n3S bg1 bb2 v142 (wr64 (v85+1)))) an (Qn.norm ⟨v142,(wr64 (v85+1)),rfl,h⟩)
   | ret =>
    obtain rfl:=Qe h;exact T.oneX' (by kernel_rfl) (f47n2_ok bg1 bb2 v84 v85 h141) (tds:=[]) (m:=[]) (keep:=[4]) (st2:=(f47n3E bg1 bb2 .ret).2) (by kernel_rfl) an rfl (Qn.out rfl rfl)
  ·obtain rfl:=Qe h;exact rK Qf 1 [([],[],[(2,.val (jI (bg1.length:Int)))])] [some false] [] [] [5] (.exit 0) ((f47n3E bg1 bb2 (.exit0 v84)).2) (ap (Qo (xs:=bg1) (c:=Qa.cells)) (ap h87 an)) (Qn.out rfl rfl)
inductive f47n1O where
 | norm (v147:Int)
 | ret
def f47n1E(bg1:List Qa)(bb2:Int):f47n1O→Ex×Tr×Hp
 | .norm v147=>(.norm,mkS [(5,(jI v147))],[])
 | .ret=>(.ret,mkS [(4,(jB false))],[])
def f47n1S(bg1:List Qa)(bb2:Int):Tr×Hp:=(mkS [(0,(jL 3 Qa.cells bg1)),(1,(jI bb2)),(5,(jI 0))],[])
noncomputable def f47n1(bg1:List Qa)(bb2:Int):Option f47n1O :=
 (f47n3 FUEL bg1 bb2 0 0).bind fun o144=>match o144 with
 | .exit0 v146=>some (.norm v146)
 | .ret=>some .ret
theorem f47n1_ok(bg1:List Qa)(bb2:Int){o:f47n1O}(h:f47n1 bg1 bb2=some o):T Try.prog Try.f47.ntmps 0 (cL (Qj 3 c47)) (f47n1S bg1 bb2) (·=f47n1E bg1 bb2 o):=by
 unfold f47n1 at h;refine rN Qf 1 [j3] [] [] [] [0,1,5,6] (f47n3S bg1 bb2 0 0) an ?_;obtain ⟨o144,h145,h⟩:=Qc h;cases o144 with
 | exit0 v146 =>
  obtain rfl:=Qe h;exact T.last' (T.bl (i:=0) (by kernel_rfl) (by kernel_rfl) (f47n3_ok FUEL bg1 bb2 0 0 h145)) (tds:=[]) (m:=[]) (keep:=[5]) (st2:=(f47n1E bg1 bb2 (.norm v146)).2) (by kernel_rfl) an rfl
 | ret =>
  obtain rfl:=Qe h;exact T.last' (T.bl (i:=0) (by kernel_rfl) (by kernel_rfl) (f47n3_ok FUEL bg1 bb2 0 0 h145)) (tds:=[]) (m:=[]) (keep:=[4]) (st2:=(f47n1E bg1 bb2 .ret).2) (by kernel_rfl) an rfl
inductive f47n0O where
 | ret (v151:Bool)
def f47n0E(a1:List Qa)(a2:Int):f47n0O→Ex×Tr×Hp
 | .ret v151=>(.ret,mkS [(4,(jB v151))],[])
def f47n0S(a1:List Qa)(a2:Int):Tr×Hp:=(Qu [(jL 3 Qa.cells a1),(jI a2)] 0 .leaf,[])
noncomputable def f47n0(a1:List Qa)(a2:Int):Option f47n0O :=
 bif decide (100<(a1.length:Int)) then
  some (.ret false)
 else
  (f47n1 a1 a2).bind fun o148=>match o148 with
  | .norm v150=>some (.ret (decide (v150≤1125899906842624)))
  | .ret=>some (.ret false)
theorem f47n0_ok(a1:List Qa)(a2:Int){o:f47n0O}(h:f47n0 a1 a2=some o):T Try.prog Try.f47.ntmps 0 c47 (f47n0S a1 a2) (·=f47n0E a1 a2 o):=by
 unfold f47n0 at h;rcases Qh h with ⟨h4,h⟩|⟨h4,h⟩
 ·obtain rfl:=Qe h;exact rK Qf 2 [j3,([],[],[(1,.val (jI (a1.length:Int)))]),j3] [some true] [] [] [4] .ret ((f47n0E a1 a2 (.ret false)).2) (ap (Qo (xs:=a1) (c:=Qa.cells)) (ap h4 an)) rfl
 ·refine rN Qf 3 [j3,([],[],[(1,.val (jI (a1.length:Int)))]),j3] [some false] [] [] [0,1,5] (f47n1S a1 a2) (ap (Qo (xs:=a1) (c:=Qa.cells)) (ap h4 an)) ?_;obtain ⟨o148,h149,h⟩:=Qc h;cases o148 with
  | norm v150 =>
   refine T.oneN (by kernel_rfl) (f47n1_ok a1 a2 h149) (st2:=(f47n1E a1 a2 (.norm v150)).2) rfl ?_;obtain rfl:=Qe h;exact rE Qf [j3] [] [] [] [4] (.ret,(f47n0E a1 a2 (.ret (decide (v150≤1125899906842624)))).2) an rfl
  | ret =>
   obtain rfl:=Qe h;exact T.oneX' (by kernel_rfl) (f47n1_ok a1 a2 h149) (tds:=[]) (m:=[]) (keep:=[4]) (st2:=(f47n0E a1 a2 (.ret false)).2) (by kernel_rfl) an rfl rfl
noncomputable def f47(a1:List Qa)(a2:Int):Option Bool:=(f47n0 a1 a2).bind fun o=>match o with
 | .ret v151=>some v151
theorem f47_ok(a1:List Qa)(a2:Int){r:Bool}(h:f47 a1 a2=some r):Qm Try.prog false 47 [(jL 3 Qa.cells a1),(jI a2)] [] (jB r) []:=by
 unfold f47 at h;obtain ⟨o,ho,h⟩:=Qc h;cases o with
 | ret v151 =>
  obtain rfl:=Qe h;exact Qm.plain Qf (f:=Try.f47) (c:=c47) (by kernel_rfl) (by kernel_rfl) (by kernel_rfl) (by kernel_rfl) ((f47n0_ok a1 a2 ho).mono fun r e=>by subst e; exact ⟨.inl rfl,(jB v151),(jB v151),by kernel_rfl,by kernel_rfl,((Wk.refl _):Wk (jB v151) (jB v151))⟩)

noncomputable def c24:Code:=Try.f24.body.getD .skip
inductive f24n0O where
 | ret (v14:Int)
def f24n0E(a1:List Qb):f24n0O→Ex×Tr×Hp
 | .ret v14=>(.ret,mkS [(2,(jI v14))],[])
def f24n0S(a1:List Qb):Tr×Hp:=(Qu [(jL 4 Qb.cells a1)] 0 .leaf,[])
noncomputable def f24n0(a1:List Qb):Option f24n0O :=
 bif decide (100<(a1.length:Int)) then
  some (.ret 8)
 else
  (f44 a1).bind fun x9 =>
  (f47 x9 0).bind fun x11 =>
  bif x11 then
   some (.ret 0)
  else
   some (.ret 8)
theorem f24n0_ok(a1:List Qb){o:f24n0O}(h:f24n0 a1=some o):T Try.prog Try.f24.ntmps 0 c24 (f24n0S a1) (·=f24n0E a1 o):=by
 unfold f24n0 at h;rcases Qh h with ⟨h8,h⟩|⟨h8,h⟩
 ·obtain rfl:=Qe h;exact rK Qf 2 [j3,(jT [4,5,6,7],[(8,.bool true)],[(1,.val (jI (a1.length:Int)))]),j3] [none] [] [] [2] .ret ((f24n0E a1 (.ret 8)).2) (ap (Qo (xs:=a1) (c:=Qb.cells)) (ap h8 (ap4 h8 an))) rfl
 ·obtain ⟨x9,h10,h⟩:=Qc h;obtain ⟨x11,h12,h⟩:=Qc h;rcases Qh h with ⟨h13,h⟩|⟨h13,h⟩
  ·obtain rfl:=Qe h;exact rE Qf [j3,(jF [4,5,6,7],[jH 5 (jL 3 Qa.cells x9),jH 6 (jB x11),(8,.bool false)],[(1,.val (jI (a1.length:Int)))]),j3] [some false] [] [] [2] (.ret,(f24n0E a1 (.ret 0)).2) (ap (Qo (xs:=a1) (c:=Qb.cells)) (ap h8 (ap4 h8 (ap (f44_ok a1 h10) (ap (f47_ok x9 0 h12) (ap (Qag h13) an)))))) rfl
  ·obtain rfl:=Qe h;exact rK Qf 2 [j3,(jF [4,5,6,7],[jH 5 (jL 3 Qa.cells x9),jH 6 (jB x11),(8,.bool false)],[(1,.val (jI (a1.length:Int)))]),j3] [some true] [] [] [2] .ret ((f24n0E a1 (.ret 8)).2) (ap (Qo (xs:=a1) (c:=Qb.cells)) (ap h8 (ap4 h8 (ap (f44_ok a1 h10) (ap (f47_ok x9 0 h12) (ap (Qae h13) an)))))) rfl
noncomputable def f24(a1:List Qb):Option Int:=(f24n0 a1).bind fun o=>match o with
 | .ret v14=>some v14
theorem f24_ok(a1:List Qb){r:Int}(h:f24 a1=some r):Qm Try.prog false 24 [(jL 4 Qb.cells a1)] [] (jI r) []:=by
 unfold f24 at h;obtain ⟨o,ho,h⟩:=Qc h;cases o with
 | ret v14 =>
  obtain rfl:=Qe h;exact Qm.plain Qf (f:=Try.f24) (c:=c24) (by kernel_rfl) (by kernel_rfl) (by kernel_rfl) (by kernel_rfl) ((f24n0_ok a1 ho).mono fun r e=>by subst e; exact ⟨.inl rfl,(jI v14),(jI v14),by kernel_rfl,by kernel_rfl,((Wk.refl _):Wk (jI v14) (jI v14))⟩)

noncomputable def c52:Code:=Try.f52.body.getD .skip
inductive f52n2O where
 | exit0
 | ret (v35:Int)
def f52n2E(ba1:List Qb)(bj2:Qa):f52n2O→Ex×Tr×Hp
 | .exit0=>((.exit 0),mkS [],[])
 | .ret v35=>(.ret,mkS [(4,(jI v35))],[])
def f52n2S(ba1:List Qb)(bj2:Qa)(v24:Int):Tr×Hp:=(mkS [(0,(jL 4 Qb.cells ba1)),(3,(.bp 0 0)),(5,(jI v24))],[some (.box ((Qa.cells bj2).map .pl))])
noncomputable def f52n2:Nat→List Qb→Qa→Int→Option f52n2O
 | 0,_,_,_=>none
 | f+1,ba1,bj2,v24 =>
  bif decide (v24<(ba1.length:Int)) then
   (at? ba1 v24).bind fun x31 =>
   bif decide (x31.Level=bj2.Level) then
    bif (seq x31.Owner bj2.Owner) then
     some (.ret v24)
    else
     (f52n2 f ba1 bj2 (wr64 (v24+1)))
   else
    (f52n2 f ba1 bj2 (wr64 (v24+1)))
  else
   some .exit0
theorem f52n2_ok:∀(f:Nat)(ba1:List Qb)(bj2:Qa)(v24:Int){o:f52n2O},f52n2 f ba1 bj2 v24=some o→TL Try.prog Try.f52.ntmps 0 f (cL (cL (Qj 1 (cL (Qj 1 c52))))) (f52n2S ba1 bj2 v24) (·=f52n2E ba1 bj2 o)
 | 0,_,_,_,o,h=>by rw [f52n2] at h; cases h
 | f+1,ba1,bj2,v24,o,h=>by
  rw [f52n2] at h;refine TL.body (K:=fun s=>∃v24:Int,s=(f52n2S ba1 bj2 v24)∧f52n2 f ba1 bj2 v24=some o) ?_ (by rintro _ ⟨v24,rfl,hk⟩; exact f52n2_ok f _ _ _ hk);rcases Qh h with ⟨h26,h⟩|⟨h26,h⟩
  ·obtain ⟨x31,h32,h⟩:=Qc h;rcases Qh h with ⟨h33,h⟩|⟨h33,h⟩
   ·rcases Qh h with ⟨h34,h⟩|⟨h34,h⟩
    ·obtain rfl:=Qe h;exact rK Qf 2 [([],[],[(2,.val (jI (ba1.length:Int)))]),(jT [9,10,11,12,13,14,15,16],[(2,.idx (Int.toNat v24) (Qb.cells x31)),(11,.idx (Int.toNat v24) (Qb.cells x31)),(17,.bool true)],[]),j3] [some true,some true] [] [] [4] .ret ((f52n2E ba1 bj2 (.ret v24)).2) (ap (Qo (xs:=ba1) (c:=Qb.cells)) (ap h26 (ap (Qg h32).1 (ap (Qk Qb.cells (Qg h32).2) (ap3 h33 (ap (Qg h32).1 (ap (Qk Qb.cells (Qg h32).2) (ap2 h33 (ap4 h33 (ap h34 an)))))))))) (Qn.out rfl rfl)
    ·exact rE Qf [([],[],[(2,.val (jI (ba1.length:Int)))]),(jT [9,10,11,12,13,14,15,16],[(2,.idx (Int.toNat v24) (Qb.cells x31)),(11,.idx (Int.toNat v24) (Qb.cells x31)),(17,.bool true)],[]),j3] [some true,some false] [] [0] [0,3,5] (.norm,(f52n2S ba1 bj2 (wr64 (v24+1)))) (ap (Qo (xs:=ba1) (c:=Qb.cells)) (ap h26 (ap (Qg h32).1 (ap (Qk Qb.cells (Qg h32).2) (ap3 h33 (ap (Qg h32).1 (ap (Qk Qb.cells (Qg h32).2) (ap2 h33 (ap4 h33 (ap h34 an)))))))))) (Qn.norm ⟨(wr64 (v24+1)),rfl,h⟩)
   ·exact rE Qf [([],[],[(2,.val (jI (ba1.length:Int)))]),(jF [9,10,11,12,13,14,15,16],[(2,.idx (Int.toNat v24) (Qb.cells x31)),(17,.bool false)],[]),j3] [some true,none] [] [0] [0,3,5] (.norm,(f52n2S ba1 bj2 (wr64 (v24+1)))) (ap (Qo (xs:=ba1) (c:=Qb.cells)) (ap h26 (ap (Qg h32).1 (ap (Qk Qb.cells (Qg h32).2) (ap h33 (ap4 h33 (ap4 h33 an))))))) (Qn.norm ⟨(wr64 (v24+1)),rfl,h⟩)
  ·obtain rfl:=Qe h;exact rK Qf 1 [([],[],[(2,.val (jI (ba1.length:Int)))])] [some false] [] [] [] (.exit 0) ((f52n2E ba1 bj2 .exit0).2) (ap (Qo (xs:=ba1) (c:=Qb.cells)) (ap h26 an)) (Qn.out rfl rfl)
noncomputable def f52n2L(ba1:List Qb)(bj2:Qa):List Qb→Int→Option f52n2O
 | [],v24 =>
  some .exit0
 | x0::rest,v24 =>
  bif decide (x0.Level=bj2.Level) then
   bif (seq x0.Owner bj2.Owner) then
    some (.ret v24)
   else
    (f52n2L ba1 bj2 rest (v24+1))
  else
   (f52n2L ba1 bj2 rest (v24+1))
theorem f52n2L_eq(ba1:List Qb)(bj2:Qa):∀(rest:List Qb)(f k:Nat),ba1.drop k=rest→ba1.length≤maxLen→rest.length<f→f52n2 f ba1 bj2 (k:Int)=f52n2L ba1 bj2 rest (k:Int)
 | _,0,_,_,_,hf=>absurd hf (Nat.not_lt_zero _)
 | [],f+1,k,hd,hm,hf=>by
  have hk:¬((k:Int)<(ba1.length:Int)):=by have:=Qab hd; omega
  rw [f52n2,f52n2L];simp only [decide_eq_false hk,cond_false]
 | x0::rest,f+1,k,hd,hm,hf=>by
  obtain ⟨hx,hlt,hd'⟩:=Qv hd;have hk:(k:Int)<(ba1.length:Int):=by omega
  have hw:wr64 ((k:Int)+1)=(k:Int)+1:=Qaj (by omega) (by unfold maxLen at hm; omega);have ih:f52n2 f ba1 bj2 ((k:Int)+1)=f52n2L ba1 bj2 rest ((k:Int)+1):=f52n2L_eq ba1 bj2 rest f (k+1) hd' hm (by simpa using hf);rw [f52n2,f52n2L];simp only [decide_eq_true hk,cond_true,Qay,hx,Option.bind_some,hw,ih]
theorem f52n2_run(ba1:List Qb)(bj2:Qa)(hm:ba1.length≤maxLen):f52n2 FUEL ba1 bj2 0=f52n2L ba1 bj2 ba1 0:=f52n2L_eq ba1 bj2 ba1 FUEL 0 List.drop_zero hm (Qz hm)
inductive f52n1O where
 | norm
 | ret (v39:Int)
def f52n1E(ba1:List Qb)(bj2:Qa):f52n1O→Ex×Tr×Hp
 | .norm=>(.norm,mkS [],[])
 | .ret v39=>(.ret,mkS [(4,(jI v39))],[])
def f52n1S(ba1:List Qb)(bj2:Qa):Tr×Hp:=(mkS [(0,(jL 4 Qb.cells ba1)),(3,(.bp 0 0))],[some (.box ((Qa.cells bj2).map .pl))])
noncomputable def f52n1(ba1:List Qb)(bj2:Qa):Option f52n1O :=
 (f52n2 FUEL ba1 bj2 0).bind fun o36=>match o36 with
 | .exit0=>some .norm
 | .ret v38=>some (.ret v38)
theorem f52n1_ok(ba1:List Qb)(bj2:Qa){o:f52n1O}(h:f52n1 ba1 bj2=some o):T Try.prog Try.f52.ntmps 0 (cL (Qj 1 c52)) (f52n1S ba1 bj2) (·=f52n1E ba1 bj2 o):=by
 unfold f52n1 at h;refine rN Qf 1 [j3] [] [] [0] [0,3,5] (f52n2S ba1 bj2 0) an ?_;obtain ⟨o36,h37,h⟩:=Qc h;cases o36 with
 | exit0 =>
  obtain rfl:=Qe h;exact T.last' (T.bl (i:=0) (by kernel_rfl) (by kernel_rfl) (f52n2_ok FUEL ba1 bj2 0 h37)) (tds:=[]) (m:=[]) (keep:=[]) (st2:=(f52n1E ba1 bj2 .norm).2) (by kernel_rfl) an rfl
 | ret v38 =>
  obtain rfl:=Qe h;exact T.last' (T.bl (i:=0) (by kernel_rfl) (by kernel_rfl) (f52n2_ok FUEL ba1 bj2 0 h37)) (tds:=[]) (m:=[]) (keep:=[4]) (st2:=(f52n1E ba1 bj2 (.ret v38)).2) (by kernel_rfl) an rfl
inductive f52n0O where
 | ret (v43:Int)
def f52n0E(a1:List Qb)(a2:Qa):f52n0O→Ex×Tr×Hp
 | .ret v43=>(.ret,mkS [(4,(jI v43))],[])
def f52n0S(a1:List Qb)(a2:Qa):Tr×Hp:=(Qu [(jL 4 Qb.cells a1),(jA Qa.cells a2)] 0 .leaf,[])
noncomputable def f52n0(a1:List Qb)(a2:Qa):Option f52n0O :=
 (f52n1 a1 a2).bind fun o40=>match o40 with
 | .norm=>some (.ret (-1))
 | .ret v42=>some (.ret v42)
theorem f52n0_ok(a1:List Qb)(a2:Qa){o:f52n0O}(h:f52n0 a1 a2=some o):T Try.prog Try.f52.ntmps 0 c52 (f52n0S a1 a2) (·=f52n0E a1 a2 o):=by
 unfold f52n0 at h;refine rN Qf 1 [j3] [] [] [0] [0,3] (f52n1S a1 a2) an ?_;obtain ⟨o40,h41,h⟩:=Qc h;cases o40 with
 | norm =>
  refine T.oneN (by kernel_rfl) (f52n1_ok a1 a2 h41) (st2:=(f52n1E a1 a2 .norm).2) rfl ?_;obtain rfl:=Qe h;exact rE Qf [j3] [] [] [] [4] (.ret,(f52n0E a1 a2 (.ret (-1))).2) an rfl
 | ret v42 =>
  obtain rfl:=Qe h;exact T.oneX' (by kernel_rfl) (f52n1_ok a1 a2 h41) (tds:=[]) (m:=[]) (keep:=[4]) (st2:=(f52n0E a1 a2 (.ret v42)).2) (by kernel_rfl) an rfl rfl
noncomputable def f52(a1:List Qb)(a2:Qa):Option Int:=(f52n0 a1 a2).bind fun o=>match o with
 | .ret v43=>some v43
theorem f52_ok(a1:List Qb)(a2:Qa){r:Int}(h:f52 a1 a2=some r):Qm Try.prog false 52 [(jL 4 Qb.cells a1),(jA Qa.cells a2)] [] (jI r) []:=by
 unfold f52 at h;obtain ⟨o,ho,h⟩:=Qc h;cases o with
 | ret v43 =>
  obtain rfl:=Qe h;exact Qm.plain Qf (f:=Try.f52) (c:=c52) (by kernel_rfl) (by kernel_rfl) (by kernel_rfl) (by kernel_rfl) ((f52n0_ok a1 a2 ho).mono fun r e=>by subst e; exact ⟨.inl rfl,(jI v43),(jI v43),by kernel_rfl,by kernel_rfl,((Wk.refl _):Wk (jI v43) (jI v43))⟩)

noncomputable def c51:Code:=Try.f51.body.getD .skip
inductive f51n2O where
 | exit0
 | ret
def f51n2E(ba1:List Qb)(bg2:List Qa):f51n2O→Ex×Tr×Hp
 | .exit0=>((.exit 0),mkS [(0,(jL 4 Qb.cells ba1)),(1,(jL 3 Qa.cells bg2))],[])
 | .ret=>(.ret,mkS [(4,(jI 6))],[])
def f51n2S(ba1:List Qb)(bg2:List Qa)(v40:Int):Tr×Hp:=(mkS [(0,(jL 4 Qb.cells ba1)),(1,(jL 3 Qa.cells bg2)),(5,(jI v40))],[])
noncomputable def f51n2:Nat→List Qb→List Qa→Int→Option f51n2O
 | 0,_,_,_=>none
 | f+1,ba1,bg2,v40 =>
  bif decide (v40<(bg2.length:Int)) then
   (at? bg2 v40).bind fun x48 =>
   (f52 ba1 x48).bind fun x50 =>
   bif decide (x50<0) then
    some .ret
   else
    (f51n2 f ba1 bg2 (wr64 (v40+1)))
  else
   some .exit0
theorem f51n2_ok:∀(f:Nat)(ba1:List Qb)(bg2:List Qa)(v40:Int){o:f51n2O},f51n2 f ba1 bg2 v40=some o→TL Try.prog Try.f51.ntmps 0 f (cL (cL (Qj 1 (cL (Qj 3 c51))))) (f51n2S ba1 bg2 v40) (·=f51n2E ba1 bg2 o)
 | 0,_,_,_,o,h=>by rw [f51n2] at h; cases h
 | f+1,ba1,bg2,v40,o,h=>by
  rw [f51n2] at h;refine TL.body (K:=fun s=>∃v40:Int,s=(f51n2S ba1 bg2 v40)∧f51n2 f ba1 bg2 v40=some o) ?_ (by rintro _ ⟨v40,rfl,hk⟩; exact f51n2_ok f _ _ _ hk);rcases Qh h with ⟨h42,h⟩|⟨h42,h⟩
  ·obtain ⟨x48,h49,h⟩:=Qc h;obtain ⟨x50,h51,h⟩:=Qc h;rcases Qh h with ⟨h52,h⟩|⟨h52,h⟩
   ·obtain rfl:=Qe h;exact rK Qf 2 [([],[],[(2,.val (jI (bg2.length:Int)))]),([],[(3,.idx (Int.toNat v40) (Qa.cells x48)),jH 5 (jI x50)],[]),j3] [some true,some true] [] [] [4] .ret ((f51n2E ba1 bg2 .ret).2) (ap (Qo (xs:=bg2) (c:=Qa.cells)) (ap h42 (ap (Qg h49).1 (ap (Qk Qa.cells (Qg h49).2) (ap (f52_ok ba1 x48 h51) (ap h52 an)))))) (Qn.out rfl rfl)
   ·exact rE Qf [([],[],[(2,.val (jI (bg2.length:Int)))]),([],[(3,.idx (Int.toNat v40) (Qa.cells x48)),jH 5 (jI x50)],[]),j3] [some true,some false] [] [] [0,1,5] (.norm,(f51n2S ba1 bg2 (wr64 (v40+1)))) (ap (Qo (xs:=bg2) (c:=Qa.cells)) (ap h42 (ap (Qg h49).1 (ap (Qk Qa.cells (Qg h49).2) (ap (f52_ok ba1 x48 h51) (ap h52 an)))))) (Qn.norm ⟨(wr64 (v40+1)),rfl,h⟩)
  ·obtain rfl:=Qe h;exact rK Qf 1 [([],[],[(2,.val (jI (bg2.length:Int)))])] [some false] [] [] [0,1] (.exit 0) ((f51n2E ba1 bg2 .exit0).2) (ap (Qo (xs:=bg2) (c:=Qa.cells)) (ap h42 an)) (Qn.out rfl rfl)
noncomputable def f51n2L(ba1:List Qb)(bg2:List Qa):List Qa→Int→Option f51n2O
 | [],v40 =>
  some .exit0
 | x0::rest,v40 =>
  (f52 ba1 x0).bind fun x50 =>
  bif decide (x50<0) then
   some .ret
  else
   (f51n2L ba1 bg2 rest (v40+1))
theorem f51n2L_eq(ba1:List Qb)(bg2:List Qa):∀(rest:List Qa)(f k:Nat),bg2.drop k=rest→bg2.length≤maxLen→rest.length<f→f51n2 f ba1 bg2 (k:Int)=f51n2L ba1 bg2 rest (k:Int)
 | _,0,_,_,_,hf=>absurd hf (Nat.not_lt_zero _)
 | [],f+1,k,hd,hm,hf=>by
  have hk:¬((k:Int)<(bg2.length:Int)):=by have:=Qab hd; omega
  rw [f51n2,f51n2L];simp only [decide_eq_false hk,cond_false]
 | x0::rest,f+1,k,hd,hm,hf=>by
  obtain ⟨hx,hlt,hd'⟩:=Qv hd;have hk:(k:Int)<(bg2.length:Int):=by omega
  have hw:wr64 ((k:Int)+1)=(k:Int)+1:=Qaj (by omega) (by unfold maxLen at hm; omega);have ih:f51n2 f ba1 bg2 ((k:Int)+1)=f51n2L ba1 bg2 rest ((k:Int)+1):=f51n2L_eq ba1 bg2 rest f (k+1) hd' hm (by simpa using hf);rw [f51n2,f51n2L];simp only [decide_eq_true hk,cond_true,Qay,hx,Option.bind_some,hw,ih]
theorem f51n2_run(ba1:List Qb)(bg2:List Qa)(hm:bg2.length≤maxLen):f51n2 FUEL ba1 bg2 0=f51n2L ba1 bg2 bg2 0:=f51n2L_eq ba1 bg2 bg2 FUEL 0 List.drop_zero hm (Qz hm)
inductive f51n1O where
 | norm
 | ret
def f51n1E(ba1:List Qb)(bg2:List Qa):f51n1O→Ex×Tr×Hp
 | .norm=>(.norm,mkS [(0,(jL 4 Qb.cells ba1)),(1,(jL 3 Qa.cells bg2))],[])
 | .ret=>(.ret,mkS [(4,(jI 6))],[])
def f51n1S(ba1:List Qb)(bg2:List Qa):Tr×Hp:=(mkS [(0,(jL 4 Qb.cells ba1)),(1,(jL 3 Qa.cells bg2))],[])
noncomputable def f51n1(ba1:List Qb)(bg2:List Qa):Option f51n1O :=
 (f51n2 FUEL ba1 bg2 0).bind fun o53=>match o53 with
 | .exit0=>some .norm
 | .ret=>some .ret
theorem f51n1_ok(ba1:List Qb)(bg2:List Qa){o:f51n1O}(h:f51n1 ba1 bg2=some o):T Try.prog Try.f51.ntmps 0 (cL (Qj 3 c51)) (f51n1S ba1 bg2) (·=f51n1E ba1 bg2 o):=by
 unfold f51n1 at h;refine rN Qf 1 [j3] [] [] [] [0,1,5] (f51n2S ba1 bg2 0) an ?_;obtain ⟨o53,h54,h⟩:=Qc h;cases o53 with
 | exit0 =>
  obtain rfl:=Qe h;exact T.last' (T.bl (i:=0) (by kernel_rfl) (by kernel_rfl) (f51n2_ok FUEL ba1 bg2 0 h54)) (tds:=[]) (m:=[]) (keep:=[0,1]) (st2:=(f51n1E ba1 bg2 .norm).2) (by kernel_rfl) an rfl
 | ret =>
  obtain rfl:=Qe h;exact T.last' (T.bl (i:=0) (by kernel_rfl) (by kernel_rfl) (f51n2_ok FUEL ba1 bg2 0 h54)) (tds:=[]) (m:=[]) (keep:=[4]) (st2:=(f51n1E ba1 bg2 .ret).2) (by kernel_rfl) an rfl
inductive f51n4O where
 | exit2
 | ret
def f51n4E(ba1:List Qb)(bg2:List Qa):f51n4O→Ex×Tr×Hp
 | .exit2=>((.exit 2),mkS [],[])
 | .ret=>(.ret,mkS [(4,(jI 50))],[])
def f51n4S(ba1:List Qb)(bg2:List Qa)(v90:Int):Tr×Hp:=(mkS [(0,(jL 4 Qb.cells ba1)),(1,(jL 3 Qa.cells bg2)),(6,(jI v90))],[])
noncomputable def f51n4:Nat→List Qb→List Qa→Int→Option f51n4O
 | 0,_,_,_=>none
 | f+1,ba1,bg2,v90 =>
  bif decide (v90<(bg2.length:Int)) then
   (at? bg2 v90).bind fun x100 =>
   (f52 ba1 x100).bind fun x102 =>
   (at? ba1 x102).bind fun x104 =>
   bif decide (x104.Size<x100.Amount) then
    some .ret
   else
    (f51n4 f ba1 bg2 (wr64 (v90+1)))
  else
   some .exit2
theorem f51n4_ok:∀(f:Nat)(ba1:List Qb)(bg2:List Qa)(v90:Int){o:f51n4O},f51n4 f ba1 bg2 v90=some o→TL Try.prog Try.f51.ntmps 0 f (cL (cL (Qj 1 (cL (Qj 0 (Qj 1 (Qj 3 c51))))))) (f51n4S ba1 bg2 v90) (·=f51n4E ba1 bg2 o)
 | 0,_,_,_,o,h=>by rw [f51n4] at h; cases h
 | f+1,ba1,bg2,v90,o,h=>by
  rw [f51n4] at h;refine TL.body (K:=fun s=>∃v90:Int,s=(f51n4S ba1 bg2 v90)∧f51n4 f ba1 bg2 v90=some o) ?_ (by rintro _ ⟨v90,rfl,hk⟩; exact f51n4_ok f _ _ _ hk);rcases Qh h with ⟨h92,h⟩|⟨h92,h⟩
  ·obtain ⟨x100,h101,h⟩:=Qc h;obtain ⟨x102,h103,h⟩:=Qc h;obtain ⟨x104,h105,h⟩:=Qc h;rcases Qh h with ⟨h106,h⟩|⟨h106,h⟩
   ·obtain rfl:=Qe h;exact rK Qf 2 [([],[],[(2,.val (jI (bg2.length:Int)))]),([],[(2,.idx (Int.toNat v90) (Qa.cells x100)),(9,.idx (Int.toNat v90) (Qa.cells x100)),jH 11 (jI x102),(12,.idx (Int.toNat x102) (Qb.cells x104))],[]),j3] [some true,some true] [] [] [4] .ret ((f51n4E ba1 bg2 .ret).2) (ap (Qo (xs:=bg2) (c:=Qa.cells)) (ap h92 (ap (Qg h101).1 (ap (Qk Qa.cells (Qg h101).2) (ap (Qg h101).1 (ap (Qk Qa.cells (Qg h101).2) (ap (Qg h105).1 (ap (Qk Qb.cells (Qg h105).2) (ap (f52_ok ba1 x100 h103) (ap h106 an)))))))))) (Qn.out rfl rfl)
   ·exact rE Qf [([],[],[(2,.val (jI (bg2.length:Int)))]),([],[(2,.idx (Int.toNat v90) (Qa.cells x100)),(9,.idx (Int.toNat v90) (Qa.cells x100)),jH 11 (jI x102),(12,.idx (Int.toNat x102) (Qb.cells x104))],[]),j3] [some true,some false] [] [] [0,1,6] (.norm,(f51n4S ba1 bg2 (wr64 (v90+1)))) (ap (Qo (xs:=bg2) (c:=Qa.cells)) (ap h92 (ap (Qg h101).1 (ap (Qk Qa.cells (Qg h101).2) (ap (Qg h101).1 (ap (Qk Qa.cells (Qg h101).2) (ap (Qg h105).1 (ap (Qk Qb.cells (Qg h105).2) (ap (f52_ok ba1 x100 h103) (ap h106 an)))))))))) (Qn.norm ⟨(wr64 (v90+1)),rfl,h⟩)
  ·obtain rfl:=Qe h;exact rK Qf 1 [([],[],[(2,.val (jI (bg2.length:Int)))])] [some false] [] [] [] (.exit 2) ((f51n4E ba1 bg2 .exit2).2) (ap (Qo (xs:=bg2) (c:=Qa.cells)) (ap h92 an)) (Qn.out rfl rfl)
noncomputable def f51n4L(ba1:List Qb)(bg2:List Qa):List Qa→Int→Option f51n4O
 | [],v90 =>
  some .exit2
 | x0::rest,v90 =>
  (f52 ba1 x0).bind fun x102 =>
  (at? ba1 x102).bind fun x104 =>
  bif decide (x104.Size<x0.Amount) then
   some .ret
  else
   (f51n4L ba1 bg2 rest (v90+1))
theorem f51n4L_eq(ba1:List Qb)(bg2:List Qa):∀(rest:List Qa)(f k:Nat),bg2.drop k=rest→bg2.length≤maxLen→rest.length<f→f51n4 f ba1 bg2 (k:Int)=f51n4L ba1 bg2 rest (k:Int)
 | _,0,_,_,_,hf=>absurd hf (Nat.not_lt_zero _)
 | [],f+1,k,hd,hm,hf=>by
  have hk:¬((k:Int)<(bg2.length:Int)):=by have:=Qab hd; omega
  rw [f51n4,f51n4L];simp only [decide_eq_false hk,cond_false]
 | x0::rest,f+1,k,hd,hm,hf=>by
  obtain ⟨hx,hlt,hd'⟩:=Qv hd;have hk:(k:Int)<(bg2.length:Int):=by omega
  have hw:wr64 ((k:Int)+1)=(k:Int)+1:=Qaj (by omega) (by unfold maxLen at hm; omega);have ih:f51n4 f ba1 bg2 ((k:Int)+1)=f51n4L ba1 bg2 rest ((k:Int)+1):=f51n4L_eq ba1 bg2 rest f (k+1) hd' hm (by simpa using hf);rw [f51n4,f51n4L];simp only [decide_eq_true hk,cond_true,Qay,hx,Option.bind_some,hw,ih]
theorem f51n4_run(ba1:List Qb)(bg2:List Qa)(hm:bg2.length≤maxLen):f51n4 FUEL ba1 bg2 0=f51n4L ba1 bg2 bg2 0:=f51n4L_eq ba1 bg2 bg2 FUEL 0 List.drop_zero hm (Qz hm)
inductive f51n3O where
 | norm
 | ret
def f51n3E(ba1:List Qb)(bg2:List Qa):f51n3O→Ex×Tr×Hp
 | .norm=>(.norm,mkS [],[])
 | .ret=>(.ret,mkS [(4,(jI 50))],[])
def f51n3S(ba1:List Qb)(bg2:List Qa):Tr×Hp:=(mkS [(0,(jL 4 Qb.cells ba1)),(1,(jL 3 Qa.cells bg2))],[])
noncomputable def f51n3(ba1:List Qb)(bg2:List Qa):Option f51n3O :=
 (f51n4 FUEL ba1 bg2 0).bind fun o107=>match o107 with
 | .exit2=>some .norm
 | .ret=>some .ret
theorem f51n3_ok(ba1:List Qb)(bg2:List Qa){o:f51n3O}(h:f51n3 ba1 bg2=some o):T Try.prog Try.f51.ntmps 0 (cL (Qj 0 (Qj 1 (Qj 3 c51)))) (f51n3S ba1 bg2) (·=f51n3E ba1 bg2 o):=by
 unfold f51n3 at h;refine rN Qf 1 [j3] [] [] [] [0,1,6] (f51n4S ba1 bg2 0) an ?_;obtain ⟨o107,h108,h⟩:=Qc h;cases o107 with
 | exit2 =>
  obtain rfl:=Qe h;exact T.last' (T.bl (i:=2) (by kernel_rfl) (by kernel_rfl) (f51n4_ok FUEL ba1 bg2 0 h108)) (tds:=[]) (m:=[]) (keep:=[]) (st2:=(f51n3E ba1 bg2 .norm).2) (by kernel_rfl) an rfl
 | ret =>
  obtain rfl:=Qe h;exact T.last' (T.bl (i:=2) (by kernel_rfl) (by kernel_rfl) (f51n4_ok FUEL ba1 bg2 0 h108)) (tds:=[]) (m:=[]) (keep:=[4]) (st2:=(f51n3E ba1 bg2 .ret).2) (by kernel_rfl) an rfl
inductive f51n0O where
 | ret (v111:Int)
def f51n0E(a1:List Qb)(a2:List Qa):f51n0O→Ex×Tr×Hp
 | .ret v111=>(.ret,mkS [(4,(jI v111))],[])
def f51n0S(a1:List Qb)(a2:List Qa):Tr×Hp:=(Qu [(jL 4 Qb.cells a1),(jL 3 Qa.cells a2)] 0 .leaf,[])
noncomputable def f51n0(a1:List Qb)(a2:List Qa):Option f51n0O :=
 (f24 a1).bind fun x6 =>
 bif decide (x6=0) then
  (f47 a2 1).bind fun x12 =>
  bif x12 then
   (f51n1 a1 a2).bind fun o55=>match o55 with
   | .norm=>(f51n3 a1 a2).bind fun o109=>match o109 with
    | .norm=>some (.ret 0)
    | .ret=>some (.ret 50)
   | .ret=>some (.ret 6)
  else
   some (.ret 2)
 else
  some (.ret 8)
theorem f51n0_ok(a1:List Qb)(a2:List Qa){o:f51n0O}(h:f51n0 a1 a2=some o):T Try.prog Try.f51.ntmps 0 c51 (f51n0S a1 a2) (·=f51n0E a1 a2 o):=by
 unfold f51n0 at h;obtain ⟨x6,h7,h⟩:=Qc h;rcases Qh h with ⟨h8,h⟩|⟨h8,h⟩
 ·obtain ⟨x12,h13,h⟩:=Qc h;rcases Qh h with ⟨h14,h⟩|⟨h14,h⟩
  ·refine rN Qf 3 [j3,([],[jH 1 (jI x6)],[]),([],[jH 1 (jB x12)],[])] [some false,some false] [] [] [0,1] (f51n1S a1 a2) (ap (f24_ok a1 h7) (ap (Qag h8) (ap (f47_ok a2 1 h13) (ap (Qag h14) an)))) ?_;obtain ⟨o55,h56,h⟩:=Qc h;cases o55 with
   | norm =>
    refine T.oneN (by kernel_rfl) (f51n1_ok a1 a2 h56) (st2:=(f51n1E a1 a2 .norm).2) rfl ?_;refine rN Qf 0 [] [] [] [] [0,1] (f51n3S a1 a2) an ?_;obtain ⟨o109,h110,h⟩:=Qc h;cases o109 with
    | norm =>
     refine T.oneN (by kernel_rfl) (f51n3_ok a1 a2 h110) (st2:=(f51n3E a1 a2 .norm).2) rfl ?_;obtain rfl:=Qe h;exact rE Qf [j3] [] [] [] [4] (.ret,(f51n0E a1 a2 (.ret 0)).2) an rfl
    | ret =>
     obtain rfl:=Qe h;exact T.oneX' (by kernel_rfl) (f51n3_ok a1 a2 h110) (tds:=[]) (m:=[]) (keep:=[4]) (st2:=(f51n0E a1 a2 (.ret 50)).2) (by kernel_rfl) an rfl rfl
   | ret =>
    obtain rfl:=Qe h;exact T.oneX' (by kernel_rfl) (f51n1_ok a1 a2 h56) (tds:=[]) (m:=[]) (keep:=[4]) (st2:=(f51n0E a1 a2 (.ret 6)).2) (by kernel_rfl) an rfl rfl
  ·obtain rfl:=Qe h;exact rK Qf 3 [j3,([],[jH 1 (jI x6)],[]),([],[jH 1 (jB x12)],[]),j3] [some false,some true] [] [] [4] .ret ((f51n0E a1 a2 (.ret 2)).2) (ap (f24_ok a1 h7) (ap (Qag h8) (ap (f47_ok a2 1 h13) (ap (Qae h14) an)))) rfl
 ·obtain rfl:=Qe h;exact rK Qf 2 [j3,([],[jH 1 (jI x6)],[]),j3] [some true] [] [] [4] .ret ((f51n0E a1 a2 (.ret 8)).2) (ap (f24_ok a1 h7) (ap (Qae h8) an)) rfl
noncomputable def f51(a1:List Qb)(a2:List Qa):Option Int:=(f51n0 a1 a2).bind fun o=>match o with
 | .ret v111=>some v111
theorem f51_ok(a1:List Qb)(a2:List Qa){r:Int}(h:f51 a1 a2=some r):Qm Try.prog false 51 [(jL 4 Qb.cells a1),(jL 3 Qa.cells a2)] [] (jI r) []:=by
 unfold f51 at h;obtain ⟨o,ho,h⟩:=Qc h;cases o with
 | ret v111 =>
  obtain rfl:=Qe h;exact Qm.plain Qf (f:=Try.f51) (c:=c51) (by kernel_rfl) (by kernel_rfl) (by kernel_rfl) (by kernel_rfl) ((f51n0_ok a1 a2 ho).mono fun r e=>by subst e; exact ⟨.inl rfl,(jI v111),(jI v111),by kernel_rfl,by kernel_rfl,((Wk.refl _):Wk (jI v111) (jI v111))⟩)

noncomputable def c28:Code:=Try.f28.body.getD .skip
inductive f28n1O where
 | norm (v15:List Qb)
def f28n1E(ba1:List Qb)(bg2:List Qa):f28n1O→Ex×Tr×Hp
 | .norm v15=>(.norm,mkS [(0,(jL 4 Qb.cells ba1)),(1,(jL 3 Qa.cells bg2)),(7,(.own 0))],[jR 4 Qb.cells v15])
def f28n1S(ba1:List Qb)(bg2:List Qa):Tr×Hp:=(mkS [(0,(jL 4 Qb.cells ba1)),(1,(jL 3 Qa.cells bg2))],[])
noncomputable def f28n1(ba1:List Qb)(bg2:List Qa):Option f28n1O :=
 bif (ba1.isEmpty) then
  some (.norm [])
 else
  req (fit ba1.length 40) <|
  some (.norm ba1)
theorem f28n1_ok(ba1:List Qb)(bg2:List Qa){o:f28n1O}(h:f28n1 ba1 bg2=some o):T Try.prog Try.f28.ntmps 0 (cL (Qj 3 c28)) (f28n1S ba1 bg2) (·=f28n1E ba1 bg2 o):=by
 unfold f28n1 at h;rcases Qh h with ⟨h13,h⟩|⟨h13,h⟩
 ·obtain rfl:=Qe h;exact rE Qf [([],[(2,.app false)],[])] [] [] [0] [0,1,7] (.norm,(f28n1E ba1 bg2 (.norm [])).2) (ap (nil_map (c:=Qb.cells) h13) an) rfl
 ·obtain ⟨h14,h⟩:=Qq h;obtain rfl:=Qe h;exact rE Qf [([],[(2,.app true)],[])] [] [] [1] [0,1,7] (.norm,(f28n1E ba1 bg2 (.norm ba1)).2) (ap (fit_map0z (te:=ti33) (xs:=ba1) (c:=Qb.cells) h14 rfl) (ap (ne_map (c:=Qb.cells) h13) (ap (len_all (c:=Qb.cells) (xs:=ba1) (n:=4) (fun _=>rfl)) an))) rfl
inductive f28n3O where
 | exit0 (v65:List Qb)
def f28n3E(ba1:List Qb)(bg2:List Qa):f28n3O→Ex×Tr×Hp
 | .exit0 v65=>((.exit 0),mkS [(7,(.own 0))],[jR 4 Qb.cells v65])
def f28n3S(ba1:List Qb)(bg2:List Qa)(v49:Int)(v50:List Qb):Tr×Hp:=(mkS [(0,(jL 4 Qb.cells ba1)),(1,(jL 3 Qa.cells bg2)),(7,(.own 0)),(8,(jI v49))],[jR 4 Qb.cells v50])
noncomputable def f28n3:Nat→List Qb→List Qa→Int→List Qb→Option f28n3O
 | 0,_,_,_,_=>none
 | f+1,ba1,bg2,v49,v50 =>
  bif decide (v49<(bg2.length:Int)) then
   (at? bg2 v49).bind fun x59 =>
   (f52 ba1 x59).bind fun x61 =>
   (at? v50 x61).bind fun x63 =>
   (f28n3 f ba1 bg2 (wr64 (v49+1)) (v50.set (Int.toNat x61) (Qb.mk x63.Level x63.Owner (wr64 (x63.Size-x59.Amount)) x63.Called)))
  else
   some (.exit0 v50)
theorem f28n3_ok:∀(f:Nat)(ba1:List Qb)(bg2:List Qa)(v49:Int)(v50:List Qb){o:f28n3O},f28n3 f ba1 bg2 v49 v50=some o→TL Try.prog Try.f28.ntmps 0 f (cL (cL (Qj 1 (cL (Qj 0 (Qj 1 (Qj 3 c28))))))) (f28n3S ba1 bg2 v49 v50) (·=f28n3E ba1 bg2 o)
 | 0,_,_,_,_,o,h=>by rw [f28n3] at h; cases h
 | f+1,ba1,bg2,v49,v50,o,h=>by
  rw [f28n3] at h;refine TL.body (K:=fun s=>∃v49:Int,∃v50:List Qb,s=(f28n3S ba1 bg2 v49 v50)∧f28n3 f ba1 bg2 v49 v50=some o) ?_ (by rintro _ ⟨v49,v50,rfl,hk⟩; exact f28n3_ok f _ _ _ _ hk);rcases Qh h with ⟨h52,h⟩|⟨h52,h⟩
  ·obtain ⟨x59,h60,h⟩:=Qc h;obtain ⟨x61,h62,h⟩:=Qc h;obtain ⟨x63,h64,h⟩:=Qc h
   exact rE Qf [([],[],[(2,.val (jI (bg2.length:Int)))]),([],[(3,.idx (Int.toNat v49) (Qa.cells x59)),jH 5 (jI x61)],[]),([],[(4,.at_ (Int.toNat x61)),(6,.idx 0 (Qb.cells x63)),(9,.idx (Int.toNat v49) (Qa.cells x59)),(13,.at_ (Int.toNat x61)),(15,.idx 0 (Qb.cells x63))],[(15,.row 0 ((v50.set (Int.toNat x61) (Qb.mk x63.Level x63.Owner (wr64 (x63.Size-x59.Amount)) x63.Called)).map Qb.cells))]),j3] [some true] [] [0] [0,1,7,8] (.norm,(f28n3S ba1 bg2 (wr64 (v49+1)) (v50.set (Int.toNat x61) (Qb.mk x63.Level x63.Owner (wr64 (x63.Size-x59.Amount)) x63.Called)))) (ap (Qo (xs:=bg2) (c:=Qa.cells)) (ap h52 (ap (Qg h60).1 (ap (Qk Qa.cells (Qg h60).2) (ap (f52_ok ba1 x59 h62) (ap (Qg h64).1 (ap (Qs Qb.cells (Qg h64).2) (ap (Qk Qb.cells (Qg h64).2) (ap (Qg h60).1 (ap (Qk Qa.cells (Qg h60).2) (ap (Qg h64).1 (ap (Qs Qb.cells (Qg h64).2) (ap (Qk Qb.cells (Qg h64).2) (ap (set_cv (xs:=v50) (c:=Qb.cells) (k:=(Int.toNat x61)) (x:=(Qb.mk x63.Level x63.Owner (wr64 (x63.Size-x59.Amount)) x63.Called))) an)))))))))))))) (Qn.norm ⟨(wr64 (v49+1)),(v50.set (Int.toNat x61) (Qb.mk x63.Level x63.Owner (wr64 (x63.Size-x59.Amount)) x63.Called)),rfl,h⟩)
  ·obtain rfl:=Qe h;exact rK Qf 1 [([],[],[(2,.val (jI (bg2.length:Int)))])] [some false] [] [0] [7] (.exit 0) ((f28n3E ba1 bg2 (.exit0 v50)).2) (ap (Qo (xs:=bg2) (c:=Qa.cells)) (ap h52 an)) (Qn.out rfl rfl)
noncomputable def f28n3L(ba1:List Qb)(bg2:List Qa):List Qa→Int→(List Qb)→Option f28n3O
 | [],v49,v50 =>
  some (.exit0 v50)
 | x0::rest,v49,v50 =>
  (f52 ba1 x0).bind fun x61 =>
  (at? v50 x61).bind fun x63 =>
  (f28n3L ba1 bg2 rest (v49+1) (v50.set (Int.toNat x61) (Qb.mk x63.Level x63.Owner (wr64 (x63.Size-x0.Amount)) x63.Called)))
theorem f28n3L_eq(ba1:List Qb)(bg2:List Qa):∀(rest:List Qa)(f k:Nat)(v50:List Qb),bg2.drop k=rest→bg2.length≤maxLen→rest.length<f→f28n3 f ba1 bg2 (k:Int) v50=f28n3L ba1 bg2 rest (k:Int) v50
 | _,0,_,_,_,_,hf=>absurd hf (Nat.not_lt_zero _)
 | [],f+1,k,v50,hd,hm,hf=>by
  have hk:¬((k:Int)<(bg2.length:Int)):=by have:=Qab hd; omega
  rw [f28n3,f28n3L];simp only [decide_eq_false hk,cond_false]
 | x0::rest,f+1,k,v50,hd,hm,hf=>by
  obtain ⟨hx,hlt,hd'⟩:=Qv hd;have hk:(k:Int)<(bg2.length:Int):=by omega
  have hw:wr64 ((k:Int)+1)=(k:Int)+1:=Qaj (by omega) (by unfold maxLen at hm; omega);have ih:∀(v50:List Qb),f28n3 f ba1 bg2 ((k:Int)+1) v50=f28n3L ba1 bg2 rest ((k:Int)+1) v50:=fun v50=>f28n3L_eq ba1 bg2 rest f (k+1) v50 hd' hm (by simpa using hf);rw [f28n3,f28n3L];simp only [decide_eq_true hk,cond_true,Qay,hx,Option.bind_some,hw,ih]
theorem f28n3_run(ba1:List Qb)(bg2:List Qa)(v50:List Qb)(hm:bg2.length≤maxLen):f28n3 FUEL ba1 bg2 0 v50=f28n3L ba1 bg2 bg2 0 v50:=f28n3L_eq ba1 bg2 bg2 FUEL 0 v50 List.drop_zero hm (Qz hm)
inductive f28n2O where
 | norm (v69:List Qb)
def f28n2E(ba1:List Qb)(bg2:List Qa)(ba3:List Qb):f28n2O→Ex×Tr×Hp
 | .norm v69=>(.norm,mkS [(7,(.own 0))],[jR 4 Qb.cells v69])
def f28n2S(ba1:List Qb)(bg2:List Qa)(ba3:List Qb):Tr×Hp:=(mkS [(0,(jL 4 Qb.cells ba1)),(1,(jL 3 Qa.cells bg2)),(7,(.own 0))],[jR 4 Qb.cells ba3])
noncomputable def f28n2(ba1:List Qb)(bg2:List Qa)(ba3:List Qb):Option f28n2O :=
 (f28n3 FUEL ba1 bg2 0 ba3).bind fun o66=>match o66 with
 | .exit0 v68=>some (.norm v68)
theorem f28n2_ok(ba1:List Qb)(bg2:List Qa)(ba3:List Qb){o:f28n2O}(h:f28n2 ba1 bg2 ba3=some o):T Try.prog Try.f28.ntmps 0 (cL (Qj 0 (Qj 1 (Qj 3 c28)))) (f28n2S ba1 bg2 ba3) (·=f28n2E ba1 bg2 ba3 o):=by
 unfold f28n2 at h;refine rN Qf 1 [j3] [] [] [0] [0,1,7,8] (f28n3S ba1 bg2 0 ba3) an ?_;obtain ⟨o66,h67,h⟩:=Qc h;cases o66 with
 | exit0 v68 =>
  obtain rfl:=Qe h;exact T.last' (T.bl (i:=0) (by kernel_rfl) (by kernel_rfl) (f28n3_ok FUEL ba1 bg2 0 ba3 h67)) (tds:=[]) (m:=[0]) (keep:=[7]) (st2:=(f28n2E ba1 bg2 ba3 (.norm v68)).2) (by kernel_rfl) an rfl
inductive f28n0O where
 | ret (v73:Int) (v74:List Qb)
def f28n0E(a1:List Qb)(a2:List Qa):f28n0O→Ex×Tr×Hp
 | .ret v73 v74=>(.ret,mkS [(4,(.own 0)),(5,(jI v73))],[jR 4 Qb.cells v74])
def f28n0S(a1:List Qb)(a2:List Qa):Tr×Hp:=(Qu [(jL 4 Qb.cells a1),(jL 3 Qa.cells a2)] 0 .leaf,[])
noncomputable def f28n0(a1:List Qb)(a2:List Qa):Option f28n0O :=
 (f51 a1 a2).bind fun x5 =>
 bif decide (x5=0) then
  (f28n1 a1 a2).bind fun o16=>match o16 with
  | .norm v18=>(f28n2 a1 a2 v18).bind fun o70=>match o70 with
   | .norm v72=>some (.ret 0 v72)
 else
  some (.ret x5 [])
theorem f28n0_ok(a1:List Qb)(a2:List Qa){o:f28n0O}(h:f28n0 a1 a2=some o):T Try.prog Try.f28.ntmps 0 c28 (f28n0S a1 a2) (·=f28n0E a1 a2 o):=by
 unfold f28n0 at h;obtain ⟨x5,h6,h⟩:=Qc h;rcases Qh h with ⟨h8,h⟩|⟨h8,h⟩
 ·refine rN Qf 3 [j3,([],[jH 2 (jI x5)],[]),j3] [some false] [] [] [0,1] (f28n1S a1 a2) (ap (f51_ok a1 a2 h6) (ap (Qag h8) an)) ?_;obtain ⟨o16,h17,h⟩:=Qc h;cases o16 with
  | norm v18 =>
   refine T.oneN (by kernel_rfl) (f28n1_ok a1 a2 h17) (st2:=(f28n1E a1 a2 (.norm v18)).2) rfl ?_;refine rN Qf 0 [] [] [] [0] [0,1,7] (f28n2S a1 a2 v18) an ?_;obtain ⟨o70,h71,h⟩:=Qc h;cases o70 with
   | norm v72 =>
    refine T.oneN (by kernel_rfl) (f28n2_ok a1 a2 v18 h71) (st2:=(f28n2E a1 a2 v18 (.norm v72)).2) rfl ?_;obtain rfl:=Qe h;exact rE Qf [j3] [] [] [0] [4,5] (.ret,(f28n0E a1 a2 (.ret 0 v72)).2) an rfl
 ·obtain rfl:=Qe h;exact rK Qf 3 [j3,([],[jH 2 (jI x5)],[]),j3,j3] [some true] [.mat 4 4] [0] [4,5] .ret ((f28n0E a1 a2 (.ret x5 [])).2) (ap (f51_ok a1 a2 h6) (ap (Qae h8) an)) rfl
noncomputable def f28(a1:List Qb)(a2:List Qa):Option ((List Qb)×Int):=(f28n0 a1 a2).bind fun o=>match o with
 | .ret v73 v74=>some (v74,v73)
theorem f28_ok(a1:List Qb)(a2:List Qa){r:(List Qb)×Int}(h:f28 a1 a2=some r):Qm Try.prog false 28 [(jL 4 Qb.cells a1),(jL 3 Qa.cells a2)] [] (.tup [(jL 4 Qb.cells r.1),(jI r.2)]) []:=by
 unfold f28 at h;obtain ⟨o,ho,h⟩:=Qc h;cases o with
 | ret v73 v74 =>
  obtain rfl:=Qe h;exact Qm.plain Qf (f:=Try.f28) (c:=c28) (by kernel_rfl) (by kernel_rfl) (by kernel_rfl) (by kernel_rfl) ((f28n0_ok a1 a2 ho).mono fun r e=>by subst e; exact ⟨.inl rfl,(.tup [(.own 0),(jI v73)]),(.tup [(jL 4 Qb.cells v74),(jI v73)]),by kernel_rfl,by kernel_rfl,((Wk.refl _):Wk (.tup [(jL 4 Qb.cells v74),(jI v73)]) (.tup [(jL 4 Qb.cells v74),(jI v73)]))⟩)

noncomputable def c53:Code:=Try.f53.body.getD .skip
inductive f53r1n0O where
 | norm (v11:Int)
def f53r1n0E(a1 a2:Int)(a3:List Qb)(a4:Int):f53r1n0O→Ex×Tr×Hp
 | .norm v11=>(.norm,mkS [],[some (.box (((cLst 4 Qb.cells) a3).map .pl)),some (.box (((cInt .i64) v11).map .pl))])
def f53r1n0S(a1 a2:Int)(a3:List Qb)(a4:Int):Tr×Hp:=(Qu [(jI a1),(jI a2),(.bp 0 0),(.bp 1 0)] 0 .leaf,[some (.box (((cLst 4 Qb.cells) a3).map .pl)),some (.box (((cInt .i64) a4).map .pl))])
noncomputable def f53r1n0(a1 a2:Int)(a3:List Qb)(a4:Int):Option f53r1n0O :=
 (at? a3 a1).bind fun x7 =>
 bif x7.Called then
  some (.norm (wr64 (a4+a2)))
 else
  some (.norm a4)
theorem f53r1n0_ok(a1 a2:Int)(a3:List Qb)(a4:Int){o:f53r1n0O}(h:f53r1n0 a1 a2 a3 a4=some o):T Try.prog Try.f53.ntmps 2 c53 (f53r1n0S a1 a2 a3 a4) (·=f53r1n0E a1 a2 a3 a4 o):=by
 unfold f53r1n0 at h;obtain ⟨x7,h8,h⟩:=Qc h;rcases Qh h with ⟨h10,h⟩|⟨h10,h⟩
 ·obtain rfl:=Qe h;exact rE Qf [([],[(2,.idx (Int.toNat a1) (Qb.cells x7))],[]),j3] [some true] [] [] [] (.norm,(f53r1n0E a1 a2 a3 a4 (.norm (wr64 (a4+a2)))).2) (ap (Qg h8).1 (ap (Qk Qb.cells (Qg h8).2) (ap h10 an))) rfl
 ·obtain rfl:=Qe h;exact rE Qf [([],[(2,.idx (Int.toNat a1) (Qb.cells x7))],[])] [some false] [] [] [] (.norm,(f53r1n0E a1 a2 a3 a4 (.norm a4)).2) (ap (Qg h8).1 (ap (Qk Qb.cells (Qg h8).2) (ap h10 an))) rfl
noncomputable def f53r1(a1 a2:Int)(a3:List Qb)(a4:Int):Option Int:=(f53r1n0 a1 a2 a3 a4).bind fun o=>match o with
 | .norm v11=>some v11
theorem f53r1_ok(a1 a2:Int)(a3:List Qb)(a4:Int){r:Int}(h:f53r1 a1 a2 a3 a4=some r):Qm Try.prog true 53 [(jI a1),(jI a2),(.bp 0 0),(.bp 1 0)] [some (.box (((cLst 4 Qb.cells) a3).map .pl)),some (.box (((cInt .i64) a4).map .pl))] (.tup []) [some (.box (((cLst 4 Qb.cells) a3).map .pl)),some (.box (((cInt .i64) r).map .pl))]:=by
 unfold f53r1 at h;obtain ⟨o,ho,h⟩:=Qc h;cases o with
 | norm v11 =>
  obtain rfl:=Qe h;exact Qm.shared Qf (f:=Try.f53) (c:=c53) (by kernel_rfl) (by kernel_rfl) (by kernel_rfl) ((f53r1n0_ok a1 a2 a3 a4 ho).mono fun r e=>by subst e; exact ⟨.inr rfl,by kernel_rfl,by kernel_rfl⟩)

inductive f49r2n2O where
 | exit0 (v50:List (Key_×Int))
def f49r2n2E(ba1:List Qb)(bg2:List Qa)(bb3:Int):f49r2n2O→Ex×Tr×Hp
 | .exit0 v50=>((.exit 0),mkS [(0,(jL 4 Qb.cells ba1)),(1,(jL 3 Qa.cells bg2)),(2,(.clo 53 [(.bp 0 0),(.bp 1 0)])),(8,(.mp 2))],[some (.box (((cLst 4 Qb.cells) ba1).map .pl)),some (.box (((cInt .i64) bb3).map .pl)),some (.map (v50.map (mkv (pAgg Key_.cells) (pInt .i64))))])
def f49r2n2S(ba1:List Qb)(bg2:List Qa)(bb3 v38:Int)(v39:List (Key_×Int)):Tr×Hp:=(mkS [(0,(jL 4 Qb.cells ba1)),(1,(jL 3 Qa.cells bg2)),(2,(.clo 53 [(.bp 0 0),(.bp 1 0)])),(8,(.mp 2)),(27,(jL 4 Qb.cells ba1)),(28,(jI (ba1.length:Int))),(29,(jI v38))],[some (.box (((cLst 4 Qb.cells) ba1).map .pl)),some (.box (((cInt .i64) bb3).map .pl)),some (.map (v39.map (mkv (pAgg Key_.cells) (pInt .i64))))])
noncomputable def f49r2n2:Nat→List Qb→List Qa→Int→Int→List (Key_×Int)→Option f49r2n2O
 | 0,_,_,_,_,_=>none
 | f+1,ba1,bg2,bb3,v38,v39 =>
  bif decide (v38<(ba1.length:Int)) then
   (at? ba1 v38).bind fun x46 =>
   (f36 x46).bind fun x48 =>
   (f49r2n2 f ba1 bg2 bb3 (wr64 (v38+1)) (mPut Key_.eqb x48 v38 v39))
  else
   some (.exit0 v39)
theorem f49r2n2_ok:∀(f:Nat)(ba1:List Qb)(bg2:List Qa)(bb3 v38:Int)(v39:List (Key_×Int)){o:f49r2n2O},f49r2n2 f ba1 bg2 bb3 v38 v39=some o→TL Try.prog Try.f49.ntmps 2 f (cL (cL (Qj 1 (cL (Qj 4 c49))))) (f49r2n2S ba1 bg2 bb3 v38 v39) (·=f49r2n2E ba1 bg2 bb3 o)
 | 0,_,_,_,_,_,o,h=>by rw [f49r2n2] at h; cases h
 | f+1,ba1,bg2,bb3,v38,v39,o,h=>by
  rw [f49r2n2] at h;refine TL.body (K:=fun s=>∃v38:Int,∃v39:List (Key_×Int),s=(f49r2n2S ba1 bg2 bb3 v38 v39)∧f49r2n2 f ba1 bg2 bb3 v38 v39=some o) ?_ (by rintro _ ⟨v38,v39,rfl,hk⟩; exact f49r2n2_ok f _ _ _ _ _ hk);rcases Qh h with ⟨h41,h⟩|⟨h41,h⟩
  ·obtain ⟨x46,h47,h⟩:=Qc h;obtain ⟨x48,h49,h⟩:=Qc h;exact rE Qf [j3,([],[(1,.idx (Int.toNat v38) (Qb.cells x46))],[]),([],[jH 2 (jA Key_.cells x48),(4,.mset ((mPut Key_.eqb x48 v38 v39).map (mkv (pAgg Key_.cells) (pInt .i64))))],[]),j3] [some true] [] [2] [0,1,2,8,27,28,29] (.norm,(f49r2n2S ba1 bg2 bb3 (wr64 (v38+1)) (mPut Key_.eqb x48 v38 v39))) (ap h41 (ap (Qg h47).1 (ap (Qk Qb.cells (Qg h47).2) (ap (mset_map (vp:=(pInt .i64)) key_87 x48 v38 v39) (ap (f36_ok x46 h49) an))))) (Qn.norm ⟨(wr64 (v38+1)),(mPut Key_.eqb x48 v38 v39),rfl,h⟩)
  ·obtain rfl:=Qe h;exact rK Qf 2 [j3] [some false] [] [2] [0,1,2,8] (.exit 0) ((f49r2n2E ba1 bg2 bb3 (.exit0 v39)).2) (ap h41 an) (Qn.out rfl rfl)
noncomputable def f49r2n2L(ba1:List Qb)(bg2:List Qa)(bb3:Int):List Qb→Int→(List (Key_×Int))→Option f49r2n2O
 | [],v38,v39 =>
  some (.exit0 v39)
 | x0::rest,v38,v39 =>
  (f36 x0).bind fun x48 =>
  (f49r2n2L ba1 bg2 bb3 rest (v38+1) (mPut Key_.eqb x48 v38 v39))
theorem f49r2n2L_eq(ba1:List Qb)(bg2:List Qa)(bb3:Int):∀(rest:List Qb)(f k:Nat)(v39:List (Key_×Int)),ba1.drop k=rest→ba1.length≤maxLen→rest.length<f→f49r2n2 f ba1 bg2 bb3 (k:Int) v39=f49r2n2L ba1 bg2 bb3 rest (k:Int) v39
 | _,0,_,_,_,_,hf=>absurd hf (Nat.not_lt_zero _)
 | [],f+1,k,v39,hd,hm,hf=>by
  have hk:¬((k:Int)<(ba1.length:Int)):=by have:=Qab hd; omega
  rw [f49r2n2,f49r2n2L];simp only [decide_eq_false hk,cond_false]
 | x0::rest,f+1,k,v39,hd,hm,hf=>by
  obtain ⟨hx,hlt,hd'⟩:=Qv hd;have hk:(k:Int)<(ba1.length:Int):=by omega
  have hw:wr64 ((k:Int)+1)=(k:Int)+1:=Qaj (by omega) (by unfold maxLen at hm; omega);have ih:∀(v39:List (Key_×Int)),f49r2n2 f ba1 bg2 bb3 ((k:Int)+1) v39=f49r2n2L ba1 bg2 bb3 rest ((k:Int)+1) v39:=fun v39=>f49r2n2L_eq ba1 bg2 bb3 rest f (k+1) v39 hd' hm (by simpa using hf);rw [f49r2n2,f49r2n2L];simp only [decide_eq_true hk,cond_true,Qay,hx,Option.bind_some,hw,ih]
theorem f49r2n2_run(ba1:List Qb)(bg2:List Qa)(bb3:Int)(v39:List (Key_×Int))(hm:ba1.length≤maxLen):f49r2n2 FUEL ba1 bg2 bb3 0 v39=f49r2n2L ba1 bg2 bb3 ba1 0 v39:=f49r2n2L_eq ba1 bg2 bb3 ba1 FUEL 0 v39 List.drop_zero hm (Qz hm)
inductive f49r2n1O where
 | norm (v54:List (Key_×Int))
def f49r2n1E(ba1:List Qb)(bg2:List Qa)(bb3:Int):f49r2n1O→Ex×Tr×Hp
 | .norm v54=>(.norm,mkS [(0,(jL 4 Qb.cells ba1)),(1,(jL 3 Qa.cells bg2)),(2,(.clo 53 [(.bp 0 0),(.bp 1 0)])),(8,(.mp 2))],[some (.box (((cLst 4 Qb.cells) ba1).map .pl)),some (.box (((cInt .i64) bb3).map .pl)),some (.map (v54.map (mkv (pAgg Key_.cells) (pInt .i64))))])
def f49r2n1S(ba1:List Qb)(bg2:List Qa)(bb3:Int):Tr×Hp:=(mkS [(0,(jL 4 Qb.cells ba1)),(1,(jL 3 Qa.cells bg2)),(2,(.clo 53 [(.bp 0 0),(.bp 1 0)])),(8,(.mp 2))],[some (.box (((cLst 4 Qb.cells) ba1).map .pl)),some (.box (((cInt .i64) bb3).map .pl)),some (.map ([].map (mkv (pAgg Key_.cells) (pInt .i64))))])
noncomputable def f49r2n1(ba1:List Qb)(bg2:List Qa)(bb3:Int):Option f49r2n1O :=
 (f49r2n2 FUEL ba1 bg2 bb3 0 []).bind fun o51=>match o51 with
 | .exit0 v53=>some (.norm v53)
theorem f49r2n1_ok(ba1:List Qb)(bg2:List Qa)(bb3:Int){o:f49r2n1O}(h:f49r2n1 ba1 bg2 bb3=some o):T Try.prog Try.f49.ntmps 2 (cL (Qj 4 c49)) (f49r2n1S ba1 bg2 bb3) (·=f49r2n1E ba1 bg2 bb3 o):=by
 unfold f49r2n1 at h;refine rN Qf 1 [([],[],[(1,.val (jI (ba1.length:Int)))])] [] [] [2] [0,1,2,8,27,28,29] (f49r2n2S ba1 bg2 bb3 0 []) (ap (Qo (xs:=ba1) (c:=Qb.cells)) an) ?_;obtain ⟨o51,h52,h⟩:=Qc h;cases o51 with
 | exit0 v53 =>
  obtain rfl:=Qe h;exact T.last' (T.bl (i:=0) (by kernel_rfl) (by kernel_rfl) (f49r2n2_ok FUEL ba1 bg2 bb3 0 [] h52)) (tds:=[]) (m:=[2]) (keep:=[0,1,2,8]) (st2:=(f49r2n1E ba1 bg2 bb3 (.norm v53)).2) (by kernel_rfl) an rfl
inductive f49r2n4O where
 | exit2 (v116:Int)
 | ret
def f49r2n4E(ba1:List Qb)(bg2:List Qa)(bb3:Int)(bh4:List (Key_×Int)):f49r2n4O→Ex×Tr×Hp
 | .exit2 v116=>((.exit 2),mkS [(1,(jL 3 Qa.cells bg2)),(2,(.clo 53 [(.bp 0 0),(.bp 1 0)])),(8,(.mp 2)),(11,(jI v116))],[some (.box (((cLst 4 Qb.cells) ba1).map .pl)),some (.box (((cInt .i64) bb3).map .pl)),some (.map (bh4.map (mkv (pAgg Key_.cells) (pInt .i64))))])
 | .ret=>(.ret,mkS [(6,(jI 6))],[some (.box (((cLst 4 Qb.cells) ba1).map .pl)),some (.box (((cInt .i64) bb3).map .pl))])
def f49r2n4S(ba1:List Qb)(bg2:List Qa)(bb3:Int)(bh4:List (Key_×Int))(v96 v97:Int):Tr×Hp:=(mkS [(0,(jL 4 Qb.cells ba1)),(1,(jL 3 Qa.cells bg2)),(2,(.clo 53 [(.bp 0 0),(.bp 1 0)])),(8,(.mp 2)),(11,(jI v96)),(39,(jL 3 Qa.cells bg2)),(40,(jI (bg2.length:Int))),(41,(jI v97))],[some (.box (((cLst 4 Qb.cells) ba1).map .pl)),some (.box (((cInt .i64) bb3).map .pl)),some (.map (bh4.map (mkv (pAgg Key_.cells) (pInt .i64))))])
noncomputable def f49r2n4:Nat→List Qb→List Qa→Int→List (Key_×Int)→Int→Int→Option f49r2n4O
 | 0,_,_,_,_,_,_=>none
 | f+1,ba1,bg2,bb3,bh4,v96,v97 =>
  bif decide (v97<(bg2.length:Int)) then
   (at? bg2 v97).bind fun x108 =>
   (f39 x108).bind fun x110 =>
   bif (mHas Key_.eqb x110 bh4) then
    (at? ba1 (mGet Key_.eqb 0 x110 bh4)).bind fun x113 =>
    bif decide (x113.Size<x108.Amount) then
     (f49r2n4 f ba1 bg2 bb3 bh4 50 (wr64 (v97+1)))
    else
     (f49r2n4 f ba1 bg2 bb3 bh4 v96 (wr64 (v97+1)))
   else
    some .ret
  else
   some (.exit2 v96)
theorem f49r2n4_ok:∀(f:Nat)(ba1:List Qb)(bg2:List Qa)(bb3:Int)(bh4:List (Key_×Int))(v96 v97:Int){o:f49r2n4O},f49r2n4 f ba1 bg2 bb3 bh4 v96 v97=some o→TL Try.prog Try.f49.ntmps 2 f (cL (cL (Qj 1 (cL (Qj 1 (Qj 1 (Qj 4 c49))))))) (f49r2n4S ba1 bg2 bb3 bh4 v96 v97) (·=f49r2n4E ba1 bg2 bb3 bh4 o)
 | 0,_,_,_,_,_,_,o,h=>by rw [f49r2n4] at h; cases h
 | f+1,ba1,bg2,bb3,bh4,v96,v97,o,h=>by
  rw [f49r2n4] at h;refine TL.body (K:=fun s=>∃v96:Int,∃v97:Int,s=(f49r2n4S ba1 bg2 bb3 bh4 v96 v97)∧f49r2n4 f ba1 bg2 bb3 bh4 v96 v97=some o) ?_ (by rintro _ ⟨v96,v97,rfl,hk⟩; exact f49r2n4_ok f _ _ _ _ _ _ hk);rcases Qh h with ⟨h99,h⟩|⟨h99,h⟩
  ·obtain ⟨x108,h109,h⟩:=Qc h;obtain ⟨x110,h111,h⟩:=Qc h;rcases Qh h with ⟨h112,h⟩|⟨h112,h⟩
   ·obtain ⟨x113,h114,h⟩:=Qc h;rcases Qh h with ⟨h115,h⟩|⟨h115,h⟩
    ·exact rE Qf [j3,([],[(0,.idx (Int.toNat v97) (Qa.cells x108))],[]),([],[jH 2 (jA Key_.cells x110),(3,.look ((pInt .i64) (mGet Key_.eqb 0 x110 bh4)) (mHas Key_.eqb x110 bh4))],[]),j3,([],[(4,.idx (Int.toNat (mGet Key_.eqb 0 x110 bh4)) (Qb.cells x113))],[]),j3,j3] [some true,some false,some true] [] [2] [0,1,2,8,11,39,40,41] (.norm,(f49r2n4S ba1 bg2 bb3 bh4 50 (wr64 (v97+1)))) (ap h99 (ap (Qg h109).1 (ap (Qk Qa.cells (Qg h109).2) (ap (look_map (vp:=(pInt .i64)) (e:=3) key_87 0 (by kernel_rfl) x110 bh4) (ap (f39_ok x108 h111) (ap (Qag h112) (ap (Qg h114).1 (ap (Qk Qb.cells (Qg h114).2) (ap h115 an))))))))) (Qn.norm ⟨50,(wr64 (v97+1)),rfl,h⟩)
    ·exact rE Qf [j3,([],[(0,.idx (Int.toNat v97) (Qa.cells x108))],[]),([],[jH 2 (jA Key_.cells x110),(3,.look ((pInt .i64) (mGet Key_.eqb 0 x110 bh4)) (mHas Key_.eqb x110 bh4))],[]),j3,([],[(4,.idx (Int.toNat (mGet Key_.eqb 0 x110 bh4)) (Qb.cells x113))],[]),j3] [some true,some false,some false] [] [2] [0,1,2,8,11,39,40,41] (.norm,(f49r2n4S ba1 bg2 bb3 bh4 v96 (wr64 (v97+1)))) (ap h99 (ap (Qg h109).1 (ap (Qk Qa.cells (Qg h109).2) (ap (look_map (vp:=(pInt .i64)) (e:=3) key_87 0 (by kernel_rfl) x110 bh4) (ap (f39_ok x108 h111) (ap (Qag h112) (ap (Qg h114).1 (ap (Qk Qb.cells (Qg h114).2) (ap h115 an))))))))) (Qn.norm ⟨v96,(wr64 (v97+1)),rfl,h⟩)
   ·obtain rfl:=Qe h;exact rK Qf 3 [j3,([],[(0,.idx (Int.toNat v97) (Qa.cells x108))],[]),([],[jH 2 (jA Key_.cells x110),(3,.look ((pInt .i64) (mGet Key_.eqb 0 x110 bh4)) (mHas Key_.eqb x110 bh4))],[]),j3,j3] [some true,some true] [] [] [6] .ret ((f49r2n4E ba1 bg2 bb3 bh4 .ret).2) (ap h99 (ap (Qg h109).1 (ap (Qk Qa.cells (Qg h109).2) (ap (look_map (vp:=(pInt .i64)) (e:=3) key_87 0 (by kernel_rfl) x110 bh4) (ap (f39_ok x108 h111) (ap (Qae h112) an)))))) (Qn.out rfl rfl)
  ·obtain rfl:=Qe h;exact rK Qf 2 [j3] [some false] [] [2] [1,2,8,11] (.exit 2) ((f49r2n4E ba1 bg2 bb3 bh4 (.exit2 v96)).2) (ap h99 an) (Qn.out rfl rfl)
noncomputable def f49r2n4L(ba1:List Qb)(bg2:List Qa)(bb3:Int)(bh4:List (Key_×Int)):List Qa→Int→Int→Option f49r2n4O
 | [],v96,v97 =>
  some (.exit2 v96)
 | x0::rest,v96,v97 =>
  (f39 x0).bind fun x110 =>
  bif (mHas Key_.eqb x110 bh4) then
   (at? ba1 (mGet Key_.eqb 0 x110 bh4)).bind fun x113 =>
   bif decide (x113.Size<x0.Amount) then
    (f49r2n4L ba1 bg2 bb3 bh4 rest 50 (v97+1))
   else
    (f49r2n4L ba1 bg2 bb3 bh4 rest v96 (v97+1))
  else
   some .ret
theorem f49r2n4L_eq(ba1:List Qb)(bg2:List Qa)(bb3:Int)(bh4:List (Key_×Int)):∀(rest:List Qa)(f k:Nat)(v96:Int),bg2.drop k=rest→bg2.length≤maxLen→rest.length<f→f49r2n4 f ba1 bg2 bb3 bh4 v96 (k:Int)=f49r2n4L ba1 bg2 bb3 bh4 rest v96 (k:Int)
 | _,0,_,_,_,_,hf=>absurd hf (Nat.not_lt_zero _)
 | [],f+1,k,v96,hd,hm,hf=>by
  have hk:¬((k:Int)<(bg2.length:Int)):=by have:=Qab hd; omega
  rw [f49r2n4,f49r2n4L];simp only [decide_eq_false hk,cond_false]
 | x0::rest,f+1,k,v96,hd,hm,hf=>by
  obtain ⟨hx,hlt,hd'⟩:=Qv hd;have hk:(k:Int)<(bg2.length:Int):=by omega
  have hw:wr64 ((k:Int)+1)=(k:Int)+1:=Qaj (by omega) (by unfold maxLen at hm; omega);have ih:∀(v96:Int),f49r2n4 f ba1 bg2 bb3 bh4 v96 ((k:Int)+1)=f49r2n4L ba1 bg2 bb3 bh4 rest v96 ((k:Int)+1):=fun v96=>f49r2n4L_eq ba1 bg2 bb3 bh4 rest f (k+1) v96 hd' hm (by simpa using hf);rw [f49r2n4,f49r2n4L];simp only [decide_eq_true hk,cond_true,Qay,hx,Option.bind_some,hw,ih]
theorem f49r2n4_run(ba1:List Qb)(bg2:List Qa)(bb3:Int)(bh4:List (Key_×Int))(v96:Int)(hm:bg2.length≤maxLen):f49r2n4 FUEL ba1 bg2 bb3 bh4 v96 0=f49r2n4L ba1 bg2 bb3 bh4 bg2 v96 0:=f49r2n4L_eq ba1 bg2 bb3 bh4 bg2 FUEL 0 v96 List.drop_zero hm (Qz hm)
inductive f49r2n3O where
 | norm (v120:Int)
 | ret
def f49r2n3E(ba1:List Qb)(bg2:List Qa)(bb3:Int)(bh4:List (Key_×Int)):f49r2n3O→Ex×Tr×Hp
 | .norm v120=>(.norm,mkS [(1,(jL 3 Qa.cells bg2)),(2,(.clo 53 [(.bp 0 0),(.bp 1 0)])),(8,(.mp 2)),(11,(jI v120))],[some (.box (((cLst 4 Qb.cells) ba1).map .pl)),some (.box (((cInt .i64) bb3).map .pl)),some (.map (bh4.map (mkv (pAgg Key_.cells) (pInt .i64))))])
 | .ret=>(.ret,mkS [(6,(jI 6))],[some (.box (((cLst 4 Qb.cells) ba1).map .pl)),some (.box (((cInt .i64) bb3).map .pl))])
def f49r2n3S(ba1:List Qb)(bg2:List Qa)(bb3:Int)(bh4:List (Key_×Int)):Tr×Hp:=(mkS [(0,(jL 4 Qb.cells ba1)),(1,(jL 3 Qa.cells bg2)),(2,(.clo 53 [(.bp 0 0),(.bp 1 0)])),(8,(.mp 2)),(11,(jI 0))],[some (.box (((cLst 4 Qb.cells) ba1).map .pl)),some (.box (((cInt .i64) bb3).map .pl)),some (.map (bh4.map (mkv (pAgg Key_.cells) (pInt .i64))))])
noncomputable def f49r2n3(ba1:List Qb)(bg2:List Qa)(bb3:Int)(bh4:List (Key_×Int)):Option f49r2n3O :=
 (f49r2n4 FUEL ba1 bg2 bb3 bh4 0 0).bind fun o117=>match o117 with
 | .exit2 v119=>some (.norm v119)
 | .ret=>some .ret
theorem f49r2n3_ok(ba1:List Qb)(bg2:List Qa)(bb3:Int)(bh4:List (Key_×Int)){o:f49r2n3O}(h:f49r2n3 ba1 bg2 bb3 bh4=some o):T Try.prog Try.f49.ntmps 2 (cL (Qj 1 (Qj 1 (Qj 4 c49)))) (f49r2n3S ba1 bg2 bb3 bh4) (·=f49r2n3E ba1 bg2 bb3 bh4 o):=by
 unfold f49r2n3 at h;refine rN Qf 1 [([],[],[(1,.val (jI (bg2.length:Int)))])] [] [] [2] [0,1,2,8,11,39,40,41] (f49r2n4S ba1 bg2 bb3 bh4 0 0) (ap (Qo (xs:=bg2) (c:=Qa.cells)) an) ?_;obtain ⟨o117,h118,h⟩:=Qc h;cases o117 with
 | exit2 v119 =>
  obtain rfl:=Qe h;exact T.last' (T.bl (i:=2) (by kernel_rfl) (by kernel_rfl) (f49r2n4_ok FUEL ba1 bg2 bb3 bh4 0 0 h118)) (tds:=[]) (m:=[2]) (keep:=[1,2,8,11]) (st2:=(f49r2n3E ba1 bg2 bb3 bh4 (.norm v119)).2) (by kernel_rfl) an rfl
 | ret =>
  obtain rfl:=Qe h;exact T.last' (T.bl (i:=2) (by kernel_rfl) (by kernel_rfl) (f49r2n4_ok FUEL ba1 bg2 bb3 bh4 0 0 h118)) (tds:=[]) (m:=[]) (keep:=[6]) (st2:=(f49r2n3E ba1 bg2 bb3 bh4 .ret).2) (by kernel_rfl) an rfl
inductive f49r2n6O where
 | exit4 (v172:Int)
def f49r2n6E(bg1:List Qa)(ba2:List Qb)(bh4:List (Key_×Int)):f49r2n6O→Ex×Tr×Hp
 | .exit4 v172=>((.exit 4),mkS [],[some (.box (((cLst 4 Qb.cells) ba2).map .pl)),some (.box (((cInt .i64) v172).map .pl))])
def f49r2n6S(bg1:List Qa)(ba2:List Qb)(bh4:List (Key_×Int))(v156 v157:Int):Tr×Hp:=(mkS [(2,(.clo 53 [(.bp 0 0),(.bp 1 0)])),(8,(.mp 2)),(66,(jL 3 Qa.cells bg1)),(67,(jI (bg1.length:Int))),(68,(jI v156))],[some (.box (((cLst 4 Qb.cells) ba2).map .pl)),some (.box (((cInt .i64) v157).map .pl)),some (.map (bh4.map (mkv (pAgg Key_.cells) (pInt .i64))))])
noncomputable def f49r2n6:Nat→List Qa→List Qb→List (Key_×Int)→Int→Int→Option f49r2n6O
 | 0,_,_,_,_,_=>none
 | f+1,bg1,ba2,bh4,v156,v157 =>
  bif decide (v156<(bg1.length:Int)) then
   (at? bg1 v156).bind fun x166 =>
   (f39 x166).bind fun x168 =>
   (f53r1 (mGet Key_.eqb 0 x168 bh4) x166.Amount ba2 v157).bind fun x170 =>
   (f49r2n6 f bg1 ba2 bh4 (wr64 (v156+1)) x170)
  else
   some (.exit4 v157)
theorem f49r2n6_ok:∀(f:Nat)(bg1:List Qa)(ba2:List Qb)(bh4:List (Key_×Int))(v156 v157:Int){o:f49r2n6O},f49r2n6 f bg1 ba2 bh4 v156 v157=some o→TL Try.prog Try.f49.ntmps 2 f (cL (cL (Qj 1 (cL (Qj 1 (Qj 1 (Qj 1 (Qj 1 (Qj 4 c49))))))))) (f49r2n6S bg1 ba2 bh4 v156 v157) (·=f49r2n6E bg1 ba2 bh4 o)
 | 0,_,_,_,_,_,o,h=>by rw [f49r2n6] at h; cases h
 | f+1,bg1,ba2,bh4,v156,v157,o,h=>by
  rw [f49r2n6] at h;refine TL.body (K:=fun s=>∃v156:Int,∃v157:Int,s=(f49r2n6S bg1 ba2 bh4 v156 v157)∧f49r2n6 f bg1 ba2 bh4 v156 v157=some o) ?_ (by rintro _ ⟨v156,v157,rfl,hk⟩; exact f49r2n6_ok f _ _ _ _ _ hk);rcases Qh h with ⟨h159,h⟩|⟨h159,h⟩
  ·obtain ⟨x166,h167,h⟩:=Qc h;obtain ⟨x168,h169,h⟩:=Qc h;obtain ⟨x170,h171,h⟩:=Qc h;exact rE Qf [j3,([],[(0,.idx (Int.toNat v156) (Qa.cells x166))],[]),([],[jH 3 (jA Key_.cells x168),(4,.look ((pInt .i64) (mGet Key_.eqb 0 x168 bh4)) (mHas Key_.eqb x168 bh4)),(7,.call (.tup []) [some (.box (((cLst 4 Qb.cells) ba2).map .pl)),some (.box (((cInt .i64) x170).map .pl)),none,none,none])],[]),j3] [some true] [] [2] [2,8,66,67,68] (.norm,(f49r2n6S bg1 ba2 bh4 (wr64 (v156+1)) x170)) (ap h159 (ap (Qg h167).1 (ap (Qk Qa.cells (Qg h167).2) (ap (look_map (vp:=(pInt .i64)) (e:=3) key_87 0 (by kernel_rfl) x168 bh4) (ap (f39_ok x166 h169) (ap (Qm.rn 5 [0,1] (f53r1_ok (mGet Key_.eqb 0 x168 bh4) x166.Amount ba2 v157 h171)) an)))))) (Qn.norm ⟨(wr64 (v156+1)),x170,rfl,h⟩)
  ·obtain rfl:=Qe h;exact rK Qf 2 [j3] [some false] [] [] [] (.exit 4) ((f49r2n6E bg1 ba2 bh4 (.exit4 v157)).2) (ap h159 an) (Qn.out rfl rfl)
noncomputable def f49r2n6L(bg1:List Qa)(ba2:List Qb)(bh4:List (Key_×Int)):List Qa→Int→Int→Option f49r2n6O
 | [],v156,v157 =>
  some (.exit4 v157)
 | x0::rest,v156,v157 =>
  (f39 x0).bind fun x168 =>
  (f53r1 (mGet Key_.eqb 0 x168 bh4) x0.Amount ba2 v157).bind fun x170 =>
  (f49r2n6L bg1 ba2 bh4 rest (v156+1) x170)
theorem f49r2n6L_eq(bg1:List Qa)(ba2:List Qb)(bh4:List (Key_×Int)):∀(rest:List Qa)(f k:Nat)(v157:Int),bg1.drop k=rest→bg1.length≤maxLen→rest.length<f→f49r2n6 f bg1 ba2 bh4 (k:Int) v157=f49r2n6L bg1 ba2 bh4 rest (k:Int) v157
 | _,0,_,_,_,_,hf=>absurd hf (Nat.not_lt_zero _)
 | [],f+1,k,v157,hd,hm,hf=>by
  have hk:¬((k:Int)<(bg1.length:Int)):=by have:=Qab hd; omega
  rw [f49r2n6,f49r2n6L];simp only [decide_eq_false hk,cond_false]
 | x0::rest,f+1,k,v157,hd,hm,hf=>by
  obtain ⟨hx,hlt,hd'⟩:=Qv hd;have hk:(k:Int)<(bg1.length:Int):=by omega
  have hw:wr64 ((k:Int)+1)=(k:Int)+1:=Qaj (by omega) (by unfold maxLen at hm; omega);have ih:∀(v157:Int),f49r2n6 f bg1 ba2 bh4 ((k:Int)+1) v157=f49r2n6L bg1 ba2 bh4 rest ((k:Int)+1) v157:=fun v157=>f49r2n6L_eq bg1 ba2 bh4 rest f (k+1) v157 hd' hm (by simpa using hf);rw [f49r2n6,f49r2n6L];simp only [decide_eq_true hk,cond_true,Qay,hx,Option.bind_some,hw,ih]
theorem f49r2n6_run(bg1:List Qa)(ba2:List Qb)(bh4:List (Key_×Int))(v157:Int)(hm:bg1.length≤maxLen):f49r2n6 FUEL bg1 ba2 bh4 0 v157=f49r2n6L bg1 ba2 bh4 bg1 0 v157:=f49r2n6L_eq bg1 ba2 bh4 bg1 FUEL 0 v157 List.drop_zero hm (Qz hm)
inductive f49r2n5O where
 | norm (v176:Int)
def f49r2n5E(bg1:List Qa)(ba2:List Qb)(bb3:Int)(bh4:List (Key_×Int)):f49r2n5O→Ex×Tr×Hp
 | .norm v176=>(.norm,mkS [],[some (.box (((cLst 4 Qb.cells) ba2).map .pl)),some (.box (((cInt .i64) v176).map .pl))])
def f49r2n5S(bg1:List Qa)(ba2:List Qb)(bb3:Int)(bh4:List (Key_×Int)):Tr×Hp:=(mkS [(1,(jL 3 Qa.cells bg1)),(2,(.clo 53 [(.bp 0 0),(.bp 1 0)])),(8,(.mp 2))],[some (.box (((cLst 4 Qb.cells) ba2).map .pl)),some (.box (((cInt .i64) bb3).map .pl)),some (.map (bh4.map (mkv (pAgg Key_.cells) (pInt .i64))))])
noncomputable def f49r2n5(bg1:List Qa)(ba2:List Qb)(bb3:Int)(bh4:List (Key_×Int)):Option f49r2n5O :=
 (f49r2n6 FUEL bg1 ba2 bh4 0 bb3).bind fun o173=>match o173 with
 | .exit4 v175=>some (.norm v175)
theorem f49r2n5_ok(bg1:List Qa)(ba2:List Qb)(bb3:Int)(bh4:List (Key_×Int)){o:f49r2n5O}(h:f49r2n5 bg1 ba2 bb3 bh4=some o):T Try.prog Try.f49.ntmps 2 (cL (Qj 1 (Qj 1 (Qj 1 (Qj 1 (Qj 4 c49)))))) (f49r2n5S bg1 ba2 bb3 bh4) (·=f49r2n5E bg1 ba2 bb3 bh4 o):=by
 unfold f49r2n5 at h;refine rN Qf 1 [([],[],[(1,.val (jI (bg1.length:Int)))])] [] [] [2] [2,8,66,67,68] (f49r2n6S bg1 ba2 bh4 0 bb3) (ap (Qo (xs:=bg1) (c:=Qa.cells)) an) ?_;obtain ⟨o173,h174,h⟩:=Qc h;cases o173 with
 | exit4 v175 =>
  obtain rfl:=Qe h;exact T.last' (T.bl (i:=4) (by kernel_rfl) (by kernel_rfl) (f49r2n6_ok FUEL bg1 ba2 bh4 0 bb3 h174)) (tds:=[]) (m:=[]) (keep:=[]) (st2:=(f49r2n5E bg1 ba2 bb3 bh4 (.norm v175)).2) (by kernel_rfl) an rfl
inductive f49r2n0O where
 | ret (v180:Int) (v181:Int)
def f49r2n0E(a1:List Qb)(a2:List Qa)(a3:Int):f49r2n0O→Ex×Tr×Hp
 | .ret v180 v181=>(.ret,mkS [(6,(jI v180))],[some (.box (((cLst 4 Qb.cells) a1).map .pl)),some (.box (((cInt .i64) v181).map .pl))])
def f49r2n0S(a1:List Qb)(a2:List Qa)(a3:Int):Tr×Hp:=(Qu [(jL 4 Qb.cells a1),(jL 3 Qa.cells a2),(.clo 53 [(.bp 0 0),(.bp 1 0)])] 0 .leaf,[some (.box (((cLst 4 Qb.cells) a1).map .pl)),some (.box (((cInt .i64) a3).map .pl))])
noncomputable def f49r2n0(a1:List Qb)(a2:List Qa)(a3:Int):Option f49r2n0O :=
 (f23 a1).bind fun x7 =>
 bif decide (x7=0) then
  (f38_39_40 a2 1).bind fun x13 =>
  bif x13 then
   (f49r2n1 a1 a2 a3).bind fun o55=>match o55 with
   | .norm v57=>(f49r2n3 a1 a2 a3 v57).bind fun o121=>match o121 with
    | .norm v123=>bif decide (v123=0) then
      (f49r2n5 a2 a1 a3 v57).bind fun o177=>match o177 with
      | .norm v179=>some (.ret 0 v179)
     else
      some (.ret v123 a3)
    | .ret=>some (.ret 6 a3)
  else
   some (.ret 2 a3)
 else
  some (.ret x7 a3)
theorem f49r2n0_ok(a1:List Qb)(a2:List Qa)(a3:Int){o:f49r2n0O}(h:f49r2n0 a1 a2 a3=some o):T Try.prog Try.f49.ntmps 2 c49 (f49r2n0S a1 a2 a3) (·=f49r2n0E a1 a2 a3 o):=by
 unfold f49r2n0 at h;obtain ⟨x7,h8,h⟩:=Qc h;rcases Qh h with ⟨h9,h⟩|⟨h9,h⟩
 ·obtain ⟨x13,h14,h⟩:=Qc h;rcases Qh h with ⟨h15,h⟩|⟨h15,h⟩
  ·refine rN Qf 4 [j3,([],[jH 1 (jI x7)],[]),j3,([],[jH 1 (jB x13)],[]),j3] [some false,some false] [] [2] [0,1,2,8] (f49r2n1S a1 a2 a3) (ap (f23_ok a1 h8) (ap (Qag h9) (ap (Qbr a2 1 h14) (ap (Qag h15) an)))) ?_;obtain ⟨o55,h56,h⟩:=Qc h;cases o55 with
   | norm v57 =>
    refine T.oneN (by kernel_rfl) (f49r2n1_ok a1 a2 a3 h56) (st2:=(f49r2n1E a1 a2 a3 (.norm v57)).2) rfl ?_;refine rN Qf 1 [j3] [] [] [2] [0,1,2,8,11] (f49r2n3S a1 a2 a3 v57) an ?_;obtain ⟨o121,h122,h⟩:=Qc h;cases o121 with
    | norm v123 =>
     refine T.oneN (by kernel_rfl) (f49r2n3_ok a1 a2 a3 v57 h122) (st2:=(f49r2n3E a1 a2 a3 v57 (.norm v123)).2) rfl ?_;rcases Qh h with ⟨h125,h⟩|⟨h125,h⟩
     ·refine rN Qf 1 [j3] [some false] [] [2] [1,2,8] (f49r2n5S a2 a1 a3 v57) (ap (Qag h125) an) ?_;obtain ⟨o177,h178,h⟩:=Qc h;cases o177 with
      | norm v179 =>
       refine T.oneN (by kernel_rfl) (f49r2n5_ok a2 a1 a3 v57 h178) (st2:=(f49r2n5E a2 a1 a3 v57 (.norm v179)).2) rfl ?_;obtain rfl:=Qe h;exact rE Qf [j3] [] [] [] [6] (.ret,(f49r2n0E a1 a2 a3 (.ret 0 v179)).2) an rfl
     ·obtain rfl:=Qe h;exact rK Qf 1 [j3,j3] [some true] [] [] [6] .ret ((f49r2n0E a1 a2 a3 (.ret v123 a3)).2) (ap (Qae h125) an) rfl
    | ret =>
     obtain rfl:=Qe h;exact T.oneX' (by kernel_rfl) (f49r2n3_ok a1 a2 a3 v57 h122) (tds:=[]) (m:=[]) (keep:=[6]) (st2:=(f49r2n0E a1 a2 a3 (.ret 6 a3)).2) (by kernel_rfl) an rfl rfl
  ·obtain rfl:=Qe h;exact rK Qf 3 [j3,([],[jH 1 (jI x7)],[]),j3,([],[jH 1 (jB x13)],[]),j3] [some false,some true] [] [] [6] .ret ((f49r2n0E a1 a2 a3 (.ret 2 a3)).2) (ap (f23_ok a1 h8) (ap (Qag h9) (ap (Qbr a2 1 h14) (ap (Qae h15) an)))) rfl
 ·obtain rfl:=Qe h;exact rK Qf 2 [j3,([],[jH 1 (jI x7)],[]),j3,j3] [some true] [] [] [6] .ret ((f49r2n0E a1 a2 a3 (.ret x7 a3)).2) (ap (f23_ok a1 h8) (ap (Qae h9) an)) rfl
noncomputable def f49r2(a1:List Qb)(a2:List Qa)(a3:Int):Option (Int×Int):=(f49r2n0 a1 a2 a3).bind fun o=>match o with
 | .ret v180 v181=>some (v180,v181)
theorem f49r2_ok(a1:List Qb)(a2:List Qa)(a3:Int){r:Int×Int}(h:f49r2 a1 a2 a3=some r):Qm Try.prog true 49 [(jL 4 Qb.cells a1),(jL 3 Qa.cells a2),(.clo 53 [(.bp 0 0),(.bp 1 0)])] [some (.box (((cLst 4 Qb.cells) a1).map .pl)),some (.box (((cInt .i64) a3).map .pl))] (jI r.1) [some (.box (((cLst 4 Qb.cells) a1).map .pl)),some (.box (((cInt .i64) r.2).map .pl))]:=by
 unfold f49r2 at h;obtain ⟨o,ho,h⟩:=Qc h;cases o with
 | ret v180 v181 =>
  obtain rfl:=Qe h;exact Qm.shared Qf (f:=Try.f49) (c:=c49) (by kernel_rfl) (by kernel_rfl) (by kernel_rfl) ((f49r2n0_ok a1 a2 a3 ho).mono fun r e=>by subst e; exact ⟨.inl rfl,by kernel_rfl,by kernel_rfl⟩)
end Go.Proofs.Ytgbolgaodaokcaa
namespace Go.Proofs.Ytgbolgaodaokcaa
set_option linter.unusedVariables false
set_option linter.unusedSimpArgs false
set_option maxRecDepth 100000
open Go.RowKit
noncomputable def c29:Code:=Try.f29.body.getD .skip
inductive f29n0O where
 | ret (v7:Int) (v8:Int)
def f29n0E(a1:List Qb)(a2:List Qa):f29n0O→Ex×Tr×Hp
 | .ret v7 v8=>(.ret,mkS [(4,(jI v7)),(5,(jI v8))],[])
def f29n0S(a1:List Qb)(a2:List Qa):Tr×Hp:=(Qu [(jL 4 Qb.cells a1),(jL 3 Qa.cells a2)] 0 .leaf,[])
noncomputable def f29n0(a1:List Qb)(a2:List Qa):Option f29n0O :=
 (f49r2 a1 a2 0).bind fun x5 =>
 some (.ret x5.2 x5.1)
theorem f29n0_ok(a1:List Qb)(a2:List Qa){o:f29n0O}(h:f29n0 a1 a2=some o):T Try.prog Try.f29.ntmps 0 c29 (f29n0S a1 a2) (·=f29n0E a1 a2 o):=by
 unfold f29n0 at h;obtain ⟨x5,h6,h⟩:=Qc h;obtain rfl:=Qe h;exact rE Qf [j3,j3,([],[(3,.call (jI x5.1) [some (.box (((cLst 4 Qb.cells) a1).map .pl)),some (.box (((cInt .i64) x5.2).map .pl))])],[]),j3] [] [] [] [4,5] (.ret,(f29n0E a1 a2 (.ret x5.2 x5.1)).2) (ap (f49r2_ok a1 a2 0 h6) an) rfl
noncomputable def f29(a1:List Qb)(a2:List Qa):Option (Int×Int):=(f29n0 a1 a2).bind fun o=>match o with
 | .ret v7 v8=>some (v7,v8)
theorem f29_ok(a1:List Qb)(a2:List Qa){r:Int×Int}(h:f29 a1 a2=some r):Qm Try.prog false 29 [(jL 4 Qb.cells a1),(jL 3 Qa.cells a2)] [] (.tup [(jI r.1),(jI r.2)]) []:=by
 unfold f29 at h;obtain ⟨o,ho,h⟩:=Qc h;cases o with
 | ret v7 v8 =>
  obtain rfl:=Qe h;exact Qm.plain Qf (f:=Try.f29) (c:=c29) (by kernel_rfl) (by kernel_rfl) (by kernel_rfl) (by kernel_rfl) ((f29n0_ok a1 a2 ho).mono fun r e=>by subst e; exact ⟨.inl rfl,(.tup [(jI v7),(jI v8)]),(.tup [(jI v7),(jI v8)]),by kernel_rfl,by kernel_rfl,((Wk.refl _):Wk (.tup [(jI v7),(jI v8)]) (.tup [(jI v7),(jI v8)]))⟩)

noncomputable def c30:Code:=Try.f30.body.getD .skip
inductive f30n2O where
 | exit0 (v61:Int)
def f30n2E(ba1:List Qb)(bg2:List Qa):f30n2O→Ex×Tr×Hp
 | .exit0 v61=>((.exit 0),mkS [(7,(jI v61))],[])
def f30n2S(ba1:List Qb)(bg2:List Qa)(v43 v44:Int):Tr×Hp:=(mkS [(0,(jL 4 Qb.cells ba1)),(1,(jL 3 Qa.cells bg2)),(7,(jI v43)),(8,(jI v44))],[])
noncomputable def f30n2:Nat→List Qb→List Qa→Int→Int→Option f30n2O
 | 0,_,_,_,_=>none
 | f+1,ba1,bg2,v43,v44 =>
  bif decide (v44<(bg2.length:Int)) then
   (at? bg2 v44).bind fun x54 =>
   (f52 ba1 x54).bind fun x56 =>
   (at? ba1 x56).bind fun x58 =>
   bif x58.Called then
    (f30n2 f ba1 bg2 (wr64 (v43+x54.Amount)) (wr64 (v44+1)))
   else
    (f30n2 f ba1 bg2 v43 (wr64 (v44+1)))
  else
   some (.exit0 v43)
theorem f30n2_ok:∀(f:Nat)(ba1:List Qb)(bg2:List Qa)(v43 v44:Int){o:f30n2O},f30n2 f ba1 bg2 v43 v44=some o→TL Try.prog Try.f30.ntmps 0 f (cL (cL (Qj 1 (cL (Qj 4 c30))))) (f30n2S ba1 bg2 v43 v44) (·=f30n2E ba1 bg2 o)
 | 0,_,_,_,_,o,h=>by rw [f30n2] at h; cases h
 | f+1,ba1,bg2,v43,v44,o,h=>by
  rw [f30n2] at h;refine TL.body (K:=fun s=>∃v43:Int,∃v44:Int,s=(f30n2S ba1 bg2 v43 v44)∧f30n2 f ba1 bg2 v43 v44=some o) ?_ (by rintro _ ⟨v43,v44,rfl,hk⟩; exact f30n2_ok f _ _ _ _ hk);rcases Qh h with ⟨h46,h⟩|⟨h46,h⟩
  ·obtain ⟨x54,h55,h⟩:=Qc h;obtain ⟨x56,h57,h⟩:=Qc h;obtain ⟨x58,h59,h⟩:=Qc h;rcases Qh h with ⟨h60,h⟩|⟨h60,h⟩
   ·exact rE Qf [([],[],[(2,.val (jI (bg2.length:Int)))]),([],[(4,.idx (Int.toNat v44) (Qa.cells x54)),jH 6 (jI x56),(7,.idx (Int.toNat x56) (Qb.cells x58))],[]),([],[(3,.idx (Int.toNat v44) (Qa.cells x54))],[]),j3] [some true,some true] [] [] [0,1,7,8] (.norm,(f30n2S ba1 bg2 (wr64 (v43+x54.Amount)) (wr64 (v44+1)))) (ap (Qo (xs:=bg2) (c:=Qa.cells)) (ap h46 (ap (Qg h55).1 (ap (Qk Qa.cells (Qg h55).2) (ap (Qg h59).1 (ap (Qk Qb.cells (Qg h59).2) (ap (f52_ok ba1 x54 h57) (ap h60 (ap (Qg h55).1 (ap (Qk Qa.cells (Qg h55).2) an)))))))))) (Qn.norm ⟨(wr64 (v43+x54.Amount)),(wr64 (v44+1)),rfl,h⟩)
   ·exact rE Qf [([],[],[(2,.val (jI (bg2.length:Int)))]),([],[(4,.idx (Int.toNat v44) (Qa.cells x54)),jH 6 (jI x56),(7,.idx (Int.toNat x56) (Qb.cells x58))],[]),j3] [some true,some false] [] [] [0,1,7,8] (.norm,(f30n2S ba1 bg2 v43 (wr64 (v44+1)))) (ap (Qo (xs:=bg2) (c:=Qa.cells)) (ap h46 (ap (Qg h55).1 (ap (Qk Qa.cells (Qg h55).2) (ap (Qg h59).1 (ap (Qk Qb.cells (Qg h59).2) (ap (f52_ok ba1 x54 h57) (ap h60 an)))))))) (Qn.norm ⟨v43,(wr64 (v44+1)),rfl,h⟩)
  ·obtain rfl:=Qe h;exact rK Qf 1 [([],[],[(2,.val (jI (bg2.length:Int)))])] [some false] [] [] [7] (.exit 0) ((f30n2E ba1 bg2 (.exit0 v43)).2) (ap (Qo (xs:=bg2) (c:=Qa.cells)) (ap h46 an)) (Qn.out rfl rfl)
noncomputable def f30n2L(ba1:List Qb)(bg2:List Qa):List Qa→Int→Int→Option f30n2O
 | [],v43,v44 =>
  some (.exit0 v43)
 | x0::rest,v43,v44 =>
  (f52 ba1 x0).bind fun x56 =>
  (at? ba1 x56).bind fun x58 =>
  bif x58.Called then
   (f30n2L ba1 bg2 rest (wr64 (v43+x0.Amount)) (v44+1))
  else
   (f30n2L ba1 bg2 rest v43 (v44+1))
theorem f30n2L_eq(ba1:List Qb)(bg2:List Qa):∀(rest:List Qa)(f k:Nat)(v43:Int),bg2.drop k=rest→bg2.length≤maxLen→rest.length<f→f30n2 f ba1 bg2 v43 (k:Int)=f30n2L ba1 bg2 rest v43 (k:Int)
 | _,0,_,_,_,_,hf=>absurd hf (Nat.not_lt_zero _)
 | [],f+1,k,v43,hd,hm,hf=>by
  have hk:¬((k:Int)<(bg2.length:Int)):=by have:=Qab hd; omega
  rw [f30n2,f30n2L];simp only [decide_eq_false hk,cond_false]
 | x0::rest,f+1,k,v43,hd,hm,hf=>by
  obtain ⟨hx,hlt,hd'⟩:=Qv hd;have hk:(k:Int)<(bg2.length:Int):=by omega
  have hw:wr64 ((k:Int)+1)=(k:Int)+1:=Qaj (by omega) (by unfold maxLen at hm; omega);have ih:∀(v43:Int),f30n2 f ba1 bg2 v43 ((k:Int)+1)=f30n2L ba1 bg2 rest v43 ((k:Int)+1):=fun v43=>f30n2L_eq ba1 bg2 rest f (k+1) v43 hd' hm (by simpa using hf);rw [f30n2,f30n2L];simp only [decide_eq_true hk,cond_true,Qay,hx,Option.bind_some,hw,ih]
theorem f30n2_run(ba1:List Qb)(bg2:List Qa)(v43:Int)(hm:bg2.length≤maxLen):f30n2 FUEL ba1 bg2 v43 0=f30n2L ba1 bg2 bg2 v43 0:=f30n2L_eq ba1 bg2 bg2 FUEL 0 v43 List.drop_zero hm (Qz hm)
inductive f30n1O where
 | norm (v65:Int)
def f30n1E(ba1:List Qb)(bg2:List Qa):f30n1O→Ex×Tr×Hp
 | .norm v65=>(.norm,mkS [(7,(jI v65))],[])
def f30n1S(ba1:List Qb)(bg2:List Qa):Tr×Hp:=(mkS [(0,(jL 4 Qb.cells ba1)),(1,(jL 3 Qa.cells bg2)),(7,(jI 0))],[])
noncomputable def f30n1(ba1:List Qb)(bg2:List Qa):Option f30n1O :=
 (f30n2 FUEL ba1 bg2 0 0).bind fun o62=>match o62 with
 | .exit0 v64=>some (.norm v64)
theorem f30n1_ok(ba1:List Qb)(bg2:List Qa){o:f30n1O}(h:f30n1 ba1 bg2=some o):T Try.prog Try.f30.ntmps 0 (cL (Qj 4 c30)) (f30n1S ba1 bg2) (·=f30n1E ba1 bg2 o):=by
 unfold f30n1 at h;refine rN Qf 1 [j3] [] [] [] [0,1,7,8] (f30n2S ba1 bg2 0 0) an ?_;obtain ⟨o62,h63,h⟩:=Qc h;cases o62 with
 | exit0 v64 =>
  obtain rfl:=Qe h;exact T.last' (T.bl (i:=0) (by kernel_rfl) (by kernel_rfl) (f30n2_ok FUEL ba1 bg2 0 0 h63)) (tds:=[]) (m:=[]) (keep:=[7]) (st2:=(f30n1E ba1 bg2 (.norm v64)).2) (by kernel_rfl) an rfl
inductive f30n0O where
 | ret (v69:Int) (v70:Int)
def f30n0E(a1:List Qb)(a2:List Qa):f30n0O→Ex×Tr×Hp
 | .ret v69 v70=>(.ret,mkS [(4,(jI v69)),(5,(jI v70))],[])
def f30n0S(a1:List Qb)(a2:List Qa):Tr×Hp:=(Qu [(jL 4 Qb.cells a1),(jL 3 Qa.cells a2)] 0 .leaf,[])
noncomputable def f30n0(a1:List Qb)(a2:List Qa):Option f30n0O :=
 (f51 a1 a2).bind fun x5 =>
 bif decide (x5=0) then
  (f30n1 a1 a2).bind fun o66=>match o66 with
  | .norm v68=>some (.ret v68 0)
 else
  some (.ret 0 x5)
theorem f30n0_ok(a1:List Qb)(a2:List Qa){o:f30n0O}(h:f30n0 a1 a2=some o):T Try.prog Try.f30.ntmps 0 c30 (f30n0S a1 a2) (·=f30n0E a1 a2 o):=by
 unfold f30n0 at h;obtain ⟨x5,h6,h⟩:=Qc h;rcases Qh h with ⟨h8,h⟩|⟨h8,h⟩
 ·refine rN Qf 4 [j3,([],[jH 2 (jI x5)],[]),j3,j3] [some false] [] [] [0,1,7] (f30n1S a1 a2) (ap (f51_ok a1 a2 h6) (ap (Qag h8) an)) ?_;obtain ⟨o66,h67,h⟩:=Qc h;cases o66 with
  | norm v68 =>
   refine T.oneN (by kernel_rfl) (f30n1_ok a1 a2 h67) (st2:=(f30n1E a1 a2 (.norm v68)).2) rfl ?_;obtain rfl:=Qe h;exact rE Qf [j3] [] [] [] [4,5] (.ret,(f30n0E a1 a2 (.ret v68 0)).2) an rfl
 ·obtain rfl:=Qe h;exact rK Qf 3 [j3,([],[jH 2 (jI x5)],[]),j3,j3] [some true] [] [] [4,5] .ret ((f30n0E a1 a2 (.ret 0 x5)).2) (ap (f51_ok a1 a2 h6) (ap (Qae h8) an)) rfl
noncomputable def f30(a1:List Qb)(a2:List Qa):Option (Int×Int):=(f30n0 a1 a2).bind fun o=>match o with
 | .ret v69 v70=>some (v69,v70)
theorem f30_ok(a1:List Qb)(a2:List Qa){r:Int×Int}(h:f30 a1 a2=some r):Qm Try.prog false 30 [(jL 4 Qb.cells a1),(jL 3 Qa.cells a2)] [] (.tup [(jI r.1),(jI r.2)]) []:=by
 unfold f30 at h;obtain ⟨o,ho,h⟩:=Qc h;cases o with
 | ret v69 v70 =>
  obtain rfl:=Qe h;exact Qm.plain Qf (f:=Try.f30) (c:=c30) (by kernel_rfl) (by kernel_rfl) (by kernel_rfl) (by kernel_rfl) ((f30n0_ok a1 a2 ho).mono fun r e=>by subst e; exact ⟨.inl rfl,(.tup [(jI v69),(jI v70)]),(.tup [(jI v69),(jI v70)]),by kernel_rfl,by kernel_rfl,((Wk.refl _):Wk (.tup [(jI v69),(jI v70)]) (.tup [(jI v69),(jI v70)]))⟩)

noncomputable def c42:Code:=Try.f42.body.getD .skip
inductive f42n0O where
 | ret (v4:Bool)
def f42n0E(a1:Int):f42n0O→Ex×Tr×Hp
 | .ret v4=>(.ret,mkS [(2,(jB v4))],[])
def f42n0S(a1:Int):Tr×Hp:=(Qu [(jI a1)] 0 .leaf,[])
noncomputable def f42n0(a1:Int):Option f42n0O :=
 bif decide (0≤a1) then
  some (.ret (decide (a1≤1125899906842624)))
 else
  some (.ret false)
theorem f42n0_ok(a1:Int){o:f42n0O}(h:f42n0 a1=some o):T Try.prog Try.f42.ntmps 0 c42 (f42n0S a1) (·=f42n0E a1 o):=by
 unfold f42n0 at h;rcases Qh h with ⟨h3,h⟩|⟨h3,h⟩
 ·obtain rfl:=Qe h;exact rE Qf [j3,([(3,true),(4,true)],[(5,.bool true)],[])] [] [] [] [2] (.ret,(f42n0E a1 (.ret (decide (a1≤1125899906842624)))).2) (ap3 h3 an) rfl
 ·obtain rfl:=Qe h;exact rE Qf [j3,([(3,false),(4,false)],[(5,.bool false)],[])] [] [] [] [2] (.ret,(f42n0E a1 (.ret false)).2) (ap3 h3 an) rfl
noncomputable def f42(a1:Int):Option Bool:=(f42n0 a1).bind fun o=>match o with
 | .ret v4=>some v4
theorem f42_ok(a1:Int){r:Bool}(h:f42 a1=some r):Qm Try.prog false 42 [(jI a1)] [] (jB r) []:=by
 unfold f42 at h;obtain ⟨o,ho,h⟩:=Qc h;cases o with
 | ret v4 =>
  obtain rfl:=Qe h;exact Qm.plain Qf (f:=Try.f42) (c:=c42) (by kernel_rfl) (by kernel_rfl) (by kernel_rfl) (by kernel_rfl) ((f42n0_ok a1 ho).mono fun r e=>by subst e; exact ⟨.inl rfl,(jB v4),(jB v4),by kernel_rfl,by kernel_rfl,((Wk.refl _):Wk (jB v4) (jB v4))⟩)

noncomputable def c60:Code:=Try.f60.body.getD .skip
inductive f60n2O where
 | exit0 (v35:List Qa)
def f60n2E(bg1:List Qa)(bb2:Int):f60n2O→Ex×Tr×Hp
 | .exit0 v35=>((.exit 0),mkS [(5,(.own 0))],[jR 3 Qa.cells v35])
def f60n2S(bg1:List Qa)(bb2 v23:Int)(v24:List Qa):Tr×Hp:=(mkS [(0,(jL 3 Qa.cells bg1)),(1,(jI bb2)),(5,(.own 0)),(6,(jI v23))],[jR 3 Qa.cells v24])
noncomputable def f60n2:Nat→List Qa→Int→Int→List Qa→Option f60n2O
 | 0,_,_,_,_=>none
 | f+1,bg1,bb2,v23,v24 =>
  bif decide (v23<(bg1.length:Int)) then
   (at? bg1 v23).bind fun x31 =>
   bif decide (x31.Level=bb2) then
    req (fit (v24.length+1) 32) <|
    (f60n2 f bg1 bb2 (wr64 (v23+1)) (v24++[x31]))
   else
    (f60n2 f bg1 bb2 (wr64 (v23+1)) v24)
  else
   some (.exit0 v24)
theorem f60n2_ok:∀(f:Nat)(bg1:List Qa)(bb2 v23:Int)(v24:List Qa){o:f60n2O},f60n2 f bg1 bb2 v23 v24=some o→TL Try.prog Try.f60.ntmps 0 f (cL (cL (Qj 1 (cL (Qj 2 c60))))) (f60n2S bg1 bb2 v23 v24) (·=f60n2E bg1 bb2 o)
 | 0,_,_,_,_,o,h=>by rw [f60n2] at h; cases h
 | f+1,bg1,bb2,v23,v24,o,h=>by
  rw [f60n2] at h;refine TL.body (K:=fun s=>∃v23:Int,∃v24:List Qa,s=(f60n2S bg1 bb2 v23 v24)∧f60n2 f bg1 bb2 v23 v24=some o) ?_ (by rintro _ ⟨v23,v24,rfl,hk⟩; exact f60n2_ok f _ _ _ _ hk);rcases Qh h with ⟨h26,h⟩|⟨h26,h⟩
  ·obtain ⟨x31,h32,h⟩:=Qc h;rcases Qh h with ⟨h33,h⟩|⟨h33,h⟩
   ·obtain ⟨h34,h⟩:=Qq h;exact rE Qf [([],[],[(2,.val (jI (bg1.length:Int)))]),([],[(2,.idx (Int.toNat v23) (Qa.cells x31))],[]),([],[(3,.idx (Int.toNat v23) (Qa.cells x31)),(6,.fits)],[(6,.row 2 ((v24++[x31]).map Qa.cells))]),j3] [some true,some true] [] [2] [0,1,5,6] (.norm,(f60n2S bg1 bb2 (wr64 (v23+1)) (v24++[x31]))) (ap (Qo (xs:=bg1) (c:=Qa.cells)) (ap h26 (ap (Qg h32).1 (ap (Qk Qa.cells (Qg h32).2) (ap h33 (ap (Qg h32).1 (ap (Qk Qa.cells (Qg h32).2) (ap (Qbt (te:=ti59) (xs:=v24) (n:=1) (c:=Qa.cells) h34 rfl) (ap (app_cv (xs:=v24) (ys:=[x31]) (c:=Qa.cells)) an))))))))) (Qn.norm ⟨(wr64 (v23+1)),(v24++[x31]),rfl,h⟩)
   ·exact rE Qf [([],[],[(2,.val (jI (bg1.length:Int)))]),([],[(2,.idx (Int.toNat v23) (Qa.cells x31))],[]),j3] [some true,some false] [] [0] [0,1,5,6] (.norm,(f60n2S bg1 bb2 (wr64 (v23+1)) v24)) (ap (Qo (xs:=bg1) (c:=Qa.cells)) (ap h26 (ap (Qg h32).1 (ap (Qk Qa.cells (Qg h32).2) (ap h33 an))))) (Qn.norm ⟨(wr64 (v23+1)),v24,rfl,h⟩)
  ·obtain rfl:=Qe h;exact rK Qf 1 [([],[],[(2,.val (jI (bg1.length:Int)))])] [some false] [] [0] [5] (.exit 0) ((f60n2E bg1 bb2 (.exit0 v24)).2) (ap (Qo (xs:=bg1) (c:=Qa.cells)) (ap h26 an)) (Qn.out rfl rfl)
noncomputable def f60n2L(bg1:List Qa)(bb2:Int):List Qa→Int→(List Qa)→Option f60n2O
 | [],v23,v24 =>
  some (.exit0 v24)
 | x0::rest,v23,v24 =>
  bif decide (x0.Level=bb2) then
   req (fit (v24.length+1) 32) <|
   (f60n2L bg1 bb2 rest (v23+1) (v24++[x0]))
  else
   (f60n2L bg1 bb2 rest (v23+1) v24)
theorem f60n2L_eq(bg1:List Qa)(bb2:Int):∀(rest:List Qa)(f k:Nat)(v24:List Qa),bg1.drop k=rest→bg1.length≤maxLen→rest.length<f→f60n2 f bg1 bb2 (k:Int) v24=f60n2L bg1 bb2 rest (k:Int) v24
 | _,0,_,_,_,_,hf=>absurd hf (Nat.not_lt_zero _)
 | [],f+1,k,v24,hd,hm,hf=>by
  have hk:¬((k:Int)<(bg1.length:Int)):=by have:=Qab hd; omega
  rw [f60n2,f60n2L];simp only [decide_eq_false hk,cond_false]
 | x0::rest,f+1,k,v24,hd,hm,hf=>by
  obtain ⟨hx,hlt,hd'⟩:=Qv hd;have hk:(k:Int)<(bg1.length:Int):=by omega
  have hw:wr64 ((k:Int)+1)=(k:Int)+1:=Qaj (by omega) (by unfold maxLen at hm; omega);have ih:∀(v24:List Qa),f60n2 f bg1 bb2 ((k:Int)+1) v24=f60n2L bg1 bb2 rest ((k:Int)+1) v24:=fun v24=>f60n2L_eq bg1 bb2 rest f (k+1) v24 hd' hm (by simpa using hf);rw [f60n2,f60n2L];simp only [decide_eq_true hk,cond_true,Qay,hx,Option.bind_some,hw,ih]
theorem f60n2_run(bg1:List Qa)(bb2:Int)(v24:List Qa)(hm:bg1.length≤maxLen):f60n2 FUEL bg1 bb2 0 v24=f60n2L bg1 bb2 bg1 0 v24:=f60n2L_eq bg1 bb2 bg1 FUEL 0 v24 List.drop_zero hm (Qz hm)
inductive f60n1O where
 | norm (v39:List Qa)
def f60n1E(bg1:List Qa)(bb2:Int):f60n1O→Ex×Tr×Hp
 | .norm v39=>(.norm,mkS [(5,(.own 0))],[jR 3 Qa.cells v39])
def f60n1S(bg1:List Qa)(bb2:Int):Tr×Hp:=(mkS [(0,(jL 3 Qa.cells bg1)),(1,(jI bb2)),(5,(.pl (.sl .nil 0 [])))],[])
noncomputable def f60n1(bg1:List Qa)(bb2:Int):Option f60n1O :=
 (f60n2 FUEL bg1 bb2 0 []).bind fun o36=>match o36 with
 | .exit0 v38=>some (.norm v38)
theorem f60n1_ok(bg1:List Qa)(bb2:Int){o:f60n1O}(h:f60n1 bg1 bb2=some o):T Try.prog Try.f60.ntmps 0 (cL (Qj 2 c60)) (f60n1S bg1 bb2) (·=f60n1E bg1 bb2 o):=by
 unfold f60n1 at h;refine rN Qf 1 [j3] [] [.mat 5 3] [0] [0,1,5,6] (f60n2S bg1 bb2 0 []) an ?_;obtain ⟨o36,h37,h⟩:=Qc h;cases o36 with
 | exit0 v38 =>
  obtain rfl:=Qe h;exact T.last' (T.bl (i:=0) (by kernel_rfl) (by kernel_rfl) (f60n2_ok FUEL bg1 bb2 0 [] h37)) (tds:=[]) (m:=[0]) (keep:=[5]) (st2:=(f60n1E bg1 bb2 (.norm v38)).2) (by kernel_rfl) an rfl
inductive f60n0O where
 | ret (v43:List Qa)
def f60n0E(a1:List Qa)(a2:Int):f60n0O→Ex×Tr×Hp
 | .ret v43=>(.ret,mkS [(4,(.own 0))],[jR 3 Qa.cells v43])
def f60n0S(a1:List Qa)(a2:Int):Tr×Hp:=(Qu [(jL 3 Qa.cells a1),(jI a2)] 0 .leaf,[])
noncomputable def f60n0(a1:List Qa)(a2:Int):Option f60n0O :=
 (f60n1 a1 a2).bind fun o40=>match o40 with
 | .norm v42=>some (.ret v42)
theorem f60n0_ok(a1:List Qa)(a2:Int){o:f60n0O}(h:f60n0 a1 a2=some o):T Try.prog Try.f60.ntmps 0 c60 (f60n0S a1 a2) (·=f60n0E a1 a2 o):=by
 unfold f60n0 at h;refine rN Qf 2 [j3,j3] [] [] [] [0,1,5] (f60n1S a1 a2) an ?_;obtain ⟨o40,h41,h⟩:=Qc h;cases o40 with
 | norm v42 =>
  refine T.oneN (by kernel_rfl) (f60n1_ok a1 a2 h41) (st2:=(f60n1E a1 a2 (.norm v42)).2) rfl ?_;obtain rfl:=Qe h;exact rE Qf [j3] [] [] [0] [4] (.ret,(f60n0E a1 a2 (.ret v42)).2) an rfl
noncomputable def f60(a1:List Qa)(a2:Int):Option (List Qa):=(f60n0 a1 a2).bind fun o=>match o with
 | .ret v43=>some v43
theorem f60_ok(a1:List Qa)(a2:Int){r:List Qa}(h:f60 a1 a2=some r):Qm Try.prog false 60 [(jL 3 Qa.cells a1),(jI a2)] [] (jL 3 Qa.cells r) []:=by
 unfold f60 at h;obtain ⟨o,ho,h⟩:=Qc h;cases o with
 | ret v43 =>
  obtain rfl:=Qe h;exact Qm.plain Qf (f:=Try.f60) (c:=c60) (by kernel_rfl) (by kernel_rfl) (by kernel_rfl) (by kernel_rfl) ((f60n0_ok a1 a2 ho).mono fun r e=>by subst e; exact ⟨.inl rfl,(.own 0),(jL 3 Qa.cells v43),by kernel_rfl,by kernel_rfl,((Wk.refl _):Wk (jL 3 Qa.cells v43) (jL 3 Qa.cells v43))⟩)

noncomputable def c76:Code:=Try.f76.body.getD .skip
inductive f76n3O where
 | norm (v81:Int)
def f76n3E(bb1 bb2 bb3 bb4 bb5 bb6:Int):f76n3O→Ex×Tr×Hp
 | .norm v81=>(.norm,mkS [(0,(jI bb1)),(1,(jI bb2)),(2,(jI bb3)),(8,(jI (wr64 (2*bb4)))),(9,(jI v81)),(10,(jI bb6))],[])
def f76n3S(bb1 bb2 bb3 bb4 bb5 bb6:Int):Tr×Hp:=(mkS [(0,(jI bb1)),(1,(jI bb2)),(2,(jI bb3)),(8,(jI (wr64 (2*bb4)))),(9,(jI (wr64 (2*bb5)))),(10,(jI bb6))],[])
noncomputable def f76n3(bb1 bb2 bb3 bb4 bb5 bb6:Int):Option f76n3O :=
 req (!(decide (bb6=0))) <|
 bif (decide ((Int.tmod (wr64 (Int.tdiv bb1 bb6)) 2)=1)) then
  some (.norm (wr64 ((wr64 (2*bb5))+bb2)))
 else
  some (.norm (wr64 (2*bb5)))
theorem f76n3_ok(bb1 bb2 bb3 bb4 bb5 bb6:Int){o:f76n3O}(h:f76n3 bb1 bb2 bb3 bb4 bb5 bb6=some o):T Try.prog Try.f76.ntmps 0 (cL (Qj 1 (cL (cL (Qj 1 (cL (cL (Qj 1 (cL (Qj 2 c76)))))))))) (f76n3S bb1 bb2 bb3 bb4 bb5 bb6) (·=f76n3E bb1 bb2 bb3 bb4 bb5 bb6 o):=by
 unfold f76n3 at h;obtain ⟨h78,h⟩:=Qq h;rcases Qh h with ⟨h80,h⟩|⟨h80,h⟩
 ·obtain rfl:=Qe h;exact rE Qf [([],[(2,.nz)],[]),j3] [some true] [] [] [0,1,2,8,9,10] (.norm,(f76n3E bb1 bb2 bb3 bb4 bb5 bb6 (.norm (wr64 ((wr64 (2*bb5))+bb2)))).2) (ap (ne_of h78) (ap h80 an)) rfl
 ·obtain rfl:=Qe h;exact rE Qf [([],[(2,.nz)],[])] [some false] [] [] [0,1,2,8,9,10] (.norm,(f76n3E bb1 bb2 bb3 bb4 bb5 bb6 (.norm (wr64 (2*bb5)))).2) (ap (ne_of h78) (ap h80 an)) rfl
inductive f76n4O where
 | exit2 (v95:Int) (v96:Int)
def f76n4E(bb1 bb2 bb3 bb6:Int):f76n4O→Ex×Tr×Hp
 | .exit2 v95 v96=>((.exit 2),mkS [(0,(jI bb1)),(1,(jI bb2)),(2,(jI bb3)),(8,(jI v95)),(9,(jI v96)),(10,(jI bb6))],[])
def f76n4S(bb1 bb2 bb3 bb6 v91 v92:Int):Tr×Hp:=(mkS [(0,(jI bb1)),(1,(jI bb2)),(2,(jI bb3)),(8,(jI v91)),(9,(jI v92)),(10,(jI bb6))],[])
noncomputable def f76n4:Nat→Int→Int→Int→Int→Int→Int→Option f76n4O
 | 0,_,_,_,_,_,_=>none
 | f+1,bb1,bb2,bb3,bb6,v91,v92 =>
  bif decide (bb3≤v92) then
   (f76n4 f bb1 bb2 bb3 bb6 (wr64 (v91+1)) (wr64 (v92-bb3)))
  else
   some (.exit2 v91 v92)
theorem f76n4_ok:∀(f:Nat)(bb1 bb2 bb3 bb6 v91 v92:Int){o:f76n4O},f76n4 f bb1 bb2 bb3 bb6 v91 v92=some o→TL Try.prog Try.f76.ntmps 0 f (cL (cL (Qj 0 (Qj 1 (Qj 1 (cL (cL (Qj 1 (cL (cL (Qj 1 (cL (Qj 2 c76))))))))))))) (f76n4S bb1 bb2 bb3 bb6 v91 v92) (·=f76n4E bb1 bb2 bb3 bb6 o)
 | 0,_,_,_,_,_,_,o,h=>by rw [f76n4] at h; cases h
 | f+1,bb1,bb2,bb3,bb6,v91,v92,o,h=>by
  rw [f76n4] at h;refine TL.body (K:=fun s=>∃v91:Int,∃v92:Int,s=(f76n4S bb1 bb2 bb3 bb6 v91 v92)∧f76n4 f bb1 bb2 bb3 bb6 v91 v92=some o) ?_ (by rintro _ ⟨v91,v92,rfl,hk⟩; exact f76n4_ok f _ _ _ _ _ _ hk);rcases Qh h with ⟨h94,h⟩|⟨h94,h⟩
  ·exact rE Qf [j3,j3,j3] [some true] [] [] [0,1,2,8,9,10] (.norm,(f76n4S bb1 bb2 bb3 bb6 (wr64 (v91+1)) (wr64 (v92-bb3)))) (ap h94 an) (Qn.norm ⟨(wr64 (v91+1)),(wr64 (v92-bb3)),rfl,h⟩)
  ·obtain rfl:=Qe h;exact rK Qf 1 [j3] [some false] [] [] [0,1,2,8,9,10] (.exit 2) ((f76n4E bb1 bb2 bb3 bb6 (.exit2 v91 v92)).2) (ap h94 an) (Qn.out rfl rfl)
inductive f76n2O where
 | norm (v101:Int) (v102:Int)
def f76n2E(bb1 bb2 bb3 bb4 bb5 bb6:Int):f76n2O→Ex×Tr×Hp
 | .norm v101 v102=>(.norm,mkS [(0,(jI bb1)),(1,(jI bb2)),(2,(jI bb3)),(8,(jI v101)),(9,(jI v102)),(10,(jI bb6))],[])
def f76n2S(bb1 bb2 bb3 bb4 bb5 bb6:Int):Tr×Hp:=(mkS [(0,(jI bb1)),(1,(jI bb2)),(2,(jI bb3)),(8,(jI bb4)),(9,(jI bb5)),(10,(jI bb6))],[])
noncomputable def f76n2(bb1 bb2 bb3 bb4 bb5 bb6:Int):Option f76n2O :=
 (f76n3 bb1 bb2 bb3 bb4 bb5 bb6).bind fun o82=>match o82 with
 | .norm v84=>(f76n4 FUEL bb1 bb2 bb3 bb6 (wr64 (2*bb4)) v84).bind fun o97=>match o97 with
  | .exit2 v99 v100=>some (.norm v99 v100)
theorem f76n2_ok(bb1 bb2 bb3 bb4 bb5 bb6:Int){o:f76n2O}(h:f76n2 bb1 bb2 bb3 bb4 bb5 bb6=some o):T Try.prog Try.f76.ntmps 0 (cL (Qj 1 (cL (cL (Qj 1 (cL (Qj 2 c76))))))) (f76n2S bb1 bb2 bb3 bb4 bb5 bb6) (·=f76n2E bb1 bb2 bb3 bb4 bb5 bb6 o):=by
 unfold f76n2 at h;refine T.block' (i:=1) (by kernel_rfl) ?_;refine rN Qf 1 [j3] [] [] [] [0,1,2,8,9,10] (f76n3S bb1 bb2 bb3 bb4 bb5 bb6) an ?_;obtain ⟨o82,h83,h⟩:=Qc h;cases o82 with
 | norm v84 =>
  refine T.oneN (by kernel_rfl) (f76n3_ok bb1 bb2 bb3 bb4 bb5 bb6 h83) (st2:=(f76n3E bb1 bb2 bb3 bb4 bb5 bb6 (.norm v84)).2) rfl ?_;refine rN Qf 0 [] [] [] [] [0,1,2,8,9,10] (f76n4S bb1 bb2 bb3 bb6 (wr64 (2*bb4)) v84) an ?_;obtain ⟨o97,h98,h⟩:=Qc h;cases o97 with
  | exit2 v99 v100 =>
   obtain rfl:=Qe h;exact T.last' (T.bl (i:=2) (by kernel_rfl) (by kernel_rfl) (f76n4_ok FUEL bb1 bb2 bb3 bb6 (wr64 (2*bb4)) v84 h98)) (tds:=[]) (m:=[]) (keep:=[0,1,2,8,9,10]) (st2:=(f76n2E bb1 bb2 bb3 bb4 bb5 bb6 (.norm v99 v100)).2) (by kernel_rfl) an rfl
inductive f76n5O where
 | exit0 (v107:Int) (v108:Int)
def f76n5E(bb1 bb2 bb3:Int):f76n5O→Ex×Tr×Hp
 | .exit0 v107 v108=>((.exit 0),mkS [(8,(jI v107)),(9,(jI v108))],[])
def f76n5S(bb1 bb2 bb3 v70 v71 v72:Int):Tr×Hp:=(mkS [(0,(jI bb1)),(1,(jI bb2)),(2,(jI bb3)),(8,(jI v70)),(9,(jI v71)),(10,(jI v72))],[])
noncomputable def f76n5:Nat→Int→Int→Int→Int→Int→Int→Option f76n5O
 | 0,_,_,_,_,_,_=>none
 | f+1,bb1,bb2,bb3,v70,v71,v72 =>
  bif decide (0<v72) then
   (f76n2 bb1 bb2 bb3 v70 v71 v72).bind fun o103=>match o103 with
   | .norm v105 v106=>(f76n5 f bb1 bb2 bb3 v105 v106 (wr64 (Int.tdiv v72 2)))
  else
   some (.exit0 v70 v71)
theorem f76n5_ok:∀(f:Nat)(bb1 bb2 bb3 v70 v71 v72:Int){o:f76n5O},f76n5 f bb1 bb2 bb3 v70 v71 v72=some o→TL Try.prog Try.f76.ntmps 0 f (cL (cL (Qj 1 (cL (Qj 2 c76))))) (f76n5S bb1 bb2 bb3 v70 v71 v72) (·=f76n5E bb1 bb2 bb3 o)
 | 0,_,_,_,_,_,_,o,h=>by rw [f76n5] at h; cases h
 | f+1,bb1,bb2,bb3,v70,v71,v72,o,h=>by
  rw [f76n5] at h;refine TL.body (K:=fun s=>∃v70:Int,∃v71:Int,∃v72:Int,s=(f76n5S bb1 bb2 bb3 v70 v71 v72)∧f76n5 f bb1 bb2 bb3 v70 v71 v72=some o) ?_ (by rintro _ ⟨v70,v71,v72,rfl,hk⟩; exact f76n5_ok f _ _ _ _ _ _ hk);rcases Qh h with ⟨h74,h⟩|⟨h74,h⟩
  ·refine rN Qf 1 [j3] [some true] [] [] [0,1,2,8,9,10] (f76n2S bb1 bb2 bb3 v70 v71 v72) (ap h74 an) ?_;obtain ⟨o103,h104,h⟩:=Qc h;cases o103 with
   | norm v105 v106 =>
    refine T.oneN (by kernel_rfl) (f76n2_ok bb1 bb2 bb3 v70 v71 v72 h104) (st2:=(f76n2E bb1 bb2 bb3 v70 v71 v72 (.norm v105 v106)).2) rfl ?_;exact rE Qf [j3] [] [] [] [0,1,2,8,9,10] (.norm,(f76n5S bb1 bb2 bb3 v105 v106 (wr64 (Int.tdiv v72 2)))) an (Qn.norm ⟨v105,v106,(wr64 (Int.tdiv v72 2)),rfl,h⟩)
  ·obtain rfl:=Qe h;exact rK Qf 1 [j3] [some false] [] [] [8,9] (.exit 0) ((f76n5E bb1 bb2 bb3 (.exit0 v70 v71)).2) (ap h74 an) (Qn.out rfl rfl)
inductive f76n1O where
 | norm (v113:Int) (v114:Int)
def f76n1E(bb1 bb2 bb3:Int):f76n1O→Ex×Tr×Hp
 | .norm v113 v114=>(.norm,mkS [(8,(jI v113)),(9,(jI v114))],[])
def f76n1S(bb1 bb2 bb3:Int):Tr×Hp:=(mkS [(0,(jI bb1)),(1,(jI bb2)),(2,(jI bb3)),(8,(jI 0)),(9,(jI 0))],[])
noncomputable def f76n1(bb1 bb2 bb3:Int):Option f76n1O :=
 (f76n5 FUEL bb1 bb2 bb3 0 0 1152921504606846976).bind fun o109=>match o109 with
 | .exit0 v111 v112=>some (.norm v111 v112)
theorem f76n1_ok(bb1 bb2 bb3:Int){o:f76n1O}(h:f76n1 bb1 bb2 bb3=some o):T Try.prog Try.f76.ntmps 0 (cL (Qj 2 c76)) (f76n1S bb1 bb2 bb3) (·=f76n1E bb1 bb2 bb3 o):=by
 unfold f76n1 at h;refine rN Qf 1 [j3] [] [] [] [0,1,2,8,9,10] (f76n5S bb1 bb2 bb3 0 0 1152921504606846976) an ?_;obtain ⟨o109,h110,h⟩:=Qc h;cases o109 with
 | exit0 v111 v112 =>
  obtain rfl:=Qe h;exact T.last' (T.bl (i:=0) (by kernel_rfl) (by kernel_rfl) (f76n5_ok FUEL bb1 bb2 bb3 0 0 1152921504606846976 h110)) (tds:=[]) (m:=[]) (keep:=[8,9]) (st2:=(f76n1E bb1 bb2 bb3 (.norm v111 v112)).2) (by kernel_rfl) an rfl
inductive f76n0O where
 | ret (v119:Int) (v120:Int)
def f76n0E(a1 a2 a3:Int):f76n0O→Ex×Tr×Hp
 | .ret v119 v120=>(.ret,mkS [(6,(jI v119)),(7,(jI v120))],[])
def f76n0S(a1 a2 a3:Int):Tr×Hp:=(Qu [(jI a1),(jI a2),(jI a3)] 0 .leaf,[])
noncomputable def f76n0(a1 a2 a3:Int):Option f76n0O :=
 (f76n1 a1 a2 a3).bind fun o115=>match o115 with
 | .norm v117 v118=>some (.ret v117 v118)
theorem f76n0_ok(a1 a2 a3:Int){o:f76n0O}(h:f76n0 a1 a2 a3=some o):T Try.prog Try.f76.ntmps 0 c76 (f76n0S a1 a2 a3) (·=f76n0E a1 a2 a3 o):=by
 unfold f76n0 at h;refine rN Qf 2 [j3,j3] [] [] [] [0,1,2,8,9] (f76n1S a1 a2 a3) an ?_;obtain ⟨o115,h116,h⟩:=Qc h;cases o115 with
 | norm v117 v118 =>
  refine T.oneN (by kernel_rfl) (f76n1_ok a1 a2 a3 h116) (st2:=(f76n1E a1 a2 a3 (.norm v117 v118)).2) rfl ?_;obtain rfl:=Qe h;exact rE Qf [j3] [] [] [] [6,7] (.ret,(f76n0E a1 a2 a3 (.ret v117 v118)).2) an rfl
noncomputable def f76(a1 a2 a3:Int):Option (Int×Int):=(f76n0 a1 a2 a3).bind fun o=>match o with
 | .ret v119 v120=>some (v119,v120)
theorem f76_ok(a1 a2 a3:Int){r:Int×Int}(h:f76 a1 a2 a3=some r):Qm Try.prog false 76 [(jI a1),(jI a2),(jI a3)] [] (.tup [(jI r.1),(jI r.2)]) []:=by
 unfold f76 at h;obtain ⟨o,ho,h⟩:=Qc h;cases o with
 | ret v119 v120 =>
  obtain rfl:=Qe h;exact Qm.plain Qf (f:=Try.f76) (c:=c76) (by kernel_rfl) (by kernel_rfl) (by kernel_rfl) (by kernel_rfl) ((f76n0_ok a1 a2 a3 ho).mono fun r e=>by subst e; exact ⟨.inl rfl,(.tup [(jI v119),(jI v120)]),(.tup [(jI v119),(jI v120)]),by kernel_rfl,by kernel_rfl,((Wk.refl _):Wk (.tup [(jI v119),(jI v120)]) (.tup [(jI v119),(jI v120)]))⟩)

noncomputable def c61:Code:=Try.f61.body.getD .skip
inductive f61n2O where
 | exit0 (v25:Int)
def f61n2E(bb1:Int)(bg2:List Qa):f61n2O→Ex×Tr×Hp
 | .exit0 v25=>((.exit 0),mkS [(0,(jI bb1)),(1,(jL 3 Qa.cells bg2)),(5,(jI v25)),(6,(jI bb1))],[])
def f61n2S(bb1:Int)(bg2:List Qa)(v17 v18:Int):Tr×Hp:=(mkS [(0,(jI bb1)),(1,(jL 3 Qa.cells bg2)),(5,(jI v17)),(6,(jI bb1)),(7,(jI v18))],[])
noncomputable def f61n2:Nat→Int→List Qa→Int→Int→Option f61n2O
 | 0,_,_,_,_=>none
 | f+1,bb1,bg2,v17,v18 =>
  bif decide (v18<(bg2.length:Int)) then
   (at? bg2 v18).bind fun x23 =>
   (f61n2 f bb1 bg2 (wr64 (v17+x23.Amount)) (wr64 (v18+1)))
  else
   some (.exit0 v17)
theorem f61n2_ok:∀(f:Nat)(bb1:Int)(bg2:List Qa)(v17 v18:Int){o:f61n2O},f61n2 f bb1 bg2 v17 v18=some o→TL Try.prog Try.f61.ntmps 0 f (cL (cL (Qj 1 (cL (Qj 2 c61))))) (f61n2S bb1 bg2 v17 v18) (·=f61n2E bb1 bg2 o)
 | 0,_,_,_,_,o,h=>by rw [f61n2] at h; cases h
 | f+1,bb1,bg2,v17,v18,o,h=>by
  rw [f61n2] at h;refine TL.body (K:=fun s=>∃v17:Int,∃v18:Int,s=(f61n2S bb1 bg2 v17 v18)∧f61n2 f bb1 bg2 v17 v18=some o) ?_ (by rintro _ ⟨v17,v18,rfl,hk⟩; exact f61n2_ok f _ _ _ _ hk);rcases Qh h with ⟨h20,h⟩|⟨h20,h⟩
  ·obtain ⟨x23,h24,h⟩:=Qc h;exact rE Qf [([],[],[(2,.val (jI (bg2.length:Int)))]),([],[(3,.idx (Int.toNat v18) (Qa.cells x23))],[]),j3] [some true] [] [] [0,1,5,6,7] (.norm,(f61n2S bb1 bg2 (wr64 (v17+x23.Amount)) (wr64 (v18+1)))) (ap (Qo (xs:=bg2) (c:=Qa.cells)) (ap h20 (ap (Qg h24).1 (ap (Qk Qa.cells (Qg h24).2) an)))) (Qn.norm ⟨(wr64 (v17+x23.Amount)),(wr64 (v18+1)),rfl,h⟩)
  ·obtain rfl:=Qe h;exact rK Qf 1 [([],[],[(2,.val (jI (bg2.length:Int)))])] [some false] [] [] [0,1,5,6] (.exit 0) ((f61n2E bb1 bg2 (.exit0 v17)).2) (ap (Qo (xs:=bg2) (c:=Qa.cells)) (ap h20 an)) (Qn.out rfl rfl)
noncomputable def f61n2L(bb1:Int)(bg2:List Qa):List Qa→Int→Int→Option f61n2O
 | [],v17,v18 =>
  some (.exit0 v17)
 | x0::rest,v17,v18 =>
  (f61n2L bb1 bg2 rest (wr64 (v17+x0.Amount)) (v18+1))
theorem f61n2L_eq(bb1:Int)(bg2:List Qa):∀(rest:List Qa)(f k:Nat)(v17:Int),bg2.drop k=rest→bg2.length≤maxLen→rest.length<f→f61n2 f bb1 bg2 v17 (k:Int)=f61n2L bb1 bg2 rest v17 (k:Int)
 | _,0,_,_,_,_,hf=>absurd hf (Nat.not_lt_zero _)
 | [],f+1,k,v17,hd,hm,hf=>by
  have hk:¬((k:Int)<(bg2.length:Int)):=by have:=Qab hd; omega
  rw [f61n2,f61n2L];simp only [decide_eq_false hk,cond_false]
 | x0::rest,f+1,k,v17,hd,hm,hf=>by
  obtain ⟨hx,hlt,hd'⟩:=Qv hd;have hk:(k:Int)<(bg2.length:Int):=by omega
  have hw:wr64 ((k:Int)+1)=(k:Int)+1:=Qaj (by omega) (by unfold maxLen at hm; omega);have ih:∀(v17:Int),f61n2 f bb1 bg2 v17 ((k:Int)+1)=f61n2L bb1 bg2 rest v17 ((k:Int)+1):=fun v17=>f61n2L_eq bb1 bg2 rest f (k+1) v17 hd' hm (by simpa using hf);rw [f61n2,f61n2L];simp only [decide_eq_true hk,cond_true,Qay,hx,Option.bind_some,hw,ih]
theorem f61n2_run(bb1:Int)(bg2:List Qa)(v17:Int)(hm:bg2.length≤maxLen):f61n2 FUEL bb1 bg2 v17 0=f61n2L bb1 bg2 bg2 v17 0:=f61n2L_eq bb1 bg2 bg2 FUEL 0 v17 List.drop_zero hm (Qz hm)
inductive f61n1O where
 | norm (v29:Int)
def f61n1E(bb1:Int)(bg2:List Qa):f61n1O→Ex×Tr×Hp
 | .norm v29=>(.norm,mkS [(0,(jI bb1)),(1,(jL 3 Qa.cells bg2)),(5,(jI v29)),(6,(jI bb1))],[])
def f61n1S(bb1:Int)(bg2:List Qa):Tr×Hp:=(mkS [(0,(jI bb1)),(1,(jL 3 Qa.cells bg2)),(5,(jI 0)),(6,(jI bb1))],[])
noncomputable def f61n1(bb1:Int)(bg2:List Qa):Option f61n1O :=
 (f61n2 FUEL bb1 bg2 0 0).bind fun o26=>match o26 with
 | .exit0 v28=>some (.norm v28)
theorem f61n1_ok(bb1:Int)(bg2:List Qa){o:f61n1O}(h:f61n1 bb1 bg2=some o):T Try.prog Try.f61.ntmps 0 (cL (Qj 2 c61)) (f61n1S bb1 bg2) (·=f61n1E bb1 bg2 o):=by
 unfold f61n1 at h;refine rN Qf 1 [j3] [] [] [] [0,1,5,6,7] (f61n2S bb1 bg2 0 0) an ?_;obtain ⟨o26,h27,h⟩:=Qc h;cases o26 with
 | exit0 v28 =>
  obtain rfl:=Qe h;exact T.last' (T.bl (i:=0) (by kernel_rfl) (by kernel_rfl) (f61n2_ok FUEL bb1 bg2 0 0 h27)) (tds:=[]) (m:=[]) (keep:=[0,1,5,6]) (st2:=(f61n1E bb1 bg2 (.norm v28)).2) (by kernel_rfl) an rfl
inductive f61n4O where
 | exit2 (v93:Int) (v94:List Int) (v95:List Int)
def f61n4E(bb1:Int)(bg2:List Qa)(bb3:Int):f61n4O→Ex×Tr×Hp
 | .exit2 v93 v94 v95=>((.exit 2),mkS [(1,(jL 3 Qa.cells bg2)),(6,(jI v93)),(8,(.own 0)),(9,(.own 1))],[some (.row false 1 (v94.map (cInt .i64))),some (.row false 1 (v95.map (cInt .i64)))])
def f61n4S(bb1:Int)(bg2:List Qa)(bb3 v69 v70:Int)(v71 v72:List Int):Tr×Hp:=(mkS [(0,(jI bb1)),(1,(jL 3 Qa.cells bg2)),(5,(jI bb3)),(6,(jI v69)),(8,(.own 0)),(9,(.own 1)),(10,(jI v70))],[some (.row false 1 (v71.map (cInt .i64))),some (.row false 1 (v72.map (cInt .i64)))])
noncomputable def f61n4:Nat→Int→List Qa→Int→Int→Int→List Int→List Int→Option f61n4O
 | 0,_,_,_,_,_,_,_=>none
 | f+1,bb1,bg2,bb3,v69,v70,v71,v72 =>
  bif decide (v70<(bg2.length:Int)) then
   bif decide (0<bb3) then
    (at? bg2 v70).bind fun x85 =>
    (f76 bb1 x85.Amount bb3).bind fun x87 =>
    req (fit (v71.length+1) 8) <|
    req (fit (v72.length+1) 8) <|
    (f61n4 f bb1 bg2 bb3 (wr64 (v69-x87.1)) (wr64 (v70+1)) (v71++[x87.1]) (v72++[x87.2]))
   else
    req (fit (v71.length+1) 8) <|
    req (fit (v72.length+1) 8) <|
    (f61n4 f bb1 bg2 bb3 (wr64 (v69-0)) (wr64 (v70+1)) (v71++[0]) (v72++[0]))
  else
   some (.exit2 v69 v71 v72)
theorem f61n4_ok:∀(f:Nat)(bb1:Int)(bg2:List Qa)(bb3 v69 v70:Int)(v71 v72:List Int){o:f61n4O},f61n4 f bb1 bg2 bb3 v69 v70 v71 v72=some o→TL Try.prog Try.f61.ntmps 0 f (cL (cL (Qj 1 (cL (Qj 1 (Qj 1 (Qj 2 c61))))))) (f61n4S bb1 bg2 bb3 v69 v70 v71 v72) (·=f61n4E bb1 bg2 bb3 o)
 | 0,_,_,_,_,_,_,_,o,h=>by rw [f61n4] at h; cases h
 | f+1,bb1,bg2,bb3,v69,v70,v71,v72,o,h=>by
  rw [f61n4] at h;refine TL.body (K:=fun s=>∃v69:Int,∃v70:Int,∃v71:List Int,∃v72:List Int,s=(f61n4S bb1 bg2 bb3 v69 v70 v71 v72)∧f61n4 f bb1 bg2 bb3 v69 v70 v71 v72=some o) ?_ (by rintro _ ⟨v69,v70,v71,v72,rfl,hk⟩; exact f61n4_ok f _ _ _ _ _ _ _ hk);rcases Qh h with ⟨h74,h⟩|⟨h74,h⟩
  ·rcases Qh h with ⟨h84,h⟩|⟨h84,h⟩
   ·obtain ⟨x85,h86,h⟩:=Qc h;obtain ⟨x87,h88,h⟩:=Qc h;obtain ⟨h89,h⟩:=Qq h;obtain ⟨h90,h⟩:=Qq h
    exact rE Qf [([],[],[(2,.val (jI (bg2.length:Int)))]),j3,j3,([],[(3,.idx (Int.toNat v70) (Qa.cells x85)),jH 7 (.tup [(jI x87.1),(jI x87.2)])],[]),([],[(3,.fits)],[(3,.row 3 ((v71++[x87.1]).map (cInt .i64)))]),([],[(3,.fits)],[(3,.row 5 ((v72++[x87.2]).map (cInt .i64)))]),j3,j3] [some true,some true] [] [3,5] [0,1,5,6,8,9,10] (.norm,(f61n4S bb1 bg2 bb3 (wr64 (v69-x87.1)) (wr64 (v70+1)) (v71++[x87.1]) (v72++[x87.2]))) (ap (Qo (xs:=bg2) (c:=Qa.cells)) (ap h74 (ap h84 (ap (Qg h86).1 (ap (Qk Qa.cells (Qg h86).2) (ap (f76_ok bb1 x85.Amount bb3 h88) (ap (Qbt (te:=ti3) (xs:=v71) (n:=1) (c:=(cInt .i64)) h89 rfl) (ap (app_cv (xs:=v71) (ys:=[x87.1]) (c:=(cInt .i64))) (ap (Qbt (te:=ti3) (xs:=v72) (n:=1) (c:=(cInt .i64)) h90 rfl) (ap (app_cv (xs:=v72) (ys:=[x87.2]) (c:=(cInt .i64))) an)))))))))) (Qn.norm ⟨(wr64 (v69-x87.1)),(wr64 (v70+1)),(v71++[x87.1]),(v72++[x87.2]),rfl,h⟩)
   ·obtain ⟨h91,h⟩:=Qq h;obtain ⟨h92,h⟩:=Qq h;exact rE Qf [([],[],[(2,.val (jI (bg2.length:Int)))]),j3,j3,([],[(3,.fits)],[(3,.row 3 ((v71++[0]).map (cInt .i64)))]),([],[(3,.fits)],[(3,.row 5 ((v72++[0]).map (cInt .i64)))]),j3,j3] [some true,some false] [] [3,5] [0,1,5,6,8,9,10] (.norm,(f61n4S bb1 bg2 bb3 (wr64 (v69-0)) (wr64 (v70+1)) (v71++[0]) (v72++[0]))) (ap (Qo (xs:=bg2) (c:=Qa.cells)) (ap h74 (ap h84 (ap (Qbt (te:=ti3) (xs:=v71) (n:=1) (c:=(cInt .i64)) h91 rfl) (ap (app_cv (xs:=v71) (ys:=[0]) (c:=(cInt .i64))) (ap (Qbt (te:=ti3) (xs:=v72) (n:=1) (c:=(cInt .i64)) h92 rfl) (ap (app_cv (xs:=v72) (ys:=[0]) (c:=(cInt .i64))) an))))))) (Qn.norm ⟨(wr64 (v69-0)),(wr64 (v70+1)),(v71++[0]),(v72++[0]),rfl,h⟩)
  ·obtain rfl:=Qe h;exact rK Qf 1 [([],[],[(2,.val (jI (bg2.length:Int)))])] [some false] [] [0,1] [1,6,8,9] (.exit 2) ((f61n4E bb1 bg2 bb3 (.exit2 v69 v71 v72)).2) (ap (Qo (xs:=bg2) (c:=Qa.cells)) (ap h74 an)) (Qn.out rfl rfl)
noncomputable def f61n4L(bb1:Int)(bg2:List Qa)(bb3:Int):List Qa→Int→Int→(List Int)→(List Int)→Option f61n4O
 | [],v69,v70,v71,v72 =>
  some (.exit2 v69 v71 v72)
 | x0::rest,v69,v70,v71,v72 =>
  bif decide (0<bb3) then
   (f76 bb1 x0.Amount bb3).bind fun x87 =>
   req (fit (v71.length+1) 8) <|
   req (fit (v72.length+1) 8) <|
   (f61n4L bb1 bg2 bb3 rest (wr64 (v69-x87.1)) (v70+1) (v71++[x87.1]) (v72++[x87.2]))
  else
   req (fit (v71.length+1) 8) <|
   req (fit (v72.length+1) 8) <|
   (f61n4L bb1 bg2 bb3 rest (wr64 (v69-0)) (v70+1) (v71++[0]) (v72++[0]))
theorem f61n4L_eq(bb1:Int)(bg2:List Qa)(bb3:Int):∀(rest:List Qa)(f k:Nat)(v69:Int)(v71 v72:List Int),bg2.drop k=rest→bg2.length≤maxLen→rest.length<f→f61n4 f bb1 bg2 bb3 v69 (k:Int) v71 v72=f61n4L bb1 bg2 bb3 rest v69 (k:Int) v71 v72
 | _,0,_,_,_,_,_,_,hf=>absurd hf (Nat.not_lt_zero _)
 | [],f+1,k,v69,v71,v72,hd,hm,hf=>by
  have hk:¬((k:Int)<(bg2.length:Int)):=by have:=Qab hd; omega
  rw [f61n4,f61n4L];simp only [decide_eq_false hk,cond_false]
 | x0::rest,f+1,k,v69,v71,v72,hd,hm,hf=>by
  obtain ⟨hx,hlt,hd'⟩:=Qv hd;have hk:(k:Int)<(bg2.length:Int):=by omega
  have hw:wr64 ((k:Int)+1)=(k:Int)+1:=Qaj (by omega) (by unfold maxLen at hm; omega);have ih:∀(v69:Int)(v71 v72:List Int),f61n4 f bb1 bg2 bb3 v69 ((k:Int)+1) v71 v72=f61n4L bb1 bg2 bb3 rest v69 ((k:Int)+1) v71 v72:=fun v69 v71 v72=>f61n4L_eq bb1 bg2 bb3 rest f (k+1) v69 v71 v72 hd' hm (by simpa using hf);rw [f61n4,f61n4L];simp only [decide_eq_true hk,cond_true,Qay,hx,Option.bind_some,hw,ih]
theorem f61n4_run(bb1:Int)(bg2:List Qa)(bb3 v69:Int)(v71 v72:List Int)(hm:bg2.length≤maxLen):f61n4 FUEL bb1 bg2 bb3 v69 0 v71 v72=f61n4L bb1 bg2 bb3 bg2 v69 0 v71 v72:=f61n4L_eq bb1 bg2 bb3 bg2 FUEL 0 v69 v71 v72 List.drop_zero hm (Qz hm)
inductive f61n3O where
 | norm (v101:Int) (v102:List Int) (v103:List Int)
def f61n3E(bb1:Int)(bg2:List Qa)(bb3:Int):f61n3O→Ex×Tr×Hp
 | .norm v101 v102 v103=>(.norm,mkS [(1,(jL 3 Qa.cells bg2)),(6,(jI v101)),(8,(.own 0)),(9,(.own 1))],[some (.row false 1 (v102.map (cInt .i64))),some (.row false 1 (v103.map (cInt .i64)))])
def f61n3S(bb1:Int)(bg2:List Qa)(bb3:Int):Tr×Hp:=(mkS [(0,(jI bb1)),(1,(jL 3 Qa.cells bg2)),(5,(jI bb3)),(6,(jI bb1)),(8,(.pl (.sl .nil 0 []))),(9,(.pl (.sl .nil 0 [])))],[])
noncomputable def f61n3(bb1:Int)(bg2:List Qa)(bb3:Int):Option f61n3O :=
 (f61n4 FUEL bb1 bg2 bb3 bb1 0 [] []).bind fun o96=>match o96 with
 | .exit2 v98 v99 v100=>some (.norm v98 v99 v100)
theorem f61n3_ok(bb1:Int)(bg2:List Qa)(bb3:Int){o:f61n3O}(h:f61n3 bb1 bg2 bb3=some o):T Try.prog Try.f61.ntmps 0 (cL (Qj 1 (Qj 1 (Qj 2 c61)))) (f61n3S bb1 bg2 bb3) (·=f61n3E bb1 bg2 bb3 o):=by
 unfold f61n3 at h;refine rN Qf 1 [j3] [] [.mat 8 1,.mat 9 1] [0,1] [0,1,5,6,8,9,10] (f61n4S bb1 bg2 bb3 bb1 0 [] []) an ?_;obtain ⟨o96,h97,h⟩:=Qc h;cases o96 with
 | exit2 v98 v99 v100 =>
  obtain rfl:=Qe h;exact T.last' (T.bl (i:=2) (by kernel_rfl) (by kernel_rfl) (f61n4_ok FUEL bb1 bg2 bb3 bb1 0 [] [] h97)) (tds:=[]) (m:=[0,1]) (keep:=[1,6,8,9]) (st2:=(f61n3E bb1 bg2 bb3 (.norm v98 v99 v100)).2) (by kernel_rfl) an rfl
inductive f61n7O where
 | exit6 (v312:Int)
def f61n7E(bg1:List Qa)(bb2:Int)(be3 be4:List Int):f61n7O→Ex×Tr×Hp
 | .exit6 v312=>((.exit 6),mkS [(1,(jL 3 Qa.cells bg1)),(6,(jI bb2)),(8,(.own 0)),(9,(.own 1)),(13,(jI v312))],[some (.row false 1 (be3.map (cInt .i64))),some (.row false 1 (be4.map (cInt .i64)))])
def f61n7S(bg1:List Qa)(bb2:Int)(be3 be4:List Int)(v298 v299:Int):Tr×Hp:=(mkS [(1,(jL 3 Qa.cells bg1)),(6,(jI bb2)),(8,(.own 0)),(9,(.own 1)),(13,(jI v298)),(14,(jI v299))],[some (.row false 1 (be3.map (cInt .i64))),some (.row false 1 (be4.map (cInt .i64)))])
noncomputable def f61n7:Nat→List Qa→Int→List Int→List Int→Int→Int→Option f61n7O
 | 0,_,_,_,_,_,_=>none
 | f+1,bg1,bb2,be3,be4,v298,v299 =>
  bif decide (v299<(bg1.length:Int)) then
   (at? be4 v299).bind fun x307 =>
   (at? be4 v298).bind fun x309 =>
   bif decide (x309<x307) then
    (f61n7 f bg1 bb2 be3 be4 v299 (wr64 (v299+1)))
   else
    (f61n7 f bg1 bb2 be3 be4 v298 (wr64 (v299+1)))
  else
   some (.exit6 v298)
theorem f61n7_ok:∀(f:Nat)(bg1:List Qa)(bb2:Int)(be3 be4:List Int)(v298 v299:Int){o:f61n7O},f61n7 f bg1 bb2 be3 be4 v298 v299=some o→TL Try.prog Try.f61.ntmps 0 f (cL (cL (Qj 1 (cL (Qj 1 (cL (Qj 1 (cL (cL (cL (Qj 0 (Qj 1 (Qj 1 (Qj 1 (Qj 2 c61))))))))))))))) (f61n7S bg1 bb2 be3 be4 v298 v299) (·=f61n7E bg1 bb2 be3 be4 o)
 | 0,_,_,_,_,_,_,o,h=>by rw [f61n7] at h; cases h
 | f+1,bg1,bb2,be3,be4,v298,v299,o,h=>by
  rw [f61n7] at h;refine TL.body (K:=fun s=>∃v298:Int,∃v299:Int,s=(f61n7S bg1 bb2 be3 be4 v298 v299)∧f61n7 f bg1 bb2 be3 be4 v298 v299=some o) ?_ (by rintro _ ⟨v298,v299,rfl,hk⟩; exact f61n7_ok f _ _ _ _ _ _ hk);rcases Qh h with ⟨h301,h⟩|⟨h301,h⟩
  ·obtain ⟨x307,h308,h⟩:=Qc h;obtain ⟨x309,h310,h⟩:=Qc h;rcases Qh h with ⟨h311,h⟩|⟨h311,h⟩
   ·exact rE Qf [([],[],[(2,.val (jI (bg1.length:Int)))]),([],[(2,.at_ (Int.toNat v299)),(3,.idx 0 ((cInt .i64) x307)),(6,.at_ (Int.toNat v298)),(7,.idx 0 ((cInt .i64) x309))],[]),j3,j3] [some true,some true] [] [0,1] [1,6,8,9,13,14] (.norm,(f61n7S bg1 bb2 be3 be4 v299 (wr64 (v299+1)))) (ap (Qo (xs:=bg1) (c:=Qa.cells)) (ap h301 (ap (Qg h308).1 (ap (Qs (cInt .i64) (Qg h308).2) (ap (Qk (cInt .i64) (Qg h308).2) (ap (Qg h310).1 (ap (Qs (cInt .i64) (Qg h310).2) (ap (Qk (cInt .i64) (Qg h310).2) (ap h311 an))))))))) (Qn.norm ⟨v299,(wr64 (v299+1)),rfl,h⟩)
   ·exact rE Qf [([],[],[(2,.val (jI (bg1.length:Int)))]),([],[(2,.at_ (Int.toNat v299)),(3,.idx 0 ((cInt .i64) x307)),(6,.at_ (Int.toNat v298)),(7,.idx 0 ((cInt .i64) x309))],[]),j3] [some true,some false] [] [0,1] [1,6,8,9,13,14] (.norm,(f61n7S bg1 bb2 be3 be4 v298 (wr64 (v299+1)))) (ap (Qo (xs:=bg1) (c:=Qa.cells)) (ap h301 (ap (Qg h308).1 (ap (Qs (cInt .i64) (Qg h308).2) (ap (Qk (cInt .i64) (Qg h308).2) (ap (Qg h310).1 (ap (Qs (cInt .i64) (Qg h310).2) (ap (Qk (cInt .i64) (Qg h310).2) (ap h311 an))))))))) (Qn.norm ⟨v298,(wr64 (v299+1)),rfl,h⟩)
  ·obtain rfl:=Qe h;exact rK Qf 1 [([],[],[(2,.val (jI (bg1.length:Int)))])] [some false] [] [0,1] [1,6,8,9,13] (.exit 6) ((f61n7E bg1 bb2 be3 be4 (.exit6 v298)).2) (ap (Qo (xs:=bg1) (c:=Qa.cells)) (ap h301 an)) (Qn.out rfl rfl)
inductive f61n6O where
 | norm (v316:Int)
def f61n6E(bg1:List Qa)(bb2:Int)(be3 be4:List Int):f61n6O→Ex×Tr×Hp
 | .norm v316=>(.norm,mkS [(1,(jL 3 Qa.cells bg1)),(6,(jI bb2)),(8,(.own 0)),(9,(.own 1)),(13,(jI v316))],[some (.row false 1 (be3.map (cInt .i64))),some (.row false 1 (be4.map (cInt .i64)))])
def f61n6S(bg1:List Qa)(bb2:Int)(be3 be4:List Int):Tr×Hp:=(mkS [(1,(jL 3 Qa.cells bg1)),(6,(jI bb2)),(8,(.own 0)),(9,(.own 1)),(13,(jI 0))],[some (.row false 1 (be3.map (cInt .i64))),some (.row false 1 (be4.map (cInt .i64)))])
noncomputable def f61n6(bg1:List Qa)(bb2:Int)(be3 be4:List Int):Option f61n6O :=
 (f61n7 FUEL bg1 bb2 be3 be4 0 0).bind fun o313=>match o313 with
 | .exit6 v315=>some (.norm v315)
theorem f61n6_ok(bg1:List Qa)(bb2:Int)(be3 be4:List Int){o:f61n6O}(h:f61n6 bg1 bb2 be3 be4=some o):T Try.prog Try.f61.ntmps 0 (cL (Qj 1 (cL (Qj 1 (cL (cL (cL (Qj 0 (Qj 1 (Qj 1 (Qj 1 (Qj 2 c61)))))))))))) (f61n6S bg1 bb2 be3 be4) (·=f61n6E bg1 bb2 be3 be4 o):=by
 unfold f61n6 at h;refine rN Qf 1 [j3] [] [] [0,1] [1,6,8,9,13,14] (f61n7S bg1 bb2 be3 be4 0 0) an ?_;obtain ⟨o313,h314,h⟩:=Qc h;cases o313 with
 | exit6 v315 =>
  obtain rfl:=Qe h;exact T.last' (T.bl (i:=6) (by kernel_rfl) (by kernel_rfl) (f61n7_ok FUEL bg1 bb2 be3 be4 0 0 h314)) (tds:=[]) (m:=[0,1]) (keep:=[1,6,8,9,13]) (st2:=(f61n6E bg1 bb2 be3 be4 (.norm v315)).2) (by kernel_rfl) an rfl
inductive f61n5O where
 | norm (v328:List Int) (v329:List Int)
def f61n5E(bg1:List Qa)(bb2:Int)(be3 be4:List Int):f61n5O→Ex×Tr×Hp
 | .norm v328 v329=>(.norm,mkS [(1,(jL 3 Qa.cells bg1)),(6,(jI (wr64 (bb2-1)))),(8,(.own 0)),(9,(.own 1))],[some (.row false 1 (v328.map (cInt .i64))),some (.row false 1 (v329.map (cInt .i64)))])
def f61n5S(bg1:List Qa)(bb2:Int)(be3 be4:List Int):Tr×Hp:=(mkS [(1,(jL 3 Qa.cells bg1)),(6,(jI bb2)),(8,(.own 0)),(9,(.own 1))],[some (.row false 1 (be3.map (cInt .i64))),some (.row false 1 (be4.map (cInt .i64)))])
noncomputable def f61n5(bg1:List Qa)(bb2:Int)(be3 be4:List Int):Option f61n5O :=
 (f61n6 bg1 bb2 be3 be4).bind fun o317=>match o317 with
 | .norm v319=>(at? be3 v319).bind fun x322 =>
  (at? be4 v319).bind fun x326 =>
  some (.norm (be3.set (Int.toNat v319) (wr64 (x322+1))) (be4.set (Int.toNat v319) (-1)))
theorem f61n5_ok(bg1:List Qa)(bb2:Int)(be3 be4:List Int){o:f61n5O}(h:f61n5 bg1 bb2 be3 be4=some o):T Try.prog Try.f61.ntmps 0 (Qj 1 (cL (cL (cL (Qj 0 (Qj 1 (Qj 1 (Qj 1 (Qj 2 c61))))))))) (f61n5S bg1 bb2 be3 be4) (·=f61n5E bg1 bb2 be3 be4 o):=by
 unfold f61n5 at h;refine T.block' (i:=5) (by kernel_rfl) ?_;refine rN Qf 1 [j3] [] [] [0,1] [1,6,8,9,13] (f61n6S bg1 bb2 be3 be4) an ?_;obtain ⟨o317,h318,h⟩:=Qc h;cases o317 with
 | norm v319 =>
  refine T.oneN (by kernel_rfl) (f61n6_ok bg1 bb2 be3 be4 h318) (st2:=(f61n6E bg1 bb2 be3 be4 (.norm v319)).2) rfl ?_;obtain ⟨x322,h323,h⟩:=Qc h;obtain ⟨x326,h327,h⟩:=Qc h;obtain rfl:=Qe h
  exact rE Qf [([],[(4,.at_ (Int.toNat v319)),(5,.idx 0 ((cInt .i64) x322)),(7,.at_ (Int.toNat v319)),(8,.idx 0 ((cInt .i64) x322))],[(8,.row 0 ((be3.set (Int.toNat v319) (wr64 (x322+1))).map (cInt .i64)))]),([],[(2,.at_ (Int.toNat v319)),(3,.idx 0 ((cInt .i64) x326))],[(3,.row 1 ((be4.set (Int.toNat v319) (-1)).map (cInt .i64)))]),j3] [] [] [0,1] [1,6,8,9] (.norm,(f61n5E bg1 bb2 be3 be4 (.norm (be3.set (Int.toNat v319) (wr64 (x322+1))) (be4.set (Int.toNat v319) (-1)))).2) (ap (Qg h323).1 (ap (Qs (cInt .i64) (Qg h323).2) (ap (Qk (cInt .i64) (Qg h323).2) (ap (Qg h323).1 (ap (Qs (cInt .i64) (Qg h323).2) (ap (Qk (cInt .i64) (Qg h323).2) (ap (set_cv (xs:=be3) (c:=(cInt .i64)) (k:=(Int.toNat v319)) (x:=(wr64 (x322+1)))) (ap (Qg h327).1 (ap (Qs (cInt .i64) (Qg h327).2) (ap (Qk (cInt .i64) (Qg h327).2) (ap (set_cv (xs:=be4) (c:=(cInt .i64)) (k:=(Int.toNat v319)) (x:=(-1))) an))))))))))) rfl
inductive f61n8O where
 | exit4 (v334:List Int)
def f61n8E(a2:List Qa):f61n8O→Ex×Tr×Hp
 | .exit4 v334=>((.exit 4),mkS [(8,(.own 0))],[some (.row false 1 (v334.map (cInt .i64)))])
def f61n8S(a2:List Qa)(v258:Int)(v259 v260:List Int):Tr×Hp:=(mkS [(1,(jL 3 Qa.cells a2)),(6,(jI v258)),(8,(.own 0)),(9,(.own 1))],[some (.row false 1 (v259.map (cInt .i64))),some (.row false 1 (v260.map (cInt .i64)))])
noncomputable def f61n8:Nat→List Qa→Int→List Int→List Int→Option f61n8O
 | 0,_,_,_,_=>none
 | f+1,a2,v258,v259,v260 =>
  bif decide (0<v258) then
   (f61n5 a2 v258 v259 v260).bind fun o330=>match o330 with
   | .norm v332 v333=>(f61n8 f a2 (wr64 (v258-1)) v332 v333)
  else
   some (.exit4 v259)
theorem f61n8_ok:∀(f:Nat)(a2:List Qa)(v258:Int)(v259 v260:List Int){o:f61n8O},f61n8 f a2 v258 v259 v260=some o→TL Try.prog Try.f61.ntmps 0 f (cL (cL (cL (Qj 0 (Qj 1 (Qj 1 (Qj 1 (Qj 2 c61)))))))) (f61n8S a2 v258 v259 v260) (·=f61n8E a2 o)
 | 0,_,_,_,_,o,h=>by rw [f61n8] at h; cases h
 | f+1,a2,v258,v259,v260,o,h=>by
  rw [f61n8] at h;refine TL.body (K:=fun s=>∃v258:Int,∃v259:List Int,∃v260:List Int,s=(f61n8S a2 v258 v259 v260)∧f61n8 f a2 v258 v259 v260=some o) ?_ (by rintro _ ⟨v258,v259,v260,rfl,hk⟩; exact f61n8_ok f _ _ _ _ hk);rcases Qh h with ⟨h262,h⟩|⟨h262,h⟩
  ·refine rN Qf 1 [j3] [some true] [] [0,1] [1,6,8,9] (f61n5S a2 v258 v259 v260) (ap h262 an) ?_;obtain ⟨o330,h331,h⟩:=Qc h;cases o330 with
   | norm v332 v333 =>
    exact T.last' (f61n5_ok a2 v258 v259 v260 h331) (tds:=[]) (m:=[0,1]) (keep:=[1,6,8,9]) (st2:=(f61n8S a2 (wr64 (v258-1)) v332 v333)) (by kernel_rfl) an (Qn.norm ⟨(wr64 (v258-1)),v332,v333,rfl,h⟩)
  ·obtain rfl:=Qe h;exact rK Qf 1 [j3] [some false] [] [0] [8] (.exit 4) ((f61n8E a2 (.exit4 v259)).2) (ap h262 an) (Qn.out rfl rfl)
inductive f61n0O where
 | ret (v338:List Int)
def f61n0E(a1:Int)(a2:List Qa):f61n0O→Ex×Tr×Hp
 | .ret v338=>(.ret,mkS [(4,(.own 0))],[some (.row false 1 (v338.map (cInt .i64)))])
def f61n0S(a1:Int)(a2:List Qa):Tr×Hp:=(Qu [(jI a1),(jL 3 Qa.cells a2)] 0 .leaf,[])
noncomputable def f61n0(a1:Int)(a2:List Qa):Option f61n0O :=
 (f61n1 a1 a2).bind fun o30=>match o30 with
 | .norm v32=>(f61n3 a1 a2 v32).bind fun o104=>match o104 with
  | .norm v106 v107 v108=>(f61n8 FUEL a2 v106 v107 v108).bind fun o335=>match o335 with
   | .exit4 v337=>some (.ret v337)
theorem f61n0_ok(a1:Int)(a2:List Qa){o:f61n0O}(h:f61n0 a1 a2=some o):T Try.prog Try.f61.ntmps 0 c61 (f61n0S a1 a2) (·=f61n0E a1 a2 o):=by
 unfold f61n0 at h;refine rN Qf 2 [j3,j3] [] [] [] [0,1,5,6] (f61n1S a1 a2) an ?_;obtain ⟨o30,h31,h⟩:=Qc h;cases o30 with
 | norm v32 =>
  refine T.oneN (by kernel_rfl) (f61n1_ok a1 a2 h31) (st2:=(f61n1E a1 a2 (.norm v32)).2) rfl ?_;refine rN Qf 1 [j3] [] [] [] [0,1,5,6,8,9] (f61n3S a1 a2 v32) an ?_;obtain ⟨o104,h105,h⟩:=Qc h;cases o104 with
  | norm v106 v107 v108 =>
   refine T.oneN (by kernel_rfl) (f61n3_ok a1 a2 v32 h105) (st2:=(f61n3E a1 a2 v32 (.norm v106 v107 v108)).2) rfl ?_;refine rN Qf 0 [] [] [] [0,1] [1,6,8,9] (f61n8S a2 v106 v107 v108) an ?_;obtain ⟨o335,h336,h⟩:=Qc h;cases o335 with
   | exit4 v337 =>
    refine T.oneN (by kernel_rfl) (T.bl (i:=4) (by kernel_rfl) (by kernel_rfl) (f61n8_ok FUEL a2 v106 v107 v108 h336)) (st2:=(f61n8E a2 (.exit4 v337)).2) rfl ?_;obtain rfl:=Qe h;exact rE Qf [j3] [] [] [0] [4] (.ret,(f61n0E a1 a2 (.ret v337)).2) an rfl
noncomputable def f61(a1:Int)(a2:List Qa):Option (List Int):=(f61n0 a1 a2).bind fun o=>match o with
 | .ret v338=>some v338
theorem f61_ok(a1:Int)(a2:List Qa){r:List Int}(h:f61 a1 a2=some r):Qm Try.prog false 61 [(jI a1),(jL 3 Qa.cells a2)] [] (.pl (.sl .any 1 (r.map (cInt .i64)))) []:=by
 unfold f61 at h;obtain ⟨o,ho,h⟩:=Qc h;cases o with
 | ret v338 =>
  obtain rfl:=Qe h;exact Qm.plain Qf (f:=Try.f61) (c:=c61) (by kernel_rfl) (by kernel_rfl) (by kernel_rfl) (by kernel_rfl) ((f61n0_ok a1 a2 ho).mono fun r e=>by subst e; exact ⟨.inl rfl,(.own 0),(.pl (.sl .any 1 (v338.map (cInt .i64)))),by kernel_rfl,by kernel_rfl,((Wk.refl _):Wk (.pl (.sl .any 1 (v338.map (cInt .i64)))) (.pl (.sl .any 1 (v338.map (cInt .i64)))))⟩)

noncomputable def c43:Code:=Try.f43.body.getD .skip
inductive f43n3O where
 | norm (v239:Int)
def f43n3E(bg1:List Qa)(bb2:Int)(bi3:Bool)(bb4:Int)(bg5:List Qa):f43n3O→Ex×Tr×Hp
 | .norm v239=>(.norm,mkS [(0,(jL 3 Qa.cells bg1)),(1,(jI bb2)),(2,(jB bi3)),(8,(.own 0)),(9,(jI bb4)),(10,(jI v239))],[jR 3 Qa.cells bg5])
def f43n3S(bg1:List Qa)(bb2:Int)(bi3:Bool)(bb4:Int)(bg5:List Qa):Tr×Hp:=(mkS [(0,(jL 3 Qa.cells bg1)),(1,(jI bb2)),(2,(jB bi3)),(8,(.own 0)),(9,(jI bb4)),(10,(jI bb4))],[jR 3 Qa.cells bg5])
noncomputable def f43n3(bg1:List Qa)(bb2:Int)(bi3:Bool)(bb4:Int)(bg5:List Qa):Option f43n3O :=
 bif bi3 then
  some (.norm (wr64 (9-bb4)))
 else
  some (.norm bb4)
theorem f43n3_ok(bg1:List Qa)(bb2:Int)(bi3:Bool)(bb4:Int)(bg5:List Qa){o:f43n3O}(h:f43n3 bg1 bb2 bi3 bb4 bg5=some o):T Try.prog Try.f43.ntmps 0 (cL (Qj 1 (cL (cL (Qj 1 (cL (cL (Qj 1 (cL (Qj 2 c43)))))))))) (f43n3S bg1 bb2 bi3 bb4 bg5) (·=f43n3E bg1 bb2 bi3 bb4 bg5 o):=by
 unfold f43n3 at h;rcases Qh h with ⟨h238,h⟩|⟨h238,h⟩
 ·obtain rfl:=Qe h;exact rE Qf [j3,j3] [some true] [] [0] [0,1,2,8,9,10] (.norm,(f43n3E bg1 bb2 bi3 bb4 bg5 (.norm (wr64 (9-bb4)))).2) (ap h238 an) rfl
 ·obtain rfl:=Qe h;exact rE Qf [j3] [some false] [] [0] [0,1,2,8,9,10] (.norm,(f43n3E bg1 bb2 bi3 bb4 bg5 (.norm bb4)).2) (ap h238 an) rfl
inductive f43n5O where
 | exit2 (v269:Int)
def f43n5E(bg1:List Qa)(bb2:Int)(bi3:Bool)(bb4 bb5:Int)(bg6 bg7:List Qa):f43n5O→Ex×Tr×Hp
 | .exit2 v269=>((.exit 2),mkS [(0,(jL 3 Qa.cells bg1)),(1,(jI bb2)),(2,(jB bi3)),(8,(.own 0)),(9,(jI bb4)),(10,(jI bb5)),(11,(jL 3 Qa.cells bg6)),(12,(jI v269))],[jR 3 Qa.cells bg7])
def f43n5S(bg1:List Qa)(bb2:Int)(bi3:Bool)(bb4 bb5:Int)(bg6 bg7:List Qa)(v261 v262:Int):Tr×Hp:=(mkS [(0,(jL 3 Qa.cells bg1)),(1,(jI bb2)),(2,(jB bi3)),(8,(.own 0)),(9,(jI bb4)),(10,(jI bb5)),(11,(jL 3 Qa.cells bg6)),(12,(jI v261)),(13,(jI v262))],[jR 3 Qa.cells bg7])
noncomputable def f43n5:Nat→List Qa→Int→Bool→Int→Int→List Qa→List Qa→Int→Int→Option f43n5O
 | 0,_,_,_,_,_,_,_,_,_=>none
 | f+1,bg1,bb2,bi3,bb4,bb5,bg6,bg7,v261,v262 =>
  bif decide (v262<(bg6.length:Int)) then
   (at? bg6 v262).bind fun x267 =>
   (f43n5 f bg1 bb2 bi3 bb4 bb5 bg6 bg7 (wr64 (v261+x267.Amount)) (wr64 (v262+1)))
  else
   some (.exit2 v261)
theorem f43n5_ok:∀(f:Nat)(bg1:List Qa)(bb2:Int)(bi3:Bool)(bb4 bb5:Int)(bg6 bg7:List Qa)(v261 v262:Int){o:f43n5O},f43n5 f bg1 bb2 bi3 bb4 bb5 bg6 bg7 v261 v262=some o→TL Try.prog Try.f43.ntmps 0 f (cL (cL (Qj 1 (cL (Qj 2 (Qj 1 (Qj 1 (cL (cL (Qj 1 (cL (cL (Qj 1 (cL (Qj 2 c43))))))))))))))) (f43n5S bg1 bb2 bi3 bb4 bb5 bg6 bg7 v261 v262) (·=f43n5E bg1 bb2 bi3 bb4 bb5 bg6 bg7 o)
 | 0,_,_,_,_,_,_,_,_,_,o,h=>by rw [f43n5] at h; cases h
 | f+1,bg1,bb2,bi3,bb4,bb5,bg6,bg7,v261,v262,o,h=>by
  rw [f43n5] at h;refine TL.body (K:=fun s=>∃v261:Int,∃v262:Int,s=(f43n5S bg1 bb2 bi3 bb4 bb5 bg6 bg7 v261 v262)∧f43n5 f bg1 bb2 bi3 bb4 bb5 bg6 bg7 v261 v262=some o) ?_ (by rintro _ ⟨v261,v262,rfl,hk⟩; exact f43n5_ok f _ _ _ _ _ _ _ _ _ hk);rcases Qh h with ⟨h264,h⟩|⟨h264,h⟩
  ·obtain ⟨x267,h268,h⟩:=Qc h;exact rE Qf [([],[],[(2,.val (jI (bg6.length:Int)))]),([],[(3,.idx (Int.toNat v262) (Qa.cells x267))],[]),j3] [some true] [] [0] [0,1,2,8,9,10,11,12,13] (.norm,(f43n5S bg1 bb2 bi3 bb4 bb5 bg6 bg7 (wr64 (v261+x267.Amount)) (wr64 (v262+1)))) (ap (Qo (xs:=bg6) (c:=Qa.cells)) (ap h264 (ap (Qg h268).1 (ap (Qk Qa.cells (Qg h268).2) an)))) (Qn.norm ⟨(wr64 (v261+x267.Amount)),(wr64 (v262+1)),rfl,h⟩)
  ·obtain rfl:=Qe h;exact rK Qf 1 [([],[],[(2,.val (jI (bg6.length:Int)))])] [some false] [] [0] [0,1,2,8,9,10,11,12] (.exit 2) ((f43n5E bg1 bb2 bi3 bb4 bb5 bg6 bg7 (.exit2 v261)).2) (ap (Qo (xs:=bg6) (c:=Qa.cells)) (ap h264 an)) (Qn.out rfl rfl)
noncomputable def f43n5L(bg1:List Qa)(bb2:Int)(bi3:Bool)(bb4 bb5:Int)(bg6 bg7:List Qa):List Qa→Int→Int→Option f43n5O
 | [],v261,v262 =>
  some (.exit2 v261)
 | x0::rest,v261,v262 =>
  (f43n5L bg1 bb2 bi3 bb4 bb5 bg6 bg7 rest (wr64 (v261+x0.Amount)) (v262+1))
theorem f43n5L_eq(bg1:List Qa)(bb2:Int)(bi3:Bool)(bb4 bb5:Int)(bg6 bg7:List Qa):∀(rest:List Qa)(f k:Nat)(v261:Int),bg6.drop k=rest→bg6.length≤maxLen→rest.length<f→f43n5 f bg1 bb2 bi3 bb4 bb5 bg6 bg7 v261 (k:Int)=f43n5L bg1 bb2 bi3 bb4 bb5 bg6 bg7 rest v261 (k:Int)
 | _,0,_,_,_,_,hf=>absurd hf (Nat.not_lt_zero _)
 | [],f+1,k,v261,hd,hm,hf=>by
  have hk:¬((k:Int)<(bg6.length:Int)):=by have:=Qab hd; omega
  rw [f43n5,f43n5L];simp only [decide_eq_false hk,cond_false]
 | x0::rest,f+1,k,v261,hd,hm,hf=>by
  obtain ⟨hx,hlt,hd'⟩:=Qv hd;have hk:(k:Int)<(bg6.length:Int):=by omega
  have hw:wr64 ((k:Int)+1)=(k:Int)+1:=Qaj (by omega) (by unfold maxLen at hm; omega);have ih:∀(v261:Int),f43n5 f bg1 bb2 bi3 bb4 bb5 bg6 bg7 v261 ((k:Int)+1)=f43n5L bg1 bb2 bi3 bb4 bb5 bg6 bg7 rest v261 ((k:Int)+1):=fun v261=>f43n5L_eq bg1 bb2 bi3 bb4 bb5 bg6 bg7 rest f (k+1) v261 hd' hm (by simpa using hf);rw [f43n5,f43n5L];simp only [decide_eq_true hk,cond_true,Qay,hx,Option.bind_some,hw,ih]
theorem f43n5_run(bg1:List Qa)(bb2:Int)(bi3:Bool)(bb4 bb5:Int)(bg6 bg7:List Qa)(v261:Int)(hm:bg6.length≤maxLen):f43n5 FUEL bg1 bb2 bi3 bb4 bb5 bg6 bg7 v261 0=f43n5L bg1 bb2 bi3 bb4 bb5 bg6 bg7 bg6 v261 0:=f43n5L_eq bg1 bb2 bi3 bb4 bb5 bg6 bg7 bg6 FUEL 0 v261 List.drop_zero hm (Qz hm)
inductive f43n4O where
 | norm (v273:Int)
def f43n4E(bg1:List Qa)(bb2:Int)(bi3:Bool)(bb4 bb5:Int)(bg6 bg7:List Qa):f43n4O→Ex×Tr×Hp
 | .norm v273=>(.norm,mkS [(0,(jL 3 Qa.cells bg1)),(1,(jI bb2)),(2,(jB bi3)),(8,(.own 0)),(9,(jI bb4)),(10,(jI bb5)),(11,(jL 3 Qa.cells bg6)),(12,(jI v273))],[jR 3 Qa.cells bg7])
def f43n4S(bg1:List Qa)(bb2:Int)(bi3:Bool)(bb4 bb5:Int)(bg6 bg7:List Qa):Tr×Hp:=(mkS [(0,(jL 3 Qa.cells bg1)),(1,(jI bb2)),(2,(jB bi3)),(8,(.own 0)),(9,(jI bb4)),(10,(jI bb5)),(11,(jL 3 Qa.cells bg6)),(12,(jI 0))],[jR 3 Qa.cells bg7])
noncomputable def f43n4(bg1:List Qa)(bb2:Int)(bi3:Bool)(bb4 bb5:Int)(bg6 bg7:List Qa):Option f43n4O :=
 (f43n5 FUEL bg1 bb2 bi3 bb4 bb5 bg6 bg7 0 0).bind fun o270=>match o270 with
 | .exit2 v272=>some (.norm v272)
theorem f43n4_ok(bg1:List Qa)(bb2:Int)(bi3:Bool)(bb4 bb5:Int)(bg6 bg7:List Qa){o:f43n4O}(h:f43n4 bg1 bb2 bi3 bb4 bb5 bg6 bg7=some o):T Try.prog Try.f43.ntmps 0 (cL (Qj 2 (Qj 1 (Qj 1 (cL (cL (Qj 1 (cL (cL (Qj 1 (cL (Qj 2 c43)))))))))))) (f43n4S bg1 bb2 bi3 bb4 bb5 bg6 bg7) (·=f43n4E bg1 bb2 bi3 bb4 bb5 bg6 bg7 o):=by
 unfold f43n4 at h;refine rN Qf 1 [j3] [] [] [0] [0,1,2,8,9,10,11,12,13] (f43n5S bg1 bb2 bi3 bb4 bb5 bg6 bg7 0 0) an ?_;obtain ⟨o270,h271,h⟩:=Qc h;cases o270 with
 | exit2 v272 =>
  obtain rfl:=Qe h;exact T.last' (T.bl (i:=2) (by kernel_rfl) (by kernel_rfl) (f43n5_ok FUEL bg1 bb2 bi3 bb4 bb5 bg6 bg7 0 0 h271)) (tds:=[]) (m:=[0]) (keep:=[0,1,2,8,9,10,11,12]) (st2:=(f43n4E bg1 bb2 bi3 bb4 bb5 bg6 bg7 (.norm v272)).2) (by kernel_rfl) an rfl
inductive f43n7O where
 | exit4 (v325:List Qa)
def f43n7E(bg1:List Qa)(bb2:Int)(bi3:Bool)(bb4 bb5:Int)(bg6:List Qa)(bb7:Int)(be8:List Int)(bg9:List Qa):f43n7O→Ex×Tr×Hp
 | .exit4 v325=>((.exit 4),mkS [(0,(jL 3 Qa.cells bg1)),(1,(jI bb2)),(2,(jB bi3)),(8,(.own 0)),(9,(jI bb4)),(14,(jI (mnI bb2 bb7))),(16,(.own 1))],[jR 3 Qa.cells bg9,jR 3 Qa.cells v325])
def f43n7S(bg1:List Qa)(bb2:Int)(bi3:Bool)(bb4 bb5:Int)(bg6:List Qa)(bb7:Int)(be8:List Int)(bg9:List Qa)(v309:Int)(v310:List Qa):Tr×Hp:=(mkS [(0,(jL 3 Qa.cells bg1)),(1,(jI bb2)),(2,(jB bi3)),(8,(.own 0)),(9,(jI bb4)),(10,(jI bb5)),(11,(jL 3 Qa.cells bg6)),(14,(jI (mnI bb2 bb7))),(15,(.pl (.sl .any 1 (be8.map (cInt .i64))))),(16,(.own 1)),(17,(jI v309))],[jR 3 Qa.cells bg9,jR 3 Qa.cells v310])
noncomputable def f43n7:Nat→List Qa→Int→Bool→Int→Int→List Qa→Int→List Int→List Qa→Int→List Qa→Option f43n7O
 | 0,_,_,_,_,_,_,_,_,_,_,_=>none
 | f+1,bg1,bb2,bi3,bb4,bb5,bg6,bb7,be8,bg9,v309,v310 =>
  bif decide (v309<(bg6.length:Int)) then
   (at? be8 v309).bind fun x319 =>
   bif decide (0<x319) then
    (at? bg6 v309).bind fun x322 =>
    req (fit (v310.length+1) 32) <|
    (f43n7 f bg1 bb2 bi3 bb4 bb5 bg6 bb7 be8 bg9 (wr64 (v309+1)) (v310++[(Qa.mk bb5 x322.Owner x319)]))
   else
    (f43n7 f bg1 bb2 bi3 bb4 bb5 bg6 bb7 be8 bg9 (wr64 (v309+1)) v310)
  else
   some (.exit4 v310)
theorem f43n7_ok:∀(f:Nat)(bg1:List Qa)(bb2:Int)(bi3:Bool)(bb4 bb5:Int)(bg6:List Qa)(bb7:Int)(be8:List Int)(bg9:List Qa)(v309:Int)(v310:List Qa){o:f43n7O},f43n7 f bg1 bb2 bi3 bb4 bb5 bg6 bb7 be8 bg9 v309 v310=some o→TL Try.prog Try.f43.ntmps 0 f (cL (cL (Qj 1 (cL (Qj 3 (Qj 1 (Qj 2 (Qj 1 (Qj 1 (cL (cL (Qj 1 (cL (cL (Qj 1 (cL (Qj 2 c43))))))))))))))))) (f43n7S bg1 bb2 bi3 bb4 bb5 bg6 bb7 be8 bg9 v309 v310) (·=f43n7E bg1 bb2 bi3 bb4 bb5 bg6 bb7 be8 bg9 o)
 | 0,_,_,_,_,_,_,_,_,_,_,_,o,h=>by rw [f43n7] at h; cases h
 | f+1,bg1,bb2,bi3,bb4,bb5,bg6,bb7,be8,bg9,v309,v310,o,h=>by
  rw [f43n7] at h;refine TL.body (K:=fun s=>∃v309:Int,∃v310:List Qa,s=(f43n7S bg1 bb2 bi3 bb4 bb5 bg6 bb7 be8 bg9 v309 v310)∧f43n7 f bg1 bb2 bi3 bb4 bb5 bg6 bb7 be8 bg9 v309 v310=some o) ?_ (by rintro _ ⟨v309,v310,rfl,hk⟩; exact f43n7_ok f _ _ _ _ _ _ _ _ _ _ _ hk);rcases Qh h with ⟨h312,h⟩|⟨h312,h⟩
  ·obtain ⟨x319,h320,h⟩:=Qc h;rcases Qh h with ⟨h321,h⟩|⟨h321,h⟩
   ·obtain ⟨x322,h323,h⟩:=Qc h;obtain ⟨h324,h⟩:=Qq h
    exact rE Qf [([],[],[(2,.val (jI (bg6.length:Int)))]),([],[(2,.idx (Int.toNat v309) ((cInt .i64) x319))],[]),([],[(4,.idx (Int.toNat v309) (Qa.cells x322)),(9,.idx (Int.toNat v309) ((cInt .i64) x319)),(13,.fits)],[(13,.row 3 ((v310++[(Qa.mk bb5 x322.Owner x319)]).map Qa.cells))]),j3] [some true,some true] [] [0,3] [0,1,2,8,9,10,11,14,15,16,17] (.norm,(f43n7S bg1 bb2 bi3 bb4 bb5 bg6 bb7 be8 bg9 (wr64 (v309+1)) (v310++[(Qa.mk bb5 x322.Owner x319)]))) (ap (Qo (xs:=bg6) (c:=Qa.cells)) (ap h312 (ap (Qg h320).1 (ap (Qk (cInt .i64) (Qg h320).2) (ap h321 (ap (Qg h323).1 (ap (Qk Qa.cells (Qg h323).2) (ap (Qg h320).1 (ap (Qk (cInt .i64) (Qg h320).2) (ap (Qbt (te:=ti59) (xs:=v310) (n:=1) (c:=Qa.cells) h324 rfl) (ap (app_cv (xs:=v310) (ys:=[(Qa.mk bb5 x322.Owner x319)]) (c:=Qa.cells)) an))))))))))) (Qn.norm ⟨(wr64 (v309+1)),(v310++[(Qa.mk bb5 x322.Owner x319)]),rfl,h⟩)
   ·exact rE Qf [([],[],[(2,.val (jI (bg6.length:Int)))]),([],[(2,.idx (Int.toNat v309) ((cInt .i64) x319))],[]),j3] [some true,some false] [] [0,1] [0,1,2,8,9,10,11,14,15,16,17] (.norm,(f43n7S bg1 bb2 bi3 bb4 bb5 bg6 bb7 be8 bg9 (wr64 (v309+1)) v310)) (ap (Qo (xs:=bg6) (c:=Qa.cells)) (ap h312 (ap (Qg h320).1 (ap (Qk (cInt .i64) (Qg h320).2) (ap h321 an))))) (Qn.norm ⟨(wr64 (v309+1)),v310,rfl,h⟩)
  ·obtain rfl:=Qe h;exact rK Qf 1 [([],[],[(2,.val (jI (bg6.length:Int)))])] [some false] [] [0,1] [0,1,2,8,9,14,16] (.exit 4) ((f43n7E bg1 bb2 bi3 bb4 bb5 bg6 bb7 be8 bg9 (.exit4 v310)).2) (ap (Qo (xs:=bg6) (c:=Qa.cells)) (ap h312 an)) (Qn.out rfl rfl)
noncomputable def f43n7L(bg1:List Qa)(bb2:Int)(bi3:Bool)(bb4 bb5:Int)(bg6:List Qa)(bb7:Int)(be8:List Int)(bg9:List Qa):List Qa→Int→(List Qa)→Option f43n7O
 | [],v309,v310 =>
  some (.exit4 v310)
 | x0::rest,v309,v310 =>
  (at? be8 v309).bind fun x319 =>
  bif decide (0<x319) then
   req (fit (v310.length+1) 32) <|
   (f43n7L bg1 bb2 bi3 bb4 bb5 bg6 bb7 be8 bg9 rest (v309+1) (v310++[(Qa.mk bb5 x0.Owner x319)]))
  else
   (f43n7L bg1 bb2 bi3 bb4 bb5 bg6 bb7 be8 bg9 rest (v309+1) v310)
theorem f43n7L_eq(bg1:List Qa)(bb2:Int)(bi3:Bool)(bb4 bb5:Int)(bg6:List Qa)(bb7:Int)(be8:List Int)(bg9:List Qa):∀(rest:List Qa)(f k:Nat)(v310:List Qa),bg6.drop k=rest→bg6.length≤maxLen→rest.length<f→f43n7 f bg1 bb2 bi3 bb4 bb5 bg6 bb7 be8 bg9 (k:Int) v310=f43n7L bg1 bb2 bi3 bb4 bb5 bg6 bb7 be8 bg9 rest (k:Int) v310
 | _,0,_,_,_,_,hf=>absurd hf (Nat.not_lt_zero _)
 | [],f+1,k,v310,hd,hm,hf=>by
  have hk:¬((k:Int)<(bg6.length:Int)):=by have:=Qab hd; omega
  rw [f43n7,f43n7L];simp only [decide_eq_false hk,cond_false]
 | x0::rest,f+1,k,v310,hd,hm,hf=>by
  obtain ⟨hx,hlt,hd'⟩:=Qv hd;have hk:(k:Int)<(bg6.length:Int):=by omega
  have hw:wr64 ((k:Int)+1)=(k:Int)+1:=Qaj (by omega) (by unfold maxLen at hm; omega);have ih:∀(v310:List Qa),f43n7 f bg1 bb2 bi3 bb4 bb5 bg6 bb7 be8 bg9 ((k:Int)+1) v310=f43n7L bg1 bb2 bi3 bb4 bb5 bg6 bb7 be8 bg9 rest ((k:Int)+1) v310:=fun v310=>f43n7L_eq bg1 bb2 bi3 bb4 bb5 bg6 bb7 be8 bg9 rest f (k+1) v310 hd' hm (by simpa using hf);rw [f43n7,f43n7L];simp only [decide_eq_true hk,cond_true,Qay,hx,Option.bind_some,hw,ih]
theorem f43n7_run(bg1:List Qa)(bb2:Int)(bi3:Bool)(bb4 bb5:Int)(bg6:List Qa)(bb7:Int)(be8:List Int)(bg9 v310:List Qa)(hm:bg6.length≤maxLen):f43n7 FUEL bg1 bb2 bi3 bb4 bb5 bg6 bb7 be8 bg9 0 v310=f43n7L bg1 bb2 bi3 bb4 bb5 bg6 bb7 be8 bg9 bg6 0 v310:=f43n7L_eq bg1 bb2 bi3 bb4 bb5 bg6 bb7 be8 bg9 bg6 FUEL 0 v310 List.drop_zero hm (Qz hm)
inductive f43n6O where
 | norm (v329:List Qa)
def f43n6E(bg1:List Qa)(bb2:Int)(bi3:Bool)(bb4 bb5:Int)(bg6:List Qa)(bb7:Int)(be8:List Int)(bg9:List Qa):f43n6O→Ex×Tr×Hp
 | .norm v329=>(.norm,mkS [(0,(jL 3 Qa.cells bg1)),(1,(jI bb2)),(2,(jB bi3)),(8,(.own 0)),(9,(jI bb4)),(14,(jI (mnI bb2 bb7))),(16,(.own 1))],[jR 3 Qa.cells bg9,jR 3 Qa.cells v329])
def f43n6S(bg1:List Qa)(bb2:Int)(bi3:Bool)(bb4 bb5:Int)(bg6:List Qa)(bb7:Int)(be8:List Int)(bg9:List Qa):Tr×Hp:=(mkS [(0,(jL 3 Qa.cells bg1)),(1,(jI bb2)),(2,(jB bi3)),(8,(.own 0)),(9,(jI bb4)),(10,(jI bb5)),(11,(jL 3 Qa.cells bg6)),(14,(jI (mnI bb2 bb7))),(15,(.pl (.sl .any 1 (be8.map (cInt .i64))))),(16,(.pl (.sl .nil 0 [])))],[jR 3 Qa.cells bg9])
noncomputable def f43n6(bg1:List Qa)(bb2:Int)(bi3:Bool)(bb4 bb5:Int)(bg6:List Qa)(bb7:Int)(be8:List Int)(bg9:List Qa):Option f43n6O :=
 (f43n7 FUEL bg1 bb2 bi3 bb4 bb5 bg6 bb7 be8 bg9 0 []).bind fun o326=>match o326 with
 | .exit4 v328=>some (.norm v328)
theorem f43n6_ok(bg1:List Qa)(bb2:Int)(bi3:Bool)(bb4 bb5:Int)(bg6:List Qa)(bb7:Int)(be8:List Int)(bg9:List Qa){o:f43n6O}(h:f43n6 bg1 bb2 bi3 bb4 bb5 bg6 bb7 be8 bg9=some o):T Try.prog Try.f43.ntmps 0 (cL (Qj 3 (Qj 1 (Qj 2 (Qj 1 (Qj 1 (cL (cL (Qj 1 (cL (cL (Qj 1 (cL (Qj 2 c43)))))))))))))) (f43n6S bg1 bb2 bi3 bb4 bb5 bg6 bb7 be8 bg9) (·=f43n6E bg1 bb2 bi3 bb4 bb5 bg6 bb7 be8 bg9 o):=by
 unfold f43n6 at h;refine rN Qf 1 [j3] [] [.mat 16 3] [0,1] [0,1,2,8,9,10,11,14,15,16,17] (f43n7S bg1 bb2 bi3 bb4 bb5 bg6 bb7 be8 bg9 0 []) an ?_;obtain ⟨o326,h327,h⟩:=Qc h;cases o326 with
 | exit4 v328 =>
  obtain rfl:=Qe h;exact T.last' (T.bl (i:=4) (by kernel_rfl) (by kernel_rfl) (f43n7_ok FUEL bg1 bb2 bi3 bb4 bb5 bg6 bb7 be8 bg9 0 [] h327)) (tds:=[]) (m:=[0,1]) (keep:=[0,1,2,8,9,14,16]) (st2:=(f43n6E bg1 bb2 bi3 bb4 bb5 bg6 bb7 be8 bg9 (.norm v328)).2) (by kernel_rfl) an rfl
inductive f43n2O where
 | norm (v343:Int) (v344:List Qa)
def f43n2E(bg1:List Qa)(bb2:Int)(bi3:Bool)(bb4:Int)(bg5:List Qa):f43n2O→Ex×Tr×Hp
 | .norm v343 v344=>(.norm,mkS [(0,(jL 3 Qa.cells bg1)),(1,(jI v343)),(2,(jB bi3)),(8,(.own 0)),(9,(jI bb4))],[jR 3 Qa.cells v344])
def f43n2S(bg1:List Qa)(bb2:Int)(bi3:Bool)(bb4:Int)(bg5:List Qa):Tr×Hp:=(mkS [(0,(jL 3 Qa.cells bg1)),(1,(jI bb2)),(2,(jB bi3)),(8,(.own 0)),(9,(jI bb4))],[jR 3 Qa.cells bg5])
noncomputable def f43n2(bg1:List Qa)(bb2:Int)(bi3:Bool)(bb4:Int)(bg5:List Qa):Option f43n2O :=
 (f43n3 bg1 bb2 bi3 bb4 bg5).bind fun o240=>match o240 with
 | .norm v242=>(f60 bg1 v242).bind fun x245 =>
  (f43n4 bg1 bb2 bi3 bb4 v242 x245 bg5).bind fun o274=>match o274 with
  | .norm v276=>(f61 (mnI bb2 v276) x245).bind fun x279 =>
   (f43n6 bg1 bb2 bi3 bb4 v242 x245 v276 x279 bg5).bind fun o330=>match o330 with
   | .norm v332=>bif bi3 then
     bif (bg5.isEmpty) then
      some (.norm (wr64 (bb2-(mnI bb2 v276))) v332)
     else
      req (fit (v332.length+bg5.length) 32) <|
      some (.norm (wr64 (bb2-(mnI bb2 v276))) (v332++bg5))
    else
     bif (v332.isEmpty) then
      some (.norm (wr64 (bb2-(mnI bb2 v276))) bg5)
     else
      req (fit (bg5.length+v332.length) 32) <|
      some (.norm (wr64 (bb2-(mnI bb2 v276))) (bg5++v332))
theorem f43n2_ok(bg1:List Qa)(bb2:Int)(bi3:Bool)(bb4:Int)(bg5:List Qa){o:f43n2O}(h:f43n2 bg1 bb2 bi3 bb4 bg5=some o):T Try.prog Try.f43.ntmps 0 (cL (Qj 1 (cL (cL (Qj 1 (cL (Qj 2 c43))))))) (f43n2S bg1 bb2 bi3 bb4 bg5) (·=f43n2E bg1 bb2 bi3 bb4 bg5 o):=by
 unfold f43n2 at h;refine T.block' (i:=1) (by kernel_rfl) ?_;refine rN Qf 1 [j3] [] [] [0] [0,1,2,8,9,10] (f43n3S bg1 bb2 bi3 bb4 bg5) an ?_;obtain ⟨o240,h241,h⟩:=Qc h;cases o240 with
 | norm v242 =>
  refine T.oneN (by kernel_rfl) (f43n3_ok bg1 bb2 bi3 bb4 bg5 h241) (st2:=(f43n3E bg1 bb2 bi3 bb4 bg5 (.norm v242)).2) rfl ?_;obtain ⟨x245,h246,h⟩:=Qc h;refine rN Qf 2 [([],[jH 2 (jL 3 Qa.cells x245)],[]),j3] [] [] [0] [0,1,2,8,9,10,11,12] (f43n4S bg1 bb2 bi3 bb4 v242 x245 bg5) (ap (f60_ok bg1 v242 h246) an) ?_;obtain ⟨o274,h275,h⟩:=Qc h;cases o274 with
  | norm v276 =>
   refine T.oneN (by kernel_rfl) (f43n4_ok bg1 bb2 bi3 bb4 v242 x245 bg5 h275) (st2:=(f43n4E bg1 bb2 bi3 bb4 v242 x245 bg5 (.norm v276)).2) rfl ?_;obtain ⟨x279,h280,h⟩:=Qc h;refine rN Qf 3 [j3,([],[jH 2 (.pl (.sl .any 1 (x279.map (cInt .i64))))],[]),j3] [] [] [0] [0,1,2,8,9,10,11,14,15,16] (f43n6S bg1 bb2 bi3 bb4 v242 x245 v276 x279 bg5) (ap (f61_ok (mnI bb2 v276) x245 h280) an) ?_;obtain ⟨o330,h331,h⟩:=Qc h;cases o330 with
   | norm v332 =>
    refine T.oneN (by kernel_rfl) (f43n6_ok bg1 bb2 bi3 bb4 v242 x245 v276 x279 bg5 h331) (st2:=(f43n6E bg1 bb2 bi3 bb4 v242 x245 v276 x279 bg5 (.norm v332)).2) rfl ?_;rcases Qh h with ⟨h338,h⟩|⟨h338,h⟩
    ·rcases Qh h with ⟨h339,h⟩|⟨h339,h⟩
     ·obtain rfl:=Qe h;exact rE Qf [j3,([],[(2,.app false)],[]),j3] [some true] [] [1] [0,1,2,8,9] (.norm,(f43n2E bg1 bb2 bi3 bb4 bg5 (.norm (wr64 (bb2-(mnI bb2 v276))) v332)).2) (ap h338 (ap (nil_map (c:=Qa.cells) h339) an)) rfl
     ·obtain ⟨h340,h⟩:=Qq h;obtain rfl:=Qe h;exact rE Qf [j3,([],[(2,.app true)],[(2,.row 2 ((v332++bg5).map Qa.cells))]),j3] [some true] [] [2] [0,1,2,8,9] (.norm,(f43n2E bg1 bb2 bi3 bb4 bg5 (.norm (wr64 (bb2-(mnI bb2 v276))) (v332++bg5))).2) (ap h338 (ap (fit_map2 (te:=ti59) (xs:=v332) (ys:=bg5) (c:=Qa.cells) (d:=Qa.cells) h340 rfl) (ap (ne_map (c:=Qa.cells) h339) (ap (len_all (c:=Qa.cells) (xs:=bg5) (n:=3) (fun _=>rfl)) (ap (app_cv (xs:=v332) (ys:=bg5) (c:=Qa.cells)) an))))) rfl
    ·rcases Qh h with ⟨h341,h⟩|⟨h341,h⟩
     ·obtain rfl:=Qe h;exact rE Qf [j3,([],[(2,.app false)],[]),j3] [some false] [] [0] [0,1,2,8,9] (.norm,(f43n2E bg1 bb2 bi3 bb4 bg5 (.norm (wr64 (bb2-(mnI bb2 v276))) bg5)).2) (ap h338 (ap (nil_map (c:=Qa.cells) h341) an)) rfl
     ·obtain ⟨h342,h⟩:=Qq h;obtain rfl:=Qe h;exact rE Qf [j3,([],[(2,.app true)],[(2,.row 2 ((bg5++v332).map Qa.cells))]),j3] [some false] [] [2] [0,1,2,8,9] (.norm,(f43n2E bg1 bb2 bi3 bb4 bg5 (.norm (wr64 (bb2-(mnI bb2 v276))) (bg5++v332))).2) (ap h338 (ap (fit_map2 (te:=ti59) (xs:=bg5) (ys:=v332) (c:=Qa.cells) (d:=Qa.cells) h342 rfl) (ap (ne_map (c:=Qa.cells) h341) (ap (len_all (c:=Qa.cells) (xs:=v332) (n:=3) (fun _=>rfl)) (ap (app_cv (xs:=bg5) (ys:=v332) (c:=Qa.cells)) an))))) rfl
inductive f43n8O where
 | exit0 (v349:Int) (v350:List Qa)
def f43n8E(bg1:List Qa)(bi3:Bool):f43n8O→Ex×Tr×Hp
 | .exit0 v349 v350=>((.exit 0),mkS [(1,(jI v349)),(8,(.own 0))],[jR 3 Qa.cells v350])
def f43n8S(bg1:List Qa)(bi3:Bool)(v231 v232:Int)(v233:List Qa):Tr×Hp:=(mkS [(0,(jL 3 Qa.cells bg1)),(1,(jI v231)),(2,(jB bi3)),(8,(.own 0)),(9,(jI v232))],[jR 3 Qa.cells v233])
noncomputable def f43n8:Nat→List Qa→Bool→Int→Int→List Qa→Option f43n8O
 | 0,_,_,_,_,_=>none
 | f+1,bg1,bi3,v231,v232,v233 =>
  bif decide (v232<10) then
   (f43n2 bg1 v231 bi3 v232 v233).bind fun o345=>match o345 with
   | .norm v347 v348=>(f43n8 f bg1 bi3 v347 (wr64 (v232+1)) v348)
  else
   some (.exit0 v231 v233)
theorem f43n8_ok:∀(f:Nat)(bg1:List Qa)(bi3:Bool)(v231 v232:Int)(v233:List Qa){o:f43n8O},f43n8 f bg1 bi3 v231 v232 v233=some o→TL Try.prog Try.f43.ntmps 0 f (cL (cL (Qj 1 (cL (Qj 2 c43))))) (f43n8S bg1 bi3 v231 v232 v233) (·=f43n8E bg1 bi3 o)
 | 0,_,_,_,_,_,o,h=>by rw [f43n8] at h; cases h
 | f+1,bg1,bi3,v231,v232,v233,o,h=>by
  rw [f43n8] at h;refine TL.body (K:=fun s=>∃v231:Int,∃v232:Int,∃v233:List Qa,s=(f43n8S bg1 bi3 v231 v232 v233)∧f43n8 f bg1 bi3 v231 v232 v233=some o) ?_ (by rintro _ ⟨v231,v232,v233,rfl,hk⟩; exact f43n8_ok f _ _ _ _ _ hk);rcases Qh h with ⟨h235,h⟩|⟨h235,h⟩
  ·refine rN Qf 1 [j3] [some true] [] [0] [0,1,2,8,9] (f43n2S bg1 v231 bi3 v232 v233) (ap h235 an) ?_;obtain ⟨o345,h346,h⟩:=Qc h;cases o345 with
   | norm v347 v348 =>
    refine T.oneN (by kernel_rfl) (f43n2_ok bg1 v231 bi3 v232 v233 h346) (st2:=(f43n2E bg1 v231 bi3 v232 v233 (.norm v347 v348)).2) rfl ?_;exact rE Qf [j3] [] [] [0] [0,1,2,8,9] (.norm,(f43n8S bg1 bi3 v347 (wr64 (v232+1)) v348)) an (Qn.norm ⟨v347,(wr64 (v232+1)),v348,rfl,h⟩)
  ·obtain rfl:=Qe h;exact rK Qf 1 [j3] [some false] [] [0] [1,8] (.exit 0) ((f43n8E bg1 bi3 (.exit0 v231 v233)).2) (ap h235 an) (Qn.out rfl rfl)
inductive f43n1O where
 | norm (v355:Int) (v356:List Qa)
def f43n1E(bg1:List Qa)(bb2:Int)(bi3:Bool):f43n1O→Ex×Tr×Hp
 | .norm v355 v356=>(.norm,mkS [(1,(jI v355)),(8,(.own 0))],[jR 3 Qa.cells v356])
def f43n1S(bg1:List Qa)(bb2:Int)(bi3:Bool):Tr×Hp:=(mkS [(0,(jL 3 Qa.cells bg1)),(1,(jI bb2)),(2,(jB bi3)),(8,(.pl (.sl .nil 0 [])))],[])
noncomputable def f43n1(bg1:List Qa)(bb2:Int)(bi3:Bool):Option f43n1O :=
 (f43n8 FUEL bg1 bi3 bb2 0 []).bind fun o351=>match o351 with
 | .exit0 v353 v354=>some (.norm v353 v354)
theorem f43n1_ok(bg1:List Qa)(bb2:Int)(bi3:Bool){o:f43n1O}(h:f43n1 bg1 bb2 bi3=some o):T Try.prog Try.f43.ntmps 0 (cL (Qj 2 c43)) (f43n1S bg1 bb2 bi3) (·=f43n1E bg1 bb2 bi3 o):=by
 unfold f43n1 at h;refine rN Qf 1 [j3] [] [.mat 8 3] [0] [0,1,2,8,9] (f43n8S bg1 bi3 bb2 0 []) an ?_;obtain ⟨o351,h352,h⟩:=Qc h;cases o351 with
 | exit0 v353 v354 =>
  obtain rfl:=Qe h;exact T.last' (T.bl (i:=0) (by kernel_rfl) (by kernel_rfl) (f43n8_ok FUEL bg1 bi3 bb2 0 [] h352)) (tds:=[]) (m:=[0]) (keep:=[1,8]) (st2:=(f43n1E bg1 bb2 bi3 (.norm v353 v354)).2) (by kernel_rfl) an rfl
inductive f43n0O where
 | ret (v361:Int) (v362:List Qa)
def f43n0E(a1:List Qa)(a2:Int)(a3:Bool):f43n0O→Ex×Tr×Hp
 | .ret v361 v362=>(.ret,mkS [(6,(.own 0)),(7,(jI v361))],[jR 3 Qa.cells v362])
def f43n0S(a1:List Qa)(a2:Int)(a3:Bool):Tr×Hp:=(Qu [(jL 3 Qa.cells a1),(jI a2),(jB a3)] 0 .leaf,[])
noncomputable def f43n0(a1:List Qa)(a2:Int)(a3:Bool):Option f43n0O :=
 (f43n1 a1 a2 a3).bind fun o357=>match o357 with
 | .norm v359 v360=>some (.ret v359 v360)
theorem f43n0_ok(a1:List Qa)(a2:Int)(a3:Bool){o:f43n0O}(h:f43n0 a1 a2 a3=some o):T Try.prog Try.f43.ntmps 0 c43 (f43n0S a1 a2 a3) (·=f43n0E a1 a2 a3 o):=by
 unfold f43n0 at h;refine rN Qf 2 [j3,j3] [] [] [] [0,1,2,8] (f43n1S a1 a2 a3) an ?_;obtain ⟨o357,h358,h⟩:=Qc h;cases o357 with
 | norm v359 v360 =>
  refine T.oneN (by kernel_rfl) (f43n1_ok a1 a2 a3 h358) (st2:=(f43n1E a1 a2 a3 (.norm v359 v360)).2) rfl ?_;obtain rfl:=Qe h;exact rE Qf [j3] [] [] [0] [6,7] (.ret,(f43n0E a1 a2 a3 (.ret v359 v360)).2) an rfl
noncomputable def f43(a1:List Qa)(a2:Int)(a3:Bool):Option ((List Qa)×Int):=(f43n0 a1 a2 a3).bind fun o=>match o with
 | .ret v361 v362=>some (v362,v361)
theorem f43_ok(a1:List Qa)(a2:Int)(a3:Bool){r:(List Qa)×Int}(h:f43 a1 a2 a3=some r):Qm Try.prog false 43 [(jL 3 Qa.cells a1),(jI a2),(jB a3)] [] (.tup [(jL 3 Qa.cells r.1),(jI r.2)]) []:=by
 unfold f43 at h;obtain ⟨o,ho,h⟩:=Qc h;cases o with
 | ret v361 v362 =>
  obtain rfl:=Qe h;exact Qm.plain Qf (f:=Try.f43) (c:=c43) (by kernel_rfl) (by kernel_rfl) (by kernel_rfl) (by kernel_rfl) ((f43n0_ok a1 a2 a3 ho).mono fun r e=>by subst e; exact ⟨.inl rfl,(.tup [(.own 0),(jI v361)]),(.tup [(jL 3 Qa.cells v362),(jI v361)]),by kernel_rfl,by kernel_rfl,((Wk.refl _):Wk (.tup [(jL 3 Qa.cells v362),(jI v361)]) (.tup [(jL 3 Qa.cells v362),(jI v361)]))⟩)

noncomputable def c31:Code:=Try.f31.body.getD .skip
inductive f31n0O where
 | ret (v19:List Qa) (v20:Int) (v21:Int)
def f31n0E(a1:List Qa)(a2:Int):f31n0O→Ex×Tr×Hp
 | .ret v19 v20 v21=>(.ret,mkS [(4,(jL 3 Qa.cells v19)),(5,(jI v20)),(6,(jI v21))],[])
def f31n0S(a1:List Qa)(a2:Int):Tr×Hp:=(Qu [(jL 3 Qa.cells a1),(jI a2)] 0 .leaf,[])
noncomputable def f31n0(a1:List Qa)(a2:Int):Option f31n0O :=
 (f47 a1 1).bind fun x9 =>
 bif x9 then
  (f42 a2).bind fun x12 =>
  bif x12 then
   (f43 a1 a2 true).bind fun x17 =>
   some (.ret x17.1 x17.2 0)
  else
   some (.ret [] 0 2)
 else
  some (.ret [] 0 2)
theorem f31n0_ok(a1:List Qa)(a2:Int){o:f31n0O}(h:f31n0 a1 a2=some o):T Try.prog Try.f31.ntmps 0 c31 (f31n0S a1 a2) (·=f31n0E a1 a2 o):=by
 unfold f31n0 at h;obtain ⟨x9,h10,h⟩:=Qc h;rcases Qh h with ⟨h11,h⟩|⟨h11,h⟩
 ·obtain ⟨x12,h13,h⟩:=Qc h;rcases Qh h with ⟨h14,h⟩|⟨h14,h⟩
  ·obtain ⟨x17,h18,h⟩:=Qc h;obtain rfl:=Qe h;exact rE Qf [j3,(jF [4,5,6],[jH 1 (jB x9),jH 5 (jB x12),(7,.bool false)],[]),([],[jH 2 (.tup [(jL 3 Qa.cells x17.1),(jI x17.2)])],[]),j3] [some false] [] [] [4,5,6] (.ret,(f31n0E a1 a2 (.ret x17.1 x17.2 0)).2) (ap4 (Qag h11) (ap (f47_ok a1 1 h10) (ap (f42_ok a2 h13) (ap (Qag h14) (ap (f43_ok a1 a2 true h18) an))))) rfl
  ·obtain rfl:=Qe h;exact rK Qf 2 [j3,(jF [4,5,6],[jH 1 (jB x9),jH 5 (jB x12),(7,.bool false)],[]),j3] [some true] [.wk 4 (.pl (.sl .any 3 ([].map Qa.cells)))] [] [4,5,6] .ret ((f31n0E a1 a2 (.ret [] 0 2)).2) (ap4 (Qag h11) (ap (f47_ok a1 1 h10) (ap (f42_ok a2 h13) (ap (Qae h14) (ap ((Wk.pl (WkP.nil (f:=.nil) (sz:=0) (sz':=3))):Wk (.pl (.sl .nil 0 [])) (.pl (.sl .any 3 ([].map Qa.cells)))) an))))) rfl
 ·obtain rfl:=Qe h;exact rK Qf 2 [j3,(jT [4,5,6],[jH 1 (jB x9),(7,.bool true)],[]),j3] [none] [.wk 4 (.pl (.sl .any 3 ([].map Qa.cells)))] [] [4,5,6] .ret ((f31n0E a1 a2 (.ret [] 0 2)).2) (ap4 (Qae h11) (ap (f47_ok a1 1 h10) (ap ((Wk.pl (WkP.nil (f:=.nil) (sz:=0) (sz':=3))):Wk (.pl (.sl .nil 0 [])) (.pl (.sl .any 3 ([].map Qa.cells)))) an))) rfl
noncomputable def f31(a1:List Qa)(a2:Int):Option ((List Qa)×Int×Int):=(f31n0 a1 a2).bind fun o=>match o with
 | .ret v19 v20 v21=>some (v19,v20,v21)
theorem f31_ok(a1:List Qa)(a2:Int){r:(List Qa)×Int×Int}(h:f31 a1 a2=some r):Qm Try.prog false 31 [(jL 3 Qa.cells a1),(jI a2)] [] (.tup [(jL 3 Qa.cells r.1),(jI r.2.1),(jI r.2.2)]) []:=by
 unfold f31 at h;obtain ⟨o,ho,h⟩:=Qc h;cases o with
 | ret v19 v20 v21 =>
  obtain rfl:=Qe h;exact Qm.plain Qf (f:=Try.f31) (c:=c31) (by kernel_rfl) (by kernel_rfl) (by kernel_rfl) (by kernel_rfl) ((f31n0_ok a1 a2 ho).mono fun r e=>by subst e; exact ⟨.inl rfl,(.tup [(jL 3 Qa.cells v19),(jI v20),(jI v21)]),(.tup [(jL 3 Qa.cells v19),(jI v20),(jI v21)]),by kernel_rfl,by kernel_rfl,((Wk.refl _):Wk (.tup [(jL 3 Qa.cells v19),(jI v20),(jI v21)]) (.tup [(jL 3 Qa.cells v19),(jI v20),(jI v21)]))⟩)

noncomputable def c25:Code:=Try.f25.body.getD .skip
inductive f25n2O where
 | exit0
 | ret
def f25n2E(ba1 ba2:List Qb):f25n2O→Ex×Tr×Hp
 | .exit0=>((.exit 0),mkS [],[])
 | .ret=>(.ret,mkS [(4,(jB false))],[])
def f25n2S(ba1 ba2:List Qb)(v30:Int):Tr×Hp:=(mkS [(0,(jL 4 Qb.cells ba1)),(1,(jL 4 Qb.cells ba2)),(5,(jI v30))],[])
noncomputable def f25n2:Nat→List Qb→List Qb→Int→Option f25n2O
 | 0,_,_,_=>none
 | f+1,ba1,ba2,v30 =>
  bif decide (v30<(ba1.length:Int)) then
   (at? ba1 v30).bind fun x38 =>
   (at? ba2 v30).bind fun x40 =>
   bif (Qb.eqb x38 x40) then
    (f25n2 f ba1 ba2 (wr64 (v30+1)))
   else
    some .ret
  else
   some .exit0
theorem f25n2_ok:∀(f:Nat)(ba1 ba2:List Qb)(v30:Int){o:f25n2O},f25n2 f ba1 ba2 v30=some o→TL Try.prog Try.f25.ntmps 0 f (cL (cL (Qj 1 (cL (Qj 2 c25))))) (f25n2S ba1 ba2 v30) (·=f25n2E ba1 ba2 o)
 | 0,_,_,_,o,h=>by rw [f25n2] at h; cases h
 | f+1,ba1,ba2,v30,o,h=>by
  rw [f25n2] at h;refine TL.body (K:=fun s=>∃v30:Int,s=(f25n2S ba1 ba2 v30)∧f25n2 f ba1 ba2 v30=some o) ?_ (by rintro _ ⟨v30,rfl,hk⟩; exact f25n2_ok f _ _ _ hk);rcases Qh h with ⟨h32,h⟩|⟨h32,h⟩
  ·obtain ⟨x38,h39,h⟩:=Qc h;obtain ⟨x40,h41,h⟩:=Qc h;rcases Qh h with ⟨h42,h⟩|⟨h42,h⟩
   ·exact rE Qf [([],[],[(2,.val (jI (ba1.length:Int)))]),([],[(2,.idx (Int.toNat v30) (Qb.cells x38)),(6,.idx (Int.toNat v30) (Qb.cells x40)),(8,.bool (Qb.eqb x38 x40))],[]),j3] [some true,some false] [] [] [0,1,5] (.norm,(f25n2S ba1 ba2 (wr64 (v30+1)))) (ap (Qo (xs:=ba1) (c:=Qb.cells)) (ap h32 (ap (Qg h39).1 (ap (Qk Qb.cells (Qg h39).2) (ap (Qg h41).1 (ap (Qk Qb.cells (Qg h41).2) (ap (Qb.eqb_ok x38 x40) (ap (Qag h42) an)))))))) (Qn.norm ⟨(wr64 (v30+1)),rfl,h⟩)
   ·obtain rfl:=Qe h;exact rK Qf 2 [([],[],[(2,.val (jI (ba1.length:Int)))]),([],[(2,.idx (Int.toNat v30) (Qb.cells x38)),(6,.idx (Int.toNat v30) (Qb.cells x40)),(8,.bool (Qb.eqb x38 x40))],[]),j3] [some true,some true] [] [] [4] .ret ((f25n2E ba1 ba2 .ret).2) (ap (Qo (xs:=ba1) (c:=Qb.cells)) (ap h32 (ap (Qg h39).1 (ap (Qk Qb.cells (Qg h39).2) (ap (Qg h41).1 (ap (Qk Qb.cells (Qg h41).2) (ap (Qb.eqb_ok x38 x40) (ap (Qae h42) an)))))))) (Qn.out rfl rfl)
  ·obtain rfl:=Qe h;exact rK Qf 1 [([],[],[(2,.val (jI (ba1.length:Int)))])] [some false] [] [] [] (.exit 0) ((f25n2E ba1 ba2 .exit0).2) (ap (Qo (xs:=ba1) (c:=Qb.cells)) (ap h32 an)) (Qn.out rfl rfl)
noncomputable def f25n2L(ba1 ba2:List Qb):List Qb→Int→Option f25n2O
 | [],v30 =>
  some .exit0
 | x0::rest,v30 =>
  (at? ba2 v30).bind fun x40 =>
  bif (Qb.eqb x0 x40) then
   (f25n2L ba1 ba2 rest (v30+1))
  else
   some .ret
theorem f25n2L_eq(ba1 ba2:List Qb):∀(rest:List Qb)(f k:Nat),ba1.drop k=rest→ba1.length≤maxLen→rest.length<f→f25n2 f ba1 ba2 (k:Int)=f25n2L ba1 ba2 rest (k:Int)
 | _,0,_,_,_,hf=>absurd hf (Nat.not_lt_zero _)
 | [],f+1,k,hd,hm,hf=>by
  have hk:¬((k:Int)<(ba1.length:Int)):=by have:=Qab hd; omega
  rw [f25n2,f25n2L];simp only [decide_eq_false hk,cond_false]
 | x0::rest,f+1,k,hd,hm,hf=>by
  obtain ⟨hx,hlt,hd'⟩:=Qv hd;have hk:(k:Int)<(ba1.length:Int):=by omega
  have hw:wr64 ((k:Int)+1)=(k:Int)+1:=Qaj (by omega) (by unfold maxLen at hm; omega);have ih:f25n2 f ba1 ba2 ((k:Int)+1)=f25n2L ba1 ba2 rest ((k:Int)+1):=f25n2L_eq ba1 ba2 rest f (k+1) hd' hm (by simpa using hf);rw [f25n2,f25n2L];simp only [decide_eq_true hk,cond_true,Qay,hx,Option.bind_some,hw,ih]
theorem f25n2_run(ba1 ba2:List Qb)(hm:ba1.length≤maxLen):f25n2 FUEL ba1 ba2 0=f25n2L ba1 ba2 ba1 0:=f25n2L_eq ba1 ba2 ba1 FUEL 0 List.drop_zero hm (Qz hm)
inductive f25n1O where
 | norm
 | ret
def f25n1E(ba1 ba2:List Qb):f25n1O→Ex×Tr×Hp
 | .norm=>(.norm,mkS [],[])
 | .ret=>(.ret,mkS [(4,(jB false))],[])
def f25n1S(ba1 ba2:List Qb):Tr×Hp:=(mkS [(0,(jL 4 Qb.cells ba1)),(1,(jL 4 Qb.cells ba2))],[])
noncomputable def f25n1(ba1 ba2:List Qb):Option f25n1O :=
 (f25n2 FUEL ba1 ba2 0).bind fun o43=>match o43 with
 | .exit0=>some .norm
 | .ret=>some .ret
theorem f25n1_ok(ba1 ba2:List Qb){o:f25n1O}(h:f25n1 ba1 ba2=some o):T Try.prog Try.f25.ntmps 0 (cL (Qj 2 c25)) (f25n1S ba1 ba2) (·=f25n1E ba1 ba2 o):=by
 unfold f25n1 at h;refine rN Qf 1 [j3] [] [] [] [0,1,5] (f25n2S ba1 ba2 0) an ?_;obtain ⟨o43,h44,h⟩:=Qc h;cases o43 with
 | exit0 =>
  obtain rfl:=Qe h;exact T.last' (T.bl (i:=0) (by kernel_rfl) (by kernel_rfl) (f25n2_ok FUEL ba1 ba2 0 h44)) (tds:=[]) (m:=[]) (keep:=[]) (st2:=(f25n1E ba1 ba2 .norm).2) (by kernel_rfl) an rfl
 | ret =>
  obtain rfl:=Qe h;exact T.last' (T.bl (i:=0) (by kernel_rfl) (by kernel_rfl) (f25n2_ok FUEL ba1 ba2 0 h44)) (tds:=[]) (m:=[]) (keep:=[4]) (st2:=(f25n1E ba1 ba2 .ret).2) (by kernel_rfl) an rfl
inductive f25n0O where
 | ret (v47:Bool)
def f25n0E(a1 a2:List Qb):f25n0O→Ex×Tr×Hp
 | .ret v47=>(.ret,mkS [(4,(jB v47))],[])
def f25n0S(a1 a2:List Qb):Tr×Hp:=(Qu [(jL 4 Qb.cells a1),(jL 4 Qb.cells a2)] 0 .leaf,[])
noncomputable def f25n0(a1 a2:List Qb):Option f25n0O :=
 bif decide ((a1.length:Int)=(a2.length:Int)) then
  (f25n1 a1 a2).bind fun o45=>match o45 with
  | .norm=>some (.ret true)
  | .ret=>some (.ret false)
 else
  some (.ret false)
theorem f25n0_ok(a1 a2:List Qb){o:f25n0O}(h:f25n0 a1 a2=some o):T Try.prog Try.f25.ntmps 0 c25 (f25n0S a1 a2) (·=f25n0E a1 a2 o):=by
 unfold f25n0 at h;rcases Qh h with ⟨h4,h⟩|⟨h4,h⟩
 ·refine rN Qf 2 [j3,([],[],[(1,.val (jI (a1.length:Int))),(3,.val (jI (a2.length:Int)))])] [some false] [] [] [0,1] (f25n1S a1 a2) (ap (Qo (xs:=a1) (c:=Qb.cells)) (ap (Qo (xs:=a2) (c:=Qb.cells)) (ap (Qag h4) an))) ?_;obtain ⟨o45,h46,h⟩:=Qc h;cases o45 with
  | norm =>
   refine T.oneN (by kernel_rfl) (f25n1_ok a1 a2 h46) (st2:=(f25n1E a1 a2 .norm).2) rfl ?_;obtain rfl:=Qe h;exact rE Qf [j3] [] [] [] [4] (.ret,(f25n0E a1 a2 (.ret true)).2) an rfl
  | ret =>
   obtain rfl:=Qe h;exact T.oneX' (by kernel_rfl) (f25n1_ok a1 a2 h46) (tds:=[]) (m:=[]) (keep:=[4]) (st2:=(f25n0E a1 a2 (.ret false)).2) (by kernel_rfl) an rfl rfl
 ·obtain rfl:=Qe h;exact rK Qf 2 [j3,([],[],[(1,.val (jI (a1.length:Int))),(3,.val (jI (a2.length:Int)))]),j3] [some true] [] [] [4] .ret ((f25n0E a1 a2 (.ret false)).2) (ap (Qo (xs:=a1) (c:=Qb.cells)) (ap (Qo (xs:=a2) (c:=Qb.cells)) (ap (Qae h4) an))) rfl
noncomputable def f25(a1 a2:List Qb):Option Bool:=(f25n0 a1 a2).bind fun o=>match o with
 | .ret v47=>some v47
theorem f25_ok(a1 a2:List Qb){r:Bool}(h:f25 a1 a2=some r):Qm Try.prog false 25 [(jL 4 Qb.cells a1),(jL 4 Qb.cells a2)] [] (jB r) []:=by
 unfold f25 at h;obtain ⟨o,ho,h⟩:=Qc h;cases o with
 | ret v47 =>
  obtain rfl:=Qe h;exact Qm.plain Qf (f:=Try.f25) (c:=c25) (by kernel_rfl) (by kernel_rfl) (by kernel_rfl) (by kernel_rfl) ((f25n0_ok a1 a2 ho).mono fun r e=>by subst e; exact ⟨.inl rfl,(jB v47),(jB v47),by kernel_rfl,by kernel_rfl,((Wk.refl _):Wk (jB v47) (jB v47))⟩)

noncomputable def c8:Code:=Try.f8.body.getD .skip
inductive f8n1O where
 | norm (v78:Bool)
def f8n1E(ba1:List Qb)(bg2:List Qa)(bi3:Bool)(ba4:List Qb)(bg5:List Qa)(bk6:Int×(List Qb))(bl7:(List Qb)×Int)(bm8 bm9:Int×Int)(bn10:Int×Int×(List Qa))(bo11:(List Qa)×Int×Int):f8n1O→Ex×Tr×Hp
 | .norm v78=>(.norm,mkS [(0,(jL 4 Qb.cells ba1)),(1,(jL 3 Qa.cells bg2)),(7,(jB bi3)),(8,(jL 4 Qb.cells ba4)),(9,(jL 3 Qa.cells bg5)),(10,(.own 0)),(18,(.own 1)),(24,(jB v78))],[jR 4 Qb.cells bk6.2,jR 3 Qa.cells bn10.2.2])
def f8n1S(ba1:List Qb)(bg2:List Qa)(bi3:Bool)(ba4:List Qb)(bg5:List Qa)(bk6:Int×(List Qb))(bl7:(List Qb)×Int)(bm8 bm9:Int×Int)(bn10:Int×Int×(List Qa))(bo11:(List Qa)×Int×Int):Tr×Hp:=(mkS [(0,(jL 4 Qb.cells ba1)),(1,(jL 3 Qa.cells bg2)),(7,(jB bi3)),(8,(jL 4 Qb.cells ba4)),(9,(jL 3 Qa.cells bg5)),(10,(.own 0)),(11,(jI bk6.1)),(12,(jL 4 Qb.cells bl7.1)),(13,(jI bl7.2)),(14,(jI bm8.1)),(15,(jI bm8.2)),(16,(jI bm9.1)),(17,(jI bm9.2)),(18,(.own 1)),(19,(jI bn10.1)),(20,(jI bn10.2.1)),(21,(jL 3 Qa.cells bo11.1)),(22,(jI bo11.2.1)),(23,(jI bo11.2.2))],[jR 4 Qb.cells bk6.2,jR 3 Qa.cells bn10.2.2])
noncomputable def f8n1(ba1:List Qb)(bg2:List Qa)(bi3:Bool)(ba4:List Qb)(bg5:List Qa)(bk6:Int×(List Qb))(bl7:(List Qb)×Int)(bm8 bm9:Int×Int)(bn10:Int×Int×(List Qa))(bo11:(List Qa)×Int×Int):Option f8n1O :=
 (f25 bk6.2 bl7.1).bind fun x68 =>
 bif x68 then
  bif decide (bk6.1=bl7.2) then
   bif decide (bm8.1=bm9.1) then
    bif decide (bm8.2=bm9.2) then
     (f18 bn10.2.2 bo11.1).bind fun x74 =>
     bif x74 then
      bif decide (bn10.1=bo11.2.1) then
       some (.norm (decide (bn10.2.1=bo11.2.2)))
      else
       some (.norm false)
     else
      some (.norm false)
    else
     some (.norm false)
   else
    some (.norm false)
  else
   some (.norm false)
 else
  some (.norm false)
theorem f8n1_ok(ba1:List Qb)(bg2:List Qa)(bi3:Bool)(ba4:List Qb)(bg5:List Qa)(bk6:Int×(List Qb))(bl7:(List Qb)×Int)(bm8 bm9:Int×Int)(bn10:Int×Int×(List Qa))(bo11:(List Qa)×Int×Int){o:f8n1O}(h:f8n1 ba1 bg2 bi3 ba4 bg5 bk6 bl7 bm8 bm9 bn10 bo11=some o):T Try.prog Try.f8.ntmps 0 (cL (Qj 4 (Qj 6 c8))) (f8n1S ba1 bg2 bi3 ba4 bg5 bk6 bl7 bm8 bm9 bn10 bo11) (·=f8n1E ba1 bg2 bi3 ba4 bg5 bk6 bl7 bm8 bm9 bn10 bo11 o):=by
 unfold f8n1 at h;obtain ⟨x68,h69,h⟩:=Qc h;rcases Qh h with ⟨h70,h⟩|⟨h70,h⟩
 ·rcases Qh h with ⟨h71,h⟩|⟨h71,h⟩
  ·rcases Qh h with ⟨h72,h⟩|⟨h72,h⟩
   ·rcases Qh h with ⟨h73,h⟩|⟨h73,h⟩
    ·obtain ⟨x74,h75,h⟩:=Qc h;rcases Qh h with ⟨h76,h⟩|⟨h76,h⟩
     ·rcases Qh h with ⟨h77,h⟩|⟨h77,h⟩
      ·obtain rfl:=Qe h;exact rE Qf [(jT [4,5,6,9,10,11,14,15,16,19,20,21,24,25,26,29,30,31],[jH 2 (jB x68),(7,.bool true),(12,.bool true),(17,.bool true),jH 21 (jB x74),(22,.bool true),(27,.bool true),(32,.bool true)],[])] [] [] [0,1] [0,1,7,8,9,10,18,24] (.norm,(f8n1E ba1 bg2 bi3 ba4 bg5 bk6 bl7 bm8 bm9 bn10 bo11 (.norm (decide (bn10.2.1=bo11.2.2)))).2) (ap4 h70 (ap4 h71 (ap4 h72 (ap4 h73 (ap4 h76 (ap4 h77 (ap (f25_ok bk6.2 bl7.1 h69) (ap (f18_ok bn10.2.2 bo11.1 h75) an)))))))) rfl
      ·obtain rfl:=Qe h;exact rE Qf [(jF [29,30,31]++jT [4,5,6,9,10,11,14,15,16,19,20,21,24,25,26],[jH 2 (jB x68),(7,.bool true),(12,.bool true),(17,.bool true),jH 21 (jB x74),(22,.bool true),(27,.bool true),(32,.bool false)],[])] [] [] [0,1] [0,1,7,8,9,10,18,24] (.norm,(f8n1E ba1 bg2 bi3 ba4 bg5 bk6 bl7 bm8 bm9 bn10 bo11 (.norm false)).2) (ap4 h70 (ap4 h71 (ap4 h72 (ap4 h73 (ap4 h76 (ap4 h77 (ap (f25_ok bk6.2 bl7.1 h69) (ap (f18_ok bn10.2.2 bo11.1 h75) an)))))))) rfl
     ·obtain rfl:=Qe h;exact rE Qf [(jF [24,25,26]++jT [4,5,6,9,10,11,14,15,16,19,20,21],[jH 2 (jB x68),(7,.bool true),(12,.bool true),(17,.bool true),jH 21 (jB x74),(22,.bool true),(27,.bool false)],[])] [] [] [0,1] [0,1,7,8,9,10,18,24] (.norm,(f8n1E ba1 bg2 bi3 ba4 bg5 bk6 bl7 bm8 bm9 bn10 bo11 (.norm false)).2) (ap4 h70 (ap4 h71 (ap4 h72 (ap4 h73 (ap4 h76 (ap (f25_ok bk6.2 bl7.1 h69) (ap (f18_ok bn10.2.2 bo11.1 h75) an))))))) rfl
    ·obtain rfl:=Qe h;exact rE Qf [(jF [19,20,21]++jT [4,5,6,9,10,11,14,15,16],[jH 2 (jB x68),(7,.bool true),(12,.bool true),(17,.bool true),(22,.bool false)],[])] [] [] [0,1] [0,1,7,8,9,10,18,24] (.norm,(f8n1E ba1 bg2 bi3 ba4 bg5 bk6 bl7 bm8 bm9 bn10 bo11 (.norm false)).2) (ap4 h70 (ap4 h71 (ap4 h72 (ap4 h73 (ap (f25_ok bk6.2 bl7.1 h69) an))))) rfl
   ·obtain rfl:=Qe h;exact rE Qf [(jF [14,15,16]++jT [4,5,6,9,10,11],[jH 2 (jB x68),(7,.bool true),(12,.bool true),(17,.bool false)],[])] [] [] [0,1] [0,1,7,8,9,10,18,24] (.norm,(f8n1E ba1 bg2 bi3 ba4 bg5 bk6 bl7 bm8 bm9 bn10 bo11 (.norm false)).2) (ap4 h70 (ap4 h71 (ap4 h72 (ap (f25_ok bk6.2 bl7.1 h69) an)))) rfl
  ·obtain rfl:=Qe h;exact rE Qf [(jF [9,10,11]++jT [4,5,6],[jH 2 (jB x68),(7,.bool true),(12,.bool false)],[])] [] [] [0,1] [0,1,7,8,9,10,18,24] (.norm,(f8n1E ba1 bg2 bi3 ba4 bg5 bk6 bl7 bm8 bm9 bn10 bo11 (.norm false)).2) (ap4 h70 (ap4 h71 (ap (f25_ok bk6.2 bl7.1 h69) an))) rfl
 ·obtain rfl:=Qe h;exact rE Qf [(jF [4,5,6],[jH 2 (jB x68),(7,.bool false)],[])] [] [] [0,1] [0,1,7,8,9,10,18,24] (.norm,(f8n1E ba1 bg2 bi3 ba4 bg5 bk6 bl7 bm8 bm9 bn10 bo11 (.norm false)).2) (ap4 h70 (ap (f25_ok bk6.2 bl7.1 h69) an)) rfl
inductive f8n3O where
 | exit0
def f8n3E(ba1:List Qb)(bg2:List Qa)(bi3:Bool)(ba4:List Qb)(bg5:List Qa)(bi6:Bool)(bn8:Int×Int×(List Qa)):f8n3O→Ex×Tr×Hp
 | .exit0=>((.exit 0),mkS [(0,(jL 4 Qb.cells ba1)),(1,(jL 3 Qa.cells bg2)),(7,(jB bi3)),(8,(jL 4 Qb.cells ba4)),(9,(jL 3 Qa.cells bg5)),(18,(.own 0)),(24,(jB bi6))],[jR 3 Qa.cells bn8.2.2])
def f8n3S(ba1:List Qb)(bg2:List Qa)(bi3:Bool)(ba4:List Qb)(bg5:List Qa)(bi6:Bool)(bn8:Int×Int×(List Qa))(v96:Int)(v97:List Qb):Tr×Hp:=(mkS [(0,(jL 4 Qb.cells ba1)),(1,(jL 3 Qa.cells bg2)),(7,(jB bi3)),(8,(jL 4 Qb.cells ba4)),(9,(jL 3 Qa.cells bg5)),(10,(.own 0)),(18,(.own 1)),(24,(jB bi6)),(25,(jI v96))],[jR 4 Qb.cells v97,jR 3 Qa.cells bn8.2.2])
noncomputable def f8n3:Nat→List Qb→List Qa→Bool→List Qb→List Qa→Bool→Int×Int×(List Qa)→Int→List Qb→Option f8n3O
 | 0,_,_,_,_,_,_,_,_,_=>none
 | f+1,ba1,bg2,bi3,ba4,bg5,bi6,bn8,v96,v97 =>
  bif decide (v96<(v97.length:Int)) then
   (at? v97 v96).bind fun x102 =>
   (f8n3 f ba1 bg2 bi3 ba4 bg5 bi6 bn8 (wr64 (v96+1)) (v97.set (Int.toNat v96) (Qb.mk x102.Level x102.Owner (-7) x102.Called)))
  else
   some .exit0
theorem f8n3_ok:∀(f:Nat)(ba1:List Qb)(bg2:List Qa)(bi3:Bool)(ba4:List Qb)(bg5:List Qa)(bi6:Bool)(bn8:Int×Int×(List Qa))(v96:Int)(v97:List Qb){o:f8n3O},f8n3 f ba1 bg2 bi3 ba4 bg5 bi6 bn8 v96 v97=some o→TL Try.prog Try.f8.ntmps 0 f (cL (cL (Qj 1 (cL (Qj 0 (Qj 1 (Qj 4 (Qj 6 c8)))))))) (f8n3S ba1 bg2 bi3 ba4 bg5 bi6 bn8 v96 v97) (·=f8n3E ba1 bg2 bi3 ba4 bg5 bi6 bn8 o)
 | 0,_,_,_,_,_,_,_,_,_,o,h=>by rw [f8n3] at h; cases h
 | f+1,ba1,bg2,bi3,ba4,bg5,bi6,bn8,v96,v97,o,h=>by
  rw [f8n3] at h;refine TL.body (K:=fun s=>∃v96:Int,∃v97:List Qb,s=(f8n3S ba1 bg2 bi3 ba4 bg5 bi6 bn8 v96 v97)∧f8n3 f ba1 bg2 bi3 ba4 bg5 bi6 bn8 v96 v97=some o) ?_ (by rintro _ ⟨v96,v97,rfl,hk⟩; exact f8n3_ok f _ _ _ _ _ _ _ _ _ hk);rcases Qh h with ⟨h99,h⟩|⟨h99,h⟩
  ·obtain ⟨x102,h103,h⟩:=Qc h
   exact rE Qf [([],[],[(2,.val (jI (v97.length:Int)))]),([],[(2,.at_ (Int.toNat v96)),(4,.idx 0 (Qb.cells x102))],[(4,.row 0 ((v97.set (Int.toNat v96) (Qb.mk x102.Level x102.Owner (-7) x102.Called)).map Qb.cells))]),j3] [some true] [] [0,1] [0,1,7,8,9,10,18,24,25] (.norm,(f8n3S ba1 bg2 bi3 ba4 bg5 bi6 bn8 (wr64 (v96+1)) (v97.set (Int.toNat v96) (Qb.mk x102.Level x102.Owner (-7) x102.Called)))) (ap (Qo (xs:=v97) (c:=Qb.cells)) (ap h99 (ap (Qg h103).1 (ap (Qs Qb.cells (Qg h103).2) (ap (Qk Qb.cells (Qg h103).2) (ap (set_cv (xs:=v97) (c:=Qb.cells) (k:=(Int.toNat v96)) (x:=(Qb.mk x102.Level x102.Owner (-7) x102.Called))) an)))))) (Qn.norm ⟨(wr64 (v96+1)),(v97.set (Int.toNat v96) (Qb.mk x102.Level x102.Owner (-7) x102.Called)),rfl,h⟩)
  ·obtain rfl:=Qe h;exact rK Qf 1 [([],[],[(2,.val (jI (v97.length:Int)))])] [some false] [] [1] [0,1,7,8,9,18,24] (.exit 0) ((f8n3E ba1 bg2 bi3 ba4 bg5 bi6 bn8 .exit0).2) (ap (Qo (xs:=v97) (c:=Qb.cells)) (ap h99 an)) (Qn.out rfl rfl)
inductive f8n2O where
 | norm
def f8n2E(ba1:List Qb)(bg2:List Qa)(bi3:Bool)(ba4:List Qb)(bg5:List Qa)(bi6:Bool)(bk7:Int×(List Qb))(bn8:Int×Int×(List Qa)):f8n2O→Ex×Tr×Hp
 | .norm=>(.norm,mkS [(0,(jL 4 Qb.cells ba1)),(1,(jL 3 Qa.cells bg2)),(7,(jB bi3)),(8,(jL 4 Qb.cells ba4)),(9,(jL 3 Qa.cells bg5)),(18,(.own 0)),(24,(jB bi6))],[jR 3 Qa.cells bn8.2.2])
def f8n2S(ba1:List Qb)(bg2:List Qa)(bi3:Bool)(ba4:List Qb)(bg5:List Qa)(bi6:Bool)(bk7:Int×(List Qb))(bn8:Int×Int×(List Qa)):Tr×Hp:=(mkS [(0,(jL 4 Qb.cells ba1)),(1,(jL 3 Qa.cells bg2)),(7,(jB bi3)),(8,(jL 4 Qb.cells ba4)),(9,(jL 3 Qa.cells bg5)),(10,(.own 0)),(18,(.own 1)),(24,(jB bi6))],[jR 4 Qb.cells bk7.2,jR 3 Qa.cells bn8.2.2])
noncomputable def f8n2(ba1:List Qb)(bg2:List Qa)(bi3:Bool)(ba4:List Qb)(bg5:List Qa)(bi6:Bool)(bk7:Int×(List Qb))(bn8:Int×Int×(List Qa)):Option f8n2O :=
 (f8n3 FUEL ba1 bg2 bi3 ba4 bg5 bi6 bn8 0 bk7.2).bind fun o104=>match o104 with
 | .exit0=>some .norm
theorem f8n2_ok(ba1:List Qb)(bg2:List Qa)(bi3:Bool)(ba4:List Qb)(bg5:List Qa)(bi6:Bool)(bk7:Int×(List Qb))(bn8:Int×Int×(List Qa)){o:f8n2O}(h:f8n2 ba1 bg2 bi3 ba4 bg5 bi6 bk7 bn8=some o):T Try.prog Try.f8.ntmps 0 (cL (Qj 0 (Qj 1 (Qj 4 (Qj 6 c8))))) (f8n2S ba1 bg2 bi3 ba4 bg5 bi6 bk7 bn8) (·=f8n2E ba1 bg2 bi3 ba4 bg5 bi6 bk7 bn8 o):=by
 unfold f8n2 at h;refine rN Qf 1 [j3] [] [] [0,1] [0,1,7,8,9,10,18,24,25] (f8n3S ba1 bg2 bi3 ba4 bg5 bi6 bn8 0 bk7.2) an ?_;obtain ⟨o104,h105,h⟩:=Qc h;cases o104 with
 | exit0 =>
  obtain rfl:=Qe h;exact T.last' (T.bl (i:=0) (by kernel_rfl) (by kernel_rfl) (f8n3_ok FUEL ba1 bg2 bi3 ba4 bg5 bi6 bn8 0 bk7.2 h105)) (tds:=[]) (m:=[0]) (keep:=[0,1,7,8,9,18,24]) (st2:=(f8n2E ba1 bg2 bi3 ba4 bg5 bi6 bk7 bn8 .norm).2) (by kernel_rfl) an rfl
inductive f8n5O where
 | exit2
def f8n5E(ba1:List Qb)(bg2:List Qa)(bi3:Bool)(ba4:List Qb)(bg5:List Qa)(bi6:Bool):f8n5O→Ex×Tr×Hp
 | .exit2=>((.exit 2),mkS [(0,(jL 4 Qb.cells ba1)),(1,(jL 3 Qa.cells bg2)),(7,(jB bi3)),(8,(jL 4 Qb.cells ba4)),(9,(jL 3 Qa.cells bg5)),(24,(jB bi6))],[])
def f8n5S(ba1:List Qb)(bg2:List Qa)(bi3:Bool)(ba4:List Qb)(bg5:List Qa)(bi6:Bool)(v122:Int)(v123:List Qa):Tr×Hp:=(mkS [(0,(jL 4 Qb.cells ba1)),(1,(jL 3 Qa.cells bg2)),(7,(jB bi3)),(8,(jL 4 Qb.cells ba4)),(9,(jL 3 Qa.cells bg5)),(18,(.own 0)),(24,(jB bi6)),(26,(jI v122))],[jR 3 Qa.cells v123])
noncomputable def f8n5:Nat→List Qb→List Qa→Bool→List Qb→List Qa→Bool→Int→List Qa→Option f8n5O
 | 0,_,_,_,_,_,_,_,_=>none
 | f+1,ba1,bg2,bi3,ba4,bg5,bi6,v122,v123 =>
  bif decide (v122<(v123.length:Int)) then
   (at? v123 v122).bind fun x128 =>
   (f8n5 f ba1 bg2 bi3 ba4 bg5 bi6 (wr64 (v122+1)) (v123.set (Int.toNat v122) (Qa.mk x128.Level x128.Owner (-7))))
  else
   some .exit2
theorem f8n5_ok:∀(f:Nat)(ba1:List Qb)(bg2:List Qa)(bi3:Bool)(ba4:List Qb)(bg5:List Qa)(bi6:Bool)(v122:Int)(v123:List Qa){o:f8n5O},f8n5 f ba1 bg2 bi3 ba4 bg5 bi6 v122 v123=some o→TL Try.prog Try.f8.ntmps 0 f (cL (cL (Qj 1 (cL (Qj 0 (Qj 1 (Qj 0 (Qj 1 (Qj 4 (Qj 6 c8)))))))))) (f8n5S ba1 bg2 bi3 ba4 bg5 bi6 v122 v123) (·=f8n5E ba1 bg2 bi3 ba4 bg5 bi6 o)
 | 0,_,_,_,_,_,_,_,_,o,h=>by rw [f8n5] at h; cases h
 | f+1,ba1,bg2,bi3,ba4,bg5,bi6,v122,v123,o,h=>by
  rw [f8n5] at h;refine TL.body (K:=fun s=>∃v122:Int,∃v123:List Qa,s=(f8n5S ba1 bg2 bi3 ba4 bg5 bi6 v122 v123)∧f8n5 f ba1 bg2 bi3 ba4 bg5 bi6 v122 v123=some o) ?_ (by rintro _ ⟨v122,v123,rfl,hk⟩; exact f8n5_ok f _ _ _ _ _ _ _ _ hk);rcases Qh h with ⟨h125,h⟩|⟨h125,h⟩
  ·obtain ⟨x128,h129,h⟩:=Qc h;exact rE Qf [([],[],[(2,.val (jI (v123.length:Int)))]),([],[(2,.at_ (Int.toNat v122)),(4,.idx 0 (Qa.cells x128))],[(4,.row 0 ((v123.set (Int.toNat v122) (Qa.mk x128.Level x128.Owner (-7))).map Qa.cells))]),j3] [some true] [] [0] [0,1,7,8,9,18,24,26] (.norm,(f8n5S ba1 bg2 bi3 ba4 bg5 bi6 (wr64 (v122+1)) (v123.set (Int.toNat v122) (Qa.mk x128.Level x128.Owner (-7))))) (ap (Qo (xs:=v123) (c:=Qa.cells)) (ap h125 (ap (Qg h129).1 (ap (Qs Qa.cells (Qg h129).2) (ap (Qk Qa.cells (Qg h129).2) (ap (set_cv (xs:=v123) (c:=Qa.cells) (k:=(Int.toNat v122)) (x:=(Qa.mk x128.Level x128.Owner (-7)))) an)))))) (Qn.norm ⟨(wr64 (v122+1)),(v123.set (Int.toNat v122) (Qa.mk x128.Level x128.Owner (-7))),rfl,h⟩)
  ·obtain rfl:=Qe h;exact rK Qf 1 [([],[],[(2,.val (jI (v123.length:Int)))])] [some false] [] [] [0,1,7,8,9,24] (.exit 2) ((f8n5E ba1 bg2 bi3 ba4 bg5 bi6 .exit2).2) (ap (Qo (xs:=v123) (c:=Qa.cells)) (ap h125 an)) (Qn.out rfl rfl)
inductive f8n4O where
 | norm
def f8n4E(ba1:List Qb)(bg2:List Qa)(bi3:Bool)(ba4:List Qb)(bg5:List Qa)(bi6:Bool)(bn7:Int×Int×(List Qa)):f8n4O→Ex×Tr×Hp
 | .norm=>(.norm,mkS [(0,(jL 4 Qb.cells ba1)),(1,(jL 3 Qa.cells bg2)),(7,(jB bi3)),(8,(jL 4 Qb.cells ba4)),(9,(jL 3 Qa.cells bg5)),(24,(jB bi6))],[])
def f8n4S(ba1:List Qb)(bg2:List Qa)(bi3:Bool)(ba4:List Qb)(bg5:List Qa)(bi6:Bool)(bn7:Int×Int×(List Qa)):Tr×Hp:=(mkS [(0,(jL 4 Qb.cells ba1)),(1,(jL 3 Qa.cells bg2)),(7,(jB bi3)),(8,(jL 4 Qb.cells ba4)),(9,(jL 3 Qa.cells bg5)),(18,(.own 0)),(24,(jB bi6))],[jR 3 Qa.cells bn7.2.2])
noncomputable def f8n4(ba1:List Qb)(bg2:List Qa)(bi3:Bool)(ba4:List Qb)(bg5:List Qa)(bi6:Bool)(bn7:Int×Int×(List Qa)):Option f8n4O :=
 (f8n5 FUEL ba1 bg2 bi3 ba4 bg5 bi6 0 bn7.2.2).bind fun o130=>match o130 with
 | .exit2=>some .norm
theorem f8n4_ok(ba1:List Qb)(bg2:List Qa)(bi3:Bool)(ba4:List Qb)(bg5:List Qa)(bi6:Bool)(bn7:Int×Int×(List Qa)){o:f8n4O}(h:f8n4 ba1 bg2 bi3 ba4 bg5 bi6 bn7=some o):T Try.prog Try.f8.ntmps 0 (cL (Qj 0 (Qj 1 (Qj 0 (Qj 1 (Qj 4 (Qj 6 c8))))))) (f8n4S ba1 bg2 bi3 ba4 bg5 bi6 bn7) (·=f8n4E ba1 bg2 bi3 ba4 bg5 bi6 bn7 o):=by
 unfold f8n4 at h;refine rN Qf 1 [j3] [] [] [0] [0,1,7,8,9,18,24,26] (f8n5S ba1 bg2 bi3 ba4 bg5 bi6 0 bn7.2.2) an ?_;obtain ⟨o130,h131,h⟩:=Qc h;cases o130 with
 | exit2 =>
  obtain rfl:=Qe h;exact T.last' (T.bl (i:=2) (by kernel_rfl) (by kernel_rfl) (f8n5_ok FUEL ba1 bg2 bi3 ba4 bg5 bi6 0 bn7.2.2 h131)) (tds:=[]) (m:=[]) (keep:=[0,1,7,8,9,24]) (st2:=(f8n4E ba1 bg2 bi3 ba4 bg5 bi6 bn7 .norm).2) (by kernel_rfl) an rfl
inductive f8n0O where
 | ret (v146:Bool)
def f8n0E(a1:List Qb)(a2:List Qa)(a3:Int):f8n0O→Ex×Tr×Hp
 | .ret v146=>(.ret,mkS [(6,(jB v146))],[])
def f8n0S(a1:List Qb)(a2:List Qa)(a3:Int):Tr×Hp:=(Qu [(jL 4 Qb.cells a1),(jL 3 Qa.cells a2),(jI a3)] 0 .leaf,[])
noncomputable def f8n0(a1:List Qb)(a2:List Qa)(a3:Int):Option f8n0O :=
 f11.bind fun x6 =>
 (f12 a1 a2).bind fun x12 =>
 bif x12 then
  some (.ret x6)
 else
  bif x6 then
   (f19 a1).bind fun x20 =>
   (f17 a2).bind fun x22 =>
   (f26r1 x20 x22).bind fun x26 =>
   (f28 a1 a2).bind fun x30 =>
   (f29 x20 x22).bind fun x34 =>
   (f30 a1 a2).bind fun x38 =>
   (f16r1 x22 a3).bind fun x42 =>
   (f31 a2 a3).bind fun x46 =>
   (f8n1 a1 a2 x6 x20 x22 x26 x30 x34 x38 x42 x46).bind fun o79=>match o79 with
   | .norm v81=>(f8n2 a1 a2 x6 x20 x22 v81 x26 x42).bind fun o106=>match o106 with
    | .norm=>(f8n4 a1 a2 x6 x20 x22 v81 x42).bind fun o132=>match o132 with
     | .norm=>bif v81 then
       (f25 x20 a1).bind fun x141 =>
       bif x141 then
        (f18 x22 a2).bind fun x144 =>
        some (.ret x144)
       else
        some (.ret false)
      else
       some (.ret false)
  else
   some (.ret x6)
theorem f8n0_ok(a1:List Qb)(a2:List Qa)(a3:Int){o:f8n0O}(h:f8n0 a1 a2 a3=some o):T Try.prog Try.f8.ntmps 0 c8 (f8n0S a1 a2 a3) (·=f8n0E a1 a2 a3 o):=by
 unfold f8n0 at h;obtain ⟨x6,h7,h⟩:=Qc h;obtain ⟨x12,h13,h⟩:=Qc h;rcases Qh h with ⟨h14,h⟩|⟨h14,h⟩
 ·obtain rfl:=Qe h;exact rK Qf 3 [j3,([],[jH 0 (jB x6)],[]),([(4,true),(5,true)],[jH 2 (jB x12),(6,.bool true)],[]),j3] [none] [] [] [6] .ret ((f8n0E a1 a2 a3 (.ret x6)).2) (ap (f11_ok h7) (ap3 h14 (ap (f12_ok a1 a2 h13) an))) rfl
 ·rcases Qh h with ⟨h15,h⟩|⟨h15,h⟩
  ·obtain ⟨x20,h21,h⟩:=Qc h;obtain ⟨x22,h23,h⟩:=Qc h;obtain ⟨x26,h27,h⟩:=Qc h;obtain ⟨x30,h31,h⟩:=Qc h
   refine rN Qf 6 [j3,([],[jH 0 (jB x6)],[]),([(4,false),(5,false)],[jH 2 (jB x12),(6,.bool false)],[]),([],[jH 1 (jL 4 Qb.cells x20),jH 3 (jL 3 Qa.cells x22)],[]),([],[(2,.call (.tup [(.own 0),(jI x26.1)]) [jR 4 Qb.cells x26.2])],[]),([],[jH 2 (.tup [(jL 4 Qb.cells x30.1),(jI x30.2)])],[])] [some false] [] [0] [0,1,2,7,8,9,10,11,12,13] (mkS [(0,(jL 4 Qb.cells a1)),(1,(jL 3 Qa.cells a2)),(2,(jI a3)),(7,(jB x6)),(8,(jL 4 Qb.cells x20)),(9,(jL 3 Qa.cells x22)),(10,(.own 0)),(11,(jI x26.1)),(12,(jL 4 Qb.cells x30.1)),(13,(jI x30.2))],[jR 4 Qb.cells x26.2]) (ap (f11_ok h7) (ap3 h14 (ap (f12_ok a1 a2 h13) (ap (Qag h15) (ap (f19_ok a1 h21) (ap (f17_ok a2 h23) (ap (f26r1_ok x20 x22 h27) (ap (f28_ok a1 a2 h31) an)))))))) ?_;obtain ⟨x34,h35,h⟩:=Qc h
   obtain ⟨x38,h39,h⟩:=Qc h;obtain ⟨x42,h43,h⟩:=Qc h;obtain ⟨x46,h47,h⟩:=Qc h;refine rN Qf 4 [([],[jH 2 (.tup [(jI x34.1),(jI x34.2)])],[]),([],[jH 2 (.tup [(jI x38.1),(jI x38.2)])],[]),([],[(2,.call (.tup [(.own 1),(jI x42.1),(jI x42.2.1)]) [none,jR 3 Qa.cells x42.2.2])],[]),([],[jH 2 (.tup [(jL 3 Qa.cells x46.1),(jI x46.2.1),(jI x46.2.2)])],[])] [] [] [0,1] [0,1,7,8,9,10,11,12,13,14,15,16,17,18,19,20,21,22,23] (f8n1S a1 a2 x6 x20 x22 x26 x30 x34 x38 x42 x46) (ap (f29_ok x20 x22 h35) (ap (f30_ok a1 a2 h39) (ap (Qm.rn 1 [] (f16r1_ok x22 a3 h43)) (ap (f31_ok a2 a3 h47) an)))) ?_;obtain ⟨o79,h80,h⟩:=Qc h;cases o79 with
   | norm v81 =>
    refine T.oneN (by kernel_rfl) (f8n1_ok a1 a2 x6 x20 x22 x26 x30 x34 x38 x42 x46 h80) (st2:=(f8n1E a1 a2 x6 x20 x22 x26 x30 x34 x38 x42 x46 (.norm v81)).2) rfl ?_;refine rN Qf 0 [] [] [] [0,1] [0,1,7,8,9,10,18,24] (f8n2S a1 a2 x6 x20 x22 v81 x26 x42) an ?_;obtain ⟨o106,h107,h⟩:=Qc h;cases o106 with
    | norm =>
     refine T.oneN (by kernel_rfl) (f8n2_ok a1 a2 x6 x20 x22 v81 x26 x42 h107) (st2:=(f8n2E a1 a2 x6 x20 x22 v81 x26 x42 .norm).2) rfl ?_;refine rN Qf 0 [] [] [] [0] [0,1,7,8,9,18,24] (f8n4S a1 a2 x6 x20 x22 v81 x42) an ?_;obtain ⟨o132,h133,h⟩:=Qc h;cases o132 with
     | norm =>
      refine T.oneN (by kernel_rfl) (f8n4_ok a1 a2 x6 x20 x22 v81 x42 h133) (st2:=(f8n4E a1 a2 x6 x20 x22 v81 x42 .norm).2) rfl ?_;rcases Qh h with ⟨h140,h⟩|⟨h140,h⟩
      ·obtain ⟨x141,h142,h⟩:=Qc h;rcases Qh h with ⟨h143,h⟩|⟨h143,h⟩
       ·obtain ⟨x144,h145,h⟩:=Qc h;obtain rfl:=Qe h;exact rE Qf [(jT [2,5,6,7,10,11,12],[(3,.bool true),jH 7 (jB x141),(8,.bool true),jH 12 (jB x144),(13,.bool true)],[])] [] [] [] [6] (.ret,(f8n0E a1 a2 a3 (.ret x144)).2) (ap2 h15 (ap4 h140 (ap4 h143 (ap (f25_ok x20 a1 h142) (ap (f18_ok x22 a2 h145) an))))) rfl
       ·obtain rfl:=Qe h;exact rE Qf [(jF [10,11,12]++jT [2,5,6,7],[(3,.bool true),jH 7 (jB x141),(8,.bool true),(13,.bool false)],[])] [] [] [] [6] (.ret,(f8n0E a1 a2 a3 (.ret false)).2) (ap2 h15 (ap4 h140 (ap4 h143 (ap (f25_ok x20 a1 h142) an)))) rfl
      ·obtain rfl:=Qe h;exact rE Qf [(jF [5,6,7]++jT [2],[(3,.bool true),(8,.bool false)],[])] [] [] [] [6] (.ret,(f8n0E a1 a2 a3 (.ret false)).2) (ap2 h15 (ap4 h140 an)) rfl
  ·obtain rfl:=Qe h;exact rK Qf 3 [j3,([],[jH 0 (jB x6)],[]),([(4,false),(5,false)],[jH 2 (jB x12),(6,.bool false)],[]),j3] [some true] [] [] [6] .ret ((f8n0E a1 a2 a3 (.ret x6)).2) (ap (f11_ok h7) (ap3 h14 (ap (f12_ok a1 a2 h13) (ap (Qae h15) an)))) rfl
noncomputable def f8(a1:List Qb)(a2:List Qa)(a3:Int):Option Bool:=(f8n0 a1 a2 a3).bind fun o=>match o with
 | .ret v146=>some v146
theorem f8_ok(a1:List Qb)(a2:List Qa)(a3:Int){r:Bool}(h:f8 a1 a2 a3=some r):Qm Try.prog false 8 [(jL 4 Qb.cells a1),(jL 3 Qa.cells a2),(jI a3)] [] (jB r) []:=by
 unfold f8 at h;obtain ⟨o,ho,h⟩:=Qc h;cases o with
 | ret v146 =>
  obtain rfl:=Qe h;exact Qm.plain Qf (f:=Try.f8) (c:=c8) (by kernel_rfl) (by kernel_rfl) (by kernel_rfl) (by kernel_rfl) ((f8n0_ok a1 a2 a3 ho).mono fun r e=>by subst e; exact ⟨.inl rfl,(jB v146),(jB v146),by kernel_rfl,by kernel_rfl,((Wk.refl _):Wk (jB v146) (jB v146))⟩)
end Go.Proofs.Ytgbolgaodaokcaa
