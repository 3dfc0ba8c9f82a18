/- Several texts in one. No condition. -/
import Derived.Test.YtgbolgaodaokcaaW8
namespace Go.Proofs.Ytgbolgaodaokcaa
set_option linter.unusedVariables false
set_option linter.unusedSimpArgs false
set_option maxRecDepth 100000
open Go.RowKit




inductive f49r3n2O where
 | exit0 (v50:List (Key_×Int))
def f49r3n2E(bg1:List Qb)(ba2 ba3:List Qa):f49r3n2O→Ex×Tr×Hp
 | .exit0 v50=>((.exit 0),mkS [(0,(.own 0)),(1,(jL 3 Qb.cells bg1)),(2,(.clo 50 [(.bp 1 0)])),(8,(.mp 3))],[jR 4 Qa.cells ba2,some (.box [(.own 2)]),jR 4 Qa.cells ba3,some (.map (v50.map (mkv (pAgg Key_.cells) (pInt .i64))))])
def f49r3n2S(bg1:List Qb)(ba2 ba3:List Qa)(v38:Int)(v39:List (Key_×Int)):Tr×Hp:=(mkS [(0,(.own 0)),(1,(jL 3 Qb.cells bg1)),(2,(.clo 50 [(.bp 1 0)])),(8,(.mp 3)),(27,(.own 0)),(28,(jI (ba2.length:Int))),(29,(jI v38))],[jR 4 Qa.cells ba2,some (.box [(.own 2)]),jR 4 Qa.cells ba3,some (.map (v39.map (mkv (pAgg Key_.cells) (pInt .i64))))])
noncomputable def f49r3n2:Nat→List Qb→List Qa→List Qa→Int→List (Key_×Int)→Option f49r3n2O
 | 0,_,_,_,_,_=>none
 | f+1,bg1,ba2,ba3,v38,v39 =>
  bif (decide (v38<(ba2.length:Int))) then
   (at? ba2 v38).bind fun x46 =>
   (f36 x46).bind fun x48 =>
   (f49r3n2 f bg1 ba2 ba3 (wr64 (v38+1)) (mPut Key_.eqb x48 v38 v39))
  else
   some (.exit0 v39)
theorem f49r3n2_ok:∀(f:Nat)(bg1:List Qb)(ba2 ba3:List Qa)(v38:Int)(v39:List (Key_×Int)){o:f49r3n2O},(f49r3n2 f bg1 ba2 ba3 v38 v39)=some o→TL Try.prog Try.f49.ntmps 3 f (cL (cL (Qj 1 (cL (Qj 4 c49))))) (f49r3n2S bg1 ba2 ba3 v38 v39) (fun r=>r=f49r3n2E bg1 ba2 ba3 o)
 | 0,_,_,_,_,_,o,h=>by rw [f49r3n2] at h; cases h
 | f+1,bg1,ba2,ba3,v38,v39,o,h=>by
  rw [f49r3n2] at h
  refine TL.body (K:=fun s=>∃v38:Int,∃v39:List (Key_×Int),s=(f49r3n2S bg1 ba2 ba3 v38 v39)∧(f49r3n2 f bg1 ba2 ba3 v38 v39)=some o) ?_ (by rintro _ ⟨v38,v39,rfl,hk⟩; exact f49r3n2_ok f _ _ _ _ _ hk)
  rcases Qh h with ⟨h41,h⟩|⟨h41,h⟩
  ·obtain ⟨x46,h47,h⟩:=Qd h
   obtain ⟨x48,h49,h⟩:=Qd h
   exact rE Qf [j3,([],[(1,.at_ (Int.toNat v38)),(2,.idx 0 (Qa.cells x46))],[]),([],[jH 2 (jA Key_.cells x48),(4,.mset ((mPut Key_.eqb x48 v38 v39).map (mkv (pAgg Key_.cells) (pInt .i64))))],[]),j3] [some true] [] [3] [0,1,2,8,27,28,29] (.norm,(f49r3n2S bg1 ba2 ba3 (wr64 (v38+1)) (mPut Key_.eqb x48 v38 v39))) (ap h41 (ap (Qg h47).1 (ap (Qs Qa.cells (Qg h47).2) (ap (Qm Qa.cells (Qg h47).2) (ap (mset_map (vp:=(pInt .i64)) key_87 x48 v38 v39) (ap (f36_ok x46 h49) an)))))) (Qo.norm ⟨(wr64 (v38+1)),(mPut Key_.eqb x48 v38 v39),rfl,h⟩)
  ·obtain rfl:=Qe h
   exact rK Qf 2 [j3] [some false] [] [3] [0,1,2,8] (.exit 0) ((f49r3n2E bg1 ba2 ba3 (.exit0 v39)).2) (ap h41 an) (Qo.out rfl rfl)
noncomputable def f49r3n2L(bg1:List Qb)(ba2 ba3:List Qa):List Qa→Int→(List (Key_×Int))→Option f49r3n2O
 | [],v38,v39 =>
  some (.exit0 v39)
 | x0::rest,v38,v39 =>
  (f36 x0).bind fun x48 =>
  (f49r3n2L bg1 ba2 ba3 rest (v38+1) (mPut Key_.eqb x48 v38 v39))
theorem f49r3n2L_eq(bg1:List Qb)(ba2 ba3:List Qa):∀(rest:List Qa)(f k:Nat)(v39:List (Key_×Int)),ba2.drop k=rest→ba2.length≤maxLen→rest.length<f→f49r3n2 f bg1 ba2 ba3 (k:Int) v39=f49r3n2L bg1 ba2 ba3 rest (k:Int) v39
 | _,0,_,_,_,_,hf=>absurd hf (Nat.not_lt_zero _)
 | [],f+1,k,v39,hd,hm,hf=>by
  have hk:¬((k:Int)<(ba2.length:Int)):=by have:=Qaq hd; omega
  rw [f49r3n2,f49r3n2L]
  simp only [decide_eq_false hk,cond_false]
 | x0::rest,f+1,k,v39,hd,hm,hf=>by
  obtain ⟨hx,hlt,hd'⟩:=Qag hd
  have hk:(k:Int)<(ba2.length:Int):=by omega
  have hw:wr64 ((k:Int)+1)=(k:Int)+1:=Qbw (by omega) (by unfold maxLen at hm; omega)
  have ih:∀(v39:List (Key_×Int)),f49r3n2 f bg1 ba2 ba3 ((k:Int)+1) v39=f49r3n2L bg1 ba2 ba3 rest ((k:Int)+1) v39:=fun v39=>f49r3n2L_eq bg1 ba2 ba3 rest f (k+1) v39 hd' hm (by simpa using hf)
  rw [f49r3n2,f49r3n2L]
  simp only [decide_eq_true hk,cond_true,at_nat,hx,Option.bind_some,hw,ih]
theorem f49r3n2_run(bg1:List Qb)(ba2 ba3:List Qa)(v39:List (Key_×Int))(hm:ba2.length≤maxLen):f49r3n2 FUEL bg1 ba2 ba3 0 v39=f49r3n2L bg1 ba2 ba3 ba2 0 v39:=f49r3n2L_eq bg1 ba2 ba3 ba2 FUEL 0 v39 List.drop_zero hm (Qad hm)
inductive f49r3n1O where
 | norm (v54:List (Key_×Int))
def f49r3n1E(bg1:List Qb)(ba2 ba3:List Qa):f49r3n1O→Ex×Tr×Hp
 | .norm v54=>(.norm,mkS [(0,(.own 0)),(1,(jL 3 Qb.cells bg1)),(2,(.clo 50 [(.bp 1 0)])),(8,(.mp 3))],[jR 4 Qa.cells ba2,some (.box [(.own 2)]),jR 4 Qa.cells ba3,some (.map (v54.map (mkv (pAgg Key_.cells) (pInt .i64))))])
def f49r3n1S(bg1:List Qb)(ba2 ba3:List Qa):Tr×Hp:=(mkS [(0,(.own 0)),(1,(jL 3 Qb.cells bg1)),(2,(.clo 50 [(.bp 1 0)])),(8,(.mp 3))],[jR 4 Qa.cells ba2,some (.box [(.own 2)]),jR 4 Qa.cells ba3,some (.map ([].map (mkv (pAgg Key_.cells) (pInt .i64))))])
noncomputable def f49r3n1(bg1:List Qb)(ba2 ba3:List Qa):Option f49r3n1O :=
 (f49r3n2 FUEL bg1 ba2 ba3 0 []).bind fun o51=>match o51 with
 | .exit0 v53=>some (.norm v53)
theorem f49r3n1_ok(bg1:List Qb)(ba2 ba3:List Qa){o:f49r3n1O}(h:(f49r3n1 bg1 ba2 ba3)=some o):T Try.prog Try.f49.ntmps 3 (cL (Qj 4 c49)) (f49r3n1S bg1 ba2 ba3) (fun r=>r=f49r3n1E bg1 ba2 ba3 o):=by
 unfold f49r3n1 at h
 refine rN Qf 1 [([],[],[(1,.val (jI (ba2.length:Int)))])] [] [] [3] [0,1,2,8,27,28,29] (f49r3n2S bg1 ba2 ba3 0 []) (ap (Qp (xs:=ba2) (c:=Qa.cells)) an) ?_
 obtain ⟨o51,h52,h⟩:=Qd h
 cases o51 with
 | exit0 v53 =>
  obtain rfl:=Qe h
  exact T.last' (T.bl (i:=0) (by kernel_rfl) (by kernel_rfl) (f49r3n2_ok FUEL bg1 ba2 ba3 0 [] h52)) (tds:=[]) (m:=[3]) (keep:=[0,1,2,8]) (st2:=(f49r3n1E bg1 ba2 ba3 (.norm v53)).2) (by kernel_rfl) an rfl
inductive f49r3n4O where
 | exit2 (v116:Int)
 | ret
def f49r3n4E(bg1:List Qb)(ba2 ba3:List Qa)(bm4:List (Key_×Int)):f49r3n4O→Ex×Tr×Hp
 | .exit2 v116=>((.exit 2),mkS [(1,(jL 3 Qb.cells bg1)),(2,(.clo 50 [(.bp 1 0)])),(8,(.mp 3)),(11,(jI v116))],[jR 4 Qa.cells ba2,some (.box [(.own 2)]),jR 4 Qa.cells ba3,some (.map (bm4.map (mkv (pAgg Key_.cells) (pInt .i64))))])
 | .ret=>(.ret,mkS [(6,(jI 6))],[jR 4 Qa.cells ba2,some (.box [(.own 2)]),jR 4 Qa.cells ba3])
def f49r3n4S(bg1:List Qb)(ba2 ba3:List Qa)(bm4:List (Key_×Int))(v96 v97:Int):Tr×Hp:=(mkS [(0,(.own 0)),(1,(jL 3 Qb.cells bg1)),(2,(.clo 50 [(.bp 1 0)])),(8,(.mp 3)),(11,(jI v96)),(39,(jL 3 Qb.cells bg1)),(40,(jI (bg1.length:Int))),(41,(jI v97))],[jR 4 Qa.cells ba2,some (.box [(.own 2)]),jR 4 Qa.cells ba3,some (.map (bm4.map (mkv (pAgg Key_.cells) (pInt .i64))))])
noncomputable def f49r3n4:Nat→List Qb→List Qa→List Qa→List (Key_×Int)→Int→Int→Option f49r3n4O
 | 0,_,_,_,_,_,_=>none
 | f+1,bg1,ba2,ba3,bm4,v96,v97 =>
  bif (decide (v97<(bg1.length:Int))) then
   (at? bg1 v97).bind fun x108 =>
   (f39 x108).bind fun x110 =>
   bif (mHas Key_.eqb x110 bm4) then
    (at? ba2 (mGet Key_.eqb 0 x110 bm4)).bind fun x113 =>
    bif (decide (x113.Size<x108.Amount)) then
     (f49r3n4 f bg1 ba2 ba3 bm4 50 (wr64 (v97+1)))
    else
     (f49r3n4 f bg1 ba2 ba3 bm4 v96 (wr64 (v97+1)))
   else
    some .ret
  else
   some (.exit2 v96)
theorem f49r3n4_ok:∀(f:Nat)(bg1:List Qb)(ba2 ba3:List Qa)(bm4:List (Key_×Int))(v96 v97:Int){o:f49r3n4O},(f49r3n4 f bg1 ba2 ba3 bm4 v96 v97)=some o→TL Try.prog Try.f49.ntmps 3 f (cL (cL (Qj 1 (cL (Qj 1 (Qj 1 (Qj 4 c49))))))) (f49r3n4S bg1 ba2 ba3 bm4 v96 v97) (fun r=>r=f49r3n4E bg1 ba2 ba3 bm4 o)
 | 0,_,_,_,_,_,_,o,h=>by rw [f49r3n4] at h; cases h
 | f+1,bg1,ba2,ba3,bm4,v96,v97,o,h=>by
  rw [f49r3n4] at h
  refine TL.body (K:=fun s=>∃v96:Int,∃v97:Int,s=(f49r3n4S bg1 ba2 ba3 bm4 v96 v97)∧(f49r3n4 f bg1 ba2 ba3 bm4 v96 v97)=some o) ?_ (by rintro _ ⟨v96,v97,rfl,hk⟩; exact f49r3n4_ok f _ _ _ _ _ _ hk)
  rcases Qh h with ⟨h99,h⟩|⟨h99,h⟩
  ·obtain ⟨x108,h109,h⟩:=Qd h
   obtain ⟨x110,h111,h⟩:=Qd h
   rcases Qh h with ⟨h112,h⟩|⟨h112,h⟩
   ·obtain ⟨x113,h114,h⟩:=Qd h
    rcases Qh h with ⟨h115,h⟩|⟨h115,h⟩
    ·exact rE Qf [j3,([],[(0,.idx (Int.toNat v97) (Qb.cells x108))],[]),([],[jH 2 (jA Key_.cells x110),(3,.look ((pInt .i64) (mGet Key_.eqb 0 x110 bm4)) (mHas Key_.eqb x110 bm4))],[]),j3,([],[(4,.at_ (Int.toNat (mGet Key_.eqb 0 x110 bm4))),(6,.idx 0 (Qa.cells x113))],[]),j3,j3] [some true,some false,some true] [] [3] [0,1,2,8,11,39,40,41] (.norm,(f49r3n4S bg1 ba2 ba3 bm4 50 (wr64 (v97+1)))) (ap h99 (ap (Qg h109).1 (ap (Qm Qb.cells (Qg h109).2) (ap (look_map (vp:=(pInt .i64)) (e:=3) key_87 0 (by kernel_rfl) x110 bm4) (ap (f39_ok x108 h111) (ap (Qr h112) (ap (Qg h114).1 (ap (Qs Qa.cells (Qg h114).2) (ap (Qm Qa.cells (Qg h114).2) (ap h115 an)))))))))) (Qo.norm ⟨50,(wr64 (v97+1)),rfl,h⟩)
    ·exact rE Qf [j3,([],[(0,.idx (Int.toNat v97) (Qb.cells x108))],[]),([],[jH 2 (jA Key_.cells x110),(3,.look ((pInt .i64) (mGet Key_.eqb 0 x110 bm4)) (mHas Key_.eqb x110 bm4))],[]),j3,([],[(4,.at_ (Int.toNat (mGet Key_.eqb 0 x110 bm4))),(6,.idx 0 (Qa.cells x113))],[]),j3] [some true,some false,some false] [] [3] [0,1,2,8,11,39,40,41] (.norm,(f49r3n4S bg1 ba2 ba3 bm4 v96 (wr64 (v97+1)))) (ap h99 (ap (Qg h109).1 (ap (Qm Qb.cells (Qg h109).2) (ap (look_map (vp:=(pInt .i64)) (e:=3) key_87 0 (by kernel_rfl) x110 bm4) (ap (f39_ok x108 h111) (ap (Qr h112) (ap (Qg h114).1 (ap (Qs Qa.cells (Qg h114).2) (ap (Qm Qa.cells (Qg h114).2) (ap h115 an)))))))))) (Qo.norm ⟨v96,(wr64 (v97+1)),rfl,h⟩)
   ·obtain rfl:=Qe h
    exact rK Qf 3 [j3,([],[(0,.idx (Int.toNat v97) (Qb.cells x108))],[]),([],[jH 2 (jA Key_.cells x110),(3,.look ((pInt .i64) (mGet Key_.eqb 0 x110 bm4)) (mHas Key_.eqb x110 bm4))],[]),j3,j3] [some true,some true] [] [] [6] .ret ((f49r3n4E bg1 ba2 ba3 bm4 .ret).2) (ap h99 (ap (Qg h109).1 (ap (Qm Qb.cells (Qg h109).2) (ap (look_map (vp:=(pInt .i64)) (e:=3) key_87 0 (by kernel_rfl) x110 bm4) (ap (f39_ok x108 h111) (ap (Qac h112) an)))))) (Qo.out rfl rfl)
  ·obtain rfl:=Qe h
   exact rK Qf 2 [j3] [some false] [] [3] [1,2,8,11] (.exit 2) ((f49r3n4E bg1 ba2 ba3 bm4 (.exit2 v96)).2) (ap h99 an) (Qo.out rfl rfl)
noncomputable def f49r3n4L(bg1:List Qb)(ba2 ba3:List Qa)(bm4:List (Key_×Int)):List Qb→Int→Int→Option f49r3n4O
 | [],v96,v97 =>
  some (.exit2 v96)
 | x0::rest,v96,v97 =>
  (f39 x0).bind fun x110 =>
  bif (mHas Key_.eqb x110 bm4) then
   (at? ba2 (mGet Key_.eqb 0 x110 bm4)).bind fun x113 =>
   bif (decide (x113.Size<x0.Amount)) then
    (f49r3n4L bg1 ba2 ba3 bm4 rest 50 (v97+1))
   else
    (f49r3n4L bg1 ba2 ba3 bm4 rest v96 (v97+1))
  else
   some .ret
theorem f49r3n4L_eq(bg1:List Qb)(ba2 ba3:List Qa)(bm4:List (Key_×Int)):∀(rest:List Qb)(f k:Nat)(v96:Int),bg1.drop k=rest→bg1.length≤maxLen→rest.length<f→f49r3n4 f bg1 ba2 ba3 bm4 v96 (k:Int)=f49r3n4L bg1 ba2 ba3 bm4 rest v96 (k:Int)
 | _,0,_,_,_,_,hf=>absurd hf (Nat.not_lt_zero _)
 | [],f+1,k,v96,hd,hm,hf=>by
  have hk:¬((k:Int)<(bg1.length:Int)):=by have:=Qaq hd; omega
  rw [f49r3n4,f49r3n4L]
  simp only [decide_eq_false hk,cond_false]
 | x0::rest,f+1,k,v96,hd,hm,hf=>by
  obtain ⟨hx,hlt,hd'⟩:=Qag hd
  have hk:(k:Int)<(bg1.length:Int):=by omega
  have hw:wr64 ((k:Int)+1)=(k:Int)+1:=Qbw (by omega) (by unfold maxLen at hm; omega)
  have ih:∀(v96:Int),f49r3n4 f bg1 ba2 ba3 bm4 v96 ((k:Int)+1)=f49r3n4L bg1 ba2 ba3 bm4 rest v96 ((k:Int)+1):=fun v96=>f49r3n4L_eq bg1 ba2 ba3 bm4 rest f (k+1) v96 hd' hm (by simpa using hf)
  rw [f49r3n4,f49r3n4L]
  simp only [decide_eq_true hk,cond_true,at_nat,hx,Option.bind_some,hw,ih]
theorem f49r3n4_run(bg1:List Qb)(ba2 ba3:List Qa)(bm4:List (Key_×Int))(v96:Int)(hm:bg1.length≤maxLen):f49r3n4 FUEL bg1 ba2 ba3 bm4 v96 0=f49r3n4L bg1 ba2 ba3 bm4 bg1 v96 0:=f49r3n4L_eq bg1 ba2 ba3 bm4 bg1 FUEL 0 v96 List.drop_zero hm (Qad hm)
inductive f49r3n3O where
 | norm (v120:Int)
 | ret
def f49r3n3E(bg1:List Qb)(ba2 ba3:List Qa)(bm4:List (Key_×Int)):f49r3n3O→Ex×Tr×Hp
 | .norm v120=>(.norm,mkS [(1,(jL 3 Qb.cells bg1)),(2,(.clo 50 [(.bp 1 0)])),(8,(.mp 3)),(11,(jI v120))],[jR 4 Qa.cells ba2,some (.box [(.own 2)]),jR 4 Qa.cells ba3,some (.map (bm4.map (mkv (pAgg Key_.cells) (pInt .i64))))])
 | .ret=>(.ret,mkS [(6,(jI 6))],[jR 4 Qa.cells ba2,some (.box [(.own 2)]),jR 4 Qa.cells ba3])
def f49r3n3S(bg1:List Qb)(ba2 ba3:List Qa)(bm4:List (Key_×Int)):Tr×Hp:=(mkS [(0,(.own 0)),(1,(jL 3 Qb.cells bg1)),(2,(.clo 50 [(.bp 1 0)])),(8,(.mp 3)),(11,(jI 0))],[jR 4 Qa.cells ba2,some (.box [(.own 2)]),jR 4 Qa.cells ba3,some (.map (bm4.map (mkv (pAgg Key_.cells) (pInt .i64))))])
noncomputable def f49r3n3(bg1:List Qb)(ba2 ba3:List Qa)(bm4:List (Key_×Int)):Option f49r3n3O :=
 (f49r3n4 FUEL bg1 ba2 ba3 bm4 0 0).bind fun o117=>match o117 with
 | .exit2 v119=>some (.norm v119)
 | .ret=>some .ret
theorem f49r3n3_ok(bg1:List Qb)(ba2 ba3:List Qa)(bm4:List (Key_×Int)){o:f49r3n3O}(h:(f49r3n3 bg1 ba2 ba3 bm4)=some o):T Try.prog Try.f49.ntmps 3 (cL (Qj 1 (Qj 1 (Qj 4 c49)))) (f49r3n3S bg1 ba2 ba3 bm4) (fun r=>r=f49r3n3E bg1 ba2 ba3 bm4 o):=by
 unfold f49r3n3 at h
 refine rN Qf 1 [([],[],[(1,.val (jI (bg1.length:Int)))])] [] [] [3] [0,1,2,8,11,39,40,41] (f49r3n4S bg1 ba2 ba3 bm4 0 0) (ap (Qp (xs:=bg1) (c:=Qb.cells)) an) ?_
 obtain ⟨o117,h118,h⟩:=Qd h
 cases o117 with
 | exit2 v119 =>
  obtain rfl:=Qe h
  exact T.last' (T.bl (i:=2) (by kernel_rfl) (by kernel_rfl) (f49r3n4_ok FUEL bg1 ba2 ba3 bm4 0 0 h118)) (tds:=[]) (m:=[3]) (keep:=[1,2,8,11]) (st2:=(f49r3n3E bg1 ba2 ba3 bm4 (.norm v119)).2) (by kernel_rfl) an rfl
 | ret =>
  obtain rfl:=Qe h
  exact T.last' (T.bl (i:=2) (by kernel_rfl) (by kernel_rfl) (f49r3n4_ok FUEL bg1 ba2 ba3 bm4 0 0 h118)) (tds:=[]) (m:=[]) (keep:=[6]) (st2:=(f49r3n3E bg1 ba2 ba3 bm4 .ret).2) (by kernel_rfl) an rfl
inductive f49r3n6O where
 | exit4 (v172:List Qa)
def f49r3n6E(bg1:List Qb)(ba2:List Qa)(bm4:List (Key_×Int)):f49r3n6O→Ex×Tr×Hp
 | .exit4 v172=>((.exit 4),mkS [],[jR 4 Qa.cells ba2,some (.box [(.own 2)]),jR 4 Qa.cells v172])
def f49r3n6S(bg1:List Qb)(ba2:List Qa)(bm4:List (Key_×Int))(v156:Int)(v157:List Qa):Tr×Hp:=(mkS [(2,(.clo 50 [(.bp 1 0)])),(8,(.mp 3)),(66,(jL 3 Qb.cells bg1)),(67,(jI (bg1.length:Int))),(68,(jI v156))],[jR 4 Qa.cells ba2,some (.box [(.own 2)]),jR 4 Qa.cells v157,some (.map (bm4.map (mkv (pAgg Key_.cells) (pInt .i64))))])
noncomputable def f49r3n6:Nat→List Qb→List Qa→List (Key_×Int)→Int→List Qa→Option f49r3n6O
 | 0,_,_,_,_,_=>none
 | f+1,bg1,ba2,bm4,v156,v157 =>
  bif (decide (v156<(bg1.length:Int))) then
   (at? bg1 v156).bind fun x166 =>
   (f39 x166).bind fun x168 =>
   (f50r1 (mGet Key_.eqb 0 x168 bm4) x166.Amount v157).bind fun x170 =>
   (f49r3n6 f bg1 ba2 bm4 (wr64 (v156+1)) x170)
  else
   some (.exit4 v157)
theorem f49r3n6_ok:∀(f:Nat)(bg1:List Qb)(ba2:List Qa)(bm4:List (Key_×Int))(v156:Int)(v157:List Qa){o:f49r3n6O},(f49r3n6 f bg1 ba2 bm4 v156 v157)=some o→TL Try.prog Try.f49.ntmps 3 f (cL (cL (Qj 1 (cL (Qj 1 (Qj 1 (Qj 1 (Qj 1 (Qj 4 c49))))))))) (f49r3n6S bg1 ba2 bm4 v156 v157) (fun r=>r=f49r3n6E bg1 ba2 bm4 o)
 | 0,_,_,_,_,_,o,h=>by rw [f49r3n6] at h; cases h
 | f+1,bg1,ba2,bm4,v156,v157,o,h=>by
  rw [f49r3n6] at h
  refine TL.body (K:=fun s=>∃v156:Int,∃v157:List Qa,s=(f49r3n6S bg1 ba2 bm4 v156 v157)∧(f49r3n6 f bg1 ba2 bm4 v156 v157)=some o) ?_ (by rintro _ ⟨v156,v157,rfl,hk⟩; exact f49r3n6_ok f _ _ _ _ _ hk)
  rcases Qh h with ⟨h159,h⟩|⟨h159,h⟩
  ·obtain ⟨x166,h167,h⟩:=Qd h
   obtain ⟨x168,h169,h⟩:=Qd h
   obtain ⟨x170,h171,h⟩:=Qd h
   exact rE Qf [j3,([],[(0,.idx (Int.toNat v156) (Qb.cells x166))],[]),([],[jH 3 (jA Key_.cells x168),(4,.look ((pInt .i64) (mGet Key_.eqb 0 x168 bm4)) (mHas Key_.eqb x168 bm4)),(7,.call (.tup []) [none,some (.box [(.own 2)]),jR 4 Qa.cells x170,none,none,none])],[]),j3] [some true] [] [3] [2,8,66,67,68] (.norm,(f49r3n6S bg1 ba2 bm4 (wr64 (v156+1)) x170)) (ap h159 (ap (Qg h167).1 (ap (Qm Qb.cells (Qg h167).2) (ap (look_map (vp:=(pInt .i64)) (e:=3) key_87 0 (by kernel_rfl) x168 bm4) (ap (f39_ok x166 h169) (ap (Ql.rn 6 [1,2] (f50r1_ok (mGet Key_.eqb 0 x168 bm4) x166.Amount v157 h171)) an)))))) (Qo.norm ⟨(wr64 (v156+1)),x170,rfl,h⟩)
  ·obtain rfl:=Qe h
   exact rK Qf 2 [j3] [some false] [] [] [] (.exit 4) ((f49r3n6E bg1 ba2 bm4 (.exit4 v157)).2) (ap h159 an) (Qo.out rfl rfl)
noncomputable def f49r3n6L(bg1:List Qb)(ba2:List Qa)(bm4:List (Key_×Int)):List Qb→Int→(List Qa)→Option f49r3n6O
 | [],v156,v157 =>
  some (.exit4 v157)
 | x0::rest,v156,v157 =>
  (f39 x0).bind fun x168 =>
  (f50r1 (mGet Key_.eqb 0 x168 bm4) x0.Amount v157).bind fun x170 =>
  (f49r3n6L bg1 ba2 bm4 rest (v156+1) x170)
theorem f49r3n6L_eq(bg1:List Qb)(ba2:List Qa)(bm4:List (Key_×Int)):∀(rest:List Qb)(f k:Nat)(v157:List Qa),bg1.drop k=rest→bg1.length≤maxLen→rest.length<f→f49r3n6 f bg1 ba2 bm4 (k:Int) v157=f49r3n6L bg1 ba2 bm4 rest (k:Int) v157
 | _,0,_,_,_,_,hf=>absurd hf (Nat.not_lt_zero _)
 | [],f+1,k,v157,hd,hm,hf=>by
  have hk:¬((k:Int)<(bg1.length:Int)):=by have:=Qaq hd; omega
  rw [f49r3n6,f49r3n6L]
  simp only [decide_eq_false hk,cond_false]
 | x0::rest,f+1,k,v157,hd,hm,hf=>by
  obtain ⟨hx,hlt,hd'⟩:=Qag hd
  have hk:(k:Int)<(bg1.length:Int):=by omega
  have hw:wr64 ((k:Int)+1)=(k:Int)+1:=Qbw (by omega) (by unfold maxLen at hm; omega)
  have ih:∀(v157:List Qa),f49r3n6 f bg1 ba2 bm4 ((k:Int)+1) v157=f49r3n6L bg1 ba2 bm4 rest ((k:Int)+1) v157:=fun v157=>f49r3n6L_eq bg1 ba2 bm4 rest f (k+1) v157 hd' hm (by simpa using hf)
  rw [f49r3n6,f49r3n6L]
  simp only [decide_eq_true hk,cond_true,at_nat,hx,Option.bind_some,hw,ih]
theorem f49r3n6_run(bg1:List Qb)(ba2:List Qa)(bm4:List (Key_×Int))(v157:List Qa)(hm:bg1.length≤maxLen):f49r3n6 FUEL bg1 ba2 bm4 0 v157=f49r3n6L bg1 ba2 bm4 bg1 0 v157:=f49r3n6L_eq bg1 ba2 bm4 bg1 FUEL 0 v157 List.drop_zero hm (Qad hm)
inductive f49r3n5O where
 | norm (v176:List Qa)
def f49r3n5E(bg1:List Qb)(ba2 ba3:List Qa)(bm4:List (Key_×Int)):f49r3n5O→Ex×Tr×Hp
 | .norm v176=>(.norm,mkS [],[jR 4 Qa.cells ba2,some (.box [(.own 2)]),jR 4 Qa.cells v176])
def f49r3n5S(bg1:List Qb)(ba2 ba3:List Qa)(bm4:List (Key_×Int)):Tr×Hp:=(mkS [(1,(jL 3 Qb.cells bg1)),(2,(.clo 50 [(.bp 1 0)])),(8,(.mp 3))],[jR 4 Qa.cells ba2,some (.box [(.own 2)]),jR 4 Qa.cells ba3,some (.map (bm4.map (mkv (pAgg Key_.cells) (pInt .i64))))])
noncomputable def f49r3n5(bg1:List Qb)(ba2 ba3:List Qa)(bm4:List (Key_×Int)):Option f49r3n5O :=
 (f49r3n6 FUEL bg1 ba2 bm4 0 ba3).bind fun o173=>match o173 with
 | .exit4 v175=>some (.norm v175)
theorem f49r3n5_ok(bg1:List Qb)(ba2 ba3:List Qa)(bm4:List (Key_×Int)){o:f49r3n5O}(h:(f49r3n5 bg1 ba2 ba3 bm4)=some o):T Try.prog Try.f49.ntmps 3 (cL (Qj 1 (Qj 1 (Qj 1 (Qj 1 (Qj 4 c49)))))) (f49r3n5S bg1 ba2 ba3 bm4) (fun r=>r=f49r3n5E bg1 ba2 ba3 bm4 o):=by
 unfold f49r3n5 at h
 refine rN Qf 1 [([],[],[(1,.val (jI (bg1.length:Int)))])] [] [] [3] [2,8,66,67,68] (f49r3n6S bg1 ba2 bm4 0 ba3) (ap (Qp (xs:=bg1) (c:=Qb.cells)) an) ?_
 obtain ⟨o173,h174,h⟩:=Qd h
 cases o173 with
 | exit4 v175 =>
  obtain rfl:=Qe h
  exact T.last' (T.bl (i:=4) (by kernel_rfl) (by kernel_rfl) (f49r3n6_ok FUEL bg1 ba2 bm4 0 ba3 h174)) (tds:=[]) (m:=[]) (keep:=[]) (st2:=(f49r3n5E bg1 ba2 ba3 bm4 (.norm v175)).2) (by kernel_rfl) an rfl
inductive f49r3n0O where
 | ret (v180:Int) (v181:List Qa)
def f49r3n0E(a1:List Qb)(a2 a3:List Qa):f49r3n0O→Ex×Tr×Hp
 | .ret v180 v181=>(.ret,mkS [(6,(jI v180))],[jR 4 Qa.cells a2,some (.box [(.own 2)]),jR 4 Qa.cells v181])
def f49r3n0S(a1:List Qb)(a2 a3:List Qa):Tr×Hp:=(Qy [(.own 0),(jL 3 Qb.cells a1),(.clo 50 [(.bp 1 0)])] 0 .leaf,[jR 4 Qa.cells a2,some (.box [(.own 2)]),jR 4 Qa.cells a3])
noncomputable def f49r3n0(a1:List Qb)(a2 a3:List Qa):Option f49r3n0O :=
 (f23 a2).bind fun x7 =>
 bif (decide (x7=0)) then
  (f38_39_40 a1 1).bind fun x13 =>
  bif x13 then
   (f49r3n1 a1 a2 a3).bind fun o55=>match o55 with
   | .norm v57=>(f49r3n3 a1 a2 a3 v57).bind fun o121=>match o121 with
    | .norm v123=>bif (decide (v123=0)) then
      (f49r3n5 a1 a2 a3 v57).bind fun o177=>match o177 with
      | .norm v179=>some (.ret 0 v179)
     else
      some (.ret v123 a3)
    | .ret=>some (.ret 6 a3)
  else
   some (.ret 2 a3)
 else
  some (.ret x7 a3)
theorem f49r3n0_ok(a1:List Qb)(a2 a3:List Qa){o:f49r3n0O}(h:(f49r3n0 a1 a2 a3)=some o):T Try.prog Try.f49.ntmps 3 c49 (f49r3n0S a1 a2 a3) (fun r=>r=f49r3n0E a1 a2 a3 o):=by
 unfold f49r3n0 at h
 obtain ⟨x7,h8,h⟩:=Qd h
 rcases Qh h with ⟨h9,h⟩|⟨h9,h⟩
 ·obtain ⟨x13,h14,h⟩:=Qd h
  rcases Qh h with ⟨h15,h⟩|⟨h15,h⟩
  ·refine rN Qf 4 [j3,([],[jH 1 (jI x7)],[]),j3,([],[jH 1 (jB x13)],[]),j3] [some false,some false] [] [3] [0,1,2,8] (f49r3n1S a1 a2 a3) (ap (f23_ok a2 h8) (ap (Qr h9) (ap (Qbp a1 1 h14) (ap (Qr h15) an)))) ?_
   obtain ⟨o55,h56,h⟩:=Qd h
   cases o55 with
   | norm v57 =>
    refine T.oneN (by kernel_rfl) (f49r3n1_ok a1 a2 a3 h56) (st2:=(f49r3n1E a1 a2 a3 (.norm v57)).2) rfl ?_
    refine rN Qf 1 [j3] [] [] [3] [0,1,2,8,11] (f49r3n3S a1 a2 a3 v57) an ?_
    obtain ⟨o121,h122,h⟩:=Qd h
    cases o121 with
    | norm v123 =>
     refine T.oneN (by kernel_rfl) (f49r3n3_ok a1 a2 a3 v57 h122) (st2:=(f49r3n3E a1 a2 a3 v57 (.norm v123)).2) rfl ?_
     rcases Qh h with ⟨h125,h⟩|⟨h125,h⟩
     ·refine rN Qf 1 [j3] [some false] [] [3] [1,2,8] (f49r3n5S a1 a2 a3 v57) (ap (Qr h125) an) ?_
      obtain ⟨o177,h178,h⟩:=Qd h
      cases o177 with
      | norm v179 =>
       refine T.oneN (by kernel_rfl) (f49r3n5_ok a1 a2 a3 v57 h178) (st2:=(f49r3n5E a1 a2 a3 v57 (.norm v179)).2) rfl ?_
       obtain rfl:=Qe h
       exact rE Qf [j3] [] [] [] [6] (.ret,(f49r3n0E a1 a2 a3 (.ret 0 v179)).2) an rfl
     ·obtain rfl:=Qe h
      exact rK Qf 1 [j3,j3] [some true] [] [] [6] .ret ((f49r3n0E a1 a2 a3 (.ret v123 a3)).2) (ap (Qac h125) an) rfl
    | ret =>
     obtain rfl:=Qe h
     exact T.oneX' (by kernel_rfl) (f49r3n3_ok a1 a2 a3 v57 h122) (tds:=[]) (m:=[]) (keep:=[6]) (st2:=(f49r3n0E a1 a2 a3 (.ret 6 a3)).2) (by kernel_rfl) an rfl rfl
  ·obtain rfl:=Qe h
   exact rK Qf 3 [j3,([],[jH 1 (jI x7)],[]),j3,([],[jH 1 (jB x13)],[]),j3] [some false,some true] [] [] [6] .ret ((f49r3n0E a1 a2 a3 (.ret 2 a3)).2) (ap (f23_ok a2 h8) (ap (Qr h9) (ap (Qbp a1 1 h14) (ap (Qac h15) an)))) rfl
 ·obtain rfl:=Qe h
  exact rK Qf 2 [j3,([],[jH 1 (jI x7)],[]),j3,j3] [some true] [] [] [6] .ret ((f49r3n0E a1 a2 a3 (.ret x7 a3)).2) (ap (f23_ok a2 h8) (ap (Qac h9) an)) rfl
noncomputable def f49r3(a1:List Qb)(a2 a3:List Qa):Option (Int×(List Qa)):=(f49r3n0 a1 a2 a3).bind fun o=>match o with
 | .ret v180 v181=>some (v180,v181)
theorem f49r3_ok(a1:List Qb)(a2 a3:List Qa){r:Int×(List Qa)}(h:(f49r3 a1 a2 a3)=some r):Ql Try.prog true 49 [(.own 0),(jL 3 Qb.cells a1),(.clo 50 [(.bp 1 0)])] [jR 4 Qa.cells a2,some (.box [(.own 2)]),jR 4 Qa.cells a3] (jI r.1) [jR 4 Qa.cells a2,some (.box [(.own 2)]),jR 4 Qa.cells r.2]:=by
 unfold f49r3 at h
 obtain ⟨o,ho,h⟩:=Qd h
 cases o with
 | ret v180 v181 =>
  obtain rfl:=Qe h
  exact Ql.shared Qf (f:=Try.f49) (c:=c49) (by kernel_rfl) (by kernel_rfl) (by kernel_rfl) ((f49r3n0_ok a1 a2 a3 ho).mono fun r e=>by subst e; exact ⟨.inl rfl,by kernel_rfl,by kernel_rfl⟩)
end Go.Proofs.Ytgbolgaodaokcaa
namespace Go.Proofs.Ytgbolgaodaokcaa
set_option linter.unusedVariables false
set_option linter.unusedSimpArgs false
set_option maxRecDepth 100000
open Go.RowKit
inductive f26r2n0O where
 | ret (v13:Int) (v14:List Qa)
def f26r2n0E(a1:List Qb)(a2:List Qa):f26r2n0O→Ex×Tr×Hp
 | .ret v13 v14=>(.ret,mkS [(4,(.own 1)),(5,(jI v13))],[jR 4 Qa.cells a2,jR 4 Qa.cells v14])
def f26r2n0S(a1:List Qb)(a2:List Qa):Tr×Hp:=(Qy [(.own 0),(jL 3 Qb.cells a1)] 0 .leaf,[jR 4 Qa.cells a2])
noncomputable def f26r2n0(a1:List Qb)(a2:List Qa):Option f26r2n0O :=
 (f48r1 a2).bind fun x5 =>
 (f49r3 a1 a2 x5).bind fun x10 =>
 bif (decide (x10.1=0)) then
  some (.ret 0 x10.2)
 else
  some (.ret x10.1 [])
theorem f26r2n0_ok(a1:List Qb)(a2:List Qa){o:f26r2n0O}(h:(f26r2n0 a1 a2)=some o):T Try.prog Try.f26.ntmps 1 c26 (f26r2n0S a1 a2) (fun r=>r=f26r2n0E a1 a2 o):=by
 unfold f26r2n0 at h
 obtain ⟨x5,h6,h⟩:=Qd h
 obtain ⟨x10,h11,h⟩:=Qd h
 rcases Qh h with ⟨h12,h⟩|⟨h12,h⟩
 ·obtain rfl:=Qe h
  exact rE Qf [j3,([],[(1,.call (.own 1) [jR 4 Qa.cells a2,jR 4 Qa.cells x5])],[]),([],[(3,.call (jI x10.1) [jR 4 Qa.cells a2,jR 4 Qa.cells x10.2,some (.box [(.own 1)])])],[]),j3,j3] [some false] [] [1] [4,5] (.ret,(f26r2n0E a1 a2 (.ret 0 x10.2)).2) (ap (f48r1_ok a2 h6) (ap (Ql.rn 3 [0,2,1] (f49r3_ok a1 a2 x5 h11)) (ap (Qr h12) an))) rfl
 ·obtain rfl:=Qe h
  exact rK Qf 3 [j3,([],[(1,.call (.own 1) [jR 4 Qa.cells a2,jR 4 Qa.cells x5])],[]),([],[(3,.call (jI x10.1) [jR 4 Qa.cells a2,jR 4 Qa.cells x10.2,some (.box [(.own 1)])])],[]),j3,j3] [some true] [.mat 4 4] [3] [4,5] .ret ((f26r2n0E a1 a2 (.ret x10.1 [])).2) (ap (f48r1_ok a2 h6) (ap (Ql.rn 3 [0,2,1] (f49r3_ok a1 a2 x5 h11)) (ap (Qac h12) an))) rfl
noncomputable def f26r2(a1:List Qb)(a2:List Qa):Option (Int×(List Qa)):=(f26r2n0 a1 a2).bind fun o=>match o with
 | .ret v13 v14=>some (v13,v14)
theorem f26r2_ok(a1:List Qb)(a2:List Qa){r:Int×(List Qa)}(h:(f26r2 a1 a2)=some r):Ql Try.prog true 26 [(.own 0),(jL 3 Qb.cells a1)] [jR 4 Qa.cells a2] (.tup [(.own 1),(jI r.1)]) [jR 4 Qa.cells a2,jR 4 Qa.cells r.2]:=by
 unfold f26r2 at h
 obtain ⟨o,ho,h⟩:=Qd h
 cases o with
 | ret v13 v14 =>
  obtain rfl:=Qe h
  exact Ql.shared Qf (f:=Try.f26) (c:=c26) (by kernel_rfl) (by kernel_rfl) (by kernel_rfl) ((f26r2n0_ok a1 a2 ho).mono fun r e=>by subst e; exact ⟨.inl rfl,by kernel_rfl,by kernel_rfl⟩)

noncomputable def c10:Code:=Try.f10.body.getD .skip
inductive f10n2O where
 | norm (v78:Bool)
def f10n2E(ba1:List Qa)(bh2:Bool)(bi3:(List Qb)×Int×Int)(bq4:Int×Int)(bo5:Int×(List Qa))(bq6 bq7:Int×Int)(bj8:Int×Bool):f10n2O→Ex×Tr×Hp
 | .norm v78=>(.norm,mkS [(0,(jL 4 Qa.cells ba1)),(5,(jB bh2)),(6,(jL 3 Qb.cells bi3.1)),(11,(.own 0)),(15,(jI bq7.1)),(17,(jI bj8.1)),(108,(jB v78))],[jR 4 Qa.cells bo5.2])
def f10n2S(ba1:List Qa)(bh2:Bool)(bi3:(List Qb)×Int×Int)(bq4:Int×Int)(bo5:Int×(List Qa))(bq6 bq7:Int×Int)(bj8:Int×Bool):Tr×Hp:=(mkS [(0,(jL 4 Qa.cells ba1)),(5,(jB bh2)),(6,(jL 3 Qb.cells bi3.1)),(7,(jI bi3.2.1)),(9,(jI bq4.1)),(10,(jI bq4.2)),(11,(.own 0)),(12,(jI bo5.1)),(13,(jI bq6.1)),(14,(jI bq6.2)),(15,(jI bq7.1)),(16,(jI bq7.2)),(17,(jI bj8.1)),(18,(jB bj8.2))],[jR 4 Qa.cells bo5.2])
noncomputable def f10n2(ba1:List Qa)(bh2:Bool)(bi3:(List Qb)×Int×Int)(bq4:Int×Int)(bo5:Int×(List Qa))(bq6 bq7:Int×Int)(bj8:Int×Bool):Option f10n2O :=
 bif (decide (bq4.2=0)) then
  bif (decide (bo5.1=0)) then
   bif (decide (bq6.2=0)) then
    bif (decide (bq7.2=0)) then
     bif bj8.2 then
      bif (decide (bq6.1=(wr64 (bq4.1-bj8.1)))) then
       bif (decide ((bo5.2.length:Int)=(ba1.length:Int))) then
        bif (decide (0<bi3.2.1)) then
         some (.norm (!(decide (bq6.1=0))))
        else
         some (.norm false)
       else
        some (.norm true)
      else
       some (.norm true)
     else
      some (.norm true)
    else
     some (.norm true)
   else
    some (.norm true)
  else
   some (.norm true)
 else
  some (.norm true)
theorem f10n2_ok(ba1:List Qa)(bh2:Bool)(bi3:(List Qb)×Int×Int)(bq4:Int×Int)(bo5:Int×(List Qa))(bq6 bq7:Int×Int)(bj8:Int×Bool){o:f10n2O}(h:(f10n2 ba1 bh2 bi3 bq4 bo5 bq6 bq7 bj8)=some o):T Try.prog Try.f10.ntmps 0 (cL (Qj 0 (cL (Qj 1 (Qj 4 (Qj 5 c10)))))) (f10n2S ba1 bh2 bi3 bq4 bo5 bq6 bq7 bj8) (fun r=>r=f10n2E ba1 bh2 bi3 bq4 bo5 bq6 bq7 bj8 o):=by
 unfold f10n2 at h
 rcases Qh h with ⟨h70,h⟩|⟨h70,h⟩
 ·rcases Qh h with ⟨h71,h⟩|⟨h71,h⟩
  ·rcases Qh h with ⟨h72,h⟩|⟨h72,h⟩
   ·rcases Qh h with ⟨h73,h⟩|⟨h73,h⟩
    ·rcases Qh h with ⟨h74,h⟩|⟨h74,h⟩
     ·rcases Qh h with ⟨h75,h⟩|⟨h75,h⟩
      ·rcases Qh h with ⟨h76,h⟩|⟨h76,h⟩
       ·rcases Qh h with ⟨h77,h⟩|⟨h77,h⟩
        ·obtain rfl:=Qe h
         exact rE Qf [(jF [3,4,7,8,11,12,15,16,19,20,21,22,23,26,27,28,29,30,33,34,35,38]++jT [36,37],[(5,.bool false),(9,.bool false),(13,.bool false),(17,.bool false),(24,.bool false),(31,.bool false),(38,.bool true),(39,.bool false)],[(27,.val (jI (bo5.2.length:Int))),(29,.val (jI (ba1.length:Int)))])] [] [] [0] [0,5,6,11,15,17,108] (.norm,(f10n2E ba1 bh2 bi3 bq4 bo5 bq6 bq7 bj8 (.norm (!(decide (bq6.1=0))))).2) (ap3 (Qr h70) (ap3 (Qr h71) (ap3 (Qr h72) (ap3 (Qr h73) (ap2 (Qr h74) (ap4 (Qr h74) (ap2 (Qr h75) (ap (Qp (xs:=bo5.2) (c:=Qa.cells)) (ap2 (Qr h75) (ap (Qp (xs:=ba1) (c:=Qa.cells)) (ap2 (Qr h75) (ap3 (Qr h76) (ap2 h77 (ap (Qr h76) (ap h77 (ap (Qr h76) an)))))))))))))))) rfl
        ·obtain rfl:=Qe h
         exact rE Qf [(jF [3,4,7,8,11,12,15,16,19,20,21,22,23,26,27,28,29,30,33,34,35,36,37,38],[(5,.bool false),(9,.bool false),(13,.bool false),(17,.bool false),(24,.bool false),(31,.bool false),(38,.bool false),(39,.bool false)],[(27,.val (jI (bo5.2.length:Int))),(29,.val (jI (ba1.length:Int)))])] [] [] [0] [0,5,6,11,15,17,108] (.norm,(f10n2E ba1 bh2 bi3 bq4 bo5 bq6 bq7 bj8 (.norm false)).2) (ap3 (Qr h70) (ap3 (Qr h71) (ap3 (Qr h72) (ap3 (Qr h73) (ap2 (Qr h74) (ap4 (Qr h74) (ap2 (Qr h75) (ap (Qp (xs:=bo5.2) (c:=Qa.cells)) (ap2 (Qr h75) (ap (Qp (xs:=ba1) (c:=Qa.cells)) (ap2 (Qr h75) (ap3 (Qr h76) (ap2 h77 (ap (Qr h76) (ap h77 (ap (Qr h76) an)))))))))))))))) rfl
       ·obtain rfl:=Qe h
        exact rE Qf [(jF [3,4,7,8,11,12,15,16,19,20,21,22,23,26,27,28,29,30]++jT [33,34,35,38],[(5,.bool false),(9,.bool false),(13,.bool false),(17,.bool false),(24,.bool false),(31,.bool false),(39,.bool true)],[(27,.val (jI (bo5.2.length:Int))),(29,.val (jI (ba1.length:Int)))])] [] [] [0] [0,5,6,11,15,17,108] (.norm,(f10n2E ba1 bh2 bi3 bq4 bo5 bq6 bq7 bj8 (.norm true)).2) (ap3 (Qr h70) (ap3 (Qr h71) (ap3 (Qr h72) (ap3 (Qr h73) (ap2 (Qr h74) (ap4 (Qr h74) (ap2 (Qr h75) (ap (Qp (xs:=bo5.2) (c:=Qa.cells)) (ap2 (Qr h75) (ap (Qp (xs:=ba1) (c:=Qa.cells)) (ap2 (Qr h75) (ap (Qac h76) (ap4 (Qac h76) an))))))))))))) rfl
      ·obtain rfl:=Qe h
       exact rE Qf [(jF [3,4,7,8,11,12,15,16,19,20,21,22,23]++jT [26,27,28,29,30],[(5,.bool false),(9,.bool false),(13,.bool false),(17,.bool false),(24,.bool false),(31,.bool true)],[])] [] [] [0] [0,5,6,11,15,17,108] (.norm,(f10n2E ba1 bh2 bi3 bq4 bo5 bq6 bq7 bj8 (.norm true)).2) (ap3 (Qr h70) (ap3 (Qr h71) (ap3 (Qr h72) (ap3 (Qr h73) (ap2 (Qr h74) (ap4 (Qr h74) (ap2 (Qac h75) (ap4 (Qac h75) an)))))))) rfl
     ·obtain rfl:=Qe h
      exact rE Qf [(jF [3,4,7,8,11,12,15,16]++jT [19,20,21,22,23],[(5,.bool false),(9,.bool false),(13,.bool false),(17,.bool false),(24,.bool true)],[])] [] [] [0] [0,5,6,11,15,17,108] (.norm,(f10n2E ba1 bh2 bi3 bq4 bo5 bq6 bq7 bj8 (.norm true)).2) (ap3 (Qr h70) (ap3 (Qr h71) (ap3 (Qr h72) (ap3 (Qr h73) (ap2 (Qac h74) (ap4 (Qac h74) an)))))) rfl
    ·obtain rfl:=Qe h
     exact rE Qf [(jF [3,4,7,8,11,12]++jT [15,16],[(5,.bool false),(9,.bool false),(13,.bool false),(17,.bool true)],[])] [] [] [0] [0,5,6,11,15,17,108] (.norm,(f10n2E ba1 bh2 bi3 bq4 bo5 bq6 bq7 bj8 (.norm true)).2) (ap3 (Qr h70) (ap3 (Qr h71) (ap3 (Qr h72) (ap3 (Qac h73) an)))) rfl
   ·obtain rfl:=Qe h
    exact rE Qf [(jF [3,4,7,8]++jT [11,12],[(5,.bool false),(9,.bool false),(13,.bool true)],[])] [] [] [0] [0,5,6,11,15,17,108] (.norm,(f10n2E ba1 bh2 bi3 bq4 bo5 bq6 bq7 bj8 (.norm true)).2) (ap3 (Qr h70) (ap3 (Qr h71) (ap3 (Qac h72) an))) rfl
  ·obtain rfl:=Qe h
   exact rE Qf [(jF [3,4]++jT [7,8],[(5,.bool false),(9,.bool true)],[])] [] [] [0] [0,5,6,11,15,17,108] (.norm,(f10n2E ba1 bh2 bi3 bq4 bo5 bq6 bq7 bj8 (.norm true)).2) (ap3 (Qr h70) (ap3 (Qac h71) an)) rfl
 ·obtain rfl:=Qe h
  exact rE Qf [([(3,true),(4,true)],[(5,.bool true)],[])] [] [] [0] [0,5,6,11,15,17,108] (.norm,(f10n2E ba1 bh2 bi3 bq4 bo5 bq6 bq7 bj8 (.norm true)).2) (ap3 (Qac h70) an) rfl
inductive f10n1O where
 | norm
 | ret
def f10n1E(ba1:List Qa)(bh2:Bool)(bi3:(List Qb)×Int×Int)(bq4:Int×Int)(bo5:Int×(List Qa))(bq6 bq7:Int×Int)(bj8:Int×Bool):f10n1O→Ex×Tr×Hp
 | .norm=>(.norm,mkS [(0,(jL 4 Qa.cells ba1)),(5,(jB bh2)),(6,(jL 3 Qb.cells bi3.1)),(11,(.own 0)),(15,(jI bq7.1)),(17,(jI bj8.1))],[jR 4 Qa.cells bo5.2])
 | .ret=>(.ret,mkS [(4,(jB false))],[])
def f10n1S(ba1:List Qa)(bh2:Bool)(bi3:(List Qb)×Int×Int)(bq4:Int×Int)(bo5:Int×(List Qa))(bq6 bq7:Int×Int)(bj8:Int×Bool):Tr×Hp:=(mkS [(0,(jL 4 Qa.cells ba1)),(5,(jB bh2)),(6,(jL 3 Qb.cells bi3.1)),(7,(jI bi3.2.1)),(9,(jI bq4.1)),(10,(jI bq4.2)),(11,(.own 0)),(12,(jI bo5.1)),(13,(jI bq6.1)),(14,(jI bq6.2)),(15,(jI bq7.1)),(16,(jI bq7.2)),(17,(jI bj8.1)),(18,(jB bj8.2))],[jR 4 Qa.cells bo5.2])
noncomputable def f10n1(ba1:List Qa)(bh2:Bool)(bi3:(List Qb)×Int×Int)(bq4:Int×Int)(bo5:Int×(List Qa))(bq6 bq7:Int×Int)(bj8:Int×Bool):Option f10n1O :=
 (f10n2 ba1 bh2 bi3 bq4 bo5 bq6 bq7 bj8).bind fun o79=>match o79 with
 | .norm v81=>bif v81 then
   some .ret
  else
   some .norm
theorem f10n1_ok(ba1:List Qa)(bh2:Bool)(bi3:(List Qb)×Int×Int)(bq4:Int×Int)(bo5:Int×(List Qa))(bq6 bq7:Int×Int)(bj8:Int×Bool){o:f10n1O}(h:(f10n1 ba1 bh2 bi3 bq4 bo5 bq6 bq7 bj8)=some o):T Try.prog Try.f10.ntmps 0 (cL (Qj 1 (Qj 4 (Qj 5 c10)))) (f10n1S ba1 bh2 bi3 bq4 bo5 bq6 bq7 bj8) (fun r=>r=f10n1E ba1 bh2 bi3 bq4 bo5 bq6 bq7 bj8 o):=by
 unfold f10n1 at h
 refine rN Qf 0 [] [] [] [0] [0,5,6,7,9,10,11,12,13,14,15,16,17,18] (f10n2S ba1 bh2 bi3 bq4 bo5 bq6 bq7 bj8) an ?_
 obtain ⟨o79,h80,h⟩:=Qd h
 cases o79 with
 | norm v81 =>
  refine T.oneN (by kernel_rfl) (f10n2_ok ba1 bh2 bi3 bq4 bo5 bq6 bq7 bj8 h80) (st2:=(f10n2E ba1 bh2 bi3 bq4 bo5 bq6 bq7 bj8 (.norm v81)).2) rfl ?_
  rcases Qh h with ⟨h83,h⟩|⟨h83,h⟩
  ·obtain rfl:=Qe h
   exact rE Qf [j3] [some true] [] [] [4] (.ret,(f10n1E ba1 bh2 bi3 bq4 bo5 bq6 bq7 bj8 .ret).2) (ap h83 an) rfl
  ·obtain rfl:=Qe h
   exact rE Qf [] [some false] [] [0] [0,5,6,11,15,17] (.norm,(f10n1E ba1 bh2 bi3 bq4 bo5 bq6 bq7 bj8 .norm).2) (ap h83 an) rfl
inductive f10n4O where
 | exit0 (v162:Int)
 | ret
def f10n4E(ba1:List Qa)(bh2:Bool)(bi3:(List Qb)×Int×Int)(bq4:Int×Int)(bj5:Int×Bool)(bo6:Int×(List Qa)):f10n4O→Ex×Tr×Hp
 | .exit0 v162=>((.exit 0),mkS [(5,(jB bh2)),(15,(jI bq4.1)),(17,(jI bj5.1)),(19,(jI v162))],[])
 | .ret=>(.ret,mkS [(4,(jB false))],[])
def f10n4S(ba1:List Qa)(bh2:Bool)(bi3:(List Qb)×Int×Int)(bq4:Int×Int)(bj5:Int×Bool)(bo6:Int×(List Qa))(v136 v137:Int):Tr×Hp:=(mkS [(0,(jL 4 Qa.cells ba1)),(5,(jB bh2)),(6,(jL 3 Qb.cells bi3.1)),(11,(.own 0)),(15,(jI bq4.1)),(17,(jI bj5.1)),(19,(jI v136)),(20,(jI v137))],[jR 4 Qa.cells bo6.2])
noncomputable def f10n4:Nat→List Qa→Bool→(List Qb)×Int×Int→Int×Int→Int×Bool→Int×(List Qa)→Int→Int→Option f10n4O
 | 0,_,_,_,_,_,_,_,_=>none
 | f+1,ba1,bh2,bi3,bq4,bj5,bo6,v136,v137 =>
  bif (decide (v137<(ba1.length:Int))) then
   (at? ba1 v137).bind fun x151 =>
   (f15 bi3.1 x151).bind fun x153 =>
   bif x151.Called then
    (at? bo6.2 v137).bind fun x156 =>
    bif (Qa.eqb x156 (Qa.mk x151.Level x151.Owner (wr64 (x151.Size-x153)) x151.Called)) then
     (f10n4 f ba1 bh2 bi3 bq4 bj5 bo6 v136 (wr64 (v137+1)))
    else
     some .ret
   else
    (at? bo6.2 v137).bind fun x159 =>
    bif (Qa.eqb x159 (Qa.mk x151.Level x151.Owner (wr64 (x151.Size-x153)) x151.Called)) then
     (f10n4 f ba1 bh2 bi3 bq4 bj5 bo6 (wr64 (v136+x153)) (wr64 (v137+1)))
    else
     some .ret
  else
   some (.exit0 v136)
theorem f10n4_ok:∀(f:Nat)(ba1:List Qa)(bh2:Bool)(bi3:(List Qb)×Int×Int)(bq4:Int×Int)(bj5:Int×Bool)(bo6:Int×(List Qa))(v136 v137:Int){o:f10n4O},(f10n4 f ba1 bh2 bi3 bq4 bj5 bo6 v136 v137)=some o→TL Try.prog Try.f10.ntmps 0 f (cL (cL (Qj 1 (cL (Qj 1 (Qj 1 (Qj 1 (Qj 4 (Qj 5 c10))))))))) (f10n4S ba1 bh2 bi3 bq4 bj5 bo6 v136 v137) (fun r=>r=f10n4E ba1 bh2 bi3 bq4 bj5 bo6 o)
 | 0,_,_,_,_,_,_,_,_,o,h=>by rw [f10n4] at h; cases h
 | f+1,ba1,bh2,bi3,bq4,bj5,bo6,v136,v137,o,h=>by
  rw [f10n4] at h
  refine TL.body (K:=fun s=>∃v136:Int,∃v137:Int,s=(f10n4S ba1 bh2 bi3 bq4 bj5 bo6 v136 v137)∧(f10n4 f ba1 bh2 bi3 bq4 bj5 bo6 v136 v137)=some o) ?_ (by rintro _ ⟨v136,v137,rfl,hk⟩; exact f10n4_ok f _ _ _ _ _ _ _ _ hk)
  rcases Qh h with ⟨h139,h⟩|⟨h139,h⟩
  ·obtain ⟨x151,h152,h⟩:=Qd h
   obtain ⟨x153,h154,h⟩:=Qd h
   rcases Qh h with ⟨h155,h⟩|⟨h155,h⟩
   ·obtain ⟨x156,h157,h⟩:=Qd h
    rcases Qh h with ⟨h158,h⟩|⟨h158,h⟩
    ·exact rE Qf [([],[],[(2,.val (jI (ba1.length:Int)))]),([],[(3,.idx (Int.toNat v137) (Qa.cells x151)),jH 5 (jI x153)],[]),([],[(2,.idx (Int.toNat v137) (Qa.cells x151))],[]),([],[(2,.idx (Int.toNat v137) (Qa.cells x151))],[]),j3,([],[(2,.at_ (Int.toNat v137)),(3,.idx 0 (Qa.cells x156)),(5,.bool (Qa.eqb x156 (Qa.mk x151.Level x151.Owner (wr64 (x151.Size-x153)) x151.Called)))],[]),j3] [some true,some false,some false] [] [0] [0,5,6,11,15,17,19,20] (.norm,(f10n4S ba1 bh2 bi3 bq4 bj5 bo6 v136 (wr64 (v137+1)))) (ap (Qp (xs:=ba1) (c:=Qa.cells)) (ap h139 (ap (Qg h152).1 (ap (Qm Qa.cells (Qg h152).2) (ap (f15_ok bi3.1 x151 h154) (ap (Qg h152).1 (ap (Qm Qa.cells (Qg h152).2) (ap (Qr h155) (ap (Qg h152).1 (ap (Qm Qa.cells (Qg h152).2) (ap (Qg h157).1 (ap (Qs Qa.cells (Qg h157).2) (ap (Qm Qa.cells (Qg h157).2) (ap (Qa.eqb_ok x156 (Qa.mk x151.Level x151.Owner (wr64 (x151.Size-x153)) x151.Called)) (ap (Qr h158) an))))))))))))))) (Qo.norm ⟨v136,(wr64 (v137+1)),rfl,h⟩)
    ·obtain rfl:=Qe h
     exact rK Qf 2 [([],[],[(2,.val (jI (ba1.length:Int)))]),([],[(3,.idx (Int.toNat v137) (Qa.cells x151)),jH 5 (jI x153)],[]),([],[(2,.idx (Int.toNat v137) (Qa.cells x151))],[]),([],[(2,.idx (Int.toNat v137) (Qa.cells x151))],[]),j3,([],[(2,.at_ (Int.toNat v137)),(3,.idx 0 (Qa.cells x156)),(5,.bool (Qa.eqb x156 (Qa.mk x151.Level x151.Owner (wr64 (x151.Size-x153)) x151.Called)))],[]),j3] [some true,some false,some true] [] [] [4] .ret ((f10n4E ba1 bh2 bi3 bq4 bj5 bo6 .ret).2) (ap (Qp (xs:=ba1) (c:=Qa.cells)) (ap h139 (ap (Qg h152).1 (ap (Qm Qa.cells (Qg h152).2) (ap (f15_ok bi3.1 x151 h154) (ap (Qg h152).1 (ap (Qm Qa.cells (Qg h152).2) (ap (Qr h155) (ap (Qg h152).1 (ap (Qm Qa.cells (Qg h152).2) (ap (Qg h157).1 (ap (Qs Qa.cells (Qg h157).2) (ap (Qm Qa.cells (Qg h157).2) (ap (Qa.eqb_ok x156 (Qa.mk x151.Level x151.Owner (wr64 (x151.Size-x153)) x151.Called)) (ap (Qac h158) an))))))))))))))) (Qo.out rfl rfl)
   ·obtain ⟨x159,h160,h⟩:=Qd h
    rcases Qh h with ⟨h161,h⟩|⟨h161,h⟩
    ·exact rE Qf [([],[],[(2,.val (jI (ba1.length:Int)))]),([],[(3,.idx (Int.toNat v137) (Qa.cells x151)),jH 5 (jI x153)],[]),([],[(2,.idx (Int.toNat v137) (Qa.cells x151))],[]),j3,([],[(2,.idx (Int.toNat v137) (Qa.cells x151))],[]),j3,([],[(2,.at_ (Int.toNat v137)),(3,.idx 0 (Qa.cells x159)),(5,.bool (Qa.eqb x159 (Qa.mk x151.Level x151.Owner (wr64 (x151.Size-x153)) x151.Called)))],[]),j3] [some true,some true,some false] [] [0] [0,5,6,11,15,17,19,20] (.norm,(f10n4S ba1 bh2 bi3 bq4 bj5 bo6 (wr64 (v136+x153)) (wr64 (v137+1)))) (ap (Qp (xs:=ba1) (c:=Qa.cells)) (ap h139 (ap (Qg h152).1 (ap (Qm Qa.cells (Qg h152).2) (ap (f15_ok bi3.1 x151 h154) (ap (Qg h152).1 (ap (Qm Qa.cells (Qg h152).2) (ap (Qac h155) (ap (Qg h152).1 (ap (Qm Qa.cells (Qg h152).2) (ap (Qg h160).1 (ap (Qs Qa.cells (Qg h160).2) (ap (Qm Qa.cells (Qg h160).2) (ap (Qa.eqb_ok x159 (Qa.mk x151.Level x151.Owner (wr64 (x151.Size-x153)) x151.Called)) (ap (Qr h161) an))))))))))))))) (Qo.norm ⟨(wr64 (v136+x153)),(wr64 (v137+1)),rfl,h⟩)
    ·obtain rfl:=Qe h
     exact rK Qf 2 [([],[],[(2,.val (jI (ba1.length:Int)))]),([],[(3,.idx (Int.toNat v137) (Qa.cells x151)),jH 5 (jI x153)],[]),([],[(2,.idx (Int.toNat v137) (Qa.cells x151))],[]),j3,([],[(2,.idx (Int.toNat v137) (Qa.cells x151))],[]),j3,([],[(2,.at_ (Int.toNat v137)),(3,.idx 0 (Qa.cells x159)),(5,.bool (Qa.eqb x159 (Qa.mk x151.Level x151.Owner (wr64 (x151.Size-x153)) x151.Called)))],[]),j3] [some true,some true,some true] [] [] [4] .ret ((f10n4E ba1 bh2 bi3 bq4 bj5 bo6 .ret).2) (ap (Qp (xs:=ba1) (c:=Qa.cells)) (ap h139 (ap (Qg h152).1 (ap (Qm Qa.cells (Qg h152).2) (ap (f15_ok bi3.1 x151 h154) (ap (Qg h152).1 (ap (Qm Qa.cells (Qg h152).2) (ap (Qac h155) (ap (Qg h152).1 (ap (Qm Qa.cells (Qg h152).2) (ap (Qg h160).1 (ap (Qs Qa.cells (Qg h160).2) (ap (Qm Qa.cells (Qg h160).2) (ap (Qa.eqb_ok x159 (Qa.mk x151.Level x151.Owner (wr64 (x151.Size-x153)) x151.Called)) (ap (Qac h161) an))))))))))))))) (Qo.out rfl rfl)
  ·obtain rfl:=Qe h
   exact rK Qf 1 [([],[],[(2,.val (jI (ba1.length:Int)))])] [some false] [] [] [5,15,17,19] (.exit 0) ((f10n4E ba1 bh2 bi3 bq4 bj5 bo6 (.exit0 v136)).2) (ap (Qp (xs:=ba1) (c:=Qa.cells)) (ap h139 an)) (Qo.out rfl rfl)
noncomputable def f10n4L(ba1:List Qa)(bh2:Bool)(bi3:(List Qb)×Int×Int)(bq4:Int×Int)(bj5:Int×Bool)(bo6:Int×(List Qa)):List Qa→Int→Int→Option f10n4O
 | [],v136,v137 =>
  some (.exit0 v136)
 | x0::rest,v136,v137 =>
  (f15 bi3.1 x0).bind fun x153 =>
  bif x0.Called then
   (at? bo6.2 v137).bind fun x156 =>
   bif (Qa.eqb x156 (Qa.mk x0.Level x0.Owner (wr64 (x0.Size-x153)) x0.Called)) then
    (f10n4L ba1 bh2 bi3 bq4 bj5 bo6 rest v136 (v137+1))
   else
    some .ret
  else
   (at? bo6.2 v137).bind fun x159 =>
   bif (Qa.eqb x159 (Qa.mk x0.Level x0.Owner (wr64 (x0.Size-x153)) x0.Called)) then
    (f10n4L ba1 bh2 bi3 bq4 bj5 bo6 rest (wr64 (v136+x153)) (v137+1))
   else
    some .ret
theorem f10n4L_eq(ba1:List Qa)(bh2:Bool)(bi3:(List Qb)×Int×Int)(bq4:Int×Int)(bj5:Int×Bool)(bo6:Int×(List Qa)):∀(rest:List Qa)(f k:Nat)(v136:Int),ba1.drop k=rest→ba1.length≤maxLen→rest.length<f→f10n4 f ba1 bh2 bi3 bq4 bj5 bo6 v136 (k:Int)=f10n4L ba1 bh2 bi3 bq4 bj5 bo6 rest v136 (k:Int)
 | _,0,_,_,_,_,hf=>absurd hf (Nat.not_lt_zero _)
 | [],f+1,k,v136,hd,hm,hf=>by
  have hk:¬((k:Int)<(ba1.length:Int)):=by have:=Qaq hd; omega
  rw [f10n4,f10n4L]
  simp only [decide_eq_false hk,cond_false]
 | x0::rest,f+1,k,v136,hd,hm,hf=>by
  obtain ⟨hx,hlt,hd'⟩:=Qag hd
  have hk:(k:Int)<(ba1.length:Int):=by omega
  have hw:wr64 ((k:Int)+1)=(k:Int)+1:=Qbw (by omega) (by unfold maxLen at hm; omega)
  have ih:∀(v136:Int),f10n4 f ba1 bh2 bi3 bq4 bj5 bo6 v136 ((k:Int)+1)=f10n4L ba1 bh2 bi3 bq4 bj5 bo6 rest v136 ((k:Int)+1):=fun v136=>f10n4L_eq ba1 bh2 bi3 bq4 bj5 bo6 rest f (k+1) v136 hd' hm (by simpa using hf)
  rw [f10n4,f10n4L]
  simp only [decide_eq_true hk,cond_true,at_nat,hx,Option.bind_some,hw,ih]
theorem f10n4_run(ba1:List Qa)(bh2:Bool)(bi3:(List Qb)×Int×Int)(bq4:Int×Int)(bj5:Int×Bool)(bo6:Int×(List Qa))(v136:Int)(hm:ba1.length≤maxLen):f10n4 FUEL ba1 bh2 bi3 bq4 bj5 bo6 v136 0=f10n4L ba1 bh2 bi3 bq4 bj5 bo6 ba1 v136 0:=f10n4L_eq ba1 bh2 bi3 bq4 bj5 bo6 ba1 FUEL 0 v136 List.drop_zero hm (Qad hm)
inductive f10n3O where
 | norm (v166:Int)
 | ret
def f10n3E(ba1:List Qa)(bh2:Bool)(bi3:(List Qb)×Int×Int)(bq4:Int×Int)(bj5:Int×Bool)(bo6:Int×(List Qa)):f10n3O→Ex×Tr×Hp
 | .norm v166=>(.norm,mkS [(5,(jB bh2)),(15,(jI bq4.1)),(17,(jI bj5.1)),(19,(jI v166))],[])
 | .ret=>(.ret,mkS [(4,(jB false))],[])
def f10n3S(ba1:List Qa)(bh2:Bool)(bi3:(List Qb)×Int×Int)(bq4:Int×Int)(bj5:Int×Bool)(bo6:Int×(List Qa)):Tr×Hp:=(mkS [(0,(jL 4 Qa.cells ba1)),(5,(jB bh2)),(6,(jL 3 Qb.cells bi3.1)),(11,(.own 0)),(15,(jI bq4.1)),(17,(jI bj5.1)),(19,(jI 0))],[jR 4 Qa.cells bo6.2])
noncomputable def f10n3(ba1:List Qa)(bh2:Bool)(bi3:(List Qb)×Int×Int)(bq4:Int×Int)(bj5:Int×Bool)(bo6:Int×(List Qa)):Option f10n3O :=
 (f10n4 FUEL ba1 bh2 bi3 bq4 bj5 bo6 0 0).bind fun o163=>match o163 with
 | .exit0 v165=>some (.norm v165)
 | .ret=>some .ret
theorem f10n3_ok(ba1:List Qa)(bh2:Bool)(bi3:(List Qb)×Int×Int)(bq4:Int×Int)(bj5:Int×Bool)(bo6:Int×(List Qa)){o:f10n3O}(h:(f10n3 ba1 bh2 bi3 bq4 bj5 bo6)=some o):T Try.prog Try.f10.ntmps 0 (cL (Qj 1 (Qj 1 (Qj 1 (Qj 4 (Qj 5 c10)))))) (f10n3S ba1 bh2 bi3 bq4 bj5 bo6) (fun r=>r=f10n3E ba1 bh2 bi3 bq4 bj5 bo6 o):=by
 unfold f10n3 at h
 refine rN Qf 1 [j3] [] [] [0] [0,5,6,11,15,17,19,20] (f10n4S ba1 bh2 bi3 bq4 bj5 bo6 0 0) an ?_
 obtain ⟨o163,h164,h⟩:=Qd h
 cases o163 with
 | exit0 v165 =>
  obtain rfl:=Qe h
  exact T.last' (T.bl (i:=0) (by kernel_rfl) (by kernel_rfl) (f10n4_ok FUEL ba1 bh2 bi3 bq4 bj5 bo6 0 0 h164)) (tds:=[]) (m:=[]) (keep:=[5,15,17,19]) (st2:=(f10n3E ba1 bh2 bi3 bq4 bj5 bo6 (.norm v165)).2) (by kernel_rfl) an rfl
 | ret =>
  obtain rfl:=Qe h
  exact T.last' (T.bl (i:=0) (by kernel_rfl) (by kernel_rfl) (f10n4_ok FUEL ba1 bh2 bi3 bq4 bj5 bo6 0 0 h164)) (tds:=[]) (m:=[]) (keep:=[4]) (st2:=(f10n3E ba1 bh2 bi3 bq4 bj5 bo6 .ret).2) (by kernel_rfl) an rfl
inductive f10n0O where
 | ret (v170:Bool)
def f10n0E(a1:List Qa)(a2:Int):f10n0O→Ex×Tr×Hp
 | .ret v170=>(.ret,mkS [(4,(jB v170))],[])
def f10n0S(a1:List Qa)(a2:Int):Tr×Hp:=(Qy [(jL 4 Qa.cells a1),(jI a2)] 0 .leaf,[])
noncomputable def f10n0(a1:List Qa)(a2:Int):Option f10n0O :=
 f11.bind fun x5 =>
 (f12 a1 []).bind fun x11 =>
 bif x11 then
  some (.ret x5)
 else
  bif x5 then
   (f13 a1 a2).bind fun x17 =>
   bif (decide (x17.2.2=0)) then
    (f21 a1).bind fun x23 =>
    (f19r1 a1).bind fun x29 =>
    (f26r2 x17.1 x29).bind fun x31 =>
    (f21 x31.2).bind fun x35 =>
    (f29 a1 x17.1).bind fun x39 =>
    (f14 x17.1).bind fun x43 =>
    (f10n1 a1 x5 x17 x23 x31 x35 x39 x43).bind fun o84=>match o84 with
    | .norm=>(f10n3 a1 x5 x17 x39 x43 x31).bind fun o167=>match o167 with
     | .norm v169=>some (.ret (decide ((wr64 (x39.1+v169))=x43.1)))
     | .ret=>some (.ret false)
    | .ret=>some (.ret false)
   else
    some (.ret x5)
  else
   some (.ret x5)
theorem f10n0_ok(a1:List Qa)(a2:Int){o:f10n0O}(h:(f10n0 a1 a2)=some o):T Try.prog Try.f10.ntmps 0 c10 (f10n0S a1 a2) (fun r=>r=f10n0E a1 a2 o):=by
 unfold f10n0 at h
 obtain ⟨x5,h6,h⟩:=Qd h
 obtain ⟨x11,h12,h⟩:=Qd h
 rcases Qh h with ⟨h13,h⟩|⟨h13,h⟩
 ·obtain rfl:=Qe h
  exact rK Qf 3 [j3,([],[jH 0 (jB x5)],[]),([(3,true),(4,true)],[jH 1 (jB x11),(5,.bool true)],[]),j3] [none] [] [] [4] .ret ((f10n0E a1 a2 (.ret x5)).2) (ap (f11_ok h6) (ap3 h13 (ap (Ql.wk (args':=[(jL 4 Qa.cells a1),(.pl (.sl .nil 0 []))]) (f12_ok a1 [] h12) (wlc (Wk.refl _) (wlc (Wk.pl (WkP.nil (f:=.nil) (sz:=0) (sz':=3))) wln)) (Wk.refl _) rfl) an))) rfl
 ·rcases Qh h with ⟨h14,h⟩|⟨h14,h⟩
  ·obtain ⟨x17,h18,h⟩:=Qd h
   rcases Qh h with ⟨h20,h⟩|⟨h20,h⟩
   ·refine rN Qf 5 [j3,([],[jH 0 (jB x5)],[]),([(3,false),(4,false)],[jH 1 (jB x11),(5,.bool false)],[]),([],[jH 2 (.tup [(jL 3 Qb.cells x17.1),(jI x17.2.1),(jI x17.2.2)])],[]),j3] [some false,some false] [] [] [0,5,6,7] (mkS [(0,(jL 4 Qa.cells a1)),(5,(jB x5)),(6,(jL 3 Qb.cells x17.1)),(7,(jI x17.2.1))],[]) (ap (f11_ok h6) (ap3 h13 (ap (Ql.wk (args':=[(jL 4 Qa.cells a1),(.pl (.sl .nil 0 []))]) (f12_ok a1 [] h12) (wlc (Wk.refl _) (wlc (Wk.pl (WkP.nil (f:=.nil) (sz:=0) (sz':=3))) wln)) (Wk.refl _) rfl) (ap (Qr h14) (ap (f13_ok a1 a2 h18) (ap (Qr h20) an)))))) ?_
    obtain ⟨x23,h24,h⟩:=Qd h
    obtain ⟨x29,h30,h⟩:=Qd h
    obtain ⟨x31,h32,h⟩:=Qd h
    obtain ⟨x35,h36,h⟩:=Qd h
    obtain ⟨x39,h40,h⟩:=Qd h
    refine rN Qf 4 [([],[jH 1 (.tup [(jI x23.1),(jI x23.2)])],[]),([],[(1,.call (.own 0) [jR 4 Qa.cells x29]),(3,.call (.tup [(.own 1),(jI x31.1)]) [jR 4 Qa.cells x29,jR 4 Qa.cells x31.2])],[]),([],[jH 1 (.tup [(jI x35.1),(jI x35.2)])],[]),([],[jH 2 (.tup [(jI x39.1),(jI x39.2)])],[])] [] [] [1] [0,5,6,7,9,10,11,12,13,14,15,16] (mkS [(0,(jL 4 Qa.cells a1)),(5,(jB x5)),(6,(jL 3 Qb.cells x17.1)),(7,(jI x17.2.1)),(9,(jI x23.1)),(10,(jI x23.2)),(11,(.own 0)),(12,(jI x31.1)),(13,(jI x35.1)),(14,(jI x35.2)),(15,(jI x39.1)),(16,(jI x39.2))],[jR 4 Qa.cells x31.2]) (ap (f21_ok a1 h24) (ap (f19r1_ok a1 h30) (ap (f26r2_ok x17.1 x29 h32) (ap (f21_ok x31.2 h36) (ap (f29_ok a1 x17.1 h40) an))))) ?_
    obtain ⟨x43,h44,h⟩:=Qd h
    refine rN Qf 1 [([],[jH 1 (.tup [(jI x43.1),(jB x43.2)])],[])] [] [] [0] [0,5,6,7,9,10,11,12,13,14,15,16,17,18] (f10n1S a1 x5 x17 x23 x31 x35 x39 x43) (ap (f14_ok x17.1 h44) an) ?_
    obtain ⟨o84,h85,h⟩:=Qd h
    cases o84 with
    | norm =>
     refine T.oneN (by kernel_rfl) (f10n1_ok a1 x5 x17 x23 x31 x35 x39 x43 h85) (st2:=(f10n1E a1 x5 x17 x23 x31 x35 x39 x43 .norm).2) rfl ?_
     refine rN Qf 1 [j3] [] [] [0] [0,5,6,11,15,17,19] (f10n3S a1 x5 x17 x39 x43 x31) an ?_
     obtain ⟨o167,h168,h⟩:=Qd h
     cases o167 with
     | norm v169 =>
      refine T.oneN (by kernel_rfl) (f10n3_ok a1 x5 x17 x39 x43 x31 h168) (st2:=(f10n3E a1 x5 x17 x39 x43 x31 (.norm v169)).2) rfl ?_
      obtain rfl:=Qe h
      exact rE Qf [(jT [2,3,4,5,6],[(7,.bool true)],[])] [] [] [] [4] (.ret,(f10n0E a1 a2 (.ret (decide ((wr64 (x39.1+v169))=x43.1)))).2) (ap2 h14 (ap4 h14 an)) rfl
     | ret =>
      obtain rfl:=Qe h
      exact T.oneX' (by kernel_rfl) (f10n3_ok a1 x5 x17 x39 x43 x31 h168) (tds:=[]) (m:=[]) (keep:=[4]) (st2:=(f10n0E a1 a2 (.ret false)).2) (by kernel_rfl) an rfl rfl
    | ret =>
     obtain rfl:=Qe h
     exact T.oneX' (by kernel_rfl) (f10n1_ok a1 x5 x17 x23 x31 x35 x39 x43 h85) (tds:=[]) (m:=[]) (keep:=[4]) (st2:=(f10n0E a1 a2 (.ret false)).2) (by kernel_rfl) an rfl rfl
   ·obtain rfl:=Qe h
    exact rK Qf 5 [j3,([],[jH 0 (jB x5)],[]),([(3,false),(4,false)],[jH 1 (jB x11),(5,.bool false)],[]),([],[jH 2 (.tup [(jL 3 Qb.cells x17.1),(jI x17.2.1),(jI x17.2.2)])],[]),j3,j3] [some false,some true] [] [] [4] .ret ((f10n0E a1 a2 (.ret x5)).2) (ap (f11_ok h6) (ap3 h13 (ap (Ql.wk (args':=[(jL 4 Qa.cells a1),(.pl (.sl .nil 0 []))]) (f12_ok a1 [] h12) (wlc (Wk.refl _) (wlc (Wk.pl (WkP.nil (f:=.nil) (sz:=0) (sz':=3))) wln)) (Wk.refl _) rfl) (ap (Qr h14) (ap (f13_ok a1 a2 h18) (ap (Qac h20) an)))))) rfl
  ·obtain rfl:=Qe h
   exact rK Qf 3 [j3,([],[jH 0 (jB x5)],[]),([(3,false),(4,false)],[jH 1 (jB x11),(5,.bool false)],[]),j3] [some true] [] [] [4] .ret ((f10n0E a1 a2 (.ret x5)).2) (ap (f11_ok h6) (ap3 h13 (ap (Ql.wk (args':=[(jL 4 Qa.cells a1),(.pl (.sl .nil 0 []))]) (f12_ok a1 [] h12) (wlc (Wk.refl _) (wlc (Wk.pl (WkP.nil (f:=.nil) (sz:=0) (sz':=3))) wln)) (Wk.refl _) rfl) (ap (Qac h14) an)))) rfl
noncomputable def f10(a1:List Qa)(a2:Int):Option Bool:=(f10n0 a1 a2).bind fun o=>match o with
 | .ret v170=>some v170
theorem f10_ok(a1:List Qa)(a2:Int){r:Bool}(h:(f10 a1 a2)=some r):Ql Try.prog false 10 [(jL 4 Qa.cells a1),(jI a2)] [] (jB r) []:=by
 unfold f10 at h
 obtain ⟨o,ho,h⟩:=Qd h
 cases o with
 | ret v170 =>
  obtain rfl:=Qe h
  exact Ql.plain Qf (f:=Try.f10) (c:=c10) (by kernel_rfl) (by kernel_rfl) (by kernel_rfl) (by kernel_rfl) ((f10n0_ok a1 a2 ho).mono fun r e=>by subst e; exact ⟨.inl rfl,(jB v170),(jB v170),by kernel_rfl,by kernel_rfl,((Wk.refl _):Wk (jB v170) (jB v170))⟩)
end Go.Proofs.Ytgbolgaodaokcaa
