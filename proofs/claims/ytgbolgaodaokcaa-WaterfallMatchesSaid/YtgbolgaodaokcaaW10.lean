/- Several texts in one. No condition. -/
import Derived.Test.YtgbolgaodaokcaaW6
namespace Go.Proofs.Ytgbolgaodaokcaa
set_option linter.unusedVariables false
set_option linter.unusedSimpArgs false
set_option maxRecDepth 100000
open Go.RowKit
noncomputable def c61:Code:=Try.f61.body.getD .skip
inductive f61n2O where
 | exit0 (v25:Int)
def f61n2E (bb1:Int) (bg2:List Qa):f61n2O→Ex×Tr×Hp
 | .exit0 v25=>((.exit 0),mkS [(0,(jI bb1)),(1,(jL 3 Qa.cells bg2)),(5,(jI v25)),(6,(jI bb1))],[])
def f61n2S (bb1:Int) (bg2:List Qa) (v17:Int) (v18:Int):Tr×Hp:=(mkS [(0,(jI bb1)),(1,(jL 3 Qa.cells bg2)),(5,(jI v17)),(6,(jI bb1)),(7,(jI v18))],[])
noncomputable def f61n2:Nat→Int→List Qa→Int→Int→Option f61n2O
 | 0,_,_,_,_=>none
 | f + 1, bb1, bg2, v17, v18 =>
  bif (decide (v18<(bg2.length:Int))) then
   (at? bg2 v18).bind fun x23 =>
   (f61n2 f bb1 bg2 (wr64 (v17+x23.Amount)) (wr64 (v18+1)))
  else
   some (.exit0 v17)
theorem f61n2_ok:∀(f:Nat) (bb1:Int) (bg2:List Qa) (v17:Int) (v18:Int) {o:f61n2O},(f61n2 f bb1 bg2 v17 v18)=some o→TL Try.prog Try.f61.ntmps 0 f (cL (cL (Qj 1 (cL (Qj 2 c61))))) (f61n2S bb1 bg2 v17 v18) (fun r=>r=f61n2E bb1 bg2 o)
 | 0,_,_,_,_,o,h=>by rw [f61n2] at h; cases h
 | f + 1, bb1, bg2, v17, v18, o, h => by
  rw [f61n2] at h
  refine TL.body (K:=fun s=>∃v17:Int,∃v18:Int,s=(f61n2S bb1 bg2 v17 v18)∧(f61n2 f bb1 bg2 v17 v18)=some o) ?_ (by rintro _ ⟨v17,v18,rfl,hk⟩; exact f61n2_ok f _ _ _ _ hk)
  rcases Qg h with ⟨h20,h⟩ | ⟨h20,h⟩
  ·obtain ⟨x23, h24, h⟩ := Qc h
   exact rE Qf [([],[],[(2,.val (jI (bg2.length:Int)))]),([],[(3,.idx (Int.toNat v18) (Qa.cells x23))],[]),j3] [some true] [] [] [0,1,5,6,7] (.norm,(f61n2S bb1 bg2 (wr64 (v17+x23.Amount)) (wr64 (v18+1)))) (ap (Qp (xs:=bg2) (c:=Qa.cells)) (ap h20 (ap (Qh h24).1 (ap (Qm Qa.cells (Qh h24).2) an)))) (Qo.norm ⟨(wr64 (v17+x23.Amount)),(wr64 (v18+1)),rfl,h⟩)
  ·obtain rfl := Qe h
   exact rK Qf 1 [([],[],[(2,.val (jI (bg2.length:Int)))])] [some false] [] [] [0,1,5,6] (.exit 0) ((f61n2E bb1 bg2 (.exit0 v17)).2) (ap (Qp (xs:=bg2) (c:=Qa.cells)) (ap h20 an)) (Qo.out rfl rfl)
noncomputable def f61n2L (bb1:Int) (bg2:List Qa):List Qa→Int→Int→Option f61n2O
 | [], v17, v18 =>
  some (.exit0 v17)
 | x0 :: rest, v17, v18 =>
  (f61n2L bb1 bg2 rest (wr64 (v17+x0.Amount)) (v18+1))
theorem f61n2L_eq (bb1:Int) (bg2:List Qa):∀(rest:List Qa) (f k:Nat) (v17:Int),bg2.drop k=rest→bg2.length≤maxLen→rest.length<f→f61n2 f bb1 bg2 v17 (k:Int)=f61n2L bb1 bg2 rest v17 (k:Int)
 | _,0,_,_,_,_,hf=>absurd hf (Nat.not_lt_zero _)
 | [], f + 1, k, v17, hd, hm, hf => by
  have hk:¬((k:Int)<(bg2.length:Int)):=by have:=Qak hd; omega
  rw [f61n2,f61n2L]
  simp only [decide_eq_false hk,cond_false]
 | x0 :: rest, f + 1, k, v17, hd, hm, hf => by
  obtain ⟨hx,hlt,hd'⟩:=Qaf hd
  have hk:(k:Int)<(bg2.length:Int):=by omega
  have hw:wr64 ((k:Int)+1)=(k:Int)+1:=Qbw (by omega) (by unfold maxLen at hm; omega)
  have ih:∀(v17:Int),f61n2 f bb1 bg2 v17 ((k:Int)+1)=f61n2L bb1 bg2 rest v17 ((k:Int)+1):=fun v17=>f61n2L_eq bb1 bg2 rest f (k+1) v17 hd' hm (by simpa using hf)
  rw [f61n2,f61n2L]
  simp only [decide_eq_true hk,cond_true,at_nat,hx,Option.bind_some,hw,ih]
theorem f61n2_run (bb1:Int) (bg2:List Qa) (v17:Int) (hm:bg2.length≤maxLen):f61n2 FUEL bb1 bg2 v17 0=f61n2L bb1 bg2 bg2 v17 0:=f61n2L_eq bb1 bg2 bg2 FUEL 0 v17 List.drop_zero hm (Qab hm)
inductive f61n1O where
 | norm (v29:Int)
def f61n1E (bb1:Int) (bg2:List Qa):f61n1O→Ex×Tr×Hp
 | .norm v29=>(.norm,mkS [(0,(jI bb1)),(1,(jL 3 Qa.cells bg2)),(5,(jI v29)),(6,(jI bb1))],[])
def f61n1S (bb1:Int) (bg2:List Qa):Tr×Hp:=(mkS [(0,(jI bb1)),(1,(jL 3 Qa.cells bg2)),(5,(jI 0)),(6,(jI bb1))],[])
noncomputable def f61n1 (bb1:Int) (bg2:List Qa):Option f61n1O :=
 (f61n2 FUEL bb1 bg2 0 0).bind fun o26=>match o26 with
 | .exit0 v28=>some (.norm v28)
theorem f61n1_ok (bb1:Int) (bg2:List Qa) {o:f61n1O} (h:(f61n1 bb1 bg2)=some o):T Try.prog Try.f61.ntmps 0 (cL (Qj 2 c61)) (f61n1S bb1 bg2) (fun r=>r=f61n1E bb1 bg2 o):=by
 unfold f61n1 at h
 refine rN Qf 1 [j3] [] [] [] [0,1,5,6,7] (f61n2S bb1 bg2 0 0) an ?_
 obtain ⟨o26,h27,h⟩:=Qc h
 cases o26 with
 | exit0 v28 =>
  obtain rfl:=Qe h
  exact T.last' (T.bl (i:=0) (by kernel_rfl) (by kernel_rfl) (f61n2_ok FUEL bb1 bg2 0 0 h27)) (tds:=[]) (m:=[]) (keep:=[0,1,5,6]) (st2:=(f61n1E bb1 bg2 (.norm v28)).2) (by kernel_rfl) an rfl
inductive f61n4O where
 | exit2 (v93:Int) (v94:List Int) (v95:List Int)
def f61n4E (bb1:Int) (bg2:List Qa) (bb3:Int):f61n4O→Ex×Tr×Hp
 | .exit2 v93 v94 v95=>((.exit 2),mkS [(1,(jL 3 Qa.cells bg2)),(6,(jI v93)),(8,(.own 0)),(9,(.own 1))],[some (.row false 1 (v94.map (cInt .i64))),some (.row false 1 (v95.map (cInt .i64)))])
def f61n4S (bb1:Int) (bg2:List Qa) (bb3:Int) (v69:Int) (v70:Int) (v71:List Int) (v72:List Int):Tr×Hp:=(mkS [(0,(jI bb1)),(1,(jL 3 Qa.cells bg2)),(5,(jI bb3)),(6,(jI v69)),(8,(.own 0)),(9,(.own 1)),(10,(jI v70))],[some (.row false 1 (v71.map (cInt .i64))),some (.row false 1 (v72.map (cInt .i64)))])
noncomputable def f61n4:Nat→Int→List Qa→Int→Int→Int→List Int→List Int→Option f61n4O
 | 0,_,_,_,_,_,_,_=>none
 | f + 1, bb1, bg2, bb3, v69, v70, v71, v72 =>
  bif (decide (v70<(bg2.length:Int))) then
   bif (decide (0<bb3)) then
    (at? bg2 v70).bind fun x85 =>
    (f76 bb1 x85.Amount bb3).bind fun x87 =>
    req (fit (v71.length+1) 8) <|
    req (fit (v72.length+1) 8) <|
    (f61n4 f bb1 bg2 bb3 (wr64 (v69-x87.1)) (wr64 (v70+1)) (v71++[x87.1]) (v72++[x87.2]))
   else
    req (fit (v71.length+1) 8) <|
    req (fit (v72.length+1) 8) <|
    (f61n4 f bb1 bg2 bb3 (wr64 (v69-0)) (wr64 (v70+1)) (v71++[0]) (v72++[0]))
  else
   some (.exit2 v69 v71 v72)
theorem f61n4_ok:∀(f:Nat) (bb1:Int) (bg2:List Qa) (bb3:Int) (v69:Int) (v70:Int) (v71:List Int) (v72:List Int) {o:f61n4O},(f61n4 f bb1 bg2 bb3 v69 v70 v71 v72)=some o→TL Try.prog Try.f61.ntmps 0 f (cL (cL (Qj 1 (cL (Qj 1 (Qj 1 (Qj 2 c61))))))) (f61n4S bb1 bg2 bb3 v69 v70 v71 v72) (fun r=>r=f61n4E bb1 bg2 bb3 o)
 | 0,_,_,_,_,_,_,_,o,h=>by rw [f61n4] at h; cases h
 | f + 1, bb1, bg2, bb3, v69, v70, v71, v72, o, h => by
  rw [f61n4] at h
  refine TL.body (K:=fun s=>∃v69:Int,∃v70:Int,∃v71:List Int,∃v72:List Int,s=(f61n4S bb1 bg2 bb3 v69 v70 v71 v72)∧(f61n4 f bb1 bg2 bb3 v69 v70 v71 v72)=some o) ?_ (by rintro _ ⟨v69,v70,v71,v72,rfl,hk⟩; exact f61n4_ok f _ _ _ _ _ _ _ hk)
  rcases Qg h with ⟨h74,h⟩ | ⟨h74,h⟩
  ·rcases Qg h with ⟨h84, h⟩ | ⟨h84, h⟩
   ·obtain ⟨x85, h86, h⟩ := Qc h
    obtain ⟨x87,h88,h⟩:=Qc h
    obtain ⟨h89,h⟩:=Qq h
    obtain ⟨h90,h⟩:=Qq h
    exact rE Qf [([],[],[(2,.val (jI (bg2.length:Int)))]),j3,j3,([],[(3,.idx (Int.toNat v70) (Qa.cells x85)),jH 7 (.tup [(jI x87.1),(jI x87.2)])],[]),([],[(3,.fits)],[(3,.row 3 ((v71++[x87.1]).map (cInt .i64)))]),([],[(3,.fits)],[(3,.row 5 ((v72++[x87.2]).map (cInt .i64)))]),j3,j3] [some true,some true] [] [3,5] [0,1,5,6,8,9,10] (.norm,(f61n4S bb1 bg2 bb3 (wr64 (v69-x87.1)) (wr64 (v70+1)) (v71++[x87.1]) (v72++[x87.2]))) (ap (Qp (xs:=bg2) (c:=Qa.cells)) (ap h74 (ap h84 (ap (Qh h86).1 (ap (Qm Qa.cells (Qh h86).2) (ap (f76_ok bb1 x85.Amount bb3 h88) (ap (Qbn (te:=ti3) (xs:=v71) (n:=1) (c:=(cInt .i64)) h89 rfl) (ap (app_cv (xs:=v71) (ys:=[x87.1]) (c:=(cInt .i64))) (ap (Qbn (te:=ti3) (xs:=v72) (n:=1) (c:=(cInt .i64)) h90 rfl) (ap (app_cv (xs:=v72) (ys:=[x87.2]) (c:=(cInt .i64))) an)))))))))) (Qo.norm ⟨(wr64 (v69-x87.1)),(wr64 (v70+1)),(v71++[x87.1]),(v72++[x87.2]),rfl,h⟩)
   ·obtain ⟨h91, h⟩ := Qq h
    obtain ⟨h92,h⟩:=Qq h
    exact rE Qf [([],[],[(2,.val (jI (bg2.length:Int)))]),j3,j3,([],[(3,.fits)],[(3,.row 3 ((v71++[0]).map (cInt .i64)))]),([],[(3,.fits)],[(3,.row 5 ((v72++[0]).map (cInt .i64)))]),j3,j3] [some true,some false] [] [3,5] [0,1,5,6,8,9,10] (.norm,(f61n4S bb1 bg2 bb3 (wr64 (v69-0)) (wr64 (v70+1)) (v71++[0]) (v72++[0]))) (ap (Qp (xs:=bg2) (c:=Qa.cells)) (ap h74 (ap h84 (ap (Qbn (te:=ti3) (xs:=v71) (n:=1) (c:=(cInt .i64)) h91 rfl) (ap (app_cv (xs:=v71) (ys:=[0]) (c:=(cInt .i64))) (ap (Qbn (te:=ti3) (xs:=v72) (n:=1) (c:=(cInt .i64)) h92 rfl) (ap (app_cv (xs:=v72) (ys:=[0]) (c:=(cInt .i64))) an))))))) (Qo.norm ⟨(wr64 (v69-0)),(wr64 (v70+1)),(v71++[0]),(v72++[0]),rfl,h⟩)
  ·obtain rfl := Qe h
   exact rK Qf 1 [([],[],[(2,.val (jI (bg2.length:Int)))])] [some false] [] [0,1] [1,6,8,9] (.exit 2) ((f61n4E bb1 bg2 bb3 (.exit2 v69 v71 v72)).2) (ap (Qp (xs:=bg2) (c:=Qa.cells)) (ap h74 an)) (Qo.out rfl rfl)
noncomputable def f61n4L (bb1:Int) (bg2:List Qa) (bb3:Int):List Qa→Int→Int→(List Int)→(List Int)→Option f61n4O
 | [], v69, v70, v71, v72 =>
  some (.exit2 v69 v71 v72)
 | x0 :: rest, v69, v70, v71, v72 =>
  bif (decide (0<bb3)) then
   (f76 bb1 x0.Amount bb3).bind fun x87 =>
   req (fit (v71.length+1) 8) <|
   req (fit (v72.length+1) 8) <|
   (f61n4L bb1 bg2 bb3 rest (wr64 (v69-x87.1)) (v70+1) (v71++[x87.1]) (v72++[x87.2]))
  else
   req (fit (v71.length+1) 8) <|
   req (fit (v72.length+1) 8) <|
   (f61n4L bb1 bg2 bb3 rest (wr64 (v69-0)) (v70+1) (v71++[0]) (v72++[0]))
theorem f61n4L_eq (bb1:Int) (bg2:List Qa) (bb3:Int):∀(rest:List Qa) (f k:Nat) (v69:Int) (v71:List Int) (v72:List Int),bg2.drop k=rest→bg2.length≤maxLen→rest.length<f→f61n4 f bb1 bg2 bb3 v69 (k:Int) v71 v72=f61n4L bb1 bg2 bb3 rest v69 (k:Int) v71 v72
 | _,0,_,_,_,_,_,_,hf=>absurd hf (Nat.not_lt_zero _)
 | [], f + 1, k, v69, v71, v72, hd, hm, hf => by
  have hk:¬((k:Int)<(bg2.length:Int)):=by have:=Qak hd; omega
  rw [f61n4,f61n4L]
  simp only [decide_eq_false hk,cond_false]
 | x0 :: rest, f + 1, k, v69, v71, v72, hd, hm, hf => by
  obtain ⟨hx,hlt,hd'⟩:=Qaf hd
  have hk:(k:Int)<(bg2.length:Int):=by omega
  have hw:wr64 ((k:Int)+1)=(k:Int)+1:=Qbw (by omega) (by unfold maxLen at hm; omega)
  have ih:∀(v69:Int) (v71:List Int) (v72:List Int),f61n4 f bb1 bg2 bb3 v69 ((k:Int)+1) v71 v72=f61n4L bb1 bg2 bb3 rest v69 ((k:Int)+1) v71 v72:=fun v69 v71 v72=>f61n4L_eq bb1 bg2 bb3 rest f (k+1) v69 v71 v72 hd' hm (by simpa using hf)
  rw [f61n4,f61n4L]
  simp only [decide_eq_true hk,cond_true,at_nat,hx,Option.bind_some,hw,ih]
theorem f61n4_run (bb1:Int) (bg2:List Qa) (bb3:Int) (v69:Int) (v71:List Int) (v72:List Int) (hm:bg2.length≤maxLen):f61n4 FUEL bb1 bg2 bb3 v69 0 v71 v72=f61n4L bb1 bg2 bb3 bg2 v69 0 v71 v72:=f61n4L_eq bb1 bg2 bb3 bg2 FUEL 0 v69 v71 v72 List.drop_zero hm (Qab hm)
inductive f61n3O where
 | norm (v101:Int) (v102:List Int) (v103:List Int)
def f61n3E (bb1:Int) (bg2:List Qa) (bb3:Int):f61n3O→Ex×Tr×Hp
 | .norm v101 v102 v103=>(.norm,mkS [(1,(jL 3 Qa.cells bg2)),(6,(jI v101)),(8,(.own 0)),(9,(.own 1))],[some (.row false 1 (v102.map (cInt .i64))),some (.row false 1 (v103.map (cInt .i64)))])
def f61n3S (bb1:Int) (bg2:List Qa) (bb3:Int):Tr×Hp:=(mkS [(0,(jI bb1)),(1,(jL 3 Qa.cells bg2)),(5,(jI bb3)),(6,(jI bb1)),(8,(.pl (.sl .nil 0 []))),(9,(.pl (.sl .nil 0 [])))],[])
noncomputable def f61n3 (bb1:Int) (bg2:List Qa) (bb3:Int):Option f61n3O :=
 (f61n4 FUEL bb1 bg2 bb3 bb1 0 [] []).bind fun o96=>match o96 with
 | .exit2 v98 v99 v100=>some (.norm v98 v99 v100)
theorem f61n3_ok (bb1:Int) (bg2:List Qa) (bb3:Int) {o:f61n3O} (h:(f61n3 bb1 bg2 bb3)=some o):T Try.prog Try.f61.ntmps 0 (cL (Qj 1 (Qj 1 (Qj 2 c61)))) (f61n3S bb1 bg2 bb3) (fun r=>r=f61n3E bb1 bg2 bb3 o):=by
 unfold f61n3 at h
 refine rN Qf 1 [j3] [] [.mat 8 1,.mat 9 1] [0,1] [0,1,5,6,8,9,10] (f61n4S bb1 bg2 bb3 bb1 0 [] []) an ?_
 obtain ⟨o96,h97,h⟩:=Qc h
 cases o96 with
 | exit2 v98 v99 v100 =>
  obtain rfl:=Qe h
  exact T.last' (T.bl (i:=2) (by kernel_rfl) (by kernel_rfl) (f61n4_ok FUEL bb1 bg2 bb3 bb1 0 [] [] h97)) (tds:=[]) (m:=[0,1]) (keep:=[1,6,8,9]) (st2:=(f61n3E bb1 bg2 bb3 (.norm v98 v99 v100)).2) (by kernel_rfl) an rfl
inductive f61n7O where
 | exit6 (v312:Int)
def f61n7E (bg1:List Qa) (bb2:Int) (be3:List Int) (be4:List Int):f61n7O→Ex×Tr×Hp
 | .exit6 v312=>((.exit 6),mkS [(1,(jL 3 Qa.cells bg1)),(6,(jI bb2)),(8,(.own 0)),(9,(.own 1)),(13,(jI v312))],[some (.row false 1 (be3.map (cInt .i64))),some (.row false 1 (be4.map (cInt .i64)))])
def f61n7S (bg1:List Qa) (bb2:Int) (be3:List Int) (be4:List Int) (v298:Int) (v299:Int):Tr×Hp:=(mkS [(1,(jL 3 Qa.cells bg1)),(6,(jI bb2)),(8,(.own 0)),(9,(.own 1)),(13,(jI v298)),(14,(jI v299))],[some (.row false 1 (be3.map (cInt .i64))),some (.row false 1 (be4.map (cInt .i64)))])
noncomputable def f61n7:Nat→List Qa→Int→List Int→List Int→Int→Int→Option f61n7O
 | 0,_,_,_,_,_,_=>none
 | f + 1, bg1, bb2, be3, be4, v298, v299 =>
  bif (decide (v299<(bg1.length:Int))) then
   (at? be4 v299).bind fun x307 =>
   (at? be4 v298).bind fun x309 =>
   bif (decide (x309<x307)) then
    (f61n7 f bg1 bb2 be3 be4 v299 (wr64 (v299+1)))
   else
    (f61n7 f bg1 bb2 be3 be4 v298 (wr64 (v299+1)))
  else
   some (.exit6 v298)
theorem f61n7_ok:∀(f:Nat) (bg1:List Qa) (bb2:Int) (be3:List Int) (be4:List Int) (v298:Int) (v299:Int) {o:f61n7O},(f61n7 f bg1 bb2 be3 be4 v298 v299)=some o→TL Try.prog Try.f61.ntmps 0 f (cL (cL (Qj 1 (cL (Qj 1 (cL (Qj 1 (cL (cL (cL (Qj 0 (Qj 1 (Qj 1 (Qj 1 (Qj 2 c61))))))))))))))) (f61n7S bg1 bb2 be3 be4 v298 v299) (fun r=>r=f61n7E bg1 bb2 be3 be4 o)
 | 0,_,_,_,_,_,_,o,h=>by rw [f61n7] at h; cases h
 | f + 1, bg1, bb2, be3, be4, v298, v299, o, h => by
  rw [f61n7] at h
  refine TL.body (K:=fun s=>∃v298:Int,∃v299:Int,s=(f61n7S bg1 bb2 be3 be4 v298 v299)∧(f61n7 f bg1 bb2 be3 be4 v298 v299)=some o) ?_ (by rintro _ ⟨v298,v299,rfl,hk⟩; exact f61n7_ok f _ _ _ _ _ _ hk)
  rcases Qg h with ⟨h301,h⟩ | ⟨h301,h⟩
  ·obtain ⟨x307, h308, h⟩ := Qc h
   obtain ⟨x309,h310,h⟩:=Qc h
   rcases Qg h with ⟨h311,h⟩ | ⟨h311,h⟩
   ·exact rE Qf [([],[],[(2,.val (jI (bg1.length:Int)))]),([],[(2,.at_ (Int.toNat v299)),(3,.idx 0 ((cInt .i64) x307)),(6,.at_ (Int.toNat v298)),(7,.idx 0 ((cInt .i64) x309))],[]),j3,j3] [some true,some true] [] [0,1] [1,6,8,9,13,14] (.norm,(f61n7S bg1 bb2 be3 be4 v299 (wr64 (v299+1)))) (ap (Qp (xs:=bg1) (c:=Qa.cells)) (ap h301 (ap (Qh h308).1 (ap (Qs (cInt .i64) (Qh h308).2) (ap (Qm (cInt .i64) (Qh h308).2) (ap (Qh h310).1 (ap (Qs (cInt .i64) (Qh h310).2) (ap (Qm (cInt .i64) (Qh h310).2) (ap h311 an))))))))) (Qo.norm ⟨v299,(wr64 (v299+1)),rfl,h⟩)
   ·exact rE Qf [([],[],[(2,.val (jI (bg1.length:Int)))]),([],[(2,.at_ (Int.toNat v299)),(3,.idx 0 ((cInt .i64) x307)),(6,.at_ (Int.toNat v298)),(7,.idx 0 ((cInt .i64) x309))],[]),j3] [some true,some false] [] [0,1] [1,6,8,9,13,14] (.norm,(f61n7S bg1 bb2 be3 be4 v298 (wr64 (v299+1)))) (ap (Qp (xs:=bg1) (c:=Qa.cells)) (ap h301 (ap (Qh h308).1 (ap (Qs (cInt .i64) (Qh h308).2) (ap (Qm (cInt .i64) (Qh h308).2) (ap (Qh h310).1 (ap (Qs (cInt .i64) (Qh h310).2) (ap (Qm (cInt .i64) (Qh h310).2) (ap h311 an))))))))) (Qo.norm ⟨v298,(wr64 (v299+1)),rfl,h⟩)
  ·obtain rfl := Qe h
   exact rK Qf 1 [([],[],[(2,.val (jI (bg1.length:Int)))])] [some false] [] [0,1] [1,6,8,9,13] (.exit 6) ((f61n7E bg1 bb2 be3 be4 (.exit6 v298)).2) (ap (Qp (xs:=bg1) (c:=Qa.cells)) (ap h301 an)) (Qo.out rfl rfl)
inductive f61n6O where
 | norm (v316:Int)
def f61n6E (bg1:List Qa) (bb2:Int) (be3:List Int) (be4:List Int):f61n6O→Ex×Tr×Hp
 | .norm v316=>(.norm,mkS [(1,(jL 3 Qa.cells bg1)),(6,(jI bb2)),(8,(.own 0)),(9,(.own 1)),(13,(jI v316))],[some (.row false 1 (be3.map (cInt .i64))),some (.row false 1 (be4.map (cInt .i64)))])
def f61n6S (bg1:List Qa) (bb2:Int) (be3:List Int) (be4:List Int):Tr×Hp:=(mkS [(1,(jL 3 Qa.cells bg1)),(6,(jI bb2)),(8,(.own 0)),(9,(.own 1)),(13,(jI 0))],[some (.row false 1 (be3.map (cInt .i64))),some (.row false 1 (be4.map (cInt .i64)))])
noncomputable def f61n6 (bg1:List Qa) (bb2:Int) (be3:List Int) (be4:List Int):Option f61n6O :=
 (f61n7 FUEL bg1 bb2 be3 be4 0 0).bind fun o313=>match o313 with
 | .exit6 v315=>some (.norm v315)
theorem f61n6_ok (bg1:List Qa) (bb2:Int) (be3:List Int) (be4:List Int) {o:f61n6O} (h:(f61n6 bg1 bb2 be3 be4)=some o):T Try.prog Try.f61.ntmps 0 (cL (Qj 1 (cL (Qj 1 (cL (cL (cL (Qj 0 (Qj 1 (Qj 1 (Qj 1 (Qj 2 c61)))))))))))) (f61n6S bg1 bb2 be3 be4) (fun r=>r=f61n6E bg1 bb2 be3 be4 o):=by
 unfold f61n6 at h
 refine rN Qf 1 [j3] [] [] [0,1] [1,6,8,9,13,14] (f61n7S bg1 bb2 be3 be4 0 0) an ?_
 obtain ⟨o313,h314,h⟩:=Qc h
 cases o313 with
 | exit6 v315 =>
  obtain rfl:=Qe h
  exact T.last' (T.bl (i:=6) (by kernel_rfl) (by kernel_rfl) (f61n7_ok FUEL bg1 bb2 be3 be4 0 0 h314)) (tds:=[]) (m:=[0,1]) (keep:=[1,6,8,9,13]) (st2:=(f61n6E bg1 bb2 be3 be4 (.norm v315)).2) (by kernel_rfl) an rfl
inductive f61n5O where
 | norm (v328:List Int) (v329:List Int)
def f61n5E (bg1:List Qa) (bb2:Int) (be3:List Int) (be4:List Int):f61n5O→Ex×Tr×Hp
 | .norm v328 v329=>(.norm,mkS [(1,(jL 3 Qa.cells bg1)),(6,(jI (wr64 (bb2-1)))),(8,(.own 0)),(9,(.own 1))],[some (.row false 1 (v328.map (cInt .i64))),some (.row false 1 (v329.map (cInt .i64)))])
def f61n5S (bg1:List Qa) (bb2:Int) (be3:List Int) (be4:List Int):Tr×Hp:=(mkS [(1,(jL 3 Qa.cells bg1)),(6,(jI bb2)),(8,(.own 0)),(9,(.own 1))],[some (.row false 1 (be3.map (cInt .i64))),some (.row false 1 (be4.map (cInt .i64)))])
noncomputable def f61n5 (bg1:List Qa) (bb2:Int) (be3:List Int) (be4:List Int):Option f61n5O :=
 (f61n6 bg1 bb2 be3 be4).bind fun o317=>match o317 with
 | .norm v319 => (at? be3 v319).bind fun x322 =>
  (at? be4 v319).bind fun x326 =>
  some (.norm (be3.set (Int.toNat v319) (wr64 (x322+1))) (be4.set (Int.toNat v319) (-1)))
theorem f61n5_ok (bg1:List Qa) (bb2:Int) (be3:List Int) (be4:List Int) {o:f61n5O} (h:(f61n5 bg1 bb2 be3 be4)=some o):T Try.prog Try.f61.ntmps 0 (Qj 1 (cL (cL (cL (Qj 0 (Qj 1 (Qj 1 (Qj 1 (Qj 2 c61))))))))) (f61n5S bg1 bb2 be3 be4) (fun r=>r=f61n5E bg1 bb2 be3 be4 o):=by
 unfold f61n5 at h
 refine T.block' (i:=5) (by kernel_rfl) ?_
 refine rN Qf 1 [j3] [] [] [0,1] [1,6,8,9,13] (f61n6S bg1 bb2 be3 be4) an ?_
 obtain ⟨o317,h318,h⟩:=Qc h
 cases o317 with
 | norm v319 =>
  refine T.oneN (by kernel_rfl) (f61n6_ok bg1 bb2 be3 be4 h318) (st2:=(f61n6E bg1 bb2 be3 be4 (.norm v319)).2) rfl ?_
  obtain ⟨x322,h323,h⟩:=Qc h
  obtain ⟨x326,h327,h⟩:=Qc h
  obtain rfl:=Qe h
  exact rE Qf [([],[(4,.at_ (Int.toNat v319)),(5,.idx 0 ((cInt .i64) x322)),(7,.at_ (Int.toNat v319)),(8,.idx 0 ((cInt .i64) x322))],[(8,.row 0 ((be3.set (Int.toNat v319) (wr64 (x322+1))).map (cInt .i64)))]),([],[(2,.at_ (Int.toNat v319)),(3,.idx 0 ((cInt .i64) x326))],[(3,.row 1 ((be4.set (Int.toNat v319) (-1)).map (cInt .i64)))]),j3] [] [] [0,1] [1,6,8,9] (.norm,(f61n5E bg1 bb2 be3 be4 (.norm (be3.set (Int.toNat v319) (wr64 (x322+1))) (be4.set (Int.toNat v319) (-1)))).2) (ap (Qh h323).1 (ap (Qs (cInt .i64) (Qh h323).2) (ap (Qm (cInt .i64) (Qh h323).2) (ap (Qh h323).1 (ap (Qs (cInt .i64) (Qh h323).2) (ap (Qm (cInt .i64) (Qh h323).2) (ap (set_cv (xs:=be3) (c:=(cInt .i64)) (k:=(Int.toNat v319)) (x:=(wr64 (x322+1)))) (ap (Qh h327).1 (ap (Qs (cInt .i64) (Qh h327).2) (ap (Qm (cInt .i64) (Qh h327).2) (ap (set_cv (xs:=be4) (c:=(cInt .i64)) (k:=(Int.toNat v319)) (x:=(-1))) an))))))))))) rfl
inductive f61n8O where
 | exit4 (v334:List Int)
def f61n8E (a2:List Qa):f61n8O→Ex×Tr×Hp
 | .exit4 v334=>((.exit 4),mkS [(8,(.own 0))],[some (.row false 1 (v334.map (cInt .i64)))])
def f61n8S (a2:List Qa) (v258:Int) (v259:List Int) (v260:List Int):Tr×Hp:=(mkS [(1,(jL 3 Qa.cells a2)),(6,(jI v258)),(8,(.own 0)),(9,(.own 1))],[some (.row false 1 (v259.map (cInt .i64))),some (.row false 1 (v260.map (cInt .i64)))])
noncomputable def f61n8:Nat→List Qa→Int→List Int→List Int→Option f61n8O
 | 0,_,_,_,_=>none
 | f + 1, a2, v258, v259, v260 =>
  bif (decide (0<v258)) then
   (f61n5 a2 v258 v259 v260).bind fun o330=>match o330 with
   | .norm v332 v333=>(f61n8 f a2 (wr64 (v258-1)) v332 v333)
  else
   some (.exit4 v259)
theorem f61n8_ok:∀(f:Nat) (a2:List Qa) (v258:Int) (v259:List Int) (v260:List Int) {o:f61n8O},(f61n8 f a2 v258 v259 v260)=some o→TL Try.prog Try.f61.ntmps 0 f (cL (cL (cL (Qj 0 (Qj 1 (Qj 1 (Qj 1 (Qj 2 c61)))))))) (f61n8S a2 v258 v259 v260) (fun r=>r=f61n8E a2 o)
 | 0,_,_,_,_,o,h=>by rw [f61n8] at h; cases h
 | f + 1, a2, v258, v259, v260, o, h => by
  rw [f61n8] at h
  refine TL.body (K:=fun s=>∃v258:Int,∃v259:List Int,∃v260:List Int,s=(f61n8S a2 v258 v259 v260)∧(f61n8 f a2 v258 v259 v260)=some o) ?_ (by rintro _ ⟨v258,v259,v260,rfl,hk⟩; exact f61n8_ok f _ _ _ _ hk)
  rcases Qg h with ⟨h262,h⟩ | ⟨h262,h⟩
  ·refine rN Qf 1 [j3] [some true] [] [0, 1] [1, 6, 8, 9] (f61n5S a2 v258 v259 v260) (ap h262 an) ?_
   obtain ⟨o330,h331,h⟩:=Qc h
   cases o330 with
   | norm v332 v333 =>
    exact T.last' (f61n5_ok a2 v258 v259 v260 h331) (tds:=[]) (m:=[0,1]) (keep:=[1,6,8,9]) (st2:=(f61n8S a2 (wr64 (v258-1)) v332 v333)) (by kernel_rfl) an (Qo.norm ⟨(wr64 (v258-1)),v332,v333,rfl,h⟩)
  ·obtain rfl := Qe h
   exact rK Qf 1 [j3] [some false] [] [0] [8] (.exit 4) ((f61n8E a2 (.exit4 v259)).2) (ap h262 an) (Qo.out rfl rfl)
inductive f61n0O where
 | ret (v338:List Int)
def f61n0E (a1:Int) (a2:List Qa):f61n0O→Ex×Tr×Hp
 | .ret v338=>(.ret,mkS [(4,(.own 0))],[some (.row false 1 (v338.map (cInt .i64)))])
def f61n0S (a1:Int) (a2:List Qa):Tr×Hp:=(Qx [(jI a1),(jL 3 Qa.cells a2)] 0 .leaf,[])
noncomputable def f61n0 (a1:Int) (a2:List Qa):Option f61n0O :=
 (f61n1 a1 a2).bind fun o30=>match o30 with
 | .norm v32 => (f61n3 a1 a2 v32).bind fun o104 => match o104 with
  | .norm v106 v107 v108 => (f61n8 FUEL a2 v106 v107 v108).bind fun o335 => match o335 with
   | .exit4 v337=>some (.ret v337)
theorem f61n0_ok (a1:Int) (a2:List Qa) {o:f61n0O} (h:(f61n0 a1 a2)=some o):T Try.prog Try.f61.ntmps 0 c61 (f61n0S a1 a2) (fun r=>r=f61n0E a1 a2 o):=by
 unfold f61n0 at h
 refine rN Qf 2 [j3,j3] [] [] [] [0,1,5,6] (f61n1S a1 a2) an ?_
 obtain ⟨o30,h31,h⟩:=Qc h
 cases o30 with
 | norm v32 =>
  refine T.oneN (by kernel_rfl) (f61n1_ok a1 a2 h31) (st2:=(f61n1E a1 a2 (.norm v32)).2) rfl ?_
  refine rN Qf 1 [j3] [] [] [] [0,1,5,6,8,9] (f61n3S a1 a2 v32) an ?_
  obtain ⟨o104,h105,h⟩:=Qc h
  cases o104 with
  | norm v106 v107 v108 =>
   refine T.oneN (by kernel_rfl) (f61n3_ok a1 a2 v32 h105) (st2:=(f61n3E a1 a2 v32 (.norm v106 v107 v108)).2) rfl ?_
   refine rN Qf 0 [] [] [] [0,1] [1,6,8,9] (f61n8S a2 v106 v107 v108) an ?_
   obtain ⟨o335,h336,h⟩:=Qc h
   cases o335 with
   | exit4 v337 =>
    refine T.oneN (by kernel_rfl) (T.bl (i:=4) (by kernel_rfl) (by kernel_rfl) (f61n8_ok FUEL a2 v106 v107 v108 h336)) (st2:=(f61n8E a2 (.exit4 v337)).2) rfl ?_
    obtain rfl:=Qe h
    exact rE Qf [j3] [] [] [0] [4] (.ret,(f61n0E a1 a2 (.ret v337)).2) an rfl
noncomputable def f61 (a1:Int) (a2:List Qa):Option (List Int):=(f61n0 a1 a2).bind fun o=>match o with
 | .ret v338=>some v338
theorem f61_ok (a1:Int) (a2:List Qa) {r:List Int} (h:(f61 a1 a2)=some r):Ql Try.prog false 61 [(jI a1),(jL 3 Qa.cells a2)] [] (.pl (.sl .any 1 (r.map (cInt .i64)))) []:=by
 unfold f61 at h
 obtain ⟨o,ho,h⟩:=Qc h
 cases o with
 | ret v338 =>
  obtain rfl:=Qe h
  exact Ql.plain Qf (f:=Try.f61) (c:=c61) (by kernel_rfl) (by kernel_rfl) (by kernel_rfl) (by kernel_rfl) ((f61n0_ok a1 a2 ho).mono fun r e=>by subst e; exact ⟨.inl rfl,(.own 0),(.pl (.sl .any 1 (v338.map (cInt .i64)))),by kernel_rfl,by kernel_rfl,((Wk.refl _):Wk (.pl (.sl .any 1 (v338.map (cInt .i64)))) (.pl (.sl .any 1 (v338.map (cInt .i64)))))⟩)

noncomputable def c43:Code:=Try.f43.body.getD .skip
inductive f43n3O where
 | norm (v239:Int)
def f43n3E (bg1:List Qa) (bb2:Int) (bh3:Bool) (bb4:Int) (bg5:List Qa):f43n3O→Ex×Tr×Hp
 | .norm v239=>(.norm,mkS [(0,(jL 3 Qa.cells bg1)),(1,(jI bb2)),(2,(jB bh3)),(8,(.own 0)),(9,(jI bb4)),(10,(jI v239))],[jR 3 Qa.cells bg5])
def f43n3S (bg1:List Qa) (bb2:Int) (bh3:Bool) (bb4:Int) (bg5:List Qa):Tr×Hp:=(mkS [(0,(jL 3 Qa.cells bg1)),(1,(jI bb2)),(2,(jB bh3)),(8,(.own 0)),(9,(jI bb4)),(10,(jI bb4))],[jR 3 Qa.cells bg5])
noncomputable def f43n3 (bg1:List Qa) (bb2:Int) (bh3:Bool) (bb4:Int) (bg5:List Qa):Option f43n3O :=
 bif bh3 then
  some (.norm (wr64 (9-bb4)))
 else
  some (.norm bb4)
theorem f43n3_ok (bg1:List Qa) (bb2:Int) (bh3:Bool) (bb4:Int) (bg5:List Qa) {o:f43n3O} (h:(f43n3 bg1 bb2 bh3 bb4 bg5)=some o):T Try.prog Try.f43.ntmps 0 (cL (Qj 1 (cL (cL (Qj 1 (cL (cL (Qj 1 (cL (Qj 2 c43)))))))))) (f43n3S bg1 bb2 bh3 bb4 bg5) (fun r=>r=f43n3E bg1 bb2 bh3 bb4 bg5 o):=by
 unfold f43n3 at h
 rcases Qg h with ⟨h238,h⟩ | ⟨h238,h⟩
 ·obtain rfl := Qe h
  exact rE Qf [j3,j3] [some true] [] [0] [0,1,2,8,9,10] (.norm,(f43n3E bg1 bb2 bh3 bb4 bg5 (.norm (wr64 (9-bb4)))).2) (ap h238 an) rfl
 ·obtain rfl := Qe h
  exact rE Qf [j3] [some false] [] [0] [0,1,2,8,9,10] (.norm,(f43n3E bg1 bb2 bh3 bb4 bg5 (.norm bb4)).2) (ap h238 an) rfl
inductive f43n5O where
 | exit2 (v269:Int)
def f43n5E (bg1:List Qa) (bb2:Int) (bh3:Bool) (bb4:Int) (bb5:Int) (bg6:List Qa) (bg7:List Qa):f43n5O→Ex×Tr×Hp
 | .exit2 v269=>((.exit 2),mkS [(0,(jL 3 Qa.cells bg1)),(1,(jI bb2)),(2,(jB bh3)),(8,(.own 0)),(9,(jI bb4)),(10,(jI bb5)),(11,(jL 3 Qa.cells bg6)),(12,(jI v269))],[jR 3 Qa.cells bg7])
def f43n5S (bg1:List Qa) (bb2:Int) (bh3:Bool) (bb4:Int) (bb5:Int) (bg6:List Qa) (bg7:List Qa) (v261:Int) (v262:Int):Tr×Hp:=(mkS [(0,(jL 3 Qa.cells bg1)),(1,(jI bb2)),(2,(jB bh3)),(8,(.own 0)),(9,(jI bb4)),(10,(jI bb5)),(11,(jL 3 Qa.cells bg6)),(12,(jI v261)),(13,(jI v262))],[jR 3 Qa.cells bg7])
noncomputable def f43n5:Nat→List Qa→Int→Bool→Int→Int→List Qa→List Qa→Int→Int→Option f43n5O
 | 0,_,_,_,_,_,_,_,_,_=>none
 | f + 1, bg1, bb2, bh3, bb4, bb5, bg6, bg7, v261, v262 =>
  bif (decide (v262<(bg6.length:Int))) then
   (at? bg6 v262).bind fun x267 =>
   (f43n5 f bg1 bb2 bh3 bb4 bb5 bg6 bg7 (wr64 (v261+x267.Amount)) (wr64 (v262+1)))
  else
   some (.exit2 v261)
theorem f43n5_ok:∀(f:Nat) (bg1:List Qa) (bb2:Int) (bh3:Bool) (bb4:Int) (bb5:Int) (bg6:List Qa) (bg7:List Qa) (v261:Int) (v262:Int) {o:f43n5O},(f43n5 f bg1 bb2 bh3 bb4 bb5 bg6 bg7 v261 v262)=some o→TL Try.prog Try.f43.ntmps 0 f (cL (cL (Qj 1 (cL (Qj 2 (Qj 1 (Qj 1 (cL (cL (Qj 1 (cL (cL (Qj 1 (cL (Qj 2 c43))))))))))))))) (f43n5S bg1 bb2 bh3 bb4 bb5 bg6 bg7 v261 v262) (fun r=>r=f43n5E bg1 bb2 bh3 bb4 bb5 bg6 bg7 o)
 | 0,_,_,_,_,_,_,_,_,_,o,h=>by rw [f43n5] at h; cases h
 | f + 1, bg1, bb2, bh3, bb4, bb5, bg6, bg7, v261, v262, o, h => by
  rw [f43n5] at h
  refine TL.body (K:=fun s=>∃v261:Int,∃v262:Int,s=(f43n5S bg1 bb2 bh3 bb4 bb5 bg6 bg7 v261 v262)∧(f43n5 f bg1 bb2 bh3 bb4 bb5 bg6 bg7 v261 v262)=some o) ?_ (by rintro _ ⟨v261,v262,rfl,hk⟩; exact f43n5_ok f _ _ _ _ _ _ _ _ _ hk)
  rcases Qg h with ⟨h264,h⟩ | ⟨h264,h⟩
  ·obtain ⟨x267, h268, h⟩ := Qc h
   exact rE Qf [([],[],[(2,.val (jI (bg6.length:Int)))]),([],[(3,.idx (Int.toNat v262) (Qa.cells x267))],[]),j3] [some true] [] [0] [0,1,2,8,9,10,11,12,13] (.norm,(f43n5S bg1 bb2 bh3 bb4 bb5 bg6 bg7 (wr64 (v261+x267.Amount)) (wr64 (v262+1)))) (ap (Qp (xs:=bg6) (c:=Qa.cells)) (ap h264 (ap (Qh h268).1 (ap (Qm Qa.cells (Qh h268).2) an)))) (Qo.norm ⟨(wr64 (v261+x267.Amount)),(wr64 (v262+1)),rfl,h⟩)
  ·obtain rfl := Qe h
   exact rK Qf 1 [([],[],[(2,.val (jI (bg6.length:Int)))])] [some false] [] [0] [0,1,2,8,9,10,11,12] (.exit 2) ((f43n5E bg1 bb2 bh3 bb4 bb5 bg6 bg7 (.exit2 v261)).2) (ap (Qp (xs:=bg6) (c:=Qa.cells)) (ap h264 an)) (Qo.out rfl rfl)
noncomputable def f43n5L (bg1:List Qa) (bb2:Int) (bh3:Bool) (bb4:Int) (bb5:Int) (bg6:List Qa) (bg7:List Qa):List Qa→Int→Int→Option f43n5O
 | [], v261, v262 =>
  some (.exit2 v261)
 | x0 :: rest, v261, v262 =>
  (f43n5L bg1 bb2 bh3 bb4 bb5 bg6 bg7 rest (wr64 (v261+x0.Amount)) (v262+1))
theorem f43n5L_eq (bg1:List Qa) (bb2:Int) (bh3:Bool) (bb4:Int) (bb5:Int) (bg6:List Qa) (bg7:List Qa):∀(rest:List Qa) (f k:Nat) (v261:Int),bg6.drop k=rest→bg6.length≤maxLen→rest.length<f→f43n5 f bg1 bb2 bh3 bb4 bb5 bg6 bg7 v261 (k:Int)=f43n5L bg1 bb2 bh3 bb4 bb5 bg6 bg7 rest v261 (k:Int)
 | _,0,_,_,_,_,hf=>absurd hf (Nat.not_lt_zero _)
 | [], f + 1, k, v261, hd, hm, hf => by
  have hk:¬((k:Int)<(bg6.length:Int)):=by have:=Qak hd; omega
  rw [f43n5,f43n5L]
  simp only [decide_eq_false hk,cond_false]
 | x0 :: rest, f + 1, k, v261, hd, hm, hf => by
  obtain ⟨hx,hlt,hd'⟩:=Qaf hd
  have hk:(k:Int)<(bg6.length:Int):=by omega
  have hw:wr64 ((k:Int)+1)=(k:Int)+1:=Qbw (by omega) (by unfold maxLen at hm; omega)
  have ih:∀(v261:Int),f43n5 f bg1 bb2 bh3 bb4 bb5 bg6 bg7 v261 ((k:Int)+1)=f43n5L bg1 bb2 bh3 bb4 bb5 bg6 bg7 rest v261 ((k:Int)+1):=fun v261=>f43n5L_eq bg1 bb2 bh3 bb4 bb5 bg6 bg7 rest f (k+1) v261 hd' hm (by simpa using hf)
  rw [f43n5,f43n5L]
  simp only [decide_eq_true hk,cond_true,at_nat,hx,Option.bind_some,hw,ih]
theorem f43n5_run (bg1:List Qa) (bb2:Int) (bh3:Bool) (bb4:Int) (bb5:Int) (bg6:List Qa) (bg7:List Qa) (v261:Int) (hm:bg6.length≤maxLen):f43n5 FUEL bg1 bb2 bh3 bb4 bb5 bg6 bg7 v261 0=f43n5L bg1 bb2 bh3 bb4 bb5 bg6 bg7 bg6 v261 0:=f43n5L_eq bg1 bb2 bh3 bb4 bb5 bg6 bg7 bg6 FUEL 0 v261 List.drop_zero hm (Qab hm)
inductive f43n4O where
 | norm (v273:Int)
def f43n4E (bg1:List Qa) (bb2:Int) (bh3:Bool) (bb4:Int) (bb5:Int) (bg6:List Qa) (bg7:List Qa):f43n4O→Ex×Tr×Hp
 | .norm v273=>(.norm,mkS [(0,(jL 3 Qa.cells bg1)),(1,(jI bb2)),(2,(jB bh3)),(8,(.own 0)),(9,(jI bb4)),(10,(jI bb5)),(11,(jL 3 Qa.cells bg6)),(12,(jI v273))],[jR 3 Qa.cells bg7])
def f43n4S (bg1:List Qa) (bb2:Int) (bh3:Bool) (bb4:Int) (bb5:Int) (bg6:List Qa) (bg7:List Qa):Tr×Hp:=(mkS [(0,(jL 3 Qa.cells bg1)),(1,(jI bb2)),(2,(jB bh3)),(8,(.own 0)),(9,(jI bb4)),(10,(jI bb5)),(11,(jL 3 Qa.cells bg6)),(12,(jI 0))],[jR 3 Qa.cells bg7])
noncomputable def f43n4 (bg1:List Qa) (bb2:Int) (bh3:Bool) (bb4:Int) (bb5:Int) (bg6:List Qa) (bg7:List Qa):Option f43n4O :=
 (f43n5 FUEL bg1 bb2 bh3 bb4 bb5 bg6 bg7 0 0).bind fun o270=>match o270 with
 | .exit2 v272=>some (.norm v272)
theorem f43n4_ok (bg1:List Qa) (bb2:Int) (bh3:Bool) (bb4:Int) (bb5:Int) (bg6:List Qa) (bg7:List Qa) {o:f43n4O} (h:(f43n4 bg1 bb2 bh3 bb4 bb5 bg6 bg7)=some o):T Try.prog Try.f43.ntmps 0 (cL (Qj 2 (Qj 1 (Qj 1 (cL (cL (Qj 1 (cL (cL (Qj 1 (cL (Qj 2 c43)))))))))))) (f43n4S bg1 bb2 bh3 bb4 bb5 bg6 bg7) (fun r=>r=f43n4E bg1 bb2 bh3 bb4 bb5 bg6 bg7 o):=by
 unfold f43n4 at h
 refine rN Qf 1 [j3] [] [] [0] [0,1,2,8,9,10,11,12,13] (f43n5S bg1 bb2 bh3 bb4 bb5 bg6 bg7 0 0) an ?_
 obtain ⟨o270,h271,h⟩:=Qc h
 cases o270 with
 | exit2 v272 =>
  obtain rfl:=Qe h
  exact T.last' (T.bl (i:=2) (by kernel_rfl) (by kernel_rfl) (f43n5_ok FUEL bg1 bb2 bh3 bb4 bb5 bg6 bg7 0 0 h271)) (tds:=[]) (m:=[0]) (keep:=[0,1,2,8,9,10,11,12]) (st2:=(f43n4E bg1 bb2 bh3 bb4 bb5 bg6 bg7 (.norm v272)).2) (by kernel_rfl) an rfl
inductive f43n7O where
 | exit4 (v325:List Qa)
def f43n7E (bg1:List Qa) (bb2:Int) (bh3:Bool) (bb4:Int) (bb5:Int) (bg6:List Qa) (bb7:Int) (be8:List Int) (bg9:List Qa):f43n7O→Ex×Tr×Hp
 | .exit4 v325=>((.exit 4),mkS [(0,(jL 3 Qa.cells bg1)),(1,(jI bb2)),(2,(jB bh3)),(8,(.own 0)),(9,(jI bb4)),(14,(jI (mnI bb2 bb7))),(16,(.own 1))],[jR 3 Qa.cells bg9,jR 3 Qa.cells v325])
def f43n7S (bg1:List Qa) (bb2:Int) (bh3:Bool) (bb4:Int) (bb5:Int) (bg6:List Qa) (bb7:Int) (be8:List Int) (bg9:List Qa) (v309:Int) (v310:List Qa):Tr×Hp:=(mkS [(0,(jL 3 Qa.cells bg1)),(1,(jI bb2)),(2,(jB bh3)),(8,(.own 0)),(9,(jI bb4)),(10,(jI bb5)),(11,(jL 3 Qa.cells bg6)),(14,(jI (mnI bb2 bb7))),(15,(.pl (.sl .any 1 (be8.map (cInt .i64))))),(16,(.own 1)),(17,(jI v309))],[jR 3 Qa.cells bg9,jR 3 Qa.cells v310])
noncomputable def f43n7:Nat→List Qa→Int→Bool→Int→Int→List Qa→Int→List Int→List Qa→Int→List Qa→Option f43n7O
 | 0,_,_,_,_,_,_,_,_,_,_,_=>none
 | f + 1, bg1, bb2, bh3, bb4, bb5, bg6, bb7, be8, bg9, v309, v310 =>
  bif (decide (v309<(bg6.length:Int))) then
   (at? be8 v309).bind fun x319 =>
   bif (decide (0<x319)) then
    (at? bg6 v309).bind fun x322 =>
    req (fit (v310.length+1) 32) <|
    (f43n7 f bg1 bb2 bh3 bb4 bb5 bg6 bb7 be8 bg9 (wr64 (v309+1)) (v310++[(Qa.mk bb5 x322.Owner x319)]))
   else
    (f43n7 f bg1 bb2 bh3 bb4 bb5 bg6 bb7 be8 bg9 (wr64 (v309+1)) v310)
  else
   some (.exit4 v310)
theorem f43n7_ok:∀(f:Nat) (bg1:List Qa) (bb2:Int) (bh3:Bool) (bb4:Int) (bb5:Int) (bg6:List Qa) (bb7:Int) (be8:List Int) (bg9:List Qa) (v309:Int) (v310:List Qa) {o:f43n7O},(f43n7 f bg1 bb2 bh3 bb4 bb5 bg6 bb7 be8 bg9 v309 v310)=some o→TL Try.prog Try.f43.ntmps 0 f (cL (cL (Qj 1 (cL (Qj 3 (Qj 1 (Qj 2 (Qj 1 (Qj 1 (cL (cL (Qj 1 (cL (cL (Qj 1 (cL (Qj 2 c43))))))))))))))))) (f43n7S bg1 bb2 bh3 bb4 bb5 bg6 bb7 be8 bg9 v309 v310) (fun r=>r=f43n7E bg1 bb2 bh3 bb4 bb5 bg6 bb7 be8 bg9 o)
 | 0,_,_,_,_,_,_,_,_,_,_,_,o,h=>by rw [f43n7] at h; cases h
 | f + 1, bg1, bb2, bh3, bb4, bb5, bg6, bb7, be8, bg9, v309, v310, o, h => by
  rw [f43n7] at h
  refine TL.body (K:=fun s=>∃v309:Int,∃v310:List Qa,s=(f43n7S bg1 bb2 bh3 bb4 bb5 bg6 bb7 be8 bg9 v309 v310)∧(f43n7 f bg1 bb2 bh3 bb4 bb5 bg6 bb7 be8 bg9 v309 v310)=some o) ?_ (by rintro _ ⟨v309,v310,rfl,hk⟩; exact f43n7_ok f _ _ _ _ _ _ _ _ _ _ _ hk)
  rcases Qg h with ⟨h312,h⟩ | ⟨h312,h⟩
  ·obtain ⟨x319, h320, h⟩ := Qc h
   rcases Qg h with ⟨h321,h⟩ | ⟨h321,h⟩
   ·obtain ⟨x322, h323, h⟩ := Qc h
    obtain ⟨h324,h⟩:=Qq h
    exact rE Qf [([],[],[(2,.val (jI (bg6.length:Int)))]),([],[(2,.idx (Int.toNat v309) ((cInt .i64) x319))],[]),([],[(4,.idx (Int.toNat v309) (Qa.cells x322)),(9,.idx (Int.toNat v309) ((cInt .i64) x319)),(13,.fits)],[(13,.row 3 ((v310++[(Qa.mk bb5 x322.Owner x319)]).map Qa.cells))]),j3] [some true,some true] [] [0,3] [0,1,2,8,9,10,11,14,15,16,17] (.norm,(f43n7S bg1 bb2 bh3 bb4 bb5 bg6 bb7 be8 bg9 (wr64 (v309+1)) (v310++[(Qa.mk bb5 x322.Owner x319)]))) (ap (Qp (xs:=bg6) (c:=Qa.cells)) (ap h312 (ap (Qh h320).1 (ap (Qm (cInt .i64) (Qh h320).2) (ap h321 (ap (Qh h323).1 (ap (Qm Qa.cells (Qh h323).2) (ap (Qh h320).1 (ap (Qm (cInt .i64) (Qh h320).2) (ap (Qbn (te:=ti59) (xs:=v310) (n:=1) (c:=Qa.cells) h324 rfl) (ap (app_cv (xs:=v310) (ys:=[(Qa.mk bb5 x322.Owner x319)]) (c:=Qa.cells)) an))))))))))) (Qo.norm ⟨(wr64 (v309+1)),(v310++[(Qa.mk bb5 x322.Owner x319)]),rfl,h⟩)
   ·exact rE Qf [([],[],[(2,.val (jI (bg6.length:Int)))]),([],[(2,.idx (Int.toNat v309) ((cInt .i64) x319))],[]),j3] [some true,some false] [] [0,1] [0,1,2,8,9,10,11,14,15,16,17] (.norm,(f43n7S bg1 bb2 bh3 bb4 bb5 bg6 bb7 be8 bg9 (wr64 (v309+1)) v310)) (ap (Qp (xs:=bg6) (c:=Qa.cells)) (ap h312 (ap (Qh h320).1 (ap (Qm (cInt .i64) (Qh h320).2) (ap h321 an))))) (Qo.norm ⟨(wr64 (v309+1)),v310,rfl,h⟩)
  ·obtain rfl := Qe h
   exact rK Qf 1 [([],[],[(2,.val (jI (bg6.length:Int)))])] [some false] [] [0,1] [0,1,2,8,9,14,16] (.exit 4) ((f43n7E bg1 bb2 bh3 bb4 bb5 bg6 bb7 be8 bg9 (.exit4 v310)).2) (ap (Qp (xs:=bg6) (c:=Qa.cells)) (ap h312 an)) (Qo.out rfl rfl)
noncomputable def f43n7L (bg1:List Qa) (bb2:Int) (bh3:Bool) (bb4:Int) (bb5:Int) (bg6:List Qa) (bb7:Int) (be8:List Int) (bg9:List Qa):List Qa→Int→(List Qa)→Option f43n7O
 | [], v309, v310 =>
  some (.exit4 v310)
 | x0 :: rest, v309, v310 =>
  (at? be8 v309).bind fun x319 =>
  bif (decide (0<x319)) then
   req (fit (v310.length+1) 32) <|
   (f43n7L bg1 bb2 bh3 bb4 bb5 bg6 bb7 be8 bg9 rest (v309+1) (v310++[(Qa.mk bb5 x0.Owner x319)]))
  else
   (f43n7L bg1 bb2 bh3 bb4 bb5 bg6 bb7 be8 bg9 rest (v309+1) v310)
theorem f43n7L_eq (bg1:List Qa) (bb2:Int) (bh3:Bool) (bb4:Int) (bb5:Int) (bg6:List Qa) (bb7:Int) (be8:List Int) (bg9:List Qa):∀(rest:List Qa) (f k:Nat) (v310:List Qa),bg6.drop k=rest→bg6.length≤maxLen→rest.length<f→f43n7 f bg1 bb2 bh3 bb4 bb5 bg6 bb7 be8 bg9 (k:Int) v310=f43n7L bg1 bb2 bh3 bb4 bb5 bg6 bb7 be8 bg9 rest (k:Int) v310
 | _,0,_,_,_,_,hf=>absurd hf (Nat.not_lt_zero _)
 | [], f + 1, k, v310, hd, hm, hf => by
  have hk:¬((k:Int)<(bg6.length:Int)):=by have:=Qak hd; omega
  rw [f43n7,f43n7L]
  simp only [decide_eq_false hk,cond_false]
 | x0 :: rest, f + 1, k, v310, hd, hm, hf => by
  obtain ⟨hx,hlt,hd'⟩:=Qaf hd
  have hk:(k:Int)<(bg6.length:Int):=by omega
  have hw:wr64 ((k:Int)+1)=(k:Int)+1:=Qbw (by omega) (by unfold maxLen at hm; omega)
  have ih:∀(v310:List Qa),f43n7 f bg1 bb2 bh3 bb4 bb5 bg6 bb7 be8 bg9 ((k:Int)+1) v310=f43n7L bg1 bb2 bh3 bb4 bb5 bg6 bb7 be8 bg9 rest ((k:Int)+1) v310:=fun v310=>f43n7L_eq bg1 bb2 bh3 bb4 bb5 bg6 bb7 be8 bg9 rest f (k+1) v310 hd' hm (by simpa using hf)
  rw [f43n7,f43n7L]
  simp only [decide_eq_true hk,cond_true,at_nat,hx,Option.bind_some,hw,ih]
theorem f43n7_run (bg1:List Qa) (bb2:Int) (bh3:Bool) (bb4:Int) (bb5:Int) (bg6:List Qa) (bb7:Int) (be8:List Int) (bg9:List Qa) (v310:List Qa) (hm:bg6.length≤maxLen):f43n7 FUEL bg1 bb2 bh3 bb4 bb5 bg6 bb7 be8 bg9 0 v310=f43n7L bg1 bb2 bh3 bb4 bb5 bg6 bb7 be8 bg9 bg6 0 v310:=f43n7L_eq bg1 bb2 bh3 bb4 bb5 bg6 bb7 be8 bg9 bg6 FUEL 0 v310 List.drop_zero hm (Qab hm)
inductive f43n6O where
 | norm (v329:List Qa)
def f43n6E (bg1:List Qa) (bb2:Int) (bh3:Bool) (bb4:Int) (bb5:Int) (bg6:List Qa) (bb7:Int) (be8:List Int) (bg9:List Qa):f43n6O→Ex×Tr×Hp
 | .norm v329=>(.norm,mkS [(0,(jL 3 Qa.cells bg1)),(1,(jI bb2)),(2,(jB bh3)),(8,(.own 0)),(9,(jI bb4)),(14,(jI (mnI bb2 bb7))),(16,(.own 1))],[jR 3 Qa.cells bg9,jR 3 Qa.cells v329])
def f43n6S (bg1:List Qa) (bb2:Int) (bh3:Bool) (bb4:Int) (bb5:Int) (bg6:List Qa) (bb7:Int) (be8:List Int) (bg9:List Qa):Tr×Hp:=(mkS [(0,(jL 3 Qa.cells bg1)),(1,(jI bb2)),(2,(jB bh3)),(8,(.own 0)),(9,(jI bb4)),(10,(jI bb5)),(11,(jL 3 Qa.cells bg6)),(14,(jI (mnI bb2 bb7))),(15,(.pl (.sl .any 1 (be8.map (cInt .i64))))),(16,(.pl (.sl .nil 0 [])))],[jR 3 Qa.cells bg9])
noncomputable def f43n6 (bg1:List Qa) (bb2:Int) (bh3:Bool) (bb4:Int) (bb5:Int) (bg6:List Qa) (bb7:Int) (be8:List Int) (bg9:List Qa):Option f43n6O :=
 (f43n7 FUEL bg1 bb2 bh3 bb4 bb5 bg6 bb7 be8 bg9 0 []).bind fun o326=>match o326 with
 | .exit4 v328=>some (.norm v328)
theorem f43n6_ok (bg1:List Qa) (bb2:Int) (bh3:Bool) (bb4:Int) (bb5:Int) (bg6:List Qa) (bb7:Int) (be8:List Int) (bg9:List Qa) {o:f43n6O} (h:(f43n6 bg1 bb2 bh3 bb4 bb5 bg6 bb7 be8 bg9)=some o):T Try.prog Try.f43.ntmps 0 (cL (Qj 3 (Qj 1 (Qj 2 (Qj 1 (Qj 1 (cL (cL (Qj 1 (cL (cL (Qj 1 (cL (Qj 2 c43)))))))))))))) (f43n6S bg1 bb2 bh3 bb4 bb5 bg6 bb7 be8 bg9) (fun r=>r=f43n6E bg1 bb2 bh3 bb4 bb5 bg6 bb7 be8 bg9 o):=by
 unfold f43n6 at h
 refine rN Qf 1 [j3] [] [.mat 16 3] [0,1] [0,1,2,8,9,10,11,14,15,16,17] (f43n7S bg1 bb2 bh3 bb4 bb5 bg6 bb7 be8 bg9 0 []) an ?_
 obtain ⟨o326,h327,h⟩:=Qc h
 cases o326 with
 | exit4 v328 =>
  obtain rfl:=Qe h
  exact T.last' (T.bl (i:=4) (by kernel_rfl) (by kernel_rfl) (f43n7_ok FUEL bg1 bb2 bh3 bb4 bb5 bg6 bb7 be8 bg9 0 [] h327)) (tds:=[]) (m:=[0,1]) (keep:=[0,1,2,8,9,14,16]) (st2:=(f43n6E bg1 bb2 bh3 bb4 bb5 bg6 bb7 be8 bg9 (.norm v328)).2) (by kernel_rfl) an rfl
inductive f43n2O where
 | norm (v343:Int) (v344:List Qa)
def f43n2E (bg1:List Qa) (bb2:Int) (bh3:Bool) (bb4:Int) (bg5:List Qa):f43n2O→Ex×Tr×Hp
 | .norm v343 v344=>(.norm,mkS [(0,(jL 3 Qa.cells bg1)),(1,(jI v343)),(2,(jB bh3)),(8,(.own 0)),(9,(jI bb4))],[jR 3 Qa.cells v344])
def f43n2S (bg1:List Qa) (bb2:Int) (bh3:Bool) (bb4:Int) (bg5:List Qa):Tr×Hp:=(mkS [(0,(jL 3 Qa.cells bg1)),(1,(jI bb2)),(2,(jB bh3)),(8,(.own 0)),(9,(jI bb4))],[jR 3 Qa.cells bg5])
noncomputable def f43n2 (bg1:List Qa) (bb2:Int) (bh3:Bool) (bb4:Int) (bg5:List Qa):Option f43n2O :=
 (f43n3 bg1 bb2 bh3 bb4 bg5).bind fun o240=>match o240 with
 | .norm v242 => (f60 bg1 v242).bind fun x245 =>
  (f43n4 bg1 bb2 bh3 bb4 v242 x245 bg5).bind fun o274=>match o274 with
  | .norm v276 => (f61 (mnI bb2 v276) x245).bind fun x279 =>
   (f43n6 bg1 bb2 bh3 bb4 v242 x245 v276 x279 bg5).bind fun o330=>match o330 with
   | .norm v332=>bif bh3 then
     bif (bg5.isEmpty) then
      some (.norm (wr64 (bb2-(mnI bb2 v276))) v332)
     else
      req (fit (v332.length+bg5.length) 32) <|
      some (.norm (wr64 (bb2-(mnI bb2 v276))) (v332++bg5))
    else
     bif (v332.isEmpty) then
      some (.norm (wr64 (bb2-(mnI bb2 v276))) bg5)
     else
      req (fit (bg5.length+v332.length) 32) <|
      some (.norm (wr64 (bb2-(mnI bb2 v276))) (bg5++v332))
theorem f43n2_ok (bg1:List Qa) (bb2:Int) (bh3:Bool) (bb4:Int) (bg5:List Qa) {o:f43n2O} (h:(f43n2 bg1 bb2 bh3 bb4 bg5)=some o):T Try.prog Try.f43.ntmps 0 (cL (Qj 1 (cL (cL (Qj 1 (cL (Qj 2 c43))))))) (f43n2S bg1 bb2 bh3 bb4 bg5) (fun r=>r=f43n2E bg1 bb2 bh3 bb4 bg5 o):=by
 unfold f43n2 at h
 refine T.block' (i:=1) (by kernel_rfl) ?_
 refine rN Qf 1 [j3] [] [] [0] [0,1,2,8,9,10] (f43n3S bg1 bb2 bh3 bb4 bg5) an ?_
 obtain ⟨o240,h241,h⟩:=Qc h
 cases o240 with
 | norm v242 =>
  refine T.oneN (by kernel_rfl) (f43n3_ok bg1 bb2 bh3 bb4 bg5 h241) (st2:=(f43n3E bg1 bb2 bh3 bb4 bg5 (.norm v242)).2) rfl ?_
  obtain ⟨x245,h246,h⟩:=Qc h
  refine rN Qf 2 [([],[jH 2 (jL 3 Qa.cells x245)],[]),j3] [] [] [0] [0,1,2,8,9,10,11,12] (f43n4S bg1 bb2 bh3 bb4 v242 x245 bg5) (ap (f60_ok bg1 v242 h246) an) ?_
  obtain ⟨o274,h275,h⟩:=Qc h
  cases o274 with
  | norm v276 =>
   refine T.oneN (by kernel_rfl) (f43n4_ok bg1 bb2 bh3 bb4 v242 x245 bg5 h275) (st2:=(f43n4E bg1 bb2 bh3 bb4 v242 x245 bg5 (.norm v276)).2) rfl ?_
   obtain ⟨x279,h280,h⟩:=Qc h
   refine rN Qf 3 [j3,([],[jH 2 (.pl (.sl .any 1 (x279.map (cInt .i64))))],[]),j3] [] [] [0] [0,1,2,8,9,10,11,14,15,16] (f43n6S bg1 bb2 bh3 bb4 v242 x245 v276 x279 bg5) (ap (f61_ok (mnI bb2 v276) x245 h280) an) ?_
   obtain ⟨o330,h331,h⟩:=Qc h
   cases o330 with
   | norm v332 =>
    refine T.oneN (by kernel_rfl) (f43n6_ok bg1 bb2 bh3 bb4 v242 x245 v276 x279 bg5 h331) (st2:=(f43n6E bg1 bb2 bh3 bb4 v242 x245 v276 x279 bg5 (.norm v332)).2) rfl ?_
    rcases Qg h with ⟨h338,h⟩ | ⟨h338,h⟩
    ·rcases Qg h with ⟨h339, h⟩ | ⟨h339, h⟩
     ·obtain rfl := Qe h
      exact rE Qf [j3,([],[(2,.app false)],[]),j3] [some true] [] [1] [0,1,2,8,9] (.norm,(f43n2E bg1 bb2 bh3 bb4 bg5 (.norm (wr64 (bb2-(mnI bb2 v276))) v332)).2) (ap h338 (ap (nil_map (c:=Qa.cells) h339) an)) rfl
     ·obtain ⟨h340, h⟩ := Qq h
      obtain rfl:=Qe h
      exact rE Qf [j3,([],[(2,.app true)],[(2,.row 2 ((v332++bg5).map Qa.cells))]),j3] [some true] [] [2] [0,1,2,8,9] (.norm,(f43n2E bg1 bb2 bh3 bb4 bg5 (.norm (wr64 (bb2-(mnI bb2 v276))) (v332++bg5))).2) (ap h338 (ap (fit_map2 (te:=ti59) (xs:=v332) (ys:=bg5) (c:=Qa.cells) (d:=Qa.cells) h340 rfl) (ap (ne_map (c:=Qa.cells) h339) (ap (len_all (c:=Qa.cells) (xs:=bg5) (n:=3) (fun _=>rfl)) (ap (app_cv (xs:=v332) (ys:=bg5) (c:=Qa.cells)) an))))) rfl
    ·rcases Qg h with ⟨h341, h⟩ | ⟨h341, h⟩
     ·obtain rfl := Qe h
      exact rE Qf [j3,([],[(2,.app false)],[]),j3] [some false] [] [0] [0,1,2,8,9] (.norm,(f43n2E bg1 bb2 bh3 bb4 bg5 (.norm (wr64 (bb2-(mnI bb2 v276))) bg5)).2) (ap h338 (ap (nil_map (c:=Qa.cells) h341) an)) rfl
     ·obtain ⟨h342, h⟩ := Qq h
      obtain rfl:=Qe h
      exact rE Qf [j3,([],[(2,.app true)],[(2,.row 2 ((bg5++v332).map Qa.cells))]),j3] [some false] [] [2] [0,1,2,8,9] (.norm,(f43n2E bg1 bb2 bh3 bb4 bg5 (.norm (wr64 (bb2-(mnI bb2 v276))) (bg5++v332))).2) (ap h338 (ap (fit_map2 (te:=ti59) (xs:=bg5) (ys:=v332) (c:=Qa.cells) (d:=Qa.cells) h342 rfl) (ap (ne_map (c:=Qa.cells) h341) (ap (len_all (c:=Qa.cells) (xs:=v332) (n:=3) (fun _=>rfl)) (ap (app_cv (xs:=bg5) (ys:=v332) (c:=Qa.cells)) an))))) rfl
inductive f43n8O where
 | exit0 (v349:Int) (v350:List Qa)
def f43n8E (bg1:List Qa) (bh3:Bool):f43n8O→Ex×Tr×Hp
 | .exit0 v349 v350=>((.exit 0),mkS [(1,(jI v349)),(8,(.own 0))],[jR 3 Qa.cells v350])
def f43n8S (bg1:List Qa) (bh3:Bool) (v231:Int) (v232:Int) (v233:List Qa):Tr×Hp:=(mkS [(0,(jL 3 Qa.cells bg1)),(1,(jI v231)),(2,(jB bh3)),(8,(.own 0)),(9,(jI v232))],[jR 3 Qa.cells v233])
noncomputable def f43n8:Nat→List Qa→Bool→Int→Int→List Qa→Option f43n8O
 | 0,_,_,_,_,_=>none
 | f + 1, bg1, bh3, v231, v232, v233 =>
  bif (decide (v232<10)) then
   (f43n2 bg1 v231 bh3 v232 v233).bind fun o345=>match o345 with
   | .norm v347 v348=>(f43n8 f bg1 bh3 v347 (wr64 (v232+1)) v348)
  else
   some (.exit0 v231 v233)
theorem f43n8_ok:∀(f:Nat) (bg1:List Qa) (bh3:Bool) (v231:Int) (v232:Int) (v233:List Qa) {o:f43n8O},(f43n8 f bg1 bh3 v231 v232 v233)=some o→TL Try.prog Try.f43.ntmps 0 f (cL (cL (Qj 1 (cL (Qj 2 c43))))) (f43n8S bg1 bh3 v231 v232 v233) (fun r=>r=f43n8E bg1 bh3 o)
 | 0,_,_,_,_,_,o,h=>by rw [f43n8] at h; cases h
 | f + 1, bg1, bh3, v231, v232, v233, o, h => by
  rw [f43n8] at h
  refine TL.body (K:=fun s=>∃v231:Int,∃v232:Int,∃v233:List Qa,s=(f43n8S bg1 bh3 v231 v232 v233)∧(f43n8 f bg1 bh3 v231 v232 v233)=some o) ?_ (by rintro _ ⟨v231,v232,v233,rfl,hk⟩; exact f43n8_ok f _ _ _ _ _ hk)
  rcases Qg h with ⟨h235,h⟩ | ⟨h235,h⟩
  ·refine rN Qf 1 [j3] [some true] [] [0] [0, 1, 2, 8, 9] (f43n2S bg1 v231 bh3 v232 v233) (ap h235 an) ?_
   obtain ⟨o345,h346,h⟩:=Qc h
   cases o345 with
   | norm v347 v348 =>
    refine T.oneN (by kernel_rfl) (f43n2_ok bg1 v231 bh3 v232 v233 h346) (st2:=(f43n2E bg1 v231 bh3 v232 v233 (.norm v347 v348)).2) rfl ?_
    exact rE Qf [j3] [] [] [0] [0,1,2,8,9] (.norm,(f43n8S bg1 bh3 v347 (wr64 (v232+1)) v348)) an (Qo.norm ⟨v347,(wr64 (v232+1)),v348,rfl,h⟩)
  ·obtain rfl := Qe h
   exact rK Qf 1 [j3] [some false] [] [0] [1,8] (.exit 0) ((f43n8E bg1 bh3 (.exit0 v231 v233)).2) (ap h235 an) (Qo.out rfl rfl)
inductive f43n1O where
 | norm (v355:Int) (v356:List Qa)
def f43n1E (bg1:List Qa) (bb2:Int) (bh3:Bool):f43n1O→Ex×Tr×Hp
 | .norm v355 v356=>(.norm,mkS [(1,(jI v355)),(8,(.own 0))],[jR 3 Qa.cells v356])
def f43n1S (bg1:List Qa) (bb2:Int) (bh3:Bool):Tr×Hp:=(mkS [(0,(jL 3 Qa.cells bg1)),(1,(jI bb2)),(2,(jB bh3)),(8,(.pl (.sl .nil 0 [])))],[])
noncomputable def f43n1 (bg1:List Qa) (bb2:Int) (bh3:Bool):Option f43n1O :=
 (f43n8 FUEL bg1 bh3 bb2 0 []).bind fun o351=>match o351 with
 | .exit0 v353 v354=>some (.norm v353 v354)
theorem f43n1_ok (bg1:List Qa) (bb2:Int) (bh3:Bool) {o:f43n1O} (h:(f43n1 bg1 bb2 bh3)=some o):T Try.prog Try.f43.ntmps 0 (cL (Qj 2 c43)) (f43n1S bg1 bb2 bh3) (fun r=>r=f43n1E bg1 bb2 bh3 o):=by
 unfold f43n1 at h
 refine rN Qf 1 [j3] [] [.mat 8 3] [0] [0,1,2,8,9] (f43n8S bg1 bh3 bb2 0 []) an ?_
 obtain ⟨o351,h352,h⟩:=Qc h
 cases o351 with
 | exit0 v353 v354 =>
  obtain rfl:=Qe h
  exact T.last' (T.bl (i:=0) (by kernel_rfl) (by kernel_rfl) (f43n8_ok FUEL bg1 bh3 bb2 0 [] h352)) (tds:=[]) (m:=[0]) (keep:=[1,8]) (st2:=(f43n1E bg1 bb2 bh3 (.norm v353 v354)).2) (by kernel_rfl) an rfl
inductive f43n0O where
 | ret (v361:Int) (v362:List Qa)
def f43n0E (a1:List Qa) (a2:Int) (a3:Bool):f43n0O→Ex×Tr×Hp
 | .ret v361 v362=>(.ret,mkS [(6,(.own 0)),(7,(jI v361))],[jR 3 Qa.cells v362])
def f43n0S (a1:List Qa) (a2:Int) (a3:Bool):Tr×Hp:=(Qx [(jL 3 Qa.cells a1),(jI a2),(jB a3)] 0 .leaf,[])
noncomputable def f43n0 (a1:List Qa) (a2:Int) (a3:Bool):Option f43n0O :=
 (f43n1 a1 a2 a3).bind fun o357=>match o357 with
 | .norm v359 v360=>some (.ret v359 v360)
theorem f43n0_ok (a1:List Qa) (a2:Int) (a3:Bool) {o:f43n0O} (h:(f43n0 a1 a2 a3)=some o):T Try.prog Try.f43.ntmps 0 c43 (f43n0S a1 a2 a3) (fun r=>r=f43n0E a1 a2 a3 o):=by
 unfold f43n0 at h
 refine rN Qf 2 [j3,j3] [] [] [] [0,1,2,8] (f43n1S a1 a2 a3) an ?_
 obtain ⟨o357,h358,h⟩:=Qc h
 cases o357 with
 | norm v359 v360 =>
  refine T.oneN (by kernel_rfl) (f43n1_ok a1 a2 a3 h358) (st2:=(f43n1E a1 a2 a3 (.norm v359 v360)).2) rfl ?_
  obtain rfl:=Qe h
  exact rE Qf [j3] [] [] [0] [6,7] (.ret,(f43n0E a1 a2 a3 (.ret v359 v360)).2) an rfl
noncomputable def f43 (a1:List Qa) (a2:Int) (a3:Bool):Option ((List Qa)×Int):=(f43n0 a1 a2 a3).bind fun o=>match o with
 | .ret v361 v362=>some (v362,v361)
theorem f43_ok (a1:List Qa) (a2:Int) (a3:Bool) {r:(List Qa)×Int} (h:(f43 a1 a2 a3)=some r):Ql Try.prog false 43 [(jL 3 Qa.cells a1),(jI a2),(jB a3)] [] (.tup [(jL 3 Qa.cells r.1),(jI r.2)]) []:=by
 unfold f43 at h
 obtain ⟨o,ho,h⟩:=Qc h
 cases o with
 | ret v361 v362 =>
  obtain rfl:=Qe h
  exact Ql.plain Qf (f:=Try.f43) (c:=c43) (by kernel_rfl) (by kernel_rfl) (by kernel_rfl) (by kernel_rfl) ((f43n0_ok a1 a2 a3 ho).mono fun r e=>by subst e; exact ⟨.inl rfl,(.tup [(.own 0),(jI v361)]),(.tup [(jL 3 Qa.cells v362),(jI v361)]),by kernel_rfl,by kernel_rfl,((Wk.refl _):Wk (.tup [(jL 3 Qa.cells v362),(jI v361)]) (.tup [(jL 3 Qa.cells v362),(jI v361)]))⟩)

noncomputable def c20:Code:=Try.f20.body.getD .skip
inductive f20n0O where
 | ret (v23:List Qa) (v24:Int) (v25:Int)
def f20n0E (a1:List Qb) (a2:Int):f20n0O→Ex×Tr×Hp
 | .ret v23 v24 v25=>(.ret,mkS [(4,(jL 3 Qa.cells v23)),(5,(jI v24)),(6,(jI v25))],[])
def f20n0S (a1:List Qb) (a2:Int):Tr×Hp:=(Qx [(jL 4 Qb.cells a1),(jI a2)] 0 .leaf,[])
noncomputable def f20n0 (a1:List Qb) (a2:Int):Option f20n0O :=
 (f24 a1).bind fun x6 =>
 bif (decide (x6=0)) then
  (f42 a2).bind fun x12 =>
  bif x12 then
   (f44 a1).bind fun x19 =>
   (f43 x19 a2 false).bind fun x21 =>
   some (.ret x21.1 x21.2 0)
  else
   some (.ret [] 0 2)
 else
  some (.ret [] 0 8)
theorem f20n0_ok (a1:List Qb) (a2:Int) {o:f20n0O} (h:(f20n0 a1 a2)=some o):T Try.prog Try.f20.ntmps 0 c20 (f20n0S a1 a2) (fun r=>r=f20n0E a1 a2 o):=by
 unfold f20n0 at h
 obtain ⟨x6,h7,h⟩:=Qc h
 rcases Qg h with ⟨h8,h⟩ | ⟨h8,h⟩
 ·obtain ⟨x12, h13, h⟩ := Qc h
  rcases Qg h with ⟨h14,h⟩ | ⟨h14,h⟩
  ·obtain ⟨x19, h20, h⟩ := Qc h
   obtain ⟨x21,h22,h⟩:=Qc h
   obtain rfl:=Qe h
   exact rE Qf [j3,([],[jH 1 (jI x6)],[]),([],[jH 1 (jB x12)],[]),([],[jH 1 (jL 3 Qa.cells x19),jH 3 (.tup [(jL 3 Qa.cells x21.1),(jI x21.2)])],[]),j3] [some false,some false] [] [] [4,5,6] (.ret,(f20n0E a1 a2 (.ret x21.1 x21.2 0)).2) (ap (f24_ok a1 h7) (ap (Qaj h8) (ap (f42_ok a2 h13) (ap (Qaj h14) (ap (f44_ok a1 h20) (ap (f43_ok x19 a2 false h22) an)))))) rfl
  ·obtain rfl := Qe h
   exact rK Qf 3 [j3,([],[jH 1 (jI x6)],[]),([],[jH 1 (jB x12)],[]),j3] [some false,some true] [.wk 4 (.pl (.sl .any 3 ([].map Qa.cells)))] [] [4,5,6] .ret ((f20n0E a1 a2 (.ret [] 0 2)).2) (ap (f24_ok a1 h7) (ap (Qaj h8) (ap (f42_ok a2 h13) (ap (Qac h14) (ap ((Wk.pl (WkP.nil (f:=.nil) (sz:=0) (sz':=3))):Wk (.pl (.sl .nil 0 [])) (.pl (.sl .any 3 ([].map Qa.cells)))) an))))) rfl
 ·obtain rfl := Qe h
  exact rK Qf 2 [j3,([],[jH 1 (jI x6)],[]),j3] [some true] [.wk 4 (.pl (.sl .any 3 ([].map Qa.cells)))] [] [4,5,6] .ret ((f20n0E a1 a2 (.ret [] 0 8)).2) (ap (f24_ok a1 h7) (ap (Qac h8) (ap ((Wk.pl (WkP.nil (f:=.nil) (sz:=0) (sz':=3))):Wk (.pl (.sl .nil 0 [])) (.pl (.sl .any 3 ([].map Qa.cells)))) an))) rfl
noncomputable def f20 (a1:List Qb) (a2:Int):Option ((List Qa)×Int×Int):=(f20n0 a1 a2).bind fun o=>match o with
 | .ret v23 v24 v25=>some (v23,v24,v25)
theorem f20_ok (a1:List Qb) (a2:Int) {r:(List Qa)×Int×Int} (h:(f20 a1 a2)=some r):Ql Try.prog false 20 [(jL 4 Qb.cells a1),(jI a2)] [] (.tup [(jL 3 Qa.cells r.1),(jI r.2.1),(jI r.2.2)]) []:=by
 unfold f20 at h
 obtain ⟨o,ho,h⟩:=Qc h
 cases o with
 | ret v23 v24 v25 =>
  obtain rfl:=Qe h
  exact Ql.plain Qf (f:=Try.f20) (c:=c20) (by kernel_rfl) (by kernel_rfl) (by kernel_rfl) (by kernel_rfl) ((f20n0_ok a1 a2 ho).mono fun r e=>by subst e; exact ⟨.inl rfl,(.tup [(jL 3 Qa.cells v23),(jI v24),(jI v25)]),(.tup [(jL 3 Qa.cells v23),(jI v24),(jI v25)]),by kernel_rfl,by kernel_rfl,((Wk.refl _):Wk (.tup [(jL 3 Qa.cells v23),(jI v24),(jI v25)]) (.tup [(jL 3 Qa.cells v23),(jI v24),(jI v25)]))⟩)

noncomputable def c21:Code:=Try.f21.body.getD .skip
inductive f21n0O where
 | ret (v12:Int) (v13:Int)
def f21n0E (a1:List Qb):f21n0O→Ex×Tr×Hp
 | .ret v12 v13=>(.ret,mkS [(2,(jI v12)),(3,(jI v13))],[])
def f21n0S (a1:List Qb):Tr×Hp:=(Qx [(jL 4 Qb.cells a1)] 0 .leaf,[])
noncomputable def f21n0 (a1:List Qb):Option f21n0O :=
 (f23 a1).bind fun x5 =>
 bif (decide (x5=0)) then
  (f45_37 a1).bind fun x10 =>
  some (.ret x10 0)
 else
  some (.ret 0 x5)
theorem f21n0_ok (a1:List Qb) {o:f21n0O} (h:(f21n0 a1)=some o):T Try.prog Try.f21.ntmps 0 c21 (f21n0S a1) (fun r=>r=f21n0E a1 o):=by
 unfold f21n0 at h
 obtain ⟨x5,h6,h⟩:=Qc h
 rcases Qg h with ⟨h7,h⟩ | ⟨h7,h⟩
 ·obtain ⟨x10, h11, h⟩ := Qc h
  obtain rfl:=Qe h
  exact rE Qf [j3,([],[jH 1 (jI x5)],[]),j3,([],[jH 1 (jI x10)],[])] [some false] [] [] [2,3] (.ret,(f21n0E a1 (.ret x10 0)).2) (ap (f23_ok a1 h6) (ap (Qaj h7) (ap (f45_37_ok a1 h11) an))) rfl
 ·obtain rfl := Qe h
  exact rK Qf 2 [j3,([],[jH 1 (jI x5)],[]),j3,j3] [some true] [] [] [2,3] .ret ((f21n0E a1 (.ret 0 x5)).2) (ap (f23_ok a1 h6) (ap (Qac h7) an)) rfl
noncomputable def f21 (a1:List Qb):Option (Int×Int):=(f21n0 a1).bind fun o=>match o with
 | .ret v12 v13=>some (v12,v13)
theorem f21_ok (a1:List Qb) {r:Int×Int} (h:(f21 a1)=some r):Ql Try.prog false 21 [(jL 4 Qb.cells a1)] [] (.tup [(jI r.1),(jI r.2)]) []:=by
 unfold f21 at h
 obtain ⟨o,ho,h⟩:=Qc h
 cases o with
 | ret v12 v13 =>
  obtain rfl:=Qe h
  exact Ql.plain Qf (f:=Try.f21) (c:=c21) (by kernel_rfl) (by kernel_rfl) (by kernel_rfl) (by kernel_rfl) ((f21n0_ok a1 ho).mono fun r e=>by subst e; exact ⟨.inl rfl,(.tup [(jI v12),(jI v13)]),(.tup [(jI v12),(jI v13)]),by kernel_rfl,by kernel_rfl,((Wk.refl _):Wk (.tup [(jI v12),(jI v13)]) (.tup [(jI v12),(jI v13)]))⟩)

noncomputable def c22:Code:=Try.f22.body.getD .skip
inductive f22n2O where
 | exit0 (v30:Int)
def f22n2E (ba1:List Qb):f22n2O→Ex×Tr×Hp
 | .exit0 v30=>((.exit 0),mkS [(4,(jI v30))],[])
def f22n2S (ba1:List Qb) (v22:Int) (v23:Int):Tr×Hp:=(mkS [(0,(jL 4 Qb.cells ba1)),(4,(jI v22)),(5,(jI v23))],[])
noncomputable def f22n2:Nat→List Qb→Int→Int→Option f22n2O
 | 0,_,_,_=>none
 | f + 1, ba1, v22, v23 =>
  bif (decide (v23<(ba1.length:Int))) then
   (at? ba1 v23).bind fun x28 =>
   (f22n2 f ba1 (wr64 (v22+x28.Size)) (wr64 (v23+1)))
  else
   some (.exit0 v22)
theorem f22n2_ok:∀(f:Nat) (ba1:List Qb) (v22:Int) (v23:Int) {o:f22n2O},(f22n2 f ba1 v22 v23)=some o→TL Try.prog Try.f22.ntmps 0 f (cL (cL (Qj 1 (cL (Qj 3 c22))))) (f22n2S ba1 v22 v23) (fun r=>r=f22n2E ba1 o)
 | 0,_,_,_,o,h=>by rw [f22n2] at h; cases h
 | f + 1, ba1, v22, v23, o, h => by
  rw [f22n2] at h
  refine TL.body (K:=fun s=>∃v22:Int,∃v23:Int,s=(f22n2S ba1 v22 v23)∧(f22n2 f ba1 v22 v23)=some o) ?_ (by rintro _ ⟨v22,v23,rfl,hk⟩; exact f22n2_ok f _ _ _ hk)
  rcases Qg h with ⟨h25,h⟩ | ⟨h25,h⟩
  ·obtain ⟨x28, h29, h⟩ := Qc h
   exact rE Qf [([],[],[(2,.val (jI (ba1.length:Int)))]),([],[(3,.idx (Int.toNat v23) (Qb.cells x28))],[]),j3] [some true] [] [] [0,4,5] (.norm,(f22n2S ba1 (wr64 (v22+x28.Size)) (wr64 (v23+1)))) (ap (Qp (xs:=ba1) (c:=Qb.cells)) (ap h25 (ap (Qh h29).1 (ap (Qm Qb.cells (Qh h29).2) an)))) (Qo.norm ⟨(wr64 (v22+x28.Size)),(wr64 (v23+1)),rfl,h⟩)
  ·obtain rfl := Qe h
   exact rK Qf 1 [([],[],[(2,.val (jI (ba1.length:Int)))])] [some false] [] [] [4] (.exit 0) ((f22n2E ba1 (.exit0 v22)).2) (ap (Qp (xs:=ba1) (c:=Qb.cells)) (ap h25 an)) (Qo.out rfl rfl)
noncomputable def f22n2L (ba1:List Qb):List Qb→Int→Int→Option f22n2O
 | [], v22, v23 =>
  some (.exit0 v22)
 | x0 :: rest, v22, v23 =>
  (f22n2L ba1 rest (wr64 (v22+x0.Size)) (v23+1))
theorem f22n2L_eq (ba1:List Qb):∀(rest:List Qb) (f k:Nat) (v22:Int),ba1.drop k=rest→ba1.length≤maxLen→rest.length<f→f22n2 f ba1 v22 (k:Int)=f22n2L ba1 rest v22 (k:Int)
 | _,0,_,_,_,_,hf=>absurd hf (Nat.not_lt_zero _)
 | [], f + 1, k, v22, hd, hm, hf => by
  have hk:¬((k:Int)<(ba1.length:Int)):=by have:=Qak hd; omega
  rw [f22n2,f22n2L]
  simp only [decide_eq_false hk,cond_false]
 | x0 :: rest, f + 1, k, v22, hd, hm, hf => by
  obtain ⟨hx,hlt,hd'⟩:=Qaf hd
  have hk:(k:Int)<(ba1.length:Int):=by omega
  have hw:wr64 ((k:Int)+1)=(k:Int)+1:=Qbw (by omega) (by unfold maxLen at hm; omega)
  have ih:∀(v22:Int),f22n2 f ba1 v22 ((k:Int)+1)=f22n2L ba1 rest v22 ((k:Int)+1):=fun v22=>f22n2L_eq ba1 rest f (k+1) v22 hd' hm (by simpa using hf)
  rw [f22n2,f22n2L]
  simp only [decide_eq_true hk,cond_true,at_nat,hx,Option.bind_some,hw,ih]
theorem f22n2_run (ba1:List Qb) (v22:Int) (hm:ba1.length≤maxLen):f22n2 FUEL ba1 v22 0=f22n2L ba1 ba1 v22 0:=f22n2L_eq ba1 ba1 FUEL 0 v22 List.drop_zero hm (Qab hm)
inductive f22n1O where
 | norm (v34:Int)
def f22n1E (ba1:List Qb):f22n1O→Ex×Tr×Hp
 | .norm v34=>(.norm,mkS [(4,(jI v34))],[])
def f22n1S (ba1:List Qb):Tr×Hp:=(mkS [(0,(jL 4 Qb.cells ba1)),(4,(jI 0))],[])
noncomputable def f22n1 (ba1:List Qb):Option f22n1O :=
 (f22n2 FUEL ba1 0 0).bind fun o31=>match o31 with
 | .exit0 v33=>some (.norm v33)
theorem f22n1_ok (ba1:List Qb) {o:f22n1O} (h:(f22n1 ba1)=some o):T Try.prog Try.f22.ntmps 0 (cL (Qj 3 c22)) (f22n1S ba1) (fun r=>r=f22n1E ba1 o):=by
 unfold f22n1 at h
 refine rN Qf 1 [j3] [] [] [] [0,4,5] (f22n2S ba1 0 0) an ?_
 obtain ⟨o31,h32,h⟩:=Qc h
 cases o31 with
 | exit0 v33 =>
  obtain rfl:=Qe h
  exact T.last' (T.bl (i:=0) (by kernel_rfl) (by kernel_rfl) (f22n2_ok FUEL ba1 0 0 h32)) (tds:=[]) (m:=[]) (keep:=[4]) (st2:=(f22n1E ba1 (.norm v33)).2) (by kernel_rfl) an rfl
inductive f22n0O where
 | ret (v38:Int) (v39:Int)
def f22n0E (a1:List Qb):f22n0O→Ex×Tr×Hp
 | .ret v38 v39=>(.ret,mkS [(2,(jI v38)),(3,(jI v39))],[])
def f22n0S (a1:List Qb):Tr×Hp:=(Qx [(jL 4 Qb.cells a1)] 0 .leaf,[])
noncomputable def f22n0 (a1:List Qb):Option f22n0O :=
 (f24 a1).bind fun x5 =>
 bif (decide (x5=0)) then
  (f22n1 a1).bind fun o35=>match o35 with
  | .norm v37=>some (.ret v37 0)
 else
  some (.ret 0 8)
theorem f22n0_ok (a1:List Qb) {o:f22n0O} (h:(f22n0 a1)=some o):T Try.prog Try.f22.ntmps 0 c22 (f22n0S a1) (fun r=>r=f22n0E a1 o):=by
 unfold f22n0 at h
 obtain ⟨x5,h6,h⟩:=Qc h
 rcases Qg h with ⟨h7,h⟩ | ⟨h7,h⟩
 ·refine rN Qf 3 [j3, ([], [jH 1 (jI x5)], []), j3] [some false] [] [] [0, 4] (f22n1S a1) (ap (f24_ok a1 h6) (ap (Qaj h7) an)) ?_
  obtain ⟨o35,h36,h⟩:=Qc h
  cases o35 with
  | norm v37 =>
   refine T.oneN (by kernel_rfl) (f22n1_ok a1 h36) (st2:=(f22n1E a1 (.norm v37)).2) rfl ?_
   obtain rfl:=Qe h
   exact rE Qf [j3] [] [] [] [2,3] (.ret,(f22n0E a1 (.ret v37 0)).2) an rfl
 ·obtain rfl := Qe h
  exact rK Qf 2 [j3,([],[jH 1 (jI x5)],[]),j3] [some true] [] [] [2,3] .ret ((f22n0E a1 (.ret 0 8)).2) (ap (f24_ok a1 h6) (ap (Qac h7) an)) rfl
noncomputable def f22 (a1:List Qb):Option (Int×Int):=(f22n0 a1).bind fun o=>match o with
 | .ret v38 v39=>some (v38,v39)
theorem f22_ok (a1:List Qb) {r:Int×Int} (h:(f22 a1)=some r):Ql Try.prog false 22 [(jL 4 Qb.cells a1)] [] (.tup [(jI r.1),(jI r.2)]) []:=by
 unfold f22 at h
 obtain ⟨o,ho,h⟩:=Qc h
 cases o with
 | ret v38 v39 =>
  obtain rfl:=Qe h
  exact Ql.plain Qf (f:=Try.f22) (c:=c22) (by kernel_rfl) (by kernel_rfl) (by kernel_rfl) (by kernel_rfl) ((f22n0_ok a1 ho).mono fun r e=>by subst e; exact ⟨.inl rfl,(.tup [(jI v38),(jI v39)]),(.tup [(jI v38),(jI v39)]),by kernel_rfl,by kernel_rfl,((Wk.refl _):Wk (.tup [(jI v38),(jI v39)]) (.tup [(jI v38),(jI v39)]))⟩)

noncomputable def c25:Code:=Try.f25.body.getD .skip
inductive f25n2O where
 | exit0
 | ret
def f25n2E (ba1:List Qb) (ba2:List Qb):f25n2O→Ex×Tr×Hp
 | .exit0=>((.exit 0),mkS [],[])
 | .ret=>(.ret,mkS [(4,(jB false))],[])
def f25n2S (ba1:List Qb) (ba2:List Qb) (v30:Int):Tr×Hp:=(mkS [(0,(jL 4 Qb.cells ba1)),(1,(jL 4 Qb.cells ba2)),(5,(jI v30))],[])
noncomputable def f25n2:Nat→List Qb→List Qb→Int→Option f25n2O
 | 0,_,_,_=>none
 | f + 1, ba1, ba2, v30 =>
  bif (decide (v30<(ba1.length:Int))) then
   (at? ba1 v30).bind fun x38 =>
   (at? ba2 v30).bind fun x40 =>
   bif (Qb.eqb x38 x40) then
    (f25n2 f ba1 ba2 (wr64 (v30+1)))
   else
    some .ret
  else
   some .exit0
theorem f25n2_ok:∀(f:Nat) (ba1:List Qb) (ba2:List Qb) (v30:Int) {o:f25n2O},(f25n2 f ba1 ba2 v30)=some o→TL Try.prog Try.f25.ntmps 0 f (cL (cL (Qj 1 (cL (Qj 2 c25))))) (f25n2S ba1 ba2 v30) (fun r=>r=f25n2E ba1 ba2 o)
 | 0,_,_,_,o,h=>by rw [f25n2] at h; cases h
 | f + 1, ba1, ba2, v30, o, h => by
  rw [f25n2] at h
  refine TL.body (K:=fun s=>∃v30:Int,s=(f25n2S ba1 ba2 v30)∧(f25n2 f ba1 ba2 v30)=some o) ?_ (by rintro _ ⟨v30,rfl,hk⟩; exact f25n2_ok f _ _ _ hk)
  rcases Qg h with ⟨h32,h⟩ | ⟨h32,h⟩
  ·obtain ⟨x38, h39, h⟩ := Qc h
   obtain ⟨x40,h41,h⟩:=Qc h
   rcases Qg h with ⟨h42,h⟩ | ⟨h42,h⟩
   ·exact rE Qf [([],[],[(2,.val (jI (ba1.length:Int)))]),([],[(2,.idx (Int.toNat v30) (Qb.cells x38)),(6,.idx (Int.toNat v30) (Qb.cells x40)),(8,.bool (Qb.eqb x38 x40))],[]),j3] [some true,some false] [] [] [0,1,5] (.norm,(f25n2S ba1 ba2 (wr64 (v30+1)))) (ap (Qp (xs:=ba1) (c:=Qb.cells)) (ap h32 (ap (Qh h39).1 (ap (Qm Qb.cells (Qh h39).2) (ap (Qh h41).1 (ap (Qm Qb.cells (Qh h41).2) (ap (Qb.eqb_ok x38 x40) (ap (Qaj h42) an)))))))) (Qo.norm ⟨(wr64 (v30+1)),rfl,h⟩)
   ·obtain rfl := Qe h
    exact rK Qf 2 [([],[],[(2,.val (jI (ba1.length:Int)))]),([],[(2,.idx (Int.toNat v30) (Qb.cells x38)),(6,.idx (Int.toNat v30) (Qb.cells x40)),(8,.bool (Qb.eqb x38 x40))],[]),j3] [some true,some true] [] [] [4] .ret ((f25n2E ba1 ba2 .ret).2) (ap (Qp (xs:=ba1) (c:=Qb.cells)) (ap h32 (ap (Qh h39).1 (ap (Qm Qb.cells (Qh h39).2) (ap (Qh h41).1 (ap (Qm Qb.cells (Qh h41).2) (ap (Qb.eqb_ok x38 x40) (ap (Qac h42) an)))))))) (Qo.out rfl rfl)
  ·obtain rfl := Qe h
   exact rK Qf 1 [([],[],[(2,.val (jI (ba1.length:Int)))])] [some false] [] [] [] (.exit 0) ((f25n2E ba1 ba2 .exit0).2) (ap (Qp (xs:=ba1) (c:=Qb.cells)) (ap h32 an)) (Qo.out rfl rfl)
noncomputable def f25n2L (ba1:List Qb) (ba2:List Qb):List Qb→Int→Option f25n2O
 | [], v30 =>
  some .exit0
 | x0 :: rest, v30 =>
  (at? ba2 v30).bind fun x40 =>
  bif (Qb.eqb x0 x40) then
   (f25n2L ba1 ba2 rest (v30+1))
  else
   some .ret
theorem f25n2L_eq (ba1:List Qb) (ba2:List Qb):∀(rest:List Qb) (f k:Nat),ba1.drop k=rest→ba1.length≤maxLen→rest.length<f→f25n2 f ba1 ba2 (k:Int)=f25n2L ba1 ba2 rest (k:Int)
 | _,0,_,_,_,hf=>absurd hf (Nat.not_lt_zero _)
 | [], f + 1, k, hd, hm, hf => by
  have hk:¬((k:Int)<(ba1.length:Int)):=by have:=Qak hd; omega
  rw [f25n2,f25n2L]
  simp only [decide_eq_false hk,cond_false]
 | x0 :: rest, f + 1, k, hd, hm, hf => by
  obtain ⟨hx,hlt,hd'⟩:=Qaf hd
  have hk:(k:Int)<(ba1.length:Int):=by omega
  have hw:wr64 ((k:Int)+1)=(k:Int)+1:=Qbw (by omega) (by unfold maxLen at hm; omega)
  have ih:f25n2 f ba1 ba2 ((k:Int)+1)=f25n2L ba1 ba2 rest ((k:Int)+1):=f25n2L_eq ba1 ba2 rest f (k+1) hd' hm (by simpa using hf)
  rw [f25n2,f25n2L]
  simp only [decide_eq_true hk,cond_true,at_nat,hx,Option.bind_some,hw,ih]
theorem f25n2_run (ba1:List Qb) (ba2:List Qb) (hm:ba1.length≤maxLen):f25n2 FUEL ba1 ba2 0=f25n2L ba1 ba2 ba1 0:=f25n2L_eq ba1 ba2 ba1 FUEL 0 List.drop_zero hm (Qab hm)
inductive f25n1O where
 | norm
 | ret
def f25n1E (ba1:List Qb) (ba2:List Qb):f25n1O→Ex×Tr×Hp
 | .norm=>(.norm,mkS [],[])
 | .ret=>(.ret,mkS [(4,(jB false))],[])
def f25n1S (ba1:List Qb) (ba2:List Qb):Tr×Hp:=(mkS [(0,(jL 4 Qb.cells ba1)),(1,(jL 4 Qb.cells ba2))],[])
noncomputable def f25n1 (ba1:List Qb) (ba2:List Qb):Option f25n1O :=
 (f25n2 FUEL ba1 ba2 0).bind fun o43=>match o43 with
 | .exit0=>some .norm
 | .ret=>some .ret
theorem f25n1_ok (ba1:List Qb) (ba2:List Qb) {o:f25n1O} (h:(f25n1 ba1 ba2)=some o):T Try.prog Try.f25.ntmps 0 (cL (Qj 2 c25)) (f25n1S ba1 ba2) (fun r=>r=f25n1E ba1 ba2 o):=by
 unfold f25n1 at h
 refine rN Qf 1 [j3] [] [] [] [0,1,5] (f25n2S ba1 ba2 0) an ?_
 obtain ⟨o43,h44,h⟩:=Qc h
 cases o43 with
 | exit0 =>
  obtain rfl:=Qe h
  exact T.last' (T.bl (i:=0) (by kernel_rfl) (by kernel_rfl) (f25n2_ok FUEL ba1 ba2 0 h44)) (tds:=[]) (m:=[]) (keep:=[]) (st2:=(f25n1E ba1 ba2 .norm).2) (by kernel_rfl) an rfl
 | ret =>
  obtain rfl:=Qe h
  exact T.last' (T.bl (i:=0) (by kernel_rfl) (by kernel_rfl) (f25n2_ok FUEL ba1 ba2 0 h44)) (tds:=[]) (m:=[]) (keep:=[4]) (st2:=(f25n1E ba1 ba2 .ret).2) (by kernel_rfl) an rfl
inductive f25n0O where
 | ret (v47:Bool)
def f25n0E (a1:List Qb) (a2:List Qb):f25n0O→Ex×Tr×Hp
 | .ret v47=>(.ret,mkS [(4,(jB v47))],[])
def f25n0S (a1:List Qb) (a2:List Qb):Tr×Hp:=(Qx [(jL 4 Qb.cells a1),(jL 4 Qb.cells a2)] 0 .leaf,[])
noncomputable def f25n0 (a1:List Qb) (a2:List Qb):Option f25n0O :=
 bif (decide ((a1.length:Int)=(a2.length:Int))) then
  (f25n1 a1 a2).bind fun o45=>match o45 with
  | .norm=>some (.ret true)
  | .ret=>some (.ret false)
 else
  some (.ret false)
theorem f25n0_ok (a1:List Qb) (a2:List Qb) {o:f25n0O} (h:(f25n0 a1 a2)=some o):T Try.prog Try.f25.ntmps 0 c25 (f25n0S a1 a2) (fun r=>r=f25n0E a1 a2 o):=by
 unfold f25n0 at h
 rcases Qg h with ⟨h4,h⟩ | ⟨h4,h⟩
 ·refine rN Qf 2 [j3, ([], [], [(1, .val (jI (a1.length : Int))), (3, .val (jI (a2.length : Int)))])] [some false] [] [] [0, 1] (f25n1S a1 a2) (ap (Qp (xs := a1) (c := Qb.cells)) (ap (Qp (xs := a2) (c := Qb.cells)) (ap (Qaj h4) an))) ?_
  obtain ⟨o45,h46,h⟩:=Qc h
  cases o45 with
  | norm =>
   refine T.oneN (by kernel_rfl) (f25n1_ok a1 a2 h46) (st2:=(f25n1E a1 a2 .norm).2) rfl ?_
   obtain rfl:=Qe h
   exact rE Qf [j3] [] [] [] [4] (.ret,(f25n0E a1 a2 (.ret true)).2) an rfl
  | ret =>
   obtain rfl:=Qe h
   exact T.oneX' (by kernel_rfl) (f25n1_ok a1 a2 h46) (tds:=[]) (m:=[]) (keep:=[4]) (st2:=(f25n0E a1 a2 (.ret false)).2) (by kernel_rfl) an rfl rfl
 ·obtain rfl := Qe h
  exact rK Qf 2 [j3,([],[],[(1,.val (jI (a1.length:Int))),(3,.val (jI (a2.length:Int)))]),j3] [some true] [] [] [4] .ret ((f25n0E a1 a2 (.ret false)).2) (ap (Qp (xs:=a1) (c:=Qb.cells)) (ap (Qp (xs:=a2) (c:=Qb.cells)) (ap (Qac h4) an))) rfl
noncomputable def f25 (a1:List Qb) (a2:List Qb):Option Bool:=(f25n0 a1 a2).bind fun o=>match o with
 | .ret v47=>some v47
theorem f25_ok (a1:List Qb) (a2:List Qb) {r:Bool} (h:(f25 a1 a2)=some r):Ql Try.prog false 25 [(jL 4 Qb.cells a1),(jL 4 Qb.cells a2)] [] (jB r) []:=by
 unfold f25 at h
 obtain ⟨o,ho,h⟩:=Qc h
 cases o with
 | ret v47 =>
  obtain rfl:=Qe h
  exact Ql.plain Qf (f:=Try.f25) (c:=c25) (by kernel_rfl) (by kernel_rfl) (by kernel_rfl) (by kernel_rfl) ((f25n0_ok a1 a2 ho).mono fun r e=>by subst e; exact ⟨.inl rfl,(jB v47),(jB v47),by kernel_rfl,by kernel_rfl,((Wk.refl _):Wk (jB v47) (jB v47))⟩)

noncomputable def c6:Code:=Try.f6.body.getD .skip
inductive f6n0O where
 | ret (v83:Bool)
def f6n0E (a1:List Qb) (a2:Int):f6n0O→Ex×Tr×Hp
 | .ret v83=>(.ret,mkS [(4,(jB v83))],[])
def f6n0S (a1:List Qb) (a2:Int):Tr×Hp:=(Qx [(jL 4 Qb.cells a1),(jI a2)] 0 .leaf,[])
noncomputable def f6n0 (a1:List Qb) (a2:Int):Option f6n0O :=
 f11.bind fun x5 =>
 (f12 a1 []).bind fun x11 =>
 bif x11 then
  some (.ret x5)
 else
  bif x5 then
   (f19r1 a1).bind fun x17 =>
   (f13 x17 a2).bind fun x21 =>
   (f20 a1 a2).bind fun x45 =>
   (f21 x17).bind fun x49 =>
   (f22 a1).bind fun x53 =>
   (f18 x21.1 x45.1).bind fun x69 =>
   bif x69 then
    bif (decide (x21.2.1=x45.2.1)) then
     bif (decide (x21.2.2=x45.2.2)) then
      bif (decide (x49.1=x53.1)) then
       bif (decide (x49.2=x53.2)) then
        (f23 x17).bind fun x76 =>
        (f24 a1).bind fun x78 =>
        bif (decide (x76=x78)) then
         (f25 x17 a1).bind fun x81 =>
         some (.ret x81)
        else
         some (.ret false)
       else
        some (.ret false)
      else
       some (.ret false)
     else
      some (.ret false)
    else
     some (.ret false)
   else
    some (.ret false)
  else
   some (.ret x5)
theorem f6n0_ok (a1:List Qb) (a2:Int) {o:f6n0O} (h:(f6n0 a1 a2)=some o):T Try.prog Try.f6.ntmps 0 c6 (f6n0S a1 a2) (fun r=>r=f6n0E a1 a2 o):=by
 unfold f6n0 at h
 obtain ⟨x5,h6,h⟩:=Qc h
 obtain ⟨x11,h12,h⟩:=Qc h
 rcases Qg h with ⟨h13,h⟩ | ⟨h13,h⟩
 ·obtain rfl := Qe h
  exact rK Qf 3 [j3,([],[jH 0 (jB x5)],[]),([(3,true),(4,true)],[jH 1 (jB x11),(5,.bool true)],[]),j3] [none] [] [] [4] .ret ((f6n0E a1 a2 (.ret x5)).2) (ap (f11_ok h6) (ap3 h13 (ap (Ql.wk (args':=[(jL 4 Qb.cells a1),(.pl (.sl .nil 0 []))]) (f12_ok a1 [] h12) (wlc (Wk.refl _) (wlc (Wk.pl (WkP.nil (f:=.nil) (sz:=0) (sz':=3))) wln)) (Wk.refl _) rfl) an))) rfl
 ·rcases Qg h with ⟨h14, h⟩ | ⟨h14, h⟩
  ·obtain ⟨x17, h18, h⟩ := Qc h
   obtain ⟨x21,h22,h⟩:=Qc h
   refine rN Qf 5 [j3,([],[jH 0 (jB x5)],[]),([(3,false),(4,false)],[jH 1 (jB x11),(5,.bool false)],[]),([],[(1,.call (.own 0) [jR 4 Qb.cells x17])],[]),([],[jH 2 (.tup [(jL 3 Qa.cells x21.1),(jI x21.2.1),(jI x21.2.2)])],[])] [some false] [] [0] [0,1,5,6,7,8,9] (mkS [(0,(jL 4 Qb.cells a1)),(1,(jI a2)),(5,(jB x5)),(6,(.own 0)),(7,(jL 3 Qa.cells x21.1)),(8,(jI x21.2.1)),(9,(jI x21.2.2))],[jZ 4 Qb.cells x17]) (ap (f11_ok h6) (ap3 h13 (ap (Ql.wk (args':=[(jL 4 Qb.cells a1),(.pl (.sl .nil 0 []))]) (f12_ok a1 [] h12) (wlc (Wk.refl _) (wlc (Wk.pl (WkP.nil (f:=.nil) (sz:=0) (sz':=3))) wln)) (Wk.refl _) rfl) (ap (Qaj h14) (ap (f19r1_ok a1 h18) (ap (f13_ok x17 a2 h22) an)))))) ?_
   obtain ⟨x45,h46,h⟩:=Qc h
   obtain ⟨x49,h50,h⟩:=Qc h
   obtain ⟨x53,h54,h⟩:=Qc h
   obtain ⟨x69,h70,h⟩:=Qc h
   rcases Qg h with ⟨h71,h⟩ | ⟨h71,h⟩
   ·rcases Qg h with ⟨h72, h⟩ | ⟨h72, h⟩
    ·rcases Qg h with ⟨h73, h⟩ | ⟨h73, h⟩
     ·rcases Qg h with ⟨h74, h⟩ | ⟨h74, h⟩
      ·rcases Qg h with ⟨h75, h⟩ | ⟨h75, h⟩
       ·obtain ⟨x76, h77, h⟩ := Qc h
        obtain ⟨x78,h79,h⟩:=Qc h
        rcases Qg h with ⟨h80,h⟩ | ⟨h80,h⟩
        ·obtain ⟨x81, h82, h⟩ := Qc h
         obtain rfl:=Qe h
         exact rE Qf [([],[jH 2 (.tup [(jL 3 Qa.cells x45.1),(jI x45.2.1),(jI x45.2.2)])],[]),([],[jH 1 (.tup [(jI x49.1),(jI x49.2)])],[]),([],[jH 1 (.tup [(jI x53.1),(jI x53.2)])],[]),(jT [2,3,4,7,8,9,12,13,14,17,18,19,22,23,24,27,28,29,30,31,34,35,36],[jH 4 (jB x69),(5,.bool true),(10,.bool true),(15,.bool true),(20,.bool true),(25,.bool true),jH 28 (jI x76),jH 30 (jI x78),(32,.bool true),jH 36 (jB x81),(37,.bool true)],[])] [] [] [] [4] (.ret,(f6n0E a1 a2 (.ret x81)).2) (ap (f20_ok a1 a2 h46) (ap (f21_ok x17 h50) (ap (f22_ok a1 h54) (ap4 h14 (ap4 h71 (ap4 h72 (ap4 h73 (ap4 h74 (ap2 h75 (ap4 h75 (ap4 h80 (ap (f18_ok x21.1 x45.1 h70) (ap (f23_ok x17 h77) (ap (f24_ok a1 h79) (ap (f25_ok x17 a1 h82) an))))))))))))))) rfl
        ·obtain rfl := Qe h
         exact rE Qf [([],[jH 2 (.tup [(jL 3 Qa.cells x45.1),(jI x45.2.1),(jI x45.2.2)])],[]),([],[jH 1 (.tup [(jI x49.1),(jI x49.2)])],[]),([],[jH 1 (.tup [(jI x53.1),(jI x53.2)])],[]),(jF [34,35,36]++jT [2,3,4,7,8,9,12,13,14,17,18,19,22,23,24,27,28,29,30,31],[jH 4 (jB x69),(5,.bool true),(10,.bool true),(15,.bool true),(20,.bool true),(25,.bool true),jH 28 (jI x76),jH 30 (jI x78),(32,.bool true),(37,.bool false)],[])] [] [] [] [4] (.ret,(f6n0E a1 a2 (.ret false)).2) (ap (f20_ok a1 a2 h46) (ap (f21_ok x17 h50) (ap (f22_ok a1 h54) (ap4 h14 (ap4 h71 (ap4 h72 (ap4 h73 (ap4 h74 (ap2 h75 (ap4 h75 (ap4 h80 (ap (f18_ok x21.1 x45.1 h70) (ap (f23_ok x17 h77) (ap (f24_ok a1 h79) an)))))))))))))) rfl
       ·obtain rfl := Qe h
        exact rE Qf [([],[jH 2 (.tup [(jL 3 Qa.cells x45.1),(jI x45.2.1),(jI x45.2.2)])],[]),([],[jH 1 (.tup [(jI x49.1),(jI x49.2)])],[]),([],[jH 1 (.tup [(jI x53.1),(jI x53.2)])],[]),(jF [27,28,29,30,31]++jT [2,3,4,7,8,9,12,13,14,17,18,19,22,23,24],[jH 4 (jB x69),(5,.bool true),(10,.bool true),(15,.bool true),(20,.bool true),(25,.bool true),(32,.bool false)],[])] [] [] [] [4] (.ret,(f6n0E a1 a2 (.ret false)).2) (ap (f20_ok a1 a2 h46) (ap (f21_ok x17 h50) (ap (f22_ok a1 h54) (ap4 h14 (ap4 h71 (ap4 h72 (ap4 h73 (ap4 h74 (ap2 h75 (ap4 h75 (ap (f18_ok x21.1 x45.1 h70) an))))))))))) rfl
      ·obtain rfl := Qe h
       exact rE Qf [([],[jH 2 (.tup [(jL 3 Qa.cells x45.1),(jI x45.2.1),(jI x45.2.2)])],[]),([],[jH 1 (.tup [(jI x49.1),(jI x49.2)])],[]),([],[jH 1 (.tup [(jI x53.1),(jI x53.2)])],[]),(jF [22,23,24]++jT [2,3,4,7,8,9,12,13,14,17,18,19],[jH 4 (jB x69),(5,.bool true),(10,.bool true),(15,.bool true),(20,.bool true),(25,.bool false)],[])] [] [] [] [4] (.ret,(f6n0E a1 a2 (.ret false)).2) (ap (f20_ok a1 a2 h46) (ap (f21_ok x17 h50) (ap (f22_ok a1 h54) (ap4 h14 (ap4 h71 (ap4 h72 (ap4 h73 (ap4 h74 (ap (f18_ok x21.1 x45.1 h70) an))))))))) rfl
     ·obtain rfl := Qe h
      exact rE Qf [([],[jH 2 (.tup [(jL 3 Qa.cells x45.1),(jI x45.2.1),(jI x45.2.2)])],[]),([],[jH 1 (.tup [(jI x49.1),(jI x49.2)])],[]),([],[jH 1 (.tup [(jI x53.1),(jI x53.2)])],[]),(jF [17,18,19]++jT [2,3,4,7,8,9,12,13,14],[jH 4 (jB x69),(5,.bool true),(10,.bool true),(15,.bool true),(20,.bool false)],[])] [] [] [] [4] (.ret,(f6n0E a1 a2 (.ret false)).2) (ap (f20_ok a1 a2 h46) (ap (f21_ok x17 h50) (ap (f22_ok a1 h54) (ap4 h14 (ap4 h71 (ap4 h72 (ap4 h73 (ap (f18_ok x21.1 x45.1 h70) an)))))))) rfl
    ·obtain rfl := Qe h
     exact rE Qf [([],[jH 2 (.tup [(jL 3 Qa.cells x45.1),(jI x45.2.1),(jI x45.2.2)])],[]),([],[jH 1 (.tup [(jI x49.1),(jI x49.2)])],[]),([],[jH 1 (.tup [(jI x53.1),(jI x53.2)])],[]),(jF [12,13,14]++jT [2,3,4,7,8,9],[jH 4 (jB x69),(5,.bool true),(10,.bool true),(15,.bool false)],[])] [] [] [] [4] (.ret,(f6n0E a1 a2 (.ret false)).2) (ap (f20_ok a1 a2 h46) (ap (f21_ok x17 h50) (ap (f22_ok a1 h54) (ap4 h14 (ap4 h71 (ap4 h72 (ap (f18_ok x21.1 x45.1 h70) an))))))) rfl
   ·obtain rfl := Qe h
    exact rE Qf [([],[jH 2 (.tup [(jL 3 Qa.cells x45.1),(jI x45.2.1),(jI x45.2.2)])],[]),([],[jH 1 (.tup [(jI x49.1),(jI x49.2)])],[]),([],[jH 1 (.tup [(jI x53.1),(jI x53.2)])],[]),(jF [7,8,9]++jT [2,3,4],[jH 4 (jB x69),(5,.bool true),(10,.bool false)],[])] [] [] [] [4] (.ret,(f6n0E a1 a2 (.ret false)).2) (ap (f20_ok a1 a2 h46) (ap (f21_ok x17 h50) (ap (f22_ok a1 h54) (ap4 h14 (ap4 h71 (ap (f18_ok x21.1 x45.1 h70) an)))))) rfl
  ·obtain rfl := Qe h
   exact rK Qf 3 [j3,([],[jH 0 (jB x5)],[]),([(3,false),(4,false)],[jH 1 (jB x11),(5,.bool false)],[]),j3] [some true] [] [] [4] .ret ((f6n0E a1 a2 (.ret x5)).2) (ap (f11_ok h6) (ap3 h13 (ap (Ql.wk (args':=[(jL 4 Qb.cells a1),(.pl (.sl .nil 0 []))]) (f12_ok a1 [] h12) (wlc (Wk.refl _) (wlc (Wk.pl (WkP.nil (f:=.nil) (sz:=0) (sz':=3))) wln)) (Wk.refl _) rfl) (ap (Qac h14) an)))) rfl
noncomputable def f6 (a1:List Qb) (a2:Int):Option Bool:=(f6n0 a1 a2).bind fun o=>match o with
 | .ret v83=>some v83
theorem f6_ok (a1:List Qb) (a2:Int) {r:Bool} (h:(f6 a1 a2)=some r):Ql Try.prog false 6 [(jL 4 Qb.cells a1),(jI a2)] [] (jB r) []:=by
 unfold f6 at h
 obtain ⟨o,ho,h⟩:=Qc h
 cases o with
 | ret v83 =>
  obtain rfl:=Qe h
  exact Ql.plain Qf (f:=Try.f6) (c:=c6) (by kernel_rfl) (by kernel_rfl) (by kernel_rfl) (by kernel_rfl) ((f6n0_ok a1 a2 ho).mono fun r e=>by subst e; exact ⟨.inl rfl,(jB v83),(jB v83),by kernel_rfl,by kernel_rfl,((Wk.refl _):Wk (jB v83) (jB v83))⟩)



end Go.Proofs.Ytgbolgaodaokcaa
namespace Go.Proofs.Ytgbolgaodaokcaa
set_option linter.unusedVariables false
set_option linter.unusedSimpArgs false
set_option maxRecDepth 100000
open Go.RowKit









end Go.Proofs.Ytgbolgaodaokcaa
namespace Go.Proofs.Ytgbolgaodaokcaa
set_option linter.unusedVariables false
set_option linter.unusedSimpArgs false
set_option maxRecDepth 100000
open Go.RowKit




end Go.Proofs.Ytgbolgaodaokcaa
namespace Go.Proofs.Ytgbolgaodaokcaa
set_option linter.unusedVariables false
set_option linter.unusedSimpArgs false
set_option maxRecDepth 100000
open Go.RowKit

end Go.Proofs.Ytgbolgaodaokcaa
