/- Several texts in one. No condition. -/
import Derived.Test.YtgbolgaodaokcaaW5
namespace Go.Proofs.Ytgbolgaodaokcaa
set_option linter.unusedVariables false
set_option linter.unusedSimpArgs false
set_option maxRecDepth 100000
open Go.RowKit
inductive f41r2n2O where
 | norm (v13:Int) (v14:List Int)
def f41r2n2E(bg1:List Qa)(bb2:Int):f41r2n2O→Ex×Tr×Hp
 | .norm v13 v14=>(.norm,mkS [(1,(.pl (.fn 39))),(5,(.bp 1 0)),(8,(.bp 2 0)),(12,(.bp 3 0))],[jR 3 Qa.cells bg1,some (.box [(.own 0)]),some (.box (((cInt .i64) v13).map .pl)),some (.box [(.own 4)]),some (.row false 1 (v14.map (cInt .i64)))])
def f41r2n2S(bg1:List Qa)(bb2:Int):Tr×Hp:=(mkS [(1,(.pl (.fn 39))),(5,(.bp 1 0)),(7,(.bp 2 0)),(8,(.bp 3 0)),(10,(.pl (.sl .nil 0 []))),(11,(jI 0)),(12,(.bp 4 0)),(29,(.clo 75 [(.bp 5 0),(.bp 6 0),(.bp 7 0)]))],[jR 3 Qa.cells bg1,some (.box [(.own 0)]),some (.box [(.pl (.fn 40))]),some (.box (((cInt .i64) bb2).map .pl)),some (.box [(.own 8)]),some (.box [(.own 0)]),some (.box [(.pl (.fn 39))]),some (.box ((Qab true).map .pl)),some (.row false 1 ((List.replicate (Int.toNat (bg1.length:Int)) 0).map (cInt .i64)))])
noncomputable def f41r2n2(bg1:List Qa)(bb2:Int):Option f41r2n2O :=
 (f75r2 bb2 bg1 (List.replicate (Int.toNat (bg1.length:Int)) 0)).bind fun x11 =>
 some (.norm x11.1 x11.2)
theorem f41r2n2_ok(bg1:List Qa)(bb2:Int){o:f41r2n2O}(h:(f41r2n2 bg1 bb2)=some o):T Try.prog Try.f41.ntmps 1 (Qj 1 (cL (Qj 2 c41))) (f41r2n2S bg1 bb2) (fun r=>r=f41r2n2E bg1 bb2 o):=by
 unfold f41r2n2 at h
 refine T.block' (i:=0) (by kernel_rfl) ?_
 refine rN Qf 0 [] [] [] [1,2,3,4,5,6,7,8] [1,5,7,8,10,11,12,29] (mkS [(1,(.pl (.fn 39))),(5,(.bp 1 0)),(7,(.bp 2 0)),(8,(.bp 3 0)),(10,(.pl (.sl .nil 0 []))),(11,(jI 0)),(12,(.bp 4 0)),(29,(.clo 75 [(.bp 5 0),(.bp 6 0),(.bp 7 0)]))],[jR 3 Qa.cells bg1,some (.box [(.own 0)]),some (.box [(.pl (.fn 40))]),some (.box (((cInt .i64) bb2).map .pl)),some (.box [(.own 8)]),some (.box [(.own 0)]),some (.box [(.pl (.fn 39))]),some (.box ((Qab true).map .pl)),some (.row false 1 ((List.replicate (Int.toNat (bg1.length:Int)) 0).map (cInt .i64)))]) an ?_
 obtain ⟨x11,h12,h⟩:=Qd h
 obtain rfl:=Qe h
 exact T.last' (rgN 75 [(.bp 5 0),(.bp 6 0),(.bp 7 0)] [5,7,8,12] (.tup []) [jR 3 Qa.cells bg1,some (.box [(.own 0)]),some (.box [(.pl (.fn 40))]),some (.box (((cInt .i64) x11.1).map .pl)),some (.box [(.own 8)]),some (.box [(.own 0)]),some (.box [(.pl (.fn 39))]),some (.box ((Qab true).map .pl)),some (.row false 1 (x11.2.map (cInt .i64))),some (.lp Qt .ready none (kL 96 [(5,(.bp 1 0)),(7,(.bp 2 0)),(8,(.bp 3 0)),(12,(.bp 4 0))]))] none .ready (kL 96 [(5,(.bp 1 0)),(7,(.bp 2 0)),(8,(.bp 3 0)),(12,(.bp 4 0))]) .norm [] [1,3,4,8] [1,5,8,12] (mkS [(1,(.pl (.fn 39))),(5,(.bp 1 0)),(8,(.bp 2 0)),(12,(.bp 3 0))],[jR 3 Qa.cells bg1,some (.box [(.own 0)]),some (.box (((cInt .i64) x11.1).map .pl)),some (.box [(.own 4)]),some (.row false 1 (x11.2.map (cInt .i64)))]) (Ql.rn 10 [9,5,6,7,1,2,3,4,0,8] (f75r2_ok bb2 bg1 (List.replicate (Int.toNat (bg1.length:Int)) 0) h12)) an) (tds:=[]) (m:=[1,2,3,4]) (keep:=[1,5,8,12]) (st2:=(f41r2n2E bg1 bb2 (.norm x11.1 x11.2)).2) (by kernel_rfl) an rfl
inductive f41r2n1O where
 | norm (v19:Int) (v20:List Int)
def f41r2n1E(bg1:List Qa)(bb2:Int):f41r2n1O→Ex×Tr×Hp
 | .norm v19 v20=>(.norm,mkS [(1,(.pl (.fn 39))),(5,(.bp 1 0)),(8,(.bp 2 0)),(12,(.bp 3 0))],[jR 3 Qa.cells bg1,some (.box [(.own 0)]),some (.box (((cInt .i64) v19).map .pl)),some (.box [(.own 4)]),some (.row false 1 (v20.map (cInt .i64)))])
def f41r2n1S(bg1:List Qa)(bb2:Int):Tr×Hp:=(mkS [(1,(.pl (.fn 39))),(4,(jB true)),(5,(.bp 1 0)),(7,(.bp 2 0)),(8,(.bp 3 0)),(10,(.pl (.sl .nil 0 []))),(11,(jI 0)),(12,(.bp 4 0))],[jR 3 Qa.cells bg1,some (.box [(.own 0)]),some (.box [(.pl (.fn 40))]),some (.box (((cInt .i64) bb2).map .pl)),some (.box [(.own 5)]),some (.row false 1 ((List.replicate (Int.toNat (bg1.length:Int)) 0).map (cInt .i64)))])
noncomputable def f41r2n1(bg1:List Qa)(bb2:Int):Option f41r2n1O :=
 (f58r2 bg1).bind fun x9 =>
 (f41r2n2 bg1 bb2).bind fun o15=>match o15 with
 | .norm v17 v18=>some (.norm v17 v18)
theorem f41r2n1_ok(bg1:List Qa)(bb2:Int){o:f41r2n1O}(h:(f41r2n1 bg1 bb2)=some o):T Try.prog Try.f41.ntmps 1 (cL (Qj 2 c41)) (f41r2n1S bg1 bb2) (fun r=>r=f41r2n1E bg1 bb2 o):=by
 unfold f41r2n1 at h
 obtain ⟨x9,h10,h⟩:=Qd h
 refine rN Qf 1 [([],[(3,.call (.clo 75 [(.bp 6 0),(.bp 7 0),(.bp 8 0)]) [jR 3 Qa.cells bg1,none,none,none,none,none,some (.box [(.own 0)]),some (.box [(.pl (.fn 39))]),some (.box ((Qab true).map .pl))])],[])] [] [] [1,2,3,4,6,7,8,5] [1,5,7,8,10,11,12,29] (f41r2n2S bg1 bb2) (ap (Ql.rn 6 [0] (f58r2_ok bg1 h10)) an) ?_
 obtain ⟨o15,h16,h⟩:=Qd h
 cases o15 with
 | norm v17 v18 =>
  obtain rfl:=Qe h
  exact T.last' (f41r2n2_ok bg1 bb2 h16) (tds:=[]) (m:=[1,2,3,4]) (keep:=[1,5,8,12]) (st2:=(f41r2n1E bg1 bb2 (.norm v17 v18)).2) (by kernel_rfl) an rfl
inductive f41r2n4O where
 | exit4 (v81:List Qa)
def f41r2n4E(bg1:List Qa)(bb2:Int)(be3:List Int):f41r2n4O→Ex×Tr×Hp
 | .exit4 v81=>((.exit 4),mkS [(8,(.bp 1 0)),(20,(.own 2))],[jR 3 Qa.cells bg1,some (.box (((cInt .i64) bb2).map .pl)),jR 3 Qa.cells v81])
def f41r2n4S(bg1:List Qa)(bb2:Int)(be3:List Int)(v61:Int)(v62:List Qa):Tr×Hp:=(mkS [(1,(.pl (.fn 39))),(8,(.bp 1 0)),(12,(.bp 2 0)),(20,(.own 3)),(65,(.own 0)),(66,(jI (bg1.length:Int))),(67,(jI v61))],[jR 3 Qa.cells bg1,some (.box (((cInt .i64) bb2).map .pl)),some (.box [(.own 4)]),jR 3 Qa.cells v62,some (.row false 1 (be3.map (cInt .i64)))])
noncomputable def f41r2n4:Nat→List Qa→Int→List Int→Int→List Qa→Option f41r2n4O
 | 0,_,_,_,_,_=>none
 | f + 1, bg1, bb2, be3, v61, v62 =>
  bif (decide (v61<(bg1.length:Int))) then
   (at? bg1 v61).bind fun x73 =>
   (at? be3 v61).bind fun x75 =>
   bif (decide (0<x75)) then
    (f39 x73).bind fun x78 =>
    req (fit (v62.length+1) 32) <|
    (f41r2n4 f bg1 bb2 be3 (wr64 (v61+1)) (v62++[(Qa.mk x78.level x78.owner x75)]))
   else
    (f41r2n4 f bg1 bb2 be3 (wr64 (v61+1)) v62)
  else
   some (.exit4 v62)
theorem f41r2n4_ok:∀(f:Nat)(bg1:List Qa)(bb2:Int)(be3:List Int)(v61:Int)(v62:List Qa){o:f41r2n4O},(f41r2n4 f bg1 bb2 be3 v61 v62)=some o→TL Try.prog Try.f41.ntmps 1 f (cL (cL (Qj 1 (cL (Qj 1 (Qj 1 (Qj 2 c41))))))) (f41r2n4S bg1 bb2 be3 v61 v62) (fun r=>r=f41r2n4E bg1 bb2 be3 o)
 | 0,_,_,_,_,_,o,h=>by rw [f41r2n4] at h; cases h
 | f + 1, bg1, bb2, be3, v61, v62, o, h => by
  rw [f41r2n4] at h
  refine TL.body (K:=fun s=>∃v61:Int,∃v62:List Qa,s=(f41r2n4S bg1 bb2 be3 v61 v62)∧(f41r2n4 f bg1 bb2 be3 v61 v62)=some o) ?_ (by rintro _ ⟨v61,v62,rfl,hk⟩; exact f41r2n4_ok f _ _ _ _ _ hk)
  rcases Qh h with ⟨h64,h⟩ | ⟨h64,h⟩
  ·obtain ⟨x73, h74, h⟩ := Qd h
   obtain ⟨x75,h76,h⟩:=Qd h
   rcases Qh h with ⟨h77,h⟩ | ⟨h77,h⟩
   ·obtain ⟨x78, h79, h⟩ := Qd h
    obtain ⟨h80,h⟩:=Qq h
    exact rE Qf [j3,([],[(1,.at_ (Int.toNat v61)),(2,.idx 0 (Qa.cells x73))],[]),([],[(2,.at_ (Int.toNat v61)),(3,.idx 0 ((cInt .i64) x75))],[]),([],[jH 3 (jA Key_.cells x78),jH 7 (jA Key_.cells x78),(11,.at_ (Int.toNat v61)),(12,.idx 0 ((cInt .i64) x75)),(15,.fits)],[(15,.row 7 ((v62++[(Qa.mk x78.level x78.owner x75)]).map Qa.cells))]),j3] [some true,some true] [] [1,2,7,4] [1,8,12,20,65,66,67] (.norm,(f41r2n4S bg1 bb2 be3 (wr64 (v61+1)) (v62++[(Qa.mk x78.level x78.owner x75)]))) (ap h64 (ap (Qg h74).1 (ap (Qs Qa.cells (Qg h74).2) (ap (Qm Qa.cells (Qg h74).2) (ap (Qg h76).1 (ap (Qs (cInt .i64) (Qg h76).2) (ap (Qm (cInt .i64) (Qg h76).2) (ap h77 (ap (Qg h76).1 (ap (Qs (cInt .i64) (Qg h76).2) (ap (Qm (cInt .i64) (Qg h76).2) (ap (fit_map (te:=ti59) (xs:=v62) (n:=1) (c:=Qa.cells) h80 rfl) (ap (app_cv (xs:=v62) (ys:=[(Qa.mk x78.level x78.owner x75)]) (c:=Qa.cells)) (ap (same_self (e:=⟨false,39,[(jA Qa.cells x73)],[],(jA Key_.cells x78),[]⟩)) (ap2 (f39_ok x73 h79) an))))))))))))))) (Qo.norm ⟨(wr64 (v61+1)),(v62++[(Qa.mk x78.level x78.owner x75)]),rfl,h⟩)
   ·exact rE Qf [j3,([],[(1,.at_ (Int.toNat v61)),(2,.idx 0 (Qa.cells x73))],[]),([],[(2,.at_ (Int.toNat v61)),(3,.idx 0 ((cInt .i64) x75))],[]),j3] [some true,some false] [] [1,2,3,4] [1,8,12,20,65,66,67] (.norm,(f41r2n4S bg1 bb2 be3 (wr64 (v61+1)) v62)) (ap h64 (ap (Qg h74).1 (ap (Qs Qa.cells (Qg h74).2) (ap (Qm Qa.cells (Qg h74).2) (ap (Qg h76).1 (ap (Qs (cInt .i64) (Qg h76).2) (ap (Qm (cInt .i64) (Qg h76).2) (ap h77 an)))))))) (Qo.norm ⟨(wr64 (v61+1)),v62,rfl,h⟩)
  ·obtain rfl := Qe h
   exact rK Qf 2 [j3] [some false] [] [1,3] [8,20] (.exit 4) ((f41r2n4E bg1 bb2 be3 (.exit4 v62)).2) (ap h64 an) (Qo.out rfl rfl)
noncomputable def f41r2n4L(bg1:List Qa)(bb2:Int)(be3:List Int):List Qa→Int→(List Qa)→Option f41r2n4O
 | [], v61, v62 =>
  some (.exit4 v62)
 | x0 :: rest, v61, v62 =>
  (at? be3 v61).bind fun x75 =>
  bif (decide (0<x75)) then
   (f39 x0).bind fun x78 =>
   req (fit (v62.length+1) 32) <|
   (f41r2n4L bg1 bb2 be3 rest (v61+1) (v62++[(Qa.mk x78.level x78.owner x75)]))
  else
   (f41r2n4L bg1 bb2 be3 rest (v61+1) v62)
theorem f41r2n4L_eq(bg1:List Qa)(bb2:Int)(be3:List Int):∀(rest:List Qa)(f k:Nat)(v62:List Qa),bg1.drop k=rest→bg1.length≤maxLen→rest.length<f→f41r2n4 f bg1 bb2 be3 (k:Int) v62=f41r2n4L bg1 bb2 be3 rest (k:Int) v62
 | _,0,_,_,_,_,hf=>absurd hf (Nat.not_lt_zero _)
 | [], f + 1, k, v62, hd, hm, hf => by
  have hk:¬((k:Int)<(bg1.length:Int)):=by have:=Qak hd; omega
  rw [f41r2n4,f41r2n4L]
  simp only [decide_eq_false hk,cond_false]
 | x0 :: rest, f + 1, k, v62, hd, hm, hf => by
  obtain ⟨hx,hlt,hd'⟩:=Qaf hd
  have hk:(k:Int)<(bg1.length:Int):=by omega
  have hw:wr64 ((k:Int)+1)=(k:Int)+1:=Qbt (by omega) (by unfold maxLen at hm; omega)
  have ih:∀(v62:List Qa),f41r2n4 f bg1 bb2 be3 ((k:Int)+1) v62=f41r2n4L bg1 bb2 be3 rest ((k:Int)+1) v62:=fun v62=>f41r2n4L_eq bg1 bb2 be3 rest f (k+1) v62 hd' hm (by simpa using hf)
  rw [f41r2n4,f41r2n4L]
  simp only [decide_eq_true hk,cond_true,Qcl,hx,Option.bind_some,hw,ih]
theorem f41r2n4_run(bg1:List Qa)(bb2:Int)(be3:List Int)(v62:List Qa)(hm:bg1.length≤maxLen):f41r2n4 FUEL bg1 bb2 be3 0 v62=f41r2n4L bg1 bb2 be3 bg1 0 v62:=f41r2n4L_eq bg1 bb2 be3 bg1 FUEL 0 v62 List.drop_zero hm (Qae hm)
inductive f41r2n3O where
 | norm (v85:List Qa)
def f41r2n3E(bg1:List Qa)(bb2:Int)(be3:List Int):f41r2n3O→Ex×Tr×Hp
 | .norm v85=>(.norm,mkS [(8,(.bp 1 0)),(20,(.own 2))],[jR 3 Qa.cells bg1,some (.box (((cInt .i64) bb2).map .pl)),jR 3 Qa.cells v85])
def f41r2n3S(bg1:List Qa)(bb2:Int)(be3:List Int):Tr×Hp:=(mkS [(1,(.pl (.fn 39))),(5,(.bp 1 0)),(8,(.bp 2 0)),(12,(.bp 3 0)),(20,(.pl (.sl .nil 0 [])))],[jR 3 Qa.cells bg1,some (.box [(.own 0)]),some (.box (((cInt .i64) bb2).map .pl)),some (.box [(.own 4)]),some (.row false 1 (be3.map (cInt .i64)))])
noncomputable def f41r2n3(bg1:List Qa)(bb2:Int)(be3:List Int):Option f41r2n3O :=
 (f41r2n4 FUEL bg1 bb2 be3 0 []).bind fun o82=>match o82 with
 | .exit4 v84=>some (.norm v84)
theorem f41r2n3_ok(bg1:List Qa)(bb2:Int)(be3:List Int){o:f41r2n3O}(h:(f41r2n3 bg1 bb2 be3)=some o):T Try.prog Try.f41.ntmps 1 (cL (Qj 1 (Qj 1 (Qj 2 c41)))) (f41r2n3S bg1 bb2 be3) (fun r=>r=f41r2n3E bg1 bb2 be3 o):=by
 unfold f41r2n3 at h
 refine rN Qf 1 [([],[],[(1,.val (jI (bg1.length:Int)))])] [] [.mat 20 3] [2,3,5,4] [1,8,12,20,65,66,67] (f41r2n4S bg1 bb2 be3 0 []) (ap (Qp (xs:=bg1) (c:=Qa.cells)) an) ?_
 obtain ⟨o82,h83,h⟩:=Qd h
 cases o82 with
 | exit4 v84 =>
  obtain rfl:=Qe h
  exact T.last' (T.bl (i:=4) (by kernel_rfl) (by kernel_rfl) (f41r2n4_ok FUEL bg1 bb2 be3 0 [] h83)) (tds:=[]) (m:=[1,2]) (keep:=[8,20]) (st2:=(f41r2n3E bg1 bb2 be3 (.norm v84)).2) (by kernel_rfl) an rfl
inductive f41r2n0O where
 | ret (v89:Int) (v90:List Qa)
def f41r2n0E(a1:Int)(a2:List Qa):f41r2n0O→Ex×Tr×Hp
 | .ret v89 v90=>(.ret,mkS [(10,(.own 1)),(11,(jI v89))],[jR 3 Qa.cells a2,jR 3 Qa.cells v90])
def f41r2n0S(a1:Int)(a2:List Qa):Tr×Hp:=(Qz [(.own 0),(.pl (.fn 39)),(.pl (.fn 40)),(jI a1),(jB true)] 0 .leaf,[jR 3 Qa.cells a2])
noncomputable def f41r2n0(a1:Int)(a2:List Qa):Option f41r2n0O :=
 req (decide (0≤(a2.length:Int))) <|
 req (fit (Int.toNat (a2.length:Int)) 8) <|
 (f41r2n1 a2 a1).bind fun o21=>match o21 with
 | .norm v23 v24 => (f41r2n3 a2 v23 v24).bind fun o86 => match o86 with
  | .norm v88=>some (.ret v23 v88)
theorem f41r2n0_ok(a1:Int)(a2:List Qa){o:f41r2n0O}(h:(f41r2n0 a1 a2)=some o):T Try.prog Try.f41.ntmps 1 c41 (f41r2n0S a1 a2) (fun r=>r=f41r2n0E a1 a2 o):=by
 unfold f41r2n0 at h
 obtain ⟨h5,h⟩:=Qq h
 obtain ⟨h6,h⟩:=Qq h
 refine rN Qf 2 [j3,([],[(2,.num (Int.toNat (a2.length:Int)))],[(1,.val (jI (a2.length:Int))),(2,.row 4 ((List.replicate (Int.toNat (a2.length:Int)) 0).map (cInt .i64)))])] [] [] [1,2,3,5,4] [1,4,5,7,8,10,11,12] (f41r2n1S a2 a1) (ap (Qp (xs:=a2) (c:=Qa.cells)) (ap2 (nat_of h5) (ap (fit_of (te:=ti3) h6 rfl) (ap (rep_cv (c:=(cInt .i64)) (x:=0) (n:=Int.toNat (a2.length:Int))) an)))) ?_
 obtain ⟨o21,h22,h⟩:=Qd h
 cases o21 with
 | norm v23 v24 =>
  refine T.oneN (by kernel_rfl) (f41r2n1_ok a2 a1 h22) (st2:=(f41r2n1E a2 a1 (.norm v23 v24)).2) rfl ?_
  refine rN Qf 1 [j3] [] [] [1,2,3,4] [1,5,8,12,20] (f41r2n3S a2 v23 v24) an ?_
  obtain ⟨o86,h87,h⟩:=Qd h
  cases o86 with
  | norm v88 =>
   refine T.oneN (by kernel_rfl) (f41r2n3_ok a2 v23 v24 h87) (st2:=(f41r2n3E a2 v23 v24 (.norm v88)).2) rfl ?_
   obtain rfl:=Qe h
   exact rE Qf [j3] [] [] [2] [10,11] (.ret,(f41r2n0E a1 a2 (.ret v23 v88)).2) an rfl
noncomputable def f41r2(a1:Int)(a2:List Qa):Option (Int×(List Qa)):=(f41r2n0 a1 a2).bind fun o=>match o with
 | .ret v89 v90=>some (v89,v90)
theorem f41r2_ok(a1:Int)(a2:List Qa){r:Int×(List Qa)}(h:(f41r2 a1 a2)=some r):Ql Try.prog true 41 [(.own 0),(.pl (.fn 39)),(.pl (.fn 40)),(jI a1),(jB true)] [jR 3 Qa.cells a2] (.tup [(.own 1),(jI r.1)]) [jR 3 Qa.cells a2,jR 3 Qa.cells r.2]:=by
 unfold f41r2 at h
 obtain ⟨o,ho,h⟩:=Qd h
 cases o with
 | ret v89 v90 =>
  obtain rfl:=Qe h
  exact Ql.shared Qf (f:=Try.f41) (c:=c41) (by kernel_rfl) (by kernel_rfl) (by kernel_rfl) ((f41r2n0_ok a1 a2 ho).mono fun r e=>by subst e; exact ⟨.inl rfl,by kernel_rfl,by kernel_rfl⟩)

inductive f16r2n0O where
 | ret (v19:Int) (v20:Int) (v21:List Qa)
def f16r2n0E(a1:Int)(a2:List Qa):f16r2n0O→Ex×Tr×Hp
 | .ret v19 v20 v21=>(.ret,mkS [(4,(.own 1)),(5,(jI v19)),(6,(jI v20))],[jR 3 Qa.cells a2,jR 3 Qa.cells v21])
def f16r2n0S(a1:Int)(a2:List Qa):Tr×Hp:=(Qz [(.own 0),(jI a1)] 0 .leaf,[jR 3 Qa.cells a2])
noncomputable def f16r2n0(a1:Int)(a2:List Qa):Option f16r2n0O :=
 (f38_39_40 a2 1).bind fun x9 =>
 bif x9 then
  (f34 a1).bind fun x12 =>
  bif x12 then
   (f41r2 a1 a2).bind fun x17 =>
   some (.ret x17.1 0 x17.2)
  else
   some (.ret 0 2 [])
 else
  some (.ret 0 2 [])
theorem f16r2n0_ok(a1:Int)(a2:List Qa){o:f16r2n0O}(h:(f16r2n0 a1 a2)=some o):T Try.prog Try.f16.ntmps 1 c16 (f16r2n0S a1 a2) (fun r=>r=f16r2n0E a1 a2 o):=by
 unfold f16r2n0 at h
 obtain ⟨x9,h10,h⟩:=Qd h
 rcases Qh h with ⟨h11,h⟩ | ⟨h11,h⟩
 ·obtain ⟨x12, h13, h⟩ := Qd h
  rcases Qh h with ⟨h14,h⟩ | ⟨h14,h⟩
  ·obtain ⟨x17, h18, h⟩ := Qd h
   obtain rfl:=Qe h
   exact rE Qf [j3,(jF [4,5,6],[jH 1 (jB x9),jH 5 (jB x12),(7,.bool false)],[]),([],[(2,.call (.tup [(.own 1),(jI x17.1)]) [jR 3 Qa.cells a2,jR 3 Qa.cells x17.2])],[]),j3] [some false] [] [1] [4,5,6] (.ret,(f16r2n0E a1 a2 (.ret x17.1 0 x17.2)).2) (ap4 (Qad h11) (ap (Qco a2 1 h10) (ap (f34_ok a1 h13) (ap (Qad h14) (ap (f41r2_ok a1 a2 h18) an))))) rfl
  ·obtain rfl := Qe h
   exact rK Qf 2 [j3,(jF [4,5,6],[jH 1 (jB x9),jH 5 (jB x12),(7,.bool false)],[]),j3] [some true] [.mat 4 3] [1] [4,5,6] .ret ((f16r2n0E a1 a2 (.ret 0 2 [])).2) (ap4 (Qad h11) (ap (Qco a2 1 h10) (ap (f34_ok a1 h13) (ap (Qai h14) an)))) rfl
 ·obtain rfl := Qe h
  exact rK Qf 2 [j3,(jT [4,5,6],[jH 1 (jB x9),(7,.bool true)],[]),j3] [none] [.mat 4 3] [1] [4,5,6] .ret ((f16r2n0E a1 a2 (.ret 0 2 [])).2) (ap4 (Qai h11) (ap (Qco a2 1 h10) an)) rfl
noncomputable def f16r2(a1:Int)(a2:List Qa):Option (Int×Int×(List Qa)):=(f16r2n0 a1 a2).bind fun o=>match o with
 | .ret v19 v20 v21=>some (v19,v20,v21)
theorem f16r2_ok(a1:Int)(a2:List Qa){r:Int×Int×(List Qa)}(h:(f16r2 a1 a2)=some r):Ql Try.prog true 16 [(.own 0),(jI a1)] [jR 3 Qa.cells a2] (.tup [(.own 1),(jI r.1),(jI r.2.1)]) [jR 3 Qa.cells a2,jR 3 Qa.cells r.2.2]:=by
 unfold f16r2 at h
 obtain ⟨o,ho,h⟩:=Qd h
 cases o with
 | ret v19 v20 v21 =>
  obtain rfl:=Qe h
  exact Ql.shared Qf (f:=Try.f16) (c:=c16) (by kernel_rfl) (by kernel_rfl) (by kernel_rfl) ((f16r2n0_ok a1 a2 ho).mono fun r e=>by subst e; exact ⟨.inl rfl,by kernel_rfl,by kernel_rfl⟩)

noncomputable def c5:Code:=Try.f5.body.getD .skip
inductive f5n4O where
 | norm (v332:Bool)
def f5n4E(ba1:List Qb)(bh2:Bool)(bi3:(List Qa)×Int×Int)(bl4:Int×Int×(List Qa))(bb5 bb6:Int):f5n4O→Ex×Tr×Hp
 | .norm v332=>(.norm,mkS [(0,(jL 4 Qb.cells ba1)),(7,(jB bh2)),(8,(jL 3 Qa.cells bi3.1)),(16,(.own 0)),(17,(jI bl4.1)),(21,(jI bb5)),(22,(jI bb6)),(140,(jB v332))],[jR 3 Qa.cells bl4.2.2])
def f5n4S(ba1:List Qb)(bh2:Bool)(bi3:(List Qa)×Int×Int)(bl4:Int×Int×(List Qa))(bb5 bb6:Int):Tr×Hp:=(mkS [(0,(jL 4 Qb.cells ba1)),(7,(jB bh2)),(8,(jL 3 Qa.cells bi3.1)),(16,(.own 0)),(17,(jI bl4.1)),(21,(jI bb5)),(22,(jI bb6))],[jR 3 Qa.cells bl4.2.2])
noncomputable def f5n4(ba1:List Qb)(bh2:Bool)(bi3:(List Qa)×Int×Int)(bl4:Int×Int×(List Qa))(bb5 bb6:Int):Option f5n4O :=
 (at? ba1 bb5).bind fun x326 =>
 (f15 bi3.1 x326).bind fun x328 =>
 bif (decide (x328<bb6)) then
  some (.norm true)
 else
  bif (decide (0<bl4.1)) then
   some (.norm (!(decide (bb6=x328))))
  else
   some (.norm false)
theorem f5n4_ok(ba1:List Qb)(bh2:Bool)(bi3:(List Qa)×Int×Int)(bl4:Int×Int×(List Qa))(bb5 bb6:Int){o:f5n4O}(h:(f5n4 ba1 bh2 bi3 bl4 bb5 bb6)=some o):T Try.prog Try.f5.ntmps 0 (cL (Qj 0 (cL (Qj 1 (cL (cL (Qj 1 (cL (cL (Qj 1 (cL (Qj 4 (Qj 3 (Qj 5 c5)))))))))))))) (f5n4S ba1 bh2 bi3 bl4 bb5 bb6) (fun r=>r=f5n4E ba1 bh2 bi3 bl4 bb5 bb6 o):=by
 unfold f5n4 at h
 obtain ⟨x326,h327,h⟩:=Qd h
 obtain ⟨x328,h329,h⟩:=Qd h
 rcases Qh h with ⟨h330,h⟩ | ⟨h330,h⟩
 ·obtain rfl := Qe h
  exact rE Qf [(jT [9,10,11,20],[(4,.idx (Int.toNat bb5) (Qb.cells x326)),jH 6 (jI x328),(21,.bool true)],[])] [] [] [0] [0,7,8,16,17,21,22,140] (.norm,(f5n4E ba1 bh2 bi3 bl4 bb5 bb6 (.norm true)).2) (ap (Qg h327).1 (ap (Qm Qb.cells (Qg h327).2) (ap h330 (ap4 h330 (ap (f15_ok bi3.1 x326 h329) an))))) rfl
 ·rcases Qh h with ⟨h331, h⟩ | ⟨h331, h⟩
  ·obtain rfl := Qe h
   exact rE Qf [(jF [9,10,11,20]++jT [12,13,14,15,16,17,18,19],[(4,.idx (Int.toNat bb5) (Qb.cells x326)),jH 6 (jI x328),(16,.idx (Int.toNat bb5) (Qb.cells x326)),jH 18 (jI x328),(20,.bool true),(21,.bool false)],[])] [] [] [0] [0,7,8,16,17,21,22,140] (.norm,(f5n4E ba1 bh2 bi3 bl4 bb5 bb6 (.norm (!(decide (bb6=x328))))).2) (ap (Qg h327).1 (ap (Qm Qb.cells (Qg h327).2) (ap3 h330 (ap h331 (ap4 h331 (ap (Qg h327).1 (ap (Qm Qb.cells (Qg h327).2) (ap3 h331 (ap h330 (ap h331 (ap h330 (ap2 (f15_ok bi3.1 x326 h329) an)))))))))))) rfl
  ·obtain rfl := Qe h
   exact rE Qf [(jF [9,10,11,12,13,14,15,16,17,18,19,20],[(4,.idx (Int.toNat bb5) (Qb.cells x326)),jH 6 (jI x328),(20,.bool false),(21,.bool false)],[])] [] [] [0] [0,7,8,16,17,21,22,140] (.norm,(f5n4E ba1 bh2 bi3 bl4 bb5 bb6 (.norm false)).2) (ap (Qg h327).1 (ap (Qm Qb.cells (Qg h327).2) (ap3 h330 (ap4 h331 (ap4 h331 (ap h330 (ap h331 (ap h330 (ap (f15_ok bi3.1 x326 h329) an))))))))) rfl
inductive f5n3O where
 | norm
 | ret
def f5n3E(ba1:List Qb)(bh2:Bool)(bi3:(List Qa)×Int×Int)(bl4:Int×Int×(List Qa))(bb5 bb6:Int):f5n3O→Ex×Tr×Hp
 | .norm=>(.norm,mkS [(0,(jL 4 Qb.cells ba1)),(7,(jB bh2)),(8,(jL 3 Qa.cells bi3.1)),(16,(.own 0)),(17,(jI bl4.1)),(21,(jI bb5)),(22,(jI bb6))],[jR 3 Qa.cells bl4.2.2])
 | .ret=>(.ret,mkS [(6,(jB false))],[])
def f5n3S(ba1:List Qb)(bh2:Bool)(bi3:(List Qa)×Int×Int)(bl4:Int×Int×(List Qa))(bb5 bb6:Int):Tr×Hp:=(mkS [(0,(jL 4 Qb.cells ba1)),(7,(jB bh2)),(8,(jL 3 Qa.cells bi3.1)),(16,(.own 0)),(17,(jI bl4.1)),(21,(jI bb5)),(22,(jI bb6))],[jR 3 Qa.cells bl4.2.2])
noncomputable def f5n3(ba1:List Qb)(bh2:Bool)(bi3:(List Qa)×Int×Int)(bl4:Int×Int×(List Qa))(bb5 bb6:Int):Option f5n3O :=
 (f5n4 ba1 bh2 bi3 bl4 bb5 bb6).bind fun o333=>match o333 with
 | .norm v335=>bif v335 then
   some .ret
  else
   some .norm
theorem f5n3_ok(ba1:List Qb)(bh2:Bool)(bi3:(List Qa)×Int×Int)(bl4:Int×Int×(List Qa))(bb5 bb6:Int){o:f5n3O}(h:(f5n3 ba1 bh2 bi3 bl4 bb5 bb6)=some o):T Try.prog Try.f5.ntmps 0 (cL (Qj 1 (cL (cL (Qj 1 (cL (cL (Qj 1 (cL (Qj 4 (Qj 3 (Qj 5 c5)))))))))))) (f5n3S ba1 bh2 bi3 bl4 bb5 bb6) (fun r=>r=f5n3E ba1 bh2 bi3 bl4 bb5 bb6 o):=by
 unfold f5n3 at h
 refine rN Qf 0 [] [] [] [0] [0,7,8,16,17,21,22] (f5n4S ba1 bh2 bi3 bl4 bb5 bb6) an ?_
 obtain ⟨o333,h334,h⟩:=Qd h
 cases o333 with
 | norm v335 =>
  refine T.oneN (by kernel_rfl) (f5n4_ok ba1 bh2 bi3 bl4 bb5 bb6 h334) (st2:=(f5n4E ba1 bh2 bi3 bl4 bb5 bb6 (.norm v335)).2) rfl ?_
  rcases Qh h with ⟨h337,h⟩ | ⟨h337,h⟩
  ·obtain rfl := Qe h
   exact rE Qf [j3] [some true] [] [] [6] (.ret,(f5n3E ba1 bh2 bi3 bl4 bb5 bb6 .ret).2) (ap h337 an) rfl
  ·obtain rfl := Qe h
   exact rE Qf [] [some false] [] [0] [0,7,8,16,17,21,22] (.norm,(f5n3E ba1 bh2 bi3 bl4 bb5 bb6 .norm).2) (ap h337 an) rfl
inductive f5n5O where
 | exit2
 | ret
def f5n5E(ba1:List Qb)(bh2:Bool)(bi3:(List Qa)×Int×Int)(bl4:Int×Int×(List Qa))(bb5 x307:Int):f5n5O→Ex×Tr×Hp
 | .exit2=>((.exit 2),mkS [(0,(jL 4 Qb.cells ba1)),(7,(jB bh2)),(8,(jL 3 Qa.cells bi3.1)),(16,(.own 0)),(17,(jI bl4.1)),(21,(jI bb5))],[jR 3 Qa.cells bl4.2.2])
 | .ret=>(.ret,mkS [(6,(jB false))],[])
def f5n5S(ba1:List Qb)(bh2:Bool)(bi3:(List Qa)×Int×Int)(bl4:Int×Int×(List Qa))(bb5 x307 v389:Int):Tr×Hp:=(mkS [(0,(jL 4 Qb.cells ba1)),(7,(jB bh2)),(8,(jL 3 Qa.cells bi3.1)),(16,(.own 0)),(17,(jI bl4.1)),(21,(jI bb5)),(22,(jI x307)),(23,(jI v389))],[jR 3 Qa.cells bl4.2.2])
noncomputable def f5n5:Nat→List Qb→Bool→(List Qa)×Int×Int→Int×Int×(List Qa)→Int→Int→Int→Option f5n5O
 | 0,_,_,_,_,_,_,_=>none
 | f + 1, ba1, bh2, bi3, bl4, bb5, x307, v389 =>
  bif (decide (v389<(ba1.length:Int))) then
   bif (decide (0<x307)) then
    (at? ba1 v389).bind fun x404 =>
    (at? ba1 bb5).bind fun x406 =>
    bif (decide (x406.Level<x404.Level)) then
     (f15 bl4.2.2 x404).bind fun x409 =>
     (f15 bi3.1 x404).bind fun x411 =>
     bif (decide (x409=x411)) then
      (f5n5 f ba1 bh2 bi3 bl4 bb5 x307 (wr64 (v389+1)))
     else
      some .ret
    else
     (f5n5 f ba1 bh2 bi3 bl4 bb5 x307 (wr64 (v389+1)))
   else
    some .exit2
  else
   some .exit2
theorem f5n5_ok:∀(f:Nat)(ba1:List Qb)(bh2:Bool)(bi3:(List Qa)×Int×Int)(bl4:Int×Int×(List Qa))(bb5 x307 v389:Int){o:f5n5O},(f5n5 f ba1 bh2 bi3 bl4 bb5 x307 v389)=some o→TL Try.prog Try.f5.ntmps 0 f (cL (cL (Qj 1 (Qj 1 (Qj 1 (cL (cL (Qj 1 (cL (cL (Qj 1 (cL (Qj 4 (Qj 3 (Qj 5 c5))))))))))))))) (f5n5S ba1 bh2 bi3 bl4 bb5 x307 v389) (fun r=>r=f5n5E ba1 bh2 bi3 bl4 bb5 x307 o)
 | 0,_,_,_,_,_,_,_,o,h=>by rw [f5n5] at h; cases h
 | f + 1, ba1, bh2, bi3, bl4, bb5, x307, v389, o, h => by
  rw [f5n5] at h
  refine TL.body (K:=fun s=>∃v389:Int,s=(f5n5S ba1 bh2 bi3 bl4 bb5 x307 v389)∧(f5n5 f ba1 bh2 bi3 bl4 bb5 x307 v389)=some o) ?_ (by rintro _ ⟨v389,rfl,hk⟩; exact f5n5_ok f _ _ _ _ _ _ _ hk)
  rcases Qh h with ⟨h392,h⟩ | ⟨h392,h⟩
  ·rcases Qh h with ⟨h393, h⟩ | ⟨h393, h⟩
   ·obtain ⟨x404, h405, h⟩ := Qd h
    obtain ⟨x406,h407,h⟩:=Qd h
    rcases Qh h with ⟨h408,h⟩ | ⟨h408,h⟩
    ·obtain ⟨x409, h410, h⟩ := Qd h
     obtain ⟨x411,h412,h⟩:=Qd h
     rcases Qh h with ⟨h413,h⟩ | ⟨h413,h⟩
     ·exact rE Qf [([(5,true),(6,true)],[(7,.bool true)],[(2,.val (jI (ba1.length:Int)))]),(jT [12,13,14,15,16,17,18,19,20,21,22,23,24],[(2,.idx (Int.toNat v389) (Qb.cells x404)),(7,.idx (Int.toNat bb5) (Qb.cells x406)),(15,.idx (Int.toNat v389) (Qb.cells x404)),jH 17 (jI x409),(21,.idx (Int.toNat v389) (Qb.cells x404)),jH 23 (jI x411),(25,.bool true)],[]),j3] [some true,some false] [] [0] [0,7,8,16,17,21,22,23] (.norm,(f5n5S ba1 bh2 bi3 bl4 bb5 x307 (wr64 (v389+1)))) (ap (Qp (xs:=ba1) (c:=Qb.cells)) (ap3 h392 (ap h393 (ap (Qg h405).1 (ap (Qm Qb.cells (Qg h405).2) (ap (Qg h407).1 (ap (Qm Qb.cells (Qg h407).2) (ap4 h408 (ap (Qg h405).1 (ap (Qm Qb.cells (Qg h405).2) (ap2 h408 (ap4 h408 (ap (Qg h405).1 (ap (Qm Qb.cells (Qg h405).2) (ap4 h408 (ap (same_val (e:=⟨false,15,[(jL 3 Qa.cells bl4.2.2),(jA Qb.cells x404)],[],(jI x409),[]⟩) (f:=⟨false,15,[(jL 3 Qa.cells bi3.1),(jA Qb.cells x404)],[],(jI x411),[]⟩) (fun k=>by simp only [jL,jS,jI,jB,jA,Qb.cells_eq,Qb.map_eq,Qa.cells_eq,Qa.map_eq,Key_.cells_eq,Key_.map_eq,List.cons.injEq,AV.pl.injEq,PV.str.injEq,PV.int.injEq,PV.bool.injEq,PV.agg.injEq,PV.sl.injEq,and_true,true_and] at k; have e0:x409=x411:=Option.some.inj (by rw [←h410,←h412]; simp only [k]); exact ⟨by rw [e0],rfl⟩)) (ap (f15_ok bl4.2.2 x404 h410) (ap (f15_ok bi3.1 x404 h412) (ap (Qad h413) an))))))))))))))))))) (Qo.norm ⟨(wr64 (v389+1)),rfl,h⟩)
     ·obtain rfl := Qe h
      exact rK Qf 2 [([(5,true),(6,true)],[(7,.bool true)],[(2,.val (jI (ba1.length:Int)))]),(jT [12,13,14,15,16,17,18,19,20,21,22,23,24],[(2,.idx (Int.toNat v389) (Qb.cells x404)),(7,.idx (Int.toNat bb5) (Qb.cells x406)),(15,.idx (Int.toNat v389) (Qb.cells x404)),jH 17 (jI x409),(21,.idx (Int.toNat v389) (Qb.cells x404)),jH 23 (jI x411),(25,.bool true)],[]),j3] [some true,some true] [] [] [6] .ret ((f5n5E ba1 bh2 bi3 bl4 bb5 x307 .ret).2) (ap (Qp (xs:=ba1) (c:=Qb.cells)) (ap3 h392 (ap h393 (ap (Qg h405).1 (ap (Qm Qb.cells (Qg h405).2) (ap (Qg h407).1 (ap (Qm Qb.cells (Qg h407).2) (ap4 h408 (ap (Qg h405).1 (ap (Qm Qb.cells (Qg h405).2) (ap2 h408 (ap4 h408 (ap (Qg h405).1 (ap (Qm Qb.cells (Qg h405).2) (ap4 h408 (ap (same_val (e:=⟨false,15,[(jL 3 Qa.cells bl4.2.2),(jA Qb.cells x404)],[],(jI x409),[]⟩) (f:=⟨false,15,[(jL 3 Qa.cells bi3.1),(jA Qb.cells x404)],[],(jI x411),[]⟩) (fun k=>by simp only [jL,jS,jI,jB,jA,Qb.cells_eq,Qb.map_eq,Qa.cells_eq,Qa.map_eq,Key_.cells_eq,Key_.map_eq,List.cons.injEq,AV.pl.injEq,PV.str.injEq,PV.int.injEq,PV.bool.injEq,PV.agg.injEq,PV.sl.injEq,and_true,true_and] at k; have e0:x409=x411:=Option.some.inj (by rw [←h410,←h412]; simp only [k]); exact ⟨by rw [e0],rfl⟩)) (ap (f15_ok bl4.2.2 x404 h410) (ap (f15_ok bi3.1 x404 h412) (ap (Qai h413) an))))))))))))))))))) (Qo.out rfl rfl)
    ·exact rE Qf [([(5,true),(6,true)],[(7,.bool true)],[(2,.val (jI (ba1.length:Int)))]),(jF [12,13,14,15,16,17,18,19,20,21,22,23,24],[(2,.idx (Int.toNat v389) (Qb.cells x404)),(7,.idx (Int.toNat bb5) (Qb.cells x406)),(25,.bool false)],[]),j3] [some true,none] [] [0] [0,7,8,16,17,21,22,23] (.norm,(f5n5S ba1 bh2 bi3 bl4 bb5 x307 (wr64 (v389+1)))) (ap (Qp (xs:=ba1) (c:=Qb.cells)) (ap3 h392 (ap h393 (ap (Qg h405).1 (ap (Qm Qb.cells (Qg h405).2) (ap (Qg h407).1 (ap (Qm Qb.cells (Qg h407).2) (ap2 h408 (ap4 h408 (ap4 h408 (ap4 h408 an))))))))))) (Qo.norm ⟨(wr64 (v389+1)),rfl,h⟩)
   ·obtain rfl := Qe h
    exact rK Qf 1 [([(5,true),(6,true)],[(7,.bool true)],[(2,.val (jI (ba1.length:Int)))])] [some false] [] [0] [0,7,8,16,17,21] (.exit 2) ((f5n5E ba1 bh2 bi3 bl4 bb5 x307 .exit2).2) (ap (Qp (xs:=ba1) (c:=Qb.cells)) (ap3 h392 (ap h393 an))) (Qo.out rfl rfl)
  ·obtain rfl := Qe h
   exact rK Qf 1 [([(5,false),(6,false)],[(7,.bool false)],[(2,.val (jI (ba1.length:Int)))])] [none] [] [0] [0,7,8,16,17,21] (.exit 2) ((f5n5E ba1 bh2 bi3 bl4 bb5 x307 .exit2).2) (ap (Qp (xs:=ba1) (c:=Qb.cells)) (ap3 h392 an)) (Qo.out rfl rfl)
noncomputable def f5n5L(ba1:List Qb)(bh2:Bool)(bi3:(List Qa)×Int×Int)(bl4:Int×Int×(List Qa))(bb5 x307:Int):List Qb→Int→Option f5n5O
 | [], v389 =>
  some .exit2
 | x0 :: rest, v389 =>
  bif (decide (0<x307)) then
   (at? ba1 bb5).bind fun x406 =>
   bif (decide (x406.Level<x0.Level)) then
    (f15 bl4.2.2 x0).bind fun x409 =>
    (f15 bi3.1 x0).bind fun x411 =>
    bif (decide (x409=x411)) then
     (f5n5L ba1 bh2 bi3 bl4 bb5 x307 rest (v389+1))
    else
     some .ret
   else
    (f5n5L ba1 bh2 bi3 bl4 bb5 x307 rest (v389+1))
  else
   some .exit2
theorem f5n5L_eq(ba1:List Qb)(bh2:Bool)(bi3:(List Qa)×Int×Int)(bl4:Int×Int×(List Qa))(bb5 x307:Int):∀(rest:List Qb)(f k:Nat),ba1.drop k=rest→ba1.length≤maxLen→rest.length<f→f5n5 f ba1 bh2 bi3 bl4 bb5 x307 (k:Int)=f5n5L ba1 bh2 bi3 bl4 bb5 x307 rest (k:Int)
 | _,0,_,_,_,hf=>absurd hf (Nat.not_lt_zero _)
 | [], f + 1, k, hd, hm, hf => by
  have hk:¬((k:Int)<(ba1.length:Int)):=by have:=Qak hd; omega
  rw [f5n5,f5n5L]
  simp only [decide_eq_false hk,cond_false]
 | x0 :: rest, f + 1, k, hd, hm, hf => by
  obtain ⟨hx,hlt,hd'⟩:=Qaf hd
  have hk:(k:Int)<(ba1.length:Int):=by omega
  have hw:wr64 ((k:Int)+1)=(k:Int)+1:=Qbt (by omega) (by unfold maxLen at hm; omega)
  have ih:f5n5 f ba1 bh2 bi3 bl4 bb5 x307 ((k:Int)+1)=f5n5L ba1 bh2 bi3 bl4 bb5 x307 rest ((k:Int)+1):=f5n5L_eq ba1 bh2 bi3 bl4 bb5 x307 rest f (k+1) hd' hm (by simpa using hf)
  rw [f5n5,f5n5L]
  simp only [decide_eq_true hk,cond_true,Qcl,hx,Option.bind_some,hw,ih]
theorem f5n5_run(ba1:List Qb)(bh2:Bool)(bi3:(List Qa)×Int×Int)(bl4:Int×Int×(List Qa))(bb5 x307:Int)(hm:ba1.length≤maxLen):f5n5 FUEL ba1 bh2 bi3 bl4 bb5 x307 0=f5n5L ba1 bh2 bi3 bl4 bb5 x307 ba1 0:=f5n5L_eq ba1 bh2 bi3 bl4 bb5 x307 ba1 FUEL 0 List.drop_zero hm (Qae hm)
inductive f5n2O where
 | norm
 | ret
def f5n2E(ba1:List Qb)(bh2:Bool)(bi3:(List Qa)×Int×Int)(bl4:Int×Int×(List Qa))(bb5:Int):f5n2O→Ex×Tr×Hp
 | .norm=>(.norm,mkS [(0,(jL 4 Qb.cells ba1)),(7,(jB bh2)),(8,(jL 3 Qa.cells bi3.1)),(16,(.own 0)),(17,(jI bl4.1)),(21,(jI bb5))],[jR 3 Qa.cells bl4.2.2])
 | .ret=>(.ret,mkS [(6,(jB false))],[])
def f5n2S(ba1:List Qb)(bh2:Bool)(bi3:(List Qa)×Int×Int)(bl4:Int×Int×(List Qa))(bb5:Int):Tr×Hp:=(mkS [(0,(jL 4 Qb.cells ba1)),(7,(jB bh2)),(8,(jL 3 Qa.cells bi3.1)),(16,(.own 0)),(17,(jI bl4.1)),(21,(jI bb5))],[jR 3 Qa.cells bl4.2.2])
noncomputable def f5n2(ba1:List Qb)(bh2:Bool)(bi3:(List Qa)×Int×Int)(bl4:Int×Int×(List Qa))(bb5:Int):Option f5n2O :=
 (at? ba1 bb5).bind fun x305 =>
 (f15 bl4.2.2 x305).bind fun x307 =>
 (f5n3 ba1 bh2 bi3 bl4 bb5 x307).bind fun o338=>match o338 with
 | .norm => (f5n5 FUEL ba1 bh2 bi3 bl4 bb5 x307 0).bind fun o414 => match o414 with
  | .exit2=>some .norm
  | .ret=>some .ret
 | .ret=>some .ret
theorem f5n2_ok(ba1:List Qb)(bh2:Bool)(bi3:(List Qa)×Int×Int)(bl4:Int×Int×(List Qa))(bb5:Int){o:f5n2O}(h:(f5n2 ba1 bh2 bi3 bl4 bb5)=some o):T Try.prog Try.f5.ntmps 0 (cL (Qj 1 (cL (cL (Qj 1 (cL (Qj 4 (Qj 3 (Qj 5 c5))))))))) (f5n2S ba1 bh2 bi3 bl4 bb5) (fun r=>r=f5n2E ba1 bh2 bi3 bl4 bb5 o):=by
 unfold f5n2 at h
 refine T.block' (i:=1) (by kernel_rfl) ?_
 obtain ⟨x305,h306,h⟩:=Qd h
 obtain ⟨x307,h308,h⟩:=Qd h
 refine rN Qf 1 [([],[(3,.idx (Int.toNat bb5) (Qb.cells x305)),jH 5 (jI x307)],[])] [] [] [0] [0,7,8,16,17,21,22] (f5n3S ba1 bh2 bi3 bl4 bb5 x307) (ap (Qg h306).1 (ap (Qm Qb.cells (Qg h306).2) (ap (f15_ok bl4.2.2 x305 h308) an))) ?_
 obtain ⟨o338,h339,h⟩:=Qd h
 cases o338 with
 | norm =>
  refine T.oneN (by kernel_rfl) (f5n3_ok ba1 bh2 bi3 bl4 bb5 x307 h339) (st2:=(f5n3E ba1 bh2 bi3 bl4 bb5 x307 .norm).2) rfl ?_
  refine rN Qf 1 [j3] [] [] [0] [0,7,8,16,17,21,22,23] (f5n5S ba1 bh2 bi3 bl4 bb5 x307 0) an ?_
  obtain ⟨o414,h415,h⟩:=Qd h
  cases o414 with
  | exit2 =>
   obtain rfl:=Qe h
   exact T.last' (T.bl (i:=2) (by kernel_rfl) (by kernel_rfl) (f5n5_ok FUEL ba1 bh2 bi3 bl4 bb5 x307 0 h415)) (tds:=[]) (m:=[0]) (keep:=[0,7,8,16,17,21]) (st2:=(f5n2E ba1 bh2 bi3 bl4 bb5 .norm).2) (by kernel_rfl) an rfl
  | ret =>
   obtain rfl:=Qe h
   exact T.last' (T.bl (i:=2) (by kernel_rfl) (by kernel_rfl) (f5n5_ok FUEL ba1 bh2 bi3 bl4 bb5 x307 0 h415)) (tds:=[]) (m:=[]) (keep:=[6]) (st2:=(f5n2E ba1 bh2 bi3 bl4 bb5 .ret).2) (by kernel_rfl) an rfl
 | ret =>
  obtain rfl:=Qe h
  exact T.oneX' (by kernel_rfl) (f5n3_ok ba1 bh2 bi3 bl4 bb5 x307 h339) (tds:=[]) (m:=[]) (keep:=[6]) (st2:=(f5n2E ba1 bh2 bi3 bl4 bb5 .ret).2) (by kernel_rfl) an rfl rfl
inductive f5n6O where
 | exit0
 | ret
def f5n6E(ba1:List Qb)(bh2:Bool)(bi3:(List Qa)×Int×Int)(bl4:Int×Int×(List Qa)):f5n6O→Ex×Tr×Hp
 | .exit0=>((.exit 0),mkS [(7,(jB bh2))],[])
 | .ret=>(.ret,mkS [(6,(jB false))],[])
def f5n6S(ba1:List Qb)(bh2:Bool)(bi3:(List Qa)×Int×Int)(bl4:Int×Int×(List Qa))(v298:Int):Tr×Hp:=(mkS [(0,(jL 4 Qb.cells ba1)),(7,(jB bh2)),(8,(jL 3 Qa.cells bi3.1)),(16,(.own 0)),(17,(jI bl4.1)),(21,(jI v298))],[jR 3 Qa.cells bl4.2.2])
noncomputable def f5n6:Nat→List Qb→Bool→(List Qa)×Int×Int→Int×Int×(List Qa)→Int→Option f5n6O
 | 0,_,_,_,_,_=>none
 | f + 1, ba1, bh2, bi3, bl4, v298 =>
  bif (decide (v298<(ba1.length:Int))) then
   (f5n2 ba1 bh2 bi3 bl4 v298).bind fun o416=>match o416 with
   | .norm=>(f5n6 f ba1 bh2 bi3 bl4 (wr64 (v298+1)))
   | .ret=>some .ret
  else
   some .exit0
theorem f5n6_ok:∀(f:Nat)(ba1:List Qb)(bh2:Bool)(bi3:(List Qa)×Int×Int)(bl4:Int×Int×(List Qa))(v298:Int){o:f5n6O},(f5n6 f ba1 bh2 bi3 bl4 v298)=some o→TL Try.prog Try.f5.ntmps 0 f (cL (cL (Qj 1 (cL (Qj 4 (Qj 3 (Qj 5 c5))))))) (f5n6S ba1 bh2 bi3 bl4 v298) (fun r=>r=f5n6E ba1 bh2 bi3 bl4 o)
 | 0,_,_,_,_,_,o,h=>by rw [f5n6] at h; cases h
 | f + 1, ba1, bh2, bi3, bl4, v298, o, h => by
  rw [f5n6] at h
  refine TL.body (K:=fun s=>∃v298:Int,s=(f5n6S ba1 bh2 bi3 bl4 v298)∧(f5n6 f ba1 bh2 bi3 bl4 v298)=some o) ?_ (by rintro _ ⟨v298,rfl,hk⟩; exact f5n6_ok f _ _ _ _ _ hk)
  rcases Qh h with ⟨h300,h⟩ | ⟨h300,h⟩
  ·refine rN Qf 1 [([], [], [(2, .val (jI (ba1.length : Int)))])] [some true] [] [0] [0, 7, 8, 16, 17, 21] (f5n2S ba1 bh2 bi3 bl4 v298) (ap (Qp (xs := ba1) (c := Qb.cells)) (ap h300 an)) ?_
   obtain ⟨o416,h417,h⟩:=Qd h
   cases o416 with
   | norm =>
    refine T.oneN (by kernel_rfl) (f5n2_ok ba1 bh2 bi3 bl4 v298 h417) (st2:=(f5n2E ba1 bh2 bi3 bl4 v298 .norm).2) rfl ?_
    exact rE Qf [j3] [] [] [0] [0,7,8,16,17,21] (.norm,(f5n6S ba1 bh2 bi3 bl4 (wr64 (v298+1)))) an (Qo.norm ⟨(wr64 (v298+1)),rfl,h⟩)
   | ret =>
    obtain rfl:=Qe h
    exact T.oneX' (by kernel_rfl) (f5n2_ok ba1 bh2 bi3 bl4 v298 h417) (tds:=[]) (m:=[]) (keep:=[6]) (st2:=(f5n6E ba1 bh2 bi3 bl4 .ret).2) (by kernel_rfl) an rfl (Qo.out rfl rfl)
  ·obtain rfl := Qe h
   exact rK Qf 1 [([],[],[(2,.val (jI (ba1.length:Int)))])] [some false] [] [] [7] (.exit 0) ((f5n6E ba1 bh2 bi3 bl4 .exit0).2) (ap (Qp (xs:=ba1) (c:=Qb.cells)) (ap h300 an)) (Qo.out rfl rfl)
inductive f5n1O where
 | norm
 | ret
def f5n1E(ba1:List Qb)(bh2:Bool)(bi3:(List Qa)×Int×Int)(bl4:Int×Int×(List Qa)):f5n1O→Ex×Tr×Hp
 | .norm=>(.norm,mkS [(7,(jB bh2))],[])
 | .ret=>(.ret,mkS [(6,(jB false))],[])
def f5n1S(ba1:List Qb)(bh2:Bool)(bi3:(List Qa)×Int×Int)(bl4:Int×Int×(List Qa)):Tr×Hp:=(mkS [(0,(jL 4 Qb.cells ba1)),(7,(jB bh2)),(8,(jL 3 Qa.cells bi3.1)),(16,(.own 0)),(17,(jI bl4.1))],[jR 3 Qa.cells bl4.2.2])
noncomputable def f5n1(ba1:List Qb)(bh2:Bool)(bi3:(List Qa)×Int×Int)(bl4:Int×Int×(List Qa)):Option f5n1O :=
 (f5n6 FUEL ba1 bh2 bi3 bl4 0).bind fun o418=>match o418 with
 | .exit0=>some .norm
 | .ret=>some .ret
theorem f5n1_ok(ba1:List Qb)(bh2:Bool)(bi3:(List Qa)×Int×Int)(bl4:Int×Int×(List Qa)){o:f5n1O}(h:(f5n1 ba1 bh2 bi3 bl4)=some o):T Try.prog Try.f5.ntmps 0 (cL (Qj 4 (Qj 3 (Qj 5 c5)))) (f5n1S ba1 bh2 bi3 bl4) (fun r=>r=f5n1E ba1 bh2 bi3 bl4 o):=by
 unfold f5n1 at h
 refine rN Qf 1 [j3] [] [] [0] [0,7,8,16,17,21] (f5n6S ba1 bh2 bi3 bl4 0) an ?_
 obtain ⟨o418,h419,h⟩:=Qd h
 cases o418 with
 | exit0 =>
  obtain rfl:=Qe h
  exact T.last' (T.bl (i:=0) (by kernel_rfl) (by kernel_rfl) (f5n6_ok FUEL ba1 bh2 bi3 bl4 0 h419)) (tds:=[]) (m:=[]) (keep:=[7]) (st2:=(f5n1E ba1 bh2 bi3 bl4 .norm).2) (by kernel_rfl) an rfl
 | ret =>
  obtain rfl:=Qe h
  exact T.last' (T.bl (i:=0) (by kernel_rfl) (by kernel_rfl) (f5n6_ok FUEL ba1 bh2 bi3 bl4 0 h419)) (tds:=[]) (m:=[]) (keep:=[6]) (st2:=(f5n1E ba1 bh2 bi3 bl4 .ret).2) (by kernel_rfl) an rfl
inductive f5n0O where
 | ret (v423:Bool)
def f5n0E(a1:List Qb)(a2 a3:Int):f5n0O→Ex×Tr×Hp
 | .ret v423=>(.ret,mkS [(6,(jB v423))],[])
def f5n0S(a1:List Qb)(a2 a3:Int):Tr×Hp:=(Qz [(jL 4 Qb.cells a1),(jI a2),(jI a3)] 0 .leaf,[])
noncomputable def f5n0(a1:List Qb)(a2 a3:Int):Option f5n0O :=
 f11.bind fun x6 =>
 (f12 a1 []).bind fun x12 =>
 bif x12 then
  some (.ret x6)
 else
  bif x6 then
   (f13 a1 a2).bind fun x18 =>
   bif (decide (x18.2.2=0)) then
    (f14 x18.1).bind fun x24 =>
    (f17r1 x18.1).bind fun x30 =>
    (f16r2 x24.1 x30).bind fun x32 =>
    bif x24.2 then
     bif (decide (x32.2.1=0)) then
      bif (decide (x32.1=0)) then
       (f18 x32.2.2 x18.1).bind fun x43 =>
       bif x43 then
        (f16r1 x18.1 a3).bind fun x48 =>
        bif (decide (x48.2.1=0)) then
         (f14 x48.2.2).bind fun x55 =>
         bif x55.2 then
          bif (decide ((wr64 (x55.1+x48.1))=a3)) then
           bif (decide (x48.1<0)) then
            some (.ret false)
           else
            (f5n1 a1 x6 x18 x48).bind fun o420=>match o420 with
            | .norm=>some (.ret x6)
            | .ret=>some (.ret false)
          else
           some (.ret false)
         else
          some (.ret false)
        else
         bif (decide (a3<0)) then
          some (.ret true)
         else
          some (.ret (decide (1125899906842624<a3)))
       else
        some (.ret false)
      else
       some (.ret false)
     else
      some (.ret false)
    else
     some (.ret false)
   else
    some (.ret x6)
  else
   some (.ret x6)
theorem f5n0_ok(a1:List Qb)(a2 a3:Int){o:f5n0O}(h:(f5n0 a1 a2 a3)=some o):T Try.prog Try.f5.ntmps 0 c5 (f5n0S a1 a2 a3) (fun r=>r=f5n0E a1 a2 a3 o):=by
 unfold f5n0 at h
 obtain ⟨x6,h7,h⟩:=Qd h
 obtain ⟨x12,h13,h⟩:=Qd h
 rcases Qh h with ⟨h14,h⟩ | ⟨h14,h⟩
 ·obtain rfl := Qe h
  exact rK Qf 3 [j3,([],[jH 0 (jB x6)],[]),([(3,true),(4,true)],[jH 1 (jB x12),(5,.bool true)],[]),j3] [none] [] [] [6] .ret ((f5n0E a1 a2 a3 (.ret x6)).2) (ap (f11_ok h7) (ap3 h14 (ap (Ql.wk (args':=[(jL 4 Qb.cells a1),(.pl (.sl .nil 0 []))]) (f12_ok a1 [] h13) (wlc (Wk.refl _) (wlc (Wk.pl (WkP.nil (f:=.nil) (sz:=0) (sz':=3))) wln)) (Wk.refl _) rfl) an))) rfl
 ·rcases Qh h with ⟨h15, h⟩ | ⟨h15, h⟩
  ·obtain ⟨x18, h19, h⟩ := Qd h
   rcases Qh h with ⟨h21,h⟩ | ⟨h21,h⟩
   ·refine rN Qf 5 [j3, ([], [jH 0 (jB x6)], []), ([(3, false), (4, false)], [jH 1 (jB x12), (5, .bool false)], []), ([], [jH 2 (.tup [(jL 3 Qa.cells x18.1), (jI x18.2.1), (jI x18.2.2)])], []), j3] [some false, some false] [] [] [0, 2, 7, 8] (mkS [(0, (jL 4 Qb.cells a1)), (2, (jI a3)), (7, (jB x6)), (8, (jL 3 Qa.cells x18.1))], []) (ap (f11_ok h7) (ap3 h14 (ap (Ql.wk (args' := [(jL 4 Qb.cells a1), (.pl (.sl .nil 0 []))]) (f12_ok a1 [] h13) (wlc (Wk.refl _) (wlc (Wk.pl (WkP.nil (f := .nil) (sz := 0) (sz' := 3))) wln)) (Wk.refl _) rfl) (ap (Qad h15) (ap (f13_ok a1 a2 h19) (ap (Qad h21) an)))))) ?_
    obtain ⟨x24,h25,h⟩:=Qd h
    obtain ⟨x30,h31,h⟩:=Qd h
    obtain ⟨x32,h33,h⟩:=Qd h
    rcases Qh h with ⟨h40,h⟩ | ⟨h40,h⟩
    ·rcases Qh h with ⟨h41, h⟩ | ⟨h41, h⟩
     ·rcases Qh h with ⟨h42, h⟩ | ⟨h42, h⟩
      ·obtain ⟨x43, h44, h⟩ := Qd h
       rcases Qh h with ⟨h45,h⟩ | ⟨h45,h⟩
       ·refine rN Qf 3 [([], [jH 1 (.tup [(jI x24.1), (jB x24.2)])], []), ([], [(1, .call (.own 0) [jR 3 Qa.cells x30]), (3, .call (.tup [(.own 1), (jI x32.1), (jI x32.2.1)]) [jR 3 Qa.cells x30, jR 3 Qa.cells x32.2.2])], []), (jF [3, 4, 7, 8, 11, 12, 13, 14], [(5, .bool false), (9, .bool false), jH 13 (jB x43), (15, .bool false)], [])] [some false] [] [] [0, 2, 7, 8] (mkS [(0, (jL 4 Qb.cells a1)), (2, (jI a3)), (7, (jB x6)), (8, (jL 3 Qa.cells x18.1))], []) (ap (f14_ok x18.1 h25) (ap (f17r1_ok x18.1 h31) (ap (f16r2_ok x24.1 x30 h33) (ap3 (Qad h40) (ap3 (Qad h41) (ap (Qad h42) (ap4 (Qad h42) (ap (f18_ok x32.2.2 x18.1 h44) (ap (Qad h45) an))))))))) ?_
        obtain ⟨x48,h49,h⟩:=Qd h
        rcases Qh h with ⟨h52,h⟩ | ⟨h52,h⟩
        ·obtain ⟨x55, h56, h⟩ := Qd h
         rcases Qh h with ⟨h60,h⟩ | ⟨h60,h⟩
         ·rcases Qh h with ⟨h61, h⟩ | ⟨h61, h⟩
          ·rcases Qh h with ⟨h62, h⟩ | ⟨h62, h⟩
           ·obtain rfl := Qe h
            exact rK Qf 4 [([],[(2,.call (.tup [(.own 0),(jI x48.1),(jI x48.2.1)]) [jR 3 Qa.cells x48.2.2])],[]),j3,([],[jH 1 (.tup [(jI x55.1),(jB x55.2)])],[]),(jF [3,4,5,6,7,10,11],[(8,.bool false),(12,.bool false)],[]),j3] [some false,some true] [] [] [6] .ret ((f5n0E a1 a2 a3 (.ret false)).2) (ap (f16r1_ok x18.1 a3 h49) (ap (Qad h52) (ap (f14_ok x48.2.2 h56) (ap2 (Qad h60) (ap4 (Qad h60) (ap3 (Qad h61) (ap h62 an))))))) rfl
           ·refine rN Qf 4 [([], [(2, .call (.tup [(.own 0), (jI x48.1), (jI x48.2.1)]) [jR 3 Qa.cells x48.2.2])], []), j3, ([], [jH 1 (.tup [(jI x55.1), (jB x55.2)])], []), (jF [3, 4, 5, 6, 7, 10, 11], [(8, .bool false), (12, .bool false)], [])] [some false, some false] [] [0] [0, 7, 8, 16, 17] (f5n1S a1 x6 x18 x48) (ap (f16r1_ok x18.1 a3 h49) (ap (Qad h52) (ap (f14_ok x48.2.2 h56) (ap2 (Qad h60) (ap4 (Qad h60) (ap3 (Qad h61) (ap h62 an))))))) ?_
            obtain ⟨o420,h421,h⟩:=Qd h
            cases o420 with
            | norm =>
             refine T.oneN (by kernel_rfl) (f5n1_ok a1 x6 x18 x48 h421) (st2:=(f5n1E a1 x6 x18 x48 .norm).2) rfl ?_
             obtain rfl:=Qe h
             exact rE Qf [j3] [] [] [] [6] (.ret,(f5n0E a1 a2 a3 (.ret x6)).2) an rfl
            | ret =>
             obtain rfl:=Qe h
             exact T.oneX' (by kernel_rfl) (f5n1_ok a1 x6 x18 x48 h421) (tds:=[]) (m:=[]) (keep:=[6]) (st2:=(f5n0E a1 a2 a3 (.ret false)).2) (by kernel_rfl) an rfl rfl
          ·obtain rfl := Qe h
           exact rK Qf 4 [([],[(2,.call (.tup [(.own 0),(jI x48.1),(jI x48.2.1)]) [jR 3 Qa.cells x48.2.2])],[]),j3,([],[jH 1 (.tup [(jI x55.1),(jB x55.2)])],[]),(jF [3,4,5,6,7]++jT [10,11],[(8,.bool false),(12,.bool true)],[]),j3] [some false,none] [] [] [6] .ret ((f5n0E a1 a2 a3 (.ret false)).2) (ap (f16r1_ok x18.1 a3 h49) (ap (Qad h52) (ap (f14_ok x48.2.2 h56) (ap2 (Qad h60) (ap4 (Qad h60) (ap3 (Qai h61) an)))))) rfl
         ·obtain rfl := Qe h
          exact rK Qf 4 [([],[(2,.call (.tup [(.own 0),(jI x48.1),(jI x48.2.1)]) [jR 3 Qa.cells x48.2.2])],[]),j3,([],[jH 1 (.tup [(jI x55.1),(jB x55.2)])],[]),(jT [3,4,5,6,7],[(8,.bool true)],[]),j3] [some false,none] [] [] [6] .ret ((f5n0E a1 a2 a3 (.ret false)).2) (ap (f16r1_ok x18.1 a3 h49) (ap (Qad h52) (ap (f14_ok x48.2.2 h56) (ap2 (Qai h60) (ap4 (Qai h60) an))))) rfl
        ·rcases Qh h with ⟨h422, h⟩ | ⟨h422, h⟩
         ·obtain rfl := Qe h
          exact rK Qf 2 [([],[(2,.call (.tup [(.own 0),(jI x48.1),(jI x48.2.1)]) [jR 3 Qa.cells x48.2.2])],[]),j3,(jT [2,3,4,5,6,7],[(7,.bool true),(8,.bool true)],[])] [some true] [] [] [6] .ret ((f5n0E a1 a2 a3 (.ret true)).2) (ap (f16r1_ok x18.1 a3 h49) (ap (Qai h52) (ap3 h15 (ap2 h422 (ap h15 (ap h422 (ap h15 an))))))) rfl
         ·obtain rfl := Qe h
          exact rK Qf 2 [([],[(2,.call (.tup [(.own 0),(jI x48.1),(jI x48.2.1)]) [jR 3 Qa.cells x48.2.2])],[]),j3,(jF [5,6]++jT [2,3,4,7],[(7,.bool false),(8,.bool true)],[])] [some true] [] [] [6] .ret ((f5n0E a1 a2 a3 (.ret (decide (1125899906842624<a3)))).2) (ap (f16r1_ok x18.1 a3 h49) (ap (Qai h52) (ap3 h15 (ap2 h422 (ap h15 (ap h422 (ap h15 an))))))) rfl
       ·obtain rfl := Qe h
        exact rK Qf 3 [([],[jH 1 (.tup [(jI x24.1),(jB x24.2)])],[]),([],[(1,.call (.own 0) [jR 3 Qa.cells x30]),(3,.call (.tup [(.own 1),(jI x32.1),(jI x32.2.1)]) [jR 3 Qa.cells x30,jR 3 Qa.cells x32.2.2])],[]),(jF [3,4,7,8,11,12,13,14],[(5,.bool false),(9,.bool false),jH 13 (jB x43),(15,.bool false)],[]),j3] [some true] [] [] [6] .ret ((f5n0E a1 a2 a3 (.ret false)).2) (ap (f14_ok x18.1 h25) (ap (f17r1_ok x18.1 h31) (ap (f16r2_ok x24.1 x30 h33) (ap3 (Qad h40) (ap3 (Qad h41) (ap (Qad h42) (ap4 (Qad h42) (ap (f18_ok x32.2.2 x18.1 h44) (ap (Qai h45) an))))))))) rfl
      ·obtain rfl := Qe h
       exact rK Qf 3 [([],[jH 1 (.tup [(jI x24.1),(jB x24.2)])],[]),([],[(1,.call (.own 0) [jR 3 Qa.cells x30]),(3,.call (.tup [(.own 1),(jI x32.1),(jI x32.2.1)]) [jR 3 Qa.cells x30,jR 3 Qa.cells x32.2.2])],[]),(jF [3,4,7,8]++jT [11,12,13,14],[(5,.bool false),(9,.bool false),(15,.bool true)],[]),j3] [none] [] [] [6] .ret ((f5n0E a1 a2 a3 (.ret false)).2) (ap (f14_ok x18.1 h25) (ap (f17r1_ok x18.1 h31) (ap (f16r2_ok x24.1 x30 h33) (ap3 (Qad h40) (ap3 (Qad h41) (ap (Qai h42) (ap4 (Qai h42) an))))))) rfl
     ·obtain rfl := Qe h
      exact rK Qf 3 [([],[jH 1 (.tup [(jI x24.1),(jB x24.2)])],[]),([],[(1,.call (.own 0) [jR 3 Qa.cells x30]),(3,.call (.tup [(.own 1),(jI x32.1),(jI x32.2.1)]) [jR 3 Qa.cells x30,jR 3 Qa.cells x32.2.2])],[]),(jF [3,4]++jT [7,8],[(5,.bool false),(9,.bool true)],[]),j3] [none] [] [] [6] .ret ((f5n0E a1 a2 a3 (.ret false)).2) (ap (f14_ok x18.1 h25) (ap (f17r1_ok x18.1 h31) (ap (f16r2_ok x24.1 x30 h33) (ap3 (Qad h40) (ap3 (Qai h41) an))))) rfl
    ·obtain rfl := Qe h
     exact rK Qf 3 [([],[jH 1 (.tup [(jI x24.1),(jB x24.2)])],[]),([],[(1,.call (.own 0) [jR 3 Qa.cells x30]),(3,.call (.tup [(.own 1),(jI x32.1),(jI x32.2.1)]) [jR 3 Qa.cells x30,jR 3 Qa.cells x32.2.2])],[]),([(3,true),(4,true)],[(5,.bool true)],[]),j3] [none] [] [] [6] .ret ((f5n0E a1 a2 a3 (.ret false)).2) (ap (f14_ok x18.1 h25) (ap (f17r1_ok x18.1 h31) (ap (f16r2_ok x24.1 x30 h33) (ap3 (Qai h40) an)))) rfl
   ·obtain rfl := Qe h
    exact rK Qf 5 [j3,([],[jH 0 (jB x6)],[]),([(3,false),(4,false)],[jH 1 (jB x12),(5,.bool false)],[]),([],[jH 2 (.tup [(jL 3 Qa.cells x18.1),(jI x18.2.1),(jI x18.2.2)])],[]),j3,j3] [some false,some true] [] [] [6] .ret ((f5n0E a1 a2 a3 (.ret x6)).2) (ap (f11_ok h7) (ap3 h14 (ap (Ql.wk (args':=[(jL 4 Qb.cells a1),(.pl (.sl .nil 0 []))]) (f12_ok a1 [] h13) (wlc (Wk.refl _) (wlc (Wk.pl (WkP.nil (f:=.nil) (sz:=0) (sz':=3))) wln)) (Wk.refl _) rfl) (ap (Qad h15) (ap (f13_ok a1 a2 h19) (ap (Qai h21) an)))))) rfl
  ·obtain rfl := Qe h
   exact rK Qf 3 [j3,([],[jH 0 (jB x6)],[]),([(3,false),(4,false)],[jH 1 (jB x12),(5,.bool false)],[]),j3] [some true] [] [] [6] .ret ((f5n0E a1 a2 a3 (.ret x6)).2) (ap (f11_ok h7) (ap3 h14 (ap (Ql.wk (args':=[(jL 4 Qb.cells a1),(.pl (.sl .nil 0 []))]) (f12_ok a1 [] h13) (wlc (Wk.refl _) (wlc (Wk.pl (WkP.nil (f:=.nil) (sz:=0) (sz':=3))) wln)) (Wk.refl _) rfl) (ap (Qai h15) an)))) rfl
noncomputable def f5(a1:List Qb)(a2 a3:Int):Option Bool:=(f5n0 a1 a2 a3).bind fun o=>match o with
 | .ret v423=>some v423
theorem f5_ok(a1:List Qb)(a2 a3:Int){r:Bool}(h:(f5 a1 a2 a3)=some r):Ql Try.prog false 5 [(jL 4 Qb.cells a1),(jI a2),(jI a3)] [] (jB r) []:=by
 unfold f5 at h
 obtain ⟨o,ho,h⟩:=Qd h
 cases o with
 | ret v423 =>
  obtain rfl:=Qe h
  exact Ql.plain Qf (f:=Try.f5) (c:=c5) (by kernel_rfl) (by kernel_rfl) (by kernel_rfl) (by kernel_rfl) ((f5n0_ok a1 a2 a3 ho).mono fun r e=>by subst e; exact ⟨.inl rfl,(jB v423),(jB v423),by kernel_rfl,by kernel_rfl,((Wk.refl _):Wk (jB v423) (jB v423))⟩)








end Go.Proofs.Ytgbolgaodaokcaa
namespace Go.Proofs.Ytgbolgaodaokcaa
set_option linter.unusedVariables false
set_option linter.unusedSimpArgs false
set_option maxRecDepth 100000
open Go.RowKit






noncomputable def c6:Code:=Try.f6.body.getD .skip



end Go.Proofs.Ytgbolgaodaokcaa
namespace Go.Proofs.Ytgbolgaodaokcaa
set_option linter.unusedVariables false
set_option linter.unusedSimpArgs false
set_option maxRecDepth 100000
open Go.RowKit









end Go.Proofs.Ytgbolgaodaokcaa
namespace Go.Proofs.Ytgbolgaodaokcaa
set_option linter.unusedVariables false
set_option linter.unusedSimpArgs false
set_option maxRecDepth 100000
open Go.RowKit




end Go.Proofs.Ytgbolgaodaokcaa
namespace Go.Proofs.Ytgbolgaodaokcaa
set_option linter.unusedVariables false
set_option linter.unusedSimpArgs false
set_option maxRecDepth 100000
open Go.RowKit

end Go.Proofs.Ytgbolgaodaokcaa
