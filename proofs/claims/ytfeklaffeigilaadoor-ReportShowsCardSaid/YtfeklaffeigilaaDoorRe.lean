/- Several texts in one. No condition. -/
import Derived.Test.YtfeklaffeigilaaDoorA1
import Derived.Test.YtfeklaffeigilaaDoorTU
namespace Go.Proofs.YtfeklaffeigilaaDoor
set_option linter.unusedVariables false
set_option linter.unusedSimpArgs false
set_option maxRecDepth 100000
open Go.RowKit
inductive f30r2n2O where
 | exit0 (v44:List ByteArray)
def f30r2n2E(bf2:List Int)(bb3:ByteArray):f30r2n2O→Ex×Tr×Hp
 | .exit0 v44=>((.exit 0),mkS [(0,(.own 4)),(2,(.bp 2 0))],[none,some (.row false 1 (bf2.map (cInt .i64))),some (.box 71 [(.bp 2 0),(.own 3)]),some (.brow 5 bb3),jR 1 cStr v44])
def f30r2n2S(bf2:List Int)(bb3:ByteArray)(v30:Int)(v31:List ByteArray):Tr×Hp:=(mkS [(0,(.own 4)),(2,(.bp 2 0)),(7,(.own 1)),(8,(jI (bf2.length:Int))),(9,(jI v30))],[none,some (.row false 1 (bf2.map (cInt .i64))),some (.box 71 [(.bp 2 0),(.own 3)]),some (.brow 5 bb3),jR 1 cStr v31])
noncomputable def f30r2n2:Nat→List Int→ByteArray→Int→List ByteArray→Option f30r2n2O
 | 0,_,_,_,_=>none
 | f+1,bf2,bb3,v30,v31 =>
  bif decide (v30<(bf2.length:Int)) then
   (at? bf2 v30).bind fun x39 =>
   (ita31 x39).bind fun x41 =>
   req (fit (v31.length+1) 16) <|
   (f30r2n2 f bf2 bb3 (wr64 (v30+1)) (v31++[x41]))
  else
   some (.exit0 v31)
theorem f30r2n2_ok:∀(f:Nat)(bf2:List Int)(bb3:ByteArray)(v30:Int)(v31:List ByteArray){o:f30r2n2O},f30r2n2 f bf2 bb3 v30 v31=some o→TL Tryd.prog Tryd.f30.ntmps 4 f (cL (cL (Qj 1 (cL (Qj 0 c30))))) (f30r2n2S bf2 bb3 v30 v31) (·=f30r2n2E bf2 bb3 o)
 | 0,_,_,_,_,o,h=>by rw [f30r2n2] at h; cases h
 | f+1,bf2,bb3,v30,v31,o,h=>by
  rw [f30r2n2] at h;refine TL.body (K:=fun s=>∃v30:Int,∃v31:List ByteArray,s=(f30r2n2S bf2 bb3 v30 v31)∧f30r2n2 f bf2 bb3 v30 v31=some o) ?_ (by rintro _ ⟨v30,v31,rfl,hk⟩; exact f30r2n2_ok f _ _ _ _ hk);rcases Qf h with ⟨h33,h⟩|⟨h33,h⟩
  ·obtain ⟨x39,h40,h⟩:=Qb h;obtain ⟨x41,h42,h⟩:=Qb h;obtain ⟨h43,h⟩:=Qr h;exact rE Qe [j3,([],[(0,.at_ (Int.toNat v30)),(1,.idx 0 ((cInt .i64) x39))],[]),([],[jH 2 (jS x41),(4,.fits)],[(4,.row 6 ((v31++[x41]).map cStr))]),j3] [some true] [] [6] [0,2,7,8,9] (.norm,(f30r2n2S bf2 bb3 (wr64 (v30+1)) (v31++[x41]))) (ap h33 (ap (Qi h40).1 (ap (lt_map (cInt .i64) (Qi h40).2) (ap (Qu (cInt .i64) (Qi h40).2) (ap (fit_map (te:=ti9) (xs:=v31) (n:=1) (c:=cStr) h43 rfl) (ap (app_cv (xs:=v31) (ys:=[x41]) (c:=cStr)) (ap (ita31_ok x39 h42) an))))))) (Qy.norm ⟨(wr64 (v30+1)),(v31++[x41]),rfl,h⟩)
  ·obtain rfl:=Qc h;exact rK Qe 2 [j3] [some false] [] [4] [0,2] (.exit 0) ((f30r2n2E bf2 bb3 (.exit0 v31)).2) (ap h33 an) (Qy.out rfl rfl)
noncomputable def f30r2n2L(bf2:List Int)(bb3:ByteArray):List Int→Int→(List ByteArray)→Option f30r2n2O
 | [],v30,v31 =>
  some (.exit0 v31)
 | x0::rest,v30,v31 =>
  (ita31 x0).bind fun x41 =>
  req (fit (v31.length+1) 16) <|
  (f30r2n2L bf2 bb3 rest (v30+1) (v31++[x41]))
theorem f30r2n2L_eq(bf2:List Int)(bb3:ByteArray):∀(rest:List Int)(f k:Nat)(v31:List ByteArray),bf2.drop k=rest→bf2.length≤maxLen→rest.length<f→f30r2n2 f bf2 bb3 (k:Int) v31=f30r2n2L bf2 bb3 rest (k:Int) v31
 | _,0,_,_,_,_,hf=>absurd hf (Nat.not_lt_zero _)
 | [],f+1,k,v31,hd,hm,hf=>by
  have hk:¬((k:Int)<(bf2.length:Int)):=by have:=Qah hd; omega
  rw [f30r2n2,f30r2n2L];simp only [decide_eq_false hk,cond_false]
 | x0::rest,f+1,k,v31,hd,hm,hf=>by
  obtain ⟨hx,hlt,hd'⟩:=Qap hd;have hk:(k:Int)<(bf2.length:Int):=by omega
  have hw:wr64 ((k:Int)+1)=(k:Int)+1:=wr64_of (by omega) (by unfold maxLen at hm; omega);have ih:∀(v31:List ByteArray),f30r2n2 f bf2 bb3 ((k:Int)+1) v31=f30r2n2L bf2 bb3 rest ((k:Int)+1) v31:=fun v31=>f30r2n2L_eq bf2 bb3 rest f (k+1) v31 hd' hm (by simpa using hf);rw [f30r2n2,f30r2n2L];simp only [decide_eq_true hk,cond_true,at_nat,hx,Option.bind_some,hw,ih]
theorem f30r2n2_run(bf2:List Int)(bb3:ByteArray)(v31:List ByteArray)(hm:bf2.length≤maxLen):f30r2n2 FUEL bf2 bb3 0 v31=f30r2n2L bf2 bb3 bf2 0 v31:=f30r2n2L_eq bf2 bb3 bf2 FUEL 0 v31 List.drop_zero hm (Qcf hm)
inductive f30r2n1O where
 | norm (v48:List ByteArray)
def f30r2n1E(bh1:List ByteArray)(bf2:List Int)(bb3:ByteArray):f30r2n1O→Ex×Tr×Hp
 | .norm v48=>(.norm,mkS [(0,(.own 4)),(2,(.bp 2 0))],[none,some (.row false 1 (bf2.map (cInt .i64))),some (.box 71 [(.bp 2 0),(.own 3)]),some (.brow 5 bb3),jR 1 cStr v48])
def f30r2n1S(bh1:List ByteArray)(bf2:List Int)(bb3:ByteArray):Tr×Hp:=(mkS [(0,(.own 0)),(1,(.own 1)),(2,(.bp 2 0))],[jR 1 cStr bh1,some (.row false 1 (bf2.map (cInt .i64))),some (.box 71 [(.bp 2 0),(.own 3)]),some (.brow 5 bb3)])
noncomputable def f30r2n1(bh1:List ByteArray)(bf2:List Int)(bb3:ByteArray):Option f30r2n1O :=
 (f30r2n2 FUEL bf2 bb3 0 bh1).bind fun o45=>match o45 with
 | .exit0 v47=>some (.norm v47)
theorem f30r2n1_ok(bh1:List ByteArray)(bf2:List Int)(bb3:ByteArray){o:f30r2n1O}(h:f30r2n1 bh1 bf2 bb3=some o):T Tryd.prog Tryd.f30.ntmps 4 (cL (Qj 0 c30)) (f30r2n1S bh1 bf2 bb3) (·=f30r2n1E bh1 bf2 bb3 o):=by
 unfold f30r2n1 at h;refine rN Qe 1 [([],[],[(1,.val (jI (bf2.length:Int)))])] [] [.mov 0] [4] [0,2,7,8,9] (f30r2n2S bf2 bb3 0 bh1) (ap (Qx (xs:=bf2) (c:=(cInt .i64))) an) ?_;obtain ⟨o45,h46,h⟩:=Qb h;cases o45 with
 | exit0 v47 =>
  obtain rfl:=Qc h;exact T.last' (T.bl (i:=0) (by kernel_rfl) (by kernel_rfl) (f30r2n2_ok FUEL bf2 bb3 0 bh1 h46)) (tds:=[]) (m:=[4]) (keep:=[0,2]) (st2:=(f30r2n1E bh1 bf2 bb3 (.norm v47)).2) (by kernel_rfl) an rfl
inductive f30r2n0O where
 | norm (v62:ByteArray)
def f30r2n0E(a1:List ByteArray)(a2:List Int)(a3:ByteArray):f30r2n0O→Ex×Tr×Hp
 | .norm v62=>(.norm,mkS [],[none,some (.row false 1 (a2.map (cInt .i64))),some (.box 71 [(.bp 2 0),(.own 4)]),none,some (.brow 5 v62)])
def f30r2n0S(a1:List ByteArray)(a2:List Int)(a3:ByteArray):Tr×Hp:=(Qbd [(.own 0),(.own 1),(.bp 2 0)] 0 .leaf,[jR 1 cStr a1,some (.row false 1 (a2.map (cInt .i64))),some (.box 71 [(.bp 2 0),(.own 3)]),some (.brow 5 a3)])
noncomputable def f30r2n0(a1:List ByteArray)(a2:List Int)(a3:ByteArray):Option f30r2n0O :=
 (f30r2n1 a1 a2 a3).bind fun o49=>match o49 with
 | .norm v51=>(f33 v51 Ql).bind fun x57 =>
  req (decide (x57.size+Qbh.size≤9223372036854775807)) <|
  (wm32 a3 (scat x57 Qbh)).bind fun x60 =>
  some (.norm x60)
theorem f30r2n0_ok(a1:List ByteArray)(a2:List Int)(a3:ByteArray){o:f30r2n0O}(h:f30r2n0 a1 a2 a3=some o):T Tryd.prog Tryd.f30.ntmps 4 c30 (f30r2n0S a1 a2 a3) (·=f30r2n0E a1 a2 a3 o):=by
 unfold f30r2n0 at h;refine rN Qe 0 [] [] [] [] [0,1,2] (f30r2n1S a1 a2 a3) an ?_;obtain ⟨o49,h50,h⟩:=Qb h;cases o49 with
 | norm v51 =>
  refine T.oneN (by kernel_rfl) (f30r2n1_ok a1 a2 a3 h50) (st2:=(f30r2n1E a1 a2 a3 (.norm v51)).2) rfl ?_;obtain ⟨x57,h58,h⟩:=Qb h;obtain ⟨h59,h⟩:=Qr h;obtain ⟨x60,h61,h⟩:=Qb h;obtain rfl:=Qc h;exact rE Qe [([],[jH 1 (jS x57),(2,.fits),(3,.call (.tup [(jI (((scat x57 Qbh).size:Nat):Int)),(.pl .nili)]) [none,none,some (.box 71 [(.bp 2 0),(.own 5)]),none,none,some (.brow 5 x60)])],[])] [] [] [5] [] (.norm,(f30r2n0E a1 a2 a3 (.norm x60)).2) (ap (of_decide_eq_true h59) (ap (f33_ok v51 Ql h58) (ap (Qs.rn 5 [2,3] (wm32_ok a3 (scat x57 Qbh) h61)) an))) rfl
noncomputable def f30r2(a1:List ByteArray)(a2:List Int)(a3:ByteArray):Option ByteArray:=(f30r2n0 a1 a2 a3).bind fun o=>match o with
 | .norm v62=>some v62
theorem f30r2_ok(a1:List ByteArray)(a2:List Int)(a3:ByteArray){r:ByteArray}(h:f30r2 a1 a2 a3=some r):Qs Tryd.prog true 30 [(.own 0),(.own 1),(.bp 2 0)] [jR 1 cStr a1,some (.row false 1 (a2.map (cInt .i64))),some (.box 71 [(.bp 2 0),(.own 3)]),some (.brow 5 a3)] (.tup []) [none,some (.row false 1 (a2.map (cInt .i64))),some (.box 71 [(.bp 2 0),(.own 4)]),none,some (.brow 5 r)]:=by
 unfold f30r2 at h;obtain ⟨o,ho,h⟩:=Qb h;cases o with
 | norm v62 =>
  obtain rfl:=Qc h;exact Qs.shared Qe (f:=Tryd.f30) (c:=c30) (by kernel_rfl) (by kernel_rfl) (by kernel_rfl) ((f30r2n0_ok a1 a2 a3 ho).mono fun r e=>by subst e; exact ⟨.inr rfl,by kernel_rfl,by kernel_rfl⟩)

noncomputable def c10:Code:=Tryd.f10.body.getD .skip
inductive f10n2O where
 | exit0 (v46:ByteArray)
def f10n2E(ba1:Qd):f10n2O→Ex×Tr×Hp
 | .exit0 v46=>((.exit 0),mkS [(5,(.bp 0 0))],[some (.box 71 [(.bp 0 0),(.own 1)]),some (.brow 5 v46)])
def f10n2S(ba1:Qd)(v34:Int)(v35:ByteArray):Tr×Hp:=(mkS [(5,(.bp 0 0)),(6,(.clo 30 [(.bp 0 0)])),(26,(jL 4 Qa.cells ba1.Rows)),(27,(jI (ba1.Rows.length:Int))),(28,(jI v34))],[some (.box 71 [(.bp 0 0),(.own 1)]),some (.brow 5 v35)])
noncomputable def f10n2:Nat→Qd→Int→ByteArray→Option f10n2O
 | 0,_,_,_=>none
 | f+1,ba1,v34,v35 =>
  bif decide (v34<(ba1.Rows.length:Int)) then
   (at? ba1.Rows v34).bind fun x42 =>
   (f30r2 [x42.Account,x42.Ccy] [x42.In,x42.Out,(wr64 (x42.In-x42.Out))] v35).bind fun x44 =>
   (f10n2 f ba1 (wr64 (v34+1)) x44)
  else
   some (.exit0 v35)
theorem f10n2_ok:∀(f:Nat)(ba1:Qd)(v34:Int)(v35:ByteArray){o:f10n2O},f10n2 f ba1 v34 v35=some o→TL Tryd.prog Tryd.f10.ntmps 0 f (cL (cL (Qj 1 (cL (Qj 5 c10))))) (f10n2S ba1 v34 v35) (·=f10n2E ba1 o)
 | 0,_,_,_,o,h=>by rw [f10n2] at h; cases h
 | f+1,ba1,v34,v35,o,h=>by
  rw [f10n2] at h;refine TL.body (K:=fun s=>∃v34:Int,∃v35:ByteArray,s=(f10n2S ba1 v34 v35)∧f10n2 f ba1 v34 v35=some o) ?_ (by rintro _ ⟨v34,v35,rfl,hk⟩; exact f10n2_ok f _ _ _ hk);rcases Qf h with ⟨h37,h⟩|⟨h37,h⟩
  ·obtain ⟨x42,h43,h⟩:=Qb h;obtain ⟨x44,h45,h⟩:=Qb h;exact rE Qe [j3,([],[(0,.idx (Int.toNat v34) (Qa.cells x42))],[]),([],[(16,.call (.tup []) [some (.box 71 [(.bp 0 0),(.own 5)]),none,none,none,some (.row false 1 ([x42.In,x42.Out,(wr64 (x42.In-x42.Out))].map (cInt .i64))),some (.brow 5 x44)])],[]),j3] [some true] [] [0,5] [5,6,26,27,28] (.norm,(f10n2S ba1 (wr64 (v34+1)) x44)) (ap h37 (ap (Qi h43).1 (ap (Qu Qa.cells (Qi h43).2) (ap (Qs.rn 5 [3,4,0,1] (f30r2_ok [x42.Account,x42.Ccy] [x42.In,x42.Out,(wr64 (x42.In-x42.Out))] v35 h45)) an)))) (Qy.norm ⟨(wr64 (v34+1)),x44,rfl,h⟩)
  ·obtain rfl:=Qc h;exact rK Qe 2 [j3] [some false] [] [0,1] [5] (.exit 0) ((f10n2E ba1 (.exit0 v35)).2) (ap h37 an) (Qy.out rfl rfl)
noncomputable def f10n2L(ba1:Qd):List Qa→Int→ByteArray→Option f10n2O
 | [],v34,v35 =>
  some (.exit0 v35)
 | x0::rest,v34,v35 =>
  (f30r2 [x0.Account,x0.Ccy] [x0.In,x0.Out,(wr64 (x0.In-x0.Out))] v35).bind fun x44 =>
  (f10n2L ba1 rest (v34+1) x44)
theorem f10n2L_eq(ba1:Qd):∀(rest:List Qa)(f k:Nat)(v35:ByteArray),ba1.Rows.drop k=rest→ba1.Rows.length≤maxLen→rest.length<f→f10n2 f ba1 (k:Int) v35=f10n2L ba1 rest (k:Int) v35
 | _,0,_,_,_,_,hf=>absurd hf (Nat.not_lt_zero _)
 | [],f+1,k,v35,hd,hm,hf=>by
  have hk:¬((k:Int)<(ba1.Rows.length:Int)):=by have:=Qah hd; omega
  rw [f10n2,f10n2L];simp only [decide_eq_false hk,cond_false]
 | x0::rest,f+1,k,v35,hd,hm,hf=>by
  obtain ⟨hx,hlt,hd'⟩:=Qap hd;have hk:(k:Int)<(ba1.Rows.length:Int):=by omega
  have hw:wr64 ((k:Int)+1)=(k:Int)+1:=wr64_of (by omega) (by unfold maxLen at hm; omega);have ih:∀(v35:ByteArray),f10n2 f ba1 ((k:Int)+1) v35=f10n2L ba1 rest ((k:Int)+1) v35:=fun v35=>f10n2L_eq ba1 rest f (k+1) v35 hd' hm (by simpa using hf);rw [f10n2,f10n2L];simp only [decide_eq_true hk,cond_true,at_nat,hx,Option.bind_some,hw,ih]
theorem f10n2_run(ba1:Qd)(v35:ByteArray)(hm:ba1.Rows.length≤maxLen):f10n2 FUEL ba1 0 v35=f10n2L ba1 ba1.Rows 0 v35:=f10n2L_eq ba1 ba1.Rows FUEL 0 v35 List.drop_zero hm (Qcf hm)
inductive f10n1O where
 | norm (v50:ByteArray)
def f10n1E(ba1:Qd)(bb2:ByteArray):f10n1O→Ex×Tr×Hp
 | .norm v50=>(.norm,mkS [(5,(.bp 0 0))],[some (.box 71 [(.bp 0 0),(.own 1)]),some (.brow 5 v50)])
def f10n1S(ba1:Qd)(bb2:ByteArray):Tr×Hp:=(mkS [(1,(.bp 0 0)),(5,(.bp 1 0)),(6,(.clo 30 [(.bp 1 0)]))],[some (.box 24 ((Qd.cells ba1).map .pl)),some (.box 71 [(.bp 1 0),(.own 2)]),some (.brow 5 bb2)])
noncomputable def f10n1(ba1:Qd)(bb2:ByteArray):Option f10n1O :=
 (f10n2 FUEL ba1 0 bb2).bind fun o47=>match o47 with
 | .exit0 v49=>some (.norm v49)
theorem f10n1_ok(ba1:Qd)(bb2:ByteArray){o:f10n1O}(h:f10n1 ba1 bb2=some o):T Tryd.prog Tryd.f10.ntmps 0 (cL (Qj 5 c10)) (f10n1S ba1 bb2) (·=f10n1E ba1 bb2 o):=by
 unfold f10n1 at h;refine rN Qe 1 [([],[],[(2,.val (jI (ba1.Rows.length:Int)))])] [] [] [1,2] [5,6,26,27,28] (f10n2S ba1 0 bb2) (ap (Qx (xs:=ba1.Rows) (c:=Qa.cells)) an) ?_;obtain ⟨o47,h48,h⟩:=Qb h;cases o47 with
 | exit0 v49 =>
  obtain rfl:=Qc h;exact T.last' (T.bl (i:=0) (by kernel_rfl) (by kernel_rfl) (f10n2_ok FUEL ba1 0 bb2 h48)) (tds:=[]) (m:=[0,1]) (keep:=[5]) (st2:=(f10n1E ba1 bb2 (.norm v49)).2) (by kernel_rfl) an rfl
inductive f10n0O where
 | ret (v58:ByteArray) (v59:Int)
def f10n0E(a1:Qd):f10n0O→Ex×Tr×Hp
 | .ret v58 v59=>(.ret,mkS [(2,(jS v58)),(3,(jI v59))],[])
def f10n0S(a1:Qd):Tr×Hp:=(Qbd [(jA Qd.cells a1)] 0 .leaf,[])
noncomputable def f10n0(a1:Qd):Option f10n0O :=
 (f15 a1).bind fun x5 =>
 bif decide (x5=0) then
  (f30r1 [Qao] [a1.From,a1.To,a1.Known]).bind fun x10 =>
  (f10n1 a1 x10).bind fun o51=>match o51 with
  | .norm v53=>(wg34 v53).bind fun x56 =>
   some (.ret x56 0)
 else
  some (.ret Qae x5)
theorem f10n0_ok(a1:Qd){o:f10n0O}(h:f10n0 a1=some o):T Tryd.prog Tryd.f10.ntmps 0 c10 (f10n0S a1) (·=f10n0E a1 o):=by
 unfold f10n0 at h;obtain ⟨x5,h6,h⟩:=Qb h;rcases Qf h with ⟨h7,h⟩|⟨h7,h⟩
 ·obtain ⟨x10,h11,h⟩:=Qb h;refine rN Qe 5 [j3,([],[jH 1 (jI x5)],[]),j3,j3,j3,([],[(9,.call (.tup []) [none,some (.box 71 [(.bp 1 0),(.own 4)]),none,some (.row false 1 ([a1.From,a1.To,a1.Known].map (cInt .i64))),some (.brow 5 x10)])],[])] [some false] [] [0,1,4] [1,5,6] (f10n1S a1 x10) (ap (f15_ok a1 h6) (ap (Qo h7) (ap (Qs.rn 4 [2,3,1] (f30r1_ok [Qao] [a1.From,a1.To,a1.Known] h11)) an))) ?_;obtain ⟨o51,h52,h⟩:=Qb h;cases o51 with
  | norm v53 =>
   refine T.oneN (by kernel_rfl) (f10n1_ok a1 x10 h52) (st2:=(f10n1E a1 x10 (.norm v53)).2) rfl ?_;obtain ⟨x56,h57,h⟩:=Qb h;obtain rfl:=Qc h;exact rE Qe [([],[(0,.call (jS x56) [some (.box 71 [(.bp 0 0),(.own 1)]),none])],[])] [] [] [] [2,3] (.ret,(f10n0E a1 (.ret x56 0)).2) (ap (wg34_ok v53 h57) an) rfl
 ·obtain rfl:=Qc h;exact rK Qe 2 [j3,([],[jH 1 (jI x5)],[]),j3,j3] [some true] [] [] [2,3] .ret ((f10n0E a1 (.ret Qae x5)).2) (ap (f15_ok a1 h6) (ap (Qag h7) an)) rfl
noncomputable def f10(a1:Qd):Option (ByteArray×Int):=(f10n0 a1).bind fun o=>match o with
 | .ret v58 v59=>some (v58,v59)
theorem f10_ok(a1:Qd){r:ByteArray×Int}(h:f10 a1=some r):Qs Tryd.prog false 10 [(jA Qd.cells a1)] [] (.tup [(jS r.1),(jI r.2)]) []:=by
 unfold f10 at h;obtain ⟨o,ho,h⟩:=Qb h;cases o with
 | ret v58 v59 =>
  obtain rfl:=Qc h;exact Qs.plain Qe (f:=Tryd.f10) (c:=c10) (by kernel_rfl) (by kernel_rfl) (by kernel_rfl) (by kernel_rfl) ((f10n0_ok a1 ho).mono fun r e=>by subst e; exact ⟨.inl rfl,(.tup [(jS v58),(jI v59)]),(.tup [(jS v58),(jI v59)]),by kernel_rfl,by kernel_rfl,((Wk.refl _):Wk (.tup [(jS v58),(jI v59)]) (.tup [(jS v58),(jI v59)]))⟩)

noncomputable def c42:Code:=Tryd.f42.body.getD .skip
inductive f42n3O where
 | norm (v289:Bool)
def f42n3E(bb1:ByteArray)(bd2:Int)(bc3:UInt8):f42n3O→Ex×Tr×Hp
 | .norm v289=>(.norm,mkS [(0,(jS bb1)),(3,(jI bd2)),(4,(.pl (.int .u8 (bc3.toNat:Int)))),(5,(jB v289))],[])
def f42n3S(bb1:ByteArray)(bd2:Int)(bc3:UInt8):Tr×Hp:=(mkS [(0,(jS bb1)),(3,(jI bd2)),(4,(.pl (.int .u8 (bc3.toNat:Int))))],[])
noncomputable def f42n3(bb1:ByteArray)(bd2:Int)(bc3:UInt8):Option f42n3O :=
 bif decide (97≤(bc3.toNat:Int)) then
  bif decide ((bc3.toNat:Int)≤122) then
   some (.norm true)
  else
   bif decide (65≤(bc3.toNat:Int)) then
    some (.norm (decide ((bc3.toNat:Int)≤90)))
   else
    some (.norm false)
 else
  bif decide (65≤(bc3.toNat:Int)) then
   some (.norm (decide ((bc3.toNat:Int)≤90)))
  else
   some (.norm false)
theorem f42n3_ok(bb1:ByteArray)(bd2:Int)(bc3:UInt8){o:f42n3O}(h:f42n3 bb1 bd2 bc3=some o):T Tryd.prog Tryd.f42.ntmps 0 (cL (Qj 1 (cL (cL (Qj 1 (cL (cL (Qj 1 (cL (Qj 2 c42)))))))))) (f42n3S bb1 bd2 bc3) (·=f42n3E bb1 bd2 bc3 o):=by
 unfold f42n3 at h;rcases Qf h with ⟨h285,h⟩|⟨h285,h⟩
 ·rcases Qf h with ⟨h286,h⟩|⟨h286,h⟩
  ·obtain rfl:=Qc h;exact rE Qe [(jT [3,4,7,8,9,12],[(5,.bool true),(13,.bool true)],[])] [] [] [] [0,3,4,5] (.norm,(f42n3E bb1 bd2 bc3 (.norm true)).2) (ap3 h285 (ap h286 (ap4 h286 an))) rfl
  ·rcases Qf h with ⟨h287,h⟩|⟨h287,h⟩
   ·obtain rfl:=Qc h;exact rE Qe [(jF [7,8,9,12]++jT [3,4,10,11],[(5,.bool true),(12,.bool true),(13,.bool false)],[])] [] [] [] [0,3,4,5] (.norm,(f42n3E bb1 bd2 bc3 (.norm (decide ((bc3.toNat:Int)≤90)))).2) (ap3 h285 (ap3 h286 (ap2 h287 (ap h286 (ap h287 (ap h286 an)))))) rfl
   ·obtain rfl:=Qc h;exact rE Qe [(jF [7,8,9,10,11,12]++jT [3,4],[(5,.bool true),(12,.bool false),(13,.bool false)],[])] [] [] [] [0,3,4,5] (.norm,(f42n3E bb1 bd2 bc3 (.norm false)).2) (ap3 h285 (ap3 h286 (ap2 h287 (ap h286 (ap h287 (ap h286 an)))))) rfl
 ·rcases Qf h with ⟨h288,h⟩|⟨h288,h⟩
  ·obtain rfl:=Qc h;exact rE Qe [(jF [3,4]++jT [10,11],[(5,.bool false),(12,.bool true)],[])] [] [] [] [0,3,4,5] (.norm,(f42n3E bb1 bd2 bc3 (.norm (decide ((bc3.toNat:Int)≤90)))).2) (ap3 h285 (ap3 h288 an)) rfl
  ·obtain rfl:=Qc h;exact rE Qe [(jF [3,4,10,11],[(5,.bool false),(12,.bool false)],[])] [] [] [] [0,3,4,5] (.norm,(f42n3E bb1 bd2 bc3 (.norm false)).2) (ap3 h285 (ap3 h288 an)) rfl
inductive f42n4O where
 | norm (v305:Bool)
def f42n4E(bb1:ByteArray)(bd2:Int)(bc3:UInt8)(bi4:Bool):f42n4O→Ex×Tr×Hp
 | .norm v305=>(.norm,mkS [(0,(jS bb1)),(3,(jI bd2)),(5,(jB bi4)),(6,(jB v305))],[])
def f42n4S(bb1:ByteArray)(bd2:Int)(bc3:UInt8)(bi4:Bool):Tr×Hp:=(mkS [(0,(jS bb1)),(3,(jI bd2)),(4,(.pl (.int .u8 (bc3.toNat:Int)))),(5,(jB bi4))],[])
noncomputable def f42n4(bb1:ByteArray)(bd2:Int)(bc3:UInt8)(bi4:Bool):Option f42n4O :=
 bif decide (48≤(bc3.toNat:Int)) then
  bif decide ((bc3.toNat:Int)≤57) then
   some (.norm true)
  else
   bif decide ((bc3.toNat:Int)=95) then
    some (.norm true)
   else
    some (.norm (decide ((bc3.toNat:Int)=45)))
 else
  bif decide ((bc3.toNat:Int)=95) then
   some (.norm true)
  else
   some (.norm (decide ((bc3.toNat:Int)=45)))
theorem f42n4_ok(bb1:ByteArray)(bd2:Int)(bc3:UInt8)(bi4:Bool){o:f42n4O}(h:f42n4 bb1 bd2 bc3 bi4=some o):T Tryd.prog Tryd.f42.ntmps 0 (cL (Qj 0 (Qj 1 (Qj 1 (cL (cL (Qj 1 (cL (cL (Qj 1 (cL (Qj 2 c42)))))))))))) (f42n4S bb1 bd2 bc3 bi4) (·=f42n4E bb1 bd2 bc3 bi4 o):=by
 unfold f42n4 at h;rcases Qf h with ⟨h301,h⟩|⟨h301,h⟩
 ·rcases Qf h with ⟨h302,h⟩|⟨h302,h⟩
  ·obtain rfl:=Qc h;exact rE Qe [(jT [3,4,7,8],[(5,.bool true),(9,.bool true)],[])] [] [] [] [0,3,5,6] (.norm,(f42n4E bb1 bd2 bc3 bi4 (.norm true)).2) (ap3 h301 (ap3 h302 an)) rfl
  ·rcases Qf h with ⟨h303,h⟩|⟨h303,h⟩
   ·obtain rfl:=Qc h;exact rE Qe [(jF [7,8]++jT [3,4,11,12],[(5,.bool true),(9,.bool false),(13,.bool true)],[])] [] [] [] [0,3,5,6] (.norm,(f42n4E bb1 bd2 bc3 bi4 (.norm true)).2) (ap3 h301 (ap3 h302 (ap3 h303 an))) rfl
   ·obtain rfl:=Qc h;exact rE Qe [(jF [7,8,11,12]++jT [3,4],[(5,.bool true),(9,.bool false),(13,.bool false)],[])] [] [] [] [0,3,5,6] (.norm,(f42n4E bb1 bd2 bc3 bi4 (.norm (decide ((bc3.toNat:Int)=45)))).2) (ap3 h301 (ap3 h302 (ap3 h303 an))) rfl
 ·rcases Qf h with ⟨h304,h⟩|⟨h304,h⟩
  ·obtain rfl:=Qc h;exact rE Qe [(jF [3,4]++jT [11,12],[(5,.bool false),(13,.bool true)],[])] [] [] [] [0,3,5,6] (.norm,(f42n4E bb1 bd2 bc3 bi4 (.norm true)).2) (ap3 h301 (ap3 h304 an)) rfl
  ·obtain rfl:=Qc h;exact rE Qe [(jF [3,4,11,12],[(5,.bool false),(13,.bool false)],[])] [] [] [] [0,3,5,6] (.norm,(f42n4E bb1 bd2 bc3 bi4 (.norm (decide ((bc3.toNat:Int)=45)))).2) (ap3 h301 (ap3 h304 an)) rfl
inductive f42n5O where
 | norm (v315:Bool)
def f42n5E(bb1:ByteArray)(bd2:Int)(bi3 bi4:Bool):f42n5O→Ex×Tr×Hp
 | .norm v315=>(.norm,mkS [(0,(jS bb1)),(3,(jI bd2)),(61,(jB v315))],[])
def f42n5S(bb1:ByteArray)(bd2:Int)(bi3 bi4:Bool):Tr×Hp:=(mkS [(0,(jS bb1)),(3,(jI bd2)),(5,(jB bi3)),(6,(jB bi4))],[])
noncomputable def f42n5(bb1:ByteArray)(bd2:Int)(bi3 bi4:Bool):Option f42n5O :=
 bif bi3 then
  some (.norm false)
 else
  bif decide (bd2=0) then
   some (.norm true)
  else
   some (.norm (!bi4))
theorem f42n5_ok(bb1:ByteArray)(bd2:Int)(bi3 bi4:Bool){o:f42n5O}(h:f42n5 bb1 bd2 bi3 bi4=some o):T Tryd.prog Tryd.f42.ntmps 0 (cL (Qj 0 (Qj 1 (Qj 0 (Qj 1 (Qj 1 (cL (cL (Qj 1 (cL (cL (Qj 1 (cL (Qj 2 c42)))))))))))))) (f42n5S bb1 bd2 bi3 bi4) (·=f42n5E bb1 bd2 bi3 bi4 o):=by
 unfold f42n5 at h;rcases Qf h with ⟨h313,h⟩|⟨h313,h⟩
 ·obtain rfl:=Qc h;exact rE Qe [(jF [3,4,5,8],[(9,.bool false)],[])] [] [] [] [0,3,61] (.norm,(f42n5E bb1 bd2 bi3 bi4 (.norm false)).2) (ap (Qo h313) (ap4 (Qo h313) an)) rfl
 ·rcases Qf h with ⟨h314,h⟩|⟨h314,h⟩
  ·obtain rfl:=Qc h;exact rE Qe [(jT [3,4,5,6,7,8],[(8,.bool true),(9,.bool true)],[])] [] [] [] [0,3,61] (.norm,(f42n5E bb1 bd2 bi3 bi4 (.norm true)).2) (ap3 (Qag h313) (ap2 h314 (ap (Qag h313) (ap h314 (ap (Qag h313) an))))) rfl
  ·obtain rfl:=Qc h;exact rE Qe [(jF [6,7]++jT [3,4,5,8],[(8,.bool false),(9,.bool true)],[])] [] [] [] [0,3,61] (.norm,(f42n5E bb1 bd2 bi3 bi4 (.norm (!bi4))).2) (ap3 (Qag h313) (ap2 h314 (ap (Qag h313) (ap h314 (ap (Qag h313) an))))) rfl
inductive f42n2O where
 | norm
 | ret
def f42n2E(bb1:ByteArray)(bd2:Int):f42n2O→Ex×Tr×Hp
 | .norm=>(.norm,mkS [(0,(jS bb1)),(3,(jI bd2))],[])
 | .ret=>(.ret,mkS [(2,(jB false))],[])
def f42n2S(bb1:ByteArray)(bd2:Int):Tr×Hp:=(mkS [(0,(jS bb1)),(3,(jI bd2))],[])
noncomputable def f42n2(bb1:ByteArray)(bd2:Int):Option f42n2O :=
 (at? bb1.data.toList bd2).bind fun x275 =>
 (f42n3 bb1 bd2 x275).bind fun o290=>match o290 with
 | .norm v292=>(f42n4 bb1 bd2 x275 v292).bind fun o306=>match o306 with
  | .norm v308=>(f42n5 bb1 bd2 v292 v308).bind fun o316=>match o316 with
   | .norm v318=>bif v318 then
     some .ret
    else
     some .norm
theorem f42n2_ok(bb1:ByteArray)(bd2:Int){o:f42n2O}(h:f42n2 bb1 bd2=some o):T Tryd.prog Tryd.f42.ntmps 0 (cL (Qj 1 (cL (cL (Qj 1 (cL (Qj 2 c42))))))) (f42n2S bb1 bd2) (·=f42n2E bb1 bd2 o):=by
 unfold f42n2 at h;refine T.block' (i:=1) (by kernel_rfl) ?_;obtain ⟨x275,h276,h⟩:=Qb h;refine rN Qe 1 [([],[(2,.byte (Int.toNat bd2) x275)],[])] [] [] [] [0,3,4] (f42n3S bb1 bd2 x275) (ap (Qi h276).1 (ap (Qi h276).2 an)) ?_;obtain ⟨o290,h291,h⟩:=Qb h;cases o290 with
 | norm v292 =>
  refine T.oneN (by kernel_rfl) (f42n3_ok bb1 bd2 x275 h291) (st2:=(f42n3E bb1 bd2 x275 (.norm v292)).2) rfl ?_;refine rN Qe 0 [] [] [] [] [0,3,4,5] (f42n4S bb1 bd2 x275 v292) an ?_;obtain ⟨o306,h307,h⟩:=Qb h;cases o306 with
  | norm v308 =>
   refine T.oneN (by kernel_rfl) (f42n4_ok bb1 bd2 x275 v292 h307) (st2:=(f42n4E bb1 bd2 x275 v292 (.norm v308)).2) rfl ?_;refine rN Qe 0 [] [] [] [] [0,3,5,6] (f42n5S bb1 bd2 v292 v308) an ?_;obtain ⟨o316,h317,h⟩:=Qb h;cases o316 with
   | norm v318 =>
    refine T.oneN (by kernel_rfl) (f42n5_ok bb1 bd2 v292 v308 h317) (st2:=(f42n5E bb1 bd2 v292 v308 (.norm v318)).2) rfl ?_;rcases Qf h with ⟨h320,h⟩|⟨h320,h⟩
    ·obtain rfl:=Qc h;exact rE Qe [j3] [some true] [] [] [2] (.ret,(f42n2E bb1 bd2 .ret).2) (ap h320 an) rfl
    ·obtain rfl:=Qc h;exact rE Qe [] [some false] [] [] [0,3] (.norm,(f42n2E bb1 bd2 .norm).2) (ap h320 an) rfl
inductive f42n6O where
 | exit0
 | ret
def f42n6E(bb1:ByteArray):f42n6O→Ex×Tr×Hp
 | .exit0=>((.exit 0),mkS [],[])
 | .ret=>(.ret,mkS [(2,(jB false))],[])
def f42n6S(bb1:ByteArray)(v207:Int):Tr×Hp:=(mkS [(0,(jS bb1)),(3,(jI v207))],[])
noncomputable def f42n6:Nat→ByteArray→Int→Option f42n6O
 | 0,_,_=>none
 | f+1,bb1,v207 =>
  bif decide (v207<(bb1.size:Int)) then
   (f42n2 bb1 v207).bind fun o321=>match o321 with
   | .norm=>(f42n6 f bb1 (wr64 (v207+1)))
   | .ret=>some .ret
  else
   some .exit0
theorem f42n6_ok:∀(f:Nat)(bb1:ByteArray)(v207:Int){o:f42n6O},f42n6 f bb1 v207=some o→TL Tryd.prog Tryd.f42.ntmps 0 f (cL (cL (Qj 1 (cL (Qj 2 c42))))) (f42n6S bb1 v207) (·=f42n6E bb1 o)
 | 0,_,_,o,h=>by rw [f42n6] at h; cases h
 | f+1,bb1,v207,o,h=>by
  rw [f42n6] at h;refine TL.body (K:=fun s=>∃v207:Int,s=(f42n6S bb1 v207)∧f42n6 f bb1 v207=some o) ?_ (by rintro _ ⟨v207,rfl,hk⟩; exact f42n6_ok f _ _ hk);rcases Qf h with ⟨h209,h⟩|⟨h209,h⟩
  ·refine rN Qe 1 [j3] [some true] [] [] [0,3] (f42n2S bb1 v207) (ap h209 an) ?_;obtain ⟨o321,h322,h⟩:=Qb h;cases o321 with
   | norm =>
    refine T.oneN (by kernel_rfl) (f42n2_ok bb1 v207 h322) (st2:=(f42n2E bb1 v207 .norm).2) rfl ?_;exact rE Qe [j3] [] [] [] [0,3] (.norm,(f42n6S bb1 (wr64 (v207+1)))) an (Qy.norm ⟨(wr64 (v207+1)),rfl,h⟩)
   | ret =>
    obtain rfl:=Qc h;exact T.oneX' (by kernel_rfl) (f42n2_ok bb1 v207 h322) (tds:=[]) (m:=[]) (keep:=[2]) (st2:=(f42n6E bb1 .ret).2) (by kernel_rfl) an rfl (Qy.out rfl rfl)
  ·obtain rfl:=Qc h;exact rK Qe 1 [j3] [some false] [] [] [] (.exit 0) ((f42n6E bb1 .exit0).2) (ap h209 an) (Qy.out rfl rfl)
inductive f42n1O where
 | norm
 | ret
def f42n1E(bb1:ByteArray):f42n1O→Ex×Tr×Hp
 | .norm=>(.norm,mkS [],[])
 | .ret=>(.ret,mkS [(2,(jB false))],[])
def f42n1S(bb1:ByteArray):Tr×Hp:=(mkS [(0,(jS bb1))],[])
noncomputable def f42n1(bb1:ByteArray):Option f42n1O :=
 (f42n6 FUEL bb1 0).bind fun o323=>match o323 with
 | .exit0=>some .norm
 | .ret=>some .ret
theorem f42n1_ok(bb1:ByteArray){o:f42n1O}(h:f42n1 bb1=some o):T Tryd.prog Tryd.f42.ntmps 0 (cL (Qj 2 c42)) (f42n1S bb1) (·=f42n1E bb1 o):=by
 unfold f42n1 at h;refine rN Qe 1 [j3] [] [] [] [0,3] (f42n6S bb1 0) an ?_;obtain ⟨o323,h324,h⟩:=Qb h;cases o323 with
 | exit0 =>
  obtain rfl:=Qc h;exact T.last' (T.bl (i:=0) (by kernel_rfl) (by kernel_rfl) (f42n6_ok FUEL bb1 0 h324)) (tds:=[]) (m:=[]) (keep:=[]) (st2:=(f42n1E bb1 .norm).2) (by kernel_rfl) an rfl
 | ret =>
  obtain rfl:=Qc h;exact T.last' (T.bl (i:=0) (by kernel_rfl) (by kernel_rfl) (f42n6_ok FUEL bb1 0 h324)) (tds:=[]) (m:=[]) (keep:=[2]) (st2:=(f42n1E bb1 .ret).2) (by kernel_rfl) an rfl
inductive f42n0O where
 | ret (v327:Bool)
def f42n0E(a1:ByteArray):f42n0O→Ex×Tr×Hp
 | .ret v327=>(.ret,mkS [(2,(jB v327))],[])
def f42n0S(a1:ByteArray):Tr×Hp:=(Qbd [(jS a1)] 0 .leaf,[])
noncomputable def f42n0(a1:ByteArray):Option f42n0O :=
 bif decide ((a1.size:Int)=0) then
  some (.ret false)
 else
  bif decide (40<(a1.size:Int)) then
   some (.ret false)
  else
   (f42n1 a1).bind fun o325=>match o325 with
   | .norm=>some (.ret true)
   | .ret=>some (.ret false)
theorem f42n0_ok(a1:ByteArray){o:f42n0O}(h:f42n0 a1=some o):T Tryd.prog Tryd.f42.ntmps 0 c42 (f42n0S a1) (·=f42n0E a1 o):=by
 unfold f42n0 at h;rcases Qf h with ⟨h4,h⟩|⟨h4,h⟩
 ·obtain rfl:=Qc h;exact rK Qe 2 [j3,(jT [4,5,6],[(7,.bool true)],[]),j3] [none] [] [] [2] .ret ((f42n0E a1 (.ret false)).2) (ap4 h4 an) rfl
 ·rcases Qf h with ⟨h5,h⟩|⟨h5,h⟩
  ·obtain rfl:=Qc h;exact rK Qe 2 [j3,(jF [4,5,6],[(7,.bool false)],[]),j3] [some true] [] [] [2] .ret ((f42n0E a1 (.ret false)).2) (ap4 h4 (ap h5 an)) rfl
  ·refine rN Qe 2 [j3,(jF [4,5,6],[(7,.bool false)],[])] [some false] [] [] [0] (f42n1S a1) (ap4 h4 (ap h5 an)) ?_;obtain ⟨o325,h326,h⟩:=Qb h;cases o325 with
   | norm =>
    refine T.oneN (by kernel_rfl) (f42n1_ok a1 h326) (st2:=(f42n1E a1 .norm).2) rfl ?_;obtain rfl:=Qc h;exact rE Qe [j3] [] [] [] [2] (.ret,(f42n0E a1 (.ret true)).2) an rfl
   | ret =>
    obtain rfl:=Qc h;exact T.oneX' (by kernel_rfl) (f42n1_ok a1 h326) (tds:=[]) (m:=[]) (keep:=[2]) (st2:=(f42n0E a1 (.ret false)).2) (by kernel_rfl) an rfl rfl
noncomputable def f42(a1:ByteArray):Option Bool:=(f42n0 a1).bind fun o=>match o with
 | .ret v327=>some v327
theorem f42_ok(a1:ByteArray){r:Bool}(h:f42 a1=some r):Qs Tryd.prog false 42 [(jS a1)] [] (jB r) []:=by
 unfold f42 at h;obtain ⟨o,ho,h⟩:=Qb h;cases o with
 | ret v327 =>
  obtain rfl:=Qc h;exact Qs.plain Qe (f:=Tryd.f42) (c:=c42) (by kernel_rfl) (by kernel_rfl) (by kernel_rfl) (by kernel_rfl) ((f42n0_ok a1 ho).mono fun r e=>by subst e; exact ⟨.inl rfl,(jB v327),(jB v327),by kernel_rfl,by kernel_rfl,((Wk.refl _):Wk (jB v327) (jB v327))⟩)

noncomputable def c29:Code:=Tryd.f29.body.getD .skip
inductive f29n0O where
 | ret (v5:Bool)
def f29n0E(a1 a2:Qa):f29n0O→Ex×Tr×Hp
 | .ret v5=>(.ret,mkS [(4,(jB v5))],[])
def f29n0S(a1 a2:Qa):Tr×Hp:=(Qbd [(jA Qa.cells a1),(jA Qa.cells a2)] 0 .leaf,[])
noncomputable def f29n0(a1 a2:Qa):Option f29n0O :=
 bif (seq a1.Account a2.Account) then
  some (.ret (slt a1.Ccy a2.Ccy))
 else
  some (.ret (slt a1.Account a2.Account))
theorem f29n0_ok(a1 a2:Qa){o:f29n0O}(h:f29n0 a1 a2=some o):T Tryd.prog Tryd.f29.ntmps 0 c29 (f29n0S a1 a2) (·=f29n0E a1 a2 o):=by
 unfold f29n0 at h;rcases Qf h with ⟨h4,h⟩|⟨h4,h⟩
 ·obtain rfl:=Qc h;exact rE Qe [j3,j3,j3] [some false] [] [] [4] (.ret,(f29n0E a1 a2 (.ret (slt a1.Ccy a2.Ccy))).2) (ap (Qo h4) an) rfl
 ·obtain rfl:=Qc h;exact rK Qe 2 [j3,j3,j3] [some true] [] [] [4] .ret ((f29n0E a1 a2 (.ret (slt a1.Account a2.Account))).2) (ap (Qag h4) an) rfl
noncomputable def f29(a1 a2:Qa):Option Bool:=(f29n0 a1 a2).bind fun o=>match o with
 | .ret v5=>some v5
theorem f29_ok(a1 a2:Qa){r:Bool}(h:f29 a1 a2=some r):Qs Tryd.prog false 29 [(jA Qa.cells a1),(jA Qa.cells a2)] [] (jB r) []:=by
 unfold f29 at h;obtain ⟨o,ho,h⟩:=Qb h;cases o with
 | ret v5 =>
  obtain rfl:=Qc h;exact Qs.plain Qe (f:=Tryd.f29) (c:=c29) (by kernel_rfl) (by kernel_rfl) (by kernel_rfl) (by kernel_rfl) ((f29n0_ok a1 a2 ho).mono fun r e=>by subst e; exact ⟨.inl rfl,(jB v5),(jB v5),by kernel_rfl,by kernel_rfl,((Wk.refl _):Wk (jB v5) (jB v5))⟩)

noncomputable def c16:Code:=Tryd.f16.body.getD .skip
inductive f16n4O where
 | norm (v292:Bool)
def f16n4E(bd1 bd2 bd3:Int)(ba4:Qd)(be5:Qa):f16n4O→Ex×Tr×Hp
 | .norm v292=>(.norm,mkS [(1,(.bp 0 0)),(3,(jI bd1)),(4,(jI bd2)),(5,(jI bd3)),(6,(.bp 1 0)),(76,(jB v292))],[some (.box 24 ((Qd.cells ba4).map .pl)),some (.box 39 ((Qa.cells be5).map .pl))])
def f16n4S(bd1 bd2 bd3:Int)(ba4:Qd)(be5:Qa):Tr×Hp:=(mkS [(1,(.bp 0 0)),(3,(jI bd1)),(4,(jI bd2)),(5,(jI bd3)),(6,(.bp 1 0))],[some (.box 24 ((Qd.cells ba4).map .pl)),some (.box 39 ((Qa.cells be5).map .pl))])
noncomputable def f16n4(bd1 bd2 bd3:Int)(ba4:Qd)(be5:Qa):Option f16n4O :=
 (f42 be5.Account).bind fun x283 =>
 bif x283 then
  (f42 be5.Ccy).bind fun x286 =>
  bif x286 then
   bif decide (be5.In<0) then
    some (.norm true)
   else
    bif decide (be5.Out<0) then
     some (.norm true)
    else
     bif decide (be5.In=0) then
      some (.norm (decide (be5.Out=0)))
     else
      some (.norm false)
  else
   some (.norm true)
 else
  some (.norm true)
theorem f16n4_ok(bd1 bd2 bd3:Int)(ba4:Qd)(be5:Qa){o:f16n4O}(h:f16n4 bd1 bd2 bd3 ba4 be5=some o):T Tryd.prog Tryd.f16.ntmps 0 (cL (Qj 0 (cL (Qj 1 (cL (cL (Qj 1 (cL (cL (Qj 1 (cL (Qj 3 c16)))))))))))) (f16n4S bd1 bd2 bd3 ba4 be5) (·=f16n4E bd1 bd2 bd3 ba4 be5 o):=by
 unfold f16n4 at h;obtain ⟨x283,h284,h⟩:=Qb h;rcases Qf h with ⟨h285,h⟩|⟨h285,h⟩
 ·obtain ⟨x286,h287,h⟩:=Qb h;rcases Qf h with ⟨h288,h⟩|⟨h288,h⟩
  ·rcases Qf h with ⟨h289,h⟩|⟨h289,h⟩
   ·obtain rfl:=Qc h;exact rE Qe [(jF [5,6,7,8,11,12,13]++jT [16,17,18],[jH 2 (jB x283),jH 7 (jB x286),(9,.bool false),(14,.bool false),(19,.bool true)],[])] [] [] [0,1] [1,3,4,5,6,76] (.norm,(f16n4E bd1 bd2 bd3 ba4 be5 (.norm true)).2) (ap (Qo h285) (ap4 (Qo h285) (ap4 (Qo h288) (ap4 h289 (ap (f42_ok be5.Account h284) (ap (f42_ok be5.Ccy h287) an)))))) rfl
   ·rcases Qf h with ⟨h290,h⟩|⟨h290,h⟩
    ·obtain rfl:=Qc h;exact rE Qe [(jF [5,6,7,8,11,12,13,16,17,18]++jT [21,22,23,24,28],[jH 2 (jB x283),jH 7 (jB x286),(9,.bool false),(14,.bool false),(19,.bool false),(29,.bool true)],[])] [] [] [0,1] [1,3,4,5,6,76] (.norm,(f16n4E bd1 bd2 bd3 ba4 be5 (.norm true)).2) (ap (Qo h285) (ap4 (Qo h285) (ap4 (Qo h288) (ap4 h289 (ap2 h290 (ap4 h290 (ap (f42_ok be5.Account h284) (ap (f42_ok be5.Ccy h287) an)))))))) rfl
    ·rcases Qf h with ⟨h291,h⟩|⟨h291,h⟩
     ·obtain rfl:=Qc h;exact rE Qe [(jF [5,6,7,8,11,12,13,16,17,18,21,22,23,24,28]++jT [25,26,27],[jH 2 (jB x283),jH 7 (jB x286),(9,.bool false),(14,.bool false),(19,.bool false),(28,.bool true),(29,.bool false)],[])] [] [] [0,1] [1,3,4,5,6,76] (.norm,(f16n4E bd1 bd2 bd3 ba4 be5 (.norm (decide (be5.Out=0)))).2) (ap (Qo h285) (ap4 (Qo h285) (ap4 (Qo h288) (ap4 h289 (ap4 h290 (ap3 h291 (ap h290 (ap h291 (ap h290 (ap (f42_ok be5.Account h284) (ap (f42_ok be5.Ccy h287) an))))))))))) rfl
     ·obtain rfl:=Qc h;exact rE Qe [(jF [5,6,7,8,11,12,13,16,17,18,21,22,23,24,25,26,27,28],[jH 2 (jB x283),jH 7 (jB x286),(9,.bool false),(14,.bool false),(19,.bool false),(28,.bool false),(29,.bool false)],[])] [] [] [0,1] [1,3,4,5,6,76] (.norm,(f16n4E bd1 bd2 bd3 ba4 be5 (.norm false)).2) (ap (Qo h285) (ap4 (Qo h285) (ap4 (Qo h288) (ap4 h289 (ap4 h290 (ap3 h291 (ap h290 (ap h291 (ap h290 (ap (f42_ok be5.Account h284) (ap (f42_ok be5.Ccy h287) an))))))))))) rfl
  ·obtain rfl:=Qc h;exact rE Qe [(jF [5,6,7,8]++jT [11,12,13],[jH 2 (jB x283),jH 7 (jB x286),(9,.bool false),(14,.bool true)],[])] [] [] [0,1] [1,3,4,5,6,76] (.norm,(f16n4E bd1 bd2 bd3 ba4 be5 (.norm true)).2) (ap (Qo h285) (ap4 (Qo h285) (ap4 (Qag h288) (ap (f42_ok be5.Account h284) (ap (f42_ok be5.Ccy h287) an))))) rfl
 ·obtain rfl:=Qc h;exact rE Qe [(jT [5,6,7,8],[jH 2 (jB x283),(9,.bool true)],[])] [] [] [0,1] [1,3,4,5,6,76] (.norm,(f16n4E bd1 bd2 bd3 ba4 be5 (.norm true)).2) (ap (Qag h285) (ap4 (Qag h285) (ap (f42_ok be5.Account h284) an))) rfl
inductive f16n3O where
 | norm
 | ret
def f16n3E(bd1 bd2 bd3:Int)(ba4:Qd)(be5:Qa):f16n3O→Ex×Tr×Hp
 | .norm=>(.norm,mkS [(1,(.bp 0 0)),(3,(jI bd1)),(4,(jI bd2)),(5,(jI bd3)),(6,(.bp 1 0))],[some (.box 24 ((Qd.cells ba4).map .pl)),some (.box 39 ((Qa.cells be5).map .pl))])
 | .ret=>(.ret,mkS [(2,(jI 8))],[])
def f16n3S(bd1 bd2 bd3:Int)(ba4:Qd)(be5:Qa):Tr×Hp:=(mkS [(1,(.bp 0 0)),(3,(jI bd1)),(4,(jI bd2)),(5,(jI bd3)),(6,(.bp 1 0))],[some (.box 24 ((Qd.cells ba4).map .pl)),some (.box 39 ((Qa.cells be5).map .pl))])
noncomputable def f16n3(bd1 bd2 bd3:Int)(ba4:Qd)(be5:Qa):Option f16n3O :=
 (f16n4 bd1 bd2 bd3 ba4 be5).bind fun o293=>match o293 with
 | .norm v295=>bif v295 then
   some .ret
  else
   some .norm
theorem f16n3_ok(bd1 bd2 bd3:Int)(ba4:Qd)(be5:Qa){o:f16n3O}(h:f16n3 bd1 bd2 bd3 ba4 be5=some o):T Tryd.prog Tryd.f16.ntmps 0 (cL (Qj 1 (cL (cL (Qj 1 (cL (cL (Qj 1 (cL (Qj 3 c16)))))))))) (f16n3S bd1 bd2 bd3 ba4 be5) (·=f16n3E bd1 bd2 bd3 ba4 be5 o):=by
 unfold f16n3 at h;refine rN Qe 0 [] [] [] [0,1] [1,3,4,5,6] (f16n4S bd1 bd2 bd3 ba4 be5) an ?_;obtain ⟨o293,h294,h⟩:=Qb h;cases o293 with
 | norm v295 =>
  refine T.oneN (by kernel_rfl) (f16n4_ok bd1 bd2 bd3 ba4 be5 h294) (st2:=(f16n4E bd1 bd2 bd3 ba4 be5 (.norm v295)).2) rfl ?_;rcases Qf h with ⟨h297,h⟩|⟨h297,h⟩
  ·obtain rfl:=Qc h;exact rE Qe [j3] [some true] [] [] [2] (.ret,(f16n3E bd1 bd2 bd3 ba4 be5 .ret).2) (ap h297 an) rfl
  ·obtain rfl:=Qc h;exact rE Qe [] [some false] [] [0,1] [1,3,4,5,6] (.norm,(f16n3E bd1 bd2 bd3 ba4 be5 .norm).2) (ap h297 an) rfl
inductive f16n6O where
 | norm (v321:Bool)
def f16n6E(bd1 bd2 bd3:Int)(ba4:Qd)(be5:Qa):f16n6O→Ex×Tr×Hp
 | .norm v321=>(.norm,mkS [(1,(.bp 0 0)),(3,(jI bd1)),(4,(jI bd2)),(5,(jI bd3)),(6,(.bp 1 0)),(89,(jB v321))],[some (.box 24 ((Qd.cells ba4).map .pl)),some (.box 39 ((Qa.cells be5).map .pl))])
def f16n6S(bd1 bd2 bd3:Int)(ba4:Qd)(be5:Qa):Tr×Hp:=(mkS [(1,(.bp 0 0)),(3,(jI bd1)),(4,(jI bd2)),(5,(jI bd3)),(6,(.bp 1 0))],[some (.box 24 ((Qd.cells ba4).map .pl)),some (.box 39 ((Qa.cells be5).map .pl))])
noncomputable def f16n6(bd1 bd2 bd3:Int)(ba4:Qd)(be5:Qa):Option f16n6O :=
 bif decide (0<bd3) then
  (at? ba4.Rows (wr64 (bd3-1))).bind fun x317 =>
  (f29 x317 be5).bind fun x319 =>
  some (.norm (!x319))
 else
  some (.norm false)
theorem f16n6_ok(bd1 bd2 bd3:Int)(ba4:Qd)(be5:Qa){o:f16n6O}(h:f16n6 bd1 bd2 bd3 ba4 be5=some o):T Tryd.prog Tryd.f16.ntmps 0 (cL (Qj 0 (cL (Qj 0 (Qj 1 (Qj 1 (cL (cL (Qj 1 (cL (cL (Qj 1 (cL (Qj 3 c16)))))))))))))) (f16n6S bd1 bd2 bd3 ba4 be5) (·=f16n6E bd1 bd2 bd3 ba4 be5 o):=by
 unfold f16n6 at h;rcases Qf h with ⟨h316,h⟩|⟨h316,h⟩
 ·obtain ⟨x317,h318,h⟩:=Qb h;obtain ⟨x319,h320,h⟩:=Qb h;obtain rfl:=Qc h;exact rE Qe [(jT [3,4,5,6,7,8,9,10,11],[(7,.idx (Int.toNat (wr64 (bd3-1))) (Qa.cells x317)),jH 10 (jB x319),(12,.bool true)],[])] [] [] [0,1] [1,3,4,5,6,89] (.norm,(f16n6E bd1 bd2 bd3 ba4 be5 (.norm (!x319))).2) (ap h316 (ap4 h316 (ap (Qi h318).1 (ap (Qu Qa.cells (Qi h318).2) (ap h316 (ap4 h316 (ap (f29_ok x317 be5 h320) an))))))) rfl
 ·obtain rfl:=Qc h;exact rE Qe [(jF [3,4,5,6,7,8,9,10,11],[(12,.bool false)],[])] [] [] [0,1] [1,3,4,5,6,89] (.norm,(f16n6E bd1 bd2 bd3 ba4 be5 (.norm false)).2) (ap2 h316 (ap4 h316 (ap4 h316 an))) rfl
inductive f16n5O where
 | norm
 | ret
def f16n5E(bd1 bd2 bd3:Int)(ba4:Qd)(be5:Qa):f16n5O→Ex×Tr×Hp
 | .norm=>(.norm,mkS [(1,(.bp 0 0)),(3,(jI bd1)),(4,(jI bd2)),(5,(jI bd3)),(6,(.bp 1 0))],[some (.box 24 ((Qd.cells ba4).map .pl)),some (.box 39 ((Qa.cells be5).map .pl))])
 | .ret=>(.ret,mkS [(2,(jI 8))],[])
def f16n5S(bd1 bd2 bd3:Int)(ba4:Qd)(be5:Qa):Tr×Hp:=(mkS [(1,(.bp 0 0)),(3,(jI bd1)),(4,(jI bd2)),(5,(jI bd3)),(6,(.bp 1 0))],[some (.box 24 ((Qd.cells ba4).map .pl)),some (.box 39 ((Qa.cells be5).map .pl))])
noncomputable def f16n5(bd1 bd2 bd3:Int)(ba4:Qd)(be5:Qa):Option f16n5O :=
 (f16n6 bd1 bd2 bd3 ba4 be5).bind fun o322=>match o322 with
 | .norm v324=>bif v324 then
   some .ret
  else
   some .norm
theorem f16n5_ok(bd1 bd2 bd3:Int)(ba4:Qd)(be5:Qa){o:f16n5O}(h:f16n5 bd1 bd2 bd3 ba4 be5=some o):T Tryd.prog Tryd.f16.ntmps 0 (cL (Qj 0 (Qj 1 (Qj 1 (cL (cL (Qj 1 (cL (cL (Qj 1 (cL (Qj 3 c16)))))))))))) (f16n5S bd1 bd2 bd3 ba4 be5) (·=f16n5E bd1 bd2 bd3 ba4 be5 o):=by
 unfold f16n5 at h;refine rN Qe 0 [] [] [] [0,1] [1,3,4,5,6] (f16n6S bd1 bd2 bd3 ba4 be5) an ?_;obtain ⟨o322,h323,h⟩:=Qb h;cases o322 with
 | norm v324 =>
  refine T.oneN (by kernel_rfl) (f16n6_ok bd1 bd2 bd3 ba4 be5 h323) (st2:=(f16n6E bd1 bd2 bd3 ba4 be5 (.norm v324)).2) rfl ?_;rcases Qf h with ⟨h326,h⟩|⟨h326,h⟩
  ·obtain rfl:=Qc h;exact rE Qe [j3] [some true] [] [] [2] (.ret,(f16n5E bd1 bd2 bd3 ba4 be5 .ret).2) (ap h326 an) rfl
  ·obtain rfl:=Qc h;exact rE Qe [] [some false] [] [0,1] [1,3,4,5,6] (.norm,(f16n5E bd1 bd2 bd3 ba4 be5 .norm).2) (ap h326 an) rfl
inductive f16n2O where
 | norm (v333:Int) (v334:Int)
 | ret
def f16n2E(bd1 bd2 bd3:Int)(ba4:Qd):f16n2O→Ex×Tr×Hp
 | .norm v333 v334=>(.norm,mkS [(1,(.bp 0 0)),(3,(jI v333)),(4,(jI v334)),(5,(jI bd3))],[some (.box 24 ((Qd.cells ba4).map .pl))])
 | .ret=>(.ret,mkS [(2,(jI 8))],[])
def f16n2S(bd1 bd2 bd3:Int)(ba4:Qd):Tr×Hp:=(mkS [(1,(.bp 0 0)),(3,(jI bd1)),(4,(jI bd2)),(5,(jI bd3))],[some (.box 24 ((Qd.cells ba4).map .pl))])
noncomputable def f16n2(bd1 bd2 bd3:Int)(ba4:Qd):Option f16n2O :=
 (at? ba4.Rows bd3).bind fun x253 =>
 (f16n3 bd1 bd2 bd3 ba4 x253).bind fun o298=>match o298 with
 | .norm=>(f16n5 bd1 bd2 bd3 ba4 x253).bind fun o327=>match o327 with
  | .norm=>bif (decide ((wr64 (4503599627370496000-bd1))<x253.In)) then
    some .ret
   else
    bif (decide ((wr64 (4503599627370496000-bd2))<x253.Out)) then
     some .ret
    else
     some (.norm (wr64 (bd1+x253.In)) (wr64 (bd2+x253.Out)))
  | .ret=>some .ret
 | .ret=>some .ret
theorem f16n2_ok(bd1 bd2 bd3:Int)(ba4:Qd){o:f16n2O}(h:f16n2 bd1 bd2 bd3 ba4=some o):T Tryd.prog Tryd.f16.ntmps 0 (cL (Qj 1 (cL (cL (Qj 1 (cL (Qj 3 c16))))))) (f16n2S bd1 bd2 bd3 ba4) (·=f16n2E bd1 bd2 bd3 ba4 o):=by
 unfold f16n2 at h;refine T.block' (i:=1) (by kernel_rfl) ?_;obtain ⟨x253,h254,h⟩:=Qb h;refine rN Qe 1 [([],[(3,.idx (Int.toNat bd3) (Qa.cells x253))],[])] [] [] [0,1] [1,3,4,5,6] (f16n3S bd1 bd2 bd3 ba4 x253) (ap (Qi h254).1 (ap (Qu Qa.cells (Qi h254).2) an)) ?_;obtain ⟨o298,h299,h⟩:=Qb h;cases o298 with
 | norm =>
  refine T.oneN (by kernel_rfl) (f16n3_ok bd1 bd2 bd3 ba4 x253 h299) (st2:=(f16n3E bd1 bd2 bd3 ba4 x253 .norm).2) rfl ?_;refine rN Qe 0 [] [] [] [0,1] [1,3,4,5,6] (f16n5S bd1 bd2 bd3 ba4 x253) an ?_;obtain ⟨o327,h328,h⟩:=Qb h;cases o327 with
  | norm =>
   refine T.oneN (by kernel_rfl) (f16n5_ok bd1 bd2 bd3 ba4 x253 h328) (st2:=(f16n5E bd1 bd2 bd3 ba4 x253 .norm).2) rfl ?_;rcases Qf h with ⟨h331,h⟩|⟨h331,h⟩
   ·obtain rfl:=Qc h;exact rK Qe 1 [(jT [6,7,8,9,10],[(11,.bool true)],[]),j3] [none] [] [] [2] .ret ((f16n2E bd1 bd2 bd3 ba4 .ret).2) (ap2 h331 (ap4 h331 an)) rfl
   ·rcases Qf h with ⟨h332,h⟩|⟨h332,h⟩
    ·obtain rfl:=Qc h;exact rK Qe 1 [(jF [6,7,8,9,10],[(11,.bool false)],[]),j3] [some true] [] [] [2] .ret ((f16n2E bd1 bd2 bd3 ba4 .ret).2) (ap2 h331 (ap4 h331 (ap h332 an))) rfl
    ·obtain rfl:=Qc h;exact rE Qe [(jF [6,7,8,9,10],[(11,.bool false)],[]),j3,j3] [some false] [] [0] [1,3,4,5] (.norm,(f16n2E bd1 bd2 bd3 ba4 (.norm (wr64 (bd1+x253.In)) (wr64 (bd2+x253.Out)))).2) (ap2 h331 (ap4 h331 (ap h332 an))) rfl
  | ret =>
   obtain rfl:=Qc h;exact T.oneX' (by kernel_rfl) (f16n5_ok bd1 bd2 bd3 ba4 x253 h328) (tds:=[]) (m:=[]) (keep:=[2]) (st2:=(f16n2E bd1 bd2 bd3 ba4 .ret).2) (by kernel_rfl) an rfl rfl
 | ret =>
  obtain rfl:=Qc h;exact T.oneX' (by kernel_rfl) (f16n3_ok bd1 bd2 bd3 ba4 x253 h299) (tds:=[]) (m:=[]) (keep:=[2]) (st2:=(f16n2E bd1 bd2 bd3 ba4 .ret).2) (by kernel_rfl) an rfl rfl
inductive f16n7O where
 | exit0
 | ret
def f16n7E(ba1:Qd):f16n7O→Ex×Tr×Hp
 | .exit0=>((.exit 0),mkS [(1,(.bp 0 0))],[some (.box 24 ((Qd.cells ba1).map .pl))])
 | .ret=>(.ret,mkS [(2,(jI 8))],[])
def f16n7S(ba1:Qd)(v214 v215 v216:Int):Tr×Hp:=(mkS [(1,(.bp 0 0)),(3,(jI v214)),(4,(jI v215)),(5,(jI v216))],[some (.box 24 ((Qd.cells ba1).map .pl))])
noncomputable def f16n7:Nat→Qd→Int→Int→Int→Option f16n7O
 | 0,_,_,_,_=>none
 | f+1,ba1,v214,v215,v216 =>
  bif decide (v216<(ba1.Rows.length:Int)) then
   (f16n2 v214 v215 v216 ba1).bind fun o335=>match o335 with
   | .norm v337 v338=>(f16n7 f ba1 v337 v338 (wr64 (v216+1)))
   | .ret=>some .ret
  else
   some .exit0
theorem f16n7_ok:∀(f:Nat)(ba1:Qd)(v214 v215 v216:Int){o:f16n7O},f16n7 f ba1 v214 v215 v216=some o→TL Tryd.prog Tryd.f16.ntmps 0 f (cL (cL (Qj 1 (cL (Qj 3 c16))))) (f16n7S ba1 v214 v215 v216) (·=f16n7E ba1 o)
 | 0,_,_,_,_,o,h=>by rw [f16n7] at h; cases h
 | f+1,ba1,v214,v215,v216,o,h=>by
  rw [f16n7] at h;refine TL.body (K:=fun s=>∃v214:Int,∃v215:Int,∃v216:Int,s=(f16n7S ba1 v214 v215 v216)∧f16n7 f ba1 v214 v215 v216=some o) ?_ (by rintro _ ⟨v214,v215,v216,rfl,hk⟩; exact f16n7_ok f _ _ _ _ hk);rcases Qf h with ⟨h218,h⟩|⟨h218,h⟩
  ·refine rN Qe 1 [([],[],[(3,.val (jI (ba1.Rows.length:Int)))])] [some true] [] [0] [1,3,4,5] (f16n2S v214 v215 v216 ba1) (ap (Qx (xs:=ba1.Rows) (c:=Qa.cells)) (ap h218 an)) ?_;obtain ⟨o335,h336,h⟩:=Qb h;cases o335 with
   | norm v337 v338 =>
    refine T.oneN (by kernel_rfl) (f16n2_ok v214 v215 v216 ba1 h336) (st2:=(f16n2E v214 v215 v216 ba1 (.norm v337 v338)).2) rfl ?_;exact rE Qe [j3] [] [] [0] [1,3,4,5] (.norm,(f16n7S ba1 v337 v338 (wr64 (v216+1)))) an (Qy.norm ⟨v337,v338,(wr64 (v216+1)),rfl,h⟩)
   | ret =>
    obtain rfl:=Qc h;exact T.oneX' (by kernel_rfl) (f16n2_ok v214 v215 v216 ba1 h336) (tds:=[]) (m:=[]) (keep:=[2]) (st2:=(f16n7E ba1 .ret).2) (by kernel_rfl) an rfl (Qy.out rfl rfl)
  ·obtain rfl:=Qc h;exact rK Qe 1 [([],[],[(3,.val (jI (ba1.Rows.length:Int)))])] [some false] [] [0] [1] (.exit 0) ((f16n7E ba1 .exit0).2) (ap (Qx (xs:=ba1.Rows) (c:=Qa.cells)) (ap h218 an)) (Qy.out rfl rfl)
inductive f16n1O where
 | norm
 | ret
def f16n1E(ba1:Qd):f16n1O→Ex×Tr×Hp
 | .norm=>(.norm,mkS [(1,(.bp 0 0))],[some (.box 24 ((Qd.cells ba1).map .pl))])
 | .ret=>(.ret,mkS [(2,(jI 8))],[])
def f16n1S(ba1:Qd):Tr×Hp:=(mkS [(1,(.bp 0 0)),(3,(jI 0)),(4,(jI 0))],[some (.box 24 ((Qd.cells ba1).map .pl))])
noncomputable def f16n1(ba1:Qd):Option f16n1O :=
 (f16n7 FUEL ba1 0 0 0).bind fun o339=>match o339 with
 | .exit0=>some .norm
 | .ret=>some .ret
theorem f16n1_ok(ba1:Qd){o:f16n1O}(h:f16n1 ba1=some o):T Tryd.prog Tryd.f16.ntmps 0 (cL (Qj 3 c16)) (f16n1S ba1) (·=f16n1E ba1 o):=by
 unfold f16n1 at h;refine rN Qe 1 [j3] [] [] [0] [1,3,4,5] (f16n7S ba1 0 0 0) an ?_;obtain ⟨o339,h340,h⟩:=Qb h;cases o339 with
 | exit0 =>
  obtain rfl:=Qc h;exact T.last' (T.bl (i:=0) (by kernel_rfl) (by kernel_rfl) (f16n7_ok FUEL ba1 0 0 0 h340)) (tds:=[]) (m:=[0]) (keep:=[1]) (st2:=(f16n1E ba1 .norm).2) (by kernel_rfl) an rfl
 | ret =>
  obtain rfl:=Qc h;exact T.last' (T.bl (i:=0) (by kernel_rfl) (by kernel_rfl) (f16n7_ok FUEL ba1 0 0 0 h340)) (tds:=[]) (m:=[]) (keep:=[2]) (st2:=(f16n1E ba1 .ret).2) (by kernel_rfl) an rfl
inductive f16n11O where
 | exit4 (v491:Int)
def f16n11E(bd1:Int)(ba2:Qd):f16n11O→Ex×Tr×Hp
 | .exit4 v491=>((.exit 4),mkS [(1,(.bp 0 0)),(7,(jI bd1)),(8,(jI v491))],[some (.box 24 ((Qd.cells ba2).map .pl))])
def f16n11S(bd1:Int)(ba2:Qd)(v477 v478:Int):Tr×Hp:=(mkS [(1,(.bp 0 0)),(7,(jI bd1)),(8,(jI v477)),(9,(jI v478))],[some (.box 24 ((Qd.cells ba2).map .pl))])
noncomputable def f16n11:Nat→Int→Qd→Int→Int→Option f16n11O
 | 0,_,_,_,_=>none
 | f+1,bd1,ba2,v477,v478 =>
  bif decide (v478<(ba2.Rows.length:Int)) then
   (at? ba2.Rows v478).bind fun x486 =>
   (at? ba2.Rows bd1).bind fun x488 =>
   bif (seq x486.Ccy x488.Ccy) then
    (f16n11 f bd1 ba2 (wr64 ((wr64 (v477+x486.In))-x486.Out)) (wr64 (v478+1)))
   else
    (f16n11 f bd1 ba2 v477 (wr64 (v478+1)))
  else
   some (.exit4 v477)
theorem f16n11_ok:∀(f:Nat)(bd1:Int)(ba2:Qd)(v477 v478:Int){o:f16n11O},f16n11 f bd1 ba2 v477 v478=some o→TL Tryd.prog Tryd.f16.ntmps 0 f (cL (cL (Qj 1 (cL (Qj 1 (cL (cL (Qj 1 (cL (cL (Qj 1 (cL (Qj 0 (Qj 1 (Qj 3 c16))))))))))))))) (f16n11S bd1 ba2 v477 v478) (·=f16n11E bd1 ba2 o)
 | 0,_,_,_,_,o,h=>by rw [f16n11] at h; cases h
 | f+1,bd1,ba2,v477,v478,o,h=>by
  rw [f16n11] at h;refine TL.body (K:=fun s=>∃v477:Int,∃v478:Int,s=(f16n11S bd1 ba2 v477 v478)∧f16n11 f bd1 ba2 v477 v478=some o) ?_ (by rintro _ ⟨v477,v478,rfl,hk⟩; exact f16n11_ok f _ _ _ _ hk);rcases Qf h with ⟨h480,h⟩|⟨h480,h⟩
  ·obtain ⟨x486,h487,h⟩:=Qb h;obtain ⟨x488,h489,h⟩:=Qb h;rcases Qf h with ⟨h490,h⟩|⟨h490,h⟩
   ·exact rE Qe [([],[],[(3,.val (jI (ba2.Rows.length:Int)))]),([],[(3,.idx (Int.toNat v478) (Qa.cells x486)),(9,.idx (Int.toNat bd1) (Qa.cells x488))],[]),([],[(4,.idx (Int.toNat v478) (Qa.cells x486)),(11,.idx (Int.toNat v478) (Qa.cells x486))],[]),j3] [some true,some true] [] [0] [1,7,8,9] (.norm,(f16n11S bd1 ba2 (wr64 ((wr64 (v477+x486.In))-x486.Out)) (wr64 (v478+1)))) (ap (Qx (xs:=ba2.Rows) (c:=Qa.cells)) (ap h480 (ap (Qi h487).1 (ap (Qu Qa.cells (Qi h487).2) (ap (Qi h489).1 (ap (Qu Qa.cells (Qi h489).2) (ap h490 (ap (Qi h487).1 (ap (Qu Qa.cells (Qi h487).2) (ap (Qi h487).1 (ap (Qu Qa.cells (Qi h487).2) an))))))))))) (Qy.norm ⟨(wr64 ((wr64 (v477+x486.In))-x486.Out)),(wr64 (v478+1)),rfl,h⟩)
   ·exact rE Qe [([],[],[(3,.val (jI (ba2.Rows.length:Int)))]),([],[(3,.idx (Int.toNat v478) (Qa.cells x486)),(9,.idx (Int.toNat bd1) (Qa.cells x488))],[]),j3] [some true,some false] [] [0] [1,7,8,9] (.norm,(f16n11S bd1 ba2 v477 (wr64 (v478+1)))) (ap (Qx (xs:=ba2.Rows) (c:=Qa.cells)) (ap h480 (ap (Qi h487).1 (ap (Qu Qa.cells (Qi h487).2) (ap (Qi h489).1 (ap (Qu Qa.cells (Qi h489).2) (ap h490 an))))))) (Qy.norm ⟨v477,(wr64 (v478+1)),rfl,h⟩)
  ·obtain rfl:=Qc h;exact rK Qe 1 [([],[],[(3,.val (jI (ba2.Rows.length:Int)))])] [some false] [] [0] [1,7,8] (.exit 4) ((f16n11E bd1 ba2 (.exit4 v477)).2) (ap (Qx (xs:=ba2.Rows) (c:=Qa.cells)) (ap h480 an)) (Qy.out rfl rfl)
noncomputable def f16n11L(bd1:Int)(ba2:Qd):List Qa→Int→Int→Option f16n11O
 | [],v477,v478 =>
  some (.exit4 v477)
 | x0::rest,v477,v478 =>
  (at? ba2.Rows bd1).bind fun x488 =>
  bif (seq x0.Ccy x488.Ccy) then
   (f16n11L bd1 ba2 rest (wr64 ((wr64 (v477+x0.In))-x0.Out)) (v478+1))
  else
   (f16n11L bd1 ba2 rest v477 (v478+1))
theorem f16n11L_eq(bd1:Int)(ba2:Qd):∀(rest:List Qa)(f k:Nat)(v477:Int),ba2.Rows.drop k=rest→ba2.Rows.length≤maxLen→rest.length<f→f16n11 f bd1 ba2 v477 (k:Int)=f16n11L bd1 ba2 rest v477 (k:Int)
 | _,0,_,_,_,_,hf=>absurd hf (Nat.not_lt_zero _)
 | [],f+1,k,v477,hd,hm,hf=>by
  have hk:¬((k:Int)<(ba2.Rows.length:Int)):=by have:=Qah hd; omega
  rw [f16n11,f16n11L];simp only [decide_eq_false hk,cond_false]
 | x0::rest,f+1,k,v477,hd,hm,hf=>by
  obtain ⟨hx,hlt,hd'⟩:=Qap hd;have hk:(k:Int)<(ba2.Rows.length:Int):=by omega
  have hw:wr64 ((k:Int)+1)=(k:Int)+1:=wr64_of (by omega) (by unfold maxLen at hm; omega);have ih:∀(v477:Int),f16n11 f bd1 ba2 v477 ((k:Int)+1)=f16n11L bd1 ba2 rest v477 ((k:Int)+1):=fun v477=>f16n11L_eq bd1 ba2 rest f (k+1) v477 hd' hm (by simpa using hf);rw [f16n11,f16n11L];simp only [decide_eq_true hk,cond_true,at_nat,hx,Option.bind_some,hw,ih]
theorem f16n11_run(bd1:Int)(ba2:Qd)(v477:Int)(hm:ba2.Rows.length≤maxLen):f16n11 FUEL bd1 ba2 v477 0=f16n11L bd1 ba2 ba2.Rows v477 0:=f16n11L_eq bd1 ba2 ba2.Rows FUEL 0 v477 List.drop_zero hm (Qcf hm)
inductive f16n10O where
 | norm (v495:Int)
def f16n10E(bd1:Int)(ba2:Qd):f16n10O→Ex×Tr×Hp
 | .norm v495=>(.norm,mkS [(1,(.bp 0 0)),(7,(jI bd1)),(8,(jI v495))],[some (.box 24 ((Qd.cells ba2).map .pl))])
def f16n10S(bd1:Int)(ba2:Qd):Tr×Hp:=(mkS [(1,(.bp 0 0)),(7,(jI bd1)),(8,(jI 0))],[some (.box 24 ((Qd.cells ba2).map .pl))])
noncomputable def f16n10(bd1:Int)(ba2:Qd):Option f16n10O :=
 (f16n11 FUEL bd1 ba2 0 0).bind fun o492=>match o492 with
 | .exit4 v494=>some (.norm v494)
theorem f16n10_ok(bd1:Int)(ba2:Qd){o:f16n10O}(h:f16n10 bd1 ba2=some o):T Tryd.prog Tryd.f16.ntmps 0 (cL (Qj 1 (cL (cL (Qj 1 (cL (cL (Qj 1 (cL (Qj 0 (Qj 1 (Qj 3 c16)))))))))))) (f16n10S bd1 ba2) (·=f16n10E bd1 ba2 o):=by
 unfold f16n10 at h;refine rN Qe 1 [j3] [] [] [0] [1,7,8,9] (f16n11S bd1 ba2 0 0) an ?_;obtain ⟨o492,h493,h⟩:=Qb h;cases o492 with
 | exit4 v494 =>
  obtain rfl:=Qc h;exact T.last' (T.bl (i:=4) (by kernel_rfl) (by kernel_rfl) (f16n11_ok FUEL bd1 ba2 0 0 h493)) (tds:=[]) (m:=[0]) (keep:=[1,7,8]) (st2:=(f16n10E bd1 ba2 (.norm v494)).2) (by kernel_rfl) an rfl
inductive f16n9O where
 | norm
 | ret
def f16n9E(bd1:Int)(ba2:Qd):f16n9O→Ex×Tr×Hp
 | .norm=>(.norm,mkS [(1,(.bp 0 0)),(7,(jI bd1))],[some (.box 24 ((Qd.cells ba2).map .pl))])
 | .ret=>(.ret,mkS [(2,(jI 60))],[])
def f16n9S(bd1:Int)(ba2:Qd):Tr×Hp:=(mkS [(1,(.bp 0 0)),(7,(jI bd1))],[some (.box 24 ((Qd.cells ba2).map .pl))])
noncomputable def f16n9(bd1:Int)(ba2:Qd):Option f16n9O :=
 (f16n10 bd1 ba2).bind fun o496=>match o496 with
 | .norm v498=>bif decide (v498=0) then
   some .norm
  else
   some .ret
theorem f16n9_ok(bd1:Int)(ba2:Qd){o:f16n9O}(h:f16n9 bd1 ba2=some o):T Tryd.prog Tryd.f16.ntmps 0 (cL (Qj 1 (cL (cL (Qj 1 (cL (Qj 0 (Qj 1 (Qj 3 c16))))))))) (f16n9S bd1 ba2) (·=f16n9E bd1 ba2 o):=by
 unfold f16n9 at h;refine T.block' (i:=3) (by kernel_rfl) ?_;refine rN Qe 1 [j3] [] [] [0] [1,7,8] (f16n10S bd1 ba2) an ?_;obtain ⟨o496,h497,h⟩:=Qb h;cases o496 with
 | norm v498 =>
  refine T.oneN (by kernel_rfl) (f16n10_ok bd1 ba2 h497) (st2:=(f16n10E bd1 ba2 (.norm v498)).2) rfl ?_;rcases Qf h with ⟨h500,h⟩|⟨h500,h⟩
  ·obtain rfl:=Qc h;exact rE Qe [j3] [some false] [] [0] [1,7] (.norm,(f16n9E bd1 ba2 .norm).2) (ap (Qo h500) an) rfl
  ·obtain rfl:=Qc h;exact rE Qe [j3,j3] [some true] [] [] [2] (.ret,(f16n9E bd1 ba2 .ret).2) (ap (Qag h500) an) rfl
inductive f16n12O where
 | exit2
 | ret
def f16n12E(ba1:Qd):f16n12O→Ex×Tr×Hp
 | .exit2=>((.exit 2),mkS [],[])
 | .ret=>(.ret,mkS [(2,(jI 60))],[])
def f16n12S(ba1:Qd)(v448:Int):Tr×Hp:=(mkS [(1,(.bp 0 0)),(7,(jI v448))],[some (.box 24 ((Qd.cells ba1).map .pl))])
noncomputable def f16n12:Nat→Qd→Int→Option f16n12O
 | 0,_,_=>none
 | f+1,ba1,v448 =>
  bif decide (v448<(ba1.Rows.length:Int)) then
   (f16n9 v448 ba1).bind fun o501=>match o501 with
   | .norm=>(f16n12 f ba1 (wr64 (v448+1)))
   | .ret=>some .ret
  else
   some .exit2
theorem f16n12_ok:∀(f:Nat)(ba1:Qd)(v448:Int){o:f16n12O},f16n12 f ba1 v448=some o→TL Tryd.prog Tryd.f16.ntmps 0 f (cL (cL (Qj 1 (cL (Qj 0 (Qj 1 (Qj 3 c16))))))) (f16n12S ba1 v448) (·=f16n12E ba1 o)
 | 0,_,_,o,h=>by rw [f16n12] at h; cases h
 | f+1,ba1,v448,o,h=>by
  rw [f16n12] at h;refine TL.body (K:=fun s=>∃v448:Int,s=(f16n12S ba1 v448)∧f16n12 f ba1 v448=some o) ?_ (by rintro _ ⟨v448,rfl,hk⟩; exact f16n12_ok f _ _ hk);rcases Qf h with ⟨h450,h⟩|⟨h450,h⟩
  ·refine rN Qe 1 [([],[],[(3,.val (jI (ba1.Rows.length:Int)))])] [some true] [] [0] [1,7] (f16n9S v448 ba1) (ap (Qx (xs:=ba1.Rows) (c:=Qa.cells)) (ap h450 an)) ?_;obtain ⟨o501,h502,h⟩:=Qb h;cases o501 with
   | norm =>
    refine T.oneN (by kernel_rfl) (f16n9_ok v448 ba1 h502) (st2:=(f16n9E v448 ba1 .norm).2) rfl ?_;exact rE Qe [j3] [] [] [0] [1,7] (.norm,(f16n12S ba1 (wr64 (v448+1)))) an (Qy.norm ⟨(wr64 (v448+1)),rfl,h⟩)
   | ret =>
    obtain rfl:=Qc h;exact T.oneX' (by kernel_rfl) (f16n9_ok v448 ba1 h502) (tds:=[]) (m:=[]) (keep:=[2]) (st2:=(f16n12E ba1 .ret).2) (by kernel_rfl) an rfl (Qy.out rfl rfl)
  ·obtain rfl:=Qc h;exact rK Qe 1 [([],[],[(3,.val (jI (ba1.Rows.length:Int)))])] [some false] [] [] [] (.exit 2) ((f16n12E ba1 .exit2).2) (ap (Qx (xs:=ba1.Rows) (c:=Qa.cells)) (ap h450 an)) (Qy.out rfl rfl)
inductive f16n8O where
 | norm
 | ret
def f16n8E(ba1:Qd):f16n8O→Ex×Tr×Hp
 | .norm=>(.norm,mkS [],[])
 | .ret=>(.ret,mkS [(2,(jI 60))],[])
def f16n8S(ba1:Qd):Tr×Hp:=(mkS [(1,(.bp 0 0))],[some (.box 24 ((Qd.cells ba1).map .pl))])
noncomputable def f16n8(ba1:Qd):Option f16n8O :=
 (f16n12 FUEL ba1 0).bind fun o503=>match o503 with
 | .exit2=>some .norm
 | .ret=>some .ret
theorem f16n8_ok(ba1:Qd){o:f16n8O}(h:f16n8 ba1=some o):T Tryd.prog Tryd.f16.ntmps 0 (cL (Qj 0 (Qj 1 (Qj 3 c16)))) (f16n8S ba1) (·=f16n8E ba1 o):=by
 unfold f16n8 at h;refine rN Qe 1 [j3] [] [] [0] [1,7] (f16n12S ba1 0) an ?_;obtain ⟨o503,h504,h⟩:=Qb h;cases o503 with
 | exit2 =>
  obtain rfl:=Qc h;exact T.last' (T.bl (i:=2) (by kernel_rfl) (by kernel_rfl) (f16n12_ok FUEL ba1 0 h504)) (tds:=[]) (m:=[]) (keep:=[]) (st2:=(f16n8E ba1 .norm).2) (by kernel_rfl) an rfl
 | ret =>
  obtain rfl:=Qc h;exact T.last' (T.bl (i:=2) (by kernel_rfl) (by kernel_rfl) (f16n12_ok FUEL ba1 0 h504)) (tds:=[]) (m:=[]) (keep:=[2]) (st2:=(f16n8E ba1 .ret).2) (by kernel_rfl) an rfl
inductive f16n0O where
 | ret (v507:Int)
def f16n0E(a1:Qd):f16n0O→Ex×Tr×Hp
 | .ret v507=>(.ret,mkS [(2,(jI v507))],[])
def f16n0S(a1:Qd):Tr×Hp:=(Qbd [(jA Qd.cells a1)] 0 .leaf,[])
noncomputable def f16n0(a1:Qd):Option f16n0O :=
 bif decide (a1.From<0) then
  some (.ret 8)
 else
  bif decide (a1.To<a1.From) then
   some (.ret 8)
  else
   bif decide (100000<a1.To) then
    some (.ret 8)
   else
    bif decide (a1.Known<0) then
     some (.ret 8)
    else
     bif decide (200<a1.Known) then
      some (.ret 8)
     else
      (f16n1 a1).bind fun o341=>match o341 with
      | .norm=>(f16n8 a1).bind fun o505=>match o505 with
       | .norm=>some (.ret 0)
       | .ret=>some (.ret 60)
      | .ret=>some (.ret 8)
theorem f16n0_ok(a1:Qd){o:f16n0O}(h:f16n0 a1=some o):T Tryd.prog Tryd.f16.ntmps 0 c16 (f16n0S a1) (·=f16n0E a1 o):=by
 unfold f16n0 at h;rcases Qf h with ⟨h7,h⟩|⟨h7,h⟩
 ·obtain rfl:=Qc h;exact rK Qe 2 [j3,(jT [4,5,6,7,8],[(9,.bool true)],[]),j3] [none] [] [] [2] .ret ((f16n0E a1 (.ret 8)).2) (ap2 h7 (ap4 h7 an)) rfl
 ·rcases Qf h with ⟨h8,h⟩|⟨h8,h⟩
  ·obtain rfl:=Qc h;exact rK Qe 2 [j3,(jF [4,5,6,7,8]++jT [11,12,13],[(9,.bool false),(14,.bool true)],[]),j3] [none] [] [] [2] .ret ((f16n0E a1 (.ret 8)).2) (ap2 h7 (ap4 h7 (ap4 h8 an))) rfl
  ·rcases Qf h with ⟨h9,h⟩|⟨h9,h⟩
   ·obtain rfl:=Qc h;exact rK Qe 2 [j3,(jF [4,5,6,7,8,11,12,13]++jT [16,17,18],[(9,.bool false),(14,.bool false),(19,.bool true)],[]),j3] [none] [] [] [2] .ret ((f16n0E a1 (.ret 8)).2) (ap2 h7 (ap4 h7 (ap4 h8 (ap4 h9 an)))) rfl
   ·rcases Qf h with ⟨h10,h⟩|⟨h10,h⟩
    ·obtain rfl:=Qc h;exact rK Qe 2 [j3,(jF [4,5,6,7,8,11,12,13,16,17,18]++jT [21,22,23],[(9,.bool false),(14,.bool false),(19,.bool false),(24,.bool true)],[]),j3] [none] [] [] [2] .ret ((f16n0E a1 (.ret 8)).2) (ap2 h7 (ap4 h7 (ap4 h8 (ap4 h9 (ap4 h10 an))))) rfl
    ·rcases Qf h with ⟨h11,h⟩|⟨h11,h⟩
     ·obtain rfl:=Qc h;exact rK Qe 2 [j3,(jF [4,5,6,7,8,11,12,13,16,17,18,21,22,23],[(9,.bool false),(14,.bool false),(19,.bool false),(24,.bool false)],[]),j3] [some true] [] [] [2] .ret ((f16n0E a1 (.ret 8)).2) (ap2 h7 (ap4 h7 (ap4 h8 (ap4 h9 (ap4 h10 (ap h11 an)))))) rfl
     ·refine rN Qe 3 [j3,(jF [4,5,6,7,8,11,12,13,16,17,18,21,22,23],[(9,.bool false),(14,.bool false),(19,.bool false),(24,.bool false)],[]),j3] [some false] [] [0] [1,3,4] (f16n1S a1) (ap2 h7 (ap4 h7 (ap4 h8 (ap4 h9 (ap4 h10 (ap h11 an)))))) ?_;obtain ⟨o341,h342,h⟩:=Qb h;cases o341 with
      | norm =>
       refine T.oneN (by kernel_rfl) (f16n1_ok a1 h342) (st2:=(f16n1E a1 .norm).2) rfl ?_;refine rN Qe 0 [] [] [] [0] [1] (f16n8S a1) an ?_;obtain ⟨o505,h506,h⟩:=Qb h;cases o505 with
       | norm =>
        refine T.oneN (by kernel_rfl) (f16n8_ok a1 h506) (st2:=(f16n8E a1 .norm).2) rfl ?_;obtain rfl:=Qc h;exact rE Qe [j3] [] [] [] [2] (.ret,(f16n0E a1 (.ret 0)).2) an rfl
       | ret =>
        obtain rfl:=Qc h;exact T.oneX' (by kernel_rfl) (f16n8_ok a1 h506) (tds:=[]) (m:=[]) (keep:=[2]) (st2:=(f16n0E a1 (.ret 60)).2) (by kernel_rfl) an rfl rfl
      | ret =>
       obtain rfl:=Qc h;exact T.oneX' (by kernel_rfl) (f16n1_ok a1 h342) (tds:=[]) (m:=[]) (keep:=[2]) (st2:=(f16n0E a1 (.ret 8)).2) (by kernel_rfl) an rfl rfl
noncomputable def f16(a1:Qd):Option Int:=(f16n0 a1).bind fun o=>match o with
 | .ret v507=>some v507
theorem f16_ok(a1:Qd){r:Int}(h:f16 a1=some r):Qs Tryd.prog false 16 [(jA Qd.cells a1)] [] (jI r) []:=by
 unfold f16 at h;obtain ⟨o,ho,h⟩:=Qb h;cases o with
 | ret v507 =>
  obtain rfl:=Qc h;exact Qs.plain Qe (f:=Tryd.f16) (c:=c16) (by kernel_rfl) (by kernel_rfl) (by kernel_rfl) (by kernel_rfl) ((f16n0_ok a1 ho).mono fun r e=>by subst e; exact ⟨.inl rfl,(jI v507),(jI v507),by kernel_rfl,by kernel_rfl,((Wk.refl _):Wk (jI v507) (jI v507))⟩)

noncomputable def c75:Code:=Tryd.f75.body.getD .skip
inductive f75n1O where
 | exit0 (v29:Int)
def f75n1E(a1:List Int)(a2:Bool):f75n1O→Ex×Tr×Hp
 | .exit0 v29=>((.exit 0),mkS [(0,(.pl (.sl .any 1 (a1.map (cInt .i64))))),(1,(jB a2)),(5,(jI v29))],[])
def f75n1S(a1:List Int)(a2:Bool)(v20:Int):Tr×Hp:=(mkS [(0,(.pl (.sl .any 1 (a1.map (cInt .i64))))),(1,(jB a2)),(5,(jI v20))],[])
noncomputable def f75n1:Nat→List Int→Bool→Int→Option f75n1O
 | 0,_,_,_=>none
 | f+1,a1,a2,v20 =>
  bif decide (0<v20) then
   (at? a1 (wr64 (v20-1))).bind fun x26 =>
   bif decide (x26=0) then
    (f75n1 f a1 a2 (wr64 (v20-1)))
   else
    some (.exit0 v20)
  else
   some (.exit0 v20)
theorem f75n1_ok:∀(f:Nat)(a1:List Int)(a2:Bool)(v20:Int){o:f75n1O},f75n1 f a1 a2 v20=some o→TL Tryd.prog Tryd.f75.ntmps 0 f (cL (cL (cL (Qj 2 c75)))) (f75n1S a1 a2 v20) (·=f75n1E a1 a2 o)
 | 0,_,_,_,o,h=>by rw [f75n1] at h; cases h
 | f+1,a1,a2,v20,o,h=>by
  rw [f75n1] at h;refine TL.body (K:=fun s=>∃v20:Int,s=(f75n1S a1 a2 v20)∧f75n1 f a1 a2 v20=some o) ?_ (by rintro _ ⟨v20,rfl,hk⟩; exact f75n1_ok f _ _ _ hk);rcases Qf h with ⟨h25,h⟩|⟨h25,h⟩
  ·obtain ⟨x26,h27,h⟩:=Qb h;rcases Qf h with ⟨h28,h⟩|⟨h28,h⟩
   ·exact rE Qe [(jT [3,4,5,6,7,8],[(6,.idx (Int.toNat (wr64 (v20-1))) ((cInt .i64) x26)),(9,.bool true)],[]),j3] [some true] [] [] [0,1,5] (.norm,(f75n1S a1 a2 (wr64 (v20-1)))) (ap4 h25 (ap (Qi h27).1 (ap (Qu (cInt .i64) (Qi h27).2) (ap3 h25 (ap h28 an))))) (Qy.norm ⟨(wr64 (v20-1)),rfl,h⟩)
   ·obtain rfl:=Qc h;exact rK Qe 1 [(jT [3,4,5,6,7,8],[(6,.idx (Int.toNat (wr64 (v20-1))) ((cInt .i64) x26)),(9,.bool true)],[])] [some false] [] [] [0,1,5] (.exit 0) ((f75n1E a1 a2 (.exit0 v20)).2) (ap4 h25 (ap (Qi h27).1 (ap (Qu (cInt .i64) (Qi h27).2) (ap3 h25 (ap h28 an))))) (Qy.out rfl rfl)
  ·obtain rfl:=Qc h;exact rK Qe 1 [(jF [3,4,5,6,7,8],[(9,.bool false)],[])] [none] [] [] [0,1,5] (.exit 0) ((f75n1E a1 a2 (.exit0 v20)).2) (ap3 h25 (ap4 h25 an)) (Qy.out rfl rfl)
inductive f75n2O where
 | norm (v38:List Int)
def f75n2E(bf1:List Int)(bi2:Bool)(bd3:Int):f75n2O→Ex×Tr×Hp
 | .norm v38=>(.norm,mkS [(0,(.pl (.sl .any 1 (bf1.map (cInt .i64))))),(5,(jI bd3)),(6,(.own 0))],[some (.row false 1 (v38.map (cInt .u8)))])
def f75n2S(bf1:List Int)(bi2:Bool)(bd3:Int):Tr×Hp:=(mkS [(0,(.pl (.sl .any 1 (bf1.map (cInt .i64))))),(1,(jB bi2)),(5,(jI bd3)),(6,(.pl (.sl .nil 0 [])))],[])
noncomputable def f75n2(bf1:List Int)(bi2:Bool)(bd3:Int):Option f75n2O :=
 bif bi2 then
  some (.norm [45])
 else
  some (.norm [])
theorem f75n2_ok(bf1:List Int)(bi2:Bool)(bd3:Int){o:f75n2O}(h:f75n2 bf1 bi2 bd3=some o):T Tryd.prog Tryd.f75.ntmps 0 (cL (Qj 2 (Qj 1 (Qj 2 c75)))) (f75n2S bf1 bi2 bd3) (·=f75n2E bf1 bi2 bd3 o):=by
 unfold f75n2 at h;rcases Qf h with ⟨h37,h⟩|⟨h37,h⟩
 ·obtain rfl:=Qc h;exact rE Qe [j3,([],[(2,.fits)],[])] [some true] [] [1] [0,5,6] (.norm,(f75n2E bf1 bi2 bd3 (.norm [45])).2) (ap h37 (ap (rfl:Qbw 1 ti5=true) an)) rfl
 ·obtain rfl:=Qc h;exact rE Qe [j3] [some false] [.mat 6 1] [0] [0,5,6] (.norm,(f75n2E bf1 bi2 bd3 (.norm [])).2) (ap h37 an) rfl
inductive f75n4O where
 | exit2 (v70:List Int)
def f75n4E(bf1:List Int):f75n4O→Ex×Tr×Hp
 | .exit2 v70=>((.exit 2),mkS [(6,(.own 0))],[some (.row false 1 (v70.map (cInt .u8)))])
def f75n4S(bf1:List Int)(v60:Int)(v61:List Int):Tr×Hp:=(mkS [(0,(.pl (.sl .any 1 (bf1.map (cInt .i64))))),(6,(.own 0)),(7,(jI v60))],[some (.row false 1 (v61.map (cInt .u8)))])
noncomputable def f75n4:Nat→List Int→Int→List Int→Option f75n4O
 | 0,_,_,_=>none
 | f+1,bf1,v60,v61 =>
  bif decide (0≤v60) then
   (at? bf1 v60).bind fun x67 =>
   req (fit (v61.length+1) 1) <|
   (f75n4 f bf1 (wr64 (v60-1)) (v61++[(wru8 (wr64 (48+x67)))]))
  else
   some (.exit2 v61)
theorem f75n4_ok:∀(f:Nat)(bf1:List Int)(v60:Int)(v61:List Int){o:f75n4O},f75n4 f bf1 v60 v61=some o→TL Tryd.prog Tryd.f75.ntmps 0 f (cL (cL (Qj 1 (cL (Qj 0 (Qj 1 (Qj 2 (Qj 1 (Qj 2 c75))))))))) (f75n4S bf1 v60 v61) (·=f75n4E bf1 o)
 | 0,_,_,_,o,h=>by rw [f75n4] at h; cases h
 | f+1,bf1,v60,v61,o,h=>by
  rw [f75n4] at h;refine TL.body (K:=fun s=>∃v60:Int,∃v61:List Int,s=(f75n4S bf1 v60 v61)∧f75n4 f bf1 v60 v61=some o) ?_ (by rintro _ ⟨v60,v61,rfl,hk⟩; exact f75n4_ok f _ _ _ hk);rcases Qf h with ⟨h63,h⟩|⟨h63,h⟩
  ·obtain ⟨x67,h68,h⟩:=Qb h;obtain ⟨h69,h⟩:=Qr h;exact rE Qe [j3,([],[(3,.idx (Int.toNat v60) ((cInt .i64) x67)),(8,.fits)],[(8,.row 2 ((v61++[(wru8 (wr64 (48+x67)))]).map (cInt .u8)))]),j3] [some true] [] [2] [0,6,7] (.norm,(f75n4S bf1 (wr64 (v60-1)) (v61++[(wru8 (wr64 (48+x67)))]))) (ap h63 (ap (Qi h68).1 (ap (Qu (cInt .i64) (Qi h68).2) (ap (fit_map (te:=ti5) (xs:=v61) (n:=1) (c:=(cInt .u8)) h69 rfl) (ap (app_cv (xs:=v61) (ys:=[(wru8 (wr64 (48+x67)))]) (c:=(cInt .u8))) an))))) (Qy.norm ⟨(wr64 (v60-1)),(v61++[(wru8 (wr64 (48+x67)))]),rfl,h⟩)
  ·obtain rfl:=Qc h;exact rK Qe 1 [j3] [some false] [] [0] [6] (.exit 2) ((f75n4E bf1 (.exit2 v61)).2) (ap h63 an) (Qy.out rfl rfl)
inductive f75n3O where
 | norm (v74:List Int)
def f75n3E(bf1:List Int)(bd2:Int)(bf3:List Int):f75n3O→Ex×Tr×Hp
 | .norm v74=>(.norm,mkS [(6,(.own 0))],[some (.row false 1 (v74.map (cInt .u8)))])
def f75n3S(bf1:List Int)(bd2:Int)(bf3:List Int):Tr×Hp:=(mkS [(0,(.pl (.sl .any 1 (bf1.map (cInt .i64))))),(5,(jI bd2)),(6,(.own 0))],[some (.row false 1 (bf3.map (cInt .u8)))])
noncomputable def f75n3(bf1:List Int)(bd2:Int)(bf3:List Int):Option f75n3O :=
 (f75n4 FUEL bf1 (wr64 (bd2-1)) bf3).bind fun o71=>match o71 with
 | .exit2 v73=>some (.norm v73)
theorem f75n3_ok(bf1:List Int)(bd2:Int)(bf3:List Int){o:f75n3O}(h:f75n3 bf1 bd2 bf3=some o):T Tryd.prog Tryd.f75.ntmps 0 (cL (Qj 0 (Qj 1 (Qj 2 (Qj 1 (Qj 2 c75)))))) (f75n3S bf1 bd2 bf3) (·=f75n3E bf1 bd2 bf3 o):=by
 unfold f75n3 at h;refine rN Qe 1 [j3] [] [] [0] [0,6,7] (f75n4S bf1 (wr64 (bd2-1)) bf3) an ?_;obtain ⟨o71,h72,h⟩:=Qb h;cases o71 with
 | exit2 v73 =>
  obtain rfl:=Qc h;exact T.last' (T.bl (i:=2) (by kernel_rfl) (by kernel_rfl) (f75n4_ok FUEL bf1 (wr64 (bd2-1)) bf3 h72)) (tds:=[]) (m:=[0]) (keep:=[6]) (st2:=(f75n3E bf1 bd2 bf3 (.norm v73)).2) (by kernel_rfl) an rfl
inductive f75n0O where
 | ret (v78:ByteArray)
def f75n0E(a1:List Int)(a2:Bool):f75n0O→Ex×Tr×Hp
 | .ret v78=>(.ret,mkS [(4,(jS v78))],[])
def f75n0S(a1:List Int)(a2:Bool):Tr×Hp:=(Qbd [(.pl (.sl .any 1 (a1.map (cInt .i64)))),(jB a2)] 0 .leaf,[])
noncomputable def f75n0(a1:List Int)(a2:Bool):Option f75n0O :=
 (f75n1 FUEL a1 a2 (a1.length:Int)).bind fun o30=>match o30 with
 | .exit0 v32=>bif decide (v32=0) then
   some (.ret str_0)
  else
   (f75n2 a1 a2 v32).bind fun o39=>match o39 with
   | .norm v41=>(f75n3 a1 v32 v41).bind fun o75=>match o75 with
    | .norm v77=>some (.ret (sOf v77))
theorem f75n0_ok(a1:List Int)(a2:Bool){o:f75n0O}(h:f75n0 a1 a2=some o):T Tryd.prog Tryd.f75.ntmps 0 c75 (f75n0S a1 a2) (·=f75n0E a1 a2 o):=by
 unfold f75n0 at h;refine rN Qe 2 [j3,([],[],[(1,.val (jI (a1.length:Int)))])] [] [] [] [0,1,5] (f75n1S a1 a2 (a1.length:Int)) (ap (Qx (xs:=a1) (c:=(cInt .i64))) an) ?_;obtain ⟨o30,h31,h⟩:=Qb h;cases o30 with
 | exit0 v32 =>
  refine T.oneN (by kernel_rfl) (T.bl (i:=0) (by kernel_rfl) (by kernel_rfl) (f75n1_ok FUEL a1 a2 (a1.length:Int) h31)) (st2:=(f75n1E a1 a2 (.exit0 v32)).2) rfl ?_;rcases Qf h with ⟨h34,h⟩|⟨h34,h⟩
  ·obtain rfl:=Qc h;exact rK Qe 1 [j3,j3] [some true] [] [] [4] .ret ((f75n0E a1 a2 (.ret str_0)).2) (ap h34 an) rfl
  ·refine rN Qe 2 [j3,j3] [some false] [] [] [0,1,5,6] (f75n2S a1 a2 v32) (ap h34 an) ?_;obtain ⟨o39,h40,h⟩:=Qb h;cases o39 with
   | norm v41 =>
    refine T.oneN (by kernel_rfl) (f75n2_ok a1 a2 v32 h40) (st2:=(f75n2E a1 a2 v32 (.norm v41)).2) rfl ?_;refine rN Qe 0 [] [] [] [0] [0,5,6] (f75n3S a1 v32 v41) an ?_;obtain ⟨o75,h76,h⟩:=Qb h;cases o75 with
    | norm v77 =>
     refine T.oneN (by kernel_rfl) (f75n3_ok a1 v32 v41 h76) (st2:=(f75n3E a1 v32 v41 (.norm v77)).2) rfl ?_;obtain rfl:=Qc h;exact rE Qe [([],[(1,.bs (toB v77))],[])] [] [] [] [4] (.ret,(f75n0E a1 a2 (.ret (sOf v77))).2) (ap (bytes_map v77) an) rfl
noncomputable def f75(a1:List Int)(a2:Bool):Option ByteArray:=(f75n0 a1 a2).bind fun o=>match o with
 | .ret v78=>some v78
theorem f75_ok(a1:List Int)(a2:Bool){r:ByteArray}(h:f75 a1 a2=some r):Qs Tryd.prog false 75 [(.pl (.sl .any 1 (a1.map (cInt .i64)))),(jB a2)] [] (jS r) []:=by
 unfold f75 at h;obtain ⟨o,ho,h⟩:=Qb h;cases o with
 | ret v78 =>
  obtain rfl:=Qc h;exact Qs.plain Qe (f:=Tryd.f75) (c:=c75) (by kernel_rfl) (by kernel_rfl) (by kernel_rfl) (by kernel_rfl) ((f75n0_ok a1 a2 ho).mono fun r e=>by subst e; exact ⟨.inl rfl,(jS v78),(jS v78),by kernel_rfl,by kernel_rfl,((Wk.refl _):Wk (jS v78) (jS v78))⟩)

noncomputable def c73:Code:=Tryd.f73.body.getD .skip
inductive f73n1O where
 | exit0 (v16:List Int)
def f73n1E:f73n1O→Ex×Tr×Hp
 | .exit0 v16=>((.exit 0),mkS [(3,(.own 0))],[some (.row false 1 (v16.map (cInt .i64)))])
def f73n1S(v10:Int)(v11:List Int):Tr×Hp:=(mkS [(0,(jI v10)),(3,(.own 0))],[some (.row false 1 (v11.map (cInt .i64)))])
noncomputable def f73n1:Nat→Int→List Int→Option f73n1O
 | 0,_,_=>none
 | f+1,v10,v11 =>
  bif decide (0<v10) then
   req (fit (v11.length+1) 8) <|
   (f73n1 f (wr64 (Int.tdiv v10 10)) (v11++[(Int.tmod v10 10)]))
  else
   some (.exit0 v11)
theorem f73n1_ok:∀(f:Nat)(v10:Int)(v11:List Int){o:f73n1O},f73n1 f v10 v11=some o→TL Tryd.prog Tryd.f73.ntmps 0 f (cL (cL (cL (Qj 2 c73)))) (f73n1S v10 v11) (·=f73n1E o)
 | 0,_,_,o,h=>by rw [f73n1] at h; cases h
 | f+1,v10,v11,o,h=>by
  rw [f73n1] at h;refine TL.body (K:=fun s=>∃v10:Int,∃v11:List Int,s=(f73n1S v10 v11)∧f73n1 f v10 v11=some o) ?_ (by rintro _ ⟨v10,v11,rfl,hk⟩; exact f73n1_ok f _ _ hk);rcases Qf h with ⟨h13,h⟩|⟨h13,h⟩
  ·obtain ⟨h15,h⟩:=Qr h;exact rE Qe [j3,([],[(4,.fits)],[(4,.row 2 ((v11++[(Int.tmod v10 10)]).map (cInt .i64)))]),j3] [some true] [] [2] [0,3] (.norm,(f73n1S (wr64 (Int.tdiv v10 10)) (v11++[(Int.tmod v10 10)]))) (ap h13 (ap (fit_map (te:=ti3) (xs:=v11) (n:=1) (c:=(cInt .i64)) h15 rfl) (ap (app_cv (xs:=v11) (ys:=[(Int.tmod v10 10)]) (c:=(cInt .i64))) an))) (Qy.norm ⟨(wr64 (Int.tdiv v10 10)),(v11++[(Int.tmod v10 10)]),rfl,h⟩)
  ·obtain rfl:=Qc h;exact rK Qe 1 [j3] [some false] [] [0] [3] (.exit 0) ((f73n1E (.exit0 v11)).2) (ap h13 an) (Qy.out rfl rfl)
inductive f73n0O where
 | ret (v24:ByteArray)
def f73n0E(a1:Int):f73n0O→Ex×Tr×Hp
 | .ret v24=>(.ret,mkS [(2,(jS v24))],[])
def f73n0S(a1:Int):Tr×Hp:=(Qbd [(jI a1)] 0 .leaf,[])
noncomputable def f73n0(a1:Int):Option f73n0O :=
 (f73n1 FUEL a1 []).bind fun o17=>match o17 with
 | .exit0 v19=>(f75 v19 false).bind fun x22 =>
  some (.ret x22)
theorem f73n0_ok(a1:Int){o:f73n0O}(h:f73n0 a1=some o):T Tryd.prog Tryd.f73.ntmps 0 c73 (f73n0S a1) (·=f73n0E a1 o):=by
 unfold f73n0 at h;refine rN Qe 2 [j3,j3] [] [.mat 3 1] [0] [0,3] (f73n1S a1 []) an ?_;obtain ⟨o17,h18,h⟩:=Qb h;cases o17 with
 | exit0 v19 =>
  refine T.oneN (by kernel_rfl) (T.bl (i:=0) (by kernel_rfl) (by kernel_rfl) (f73n1_ok FUEL a1 [] h18)) (st2:=(f73n1E (.exit0 v19)).2) rfl ?_;obtain ⟨x22,h23,h⟩:=Qb h;obtain rfl:=Qc h;exact rE Qe [([],[jH 1 (jS x22)],[])] [] [] [] [2] (.ret,(f73n0E a1 (.ret x22)).2) (ap (f75_ok v19 false h23) an) rfl
noncomputable def f73(a1:Int):Option ByteArray:=(f73n0 a1).bind fun o=>match o with
 | .ret v24=>some v24
theorem f73_ok(a1:Int){r:ByteArray}(h:f73 a1=some r):Qs Tryd.prog false 73 [(jI a1)] [] (jS r) []:=by
 unfold f73 at h;obtain ⟨o,ho,h⟩:=Qb h;cases o with
 | ret v24 =>
  obtain rfl:=Qc h;exact Qs.plain Qe (f:=Tryd.f73) (c:=c73) (by kernel_rfl) (by kernel_rfl) (by kernel_rfl) (by kernel_rfl) ((f73n0_ok a1 ho).mono fun r e=>by subst e; exact ⟨.inl rfl,(jS v24),(jS v24),by kernel_rfl,by kernel_rfl,((Wk.refl _):Wk (jS v24) (jS v24))⟩)

noncomputable def c92:Code:=Tryd.f92.body.getD .skip
inductive f92n1O where
 | norm (v11:Bool)
def f92n1E(bb1:ByteArray):f92n1O→Ex×Tr×Hp
 | .norm v11=>(.norm,mkS [(5,(jS bb1)),(6,(jB v11))],[])
def f92n1S(bb1:ByteArray):Tr×Hp:=(mkS [(5,(jS bb1))],[])
noncomputable def f92n1(bb1:ByteArray):Option f92n1O :=
 bif decide (0<(bb1.size:Int)) then
  (at? bb1.data.toList 0).bind fun x9 =>
  some (.norm (decide ((x9.toNat:Int)=45)))
 else
  some (.norm false)
theorem f92n1_ok(bb1:ByteArray){o:f92n1O}(h:f92n1 bb1=some o):T Tryd.prog Tryd.f92.ntmps 0 (cL (Qj 2 c92)) (f92n1S bb1) (·=f92n1E bb1 o):=by
 unfold f92n1 at h;rcases Qf h with ⟨h8,h⟩|⟨h8,h⟩
 ·obtain ⟨x9,h10,h⟩:=Qb h;obtain rfl:=Qc h;exact rE Qe [(jT [4,5,6],[(5,.byte (Int.toNat 0) x9),(7,.bool true)],[])] [] [] [] [5,6] (.norm,(f92n1E bb1 (.norm (decide ((x9.toNat:Int)=45)))).2) (ap2 h8 (ap (Qi h10).1 (ap (Qi h10).2 (ap2 h8 an)))) rfl
 ·obtain rfl:=Qc h;exact rE Qe [(jF [4,5,6],[(7,.bool false)],[])] [] [] [] [5,6] (.norm,(f92n1E bb1 (.norm false)).2) (ap4 h8 an) rfl
inductive f92n2O where
 | norm (v21:ByteArray)
def f92n2E(bb1:ByteArray)(bi2:Bool):f92n2O→Ex×Tr×Hp
 | .norm v21=>(.norm,mkS [(5,(jS v21)),(6,(jB bi2))],[])
def f92n2S(bb1:ByteArray)(bi2:Bool):Tr×Hp:=(mkS [(5,(jS bb1)),(6,(jB bi2))],[])
noncomputable def f92n2(bb1:ByteArray)(bi2:Bool):Option f92n2O :=
 bif bi2 then
  req (cutB 1 (bb1.size:Int) bb1.size) <|
  some (.norm (scut bb1 (Int.toNat 1) bb1.size))
 else
  some (.norm bb1)
theorem f92n2_ok(bb1:ByteArray)(bi2:Bool){o:f92n2O}(h:f92n2 bb1 bi2=some o):T Tryd.prog Tryd.f92.ntmps 0 (cL (Qj 0 (Qj 1 (Qj 2 c92)))) (f92n2S bb1 bi2) (·=f92n2E bb1 bi2 o):=by
 unfold f92n2 at h;rcases Qf h with ⟨h19,h⟩|⟨h19,h⟩
 ·obtain ⟨h20,h⟩:=Qr h;obtain rfl:=Qc h;exact rE Qe [j3,([],[(1,.cut (Int.toNat 1) bb1.size)],[])] [some true] [] [] [5,6] (.norm,(f92n2E bb1 bi2 (.norm (scut bb1 (Int.toNat 1) bb1.size))).2) (ap h19 (ap (cut_nl_1 h20) (ap (cut_nl_2 h20) (ap (cut_nl_3 h20) (ap (cut_nl_4 h20) an))))) rfl
 ·obtain rfl:=Qc h;exact rE Qe [j3] [some false] [] [] [5,6] (.norm,(f92n2E bb1 bi2 (.norm bb1)).2) (ap h19 an) rfl
inductive f92n4O where
 | norm (v46:Bool)
def f92n4E(bb1:ByteArray)(bi2:Bool):f92n4O→Ex×Tr×Hp
 | .norm v46=>(.norm,mkS [(5,(jS bb1)),(6,(jB bi2)),(36,(jB v46))],[])
def f92n4S(bb1:ByteArray)(bi2:Bool):Tr×Hp:=(mkS [(5,(jS bb1)),(6,(jB bi2))],[])
noncomputable def f92n4(bb1:ByteArray)(bi2:Bool):Option f92n4O :=
 bif decide ((bb1.size:Int)=0) then
  some (.norm true)
 else
  (at? bb1.data.toList 0).bind fun x42 =>
  bif decide ((x42.toNat:Int)=48) then
   bif decide (1<(bb1.size:Int)) then
    some (.norm true)
   else
    some (.norm bi2)
  else
   some (.norm false)
theorem f92n4_ok(bb1:ByteArray)(bi2:Bool){o:f92n4O}(h:f92n4 bb1 bi2=some o):T Tryd.prog Tryd.f92.ntmps 0 (cL (Qj 0 (cL (Qj 0 (Qj 1 (Qj 0 (Qj 1 (Qj 2 c92)))))))) (f92n4S bb1 bi2) (·=f92n4E bb1 bi2 o):=by
 unfold f92n4 at h;rcases Qf h with ⟨h41,h⟩|⟨h41,h⟩
 ·obtain rfl:=Qc h;exact rE Qe [(jT [4,5,6,7,14],[(15,.bool true)],[])] [] [] [] [5,6,36] (.norm,(f92n4E bb1 bi2 (.norm true)).2) (ap2 h41 (ap4 h41 an)) rfl
 ·obtain ⟨x42,h43,h⟩:=Qb h;rcases Qf h with ⟨h44,h⟩|⟨h44,h⟩
  ·rcases Qf h with ⟨h45,h⟩|⟨h45,h⟩
   ·obtain rfl:=Qc h;exact rE Qe [(jF [4,5,6,7,14]++jT [8,9,10,11,12,13],[(5,.byte (Int.toNat 0) x42),(13,.bool true),(14,.bool true),(15,.bool false)],[])] [] [] [] [5,6,36] (.norm,(f92n4E bb1 bi2 (.norm true)).2) (ap2 h41 (ap (Qi h43).1 (ap (Qi h43).2 (ap2 h41 (ap4 h44 (ap h45 (ap h44 (ap h45 (ap h41 (ap h44 (ap h41 an))))))))))) rfl
   ·obtain rfl:=Qc h;exact rE Qe [(jF [4,5,6,7,12,14]++jT [8,9,10,11,13],[(5,.byte (Int.toNat 0) x42),(13,.bool false),(14,.bool true),(15,.bool false)],[])] [] [] [] [5,6,36] (.norm,(f92n4E bb1 bi2 (.norm bi2)).2) (ap2 h41 (ap (Qi h43).1 (ap (Qi h43).2 (ap2 h41 (ap4 h44 (ap h45 (ap h44 (ap h45 (ap h41 (ap h44 (ap h41 an))))))))))) rfl
  ·obtain rfl:=Qc h;exact rE Qe [(jF [4,5,6,7,8,9,10,11,13,14],[(5,.byte (Int.toNat 0) x42),(14,.bool false),(15,.bool false)],[])] [] [] [] [5,6,36] (.norm,(f92n4E bb1 bi2 (.norm false)).2) (ap2 h41 (ap (Qi h43).1 (ap (Qi h43).2 (ap2 h41 (ap h44 (ap4 h44 (ap h41 (ap h44 (ap h41 an))))))))) rfl
inductive f92n3O where
 | norm
 | ret
def f92n3E(bb1:ByteArray)(bi2:Bool):f92n3O→Ex×Tr×Hp
 | .norm=>(.norm,mkS [(5,(jS bb1)),(6,(jB bi2))],[])
 | .ret=>(.ret,mkS [(2,(.pl (.sl .nil 0 []))),(3,(jB false)),(4,(jB false))],[])
def f92n3S(bb1:ByteArray)(bi2:Bool):Tr×Hp:=(mkS [(5,(jS bb1)),(6,(jB bi2))],[])
noncomputable def f92n3(bb1:ByteArray)(bi2:Bool):Option f92n3O :=
 (f92n4 bb1 bi2).bind fun o47=>match o47 with
 | .norm v49=>bif v49 then
   some .ret
  else
   some .norm
theorem f92n3_ok(bb1:ByteArray)(bi2:Bool){o:f92n3O}(h:f92n3 bb1 bi2=some o):T Tryd.prog Tryd.f92.ntmps 0 (cL (Qj 0 (Qj 1 (Qj 0 (Qj 1 (Qj 2 c92)))))) (f92n3S bb1 bi2) (·=f92n3E bb1 bi2 o):=by
 unfold f92n3 at h;refine rN Qe 0 [] [] [] [] [5,6] (f92n4S bb1 bi2) an ?_;obtain ⟨o47,h48,h⟩:=Qb h;cases o47 with
 | norm v49 =>
  refine T.oneN (by kernel_rfl) (f92n4_ok bb1 bi2 h48) (st2:=(f92n4E bb1 bi2 (.norm v49)).2) rfl ?_;rcases Qf h with ⟨h51,h⟩|⟨h51,h⟩
  ·obtain rfl:=Qc h;exact rE Qe [j3] [some true] [] [] [2,3,4] (.ret,(f92n3E bb1 bi2 .ret).2) (ap h51 an) rfl
  ·obtain rfl:=Qc h;exact rE Qe [] [some false] [] [] [5,6] (.norm,(f92n3E bb1 bi2 .norm).2) (ap h51 an) rfl
inductive f92n6O where
 | exit0 (v92:List Int)
 | ret
def f92n6E(bb1:ByteArray)(bi2:Bool):f92n6O→Ex×Tr×Hp
 | .exit0 v92=>((.exit 0),mkS [(6,(jB bi2)),(7,(.own 0))],[some (.row false 1 (v92.map (cInt .i64)))])
 | .ret=>(.ret,mkS [(2,(.pl (.sl .nil 0 []))),(3,(jB false)),(4,(jB false))],[])
def f92n6S(bb1:ByteArray)(bi2:Bool)(v78:Int)(v79:List Int):Tr×Hp:=(mkS [(5,(jS bb1)),(6,(jB bi2)),(7,(.own 0)),(8,(jI v78))],[some (.row false 1 (v79.map (cInt .i64)))])
noncomputable def f92n6:Nat→ByteArray→Bool→Int→List Int→Option f92n6O
 | 0,_,_,_,_=>none
 | f+1,bb1,bi2,v78,v79 =>
  bif decide (0≤v78) then
   (at? bb1.data.toList v78).bind fun x87 =>
   bif decide ((x87.toNat:Int)<48) then
    some .ret
   else
    bif decide (57<(x87.toNat:Int)) then
     some .ret
    else
     req (fit (v79.length+1) 8) <|
     (f92n6 f bb1 bi2 (wr64 (v78-1)) (v79++[(wr64 (wru8 ((x87.toNat:Int)-48)))]))
  else
   some (.exit0 v79)
theorem f92n6_ok:∀(f:Nat)(bb1:ByteArray)(bi2:Bool)(v78:Int)(v79:List Int){o:f92n6O},f92n6 f bb1 bi2 v78 v79=some o→TL Tryd.prog Tryd.f92.ntmps 0 f (cL (cL (Qj 1 (cL (Qj 1 (Qj 1 (Qj 0 (Qj 1 (Qj 0 (Qj 1 (Qj 2 c92))))))))))) (f92n6S bb1 bi2 v78 v79) (·=f92n6E bb1 bi2 o)
 | 0,_,_,_,_,o,h=>by rw [f92n6] at h; cases h
 | f+1,bb1,bi2,v78,v79,o,h=>by
  rw [f92n6] at h;refine TL.body (K:=fun s=>∃v78:Int,∃v79:List Int,s=(f92n6S bb1 bi2 v78 v79)∧f92n6 f bb1 bi2 v78 v79=some o) ?_ (by rintro _ ⟨v78,v79,rfl,hk⟩; exact f92n6_ok f _ _ _ _ hk);rcases Qf h with ⟨h81,h⟩|⟨h81,h⟩
  ·obtain ⟨x87,h88,h⟩:=Qb h;rcases Qf h with ⟨h89,h⟩|⟨h89,h⟩
   ·obtain rfl:=Qc h;exact rK Qe 2 [j3,(jT [5,6,7,8],[(2,.byte (Int.toNat v78) x87),(9,.bool true)],[]),j3] [some true,none] [] [] [2,3,4] .ret ((f92n6E bb1 bi2 .ret).2) (ap h81 (ap (Qi h88).1 (ap (Qi h88).2 (ap h89 (ap4 h89 an))))) (Qy.out rfl rfl)
   ·rcases Qf h with ⟨h90,h⟩|⟨h90,h⟩
    ·obtain rfl:=Qc h;exact rK Qe 2 [j3,(jF [5,6,7,8],[(2,.byte (Int.toNat v78) x87),(7,.byte (Int.toNat v78) x87),(9,.bool false)],[]),j3] [some true,some true] [] [] [2,3,4] .ret ((f92n6E bb1 bi2 .ret).2) (ap h81 (ap (Qi h88).1 (ap (Qi h88).2 (ap3 h89 (ap (Qi h88).1 (ap (Qi h88).2 (ap2 h89 (ap h90 an)))))))) (Qy.out rfl rfl)
    ·obtain ⟨h91,h⟩:=Qr h;exact rE Qe [j3,(jF [5,6,7,8],[(2,.byte (Int.toNat v78) x87),(7,.byte (Int.toNat v78) x87),(9,.bool false)],[]),([],[(3,.byte (Int.toNat v78) x87),(7,.fits)],[(7,.row 2 ((v79++[(wr64 (wru8 ((x87.toNat:Int)-48)))]).map (cInt .i64)))]),j3] [some true,some false] [] [2] [5,6,7,8] (.norm,(f92n6S bb1 bi2 (wr64 (v78-1)) (v79++[(wr64 (wru8 ((x87.toNat:Int)-48)))]))) (ap h81 (ap (Qi h88).1 (ap (Qi h88).2 (ap3 h89 (ap (Qi h88).1 (ap (Qi h88).2 (ap2 h89 (ap h90 (ap (Qi h88).1 (ap (Qi h88).2 (ap (fit_map (te:=ti3) (xs:=v79) (n:=1) (c:=(cInt .i64)) h91 rfl) (ap (app_cv (xs:=v79) (ys:=[(wr64 (wru8 ((x87.toNat:Int)-48)))]) (c:=(cInt .i64))) an)))))))))))) (Qy.norm ⟨(wr64 (v78-1)),(v79++[(wr64 (wru8 ((x87.toNat:Int)-48)))]),rfl,h⟩)
  ·obtain rfl:=Qc h;exact rK Qe 1 [j3] [some false] [] [0] [6,7] (.exit 0) ((f92n6E bb1 bi2 (.exit0 v79)).2) (ap h81 an) (Qy.out rfl rfl)
inductive f92n5O where
 | norm (v96:List Int)
 | ret
def f92n5E(bb1:ByteArray)(bi2:Bool):f92n5O→Ex×Tr×Hp
 | .norm v96=>(.norm,mkS [(6,(jB bi2)),(7,(.own 0))],[some (.row false 1 (v96.map (cInt .i64)))])
 | .ret=>(.ret,mkS [(2,(.pl (.sl .nil 0 []))),(3,(jB false)),(4,(jB false))],[])
def f92n5S(bb1:ByteArray)(bi2:Bool):Tr×Hp:=(mkS [(5,(jS bb1)),(6,(jB bi2)),(7,(.pl (.sl .nil 0 [])))],[])
noncomputable def f92n5(bb1:ByteArray)(bi2:Bool):Option f92n5O :=
 (f92n6 FUEL bb1 bi2 (wr64 ((bb1.size:Int)-1)) []).bind fun o93=>match o93 with
 | .exit0 v95=>some (.norm v95)
 | .ret=>some .ret
theorem f92n5_ok(bb1:ByteArray)(bi2:Bool){o:f92n5O}(h:f92n5 bb1 bi2=some o):T Tryd.prog Tryd.f92.ntmps 0 (cL (Qj 1 (Qj 1 (Qj 0 (Qj 1 (Qj 0 (Qj 1 (Qj 2 c92)))))))) (f92n5S bb1 bi2) (·=f92n5E bb1 bi2 o):=by
 unfold f92n5 at h;refine rN Qe 1 [j3] [] [.mat 7 1] [0] [5,6,7,8] (f92n6S bb1 bi2 (wr64 ((bb1.size:Int)-1)) []) an ?_;obtain ⟨o93,h94,h⟩:=Qb h;cases o93 with
 | exit0 v95 =>
  obtain rfl:=Qc h;exact T.last' (T.bl (i:=0) (by kernel_rfl) (by kernel_rfl) (f92n6_ok FUEL bb1 bi2 (wr64 ((bb1.size:Int)-1)) [] h94)) (tds:=[]) (m:=[0]) (keep:=[6,7]) (st2:=(f92n5E bb1 bi2 (.norm v95)).2) (by kernel_rfl) an rfl
 | ret =>
  obtain rfl:=Qc h;exact T.last' (T.bl (i:=0) (by kernel_rfl) (by kernel_rfl) (f92n6_ok FUEL bb1 bi2 (wr64 ((bb1.size:Int)-1)) [] h94)) (tds:=[]) (m:=[]) (keep:=[2,3,4]) (st2:=(f92n5E bb1 bi2 .ret).2) (by kernel_rfl) an rfl
inductive f92n0O where
 | ret (v100:Bool) (v101:Bool) (v102:List Int)
def f92n0E(a1:ByteArray):f92n0O→Ex×Tr×Hp
 | .ret v100 v101 v102=>(.ret,mkS [(2,(.own 0)),(3,(jB v100)),(4,(jB v101))],[some (.row false 1 (v102.map (cInt .i64)))])
def f92n0S(a1:ByteArray):Tr×Hp:=(Qbd [(jS a1)] 0 .leaf,[])
noncomputable def f92n0(a1:ByteArray):Option f92n0O :=
 (f92n1 a1).bind fun o12=>match o12 with
 | .norm v14=>(f92n2 a1 v14).bind fun o22=>match o22 with
  | .norm v24=>(f92n3 v24 v14).bind fun o52=>match o52 with
   | .norm=>(f92n5 v24 v14).bind fun o97=>match o97 with
    | .norm v99=>some (.ret v14 true v99)
    | .ret=>some (.ret false false [])
   | .ret=>some (.ret false false [])
theorem f92n0_ok(a1:ByteArray){o:f92n0O}(h:f92n0 a1=some o):T Tryd.prog Tryd.f92.ntmps 0 c92 (f92n0S a1) (·=f92n0E a1 o):=by
 unfold f92n0 at h;refine rN Qe 2 [j3,j3] [] [] [] [5] (f92n1S a1) an ?_;obtain ⟨o12,h13,h⟩:=Qb h;cases o12 with
 | norm v14 =>
  refine T.oneN (by kernel_rfl) (f92n1_ok a1 h13) (st2:=(f92n1E a1 (.norm v14)).2) rfl ?_;refine rN Qe 0 [] [] [] [] [5,6] (f92n2S a1 v14) an ?_;obtain ⟨o22,h23,h⟩:=Qb h;cases o22 with
  | norm v24 =>
   refine T.oneN (by kernel_rfl) (f92n2_ok a1 v14 h23) (st2:=(f92n2E a1 v14 (.norm v24)).2) rfl ?_;refine rN Qe 0 [] [] [] [] [5,6] (f92n3S v24 v14) an ?_;obtain ⟨o52,h53,h⟩:=Qb h;cases o52 with
   | norm =>
    refine T.oneN (by kernel_rfl) (f92n3_ok v24 v14 h53) (st2:=(f92n3E v24 v14 .norm).2) rfl ?_;refine rN Qe 1 [j3] [] [] [] [5,6,7] (f92n5S v24 v14) an ?_;obtain ⟨o97,h98,h⟩:=Qb h;cases o97 with
    | norm v99 =>
     refine T.oneN (by kernel_rfl) (f92n5_ok v24 v14 h98) (st2:=(f92n5E v24 v14 (.norm v99)).2) rfl ?_;obtain rfl:=Qc h;exact rE Qe [j3] [] [] [0] [2,3,4] (.ret,(f92n0E a1 (.ret v14 true v99)).2) an rfl
    | ret =>
     obtain rfl:=Qc h;exact T.oneX' (by kernel_rfl) (f92n5_ok v24 v14 h98) (tds:=[.mat 2 1]) (m:=[0]) (keep:=[2,3,4]) (st2:=(f92n0E a1 (.ret false false [])).2) (by kernel_rfl) an rfl rfl
   | ret =>
    obtain rfl:=Qc h;exact T.oneX' (by kernel_rfl) (f92n3_ok v24 v14 h53) (tds:=[.mat 2 1]) (m:=[0]) (keep:=[2,3,4]) (st2:=(f92n0E a1 (.ret false false [])).2) (by kernel_rfl) an rfl rfl
noncomputable def f92(a1:ByteArray):Option ((List Int)×Bool×Bool):=(f92n0 a1).bind fun o=>match o with
 | .ret v100 v101 v102=>some (v102,v100,v101)
theorem f92_ok(a1:ByteArray){r:(List Int)×Bool×Bool}(h:f92 a1=some r):Qs Tryd.prog false 92 [(jS a1)] [] (.tup [(.pl (.sl .any 1 (r.1.map (cInt .i64)))),(jB r.2.1),(jB r.2.2)]) []:=by
 unfold f92 at h;obtain ⟨o,ho,h⟩:=Qb h;cases o with
 | ret v100 v101 v102 =>
  obtain rfl:=Qc h;exact Qs.plain Qe (f:=Tryd.f92) (c:=c92) (by kernel_rfl) (by kernel_rfl) (by kernel_rfl) (by kernel_rfl) ((f92n0_ok a1 ho).mono fun r e=>by subst e; exact ⟨.inl rfl,(.tup [(.own 0),(jB v100),(jB v101)]),(.tup [(.pl (.sl .any 1 (v102.map (cInt .i64)))),(jB v100),(jB v101)]),by kernel_rfl,by kernel_rfl,((Wk.refl _):Wk (.tup [(.pl (.sl .any 1 (v102.map (cInt .i64)))),(jB v100),(jB v101)]) (.tup [(.pl (.sl .any 1 (v102.map (cInt .i64)))),(jB v100),(jB v101)]))⟩)

noncomputable def c77:Code:=Tryd.f77.body.getD .skip
inductive f77n0O where
 | ret (v6:List Int)
def f77n0E(a1:ByteArray):f77n0O→Ex×Tr×Hp
 | .ret v6=>(.ret,mkS [(2,(.pl (.sl .any 1 (v6.map (cInt .i64)))))],[])
def f77n0S(a1:ByteArray):Tr×Hp:=(Qbd [(jS a1)] 0 .leaf,[])
noncomputable def f77n0(a1:ByteArray):Option f77n0O :=
 (f92 a1).bind fun x4 =>
 some (.ret x4.1)
theorem f77n0_ok(a1:ByteArray){o:f77n0O}(h:f77n0 a1=some o):T Tryd.prog Tryd.f77.ntmps 0 c77 (f77n0S a1) (·=f77n0E a1 o):=by
 unfold f77n0 at h;obtain ⟨x4,h5,h⟩:=Qb h;obtain rfl:=Qc h;exact rE Qe [j3,([],[jH 1 (.tup [(.pl (.sl .any 1 (x4.1.map (cInt .i64)))),(jB x4.2.1),(jB x4.2.2)])],[]),j3] [] [] [] [2] (.ret,(f77n0E a1 (.ret x4.1)).2) (ap (f92_ok a1 h5) an) rfl
noncomputable def f77(a1:ByteArray):Option (List Int):=(f77n0 a1).bind fun o=>match o with
 | .ret v6=>some v6
theorem f77_ok(a1:ByteArray){r:List Int}(h:f77 a1=some r):Qs Tryd.prog false 77 [(jS a1)] [] (.pl (.sl .any 1 (r.map (cInt .i64)))) []:=by
 unfold f77 at h;obtain ⟨o,ho,h⟩:=Qb h;cases o with
 | ret v6 =>
  obtain rfl:=Qc h;exact Qs.plain Qe (f:=Tryd.f77) (c:=c77) (by kernel_rfl) (by kernel_rfl) (by kernel_rfl) (by kernel_rfl) ((f77n0_ok a1 ho).mono fun r e=>by subst e; exact ⟨.inl rfl,(.pl (.sl .any 1 (v6.map (cInt .i64)))),(.pl (.sl .any 1 (v6.map (cInt .i64)))),by kernel_rfl,by kernel_rfl,((Wk.refl _):Wk (.pl (.sl .any 1 (v6.map (cInt .i64)))) (.pl (.sl .any 1 (v6.map (cInt .i64)))))⟩)

noncomputable def c93:Code:=Tryd.f93.body.getD .skip
inductive f93n0O where
 | ret (v9:Int)
def f93n0E(a1:List Int)(a2:Int):f93n0O→Ex×Tr×Hp
 | .ret v9=>(.ret,mkS [(4,(jI v9))],[])
def f93n0S(a1:List Int)(a2:Int):Tr×Hp:=(Qbd [(.pl (.sl .any 1 (a1.map (cInt .i64)))),(jI a2)] 0 .leaf,[])
noncomputable def f93n0(a1:List Int)(a2:Int):Option f93n0O :=
 bif decide (a2<(a1.length:Int)) then
  (at? a1 a2).bind fun x7 =>
  some (.ret x7)
 else
  some (.ret 0)
theorem f93n0_ok(a1:List Int)(a2:Int){o:f93n0O}(h:f93n0 a1 a2=some o):T Tryd.prog Tryd.f93.ntmps 0 c93 (f93n0S a1 a2) (·=f93n0E a1 a2 o):=by
 unfold f93n0 at h;rcases Qf h with ⟨h6,h⟩|⟨h6,h⟩
 ·obtain ⟨x7,h8,h⟩:=Qb h;obtain rfl:=Qc h;exact rK Qe 2 [j3,([],[],[(2,.val (jI (a1.length:Int)))]),([],[(2,.idx (Int.toNat a2) ((cInt .i64) x7))],[])] [some true] [] [] [4] .ret ((f93n0E a1 a2 (.ret x7)).2) (ap (Qx (xs:=a1) (c:=(cInt .i64))) (ap h6 (ap (Qi h8).1 (ap (Qu (cInt .i64) (Qi h8).2) an)))) rfl
 ·obtain rfl:=Qc h;exact rE Qe [j3,([],[],[(2,.val (jI (a1.length:Int)))]),j3] [some false] [] [] [4] (.ret,(f93n0E a1 a2 (.ret 0)).2) (ap (Qx (xs:=a1) (c:=(cInt .i64))) (ap h6 an)) rfl
noncomputable def f93(a1:List Int)(a2:Int):Option Int:=(f93n0 a1 a2).bind fun o=>match o with
 | .ret v9=>some v9
theorem f93_ok(a1:List Int)(a2:Int){r:Int}(h:f93 a1 a2=some r):Qs Tryd.prog false 93 [(.pl (.sl .any 1 (a1.map (cInt .i64)))),(jI a2)] [] (jI r) []:=by
 unfold f93 at h;obtain ⟨o,ho,h⟩:=Qb h;cases o with
 | ret v9 =>
  obtain rfl:=Qc h;exact Qs.plain Qe (f:=Tryd.f93) (c:=c93) (by kernel_rfl) (by kernel_rfl) (by kernel_rfl) (by kernel_rfl) ((f93n0_ok a1 a2 ho).mono fun r e=>by subst e; exact ⟨.inl rfl,(jI v9),(jI v9),by kernel_rfl,by kernel_rfl,((Wk.refl _):Wk (jI v9) (jI v9))⟩)

noncomputable def c76:Code:=Tryd.f76.body.getD .skip
inductive f76n2O where
 | exit0 (v43:List Int)
def f76n2E(bf1 bf2:List Int):f76n2O→Ex×Tr×Hp
 | .exit0 v43=>((.exit 0),mkS [(5,(.own 0))],[some (.row false 1 (v43.map (cInt .i64)))])
def f76n2S(bf1 bf2:List Int)(v28 v29:Int)(v30:List Int):Tr×Hp:=(mkS [(0,(.pl (.sl .any 1 (bf1.map (cInt .i64))))),(1,(.pl (.sl .any 1 (bf2.map (cInt .i64))))),(5,(.own 0)),(6,(jI v28)),(7,(jI v29))],[some (.row false 1 (v30.map (cInt .i64)))])
noncomputable def f76n2:Nat→List Int→List Int→Int→Int→List Int→Option f76n2O
 | 0,_,_,_,_,_=>none
 | f+1,bf1,bf2,v28,v29,v30 =>
  bif (decide (v29≤(mxI (bf1.length:Int) (bf2.length:Int)))) then
   (f93 bf1 v29).bind fun x38 =>
   (f93 bf2 v29).bind fun x40 =>
   req (fit (v30.length+1) 8) <|
   (f76n2 f bf1 bf2 (wr64 (Int.tdiv (wr64 ((wr64 (x38+x40))+v28)) 10)) (wr64 (v29+1)) (v30++[(Int.tmod (wr64 ((wr64 (x38+x40))+v28)) 10)]))
  else
   some (.exit0 v30)
theorem f76n2_ok:∀(f:Nat)(bf1 bf2:List Int)(v28 v29:Int)(v30:List Int){o:f76n2O},f76n2 f bf1 bf2 v28 v29 v30=some o→TL Tryd.prog Tryd.f76.ntmps 0 f (cL (cL (Qj 1 (cL (Qj 3 c76))))) (f76n2S bf1 bf2 v28 v29 v30) (·=f76n2E bf1 bf2 o)
 | 0,_,_,_,_,_,o,h=>by rw [f76n2] at h; cases h
 | f+1,bf1,bf2,v28,v29,v30,o,h=>by
  rw [f76n2] at h;refine TL.body (K:=fun s=>∃v28:Int,∃v29:Int,∃v30:List Int,s=(f76n2S bf1 bf2 v28 v29 v30)∧f76n2 f bf1 bf2 v28 v29 v30=some o) ?_ (by rintro _ ⟨v28,v29,v30,rfl,hk⟩; exact f76n2_ok f _ _ _ _ _ hk);rcases Qf h with ⟨h32,h⟩|⟨h32,h⟩
  ·obtain ⟨x38,h39,h⟩:=Qb h;obtain ⟨x40,h41,h⟩:=Qb h;obtain ⟨h42,h⟩:=Qr h
   exact rE Qe [([],[],[(2,.val (jI (bf1.length:Int))),(4,.val (jI (bf2.length:Int)))]),([],[jH 2 (jI x38),jH 5 (jI x40)],[]),([],[(4,.fits)],[(4,.row 2 ((v30++[(Int.tmod (wr64 ((wr64 (x38+x40))+v28)) 10)]).map (cInt .i64)))]),j3,j3] [some true] [] [2] [0,1,5,6,7] (.norm,(f76n2S bf1 bf2 (wr64 (Int.tdiv (wr64 ((wr64 (x38+x40))+v28)) 10)) (wr64 (v29+1)) (v30++[(Int.tmod (wr64 ((wr64 (x38+x40))+v28)) 10)]))) (ap (Qx (xs:=bf1) (c:=(cInt .i64))) (ap (Qx (xs:=bf2) (c:=(cInt .i64))) (ap h32 (ap (f93_ok bf1 v29 h39) (ap (f93_ok bf2 v29 h41) (ap (fit_map (te:=ti3) (xs:=v30) (n:=1) (c:=(cInt .i64)) h42 rfl) (ap (app_cv (xs:=v30) (ys:=[(Int.tmod (wr64 ((wr64 (x38+x40))+v28)) 10)]) (c:=(cInt .i64))) an))))))) (Qy.norm ⟨(wr64 (Int.tdiv (wr64 ((wr64 (x38+x40))+v28)) 10)),(wr64 (v29+1)),(v30++[(Int.tmod (wr64 ((wr64 (x38+x40))+v28)) 10)]),rfl,h⟩)
  ·obtain rfl:=Qc h;exact rK Qe 1 [([],[],[(2,.val (jI (bf1.length:Int))),(4,.val (jI (bf2.length:Int)))])] [some false] [] [0] [5] (.exit 0) ((f76n2E bf1 bf2 (.exit0 v30)).2) (ap (Qx (xs:=bf1) (c:=(cInt .i64))) (ap (Qx (xs:=bf2) (c:=(cInt .i64))) (ap h32 an))) (Qy.out rfl rfl)
inductive f76n1O where
 | norm (v47:List Int)
def f76n1E(bf1 bf2:List Int):f76n1O→Ex×Tr×Hp
 | .norm v47=>(.norm,mkS [(5,(.own 0))],[some (.row false 1 (v47.map (cInt .i64)))])
def f76n1S(bf1 bf2:List Int):Tr×Hp:=(mkS [(0,(.pl (.sl .any 1 (bf1.map (cInt .i64))))),(1,(.pl (.sl .any 1 (bf2.map (cInt .i64))))),(5,(.pl (.sl .nil 0 []))),(6,(jI 0))],[])
noncomputable def f76n1(bf1 bf2:List Int):Option f76n1O :=
 (f76n2 FUEL bf1 bf2 0 0 []).bind fun o44=>match o44 with
 | .exit0 v46=>some (.norm v46)
theorem f76n1_ok(bf1 bf2:List Int){o:f76n1O}(h:f76n1 bf1 bf2=some o):T Tryd.prog Tryd.f76.ntmps 0 (cL (Qj 3 c76)) (f76n1S bf1 bf2) (·=f76n1E bf1 bf2 o):=by
 unfold f76n1 at h;refine rN Qe 1 [j3] [] [.mat 5 1] [0] [0,1,5,6,7] (f76n2S bf1 bf2 0 0 []) an ?_;obtain ⟨o44,h45,h⟩:=Qb h;cases o44 with
 | exit0 v46 =>
  obtain rfl:=Qc h;exact T.last' (T.bl (i:=0) (by kernel_rfl) (by kernel_rfl) (f76n2_ok FUEL bf1 bf2 0 0 [] h45)) (tds:=[]) (m:=[0]) (keep:=[5]) (st2:=(f76n1E bf1 bf2 (.norm v46)).2) (by kernel_rfl) an rfl
inductive f76n0O where
 | ret (v51:List Int)
def f76n0E(a1 a2:List Int):f76n0O→Ex×Tr×Hp
 | .ret v51=>(.ret,mkS [(4,(.own 0))],[some (.row false 1 (v51.map (cInt .i64)))])
def f76n0S(a1 a2:List Int):Tr×Hp:=(Qbd [(.pl (.sl .any 1 (a1.map (cInt .i64)))),(.pl (.sl .any 1 (a2.map (cInt .i64))))] 0 .leaf,[])
noncomputable def f76n0(a1 a2:List Int):Option f76n0O :=
 (f76n1 a1 a2).bind fun o48=>match o48 with
 | .norm v50=>some (.ret v50)
theorem f76n0_ok(a1 a2:List Int){o:f76n0O}(h:f76n0 a1 a2=some o):T Tryd.prog Tryd.f76.ntmps 0 c76 (f76n0S a1 a2) (·=f76n0E a1 a2 o):=by
 unfold f76n0 at h;refine rN Qe 3 [j3,j3,j3] [] [] [] [0,1,5,6] (f76n1S a1 a2) an ?_;obtain ⟨o48,h49,h⟩:=Qb h;cases o48 with
 | norm v50 =>
  refine T.oneN (by kernel_rfl) (f76n1_ok a1 a2 h49) (st2:=(f76n1E a1 a2 (.norm v50)).2) rfl ?_;obtain rfl:=Qc h;exact rE Qe [j3] [] [] [0] [4] (.ret,(f76n0E a1 a2 (.ret v50)).2) an rfl
noncomputable def f76(a1 a2:List Int):Option (List Int):=(f76n0 a1 a2).bind fun o=>match o with
 | .ret v51=>some v51
theorem f76_ok(a1 a2:List Int){r:List Int}(h:f76 a1 a2=some r):Qs Tryd.prog false 76 [(.pl (.sl .any 1 (a1.map (cInt .i64)))),(.pl (.sl .any 1 (a2.map (cInt .i64))))] [] (.pl (.sl .any 1 (r.map (cInt .i64)))) []:=by
 unfold f76 at h;obtain ⟨o,ho,h⟩:=Qb h;cases o with
 | ret v51 =>
  obtain rfl:=Qc h;exact Qs.plain Qe (f:=Tryd.f76) (c:=c76) (by kernel_rfl) (by kernel_rfl) (by kernel_rfl) (by kernel_rfl) ((f76n0_ok a1 a2 ho).mono fun r e=>by subst e; exact ⟨.inl rfl,(.own 0),(.pl (.sl .any 1 (v51.map (cInt .i64)))),by kernel_rfl,by kernel_rfl,((Wk.refl _):Wk (.pl (.sl .any 1 (v51.map (cInt .i64)))) (.pl (.sl .any 1 (v51.map (cInt .i64)))))⟩)

noncomputable def c74:Code:=Tryd.f74.body.getD .skip
inductive f74n0O where
 | ret (v10:ByteArray)
def f74n0E(a1:ByteArray):f74n0O→Ex×Tr×Hp
 | .ret v10=>(.ret,mkS [(2,(jS v10))],[])
def f74n0S(a1:ByteArray):Tr×Hp:=(Qbd [(jS a1)] 0 .leaf,[])
noncomputable def f74n0(a1:ByteArray):Option f74n0O :=
 (f92 a1).bind fun x4 =>
 (f75 x4.1 (!x4.2.1)).bind fun x8 =>
 some (.ret x8)
theorem f74n0_ok(a1:ByteArray){o:f74n0O}(h:f74n0 a1=some o):T Tryd.prog Tryd.f74.ntmps 0 c74 (f74n0S a1) (·=f74n0E a1 o):=by
 unfold f74n0 at h;obtain ⟨x4,h5,h⟩:=Qb h;obtain ⟨x8,h9,h⟩:=Qb h;obtain rfl:=Qc h;exact rE Qe [j3,([],[jH 1 (.tup [(.pl (.sl .any 1 (x4.1.map (cInt .i64)))),(jB x4.2.1),(jB x4.2.2)])],[]),([],[jH 3 (jS x8)],[])] [] [] [] [2] (.ret,(f74n0E a1 (.ret x8)).2) (ap (f92_ok a1 h5) (ap (f75_ok x4.1 (!x4.2.1) h9) an)) rfl
noncomputable def f74(a1:ByteArray):Option ByteArray:=(f74n0 a1).bind fun o=>match o with
 | .ret v10=>some v10
theorem f74_ok(a1:ByteArray){r:ByteArray}(h:f74 a1=some r):Qs Tryd.prog false 74 [(jS a1)] [] (jS r) []:=by
 unfold f74 at h;obtain ⟨o,ho,h⟩:=Qb h;cases o with
 | ret v10 =>
  obtain rfl:=Qc h;exact Qs.plain Qe (f:=Tryd.f74) (c:=c74) (by kernel_rfl) (by kernel_rfl) (by kernel_rfl) (by kernel_rfl) ((f74n0_ok a1 ho).mono fun r e=>by subst e; exact ⟨.inl rfl,(jS v10),(jS v10),by kernel_rfl,by kernel_rfl,((Wk.refl _):Wk (jS v10) (jS v10))⟩)

noncomputable def c58:Code:=Tryd.f58.body.getD .skip
inductive f58n0O where
 | ret (v28:ByteArray)
def f58n0E(a1:Int):f58n0O→Ex×Tr×Hp
 | .ret v28=>(.ret,mkS [(2,(jS v28))],[])
def f58n0S(a1:Int):Tr×Hp:=(Qbd [(jI a1)] 0 .leaf,[])
noncomputable def f58n0(a1:Int):Option f58n0O :=
 bif decide (0≤a1) then
  (f73 a1).bind fun x6 =>
  some (.ret x6)
 else
  (f73 (wr64 (0-(wr64 (a1+1))))).bind fun x18 =>
  (f77 x18).bind fun x20 =>
  (f76 x20 [1]).bind fun x22 =>
  (f75 x22 false).bind fun x24 =>
  (f74 x24).bind fun x26 =>
  some (.ret x26)
theorem f58n0_ok(a1:Int){o:f58n0O}(h:f58n0 a1=some o):T Tryd.prog Tryd.f58.ntmps 0 c58 (f58n0S a1) (·=f58n0E a1 o):=by
 unfold f58n0 at h;rcases Qf h with ⟨h5,h⟩|⟨h5,h⟩
 ·obtain ⟨x6,h7,h⟩:=Qb h;obtain rfl:=Qc h;exact rK Qe 2 [j3,j3,([],[jH 1 (jS x6)],[])] [some true] [] [] [2] .ret ((f58n0E a1 (.ret x6)).2) (ap h5 (ap (f73_ok a1 h7) an)) rfl
 ·obtain ⟨x18,h19,h⟩:=Qb h;obtain ⟨x20,h21,h⟩:=Qb h;obtain ⟨x22,h23,h⟩:=Qb h;obtain ⟨x24,h25,h⟩:=Qb h;obtain ⟨x26,h27,h⟩:=Qb h;obtain rfl:=Qc h;exact rE Qe [j3,j3,([],[jH 3 (jS x18),jH 4 (.pl (.sl .any 1 (x20.map (cInt .i64)))),jH 6 (.pl (.sl .any 1 (x22.map (cInt .i64)))),jH 7 (jS x24),jH 8 (jS x26)],[])] [some false] [] [] [2] (.ret,(f58n0E a1 (.ret x26)).2) (ap h5 (ap (f73_ok (wr64 (0-(wr64 (a1+1)))) h19) (ap (f77_ok x18 h21) (ap (f76_ok x20 [1] h23) (ap (f75_ok x22 false h25) (ap (f74_ok x24 h27) an)))))) rfl
noncomputable def f58(a1:Int):Option ByteArray:=(f58n0 a1).bind fun o=>match o with
 | .ret v28=>some v28
theorem f58_ok(a1:Int){r:ByteArray}(h:f58 a1=some r):Qs Tryd.prog false 58 [(jI a1)] [] (jS r) []:=by
 unfold f58 at h;obtain ⟨o,ho,h⟩:=Qb h;cases o with
 | ret v28 =>
  obtain rfl:=Qc h;exact Qs.plain Qe (f:=Tryd.f58) (c:=c58) (by kernel_rfl) (by kernel_rfl) (by kernel_rfl) (by kernel_rfl) ((f58n0_ok a1 ho).mono fun r e=>by subst e; exact ⟨.inl rfl,(jS v28),(jS v28),by kernel_rfl,by kernel_rfl,((Wk.refl _):Wk (jS v28) (jS v28))⟩)
end Go.Proofs.YtfeklaffeigilaaDoor
namespace Go.Proofs.YtfeklaffeigilaaDoor
set_option linter.unusedVariables false
set_option linter.unusedSimpArgs false
set_option maxRecDepth 100000
open Go.RowKit
noncomputable def c35:Code:=Tryd.f35.body.getD .skip
inductive f35n0O where
 | ret (v6:ByteArray)
def f35n0E(a1:Int):f35n0O→Ex×Tr×Hp
 | .ret v6=>(.ret,mkS [(2,(jS v6))],[])
def f35n0S(a1:Int):Tr×Hp:=(Qbd [(jI a1)] 0 .leaf,[])
noncomputable def f35n0(a1:Int):Option f35n0O :=
 (f58 a1).bind fun x4 =>
 some (.ret x4)
theorem f35n0_ok(a1:Int){o:f35n0O}(h:f35n0 a1=some o):T Tryd.prog Tryd.f35.ntmps 0 c35 (f35n0S a1) (·=f35n0E a1 o):=by
 unfold f35n0 at h;obtain ⟨x4,h5,h⟩:=Qb h;obtain rfl:=Qc h;exact rE Qe [j3,([],[jH 1 (jS x4)],[])] [] [] [] [2] (.ret,(f35n0E a1 (.ret x4)).2) (ap (f58_ok a1 h5) an) rfl
noncomputable def f35(a1:Int):Option ByteArray:=(f35n0 a1).bind fun o=>match o with
 | .ret v6=>some v6
theorem f35_ok(a1:Int){r:ByteArray}(h:f35 a1=some r):Qs Tryd.prog false 35 [(jI a1)] [] (jS r) []:=by
 unfold f35 at h;obtain ⟨o,ho,h⟩:=Qb h;cases o with
 | ret v6 =>
  obtain rfl:=Qc h;exact Qs.plain Qe (f:=Tryd.f35) (c:=c35) (by kernel_rfl) (by kernel_rfl) (by kernel_rfl) (by kernel_rfl) ((f35n0_ok a1 ho).mono fun r e=>by subst e; exact ⟨.inl rfl,(jS v6),(jS v6),by kernel_rfl,by kernel_rfl,((Wk.refl _):Wk (jS v6) (jS v6))⟩)

noncomputable def c11:Code:=Tryd.f11.body.getD .skip
inductive f11n2O where
 | exit0 (v150:ByteArray)
def f11n2E(ba4:Qd):f11n2O→Ex×Tr×Hp
 | .exit0 v150=>((.exit 0),mkS [(6,(jS v150))],[])
def f11n2S(ba4:Qd)(v110:ByteArray)(v111:Int):Tr×Hp:=(mkS [(1,(.bp 0 0)),(5,(.pl (.str (sOf [10])))),(6,(jS v110)),(7,(jI v111))],[some (.box 24 ((Qd.cells ba4).map .pl))])
noncomputable def f11n2:Nat→Qd→ByteArray→Int→Option f11n2O
 | 0,_,_,_=>none
 | f+1,ba4,v110,v111 =>
  bif decide (v111<(ba4.Rows.length:Int)) then
   (at? ba4.Rows v111).bind fun x132 =>
   req (decide (v110.size+x132.Account.size≤9223372036854775807)) <|
   req (decide ((scat v110 x132.Account).size+Ql.size≤9223372036854775807)) <|
   req (decide ((scat (scat v110 x132.Account) Ql).size+x132.Ccy.size≤9223372036854775807)) <|
   req (decide ((scat (scat (scat v110 x132.Account) Ql) x132.Ccy).size+Ql.size≤9223372036854775807)) <|
   (f35 x132.In).bind fun x138 =>
   req (decide ((scat (scat (scat (scat v110 x132.Account) Ql) x132.Ccy) Ql).size+x138.size≤9223372036854775807)) <|
   req (decide ((scat (scat (scat (scat (scat v110 x132.Account) Ql) x132.Ccy) Ql) x138).size+Ql.size≤9223372036854775807)) <|
   (f35 x132.Out).bind fun x142 =>
   req (decide ((scat (scat (scat (scat (scat (scat v110 x132.Account) Ql) x132.Ccy) Ql) x138) Ql).size+x142.size≤9223372036854775807)) <|
   req (decide ((scat (scat (scat (scat (scat (scat (scat v110 x132.Account) Ql) x132.Ccy) Ql) x138) Ql) x142).size+Ql.size≤9223372036854775807)) <|
   (f35 (wr64 (x132.In-x132.Out))).bind fun x146 =>
   req (decide ((scat (scat (scat (scat (scat (scat (scat (scat v110 x132.Account) Ql) x132.Ccy) Ql) x138) Ql) x142) Ql).size+x146.size≤9223372036854775807)) <|
   req (decide ((scat (scat (scat (scat (scat (scat (scat (scat (scat v110 x132.Account) Ql) x132.Ccy) Ql) x138) Ql) x142) Ql) x146).size+(sOf [10]).size≤9223372036854775807)) <|
   (f11n2 f ba4 (scat (scat (scat (scat (scat (scat (scat (scat (scat (scat v110 x132.Account) Ql) x132.Ccy) Ql) x138) Ql) x142) Ql) x146) (sOf [10])) (wr64 (v111+1)))
  else
   some (.exit0 v110)
theorem f11n2_ok:∀(f:Nat)(ba4:Qd)(v110:ByteArray)(v111:Int){o:f11n2O},f11n2 f ba4 v110 v111=some o→TL Tryd.prog Tryd.f11.ntmps 0 f (cL (cL (Qj 1 (cL (Qj 0 (Qj 5 c11)))))) (f11n2S ba4 v110 v111) (·=f11n2E ba4 o)
 | 0,_,_,_,o,h=>by rw [f11n2] at h; cases h
 | f+1,ba4,v110,v111,o,h=>by
  rw [f11n2] at h;refine TL.body (K:=fun s=>∃v110:ByteArray,∃v111:Int,s=(f11n2S ba4 v110 v111)∧f11n2 f ba4 v110 v111=some o) ?_ (by rintro _ ⟨v110,v111,rfl,hk⟩; exact f11n2_ok f _ _ _ hk);rcases Qf h with ⟨h113,h⟩|⟨h113,h⟩
  ·obtain ⟨x132,h133,h⟩:=Qb h;obtain ⟨h134,h⟩:=Qr h;obtain ⟨h135,h⟩:=Qr h;obtain ⟨h136,h⟩:=Qr h;obtain ⟨h137,h⟩:=Qr h;obtain ⟨x138,h139,h⟩:=Qb h;obtain ⟨h140,h⟩:=Qr h;obtain ⟨h141,h⟩:=Qr h;obtain ⟨x142,h143,h⟩:=Qb h;obtain ⟨h144,h⟩:=Qr h;obtain ⟨h145,h⟩:=Qr h;obtain ⟨x146,h147,h⟩:=Qb h;obtain ⟨h148,h⟩:=Qr h;obtain ⟨h149,h⟩:=Qr h
   exact rE Qe [([],[],[(3,.val (jI (ba4.Rows.length:Int)))]),([],[(3,.idx (Int.toNat v111) (Qa.cells x132))],[]),([],[(3,.fits),(4,.fits),(7,.fits),(8,.fits),jH 11 (jS x138),(12,.fits),(13,.fits),jH 16 (jS x142),(17,.fits),(18,.fits),jH 24 (jS x146),(25,.fits),(27,.fits)],[]),j3] [some true] [] [0] [1,5,6,7] (.norm,(f11n2S ba4 (scat (scat (scat (scat (scat (scat (scat (scat (scat (scat v110 x132.Account) Ql) x132.Ccy) Ql) x138) Ql) x142) Ql) x146) (sOf [10])) (wr64 (v111+1)))) (ap (Qx (xs:=ba4.Rows) (c:=Qa.cells)) (ap h113 (ap (Qi h133).1 (ap (Qu Qa.cells (Qi h133).2) (ap (of_decide_eq_true h134) (ap (of_decide_eq_true h135) (ap (of_decide_eq_true h136) (ap (of_decide_eq_true h137) (ap (of_decide_eq_true h140) (ap (of_decide_eq_true h141) (ap (of_decide_eq_true h144) (ap (of_decide_eq_true h145) (ap (of_decide_eq_true h148) (ap (of_decide_eq_true h149) (ap (Qaf (e:=⟨false,35,[(jI x132.In)],[],(jS x138),[]⟩) (f:=⟨false,35,[(jI x132.Out)],[],(jS x142),[]⟩) (fun k=>by simp only [jL,jS,jI,jB,jA,Qa.cells_eq,Qa.map_eq,Qd.cells_eq,Qd.map_eq,Key_.cells_eq,Key_.map_eq,Qh.cells_eq,Qh.map_eq,Qg.cells_eq,Qg.map_eq,Qp.cells_eq,Qp.map_eq,Qm.cells_eq,Qm.map_eq,Qt.cells_eq,Qt.map_eq,List.cons.injEq,AV.pl.injEq,PV.str.injEq,PV.int.injEq,PV.bool.injEq,PV.agg.injEq,PV.sl.injEq,and_true,true_and] at k; have e0:x138=x142:=Option.some.inj (by rw [←h139,←h143]; first | exact congrArg _ k | (obtain ⟨k1,_⟩:=k; simp only [k1]; done) | simp only [k]); exact ⟨by rw [e0],rfl⟩)) (ap (Qaf (e:=⟨false,35,[(jI x132.In)],[],(jS x138),[]⟩) (f:=⟨false,35,[(jI (wr64 (x132.In-x132.Out)))],[],(jS x146),[]⟩) (fun k=>by simp only [jL,jS,jI,jB,jA,Qa.cells_eq,Qa.map_eq,Qd.cells_eq,Qd.map_eq,Key_.cells_eq,Key_.map_eq,Qh.cells_eq,Qh.map_eq,Qg.cells_eq,Qg.map_eq,Qp.cells_eq,Qp.map_eq,Qm.cells_eq,Qm.map_eq,Qt.cells_eq,Qt.map_eq,List.cons.injEq,AV.pl.injEq,PV.str.injEq,PV.int.injEq,PV.bool.injEq,PV.agg.injEq,PV.sl.injEq,and_true,true_and] at k; have e0:x138=x146:=Option.some.inj (by rw [←h139,←h147]; first | exact congrArg _ k | (obtain ⟨k1,_⟩:=k; simp only [k1]; done) | simp only [k]); exact ⟨by rw [e0],rfl⟩)) (ap (Qaf (e:=⟨false,35,[(jI x132.Out)],[],(jS x142),[]⟩) (f:=⟨false,35,[(jI (wr64 (x132.In-x132.Out)))],[],(jS x146),[]⟩) (fun k=>by simp only [jL,jS,jI,jB,jA,Qa.cells_eq,Qa.map_eq,Qd.cells_eq,Qd.map_eq,Key_.cells_eq,Key_.map_eq,Qh.cells_eq,Qh.map_eq,Qg.cells_eq,Qg.map_eq,Qp.cells_eq,Qp.map_eq,Qm.cells_eq,Qm.map_eq,Qt.cells_eq,Qt.map_eq,List.cons.injEq,AV.pl.injEq,PV.str.injEq,PV.int.injEq,PV.bool.injEq,PV.agg.injEq,PV.sl.injEq,and_true,true_and] at k; have e0:x142=x146:=Option.some.inj (by rw [←h143,←h147]; first | exact congrArg _ k | (obtain ⟨k1,_⟩:=k; simp only [k1]; done) | simp only [k]); exact ⟨by rw [e0],rfl⟩)) (ap (f35_ok x132.In h139) (ap (f35_ok x132.Out h143) (ap (f35_ok (wr64 (x132.In-x132.Out)) h147) an)))))))))))))))))))) (Qy.norm ⟨(scat (scat (scat (scat (scat (scat (scat (scat (scat (scat v110 x132.Account) Ql) x132.Ccy) Ql) x138) Ql) x142) Ql) x146) (sOf [10])),(wr64 (v111+1)),rfl,h⟩)
  ·obtain rfl:=Qc h;exact rK Qe 1 [([],[],[(3,.val (jI (ba4.Rows.length:Int)))])] [some false] [] [] [6] (.exit 0) ((f11n2E ba4 (.exit0 v110)).2) (ap (Qx (xs:=ba4.Rows) (c:=Qa.cells)) (ap h113 an)) (Qy.out rfl rfl)
noncomputable def f11n2L(ba4:Qd):List Qa→ByteArray→Int→Option f11n2O
 | [],v110,v111 =>
  some (.exit0 v110)
 | x0::rest,v110,v111 =>
  req (decide (v110.size+x0.Account.size≤9223372036854775807)) <|
  req (decide ((scat v110 x0.Account).size+Ql.size≤9223372036854775807)) <|
  req (decide ((scat (scat v110 x0.Account) Ql).size+x0.Ccy.size≤9223372036854775807)) <|
  req (decide ((scat (scat (scat v110 x0.Account) Ql) x0.Ccy).size+Ql.size≤9223372036854775807)) <|
  (f35 x0.In).bind fun x138 =>
  req (decide ((scat (scat (scat (scat v110 x0.Account) Ql) x0.Ccy) Ql).size+x138.size≤9223372036854775807)) <|
  req (decide ((scat (scat (scat (scat (scat v110 x0.Account) Ql) x0.Ccy) Ql) x138).size+Ql.size≤9223372036854775807)) <|
  (f35 x0.Out).bind fun x142 =>
  req (decide ((scat (scat (scat (scat (scat (scat v110 x0.Account) Ql) x0.Ccy) Ql) x138) Ql).size+x142.size≤9223372036854775807)) <|
  req (decide ((scat (scat (scat (scat (scat (scat (scat v110 x0.Account) Ql) x0.Ccy) Ql) x138) Ql) x142).size+Ql.size≤9223372036854775807)) <|
  (f35 (wr64 (x0.In-x0.Out))).bind fun x146 =>
  req (decide ((scat (scat (scat (scat (scat (scat (scat (scat v110 x0.Account) Ql) x0.Ccy) Ql) x138) Ql) x142) Ql).size+x146.size≤9223372036854775807)) <|
  req (decide ((scat (scat (scat (scat (scat (scat (scat (scat (scat v110 x0.Account) Ql) x0.Ccy) Ql) x138) Ql) x142) Ql) x146).size+(sOf [10]).size≤9223372036854775807)) <|
  (f11n2L ba4 rest (scat (scat (scat (scat (scat (scat (scat (scat (scat (scat v110 x0.Account) Ql) x0.Ccy) Ql) x138) Ql) x142) Ql) x146) (sOf [10])) (v111+1))
theorem f11n2L_eq(ba4:Qd):∀(rest:List Qa)(f k:Nat)(v110:ByteArray),ba4.Rows.drop k=rest→ba4.Rows.length≤maxLen→rest.length<f→f11n2 f ba4 v110 (k:Int)=f11n2L ba4 rest v110 (k:Int)
 | _,0,_,_,_,_,hf=>absurd hf (Nat.not_lt_zero _)
 | [],f+1,k,v110,hd,hm,hf=>by
  have hk:¬((k:Int)<(ba4.Rows.length:Int)):=by have:=Qah hd; omega
  rw [f11n2,f11n2L];simp only [decide_eq_false hk,cond_false]
 | x0::rest,f+1,k,v110,hd,hm,hf=>by
  obtain ⟨hx,hlt,hd'⟩:=Qap hd;have hk:(k:Int)<(ba4.Rows.length:Int):=by omega
  have hw:wr64 ((k:Int)+1)=(k:Int)+1:=wr64_of (by omega) (by unfold maxLen at hm; omega);have ih:∀(v110:ByteArray),f11n2 f ba4 v110 ((k:Int)+1)=f11n2L ba4 rest v110 ((k:Int)+1):=fun v110=>f11n2L_eq ba4 rest f (k+1) v110 hd' hm (by simpa using hf);rw [f11n2,f11n2L];simp only [decide_eq_true hk,cond_true,at_nat,hx,Option.bind_some,hw,ih]
theorem f11n2_run(ba4:Qd)(v110:ByteArray)(hm:ba4.Rows.length≤maxLen):f11n2 FUEL ba4 v110 0=f11n2L ba4 ba4.Rows v110 0:=f11n2L_eq ba4 ba4.Rows FUEL 0 v110 List.drop_zero hm (Qcf hm)
inductive f11n1O where
 | norm (v154:ByteArray)
def f11n1E(bb1 bb2 bb3:ByteArray)(ba4:Qd):f11n1O→Ex×Tr×Hp
 | .norm v154=>(.norm,mkS [(6,(jS v154))],[])
def f11n1S(bb1 bb2 bb3:ByteArray)(ba4:Qd):Tr×Hp:=(mkS [(1,(.bp 0 0)),(5,(.pl (.str (sOf [10])))),(6,(.pl (.str (scat (scat (scat (scat (scat (scat Qq bb1) Ql) bb2) Ql) bb3) (sOf [10])))))],[some (.box 24 ((Qd.cells ba4).map .pl))])
noncomputable def f11n1(bb1 bb2 bb3:ByteArray)(ba4:Qd):Option f11n1O :=
 (f11n2 FUEL ba4 (scat (scat (scat (scat (scat (scat Qq bb1) Ql) bb2) Ql) bb3) (sOf [10])) 0).bind fun o151=>match o151 with
 | .exit0 v153=>some (.norm v153)
theorem f11n1_ok(bb1 bb2 bb3:ByteArray)(ba4:Qd){o:f11n1O}(h:f11n1 bb1 bb2 bb3 ba4=some o):T Tryd.prog Tryd.f11.ntmps 0 (cL (Qj 0 (Qj 5 c11))) (f11n1S bb1 bb2 bb3 ba4) (·=f11n1E bb1 bb2 bb3 ba4 o):=by
 unfold f11n1 at h;refine rN Qe 1 [j3] [] [] [0] [1,5,6,7] (f11n2S ba4 (scat (scat (scat (scat (scat (scat Qq bb1) Ql) bb2) Ql) bb3) (sOf [10])) 0) an ?_;obtain ⟨o151,h152,h⟩:=Qb h;cases o151 with
 | exit0 v153 =>
  obtain rfl:=Qc h;exact T.last' (T.bl (i:=0) (by kernel_rfl) (by kernel_rfl) (f11n2_ok FUEL ba4 (scat (scat (scat (scat (scat (scat Qq bb1) Ql) bb2) Ql) bb3) (sOf [10])) 0 h152)) (tds:=[]) (m:=[]) (keep:=[6]) (st2:=(f11n1E bb1 bb2 bb3 ba4 (.norm v153)).2) (by kernel_rfl) an rfl
inductive f11n0O where
 | ret (v158:ByteArray) (v159:Int)
def f11n0E(a1:Qd):f11n0O→Ex×Tr×Hp
 | .ret v158 v159=>(.ret,mkS [(2,(jS v158)),(3,(jI v159))],[])
def f11n0S(a1:Qd):Tr×Hp:=(Qbd [(jA Qd.cells a1)] 0 .leaf,[])
noncomputable def f11n0(a1:Qd):Option f11n0O :=
 (f16 a1).bind fun x4 =>
 bif decide (x4=0) then
  (f35 a1.From).bind fun x20 =>
  req (decide (Qq.size+x20.size≤9223372036854775807)) <|
  req (decide ((scat Qq x20).size+Ql.size≤9223372036854775807)) <|
  (f35 a1.To).bind fun x24 =>
  req (decide ((scat (scat Qq x20) Ql).size+x24.size≤9223372036854775807)) <|
  req (decide ((scat (scat (scat Qq x20) Ql) x24).size+Ql.size≤9223372036854775807)) <|
  (f35 a1.Known).bind fun x28 =>
  req (decide ((scat (scat (scat (scat Qq x20) Ql) x24) Ql).size+x28.size≤9223372036854775807)) <|
  req (decide ((scat (scat (scat (scat (scat Qq x20) Ql) x24) Ql) x28).size+(sOf [10]).size≤9223372036854775807)) <|
  (f11n1 x20 x24 x28 a1).bind fun o155=>match o155 with
  | .norm v157=>some (.ret v157 0)
 else
  some (.ret Qae x4)
theorem f11n0_ok(a1:Qd){o:f11n0O}(h:f11n0 a1=some o):T Tryd.prog Tryd.f11.ntmps 0 c11 (f11n0S a1) (·=f11n0E a1 o):=by
 unfold f11n0 at h;obtain ⟨x4,h5,h⟩:=Qb h;rcases Qf h with ⟨h7,h⟩|⟨h7,h⟩
 ·obtain ⟨x20,h21,h⟩:=Qb h;obtain ⟨h22,h⟩:=Qr h;obtain ⟨h23,h⟩:=Qr h;obtain ⟨x24,h25,h⟩:=Qb h;obtain ⟨h26,h⟩:=Qr h;obtain ⟨h27,h⟩:=Qr h;obtain ⟨x28,h29,h⟩:=Qb h;obtain ⟨h30,h⟩:=Qr h;obtain ⟨h31,h⟩:=Qr h
  refine rN Qe 5 [j3,([],[jH 1 (jI x4)],[]),j3,([],[(1,.bs (toB [10]))],[]),([],[jH 2 (jS x20),(3,.fits),(4,.fits),jH 7 (jS x24),(8,.fits),(9,.fits),jH 12 (jS x28),(13,.fits),(15,.fits)],[])] [some false] [] [0] [1,5,6] (mkS [(1,(.bp 0 0)),(5,(.pl (.str (sOf [10])))),(6,(.pl (.str (scat (scat (scat (scat (scat (scat Qq x20) Ql) x24) Ql) x28) (sOf [10])))))],[some (.box 24 ((Qd.cells a1).map .pl))]) (ap (f16_ok a1 h5) (ap (Qo h7) (ap (bytes_map [10]) (ap (of_decide_eq_true h22) (ap (of_decide_eq_true h23) (ap (of_decide_eq_true h26) (ap (of_decide_eq_true h27) (ap (of_decide_eq_true h30) (ap (of_decide_eq_true h31) (ap (Qaf (e:=⟨false,35,[(jI a1.From)],[],(jS x20),[]⟩) (f:=⟨false,35,[(jI a1.To)],[],(jS x24),[]⟩) (fun k=>by simp only [jL,jS,jI,jB,jA,Qa.cells_eq,Qa.map_eq,Qd.cells_eq,Qd.map_eq,Key_.cells_eq,Key_.map_eq,Qh.cells_eq,Qh.map_eq,Qg.cells_eq,Qg.map_eq,Qp.cells_eq,Qp.map_eq,Qm.cells_eq,Qm.map_eq,Qt.cells_eq,Qt.map_eq,List.cons.injEq,AV.pl.injEq,PV.str.injEq,PV.int.injEq,PV.bool.injEq,PV.agg.injEq,PV.sl.injEq,and_true,true_and] at k; have e0:x20=x24:=Option.some.inj (by rw [←h21,←h25]; first | exact congrArg _ k | (obtain ⟨k1,_⟩:=k; simp only [k1]; done) | simp only [k]); exact ⟨by rw [e0],rfl⟩)) (ap (Qaf (e:=⟨false,35,[(jI a1.From)],[],(jS x20),[]⟩) (f:=⟨false,35,[(jI a1.Known)],[],(jS x28),[]⟩) (fun k=>by simp only [jL,jS,jI,jB,jA,Qa.cells_eq,Qa.map_eq,Qd.cells_eq,Qd.map_eq,Key_.cells_eq,Key_.map_eq,Qh.cells_eq,Qh.map_eq,Qg.cells_eq,Qg.map_eq,Qp.cells_eq,Qp.map_eq,Qm.cells_eq,Qm.map_eq,Qt.cells_eq,Qt.map_eq,List.cons.injEq,AV.pl.injEq,PV.str.injEq,PV.int.injEq,PV.bool.injEq,PV.agg.injEq,PV.sl.injEq,and_true,true_and] at k; have e0:x20=x28:=Option.some.inj (by rw [←h21,←h29]; first | exact congrArg _ k | (obtain ⟨k1,_⟩:=k; simp only [k1]; done) | simp only [k]); exact ⟨by rw [e0],rfl⟩)) (ap (Qaf (e:=⟨false,35,[(jI a1.To)],[],(jS x24),[]⟩) (f:=⟨false,35,[(jI a1.Known)],[],(jS x28),[]⟩) (fun k=>by simp only [jL,jS,jI,jB,jA,Qa.cells_eq,Qa.map_eq,Qd.cells_eq,Qd.map_eq,Key_.cells_eq,Key_.map_eq,Qh.cells_eq,Qh.map_eq,Qg.cells_eq,Qg.map_eq,Qp.cells_eq,Qp.map_eq,Qm.cells_eq,Qm.map_eq,Qt.cells_eq,Qt.map_eq,List.cons.injEq,AV.pl.injEq,PV.str.injEq,PV.int.injEq,PV.bool.injEq,PV.agg.injEq,PV.sl.injEq,and_true,true_and] at k; have e0:x24=x28:=Option.some.inj (by rw [←h25,←h29]; first | exact congrArg _ k | (obtain ⟨k1,_⟩:=k; simp only [k1]; done) | simp only [k]); exact ⟨by rw [e0],rfl⟩)) (ap (f35_ok a1.From h21) (ap (f35_ok a1.To h25) (ap (f35_ok a1.Known h29) an))))))))))))))) ?_
  refine rN Qe 0 [] [] [] [0] [1,5,6] (f11n1S x20 x24 x28 a1) an ?_;obtain ⟨o155,h156,h⟩:=Qb h;cases o155 with
  | norm v157 =>
   refine T.oneN (by kernel_rfl) (f11n1_ok x20 x24 x28 a1 h156) (st2:=(f11n1E x20 x24 x28 a1 (.norm v157)).2) rfl ?_;obtain rfl:=Qc h;exact rE Qe [j3] [] [] [] [2,3] (.ret,(f11n0E a1 (.ret v157 0)).2) an rfl
 ·obtain rfl:=Qc h;exact rK Qe 3 [j3,([],[jH 1 (jI x4)],[]),j3,j3] [some true] [] [] [2,3] .ret ((f11n0E a1 (.ret Qae x4)).2) (ap (f16_ok a1 h5) (ap (Qag h7) an)) rfl
noncomputable def f11(a1:Qd):Option (ByteArray×Int):=(f11n0 a1).bind fun o=>match o with
 | .ret v158 v159=>some (v158,v159)
theorem f11_ok(a1:Qd){r:ByteArray×Int}(h:f11 a1=some r):Qs Tryd.prog false 11 [(jA Qd.cells a1)] [] (.tup [(jS r.1),(jI r.2)]) []:=by
 unfold f11 at h;obtain ⟨o,ho,h⟩:=Qb h;cases o with
 | ret v158 v159 =>
  obtain rfl:=Qc h;exact Qs.plain Qe (f:=Tryd.f11) (c:=c11) (by kernel_rfl) (by kernel_rfl) (by kernel_rfl) (by kernel_rfl) ((f11n0_ok a1 ho).mono fun r e=>by subst e; exact ⟨.inl rfl,(.tup [(jS v158),(jI v159)]),(.tup [(jS v158),(jI v159)]),by kernel_rfl,by kernel_rfl,((Wk.refl _):Wk (.tup [(jS v158),(jI v159)]) (.tup [(jS v158),(jI v159)]))⟩)

noncomputable def c36:Code:=Tryd.f36.body.getD .skip

inductive f36r2n0O where
 | norm
def f36r2n0E(a1 a2:ByteArray)(a3 a4:Int)(a5:List (Key_×Qa)):f36r2n0O→Ex×Tr×Hp
 | .norm=>(.norm,mkS [],[some (.map ((mPut Key_.eqb (Key_.mk a1 a2) (Qa.mk a1 a2 (wr64 ((mGet Key_.eqb (Qa.mk Qae Qae 0 0) (Key_.mk a1 a2) a5).In+a3)) (wr64 ((mGet Key_.eqb (Qa.mk Qae Qae 0 0) (Key_.mk a1 a2) a5).Out+a4))) a5).map (mkv (pAgg Key_.cells) (pAgg Qa.cells))))])
def f36r2n0S(a1 a2:ByteArray)(a3 a4:Int)(a5:List (Key_×Qa)):Tr×Hp:=(Qbd [(.mp 0),(jS a1),(jS a2),(jI a3),(jI a4)] 0 .leaf,[some (.map (a5.map (mkv (pAgg Key_.cells) (pAgg Qa.cells))))])
noncomputable def f36r2n0(a1 a2:ByteArray)(a3 a4:Int)(a5:List (Key_×Qa)):Option f36r2n0O :=
 some .norm
theorem f36r2n0_ok(a1 a2:ByteArray)(a3 a4:Int)(a5:List (Key_×Qa)){o:f36r2n0O}(h:f36r2n0 a1 a2 a3 a4 a5=some o):T Tryd.prog Tryd.f36.ntmps 1 c36 (f36r2n0S a1 a2 a3 a4 a5) (·=f36r2n0E a1 a2 a3 a4 a5 o):=by
 unfold f36r2n0 at h;obtain rfl:=Qc h
 exact rE Qe [([],[(4,.look ((pAgg Qa.cells) (mGet Key_.eqb (Qa.mk Qae Qae 0 0) (Key_.mk a1 a2) a5)) (mHas Key_.eqb (Key_.mk a1 a2) a5))],[]),([],[(15,.mset ((mPut Key_.eqb (Key_.mk a1 a2) (Qa.mk a1 a2 (wr64 ((mGet Key_.eqb (Qa.mk Qae Qae 0 0) (Key_.mk a1 a2) a5).In+a3)) (wr64 ((mGet Key_.eqb (Qa.mk Qae Qae 0 0) (Key_.mk a1 a2) a5).Out+a4))) a5).map (mkv (pAgg Key_.cells) (pAgg Qa.cells))))],[])] [] [] [] [] (.norm,(f36r2n0E a1 a2 a3 a4 a5 .norm).2) (ap (look_map (vp:=(pAgg Qa.cells)) (e:=39) key_115 (Qa.mk Qae Qae 0 0) (by kernel_rfl) (Key_.mk a1 a2) a5) (ap (mset_map (vp:=(pAgg Qa.cells)) key_115 (Key_.mk a1 a2) (Qa.mk a1 a2 (wr64 ((mGet Key_.eqb (Qa.mk Qae Qae 0 0) (Key_.mk a1 a2) a5).In+a3)) (wr64 ((mGet Key_.eqb (Qa.mk Qae Qae 0 0) (Key_.mk a1 a2) a5).Out+a4))) a5) an)) rfl
noncomputable def f36r2(a1 a2:ByteArray)(a3 a4:Int)(a5:List (Key_×Qa)):Option Unit:=(f36r2n0 a1 a2 a3 a4 a5).bind fun o=>match o with
 | .norm=>some ()
theorem f36r2_ok(a1 a2:ByteArray)(a3 a4:Int)(a5:List (Key_×Qa)){r:Unit}(h:f36r2 a1 a2 a3 a4 a5=some r):Qs Tryd.prog true 36 [(.mp 0),(jS a1),(jS a2),(jI a3),(jI a4)] [some (.map (a5.map (mkv (pAgg Key_.cells) (pAgg Qa.cells))))] (.tup []) [some (.map ((mPut Key_.eqb (Key_.mk a1 a2) (Qa.mk a1 a2 (wr64 ((mGet Key_.eqb (Qa.mk Qae Qae 0 0) (Key_.mk a1 a2) a5).In+a3)) (wr64 ((mGet Key_.eqb (Qa.mk Qae Qae 0 0) (Key_.mk a1 a2) a5).Out+a4))) a5).map (mkv (pAgg Key_.cells) (pAgg Qa.cells))))]:=by
 unfold f36r2 at h;obtain ⟨o,ho,h⟩:=Qb h;cases o with
 | norm =>
  obtain rfl:=Qc h;exact Qs.shared Qe (f:=Tryd.f36) (c:=c36) (by kernel_rfl) (by kernel_rfl) (by kernel_rfl) ((f36r2n0_ok a1 a2 a3 a4 a5 ho).mono fun r e=>by subst e; exact ⟨.inr rfl,by kernel_rfl,by kernel_rfl⟩)

instance:Inhabited Qa:=⟨(Qa.mk Qae Qae 0 0)⟩
def so59_41_good(xs:List Qa):Prop:=∃c:Qa→Qa→Int,(∀x y,f41 x y=some (c x y))∧Go.Sort.SWO (ltOf c)∧xs.length<4611686018427387904
open Classical in
noncomputable def so59_41(xs:List Qa):Option (List Qa):=if h:so59_41_good xs then some (sortL h.choose xs) else none
theorem so59_41_val{xs:List Qa}{c:Qa→Qa→Int}(hc:∀x y,f41 x y=some (c x y))(o:Go.Sort.SWO (ltOf c))(hl:xs.length<4611686018427387904):so59_41 xs=some (sortL c xs):=by
 have h:so59_41_good xs:=⟨c,hc,o,hl⟩;unfold so59_41;rw [dif_pos h];have e:h.choose=c:=funext fun x=>funext fun y=>Option.some.inj ((h.choose_spec.1 x y).symm.trans (hc x y));rw [e]
theorem so59_41_ok(xs:List Qa){r:List Qa}(h:so59_41 xs=some r) :
  Qs Tryd.prog true 59 [.own 0,.pl (.fn 41)] [some (.row false 4 (xs.map Qa.cells))] (.tup []) [some (.row false 4 (r.map Qa.cells))]:=by
 unfold so59_41 at h
 by_cases hc:so59_41_good xs
 ·rw [dif_pos hc] at h;obtain rfl:=Qc h;have hs:=hc.choose_spec;exact sort_callS (cells:=Qa.cells) so_lays rfl so_agg so_size (Qbs Tryd.func59 (by kernel_rfl) rfl) (fun _=>rfl) (fun x q hq=>by
   simp only [Qa.cells,List.mem_cons,List.not_mem_nil,or_false] at hq;rcases hq with rfl | rfl | rfl | rfl<;>rfl) _ hs.2.1 (fun x y=>f41_ok _ _ (hs.1 x y)) xs hs.2.2
 ·rw [dif_neg hc] at h; cases h


noncomputable def c37:Code:=Tryd.f37.body.getD .skip
inductive f37r1n2O where
 | exit0 (v33:List Qa)
def f37r1n2E(bj1:List (Key_×Qa)):f37r1n2O→Ex×Tr×Hp
 | .exit0 v33=>((.exit 0),mkS [(3,(.own 1))],[some (.map (bj1.map (mkv (pAgg Key_.cells) (pAgg Qa.cells)))),jR 4 Qa.cells v33])
def f37r1n2S(bj1:List (Key_×Qa))(v21:List Qa)(sn0:List Nat):Tr×Hp:=(mkS [(3,(.own 1)),(7,(.it 2))],[some (.map (bj1.map (mkv (pAgg Key_.cells) (pAgg Qa.cells)))),jR 4 Qa.cells v21,some (.iter 0 (bj1.map (mkv (pAgg Key_.cells) (pAgg Qa.cells))).length sn0)])
noncomputable def Qbx(bj1:List (Key_×Qa)):List (Key_×Qa)→(List Qa)→Option f37r1n2O
 | [],v21 =>
  some (.exit0 v21)
 | x23::rest,v21 =>
  bif decide (x23.2.In=0) then
   bif decide (x23.2.Out=0) then
    (Qbx bj1 rest v21)
   else
    req (fit (v21.length+1) 48) <|
    (Qbx bj1 rest (v21++[x23.2]))
  else
   req (fit (v21.length+1) 48) <|
   (Qbx bj1 rest (v21++[x23.2]))
theorem f37r1n2_ok(bj1:List (Key_×Qa)):∀(f:Nat)(sn0 rem:List Nat)(v21:List Qa){Q:f37r1n2O→Prop},Rem bj1.length sn0 rem→rem.length<f→(∀p,p.Perm rem→∃o,Qbx bj1 (ords bj1 p) v21=some o∧Q o)→TL Tryd.prog Tryd.f37.ntmps 1 f (cL (cL (Qj 1 (cL (Qj 2 c37))))) (f37r1n2S bj1 v21 sn0) (fun r=>∃o,Q o∧r=f37r1n2E bj1 o)
 | 0,_,_,_,_,_,hf,_=>absurd hf (Nat.not_lt_zero _)
 | f+1,sn0,rem,v21,Q,hR,hf,H=>by
  refine TL.bodyQ (K:=fun s=>∃(sn0 rem:List Nat) (v21:List Qa),s=f37r1n2S bj1 v21 sn0∧Rem bj1.length sn0 rem∧rem.length<f∧(∀p,p.Perm rem→∃o,Qbx bj1 (ords bj1 p) v21=some o∧Q o)) ?_ (by rintro _ ⟨sn0,rem,v21,rfl,h1,h2,h3⟩; exact f37r1n2_ok bj1 f sn0 rem v21 h1 h2 h3);refine T.oneNext Qe (x:=.tmp 7) (t:=8) (tb:=9) (i:=2) (o:=0) (m:=(bj1.map (mkv (pAgg Key_.cells) (pAgg Qa.cells))).length) (seen:=sn0) (kvs:=(bj1.map (mkv (pAgg Key_.cells) (pAgg Qa.cells)))) (by kernel_rfl) (by kernel_rfl) (by kernel_rfl) (by kernel_rfl) (by kernel_rfl) (by kernel_rfl) rfl (fun hs=>?_) (fun j22 k v hj hs hx=>?_)
  ·obtain rfl:=hR.none (by simpa using hs);obtain ⟨o,h0,hq⟩:=H [] (List.Perm.refl _);have h:Qbx bj1 [] v21=some o:=h0;rw [Qbx] at h;obtain rfl:=Qc h;exact rK Qe 1 [] [none] [] [1] [3] (.exit 0) ((f37r1n2E bj1 (.exit0 v21)).2) an (LoopQ2.out ⟨_,hq,rfl⟩ rfl)
  ·obtain ⟨x23,h24,rfl,rfl⟩:=mkv_at hx;obtain ⟨hR2,hlen,hP⟩:=hR.step (j:=j22) (by simpa using hj) hs;have H2:∀p,p.Perm (rem.erase j22)→∃o,Qbx bj1 (x23::ords bj1 p) v21=some o∧Q o:=fun p hp=>by obtain ⟨o,h,hq⟩:=H _ (hP p hp); rw [ords_cons h24] at h; exact ⟨o,h,hq⟩
   obtain ⟨o,h,hq⟩:=H2 _ (List.Perm.refl _);rw [Qbx] at h;rcases Qf h with ⟨h29,h⟩|⟨h29,h⟩
   ·rcases Qf h with ⟨h30,h⟩|⟨h30,h⟩
    ·exact rE Qe [([],[(0,.entr j22 ((pAgg Key_.cells) x23.1) ((pAgg Qa.cells) x23.2))],[]),(jF [4,5,6],[(7,.bool false)],[])] [none,some false] [] [1,2] [3,7] (.norm,(f37r1n2S bj1 v21 (sn0++[j22]))) (ap (last_app (seen:=sn0) (j:=j22)) (ap (rfl:(bj1.map (mkv (pAgg Key_.cells) (pAgg Qa.cells))).length=(bj1.map (mkv (pAgg Key_.cells) (pAgg Qa.cells))).length) (ap (at_mkv (kp:=(pAgg Key_.cells)) (vp:=(pAgg Qa.cells)) h24) (ap4 (Qo h29) (ap (Qo h30) an))))) (LoopQ2.norm ⟨sn0++[j22],rem.erase j22,v21,rfl,hR2,by omega,fun p hp=>by obtain ⟨o,h,hq⟩:=H2 p hp; refine ⟨o,?_,hq⟩; rw [Qbx] at h; simp only [h29,h30,cond_true,cond_false,Option.bind_some,req] at h; exact h⟩)
    ·obtain ⟨h31,h⟩:=Qr h
     exact rE Qe [([],[(0,.entr j22 ((pAgg Key_.cells) x23.1) ((pAgg Qa.cells) x23.2))],[]),(jF [4,5,6],[(7,.bool false)],[]),([],[(3,.fits)],[(3,.row 5 ((v21++[x23.2]).map Qa.cells))])] [none,some true] [] [5,2] [3,7] (.norm,(f37r1n2S bj1 (v21++[x23.2]) (sn0++[j22]))) (ap (last_app (seen:=sn0) (j:=j22)) (ap (rfl:(bj1.map (mkv (pAgg Key_.cells) (pAgg Qa.cells))).length=(bj1.map (mkv (pAgg Key_.cells) (pAgg Qa.cells))).length) (ap (at_mkv (kp:=(pAgg Key_.cells)) (vp:=(pAgg Qa.cells)) h24) (ap4 (Qo h29) (ap (Qag h30) (ap (fit_map (te:=ti39) (xs:=v21) (n:=1) (c:=Qa.cells) h31 rfl) (ap (app_cv (xs:=v21) (ys:=[x23.2]) (c:=Qa.cells)) an))))))) (LoopQ2.norm ⟨sn0++[j22],rem.erase j22,(v21++[x23.2]),rfl,hR2,by omega,fun p hp=>by obtain ⟨o,h,hq⟩:=H2 p hp; refine ⟨o,?_,hq⟩; rw [Qbx] at h; simp only [h29,h30,h31,cond_true,cond_false,Option.bind_some,req] at h; exact h⟩)
   ·obtain ⟨h32,h⟩:=Qr h
    exact rE Qe [([],[(0,.entr j22 ((pAgg Key_.cells) x23.1) ((pAgg Qa.cells) x23.2))],[]),(jT [4,5,6],[(7,.bool true)],[]),([],[(3,.fits)],[(3,.row 5 ((v21++[x23.2]).map Qa.cells))])] [none,none] [] [5,2] [3,7] (.norm,(f37r1n2S bj1 (v21++[x23.2]) (sn0++[j22]))) (ap (last_app (seen:=sn0) (j:=j22)) (ap (rfl:(bj1.map (mkv (pAgg Key_.cells) (pAgg Qa.cells))).length=(bj1.map (mkv (pAgg Key_.cells) (pAgg Qa.cells))).length) (ap (at_mkv (kp:=(pAgg Key_.cells)) (vp:=(pAgg Qa.cells)) h24) (ap4 (Qag h29) (ap (fit_map (te:=ti39) (xs:=v21) (n:=1) (c:=Qa.cells) h32 rfl) (ap (app_cv (xs:=v21) (ys:=[x23.2]) (c:=Qa.cells)) an)))))) (LoopQ2.norm ⟨sn0++[j22],rem.erase j22,(v21++[x23.2]),rfl,hR2,by omega,fun p hp=>by obtain ⟨o,h,hq⟩:=H2 p hp; refine ⟨o,?_,hq⟩; rw [Qbx] at h; simp only [h29,h32,cond_true,cond_false,Option.bind_some,req] at h; exact h⟩)
inductive f37r1n1O where
 | norm (v37:List Qa)
def f37r1n1E(bj1:List (Key_×Qa)):f37r1n1O→Ex×Tr×Hp
 | .norm v37=>(.norm,mkS [(3,(.own 1))],[some (.map (bj1.map (mkv (pAgg Key_.cells) (pAgg Qa.cells)))),jR 4 Qa.cells v37])
def f37r1n1S(bj1:List (Key_×Qa)):Tr×Hp:=(mkS [(0,(.mp 0)),(3,(.pl (.sl .nil 0 [])))],[some (.map (bj1.map (mkv (pAgg Key_.cells) (pAgg Qa.cells))))])
noncomputable def f37r1n1(bj1 p:List (Key_×Qa)):Option f37r1n1O :=
 (Qbx bj1 p []).bind fun o34=>match o34 with
 | .exit0 v36=>some (.norm v36)
theorem f37r1n1_ok(bj1:List (Key_×Qa)){Q:f37r1n1O→Prop}(H:∀p,p.Perm bj1→∃o,f37r1n1 bj1 p=some o∧Q o):T Tryd.prog Tryd.f37.ntmps 1 (cL (Qj 2 c37)) (f37r1n1S bj1) (fun r=>∃o,Q o∧r=f37r1n1E bj1 o):=by
 refine rN Qe 1 [j3] [] [.mat 3 4] [2,1] [3,7] (f37r1n2S bj1 [] []) an ?_;refine T.lastQ (T.blQ (i:=0) (by kernel_rfl) (by kernel_rfl) (f37r1n2_ok bj1 _ [] (List.range bj1.length) [] (Rem.start _) (Nat.lt_succ_self _) (Q:=fun y=>∃o,(match y with | .exit0 v36=>some (.norm v36))=some o∧Q o) (fun p hp=>by obtain ⟨o,h,hq⟩:=H _ (ords_perm hp); unfold f37r1n1 at h; obtain ⟨y,hy,h⟩:=bind_ex h; exact ⟨y,hy,o,h,hq⟩))) ?_
 rintro y ⟨o,h,hq⟩
 cases y with
 | exit0 v36 =>
  obtain rfl:=Qc h;exact Tidy.of [] [1] [3] ((f37r1n1E bj1 (.norm v36)).2) (by kernel_rfl) an ⟨_,hq,rfl⟩
inductive f37r1n0O where
 | ret (v45:List Qa)
def f37r1n0E(a1:List (Key_×Qa)):f37r1n0O→Ex×Tr×Hp
 | .ret v45=>(.ret,mkS [(2,(.own 1))],[some (.map (a1.map (mkv (pAgg Key_.cells) (pAgg Qa.cells)))),jR 4 Qa.cells v45])
def f37r1n0S(a1:List (Key_×Qa)):Tr×Hp:=(Qbd [(.mp 0)] 0 .leaf,[some (.map (a1.map (mkv (pAgg Key_.cells) (pAgg Qa.cells))))])
noncomputable def f37r1n0(a1:List (Key_×Qa)):Option f37r1n0O :=
 (anyOrder a1 fun p=>(f37r1n1 a1 p).bind fun o38=>match o38 with
 | .norm v40=>(so59_41 v40).bind fun x43 =>
  some (.ret x43))
theorem f37r1n0_ok(a1:List (Key_×Qa)){o:f37r1n0O}(h:f37r1n0 a1=some o):T Tryd.prog Tryd.f37.ntmps 1 c37 (f37r1n0S a1) (·=f37r1n0E a1 o):=by
 unfold f37r1n0 at h;refine rN Qe 2 [j3,j3] [] [] [] [0,3] (f37r1n1S a1) an ?_;refine T.oneQ (by kernel_rfl) (f37r1n1_ok a1 (fun p hp=>bind_ex (anyOrder_at h p hp))) ?_;intro o38 h;cases o38 with
 | norm v40 =>
  refine OneR.go ((f37r1n1E a1 (.norm v40)).2) rfl ?_;obtain ⟨x43,h44,h⟩:=Qb h;obtain rfl:=Qc h;exact rE Qe [([],[(1,.call (.tup []) [none,jR 4 Qa.cells x43])],[]),j3] [] [] [1] [2] (.ret,(f37r1n0E a1 (.ret x43)).2) (ap (Qs.rn 2 [1] (so59_41_ok v40 h44)) an) rfl
noncomputable def f37r1(a1:List (Key_×Qa)):Option (List Qa):=(f37r1n0 a1).bind fun o=>match o with
 | .ret v45=>some v45
theorem f37r1_ok(a1:List (Key_×Qa)){r:List Qa}(h:f37r1 a1=some r):Qs Tryd.prog true 37 [(.mp 0)] [some (.map (a1.map (mkv (pAgg Key_.cells) (pAgg Qa.cells))))] (.own 1) [some (.map (a1.map (mkv (pAgg Key_.cells) (pAgg Qa.cells)))),jR 4 Qa.cells r]:=by
 unfold f37r1 at h;obtain ⟨o,ho,h⟩:=Qb h;cases o with
 | ret v45 =>
  obtain rfl:=Qc h;exact Qs.shared Qe (f:=Tryd.f37) (c:=c37) (by kernel_rfl) (by kernel_rfl) (by kernel_rfl) ((f37r1n0_ok a1 ho).mono fun r e=>by subst e; exact ⟨.inl rfl,by kernel_rfl,by kernel_rfl⟩)

noncomputable def c12:Code:=Tryd.f12.body.getD .skip
inductive f12r1n2O where
 | exit0 (v53:List (Key_×Qa))
def f12r1n2E(ba2 ba1:Qd):f12r1n2O→Ex×Tr×Hp
 | .exit0 v53=>((.exit 0),mkS [(2,(.bp 0 0)),(8,(.mp 1))],[some (.box 24 ((Qd.cells ba1).map .pl)),some (.map (v53.map (mkv (pAgg Key_.cells) (pAgg Qa.cells))))])
def f12r1n2S(ba2 ba1:Qd)(v41:Int)(v42:List (Key_×Qa)):Tr×Hp:=(mkS [(2,(.bp 0 0)),(8,(.mp 1)),(37,(jL 4 Qa.cells ba2.Rows)),(38,(jI (ba2.Rows.length:Int))),(39,(jI v41))],[some (.box 24 ((Qd.cells ba1).map .pl)),some (.map (v42.map (mkv (pAgg Key_.cells) (pAgg Qa.cells))))])
noncomputable def f12r1n2:Nat→Qd→Qd→Int→List (Key_×Qa)→Option f12r1n2O
 | 0,_,_,_,_=>none
 | f+1,ba2,ba1,v41,v42 =>
  bif decide (v41<(ba2.Rows.length:Int)) then
   (at? ba2.Rows v41).bind fun x49 =>
   (f36r2 x49.Account x49.Ccy x49.In x49.Out v42).bind fun x51 =>
   (f12r1n2 f ba2 ba1 (wr64 (v41+1)) (mPut Key_.eqb (Key_.mk x49.Account x49.Ccy) (Qa.mk x49.Account x49.Ccy (wr64 ((mGet Key_.eqb (Qa.mk Qae Qae 0 0) (Key_.mk x49.Account x49.Ccy) v42).In+x49.In)) (wr64 ((mGet Key_.eqb (Qa.mk Qae Qae 0 0) (Key_.mk x49.Account x49.Ccy) v42).Out+x49.Out))) v42))
  else
   some (.exit0 v42)
theorem f12r1n2_ok:∀(f:Nat)(ba2 ba1:Qd)(v41:Int)(v42:List (Key_×Qa)){o:f12r1n2O},f12r1n2 f ba2 ba1 v41 v42=some o→TL Tryd.prog Tryd.f12.ntmps 0 f (cL (cL (Qj 1 (cL (Qj 5 c12))))) (f12r1n2S ba2 ba1 v41 v42) (·=f12r1n2E ba2 ba1 o)
 | 0,_,_,_,_,o,h=>by rw [f12r1n2] at h; cases h
 | f+1,ba2,ba1,v41,v42,o,h=>by
  rw [f12r1n2] at h;refine TL.body (K:=fun s=>∃v41:Int,∃v42:List (Key_×Qa),s=(f12r1n2S ba2 ba1 v41 v42)∧f12r1n2 f ba2 ba1 v41 v42=some o) ?_ (by rintro _ ⟨v41,v42,rfl,hk⟩; exact f12r1n2_ok f _ _ _ _ hk);rcases Qf h with ⟨h44,h⟩|⟨h44,h⟩
  ·obtain ⟨x49,h50,h⟩:=Qb h;obtain ⟨x51,h52,h⟩:=Qb h
   exact rE Qe [j3,([],[(0,.idx (Int.toNat v41) (Qa.cells x49))],[]),([],[(9,.call (.tup []) [none,some (.map ((mPut Key_.eqb (Key_.mk x49.Account x49.Ccy) (Qa.mk x49.Account x49.Ccy (wr64 ((mGet Key_.eqb (Qa.mk Qae Qae 0 0) (Key_.mk x49.Account x49.Ccy) v42).In+x49.In)) (wr64 ((mGet Key_.eqb (Qa.mk Qae Qae 0 0) (Key_.mk x49.Account x49.Ccy) v42).Out+x49.Out))) v42).map (mkv (pAgg Key_.cells) (pAgg Qa.cells)))),none])],[]),j3] [some true] [] [0,1] [2,8,37,38,39] (.norm,(f12r1n2S ba2 ba1 (wr64 (v41+1)) (mPut Key_.eqb (Key_.mk x49.Account x49.Ccy) (Qa.mk x49.Account x49.Ccy (wr64 ((mGet Key_.eqb (Qa.mk Qae Qae 0 0) (Key_.mk x49.Account x49.Ccy) v42).In+x49.In)) (wr64 ((mGet Key_.eqb (Qa.mk Qae Qae 0 0) (Key_.mk x49.Account x49.Ccy) v42).Out+x49.Out))) v42))) (ap h44 (ap (Qi h50).1 (ap (Qu Qa.cells (Qi h50).2) (ap (Qs.rn 3 [1] (f36r2_ok x49.Account x49.Ccy x49.In x49.Out v42 h52)) an)))) (Qy.norm ⟨(wr64 (v41+1)),(mPut Key_.eqb (Key_.mk x49.Account x49.Ccy) (Qa.mk x49.Account x49.Ccy (wr64 ((mGet Key_.eqb (Qa.mk Qae Qae 0 0) (Key_.mk x49.Account x49.Ccy) v42).In+x49.In)) (wr64 ((mGet Key_.eqb (Qa.mk Qae Qae 0 0) (Key_.mk x49.Account x49.Ccy) v42).Out+x49.Out))) v42),rfl,h⟩)
  ·obtain rfl:=Qc h;exact rK Qe 2 [j3] [some false] [] [0,1] [2,8] (.exit 0) ((f12r1n2E ba2 ba1 (.exit0 v42)).2) (ap h44 an) (Qy.out rfl rfl)
noncomputable def f12r1n2L(ba2 ba1:Qd):List Qa→Int→(List (Key_×Qa))→Option f12r1n2O
 | [],v41,v42 =>
  some (.exit0 v42)
 | x0::rest,v41,v42 =>
  (f36r2 x0.Account x0.Ccy x0.In x0.Out v42).bind fun x51 =>
  (f12r1n2L ba2 ba1 rest (v41+1) (mPut Key_.eqb (Key_.mk x0.Account x0.Ccy) (Qa.mk x0.Account x0.Ccy (wr64 ((mGet Key_.eqb (Qa.mk Qae Qae 0 0) (Key_.mk x0.Account x0.Ccy) v42).In+x0.In)) (wr64 ((mGet Key_.eqb (Qa.mk Qae Qae 0 0) (Key_.mk x0.Account x0.Ccy) v42).Out+x0.Out))) v42))
theorem f12r1n2L_eq(ba2 ba1:Qd):∀(rest:List Qa)(f k:Nat)(v42:List (Key_×Qa)),ba2.Rows.drop k=rest→ba2.Rows.length≤maxLen→rest.length<f→f12r1n2 f ba2 ba1 (k:Int) v42=f12r1n2L ba2 ba1 rest (k:Int) v42
 | _,0,_,_,_,_,hf=>absurd hf (Nat.not_lt_zero _)
 | [],f+1,k,v42,hd,hm,hf=>by
  have hk:¬((k:Int)<(ba2.Rows.length:Int)):=by have:=Qah hd; omega
  rw [f12r1n2,f12r1n2L];simp only [decide_eq_false hk,cond_false]
 | x0::rest,f+1,k,v42,hd,hm,hf=>by
  obtain ⟨hx,hlt,hd'⟩:=Qap hd;have hk:(k:Int)<(ba2.Rows.length:Int):=by omega
  have hw:wr64 ((k:Int)+1)=(k:Int)+1:=wr64_of (by omega) (by unfold maxLen at hm; omega);have ih:∀(v42:List (Key_×Qa)),f12r1n2 f ba2 ba1 ((k:Int)+1) v42=f12r1n2L ba2 ba1 rest ((k:Int)+1) v42:=fun v42=>f12r1n2L_eq ba2 ba1 rest f (k+1) v42 hd' hm (by simpa using hf);rw [f12r1n2,f12r1n2L];simp only [decide_eq_true hk,cond_true,at_nat,hx,Option.bind_some,hw,ih]
theorem f12r1n2_run(ba2 ba1:Qd)(v42:List (Key_×Qa))(hm:ba2.Rows.length≤maxLen):f12r1n2 FUEL ba2 ba1 0 v42=f12r1n2L ba2 ba1 ba2.Rows 0 v42:=f12r1n2L_eq ba2 ba1 ba2.Rows FUEL 0 v42 List.drop_zero hm (Qcf hm)
inductive f12r1n1O where
 | norm (v57:List (Key_×Qa))
def f12r1n1E(ba1 ba2:Qd):f12r1n1O→Ex×Tr×Hp
 | .norm v57=>(.norm,mkS [(2,(.bp 0 0)),(8,(.mp 1))],[some (.box 24 ((Qd.cells ba1).map .pl)),some (.map (v57.map (mkv (pAgg Key_.cells) (pAgg Qa.cells))))])
def f12r1n1S(ba1 ba2:Qd):Tr×Hp:=(mkS [(2,(.bp 0 0)),(3,(.bp 1 0)),(8,(.mp 2))],[some (.box 24 ((Qd.cells ba1).map .pl)),some (.box 24 ((Qd.cells ba2).map .pl)),some (.map ([].map (mkv (pAgg Key_.cells) (pAgg Qa.cells))))])
noncomputable def f12r1n1(ba1 ba2:Qd):Option f12r1n1O :=
 (f12r1n2 FUEL ba2 ba1 0 []).bind fun o54=>match o54 with
 | .exit0 v56=>some (.norm v56)
theorem f12r1n1_ok(ba1 ba2:Qd){o:f12r1n1O}(h:f12r1n1 ba1 ba2=some o):T Tryd.prog Tryd.f12.ntmps 0 (cL (Qj 5 c12)) (f12r1n1S ba1 ba2) (·=f12r1n1E ba1 ba2 o):=by
 unfold f12r1n1 at h;refine rN Qe 1 [([],[],[(2,.val (jI (ba2.Rows.length:Int)))])] [] [] [0,2] [2,8,37,38,39] (f12r1n2S ba2 ba1 0 []) (ap (Qx (xs:=ba2.Rows) (c:=Qa.cells)) an) ?_;obtain ⟨o54,h55,h⟩:=Qb h;cases o54 with
 | exit0 v56 =>
  obtain rfl:=Qc h;exact T.last' (T.bl (i:=0) (by kernel_rfl) (by kernel_rfl) (f12r1n2_ok FUEL ba2 ba1 0 [] h55)) (tds:=[]) (m:=[0,1]) (keep:=[2,8]) (st2:=(f12r1n1E ba1 ba2 (.norm v56)).2) (by kernel_rfl) an rfl
inductive f12r1n4O where
 | exit2 (v95:List (Key_×Qa))
def f12r1n4E(ba1:Qd):f12r1n4O→Ex×Tr×Hp
 | .exit2 v95=>((.exit 2),mkS [(8,(.mp 0))],[some (.map (v95.map (mkv (pAgg Key_.cells) (pAgg Qa.cells))))])
def f12r1n4S(ba1:Qd)(v83:Int)(v84:List (Key_×Qa)):Tr×Hp:=(mkS [(8,(.mp 0)),(55,(jL 4 Qa.cells ba1.Rows)),(56,(jI (ba1.Rows.length:Int))),(57,(jI v83))],[some (.map (v84.map (mkv (pAgg Key_.cells) (pAgg Qa.cells))))])
noncomputable def f12r1n4:Nat→Qd→Int→List (Key_×Qa)→Option f12r1n4O
 | 0,_,_,_=>none
 | f+1,ba1,v83,v84 =>
  bif decide (v83<(ba1.Rows.length:Int)) then
   (at? ba1.Rows v83).bind fun x91 =>
   (f36r2 x91.Account x91.Ccy (wr64 (0-x91.In)) (wr64 (0-x91.Out)) v84).bind fun x93 =>
   (f12r1n4 f ba1 (wr64 (v83+1)) (mPut Key_.eqb (Key_.mk x91.Account x91.Ccy) (Qa.mk x91.Account x91.Ccy (wr64 ((mGet Key_.eqb (Qa.mk Qae Qae 0 0) (Key_.mk x91.Account x91.Ccy) v84).In+(wr64 (0-x91.In)))) (wr64 ((mGet Key_.eqb (Qa.mk Qae Qae 0 0) (Key_.mk x91.Account x91.Ccy) v84).Out+(wr64 (0-x91.Out))))) v84))
  else
   some (.exit2 v84)
theorem f12r1n4_ok:∀(f:Nat)(ba1:Qd)(v83:Int)(v84:List (Key_×Qa)){o:f12r1n4O},f12r1n4 f ba1 v83 v84=some o→TL Tryd.prog Tryd.f12.ntmps 0 f (cL (cL (Qj 1 (cL (Qj 0 (Qj 1 (Qj 5 c12))))))) (f12r1n4S ba1 v83 v84) (·=f12r1n4E ba1 o)
 | 0,_,_,_,o,h=>by rw [f12r1n4] at h; cases h
 | f+1,ba1,v83,v84,o,h=>by
  rw [f12r1n4] at h;refine TL.body (K:=fun s=>∃v83:Int,∃v84:List (Key_×Qa),s=(f12r1n4S ba1 v83 v84)∧f12r1n4 f ba1 v83 v84=some o) ?_ (by rintro _ ⟨v83,v84,rfl,hk⟩; exact f12r1n4_ok f _ _ _ hk);rcases Qf h with ⟨h86,h⟩|⟨h86,h⟩
  ·obtain ⟨x91,h92,h⟩:=Qb h;obtain ⟨x93,h94,h⟩:=Qb h
   exact rE Qe [j3,([],[(0,.idx (Int.toNat v83) (Qa.cells x91))],[]),([],[(11,.call (.tup []) [some (.map ((mPut Key_.eqb (Key_.mk x91.Account x91.Ccy) (Qa.mk x91.Account x91.Ccy (wr64 ((mGet Key_.eqb (Qa.mk Qae Qae 0 0) (Key_.mk x91.Account x91.Ccy) v84).In+(wr64 (0-x91.In)))) (wr64 ((mGet Key_.eqb (Qa.mk Qae Qae 0 0) (Key_.mk x91.Account x91.Ccy) v84).Out+(wr64 (0-x91.Out))))) v84).map (mkv (pAgg Key_.cells) (pAgg Qa.cells)))),none])],[]),j3] [some true] [] [0] [8,55,56,57] (.norm,(f12r1n4S ba1 (wr64 (v83+1)) (mPut Key_.eqb (Key_.mk x91.Account x91.Ccy) (Qa.mk x91.Account x91.Ccy (wr64 ((mGet Key_.eqb (Qa.mk Qae Qae 0 0) (Key_.mk x91.Account x91.Ccy) v84).In+(wr64 (0-x91.In)))) (wr64 ((mGet Key_.eqb (Qa.mk Qae Qae 0 0) (Key_.mk x91.Account x91.Ccy) v84).Out+(wr64 (0-x91.Out))))) v84))) (ap h86 (ap (Qi h92).1 (ap (Qu Qa.cells (Qi h92).2) (ap (Qs.rn 2 [0] (f36r2_ok x91.Account x91.Ccy (wr64 (0-x91.In)) (wr64 (0-x91.Out)) v84 h94)) an)))) (Qy.norm ⟨(wr64 (v83+1)),(mPut Key_.eqb (Key_.mk x91.Account x91.Ccy) (Qa.mk x91.Account x91.Ccy (wr64 ((mGet Key_.eqb (Qa.mk Qae Qae 0 0) (Key_.mk x91.Account x91.Ccy) v84).In+(wr64 (0-x91.In)))) (wr64 ((mGet Key_.eqb (Qa.mk Qae Qae 0 0) (Key_.mk x91.Account x91.Ccy) v84).Out+(wr64 (0-x91.Out))))) v84),rfl,h⟩)
  ·obtain rfl:=Qc h;exact rK Qe 2 [j3] [some false] [] [0] [8] (.exit 2) ((f12r1n4E ba1 (.exit2 v84)).2) (ap h86 an) (Qy.out rfl rfl)
noncomputable def f12r1n4L(ba1:Qd):List Qa→Int→(List (Key_×Qa))→Option f12r1n4O
 | [],v83,v84 =>
  some (.exit2 v84)
 | x0::rest,v83,v84 =>
  (f36r2 x0.Account x0.Ccy (wr64 (0-x0.In)) (wr64 (0-x0.Out)) v84).bind fun x93 =>
  (f12r1n4L ba1 rest (v83+1) (mPut Key_.eqb (Key_.mk x0.Account x0.Ccy) (Qa.mk x0.Account x0.Ccy (wr64 ((mGet Key_.eqb (Qa.mk Qae Qae 0 0) (Key_.mk x0.Account x0.Ccy) v84).In+(wr64 (0-x0.In)))) (wr64 ((mGet Key_.eqb (Qa.mk Qae Qae 0 0) (Key_.mk x0.Account x0.Ccy) v84).Out+(wr64 (0-x0.Out))))) v84))
theorem f12r1n4L_eq(ba1:Qd):∀(rest:List Qa)(f k:Nat)(v84:List (Key_×Qa)),ba1.Rows.drop k=rest→ba1.Rows.length≤maxLen→rest.length<f→f12r1n4 f ba1 (k:Int) v84=f12r1n4L ba1 rest (k:Int) v84
 | _,0,_,_,_,_,hf=>absurd hf (Nat.not_lt_zero _)
 | [],f+1,k,v84,hd,hm,hf=>by
  have hk:¬((k:Int)<(ba1.Rows.length:Int)):=by have:=Qah hd; omega
  rw [f12r1n4,f12r1n4L];simp only [decide_eq_false hk,cond_false]
 | x0::rest,f+1,k,v84,hd,hm,hf=>by
  obtain ⟨hx,hlt,hd'⟩:=Qap hd;have hk:(k:Int)<(ba1.Rows.length:Int):=by omega
  have hw:wr64 ((k:Int)+1)=(k:Int)+1:=wr64_of (by omega) (by unfold maxLen at hm; omega);have ih:∀(v84:List (Key_×Qa)),f12r1n4 f ba1 ((k:Int)+1) v84=f12r1n4L ba1 rest ((k:Int)+1) v84:=fun v84=>f12r1n4L_eq ba1 rest f (k+1) v84 hd' hm (by simpa using hf);rw [f12r1n4,f12r1n4L];simp only [decide_eq_true hk,cond_true,at_nat,hx,Option.bind_some,hw,ih]
theorem f12r1n4_run(ba1:Qd)(v84:List (Key_×Qa))(hm:ba1.Rows.length≤maxLen):f12r1n4 FUEL ba1 0 v84=f12r1n4L ba1 ba1.Rows 0 v84:=f12r1n4L_eq ba1 ba1.Rows FUEL 0 v84 List.drop_zero hm (Qcf hm)
inductive f12r1n3O where
 | norm (v99:List (Key_×Qa))
def f12r1n3E(ba1:Qd)(bj2:List (Key_×Qa)):f12r1n3O→Ex×Tr×Hp
 | .norm v99=>(.norm,mkS [(8,(.mp 0))],[some (.map (v99.map (mkv (pAgg Key_.cells) (pAgg Qa.cells))))])
def f12r1n3S(ba1:Qd)(bj2:List (Key_×Qa)):Tr×Hp:=(mkS [(2,(.bp 0 0)),(8,(.mp 1))],[some (.box 24 ((Qd.cells ba1).map .pl)),some (.map (bj2.map (mkv (pAgg Key_.cells) (pAgg Qa.cells))))])
noncomputable def f12r1n3(ba1:Qd)(bj2:List (Key_×Qa)):Option f12r1n3O :=
 (f12r1n4 FUEL ba1 0 bj2).bind fun o96=>match o96 with
 | .exit2 v98=>some (.norm v98)
theorem f12r1n3_ok(ba1:Qd)(bj2:List (Key_×Qa)){o:f12r1n3O}(h:f12r1n3 ba1 bj2=some o):T Tryd.prog Tryd.f12.ntmps 0 (cL (Qj 0 (Qj 1 (Qj 5 c12)))) (f12r1n3S ba1 bj2) (·=f12r1n3E ba1 bj2 o):=by
 unfold f12r1n3 at h;refine rN Qe 1 [([],[],[(2,.val (jI (ba1.Rows.length:Int)))])] [] [] [1] [8,55,56,57] (f12r1n4S ba1 0 bj2) (ap (Qx (xs:=ba1.Rows) (c:=Qa.cells)) an) ?_;obtain ⟨o96,h97,h⟩:=Qb h;cases o96 with
 | exit2 v98 =>
  obtain rfl:=Qc h;exact T.last' (T.bl (i:=2) (by kernel_rfl) (by kernel_rfl) (f12r1n4_ok FUEL ba1 0 bj2 h97)) (tds:=[]) (m:=[0]) (keep:=[8]) (st2:=(f12r1n3E ba1 bj2 (.norm v98)).2) (by kernel_rfl) an rfl
inductive f12r1n0O where
 | ret (v107:Int) (v108:List Qa)
def f12r1n0E(a1 a2:Qd):f12r1n0O→Ex×Tr×Hp
 | .ret v107 v108=>(.ret,mkS [(4,(.own 0)),(5,(jI v107))],[jR 4 Qa.cells v108])
def f12r1n0S(a1 a2:Qd):Tr×Hp:=(Qbd [(jA Qd.cells a1),(jA Qd.cells a2)] 0 .leaf,[])
noncomputable def f12r1n0(a1 a2:Qd):Option f12r1n0O :=
 (f15 a1).bind fun x6 =>
 bif decide (x6=0) then
  (f15 a2).bind fun x12 =>
  bif decide (x12=0) then
   bif decide (a1.From=a2.From) then
    bif decide (a1.To=a2.To) then
     (f12r1n1 a1 a2).bind fun o58=>match o58 with
     | .norm v60=>(f12r1n3 a1 v60).bind fun o100=>match o100 with
      | .norm v102=>(f37r1 v102).bind fun x105 =>
       some (.ret 0 x105)
    else
     some (.ret 2 [])
   else
    some (.ret 2 [])
  else
   some (.ret x12 [])
 else
  some (.ret x6 [])
theorem f12r1n0_ok(a1 a2:Qd){o:f12r1n0O}(h:f12r1n0 a1 a2=some o):T Tryd.prog Tryd.f12.ntmps 0 c12 (f12r1n0S a1 a2) (·=f12r1n0E a1 a2 o):=by
 unfold f12r1n0 at h;obtain ⟨x6,h7,h⟩:=Qb h;rcases Qf h with ⟨h8,h⟩|⟨h8,h⟩
 ·obtain ⟨x12,h13,h⟩:=Qb h;rcases Qf h with ⟨h14,h⟩|⟨h14,h⟩
  ·rcases Qf h with ⟨h17,h⟩|⟨h17,h⟩
   ·rcases Qf h with ⟨h18,h⟩|⟨h18,h⟩
    ·refine rN Qe 5 [j3,([],[jH 1 (jI x6)],[]),j3,([],[jH 1 (jI x12)],[]),j3,(jF [6,7,8,9,10],[(11,.bool false)],[]),j3] [some false,some false,some false] [] [0,1,2] [2,3,8] (f12r1n1S a1 a2) (ap (f15_ok a1 h7) (ap (Qo h8) (ap (f15_ok a2 h13) (ap (Qo h14) (ap2 (Qo h17) (ap4 (Qo h17) (ap (Qo h18) an))))))) ?_;obtain ⟨o58,h59,h⟩:=Qb h;cases o58 with
     | norm v60 =>
      refine T.oneN (by kernel_rfl) (f12r1n1_ok a1 a2 h59) (st2:=(f12r1n1E a1 a2 (.norm v60)).2) rfl ?_;refine rN Qe 0 [] [] [] [0,1] [2,8] (f12r1n3S a1 v60) an ?_;obtain ⟨o100,h101,h⟩:=Qb h;cases o100 with
      | norm v102 =>
       refine T.oneN (by kernel_rfl) (f12r1n3_ok a1 v60 h101) (st2:=(f12r1n3E a1 v60 (.norm v102)).2) rfl ?_;obtain ⟨x105,h106,h⟩:=Qb h;obtain rfl:=Qc h;exact rE Qe [([],[(1,.call (.own 1) [some (.map (v102.map (mkv (pAgg Key_.cells) (pAgg Qa.cells)))),jR 4 Qa.cells x105])],[])] [] [] [1] [4,5] (.ret,(f12r1n0E a1 a2 (.ret 0 x105)).2) (ap (f37r1_ok v102 h106) an) rfl
    ·obtain rfl:=Qc h;exact rK Qe 4 [j3,([],[jH 1 (jI x6)],[]),j3,([],[jH 1 (jI x12)],[]),j3,(jF [6,7,8,9,10],[(11,.bool false)],[]),j3] [some false,some false,some true] [.mat 4 4] [2] [4,5] .ret ((f12r1n0E a1 a2 (.ret 2 [])).2) (ap (f15_ok a1 h7) (ap (Qo h8) (ap (f15_ok a2 h13) (ap (Qo h14) (ap2 (Qo h17) (ap4 (Qo h17) (ap (Qag h18) an))))))) rfl
   ·obtain rfl:=Qc h;exact rK Qe 4 [j3,([],[jH 1 (jI x6)],[]),j3,([],[jH 1 (jI x12)],[]),j3,(jT [6,7,8,9,10],[(11,.bool true)],[]),j3] [some false,some false,none] [.mat 4 4] [2] [4,5] .ret ((f12r1n0E a1 a2 (.ret 2 [])).2) (ap (f15_ok a1 h7) (ap (Qo h8) (ap (f15_ok a2 h13) (ap (Qo h14) (ap2 (Qag h17) (ap4 (Qag h17) an)))))) rfl
  ·obtain rfl:=Qc h;exact rK Qe 3 [j3,([],[jH 1 (jI x6)],[]),j3,([],[jH 1 (jI x12)],[]),j3,j3] [some false,some true] [.mat 4 4] [2] [4,5] .ret ((f12r1n0E a1 a2 (.ret x12 [])).2) (ap (f15_ok a1 h7) (ap (Qo h8) (ap (f15_ok a2 h13) (ap (Qag h14) an)))) rfl
 ·obtain rfl:=Qc h;exact rK Qe 2 [j3,([],[jH 1 (jI x6)],[]),j3,j3] [some true] [.mat 4 4] [2] [4,5] .ret ((f12r1n0E a1 a2 (.ret x6 [])).2) (ap (f15_ok a1 h7) (ap (Qag h8) an)) rfl
noncomputable def f12r1(a1 a2:Qd):Option (Int×(List Qa)):=(f12r1n0 a1 a2).bind fun o=>match o with
 | .ret v107 v108=>some (v107,v108)
theorem f12r1_ok(a1 a2:Qd){r:Int×(List Qa)}(h:f12r1 a1 a2=some r):Qs Tryd.prog true 12 [(jA Qd.cells a1),(jA Qd.cells a2)] [] (.tup [(.own 0),(jI r.1)]) [jR 4 Qa.cells r.2]:=by
 unfold f12r1 at h;obtain ⟨o,ho,h⟩:=Qb h;cases o with
 | ret v107 v108 =>
  obtain rfl:=Qc h;exact Qs.shared Qe (f:=Tryd.f12) (c:=c12) (by kernel_rfl) (by kernel_rfl) (by kernel_rfl) ((f12r1n0_ok a1 a2 ho).mono fun r e=>by subst e; exact ⟨.inl rfl,by kernel_rfl,by kernel_rfl⟩)

noncomputable def c38:Code:=Tryd.f38.body.getD .skip
inductive f38n4O where
 | norm (v228:Bool)
def f38n4E(bk1:List Qa)(bi2:Bool)(bd3:Int)(be4:Qa)(bk5:List Qa):f38n4O→Ex×Tr×Hp
 | .norm v228=>(.norm,mkS [(0,(jL 4 Qa.cells bk1)),(3,(.bp 0 0)),(5,(.own 1)),(6,(jB bi2)),(7,(jI bd3)),(24,(jB v228))],[some (.box 39 ((Qa.cells be4).map .pl)),jR 4 Qa.cells bk5])
def f38n4S(bk1:List Qa)(bi2:Bool)(bd3:Int)(be4:Qa)(bk5:List Qa):Tr×Hp:=(mkS [(0,(jL 4 Qa.cells bk1)),(3,(.bp 0 0)),(5,(.own 1)),(6,(jB bi2)),(7,(jI bd3))],[some (.box 39 ((Qa.cells be4).map .pl)),jR 4 Qa.cells bk5])
noncomputable def f38n4(bk1:List Qa)(bi2:Bool)(bd3:Int)(be4:Qa)(bk5:List Qa):Option f38n4O :=
 bif bi2 then
  some (.norm false)
 else
  (at? bk1 bd3).bind fun x224 =>
  (f29 x224 be4).bind fun x226 =>
  some (.norm (!x226))
theorem f38n4_ok(bk1:List Qa)(bi2:Bool)(bd3:Int)(be4:Qa)(bk5:List Qa){o:f38n4O}(h:f38n4 bk1 bi2 bd3 be4 bk5=some o):T Tryd.prog Tryd.f38.ntmps 0 (cL (Qj 0 (cL (Qj 0 (cL (cL (Qj 1 (cL (cL (Qj 1 (cL (Qj 3 c38)))))))))))) (f38n4S bk1 bi2 bd3 be4 bk5) (·=f38n4E bk1 bi2 bd3 be4 bk5 o):=by
 unfold f38n4 at h;rcases Qf h with ⟨h223,h⟩|⟨h223,h⟩
 ·obtain rfl:=Qc h;exact rE Qe [(jF [3,4,5,6,7,8,9],[(10,.bool false)],[])] [] [] [0,1] [0,3,5,6,7,24] (.norm,(f38n4E bk1 bi2 bd3 be4 bk5 (.norm false)).2) (ap4 (Qo h223) (ap4 (Qo h223) an)) rfl
 ·obtain ⟨x224,h225,h⟩:=Qb h;obtain ⟨x226,h227,h⟩:=Qb h;obtain rfl:=Qc h;exact rE Qe [(jT [3,4,5,6,7,8,9],[(5,.idx (Int.toNat bd3) (Qa.cells x224)),jH 8 (jB x226),(10,.bool true)],[])] [] [] [0,1] [0,3,5,6,7,24] (.norm,(f38n4E bk1 bi2 bd3 be4 bk5 (.norm (!x226))).2) (ap3 (Qag h223) (ap (Qi h225).1 (ap (Qu Qa.cells (Qi h225).2) (ap (Qag h223) (ap4 (Qag h223) (ap (f29_ok x224 be4 h227) an)))))) rfl
inductive f38n3O where
 | norm (v248:Bool) (v249:Qa) (v250:List Qa)
def f38n3E(bk1:List Qa)(bi2:Bool)(bd3:Int)(be4:Qa)(bk5:List Qa):f38n3O→Ex×Tr×Hp
 | .norm v248 v249 v250=>(.norm,mkS [(0,(jL 4 Qa.cells bk1)),(3,(.bp 0 0)),(5,(.own 1)),(6,(jB v248)),(7,(jI bd3))],[some (.box 39 ((Qa.cells v249).map .pl)),jR 4 Qa.cells v250])
def f38n3S(bk1:List Qa)(bi2:Bool)(bd3:Int)(be4:Qa)(bk5:List Qa):Tr×Hp:=(mkS [(0,(jL 4 Qa.cells bk1)),(3,(.bp 0 0)),(5,(.own 1)),(6,(jB bi2)),(7,(jI bd3))],[some (.box 39 ((Qa.cells be4).map .pl)),jR 4 Qa.cells bk5])
noncomputable def f38n3(bk1:List Qa)(bi2:Bool)(bd3:Int)(be4:Qa)(bk5:List Qa):Option f38n3O :=
 (f38n4 bk1 bi2 bd3 be4 bk5).bind fun o229=>match o229 with
 | .norm v231=>bif v231 then
   (at? bk1 bd3).bind fun x241 =>
   (f29 be4 x241).bind fun x243 =>
   bif x243 then
    req (fit (bk5.length+1) 48) <|
    some (.norm true be4 (bk5++[be4]))
   else
    req (fit (bk5.length+1) 48) <|
    some (.norm true (Qa.mk be4.Account be4.Ccy (wr64 (be4.In+x241.In)) (wr64 (be4.Out+x241.Out))) (bk5++[(Qa.mk be4.Account be4.Ccy (wr64 (be4.In+x241.In)) (wr64 (be4.Out+x241.Out)))]))
  else
   some (.norm bi2 be4 bk5)
theorem f38n3_ok(bk1:List Qa)(bi2:Bool)(bd3:Int)(be4:Qa)(bk5:List Qa){o:f38n3O}(h:f38n3 bk1 bi2 bd3 be4 bk5=some o):T Tryd.prog Tryd.f38.ntmps 0 (cL (Qj 0 (cL (cL (Qj 1 (cL (cL (Qj 1 (cL (Qj 3 c38)))))))))) (f38n3S bk1 bi2 bd3 be4 bk5) (·=f38n3E bk1 bi2 bd3 be4 bk5 o):=by
 unfold f38n3 at h;refine rN Qe 0 [] [] [] [0,1] [0,3,5,6,7] (f38n4S bk1 bi2 bd3 be4 bk5) an ?_;obtain ⟨o229,h230,h⟩:=Qb h;cases o229 with
 | norm v231 =>
  refine T.oneN (by kernel_rfl) (f38n4_ok bk1 bi2 bd3 be4 bk5 h230) (st2:=(f38n4E bk1 bi2 bd3 be4 bk5 (.norm v231)).2) rfl ?_;rcases Qf h with ⟨h240,h⟩|⟨h240,h⟩
  ·obtain ⟨x241,h242,h⟩:=Qb h;obtain ⟨x243,h244,h⟩:=Qb h;rcases Qf h with ⟨h245,h⟩|⟨h245,h⟩
   ·obtain ⟨h246,h⟩:=Qr h;obtain rfl:=Qc h;exact rE Qe [([],[(3,.idx (Int.toNat bd3) (Qa.cells x241)),jH 5 (jB x243)],[]),([],[(3,.fits)],[(3,.row 4 ((bk5++[be4]).map Qa.cells))]),j3] [some true,some false] [] [0,4] [0,3,5,6,7] (.norm,(f38n3E bk1 bi2 bd3 be4 bk5 (.norm true be4 (bk5++[be4]))).2) (ap h240 (ap (Qi h242).1 (ap (Qu Qa.cells (Qi h242).2) (ap (f29_ok be4 x241 h244) (ap (Qo h245) (ap (fit_map (te:=ti39) (xs:=bk5) (n:=1) (c:=Qa.cells) h246 rfl) (ap (app_cv (xs:=bk5) (ys:=[be4]) (c:=Qa.cells)) an))))))) rfl
   ·obtain ⟨h247,h⟩:=Qr h;obtain rfl:=Qc h
    exact rE Qe [([],[(3,.idx (Int.toNat bd3) (Qa.cells x241)),jH 5 (jB x243)],[]),([],[(4,.idx (Int.toNat bd3) (Qa.cells x241))],[]),([],[(4,.idx (Int.toNat bd3) (Qa.cells x241))],[]),([],[(3,.fits)],[(3,.row 6 ((bk5++[(Qa.mk be4.Account be4.Ccy (wr64 (be4.In+x241.In)) (wr64 (be4.Out+x241.Out)))]).map Qa.cells))]),j3] [some true,some true] [] [0,6] [0,3,5,6,7] (.norm,(f38n3E bk1 bi2 bd3 be4 bk5 (.norm true (Qa.mk be4.Account be4.Ccy (wr64 (be4.In+x241.In)) (wr64 (be4.Out+x241.Out))) (bk5++[(Qa.mk be4.Account be4.Ccy (wr64 (be4.In+x241.In)) (wr64 (be4.Out+x241.Out)))]))).2) (ap h240 (ap (Qi h242).1 (ap (Qu Qa.cells (Qi h242).2) (ap (f29_ok be4 x241 h244) (ap (Qag h245) (ap (Qi h242).1 (ap (Qu Qa.cells (Qi h242).2) (ap (Qi h242).1 (ap (Qu Qa.cells (Qi h242).2) (ap (fit_map (te:=ti39) (xs:=bk5) (n:=1) (c:=Qa.cells) h247 rfl) (ap (app_cv (xs:=bk5) (ys:=[(Qa.mk be4.Account be4.Ccy (wr64 (be4.In+x241.In)) (wr64 (be4.Out+x241.Out)))]) (c:=Qa.cells)) an))))))))))) rfl
  ·obtain rfl:=Qc h;exact rE Qe [] [some false] [] [0,1] [0,3,5,6,7] (.norm,(f38n3E bk1 bi2 bd3 be4 bk5 (.norm bi2 be4 bk5)).2) (ap h240 an) rfl
inductive f38n5O where
 | norm (v277:Bool)
def f38n5E(bk1:List Qa)(bi2:Bool)(bd3:Int)(be4:Qa)(bk5:List Qa):f38n5O→Ex×Tr×Hp
 | .norm v277=>(.norm,mkS [(0,(jL 4 Qa.cells bk1)),(3,(.bp 0 0)),(5,(.own 1)),(6,(jB bi2)),(7,(jI bd3)),(67,(jB v277))],[some (.box 39 ((Qa.cells be4).map .pl)),jR 4 Qa.cells bk5])
def f38n5S(bk1:List Qa)(bi2:Bool)(bd3:Int)(be4:Qa)(bk5:List Qa):Tr×Hp:=(mkS [(0,(jL 4 Qa.cells bk1)),(3,(.bp 0 0)),(5,(.own 1)),(6,(jB bi2)),(7,(jI bd3))],[some (.box 39 ((Qa.cells be4).map .pl)),jR 4 Qa.cells bk5])
noncomputable def f38n5(bk1:List Qa)(bi2:Bool)(bd3:Int)(be4:Qa)(bk5:List Qa):Option f38n5O :=
 (at? bk1 bd3).bind fun x270 =>
 (f29 x270 be4).bind fun x272 =>
 bif x272 then
  some (.norm true)
 else
  (f29 be4 x270).bind fun x275 =>
  some (.norm x275)
theorem f38n5_ok(bk1:List Qa)(bi2:Bool)(bd3:Int)(be4:Qa)(bk5:List Qa){o:f38n5O}(h:f38n5 bk1 bi2 bd3 be4 bk5=some o):T Tryd.prog Tryd.f38.ntmps 0 (cL (Qj 0 (Qj 1 (Qj 0 (cL (cL (Qj 1 (cL (cL (Qj 1 (cL (Qj 3 c38)))))))))))) (f38n5S bk1 bi2 bd3 be4 bk5) (·=f38n5E bk1 bi2 bd3 be4 bk5 o):=by
 unfold f38n5 at h;obtain ⟨x270,h271,h⟩:=Qb h;obtain ⟨x272,h273,h⟩:=Qb h;rcases Qf h with ⟨h274,h⟩|⟨h274,h⟩
 ·obtain rfl:=Qc h;exact rE Qe [(jT [7,8,9,10,11,12],[(2,.idx (Int.toNat bd3) (Qa.cells x270)),jH 5 (jB x272),(13,.bool true)],[])] [] [] [0,1] [0,3,5,6,7,67] (.norm,(f38n5E bk1 bi2 bd3 be4 bk5 (.norm true)).2) (ap (Qi h271).1 (ap (Qu Qa.cells (Qi h271).2) (ap3 h274 (ap4 h274 (ap (f29_ok x270 be4 h273) an))))) rfl
 ·obtain ⟨x275,h276,h⟩:=Qb h;obtain rfl:=Qc h
  exact rE Qe [(jF [7,8,9,10,11,12],[(2,.idx (Int.toNat bd3) (Qa.cells x270)),jH 5 (jB x272),(10,.idx (Int.toNat bd3) (Qa.cells x270)),jH 12 (jB x275),(13,.bool false)],[])] [] [] [0,1] [0,3,5,6,7,67] (.norm,(f38n5E bk1 bi2 bd3 be4 bk5 (.norm x275)).2) (ap (Qi h271).1 (ap (Qu Qa.cells (Qi h271).2) (ap4 h274 (ap (Qi h271).1 (ap (Qu Qa.cells (Qi h271).2) (ap3 h274 (ap (Qaf (e:=⟨false,29,[(jA Qa.cells x270),(jA Qa.cells be4)],[],(jB x272),[]⟩) (f:=⟨false,29,[(jA Qa.cells be4),(jA Qa.cells x270)],[],(jB x275),[]⟩) (fun k=>by simp only [jL,jS,jI,jB,jA,Qa.cells_eq,Qa.map_eq,Qd.cells_eq,Qd.map_eq,Key_.cells_eq,Key_.map_eq,Qh.cells_eq,Qh.map_eq,Qg.cells_eq,Qg.map_eq,Qp.cells_eq,Qp.map_eq,Qm.cells_eq,Qm.map_eq,Qt.cells_eq,Qt.map_eq,List.cons.injEq,AV.pl.injEq,PV.str.injEq,PV.int.injEq,PV.bool.injEq,PV.agg.injEq,PV.sl.injEq,and_true,true_and] at k; have e0:x272=x275:=Option.some.inj (by rw [←h273,←h276]; first | exact congrArg _ k | (obtain ⟨k1,_⟩:=k; simp only [k1]; done) | simp only [k]); exact ⟨by rw [e0],rfl⟩)) (ap (f29_ok x270 be4 h273) (ap (f29_ok be4 x270 h276) an))))))))) rfl
inductive f38n2O where
 | norm (v289:Bool) (v290:Qa) (v291:List Qa)
def f38n2E(bk1:List Qa)(bi2:Bool)(bd3:Int)(be4:Qa)(bk5:List Qa):f38n2O→Ex×Tr×Hp
 | .norm v289 v290 v291=>(.norm,mkS [(0,(jL 4 Qa.cells bk1)),(3,(.bp 0 0)),(5,(.own 1)),(6,(jB v289)),(7,(jI bd3))],[some (.box 39 ((Qa.cells v290).map .pl)),jR 4 Qa.cells v291])
def f38n2S(bk1:List Qa)(bi2:Bool)(bd3:Int)(be4:Qa)(bk5:List Qa):Tr×Hp:=(mkS [(0,(jL 4 Qa.cells bk1)),(3,(.bp 0 0)),(5,(.own 1)),(6,(jB bi2)),(7,(jI bd3))],[some (.box 39 ((Qa.cells be4).map .pl)),jR 4 Qa.cells bk5])
noncomputable def f38n2(bk1:List Qa)(bi2:Bool)(bd3:Int)(be4:Qa)(bk5:List Qa):Option f38n2O :=
 (f38n3 bk1 bi2 bd3 be4 bk5).bind fun o251=>match o251 with
 | .norm v253 v254 v255=>(f38n5 bk1 v253 bd3 v254 v255).bind fun o278=>match o278 with
  | .norm v280=>bif v280 then
    (at? bk1 bd3).bind fun x286 =>
    req (fit (v255.length+1) 48) <|
    some (.norm v253 v254 (v255++[x286]))
   else
    some (.norm v253 v254 v255)
theorem f38n2_ok(bk1:List Qa)(bi2:Bool)(bd3:Int)(be4:Qa)(bk5:List Qa){o:f38n2O}(h:f38n2 bk1 bi2 bd3 be4 bk5=some o):T Tryd.prog Tryd.f38.ntmps 0 (cL (Qj 1 (cL (cL (Qj 1 (cL (Qj 3 c38))))))) (f38n2S bk1 bi2 bd3 be4 bk5) (·=f38n2E bk1 bi2 bd3 be4 bk5 o):=by
 unfold f38n2 at h;refine T.block' (i:=1) (by kernel_rfl) ?_;refine rN Qe 0 [] [] [] [0,1] [0,3,5,6,7] (f38n3S bk1 bi2 bd3 be4 bk5) an ?_;obtain ⟨o251,h252,h⟩:=Qb h;cases o251 with
 | norm v253 v254 v255 =>
  refine T.oneN (by kernel_rfl) (f38n3_ok bk1 bi2 bd3 be4 bk5 h252) (st2:=(f38n3E bk1 bi2 bd3 be4 bk5 (.norm v253 v254 v255)).2) rfl ?_;refine rN Qe 0 [] [] [] [0,1] [0,3,5,6,7] (f38n5S bk1 v253 bd3 v254 v255) an ?_;obtain ⟨o278,h279,h⟩:=Qb h;cases o278 with
  | norm v280 =>
   refine T.oneN (by kernel_rfl) (f38n5_ok bk1 v253 bd3 v254 v255 h279) (st2:=(f38n5E bk1 v253 bd3 v254 v255 (.norm v280)).2) rfl ?_;rcases Qf h with ⟨h285,h⟩|⟨h285,h⟩
   ·obtain ⟨x286,h287,h⟩:=Qb h;obtain ⟨h288,h⟩:=Qr h;obtain rfl:=Qc h;exact rE Qe [([],[(3,.idx (Int.toNat bd3) (Qa.cells x286)),(6,.fits)],[(6,.row 3 ((v255++[x286]).map Qa.cells))])] [some true] [] [0,3] [0,3,5,6,7] (.norm,(f38n2E bk1 bi2 bd3 be4 bk5 (.norm v253 v254 (v255++[x286]))).2) (ap h285 (ap (Qi h287).1 (ap (Qu Qa.cells (Qi h287).2) (ap (fit_map (te:=ti39) (xs:=v255) (n:=1) (c:=Qa.cells) h288 rfl) (ap (app_cv (xs:=v255) (ys:=[x286]) (c:=Qa.cells)) an))))) rfl
   ·obtain rfl:=Qc h;exact rE Qe [] [some false] [] [0,1] [0,3,5,6,7] (.norm,(f38n2E bk1 bi2 bd3 be4 bk5 (.norm v253 v254 v255)).2) (ap h285 an) rfl
inductive f38n6O where
 | exit0 (v297:Bool) (v298:Qa) (v299:List Qa)
def f38n6E(bk1:List Qa):f38n6O→Ex×Tr×Hp
 | .exit0 v297 v298 v299=>((.exit 0),mkS [(3,(.bp 0 0)),(5,(.own 1)),(6,(jB v297))],[some (.box 39 ((Qa.cells v298).map .pl)),jR 4 Qa.cells v299])
def f38n6S(bk1:List Qa)(v165:Bool)(v166:Int)(v167:Qa)(v168:List Qa):Tr×Hp:=(mkS [(0,(jL 4 Qa.cells bk1)),(3,(.bp 0 0)),(5,(.own 1)),(6,(jB v165)),(7,(jI v166))],[some (.box 39 ((Qa.cells v167).map .pl)),jR 4 Qa.cells v168])
noncomputable def f38n6:Nat→List Qa→Bool→Int→Qa→List Qa→Option f38n6O
 | 0,_,_,_,_,_=>none
 | f+1,bk1,v165,v166,v167,v168 =>
  bif decide (v166<(bk1.length:Int)) then
   (f38n2 bk1 v165 v166 v167 v168).bind fun o292=>match o292 with
   | .norm v294 v295 v296=>(f38n6 f bk1 v294 (wr64 (v166+1)) v295 v296)
  else
   some (.exit0 v165 v167 v168)
theorem f38n6_ok:∀(f:Nat)(bk1:List Qa)(v165:Bool)(v166:Int)(v167:Qa)(v168:List Qa){o:f38n6O},f38n6 f bk1 v165 v166 v167 v168=some o→TL Tryd.prog Tryd.f38.ntmps 0 f (cL (cL (Qj 1 (cL (Qj 3 c38))))) (f38n6S bk1 v165 v166 v167 v168) (·=f38n6E bk1 o)
 | 0,_,_,_,_,_,o,h=>by rw [f38n6] at h; cases h
 | f+1,bk1,v165,v166,v167,v168,o,h=>by
  rw [f38n6] at h;refine TL.body (K:=fun s=>∃v165:Bool,∃v166:Int,∃v167:Qa,∃v168:List Qa,s=(f38n6S bk1 v165 v166 v167 v168)∧f38n6 f bk1 v165 v166 v167 v168=some o) ?_ (by rintro _ ⟨v165,v166,v167,v168,rfl,hk⟩; exact f38n6_ok f _ _ _ _ _ hk);rcases Qf h with ⟨h170,h⟩|⟨h170,h⟩
  ·refine rN Qe 1 [([],[],[(2,.val (jI (bk1.length:Int)))])] [some true] [] [0,1] [0,3,5,6,7] (f38n2S bk1 v165 v166 v167 v168) (ap (Qx (xs:=bk1) (c:=Qa.cells)) (ap h170 an)) ?_;obtain ⟨o292,h293,h⟩:=Qb h;cases o292 with
   | norm v294 v295 v296 =>
    refine T.oneN (by kernel_rfl) (f38n2_ok bk1 v165 v166 v167 v168 h293) (st2:=(f38n2E bk1 v165 v166 v167 v168 (.norm v294 v295 v296)).2) rfl ?_;exact rE Qe [j3] [] [] [0,1] [0,3,5,6,7] (.norm,(f38n6S bk1 v294 (wr64 (v166+1)) v295 v296)) an (Qy.norm ⟨v294,(wr64 (v166+1)),v295,v296,rfl,h⟩)
  ·obtain rfl:=Qc h;exact rK Qe 1 [([],[],[(2,.val (jI (bk1.length:Int)))])] [some false] [] [0,1] [3,5,6] (.exit 0) ((f38n6E bk1 (.exit0 v165 v167 v168)).2) (ap (Qx (xs:=bk1) (c:=Qa.cells)) (ap h170 an)) (Qy.out rfl rfl)
inductive f38n1O where
 | norm (v305:Bool) (v306:Qa) (v307:List Qa)
def f38n1E(bk1:List Qa)(be2:Qa):f38n1O→Ex×Tr×Hp
 | .norm v305 v306 v307=>(.norm,mkS [(3,(.bp 0 0)),(5,(.own 1)),(6,(jB v305))],[some (.box 39 ((Qa.cells v306).map .pl)),jR 4 Qa.cells v307])
def f38n1S(bk1:List Qa)(be2:Qa):Tr×Hp:=(mkS [(0,(jL 4 Qa.cells bk1)),(3,(.bp 0 0)),(5,(.pl (.sl .nil 0 []))),(6,(jB false))],[some (.box 39 ((Qa.cells be2).map .pl))])
noncomputable def f38n1(bk1:List Qa)(be2:Qa):Option f38n1O :=
 (f38n6 FUEL bk1 false 0 be2 []).bind fun o300=>match o300 with
 | .exit0 v302 v303 v304=>some (.norm v302 v303 v304)
theorem f38n1_ok(bk1:List Qa)(be2:Qa){o:f38n1O}(h:f38n1 bk1 be2=some o):T Tryd.prog Tryd.f38.ntmps 0 (cL (Qj 3 c38)) (f38n1S bk1 be2) (·=f38n1E bk1 be2 o):=by
 unfold f38n1 at h;refine rN Qe 1 [j3] [] [.mat 5 4] [0,1] [0,3,5,6,7] (f38n6S bk1 false 0 be2 []) an ?_;obtain ⟨o300,h301,h⟩:=Qb h;cases o300 with
 | exit0 v302 v303 v304 =>
  obtain rfl:=Qc h;exact T.last' (T.bl (i:=0) (by kernel_rfl) (by kernel_rfl) (f38n6_ok FUEL bk1 false 0 be2 [] h301)) (tds:=[]) (m:=[0,1]) (keep:=[3,5,6]) (st2:=(f38n1E bk1 be2 (.norm v302 v303 v304)).2) (by kernel_rfl) an rfl
inductive f38n0O where
 | ret (v317:List Qa)
def f38n0E(a1:List Qa)(a2:Qa):f38n0O→Ex×Tr×Hp
 | .ret v317=>(.ret,mkS [(4,(.own 0))],[jR 4 Qa.cells v317])
def f38n0S(a1:List Qa)(a2:Qa):Tr×Hp:=(Qbd [(jL 4 Qa.cells a1),(jA Qa.cells a2)] 0 .leaf,[])
noncomputable def f38n0(a1:List Qa)(a2:Qa):Option f38n0O :=
 (f38n1 a1 a2).bind fun o308=>match o308 with
 | .norm v310 v311 v312=>bif v310 then
   some (.ret v312)
  else
   req (fit (v312.length+1) 48) <|
   some (.ret (v312++[v311]))
theorem f38n0_ok(a1:List Qa)(a2:Qa){o:f38n0O}(h:f38n0 a1 a2=some o):T Tryd.prog Tryd.f38.ntmps 0 c38 (f38n0S a1 a2) (·=f38n0E a1 a2 o):=by
 unfold f38n0 at h;refine rN Qe 3 [j3,j3,j3] [] [] [0] [0,3,5,6] (f38n1S a1 a2) an ?_;obtain ⟨o308,h309,h⟩:=Qb h;cases o308 with
 | norm v310 v311 v312 =>
  refine T.oneN (by kernel_rfl) (f38n1_ok a1 a2 h309) (st2:=(f38n1E a1 a2 (.norm v310 v311 v312)).2) rfl ?_;rcases Qf h with ⟨h315,h⟩|⟨h315,h⟩
  ·obtain rfl:=Qc h;exact rE Qe [j3,j3] [some false] [] [1] [4] (.ret,(f38n0E a1 a2 (.ret v312)).2) (ap (Qo h315) an) rfl
  ·obtain ⟨h316,h⟩:=Qr h;obtain rfl:=Qc h;exact rE Qe [j3,([],[(3,.fits)],[(3,.row 3 ((v312++[v311]).map Qa.cells))]),j3] [some true] [] [3] [4] (.ret,(f38n0E a1 a2 (.ret (v312++[v311]))).2) (ap (Qag h315) (ap (fit_map (te:=ti39) (xs:=v312) (n:=1) (c:=Qa.cells) h316 rfl) (ap (app_cv (xs:=v312) (ys:=[v311]) (c:=Qa.cells)) an))) rfl
noncomputable def f38(a1:List Qa)(a2:Qa):Option (List Qa):=(f38n0 a1 a2).bind fun o=>match o with
 | .ret v317=>some v317
theorem f38_ok(a1:List Qa)(a2:Qa){r:List Qa}(h:f38 a1 a2=some r):Qs Tryd.prog false 38 [(jL 4 Qa.cells a1),(jA Qa.cells a2)] [] (jL 4 Qa.cells r) []:=by
 unfold f38 at h;obtain ⟨o,ho,h⟩:=Qb h;cases o with
 | ret v317 =>
  obtain rfl:=Qc h;exact Qs.plain Qe (f:=Tryd.f38) (c:=c38) (by kernel_rfl) (by kernel_rfl) (by kernel_rfl) (by kernel_rfl) ((f38n0_ok a1 a2 ho).mono fun r e=>by subst e; exact ⟨.inl rfl,(.own 0),(jL 4 Qa.cells v317),by kernel_rfl,by kernel_rfl,((Wk.refl _):Wk (jL 4 Qa.cells v317) (jL 4 Qa.cells v317))⟩)

noncomputable def c13:Code:=Tryd.f13.body.getD .skip
inductive f13n1O where
 | norm (v25:List Qa)
def f13n1E(ba1 ba2:Qd):f13n1O→Ex×Tr×Hp
 | .norm v25=>(.norm,mkS [(2,(.bp 0 0)),(6,(.own 1))],[some (.box 24 ((Qd.cells ba1).map .pl)),jR 4 Qa.cells v25])
def f13n1S(ba1 ba2:Qd):Tr×Hp:=(mkS [(2,(.bp 0 0)),(3,(.bp 1 0))],[some (.box 24 ((Qd.cells ba1).map .pl)),some (.box 24 ((Qd.cells ba2).map .pl))])
noncomputable def f13n1(ba1 ba2:Qd):Option f13n1O :=
 bif (ba2.Rows.isEmpty) then
  some (.norm [])
 else
  req (fit ba2.Rows.length 48) <|
  some (.norm ba2.Rows)
theorem f13n1_ok(ba1 ba2:Qd){o:f13n1O}(h:f13n1 ba1 ba2=some o):T Tryd.prog Tryd.f13.ntmps 0 (cL (Qj 4 c13)) (f13n1S ba1 ba2) (·=f13n1E ba1 ba2 o):=by
 unfold f13n1 at h;rcases Qf h with ⟨h23,h⟩|⟨h23,h⟩
 ·obtain rfl:=Qc h;exact rE Qe [([],[(3,.app false)],[])] [] [] [0,2] [2,6] (.norm,(f13n1E ba1 ba2 (.norm [])).2) (ap (nil_map (c:=Qa.cells) h23) an) rfl
 ·obtain ⟨h24,h⟩:=Qr h;obtain rfl:=Qc h;exact rE Qe [([],[(3,.app true)],[])] [] [] [0,3] [2,6] (.norm,(f13n1E ba1 ba2 (.norm ba2.Rows)).2) (ap (fit_map0z (te:=ti39) (xs:=ba2.Rows) (c:=Qa.cells) h24 rfl) (ap (ne_map (c:=Qa.cells) h23) (ap (len_all (c:=Qa.cells) (xs:=ba2.Rows) (n:=4) (fun _=>rfl)) an))) rfl
inductive f13n3O where
 | exit0 (v63:List Qa)
def f13n3E(ba1:Qd):f13n3O→Ex×Tr×Hp
 | .exit0 v63=>((.exit 0),mkS [(6,(jL 4 Qa.cells v63))],[])
def f13n3S(ba1:Qd)(v51:List Qa)(v52:Int):Tr×Hp:=(mkS [(2,(.bp 0 0)),(6,(jL 4 Qa.cells v51)),(7,(jI v52))],[some (.box 24 ((Qd.cells ba1).map .pl))])
noncomputable def f13n3:Nat→Qd→List Qa→Int→Option f13n3O
 | 0,_,_,_=>none
 | f+1,ba1,v51,v52 =>
  bif decide (v52<(ba1.Rows.length:Int)) then
   (at? ba1.Rows v52).bind fun x59 =>
   (f38 v51 (Qa.mk x59.Account x59.Ccy (wr64 (0-x59.In)) (wr64 (0-x59.Out)))).bind fun x61 =>
   (f13n3 f ba1 x61 (wr64 (v52+1)))
  else
   some (.exit0 v51)
theorem f13n3_ok:∀(f:Nat)(ba1:Qd)(v51:List Qa)(v52:Int){o:f13n3O},f13n3 f ba1 v51 v52=some o→TL Tryd.prog Tryd.f13.ntmps 0 f (cL (cL (Qj 1 (cL (Qj 0 (Qj 1 (Qj 4 c13))))))) (f13n3S ba1 v51 v52) (·=f13n3E ba1 o)
 | 0,_,_,_,o,h=>by rw [f13n3] at h; cases h
 | f+1,ba1,v51,v52,o,h=>by
  rw [f13n3] at h;refine TL.body (K:=fun s=>∃v51:List Qa,∃v52:Int,s=(f13n3S ba1 v51 v52)∧f13n3 f ba1 v51 v52=some o) ?_ (by rintro _ ⟨v51,v52,rfl,hk⟩; exact f13n3_ok f _ _ _ hk);rcases Qf h with ⟨h54,h⟩|⟨h54,h⟩
  ·obtain ⟨x59,h60,h⟩:=Qb h;obtain ⟨x61,h62,h⟩:=Qb h;exact rE Qe [([],[],[(3,.val (jI (ba1.Rows.length:Int)))]),([],[(3,.idx (Int.toNat v52) (Qa.cells x59))],[]),([],[jH 12 (jL 4 Qa.cells x61)],[]),j3] [some true] [] [0] [2,6,7] (.norm,(f13n3S ba1 x61 (wr64 (v52+1)))) (ap (Qx (xs:=ba1.Rows) (c:=Qa.cells)) (ap h54 (ap (Qi h60).1 (ap (Qu Qa.cells (Qi h60).2) (ap (f38_ok v51 (Qa.mk x59.Account x59.Ccy (wr64 (0-x59.In)) (wr64 (0-x59.Out))) h62) an))))) (Qy.norm ⟨x61,(wr64 (v52+1)),rfl,h⟩)
  ·obtain rfl:=Qc h;exact rK Qe 1 [([],[],[(3,.val (jI (ba1.Rows.length:Int)))])] [some false] [] [] [6] (.exit 0) ((f13n3E ba1 (.exit0 v51)).2) (ap (Qx (xs:=ba1.Rows) (c:=Qa.cells)) (ap h54 an)) (Qy.out rfl rfl)
noncomputable def f13n3L(ba1:Qd):List Qa→(List Qa)→Int→Option f13n3O
 | [],v51,v52 =>
  some (.exit0 v51)
 | x0::rest,v51,v52 =>
  (f38 v51 (Qa.mk x0.Account x0.Ccy (wr64 (0-x0.In)) (wr64 (0-x0.Out)))).bind fun x61 =>
  (f13n3L ba1 rest x61 (v52+1))
theorem f13n3L_eq(ba1:Qd):∀(rest:List Qa)(f k:Nat)(v51:List Qa),ba1.Rows.drop k=rest→ba1.Rows.length≤maxLen→rest.length<f→f13n3 f ba1 v51 (k:Int)=f13n3L ba1 rest v51 (k:Int)
 | _,0,_,_,_,_,hf=>absurd hf (Nat.not_lt_zero _)
 | [],f+1,k,v51,hd,hm,hf=>by
  have hk:¬((k:Int)<(ba1.Rows.length:Int)):=by have:=Qah hd; omega
  rw [f13n3,f13n3L];simp only [decide_eq_false hk,cond_false]
 | x0::rest,f+1,k,v51,hd,hm,hf=>by
  obtain ⟨hx,hlt,hd'⟩:=Qap hd;have hk:(k:Int)<(ba1.Rows.length:Int):=by omega
  have hw:wr64 ((k:Int)+1)=(k:Int)+1:=wr64_of (by omega) (by unfold maxLen at hm; omega);have ih:∀(v51:List Qa),f13n3 f ba1 v51 ((k:Int)+1)=f13n3L ba1 rest v51 ((k:Int)+1):=fun v51=>f13n3L_eq ba1 rest f (k+1) v51 hd' hm (by simpa using hf);rw [f13n3,f13n3L];simp only [decide_eq_true hk,cond_true,at_nat,hx,Option.bind_some,hw,ih]
theorem f13n3_run(ba1:Qd)(v51:List Qa)(hm:ba1.Rows.length≤maxLen):f13n3 FUEL ba1 v51 0=f13n3L ba1 ba1.Rows v51 0:=f13n3L_eq ba1 ba1.Rows FUEL 0 v51 List.drop_zero hm (Qcf hm)
inductive f13n2O where
 | norm (v67:List Qa)
def f13n2E(ba1:Qd)(bk2:List Qa):f13n2O→Ex×Tr×Hp
 | .norm v67=>(.norm,mkS [(6,(jL 4 Qa.cells v67))],[])
def f13n2S(ba1:Qd)(bk2:List Qa):Tr×Hp:=(mkS [(2,(.bp 0 0)),(6,(.own 1))],[some (.box 24 ((Qd.cells ba1).map .pl)),jR 4 Qa.cells bk2])
noncomputable def f13n2(ba1:Qd)(bk2:List Qa):Option f13n2O :=
 (f13n3 FUEL ba1 bk2 0).bind fun o64=>match o64 with
 | .exit0 v66=>some (.norm v66)
theorem f13n2_ok(ba1:Qd)(bk2:List Qa){o:f13n2O}(h:f13n2 ba1 bk2=some o):T Tryd.prog Tryd.f13.ntmps 0 (cL (Qj 0 (Qj 1 (Qj 4 c13)))) (f13n2S ba1 bk2) (·=f13n2E ba1 bk2 o):=by
 unfold f13n2 at h;refine rN Qe 1 [j3] [] [.frz 6] [0] [2,6,7] (f13n3S ba1 bk2 0) an ?_;obtain ⟨o64,h65,h⟩:=Qb h;cases o64 with
 | exit0 v66 =>
  obtain rfl:=Qc h;exact T.last' (T.bl (i:=0) (by kernel_rfl) (by kernel_rfl) (f13n3_ok FUEL ba1 bk2 0 h65)) (tds:=[]) (m:=[]) (keep:=[6]) (st2:=(f13n2E ba1 bk2 (.norm v66)).2) (by kernel_rfl) an rfl
inductive f13n5O where
 | exit2 (v113:List Qa)
def f13n5E(bk1:List Qa):f13n5O→Ex×Tr×Hp
 | .exit2 v113=>((.exit 2),mkS [(9,(.own 0))],[jR 4 Qa.cells v113])
def f13n5S(bk1:List Qa)(v97:Int)(v98:List Qa):Tr×Hp:=(mkS [(6,(jL 4 Qa.cells bk1)),(9,(.own 0)),(10,(jI v97))],[jR 4 Qa.cells v98])
noncomputable def f13n5:Nat→List Qa→Int→List Qa→Option f13n5O
 | 0,_,_,_=>none
 | f+1,bk1,v97,v98 =>
  bif decide (v97<(bk1.length:Int)) then
   (at? bk1 v97).bind fun x107 =>
   bif decide (x107.In=0) then
    bif decide (x107.Out=0) then
     (f13n5 f bk1 (wr64 (v97+1)) v98)
    else
     req (fit (v98.length+1) 48) <|
     (f13n5 f bk1 (wr64 (v97+1)) (v98++[x107]))
   else
    req (fit (v98.length+1) 48) <|
    (f13n5 f bk1 (wr64 (v97+1)) (v98++[x107]))
  else
   some (.exit2 v98)
theorem f13n5_ok:∀(f:Nat)(bk1:List Qa)(v97:Int)(v98:List Qa){o:f13n5O},f13n5 f bk1 v97 v98=some o→TL Tryd.prog Tryd.f13.ntmps 0 f (cL (cL (Qj 1 (cL (Qj 1 (Qj 1 (Qj 0 (Qj 1 (Qj 4 c13))))))))) (f13n5S bk1 v97 v98) (·=f13n5E bk1 o)
 | 0,_,_,_,o,h=>by rw [f13n5] at h; cases h
 | f+1,bk1,v97,v98,o,h=>by
  rw [f13n5] at h;refine TL.body (K:=fun s=>∃v97:Int,∃v98:List Qa,s=(f13n5S bk1 v97 v98)∧f13n5 f bk1 v97 v98=some o) ?_ (by rintro _ ⟨v97,v98,rfl,hk⟩; exact f13n5_ok f _ _ _ hk);rcases Qf h with ⟨h100,h⟩|⟨h100,h⟩
  ·obtain ⟨x107,h108,h⟩:=Qb h;rcases Qf h with ⟨h109,h⟩|⟨h109,h⟩
   ·rcases Qf h with ⟨h110,h⟩|⟨h110,h⟩
    ·exact rE Qe [([],[],[(2,.val (jI (bk1.length:Int)))]),(jF [7,8,9,10,11,12],[(2,.idx (Int.toNat v97) (Qa.cells x107)),(9,.idx (Int.toNat v97) (Qa.cells x107)),(13,.bool false)],[]),j3] [some true,some false] [] [0] [6,9,10] (.norm,(f13n5S bk1 (wr64 (v97+1)) v98)) (ap (Qx (xs:=bk1) (c:=Qa.cells)) (ap h100 (ap (Qi h108).1 (ap (Qu Qa.cells (Qi h108).2) (ap3 (Qo h109) (ap (Qi h108).1 (ap (Qu Qa.cells (Qi h108).2) (ap4 (Qo h109) (ap (Qo h110) an))))))))) (Qy.norm ⟨(wr64 (v97+1)),v98,rfl,h⟩)
    ·obtain ⟨h111,h⟩:=Qr h
     exact rE Qe [([],[],[(2,.val (jI (bk1.length:Int)))]),(jF [7,8,9,10,11,12],[(2,.idx (Int.toNat v97) (Qa.cells x107)),(9,.idx (Int.toNat v97) (Qa.cells x107)),(13,.bool false)],[]),([],[(3,.idx (Int.toNat v97) (Qa.cells x107)),(6,.fits)],[(6,.row 2 ((v98++[x107]).map Qa.cells))]),j3] [some true,some true] [] [2] [6,9,10] (.norm,(f13n5S bk1 (wr64 (v97+1)) (v98++[x107]))) (ap (Qx (xs:=bk1) (c:=Qa.cells)) (ap h100 (ap (Qi h108).1 (ap (Qu Qa.cells (Qi h108).2) (ap3 (Qo h109) (ap (Qi h108).1 (ap (Qu Qa.cells (Qi h108).2) (ap4 (Qo h109) (ap (Qag h110) (ap (Qi h108).1 (ap (Qu Qa.cells (Qi h108).2) (ap (fit_map (te:=ti39) (xs:=v98) (n:=1) (c:=Qa.cells) h111 rfl) (ap (app_cv (xs:=v98) (ys:=[x107]) (c:=Qa.cells)) an))))))))))))) (Qy.norm ⟨(wr64 (v97+1)),(v98++[x107]),rfl,h⟩)
   ·obtain ⟨h112,h⟩:=Qr h;exact rE Qe [([],[],[(2,.val (jI (bk1.length:Int)))]),(jT [7,8,9,10,11,12],[(2,.idx (Int.toNat v97) (Qa.cells x107)),(13,.bool true)],[]),([],[(3,.idx (Int.toNat v97) (Qa.cells x107)),(6,.fits)],[(6,.row 2 ((v98++[x107]).map Qa.cells))]),j3] [some true,none] [] [2] [6,9,10] (.norm,(f13n5S bk1 (wr64 (v97+1)) (v98++[x107]))) (ap (Qx (xs:=bk1) (c:=Qa.cells)) (ap h100 (ap (Qi h108).1 (ap (Qu Qa.cells (Qi h108).2) (ap3 (Qag h109) (ap4 (Qag h109) (ap (Qi h108).1 (ap (Qu Qa.cells (Qi h108).2) (ap (fit_map (te:=ti39) (xs:=v98) (n:=1) (c:=Qa.cells) h112 rfl) (ap (app_cv (xs:=v98) (ys:=[x107]) (c:=Qa.cells)) an)))))))))) (Qy.norm ⟨(wr64 (v97+1)),(v98++[x107]),rfl,h⟩)
  ·obtain rfl:=Qc h;exact rK Qe 1 [([],[],[(2,.val (jI (bk1.length:Int)))])] [some false] [] [0] [9] (.exit 2) ((f13n5E bk1 (.exit2 v98)).2) (ap (Qx (xs:=bk1) (c:=Qa.cells)) (ap h100 an)) (Qy.out rfl rfl)
noncomputable def f13n5L(bk1:List Qa):List Qa→Int→(List Qa)→Option f13n5O
 | [],v97,v98 =>
  some (.exit2 v98)
 | x0::rest,v97,v98 =>
  bif decide (x0.In=0) then
   bif decide (x0.Out=0) then
    (f13n5L bk1 rest (v97+1) v98)
   else
    req (fit (v98.length+1) 48) <|
    (f13n5L bk1 rest (v97+1) (v98++[x0]))
  else
   req (fit (v98.length+1) 48) <|
   (f13n5L bk1 rest (v97+1) (v98++[x0]))
theorem f13n5L_eq(bk1:List Qa):∀(rest:List Qa)(f k:Nat)(v98:List Qa),bk1.drop k=rest→bk1.length≤maxLen→rest.length<f→f13n5 f bk1 (k:Int) v98=f13n5L bk1 rest (k:Int) v98
 | _,0,_,_,_,_,hf=>absurd hf (Nat.not_lt_zero _)
 | [],f+1,k,v98,hd,hm,hf=>by
  have hk:¬((k:Int)<(bk1.length:Int)):=by have:=Qah hd; omega
  rw [f13n5,f13n5L];simp only [decide_eq_false hk,cond_false]
 | x0::rest,f+1,k,v98,hd,hm,hf=>by
  obtain ⟨hx,hlt,hd'⟩:=Qap hd;have hk:(k:Int)<(bk1.length:Int):=by omega
  have hw:wr64 ((k:Int)+1)=(k:Int)+1:=wr64_of (by omega) (by unfold maxLen at hm; omega);have ih:∀(v98:List Qa),f13n5 f bk1 ((k:Int)+1) v98=f13n5L bk1 rest ((k:Int)+1) v98:=fun v98=>f13n5L_eq bk1 rest f (k+1) v98 hd' hm (by simpa using hf);rw [f13n5,f13n5L];simp only [decide_eq_true hk,cond_true,at_nat,hx,Option.bind_some,hw,ih]
theorem f13n5_run(bk1 v98:List Qa)(hm:bk1.length≤maxLen):f13n5 FUEL bk1 0 v98=f13n5L bk1 bk1 0 v98:=f13n5L_eq bk1 bk1 FUEL 0 v98 List.drop_zero hm (Qcf hm)
inductive f13n4O where
 | norm (v117:List Qa)
def f13n4E(bk1:List Qa):f13n4O→Ex×Tr×Hp
 | .norm v117=>(.norm,mkS [(9,(.own 0))],[jR 4 Qa.cells v117])
def f13n4S(bk1:List Qa):Tr×Hp:=(mkS [(6,(jL 4 Qa.cells bk1)),(9,(.pl (.sl .nil 0 [])))],[])
noncomputable def f13n4(bk1:List Qa):Option f13n4O :=
 (f13n5 FUEL bk1 0 []).bind fun o114=>match o114 with
 | .exit2 v116=>some (.norm v116)
theorem f13n4_ok(bk1:List Qa){o:f13n4O}(h:f13n4 bk1=some o):T Tryd.prog Tryd.f13.ntmps 0 (cL (Qj 1 (Qj 1 (Qj 0 (Qj 1 (Qj 4 c13)))))) (f13n4S bk1) (·=f13n4E bk1 o):=by
 unfold f13n4 at h;refine rN Qe 1 [j3] [] [.mat 9 4] [0] [6,9,10] (f13n5S bk1 0 []) an ?_;obtain ⟨o114,h115,h⟩:=Qb h;cases o114 with
 | exit2 v116 =>
  obtain rfl:=Qc h;exact T.last' (T.bl (i:=2) (by kernel_rfl) (by kernel_rfl) (f13n5_ok FUEL bk1 0 [] h115)) (tds:=[]) (m:=[0]) (keep:=[9]) (st2:=(f13n4E bk1 (.norm v116)).2) (by kernel_rfl) an rfl
inductive f13n0O where
 | ret (v121:Int) (v122:List Qa)
def f13n0E(a1 a2:Qd):f13n0O→Ex×Tr×Hp
 | .ret v121 v122=>(.ret,mkS [(4,(.own 0)),(5,(jI v121))],[jR 4 Qa.cells v122])
def f13n0S(a1 a2:Qd):Tr×Hp:=(Qbd [(jA Qd.cells a1),(jA Qd.cells a2)] 0 .leaf,[])
noncomputable def f13n0(a1 a2:Qd):Option f13n0O :=
 (f16 a1).bind fun x6 =>
 bif decide (x6=0) then
  (f16 a2).bind fun x12 =>
  bif decide (x12=0) then
   bif decide (a1.From=a2.From) then
    bif decide (a1.To=a2.To) then
     (f13n1 a1 a2).bind fun o26=>match o26 with
     | .norm v28=>(f13n2 a1 v28).bind fun o68=>match o68 with
      | .norm v70=>(f13n4 v70).bind fun o118=>match o118 with
       | .norm v120=>some (.ret 0 v120)
    else
     some (.ret 2 [])
   else
    some (.ret 2 [])
  else
   some (.ret x12 [])
 else
  some (.ret x6 [])
theorem f13n0_ok(a1 a2:Qd){o:f13n0O}(h:f13n0 a1 a2=some o):T Tryd.prog Tryd.f13.ntmps 0 c13 (f13n0S a1 a2) (·=f13n0E a1 a2 o):=by
 unfold f13n0 at h;obtain ⟨x6,h7,h⟩:=Qb h;rcases Qf h with ⟨h8,h⟩|⟨h8,h⟩
 ·obtain ⟨x12,h13,h⟩:=Qb h;rcases Qf h with ⟨h14,h⟩|⟨h14,h⟩
  ·rcases Qf h with ⟨h17,h⟩|⟨h17,h⟩
   ·rcases Qf h with ⟨h18,h⟩|⟨h18,h⟩
    ·refine rN Qe 4 [j3,([],[jH 1 (jI x6)],[]),([],[jH 1 (jI x12)],[]),(jF [6,7,8,9,10],[(11,.bool false)],[])] [some false,some false,some false] [] [0,1] [2,3] (f13n1S a1 a2) (ap (f16_ok a1 h7) (ap (Qo h8) (ap (f16_ok a2 h13) (ap (Qo h14) (ap2 (Qo h17) (ap4 (Qo h17) (ap (Qo h18) an))))))) ?_;obtain ⟨o26,h27,h⟩:=Qb h;cases o26 with
     | norm v28 =>
      refine T.oneN (by kernel_rfl) (f13n1_ok a1 a2 h27) (st2:=(f13n1E a1 a2 (.norm v28)).2) rfl ?_;refine rN Qe 0 [] [] [] [0,1] [2,6] (f13n2S a1 v28) an ?_;obtain ⟨o68,h69,h⟩:=Qb h;cases o68 with
      | norm v70 =>
       refine T.oneN (by kernel_rfl) (f13n2_ok a1 v28 h69) (st2:=(f13n2E a1 v28 (.norm v70)).2) rfl ?_;refine rN Qe 1 [j3] [] [] [] [6,9] (f13n4S v70) an ?_;obtain ⟨o118,h119,h⟩:=Qb h;cases o118 with
       | norm v120 =>
        refine T.oneN (by kernel_rfl) (f13n4_ok v70 h119) (st2:=(f13n4E v70 (.norm v120)).2) rfl ?_;obtain rfl:=Qc h;exact rE Qe [j3] [] [] [0] [4,5] (.ret,(f13n0E a1 a2 (.ret 0 v120)).2) an rfl
    ·obtain rfl:=Qc h;exact rK Qe 4 [j3,([],[jH 1 (jI x6)],[]),([],[jH 1 (jI x12)],[]),(jF [6,7,8,9,10],[(11,.bool false)],[]),j3] [some false,some false,some true] [.mat 4 4] [2] [4,5] .ret ((f13n0E a1 a2 (.ret 2 [])).2) (ap (f16_ok a1 h7) (ap (Qo h8) (ap (f16_ok a2 h13) (ap (Qo h14) (ap2 (Qo h17) (ap4 (Qo h17) (ap (Qag h18) an))))))) rfl
   ·obtain rfl:=Qc h;exact rK Qe 4 [j3,([],[jH 1 (jI x6)],[]),([],[jH 1 (jI x12)],[]),(jT [6,7,8,9,10],[(11,.bool true)],[]),j3] [some false,some false,none] [.mat 4 4] [2] [4,5] .ret ((f13n0E a1 a2 (.ret 2 [])).2) (ap (f16_ok a1 h7) (ap (Qo h8) (ap (f16_ok a2 h13) (ap (Qo h14) (ap2 (Qag h17) (ap4 (Qag h17) an)))))) rfl
  ·obtain rfl:=Qc h;exact rK Qe 3 [j3,([],[jH 1 (jI x6)],[]),([],[jH 1 (jI x12)],[]),([],[jH 1 (jI x12)],[])] [some false,some true] [.mat 4 4] [2] [4,5] .ret ((f13n0E a1 a2 (.ret x12 [])).2) (ap (f16_ok a1 h7) (ap (Qo h8) (ap (f16_ok a2 h13) (ap (Qag h14) (ap (f16_ok a2 h13) an))))) rfl
 ·obtain rfl:=Qc h;exact rK Qe 2 [j3,([],[jH 1 (jI x6)],[]),([],[jH 1 (jI x6)],[])] [some true] [.mat 4 4] [2] [4,5] .ret ((f13n0E a1 a2 (.ret x6 [])).2) (ap (f16_ok a1 h7) (ap (Qag h8) (ap (f16_ok a1 h7) an))) rfl
noncomputable def f13(a1 a2:Qd):Option ((List Qa)×Int):=(f13n0 a1 a2).bind fun o=>match o with
 | .ret v121 v122=>some (v122,v121)
theorem f13_ok(a1 a2:Qd){r:(List Qa)×Int}(h:f13 a1 a2=some r):Qs Tryd.prog false 13 [(jA Qd.cells a1),(jA Qd.cells a2)] [] (.tup [(jL 4 Qa.cells r.1),(jI r.2)]) []:=by
 unfold f13 at h;obtain ⟨o,ho,h⟩:=Qb h;cases o with
 | ret v121 v122 =>
  obtain rfl:=Qc h;exact Qs.plain Qe (f:=Tryd.f13) (c:=c13) (by kernel_rfl) (by kernel_rfl) (by kernel_rfl) (by kernel_rfl) ((f13n0_ok a1 a2 ho).mono fun r e=>by subst e; exact ⟨.inl rfl,(.tup [(.own 0),(jI v121)]),(.tup [(jL 4 Qa.cells v122),(jI v121)]),by kernel_rfl,by kernel_rfl,((Wk.refl _):Wk (.tup [(jL 4 Qa.cells v122),(jI v121)]) (.tup [(jL 4 Qa.cells v122),(jI v121)]))⟩)

noncomputable def c14:Code:=Tryd.f14.body.getD .skip
inductive f14n2O where
 | exit0
 | ret
def f14n2E(bk1 bk2:List Qa):f14n2O→Ex×Tr×Hp
 | .exit0=>((.exit 0),mkS [],[])
 | .ret=>(.ret,mkS [(4,(jB false))],[])
def f14n2S(bk1 bk2:List Qa)(v30:Int):Tr×Hp:=(mkS [(0,(jL 4 Qa.cells bk1)),(1,(jL 4 Qa.cells bk2)),(5,(jI v30))],[])
noncomputable def f14n2:Nat→List Qa→List Qa→Int→Option f14n2O
 | 0,_,_,_=>none
 | f+1,bk1,bk2,v30 =>
  bif decide (v30<(bk1.length:Int)) then
   (at? bk1 v30).bind fun x38 =>
   (at? bk2 v30).bind fun x40 =>
   bif (Qa.eqb x38 x40) then
    (f14n2 f bk1 bk2 (wr64 (v30+1)))
   else
    some .ret
  else
   some .exit0
theorem f14n2_ok:∀(f:Nat)(bk1 bk2:List Qa)(v30:Int){o:f14n2O},f14n2 f bk1 bk2 v30=some o→TL Tryd.prog Tryd.f14.ntmps 0 f (cL (cL (Qj 1 (cL (Qj 2 c14))))) (f14n2S bk1 bk2 v30) (·=f14n2E bk1 bk2 o)
 | 0,_,_,_,o,h=>by rw [f14n2] at h; cases h
 | f+1,bk1,bk2,v30,o,h=>by
  rw [f14n2] at h;refine TL.body (K:=fun s=>∃v30:Int,s=(f14n2S bk1 bk2 v30)∧f14n2 f bk1 bk2 v30=some o) ?_ (by rintro _ ⟨v30,rfl,hk⟩; exact f14n2_ok f _ _ _ hk);rcases Qf h with ⟨h32,h⟩|⟨h32,h⟩
  ·obtain ⟨x38,h39,h⟩:=Qb h;obtain ⟨x40,h41,h⟩:=Qb h;rcases Qf h with ⟨h42,h⟩|⟨h42,h⟩
   ·exact rE Qe [([],[],[(2,.val (jI (bk1.length:Int)))]),([],[(2,.idx (Int.toNat v30) (Qa.cells x38)),(6,.idx (Int.toNat v30) (Qa.cells x40)),(8,.bool (Qa.eqb x38 x40))],[]),j3] [some true,some false] [] [] [0,1,5] (.norm,(f14n2S bk1 bk2 (wr64 (v30+1)))) (ap (Qx (xs:=bk1) (c:=Qa.cells)) (ap h32 (ap (Qi h39).1 (ap (Qu Qa.cells (Qi h39).2) (ap (Qi h41).1 (ap (Qu Qa.cells (Qi h41).2) (ap (Qa.eqb_ok x38 x40) (ap (Qo h42) an)))))))) (Qy.norm ⟨(wr64 (v30+1)),rfl,h⟩)
   ·obtain rfl:=Qc h;exact rK Qe 2 [([],[],[(2,.val (jI (bk1.length:Int)))]),([],[(2,.idx (Int.toNat v30) (Qa.cells x38)),(6,.idx (Int.toNat v30) (Qa.cells x40)),(8,.bool (Qa.eqb x38 x40))],[]),j3] [some true,some true] [] [] [4] .ret ((f14n2E bk1 bk2 .ret).2) (ap (Qx (xs:=bk1) (c:=Qa.cells)) (ap h32 (ap (Qi h39).1 (ap (Qu Qa.cells (Qi h39).2) (ap (Qi h41).1 (ap (Qu Qa.cells (Qi h41).2) (ap (Qa.eqb_ok x38 x40) (ap (Qag h42) an)))))))) (Qy.out rfl rfl)
  ·obtain rfl:=Qc h;exact rK Qe 1 [([],[],[(2,.val (jI (bk1.length:Int)))])] [some false] [] [] [] (.exit 0) ((f14n2E bk1 bk2 .exit0).2) (ap (Qx (xs:=bk1) (c:=Qa.cells)) (ap h32 an)) (Qy.out rfl rfl)
noncomputable def f14n2L(bk1 bk2:List Qa):List Qa→Int→Option f14n2O
 | [],v30 =>
  some .exit0
 | x0::rest,v30 =>
  (at? bk2 v30).bind fun x40 =>
  bif (Qa.eqb x0 x40) then
   (f14n2L bk1 bk2 rest (v30+1))
  else
   some .ret
theorem f14n2L_eq(bk1 bk2:List Qa):∀(rest:List Qa)(f k:Nat),bk1.drop k=rest→bk1.length≤maxLen→rest.length<f→f14n2 f bk1 bk2 (k:Int)=f14n2L bk1 bk2 rest (k:Int)
 | _,0,_,_,_,hf=>absurd hf (Nat.not_lt_zero _)
 | [],f+1,k,hd,hm,hf=>by
  have hk:¬((k:Int)<(bk1.length:Int)):=by have:=Qah hd; omega
  rw [f14n2,f14n2L];simp only [decide_eq_false hk,cond_false]
 | x0::rest,f+1,k,hd,hm,hf=>by
  obtain ⟨hx,hlt,hd'⟩:=Qap hd;have hk:(k:Int)<(bk1.length:Int):=by omega
  have hw:wr64 ((k:Int)+1)=(k:Int)+1:=wr64_of (by omega) (by unfold maxLen at hm; omega);have ih:f14n2 f bk1 bk2 ((k:Int)+1)=f14n2L bk1 bk2 rest ((k:Int)+1):=f14n2L_eq bk1 bk2 rest f (k+1) hd' hm (by simpa using hf);rw [f14n2,f14n2L];simp only [decide_eq_true hk,cond_true,at_nat,hx,Option.bind_some,hw,ih]
theorem f14n2_run(bk1 bk2:List Qa)(hm:bk1.length≤maxLen):f14n2 FUEL bk1 bk2 0=f14n2L bk1 bk2 bk1 0:=f14n2L_eq bk1 bk2 bk1 FUEL 0 List.drop_zero hm (Qcf hm)
inductive f14n1O where
 | norm
 | ret
def f14n1E(bk1 bk2:List Qa):f14n1O→Ex×Tr×Hp
 | .norm=>(.norm,mkS [],[])
 | .ret=>(.ret,mkS [(4,(jB false))],[])
def f14n1S(bk1 bk2:List Qa):Tr×Hp:=(mkS [(0,(jL 4 Qa.cells bk1)),(1,(jL 4 Qa.cells bk2))],[])
noncomputable def f14n1(bk1 bk2:List Qa):Option f14n1O :=
 (f14n2 FUEL bk1 bk2 0).bind fun o43=>match o43 with
 | .exit0=>some .norm
 | .ret=>some .ret
theorem f14n1_ok(bk1 bk2:List Qa){o:f14n1O}(h:f14n1 bk1 bk2=some o):T Tryd.prog Tryd.f14.ntmps 0 (cL (Qj 2 c14)) (f14n1S bk1 bk2) (·=f14n1E bk1 bk2 o):=by
 unfold f14n1 at h;refine rN Qe 1 [j3] [] [] [] [0,1,5] (f14n2S bk1 bk2 0) an ?_;obtain ⟨o43,h44,h⟩:=Qb h;cases o43 with
 | exit0 =>
  obtain rfl:=Qc h;exact T.last' (T.bl (i:=0) (by kernel_rfl) (by kernel_rfl) (f14n2_ok FUEL bk1 bk2 0 h44)) (tds:=[]) (m:=[]) (keep:=[]) (st2:=(f14n1E bk1 bk2 .norm).2) (by kernel_rfl) an rfl
 | ret =>
  obtain rfl:=Qc h;exact T.last' (T.bl (i:=0) (by kernel_rfl) (by kernel_rfl) (f14n2_ok FUEL bk1 bk2 0 h44)) (tds:=[]) (m:=[]) (keep:=[4]) (st2:=(f14n1E bk1 bk2 .ret).2) (by kernel_rfl) an rfl
inductive f14n0O where
 | ret (v47:Bool)
def f14n0E(a1 a2:List Qa):f14n0O→Ex×Tr×Hp
 | .ret v47=>(.ret,mkS [(4,(jB v47))],[])
def f14n0S(a1 a2:List Qa):Tr×Hp:=(Qbd [(jL 4 Qa.cells a1),(jL 4 Qa.cells a2)] 0 .leaf,[])
noncomputable def f14n0(a1 a2:List Qa):Option f14n0O :=
 bif decide ((a1.length:Int)=(a2.length:Int)) then
  (f14n1 a1 a2).bind fun o45=>match o45 with
  | .norm=>some (.ret true)
  | .ret=>some (.ret false)
 else
  some (.ret false)
theorem f14n0_ok(a1 a2:List Qa){o:f14n0O}(h:f14n0 a1 a2=some o):T Tryd.prog Tryd.f14.ntmps 0 c14 (f14n0S a1 a2) (·=f14n0E a1 a2 o):=by
 unfold f14n0 at h;rcases Qf h with ⟨h4,h⟩|⟨h4,h⟩
 ·refine rN Qe 2 [j3,([],[],[(1,.val (jI (a1.length:Int))),(3,.val (jI (a2.length:Int)))])] [some false] [] [] [0,1] (f14n1S a1 a2) (ap (Qx (xs:=a1) (c:=Qa.cells)) (ap (Qx (xs:=a2) (c:=Qa.cells)) (ap (Qo h4) an))) ?_;obtain ⟨o45,h46,h⟩:=Qb h;cases o45 with
  | norm =>
   refine T.oneN (by kernel_rfl) (f14n1_ok a1 a2 h46) (st2:=(f14n1E a1 a2 .norm).2) rfl ?_;obtain rfl:=Qc h;exact rE Qe [j3] [] [] [] [4] (.ret,(f14n0E a1 a2 (.ret true)).2) an rfl
  | ret =>
   obtain rfl:=Qc h;exact T.oneX' (by kernel_rfl) (f14n1_ok a1 a2 h46) (tds:=[]) (m:=[]) (keep:=[4]) (st2:=(f14n0E a1 a2 (.ret false)).2) (by kernel_rfl) an rfl rfl
 ·obtain rfl:=Qc h;exact rK Qe 2 [j3,([],[],[(1,.val (jI (a1.length:Int))),(3,.val (jI (a2.length:Int)))]),j3] [some true] [] [] [4] .ret ((f14n0E a1 a2 (.ret false)).2) (ap (Qx (xs:=a1) (c:=Qa.cells)) (ap (Qx (xs:=a2) (c:=Qa.cells)) (ap (Qag h4) an))) rfl
noncomputable def f14(a1 a2:List Qa):Option Bool:=(f14n0 a1 a2).bind fun o=>match o with
 | .ret v47=>some v47
theorem f14_ok(a1 a2:List Qa){r:Bool}(h:f14 a1 a2=some r):Qs Tryd.prog false 14 [(jL 4 Qa.cells a1),(jL 4 Qa.cells a2)] [] (jB r) []:=by
 unfold f14 at h;obtain ⟨o,ho,h⟩:=Qb h;cases o with
 | ret v47 =>
  obtain rfl:=Qc h;exact Qs.plain Qe (f:=Tryd.f14) (c:=c14) (by kernel_rfl) (by kernel_rfl) (by kernel_rfl) (by kernel_rfl) ((f14n0_ok a1 a2 ho).mono fun r e=>by subst e; exact ⟨.inl rfl,(jB v47),(jB v47),by kernel_rfl,by kernel_rfl,((Wk.refl _):Wk (jB v47) (jB v47))⟩)

noncomputable def c3:Code:=Tryd.f3.body.getD .skip
inductive f3n1O where
 | norm (v21:List Qa)
def f3n1E(ba1 ba2:Qd):f3n1O→Ex×Tr×Hp
 | .norm v21=>(.norm,mkS [(2,(.bp 0 0)),(3,(.bp 1 0)),(5,(.own 2))],[some (.box 24 ((Qd.cells ba1).map .pl)),some (.box 24 ((Qd.cells ba2).map .pl)),jR 4 Qa.cells v21])
def f3n1S(ba1 ba2:Qd):Tr×Hp:=(mkS [(2,(.bp 0 0)),(3,(.bp 1 0))],[some (.box 24 ((Qd.cells ba1).map .pl)),some (.box 24 ((Qd.cells ba2).map .pl))])
noncomputable def f3n1(ba1 ba2:Qd):Option f3n1O :=
 bif (ba2.Rows.isEmpty) then
  some (.norm [])
 else
  req (fit ba2.Rows.length 48) <|
  some (.norm ba2.Rows)
theorem f3n1_ok(ba1 ba2:Qd){o:f3n1O}(h:f3n1 ba1 ba2=some o):T Tryd.prog Tryd.f3.ntmps 0 (cL (Qj 2 c3)) (f3n1S ba1 ba2) (·=f3n1E ba1 ba2 o):=by
 unfold f3n1 at h;rcases Qf h with ⟨h19,h⟩|⟨h19,h⟩
 ·obtain rfl:=Qc h;exact rE Qe [([],[(3,.app false)],[])] [] [] [0,1,2] [2,3,5] (.norm,(f3n1E ba1 ba2 (.norm [])).2) (ap (nil_map (c:=Qa.cells) h19) an) rfl
 ·obtain ⟨h20,h⟩:=Qr h;obtain rfl:=Qc h;exact rE Qe [([],[(3,.app true)],[])] [] [] [0,1,3] [2,3,5] (.norm,(f3n1E ba1 ba2 (.norm ba2.Rows)).2) (ap (fit_map0z (te:=ti39) (xs:=ba2.Rows) (c:=Qa.cells) h20 rfl) (ap (ne_map (c:=Qa.cells) h19) (ap (len_all (c:=Qa.cells) (xs:=ba2.Rows) (n:=4) (fun _=>rfl)) an))) rfl
inductive f3n2O where
 | norm (v71:Bool)
def f3n2E(bl1 bl2:ByteArray×Int)(bm3:Int×(List Qa))(bn4:(List Qa)×Int)(ba5 ba6:Qd)(bk7:List Qa):f3n2O→Ex×Tr×Hp
 | .norm v71=>(.norm,mkS [(3,(.bp 0 0)),(5,(.own 1)),(10,(.own 2)),(14,(jB v71))],[some (.box 24 ((Qd.cells ba6).map .pl)),jR 4 Qa.cells bk7,jR 4 Qa.cells bm3.2])
def f3n2S(bl1 bl2:ByteArray×Int)(bm3:Int×(List Qa))(bn4:(List Qa)×Int)(ba5 ba6:Qd)(bk7:List Qa):Tr×Hp:=(mkS [(2,(.bp 0 0)),(3,(.bp 1 0)),(5,(.own 2)),(6,(jS bl1.1)),(7,(jI bl1.2)),(8,(jS bl2.1)),(9,(jI bl2.2)),(10,(.own 3)),(11,(jI bm3.1)),(12,(jL 4 Qa.cells bn4.1)),(13,(jI bn4.2))],[some (.box 24 ((Qd.cells ba5).map .pl)),some (.box 24 ((Qd.cells ba6).map .pl)),jR 4 Qa.cells bk7,jR 4 Qa.cells bm3.2])
noncomputable def f3n2(bl1 bl2:ByteArray×Int)(bm3:Int×(List Qa))(bn4:(List Qa)×Int)(ba5 ba6:Qd)(bk7:List Qa):Option f3n2O :=
 bif (seq bl1.1 bl2.1) then
  bif decide (bl1.2=bl2.2) then
   (f14 bm3.2 bn4.1).bind fun x63 =>
   bif x63 then
    bif decide (bm3.1=bn4.2) then
     (f15 ba5).bind fun x67 =>
     (f16 ba5).bind fun x69 =>
     some (.norm (decide (x67=x69)))
    else
     some (.norm false)
   else
    some (.norm false)
  else
   some (.norm false)
 else
  some (.norm false)
theorem f3n2_ok(bl1 bl2:ByteArray×Int)(bm3:Int×(List Qa))(bn4:(List Qa)×Int)(ba5 ba6:Qd)(bk7:List Qa){o:f3n2O}(h:f3n2 bl1 bl2 bm3 bn4 ba5 ba6 bk7=some o):T Tryd.prog Tryd.f3.ntmps 0 (cL (Qj 4 (Qj 1 (Qj 2 c3)))) (f3n2S bl1 bl2 bm3 bn4 ba5 ba6 bk7) (·=f3n2E bl1 bl2 bm3 bn4 ba5 ba6 bk7 o):=by
 unfold f3n2 at h;rcases Qf h with ⟨h61,h⟩|⟨h61,h⟩
 ·rcases Qf h with ⟨h62,h⟩|⟨h62,h⟩
  ·obtain ⟨x63,h64,h⟩:=Qb h;rcases Qf h with ⟨h65,h⟩|⟨h65,h⟩
   ·rcases Qf h with ⟨h66,h⟩|⟨h66,h⟩
    ·obtain ⟨x67,h68,h⟩:=Qb h;obtain ⟨x69,h70,h⟩:=Qb h;obtain rfl:=Qc h;exact rE Qe [(jT [4,5,6,9,10,11,14,15,16,19,20,21,22,23],[(7,.bool true),jH 11 (jB x63),(12,.bool true),(17,.bool true),jH 20 (jI x67),jH 22 (jI x69),(24,.bool true)],[])] [] [] [1,2,3] [3,5,10,14] (.norm,(f3n2E bl1 bl2 bm3 bn4 ba5 ba6 bk7 (.norm (decide (x67=x69)))).2) (ap4 h61 (ap4 h62 (ap4 h65 (ap2 h66 (ap4 h66 (ap (f14_ok bm3.2 bn4.1 h64) (ap (f15_ok ba5 h68) (ap (f16_ok ba5 h70) an)))))))) rfl
    ·obtain rfl:=Qc h;exact rE Qe [(jF [19,20,21,22,23]++jT [4,5,6,9,10,11,14,15,16],[(7,.bool true),jH 11 (jB x63),(12,.bool true),(17,.bool true),(24,.bool false)],[])] [] [] [1,2,3] [3,5,10,14] (.norm,(f3n2E bl1 bl2 bm3 bn4 ba5 ba6 bk7 (.norm false)).2) (ap4 h61 (ap4 h62 (ap4 h65 (ap2 h66 (ap4 h66 (ap (f14_ok bm3.2 bn4.1 h64) an)))))) rfl
   ·obtain rfl:=Qc h;exact rE Qe [(jF [14,15,16]++jT [4,5,6,9,10,11],[(7,.bool true),jH 11 (jB x63),(12,.bool true),(17,.bool false)],[])] [] [] [1,2,3] [3,5,10,14] (.norm,(f3n2E bl1 bl2 bm3 bn4 ba5 ba6 bk7 (.norm false)).2) (ap4 h61 (ap4 h62 (ap4 h65 (ap (f14_ok bm3.2 bn4.1 h64) an)))) rfl
  ·obtain rfl:=Qc h;exact rE Qe [(jF [9,10,11]++jT [4,5,6],[(7,.bool true),(12,.bool false)],[])] [] [] [1,2,3] [3,5,10,14] (.norm,(f3n2E bl1 bl2 bm3 bn4 ba5 ba6 bk7 (.norm false)).2) (ap4 h61 (ap4 h62 an)) rfl
 ·obtain rfl:=Qc h;exact rE Qe [(jF [4,5,6],[(7,.bool false)],[])] [] [] [1,2,3] [3,5,10,14] (.norm,(f3n2E bl1 bl2 bm3 bn4 ba5 ba6 bk7 (.norm false)).2) (ap4 h61 an) rfl
inductive f3n4O where
 | exit0
def f3n4E(bi1:Bool)(ba2:Qd)(bk3:List Qa):f3n4O→Ex×Tr×Hp
 | .exit0=>((.exit 0),mkS [(3,(.bp 0 0)),(5,(.own 1)),(14,(jB bi1))],[some (.box 24 ((Qd.cells ba2).map .pl)),jR 4 Qa.cells bk3])
def f3n4S(bi1:Bool)(ba2:Qd)(bk3:List Qa)(v89:Int)(v90:List Qa):Tr×Hp:=(mkS [(3,(.bp 0 0)),(5,(.own 1)),(10,(.own 2)),(14,(jB bi1)),(15,(jI v89))],[some (.box 24 ((Qd.cells ba2).map .pl)),jR 4 Qa.cells bk3,jR 4 Qa.cells v90])
noncomputable def f3n4:Nat→Bool→Qd→List Qa→Int→List Qa→Option f3n4O
 | 0,_,_,_,_,_=>none
 | f+1,bi1,ba2,bk3,v89,v90 =>
  bif decide (v89<(v90.length:Int)) then
   (at? v90 v89).bind fun x95 =>
   (f3n4 f bi1 ba2 bk3 (wr64 (v89+1)) (v90.set (Int.toNat v89) (Qa.mk x95.Account x95.Ccy (-7) x95.Out)))
  else
   some .exit0
theorem f3n4_ok:∀(f:Nat)(bi1:Bool)(ba2:Qd)(bk3:List Qa)(v89:Int)(v90:List Qa){o:f3n4O},f3n4 f bi1 ba2 bk3 v89 v90=some o→TL Tryd.prog Tryd.f3.ntmps 0 f (cL (cL (Qj 1 (cL (Qj 0 (Qj 1 (Qj 4 (Qj 1 (Qj 2 c3))))))))) (f3n4S bi1 ba2 bk3 v89 v90) (·=f3n4E bi1 ba2 bk3 o)
 | 0,_,_,_,_,_,o,h=>by rw [f3n4] at h; cases h
 | f+1,bi1,ba2,bk3,v89,v90,o,h=>by
  rw [f3n4] at h;refine TL.body (K:=fun s=>∃v89:Int,∃v90:List Qa,s=(f3n4S bi1 ba2 bk3 v89 v90)∧f3n4 f bi1 ba2 bk3 v89 v90=some o) ?_ (by rintro _ ⟨v89,v90,rfl,hk⟩; exact f3n4_ok f _ _ _ _ _ hk);rcases Qf h with ⟨h92,h⟩|⟨h92,h⟩
  ·obtain ⟨x95,h96,h⟩:=Qb h;exact rE Qe [([],[],[(2,.val (jI (v90.length:Int)))]),([],[(2,.at_ (Int.toNat v89)),(4,.idx 0 (Qa.cells x95))],[(4,.row 2 ((v90.set (Int.toNat v89) (Qa.mk x95.Account x95.Ccy (-7) x95.Out)).map Qa.cells))]),j3] [some true] [] [0,1,2] [3,5,10,14,15] (.norm,(f3n4S bi1 ba2 bk3 (wr64 (v89+1)) (v90.set (Int.toNat v89) (Qa.mk x95.Account x95.Ccy (-7) x95.Out)))) (ap (Qx (xs:=v90) (c:=Qa.cells)) (ap h92 (ap (Qi h96).1 (ap (lt_map Qa.cells (Qi h96).2) (ap (Qu Qa.cells (Qi h96).2) (ap (set_cv (xs:=v90) (c:=Qa.cells) (k:=(Int.toNat v89)) (x:=(Qa.mk x95.Account x95.Ccy (-7) x95.Out))) an)))))) (Qy.norm ⟨(wr64 (v89+1)),(v90.set (Int.toNat v89) (Qa.mk x95.Account x95.Ccy (-7) x95.Out)),rfl,h⟩)
  ·obtain rfl:=Qc h;exact rK Qe 1 [([],[],[(2,.val (jI (v90.length:Int)))])] [some false] [] [0,1] [3,5,14] (.exit 0) ((f3n4E bi1 ba2 bk3 .exit0).2) (ap (Qx (xs:=v90) (c:=Qa.cells)) (ap h92 an)) (Qy.out rfl rfl)
inductive f3n3O where
 | norm
def f3n3E(bi1:Bool)(ba2:Qd)(bk3:List Qa)(bm4:Int×(List Qa)):f3n3O→Ex×Tr×Hp
 | .norm=>(.norm,mkS [(3,(.bp 0 0)),(5,(.own 1)),(14,(jB bi1))],[some (.box 24 ((Qd.cells ba2).map .pl)),jR 4 Qa.cells bk3])
def f3n3S(bi1:Bool)(ba2:Qd)(bk3:List Qa)(bm4:Int×(List Qa)):Tr×Hp:=(mkS [(3,(.bp 0 0)),(5,(.own 1)),(10,(.own 2)),(14,(jB bi1))],[some (.box 24 ((Qd.cells ba2).map .pl)),jR 4 Qa.cells bk3,jR 4 Qa.cells bm4.2])
noncomputable def f3n3(bi1:Bool)(ba2:Qd)(bk3:List Qa)(bm4:Int×(List Qa)):Option f3n3O :=
 (f3n4 FUEL bi1 ba2 bk3 0 bm4.2).bind fun o97=>match o97 with
 | .exit0=>some .norm
theorem f3n3_ok(bi1:Bool)(ba2:Qd)(bk3:List Qa)(bm4:Int×(List Qa)){o:f3n3O}(h:f3n3 bi1 ba2 bk3 bm4=some o):T Tryd.prog Tryd.f3.ntmps 0 (cL (Qj 0 (Qj 1 (Qj 4 (Qj 1 (Qj 2 c3)))))) (f3n3S bi1 ba2 bk3 bm4) (·=f3n3E bi1 ba2 bk3 bm4 o):=by
 unfold f3n3 at h;refine rN Qe 1 [j3] [] [] [0,1,2] [3,5,10,14,15] (f3n4S bi1 ba2 bk3 0 bm4.2) an ?_;obtain ⟨o97,h98,h⟩:=Qb h;cases o97 with
 | exit0 =>
  obtain rfl:=Qc h;exact T.last' (T.bl (i:=0) (by kernel_rfl) (by kernel_rfl) (f3n4_ok FUEL bi1 ba2 bk3 0 bm4.2 h98)) (tds:=[]) (m:=[0,1]) (keep:=[3,5,14]) (st2:=(f3n3E bi1 ba2 bk3 bm4 .norm).2) (by kernel_rfl) an rfl
inductive f3n0O where
 | ret (v107:Bool)
def f3n0E(a1 a2:Qd):f3n0O→Ex×Tr×Hp
 | .ret v107=>(.ret,mkS [(4,(jB v107))],[])
def f3n0S(a1 a2:Qd):Tr×Hp:=(Qbd [(jA Qd.cells a1),(jA Qd.cells a2)] 0 .leaf,[])
noncomputable def f3n0(a1 a2:Qd):Option f3n0O :=
 (f9 a1).bind fun x9 =>
 bif x9 then
  some (.ret true)
 else
  (f9 a2).bind fun x12 =>
  bif x12 then
   some (.ret true)
  else
   (f3n1 a1 a2).bind fun o22=>match o22 with
   | .norm v24=>(f10 a1).bind fun x27 =>
    (f11 a1).bind fun x31 =>
    (f12r1 a1 a2).bind fun x35 =>
    (f13 a1 a2).bind fun x39 =>
    (f3n2 x27 x31 x35 x39 a1 a2 v24).bind fun o72=>match o72 with
    | .norm v74=>(f3n3 v74 a2 v24 x35).bind fun o99=>match o99 with
     | .norm=>bif v74 then
       (f14 a2.Rows v24).bind fun x105 =>
       some (.ret x105)
      else
       some (.ret false)
theorem f3n0_ok(a1 a2:Qd){o:f3n0O}(h:f3n0 a1 a2=some o):T Tryd.prog Tryd.f3.ntmps 0 c3 (f3n0S a1 a2) (·=f3n0E a1 a2 o):=by
 unfold f3n0 at h;obtain ⟨x9,h10,h⟩:=Qb h;rcases Qf h with ⟨h11,h⟩|⟨h11,h⟩
 ·obtain rfl:=Qc h;exact rK Qe 2 [j3,([(3,true),(4,true)],[jH 1 (jB x9),(5,.bool true)],[]),j3] [none] [] [] [4] .ret ((f3n0E a1 a2 (.ret true)).2) (ap3 h11 (ap (f9_ok a1 h10) an)) rfl
 ·obtain ⟨x12,h13,h⟩:=Qb h;rcases Qf h with ⟨h14,h⟩|⟨h14,h⟩
  ·obtain rfl:=Qc h;exact rK Qe 2 [j3,([(3,false),(4,false)],[jH 1 (jB x9),jH 4 (jB x12),(5,.bool false)],[]),j3] [some true] [] [] [4] .ret ((f3n0E a1 a2 (.ret true)).2) (ap3 h11 (ap (f9_ok a1 h10) (ap (f9_ok a2 h13) (ap h14 an)))) rfl
  ·refine rN Qe 2 [j3,([(3,false),(4,false)],[jH 1 (jB x9),jH 4 (jB x12),(5,.bool false)],[])] [some false] [] [0,1] [2,3] (f3n1S a1 a2) (ap3 h11 (ap (f9_ok a1 h10) (ap (f9_ok a2 h13) (ap h14 an)))) ?_;obtain ⟨o22,h23,h⟩:=Qb h;cases o22 with
   | norm v24 =>
    refine T.oneN (by kernel_rfl) (f3n1_ok a1 a2 h23) (st2:=(f3n1E a1 a2 (.norm v24)).2) rfl ?_;obtain ⟨x27,h28,h⟩:=Qb h;obtain ⟨x31,h32,h⟩:=Qb h;obtain ⟨x35,h36,h⟩:=Qb h;obtain ⟨x39,h40,h⟩:=Qb h;refine rN Qe 4 [([],[jH 1 (.tup [(jS x27.1),(jI x27.2)])],[]),([],[jH 1 (.tup [(jS x31.1),(jI x31.2)])],[]),([],[(2,.call (.tup [(.own 3),(jI x35.1)]) (jN 3 [jR 4 Qa.cells x35.2]))],[]),([],[jH 2 (.tup [(jL 4 Qa.cells x39.1),(jI x39.2)])],[])] [] [] [0,1,2,3] [2,3,5,6,7,8,9,10,11,12,13] (f3n2S x27 x31 x35 x39 a1 a2 v24) (ap (f10_ok a1 h28) (ap (f11_ok a1 h32) (ap (Qs.rn 3 [] (f12r1_ok a1 a2 h36)) (ap (f13_ok a1 a2 h40) an)))) ?_;obtain ⟨o72,h73,h⟩:=Qb h;cases o72 with
    | norm v74 =>
     refine T.oneN (by kernel_rfl) (f3n2_ok x27 x31 x35 x39 a1 a2 v24 h73) (st2:=(f3n2E x27 x31 x35 x39 a1 a2 v24 (.norm v74)).2) rfl ?_;refine rN Qe 0 [] [] [] [0,1,2] [3,5,10,14] (f3n3S v74 a2 v24 x35) an ?_;obtain ⟨o99,h100,h⟩:=Qb h;cases o99 with
     | norm =>
      refine T.oneN (by kernel_rfl) (f3n3_ok v74 a2 v24 x35 h100) (st2:=(f3n3E v74 a2 v24 x35 .norm).2) rfl ?_;rcases Qf h with ⟨h104,h⟩|⟨h104,h⟩
      ·obtain ⟨x105,h106,h⟩:=Qb h;obtain rfl:=Qc h;exact rE Qe [(jT [2,3,4,5],[jH 5 (jB x105),(6,.bool true)],[])] [] [] [] [4] (.ret,(f3n0E a1 a2 (.ret x105)).2) (ap h104 (ap4 h104 (ap (f14_ok a2.Rows v24 h106) an))) rfl
      ·obtain rfl:=Qc h;exact rE Qe [(jF [2,3,4,5],[(6,.bool false)],[])] [] [] [] [4] (.ret,(f3n0E a1 a2 (.ret false)).2) (ap h104 (ap4 h104 an)) rfl
noncomputable def f3(a1 a2:Qd):Option Bool:=(f3n0 a1 a2).bind fun o=>match o with
 | .ret v107=>some v107
theorem f3_ok(a1 a2:Qd){r:Bool}(h:f3 a1 a2=some r):Qs Tryd.prog false 3 [(jA Qd.cells a1),(jA Qd.cells a2)] [] (jB r) []:=by
 unfold f3 at h;obtain ⟨o,ho,h⟩:=Qb h;cases o with
 | ret v107 =>
  obtain rfl:=Qc h;exact Qs.plain Qe (f:=Tryd.f3) (c:=c3) (by kernel_rfl) (by kernel_rfl) (by kernel_rfl) (by kernel_rfl) ((f3n0_ok a1 a2 ho).mono fun r e=>by subst e; exact ⟨.inl rfl,(jB v107),(jB v107),by kernel_rfl,by kernel_rfl,((Wk.refl _):Wk (jB v107) (jB v107))⟩)
end Go.Proofs.YtfeklaffeigilaaDoor
namespace Go.Proofs.YtfeklaffeigilaaDoor
set_option linter.unusedVariables false
set_option linter.unusedSimpArgs false
set_option maxRecDepth 100000
open Go.RowKit


















end Go.Proofs.YtfeklaffeigilaaDoor
namespace Go.Proofs.YtfeklaffeigilaaDoor
set_option linter.unusedVariables false
set_option linter.unusedSimpArgs false
set_option maxRecDepth 100000
open Go.RowKit


















end Go.Proofs.YtfeklaffeigilaaDoor
namespace Go.Proofs.YtfeklaffeigilaaDoor
set_option linter.unusedVariables false
set_option linter.unusedSimpArgs false
set_option maxRecDepth 100000
open Go.RowKit











noncomputable def c6:Code:=Tryd.f6.body.getD .skip
end Go.Proofs.YtfeklaffeigilaaDoor
namespace Go.Proofs.YtfeklaffeigilaaDoor
set_option linter.unusedVariables false
set_option linter.unusedSimpArgs false
set_option maxRecDepth 100000
open Go.RowKit

end Go.Proofs.YtfeklaffeigilaaDoor
namespace Go.Proofs.YtfeklaffeigilaaDoor
set_option linter.unusedVariables false
set_option linter.unusedSimpArgs false
open Go.RowKit
abbrev RW:=Qa
abbrev KY:=Key_


def rwC(a b:RW):Int:=cmpOr (cmpB a.Account b.Account) (cmpB a.Ccy b.Ccy)
theorem rwC_cmp:Cmp rwC:=(Cmp.str Qa.Account).lex (Cmp.str Qa.Ccy)
abbrev ltR:RW→RW→Bool:=fun x y=>decide (rwC x y<0)
theorem swoR:SWo ltR:=rwC_cmp.swo
theorem cmpOr_zero{a b:Int} : cmpOr a b=0↔a=0∧b=0:=by
 unfold cmpOr
 by_cases h:a=0
 ·rw [decide_eq_true h]; simp [h]
 ·rw [decide_eq_false h]; simp [h]
theorem rwC_zero{a b:RW} : rwC a b=0↔a.Account=b.Account∧a.Ccy=b.Ccy:=by
 unfold rwC;rw [cmpOr_zero,cmpB_zero,cmpB_zero]
abbrev sameR(a b:RW):Prop:=a.Account=b.Account∧a.Ccy=b.Ccy
theorem lt_same_l{a b c:RW}(h:sameR a b):ltR a c=ltR b c:=by unfold ltR rwC; rw [h.1,h.2]
theorem lt_same_r{a b c:RW}(h:sameR a b):ltR c a=ltR c b:=by unfold ltR rwC; rw [h.1,h.2]
theorem lt_irr_same{a b:RW}(h:sameR a b):ltR a b=false:=by rw [lt_same_l h]; exact swoR.irr b
theorem lt_tot{a b:RW}(h:ltR a b=false)(k:ltR b a=false):sameR a b:=by
 exact rwC_zero.1 (rwC_cmp.tot (of_decide_eq_false h) (of_decide_eq_false k))
def befR(a b:RW):Bool:=bif seq a.Account b.Account then slt a.Ccy b.Ccy else slt a.Account b.Account
theorem bef_lt(a b:RW):befR a b=ltR a b:=by
 unfold befR ltR rwC cmpOr;cases h:seq a.Account b.Account with
 | true =>
  rw [cond_true,decide_eq_true (cmpB_zero.2 (seq_iff.1 h)),cond_true];rw [Bool.eq_iff_iff,decide_eq_true_eq,cmpB_neg]
 | false =>
  have:cmpB a.Account b.Account≠0:=fun e=>by rw [cmpB_zero.1 e,seq_refl] at h; cases h
  rw [cond_false,decide_eq_false this,cond_false,Bool.eq_iff_iff,decide_eq_true_eq,cmpB_neg]

def addR(x y:RW):RW:=⟨x.Account,x.Ccy,wr64 (x.In+y.In),wr64 (x.Out+y.Out)⟩
def withR:List RW→RW→List RW
 | [],x=>[x]
 | y::r,x=>bif ltR y x then y::withR r x else bif ltR x y then x::y::r else addR x y::r
abbrev RwS(l:List RW):Prop:=l.Pairwise fun x y=>ltR x y=true
def getR(l:List RW)(x:RW):RW:=match l.find? (fun y=>!(ltR x y)&&!(ltR y x)) with | some y=>addR x y | none=>x
theorem with_mem{x:RW} : ∀{l:List RW},RwS l→∀z,z∈withR l x↔(z∈l∧¬sameR z x)∨z=getR l x
 | [],_,z=>by simp [withR,getR]
 | y::r,h,z=>by
  have h':=List.pairwise_cons.1 h;have ih:=with_mem (x:=x) h'.2 z;rw [withR];cases h1:ltR y x with
  | true =>
   have hns:¬sameR y x:=fun e=>by rw [lt_irr_same e] at h1; cases h1
   have hg:getR (y::r) x=getR r x:=by
    unfold getR;rw [List.find?_cons,h1,Bool.not_true,Bool.and_false]
   rw [cond_true,List.mem_cons,ih,hg,List.mem_cons]
   constructor
   ·rintro (rfl | ⟨k1,k2⟩ | k)
    ·exact .inl ⟨.inl rfl,hns⟩
    ·exact .inl ⟨.inr k1,k2⟩
    ·exact .inr k
   ·rintro (⟨rfl | k1,k2⟩ | k)
    ·exact .inl rfl
    ·exact .inr (.inl ⟨k1,k2⟩)
    ·exact .inr (.inr k)
  | false =>
   rw [cond_false];cases h2:ltR x y with
   | true =>
    have hr:∀w∈y::r,ltR x w=true:=fun w hw=>by
     rcases List.mem_cons.1 hw with rfl | hw
     ·exact h2
     ·exact swoR.tr h2 (h'.1 w hw)
    have hg:getR (y::r) x=x:=by
     unfold getR;rw [List.find?_eq_none.2 fun w hw=>by rw [hr w hw]; simp]
    rw [cond_true,List.mem_cons,hg]
    constructor
    ·rintro (k | k)
     ·exact .inr k
     ·refine .inl ⟨k,fun e=>?_⟩;have:=hr z k;rw [lt_irr_same ⟨e.1.symm,e.2.symm⟩] at this; cases this
    ·rintro (⟨k,_⟩ | k)
     ·exact .inr k
     ·exact .inl k
   | false =>
    have hs:=lt_tot h1 h2;have hg:getR (y::r) x=addR x y:=by
     unfold getR;rw [List.find?_cons,h1,h2]; rfl
    have hr:∀w∈r,¬sameR w x:=fun w hw e=>by
     have:=h'.1 w hw;rw [lt_same_r e,lt_irr_same hs] at this; cases this
    rw [cond_false,List.mem_cons,hg,List.mem_cons]
    constructor
    ·rintro (k | k)
     ·exact .inr k
     ·exact .inl ⟨.inr k,hr z k⟩
    ·rintro (⟨rfl | k,k2⟩ | k)
     ·exact absurd hs k2
     ·exact .inr k
     ·exact .inl k
theorem add_same(x y:RW):sameR (addR x y) x:=⟨rfl,rfl⟩
theorem with_sr{x:RW} : ∀{l:List RW},RwS l→RwS (withR l x)
 | [],_=>by simp [withR]
 | y::r,h=>by
  have h':=List.pairwise_cons.1 h;rw [withR];cases h1:ltR y x with
  | true =>
   refine List.pairwise_cons.2 ⟨fun z hz=>?_,with_sr h'.2⟩;rcases (with_mem h'.2 z).1 hz with ⟨k,_⟩ | k
   ·exact h'.1 z k
   ·have hs:sameR z x:=by
     rw [k];unfold getR
     split
     ·exact add_same _ _
     ·exact ⟨rfl,rfl⟩
    rw [lt_same_r hs]; exact h1
  | false =>
   rw [cond_false];cases h2:ltR x y with
   | true =>
    refine List.pairwise_cons.2 ⟨fun z hz=>?_,h⟩;rcases List.mem_cons.1 hz with rfl | hz
    ·exact h2
    ·exact swoR.tr h2 (h'.1 z hz)
   | false =>
    have hs:=lt_tot h1 h2;refine List.pairwise_cons.2 ⟨fun z hz=>?_,h'.2⟩;rw [lt_same_l (add_same x y),←lt_same_l hs];exact h'.1 z hz

abbrev TB_:=List (KY×RW)
theorem keq_iff(a b:KY):Key_.eqb a b=true↔a=b:=by
 cases a; cases b;unfold Key_.eqb;simp only [Bool.and_eq_true,seq_iff,Key_.mk.injEq]
def zR:RW:=⟨⟨#[]⟩,⟨#[]⟩,0,0⟩
def kyR(x:RW):KY:=⟨x.Account,x.Ccy⟩
def addT(m:TB_)(x:RW):TB_:=mPut Key_.eqb (kyR x) ⟨x.Account,x.Ccy,wr64 ((mGet Key_.eqb zR (kyR x) m).In+x.In),wr64 ((mGet Key_.eqb zR (kyR x) m).Out+x.Out)⟩ m
theorem mput_iff{K V:Type}{E:K→K→Bool}(hE:∀a b,E a b=true↔a=b){k:K}{v:V} : ∀{m:List (K×V)},ndK m→∀x,x∈mPut E k v m↔x=(k,v)∨(x∈m∧x.1≠k)
 | [],_,x=>by simp [mPut]
 | (a,w)::r,h,x=>by
  have h':=List.pairwise_cons.1 h;rw [mPut];cases hk:E k a with
  | true =>
   have:=(hE _ _).1 hk; subst this;rw [cond_true,List.mem_cons,List.mem_cons]
   constructor
   ·rintro (e | e)
    ·exact .inl e
    ·exact .inr ⟨.inr e,fun k'=>h'.1 x e k'.symm⟩
   ·rintro (e | ⟨e | e,k'⟩)
    ·exact .inl e
    ·rw [e] at k'; exact absurd rfl k'
    ·exact .inr e
  | false =>
   have hne:a≠k:=fun e=>by rw [e,eRefl hE] at hk; cases hk
   rw [cond_false,List.mem_cons,List.mem_cons,mput_iff hE h'.2 x]
   constructor
   ·rintro (e | e | ⟨e,k'⟩)
    ·exact .inr ⟨.inl e,by rw [e]; exact hne⟩
    ·exact .inl e
    ·exact .inr ⟨.inr e,k'⟩
   ·rintro (e | ⟨e | e,k'⟩)
    ·exact .inr (.inl e)
    ·exact .inl e
    ·exact .inr (.inr ⟨e,k'⟩)
structure TR (m:TB_) (l:List RW):Prop where
 nd:ndK m
 key:∀x∈m,x.1=kyR x.2
 sr:RwS l
 rng:∀z∈l,-9223372036854775808≤z.In∧z.In≤9223372036854775807∧-9223372036854775808≤z.Out∧z.Out≤9223372036854775807
 mem:∀z,z∈l↔∃k,(k,z)∈m
theorem TR.nil:TR [] []:=⟨by simp,by simp,by simp,by simp,by simp⟩
theorem ky_same{x y:RW} : kyR x=kyR y↔sameR x y:=by
 unfold kyR; rw [Key_.mk.injEq]
theorem wr_id0{n:Int}(h1:-9223372036854775808≤n)(h2:n≤9223372036854775807):wr64 (0+n)=n:=by rw [Int.zero_add]; exact wrIn h1 h2
theorem wr_rng(n:Int) : -9223372036854775808≤wr64 n∧wr64 n≤9223372036854775807:=by
 show -9223372036854775808≤IntKind.i64.wrap n∧IntKind.i64.wrap n≤9223372036854775807;rw [IntKind.wrap_i64]; omega
theorem get_add{m:TB_}{l:List RW}(T:TR m l){x:RW}(h1:-9223372036854775808≤x.In∧x.In≤9223372036854775807)(h2:-9223372036854775808≤x.Out∧x.Out≤9223372036854775807) :
  (⟨x.Account,x.Ccy,wr64 ((mGet Key_.eqb zR (kyR x) m).In+x.In),wr64 ((mGet Key_.eqb zR (kyR x) m).Out+x.Out)⟩:RW)=getR l x:=by
 unfold getR;cases h:l.find? (fun y=>!(ltR x y)&&!(ltR y x)) with
 | none =>
  have hn:mGet Key_.eqb zR (kyR x) m=zR:=mgetNone keq_iff fun q hq e=>by
   have hz:=(T.mem q.2).2 ⟨q.1,hq⟩;have:=List.find?_eq_none.1 h q.2 hz;have hs:sameR q.2 x:=ky_same.1 (by rw [←T.key q hq,e]);rw [lt_irr_same hs,lt_irr_same ⟨hs.1.symm,hs.2.symm⟩] at this;exact this rfl
  rw [hn];show (⟨x.Account,x.Ccy,wr64 (0+x.In),wr64 (0+x.Out)⟩:RW)=x;rw [wr_id0 h1.1 h1.2,wr_id0 h2.1 h2.2]
 | some y =>
  have hy:=List.mem_of_find?_eq_some h;have hp:=List.find?_some h;simp only [Bool.and_eq_true,Bool.not_eq_true'] at hp;have hs:=lt_tot hp.1 hp.2;obtain ⟨k,hk⟩:=(T.mem y).1 hy;have hkk:k=kyR x:=by
   have:=T.key _ hk;rw [show k=kyR y from this];exact ky_same.2 ⟨hs.1.symm,hs.2.symm⟩
  have:mGet Key_.eqb zR (kyR x) m=y:=mgetMem keq_iff T.nd (by rw [←hkk]; exact hk);rw [this];unfold addR;rw [Int.add_comm y.In,Int.add_comm y.Out]
theorem TR.add{m:TB_}{l:List RW}(T:TR m l){x:RW}(h1:-9223372036854775808≤x.In∧x.In≤9223372036854775807)(h2:-9223372036854775808≤x.Out∧x.Out≤9223372036854775807):TR (addT m x) (withR l x):=by
 have hg:=get_add T h1 h2;have hmem:∀q,q∈addT m x↔q=(kyR x,getR l x)∨(q∈m∧q.1≠kyR x):=fun q=>by
  unfold addT;rw [mput_iff keq_iff T.nd,hg]
 have hsame:sameR (getR l x) x:=by
  unfold getR
  split
  ·exact add_same _ _
  ·exact ⟨rfl,rfl⟩
 refine ⟨mputNd keq_iff T.nd,fun q hq=>?_,with_sr T.sr,fun z hz=>?_,fun z=>?_⟩
 ·rcases (hmem q).1 hq with rfl | ⟨k,_⟩
  ·exact ky_same.2 ⟨hsame.1.symm,hsame.2.symm⟩
  ·exact T.key q k
 ·rcases (with_mem T.sr z).1 hz with ⟨k,_⟩ | rfl
  ·exact T.rng z k
  ·rw [←hg];have a1:=wr_rng ((mGet Key_.eqb zR (kyR x) m).In+x.In);have a2:=wr_rng ((mGet Key_.eqb zR (kyR x) m).Out+x.Out);exact ⟨a1.1,a1.2,a2.1,a2.2⟩
 ·rw [with_mem T.sr]
  constructor
  ·rintro (⟨k1,k2⟩ | rfl)
   ·obtain ⟨k,hk⟩:=(T.mem z).1 k1;refine ⟨k,(hmem _).2 (.inr ⟨hk,fun e=>k2 ?_⟩)⟩;rw [←ky_same,←T.key _ hk]; exact e
   ·exact ⟨kyR x,(hmem _).2 (.inl rfl)⟩
  ·rintro ⟨k,hk⟩
   rcases (hmem _).1 hk with e | ⟨k1,k2⟩
   ·exact .inr (congrArg Prod.snd e)
   ·refine .inl ⟨(T.mem z).2 ⟨k,k1⟩,fun e=>k2 ?_⟩;show k=kyR x;rw [show k=kyR z from T.key _ k1];exact ky_same.2 e
end Go.Proofs.YtfeklaffeigilaaDoor
namespace Go.Proofs.YtfeklaffeigilaaDoor
set_option linter.unusedVariables false
set_option linter.unusedSimpArgs false
open Go.RowKit

theorem f60_eq(c:Int):f60 c=some (ltrI c):=by
 unfold f60 f60n0 ltrI;cases decide (97≤c)<;>cases decide (c≤122)<;>cases decide (65≤c)<;>cases decide (c≤90)<;>rfl
theorem f40n2_eq{s:ByteArray}{k:Int}{b:UInt8}(h:at? s.data.toList k=some b):f40n2 s k=some (bif chB b then .norm else .ret):=by
 have h3:f40n3 s b k=some (.norm (!(chB b))):=by
  unfold f40n3 chB othI;rw [f60_eq,ltNot,ltNot];simp only [Option.bind_some];cases ltrI b.toNat<;>cases decide ((48:Int)≤(b.toNat:Int))<;>cases decide ((b.toNat:Int)≤57)<;>cases decide ((b.toNat:Int)=95)<;>cases decide ((b.toNat:Int)=45)<;>rfl
 unfold f40n2;rw [h];simp only [Option.bind_some,h3];cases chB b<;>rfl
theorem f40n4_at(s:ByteArray)(hs:s.data.toList.length≤1000):∀(r:List UInt8)(f k:Nat),s.data.toList.drop k=r→r.length<f→f40n4 f s (k:Int)=some (bif r.all chB then .exit0 else .ret)
 | _,0,_,_,h=>absurd h (Nat.not_lt_zero _)
 | [],f+1,k,hd,_=>by
  have:=Qah hd;rw [f40n4,sizeList,decide_eq_false (by omega),cond_false]; rfl
 | b::r,f+1,k,hd,hf=>by
  obtain ⟨h1,h2,h3⟩:=dropAt hd;rw [f40n4,sizeList,decide_eq_true (by omega),cond_true,f40n2_eq h1,List.all_cons];cases chB b with
  | false=>rfl
  | true =>
   simp only [cond_true,Option.bind_some,Bool.true_and];rw [wrSucc (by omega)];exact f40n4_at s hs r f (k+1) h3 (by simpa using hf)
theorem f40_eq(s:ByteArray):f40 s=some (nmB s):=by
 unfold f40 f40n0 nmB;rw [sizeList]
 by_cases hs:s.data.toList.length≤40
 ·have h1:f40n1 s=some (bif s.data.toList.all chB then .norm else .ret):=by
   unfold f40n1;have:=f40n4_at s (by omega) s.data.toList FUEL 0 List.drop_zero (Qaw (by omega));rw [show ((0:Nat):Int)=0 from rfl] at this;rw [this];cases s.data.toList.all chB<;>rfl
  rw [h1];generalize s.data.toList=l at hs;rw [decide_eq_false (by omega:¬(40:Int)<(l.length:Int))];cases l with
  | nil=>rfl
  | cons b r =>
   have h0:at? (b::r) 0=some b:=rfl;rw [decide_eq_false (by simp; omega:¬(((b::r).length:Nat):Int)<1),h0];simp only [cond_false,Option.bind_some,f60_eq,isNm,decide_eq_true hs,Bool.true_and,List.all_cons,chB];cases ltrI b.toNat<;>cases othI b.toNat<;>cases r.all chB<;>rfl
 ·rw [decide_eq_false (by omega:¬((s.data.toList.length:Nat):Int)<1),decide_eq_true (by omega:(40:Int)<((s.data.toList.length:Nat):Int))];have:isNm s.data.toList=false:=by
   generalize s.data.toList=l at hs;cases l with
   | nil=>rfl
   | cons b r=>simp only [isNm,decide_eq_false hs,Bool.false_and]
  rw [this]; rfl


def sumsL:List Qh→List (ByteArray×Int)→List (ByteArray×Int)
 | [],m=>m
 | x::l,m=>sumsL l (mPut seq x.Ccy (wr64 (mGet seq 0 x.Ccy m+x.Amount)) m)
def balB(r:Qg):Bool:=(sumsL r.Lines []).all fun x=>decide (x.2=0)

def acc(x:Qh):Qm:=⟨x.Account,x.Ccy⟩
end Go.Proofs.YtfeklaffeigilaaDoor
namespace Go.Proofs.YtfeklaffeigilaaDoor
set_option linter.unusedVariables false
set_option linter.unusedSimpArgs false
open Go.RowKit
theorem wr_wr(a:Int):wr64 (wr64 a)=wr64 a:=by
 have:=wrL a 0;simpa using this
theorem seqC(a b:ByteArray):seq a b=seq b a:=by
 cases h:seq a b with
 | true=>rw [seq_iff.1 h,seq_refl]
 | false =>
  symm
  refine seqF fun e=>?_;rw [e,seq_refl] at h; cases h
theorem seq_iff'(a b:ByteArray):seq a b=true↔a=b:=seq_iff


def sC(c:ByteArray):List Qh→Int
 | []=>0
 | x::r=>(bif seq x.Ccy c then x.Amount else 0)+sC c r
theorem sums_get(c:ByteArray):∀(l:List Qh)(m:List (ByteArray×Int)),(∀c,wr64 (mGet seq 0 c m)=mGet seq 0 c m)→mGet seq 0 c (sumsL l m)=wr64 (mGet seq 0 c m+sC c l)
 | [],m,h=>by rw [sumsL,sC,Int.add_zero,h]
 | x::l,m,h=>by
  have h':∀c,wr64 (mGet seq 0 c (mPut seq x.Ccy (wr64 (mGet seq 0 x.Ccy m+x.Amount)) m))=mGet seq 0 c (mPut seq x.Ccy (wr64 (mGet seq 0 x.Ccy m+x.Amount)) m):=fun c=>by
   rw [mgetPut seq_iff'];cases seq c x.Ccy with
   | true=>exact wr_wr _
   | false=>exact h c
  rw [sumsL,sums_get c l _ h',mgetPut seq_iff',sC,seqC c];cases k:seq x.Ccy c with
  | true=>rw [cond_true,cond_true,seq_iff.1 k,wrL,Int.add_assoc]
  | false=>rw [cond_false,cond_false,Int.zero_add]
theorem sums_nd:∀(l:List Qh)(m:List (ByteArray×Int)),ndK m→ndK (sumsL l m)
 | [],_,h=>h
 | x::l,m,h=>sums_nd l _ (mputNd seq_iff' h)
theorem sums_keys:∀(l:List Qh)(m:List (ByteArray×Int))(q:ByteArray),(∃e∈sumsL l m,e.1=q)↔(∃e∈m,e.1=q)∨∃x∈l,x.Ccy=q
 | [],m,q=>by simp [sumsL]
 | x::l,m,q=>by
  rw [sumsL,sums_keys l]
  constructor
  ·rintro (h | ⟨y,hy,e⟩)
   ·rcases mputKeys seq_iff' h with rfl | h
    ·exact .inr ⟨x,List.mem_cons_self,rfl⟩
    ·exact .inl h
   ·exact .inr ⟨y,List.mem_cons_of_mem _ hy,e⟩
  ·rintro (h | ⟨y,hy,e⟩)
   ·exact .inl (mputKeep seq_iff' h)
   ·rcases List.mem_cons.1 hy with rfl | hy
    ·refine .inl ?_;obtain ⟨z,hz,e2⟩:=mputHas seq_iff' y.Ccy (wr64 (mGet seq 0 y.Ccy m+y.Amount)) m;exact ⟨z,hz,e2.trans e⟩
    ·exact .inr ⟨y,hy,e⟩
def sumB(r:Qg):Bool:=r.Lines.all fun x=>decide (wr64 (sC x.Ccy r.Lines)=0)
theorem bal_sum(r:Qg):balB r=sumB r:=by
 have hget:∀c,mGet seq 0 c (sumsL r.Lines [])=wr64 (sC c r.Lines):=fun c=>by
  have:=sums_get c r.Lines [] (fun _=>rfl);rw [this];show wr64 (0+_)=_;rw [Int.zero_add]
 have hnd:=sums_nd r.Lines [] (by simp);have hk:=sums_keys r.Lines [];unfold balB sumB;rw [Bool.eq_iff_iff,List.all_eq_true,List.all_eq_true]
 constructor
 ·intro h x hx;obtain ⟨e,he,eq⟩:=(hk x.Ccy).2 (.inr ⟨x,hx,rfl⟩);have h1:=of_decide_eq_true (h e he);have h2:mGet seq 0 e.1 (sumsL r.Lines [])=e.2:=mgetMem seq_iff' hnd he;rw [eq,hget,h1] at h2;exact decide_eq_true h2
 ·intro h e he;rcases (hk e.1).1 ⟨e,he,rfl⟩ with ⟨_,h0,_⟩|⟨x,hx,eq⟩
  ·cases h0
  ·have h1:=of_decide_eq_true (h x hx);have h2:mGet seq 0 e.1 (sumsL r.Lines [])=e.2:=mgetMem seq_iff' hnd he;rw [hget,←eq,h1] at h2;exact decide_eq_true h2.symm

end Go.Proofs.YtfeklaffeigilaaDoor
namespace Go.Proofs.YtfeklaffeigilaaDoor
set_option linter.unusedVariables false
set_option linter.unusedSimpArgs false
open Go.RowKit



section
variable {s:ByteArray} {b0 b1 b2 b3 b4 b5 b6 b7 b8 b9:UInt8} (h:s.data.toList=[b0,b1,b2,b3,b4,b5,b6,b7,b8,b9])
include h
omit h in
end


end Go.Proofs.YtfeklaffeigilaaDoor
namespace Go.Proofs.YtfeklaffeigilaaDoor
set_option linter.unusedVariables false
set_option linter.unusedSimpArgs false
open Go.RowKit

theorem f80_eq(a:ByteArray):f80 a=some false:=by unfold f80 f80n0; simp [seq_refl]
theorem f62_eq(a b:ByteArray):f62 a b=some (cmpB a b):=by
 unfold f62 f62n0 cmpB;rw [f80_eq,f80_eq];simp only [Option.bind_some,cond_false];cases slt a b<;>cases seq a b<;>rfl
theorem f61_eq(x y:Int):f61 [x,y]=some (cmpOr x y):=by
 unfold f61 f61n0 f61n1 cmpOr;rw [f61n2_run [x,y] (Qbi (by simp))]
 by_cases hx:x=0
 ·by_cases hy:y=0
  ·subst hx hy; rfl
  ·subst hx; simp only [f61n2L,decide_eq_false hy,decide_true,cond_true,cond_false,Option.bind_some]
 ·simp only [f61n2L,decide_eq_false hx,cond_false,Option.bind_some]
theorem f41_eq(a b:RW):f41 a b=some (rwC a b):=by
 unfold f41 f41n0;rw [f62_eq,f62_eq];simp only [Option.bind_some,f61_eq];rfl
theorem f29_eq(a b:RW):f29 a b=some (ltR a b):=by
 rw [←bef_lt];unfold f29 f29n0 befR;cases seq a.Account b.Account<;>rfl

theorem ltR_asym{a b:RW}(h:ltR a b=true):ltR b a=false:=swoR.asym h
theorem f38n2_done{bo:List RW}{k:Int}{z:RW}(hk:at? bo k=some z){y:RW}(hy:ltR y z=true){out:List RW}(hl:out.length≤999999):f38n2 bo true k y out=some (.norm true y (out++[z])):=by
 unfold f38n2 f38n3 f38n4 f38n5;rw [hk];simp only [cond_true,cond_false,Option.bind_some,f29_eq,hy,ltR_asym hy,req,Qas (show out.length+1≤1000000 by omega) (show 48≤1000000 by omega)]
theorem f38n2_lt{bo:List RW}{k:Int}{z:RW}(hk:at? bo k=some z){x:RW}(hx:ltR z x=true){out:List RW}(hl:out.length≤999999):f38n2 bo false k x out=some (.norm false x (out++[z])):=by
 unfold f38n2 f38n3 f38n4 f38n5;rw [hk];simp only [cond_true,cond_false,Option.bind_some,f29_eq,hx,req,Qas (show out.length+1≤1000000 by omega) (show 48≤1000000 by omega),Bool.not_true]
theorem f38n2_gt{bo:List RW}{k:Int}{z:RW}(hk:at? bo k=some z){x:RW}(hx:ltR x z=true){out:List RW}(hl:out.length≤999998):f38n2 bo false k x out=some (.norm true x (out++[x]++[z])):=by
 unfold f38n2 f38n3 f38n4 f38n5;rw [hk];simp only [cond_true,cond_false,Option.bind_some,f29_eq,hx,ltR_asym hx,req,Qas (show out.length+1≤1000000 by omega) (show 48≤1000000 by omega),Bool.not_false,List.length_append,List.length_singleton,Qas (show out.length+1+1≤1000000 by omega) (show 48≤1000000 by omega)]
theorem f38n2_eq{bo:List RW}{k:Int}{z:RW}(hk:at? bo k=some z){x:RW}(h1:ltR z x=false)(h2:ltR x z=false){out:List RW}(hl:out.length≤999998):f38n2 bo false k x out=some (.norm true (addR x z) (out++[addR x z])):=by
 have hs:=lt_tot h2 h1;have e1:ltR z (addR x z)=false:=by rw [lt_same_r (add_same x z)]; exact h1
 have e2:ltR (addR x z) z=false:=by rw [lt_same_l (add_same x z)]; exact h2
 unfold addR at *;unfold f38n2 f38n3 f38n4 f38n5;rw [hk];simp only [cond_true,cond_false,Option.bind_some,f29_eq,h1,h2,e1,e2,req,Qas (show out.length+1≤1000000 by omega) (show 48≤1000000 by omega),Bool.not_false]
theorem f38n6_done{bo:List RW}(hb:bo.length≤500000):∀(rest:List RW)(f k:Nat)(y:RW)(out:List RW),bo.drop k=rest→rest.length<f→(∀z∈rest,ltR y z=true)→out.length+rest.length≤999999→f38n6 f bo true (k:Int) y out=some (.exit0 true y (out++rest))
 | _,0,_,_,_,_,h,_,_=>absurd h (Nat.not_lt_zero _)
 | [],f+1,k,y,out,hd,_,_,_=>by
  have:=Qah hd;rw [f38n6,decide_eq_false (by omega),cond_false,List.append_nil]
 | z::r,f+1,k,y,out,hd,hf,hz,hl=>by
  obtain ⟨ha,hk,hd'⟩:=dropAt hd;rw [List.length_cons] at hl hf;rw [f38n6,decide_eq_true (by omega),cond_true,f38n2_done ha (hz z List.mem_cons_self) (by omega)];simp only [Option.bind_some];rw [wrSucc (by omega),f38n6_done hb r f (k+1) y _ hd' (by omega) (fun w hw=>hz w (List.mem_cons_of_mem _ hw)) (by rw [List.length_append,List.length_singleton]; omega),List.append_assoc]; rfl
theorem f38n6_at{bo:List RW}(hb:bo.length≤400000){x:RW} : ∀(rest:List RW)(f k:Nat)(out:List RW),bo.drop k=rest→rest.length<f→RwS rest→out.length+rest.length≤900000→∃d y o,f38n6 f bo false (k:Int) x out=some (.exit0 d y o)∧((d=true∧o=out++withR rest x)∨(d=false∧y=x∧o=out++rest∧withR rest x=rest++[x]))
 | _,0,_,_,_,h,_,_=>absurd h (Nat.not_lt_zero _)
 | [],f+1,k,out,hd,_,_,_=>by
  have:=Qah hd;rw [f38n6,decide_eq_false (by omega),cond_false];exact ⟨_,_,_,rfl,.inr ⟨rfl,rfl,by simp,rfl⟩⟩
 | z::r,f+1,k,out,hd,hf,hs,hl=>by
  obtain ⟨ha,hk,hd'⟩:=dropAt hd;have hs':=List.pairwise_cons.1 hs;rw [List.length_cons] at hl hf;rw [f38n6,decide_eq_true (by omega),cond_true,withR];cases h1:ltR z x with
  | true =>
   rw [f38n2_lt ha h1 (by omega)];simp only [Option.bind_some,cond_true];rw [wrSucc (by omega)];obtain ⟨d,y,o,e,h⟩:=f38n6_at (x:=x) hb r f (k+1) (out++[z]) hd' (by omega) hs'.2 (by rw [List.length_append,List.length_singleton]; omega);refine ⟨d,y,o,e,?_⟩;rcases h with ⟨h,k⟩|⟨h,k1,k2,k3⟩
   ·exact .inl ⟨h,by rw [k,List.append_assoc]; rfl⟩
   ·exact .inr ⟨h,k1,by rw [k2,List.append_assoc]; rfl,by rw [k3]; rfl⟩
  | false =>
   rw [cond_false];cases h2:ltR x z with
   | true =>
    rw [f38n2_gt ha h2 (by omega)];simp only [Option.bind_some,cond_true];rw [wrSucc (by omega),f38n6_done (by omega) r f (k+1) x _ hd' (by omega) (fun w hw=>swoR.tr h2 (hs'.1 w hw)) (by simp only [List.length_append,List.length_singleton]; omega)];exact ⟨_,_,_,rfl,.inl ⟨rfl,by simp⟩⟩
   | false =>
    rw [f38n2_eq ha h1 h2 (by omega)];simp only [Option.bind_some,cond_false];have hsm:=lt_tot h2 h1;rw [wrSucc (by omega),f38n6_done (by omega) r f (k+1) (addR x z) _ hd' (by omega) (fun w hw=>by
     rw [lt_same_l (add_same x z),lt_same_l hsm]; exact hs'.1 w hw) (by simp only [List.length_append,List.length_singleton]; omega)]
    exact ⟨_,_,_,rfl,.inl ⟨rfl,by simp⟩⟩
theorem f38_eq{l:List RW}(hs:RwS l)(hl:l.length≤400000)(x:RW):f38 l x=some (withR l x):=by
 obtain ⟨d,y,o,e,h⟩:=f38n6_at (x:=x) hl l FUEL 0 [] rfl (Qaw (by omega)) hs (by simp; omega);rw [show ((0:Nat):Int)=0 from rfl] at e;unfold f38 f38n0 f38n1;rw [e];rcases h with ⟨hd,ho⟩|⟨hd,hy,ho,k⟩<;>rw [hd,ho]
 ·rfl
 ·simp only [Option.bind_some,cond_false,List.nil_append,req];rw [Qas (by omega) (by omega),cond_true,k,hy]; rfl

def nzR(x:RW):Bool:=!(decide (x.In=0)&&decide (x.Out=0))
theorem tr_perm{m:TB_}{l:List RW}(T:TR m l):(m.map Prod.snd).Perm l:=by
 refine (List.perm_ext_iff_of_nodup ?_ ?_).2 fun z=>?_
 ·refine List.pairwise_map.2 (T.nd.imp_of_mem fun {a b} ha hb h e=>h ?_);rw [T.key a ha,T.key b hb,e]
 ·exact T.sr.imp fun {a b} h e=>by rw [e,swoR.irr] at h; cases h
 ·rw [T.mem z,List.mem_map]
  constructor
  ·rintro ⟨q,hq,rfl⟩; exact ⟨q.1,hq⟩
  ·rintro ⟨k,hk⟩; exact ⟨(k,z),hk,rfl⟩

theorem mxI_ge{a b:Int}(h:b≤a):mxI a b=a:=by
 unfold mxI;rw [decide_eq_false (by omega)]; rfl
theorem with_len(l:List RW)(x:RW):(withR l x).length≤l.length+1:=by
 induction l with
 | nil=>simp [withR]
 | cons y r ih =>
  rw [withR];cases ltR y x with
  | true=>rw [cond_true,List.length_cons,List.length_cons]; omega
  | false =>
   rw [cond_false];cases ltR x y<;>simp
theorem f36r2_eq(a b:ByteArray)(c d:Int)(m:TB_):f36r2 a b c d m=some ():=rfl



theorem f39_eq(a b:Int):f39 a b=some (decide (0≤a)&&(decide (a≤b)&&decide (b≤100000))):=by
 unfold f39 f39n0;cases decide (0≤a)<;>cases decide (a≤b)<;>rfl
end Go.Proofs.YtfeklaffeigilaaDoor
