/- Several texts in one. No condition. -/
import Derived.Test.YtfeklaffeigilaaDoorTR
import Derived.Test.YtfeklaffeigilaaDoorTV
import Derived.Test.YtfeklaffeigilaaDoorN3
import Derived.Test.YtfeklaffeigilaaDoorTU
namespace Go.Proofs.YtfeklaffeigilaaDoor
set_option linter.unusedVariables false
set_option linter.unusedSimpArgs false
set_option maxRecDepth 100000
open Go.RowKit
def wn32(p1:ByteArray):Option ByteArray:=bif decide (0<p1.size)&&decide (p1.size≤140737488355328) then some p1 else none
theorem wn32_ok(p1:ByteArray){r:ByteArray}(h:wn32 p1=some r):Ql Tryd.prog true 32 [.bp 0 0,.pl (.str p1)] [some bxN] (.tup [.pl (.int .i64 (p1.size:Int)),.pl .nili]) [some (bxU 1),some (.brow 5 r)]:=by
 unfold wn32 at h;cases hc:(decide (0<p1.size)&&decide (p1.size≤140737488355328)) with
 | false=>rw [hc] at h; cases h
 | true =>
  rw [hc] at h;simp only [cond_true,Option.some.injEq] at h;rw [Bool.and_eq_true] at hc;subst h;exact ws_new (of_decide_eq_true hc.1) (of_decide_eq_true hc.2)


noncomputable def c30:Code:=Tryd.f30.body.getD .skip
inductive f30r1n2O where
 | exit0 (v43:List ByteArray)
def f30r1n2E(bm2:List Int):f30r1n2O→Ex×Tr×Hp
 | .exit0 v43=>((.exit 0),mkS [(0,(.own 3)),(2,(.bp 2 0))],[none,some (.row false 1 (bm2.map (cInt .i64))),some (.box 71 [(.pl .nilp),(.pl (.sl .nil 0 []))]),jR 1 cStr v43])
def f30r1n2S(bm2:List Int)(v29:Int)(v30:List ByteArray):Tr×Hp:=(mkS [(0,(.own 3)),(2,(.bp 2 0)),(7,(.own 1)),(8,(jI (bm2.length:Int))),(9,(jI v29))],[none,some (.row false 1 (bm2.map (cInt .i64))),some (.box 71 [(.pl .nilp),(.pl (.sl .nil 0 []))]),jR 1 cStr v30])
noncomputable def f30r1n2:Nat→List Int→Int→List ByteArray→Option f30r1n2O
 | 0,_,_,_=>none
 | f+1,bm2,v29,v30 =>
  bif decide (v29<(bm2.length:Int)) then
   (at? bm2 v29).bind fun x38 =>
   (ita31 x38).bind fun x40 =>
   req (fit (v30.length+1) 16) <|
   (f30r1n2 f bm2 (wr64 (v29+1)) (v30++[x40]))
  else
   some (.exit0 v30)
theorem f30r1n2_ok:∀(f:Nat)(bm2:List Int)(v29:Int)(v30:List ByteArray){o:f30r1n2O},f30r1n2 f bm2 v29 v30=some o→TL Tryd.prog Tryd.f30.ntmps 3 f (cL (cL (Qt 1 (cL (Qt 0 c30))))) (f30r1n2S bm2 v29 v30) (·=f30r1n2E bm2 o)
 | 0,_,_,_,o,h=>by rw [f30r1n2] at h; cases h
 | f+1,bm2,v29,v30,o,h=>by
  rw [f30r1n2] at h;refine TL.body (K:=fun s=>∃v29:Int,∃v30:List ByteArray,s=(f30r1n2S bm2 v29 v30)∧f30r1n2 f bm2 v29 v30=some o) ?_ (by rintro _ ⟨v29,v30,rfl,hk⟩; exact f30r1n2_ok f _ _ _ hk);rcases Qg h with ⟨h32,h⟩|⟨h32,h⟩
  ·obtain ⟨x38,h39,h⟩:=Qe h;obtain ⟨x40,h41,h⟩:=Qe h;obtain ⟨h42,h⟩:=Qam h;exact rE Qi [j3,([],[(0,.at_ (Int.toNat v29)),(1,.idx 0 ((cInt .i64) x38))],[]),([],[jH 2 (jS x40),(4,.fits)],[(4,.row 5 ((v30++[x40]).map cStr))]),j3] [some true] [] [5] [0,2,7,8,9] (.norm,(f30r1n2S bm2 (wr64 (v29+1)) (v30++[x40]))) (ap h32 (ap (Qm h39).1 (ap (lt_map (cInt .i64) (Qm h39).2) (ap (Qag (cInt .i64) (Qm h39).2) (ap (fit_map (te:=ti9) (xs:=v30) (n:=1) (c:=cStr) h42 rfl) (ap (app_cv (xs:=v30) (ys:=[x40]) (c:=cStr)) (ap (ita31_ok x38 h41) an))))))) (Qad.norm ⟨(wr64 (v29+1)),(v30++[x40]),rfl,h⟩)
  ·obtain rfl:=Qf h;exact rK Qi 2 [j3] [some false] [] [3] [0,2] (.exit 0) ((f30r1n2E bm2 (.exit0 v30)).2) (ap h32 an) (Qad.out rfl rfl)
inductive f30r1n1O where
 | norm (v47:List ByteArray)
def f30r1n1E(bs1:List ByteArray)(bm2:List Int):f30r1n1O→Ex×Tr×Hp
 | .norm v47=>(.norm,mkS [(0,(.own 3)),(2,(.bp 2 0))],[none,some (.row false 1 (bm2.map (cInt .i64))),some (.box 71 [(.pl .nilp),(.pl (.sl .nil 0 []))]),jR 1 cStr v47])
def f30r1n1S(bs1:List ByteArray)(bm2:List Int):Tr×Hp:=(mkS [(0,(.own 0)),(1,(.own 1)),(2,(.bp 2 0))],[jR 1 cStr bs1,some (.row false 1 (bm2.map (cInt .i64))),some (.box 71 [(.pl .nilp),(.pl (.sl .nil 0 []))])])
noncomputable def f30r1n1(bs1:List ByteArray)(bm2:List Int):Option f30r1n1O :=
 (f30r1n2 FUEL bm2 0 bs1).bind fun o44=>match o44 with
 | .exit0 v46=>some (.norm v46)
theorem f30r1n1_ok(bs1:List ByteArray)(bm2:List Int){o:f30r1n1O}(h:f30r1n1 bs1 bm2=some o):T Tryd.prog Tryd.f30.ntmps 3 (cL (Qt 0 c30)) (f30r1n1S bs1 bm2) (·=f30r1n1E bs1 bm2 o):=by
 unfold f30r1n1 at h;refine rN Qi 1 [([],[],[(1,.val (jI (bm2.length:Int)))])] [] [.mov 0] [3] [0,2,7,8,9] (f30r1n2S bm2 0 bs1) (ap (Qan (xs:=bm2) (c:=(cInt .i64))) an) ?_;obtain ⟨o44,h45,h⟩:=Qe h;cases o44 with
 | exit0 v46 =>
  obtain rfl:=Qf h;exact T.last' (T.bl (i:=0) (by kernel_rfl) (by kernel_rfl) (f30r1n2_ok FUEL bm2 0 bs1 h45)) (tds:=[]) (m:=[3]) (keep:=[0,2]) (st2:=(f30r1n1E bs1 bm2 (.norm v46)).2) (by kernel_rfl) an rfl
inductive f30r1n0O where
 | norm (v61:ByteArray)
def f30r1n0E(a1:List ByteArray)(a2:List Int):f30r1n0O→Ex×Tr×Hp
 | .norm v61=>(.norm,mkS [],[none,some (.row false 1 (a2.map (cInt .i64))),some (.box 71 [(.bp 2 0),(.own 3)]),some (.brow 5 v61)])
def f30r1n0S(a1:List ByteArray)(a2:List Int):Tr×Hp:=(Qal [(.own 0),(.own 1),(.bp 2 0)] 0 .leaf,[jR 1 cStr a1,some (.row false 1 (a2.map (cInt .i64))),some (.box 71 [(.pl .nilp),(.pl (.sl .nil 0 []))])])
noncomputable def f30r1n0(a1:List ByteArray)(a2:List Int):Option f30r1n0O :=
 (f30r1n1 a1 a2).bind fun o48=>match o48 with
 | .norm v50=>(f33 v50 str_x20).bind fun x56 =>
  req (decide (x56.size+str_x0a.size≤9223372036854775807)) <|
  (wn32 (scat x56 str_x0a)).bind fun x59 =>
  some (.norm x59)
theorem f30r1n0_ok(a1:List ByteArray)(a2:List Int){o:f30r1n0O}(h:f30r1n0 a1 a2=some o):T Tryd.prog Tryd.f30.ntmps 3 c30 (f30r1n0S a1 a2) (·=f30r1n0E a1 a2 o):=by
 unfold f30r1n0 at h;refine rN Qi 0 [] [] [] [] [0,1,2] (f30r1n1S a1 a2) an ?_;obtain ⟨o48,h49,h⟩:=Qe h;cases o48 with
 | norm v50 =>
  refine T.oneN (by kernel_rfl) (f30r1n1_ok a1 a2 h49) (st2:=(f30r1n1E a1 a2 (.norm v50)).2) rfl ?_;obtain ⟨x56,h57,h⟩:=Qe h;obtain ⟨h58,h⟩:=Qam h;obtain ⟨x59,h60,h⟩:=Qe h;obtain rfl:=Qf h;exact rE Qi [([],[jH 1 (jS x56),(2,.fits),(3,.call (.tup [(jI (((scat x56 str_x0a).size:Nat):Int)),(.pl .nili)]) [none,none,some (.box 71 [(.bp 2 0),(.own 4)]),none,some (.brow 5 x59)])],[])] [] [] [4] [] (.norm,(f30r1n0E a1 a2 (.norm x59)).2) (ap (of_decide_eq_true h58) (ap (f33_ok v50 str_x20 h57) (ap (Ql.rn 4 [2] (wn32_ok (scat x56 str_x0a) h60)) an))) rfl
noncomputable def f30r1(a1:List ByteArray)(a2:List Int):Option ByteArray:=(f30r1n0 a1 a2).bind fun o=>match o with
 | .norm v61=>some v61
theorem f30r1_ok(a1:List ByteArray)(a2:List Int){r:ByteArray}(h:f30r1 a1 a2=some r):Ql Tryd.prog true 30 [(.own 0),(.own 1),(.bp 2 0)] [jR 1 cStr a1,some (.row false 1 (a2.map (cInt .i64))),some (.box 71 [(.pl .nilp),(.pl (.sl .nil 0 []))])] (.tup []) [none,some (.row false 1 (a2.map (cInt .i64))),some (.box 71 [(.bp 2 0),(.own 3)]),some (.brow 5 r)]:=by
 unfold f30r1 at h;obtain ⟨o,ho,h⟩:=Qe h;cases o with
 | norm v61 =>
  obtain rfl:=Qf h;exact Ql.shared Qi (f:=Tryd.f30) (c:=c30) (by kernel_rfl) (by kernel_rfl) (by kernel_rfl) ((f30r1n0_ok a1 a2 ho).mono fun r e=>by subst e; exact ⟨.inr rfl,by kernel_rfl,by kernel_rfl⟩)

inductive f30r2n2O where
 | exit0 (v44:List ByteArray)
def f30r2n2E(bm2:List Int)(bd3:ByteArray):f30r2n2O→Ex×Tr×Hp
 | .exit0 v44=>((.exit 0),mkS [(0,(.own 4)),(2,(.bp 2 0))],[none,some (.row false 1 (bm2.map (cInt .i64))),some (.box 71 [(.bp 2 0),(.own 3)]),some (.brow 5 bd3),jR 1 cStr v44])
def f30r2n2S(bm2:List Int)(bd3:ByteArray)(v30:Int)(v31:List ByteArray):Tr×Hp:=(mkS [(0,(.own 4)),(2,(.bp 2 0)),(7,(.own 1)),(8,(jI (bm2.length:Int))),(9,(jI v30))],[none,some (.row false 1 (bm2.map (cInt .i64))),some (.box 71 [(.bp 2 0),(.own 3)]),some (.brow 5 bd3),jR 1 cStr v31])
noncomputable def f30r2n2:Nat→List Int→ByteArray→Int→List ByteArray→Option f30r2n2O
 | 0,_,_,_,_=>none
 | f+1,bm2,bd3,v30,v31 =>
  bif decide (v30<(bm2.length:Int)) then
   (at? bm2 v30).bind fun x39 =>
   (ita31 x39).bind fun x41 =>
   req (fit (v31.length+1) 16) <|
   (f30r2n2 f bm2 bd3 (wr64 (v30+1)) (v31++[x41]))
  else
   some (.exit0 v31)
theorem f30r2n2_ok:∀(f:Nat)(bm2:List Int)(bd3:ByteArray)(v30:Int)(v31:List ByteArray){o:f30r2n2O},f30r2n2 f bm2 bd3 v30 v31=some o→TL Tryd.prog Tryd.f30.ntmps 4 f (cL (cL (Qt 1 (cL (Qt 0 c30))))) (f30r2n2S bm2 bd3 v30 v31) (·=f30r2n2E bm2 bd3 o)
 | 0,_,_,_,_,o,h=>by rw [f30r2n2] at h; cases h
 | f+1,bm2,bd3,v30,v31,o,h=>by
  rw [f30r2n2] at h;refine TL.body (K:=fun s=>∃v30:Int,∃v31:List ByteArray,s=(f30r2n2S bm2 bd3 v30 v31)∧f30r2n2 f bm2 bd3 v30 v31=some o) ?_ (by rintro _ ⟨v30,v31,rfl,hk⟩; exact f30r2n2_ok f _ _ _ _ hk);rcases Qg h with ⟨h33,h⟩|⟨h33,h⟩
  ·obtain ⟨x39,h40,h⟩:=Qe h;obtain ⟨x41,h42,h⟩:=Qe h;obtain ⟨h43,h⟩:=Qam h;exact rE Qi [j3,([],[(0,.at_ (Int.toNat v30)),(1,.idx 0 ((cInt .i64) x39))],[]),([],[jH 2 (jS x41),(4,.fits)],[(4,.row 6 ((v31++[x41]).map cStr))]),j3] [some true] [] [6] [0,2,7,8,9] (.norm,(f30r2n2S bm2 bd3 (wr64 (v30+1)) (v31++[x41]))) (ap h33 (ap (Qm h40).1 (ap (lt_map (cInt .i64) (Qm h40).2) (ap (Qag (cInt .i64) (Qm h40).2) (ap (fit_map (te:=ti9) (xs:=v31) (n:=1) (c:=cStr) h43 rfl) (ap (app_cv (xs:=v31) (ys:=[x41]) (c:=cStr)) (ap (ita31_ok x39 h42) an))))))) (Qad.norm ⟨(wr64 (v30+1)),(v31++[x41]),rfl,h⟩)
  ·obtain rfl:=Qf h;exact rK Qi 2 [j3] [some false] [] [4] [0,2] (.exit 0) ((f30r2n2E bm2 bd3 (.exit0 v31)).2) (ap h33 an) (Qad.out rfl rfl)
inductive f30r2n1O where
 | norm (v48:List ByteArray)
def f30r2n1E(bs1:List ByteArray)(bm2:List Int)(bd3:ByteArray):f30r2n1O→Ex×Tr×Hp
 | .norm v48=>(.norm,mkS [(0,(.own 4)),(2,(.bp 2 0))],[none,some (.row false 1 (bm2.map (cInt .i64))),some (.box 71 [(.bp 2 0),(.own 3)]),some (.brow 5 bd3),jR 1 cStr v48])
def f30r2n1S(bs1:List ByteArray)(bm2:List Int)(bd3:ByteArray):Tr×Hp:=(mkS [(0,(.own 0)),(1,(.own 1)),(2,(.bp 2 0))],[jR 1 cStr bs1,some (.row false 1 (bm2.map (cInt .i64))),some (.box 71 [(.bp 2 0),(.own 3)]),some (.brow 5 bd3)])
noncomputable def f30r2n1(bs1:List ByteArray)(bm2:List Int)(bd3:ByteArray):Option f30r2n1O :=
 (f30r2n2 FUEL bm2 bd3 0 bs1).bind fun o45=>match o45 with
 | .exit0 v47=>some (.norm v47)
theorem f30r2n1_ok(bs1:List ByteArray)(bm2:List Int)(bd3:ByteArray){o:f30r2n1O}(h:f30r2n1 bs1 bm2 bd3=some o):T Tryd.prog Tryd.f30.ntmps 4 (cL (Qt 0 c30)) (f30r2n1S bs1 bm2 bd3) (·=f30r2n1E bs1 bm2 bd3 o):=by
 unfold f30r2n1 at h;refine rN Qi 1 [([],[],[(1,.val (jI (bm2.length:Int)))])] [] [.mov 0] [4] [0,2,7,8,9] (f30r2n2S bm2 bd3 0 bs1) (ap (Qan (xs:=bm2) (c:=(cInt .i64))) an) ?_;obtain ⟨o45,h46,h⟩:=Qe h;cases o45 with
 | exit0 v47 =>
  obtain rfl:=Qf h;exact T.last' (T.bl (i:=0) (by kernel_rfl) (by kernel_rfl) (f30r2n2_ok FUEL bm2 bd3 0 bs1 h46)) (tds:=[]) (m:=[4]) (keep:=[0,2]) (st2:=(f30r2n1E bs1 bm2 bd3 (.norm v47)).2) (by kernel_rfl) an rfl
inductive f30r2n0O where
 | norm (v62:ByteArray)
def f30r2n0E(a1:List ByteArray)(a2:List Int)(a3:ByteArray):f30r2n0O→Ex×Tr×Hp
 | .norm v62=>(.norm,mkS [],[none,some (.row false 1 (a2.map (cInt .i64))),some (.box 71 [(.bp 2 0),(.own 4)]),none,some (.brow 5 v62)])
def f30r2n0S(a1:List ByteArray)(a2:List Int)(a3:ByteArray):Tr×Hp:=(Qal [(.own 0),(.own 1),(.bp 2 0)] 0 .leaf,[jR 1 cStr a1,some (.row false 1 (a2.map (cInt .i64))),some (.box 71 [(.bp 2 0),(.own 3)]),some (.brow 5 a3)])
noncomputable def f30r2n0(a1:List ByteArray)(a2:List Int)(a3:ByteArray):Option f30r2n0O :=
 (f30r2n1 a1 a2 a3).bind fun o49=>match o49 with
 | .norm v51=>(f33 v51 str_x20).bind fun x57 =>
  req (decide (x57.size+str_x0a.size≤9223372036854775807)) <|
  (wm32 a3 (scat x57 str_x0a)).bind fun x60 =>
  some (.norm x60)
theorem f30r2n0_ok(a1:List ByteArray)(a2:List Int)(a3:ByteArray){o:f30r2n0O}(h:f30r2n0 a1 a2 a3=some o):T Tryd.prog Tryd.f30.ntmps 4 c30 (f30r2n0S a1 a2 a3) (·=f30r2n0E a1 a2 a3 o):=by
 unfold f30r2n0 at h;refine rN Qi 0 [] [] [] [] [0,1,2] (f30r2n1S a1 a2 a3) an ?_;obtain ⟨o49,h50,h⟩:=Qe h;cases o49 with
 | norm v51 =>
  refine T.oneN (by kernel_rfl) (f30r2n1_ok a1 a2 a3 h50) (st2:=(f30r2n1E a1 a2 a3 (.norm v51)).2) rfl ?_;obtain ⟨x57,h58,h⟩:=Qe h;obtain ⟨h59,h⟩:=Qam h;obtain ⟨x60,h61,h⟩:=Qe h;obtain rfl:=Qf h;exact rE Qi [([],[jH 1 (jS x57),(2,.fits),(3,.call (.tup [(jI (((scat x57 str_x0a).size:Nat):Int)),(.pl .nili)]) [none,none,some (.box 71 [(.bp 2 0),(.own 5)]),none,none,some (.brow 5 x60)])],[])] [] [] [5] [] (.norm,(f30r2n0E a1 a2 a3 (.norm x60)).2) (ap (of_decide_eq_true h59) (ap (f33_ok v51 str_x20 h58) (ap (Ql.rn 5 [2,3] (wm32_ok a3 (scat x57 str_x0a) h61)) an))) rfl
noncomputable def f30r2(a1:List ByteArray)(a2:List Int)(a3:ByteArray):Option ByteArray:=(f30r2n0 a1 a2 a3).bind fun o=>match o with
 | .norm v62=>some v62
theorem f30r2_ok(a1:List ByteArray)(a2:List Int)(a3:ByteArray){r:ByteArray}(h:f30r2 a1 a2 a3=some r):Ql Tryd.prog true 30 [(.own 0),(.own 1),(.bp 2 0)] [jR 1 cStr a1,some (.row false 1 (a2.map (cInt .i64))),some (.box 71 [(.bp 2 0),(.own 3)]),some (.brow 5 a3)] (.tup []) [none,some (.row false 1 (a2.map (cInt .i64))),some (.box 71 [(.bp 2 0),(.own 4)]),none,some (.brow 5 r)]:=by
 unfold f30r2 at h;obtain ⟨o,ho,h⟩:=Qe h;cases o with
 | norm v62 =>
  obtain rfl:=Qf h;exact Ql.shared Qi (f:=Tryd.f30) (c:=c30) (by kernel_rfl) (by kernel_rfl) (by kernel_rfl) ((f30r2n0_ok a1 a2 a3 ho).mono fun r e=>by subst e; exact ⟨.inr rfl,by kernel_rfl,by kernel_rfl⟩)

noncomputable def c10:Code:=Tryd.f10.body.getD .skip
inductive f10n2O where
 | exit0 (v46:ByteArray)
def f10n2E(bq1:Qh):f10n2O→Ex×Tr×Hp
 | .exit0 v46=>((.exit 0),mkS [(5,(.bp 0 0))],[some (.box 71 [(.bp 0 0),(.own 1)]),some (.brow 5 v46)])
def f10n2S(bq1:Qh)(v34:Int)(v35:ByteArray):Tr×Hp:=(mkS [(5,(.bp 0 0)),(6,(.clo 30 [(.bp 0 0)])),(26,(jL 4 Qa.cells bq1.Rows)),(27,(jI (bq1.Rows.length:Int))),(28,(jI v34))],[some (.box 71 [(.bp 0 0),(.own 1)]),some (.brow 5 v35)])
noncomputable def f10n2:Nat→Qh→Int→ByteArray→Option f10n2O
 | 0,_,_,_=>none
 | f+1,bq1,v34,v35 =>
  bif decide (v34<(bq1.Rows.length:Int)) then
   (at? bq1.Rows v34).bind fun x42 =>
   (f30r2 [x42.Account,x42.Ccy] [x42.In,x42.Out,(wr64 (x42.In-x42.Out))] v35).bind fun x44 =>
   (f10n2 f bq1 (wr64 (v34+1)) x44)
  else
   some (.exit0 v35)
theorem f10n2_ok:∀(f:Nat)(bq1:Qh)(v34:Int)(v35:ByteArray){o:f10n2O},f10n2 f bq1 v34 v35=some o→TL Tryd.prog Tryd.f10.ntmps 0 f (cL (cL (Qt 1 (cL (Qt 5 c10))))) (f10n2S bq1 v34 v35) (·=f10n2E bq1 o)
 | 0,_,_,_,o,h=>by rw [f10n2] at h; cases h
 | f+1,bq1,v34,v35,o,h=>by
  rw [f10n2] at h;refine TL.body (K:=fun s=>∃v34:Int,∃v35:ByteArray,s=(f10n2S bq1 v34 v35)∧f10n2 f bq1 v34 v35=some o) ?_ (by rintro _ ⟨v34,v35,rfl,hk⟩; exact f10n2_ok f _ _ _ hk);rcases Qg h with ⟨h37,h⟩|⟨h37,h⟩
  ·obtain ⟨x42,h43,h⟩:=Qe h;obtain ⟨x44,h45,h⟩:=Qe h;exact rE Qi [j3,([],[(0,.idx (Int.toNat v34) (Qa.cells x42))],[]),([],[(16,.call (.tup []) [some (.box 71 [(.bp 0 0),(.own 5)]),none,none,none,some (.row false 1 ([x42.In,x42.Out,(wr64 (x42.In-x42.Out))].map (cInt .i64))),some (.brow 5 x44)])],[]),j3] [some true] [] [0,5] [5,6,26,27,28] (.norm,(f10n2S bq1 (wr64 (v34+1)) x44)) (ap h37 (ap (Qm h43).1 (ap (Qag Qa.cells (Qm h43).2) (ap (Ql.rn 5 [3,4,0,1] (f30r2_ok [x42.Account,x42.Ccy] [x42.In,x42.Out,(wr64 (x42.In-x42.Out))] v35 h45)) an)))) (Qad.norm ⟨(wr64 (v34+1)),x44,rfl,h⟩)
  ·obtain rfl:=Qf h;exact rK Qi 2 [j3] [some false] [] [0,1] [5] (.exit 0) ((f10n2E bq1 (.exit0 v35)).2) (ap h37 an) (Qad.out rfl rfl)
inductive f10n1O where
 | norm (v50:ByteArray)
def f10n1E(bq1:Qh)(bd2:ByteArray):f10n1O→Ex×Tr×Hp
 | .norm v50=>(.norm,mkS [(5,(.bp 0 0))],[some (.box 71 [(.bp 0 0),(.own 1)]),some (.brow 5 v50)])
def f10n1S(bq1:Qh)(bd2:ByteArray):Tr×Hp:=(mkS [(1,(.bp 0 0)),(5,(.bp 1 0)),(6,(.clo 30 [(.bp 1 0)]))],[some (.box 24 ((Qh.cells bq1).map .pl)),some (.box 71 [(.bp 1 0),(.own 2)]),some (.brow 5 bd2)])
noncomputable def f10n1(bq1:Qh)(bd2:ByteArray):Option f10n1O :=
 (f10n2 FUEL bq1 0 bd2).bind fun o47=>match o47 with
 | .exit0 v49=>some (.norm v49)
theorem f10n1_ok(bq1:Qh)(bd2:ByteArray){o:f10n1O}(h:f10n1 bq1 bd2=some o):T Tryd.prog Tryd.f10.ntmps 0 (cL (Qt 5 c10)) (f10n1S bq1 bd2) (·=f10n1E bq1 bd2 o):=by
 unfold f10n1 at h;refine rN Qi 1 [([],[],[(2,.val (jI (bq1.Rows.length:Int)))])] [] [] [1,2] [5,6,26,27,28] (f10n2S bq1 0 bd2) (ap (Qan (xs:=bq1.Rows) (c:=Qa.cells)) an) ?_;obtain ⟨o47,h48,h⟩:=Qe h;cases o47 with
 | exit0 v49 =>
  obtain rfl:=Qf h;exact T.last' (T.bl (i:=0) (by kernel_rfl) (by kernel_rfl) (f10n2_ok FUEL bq1 0 bd2 h48)) (tds:=[]) (m:=[0,1]) (keep:=[5]) (st2:=(f10n1E bq1 bd2 (.norm v49)).2) (by kernel_rfl) an rfl
inductive f10n0O where
 | ret (v58:ByteArray) (v59:Int)
def f10n0E(a1:Qh):f10n0O→Ex×Tr×Hp
 | .ret v58 v59=>(.ret,mkS [(2,(jS v58)),(3,(jI v59))],[])
def f10n0S(a1:Qh):Tr×Hp:=(Qal [(jA Qh.cells a1)] 0 .leaf,[])
noncomputable def f10n0(a1:Qh):Option f10n0O :=
 (f15 a1).bind fun x5 =>
 bif decide (x5=0) then
  (f30r1 [str_report] [a1.From,a1.To,a1.Known]).bind fun x10 =>
  (f10n1 a1 x10).bind fun o51=>match o51 with
  | .norm v53=>(wg34 v53).bind fun x56 =>
   some (.ret x56 0)
 else
  some (.ret Qy x5)
theorem f10n0_ok(a1:Qh){o:f10n0O}(h:f10n0 a1=some o):T Tryd.prog Tryd.f10.ntmps 0 c10 (f10n0S a1) (·=f10n0E a1 o):=by
 unfold f10n0 at h;obtain ⟨x5,h6,h⟩:=Qe h;rcases Qg h with ⟨h7,h⟩|⟨h7,h⟩
 ·obtain ⟨x10,h11,h⟩:=Qe h;refine rN Qi 5 [j3,([],[jH 1 (jI x5)],[]),j3,j3,j3,([],[(9,.call (.tup []) [none,some (.box 71 [(.bp 1 0),(.own 4)]),none,some (.row false 1 ([a1.From,a1.To,a1.Known].map (cInt .i64))),some (.brow 5 x10)])],[])] [some false] [] [0,1,4] [1,5,6] (f10n1S a1 x10) (ap (Qar a1 h6) (ap (Qq h7) (ap (Ql.rn 4 [2,3,1] (f30r1_ok [str_report] [a1.From,a1.To,a1.Known] h11)) an))) ?_;obtain ⟨o51,h52,h⟩:=Qe h;cases o51 with
  | norm v53 =>
   refine T.oneN (by kernel_rfl) (f10n1_ok a1 x10 h52) (st2:=(f10n1E a1 x10 (.norm v53)).2) rfl ?_;obtain ⟨x56,h57,h⟩:=Qe h;obtain rfl:=Qf h;exact rE Qi [([],[(0,.call (jS x56) [some (.box 71 [(.bp 0 0),(.own 1)]),none])],[])] [] [] [] [2,3] (.ret,(f10n0E a1 (.ret x56 0)).2) (ap (wg34_ok v53 h57) an) rfl
 ·obtain rfl:=Qf h;exact rK Qi 2 [j3,([],[jH 1 (jI x5)],[]),j3,j3] [some true] [] [] [2,3] .ret ((f10n0E a1 (.ret Qy x5)).2) (ap (Qar a1 h6) (ap (Qaf h7) an)) rfl
noncomputable def f10(a1:Qh):Option (ByteArray×Int):=(f10n0 a1).bind fun o=>match o with
 | .ret v58 v59=>some (v58,v59)
theorem Qbb(a1:Qh){r:ByteArray×Int}(h:f10 a1=some r):Ql Tryd.prog false 10 [(jA Qh.cells a1)] [] (.tup [(jS r.1),(jI r.2)]) []:=by
 unfold f10 at h;obtain ⟨o,ho,h⟩:=Qe h;cases o with
 | ret v58 v59 =>
  obtain rfl:=Qf h;exact Ql.plain Qi (f:=Tryd.f10) (c:=c10) (by kernel_rfl) (by kernel_rfl) (by kernel_rfl) (by kernel_rfl) ((f10n0_ok a1 ho).mono fun r e=>by subst e; exact ⟨.inl rfl,(.tup [(jS v58),(jI v59)]),(.tup [(jS v58),(jI v59)]),by kernel_rfl,by kernel_rfl,((Wk.refl _):Wk (.tup [(jS v58),(jI v59)]) (.tup [(jS v58),(jI v59)]))⟩)

noncomputable def c12:Code:=Tryd.f12.body.getD .skip
inductive f12r1n2O where
 | exit0 (v53:List (Key_×Qa))
def f12r1n2E(bq2:Qh)(bf1:Int):f12r1n2O→Ex×Tr×Hp
 | .exit0 v53=>((.exit 0),mkS [(2,(.bp 0 0)),(8,(.mp 1))],[some (.box 24 [(jI bf1),(jI bf1),(jI bf1),(.pl (.sl .nil 0 []))]),some (.map (v53.map (mkv (pAgg Key_.cells) (pAgg Qa.cells))))])
def f12r1n2S(bq2:Qh)(bf1 v41:Int)(v42:List (Key_×Qa)):Tr×Hp:=(mkS [(2,(.bp 0 0)),(8,(.mp 1)),(37,(jL 4 Qa.cells bq2.Rows)),(38,(jI (bq2.Rows.length:Int))),(39,(jI v41))],[some (.box 24 [(jI bf1),(jI bf1),(jI bf1),(.pl (.sl .nil 0 []))]),some (.map (v42.map (mkv (pAgg Key_.cells) (pAgg Qa.cells))))])
noncomputable def f12r1n2:Nat→Qh→Int→Int→List (Key_×Qa)→Option f12r1n2O
 | 0,_,_,_,_=>none
 | f+1,bq2,bf1,v41,v42 =>
  bif decide (v41<(bq2.Rows.length:Int)) then
   (at? bq2.Rows v41).bind fun x49 =>
   (f36r2 x49.Account x49.Ccy x49.In x49.Out v42).bind fun x51 =>
   (f12r1n2 f bq2 bf1 (wr64 (v41+1)) (mPut Key_.eqb (Key_.mk x49.Account x49.Ccy) (Qa.mk x49.Account x49.Ccy (wr64 ((mGet Key_.eqb (Qa.mk Qy Qy 0 0) (Key_.mk x49.Account x49.Ccy) v42).In+x49.In)) (wr64 ((mGet Key_.eqb (Qa.mk Qy Qy 0 0) (Key_.mk x49.Account x49.Ccy) v42).Out+x49.Out))) v42))
  else
   some (.exit0 v42)
theorem f12r1n2_ok:∀(f:Nat)(bq2:Qh)(bf1 v41:Int)(v42:List (Key_×Qa)){o:f12r1n2O},f12r1n2 f bq2 bf1 v41 v42=some o→TL Tryd.prog Tryd.f12.ntmps 0 f (cL (cL (Qt 1 (cL (Qt 1 (Qt 4 c12)))))) (f12r1n2S bq2 bf1 v41 v42) (·=f12r1n2E bq2 bf1 o)
 | 0,_,_,_,_,o,h=>by rw [f12r1n2] at h; cases h
 | f+1,bq2,bf1,v41,v42,o,h=>by
  rw [f12r1n2] at h;refine TL.body (K:=fun s=>∃v41:Int,∃v42:List (Key_×Qa),s=(f12r1n2S bq2 bf1 v41 v42)∧f12r1n2 f bq2 bf1 v41 v42=some o) ?_ (by rintro _ ⟨v41,v42,rfl,hk⟩; exact f12r1n2_ok f _ _ _ _ hk);rcases Qg h with ⟨h44,h⟩|⟨h44,h⟩
  ·obtain ⟨x49,h50,h⟩:=Qe h;obtain ⟨x51,h52,h⟩:=Qe h
   exact rE Qi [j3,([],[(0,.idx (Int.toNat v41) (Qa.cells x49))],[]),([],[(9,.call (.tup []) [none,some (.map ((mPut Key_.eqb (Key_.mk x49.Account x49.Ccy) (Qa.mk x49.Account x49.Ccy (wr64 ((mGet Key_.eqb (Qa.mk Qy Qy 0 0) (Key_.mk x49.Account x49.Ccy) v42).In+x49.In)) (wr64 ((mGet Key_.eqb (Qa.mk Qy Qy 0 0) (Key_.mk x49.Account x49.Ccy) v42).Out+x49.Out))) v42).map (mkv (pAgg Key_.cells) (pAgg Qa.cells)))),none])],[]),j3] [some true] [] [0,1] [2,8,37,38,39] (.norm,(f12r1n2S bq2 bf1 (wr64 (v41+1)) (mPut Key_.eqb (Key_.mk x49.Account x49.Ccy) (Qa.mk x49.Account x49.Ccy (wr64 ((mGet Key_.eqb (Qa.mk Qy Qy 0 0) (Key_.mk x49.Account x49.Ccy) v42).In+x49.In)) (wr64 ((mGet Key_.eqb (Qa.mk Qy Qy 0 0) (Key_.mk x49.Account x49.Ccy) v42).Out+x49.Out))) v42))) (ap h44 (ap (Qm h50).1 (ap (Qag Qa.cells (Qm h50).2) (ap (Ql.rn 3 [1] (f36r2_ok x49.Account x49.Ccy x49.In x49.Out v42 h52)) an)))) (Qad.norm ⟨(wr64 (v41+1)),(mPut Key_.eqb (Key_.mk x49.Account x49.Ccy) (Qa.mk x49.Account x49.Ccy (wr64 ((mGet Key_.eqb (Qa.mk Qy Qy 0 0) (Key_.mk x49.Account x49.Ccy) v42).In+x49.In)) (wr64 ((mGet Key_.eqb (Qa.mk Qy Qy 0 0) (Key_.mk x49.Account x49.Ccy) v42).Out+x49.Out))) v42),rfl,h⟩)
  ·obtain rfl:=Qf h;exact rK Qi 2 [j3] [some false] [] [0,1] [2,8] (.exit 0) ((f12r1n2E bq2 bf1 (.exit0 v42)).2) (ap h44 an) (Qad.out rfl rfl)
inductive f12r1n1O where
 | norm (v57:List (Key_×Qa))
def f12r1n1E(bf1:Int)(bq2:Qh):f12r1n1O→Ex×Tr×Hp
 | .norm v57=>(.norm,mkS [(2,(.bp 0 0)),(8,(.mp 1))],[some (.box 24 [(jI bf1),(jI bf1),(jI bf1),(.pl (.sl .nil 0 []))]),some (.map (v57.map (mkv (pAgg Key_.cells) (pAgg Qa.cells))))])
def f12r1n1S(bf1:Int)(bq2:Qh):Tr×Hp:=(mkS [(2,(.bp 0 0)),(3,(.bp 1 0)),(8,(.mp 2))],[some (.box 24 [(jI bf1),(jI bf1),(jI bf1),(.pl (.sl .nil 0 []))]),some (.box 24 ((Qh.cells bq2).map .pl)),some (.map ([].map (mkv (pAgg Key_.cells) (pAgg Qa.cells))))])
noncomputable def f12r1n1(bf1:Int)(bq2:Qh):Option f12r1n1O :=
 (f12r1n2 FUEL bq2 bf1 0 []).bind fun o54=>match o54 with
 | .exit0 v56=>some (.norm v56)
theorem f12r1n1_ok(bf1:Int)(bq2:Qh){o:f12r1n1O}(h:f12r1n1 bf1 bq2=some o):T Tryd.prog Tryd.f12.ntmps 0 (cL (Qt 1 (Qt 4 c12))) (f12r1n1S bf1 bq2) (·=f12r1n1E bf1 bq2 o):=by
 unfold f12r1n1 at h;refine rN Qi 1 [([],[],[(2,.val (jI (bq2.Rows.length:Int)))])] [] [] [0,2] [2,8,37,38,39] (f12r1n2S bq2 bf1 0 []) (ap (Qan (xs:=bq2.Rows) (c:=Qa.cells)) an) ?_;obtain ⟨o54,h55,h⟩:=Qe h;cases o54 with
 | exit0 v56 =>
  obtain rfl:=Qf h;exact T.last' (T.bl (i:=0) (by kernel_rfl) (by kernel_rfl) (f12r1n2_ok FUEL bq2 bf1 0 [] h55)) (tds:=[]) (m:=[0,1]) (keep:=[2,8]) (st2:=(f12r1n1E bf1 bq2 (.norm v56)).2) (by kernel_rfl) an rfl
inductive f12r1n4O where
 | exit2
def f12r1n4E(bl2:List (Key_×Qa)):f12r1n4O→Ex×Tr×Hp
 | .exit2=>((.exit 2),mkS [(8,(.mp 0))],[some (.map (bl2.map (mkv (pAgg Key_.cells) (pAgg Qa.cells))))])
def f12r1n4S(bl2:List (Key_×Qa)):Tr×Hp:=(mkS [(8,(.mp 0)),(55,(.pl (.sl .nil 0 []))),(56,(jI 0)),(57,(jI 0))],[some (.map (bl2.map (mkv (pAgg Key_.cells) (pAgg Qa.cells))))])
noncomputable def f12r1n4:Nat→List (Key_×Qa)→Option f12r1n4O
 | 0,_=>none
 | f+1,bl2 =>
  some .exit2
theorem f12r1n4_ok:∀(f:Nat)(bl2:List (Key_×Qa)){o:f12r1n4O},f12r1n4 f bl2=some o→TL Tryd.prog Tryd.f12.ntmps 0 f (cL (cL (Qt 1 (cL (Qt 0 (Qt 1 (Qt 1 (Qt 4 c12)))))))) (f12r1n4S bl2) (·=f12r1n4E bl2 o)
 | 0,_,o,h=>by rw [f12r1n4] at h; cases h
 | f+1,bl2,o,h=>by
  rw [f12r1n4] at h;refine TL.body (K:=fun s=>s=(f12r1n4S bl2)∧f12r1n4 f bl2=some o) ?_ (by rintro _ ⟨rfl,hk⟩; exact f12r1n4_ok f _ hk);obtain rfl:=Qf h;exact rK Qi 2 [j3] [none] [] [0] [8] (.exit 2) ((f12r1n4E bl2 .exit2).2) an (Qad.out rfl rfl)
inductive f12r1n3O where
 | norm
def f12r1n3E(bf1:Int)(bl2:List (Key_×Qa)):f12r1n3O→Ex×Tr×Hp
 | .norm=>(.norm,mkS [(8,(.mp 0))],[some (.map (bl2.map (mkv (pAgg Key_.cells) (pAgg Qa.cells))))])
def f12r1n3S(bf1:Int)(bl2:List (Key_×Qa)):Tr×Hp:=(mkS [(2,(.bp 0 0)),(8,(.mp 1))],[some (.box 24 [(jI bf1),(jI bf1),(jI bf1),(.pl (.sl .nil 0 []))]),some (.map (bl2.map (mkv (pAgg Key_.cells) (pAgg Qa.cells))))])
noncomputable def f12r1n3(bf1:Int)(bl2:List (Key_×Qa)):Option f12r1n3O :=
 (f12r1n4 FUEL bl2).bind fun o61=>match o61 with
 | .exit2=>some .norm
theorem f12r1n3_ok(bf1:Int)(bl2:List (Key_×Qa)){o:f12r1n3O}(h:f12r1n3 bf1 bl2=some o):T Tryd.prog Tryd.f12.ntmps 0 (cL (Qt 0 (Qt 1 (Qt 1 (Qt 4 c12))))) (f12r1n3S bf1 bl2) (·=f12r1n3E bf1 bl2 o):=by
 unfold f12r1n3 at h;refine rN Qi 1 [j3] [] [] [1] [8,55,56,57] (f12r1n4S bl2) an ?_;obtain ⟨o61,h62,h⟩:=Qe h;cases o61 with
 | exit2 =>
  obtain rfl:=Qf h;exact T.last' (T.bl (i:=2) (by kernel_rfl) (by kernel_rfl) (f12r1n4_ok FUEL bl2 h62)) (tds:=[]) (m:=[0]) (keep:=[8]) (st2:=(f12r1n3E bf1 bl2 .norm).2) (by kernel_rfl) an rfl
inductive f12r1n0O where
 | ret (v69:Int) (v70:List Qa)
def f12r1n0E(a1:Int)(a2:Qh):f12r1n0O→Ex×Tr×Hp
 | .ret v69 v70=>(.ret,mkS [(4,(.own 0)),(5,(jI v69))],[jR 4 Qa.cells v70])
def f12r1n0S(a1:Int)(a2:Qh):Tr×Hp:=(Qal [(.pl (.agg [(.int .i64 a1),(.int .i64 a1),(.int .i64 a1),(.sl .nil 0 [])])),(jA Qh.cells a2)] 0 .leaf,[])
noncomputable def f12r1n0(a1:Int)(a2:Qh):Option f12r1n0O :=
 (f15 (Qh.mk a1 a1 a1 [])).bind fun x6 =>
 bif decide (x6=0) then
  (f15 a2).bind fun x12 =>
  bif decide (x12=0) then
   bif decide (a1=a2.From) then
    bif decide (a1=a2.To) then
     (f12r1n1 a1 a2).bind fun o58=>match o58 with
     | .norm v60=>(f12r1n3 a1 v60).bind fun o63=>match o63 with
      | .norm=>(f37r1 v60).bind fun x67 =>
       some (.ret 0 x67)
    else
     some (.ret 2 [])
   else
    some (.ret 2 [])
  else
   some (.ret x12 [])
 else
  some (.ret x6 [])
theorem f12r1n0_ok(a1:Int)(a2:Qh){o:f12r1n0O}(h:f12r1n0 a1 a2=some o):T Tryd.prog Tryd.f12.ntmps 0 c12 (f12r1n0S a1 a2) (·=f12r1n0E a1 a2 o):=by
 unfold f12r1n0 at h;obtain ⟨x6,h7,h⟩:=Qe h;rcases Qg h with ⟨h8,h⟩|⟨h8,h⟩
 ·obtain ⟨x12,h13,h⟩:=Qe h;rcases Qg h with ⟨h14,h⟩|⟨h14,h⟩
  ·rcases Qg h with ⟨h17,h⟩|⟨h17,h⟩
   ·rcases Qg h with ⟨h18,h⟩|⟨h18,h⟩
    ·refine rN Qi 4 [j3,([],[jH 1 (jI x6)],[]),j3,([],[jH 1 (jI x12)],[]),j3,(jF [6,7,8,9,10],[(11,.bool false)],[])] [some false,some false,some false] [] [0,1] [2,3] (mkS [(2,(.bp 0 0)),(3,(.bp 1 0))],[some (.box 24 [(jI a1),(jI a1),(jI a1),(.pl (.sl .nil 0 []))]),some (.box 24 ((Qh.cells a2).map .pl))]) (ap (Ql.wk (args':=[(.pl (.agg [(.int .i64 a1),(.int .i64 a1),(.int .i64 a1),(.sl .nil 0 [])]))]) (Qar (Qh.mk a1 a1 a1 []) h7) (wlc (Wk.pl (WkP.agg (wpc (WkP.refl _) (wpc (WkP.refl _) (wpc (WkP.refl _) (wpc (WkP.nil (f:=.nil) (sz:=0) (sz':=4)) wpn)))))) wln) (Wk.refl _) rfl) (ap (Qq h8) (ap (Qar a2 h13) (ap (Qq h14) (ap2 (Qq h17) (ap4 (Qq h17) (ap (Qq h18) an))))))) ?_;refine rN Qi 1 [j3] [] [] [0,1,2] [2,3,8] (f12r1n1S a1 a2) an ?_;obtain ⟨o58,h59,h⟩:=Qe h;cases o58 with
     | norm v60 =>
      refine T.oneN (by kernel_rfl) (f12r1n1_ok a1 a2 h59) (st2:=(f12r1n1E a1 a2 (.norm v60)).2) rfl ?_;refine rN Qi 0 [] [] [] [0,1] [2,8] (f12r1n3S a1 v60) an ?_;obtain ⟨o63,h64,h⟩:=Qe h;cases o63 with
      | norm =>
       refine T.oneN (by kernel_rfl) (f12r1n3_ok a1 v60 h64) (st2:=(f12r1n3E a1 v60 .norm).2) rfl ?_;obtain ⟨x67,h68,h⟩:=Qe h;obtain rfl:=Qf h;exact rE Qi [([],[(1,.call (.own 1) [some (.map (v60.map (mkv (pAgg Key_.cells) (pAgg Qa.cells)))),jR 4 Qa.cells x67])],[])] [] [] [1] [4,5] (.ret,(f12r1n0E a1 a2 (.ret 0 x67)).2) (ap (f37r1_ok v60 h68) an) rfl
    ·obtain rfl:=Qf h;exact rK Qi 4 [j3,([],[jH 1 (jI x6)],[]),j3,([],[jH 1 (jI x12)],[]),j3,(jF [6,7,8,9,10],[(11,.bool false)],[]),j3] [some false,some false,some true] [.mat 4 4] [2] [4,5] .ret ((f12r1n0E a1 a2 (.ret 2 [])).2) (ap (Ql.wk (args':=[(.pl (.agg [(.int .i64 a1),(.int .i64 a1),(.int .i64 a1),(.sl .nil 0 [])]))]) (Qar (Qh.mk a1 a1 a1 []) h7) (wlc (Wk.pl (WkP.agg (wpc (WkP.refl _) (wpc (WkP.refl _) (wpc (WkP.refl _) (wpc (WkP.nil (f:=.nil) (sz:=0) (sz':=4)) wpn)))))) wln) (Wk.refl _) rfl) (ap (Qq h8) (ap (Qar a2 h13) (ap (Qq h14) (ap2 (Qq h17) (ap4 (Qq h17) (ap (Qaf h18) an))))))) rfl
   ·obtain rfl:=Qf h;exact rK Qi 4 [j3,([],[jH 1 (jI x6)],[]),j3,([],[jH 1 (jI x12)],[]),j3,(jT [6,7,8,9,10],[(11,.bool true)],[]),j3] [some false,some false,none] [.mat 4 4] [2] [4,5] .ret ((f12r1n0E a1 a2 (.ret 2 [])).2) (ap (Ql.wk (args':=[(.pl (.agg [(.int .i64 a1),(.int .i64 a1),(.int .i64 a1),(.sl .nil 0 [])]))]) (Qar (Qh.mk a1 a1 a1 []) h7) (wlc (Wk.pl (WkP.agg (wpc (WkP.refl _) (wpc (WkP.refl _) (wpc (WkP.refl _) (wpc (WkP.nil (f:=.nil) (sz:=0) (sz':=4)) wpn)))))) wln) (Wk.refl _) rfl) (ap (Qq h8) (ap (Qar a2 h13) (ap (Qq h14) (ap2 (Qaf h17) (ap4 (Qaf h17) an)))))) rfl
  ·obtain rfl:=Qf h;exact rK Qi 3 [j3,([],[jH 1 (jI x6)],[]),j3,([],[jH 1 (jI x12)],[]),j3,j3] [some false,some true] [.mat 4 4] [2] [4,5] .ret ((f12r1n0E a1 a2 (.ret x12 [])).2) (ap (Ql.wk (args':=[(.pl (.agg [(.int .i64 a1),(.int .i64 a1),(.int .i64 a1),(.sl .nil 0 [])]))]) (Qar (Qh.mk a1 a1 a1 []) h7) (wlc (Wk.pl (WkP.agg (wpc (WkP.refl _) (wpc (WkP.refl _) (wpc (WkP.refl _) (wpc (WkP.nil (f:=.nil) (sz:=0) (sz':=4)) wpn)))))) wln) (Wk.refl _) rfl) (ap (Qq h8) (ap (Qar a2 h13) (ap (Qaf h14) an)))) rfl
 ·obtain rfl:=Qf h;exact rK Qi 2 [j3,([],[jH 1 (jI x6)],[]),j3,j3] [some true] [.mat 4 4] [2] [4,5] .ret ((f12r1n0E a1 a2 (.ret x6 [])).2) (ap (Ql.wk (args':=[(.pl (.agg [(.int .i64 a1),(.int .i64 a1),(.int .i64 a1),(.sl .nil 0 [])]))]) (Qar (Qh.mk a1 a1 a1 []) h7) (wlc (Wk.pl (WkP.agg (wpc (WkP.refl _) (wpc (WkP.refl _) (wpc (WkP.refl _) (wpc (WkP.nil (f:=.nil) (sz:=0) (sz':=4)) wpn)))))) wln) (Wk.refl _) rfl) (ap (Qaf h8) an)) rfl
noncomputable def f12r1(a1:Int)(a2:Qh):Option (Int×(List Qa)):=(f12r1n0 a1 a2).bind fun o=>match o with
 | .ret v69 v70=>some (v69,v70)
theorem f12r1_ok(a1:Int)(a2:Qh){r:Int×(List Qa)}(h:f12r1 a1 a2=some r):Ql Tryd.prog true 12 [(.pl (.agg [(.int .i64 a1),(.int .i64 a1),(.int .i64 a1),(.sl .nil 0 [])])),(jA Qh.cells a2)] [] (.tup [(.own 0),(jI r.1)]) [jR 4 Qa.cells r.2]:=by
 unfold f12r1 at h;obtain ⟨o,ho,h⟩:=Qe h;cases o with
 | ret v69 v70 =>
  obtain rfl:=Qf h;exact Ql.shared Qi (f:=Tryd.f12) (c:=c12) (by kernel_rfl) (by kernel_rfl) (by kernel_rfl) ((f12r1n0_ok a1 a2 ho).mono fun r e=>by subst e; exact ⟨.inl rfl,by kernel_rfl,by kernel_rfl⟩)

inductive f12r2n2O where
 | exit0 (v53:List (Key_×Qa))
def f12r2n2E(bq2 bq1:Qh):f12r2n2O→Ex×Tr×Hp
 | .exit0 v53=>((.exit 0),mkS [(2,(.bp 0 0)),(8,(.mp 1))],[some (.box 24 ((Qh.cells bq1).map .pl)),some (.map (v53.map (mkv (pAgg Key_.cells) (pAgg Qa.cells))))])
def f12r2n2S(bq2 bq1:Qh)(v41:Int)(v42:List (Key_×Qa)):Tr×Hp:=(mkS [(2,(.bp 0 0)),(8,(.mp 1)),(37,(jL 4 Qa.cells bq2.Rows)),(38,(jI (bq2.Rows.length:Int))),(39,(jI v41))],[some (.box 24 ((Qh.cells bq1).map .pl)),some (.map (v42.map (mkv (pAgg Key_.cells) (pAgg Qa.cells))))])
noncomputable def f12r2n2:Nat→Qh→Qh→Int→List (Key_×Qa)→Option f12r2n2O
 | 0,_,_,_,_=>none
 | f+1,bq2,bq1,v41,v42 =>
  bif decide (v41<(bq2.Rows.length:Int)) then
   (at? bq2.Rows v41).bind fun x49 =>
   (f36r2 x49.Account x49.Ccy x49.In x49.Out v42).bind fun x51 =>
   (f12r2n2 f bq2 bq1 (wr64 (v41+1)) (mPut Key_.eqb (Key_.mk x49.Account x49.Ccy) (Qa.mk x49.Account x49.Ccy (wr64 ((mGet Key_.eqb (Qa.mk Qy Qy 0 0) (Key_.mk x49.Account x49.Ccy) v42).In+x49.In)) (wr64 ((mGet Key_.eqb (Qa.mk Qy Qy 0 0) (Key_.mk x49.Account x49.Ccy) v42).Out+x49.Out))) v42))
  else
   some (.exit0 v42)
theorem f12r2n2_ok:∀(f:Nat)(bq2 bq1:Qh)(v41:Int)(v42:List (Key_×Qa)){o:f12r2n2O},f12r2n2 f bq2 bq1 v41 v42=some o→TL Tryd.prog Tryd.f12.ntmps 0 f (cL (cL (Qt 1 (cL (Qt 5 c12))))) (f12r2n2S bq2 bq1 v41 v42) (·=f12r2n2E bq2 bq1 o)
 | 0,_,_,_,_,o,h=>by rw [f12r2n2] at h; cases h
 | f+1,bq2,bq1,v41,v42,o,h=>by
  rw [f12r2n2] at h;refine TL.body (K:=fun s=>∃v41:Int,∃v42:List (Key_×Qa),s=(f12r2n2S bq2 bq1 v41 v42)∧f12r2n2 f bq2 bq1 v41 v42=some o) ?_ (by rintro _ ⟨v41,v42,rfl,hk⟩; exact f12r2n2_ok f _ _ _ _ hk);rcases Qg h with ⟨h44,h⟩|⟨h44,h⟩
  ·obtain ⟨x49,h50,h⟩:=Qe h;obtain ⟨x51,h52,h⟩:=Qe h
   exact rE Qi [j3,([],[(0,.idx (Int.toNat v41) (Qa.cells x49))],[]),([],[(9,.call (.tup []) [none,some (.map ((mPut Key_.eqb (Key_.mk x49.Account x49.Ccy) (Qa.mk x49.Account x49.Ccy (wr64 ((mGet Key_.eqb (Qa.mk Qy Qy 0 0) (Key_.mk x49.Account x49.Ccy) v42).In+x49.In)) (wr64 ((mGet Key_.eqb (Qa.mk Qy Qy 0 0) (Key_.mk x49.Account x49.Ccy) v42).Out+x49.Out))) v42).map (mkv (pAgg Key_.cells) (pAgg Qa.cells)))),none])],[]),j3] [some true] [] [0,1] [2,8,37,38,39] (.norm,(f12r2n2S bq2 bq1 (wr64 (v41+1)) (mPut Key_.eqb (Key_.mk x49.Account x49.Ccy) (Qa.mk x49.Account x49.Ccy (wr64 ((mGet Key_.eqb (Qa.mk Qy Qy 0 0) (Key_.mk x49.Account x49.Ccy) v42).In+x49.In)) (wr64 ((mGet Key_.eqb (Qa.mk Qy Qy 0 0) (Key_.mk x49.Account x49.Ccy) v42).Out+x49.Out))) v42))) (ap h44 (ap (Qm h50).1 (ap (Qag Qa.cells (Qm h50).2) (ap (Ql.rn 3 [1] (f36r2_ok x49.Account x49.Ccy x49.In x49.Out v42 h52)) an)))) (Qad.norm ⟨(wr64 (v41+1)),(mPut Key_.eqb (Key_.mk x49.Account x49.Ccy) (Qa.mk x49.Account x49.Ccy (wr64 ((mGet Key_.eqb (Qa.mk Qy Qy 0 0) (Key_.mk x49.Account x49.Ccy) v42).In+x49.In)) (wr64 ((mGet Key_.eqb (Qa.mk Qy Qy 0 0) (Key_.mk x49.Account x49.Ccy) v42).Out+x49.Out))) v42),rfl,h⟩)
  ·obtain rfl:=Qf h;exact rK Qi 2 [j3] [some false] [] [0,1] [2,8] (.exit 0) ((f12r2n2E bq2 bq1 (.exit0 v42)).2) (ap h44 an) (Qad.out rfl rfl)
noncomputable def f12r2n2L(bq2 bq1:Qh):List Qa→Int→(List (Key_×Qa))→Option f12r2n2O
 | [],v41,v42 =>
  some (.exit0 v42)
 | x0::rest,v41,v42 =>
  (f36r2 x0.Account x0.Ccy x0.In x0.Out v42).bind fun x51 =>
  (f12r2n2L bq2 bq1 rest (v41+1) (mPut Key_.eqb (Key_.mk x0.Account x0.Ccy) (Qa.mk x0.Account x0.Ccy (wr64 ((mGet Key_.eqb (Qa.mk Qy Qy 0 0) (Key_.mk x0.Account x0.Ccy) v42).In+x0.In)) (wr64 ((mGet Key_.eqb (Qa.mk Qy Qy 0 0) (Key_.mk x0.Account x0.Ccy) v42).Out+x0.Out))) v42))
theorem f12r2n2L_eq(bq2 bq1:Qh):∀(rest:List Qa)(f k:Nat)(v42:List (Key_×Qa)),bq2.Rows.drop k=rest→bq2.Rows.length≤maxLen→rest.length<f→f12r2n2 f bq2 bq1 (k:Int) v42=f12r2n2L bq2 bq1 rest (k:Int) v42
 | _,0,_,_,_,_,hf=>absurd hf (Nat.not_lt_zero _)
 | [],f+1,k,v42,hd,hm,hf=>by
  have hk:¬((k:Int)<(bq2.Rows.length:Int)):=by have:=Qbj hd; omega
  rw [f12r2n2,f12r2n2L];simp only [decide_eq_false hk,cond_false]
 | x0::rest,f+1,k,v42,hd,hm,hf=>by
  obtain ⟨hx,hlt,hd'⟩:=Qbn hd;have hk:(k:Int)<(bq2.Rows.length:Int):=by omega
  have hw:wr64 ((k:Int)+1)=(k:Int)+1:=wr64_of (by omega) (by unfold maxLen at hm; omega);have ih:∀(v42:List (Key_×Qa)),f12r2n2 f bq2 bq1 ((k:Int)+1) v42=f12r2n2L bq2 bq1 rest ((k:Int)+1) v42:=fun v42=>f12r2n2L_eq bq2 bq1 rest f (k+1) v42 hd' hm (by simpa using hf);rw [f12r2n2,f12r2n2L];simp only [decide_eq_true hk,cond_true,at_nat,hx,Option.bind_some,hw,ih]
theorem f12r2n2_run(bq2 bq1:Qh)(v42:List (Key_×Qa))(hm:bq2.Rows.length≤maxLen):f12r2n2 FUEL bq2 bq1 0 v42=f12r2n2L bq2 bq1 bq2.Rows 0 v42:=f12r2n2L_eq bq2 bq1 bq2.Rows FUEL 0 v42 List.drop_zero hm (lt_FUEL hm)
inductive f12r2n1O where
 | norm (v57:List (Key_×Qa))
def f12r2n1E(bq1 bq2:Qh):f12r2n1O→Ex×Tr×Hp
 | .norm v57=>(.norm,mkS [(2,(.bp 0 0)),(8,(.mp 1))],[some (.box 24 ((Qh.cells bq1).map .pl)),some (.map (v57.map (mkv (pAgg Key_.cells) (pAgg Qa.cells))))])
def f12r2n1S(bq1 bq2:Qh):Tr×Hp:=(mkS [(2,(.bp 0 0)),(3,(.bp 1 0)),(8,(.mp 2))],[some (.box 24 ((Qh.cells bq1).map .pl)),some (.box 24 ((Qh.cells bq2).map .pl)),some (.map ([].map (mkv (pAgg Key_.cells) (pAgg Qa.cells))))])
noncomputable def f12r2n1(bq1 bq2:Qh):Option f12r2n1O :=
 (f12r2n2 FUEL bq2 bq1 0 []).bind fun o54=>match o54 with
 | .exit0 v56=>some (.norm v56)
theorem f12r2n1_ok(bq1 bq2:Qh){o:f12r2n1O}(h:f12r2n1 bq1 bq2=some o):T Tryd.prog Tryd.f12.ntmps 0 (cL (Qt 5 c12)) (f12r2n1S bq1 bq2) (·=f12r2n1E bq1 bq2 o):=by
 unfold f12r2n1 at h;refine rN Qi 1 [([],[],[(2,.val (jI (bq2.Rows.length:Int)))])] [] [] [0,2] [2,8,37,38,39] (f12r2n2S bq2 bq1 0 []) (ap (Qan (xs:=bq2.Rows) (c:=Qa.cells)) an) ?_;obtain ⟨o54,h55,h⟩:=Qe h;cases o54 with
 | exit0 v56 =>
  obtain rfl:=Qf h;exact T.last' (T.bl (i:=0) (by kernel_rfl) (by kernel_rfl) (f12r2n2_ok FUEL bq2 bq1 0 [] h55)) (tds:=[]) (m:=[0,1]) (keep:=[2,8]) (st2:=(f12r2n1E bq1 bq2 (.norm v56)).2) (by kernel_rfl) an rfl
inductive f12r2n4O where
 | exit2 (v95:List (Key_×Qa))
def f12r2n4E(bq1:Qh):f12r2n4O→Ex×Tr×Hp
 | .exit2 v95=>((.exit 2),mkS [(8,(.mp 0))],[some (.map (v95.map (mkv (pAgg Key_.cells) (pAgg Qa.cells))))])
def f12r2n4S(bq1:Qh)(v83:Int)(v84:List (Key_×Qa)):Tr×Hp:=(mkS [(8,(.mp 0)),(55,(jL 4 Qa.cells bq1.Rows)),(56,(jI (bq1.Rows.length:Int))),(57,(jI v83))],[some (.map (v84.map (mkv (pAgg Key_.cells) (pAgg Qa.cells))))])
noncomputable def f12r2n4:Nat→Qh→Int→List (Key_×Qa)→Option f12r2n4O
 | 0,_,_,_=>none
 | f+1,bq1,v83,v84 =>
  bif decide (v83<(bq1.Rows.length:Int)) then
   (at? bq1.Rows v83).bind fun x91 =>
   (f36r2 x91.Account x91.Ccy (wr64 (0-x91.In)) (wr64 (0-x91.Out)) v84).bind fun x93 =>
   (f12r2n4 f bq1 (wr64 (v83+1)) (mPut Key_.eqb (Key_.mk x91.Account x91.Ccy) (Qa.mk x91.Account x91.Ccy (wr64 ((mGet Key_.eqb (Qa.mk Qy Qy 0 0) (Key_.mk x91.Account x91.Ccy) v84).In+(wr64 (0-x91.In)))) (wr64 ((mGet Key_.eqb (Qa.mk Qy Qy 0 0) (Key_.mk x91.Account x91.Ccy) v84).Out+(wr64 (0-x91.Out))))) v84))
  else
   some (.exit2 v84)
theorem f12r2n4_ok:∀(f:Nat)(bq1:Qh)(v83:Int)(v84:List (Key_×Qa)){o:f12r2n4O},f12r2n4 f bq1 v83 v84=some o→TL Tryd.prog Tryd.f12.ntmps 0 f (cL (cL (Qt 1 (cL (Qt 0 (Qt 1 (Qt 5 c12))))))) (f12r2n4S bq1 v83 v84) (·=f12r2n4E bq1 o)
 | 0,_,_,_,o,h=>by rw [f12r2n4] at h; cases h
 | f+1,bq1,v83,v84,o,h=>by
  rw [f12r2n4] at h;refine TL.body (K:=fun s=>∃v83:Int,∃v84:List (Key_×Qa),s=(f12r2n4S bq1 v83 v84)∧f12r2n4 f bq1 v83 v84=some o) ?_ (by rintro _ ⟨v83,v84,rfl,hk⟩; exact f12r2n4_ok f _ _ _ hk);rcases Qg h with ⟨h86,h⟩|⟨h86,h⟩
  ·obtain ⟨x91,h92,h⟩:=Qe h;obtain ⟨x93,h94,h⟩:=Qe h
   exact rE Qi [j3,([],[(0,.idx (Int.toNat v83) (Qa.cells x91))],[]),([],[(11,.call (.tup []) [some (.map ((mPut Key_.eqb (Key_.mk x91.Account x91.Ccy) (Qa.mk x91.Account x91.Ccy (wr64 ((mGet Key_.eqb (Qa.mk Qy Qy 0 0) (Key_.mk x91.Account x91.Ccy) v84).In+(wr64 (0-x91.In)))) (wr64 ((mGet Key_.eqb (Qa.mk Qy Qy 0 0) (Key_.mk x91.Account x91.Ccy) v84).Out+(wr64 (0-x91.Out))))) v84).map (mkv (pAgg Key_.cells) (pAgg Qa.cells)))),none])],[]),j3] [some true] [] [0] [8,55,56,57] (.norm,(f12r2n4S bq1 (wr64 (v83+1)) (mPut Key_.eqb (Key_.mk x91.Account x91.Ccy) (Qa.mk x91.Account x91.Ccy (wr64 ((mGet Key_.eqb (Qa.mk Qy Qy 0 0) (Key_.mk x91.Account x91.Ccy) v84).In+(wr64 (0-x91.In)))) (wr64 ((mGet Key_.eqb (Qa.mk Qy Qy 0 0) (Key_.mk x91.Account x91.Ccy) v84).Out+(wr64 (0-x91.Out))))) v84))) (ap h86 (ap (Qm h92).1 (ap (Qag Qa.cells (Qm h92).2) (ap (Ql.rn 2 [0] (f36r2_ok x91.Account x91.Ccy (wr64 (0-x91.In)) (wr64 (0-x91.Out)) v84 h94)) an)))) (Qad.norm ⟨(wr64 (v83+1)),(mPut Key_.eqb (Key_.mk x91.Account x91.Ccy) (Qa.mk x91.Account x91.Ccy (wr64 ((mGet Key_.eqb (Qa.mk Qy Qy 0 0) (Key_.mk x91.Account x91.Ccy) v84).In+(wr64 (0-x91.In)))) (wr64 ((mGet Key_.eqb (Qa.mk Qy Qy 0 0) (Key_.mk x91.Account x91.Ccy) v84).Out+(wr64 (0-x91.Out))))) v84),rfl,h⟩)
  ·obtain rfl:=Qf h;exact rK Qi 2 [j3] [some false] [] [0] [8] (.exit 2) ((f12r2n4E bq1 (.exit2 v84)).2) (ap h86 an) (Qad.out rfl rfl)
noncomputable def f12r2n4L(bq1:Qh):List Qa→Int→(List (Key_×Qa))→Option f12r2n4O
 | [],v83,v84 =>
  some (.exit2 v84)
 | x0::rest,v83,v84 =>
  (f36r2 x0.Account x0.Ccy (wr64 (0-x0.In)) (wr64 (0-x0.Out)) v84).bind fun x93 =>
  (f12r2n4L bq1 rest (v83+1) (mPut Key_.eqb (Key_.mk x0.Account x0.Ccy) (Qa.mk x0.Account x0.Ccy (wr64 ((mGet Key_.eqb (Qa.mk Qy Qy 0 0) (Key_.mk x0.Account x0.Ccy) v84).In+(wr64 (0-x0.In)))) (wr64 ((mGet Key_.eqb (Qa.mk Qy Qy 0 0) (Key_.mk x0.Account x0.Ccy) v84).Out+(wr64 (0-x0.Out))))) v84))
theorem f12r2n4L_eq(bq1:Qh):∀(rest:List Qa)(f k:Nat)(v84:List (Key_×Qa)),bq1.Rows.drop k=rest→bq1.Rows.length≤maxLen→rest.length<f→f12r2n4 f bq1 (k:Int) v84=f12r2n4L bq1 rest (k:Int) v84
 | _,0,_,_,_,_,hf=>absurd hf (Nat.not_lt_zero _)
 | [],f+1,k,v84,hd,hm,hf=>by
  have hk:¬((k:Int)<(bq1.Rows.length:Int)):=by have:=Qbj hd; omega
  rw [f12r2n4,f12r2n4L];simp only [decide_eq_false hk,cond_false]
 | x0::rest,f+1,k,v84,hd,hm,hf=>by
  obtain ⟨hx,hlt,hd'⟩:=Qbn hd;have hk:(k:Int)<(bq1.Rows.length:Int):=by omega
  have hw:wr64 ((k:Int)+1)=(k:Int)+1:=wr64_of (by omega) (by unfold maxLen at hm; omega);have ih:∀(v84:List (Key_×Qa)),f12r2n4 f bq1 ((k:Int)+1) v84=f12r2n4L bq1 rest ((k:Int)+1) v84:=fun v84=>f12r2n4L_eq bq1 rest f (k+1) v84 hd' hm (by simpa using hf);rw [f12r2n4,f12r2n4L];simp only [decide_eq_true hk,cond_true,at_nat,hx,Option.bind_some,hw,ih]
theorem f12r2n4_run(bq1:Qh)(v84:List (Key_×Qa))(hm:bq1.Rows.length≤maxLen):f12r2n4 FUEL bq1 0 v84=f12r2n4L bq1 bq1.Rows 0 v84:=f12r2n4L_eq bq1 bq1.Rows FUEL 0 v84 List.drop_zero hm (lt_FUEL hm)
inductive f12r2n3O where
 | norm (v99:List (Key_×Qa))
def f12r2n3E(bq1:Qh)(bl2:List (Key_×Qa)):f12r2n3O→Ex×Tr×Hp
 | .norm v99=>(.norm,mkS [(8,(.mp 0))],[some (.map (v99.map (mkv (pAgg Key_.cells) (pAgg Qa.cells))))])
def f12r2n3S(bq1:Qh)(bl2:List (Key_×Qa)):Tr×Hp:=(mkS [(2,(.bp 0 0)),(8,(.mp 1))],[some (.box 24 ((Qh.cells bq1).map .pl)),some (.map (bl2.map (mkv (pAgg Key_.cells) (pAgg Qa.cells))))])
noncomputable def f12r2n3(bq1:Qh)(bl2:List (Key_×Qa)):Option f12r2n3O :=
 (f12r2n4 FUEL bq1 0 bl2).bind fun o96=>match o96 with
 | .exit2 v98=>some (.norm v98)
theorem f12r2n3_ok(bq1:Qh)(bl2:List (Key_×Qa)){o:f12r2n3O}(h:f12r2n3 bq1 bl2=some o):T Tryd.prog Tryd.f12.ntmps 0 (cL (Qt 0 (Qt 1 (Qt 5 c12)))) (f12r2n3S bq1 bl2) (·=f12r2n3E bq1 bl2 o):=by
 unfold f12r2n3 at h;refine rN Qi 1 [([],[],[(2,.val (jI (bq1.Rows.length:Int)))])] [] [] [1] [8,55,56,57] (f12r2n4S bq1 0 bl2) (ap (Qan (xs:=bq1.Rows) (c:=Qa.cells)) an) ?_;obtain ⟨o96,h97,h⟩:=Qe h;cases o96 with
 | exit2 v98 =>
  obtain rfl:=Qf h;exact T.last' (T.bl (i:=2) (by kernel_rfl) (by kernel_rfl) (f12r2n4_ok FUEL bq1 0 bl2 h97)) (tds:=[]) (m:=[0]) (keep:=[8]) (st2:=(f12r2n3E bq1 bl2 (.norm v98)).2) (by kernel_rfl) an rfl
inductive f12r2n0O where
 | ret (v107:Int) (v108:List Qa)
def f12r2n0E(a1 a2:Qh):f12r2n0O→Ex×Tr×Hp
 | .ret v107 v108=>(.ret,mkS [(4,(.own 0)),(5,(jI v107))],[jR 4 Qa.cells v108])
def f12r2n0S(a1 a2:Qh):Tr×Hp:=(Qal [(jA Qh.cells a1),(jA Qh.cells a2)] 0 .leaf,[])
noncomputable def f12r2n0(a1 a2:Qh):Option f12r2n0O :=
 (f15 a1).bind fun x6 =>
 bif decide (x6=0) then
  (f15 a2).bind fun x12 =>
  bif decide (x12=0) then
   bif decide (a1.From=a2.From) then
    bif decide (a1.To=a2.To) then
     (f12r2n1 a1 a2).bind fun o58=>match o58 with
     | .norm v60=>(f12r2n3 a1 v60).bind fun o100=>match o100 with
      | .norm v102=>(f37r1 v102).bind fun x105 =>
       some (.ret 0 x105)
    else
     some (.ret 2 [])
   else
    some (.ret 2 [])
  else
   some (.ret x12 [])
 else
  some (.ret x6 [])
theorem f12r2n0_ok(a1 a2:Qh){o:f12r2n0O}(h:f12r2n0 a1 a2=some o):T Tryd.prog Tryd.f12.ntmps 0 c12 (f12r2n0S a1 a2) (·=f12r2n0E a1 a2 o):=by
 unfold f12r2n0 at h;obtain ⟨x6,h7,h⟩:=Qe h;rcases Qg h with ⟨h8,h⟩|⟨h8,h⟩
 ·obtain ⟨x12,h13,h⟩:=Qe h;rcases Qg h with ⟨h14,h⟩|⟨h14,h⟩
  ·rcases Qg h with ⟨h17,h⟩|⟨h17,h⟩
   ·rcases Qg h with ⟨h18,h⟩|⟨h18,h⟩
    ·refine rN Qi 5 [j3,([],[jH 1 (jI x6)],[]),j3,([],[jH 1 (jI x12)],[]),j3,(jF [6,7,8,9,10],[(11,.bool false)],[]),j3] [some false,some false,some false] [] [0,1,2] [2,3,8] (f12r2n1S a1 a2) (ap (Qar a1 h7) (ap (Qq h8) (ap (Qar a2 h13) (ap (Qq h14) (ap2 (Qq h17) (ap4 (Qq h17) (ap (Qq h18) an))))))) ?_;obtain ⟨o58,h59,h⟩:=Qe h;cases o58 with
     | norm v60 =>
      refine T.oneN (by kernel_rfl) (f12r2n1_ok a1 a2 h59) (st2:=(f12r2n1E a1 a2 (.norm v60)).2) rfl ?_;refine rN Qi 0 [] [] [] [0,1] [2,8] (f12r2n3S a1 v60) an ?_;obtain ⟨o100,h101,h⟩:=Qe h;cases o100 with
      | norm v102 =>
       refine T.oneN (by kernel_rfl) (f12r2n3_ok a1 v60 h101) (st2:=(f12r2n3E a1 v60 (.norm v102)).2) rfl ?_;obtain ⟨x105,h106,h⟩:=Qe h;obtain rfl:=Qf h;exact rE Qi [([],[(1,.call (.own 1) [some (.map (v102.map (mkv (pAgg Key_.cells) (pAgg Qa.cells)))),jR 4 Qa.cells x105])],[])] [] [] [1] [4,5] (.ret,(f12r2n0E a1 a2 (.ret 0 x105)).2) (ap (f37r1_ok v102 h106) an) rfl
    ·obtain rfl:=Qf h;exact rK Qi 4 [j3,([],[jH 1 (jI x6)],[]),j3,([],[jH 1 (jI x12)],[]),j3,(jF [6,7,8,9,10],[(11,.bool false)],[]),j3] [some false,some false,some true] [.mat 4 4] [2] [4,5] .ret ((f12r2n0E a1 a2 (.ret 2 [])).2) (ap (Qar a1 h7) (ap (Qq h8) (ap (Qar a2 h13) (ap (Qq h14) (ap2 (Qq h17) (ap4 (Qq h17) (ap (Qaf h18) an))))))) rfl
   ·obtain rfl:=Qf h;exact rK Qi 4 [j3,([],[jH 1 (jI x6)],[]),j3,([],[jH 1 (jI x12)],[]),j3,(jT [6,7,8,9,10],[(11,.bool true)],[]),j3] [some false,some false,none] [.mat 4 4] [2] [4,5] .ret ((f12r2n0E a1 a2 (.ret 2 [])).2) (ap (Qar a1 h7) (ap (Qq h8) (ap (Qar a2 h13) (ap (Qq h14) (ap2 (Qaf h17) (ap4 (Qaf h17) an)))))) rfl
  ·obtain rfl:=Qf h;exact rK Qi 3 [j3,([],[jH 1 (jI x6)],[]),j3,([],[jH 1 (jI x12)],[]),j3,j3] [some false,some true] [.mat 4 4] [2] [4,5] .ret ((f12r2n0E a1 a2 (.ret x12 [])).2) (ap (Qar a1 h7) (ap (Qq h8) (ap (Qar a2 h13) (ap (Qaf h14) an)))) rfl
 ·obtain rfl:=Qf h;exact rK Qi 2 [j3,([],[jH 1 (jI x6)],[]),j3,j3] [some true] [.mat 4 4] [2] [4,5] .ret ((f12r2n0E a1 a2 (.ret x6 [])).2) (ap (Qar a1 h7) (ap (Qaf h8) an)) rfl
noncomputable def f12r2(a1 a2:Qh):Option (Int×(List Qa)):=(f12r2n0 a1 a2).bind fun o=>match o with
 | .ret v107 v108=>some (v107,v108)
theorem f12r2_ok(a1 a2:Qh){r:Int×(List Qa)}(h:f12r2 a1 a2=some r):Ql Tryd.prog true 12 [(jA Qh.cells a1),(jA Qh.cells a2)] [] (.tup [(.own 0),(jI r.1)]) [jR 4 Qa.cells r.2]:=by
 unfold f12r2 at h;obtain ⟨o,ho,h⟩:=Qe h;cases o with
 | ret v107 v108 =>
  obtain rfl:=Qf h;exact Ql.shared Qi (f:=Tryd.f12) (c:=c12) (by kernel_rfl) (by kernel_rfl) (by kernel_rfl) ((f12r2n0_ok a1 a2 ho).mono fun r e=>by subst e; exact ⟨.inl rfl,by kernel_rfl,by kernel_rfl⟩)

inductive f37r2n2O where
 | exit0 (v32:List Qa)
def f37r2n2E:f37r2n2O→Ex×Tr×Hp
 | .exit0 v32=>((.exit 0),mkS [(3,(.own 1))],[some (.map ([].map (mkv (pAgg Key_.cells) (pAgg Qa.cells)))),jR 4 Qa.cells v32])
def f37r2n2S(v20:List Qa)(sn0:List Nat):Tr×Hp:=(mkS [(3,(.own 1)),(7,(.it 2))],[some (.map ([].map (mkv (pAgg Key_.cells) (pAgg Qa.cells)))),jR 4 Qa.cells v20,some (.iter 0 ([].map (mkv (pAgg Key_.cells) (pAgg Qa.cells))).length sn0)])
noncomputable def f37r2n2:List (Key_×Qa)→(List Qa)→Option f37r2n2O
 | [],v20 =>
  some (.exit0 v20)
 | x22::rest,v20 =>
  bif decide (x22.2.In=0) then
   bif decide (x22.2.Out=0) then
    (f37r2n2 rest v20)
   else
    req (fit (v20.length+1) 48) <|
    (f37r2n2 rest (v20++[x22.2]))
  else
   req (fit (v20.length+1) 48) <|
   (f37r2n2 rest (v20++[x22.2]))
theorem f37r2n2_ok:∀(f:Nat)(sn0 rem:List Nat)(v20:List Qa){o:f37r2n2O},Rem ([]:List (Key_×Qa)).length sn0 rem→rem.length<f→(∀p,p.Perm rem→f37r2n2 (ords ([]:List (Key_×Qa)) p) v20=some o)→TL Tryd.prog Tryd.f37.ntmps 1 f (cL (cL (Qt 1 (cL (Qt 2 c37))))) (f37r2n2S v20 sn0) (·=f37r2n2E o)
 | 0,_,_,_,_,_,hf,_=>absurd hf (Nat.not_lt_zero _)
 | f+1,sn0,rem,v20,o,hR,hf,H=>by
  refine TL.body (K:=fun s=>∃(sn0 rem:List Nat) (v20:List Qa),s=f37r2n2S v20 sn0∧Rem ([]:List (Key_×Qa)).length sn0 rem∧rem.length<f∧(∀p,p.Perm rem→f37r2n2 (ords ([]:List (Key_×Qa)) p) v20=some o)) ?_ (by rintro _ ⟨sn0,rem,v20,rfl,h1,h2,h3⟩; exact f37r2n2_ok f sn0 rem v20 h1 h2 h3);refine T.oneNext Qi (x:=.tmp 7) (t:=8) (tb:=9) (i:=2) (o:=0) (m:=(([]:List (Key_×Qa)).map (mkv (pAgg Key_.cells) (pAgg Qa.cells))).length) (seen:=sn0) (kvs:=(([]:List (Key_×Qa)).map (mkv (pAgg Key_.cells) (pAgg Qa.cells)))) (by kernel_rfl) (by kernel_rfl) (by kernel_rfl) (by kernel_rfl) (by kernel_rfl) (by kernel_rfl) rfl (fun hs=>?_) (fun j21 k v hj hs hx=>?_)
  ·obtain rfl:=hR.none (by simp);have h:f37r2n2 [] v20=some o:=H [] (List.Perm.refl _);rw [f37r2n2] at h;obtain rfl:=Qf h;exact rK Qi 1 [] [none] [] [1] [3] (.exit 0) ((f37r2n2E (.exit0 v20)).2) an (Qad.out rfl rfl)
  ·obtain ⟨x22,h23,rfl,rfl⟩:=mkv_at hx;obtain ⟨hR2,hlen,hP⟩:=hR.step (j:=j21) (by simp at hj) hs;have H2:∀p,p.Perm (rem.erase j21)→f37r2n2 (x22::ords ([]:List (Key_×Qa)) p) v20=some o:=fun p hp=>by have h:=H _ (hP p hp); rwa [ords_cons h23] at h
   have h:=H2 _ (List.Perm.refl _);rw [f37r2n2] at h;rcases Qg h with ⟨h28,h⟩|⟨h28,h⟩
   ·rcases Qg h with ⟨h29,h⟩|⟨h29,h⟩
    ·exact rE Qi [([],[(0,.entr j21 ((pAgg Key_.cells) x22.1) ((pAgg Qa.cells) x22.2))],[]),(jF [4,5,6],[(7,.bool false)],[])] [none,some false] [] [1,2] [3,7] (.norm,(f37r2n2S v20 (sn0++[j21]))) (ap (last_app (seen:=sn0) (j:=j21)) (ap (rfl:([].map (mkv (pAgg Key_.cells) (pAgg Qa.cells))).length=([].map (mkv (pAgg Key_.cells) (pAgg Qa.cells))).length) (ap (at_mkv (kp:=(pAgg Key_.cells)) (vp:=(pAgg Qa.cells)) h23) (ap4 (Qq h28) (ap (Qq h29) an))))) (Qad.norm ⟨sn0++[j21],rem.erase j21,v20,rfl,hR2,by omega,fun p hp=>by have h:=H2 p hp; rw [f37r2n2] at h; simp only [h28,h29,cond_true,cond_false,Option.bind_some,req] at h; exact h⟩)
    ·obtain ⟨h30,h⟩:=Qam h
     exact rE Qi [([],[(0,.entr j21 ((pAgg Key_.cells) x22.1) ((pAgg Qa.cells) x22.2))],[]),(jF [4,5,6],[(7,.bool false)],[]),([],[(3,.fits)],[(3,.row 5 ((v20++[x22.2]).map Qa.cells))])] [none,some true] [] [5,2] [3,7] (.norm,(f37r2n2S (v20++[x22.2]) (sn0++[j21]))) (ap (last_app (seen:=sn0) (j:=j21)) (ap (rfl:([].map (mkv (pAgg Key_.cells) (pAgg Qa.cells))).length=([].map (mkv (pAgg Key_.cells) (pAgg Qa.cells))).length) (ap (at_mkv (kp:=(pAgg Key_.cells)) (vp:=(pAgg Qa.cells)) h23) (ap4 (Qq h28) (ap (Qaf h29) (ap (fit_map (te:=ti39) (xs:=v20) (n:=1) (c:=Qa.cells) h30 rfl) (ap (app_cv (xs:=v20) (ys:=[x22.2]) (c:=Qa.cells)) an))))))) (Qad.norm ⟨sn0++[j21],rem.erase j21,(v20++[x22.2]),rfl,hR2,by omega,fun p hp=>by have h:=H2 p hp; rw [f37r2n2] at h; simp only [h28,h29,h30,cond_true,cond_false,Option.bind_some,req] at h; exact h⟩)
   ·obtain ⟨h31,h⟩:=Qam h
    exact rE Qi [([],[(0,.entr j21 ((pAgg Key_.cells) x22.1) ((pAgg Qa.cells) x22.2))],[]),(jT [4,5,6],[(7,.bool true)],[]),([],[(3,.fits)],[(3,.row 5 ((v20++[x22.2]).map Qa.cells))])] [none,none] [] [5,2] [3,7] (.norm,(f37r2n2S (v20++[x22.2]) (sn0++[j21]))) (ap (last_app (seen:=sn0) (j:=j21)) (ap (rfl:([].map (mkv (pAgg Key_.cells) (pAgg Qa.cells))).length=([].map (mkv (pAgg Key_.cells) (pAgg Qa.cells))).length) (ap (at_mkv (kp:=(pAgg Key_.cells)) (vp:=(pAgg Qa.cells)) h23) (ap4 (Qaf h28) (ap (fit_map (te:=ti39) (xs:=v20) (n:=1) (c:=Qa.cells) h31 rfl) (ap (app_cv (xs:=v20) (ys:=[x22.2]) (c:=Qa.cells)) an)))))) (Qad.norm ⟨sn0++[j21],rem.erase j21,(v20++[x22.2]),rfl,hR2,by omega,fun p hp=>by have h:=H2 p hp; rw [f37r2n2] at h; simp only [h28,h31,cond_true,cond_false,Option.bind_some,req] at h; exact h⟩)
inductive f37r2n1O where
 | norm (v36:List Qa)
def f37r2n1E:f37r2n1O→Ex×Tr×Hp
 | .norm v36=>(.norm,mkS [(3,(.own 1))],[some (.map ([].map (mkv (pAgg Key_.cells) (pAgg Qa.cells)))),jR 4 Qa.cells v36])
def f37r2n1S:Tr×Hp:=(mkS [(0,(.mp 0)),(3,(.pl (.sl .nil 0 [])))],[some (.map ([].map (mkv (pAgg Key_.cells) (pAgg Qa.cells))))])
noncomputable def f37r2n1:Option f37r2n1O :=
 (anyOrder ([]:List (Key_×Qa)) fun p=>(f37r2n2 p [])).bind fun o33=>match o33 with
 | .exit0 v35=>some (.norm v35)
theorem f37r2n1_ok{o:f37r2n1O}(h:f37r2n1=some o):T Tryd.prog Tryd.f37.ntmps 1 (cL (Qt 2 c37)) f37r2n1S (·=f37r2n1E o):=by
 unfold f37r2n1 at h;refine rN Qi 1 [j3] [] [.mat 3 4] [2,1] [3,7] (f37r2n2S [] []) an ?_;obtain ⟨o33,h34,h⟩:=Qe h;cases o33 with
 | exit0 v35 =>
  obtain rfl:=Qf h;exact T.last' (T.bl (i:=0) (by kernel_rfl) (by kernel_rfl) (f37r2n2_ok _ [] (List.range ([]:List (Key_×Qa)).length) [] (Rem.start _) (Nat.lt_succ_self _) (fun p hp=>anyOrder_at h34 _ (ords_perm hp)))) (tds:=[]) (m:=[1]) (keep:=[3]) (st2:=(f37r2n1E (.norm v35)).2) (by kernel_rfl) an rfl
inductive f37r2n0O where
 | ret (v44:List Qa)
def f37r2n0E:f37r2n0O→Ex×Tr×Hp
 | .ret v44=>(.ret,mkS [(2,(.own 1))],[some (.map ([].map (mkv (pAgg Key_.cells) (pAgg Qa.cells)))),jR 4 Qa.cells v44])
def f37r2n0S:Tr×Hp:=(Qal [(.mp 0)] 0 .leaf,[some (.map ([].map (mkv (pAgg Key_.cells) (pAgg Qa.cells))))])
noncomputable def f37r2n0:Option f37r2n0O :=
 f37r2n1.bind fun o37=>match o37 with
 | .norm v39=>(so59_41 v39).bind fun x42 =>
  some (.ret x42)
theorem f37r2n0_ok{o:f37r2n0O}(h:f37r2n0=some o):T Tryd.prog Tryd.f37.ntmps 1 c37 f37r2n0S (·=f37r2n0E o):=by
 unfold f37r2n0 at h;refine rN Qi 2 [j3,j3] [] [] [] [0,3] f37r2n1S an ?_;obtain ⟨o37,h38,h⟩:=Qe h;cases o37 with
 | norm v39 =>
  refine T.oneN (by kernel_rfl) (f37r2n1_ok h38) (st2:=(f37r2n1E (.norm v39)).2) rfl ?_;obtain ⟨x42,h43,h⟩:=Qe h;obtain rfl:=Qf h;exact rE Qi [([],[(1,.call (.tup []) [none,jR 4 Qa.cells x42])],[]),j3] [] [] [1] [2] (.ret,(f37r2n0E (.ret x42)).2) (ap (Ql.rn 2 [1] (so59_41_ok v39 h43)) an) rfl
noncomputable def f37r2:Option (List Qa):=f37r2n0.bind fun o=>match o with
 | .ret v44=>some v44
theorem f37r2_ok{r:List Qa}(h:f37r2=some r):Ql Tryd.prog true 37 [(.mp 0)] [some (.map ([].map (mkv (pAgg Key_.cells) (pAgg Qa.cells))))] (.own 1) [some (.map ([].map (mkv (pAgg Key_.cells) (pAgg Qa.cells)))),jR 4 Qa.cells r]:=by
 unfold f37r2 at h;obtain ⟨o,ho,h⟩:=Qe h;cases o with
 | ret v44 =>
  obtain rfl:=Qf h;exact Ql.shared Qi (f:=Tryd.f37) (c:=c37) (by kernel_rfl) (by kernel_rfl) (by kernel_rfl) ((f37r2n0_ok  ho).mono fun r e=>by subst e; exact ⟨.inl rfl,by kernel_rfl,by kernel_rfl⟩)

inductive f12r3n2O where
 | exit0
def f12r3n2E(bf1 bf2:Int):f12r3n2O→Ex×Tr×Hp
 | .exit0=>((.exit 0),mkS [(2,(.bp 0 0)),(8,(.mp 1))],[some (.box 24 [(jI bf1),(jI bf2),(jI bf1),(.pl (.sl .nil 0 []))]),some (.map ([].map (mkv (pAgg Key_.cells) (pAgg Qa.cells))))])
def f12r3n2S(bf1 bf2:Int):Tr×Hp:=(mkS [(2,(.bp 0 0)),(8,(.mp 1)),(37,(.pl (.sl .nil 0 []))),(38,(jI 0)),(39,(jI 0))],[some (.box 24 [(jI bf1),(jI bf2),(jI bf1),(.pl (.sl .nil 0 []))]),some (.map ([].map (mkv (pAgg Key_.cells) (pAgg Qa.cells))))])
noncomputable def f12r3n2:Nat→Int→Int→Option f12r3n2O
 | 0,_,_=>none
 | f+1,bf1,bf2 =>
  some .exit0
theorem f12r3n2_ok:∀(f:Nat)(bf1 bf2:Int){o:f12r3n2O},f12r3n2 f bf1 bf2=some o→TL Tryd.prog Tryd.f12.ntmps 0 f (cL (cL (Qt 1 (cL (Qt 2 (Qt 3 c12)))))) (f12r3n2S bf1 bf2) (·=f12r3n2E bf1 bf2 o)
 | 0,_,_,o,h=>by rw [f12r3n2] at h; cases h
 | f+1,bf1,bf2,o,h=>by
  rw [f12r3n2] at h;refine TL.body (K:=fun s=>s=(f12r3n2S bf1 bf2)∧f12r3n2 f bf1 bf2=some o) ?_ (by rintro _ ⟨rfl,hk⟩; exact f12r3n2_ok f _ _ hk);obtain rfl:=Qf h;exact rK Qi 2 [j3] [none] [] [0,1] [2,8] (.exit 0) ((f12r3n2E bf1 bf2 .exit0).2) an (Qad.out rfl rfl)
inductive f12r3n1O where
 | norm
def f12r3n1E(bf1 bf2 bf3:Int):f12r3n1O→Ex×Tr×Hp
 | .norm=>(.norm,mkS [(2,(.bp 0 0)),(8,(.mp 1))],[some (.box 24 [(jI bf1),(jI bf2),(jI bf1),(.pl (.sl .nil 0 []))]),some (.map ([].map (mkv (pAgg Key_.cells) (pAgg Qa.cells))))])
def f12r3n1S(bf1 bf2 bf3:Int):Tr×Hp:=(mkS [(2,(.bp 0 0)),(3,(.bp 1 0)),(8,(.mp 2))],[some (.box 24 [(jI bf1),(jI bf2),(jI bf1),(.pl (.sl .nil 0 []))]),some (.box 24 [(jI bf1),(jI bf3),(jI bf1),(.pl (.sl .nil 0 []))]),some (.map ([].map (mkv (pAgg Key_.cells) (pAgg Qa.cells))))])
noncomputable def f12r3n1(bf1 bf2 bf3:Int):Option f12r3n1O :=
 (f12r3n2 FUEL bf1 bf2).bind fun o20=>match o20 with
 | .exit0=>some .norm
theorem f12r3n1_ok(bf1 bf2 bf3:Int){o:f12r3n1O}(h:f12r3n1 bf1 bf2 bf3=some o):T Tryd.prog Tryd.f12.ntmps 0 (cL (Qt 2 (Qt 3 c12))) (f12r3n1S bf1 bf2 bf3) (·=f12r3n1E bf1 bf2 bf3 o):=by
 unfold f12r3n1 at h;refine rN Qi 1 [j3] [] [] [0,2] [2,8,37,38,39] (f12r3n2S bf1 bf2) an ?_;obtain ⟨o20,h21,h⟩:=Qe h;cases o20 with
 | exit0 =>
  obtain rfl:=Qf h;exact T.last' (T.bl (i:=0) (by kernel_rfl) (by kernel_rfl) (f12r3n2_ok FUEL bf1 bf2 h21)) (tds:=[]) (m:=[0,1]) (keep:=[2,8]) (st2:=(f12r3n1E bf1 bf2 bf3 .norm).2) (by kernel_rfl) an rfl
inductive f12r3n4O where
 | exit2
def f12r3n4E:f12r3n4O→Ex×Tr×Hp
 | .exit2=>((.exit 2),mkS [(8,(.mp 0))],[some (.map ([].map (mkv (pAgg Key_.cells) (pAgg Qa.cells))))])
def f12r3n4S:Tr×Hp:=(mkS [(8,(.mp 0)),(55,(.pl (.sl .nil 0 []))),(56,(jI 0)),(57,(jI 0))],[some (.map ([].map (mkv (pAgg Key_.cells) (pAgg Qa.cells))))])
noncomputable def f12r3n4:Nat→Option f12r3n4O
 | 0=>none
 | f+1 =>
  some .exit2
theorem f12r3n4_ok:∀(f:Nat){o:f12r3n4O},f12r3n4 f=some o→TL Tryd.prog Tryd.f12.ntmps 0 f (cL (cL (Qt 1 (cL (Qt 0 (Qt 1 (Qt 2 (Qt 3 c12)))))))) f12r3n4S (·=f12r3n4E o)
 | 0,o,h=>by rw [f12r3n4] at h; cases h
 | f+1,o,h=>by
  rw [f12r3n4] at h;refine TL.body (K:=fun s=>s=f12r3n4S∧f12r3n4 f=some o) ?_ (by rintro _ ⟨rfl,hk⟩; exact f12r3n4_ok f  hk);obtain rfl:=Qf h;exact rK Qi 2 [j3] [none] [] [0] [8] (.exit 2) ((f12r3n4E .exit2).2) an (Qad.out rfl rfl)
inductive f12r3n3O where
 | norm
def f12r3n3E(bf1 bf2:Int):f12r3n3O→Ex×Tr×Hp
 | .norm=>(.norm,mkS [(8,(.mp 0))],[some (.map ([].map (mkv (pAgg Key_.cells) (pAgg Qa.cells))))])
def f12r3n3S(bf1 bf2:Int):Tr×Hp:=(mkS [(2,(.bp 0 0)),(8,(.mp 1))],[some (.box 24 [(jI bf1),(jI bf2),(jI bf1),(.pl (.sl .nil 0 []))]),some (.map ([].map (mkv (pAgg Key_.cells) (pAgg Qa.cells))))])
noncomputable def f12r3n3(bf1 bf2:Int):Option f12r3n3O :=
 (f12r3n4 FUEL).bind fun o24=>match o24 with
 | .exit2=>some .norm
theorem f12r3n3_ok(bf1 bf2:Int){o:f12r3n3O}(h:f12r3n3 bf1 bf2=some o):T Tryd.prog Tryd.f12.ntmps 0 (cL (Qt 0 (Qt 1 (Qt 2 (Qt 3 c12))))) (f12r3n3S bf1 bf2) (·=f12r3n3E bf1 bf2 o):=by
 unfold f12r3n3 at h;refine rN Qi 1 [j3] [] [] [1] [8,55,56,57] f12r3n4S an ?_;obtain ⟨o24,h25,h⟩:=Qe h;cases o24 with
 | exit2 =>
  obtain rfl:=Qf h;exact T.last' (T.bl (i:=2) (by kernel_rfl) (by kernel_rfl) (f12r3n4_ok FUEL h25)) (tds:=[]) (m:=[0]) (keep:=[8]) (st2:=(f12r3n3E bf1 bf2 .norm).2) (by kernel_rfl) an rfl
inductive f12r3n0O where
 | ret (v32:Int) (v33:List Qa)
def f12r3n0E(a1 a2 a3:Int):f12r3n0O→Ex×Tr×Hp
 | .ret v32 v33=>(.ret,mkS [(4,(.own 0)),(5,(jI v32))],[jR 4 Qa.cells v33])
def f12r3n0S(a1 a2 a3:Int):Tr×Hp:=(Qal [(.pl (.agg [(.int .i64 a1),(.int .i64 a2),(.int .i64 a1),(.sl .nil 0 [])])),(.pl (.agg [(.int .i64 a1),(.int .i64 a3),(.int .i64 a1),(.sl .nil 0 [])]))] 0 .leaf,[])
noncomputable def f12r3n0(a1 a2 a3:Int):Option f12r3n0O :=
 (f15 (Qh.mk a1 a2 a1 [])).bind fun x7 =>
 bif decide (x7=0) then
  (f15 (Qh.mk a1 a3 a1 [])).bind fun x13 =>
  bif decide (x13=0) then
   bif decide (a1=a1) then
    bif decide (a2=a3) then
     (f12r3n1 a1 a2 a3).bind fun o22=>match o22 with
     | .norm=>(f12r3n3 a1 a2).bind fun o26=>match o26 with
      | .norm=>f37r2.bind fun x30 =>
       some (.ret 0 x30)
    else
     some (.ret 2 [])
   else
    some (.ret 2 [])
  else
   some (.ret x13 [])
 else
  some (.ret x7 [])
theorem f12r3n0_ok(a1 a2 a3:Int){o:f12r3n0O}(h:f12r3n0 a1 a2 a3=some o):T Tryd.prog Tryd.f12.ntmps 0 c12 (f12r3n0S a1 a2 a3) (·=f12r3n0E a1 a2 a3 o):=by
 unfold f12r3n0 at h;obtain ⟨x7,h8,h⟩:=Qe h;rcases Qg h with ⟨h9,h⟩|⟨h9,h⟩
 ·obtain ⟨x13,h14,h⟩:=Qe h;rcases Qg h with ⟨h15,h⟩|⟨h15,h⟩
  ·refine rN Qi 3 [j3,([],[jH 1 (jI x7)],[]),j3,([],[jH 1 (jI x13)],[]),j3] [some false,some false] [] [0,1] [2,3] (mkS [(2,(.bp 0 0)),(3,(.bp 1 0))],[some (.box 24 [(jI a1),(jI a2),(jI a1),(.pl (.sl .nil 0 []))]),some (.box 24 [(jI a1),(jI a3),(jI a1),(.pl (.sl .nil 0 []))])]) (ap (Ql.wk (args':=[(.pl (.agg [(.int .i64 a1),(.int .i64 a2),(.int .i64 a1),(.sl .nil 0 [])]))]) (Qar (Qh.mk a1 a2 a1 []) h8) (wlc (Wk.pl (WkP.agg (wpc (WkP.refl _) (wpc (WkP.refl _) (wpc (WkP.refl _) (wpc (WkP.nil (f:=.nil) (sz:=0) (sz':=4)) wpn)))))) wln) (Wk.refl _) rfl) (ap (Qq h9) (ap (Ql.wk (args':=[(.pl (.agg [(.int .i64 a1),(.int .i64 a3),(.int .i64 a1),(.sl .nil 0 [])]))]) (Qar (Qh.mk a1 a3 a1 []) h14) (wlc (Wk.pl (WkP.agg (wpc (WkP.refl _) (wpc (WkP.refl _) (wpc (WkP.refl _) (wpc (WkP.nil (f:=.nil) (sz:=0) (sz':=4)) wpn)))))) wln) (Wk.refl _) rfl) (ap (Qq h15) an)))) ?_
   rcases Qg h with ⟨h18,h⟩|⟨h18,h⟩
   ·rcases Qg h with ⟨h19,h⟩|⟨h19,h⟩
    ·refine rN Qi 2 [(jF [6,7,8,9,10],[(11,.bool false)],[]),j3] [some false] [] [0,1,2] [2,3,8] (f12r3n1S a1 a2 a3) (ap2 (Qq h18) (ap4 (Qq h18) (ap (Qq h19) an))) ?_;obtain ⟨o22,h23,h⟩:=Qe h;cases o22 with
     | norm =>
      refine T.oneN (by kernel_rfl) (f12r3n1_ok a1 a2 a3 h23) (st2:=(f12r3n1E a1 a2 a3 .norm).2) rfl ?_;refine rN Qi 0 [] [] [] [0,1] [2,8] (f12r3n3S a1 a2) an ?_;obtain ⟨o26,h27,h⟩:=Qe h;cases o26 with
      | norm =>
       refine T.oneN (by kernel_rfl) (f12r3n3_ok a1 a2 h27) (st2:=(f12r3n3E a1 a2 .norm).2) rfl ?_;obtain ⟨x30,h31,h⟩:=Qe h;obtain rfl:=Qf h;exact rE Qi [([],[(1,.call (.own 1) [some (.map ([].map (mkv (pAgg Key_.cells) (pAgg Qa.cells)))),jR 4 Qa.cells x30])],[])] [] [] [1] [4,5] (.ret,(f12r3n0E a1 a2 a3 (.ret 0 x30)).2) (ap (f37r2_ok h31) an) rfl
    ·obtain rfl:=Qf h;exact rK Qi 1 [(jF [6,7,8,9,10],[(11,.bool false)],[]),j3] [some true] [.mat 4 4] [2] [4,5] .ret ((f12r3n0E a1 a2 a3 (.ret 2 [])).2) (ap2 (Qq h18) (ap4 (Qq h18) (ap (Qaf h19) an))) rfl
   ·obtain rfl:=Qf h;exact rK Qi 1 [(jT [6,7,8,9,10],[(11,.bool true)],[]),j3] [none] [.mat 4 4] [2] [4,5] .ret ((f12r3n0E a1 a2 a3 (.ret 2 [])).2) (ap2 (Qaf h18) (ap4 (Qaf h18) an)) rfl
  ·obtain rfl:=Qf h;exact rK Qi 3 [j3,([],[jH 1 (jI x7)],[]),j3,([],[jH 1 (jI x13)],[]),j3,j3] [some false,some true] [.mat 4 4] [2] [4,5] .ret ((f12r3n0E a1 a2 a3 (.ret x13 [])).2) (ap (Ql.wk (args':=[(.pl (.agg [(.int .i64 a1),(.int .i64 a2),(.int .i64 a1),(.sl .nil 0 [])]))]) (Qar (Qh.mk a1 a2 a1 []) h8) (wlc (Wk.pl (WkP.agg (wpc (WkP.refl _) (wpc (WkP.refl _) (wpc (WkP.refl _) (wpc (WkP.nil (f:=.nil) (sz:=0) (sz':=4)) wpn)))))) wln) (Wk.refl _) rfl) (ap (Qq h9) (ap (Ql.wk (args':=[(.pl (.agg [(.int .i64 a1),(.int .i64 a3),(.int .i64 a1),(.sl .nil 0 [])]))]) (Qar (Qh.mk a1 a3 a1 []) h14) (wlc (Wk.pl (WkP.agg (wpc (WkP.refl _) (wpc (WkP.refl _) (wpc (WkP.refl _) (wpc (WkP.nil (f:=.nil) (sz:=0) (sz':=4)) wpn)))))) wln) (Wk.refl _) rfl) (ap (Qaf h15) an)))) rfl
 ·obtain rfl:=Qf h;exact rK Qi 2 [j3,([],[jH 1 (jI x7)],[]),j3,j3] [some true] [.mat 4 4] [2] [4,5] .ret ((f12r3n0E a1 a2 a3 (.ret x7 [])).2) (ap (Ql.wk (args':=[(.pl (.agg [(.int .i64 a1),(.int .i64 a2),(.int .i64 a1),(.sl .nil 0 [])]))]) (Qar (Qh.mk a1 a2 a1 []) h8) (wlc (Wk.pl (WkP.agg (wpc (WkP.refl _) (wpc (WkP.refl _) (wpc (WkP.refl _) (wpc (WkP.nil (f:=.nil) (sz:=0) (sz':=4)) wpn)))))) wln) (Wk.refl _) rfl) (ap (Qaf h9) an)) rfl
noncomputable def f12r3(a1 a2 a3:Int):Option (Int×(List Qa)):=(f12r3n0 a1 a2 a3).bind fun o=>match o with
 | .ret v32 v33=>some (v32,v33)
theorem Qat(a1 a2 a3:Int){r:Int×(List Qa)}(h:f12r3 a1 a2 a3=some r):Ql Tryd.prog true 12 [(.pl (.agg [(.int .i64 a1),(.int .i64 a2),(.int .i64 a1),(.sl .nil 0 [])])),(.pl (.agg [(.int .i64 a1),(.int .i64 a3),(.int .i64 a1),(.sl .nil 0 [])]))] [] (.tup [(.own 0),(jI r.1)]) [jR 4 Qa.cells r.2]:=by
 unfold f12r3 at h;obtain ⟨o,ho,h⟩:=Qe h;cases o with
 | ret v32 v33 =>
  obtain rfl:=Qf h;exact Ql.shared Qi (f:=Tryd.f12) (c:=c12) (by kernel_rfl) (by kernel_rfl) (by kernel_rfl) ((f12r3n0_ok a1 a2 a3 ho).mono fun r e=>by subst e; exact ⟨.inl rfl,by kernel_rfl,by kernel_rfl⟩)

noncomputable def c27:Code:=Tryd.f27.body.getD .skip
inductive f27n0O where
 | ret
def f27n0E(a1 a2:Int):f27n0O→Ex×Tr×Hp
 | .ret=>(.ret,mkS [(4,(.own 0))],[some (.row false 4 ([(Qa.mk str_Ann Qaw a1 a2),(Qa.mk str_Bob Qaw a2 a1)].map Qa.cells))])
def f27n0S(a1 a2:Int):Tr×Hp:=(Qal [(jI a1),(jI a2)] 0 .leaf,[])
noncomputable def f27n0(a1 a2:Int):Option f27n0O :=
 some .ret
theorem f27n0_ok(a1 a2:Int){o:f27n0O}(h:f27n0 a1 a2=some o):T Tryd.prog Tryd.f27.ntmps 0 c27 (f27n0S a1 a2) (·=f27n0E a1 a2 o):=by
 unfold f27n0 at h;obtain rfl:=Qf h;exact rE Qi [j3,j3] [] [] [0] [4] (.ret,(f27n0E a1 a2 .ret).2) an rfl
noncomputable def f27(a1 a2:Int):Option (List Qa):=(f27n0 a1 a2).bind fun o=>match o with
 | .ret=>some [(Qa.mk str_Ann Qaw a1 a2),(Qa.mk str_Bob Qaw a2 a1)]
theorem Qbu(a1 a2:Int){r:List Qa}(h:f27 a1 a2=some r):Ql Tryd.prog false 27 [(jI a1),(jI a2)] [] (jL 4 Qa.cells r) []:=by
 unfold f27 at h;obtain ⟨o,ho,h⟩:=Qe h;cases o with
 | ret =>
  obtain rfl:=Qf h;exact Ql.plain Qi (f:=Tryd.f27) (c:=c27) (by kernel_rfl) (by kernel_rfl) (by kernel_rfl) (by kernel_rfl) ((f27n0_ok a1 a2 ho).mono fun r e=>by subst e; exact ⟨.inl rfl,(.own 0),(.pl (.sl .any 4 ([(Qa.mk str_Ann Qaw a1 a2),(Qa.mk str_Bob Qaw a2 a1)].map Qa.cells))),by kernel_rfl,by kernel_rfl,((Wk.refl _):Wk (.pl (.sl .any 4 ([(Qa.mk str_Ann Qaw a1 a2),(Qa.mk str_Bob Qaw a2 a1)].map Qa.cells))) (.pl (.sl .any 4 ([(Qa.mk str_Ann Qaw a1 a2),(Qa.mk str_Bob Qaw a2 a1)].map Qa.cells))))⟩)

noncomputable def c14:Code:=Tryd.f14.body.getD .skip
inductive f14n2O where
 | exit0
 | ret
def f14n2E(bt1 bt2:List Qa):f14n2O→Ex×Tr×Hp
 | .exit0=>((.exit 0),mkS [],[])
 | .ret=>(.ret,mkS [(4,(jB false))],[])
def f14n2S(bt1 bt2:List Qa)(v30:Int):Tr×Hp:=(mkS [(0,(jL 4 Qa.cells bt1)),(1,(jL 4 Qa.cells bt2)),(5,(jI v30))],[])
noncomputable def f14n2:Nat→List Qa→List Qa→Int→Option f14n2O
 | 0,_,_,_=>none
 | f+1,bt1,bt2,v30 =>
  bif decide (v30<(bt1.length:Int)) then
   (at? bt1 v30).bind fun x38 =>
   (at? bt2 v30).bind fun x40 =>
   bif (Qa.eqb x38 x40) then
    (f14n2 f bt1 bt2 (wr64 (v30+1)))
   else
    some .ret
  else
   some .exit0
theorem f14n2_ok:∀(f:Nat)(bt1 bt2:List Qa)(v30:Int){o:f14n2O},f14n2 f bt1 bt2 v30=some o→TL Tryd.prog Tryd.f14.ntmps 0 f (cL (cL (Qt 1 (cL (Qt 2 c14))))) (f14n2S bt1 bt2 v30) (·=f14n2E bt1 bt2 o)
 | 0,_,_,_,o,h=>by rw [f14n2] at h; cases h
 | f+1,bt1,bt2,v30,o,h=>by
  rw [f14n2] at h;refine TL.body (K:=fun s=>∃v30:Int,s=(f14n2S bt1 bt2 v30)∧f14n2 f bt1 bt2 v30=some o) ?_ (by rintro _ ⟨v30,rfl,hk⟩; exact f14n2_ok f _ _ _ hk);rcases Qg h with ⟨h32,h⟩|⟨h32,h⟩
  ·obtain ⟨x38,h39,h⟩:=Qe h;obtain ⟨x40,h41,h⟩:=Qe h;rcases Qg h with ⟨h42,h⟩|⟨h42,h⟩
   ·exact rE Qi [([],[],[(2,.val (jI (bt1.length:Int)))]),([],[(2,.idx (Int.toNat v30) (Qa.cells x38)),(6,.idx (Int.toNat v30) (Qa.cells x40)),(8,.bool (Qa.eqb x38 x40))],[]),j3] [some true,some false] [] [] [0,1,5] (.norm,(f14n2S bt1 bt2 (wr64 (v30+1)))) (ap (Qan (xs:=bt1) (c:=Qa.cells)) (ap h32 (ap (Qm h39).1 (ap (Qag Qa.cells (Qm h39).2) (ap (Qm h41).1 (ap (Qag Qa.cells (Qm h41).2) (ap (Qa.eqb_ok x38 x40) (ap (Qq h42) an)))))))) (Qad.norm ⟨(wr64 (v30+1)),rfl,h⟩)
   ·obtain rfl:=Qf h;exact rK Qi 2 [([],[],[(2,.val (jI (bt1.length:Int)))]),([],[(2,.idx (Int.toNat v30) (Qa.cells x38)),(6,.idx (Int.toNat v30) (Qa.cells x40)),(8,.bool (Qa.eqb x38 x40))],[]),j3] [some true,some true] [] [] [4] .ret ((f14n2E bt1 bt2 .ret).2) (ap (Qan (xs:=bt1) (c:=Qa.cells)) (ap h32 (ap (Qm h39).1 (ap (Qag Qa.cells (Qm h39).2) (ap (Qm h41).1 (ap (Qag Qa.cells (Qm h41).2) (ap (Qa.eqb_ok x38 x40) (ap (Qaf h42) an)))))))) (Qad.out rfl rfl)
  ·obtain rfl:=Qf h;exact rK Qi 1 [([],[],[(2,.val (jI (bt1.length:Int)))])] [some false] [] [] [] (.exit 0) ((f14n2E bt1 bt2 .exit0).2) (ap (Qan (xs:=bt1) (c:=Qa.cells)) (ap h32 an)) (Qad.out rfl rfl)
inductive f14n1O where
 | norm
 | ret
def f14n1E(bt1 bt2:List Qa):f14n1O→Ex×Tr×Hp
 | .norm=>(.norm,mkS [],[])
 | .ret=>(.ret,mkS [(4,(jB false))],[])
def f14n1S(bt1 bt2:List Qa):Tr×Hp:=(mkS [(0,(jL 4 Qa.cells bt1)),(1,(jL 4 Qa.cells bt2))],[])
noncomputable def f14n1(bt1 bt2:List Qa):Option f14n1O :=
 (f14n2 FUEL bt1 bt2 0).bind fun o43=>match o43 with
 | .exit0=>some .norm
 | .ret=>some .ret
theorem f14n1_ok(bt1 bt2:List Qa){o:f14n1O}(h:f14n1 bt1 bt2=some o):T Tryd.prog Tryd.f14.ntmps 0 (cL (Qt 2 c14)) (f14n1S bt1 bt2) (·=f14n1E bt1 bt2 o):=by
 unfold f14n1 at h;refine rN Qi 1 [j3] [] [] [] [0,1,5] (f14n2S bt1 bt2 0) an ?_;obtain ⟨o43,h44,h⟩:=Qe h;cases o43 with
 | exit0 =>
  obtain rfl:=Qf h;exact T.last' (T.bl (i:=0) (by kernel_rfl) (by kernel_rfl) (f14n2_ok FUEL bt1 bt2 0 h44)) (tds:=[]) (m:=[]) (keep:=[]) (st2:=(f14n1E bt1 bt2 .norm).2) (by kernel_rfl) an rfl
 | ret =>
  obtain rfl:=Qf h;exact T.last' (T.bl (i:=0) (by kernel_rfl) (by kernel_rfl) (f14n2_ok FUEL bt1 bt2 0 h44)) (tds:=[]) (m:=[]) (keep:=[4]) (st2:=(f14n1E bt1 bt2 .ret).2) (by kernel_rfl) an rfl
inductive f14n0O where
 | ret (v47:Bool)
def f14n0E(a1 a2:List Qa):f14n0O→Ex×Tr×Hp
 | .ret v47=>(.ret,mkS [(4,(jB v47))],[])
def f14n0S(a1 a2:List Qa):Tr×Hp:=(Qal [(jL 4 Qa.cells a1),(jL 4 Qa.cells a2)] 0 .leaf,[])
noncomputable def f14n0(a1 a2:List Qa):Option f14n0O :=
 bif decide ((a1.length:Int)=(a2.length:Int)) then
  (f14n1 a1 a2).bind fun o45=>match o45 with
  | .norm=>some (.ret true)
  | .ret=>some (.ret false)
 else
  some (.ret false)
theorem f14n0_ok(a1 a2:List Qa){o:f14n0O}(h:f14n0 a1 a2=some o):T Tryd.prog Tryd.f14.ntmps 0 c14 (f14n0S a1 a2) (·=f14n0E a1 a2 o):=by
 unfold f14n0 at h;rcases Qg h with ⟨h4,h⟩|⟨h4,h⟩
 ·refine rN Qi 2 [j3,([],[],[(1,.val (jI (a1.length:Int))),(3,.val (jI (a2.length:Int)))])] [some false] [] [] [0,1] (f14n1S a1 a2) (ap (Qan (xs:=a1) (c:=Qa.cells)) (ap (Qan (xs:=a2) (c:=Qa.cells)) (ap (Qq h4) an))) ?_;obtain ⟨o45,h46,h⟩:=Qe h;cases o45 with
  | norm =>
   refine T.oneN (by kernel_rfl) (f14n1_ok a1 a2 h46) (st2:=(f14n1E a1 a2 .norm).2) rfl ?_;obtain rfl:=Qf h;exact rE Qi [j3] [] [] [] [4] (.ret,(f14n0E a1 a2 (.ret true)).2) an rfl
  | ret =>
   obtain rfl:=Qf h;exact T.oneX' (by kernel_rfl) (f14n1_ok a1 a2 h46) (tds:=[]) (m:=[]) (keep:=[4]) (st2:=(f14n0E a1 a2 (.ret false)).2) (by kernel_rfl) an rfl rfl
 ·obtain rfl:=Qf h;exact rK Qi 2 [j3,([],[],[(1,.val (jI (a1.length:Int))),(3,.val (jI (a2.length:Int)))]),j3] [some true] [] [] [4] .ret ((f14n0E a1 a2 (.ret false)).2) (ap (Qan (xs:=a1) (c:=Qa.cells)) (ap (Qan (xs:=a2) (c:=Qa.cells)) (ap (Qaf h4) an))) rfl
noncomputable def f14(a1 a2:List Qa):Option Bool:=(f14n0 a1 a2).bind fun o=>match o with
 | .ret v47=>some v47
theorem f14_ok(a1 a2:List Qa){r:Bool}(h:f14 a1 a2=some r):Ql Tryd.prog false 14 [(jL 4 Qa.cells a1),(jL 4 Qa.cells a2)] [] (jB r) []:=by
 unfold f14 at h;obtain ⟨o,ho,h⟩:=Qe h;cases o with
 | ret v47 =>
  obtain rfl:=Qf h;exact Ql.plain Qi (f:=Tryd.f14) (c:=c14) (by kernel_rfl) (by kernel_rfl) (by kernel_rfl) (by kernel_rfl) ((f14n0_ok a1 a2 ho).mono fun r e=>by subst e; exact ⟨.inl rfl,(jB v47),(jB v47),by kernel_rfl,by kernel_rfl,((Wk.refl _):Wk (jB v47) (jB v47))⟩)

noncomputable def c22:Code:=Tryd.f22.body.getD .skip
inductive f22n0O where
 | ret (v13:Bool)
def f22n0E(a1 a2:Qh):f22n0O→Ex×Tr×Hp
 | .ret v13=>(.ret,mkS [(4,(jB v13))],[])
def f22n0S(a1 a2:Qh):Tr×Hp:=(Qal [(jA Qh.cells a1),(jA Qh.cells a2)] 0 .leaf,[])
noncomputable def f22n0(a1 a2:Qh):Option f22n0O :=
 bif decide (a1.From=a2.From) then
  bif decide (a1.To=a2.To) then
   bif decide (a1.Known=a2.Known) then
    (f14 a1.Rows a2.Rows).bind fun x11 =>
    some (.ret x11)
   else
    some (.ret false)
  else
   some (.ret false)
 else
  some (.ret false)
theorem f22n0_ok(a1 a2:Qh){o:f22n0O}(h:f22n0 a1 a2=some o):T Tryd.prog Tryd.f22.ntmps 0 c22 (f22n0S a1 a2) (·=f22n0E a1 a2 o):=by
 unfold f22n0 at h;rcases Qg h with ⟨h8,h⟩|⟨h8,h⟩
 ·rcases Qg h with ⟨h9,h⟩|⟨h9,h⟩
  ·rcases Qg h with ⟨h10,h⟩|⟨h10,h⟩
   ·obtain ⟨x11,h12,h⟩:=Qe h;obtain rfl:=Qf h;exact rE Qi [j3,(jT [6,7,8,9,10,13,14,15,16,17,20,21,22,23,24],[(11,.bool true),(18,.bool true),jH 24 (jB x11),(25,.bool true)],[])] [] [] [] [4] (.ret,(f22n0E a1 a2 (.ret x11)).2) (ap2 h8 (ap4 h8 (ap2 h9 (ap4 h9 (ap2 h10 (ap4 h10 (ap (f14_ok a1.Rows a2.Rows h12) an))))))) rfl
   ·obtain rfl:=Qf h;exact rE Qi [j3,(jF [20,21,22,23,24]++jT [6,7,8,9,10,13,14,15,16,17],[(11,.bool true),(18,.bool true),(25,.bool false)],[])] [] [] [] [4] (.ret,(f22n0E a1 a2 (.ret false)).2) (ap2 h8 (ap4 h8 (ap2 h9 (ap4 h9 (ap2 h10 (ap4 h10 an)))))) rfl
  ·obtain rfl:=Qf h;exact rE Qi [j3,(jF [13,14,15,16,17]++jT [6,7,8,9,10],[(11,.bool true),(18,.bool false)],[])] [] [] [] [4] (.ret,(f22n0E a1 a2 (.ret false)).2) (ap2 h8 (ap4 h8 (ap2 h9 (ap4 h9 an)))) rfl
 ·obtain rfl:=Qf h;exact rE Qi [j3,(jF [6,7,8,9,10],[(11,.bool false)],[])] [] [] [] [4] (.ret,(f22n0E a1 a2 (.ret false)).2) (ap2 h8 (ap4 h8 an)) rfl
noncomputable def f22(a1 a2:Qh):Option Bool:=(f22n0 a1 a2).bind fun o=>match o with
 | .ret v13=>some v13
theorem f22_ok(a1 a2:Qh){r:Bool}(h:f22 a1 a2=some r):Ql Tryd.prog false 22 [(jA Qh.cells a1),(jA Qh.cells a2)] [] (jB r) []:=by
 unfold f22 at h;obtain ⟨o,ho,h⟩:=Qe h;cases o with
 | ret v13 =>
  obtain rfl:=Qf h;exact Ql.plain Qi (f:=Tryd.f22) (c:=c22) (by kernel_rfl) (by kernel_rfl) (by kernel_rfl) (by kernel_rfl) ((f22n0_ok a1 a2 ho).mono fun r e=>by subst e; exact ⟨.inl rfl,(jB v13),(jB v13),by kernel_rfl,by kernel_rfl,((Wk.refl _):Wk (jB v13) (jB v13))⟩)

noncomputable def c28:Code:=Tryd.f28.body.getD .skip
inductive f28n0O where
 | ret (v16:Bool)
def f28n0E(a1:Qj)(a2 a3 a4:Int)(a5:List Qa):f28n0O→Ex×Tr×Hp
 | .ret v16=>(.ret,mkS [(10,(jB v16))],[])
def f28n0S(a1:Qj)(a2 a3 a4:Int)(a5:List Qa):Tr×Hp:=(Qal [(jA Qj.cells a1),(jI a2),(jI a3),(jI a4),(jL 4 Qa.cells a5)] 0 .leaf,[])
noncomputable def f28n0(a1:Qj)(a2 a3 a4:Int)(a5:List Qa):Option f28n0O :=
 (f21 a1 a2 a3 a4).bind fun x8 =>
 bif decide (x8.2=0) then
  (f22 x8.1 (Qh.mk a2 a3 a4 a5)).bind fun x14 =>
  some (.ret x14)
 else
  some (.ret false)
theorem f28n0_ok(a1:Qj)(a2 a3 a4:Int)(a5:List Qa){o:f28n0O}(h:f28n0 a1 a2 a3 a4 a5=some o):T Tryd.prog Tryd.f28.ntmps 0 c28 (f28n0S a1 a2 a3 a4 a5) (·=f28n0E a1 a2 a3 a4 a5 o):=by
 unfold f28n0 at h;obtain ⟨x8,h9,h⟩:=Qe h;rcases Qg h with ⟨h13,h⟩|⟨h13,h⟩
 ·obtain ⟨x14,h15,h⟩:=Qe h;obtain rfl:=Qf h;exact rE Qi [j3,([],[jH 4 (.tup [(jA Qh.cells x8.1),(jI x8.2)])],[]),(jT [3,4,5,6,7,8,9],[jH 9 (jB x14),(10,.bool true)],[])] [] [] [] [10] (.ret,(f28n0E a1 a2 a3 a4 a5 (.ret x14)).2) (ap (f21_ok a1 a2 a3 a4 h9) (ap4 h13 (ap4 h13 (ap (f22_ok x8.1 (Qh.mk a2 a3 a4 a5) h15) an)))) rfl
 ·obtain rfl:=Qf h;exact rE Qi [j3,([],[jH 4 (.tup [(jA Qh.cells x8.1),(jI x8.2)])],[]),(jF [3,4,5,6,7,8,9],[(10,.bool false)],[])] [] [] [] [10] (.ret,(f28n0E a1 a2 a3 a4 a5 (.ret false)).2) (ap (f21_ok a1 a2 a3 a4 h9) (ap4 h13 (ap4 h13 an))) rfl
noncomputable def f28(a1:Qj)(a2 a3 a4:Int)(a5:List Qa):Option Bool:=(f28n0 a1 a2 a3 a4 a5).bind fun o=>match o with
 | .ret v16=>some v16
theorem f28_ok(a1:Qj)(a2 a3 a4:Int)(a5:List Qa){r:Bool}(h:f28 a1 a2 a3 a4 a5=some r):Ql Tryd.prog false 28 [(jA Qj.cells a1),(jI a2),(jI a3),(jI a4),(jL 4 Qa.cells a5)] [] (jB r) []:=by
 unfold f28 at h;obtain ⟨o,ho,h⟩:=Qe h;cases o with
 | ret v16 =>
  obtain rfl:=Qf h;exact Ql.plain Qi (f:=Tryd.f28) (c:=c28) (by kernel_rfl) (by kernel_rfl) (by kernel_rfl) (by kernel_rfl) ((f28n0_ok a1 a2 a3 a4 a5 ho).mono fun r e=>by subst e; exact ⟨.inl rfl,(jB v16),(jB v16),by kernel_rfl,by kernel_rfl,((Wk.refl _):Wk (jB v16) (jB v16))⟩)

noncomputable def c17:Code:=Tryd.f17.body.getD .skip
inductive f17n0O where
 | ret (v39:Bool)
def f17n0E:f17n0O→Ex×Tr×Hp
 | .ret v39=>(.ret,mkS [(0,(jB v39))],[])
def f17n0S:Tr×Hp:=(Qal [] 0 .leaf,[])
noncomputable def f17n0:Option f17n0O :=
 f26.bind fun x3 =>
 (f21 x3.1 10 11 3).bind fun x7 =>
 (f10 x7.1).bind fun x11 =>
 bif x3.2 then
  (f27 5 0).bind fun x27 =>
  (f28 x3.1 10 11 1 x27).bind fun x29 =>
  bif x29 then
   (f27 5 2).bind fun x32 =>
   (f28 x3.1 10 11 3 x32).bind fun x34 =>
   bif x34 then
    bif decide (x7.2=0) then
     bif decide (x11.2=0) then
      some (.ret (seq x11.1 Qu))
     else
      some (.ret false)
    else
     some (.ret false)
   else
    some (.ret false)
  else
   some (.ret false)
 else
  some (.ret false)
theorem f17n0_ok{o:f17n0O}(h:f17n0=some o):T Tryd.prog Tryd.f17.ntmps 0 c17 f17n0S (·=f17n0E o):=by
 unfold f17n0 at h;obtain ⟨x3,h4,h⟩:=Qe h;obtain ⟨x7,h8,h⟩:=Qe h;obtain ⟨x11,h12,h⟩:=Qe h;rcases Qg h with ⟨h26,h⟩|⟨h26,h⟩
 ·obtain ⟨x27,h28,h⟩:=Qe h;obtain ⟨x29,h30,h⟩:=Qe h;rcases Qg h with ⟨h31,h⟩|⟨h31,h⟩
  ·obtain ⟨x32,h33,h⟩:=Qe h;obtain ⟨x34,h35,h⟩:=Qe h;rcases Qg h with ⟨h36,h⟩|⟨h36,h⟩
   ·rcases Qg h with ⟨h37,h⟩|⟨h37,h⟩
    ·rcases Qg h with ⟨h38,h⟩|⟨h38,h⟩
     ·obtain rfl:=Qf h
      exact rE Qi [j3,([],[jH 0 (.tup [(jA Qj.cells x3.1),(jB x3.2)])],[]),([],[jH 1 (.tup [(jA Qh.cells x7.1),(jI x7.2)])],[]),([],[jH 1 (.tup [(jS x11.1),(jI x11.2)])],[]),(jT [2,3,4,7,8,9,12,13,16,17,20,21],[jH 3 (jL 4 Qa.cells x27),jH 4 (jB x29),(5,.bool true),jH 8 (jL 4 Qa.cells x32),jH 9 (jB x34),(10,.bool true),(14,.bool true),(18,.bool true),(22,.bool true)],[])] [] [] [] [0] (.ret,(f17n0E (.ret (seq x11.1 Qu))).2) (ap (f26_ok h4) (ap (f21_ok x3.1 10 11 3 h8) (ap (Qbb x7.1 h12) (ap4 h26 (ap4 h31 (ap3 h36 (ap3 h37 (ap3 h38 (ap (Qz (e:=⟨false,27,[(jI 5),(jI 0)],[],(jL 4 Qa.cells x27),[]⟩) (f:=⟨false,27,[(jI 5),(jI 2)],[],(jL 4 Qa.cells x32),[]⟩) (fun k=>by simp only [jL,jS,jI,jB,jA,Qc.cells_eq,Qc.map_eq,Qb.cells_eq,Qb.map_eq,Qj.cells_eq,Qj.map_eq,Qd.cells_eq,Qd.map_eq,Qa.cells_eq,Qa.map_eq,Qh.cells_eq,Qh.map_eq,Key_.cells_eq,Key_.map_eq,Qr.cells_eq,Qr.map_eq,List.cons.injEq,AV.pl.injEq,PV.str.injEq,PV.int.injEq,PV.bool.injEq,PV.agg.injEq,PV.sl.injEq,and_true,true_and] at k; first | (exfalso; revert k; simp; done) | exact (have e0:x27=x32:=Option.some.inj (by rw [←h28,←h33]; first | exact congrArg _ k | (obtain ⟨k1,_⟩:=k; simp only [k1]; done) | simp only [k]); ⟨by rw [e0],rfl⟩))) (ap (Qz (e:=⟨false,28,[(jA Qj.cells x3.1),(jI 10),(jI 11),(jI 1),(jL 4 Qa.cells x27)],[],(jB x29),[]⟩) (f:=⟨false,28,[(jA Qj.cells x3.1),(jI 10),(jI 11),(jI 3),(jL 4 Qa.cells x32)],[],(jB x34),[]⟩) (fun k=>by simp only [jL,jS,jI,jB,jA,Qc.cells_eq,Qc.map_eq,Qb.cells_eq,Qb.map_eq,Qj.cells_eq,Qj.map_eq,Qd.cells_eq,Qd.map_eq,Qa.cells_eq,Qa.map_eq,Qh.cells_eq,Qh.map_eq,Key_.cells_eq,Key_.map_eq,Qr.cells_eq,Qr.map_eq,List.cons.injEq,AV.pl.injEq,PV.str.injEq,PV.int.injEq,PV.bool.injEq,PV.agg.injEq,PV.sl.injEq,and_true,true_and] at k; first | (exfalso; revert k; simp; done) | exact (have e0:x29=x34:=Option.some.inj (by rw [←h30,←h35]; first | exact congrArg _ k | (obtain ⟨k1,_⟩:=k; simp only [k1]; done) | simp only [k]); ⟨by rw [e0],rfl⟩))) (ap (Qbu 5 0 h28) (ap (f28_ok x3.1 10 11 1 x27 h30) (ap (Qbu 5 2 h33) (ap (f28_ok x3.1 10 11 3 x32 h35) an)))))))))))))) rfl
     ·obtain rfl:=Qf h
      exact rE Qi [j3,([],[jH 0 (.tup [(jA Qj.cells x3.1),(jB x3.2)])],[]),([],[jH 1 (.tup [(jA Qh.cells x7.1),(jI x7.2)])],[]),([],[jH 1 (.tup [(jS x11.1),(jI x11.2)])],[]),(jF [20,21]++jT [2,3,4,7,8,9,12,13,16,17],[jH 3 (jL 4 Qa.cells x27),jH 4 (jB x29),(5,.bool true),jH 8 (jL 4 Qa.cells x32),jH 9 (jB x34),(10,.bool true),(14,.bool true),(18,.bool true),(22,.bool false)],[])] [] [] [] [0] (.ret,(f17n0E (.ret false)).2) (ap (f26_ok h4) (ap (f21_ok x3.1 10 11 3 h8) (ap (Qbb x7.1 h12) (ap4 h26 (ap4 h31 (ap3 h36 (ap3 h37 (ap3 h38 (ap (Qz (e:=⟨false,27,[(jI 5),(jI 0)],[],(jL 4 Qa.cells x27),[]⟩) (f:=⟨false,27,[(jI 5),(jI 2)],[],(jL 4 Qa.cells x32),[]⟩) (fun k=>by simp only [jL,jS,jI,jB,jA,Qc.cells_eq,Qc.map_eq,Qb.cells_eq,Qb.map_eq,Qj.cells_eq,Qj.map_eq,Qd.cells_eq,Qd.map_eq,Qa.cells_eq,Qa.map_eq,Qh.cells_eq,Qh.map_eq,Key_.cells_eq,Key_.map_eq,Qr.cells_eq,Qr.map_eq,List.cons.injEq,AV.pl.injEq,PV.str.injEq,PV.int.injEq,PV.bool.injEq,PV.agg.injEq,PV.sl.injEq,and_true,true_and] at k; first | (exfalso; revert k; simp; done) | exact (have e0:x27=x32:=Option.some.inj (by rw [←h28,←h33]; first | exact congrArg _ k | (obtain ⟨k1,_⟩:=k; simp only [k1]; done) | simp only [k]); ⟨by rw [e0],rfl⟩))) (ap (Qz (e:=⟨false,28,[(jA Qj.cells x3.1),(jI 10),(jI 11),(jI 1),(jL 4 Qa.cells x27)],[],(jB x29),[]⟩) (f:=⟨false,28,[(jA Qj.cells x3.1),(jI 10),(jI 11),(jI 3),(jL 4 Qa.cells x32)],[],(jB x34),[]⟩) (fun k=>by simp only [jL,jS,jI,jB,jA,Qc.cells_eq,Qc.map_eq,Qb.cells_eq,Qb.map_eq,Qj.cells_eq,Qj.map_eq,Qd.cells_eq,Qd.map_eq,Qa.cells_eq,Qa.map_eq,Qh.cells_eq,Qh.map_eq,Key_.cells_eq,Key_.map_eq,Qr.cells_eq,Qr.map_eq,List.cons.injEq,AV.pl.injEq,PV.str.injEq,PV.int.injEq,PV.bool.injEq,PV.agg.injEq,PV.sl.injEq,and_true,true_and] at k; first | (exfalso; revert k; simp; done) | exact (have e0:x29=x34:=Option.some.inj (by rw [←h30,←h35]; first | exact congrArg _ k | (obtain ⟨k1,_⟩:=k; simp only [k1]; done) | simp only [k]); ⟨by rw [e0],rfl⟩))) (ap (Qbu 5 0 h28) (ap (f28_ok x3.1 10 11 1 x27 h30) (ap (Qbu 5 2 h33) (ap (f28_ok x3.1 10 11 3 x32 h35) an)))))))))))))) rfl
    ·obtain rfl:=Qf h
     exact rE Qi [j3,([],[jH 0 (.tup [(jA Qj.cells x3.1),(jB x3.2)])],[]),([],[jH 1 (.tup [(jA Qh.cells x7.1),(jI x7.2)])],[]),([],[jH 1 (.tup [(jS x11.1),(jI x11.2)])],[]),(jF [16,17]++jT [2,3,4,7,8,9,12,13],[jH 3 (jL 4 Qa.cells x27),jH 4 (jB x29),(5,.bool true),jH 8 (jL 4 Qa.cells x32),jH 9 (jB x34),(10,.bool true),(14,.bool true),(18,.bool false)],[])] [] [] [] [0] (.ret,(f17n0E (.ret false)).2) (ap (f26_ok h4) (ap (f21_ok x3.1 10 11 3 h8) (ap (Qbb x7.1 h12) (ap4 h26 (ap4 h31 (ap3 h36 (ap3 h37 (ap (Qz (e:=⟨false,27,[(jI 5),(jI 0)],[],(jL 4 Qa.cells x27),[]⟩) (f:=⟨false,27,[(jI 5),(jI 2)],[],(jL 4 Qa.cells x32),[]⟩) (fun k=>by simp only [jL,jS,jI,jB,jA,Qc.cells_eq,Qc.map_eq,Qb.cells_eq,Qb.map_eq,Qj.cells_eq,Qj.map_eq,Qd.cells_eq,Qd.map_eq,Qa.cells_eq,Qa.map_eq,Qh.cells_eq,Qh.map_eq,Key_.cells_eq,Key_.map_eq,Qr.cells_eq,Qr.map_eq,List.cons.injEq,AV.pl.injEq,PV.str.injEq,PV.int.injEq,PV.bool.injEq,PV.agg.injEq,PV.sl.injEq,and_true,true_and] at k; first | (exfalso; revert k; simp; done) | exact (have e0:x27=x32:=Option.some.inj (by rw [←h28,←h33]; first | exact congrArg _ k | (obtain ⟨k1,_⟩:=k; simp only [k1]; done) | simp only [k]); ⟨by rw [e0],rfl⟩))) (ap (Qz (e:=⟨false,28,[(jA Qj.cells x3.1),(jI 10),(jI 11),(jI 1),(jL 4 Qa.cells x27)],[],(jB x29),[]⟩) (f:=⟨false,28,[(jA Qj.cells x3.1),(jI 10),(jI 11),(jI 3),(jL 4 Qa.cells x32)],[],(jB x34),[]⟩) (fun k=>by simp only [jL,jS,jI,jB,jA,Qc.cells_eq,Qc.map_eq,Qb.cells_eq,Qb.map_eq,Qj.cells_eq,Qj.map_eq,Qd.cells_eq,Qd.map_eq,Qa.cells_eq,Qa.map_eq,Qh.cells_eq,Qh.map_eq,Key_.cells_eq,Key_.map_eq,Qr.cells_eq,Qr.map_eq,List.cons.injEq,AV.pl.injEq,PV.str.injEq,PV.int.injEq,PV.bool.injEq,PV.agg.injEq,PV.sl.injEq,and_true,true_and] at k; first | (exfalso; revert k; simp; done) | exact (have e0:x29=x34:=Option.some.inj (by rw [←h30,←h35]; first | exact congrArg _ k | (obtain ⟨k1,_⟩:=k; simp only [k1]; done) | simp only [k]); ⟨by rw [e0],rfl⟩))) (ap (Qbu 5 0 h28) (ap (f28_ok x3.1 10 11 1 x27 h30) (ap (Qbu 5 2 h33) (ap (f28_ok x3.1 10 11 3 x32 h35) an))))))))))))) rfl
   ·obtain rfl:=Qf h
    exact rE Qi [j3,([],[jH 0 (.tup [(jA Qj.cells x3.1),(jB x3.2)])],[]),([],[jH 1 (.tup [(jA Qh.cells x7.1),(jI x7.2)])],[]),([],[jH 1 (.tup [(jS x11.1),(jI x11.2)])],[]),(jF [12,13]++jT [2,3,4,7,8,9],[jH 3 (jL 4 Qa.cells x27),jH 4 (jB x29),(5,.bool true),jH 8 (jL 4 Qa.cells x32),jH 9 (jB x34),(10,.bool true),(14,.bool false)],[])] [] [] [] [0] (.ret,(f17n0E (.ret false)).2) (ap (f26_ok h4) (ap (f21_ok x3.1 10 11 3 h8) (ap (Qbb x7.1 h12) (ap4 h26 (ap4 h31 (ap3 h36 (ap (Qz (e:=⟨false,27,[(jI 5),(jI 0)],[],(jL 4 Qa.cells x27),[]⟩) (f:=⟨false,27,[(jI 5),(jI 2)],[],(jL 4 Qa.cells x32),[]⟩) (fun k=>by simp only [jL,jS,jI,jB,jA,Qc.cells_eq,Qc.map_eq,Qb.cells_eq,Qb.map_eq,Qj.cells_eq,Qj.map_eq,Qd.cells_eq,Qd.map_eq,Qa.cells_eq,Qa.map_eq,Qh.cells_eq,Qh.map_eq,Key_.cells_eq,Key_.map_eq,Qr.cells_eq,Qr.map_eq,List.cons.injEq,AV.pl.injEq,PV.str.injEq,PV.int.injEq,PV.bool.injEq,PV.agg.injEq,PV.sl.injEq,and_true,true_and] at k; first | (exfalso; revert k; simp; done) | exact (have e0:x27=x32:=Option.some.inj (by rw [←h28,←h33]; first | exact congrArg _ k | (obtain ⟨k1,_⟩:=k; simp only [k1]; done) | simp only [k]); ⟨by rw [e0],rfl⟩))) (ap (Qz (e:=⟨false,28,[(jA Qj.cells x3.1),(jI 10),(jI 11),(jI 1),(jL 4 Qa.cells x27)],[],(jB x29),[]⟩) (f:=⟨false,28,[(jA Qj.cells x3.1),(jI 10),(jI 11),(jI 3),(jL 4 Qa.cells x32)],[],(jB x34),[]⟩) (fun k=>by simp only [jL,jS,jI,jB,jA,Qc.cells_eq,Qc.map_eq,Qb.cells_eq,Qb.map_eq,Qj.cells_eq,Qj.map_eq,Qd.cells_eq,Qd.map_eq,Qa.cells_eq,Qa.map_eq,Qh.cells_eq,Qh.map_eq,Key_.cells_eq,Key_.map_eq,Qr.cells_eq,Qr.map_eq,List.cons.injEq,AV.pl.injEq,PV.str.injEq,PV.int.injEq,PV.bool.injEq,PV.agg.injEq,PV.sl.injEq,and_true,true_and] at k; first | (exfalso; revert k; simp; done) | exact (have e0:x29=x34:=Option.some.inj (by rw [←h30,←h35]; first | exact congrArg _ k | (obtain ⟨k1,_⟩:=k; simp only [k1]; done) | simp only [k]); ⟨by rw [e0],rfl⟩))) (ap (Qbu 5 0 h28) (ap (f28_ok x3.1 10 11 1 x27 h30) (ap (Qbu 5 2 h33) (ap (f28_ok x3.1 10 11 3 x32 h35) an)))))))))))) rfl
  ·obtain rfl:=Qf h;exact rE Qi [j3,([],[jH 0 (.tup [(jA Qj.cells x3.1),(jB x3.2)])],[]),([],[jH 1 (.tup [(jA Qh.cells x7.1),(jI x7.2)])],[]),([],[jH 1 (.tup [(jS x11.1),(jI x11.2)])],[]),(jF [7,8,9]++jT [2,3,4],[jH 3 (jL 4 Qa.cells x27),jH 4 (jB x29),(5,.bool true),(10,.bool false)],[])] [] [] [] [0] (.ret,(f17n0E (.ret false)).2) (ap (f26_ok h4) (ap (f21_ok x3.1 10 11 3 h8) (ap (Qbb x7.1 h12) (ap4 h26 (ap4 h31 (ap (Qbu 5 0 h28) (ap (f28_ok x3.1 10 11 1 x27 h30) an))))))) rfl
 ·obtain rfl:=Qf h;exact rE Qi [j3,([],[jH 0 (.tup [(jA Qj.cells x3.1),(jB x3.2)])],[]),([],[jH 1 (.tup [(jA Qh.cells x7.1),(jI x7.2)])],[]),([],[jH 1 (.tup [(jS x11.1),(jI x11.2)])],[]),(jF [2,3,4],[(5,.bool false)],[])] [] [] [] [0] (.ret,(f17n0E (.ret false)).2) (ap (f26_ok h4) (ap (f21_ok x3.1 10 11 3 h8) (ap (Qbb x7.1 h12) (ap4 h26 an)))) rfl
noncomputable def f17:Option Bool:=f17n0.bind fun o=>match o with
 | .ret v39=>some v39
theorem Qci{r:Bool}(h:f17=some r):Ql Tryd.prog false 17 [] [] (jB r) []:=by
 unfold f17 at h;obtain ⟨o,ho,h⟩:=Qe h;cases o with
 | ret v39 =>
  obtain rfl:=Qf h;exact Ql.plain Qi (f:=Tryd.f17) (c:=c17) (by kernel_rfl) (by kernel_rfl) (by kernel_rfl) (by kernel_rfl) ((f17n0_ok  ho).mono fun r e=>by subst e; exact ⟨.inl rfl,(jB v39),(jB v39),by kernel_rfl,by kernel_rfl,((Wk.refl _):Wk (jB v39) (jB v39))⟩)

noncomputable def c7:Code:=Tryd.f7.body.getD .skip
inductive f7n1O where
 | norm (v98:Bool)
def f7n1E(bn1 bn2 bn3 bn4 bn5 bn6:Qh×Int)(bo7:Qj×Bool):f7n1O→Ex×Tr×Hp
 | .norm v98=>(.norm,mkS [(1,(.bp 0 0)),(4,(jI bn1.2)),(6,(jI bn2.2)),(8,(jI bn3.2)),(10,(jI bn4.2)),(12,(jI bn5.2)),(14,(jI bn6.2)),(15,(jB v98))],[some (.box 43 ((Qj.cells bo7.1).map .pl))])
def f7n1S(bn1 bn2 bn3 bn4 bn5 bn6:Qh×Int)(bo7:Qj×Bool):Tr×Hp:=(mkS [(1,(.bp 0 0)),(4,(jI bn1.2)),(6,(jI bn2.2)),(8,(jI bn3.2)),(10,(jI bn4.2)),(12,(jI bn5.2)),(14,(jI bn6.2))],[some (.box 43 ((Qj.cells bo7.1).map .pl))])
noncomputable def f7n1(bn1 bn2 bn3 bn4 bn5 bn6:Qh×Int)(bo7:Qj×Bool):Option f7n1O :=
 (f23 (Qb.mk 9 Qk [])).bind fun x75 =>
 bif decide (x75=9) then
  (f23 (Qb.mk 10 Qo [])).bind fun x78 =>
  bif decide (x78=10) then
   (f23 (Qb.mk 99 Qp [])).bind fun x81 =>
   bif decide (x81=10) then
    (f23 (Qb.mk 99 Qs [])).bind fun x84 =>
    bif decide (x84=99) then
     (f23 (Qb.mk 99 Qw [])).bind fun x87 =>
     bif decide (x87=99) then
      (f23 (Qb.mk 99 Qx [])).bind fun x90 =>
      bif decide (x90=99) then
       (f23 (Qb.mk (-5) Qaa [])).bind fun x93 =>
       bif decide (x93=(-5)) then
        (f23 (Qb.mk 99 Qy [])).bind fun x96 =>
        some (.norm (decide (x96=99)))
       else
        some (.norm false)
      else
       some (.norm false)
     else
      some (.norm false)
    else
     some (.norm false)
   else
    some (.norm false)
  else
   some (.norm false)
 else
  some (.norm false)
theorem f7n1_ok(bn1 bn2 bn3 bn4 bn5 bn6:Qh×Int)(bo7:Qj×Bool){o:f7n1O}(h:f7n1 bn1 bn2 bn3 bn4 bn5 bn6 bo7=some o):T Tryd.prog Tryd.f7.ntmps 0 (cL (Qt 2 (Qt 6 c7))) (f7n1S bn1 bn2 bn3 bn4 bn5 bn6 bo7) (·=f7n1E bn1 bn2 bn3 bn4 bn5 bn6 bo7 o):=by
 unfold f7n1 at h;obtain ⟨x75,h76,h⟩:=Qe h;rcases Qg h with ⟨h77,h⟩|⟨h77,h⟩
 ·obtain ⟨x78,h79,h⟩:=Qe h;rcases Qg h with ⟨h80,h⟩|⟨h80,h⟩
  ·obtain ⟨x81,h82,h⟩:=Qe h;rcases Qg h with ⟨h83,h⟩|⟨h83,h⟩
   ·obtain ⟨x84,h85,h⟩:=Qe h;rcases Qg h with ⟨h86,h⟩|⟨h86,h⟩
    ·obtain ⟨x87,h88,h⟩:=Qe h;rcases Qg h with ⟨h89,h⟩|⟨h89,h⟩
     ·obtain ⟨x90,h91,h⟩:=Qe h;rcases Qg h with ⟨h92,h⟩|⟨h92,h⟩
      ·obtain ⟨x93,h94,h⟩:=Qe h;rcases Qg h with ⟨h95,h⟩|⟨h95,h⟩
       ·obtain ⟨x96,h97,h⟩:=Qe h;obtain rfl:=Qf h
        exact rE Qi [(jT [4,5,6,9,10,11,14,15,16,19,20,21,24,25,26,29,30,31,34,35,36],[jH 1 (jI x75),jH 5 (jI x78),(7,.bool true),jH 10 (jI x81),(12,.bool true),jH 15 (jI x84),(17,.bool true),jH 20 (jI x87),(22,.bool true),jH 25 (jI x90),(27,.bool true),jH 30 (jI x93),(32,.bool true),jH 35 (jI x96),(37,.bool true)],[])] [] [] [0] [1,4,6,8,10,12,14,15] (.norm,(f7n1E bn1 bn2 bn3 bn4 bn5 bn6 bo7 (.norm (decide (x96=99)))).2) (ap4 h77 (ap4 h80 (ap4 h83 (ap4 h86 (ap4 h89 (ap4 h92 (ap4 h95 (ap (Ql.wk (args':=[(.pl (.agg [(.int .i64 9),(.str Qk),(.sl .nil 0 [])]))]) (Qas (Qb.mk 9 Qk []) h76) (wlc (Wk.pl (WkP.agg (wpc (WkP.refl _) (wpc (WkP.refl _) (wpc (WkP.nil (f:=.nil) (sz:=0) (sz':=3)) wpn))))) wln) (Wk.refl _) rfl) (ap (Ql.wk (args':=[(.pl (.agg [(.int .i64 10),(.str Qo),(.sl .nil 0 [])]))]) (Qas (Qb.mk 10 Qo []) h79) (wlc (Wk.pl (WkP.agg (wpc (WkP.refl _) (wpc (WkP.refl _) (wpc (WkP.nil (f:=.nil) (sz:=0) (sz':=3)) wpn))))) wln) (Wk.refl _) rfl) (ap (Ql.wk (args':=[(.pl (.agg [(.int .i64 99),(.str Qp),(.sl .nil 0 [])]))]) (Qas (Qb.mk 99 Qp []) h82) (wlc (Wk.pl (WkP.agg (wpc (WkP.refl _) (wpc (WkP.refl _) (wpc (WkP.nil (f:=.nil) (sz:=0) (sz':=3)) wpn))))) wln) (Wk.refl _) rfl) (ap (Ql.wk (args':=[(.pl (.agg [(.int .i64 99),(.str Qs),(.sl .nil 0 [])]))]) (Qas (Qb.mk 99 Qs []) h85) (wlc (Wk.pl (WkP.agg (wpc (WkP.refl _) (wpc (WkP.refl _) (wpc (WkP.nil (f:=.nil) (sz:=0) (sz':=3)) wpn))))) wln) (Wk.refl _) rfl) (ap (Ql.wk (args':=[(.pl (.agg [(.int .i64 99),(.str Qw),(.sl .nil 0 [])]))]) (Qas (Qb.mk 99 Qw []) h88) (wlc (Wk.pl (WkP.agg (wpc (WkP.refl _) (wpc (WkP.refl _) (wpc (WkP.nil (f:=.nil) (sz:=0) (sz':=3)) wpn))))) wln) (Wk.refl _) rfl) (ap (Ql.wk (args':=[(.pl (.agg [(.int .i64 99),(.str Qx),(.sl .nil 0 [])]))]) (Qas (Qb.mk 99 Qx []) h91) (wlc (Wk.pl (WkP.agg (wpc (WkP.refl _) (wpc (WkP.refl _) (wpc (WkP.nil (f:=.nil) (sz:=0) (sz':=3)) wpn))))) wln) (Wk.refl _) rfl) (ap (Ql.wk (args':=[(.pl (.agg [(.int .i64 (-5)),(.str Qaa),(.sl .nil 0 [])]))]) (Qas (Qb.mk (-5) Qaa []) h94) (wlc (Wk.pl (WkP.agg (wpc (WkP.refl _) (wpc (WkP.refl _) (wpc (WkP.nil (f:=.nil) (sz:=0) (sz':=3)) wpn))))) wln) (Wk.refl _) rfl) (ap (Ql.wk (args':=[(.pl (.agg [(.int .i64 99),(.str Qy),(.sl .nil 0 [])]))]) (Qas (Qb.mk 99 Qy []) h97) (wlc (Wk.pl (WkP.agg (wpc (WkP.refl _) (wpc (WkP.refl _) (wpc (WkP.nil (f:=.nil) (sz:=0) (sz':=3)) wpn))))) wln) (Wk.refl _) rfl) an))))))))))))))) rfl
       ·obtain rfl:=Qf h
        exact rE Qi [(jF [34,35,36]++jT [4,5,6,9,10,11,14,15,16,19,20,21,24,25,26,29,30,31],[jH 1 (jI x75),jH 5 (jI x78),(7,.bool true),jH 10 (jI x81),(12,.bool true),jH 15 (jI x84),(17,.bool true),jH 20 (jI x87),(22,.bool true),jH 25 (jI x90),(27,.bool true),jH 30 (jI x93),(32,.bool true),(37,.bool false)],[])] [] [] [0] [1,4,6,8,10,12,14,15] (.norm,(f7n1E bn1 bn2 bn3 bn4 bn5 bn6 bo7 (.norm false)).2) (ap4 h77 (ap4 h80 (ap4 h83 (ap4 h86 (ap4 h89 (ap4 h92 (ap4 h95 (ap (Ql.wk (args':=[(.pl (.agg [(.int .i64 9),(.str Qk),(.sl .nil 0 [])]))]) (Qas (Qb.mk 9 Qk []) h76) (wlc (Wk.pl (WkP.agg (wpc (WkP.refl _) (wpc (WkP.refl _) (wpc (WkP.nil (f:=.nil) (sz:=0) (sz':=3)) wpn))))) wln) (Wk.refl _) rfl) (ap (Ql.wk (args':=[(.pl (.agg [(.int .i64 10),(.str Qo),(.sl .nil 0 [])]))]) (Qas (Qb.mk 10 Qo []) h79) (wlc (Wk.pl (WkP.agg (wpc (WkP.refl _) (wpc (WkP.refl _) (wpc (WkP.nil (f:=.nil) (sz:=0) (sz':=3)) wpn))))) wln) (Wk.refl _) rfl) (ap (Ql.wk (args':=[(.pl (.agg [(.int .i64 99),(.str Qp),(.sl .nil 0 [])]))]) (Qas (Qb.mk 99 Qp []) h82) (wlc (Wk.pl (WkP.agg (wpc (WkP.refl _) (wpc (WkP.refl _) (wpc (WkP.nil (f:=.nil) (sz:=0) (sz':=3)) wpn))))) wln) (Wk.refl _) rfl) (ap (Ql.wk (args':=[(.pl (.agg [(.int .i64 99),(.str Qs),(.sl .nil 0 [])]))]) (Qas (Qb.mk 99 Qs []) h85) (wlc (Wk.pl (WkP.agg (wpc (WkP.refl _) (wpc (WkP.refl _) (wpc (WkP.nil (f:=.nil) (sz:=0) (sz':=3)) wpn))))) wln) (Wk.refl _) rfl) (ap (Ql.wk (args':=[(.pl (.agg [(.int .i64 99),(.str Qw),(.sl .nil 0 [])]))]) (Qas (Qb.mk 99 Qw []) h88) (wlc (Wk.pl (WkP.agg (wpc (WkP.refl _) (wpc (WkP.refl _) (wpc (WkP.nil (f:=.nil) (sz:=0) (sz':=3)) wpn))))) wln) (Wk.refl _) rfl) (ap (Ql.wk (args':=[(.pl (.agg [(.int .i64 99),(.str Qx),(.sl .nil 0 [])]))]) (Qas (Qb.mk 99 Qx []) h91) (wlc (Wk.pl (WkP.agg (wpc (WkP.refl _) (wpc (WkP.refl _) (wpc (WkP.nil (f:=.nil) (sz:=0) (sz':=3)) wpn))))) wln) (Wk.refl _) rfl) (ap (Ql.wk (args':=[(.pl (.agg [(.int .i64 (-5)),(.str Qaa),(.sl .nil 0 [])]))]) (Qas (Qb.mk (-5) Qaa []) h94) (wlc (Wk.pl (WkP.agg (wpc (WkP.refl _) (wpc (WkP.refl _) (wpc (WkP.nil (f:=.nil) (sz:=0) (sz':=3)) wpn))))) wln) (Wk.refl _) rfl) an)))))))))))))) rfl
      ·obtain rfl:=Qf h
       exact rE Qi [(jF [29,30,31]++jT [4,5,6,9,10,11,14,15,16,19,20,21,24,25,26],[jH 1 (jI x75),jH 5 (jI x78),(7,.bool true),jH 10 (jI x81),(12,.bool true),jH 15 (jI x84),(17,.bool true),jH 20 (jI x87),(22,.bool true),jH 25 (jI x90),(27,.bool true),(32,.bool false)],[])] [] [] [0] [1,4,6,8,10,12,14,15] (.norm,(f7n1E bn1 bn2 bn3 bn4 bn5 bn6 bo7 (.norm false)).2) (ap4 h77 (ap4 h80 (ap4 h83 (ap4 h86 (ap4 h89 (ap4 h92 (ap (Ql.wk (args':=[(.pl (.agg [(.int .i64 9),(.str Qk),(.sl .nil 0 [])]))]) (Qas (Qb.mk 9 Qk []) h76) (wlc (Wk.pl (WkP.agg (wpc (WkP.refl _) (wpc (WkP.refl _) (wpc (WkP.nil (f:=.nil) (sz:=0) (sz':=3)) wpn))))) wln) (Wk.refl _) rfl) (ap (Ql.wk (args':=[(.pl (.agg [(.int .i64 10),(.str Qo),(.sl .nil 0 [])]))]) (Qas (Qb.mk 10 Qo []) h79) (wlc (Wk.pl (WkP.agg (wpc (WkP.refl _) (wpc (WkP.refl _) (wpc (WkP.nil (f:=.nil) (sz:=0) (sz':=3)) wpn))))) wln) (Wk.refl _) rfl) (ap (Ql.wk (args':=[(.pl (.agg [(.int .i64 99),(.str Qp),(.sl .nil 0 [])]))]) (Qas (Qb.mk 99 Qp []) h82) (wlc (Wk.pl (WkP.agg (wpc (WkP.refl _) (wpc (WkP.refl _) (wpc (WkP.nil (f:=.nil) (sz:=0) (sz':=3)) wpn))))) wln) (Wk.refl _) rfl) (ap (Ql.wk (args':=[(.pl (.agg [(.int .i64 99),(.str Qs),(.sl .nil 0 [])]))]) (Qas (Qb.mk 99 Qs []) h85) (wlc (Wk.pl (WkP.agg (wpc (WkP.refl _) (wpc (WkP.refl _) (wpc (WkP.nil (f:=.nil) (sz:=0) (sz':=3)) wpn))))) wln) (Wk.refl _) rfl) (ap (Ql.wk (args':=[(.pl (.agg [(.int .i64 99),(.str Qw),(.sl .nil 0 [])]))]) (Qas (Qb.mk 99 Qw []) h88) (wlc (Wk.pl (WkP.agg (wpc (WkP.refl _) (wpc (WkP.refl _) (wpc (WkP.nil (f:=.nil) (sz:=0) (sz':=3)) wpn))))) wln) (Wk.refl _) rfl) (ap (Ql.wk (args':=[(.pl (.agg [(.int .i64 99),(.str Qx),(.sl .nil 0 [])]))]) (Qas (Qb.mk 99 Qx []) h91) (wlc (Wk.pl (WkP.agg (wpc (WkP.refl _) (wpc (WkP.refl _) (wpc (WkP.nil (f:=.nil) (sz:=0) (sz':=3)) wpn))))) wln) (Wk.refl _) rfl) an)))))))))))) rfl
     ·obtain rfl:=Qf h
      exact rE Qi [(jF [24,25,26]++jT [4,5,6,9,10,11,14,15,16,19,20,21],[jH 1 (jI x75),jH 5 (jI x78),(7,.bool true),jH 10 (jI x81),(12,.bool true),jH 15 (jI x84),(17,.bool true),jH 20 (jI x87),(22,.bool true),(27,.bool false)],[])] [] [] [0] [1,4,6,8,10,12,14,15] (.norm,(f7n1E bn1 bn2 bn3 bn4 bn5 bn6 bo7 (.norm false)).2) (ap4 h77 (ap4 h80 (ap4 h83 (ap4 h86 (ap4 h89 (ap (Ql.wk (args':=[(.pl (.agg [(.int .i64 9),(.str Qk),(.sl .nil 0 [])]))]) (Qas (Qb.mk 9 Qk []) h76) (wlc (Wk.pl (WkP.agg (wpc (WkP.refl _) (wpc (WkP.refl _) (wpc (WkP.nil (f:=.nil) (sz:=0) (sz':=3)) wpn))))) wln) (Wk.refl _) rfl) (ap (Ql.wk (args':=[(.pl (.agg [(.int .i64 10),(.str Qo),(.sl .nil 0 [])]))]) (Qas (Qb.mk 10 Qo []) h79) (wlc (Wk.pl (WkP.agg (wpc (WkP.refl _) (wpc (WkP.refl _) (wpc (WkP.nil (f:=.nil) (sz:=0) (sz':=3)) wpn))))) wln) (Wk.refl _) rfl) (ap (Ql.wk (args':=[(.pl (.agg [(.int .i64 99),(.str Qp),(.sl .nil 0 [])]))]) (Qas (Qb.mk 99 Qp []) h82) (wlc (Wk.pl (WkP.agg (wpc (WkP.refl _) (wpc (WkP.refl _) (wpc (WkP.nil (f:=.nil) (sz:=0) (sz':=3)) wpn))))) wln) (Wk.refl _) rfl) (ap (Ql.wk (args':=[(.pl (.agg [(.int .i64 99),(.str Qs),(.sl .nil 0 [])]))]) (Qas (Qb.mk 99 Qs []) h85) (wlc (Wk.pl (WkP.agg (wpc (WkP.refl _) (wpc (WkP.refl _) (wpc (WkP.nil (f:=.nil) (sz:=0) (sz':=3)) wpn))))) wln) (Wk.refl _) rfl) (ap (Ql.wk (args':=[(.pl (.agg [(.int .i64 99),(.str Qw),(.sl .nil 0 [])]))]) (Qas (Qb.mk 99 Qw []) h88) (wlc (Wk.pl (WkP.agg (wpc (WkP.refl _) (wpc (WkP.refl _) (wpc (WkP.nil (f:=.nil) (sz:=0) (sz':=3)) wpn))))) wln) (Wk.refl _) rfl) an)))))))))) rfl
    ·obtain rfl:=Qf h
     exact rE Qi [(jF [19,20,21]++jT [4,5,6,9,10,11,14,15,16],[jH 1 (jI x75),jH 5 (jI x78),(7,.bool true),jH 10 (jI x81),(12,.bool true),jH 15 (jI x84),(17,.bool true),(22,.bool false)],[])] [] [] [0] [1,4,6,8,10,12,14,15] (.norm,(f7n1E bn1 bn2 bn3 bn4 bn5 bn6 bo7 (.norm false)).2) (ap4 h77 (ap4 h80 (ap4 h83 (ap4 h86 (ap (Ql.wk (args':=[(.pl (.agg [(.int .i64 9),(.str Qk),(.sl .nil 0 [])]))]) (Qas (Qb.mk 9 Qk []) h76) (wlc (Wk.pl (WkP.agg (wpc (WkP.refl _) (wpc (WkP.refl _) (wpc (WkP.nil (f:=.nil) (sz:=0) (sz':=3)) wpn))))) wln) (Wk.refl _) rfl) (ap (Ql.wk (args':=[(.pl (.agg [(.int .i64 10),(.str Qo),(.sl .nil 0 [])]))]) (Qas (Qb.mk 10 Qo []) h79) (wlc (Wk.pl (WkP.agg (wpc (WkP.refl _) (wpc (WkP.refl _) (wpc (WkP.nil (f:=.nil) (sz:=0) (sz':=3)) wpn))))) wln) (Wk.refl _) rfl) (ap (Ql.wk (args':=[(.pl (.agg [(.int .i64 99),(.str Qp),(.sl .nil 0 [])]))]) (Qas (Qb.mk 99 Qp []) h82) (wlc (Wk.pl (WkP.agg (wpc (WkP.refl _) (wpc (WkP.refl _) (wpc (WkP.nil (f:=.nil) (sz:=0) (sz':=3)) wpn))))) wln) (Wk.refl _) rfl) (ap (Ql.wk (args':=[(.pl (.agg [(.int .i64 99),(.str Qs),(.sl .nil 0 [])]))]) (Qas (Qb.mk 99 Qs []) h85) (wlc (Wk.pl (WkP.agg (wpc (WkP.refl _) (wpc (WkP.refl _) (wpc (WkP.nil (f:=.nil) (sz:=0) (sz':=3)) wpn))))) wln) (Wk.refl _) rfl) an)))))))) rfl
   ·obtain rfl:=Qf h
    exact rE Qi [(jF [14,15,16]++jT [4,5,6,9,10,11],[jH 1 (jI x75),jH 5 (jI x78),(7,.bool true),jH 10 (jI x81),(12,.bool true),(17,.bool false)],[])] [] [] [0] [1,4,6,8,10,12,14,15] (.norm,(f7n1E bn1 bn2 bn3 bn4 bn5 bn6 bo7 (.norm false)).2) (ap4 h77 (ap4 h80 (ap4 h83 (ap (Ql.wk (args':=[(.pl (.agg [(.int .i64 9),(.str Qk),(.sl .nil 0 [])]))]) (Qas (Qb.mk 9 Qk []) h76) (wlc (Wk.pl (WkP.agg (wpc (WkP.refl _) (wpc (WkP.refl _) (wpc (WkP.nil (f:=.nil) (sz:=0) (sz':=3)) wpn))))) wln) (Wk.refl _) rfl) (ap (Ql.wk (args':=[(.pl (.agg [(.int .i64 10),(.str Qo),(.sl .nil 0 [])]))]) (Qas (Qb.mk 10 Qo []) h79) (wlc (Wk.pl (WkP.agg (wpc (WkP.refl _) (wpc (WkP.refl _) (wpc (WkP.nil (f:=.nil) (sz:=0) (sz':=3)) wpn))))) wln) (Wk.refl _) rfl) (ap (Ql.wk (args':=[(.pl (.agg [(.int .i64 99),(.str Qp),(.sl .nil 0 [])]))]) (Qas (Qb.mk 99 Qp []) h82) (wlc (Wk.pl (WkP.agg (wpc (WkP.refl _) (wpc (WkP.refl _) (wpc (WkP.nil (f:=.nil) (sz:=0) (sz':=3)) wpn))))) wln) (Wk.refl _) rfl) an)))))) rfl
  ·obtain rfl:=Qf h;exact rE Qi [(jF [9,10,11]++jT [4,5,6],[jH 1 (jI x75),jH 5 (jI x78),(7,.bool true),(12,.bool false)],[])] [] [] [0] [1,4,6,8,10,12,14,15] (.norm,(f7n1E bn1 bn2 bn3 bn4 bn5 bn6 bo7 (.norm false)).2) (ap4 h77 (ap4 h80 (ap (Ql.wk (args':=[(.pl (.agg [(.int .i64 9),(.str Qk),(.sl .nil 0 [])]))]) (Qas (Qb.mk 9 Qk []) h76) (wlc (Wk.pl (WkP.agg (wpc (WkP.refl _) (wpc (WkP.refl _) (wpc (WkP.nil (f:=.nil) (sz:=0) (sz':=3)) wpn))))) wln) (Wk.refl _) rfl) (ap (Ql.wk (args':=[(.pl (.agg [(.int .i64 10),(.str Qo),(.sl .nil 0 [])]))]) (Qas (Qb.mk 10 Qo []) h79) (wlc (Wk.pl (WkP.agg (wpc (WkP.refl _) (wpc (WkP.refl _) (wpc (WkP.nil (f:=.nil) (sz:=0) (sz':=3)) wpn))))) wln) (Wk.refl _) rfl) an)))) rfl
 ·obtain rfl:=Qf h;exact rE Qi [(jF [4,5,6],[jH 1 (jI x75),(7,.bool false)],[])] [] [] [0] [1,4,6,8,10,12,14,15] (.norm,(f7n1E bn1 bn2 bn3 bn4 bn5 bn6 bo7 (.norm false)).2) (ap4 h77 (ap (Ql.wk (args':=[(.pl (.agg [(.int .i64 9),(.str Qk),(.sl .nil 0 [])]))]) (Qas (Qb.mk 9 Qk []) h76) (wlc (Wk.pl (WkP.agg (wpc (WkP.refl _) (wpc (WkP.refl _) (wpc (WkP.nil (f:=.nil) (sz:=0) (sz':=3)) wpn))))) wln) (Wk.refl _) rfl) an)) rfl
inductive f7n3O where
 | exit0 (v170:Bool)
def f7n3E(bn1 bn2 bn3 bn4 bn5 bn6:Qh×Int)(bp7:Bool)(bo8:Qj×Bool):f7n3O→Ex×Tr×Hp
 | .exit0 v170=>((.exit 0),mkS [(1,(.bp 0 0)),(4,(jI bn1.2)),(6,(jI bn2.2)),(8,(jI bn3.2)),(10,(jI bn4.2)),(12,(jI bn5.2)),(14,(jI bn6.2)),(15,(jB bp7)),(16,(jB v170))],[some (.box 43 ((Qj.cells bo8.1).map .pl))])
def f7n3S(bn1 bn2 bn3 bn4 bn5 bn6:Qh×Int)(bp7:Bool)(bo8:Qj×Bool)(v144:Bool)(v145:Int):Tr×Hp:=(mkS [(1,(.bp 0 0)),(4,(jI bn1.2)),(6,(jI bn2.2)),(8,(jI bn3.2)),(10,(jI bn4.2)),(12,(jI bn5.2)),(14,(jI bn6.2)),(15,(jB bp7)),(16,(jB v144)),(134,(.own 1)),(135,(jI 11)),(136,(jI v145))],[some (.box 43 ((Qj.cells bo8.1).map .pl)),some (.row false 4 ([(Qh.mk 1 0 0 []),(Qh.mk (-1) 1 0 []),(Qh.mk 0 100001 0 []),(Qh.mk 0 0 201 []),(Qh.mk 0 0 (-1) []),(Qh.mk 0 0 0 [(Qa.mk Qay Qao 0 0)]),(Qh.mk 0 0 0 [(Qa.mk Qay Qao (-1) 1)]),(Qh.mk 0 0 0 [(Qa.mk Qcp Qao 1 0),(Qa.mk Qay Qao 0 1)]),(Qh.mk 0 0 0 [(Qa.mk Qy Qao 1 1)]),(Qh.mk 0 0 0 [(Qa.mk Qay Qao 4503599627370496001 1)]),(Qh.mk 0 0 0 [(Qa.mk Qay Qao 4503599627370496000 1),(Qa.mk Qcp Qao 1 4503599627370496000)])].map Qh.cells))])
noncomputable def f7n3:Nat→Qh×Int→Qh×Int→Qh×Int→Qh×Int→Qh×Int→Qh×Int→Bool→Qj×Bool→Bool→Int→Option f7n3O
 | 0,_,_,_,_,_,_,_,_,_,_=>none
 | f+1,bn1,bn2,bn3,bn4,bn5,bn6,bp7,bo8,v144,v145 =>
  bif decide (v145<11) then
   (at? [(Qh.mk 1 0 0 []),(Qh.mk (-1) 1 0 []),(Qh.mk 0 100001 0 []),(Qh.mk 0 0 201 []),(Qh.mk 0 0 (-1) []),(Qh.mk 0 0 0 [(Qa.mk Qay Qao 0 0)]),(Qh.mk 0 0 0 [(Qa.mk Qay Qao (-1) 1)]),(Qh.mk 0 0 0 [(Qa.mk Qcp Qao 1 0),(Qa.mk Qay Qao 0 1)]),(Qh.mk 0 0 0 [(Qa.mk Qy Qao 1 1)]),(Qh.mk 0 0 0 [(Qa.mk Qay Qao 4503599627370496001 1)]),(Qh.mk 0 0 0 [(Qa.mk Qay Qao 4503599627370496000 1),(Qa.mk Qcp Qao 1 4503599627370496000)])] v145).bind fun x159 =>
   (f10 x159).bind fun x161 =>
   (f12r1 0 x159).bind fun x163 =>
   bif v144 then
    (f15 x159).bind fun x166 =>
    bif decide (x166=8) then
     bif decide (x161.2=8) then
      (f7n3 f bn1 bn2 bn3 bn4 bn5 bn6 bp7 bo8 (decide (x163.1=8)) (wr64 (v145+1)))
     else
      (f7n3 f bn1 bn2 bn3 bn4 bn5 bn6 bp7 bo8 false (wr64 (v145+1)))
    else
     (f7n3 f bn1 bn2 bn3 bn4 bn5 bn6 bp7 bo8 false (wr64 (v145+1)))
   else
    (f7n3 f bn1 bn2 bn3 bn4 bn5 bn6 bp7 bo8 false (wr64 (v145+1)))
  else
   some (.exit0 v144)
theorem f7n3_ok:∀(f:Nat)(bn1 bn2 bn3 bn4 bn5 bn6:Qh×Int)(bp7:Bool)(bo8:Qj×Bool)(v144:Bool)(v145:Int){o:f7n3O},f7n3 f bn1 bn2 bn3 bn4 bn5 bn6 bp7 bo8 v144 v145=some o→TL Tryd.prog Tryd.f7.ntmps 0 f (cL (cL (Qt 1 (cL (Qt 1 (Qt 1 (Qt 2 (Qt 6 c7)))))))) (f7n3S bn1 bn2 bn3 bn4 bn5 bn6 bp7 bo8 v144 v145) (·=f7n3E bn1 bn2 bn3 bn4 bn5 bn6 bp7 bo8 o)
 | 0,_,_,_,_,_,_,_,_,_,_,o,h=>by rw [f7n3] at h; cases h
 | f+1,bn1,bn2,bn3,bn4,bn5,bn6,bp7,bo8,v144,v145,o,h=>by
  rw [f7n3] at h;refine TL.body (K:=fun s=>∃v144:Bool,∃v145:Int,s=(f7n3S bn1 bn2 bn3 bn4 bn5 bn6 bp7 bo8 v144 v145)∧f7n3 f bn1 bn2 bn3 bn4 bn5 bn6 bp7 bo8 v144 v145=some o) ?_ (by rintro _ ⟨v144,v145,rfl,hk⟩; exact f7n3_ok f _ _ _ _ _ _ _ _ _ _ hk);rcases Qg h with ⟨h147,h⟩|⟨h147,h⟩
  ·obtain ⟨x159,h160,h⟩:=Qe h;obtain ⟨x161,h162,h⟩:=Qe h;obtain ⟨x163,h164,h⟩:=Qe h;rcases Qg h with ⟨h165,h⟩|⟨h165,h⟩
   ·obtain ⟨x166,h167,h⟩:=Qe h;rcases Qg h with ⟨h168,h⟩|⟨h168,h⟩
    ·rcases Qg h with ⟨h169,h⟩|⟨h169,h⟩
     ·exact rE Qi [j3,([],[(0,.at_ (Int.toNat v145)),(1,.idx 0 (Qh.cells x159))],[]),([],[jH 1 (.tup [(jS x161.1),(jI x161.2)])],[]),([],[(2,.call (.tup [(.own 3),(jI x163.1)]) (jN 3 [jR 4 Qa.cells x163.2]))],[]),(jT [2,3,4,7,8,11,12],[jH 3 (jI x166),(5,.bool true),(9,.bool true),(13,.bool true)],[]),j3] [some true] [] [0,1] [1,4,6,8,10,12,14,15,16,134,135,136] (.norm,(f7n3S bn1 bn2 bn3 bn4 bn5 bn6 bp7 bo8 (decide (x163.1=8)) (wr64 (v145+1)))) (ap h147 (ap (Qm h160).1 (ap (lt_map Qh.cells (Qm h160).2) (ap (Qag Qh.cells (Qm h160).2) (ap (Qbb x159 h162) (ap (Ql.rn 3 [] (f12r1_ok 0 x159 h164)) (ap4 h165 (ap3 h168 (ap3 h169 (ap (Qar x159 h167) an)))))))))) (Qad.norm ⟨(decide (x163.1=8)),(wr64 (v145+1)),rfl,h⟩)
     ·exact rE Qi [j3,([],[(0,.at_ (Int.toNat v145)),(1,.idx 0 (Qh.cells x159))],[]),([],[jH 1 (.tup [(jS x161.1),(jI x161.2)])],[]),([],[(2,.call (.tup [(.own 3),(jI x163.1)]) (jN 3 [jR 4 Qa.cells x163.2]))],[]),(jF [11,12]++jT [2,3,4,7,8],[jH 3 (jI x166),(5,.bool true),(9,.bool true),(13,.bool false)],[]),j3] [some true] [] [0,1] [1,4,6,8,10,12,14,15,16,134,135,136] (.norm,(f7n3S bn1 bn2 bn3 bn4 bn5 bn6 bp7 bo8 false (wr64 (v145+1)))) (ap h147 (ap (Qm h160).1 (ap (lt_map Qh.cells (Qm h160).2) (ap (Qag Qh.cells (Qm h160).2) (ap (Qbb x159 h162) (ap (Ql.rn 3 [] (f12r1_ok 0 x159 h164)) (ap4 h165 (ap3 h168 (ap3 h169 (ap (Qar x159 h167) an)))))))))) (Qad.norm ⟨false,(wr64 (v145+1)),rfl,h⟩)
    ·exact rE Qi [j3,([],[(0,.at_ (Int.toNat v145)),(1,.idx 0 (Qh.cells x159))],[]),([],[jH 1 (.tup [(jS x161.1),(jI x161.2)])],[]),([],[(2,.call (.tup [(.own 3),(jI x163.1)]) (jN 3 [jR 4 Qa.cells x163.2]))],[]),(jF [7,8]++jT [2,3,4],[jH 3 (jI x166),(5,.bool true),(9,.bool false)],[]),j3] [some true] [] [0,1] [1,4,6,8,10,12,14,15,16,134,135,136] (.norm,(f7n3S bn1 bn2 bn3 bn4 bn5 bn6 bp7 bo8 false (wr64 (v145+1)))) (ap h147 (ap (Qm h160).1 (ap (lt_map Qh.cells (Qm h160).2) (ap (Qag Qh.cells (Qm h160).2) (ap (Qbb x159 h162) (ap (Ql.rn 3 [] (f12r1_ok 0 x159 h164)) (ap4 h165 (ap3 h168 (ap (Qar x159 h167) an))))))))) (Qad.norm ⟨false,(wr64 (v145+1)),rfl,h⟩)
   ·exact rE Qi [j3,([],[(0,.at_ (Int.toNat v145)),(1,.idx 0 (Qh.cells x159))],[]),([],[jH 1 (.tup [(jS x161.1),(jI x161.2)])],[]),([],[(2,.call (.tup [(.own 3),(jI x163.1)]) (jN 3 [jR 4 Qa.cells x163.2]))],[]),(jF [2,3,4],[(5,.bool false)],[]),j3] [some true] [] [0,1] [1,4,6,8,10,12,14,15,16,134,135,136] (.norm,(f7n3S bn1 bn2 bn3 bn4 bn5 bn6 bp7 bo8 false (wr64 (v145+1)))) (ap h147 (ap (Qm h160).1 (ap (lt_map Qh.cells (Qm h160).2) (ap (Qag Qh.cells (Qm h160).2) (ap (Qbb x159 h162) (ap (Ql.rn 3 [] (f12r1_ok 0 x159 h164)) (ap4 h165 an))))))) (Qad.norm ⟨false,(wr64 (v145+1)),rfl,h⟩)
  ·obtain rfl:=Qf h;exact rK Qi 2 [j3] [some false] [] [0] [1,4,6,8,10,12,14,15,16] (.exit 0) ((f7n3E bn1 bn2 bn3 bn4 bn5 bn6 bp7 bo8 (.exit0 v144)).2) (ap h147 an) (Qad.out rfl rfl)
inductive f7n2O where
 | norm (v174:Bool)
def f7n2E(bn1 bn2 bn3 bn4 bn5 bn6:Qh×Int)(bp7:Bool)(bo8:Qj×Bool):f7n2O→Ex×Tr×Hp
 | .norm v174=>(.norm,mkS [(1,(.bp 0 0)),(4,(jI bn1.2)),(6,(jI bn2.2)),(8,(jI bn3.2)),(10,(jI bn4.2)),(12,(jI bn5.2)),(14,(jI bn6.2)),(15,(jB bp7)),(16,(jB v174))],[some (.box 43 ((Qj.cells bo8.1).map .pl))])
def f7n2S(bn1 bn2 bn3 bn4 bn5 bn6:Qh×Int)(bp7:Bool)(bo8:Qj×Bool):Tr×Hp:=(mkS [(1,(.bp 0 0)),(4,(jI bn1.2)),(6,(jI bn2.2)),(8,(jI bn3.2)),(10,(jI bn4.2)),(12,(jI bn5.2)),(14,(jI bn6.2)),(15,(jB bp7)),(16,(jB true))],[some (.box 43 ((Qj.cells bo8.1).map .pl))])
noncomputable def f7n2(bn1 bn2 bn3 bn4 bn5 bn6:Qh×Int)(bp7:Bool)(bo8:Qj×Bool):Option f7n2O :=
 (f7n3 FUEL bn1 bn2 bn3 bn4 bn5 bn6 bp7 bo8 true 0).bind fun o171=>match o171 with
 | .exit0 v173=>some (.norm v173)
theorem f7n2_ok(bn1 bn2 bn3 bn4 bn5 bn6:Qh×Int)(bp7:Bool)(bo8:Qj×Bool){o:f7n2O}(h:f7n2 bn1 bn2 bn3 bn4 bn5 bn6 bp7 bo8=some o):T Tryd.prog Tryd.f7.ntmps 0 (cL (Qt 1 (Qt 1 (Qt 2 (Qt 6 c7))))) (f7n2S bn1 bn2 bn3 bn4 bn5 bn6 bp7 bo8) (·=f7n2E bn1 bn2 bn3 bn4 bn5 bn6 bp7 bo8 o):=by
 unfold f7n2 at h
 refine rN Qi 1 [j3] [] [] [0,7] [1,4,6,8,10,12,14,15,16,134,135,136] ((f7n3S bn1 bn2 bn3 bn4 bn5 bn6 bp7 bo8 true 0).1,hset (f7n3S bn1 bn2 bn3 bn4 bn5 bn6 bp7 bo8 true 0).2 1 (some (.row false 4 ([[.int .i64 1,.int .i64 0,.int .i64 0,.sl .nil 0 []],[.int .i64 (-1),.int .i64 1,.int .i64 0,.sl .nil 0 []],[.int .i64 0,.int .i64 100001,.int .i64 0,.sl .nil 0 []],[.int .i64 0,.int .i64 0,.int .i64 201,.sl .nil 0 []],[.int .i64 0,.int .i64 0,.int .i64 (-1),.sl .nil 0 []],Qh.cells (Qh.mk 0 0 0 [(Qa.mk Qay Qao 0 0)]),Qh.cells (Qh.mk 0 0 0 [(Qa.mk Qay Qao (-1) 1)]),Qh.cells (Qh.mk 0 0 0 [(Qa.mk Qcp Qao 1 0),(Qa.mk Qay Qao 0 1)]),Qh.cells (Qh.mk 0 0 0 [(Qa.mk Qy Qao 1 1)]),Qh.cells (Qh.mk 0 0 0 [(Qa.mk Qay Qao 4503599627370496001 1)]),Qh.cells (Qh.mk 0 0 0 [(Qa.mk Qay Qao 4503599627370496000 1),(Qa.mk Qcp Qao 1 4503599627370496000)])]:List (List PV))))) an (T.wkRow (o:=1) (fz:=false) (sz:=4) (es:=([[.int .i64 1,.int .i64 0,.int .i64 0,.sl .nil 0 []],[.int .i64 (-1),.int .i64 1,.int .i64 0,.sl .nil 0 []],[.int .i64 0,.int .i64 100001,.int .i64 0,.sl .nil 0 []],[.int .i64 0,.int .i64 0,.int .i64 201,.sl .nil 0 []],[.int .i64 0,.int .i64 0,.int .i64 (-1),.sl .nil 0 []],Qh.cells (Qh.mk 0 0 0 [(Qa.mk Qay Qao 0 0)]),Qh.cells (Qh.mk 0 0 0 [(Qa.mk Qay Qao (-1) 1)]),Qh.cells (Qh.mk 0 0 0 [(Qa.mk Qcp Qao 1 0),(Qa.mk Qay Qao 0 1)]),Qh.cells (Qh.mk 0 0 0 [(Qa.mk Qy Qao 1 1)]),Qh.cells (Qh.mk 0 0 0 [(Qa.mk Qay Qao 4503599627370496001 1)]),Qh.cells (Qh.mk 0 0 0 [(Qa.mk Qay Qao 4503599627370496000 1),(Qa.mk Qcp Qao 1 4503599627370496000)])]:List (List PV))) (es2:=[(Qh.mk 1 0 0 []),(Qh.mk (-1) 1 0 []),(Qh.mk 0 100001 0 []),(Qh.mk 0 0 201 []),(Qh.mk 0 0 (-1) []),(Qh.mk 0 0 0 [(Qa.mk Qay Qao 0 0)]),(Qh.mk 0 0 0 [(Qa.mk Qay Qao (-1) 1)]),(Qh.mk 0 0 0 [(Qa.mk Qcp Qao 1 0),(Qa.mk Qay Qao 0 1)]),(Qh.mk 0 0 0 [(Qa.mk Qy Qao 1 1)]),(Qh.mk 0 0 0 [(Qa.mk Qay Qao 4503599627370496001 1)]),(Qh.mk 0 0 0 [(Qa.mk Qay Qao 4503599627370496000 1),(Qa.mk Qcp Qao 1 4503599627370496000)])].map Qh.cells) rfl ⟨⟨WkP.refl _,WkP.refl _,WkP.refl _,WkP.nil,trivial⟩,⟨⟨WkP.refl _,WkP.refl _,WkP.refl _,WkP.nil,trivial⟩,⟨⟨WkP.refl _,WkP.refl _,WkP.refl _,WkP.nil,trivial⟩,⟨⟨WkP.refl _,WkP.refl _,WkP.refl _,WkP.nil,trivial⟩,⟨⟨WkP.refl _,WkP.refl _,WkP.refl _,WkP.nil,trivial⟩,⟨WkPL.refl _,⟨WkPL.refl _,⟨WkPL.refl _,⟨WkPL.refl _,⟨WkPL.refl _,⟨WkPL.refl _,trivial⟩⟩⟩⟩⟩⟩⟩⟩⟩⟩⟩ ?_)
 obtain ⟨o171,h172,h⟩:=Qe h;cases o171 with
 | exit0 v173 =>
  obtain rfl:=Qf h;exact T.last' (T.bl (i:=0) (by kernel_rfl) (by kernel_rfl) (f7n3_ok FUEL bn1 bn2 bn3 bn4 bn5 bn6 bp7 bo8 true 0 h172)) (tds:=[]) (m:=[0]) (keep:=[1,4,6,8,10,12,14,15,16]) (st2:=(f7n2E bn1 bn2 bn3 bn4 bn5 bn6 bp7 bo8 (.norm v173)).2) (by kernel_rfl) an rfl
inductive f7n0O where
 | ret (v314:Bool)
def f7n0E:f7n0O→Ex×Tr×Hp
 | .ret v314=>(.ret,mkS [(0,(jB v314))],[])
def f7n0S:Tr×Hp:=(Qal [] 0 .leaf,[])
noncomputable def f7n0:Option f7n0O :=
 f26.bind fun x3 =>
 (f21 x3.1 11 10 0).bind fun x7 =>
 (f21 x3.1 (-1) 10 0).bind fun x11 =>
 (f21 x3.1 0 100001 0).bind fun x15 =>
 (f21 x3.1 0 1 4).bind fun x19 =>
 (f21 x3.1 0 1 (-1)).bind fun x23 =>
 (f21 (Qj.mk [(Qb.mk 0 Qy [])]) (-1) 0 0).bind fun x27 =>
 (f7n1 x7 x11 x15 x19 x23 x27 x3).bind fun o99=>match o99 with
 | .norm v101=>(f7n2 x7 x11 x15 x19 x23 x27 v101 x3).bind fun o175=>match o175 with
  | .norm v177=>(f21 x3.1 0 100000 2).bind fun x180 =>
   (f21 x3.1 0 100000 3).bind fun x184 =>
   (f12r2 x180.1 x184.1).bind fun x188 =>
   (f12r2 x184.1 x180.1).bind fun x192 =>
   (f12r3 0 1 2).bind fun x236 =>
   (f10 (Qh.mk 0 0 0 [])).bind fun x240 =>
   f17.bind fun x278 =>
   bif x278 then
    bif decide (x7.2=2) then
     bif decide (x11.2=2) then
      bif decide (x15.2=2) then
       bif decide (x19.2=2) then
        bif decide (x23.2=2) then
         bif decide (x27.2=8) then
          bif v101 then
           bif v177 then
            (f15 (Qh.mk 0 0 0 [(Qa.mk Qay Qao 2 0),(Qa.mk Qcp str_F 0 2)])).bind fun x289 =>
            bif decide (x289=60) then
             bif decide (x180.2=0) then
              bif decide (x184.2=0) then
               bif decide (x188.1=0) then
                (f27 1 0).bind fun x295 =>
                (f14 x188.2 x295).bind fun x297 =>
                bif x297 then
                 bif decide (x192.1=0) then
                  (f27 (-1) 0).bind fun x301 =>
                  (f14 x192.2 x301).bind fun x303 =>
                  bif x303 then
                   bif decide (x236.1=2) then
                    bif decide (x240.2=0) then
                     bif (seq x240.1 Qbk) then
                      (f28 x3.1 12 13 3 x295).bind fun x309 =>
                      bif x309 then
                       (f28 x3.1 11 12 3 []).bind fun x312 =>
                       some (.ret x312)
                      else
                       some (.ret false)
                     else
                      some (.ret false)
                    else
                     some (.ret false)
                   else
                    some (.ret false)
                  else
                   some (.ret false)
                 else
                  some (.ret false)
                else
                 some (.ret false)
               else
                some (.ret false)
              else
               some (.ret false)
             else
              some (.ret false)
            else
             some (.ret false)
           else
            some (.ret false)
          else
           some (.ret false)
         else
          some (.ret false)
        else
         some (.ret false)
       else
        some (.ret false)
      else
       some (.ret false)
     else
      some (.ret false)
    else
     some (.ret false)
   else
    some (.ret false)
theorem f7n0_ok{o:f7n0O}(h:f7n0=some o):T Tryd.prog Tryd.f7.ntmps 0 c7 f7n0S (·=f7n0E o):=by
 unfold f7n0 at h;obtain ⟨x3,h4,h⟩:=Qe h;obtain ⟨x7,h8,h⟩:=Qe h;obtain ⟨x11,h12,h⟩:=Qe h;obtain ⟨x15,h16,h⟩:=Qe h;obtain ⟨x19,h20,h⟩:=Qe h;refine rN Qi 6 [j3,([],[jH 0 (.tup [(jA Qj.cells x3.1),(jB x3.2)])],[]),([],[jH 1 (.tup [(jA Qh.cells x7.1),(jI x7.2)])],[]),([],[jH 1 (.tup [(jA Qh.cells x11.1),(jI x11.2)])],[]),([],[jH 1 (.tup [(jA Qh.cells x15.1),(jI x15.2)])],[]),([],[jH 1 (.tup [(jA Qh.cells x19.1),(jI x19.2)])],[])] [] [] [0] [1,4,6,8,10] (mkS [(1,(.bp 0 0)),(4,(jI x7.2)),(6,(jI x11.2)),(8,(jI x15.2)),(10,(jI x19.2))],[some (.box 43 ((Qj.cells x3.1).map .pl))]) (ap (f26_ok h4) (ap (f21_ok x3.1 11 10 0 h8) (ap (f21_ok x3.1 (-1) 10 0 h12) (ap (f21_ok x3.1 0 100001 0 h16) (ap (f21_ok x3.1 0 1 4 h20) an))))) ?_;obtain ⟨x23,h24,h⟩:=Qe h;obtain ⟨x27,h28,h⟩:=Qe h
 refine rN Qi 2 [([],[jH 1 (.tup [(jA Qh.cells x23.1),(jI x23.2)])],[]),([],[jH 2 (.tup [(jA Qh.cells x27.1),(jI x27.2)])],[])] [] [] [0] [1,4,6,8,10,12,14] (f7n1S x7 x11 x15 x19 x23 x27 x3) (ap (f21_ok x3.1 0 1 (-1) h24) (ap (Ql.wk (args':=[(.pl (.agg [.sl .any 3 [[.int .i64 0,.str Qy,.sl .nil 0 []]]])),(jI (-1)),(jI 0),(jI 0)]) (f21_ok (Qj.mk [(Qb.mk 0 Qy [])]) (-1) 0 0 h28) ⟨Wk.pl (WkP.agg ⟨WkP.sl ⟨⟨WkP.refl _,WkP.refl _,WkP.nil,trivial⟩,trivial⟩,trivial⟩),Wk.refl _,Wk.refl _,Wk.refl _,trivial⟩ (Wk.refl _) rfl) an)) ?_;obtain ⟨o99,h100,h⟩:=Qe h;cases o99 with
 | norm v101 =>
  refine T.oneN (by kernel_rfl) (f7n1_ok x7 x11 x15 x19 x23 x27 x3 h100) (st2:=(f7n1E x7 x11 x15 x19 x23 x27 x3 (.norm v101)).2) rfl ?_;refine rN Qi 1 [j3] [] [] [0] [1,4,6,8,10,12,14,15,16] (f7n2S x7 x11 x15 x19 x23 x27 v101 x3) an ?_;obtain ⟨o175,h176,h⟩:=Qe h;cases o175 with
  | norm v177 =>
   refine T.oneN (by kernel_rfl) (f7n2_ok x7 x11 x15 x19 x23 x27 v101 x3 h176) (st2:=(f7n2E x7 x11 x15 x19 x23 x27 v101 x3 (.norm v177)).2) rfl ?_;obtain ⟨x180,h181,h⟩:=Qe h;obtain ⟨x184,h185,h⟩:=Qe h;obtain ⟨x188,h189,h⟩:=Qe h;obtain ⟨x192,h193,h⟩:=Qe h
   refine rN Qi 5 [j3,([],[jH 1 (.tup [(jA Qh.cells x180.1),(jI x180.2)])],[]),([],[jH 1 (.tup [(jA Qh.cells x184.1),(jI x184.2)])],[]),([],[(2,.call (.tup [(.own 5),(jI x188.1)]) (jN 5 [jR 4 Qa.cells x188.2]))],[]),([],[(2,.call (.tup [(.own 6),(jI x192.1)]) (jN 6 [jR 4 Qa.cells x192.2]))],[])] [] [] [0,2,5,6,1] [1,4,6,8,10,12,14,15,16,23,25,27,28,29,30,31] (mkS [(1,(.bp 0 0)),(4,(jI x7.2)),(6,(jI x11.2)),(8,(jI x15.2)),(10,(jI x19.2)),(12,(jI x23.2)),(14,(jI x27.2)),(15,(jB v101)),(16,(jB v177)),(23,(.bp 1 0)),(25,(jI x180.2)),(27,(jI x184.2)),(28,(.own 2)),(29,(jI x188.1)),(30,(.own 3)),(31,(jI x192.1))],[some (.box 43 ((Qj.cells x3.1).map .pl)),some (.box 24 [(jI 0),(jI 0),(jI 0),(.own 4)]),jR 4 Qa.cells x188.2,jR 4 Qa.cells x192.2,some (.row false 4 ([(Qa.mk Qay Qao 2 0),(Qa.mk Qcp str_F 0 2)].map Qa.cells))]) (ap (f21_ok x3.1 0 100000 2 h181) (ap (f21_ok x3.1 0 100000 3 h185) (ap (Ql.rn 5 [] (f12r2_ok x180.1 x184.1 h189)) (ap (Ql.rn 6 [] (f12r2_ok x184.1 x180.1 h193)) an)))) ?_
   obtain ⟨x236,h237,h⟩:=Qe h;obtain ⟨x240,h241,h⟩:=Qe h;obtain ⟨x278,h279,h⟩:=Qe h;rcases Qg h with ⟨h280,h⟩|⟨h280,h⟩
   ·rcases Qg h with ⟨h281,h⟩|⟨h281,h⟩
    ·rcases Qg h with ⟨h282,h⟩|⟨h282,h⟩
     ·rcases Qg h with ⟨h283,h⟩|⟨h283,h⟩
      ·rcases Qg h with ⟨h284,h⟩|⟨h284,h⟩
       ·rcases Qg h with ⟨h285,h⟩|⟨h285,h⟩
        ·rcases Qg h with ⟨h286,h⟩|⟨h286,h⟩
         ·rcases Qg h with ⟨h287,h⟩|⟨h287,h⟩
          ·rcases Qg h with ⟨h288,h⟩|⟨h288,h⟩
           ·obtain ⟨x289,h290,h⟩:=Qe h;rcases Qg h with ⟨h291,h⟩|⟨h291,h⟩
            ·rcases Qg h with ⟨h292,h⟩|⟨h292,h⟩
             ·rcases Qg h with ⟨h293,h⟩|⟨h293,h⟩
              ·rcases Qg h with ⟨h294,h⟩|⟨h294,h⟩
               ·obtain ⟨x295,h296,h⟩:=Qe h;obtain ⟨x297,h298,h⟩:=Qe h;rcases Qg h with ⟨h299,h⟩|⟨h299,h⟩
                ·rcases Qg h with ⟨h300,h⟩|⟨h300,h⟩
                 ·obtain ⟨x301,h302,h⟩:=Qe h;obtain ⟨x303,h304,h⟩:=Qe h;rcases Qg h with ⟨h305,h⟩|⟨h305,h⟩
                  ·rcases Qg h with ⟨h306,h⟩|⟨h306,h⟩
                   ·rcases Qg h with ⟨h307,h⟩|⟨h307,h⟩
                    ·rcases Qg h with ⟨h308,h⟩|⟨h308,h⟩
                     ·obtain ⟨x309,h310,h⟩:=Qe h;rcases Qg h with ⟨h311,h⟩|⟨h311,h⟩
                      ·obtain ⟨x312,h313,h⟩:=Qe h;obtain rfl:=Qf h
                       exact rE Qi [([],[(2,.call (.tup [(.own 5),(jI x236.1)]) (jN 5 [jR 4 Qa.cells x236.2]))],[]),([],[jH 1 (.tup [(jS x240.1),(jI x240.2)])],[]),(jT [4,5,8,9,12,13,16,17,20,21,24,25,28,31,34,35,36,39,40,43,44,47,48,51,52,53,56,57,60,61,62,65,66,69,70,73,74,77,78,79,82,83],[jH 1 (jB x278),(6,.bool true),(10,.bool true),(14,.bool true),(18,.bool true),(22,.bool true),(26,.bool true),(29,.bool true),(32,.bool true),jH 35 (jI x289),(37,.bool true),(41,.bool true),(45,.bool true),(49,.bool true),jH 52 (jL 4 Qa.cells x295),jH 53 (jB x297),(54,.bool true),(58,.bool true),jH 61 (jL 4 Qa.cells x301),jH 62 (jB x303),(63,.bool true),(67,.bool true),(71,.bool true),(75,.bool true),jH 78 (jL 4 Qa.cells x295),jH 79 (jB x309),(80,.bool true),jH 83 (jB x312),(84,.bool true)],[])] [] [] [] [0] (.ret,(f7n0E (.ret x312)).2) (ap (Ql.rn 5 [] (Qat 0 1 2 h237)) (ap (Ql.wk (args':=[(.pl (.agg [(.int .i64 0),(.int .i64 0),(.int .i64 0),(.sl .nil 0 [])]))]) (Qbb (Qh.mk 0 0 0 []) h241) (wlc (Wk.pl (WkP.agg (wpc (WkP.refl _) (wpc (WkP.refl _) (wpc (WkP.refl _) (wpc (WkP.nil (f:=.nil) (sz:=0) (sz':=4)) wpn)))))) wln) (Wk.refl _) rfl) (ap3 h280 (ap3 h281 (ap3 h282 (ap3 h283 (ap3 h284 (ap3 h285 (ap2 h286 (ap2 h287 (ap4 h288 (ap3 h291 (ap3 h292 (ap3 h293 (ap4 h294 (ap3 h299 (ap4 h300 (ap3 h305 (ap3 h306 (ap3 h307 (ap4 h308 (ap3 h311 (ap (Qz (e:=⟨false,27,[(jI 1),(jI 0)],[],(jL 4 Qa.cells x295),[]⟩) (f:=⟨false,27,[(jI (-1)),(jI 0)],[],(jL 4 Qa.cells x301),[]⟩) (fun k=>by simp only [jL,jS,jI,jB,jA,Qc.cells_eq,Qc.map_eq,Qb.cells_eq,Qb.map_eq,Qj.cells_eq,Qj.map_eq,Qd.cells_eq,Qd.map_eq,Qa.cells_eq,Qa.map_eq,Qh.cells_eq,Qh.map_eq,Key_.cells_eq,Key_.map_eq,Qr.cells_eq,Qr.map_eq,List.cons.injEq,AV.pl.injEq,PV.str.injEq,PV.int.injEq,PV.bool.injEq,PV.agg.injEq,PV.sl.injEq,and_true,true_and] at k; first | (exfalso; revert k; simp; done) | exact (have e0:x295=x301:=Option.some.inj (by rw [←h296,←h302]; first | exact congrArg _ k | (obtain ⟨k1,_⟩:=k; simp only [k1]; done) | simp only [k]); ⟨by rw [e0],rfl⟩))) (ap (same_self (e:=⟨false,27,[(jI 1),(jI 0)],[],(jL 4 Qa.cells x295),[]⟩)) (ap (Qz (e:=⟨false,14,[(jL 4 Qa.cells x188.2),(jL 4 Qa.cells x295)],[],(jB x297),[]⟩) (f:=⟨false,14,[(jL 4 Qa.cells x192.2),(jL 4 Qa.cells x301)],[],(jB x303),[]⟩) (fun k=>by simp only [jL,jS,jI,jB,jA,Qc.cells_eq,Qc.map_eq,Qb.cells_eq,Qb.map_eq,Qj.cells_eq,Qj.map_eq,Qd.cells_eq,Qd.map_eq,Qa.cells_eq,Qa.map_eq,Qh.cells_eq,Qh.map_eq,Key_.cells_eq,Key_.map_eq,Qr.cells_eq,Qr.map_eq,List.cons.injEq,AV.pl.injEq,PV.str.injEq,PV.int.injEq,PV.bool.injEq,PV.agg.injEq,PV.sl.injEq,and_true,true_and] at k; have e0:x297=x303:=Option.some.inj (by rw [←h298,←h304]; first | exact congrArg _ k | (obtain ⟨k1,_⟩:=k; simp only [k1]; done) | simp only [k]); exact ⟨by rw [e0],rfl⟩)) (ap (Qz (e:=⟨false,27,[(jI (-1)),(jI 0)],[],(jL 4 Qa.cells x301),[]⟩) (f:=⟨false,27,[(jI 1),(jI 0)],[],(jL 4 Qa.cells x295),[]⟩) (fun k=>by simp only [jL,jS,jI,jB,jA,Qc.cells_eq,Qc.map_eq,Qb.cells_eq,Qb.map_eq,Qj.cells_eq,Qj.map_eq,Qd.cells_eq,Qd.map_eq,Qa.cells_eq,Qa.map_eq,Qh.cells_eq,Qh.map_eq,Key_.cells_eq,Key_.map_eq,Qr.cells_eq,Qr.map_eq,List.cons.injEq,AV.pl.injEq,PV.str.injEq,PV.int.injEq,PV.bool.injEq,PV.agg.injEq,PV.sl.injEq,and_true,true_and] at k; first | (exfalso; revert k; simp; done) | exact (have e0:x301=x295:=Option.some.inj (by rw [←h302,←h296]; first | exact congrArg _ k | (obtain ⟨k1,_⟩:=k; simp only [k1]; done) | simp only [k]); ⟨by rw [e0],rfl⟩))) (ap (Qz (e:=⟨false,28,[(jA Qj.cells x3.1),(jI 12),(jI 13),(jI 3),(jL 4 Qa.cells x295)],[],(jB x309),[]⟩) (f:=⟨false,28,[(jA Qj.cells x3.1),(jI 11),(jI 12),(jI 3),(.pl (.sl .nil 0 []))],[],(jB x312),[]⟩) (fun k=>by simp only [jL,jS,jI,jB,jA,Qc.cells_eq,Qc.map_eq,Qb.cells_eq,Qb.map_eq,Qj.cells_eq,Qj.map_eq,Qd.cells_eq,Qd.map_eq,Qa.cells_eq,Qa.map_eq,Qh.cells_eq,Qh.map_eq,Key_.cells_eq,Key_.map_eq,Qr.cells_eq,Qr.map_eq,List.cons.injEq,AV.pl.injEq,PV.str.injEq,PV.int.injEq,PV.bool.injEq,PV.agg.injEq,PV.sl.injEq,and_true,true_and] at k; first | (exfalso; revert k; simp; done) | exact (have e0:x309=x312:=Option.some.inj (by rw [←h310,←h313]; first | exact congrArg _ k | (obtain ⟨k1,_⟩:=k; simp only [k1]; done) | simp only [k]); ⟨by rw [e0],rfl⟩))) (ap (Qci h279) (ap (Qar (Qh.mk 0 0 0 [(Qa.mk Qay Qao 2 0),(Qa.mk Qcp str_F 0 2)]) h290) (ap (Qbu 1 0 h296) (ap (f14_ok x188.2 x295 h298) (ap (Qbu (-1) 0 h302) (ap (f14_ok x192.2 x301 h304) (ap (Qbu 1 0 h296) (ap (f28_ok x3.1 12 13 3 x295 h310) (ap (Ql.wk (args':=[(jA Qj.cells x3.1),(jI 11),(jI 12),(jI 3),(.pl (.sl .nil 0 []))]) (f28_ok x3.1 11 12 3 [] h313) (wlc (Wk.refl _) (wlc (Wk.refl _) (wlc (Wk.refl _) (wlc (Wk.refl _) (wlc (Wk.pl (WkP.nil (f:=.nil) (sz:=0) (sz':=4))) wln))))) (Wk.refl _) rfl) an)))))))))))))))))))))))))))))))))))) rfl
                      ·obtain rfl:=Qf h
                       exact rE Qi [([],[(2,.call (.tup [(.own 5),(jI x236.1)]) (jN 5 [jR 4 Qa.cells x236.2]))],[]),([],[jH 1 (.tup [(jS x240.1),(jI x240.2)])],[]),(jF [82,83]++jT [4,5,8,9,12,13,16,17,20,21,24,25,28,31,34,35,36,39,40,43,44,47,48,51,52,53,56,57,60,61,62,65,66,69,70,73,74,77,78,79],[jH 1 (jB x278),(6,.bool true),(10,.bool true),(14,.bool true),(18,.bool true),(22,.bool true),(26,.bool true),(29,.bool true),(32,.bool true),jH 35 (jI x289),(37,.bool true),(41,.bool true),(45,.bool true),(49,.bool true),jH 52 (jL 4 Qa.cells x295),jH 53 (jB x297),(54,.bool true),(58,.bool true),jH 61 (jL 4 Qa.cells x301),jH 62 (jB x303),(63,.bool true),(67,.bool true),(71,.bool true),(75,.bool true),jH 78 (jL 4 Qa.cells x295),jH 79 (jB x309),(80,.bool true),(84,.bool false)],[])] [] [] [] [0] (.ret,(f7n0E (.ret false)).2) (ap (Ql.rn 5 [] (Qat 0 1 2 h237)) (ap (Ql.wk (args':=[(.pl (.agg [(.int .i64 0),(.int .i64 0),(.int .i64 0),(.sl .nil 0 [])]))]) (Qbb (Qh.mk 0 0 0 []) h241) (wlc (Wk.pl (WkP.agg (wpc (WkP.refl _) (wpc (WkP.refl _) (wpc (WkP.refl _) (wpc (WkP.nil (f:=.nil) (sz:=0) (sz':=4)) wpn)))))) wln) (Wk.refl _) rfl) (ap3 h280 (ap3 h281 (ap3 h282 (ap3 h283 (ap3 h284 (ap3 h285 (ap2 h286 (ap2 h287 (ap4 h288 (ap3 h291 (ap3 h292 (ap3 h293 (ap4 h294 (ap3 h299 (ap4 h300 (ap3 h305 (ap3 h306 (ap3 h307 (ap4 h308 (ap3 h311 (ap (Qz (e:=⟨false,27,[(jI 1),(jI 0)],[],(jL 4 Qa.cells x295),[]⟩) (f:=⟨false,27,[(jI (-1)),(jI 0)],[],(jL 4 Qa.cells x301),[]⟩) (fun k=>by simp only [jL,jS,jI,jB,jA,Qc.cells_eq,Qc.map_eq,Qb.cells_eq,Qb.map_eq,Qj.cells_eq,Qj.map_eq,Qd.cells_eq,Qd.map_eq,Qa.cells_eq,Qa.map_eq,Qh.cells_eq,Qh.map_eq,Key_.cells_eq,Key_.map_eq,Qr.cells_eq,Qr.map_eq,List.cons.injEq,AV.pl.injEq,PV.str.injEq,PV.int.injEq,PV.bool.injEq,PV.agg.injEq,PV.sl.injEq,and_true,true_and] at k; first | (exfalso; revert k; simp; done) | exact (have e0:x295=x301:=Option.some.inj (by rw [←h296,←h302]; first | exact congrArg _ k | (obtain ⟨k1,_⟩:=k; simp only [k1]; done) | simp only [k]); ⟨by rw [e0],rfl⟩))) (ap (same_self (e:=⟨false,27,[(jI 1),(jI 0)],[],(jL 4 Qa.cells x295),[]⟩)) (ap (Qz (e:=⟨false,14,[(jL 4 Qa.cells x188.2),(jL 4 Qa.cells x295)],[],(jB x297),[]⟩) (f:=⟨false,14,[(jL 4 Qa.cells x192.2),(jL 4 Qa.cells x301)],[],(jB x303),[]⟩) (fun k=>by simp only [jL,jS,jI,jB,jA,Qc.cells_eq,Qc.map_eq,Qb.cells_eq,Qb.map_eq,Qj.cells_eq,Qj.map_eq,Qd.cells_eq,Qd.map_eq,Qa.cells_eq,Qa.map_eq,Qh.cells_eq,Qh.map_eq,Key_.cells_eq,Key_.map_eq,Qr.cells_eq,Qr.map_eq,List.cons.injEq,AV.pl.injEq,PV.str.injEq,PV.int.injEq,PV.bool.injEq,PV.agg.injEq,PV.sl.injEq,and_true,true_and] at k; have e0:x297=x303:=Option.some.inj (by rw [←h298,←h304]; first | exact congrArg _ k | (obtain ⟨k1,_⟩:=k; simp only [k1]; done) | simp only [k]); exact ⟨by rw [e0],rfl⟩)) (ap (Qz (e:=⟨false,27,[(jI (-1)),(jI 0)],[],(jL 4 Qa.cells x301),[]⟩) (f:=⟨false,27,[(jI 1),(jI 0)],[],(jL 4 Qa.cells x295),[]⟩) (fun k=>by simp only [jL,jS,jI,jB,jA,Qc.cells_eq,Qc.map_eq,Qb.cells_eq,Qb.map_eq,Qj.cells_eq,Qj.map_eq,Qd.cells_eq,Qd.map_eq,Qa.cells_eq,Qa.map_eq,Qh.cells_eq,Qh.map_eq,Key_.cells_eq,Key_.map_eq,Qr.cells_eq,Qr.map_eq,List.cons.injEq,AV.pl.injEq,PV.str.injEq,PV.int.injEq,PV.bool.injEq,PV.agg.injEq,PV.sl.injEq,and_true,true_and] at k; first | (exfalso; revert k; simp; done) | exact (have e0:x301=x295:=Option.some.inj (by rw [←h302,←h296]; first | exact congrArg _ k | (obtain ⟨k1,_⟩:=k; simp only [k1]; done) | simp only [k]); ⟨by rw [e0],rfl⟩))) (ap (Qci h279) (ap (Qar (Qh.mk 0 0 0 [(Qa.mk Qay Qao 2 0),(Qa.mk Qcp str_F 0 2)]) h290) (ap (Qbu 1 0 h296) (ap (f14_ok x188.2 x295 h298) (ap (Qbu (-1) 0 h302) (ap (f14_ok x192.2 x301 h304) (ap (Qbu 1 0 h296) (ap (f28_ok x3.1 12 13 3 x295 h310) an)))))))))))))))))))))))))))))))))) rfl
                     ·obtain rfl:=Qf h
                      exact rE Qi [([],[(2,.call (.tup [(.own 5),(jI x236.1)]) (jN 5 [jR 4 Qa.cells x236.2]))],[]),([],[jH 1 (.tup [(jS x240.1),(jI x240.2)])],[]),(jF [77,78,79]++jT [4,5,8,9,12,13,16,17,20,21,24,25,28,31,34,35,36,39,40,43,44,47,48,51,52,53,56,57,60,61,62,65,66,69,70,73,74],[jH 1 (jB x278),(6,.bool true),(10,.bool true),(14,.bool true),(18,.bool true),(22,.bool true),(26,.bool true),(29,.bool true),(32,.bool true),jH 35 (jI x289),(37,.bool true),(41,.bool true),(45,.bool true),(49,.bool true),jH 52 (jL 4 Qa.cells x295),jH 53 (jB x297),(54,.bool true),(58,.bool true),jH 61 (jL 4 Qa.cells x301),jH 62 (jB x303),(63,.bool true),(67,.bool true),(71,.bool true),(75,.bool true),(80,.bool false)],[])] [] [] [] [0] (.ret,(f7n0E (.ret false)).2) (ap (Ql.rn 5 [] (Qat 0 1 2 h237)) (ap (Ql.wk (args':=[(.pl (.agg [(.int .i64 0),(.int .i64 0),(.int .i64 0),(.sl .nil 0 [])]))]) (Qbb (Qh.mk 0 0 0 []) h241) (wlc (Wk.pl (WkP.agg (wpc (WkP.refl _) (wpc (WkP.refl _) (wpc (WkP.refl _) (wpc (WkP.nil (f:=.nil) (sz:=0) (sz':=4)) wpn)))))) wln) (Wk.refl _) rfl) (ap3 h280 (ap3 h281 (ap3 h282 (ap3 h283 (ap3 h284 (ap3 h285 (ap2 h286 (ap2 h287 (ap4 h288 (ap3 h291 (ap3 h292 (ap3 h293 (ap4 h294 (ap3 h299 (ap4 h300 (ap3 h305 (ap3 h306 (ap3 h307 (ap4 h308 (ap (Qz (e:=⟨false,27,[(jI 1),(jI 0)],[],(jL 4 Qa.cells x295),[]⟩) (f:=⟨false,27,[(jI (-1)),(jI 0)],[],(jL 4 Qa.cells x301),[]⟩) (fun k=>by simp only [jL,jS,jI,jB,jA,Qc.cells_eq,Qc.map_eq,Qb.cells_eq,Qb.map_eq,Qj.cells_eq,Qj.map_eq,Qd.cells_eq,Qd.map_eq,Qa.cells_eq,Qa.map_eq,Qh.cells_eq,Qh.map_eq,Key_.cells_eq,Key_.map_eq,Qr.cells_eq,Qr.map_eq,List.cons.injEq,AV.pl.injEq,PV.str.injEq,PV.int.injEq,PV.bool.injEq,PV.agg.injEq,PV.sl.injEq,and_true,true_and] at k; first | (exfalso; revert k; simp; done) | exact (have e0:x295=x301:=Option.some.inj (by rw [←h296,←h302]; first | exact congrArg _ k | (obtain ⟨k1,_⟩:=k; simp only [k1]; done) | simp only [k]); ⟨by rw [e0],rfl⟩))) (ap (Qz (e:=⟨false,14,[(jL 4 Qa.cells x188.2),(jL 4 Qa.cells x295)],[],(jB x297),[]⟩) (f:=⟨false,14,[(jL 4 Qa.cells x192.2),(jL 4 Qa.cells x301)],[],(jB x303),[]⟩) (fun k=>by simp only [jL,jS,jI,jB,jA,Qc.cells_eq,Qc.map_eq,Qb.cells_eq,Qb.map_eq,Qj.cells_eq,Qj.map_eq,Qd.cells_eq,Qd.map_eq,Qa.cells_eq,Qa.map_eq,Qh.cells_eq,Qh.map_eq,Key_.cells_eq,Key_.map_eq,Qr.cells_eq,Qr.map_eq,List.cons.injEq,AV.pl.injEq,PV.str.injEq,PV.int.injEq,PV.bool.injEq,PV.agg.injEq,PV.sl.injEq,and_true,true_and] at k; have e0:x297=x303:=Option.some.inj (by rw [←h298,←h304]; first | exact congrArg _ k | (obtain ⟨k1,_⟩:=k; simp only [k1]; done) | simp only [k]); exact ⟨by rw [e0],rfl⟩)) (ap (Qci h279) (ap (Qar (Qh.mk 0 0 0 [(Qa.mk Qay Qao 2 0),(Qa.mk Qcp str_F 0 2)]) h290) (ap (Qbu 1 0 h296) (ap (f14_ok x188.2 x295 h298) (ap (Qbu (-1) 0 h302) (ap (f14_ok x192.2 x301 h304) an))))))))))))))))))))))))))))) rfl
                    ·obtain rfl:=Qf h
                     exact rE Qi [([],[(2,.call (.tup [(.own 5),(jI x236.1)]) (jN 5 [jR 4 Qa.cells x236.2]))],[]),([],[jH 1 (.tup [(jS x240.1),(jI x240.2)])],[]),(jF [73,74]++jT [4,5,8,9,12,13,16,17,20,21,24,25,28,31,34,35,36,39,40,43,44,47,48,51,52,53,56,57,60,61,62,65,66,69,70],[jH 1 (jB x278),(6,.bool true),(10,.bool true),(14,.bool true),(18,.bool true),(22,.bool true),(26,.bool true),(29,.bool true),(32,.bool true),jH 35 (jI x289),(37,.bool true),(41,.bool true),(45,.bool true),(49,.bool true),jH 52 (jL 4 Qa.cells x295),jH 53 (jB x297),(54,.bool true),(58,.bool true),jH 61 (jL 4 Qa.cells x301),jH 62 (jB x303),(63,.bool true),(67,.bool true),(71,.bool true),(75,.bool false)],[])] [] [] [] [0] (.ret,(f7n0E (.ret false)).2) (ap (Ql.rn 5 [] (Qat 0 1 2 h237)) (ap (Ql.wk (args':=[(.pl (.agg [(.int .i64 0),(.int .i64 0),(.int .i64 0),(.sl .nil 0 [])]))]) (Qbb (Qh.mk 0 0 0 []) h241) (wlc (Wk.pl (WkP.agg (wpc (WkP.refl _) (wpc (WkP.refl _) (wpc (WkP.refl _) (wpc (WkP.nil (f:=.nil) (sz:=0) (sz':=4)) wpn)))))) wln) (Wk.refl _) rfl) (ap3 h280 (ap3 h281 (ap3 h282 (ap3 h283 (ap3 h284 (ap3 h285 (ap2 h286 (ap2 h287 (ap4 h288 (ap3 h291 (ap3 h292 (ap3 h293 (ap4 h294 (ap3 h299 (ap4 h300 (ap3 h305 (ap3 h306 (ap3 h307 (ap (Qz (e:=⟨false,27,[(jI 1),(jI 0)],[],(jL 4 Qa.cells x295),[]⟩) (f:=⟨false,27,[(jI (-1)),(jI 0)],[],(jL 4 Qa.cells x301),[]⟩) (fun k=>by simp only [jL,jS,jI,jB,jA,Qc.cells_eq,Qc.map_eq,Qb.cells_eq,Qb.map_eq,Qj.cells_eq,Qj.map_eq,Qd.cells_eq,Qd.map_eq,Qa.cells_eq,Qa.map_eq,Qh.cells_eq,Qh.map_eq,Key_.cells_eq,Key_.map_eq,Qr.cells_eq,Qr.map_eq,List.cons.injEq,AV.pl.injEq,PV.str.injEq,PV.int.injEq,PV.bool.injEq,PV.agg.injEq,PV.sl.injEq,and_true,true_and] at k; first | (exfalso; revert k; simp; done) | exact (have e0:x295=x301:=Option.some.inj (by rw [←h296,←h302]; first | exact congrArg _ k | (obtain ⟨k1,_⟩:=k; simp only [k1]; done) | simp only [k]); ⟨by rw [e0],rfl⟩))) (ap (Qz (e:=⟨false,14,[(jL 4 Qa.cells x188.2),(jL 4 Qa.cells x295)],[],(jB x297),[]⟩) (f:=⟨false,14,[(jL 4 Qa.cells x192.2),(jL 4 Qa.cells x301)],[],(jB x303),[]⟩) (fun k=>by simp only [jL,jS,jI,jB,jA,Qc.cells_eq,Qc.map_eq,Qb.cells_eq,Qb.map_eq,Qj.cells_eq,Qj.map_eq,Qd.cells_eq,Qd.map_eq,Qa.cells_eq,Qa.map_eq,Qh.cells_eq,Qh.map_eq,Key_.cells_eq,Key_.map_eq,Qr.cells_eq,Qr.map_eq,List.cons.injEq,AV.pl.injEq,PV.str.injEq,PV.int.injEq,PV.bool.injEq,PV.agg.injEq,PV.sl.injEq,and_true,true_and] at k; have e0:x297=x303:=Option.some.inj (by rw [←h298,←h304]; first | exact congrArg _ k | (obtain ⟨k1,_⟩:=k; simp only [k1]; done) | simp only [k]); exact ⟨by rw [e0],rfl⟩)) (ap (Qci h279) (ap (Qar (Qh.mk 0 0 0 [(Qa.mk Qay Qao 2 0),(Qa.mk Qcp str_F 0 2)]) h290) (ap (Qbu 1 0 h296) (ap (f14_ok x188.2 x295 h298) (ap (Qbu (-1) 0 h302) (ap (f14_ok x192.2 x301 h304) an)))))))))))))))))))))))))))) rfl
                   ·obtain rfl:=Qf h
                    exact rE Qi [([],[(2,.call (.tup [(.own 5),(jI x236.1)]) (jN 5 [jR 4 Qa.cells x236.2]))],[]),([],[jH 1 (.tup [(jS x240.1),(jI x240.2)])],[]),(jF [69,70]++jT [4,5,8,9,12,13,16,17,20,21,24,25,28,31,34,35,36,39,40,43,44,47,48,51,52,53,56,57,60,61,62,65,66],[jH 1 (jB x278),(6,.bool true),(10,.bool true),(14,.bool true),(18,.bool true),(22,.bool true),(26,.bool true),(29,.bool true),(32,.bool true),jH 35 (jI x289),(37,.bool true),(41,.bool true),(45,.bool true),(49,.bool true),jH 52 (jL 4 Qa.cells x295),jH 53 (jB x297),(54,.bool true),(58,.bool true),jH 61 (jL 4 Qa.cells x301),jH 62 (jB x303),(63,.bool true),(67,.bool true),(71,.bool false)],[])] [] [] [] [0] (.ret,(f7n0E (.ret false)).2) (ap (Ql.rn 5 [] (Qat 0 1 2 h237)) (ap (Ql.wk (args':=[(.pl (.agg [(.int .i64 0),(.int .i64 0),(.int .i64 0),(.sl .nil 0 [])]))]) (Qbb (Qh.mk 0 0 0 []) h241) (wlc (Wk.pl (WkP.agg (wpc (WkP.refl _) (wpc (WkP.refl _) (wpc (WkP.refl _) (wpc (WkP.nil (f:=.nil) (sz:=0) (sz':=4)) wpn)))))) wln) (Wk.refl _) rfl) (ap3 h280 (ap3 h281 (ap3 h282 (ap3 h283 (ap3 h284 (ap3 h285 (ap2 h286 (ap2 h287 (ap4 h288 (ap3 h291 (ap3 h292 (ap3 h293 (ap4 h294 (ap3 h299 (ap4 h300 (ap3 h305 (ap3 h306 (ap (Qz (e:=⟨false,27,[(jI 1),(jI 0)],[],(jL 4 Qa.cells x295),[]⟩) (f:=⟨false,27,[(jI (-1)),(jI 0)],[],(jL 4 Qa.cells x301),[]⟩) (fun k=>by simp only [jL,jS,jI,jB,jA,Qc.cells_eq,Qc.map_eq,Qb.cells_eq,Qb.map_eq,Qj.cells_eq,Qj.map_eq,Qd.cells_eq,Qd.map_eq,Qa.cells_eq,Qa.map_eq,Qh.cells_eq,Qh.map_eq,Key_.cells_eq,Key_.map_eq,Qr.cells_eq,Qr.map_eq,List.cons.injEq,AV.pl.injEq,PV.str.injEq,PV.int.injEq,PV.bool.injEq,PV.agg.injEq,PV.sl.injEq,and_true,true_and] at k; first | (exfalso; revert k; simp; done) | exact (have e0:x295=x301:=Option.some.inj (by rw [←h296,←h302]; first | exact congrArg _ k | (obtain ⟨k1,_⟩:=k; simp only [k1]; done) | simp only [k]); ⟨by rw [e0],rfl⟩))) (ap (Qz (e:=⟨false,14,[(jL 4 Qa.cells x188.2),(jL 4 Qa.cells x295)],[],(jB x297),[]⟩) (f:=⟨false,14,[(jL 4 Qa.cells x192.2),(jL 4 Qa.cells x301)],[],(jB x303),[]⟩) (fun k=>by simp only [jL,jS,jI,jB,jA,Qc.cells_eq,Qc.map_eq,Qb.cells_eq,Qb.map_eq,Qj.cells_eq,Qj.map_eq,Qd.cells_eq,Qd.map_eq,Qa.cells_eq,Qa.map_eq,Qh.cells_eq,Qh.map_eq,Key_.cells_eq,Key_.map_eq,Qr.cells_eq,Qr.map_eq,List.cons.injEq,AV.pl.injEq,PV.str.injEq,PV.int.injEq,PV.bool.injEq,PV.agg.injEq,PV.sl.injEq,and_true,true_and] at k; have e0:x297=x303:=Option.some.inj (by rw [←h298,←h304]; first | exact congrArg _ k | (obtain ⟨k1,_⟩:=k; simp only [k1]; done) | simp only [k]); exact ⟨by rw [e0],rfl⟩)) (ap (Qci h279) (ap (Qar (Qh.mk 0 0 0 [(Qa.mk Qay Qao 2 0),(Qa.mk Qcp str_F 0 2)]) h290) (ap (Qbu 1 0 h296) (ap (f14_ok x188.2 x295 h298) (ap (Qbu (-1) 0 h302) (ap (f14_ok x192.2 x301 h304) an))))))))))))))))))))))))))) rfl
                  ·obtain rfl:=Qf h
                   exact rE Qi [([],[(2,.call (.tup [(.own 5),(jI x236.1)]) (jN 5 [jR 4 Qa.cells x236.2]))],[]),([],[jH 1 (.tup [(jS x240.1),(jI x240.2)])],[]),(jF [65,66]++jT [4,5,8,9,12,13,16,17,20,21,24,25,28,31,34,35,36,39,40,43,44,47,48,51,52,53,56,57,60,61,62],[jH 1 (jB x278),(6,.bool true),(10,.bool true),(14,.bool true),(18,.bool true),(22,.bool true),(26,.bool true),(29,.bool true),(32,.bool true),jH 35 (jI x289),(37,.bool true),(41,.bool true),(45,.bool true),(49,.bool true),jH 52 (jL 4 Qa.cells x295),jH 53 (jB x297),(54,.bool true),(58,.bool true),jH 61 (jL 4 Qa.cells x301),jH 62 (jB x303),(63,.bool true),(67,.bool false)],[])] [] [] [] [0] (.ret,(f7n0E (.ret false)).2) (ap (Ql.rn 5 [] (Qat 0 1 2 h237)) (ap (Ql.wk (args':=[(.pl (.agg [(.int .i64 0),(.int .i64 0),(.int .i64 0),(.sl .nil 0 [])]))]) (Qbb (Qh.mk 0 0 0 []) h241) (wlc (Wk.pl (WkP.agg (wpc (WkP.refl _) (wpc (WkP.refl _) (wpc (WkP.refl _) (wpc (WkP.nil (f:=.nil) (sz:=0) (sz':=4)) wpn)))))) wln) (Wk.refl _) rfl) (ap3 h280 (ap3 h281 (ap3 h282 (ap3 h283 (ap3 h284 (ap3 h285 (ap2 h286 (ap2 h287 (ap4 h288 (ap3 h291 (ap3 h292 (ap3 h293 (ap4 h294 (ap3 h299 (ap4 h300 (ap3 h305 (ap (Qz (e:=⟨false,27,[(jI 1),(jI 0)],[],(jL 4 Qa.cells x295),[]⟩) (f:=⟨false,27,[(jI (-1)),(jI 0)],[],(jL 4 Qa.cells x301),[]⟩) (fun k=>by simp only [jL,jS,jI,jB,jA,Qc.cells_eq,Qc.map_eq,Qb.cells_eq,Qb.map_eq,Qj.cells_eq,Qj.map_eq,Qd.cells_eq,Qd.map_eq,Qa.cells_eq,Qa.map_eq,Qh.cells_eq,Qh.map_eq,Key_.cells_eq,Key_.map_eq,Qr.cells_eq,Qr.map_eq,List.cons.injEq,AV.pl.injEq,PV.str.injEq,PV.int.injEq,PV.bool.injEq,PV.agg.injEq,PV.sl.injEq,and_true,true_and] at k; first | (exfalso; revert k; simp; done) | exact (have e0:x295=x301:=Option.some.inj (by rw [←h296,←h302]; first | exact congrArg _ k | (obtain ⟨k1,_⟩:=k; simp only [k1]; done) | simp only [k]); ⟨by rw [e0],rfl⟩))) (ap (Qz (e:=⟨false,14,[(jL 4 Qa.cells x188.2),(jL 4 Qa.cells x295)],[],(jB x297),[]⟩) (f:=⟨false,14,[(jL 4 Qa.cells x192.2),(jL 4 Qa.cells x301)],[],(jB x303),[]⟩) (fun k=>by simp only [jL,jS,jI,jB,jA,Qc.cells_eq,Qc.map_eq,Qb.cells_eq,Qb.map_eq,Qj.cells_eq,Qj.map_eq,Qd.cells_eq,Qd.map_eq,Qa.cells_eq,Qa.map_eq,Qh.cells_eq,Qh.map_eq,Key_.cells_eq,Key_.map_eq,Qr.cells_eq,Qr.map_eq,List.cons.injEq,AV.pl.injEq,PV.str.injEq,PV.int.injEq,PV.bool.injEq,PV.agg.injEq,PV.sl.injEq,and_true,true_and] at k; have e0:x297=x303:=Option.some.inj (by rw [←h298,←h304]; first | exact congrArg _ k | (obtain ⟨k1,_⟩:=k; simp only [k1]; done) | simp only [k]); exact ⟨by rw [e0],rfl⟩)) (ap (Qci h279) (ap (Qar (Qh.mk 0 0 0 [(Qa.mk Qay Qao 2 0),(Qa.mk Qcp str_F 0 2)]) h290) (ap (Qbu 1 0 h296) (ap (f14_ok x188.2 x295 h298) (ap (Qbu (-1) 0 h302) (ap (f14_ok x192.2 x301 h304) an)))))))))))))))))))))))))) rfl
                 ·obtain rfl:=Qf h
                  exact rE Qi [([],[(2,.call (.tup [(.own 5),(jI x236.1)]) (jN 5 [jR 4 Qa.cells x236.2]))],[]),([],[jH 1 (.tup [(jS x240.1),(jI x240.2)])],[]),(jF [60,61,62]++jT [4,5,8,9,12,13,16,17,20,21,24,25,28,31,34,35,36,39,40,43,44,47,48,51,52,53,56,57],[jH 1 (jB x278),(6,.bool true),(10,.bool true),(14,.bool true),(18,.bool true),(22,.bool true),(26,.bool true),(29,.bool true),(32,.bool true),jH 35 (jI x289),(37,.bool true),(41,.bool true),(45,.bool true),(49,.bool true),jH 52 (jL 4 Qa.cells x295),jH 53 (jB x297),(54,.bool true),(58,.bool true),(63,.bool false)],[])] [] [] [] [0] (.ret,(f7n0E (.ret false)).2) (ap (Ql.rn 5 [] (Qat 0 1 2 h237)) (ap (Ql.wk (args':=[(.pl (.agg [(.int .i64 0),(.int .i64 0),(.int .i64 0),(.sl .nil 0 [])]))]) (Qbb (Qh.mk 0 0 0 []) h241) (wlc (Wk.pl (WkP.agg (wpc (WkP.refl _) (wpc (WkP.refl _) (wpc (WkP.refl _) (wpc (WkP.nil (f:=.nil) (sz:=0) (sz':=4)) wpn)))))) wln) (Wk.refl _) rfl) (ap3 h280 (ap3 h281 (ap3 h282 (ap3 h283 (ap3 h284 (ap3 h285 (ap2 h286 (ap2 h287 (ap4 h288 (ap3 h291 (ap3 h292 (ap3 h293 (ap4 h294 (ap3 h299 (ap4 h300 (ap (Qci h279) (ap (Qar (Qh.mk 0 0 0 [(Qa.mk Qay Qao 2 0),(Qa.mk Qcp str_F 0 2)]) h290) (ap (Qbu 1 0 h296) (ap (f14_ok x188.2 x295 h298) an))))))))))))))))))))) rfl
                ·obtain rfl:=Qf h
                 exact rE Qi [([],[(2,.call (.tup [(.own 5),(jI x236.1)]) (jN 5 [jR 4 Qa.cells x236.2]))],[]),([],[jH 1 (.tup [(jS x240.1),(jI x240.2)])],[]),(jF [56,57]++jT [4,5,8,9,12,13,16,17,20,21,24,25,28,31,34,35,36,39,40,43,44,47,48,51,52,53],[jH 1 (jB x278),(6,.bool true),(10,.bool true),(14,.bool true),(18,.bool true),(22,.bool true),(26,.bool true),(29,.bool true),(32,.bool true),jH 35 (jI x289),(37,.bool true),(41,.bool true),(45,.bool true),(49,.bool true),jH 52 (jL 4 Qa.cells x295),jH 53 (jB x297),(54,.bool true),(58,.bool false)],[])] [] [] [] [0] (.ret,(f7n0E (.ret false)).2) (ap (Ql.rn 5 [] (Qat 0 1 2 h237)) (ap (Ql.wk (args':=[(.pl (.agg [(.int .i64 0),(.int .i64 0),(.int .i64 0),(.sl .nil 0 [])]))]) (Qbb (Qh.mk 0 0 0 []) h241) (wlc (Wk.pl (WkP.agg (wpc (WkP.refl _) (wpc (WkP.refl _) (wpc (WkP.refl _) (wpc (WkP.nil (f:=.nil) (sz:=0) (sz':=4)) wpn)))))) wln) (Wk.refl _) rfl) (ap3 h280 (ap3 h281 (ap3 h282 (ap3 h283 (ap3 h284 (ap3 h285 (ap2 h286 (ap2 h287 (ap4 h288 (ap3 h291 (ap3 h292 (ap3 h293 (ap4 h294 (ap3 h299 (ap (Qci h279) (ap (Qar (Qh.mk 0 0 0 [(Qa.mk Qay Qao 2 0),(Qa.mk Qcp str_F 0 2)]) h290) (ap (Qbu 1 0 h296) (ap (f14_ok x188.2 x295 h298) an)))))))))))))))))))) rfl
               ·obtain rfl:=Qf h
                exact rE Qi [([],[(2,.call (.tup [(.own 5),(jI x236.1)]) (jN 5 [jR 4 Qa.cells x236.2]))],[]),([],[jH 1 (.tup [(jS x240.1),(jI x240.2)])],[]),(jF [51,52,53]++jT [4,5,8,9,12,13,16,17,20,21,24,25,28,31,34,35,36,39,40,43,44,47,48],[jH 1 (jB x278),(6,.bool true),(10,.bool true),(14,.bool true),(18,.bool true),(22,.bool true),(26,.bool true),(29,.bool true),(32,.bool true),jH 35 (jI x289),(37,.bool true),(41,.bool true),(45,.bool true),(49,.bool true),(54,.bool false)],[])] [] [] [] [0] (.ret,(f7n0E (.ret false)).2) (ap (Ql.rn 5 [] (Qat 0 1 2 h237)) (ap (Ql.wk (args':=[(.pl (.agg [(.int .i64 0),(.int .i64 0),(.int .i64 0),(.sl .nil 0 [])]))]) (Qbb (Qh.mk 0 0 0 []) h241) (wlc (Wk.pl (WkP.agg (wpc (WkP.refl _) (wpc (WkP.refl _) (wpc (WkP.refl _) (wpc (WkP.nil (f:=.nil) (sz:=0) (sz':=4)) wpn)))))) wln) (Wk.refl _) rfl) (ap3 h280 (ap3 h281 (ap3 h282 (ap3 h283 (ap3 h284 (ap3 h285 (ap2 h286 (ap2 h287 (ap4 h288 (ap3 h291 (ap3 h292 (ap3 h293 (ap4 h294 (ap (Qci h279) (ap (Qar (Qh.mk 0 0 0 [(Qa.mk Qay Qao 2 0),(Qa.mk Qcp str_F 0 2)]) h290) an))))))))))))))))) rfl
              ·obtain rfl:=Qf h
               exact rE Qi [([],[(2,.call (.tup [(.own 5),(jI x236.1)]) (jN 5 [jR 4 Qa.cells x236.2]))],[]),([],[jH 1 (.tup [(jS x240.1),(jI x240.2)])],[]),(jF [47,48]++jT [4,5,8,9,12,13,16,17,20,21,24,25,28,31,34,35,36,39,40,43,44],[jH 1 (jB x278),(6,.bool true),(10,.bool true),(14,.bool true),(18,.bool true),(22,.bool true),(26,.bool true),(29,.bool true),(32,.bool true),jH 35 (jI x289),(37,.bool true),(41,.bool true),(45,.bool true),(49,.bool false)],[])] [] [] [] [0] (.ret,(f7n0E (.ret false)).2) (ap (Ql.rn 5 [] (Qat 0 1 2 h237)) (ap (Ql.wk (args':=[(.pl (.agg [(.int .i64 0),(.int .i64 0),(.int .i64 0),(.sl .nil 0 [])]))]) (Qbb (Qh.mk 0 0 0 []) h241) (wlc (Wk.pl (WkP.agg (wpc (WkP.refl _) (wpc (WkP.refl _) (wpc (WkP.refl _) (wpc (WkP.nil (f:=.nil) (sz:=0) (sz':=4)) wpn)))))) wln) (Wk.refl _) rfl) (ap3 h280 (ap3 h281 (ap3 h282 (ap3 h283 (ap3 h284 (ap3 h285 (ap2 h286 (ap2 h287 (ap4 h288 (ap3 h291 (ap3 h292 (ap3 h293 (ap (Qci h279) (ap (Qar (Qh.mk 0 0 0 [(Qa.mk Qay Qao 2 0),(Qa.mk Qcp str_F 0 2)]) h290) an)))))))))))))))) rfl
             ·obtain rfl:=Qf h
              exact rE Qi [([],[(2,.call (.tup [(.own 5),(jI x236.1)]) (jN 5 [jR 4 Qa.cells x236.2]))],[]),([],[jH 1 (.tup [(jS x240.1),(jI x240.2)])],[]),(jF [43,44]++jT [4,5,8,9,12,13,16,17,20,21,24,25,28,31,34,35,36,39,40],[jH 1 (jB x278),(6,.bool true),(10,.bool true),(14,.bool true),(18,.bool true),(22,.bool true),(26,.bool true),(29,.bool true),(32,.bool true),jH 35 (jI x289),(37,.bool true),(41,.bool true),(45,.bool false)],[])] [] [] [] [0] (.ret,(f7n0E (.ret false)).2) (ap (Ql.rn 5 [] (Qat 0 1 2 h237)) (ap (Ql.wk (args':=[(.pl (.agg [(.int .i64 0),(.int .i64 0),(.int .i64 0),(.sl .nil 0 [])]))]) (Qbb (Qh.mk 0 0 0 []) h241) (wlc (Wk.pl (WkP.agg (wpc (WkP.refl _) (wpc (WkP.refl _) (wpc (WkP.refl _) (wpc (WkP.nil (f:=.nil) (sz:=0) (sz':=4)) wpn)))))) wln) (Wk.refl _) rfl) (ap3 h280 (ap3 h281 (ap3 h282 (ap3 h283 (ap3 h284 (ap3 h285 (ap2 h286 (ap2 h287 (ap4 h288 (ap3 h291 (ap3 h292 (ap (Qci h279) (ap (Qar (Qh.mk 0 0 0 [(Qa.mk Qay Qao 2 0),(Qa.mk Qcp str_F 0 2)]) h290) an))))))))))))))) rfl
            ·obtain rfl:=Qf h
             exact rE Qi [([],[(2,.call (.tup [(.own 5),(jI x236.1)]) (jN 5 [jR 4 Qa.cells x236.2]))],[]),([],[jH 1 (.tup [(jS x240.1),(jI x240.2)])],[]),(jF [39,40]++jT [4,5,8,9,12,13,16,17,20,21,24,25,28,31,34,35,36],[jH 1 (jB x278),(6,.bool true),(10,.bool true),(14,.bool true),(18,.bool true),(22,.bool true),(26,.bool true),(29,.bool true),(32,.bool true),jH 35 (jI x289),(37,.bool true),(41,.bool false)],[])] [] [] [] [0] (.ret,(f7n0E (.ret false)).2) (ap (Ql.rn 5 [] (Qat 0 1 2 h237)) (ap (Ql.wk (args':=[(.pl (.agg [(.int .i64 0),(.int .i64 0),(.int .i64 0),(.sl .nil 0 [])]))]) (Qbb (Qh.mk 0 0 0 []) h241) (wlc (Wk.pl (WkP.agg (wpc (WkP.refl _) (wpc (WkP.refl _) (wpc (WkP.refl _) (wpc (WkP.nil (f:=.nil) (sz:=0) (sz':=4)) wpn)))))) wln) (Wk.refl _) rfl) (ap3 h280 (ap3 h281 (ap3 h282 (ap3 h283 (ap3 h284 (ap3 h285 (ap2 h286 (ap2 h287 (ap4 h288 (ap3 h291 (ap (Qci h279) (ap (Qar (Qh.mk 0 0 0 [(Qa.mk Qay Qao 2 0),(Qa.mk Qcp str_F 0 2)]) h290) an)))))))))))))) rfl
           ·obtain rfl:=Qf h
            exact rE Qi [([],[(2,.call (.tup [(.own 5),(jI x236.1)]) (jN 5 [jR 4 Qa.cells x236.2]))],[]),([],[jH 1 (.tup [(jS x240.1),(jI x240.2)])],[]),(jF [34,35,36]++jT [4,5,8,9,12,13,16,17,20,21,24,25,28,31],[jH 1 (jB x278),(6,.bool true),(10,.bool true),(14,.bool true),(18,.bool true),(22,.bool true),(26,.bool true),(29,.bool true),(32,.bool true),(37,.bool false)],[])] [] [] [] [0] (.ret,(f7n0E (.ret false)).2) (ap (Ql.rn 5 [] (Qat 0 1 2 h237)) (ap (Ql.wk (args':=[(.pl (.agg [(.int .i64 0),(.int .i64 0),(.int .i64 0),(.sl .nil 0 [])]))]) (Qbb (Qh.mk 0 0 0 []) h241) (wlc (Wk.pl (WkP.agg (wpc (WkP.refl _) (wpc (WkP.refl _) (wpc (WkP.refl _) (wpc (WkP.nil (f:=.nil) (sz:=0) (sz':=4)) wpn)))))) wln) (Wk.refl _) rfl) (ap3 h280 (ap3 h281 (ap3 h282 (ap3 h283 (ap3 h284 (ap3 h285 (ap2 h286 (ap2 h287 (ap4 h288 (ap (Qci h279) an)))))))))))) rfl
          ·obtain rfl:=Qf h;exact rE Qi [([],[(2,.call (.tup [(.own 5),(jI x236.1)]) (jN 5 [jR 4 Qa.cells x236.2]))],[]),([],[jH 1 (.tup [(jS x240.1),(jI x240.2)])],[]),(jF [31]++jT [4,5,8,9,12,13,16,17,20,21,24,25,28],[jH 1 (jB x278),(6,.bool true),(10,.bool true),(14,.bool true),(18,.bool true),(22,.bool true),(26,.bool true),(29,.bool true),(32,.bool false)],[])] [] [] [] [0] (.ret,(f7n0E (.ret false)).2) (ap (Ql.rn 5 [] (Qat 0 1 2 h237)) (ap (Ql.wk (args':=[(.pl (.agg [(.int .i64 0),(.int .i64 0),(.int .i64 0),(.sl .nil 0 [])]))]) (Qbb (Qh.mk 0 0 0 []) h241) (wlc (Wk.pl (WkP.agg (wpc (WkP.refl _) (wpc (WkP.refl _) (wpc (WkP.refl _) (wpc (WkP.nil (f:=.nil) (sz:=0) (sz':=4)) wpn)))))) wln) (Wk.refl _) rfl) (ap3 h280 (ap3 h281 (ap3 h282 (ap3 h283 (ap3 h284 (ap3 h285 (ap2 h286 (ap2 h287 (ap (Qci h279) an))))))))))) rfl
         ·obtain rfl:=Qf h;exact rE Qi [([],[(2,.call (.tup [(.own 5),(jI x236.1)]) (jN 5 [jR 4 Qa.cells x236.2]))],[]),([],[jH 1 (.tup [(jS x240.1),(jI x240.2)])],[]),(jF [28]++jT [4,5,8,9,12,13,16,17,20,21,24,25],[jH 1 (jB x278),(6,.bool true),(10,.bool true),(14,.bool true),(18,.bool true),(22,.bool true),(26,.bool true),(29,.bool false)],[])] [] [] [] [0] (.ret,(f7n0E (.ret false)).2) (ap (Ql.rn 5 [] (Qat 0 1 2 h237)) (ap (Ql.wk (args':=[(.pl (.agg [(.int .i64 0),(.int .i64 0),(.int .i64 0),(.sl .nil 0 [])]))]) (Qbb (Qh.mk 0 0 0 []) h241) (wlc (Wk.pl (WkP.agg (wpc (WkP.refl _) (wpc (WkP.refl _) (wpc (WkP.refl _) (wpc (WkP.nil (f:=.nil) (sz:=0) (sz':=4)) wpn)))))) wln) (Wk.refl _) rfl) (ap3 h280 (ap3 h281 (ap3 h282 (ap3 h283 (ap3 h284 (ap3 h285 (ap2 h286 (ap (Qci h279) an)))))))))) rfl
        ·obtain rfl:=Qf h;exact rE Qi [([],[(2,.call (.tup [(.own 5),(jI x236.1)]) (jN 5 [jR 4 Qa.cells x236.2]))],[]),([],[jH 1 (.tup [(jS x240.1),(jI x240.2)])],[]),(jF [24,25]++jT [4,5,8,9,12,13,16,17,20,21],[jH 1 (jB x278),(6,.bool true),(10,.bool true),(14,.bool true),(18,.bool true),(22,.bool true),(26,.bool false)],[])] [] [] [] [0] (.ret,(f7n0E (.ret false)).2) (ap (Ql.rn 5 [] (Qat 0 1 2 h237)) (ap (Ql.wk (args':=[(.pl (.agg [(.int .i64 0),(.int .i64 0),(.int .i64 0),(.sl .nil 0 [])]))]) (Qbb (Qh.mk 0 0 0 []) h241) (wlc (Wk.pl (WkP.agg (wpc (WkP.refl _) (wpc (WkP.refl _) (wpc (WkP.refl _) (wpc (WkP.nil (f:=.nil) (sz:=0) (sz':=4)) wpn)))))) wln) (Wk.refl _) rfl) (ap3 h280 (ap3 h281 (ap3 h282 (ap3 h283 (ap3 h284 (ap3 h285 (ap (Qci h279) an))))))))) rfl
       ·obtain rfl:=Qf h;exact rE Qi [([],[(2,.call (.tup [(.own 5),(jI x236.1)]) (jN 5 [jR 4 Qa.cells x236.2]))],[]),([],[jH 1 (.tup [(jS x240.1),(jI x240.2)])],[]),(jF [20,21]++jT [4,5,8,9,12,13,16,17],[jH 1 (jB x278),(6,.bool true),(10,.bool true),(14,.bool true),(18,.bool true),(22,.bool false)],[])] [] [] [] [0] (.ret,(f7n0E (.ret false)).2) (ap (Ql.rn 5 [] (Qat 0 1 2 h237)) (ap (Ql.wk (args':=[(.pl (.agg [(.int .i64 0),(.int .i64 0),(.int .i64 0),(.sl .nil 0 [])]))]) (Qbb (Qh.mk 0 0 0 []) h241) (wlc (Wk.pl (WkP.agg (wpc (WkP.refl _) (wpc (WkP.refl _) (wpc (WkP.refl _) (wpc (WkP.nil (f:=.nil) (sz:=0) (sz':=4)) wpn)))))) wln) (Wk.refl _) rfl) (ap3 h280 (ap3 h281 (ap3 h282 (ap3 h283 (ap3 h284 (ap (Qci h279) an)))))))) rfl
      ·obtain rfl:=Qf h;exact rE Qi [([],[(2,.call (.tup [(.own 5),(jI x236.1)]) (jN 5 [jR 4 Qa.cells x236.2]))],[]),([],[jH 1 (.tup [(jS x240.1),(jI x240.2)])],[]),(jF [16,17]++jT [4,5,8,9,12,13],[jH 1 (jB x278),(6,.bool true),(10,.bool true),(14,.bool true),(18,.bool false)],[])] [] [] [] [0] (.ret,(f7n0E (.ret false)).2) (ap (Ql.rn 5 [] (Qat 0 1 2 h237)) (ap (Ql.wk (args':=[(.pl (.agg [(.int .i64 0),(.int .i64 0),(.int .i64 0),(.sl .nil 0 [])]))]) (Qbb (Qh.mk 0 0 0 []) h241) (wlc (Wk.pl (WkP.agg (wpc (WkP.refl _) (wpc (WkP.refl _) (wpc (WkP.refl _) (wpc (WkP.nil (f:=.nil) (sz:=0) (sz':=4)) wpn)))))) wln) (Wk.refl _) rfl) (ap3 h280 (ap3 h281 (ap3 h282 (ap3 h283 (ap (Qci h279) an))))))) rfl
     ·obtain rfl:=Qf h;exact rE Qi [([],[(2,.call (.tup [(.own 5),(jI x236.1)]) (jN 5 [jR 4 Qa.cells x236.2]))],[]),([],[jH 1 (.tup [(jS x240.1),(jI x240.2)])],[]),(jF [12,13]++jT [4,5,8,9],[jH 1 (jB x278),(6,.bool true),(10,.bool true),(14,.bool false)],[])] [] [] [] [0] (.ret,(f7n0E (.ret false)).2) (ap (Ql.rn 5 [] (Qat 0 1 2 h237)) (ap (Ql.wk (args':=[(.pl (.agg [(.int .i64 0),(.int .i64 0),(.int .i64 0),(.sl .nil 0 [])]))]) (Qbb (Qh.mk 0 0 0 []) h241) (wlc (Wk.pl (WkP.agg (wpc (WkP.refl _) (wpc (WkP.refl _) (wpc (WkP.refl _) (wpc (WkP.nil (f:=.nil) (sz:=0) (sz':=4)) wpn)))))) wln) (Wk.refl _) rfl) (ap3 h280 (ap3 h281 (ap3 h282 (ap (Qci h279) an)))))) rfl
    ·obtain rfl:=Qf h;exact rE Qi [([],[(2,.call (.tup [(.own 5),(jI x236.1)]) (jN 5 [jR 4 Qa.cells x236.2]))],[]),([],[jH 1 (.tup [(jS x240.1),(jI x240.2)])],[]),(jF [8,9]++jT [4,5],[jH 1 (jB x278),(6,.bool true),(10,.bool false)],[])] [] [] [] [0] (.ret,(f7n0E (.ret false)).2) (ap (Ql.rn 5 [] (Qat 0 1 2 h237)) (ap (Ql.wk (args':=[(.pl (.agg [(.int .i64 0),(.int .i64 0),(.int .i64 0),(.sl .nil 0 [])]))]) (Qbb (Qh.mk 0 0 0 []) h241) (wlc (Wk.pl (WkP.agg (wpc (WkP.refl _) (wpc (WkP.refl _) (wpc (WkP.refl _) (wpc (WkP.nil (f:=.nil) (sz:=0) (sz':=4)) wpn)))))) wln) (Wk.refl _) rfl) (ap3 h280 (ap3 h281 (ap (Qci h279) an))))) rfl
   ·obtain rfl:=Qf h;exact rE Qi [([],[(2,.call (.tup [(.own 5),(jI x236.1)]) (jN 5 [jR 4 Qa.cells x236.2]))],[]),([],[jH 1 (.tup [(jS x240.1),(jI x240.2)])],[]),([(4,false),(5,false)],[jH 1 (jB x278),(6,.bool false)],[])] [] [] [] [0] (.ret,(f7n0E (.ret false)).2) (ap (Ql.rn 5 [] (Qat 0 1 2 h237)) (ap (Ql.wk (args':=[(.pl (.agg [(.int .i64 0),(.int .i64 0),(.int .i64 0),(.sl .nil 0 [])]))]) (Qbb (Qh.mk 0 0 0 []) h241) (wlc (Wk.pl (WkP.agg (wpc (WkP.refl _) (wpc (WkP.refl _) (wpc (WkP.refl _) (wpc (WkP.nil (f:=.nil) (sz:=0) (sz':=4)) wpn)))))) wln) (Wk.refl _) rfl) (ap3 h280 (ap (Qci h279) an)))) rfl
noncomputable def f7:Option Bool:=f7n0.bind fun o=>match o with
 | .ret v314=>some v314
theorem f7_ok{r:Bool}(h:f7=some r):Ql Tryd.prog false 7 [] [] (jB r) []:=by
 unfold f7 at h;obtain ⟨o,ho,h⟩:=Qe h;cases o with
 | ret v314 =>
  obtain rfl:=Qf h;exact Ql.plain Qi (f:=Tryd.f7) (c:=c7) (by kernel_rfl) (by kernel_rfl) (by kernel_rfl) (by kernel_rfl) ((f7n0_ok  ho).mono fun r e=>by subst e; exact ⟨.inl rfl,(jB v314),(jB v314),by kernel_rfl,by kernel_rfl,((Wk.refl _):Wk (jB v314) (jB v314))⟩)
end Go.Proofs.YtfeklaffeigilaaDoor
namespace Go.Proofs.YtfeklaffeigilaaDoor
set_option linter.unusedVariables false
set_option linter.unusedSimpArgs false
open Go.RowKit
abbrev RW:=Qa
abbrev KY:=Key_


def rwC(a b:RW):Int:=cmpOr (cmpB a.Account b.Account) (cmpB a.Ccy b.Ccy)
theorem rwC_cmp:Cmp rwC:=(Cmp.str Qa.Account).lex (Cmp.str Qa.Ccy)
abbrev ltR:RW→RW→Bool:=fun x y=>decide (rwC x y<0)
theorem swoR:SWo ltR:=rwC_cmp.swo
theorem cmpOr_zero{a b:Int} : cmpOr a b=0↔a=0∧b=0:=by
 unfold cmpOr
 by_cases h:a=0
 ·rw [decide_eq_true h]; simp [h]
 ·rw [decide_eq_false h]; simp [h]
theorem rwC_zero{a b:RW} : rwC a b=0↔a.Account=b.Account∧a.Ccy=b.Ccy:=by
 unfold rwC;rw [cmpOr_zero,cmpB_zero,cmpB_zero]
abbrev sameR(a b:RW):Prop:=a.Account=b.Account∧a.Ccy=b.Ccy
theorem lt_same_l{a b c:RW}(h:sameR a b):ltR a c=ltR b c:=by unfold ltR rwC; rw [h.1,h.2]
theorem lt_same_r{a b c:RW}(h:sameR a b):ltR c a=ltR c b:=by unfold ltR rwC; rw [h.1,h.2]
theorem lt_irr_same{a b:RW}(h:sameR a b):ltR a b=false:=by rw [lt_same_l h]; exact swoR.irr b
theorem lt_tot{a b:RW}(h:ltR a b=false)(k:ltR b a=false):sameR a b:=by
 exact rwC_zero.1 (rwC_cmp.tot (of_decide_eq_false h) (of_decide_eq_false k))

def addR(x y:RW):RW:=⟨x.Account,x.Ccy,wr64 (x.In+y.In),wr64 (x.Out+y.Out)⟩
def withR:List RW→RW→List RW
 | [],x=>[x]
 | y::r,x=>bif ltR y x then y::withR r x else bif ltR x y then x::y::r else addR x y::r
abbrev RwS(l:List RW):Prop:=l.Pairwise fun x y=>ltR x y=true
def getR(l:List RW)(x:RW):RW:=match l.find? (fun y=>!(ltR x y)&&!(ltR y x)) with | some y=>addR x y | none=>x
theorem with_mem{x:RW} : ∀{l:List RW},RwS l→∀z,z∈withR l x↔(z∈l∧¬sameR z x)∨z=getR l x
 | [],_,z=>by simp [withR,getR]
 | y::r,h,z=>by
  have h':=List.pairwise_cons.1 h;have ih:=with_mem (x:=x) h'.2 z;rw [withR];cases h1:ltR y x with
  | true =>
   have hns:¬sameR y x:=fun e=>by rw [lt_irr_same e] at h1; cases h1
   have hg:getR (y::r) x=getR r x:=by
    unfold getR;rw [List.find?_cons,h1,Bool.not_true,Bool.and_false]
   rw [cond_true,List.mem_cons,ih,hg,List.mem_cons]
   constructor
   ·rintro (rfl | ⟨k1,k2⟩ | k)
    ·exact .inl ⟨.inl rfl,hns⟩
    ·exact .inl ⟨.inr k1,k2⟩
    ·exact .inr k
   ·rintro (⟨rfl | k1,k2⟩ | k)
    ·exact .inl rfl
    ·exact .inr (.inl ⟨k1,k2⟩)
    ·exact .inr (.inr k)
  | false =>
   rw [cond_false];cases h2:ltR x y with
   | true =>
    have hr:∀w∈y::r,ltR x w=true:=fun w hw=>by
     rcases List.mem_cons.1 hw with rfl | hw
     ·exact h2
     ·exact swoR.tr h2 (h'.1 w hw)
    have hg:getR (y::r) x=x:=by
     unfold getR;rw [List.find?_eq_none.2 fun w hw=>by rw [hr w hw]; simp]
    rw [cond_true,List.mem_cons,hg]
    constructor
    ·rintro (k | k)
     ·exact .inr k
     ·refine .inl ⟨k,fun e=>?_⟩;have:=hr z k;rw [lt_irr_same ⟨e.1.symm,e.2.symm⟩] at this; cases this
    ·rintro (⟨k,_⟩ | k)
     ·exact .inr k
     ·exact .inl k
   | false =>
    have hs:=lt_tot h1 h2;have hg:getR (y::r) x=addR x y:=by
     unfold getR;rw [List.find?_cons,h1,h2]; rfl
    have hr:∀w∈r,¬sameR w x:=fun w hw e=>by
     have:=h'.1 w hw;rw [lt_same_r e,lt_irr_same hs] at this; cases this
    rw [cond_false,List.mem_cons,hg,List.mem_cons]
    constructor
    ·rintro (k | k)
     ·exact .inr k
     ·exact .inl ⟨.inr k,hr z k⟩
    ·rintro (⟨rfl | k,k2⟩ | k)
     ·exact absurd hs k2
     ·exact .inr k
     ·exact .inl k
theorem add_same(x y:RW):sameR (addR x y) x:=⟨rfl,rfl⟩
theorem with_sr{x:RW} : ∀{l:List RW},RwS l→RwS (withR l x)
 | [],_=>by simp [withR]
 | y::r,h=>by
  have h':=List.pairwise_cons.1 h;rw [withR];cases h1:ltR y x with
  | true =>
   refine List.pairwise_cons.2 ⟨fun z hz=>?_,with_sr h'.2⟩;rcases (with_mem h'.2 z).1 hz with ⟨k,_⟩ | k
   ·exact h'.1 z k
   ·have hs:sameR z x:=by
     rw [k];unfold getR
     split
     ·exact add_same _ _
     ·exact ⟨rfl,rfl⟩
    rw [lt_same_r hs]; exact h1
  | false =>
   rw [cond_false];cases h2:ltR x y with
   | true =>
    refine List.pairwise_cons.2 ⟨fun z hz=>?_,h⟩;rcases List.mem_cons.1 hz with rfl | hz
    ·exact h2
    ·exact swoR.tr h2 (h'.1 z hz)
   | false =>
    have hs:=lt_tot h1 h2;refine List.pairwise_cons.2 ⟨fun z hz=>?_,h'.2⟩;rw [lt_same_l (add_same x y),←lt_same_l hs];exact h'.1 z hz

abbrev TB_:=List (KY×RW)
theorem keq_iff(a b:KY):Key_.eqb a b=true↔a=b:=by
 cases a; cases b;unfold Key_.eqb;simp only [Bool.and_eq_true,seq_iff,Key_.mk.injEq]
def zR:RW:=⟨⟨#[]⟩,⟨#[]⟩,0,0⟩
def kyR(x:RW):KY:=⟨x.Account,x.Ccy⟩
def addT(m:TB_)(x:RW):TB_:=mPut Key_.eqb (kyR x) ⟨x.Account,x.Ccy,wr64 ((mGet Key_.eqb zR (kyR x) m).In+x.In),wr64 ((mGet Key_.eqb zR (kyR x) m).Out+x.Out)⟩ m
theorem mput_iff{K V:Type}{E:K→K→Bool}(hE:∀a b,E a b=true↔a=b){k:K}{v:V} : ∀{m:List (K×V)},ndK m→∀x,x∈mPut E k v m↔x=(k,v)∨(x∈m∧x.1≠k)
 | [],_,x=>by simp [mPut]
 | (a,w)::r,h,x=>by
  have h':=List.pairwise_cons.1 h;rw [mPut];cases hk:E k a with
  | true =>
   have:=(hE _ _).1 hk; subst this;rw [cond_true,List.mem_cons,List.mem_cons]
   constructor
   ·rintro (e | e)
    ·exact .inl e
    ·exact .inr ⟨.inr e,fun k'=>h'.1 x e k'.symm⟩
   ·rintro (e | ⟨e | e,k'⟩)
    ·exact .inl e
    ·rw [e] at k'; exact absurd rfl k'
    ·exact .inr e
  | false =>
   have hne:a≠k:=fun e=>by rw [e,eRefl hE] at hk; cases hk
   rw [cond_false,List.mem_cons,List.mem_cons,mput_iff hE h'.2 x]
   constructor
   ·rintro (e | e | ⟨e,k'⟩)
    ·exact .inr ⟨.inl e,by rw [e]; exact hne⟩
    ·exact .inl e
    ·exact .inr ⟨.inr e,k'⟩
   ·rintro (e | ⟨e | e,k'⟩)
    ·exact .inr (.inl e)
    ·exact .inl e
    ·exact .inr (.inr ⟨e,k'⟩)
structure TR (m:TB_) (l:List RW):Prop where
 nd:ndK m
 key:∀x∈m,x.1=kyR x.2
 sr:RwS l
 rng:∀z∈l,-9223372036854775808≤z.In∧z.In≤9223372036854775807∧-9223372036854775808≤z.Out∧z.Out≤9223372036854775807
 mem:∀z,z∈l↔∃k,(k,z)∈m
theorem TR.nil:TR [] []:=⟨by simp,by simp,by simp,by simp,by simp⟩
theorem ky_same{x y:RW} : kyR x=kyR y↔sameR x y:=by
 unfold kyR; rw [Key_.mk.injEq]
theorem wr_id0{n:Int}(h1:-9223372036854775808≤n)(h2:n≤9223372036854775807):wr64 (0+n)=n:=by rw [Int.zero_add]; exact wrIn h1 h2
theorem wr_rng(n:Int) : -9223372036854775808≤wr64 n∧wr64 n≤9223372036854775807:=by
 show -9223372036854775808≤IntKind.i64.wrap n∧IntKind.i64.wrap n≤9223372036854775807;rw [IntKind.wrap_i64]; omega
theorem get_add{m:TB_}{l:List RW}(T:TR m l){x:RW}(h1:-9223372036854775808≤x.In∧x.In≤9223372036854775807)(h2:-9223372036854775808≤x.Out∧x.Out≤9223372036854775807) :
  (⟨x.Account,x.Ccy,wr64 ((mGet Key_.eqb zR (kyR x) m).In+x.In),wr64 ((mGet Key_.eqb zR (kyR x) m).Out+x.Out)⟩:RW)=getR l x:=by
 unfold getR;cases h:l.find? (fun y=>!(ltR x y)&&!(ltR y x)) with
 | none =>
  have hn:mGet Key_.eqb zR (kyR x) m=zR:=mgetNone keq_iff fun q hq e=>by
   have hz:=(T.mem q.2).2 ⟨q.1,hq⟩;have:=List.find?_eq_none.1 h q.2 hz;have hs:sameR q.2 x:=ky_same.1 (by rw [←T.key q hq,e]);rw [lt_irr_same hs,lt_irr_same ⟨hs.1.symm,hs.2.symm⟩] at this;exact this rfl
  rw [hn];show (⟨x.Account,x.Ccy,wr64 (0+x.In),wr64 (0+x.Out)⟩:RW)=x;rw [wr_id0 h1.1 h1.2,wr_id0 h2.1 h2.2]
 | some y =>
  have hy:=List.mem_of_find?_eq_some h;have hp:=List.find?_some h;simp only [Bool.and_eq_true,Bool.not_eq_true'] at hp;have hs:=lt_tot hp.1 hp.2;obtain ⟨k,hk⟩:=(T.mem y).1 hy;have hkk:k=kyR x:=by
   have:=T.key _ hk;rw [show k=kyR y from this];exact ky_same.2 ⟨hs.1.symm,hs.2.symm⟩
  have:mGet Key_.eqb zR (kyR x) m=y:=mgetMem keq_iff T.nd (by rw [←hkk]; exact hk);rw [this];unfold addR;rw [Int.add_comm y.In,Int.add_comm y.Out]
theorem TR.add{m:TB_}{l:List RW}(T:TR m l){x:RW}(h1:-9223372036854775808≤x.In∧x.In≤9223372036854775807)(h2:-9223372036854775808≤x.Out∧x.Out≤9223372036854775807):TR (addT m x) (withR l x):=by
 have hg:=get_add T h1 h2;have hmem:∀q,q∈addT m x↔q=(kyR x,getR l x)∨(q∈m∧q.1≠kyR x):=fun q=>by
  unfold addT;rw [mput_iff keq_iff T.nd,hg]
 have hsame:sameR (getR l x) x:=by
  unfold getR
  split
  ·exact add_same _ _
  ·exact ⟨rfl,rfl⟩
 refine ⟨mputNd keq_iff T.nd,fun q hq=>?_,with_sr T.sr,fun z hz=>?_,fun z=>?_⟩
 ·rcases (hmem q).1 hq with rfl | ⟨k,_⟩
  ·exact ky_same.2 ⟨hsame.1.symm,hsame.2.symm⟩
  ·exact T.key q k
 ·rcases (with_mem T.sr z).1 hz with ⟨k,_⟩ | rfl
  ·exact T.rng z k
  ·rw [←hg];have a1:=wr_rng ((mGet Key_.eqb zR (kyR x) m).In+x.In);have a2:=wr_rng ((mGet Key_.eqb zR (kyR x) m).Out+x.Out);exact ⟨a1.1,a1.2,a2.1,a2.2⟩
 ·rw [with_mem T.sr]
  constructor
  ·rintro (⟨k1,k2⟩ | rfl)
   ·obtain ⟨k,hk⟩:=(T.mem z).1 k1;refine ⟨k,(hmem _).2 (.inr ⟨hk,fun e=>k2 ?_⟩)⟩;rw [←ky_same,←T.key _ hk]; exact e
   ·exact ⟨kyR x,(hmem _).2 (.inl rfl)⟩
  ·rintro ⟨k,hk⟩
   rcases (hmem _).1 hk with e | ⟨k1,k2⟩
   ·exact .inr (congrArg Prod.snd e)
   ·refine .inl ⟨(T.mem z).2 ⟨k,k1⟩,fun e=>k2 ?_⟩;show k=kyR x;rw [show k=kyR z from T.key _ k1];exact ky_same.2 e
end Go.Proofs.YtfeklaffeigilaaDoor
namespace Go.Proofs.YtfeklaffeigilaaDoor
set_option linter.unusedVariables false
set_option linter.unusedSimpArgs false
open Go.RowKit
theorem dec_nat(a b:Nat):decide ((a:Int)≤(b:Int))=decide (a≤b):=by congr 1; apply propext; omega

theorem f60_eq(c:Int):f60 c=some (ltrI c):=by
 unfold f60 f60n0 ltrI;cases decide (97≤c)<;>cases decide (c≤122)<;>cases decide (65≤c)<;>cases decide (c≤90)<;>rfl
theorem f40n2_eq{s:ByteArray}{k:Int}{b:UInt8}(h:at? s.data.toList k=some b):f40n2 s k=some (bif chB b then .norm else .ret):=by
 have h3:f40n3 s b k=some (.norm (!(chB b))):=by
  unfold f40n3 chB othI;rw [f60_eq,ltNot,ltNot];simp only [Option.bind_some];cases ltrI b.toNat<;>cases decide ((48:Int)≤(b.toNat:Int))<;>cases decide ((b.toNat:Int)≤57)<;>cases decide ((b.toNat:Int)=95)<;>cases decide ((b.toNat:Int)=45)<;>rfl
 unfold f40n2;rw [h];simp only [Option.bind_some,h3];cases chB b<;>rfl
theorem f40n4_at(s:ByteArray)(hs:s.data.toList.length≤1000):∀(r:List UInt8)(f k:Nat),s.data.toList.drop k=r→r.length<f→f40n4 f s (k:Int)=some (bif r.all chB then .exit0 else .ret)
 | _,0,_,_,h=>absurd h (Nat.not_lt_zero _)
 | [],f+1,k,hd,_=>by
  have:=Qbj hd;rw [f40n4,sizeList,decide_eq_false (by omega),cond_false]; rfl
 | b::r,f+1,k,hd,hf=>by
  obtain ⟨h1,h2,h3⟩:=dropAt hd;rw [f40n4,sizeList,decide_eq_true (by omega),cond_true,f40n2_eq h1,List.all_cons];cases chB b with
  | false=>rfl
  | true =>
   simp only [cond_true,Option.bind_some,Bool.true_and];rw [wrSucc (by omega)];exact f40n4_at s hs r f (k+1) h3 (by simpa using hf)
theorem f40_eq(s:ByteArray):f40 s=some (nmB s):=by
 unfold f40 f40n0 nmB;rw [sizeList]
 by_cases hs:s.data.toList.length≤40
 ·have h1:f40n1 s=some (bif s.data.toList.all chB then .norm else .ret):=by
   unfold f40n1;have:=f40n4_at s (by omega) s.data.toList FUEL 0 List.drop_zero (fuelSmall (by omega));rw [show ((0:Nat):Int)=0 from rfl] at this;rw [this];cases s.data.toList.all chB<;>rfl
  rw [h1];generalize s.data.toList=l at hs;rw [decide_eq_false (by omega:¬(40:Int)<(l.length:Int))];cases l with
  | nil=>rfl
  | cons b r =>
   have h0:at? (b::r) 0=some b:=rfl;rw [decide_eq_false (by simp; omega:¬(((b::r).length:Nat):Int)<1),h0];simp only [cond_false,Option.bind_some,f60_eq,isNm,decide_eq_true hs,Bool.true_and,List.all_cons,chB];cases ltrI b.toNat<;>cases othI b.toNat<;>cases r.all chB<;>rfl
 ·rw [decide_eq_false (by omega:¬((s.data.toList.length:Nat):Int)<1),decide_eq_true (by omega:(40:Int)<((s.data.toList.length:Nat):Int))];have:isNm s.data.toList=false:=by
   generalize s.data.toList=l at hs;cases l with
   | nil=>rfl
   | cons b r=>simp only [isNm,decide_eq_false hs,Bool.false_and]
  rw [this]; rfl

def within(n:Int):Bool:=decide (-1125899906842624≤n)&&decide (n≤1125899906842624)
theorem f64_eq(n:Int):f64 n=some (within n):=by
 unfold f64 f64n0 within;cases decide (-1125899906842624≤n)<;>rfl
def badL(x:Qc):Bool:=!nmB x.Account||(!nmB x.Ccy||(decide (x.Amount=0)||!within x.Amount))
def Lk(x:Qc):Prop:=x.Account.size≤maxLen∧x.Ccy.size≤maxLen
theorem f63_eq{x:Qc}(h:Lk x):f63 x=some (badL x):=by
 unfold f63 f63n0 badL;rw [f40_eq,f40_eq];simp only [Option.bind_some,f64_eq];cases nmB x.Account<;>cases nmB x.Ccy<;>cases decide (x.Amount=0)<;>rfl
theorem f81_63n2L_at(bc:List Qc):∀(l:List Qc)(v:Int),(∀x∈l,Lk x)→(l.any badL=false∧f81_63n2L bc l v=some .exit0)∨(l.any badL=true∧∃k,v≤k∧f81_63n2L bc l v=some (.ret k))
 | [],v,_=>.inl ⟨rfl,rfl⟩
 | x::r,v,h=>by
  rw [f81_63n2L,f63_eq (h x (by simp))];simp only [Option.bind_some,List.any_cons];cases badL x with
  | true=>exact .inr ⟨rfl,v,Int.le_refl _,rfl⟩
  | false =>
   rcases f81_63n2L_at bc r (v+1) (fun y hy=>h y (by simp [hy])) with ⟨h1,h2⟩|⟨h1,k,h2,h3⟩
   ·exact .inl ⟨by simpa using h1,by simpa using h2⟩
   ·exact .inr ⟨by simpa using h1,k,by omega,by simpa using h3⟩
theorem f65_63_eq{l:List Qc}(hl:l.length≤maxLen)(h:∀x∈l,Lk x):f65_63 l=some (l.any badL):=by
 unfold f65_63 f65_63n0 f81_63 f81_63n0 f81_63n1;rw [f81_63n2_run l hl];rcases f81_63n2L_at l l 0 h with ⟨h1,h2⟩|⟨h1,k,h2,h3⟩
 ·rw [h2,h1]; rfl
 ·rw [h3,h1];simp only [Option.bind_some];rw [decide_eq_true h2]
def textB(s:ByteArray):Bool:=(ofB s).all fun c=>decide (32≤c)&&decide (c≤126)
theorem f46n2L_at(bb:Qb):∀(l:List Int)(v:Int),f46n2L bb l v=some (bif l.all (fun c=>decide (32≤c)&&decide (c≤126)) then .exit0 else .ret)
 | [],v=>rfl
 | c::r,v=>by
  rw [f46n2L];simp only [f46n2L_at bb r,ltNot,List.all_cons];cases decide (32≤c)<;>cases decide (c≤126)<;>rfl
def Rk(r:Qb):Prop:=r.Text.size≤maxLen∧r.Lines.length≤maxLen∧∀x∈r.Lines,Lk x
def formedB(r:Qb):Bool:=textB r.Text&&(decide (0≤r.Day)&&(decide (r.Day≤99999)&&(decide (r.Text.size≤100)&&(decide (2≤r.Lines.length)&&(decide (r.Lines.length≤20)&&!r.Lines.any badL)))))
theorem len_ofB(s:ByteArray):(ofB s).length=s.size:=by simp [ofB]
theorem f46_eq{r:Qb}(h:Rk r):f46 r=some (formedB r):=by
 unfold f46 f46n0 f46n1 formedB textB;have h1:r.Text.size≤9223372036854775807:=Nat.le_trans h.1 (by unfold maxLen; decide);have h2:decide ((r.Text.size:Int)≤100)=decide (r.Text.size≤100):=dec_nat _ 100;have h3:decide ((2:Int)≤(r.Lines.length:Int))=decide (2≤r.Lines.length):=dec_nat 2 _;have h4:decide ((r.Lines.length:Int)≤20)=decide (r.Lines.length≤20):=dec_nat _ 20;rw [f46n2_run r (by rw [len_ofB]; exact h.1),f46n2L_at,h2,h3,h4,f65_63_eq h.2.1 h.2.2,decide_eq_true h1];simp only [req,cond_true,Option.bind_some];cases (ofB r.Text).all (fun c=>decide (32≤c)&&decide (c≤126))<;>cases decide (0≤r.Day)<;>cases decide (r.Day≤99999)<;>cases decide (r.Text.size≤100)<;>cases decide (2≤r.Lines.length)<;>cases decide (r.Lines.length≤20)<;>rfl
theorem formed_small{r:Qb}(h:formedB r=true):0≤r.Day∧r.Day≤99999∧r.Text.size≤100∧2≤r.Lines.length∧r.Lines.length≤20∧r.Lines.any badL=false:=by
 simp only [formedB,Bool.and_eq_true,decide_eq_true_eq,Bool.not_eq_true'] at h;exact ⟨h.2.1,h.2.2.1,h.2.2.2.1,h.2.2.2.2.1,h.2.2.2.2.2.1,h.2.2.2.2.2.2⟩

def sumsL:List Qc→List (ByteArray×Int)→List (ByteArray×Int)
 | [],m=>m
 | x::l,m=>sumsL l (mPut seq x.Ccy (wr64 (mGet seq 0 x.Ccy m+x.Amount)) m)
theorem f47n2L_at(bb:Qb):∀(l:List Qc)(v:Int)(m:List (ByteArray×Int)),f47n2L bb l v m=some (.exit0 (sumsL l m))
 | [],v,m=>rfl
 | x::r,v,m=>by rw [f47n2L,f47n2L_at bb r]; rfl
theorem f47n4_eq(be:List (ByteArray×Int)):∀l:List (ByteArray×Int),f47n4 be l=some (bif l.all (fun x=>decide (x.2=0)) then .exit2 else .ret)
 | []=>rfl
 | x::r=>by
  rw [f47n4,f47n4_eq be r,List.all_cons];cases decide (x.2=0)<;>rfl
def balB(r:Qb):Bool:=(sumsL r.Lines []).all fun x=>decide (x.2=0)
theorem f47_eq{r:Qb}(h:r.Lines.length≤maxLen):f47 r=some (balB r):=by
 unfold f47 f47n0 f47n1 f47n3;rw [f47n2_run r _ h,f47n2L_at];simp only [Option.bind_some];have hp:∀p,p.Perm (sumsL r.Lines [])→f47n4 (sumsL r.Lines []) p=some (bif balB r then .exit2 else .ret):=fun p hp=>by
  rw [f47n4_eq,hp.all_eq]; rfl
 rw [anyOrder_of hp];cases balB r<;>rfl

abbrev Bal:=List (Qd×Int)
def acc(x:Qc):Qd:=⟨x.Account,x.Ccy⟩
def bal(a:Qd)(b:Bal):Int:=mGet Qd.eqb 0 a b
def postL:List Qc→Bal→Bal
 | [],m=>m
 | x::l,m=>postL l (mPut Qd.eqb (acc x) (wr64 (bal (acc x) m+x.Amount)) m)
def fitsM(l:List Qc)(b:Bal):Bool:=!l.any fun x=>!within (bal (acc x) b)
theorem f81r1n2L_at(bc:List Qc)(d k:Int)(b:Bal):∀(l:List Qc)(v:Int),(l.any (fun x=>!within (bal (acc x) b))=false∧f81r1n2L bc d k b l v=some .exit0)∨(l.any (fun x=>!within (bal (acc x) b))=true∧∃j,v≤j∧f81r1n2L bc d k b l v=some (.ret j))
 | [],v=>.inl ⟨rfl,rfl⟩
 | x::r,v=>by
  have e:f82r1 x d k b=some (!within (bal (acc x) b)):=by unfold f82r1 f82r1n0; rw [f64_eq]; rfl
  rw [f81r1n2L,e];simp only [Option.bind_some,List.any_cons];cases within (bal (acc x) b) with
  | false=>exact .inr ⟨rfl,v,Int.le_refl _,rfl⟩
  | true =>
   rcases f81r1n2L_at bc d k b r (v+1) with ⟨h1,h2⟩|⟨h1,j,h2,h3⟩
   ·exact .inl ⟨by simpa using h1,by simpa using h2⟩
   ·exact .inr ⟨by simpa using h1,j,by omega,by simpa using h3⟩
theorem f66r1_eq{r:Qb}(h:r.Lines.length≤maxLen)(d k:Int)(b:Bal):f66r1 r d k b=some (fitsM r.Lines b):=by
 unfold f66r1 f66r1n0 f65r1 f65r1n0 f81r1 f81r1n0 f81r1n1 fitsM;rw [f81r1n2_run _ _ _ _ h];rcases f81r1n2L_at r.Lines d k b r.Lines 0 with ⟨h1,h2⟩|⟨h1,j,h2,h3⟩
 ·rw [h2,h1]; rfl
 ·rw [h3,h1];simp only [Option.bind_some];rw [decide_eq_true h2]
def addS(r:Qb)(d m:Int)(b:Bal):Bool×Int×Int×Bal :=
 bif decide (m=200)||(!formedB r||(!balB r||decide (r.Day<d))) then (false,d,m,b) else (fitsM r.Lines (postL r.Lines b),r.Day,wr64 (m+1),postL r.Lines b)
theorem f48r2n2L_at(bb:Qb)(d m:Int):∀(l:List Qc)(v:Int)(b:Bal),f48r2n2L bb d m l v b=some (.exit0 (postL l b))
 | [],v,b=>rfl
 | x::r,v,b=>by rw [f48r2n2L,f48r2n2L_at bb d m r]; rfl
theorem f48r2_eq{r:Qb}(h:Rk r)(d m:Int)(b:Bal):f48r2 r d m b=some (addS r d m b):=by
 unfold f48r2 f48r2n0 f48r2n1 addS;rw [f46_eq h,f47_eq h.2.1,f48r2n2_run _ _ _ _ h.2.1,f48r2n2L_at];simp only [Option.bind_some,f66r1_eq h.2.1];cases decide (m=200)<;>cases formedB r<;>cases balB r<;>cases decide (r.Day<d)<;>rfl
theorem add_true{r:Qb}{d m:Int}{b:Bal}(h:(addS r d m b).1=true):m≠200∧formedB r=true∧balB r=true∧d≤r.Day∧fitsM r.Lines (postL r.Lines b)=true∧(addS r d m b).2=(r.Day,wr64 (m+1),postL r.Lines b):=by
 unfold addS at h ⊢;cases hc:decide (m=200)||(!formedB r||(!balB r||decide (r.Day<d))) with
 | true=>rw [hc] at h; cases h
 | false =>
  rw [hc] at h;simp only [cond_false] at h ⊢;simp only [Bool.or_eq_false_iff,decide_eq_false_iff_not,Bool.not_eq_false'] at hc;exact ⟨hc.1,hc.2.1,hc.2.2.1,by omega,h,trivial⟩
def openL:List Qb→Int→Int→Bal→Bool×Int×Int×Bal
 | [],d,m,b=>(true,d,m,b)
 | r::l,d,m,b=>bif (addS r d m b).1 then openL l (addS r d m b).2.1 (addS r d m b).2.2.1 (addS r d m b).2.2.2 else (false,(addS r d m b).2)
theorem f45r1n2L_at(ba:Qj):∀(l:List Qb)(v d m:Int)(b:Bal),(∀r∈l,Rk r) →
  f45r1n2L ba l v d m b=some (bif (openL l d m b).1 then .exit0 (openL l d m b).2.1 (openL l d m b).2.2.1 (openL l d m b).2.2.2 else .ret (openL l d m b).2.1 (openL l d m b).2.2.1 (openL l d m b).2.2.2)
 | [],v,d,m,b,_=>rfl
 | r::l,v,d,m,b,h=>by
  rw [f45r1n2L,f48r2_eq (h r (by simp)),openL];simp only [Option.bind_some];cases hx:(addS r d m b).1 with
  | true=>simp only [cond_true]; exact f45r1n2L_at ba l _ _ _ _ fun y hy=>h y (by simp [hy])
  | false=>rfl
def openS(j:Qj):Bool×Int×Int×Bal:=bif decide (200<j.Records.length) then (false,0,0,[]) else openL j.Records 0 0 []
def Jk(j:Qj):Prop:=j.Records.length≤maxLen∧∀r∈j.Records,Rk r
theorem f45r1_eq{j:Qj}(h:Jk j):f45r1 j=some (openS j):=by
 unfold f45r1 f45r1n0 f45r1n1 openS;rw [f45r1n2_run _ _ _ _ h.1,f45r1n2L_at _ _ _ _ _ _ h.2];have e:decide ((200:Int)<(j.Records.length:Int))=decide (200<j.Records.length):=by congr 1; apply propext; omega
 rw [e];generalize openL j.Records 0 0 []=x;obtain ⟨a,d,m,b⟩:=x;cases decide (200<j.Records.length)<;>cases a<;>rfl
theorem f50_eq{j:Qj}(h:Jk j):f50 j=some (bif (openS j).1 then 0 else 8):=by
 unfold f50 f50n0;rw [f45r1_eq h];simp only [Option.bind_some];cases (openS j).1<;>rfl
end Go.Proofs.YtfeklaffeigilaaDoor
namespace Go.Proofs.YtfeklaffeigilaaDoor
set_option linter.unusedVariables false
set_option linter.unusedSimpArgs false
open Go.RowKit



end Go.Proofs.YtfeklaffeigilaaDoor
namespace Go.Proofs.YtfeklaffeigilaaDoor
set_option linter.unusedVariables false
set_option linter.unusedSimpArgs false
open Go.RowKit
def lpB(y:Int):Bool:=decide (y % 4=0)&&(!(decide (y % 100=0))||decide (y % 400=0))
theorem f106_eq{y:Int}(h:0≤y):f106 y=some (lpB y):=by
 unfold f106 f106n0 lpB;rw [Int.tmod_eq_emod_of_nonneg h,Int.tmod_eq_emod_of_nonneg h,Int.tmod_eq_emod_of_nonneg h];cases decide (y % 4=0)<;>cases decide (y % 100=0)<;>rfl
def mL(b:Bool):List Int:=[0,31,bif b then 29 else 28,31,30,31,30,31,31,30,31,30,31]
def mN(b:Bool)(m:Nat):Int:=((mL b)[m]?).getD 0
def arL(b:Bool):Qr:=bif b then Qr.mk 0 31 29 31 30 31 30 31 31 30 31 30 31 else Qr.mk 0 31 28 31 30 31 30 31 31 30 31 30 31
theorem f86_eq{y:Int}(h:0≤y):f86 y=some (arL (lpB y)):=by
 unfold f86 f86n0 arL;rw [f106_eq h];cases lpB y<;>rfl
theorem m_cases{m:Nat}(h1:1≤m)(h2:m≤12):m=1∨m=2∨m=3∨m=4∨m=5∨m=6∨m=7∨m=8∨m=9∨m=10∨m=11∨m=12:=by omega
theorem f84_eq{y:Int}{m:Nat}(h1:1900≤y)(h2:y≤2173)(h3:1≤m)(h4:m≤12):f84 y (m:Int)=some (mN (lpB y) m,0):=by
 unfold f84 f84n0 f104 f104n0;rw [decide_eq_true h1,decide_eq_true h2,f86_eq (by omega)];rcases m_cases h3 h4 with rfl | rfl | rfl | rfl | rfl | rfl | rfl | rfl | rfl | rfl | rfl | rfl<;>cases lpB y<;>rfl
theorem f84_bad{y m:Int}(h:¬(1900≤y∧y≤2173∧1≤m∧m≤12)):f84 y m=some (0,2):=by
 unfold f84 f84n0 f104 f104n0
 by_cases h1:1900≤y
 ·by_cases h2:y≤2173
  ·rw [decide_eq_true h1,decide_eq_true h2]
   by_cases h3:m<1
   ·rw [decide_eq_true h3]; rfl
   ·rw [decide_eq_false h3,decide_eq_true (by omega:12<m)]; rfl
  ·rw [decide_eq_true h1,decide_eq_false h2]; rfl
 ·rw [decide_eq_false h1]; rfl
theorem mN_rng{b:Bool}{m:Nat}(h3:1≤m)(h4:m≤12):28≤mN b m∧mN b m≤31:=by
 rcases m_cases h3 h4 with rfl | rfl | rfl | rfl | rfl | rfl | rfl | rfl | rfl | rfl | rfl | rfl<;>cases b<;>decide

def lps(y:Int):Int:=y / 4-y / 100+y / 400
def fst_(y:Int):Int:=365*(y-1900)+lps (y-1)-lps 1899
theorem f105_eq{y:Int}(h0:0≤y)(h1:y≤100000):f105 y=some (lps y):=by
 unfold f105 f105n0 lps;rw [Int.tdiv_eq_ediv_of_nonneg h0,Int.tdiv_eq_ediv_of_nonneg h0,Int.tdiv_eq_ediv_of_nonneg h0];simp only [Option.bind_some];rw [wrIn (n:=y / 4) (by omega) (by omega),wrIn (n:=y / 100) (by omega) (by omega),wrIn (n:=y / 400) (by omega) (by omega),wrIn (n:=y / 4-y / 100) (by omega) (by omega),wrIn (by omega) (by omega)]
theorem f85_eq{y:Int}(h1:1900≤y)(h2:y≤2173):f85 y=some (fst_ y):=by
 unfold f85 f85n0 fst_;rw [wrIn (n:=y-1) (by omega) (by omega),f105_eq (by omega) (by omega),f105_eq (by omega) (by omega)];simp only [Option.bind_some];have a1:lps 1899=460:=by decide
 have a2:0≤lps (y-1)∧lps (y-1)≤2000:=by unfold lps; omega
 rw [wrIn (n:=y-1900) (by omega) (by omega),wrIn (n:=365*(y-1900)) (by omega) (by omega),wrIn (n:=365*(y-1900)+lps (y-1)) (by omega) (by omega),wrIn (by omega) (by omega)]
theorem fst_rng{y:Int}(h1:1900≤y)(h2:y≤2174):0≤fst_ y∧fst_ y≤200000:=by
 have a1:lps 1899=460:=by decide
 unfold fst_;rw [a1];unfold lps;omega
def sm_:List Int→Int
 | []=>0
 | x::r=>x+sm_ r
theorem f69n2L_eq_(b:Qr)(m:Int):∀(l:List Int)(v k:Int),(∀x∈l,0≤x∧x≤31)→0≤v→v+31*l.length≤1000000→f69n2L b m l v k=some (.exit0 (v+sm_ l))
 | [],v,k,_,_,_=>by rw [f69n2L,sm_,Int.add_zero]
 | x::r,v,k,h,h0,hv=>by
  have hx:=h x List.mem_cons_self;rw [List.length_cons] at hv;rw [f69n2L,wrIn (n:=v+x) (by omega) (by omega),f69n2L_eq_ b m r _ _ (fun y hy=>h y (List.mem_cons_of_mem _ hy)) (by omega) (by omega),sm_,Int.add_assoc]

def dg(b:UInt8):Bool:=decide ((48:Int)≤(b.toNat:Int))&&decide ((b.toNat:Int)≤57)
def nmI:Int→List UInt8→Int
 | n,[]=>n
 | n,b::r=>nmI (10*n+((b.toNat:Int)-48)) r
def MM:Nat→Int
 | 0=>1000000000000
 | k+1=>MM k / 10-1
theorem MM_le:∀k,MM k≤1000000000000
 | 0=>by decide
 | k+1=>by have:=MM_le k; rw [MM]; omega
theorem dg_rng{b:UInt8}(h:dg b=true):48≤(b.toNat:Int)∧(b.toNat:Int)≤57:=by
 unfold dg at h;rw [Bool.and_eq_true,decide_eq_true_eq,decide_eq_true_eq] at h;exact h
theorem nm_step{n:Int}{b:UInt8}(h:dg b=true)(h0:0≤n)(h1:n≤1000000000000):wr64 ((wr64 (10*n))+(wr64 (wru8 ((b.toNat:Int)-48))))=10*n+((b.toNat:Int)-48):=by
 have hb:=dg_rng h;have h8:wru8 ((b.toNat:Int)-48)=(b.toNat:Int)-48:=by
  show IntKind.u8.wrap _=_;rw [IntKind.wrap_u8]; omega
 rw [h8,wrIn (n:=10*n) (by omega) (by omega),wrIn (n:=(b.toNat:Int)-48) (by omega) (by omega),wrIn (by omega) (by omega)]
theorem f68L_eq(s:ByteArray):∀(l:List UInt8)(n v:Int),0≤n→n≤MM l.length→f68n2L s l n v=some (bif l.all dg then .exit0 (nmI n l) else .ret)
 | [],n,v,_,_=>rfl
 | b::r,n,v,h0,h1=>by
  have hM:=MM_le r.length;rw [List.length_cons,MM] at h1;rw [f68n2L,ltNot (b.toNat:Int) 48,ltNot 57 (b.toNat:Int),List.all_cons,nmI];cases hd:dg b with
  | true =>
   have hb:=dg_rng hd;rw [decide_eq_true hb.1,decide_eq_true hb.2,nm_step hd h0 (by omega),f68L_eq s r _ _ (by omega) (by omega)]; rfl
  | false =>
   unfold dg at hd;rw [Bool.and_eq_false_iff] at hd;rcases hd with hd | hd<;>rw [hd]
   ·rfl
   ·cases decide ((48:Int)≤(b.toNat:Int))<;>rfl
theorem f68_eq{s:ByteArray}(h:s.data.toList.length≤4):f68 s=some (bif s.data.toList.all dg then (nmI 0 s.data.toList,true) else (0,false)):=by
 unfold f68 f68n0 f68n1;have hM:(0:Int)≤MM s.data.toList.length:=by
  have:∀j:Fin 5,(0:Int)≤MM j:=by decide
  exact this ⟨s.data.toList.length,by omega⟩
 rw [f68n2_run s 0 (Qbr (by show s.data.toList.length≤_; omega)),f68L_eq s s.data.toList 0 0 (by omega) hM];cases s.data.toList.all dg<;>rfl
theorem nm_nn:∀(l:List UInt8)(n:Int),0≤n→l.all dg=true→0≤nmI n l
 | [],n,h,_=>h
 | b::r,n,h,ha=>by
  rw [List.all_cons,Bool.and_eq_true] at ha;have:=dg_rng ha.1;exact nm_nn r _ (by omega) ha.2
theorem nm_two{a b:UInt8}(h:[a,b].all dg=true):0≤nmI 0 [a,b]∧nmI 0 [a,b]≤99:=by
 rw [List.all_cons,List.all_cons,Bool.and_eq_true,Bool.and_eq_true] at h;have:=dg_rng h.1;have:=dg_rng h.2.1;simp only [nmI]; omega

theorem ten{l:List UInt8}(h:l.length=10):∃b0 b1 b2 b3 b4 b5 b6 b7 b8 b9,l=[b0,b1,b2,b3,b4,b5,b6,b7,b8,b9]:=by
 match l,h with
 | [b0,b1,b2,b3,b4,b5,b6,b7,b8,b9],_=>exact ⟨b0,b1,b2,b3,b4,b5,b6,b7,b8,b9,rfl⟩
def okT(l:List UInt8):Bool:=match l with
 | [b0,b1,b2,b3,b4,b5,b6,b7,b8,b9]=>(decide ((b4.toNat:Int)=45)&&decide ((b7.toNat:Int)=45))&&([b0,b1,b2,b3].all dg&&([b5,b6].all dg&&[b8,b9].all dg))
 | _=>false
theorem scut_list(s:ByteArray)(a b:Nat):(scut s a b).data.toList=(s.data.toList.take b).drop a:=rfl
theorem f52_eq{s:ByteArray}{b0 b1 b2 b3 b4 b5 b6 b7 b8 b9:UInt8}(h:s.data.toList=[b0,b1,b2,b3,b4,b5,b6,b7,b8,b9]) :
  f52 s=bif okT s.data.toList then f69 (nmI 0 [b0,b1,b2,b3]) (nmI 0 [b5,b6]) (nmI 0 [b8,b9]) else some (0,12):=by
 have hs:s.size=10:=by show s.data.toList.length=10; rw [h]; rfl
 have l1:(scut s 0 (Int.toNat 4)).data.toList=[b0,b1,b2,b3]:=by rw [scut_list,h]; rfl
 have l2:(scut s (Int.toNat 5) (Int.toNat 7)).data.toList=[b5,b6]:=by rw [scut_list,h]; rfl
 have l3:(scut s (Int.toNat 8) s.size).data.toList=[b8,b9]:=by rw [scut_list,h,hs]; rfl
 unfold f52 f52n0;rw [f68_eq (by rw [l1]; simp),f68_eq (by rw [l2]; simp),f68_eq (by rw [l3]; simp),l1,l2,l3,hs,h];have c1:cutB 0 4 10=true:=by decide
 have c2:cutB 5 7 10=true:=by decide
 have c3:cutB 8 ((10:Nat):Int) 10=true:=by decide
 have a4:at? [b0,b1,b2,b3,b4,b5,b6,b7,b8,b9] 4=some b4:=rfl;have a7:at? [b0,b1,b2,b3,b4,b5,b6,b7,b8,b9] 7=some b7:=rfl;rw [c1,c2,c3,a4,a7,decide_eq_true (by rfl:(((10:Nat):Nat):Int)=10)];simp only [cond_true,Option.bind_some,req,okT];cases decide ((b4.toNat:Int)=45) with
 | false=>rfl
 | true =>
  cases decide ((b7.toNat:Int)=45) with
  | false=>rfl
  | true =>
   cases [b0,b1,b2,b3].all dg with
   | false=>rfl
   | true =>
    cases [b5,b6].all dg with
    | false=>rfl
    | true =>
     cases [b8,b9].all dg with
     | false=>rfl
     | true =>
      simp only [cond_true,Option.bind_some,Bool.and_self];cases f69 (nmI 0 [b0,b1,b2,b3]) (nmI 0 [b5,b6]) (nmI 0 [b8,b9]) with
      | none=>rfl
      | some r=>rfl
section
variable {s:ByteArray} {b0 b1 b2 b3 b4 b5 b6 b7 b8 b9:UInt8} (h:s.data.toList=[b0,b1,b2,b3,b4,b5,b6,b7,b8,b9])
include h
omit h in
end

theorem sm_nn_:∀{l:List Int},(∀x∈l,0≤x∧x≤31)→0≤sm_ l
 | [],_=>Int.le_refl _
 | x::r,h=>by
  have h1:=h x List.mem_cons_self;have h2:=sm_nn_ fun y hy=>h y (List.mem_cons_of_mem _ hy);rw [sm_]; omega
theorem of_tot{y m d:Int}(hy:0≤y)(hm:0≤m)(hm2:m≤100)(hd:0≤d)(hd2:d≤100):∃r,f69 y m d=some r∧0≤r.1:=by
 by_cases h:1900≤y∧y≤2173∧1≤m∧m≤12
 ·obtain ⟨h1,h2,h3,h4⟩:=h;obtain ⟨k,rfl⟩:∃k:Nat,m=(k:Int):=⟨m.toNat,by omega⟩;have hk1:1≤k:=by omega
  have hk2:k≤12:=by omega
  have hn:=mN_rng (b:=lpB y) hk1 hk2;have hf:=fst_rng h1 (by omega);unfold f69 f69n0;rw [f84_eq h1 h2 hk1 hk2];simp only [Option.bind_some,decide_true,cond_true];rw [ltNot d 1,ltNot (mN (lpB y) k) d]
  by_cases d1:1≤d
  ·by_cases d2:d≤mN (lpB y) k
   ·rw [decide_eq_true d1,decide_eq_true d2];have e1:f69n1 (k:Int) (fst_ y) d (arL (lpB y))=some (.norm (fst_ y+d-1+sm_ ((mL (lpB y)).take k))):=by
     unfold f69n1;have hc:cutB 0 (k:Int) 13=true:=by simp only [cutB,decide_eq_true_eq]; omega
     have hlst:∀b:Bool,([(arL b).e0,(arL b).e1,(arL b).e2,(arL b).e3,(arL b).e4,(arL b).e5,(arL b).e6,(arL b).e7,(arL b).e8,(arL b).e9,(arL b).e10,(arL b).e11,(arL b).e12].take (Int.toNat (k:Int))).drop 0=(mL b).take k:=fun b=>by
      rw [Int.toNat_natCast,List.drop_zero];cases b<;>rfl
     have hall:∀x∈(mL (lpB y)).take k,0≤x∧x≤31:=fun x hx=>by
      have hx:=List.mem_of_mem_take hx;have hall:∀b:Bool,∀x∈mL b,0≤x∧x≤31:=by decide
      exact hall _ x hx
     have hlen:((mL (lpB y)).take k).length≤13:=by rw [List.length_take]; exact Nat.le_trans (Nat.min_le_right _ _) (Nat.le_refl _)
     rw [hc,req,cond_true,wrIn (n:=fst_ y+d) (by omega) (by omega),wrIn (n:=fst_ y+d-1) (by omega) (by omega)];rw [f69n2_run (arL (lpB y)) (k:Int) (fst_ y+d-1) (by rw [hlst]; exact Qbr (by omega)),hlst,f69n2L_eq_ _ _ _ _ _ hall (by omega) (by omega)];rfl
    rw [f85_eq h1 h2,f86_eq hy];simp only [Option.bind_some,Bool.not_true,cond_false,e1];cases decide (99999<fst_ y+d-1+sm_ ((mL (lpB y)).take k)) with
    | true=>exact ⟨_,rfl,Int.le_refl _⟩
    | false =>
     refine ⟨_,rfl,?_⟩;show 0≤fst_ y+d-1+sm_ ((mL (lpB y)).take k);have:=sm_nn_ (l:=(mL (lpB y)).take k) fun x hx=>by
      have hx:=List.mem_of_mem_take hx;have hall:∀b:Bool,∀x∈mL b,0≤x∧x≤31:=by decide
      exact hall _ x hx
     omega
   ·rw [decide_eq_true d1,decide_eq_false d2]; exact ⟨_,rfl,Int.le_refl _⟩
  ·rw [decide_eq_false d1]; exact ⟨_,rfl,Int.le_refl _⟩
 ·unfold f69 f69n0;rw [f84_bad h];exact ⟨_,rfl,Int.le_refl _⟩
theorem parse_tot{s:ByteArray}(h:s.data.toList.length=10):∃r,f52 s=some r∧0≤r.1:=by
 obtain ⟨b0,b1,b2,b3,b4,b5,b6,b7,b8,b9,hl⟩:=ten h;rw [f52_eq hl];cases ho:okT s.data.toList with
 | false=>exact ⟨_,rfl,Int.le_refl _⟩
 | true =>
  rw [hl] at ho;simp only [okT,Bool.and_eq_true] at ho;obtain ⟨_,ho1,ho2,ho3⟩:=ho;have h2:=nm_two (a:=b5) (b:=b6) (by simp only [List.all_cons,List.all_nil,Bool.and_true,Bool.and_eq_true] at ho2 ⊢; exact ho2);have h3:=nm_two (a:=b8) (b:=b9) (by simp only [List.all_cons,List.all_nil,Bool.and_true,Bool.and_eq_true] at ho3 ⊢; exact ho3);exact of_tot (nm_nn [b0,b1,b2,b3] 0 (by omega) (by simp only [List.all_cons,List.all_nil,Bool.and_true,Bool.and_eq_true] at ho1 ⊢; exact ho1)) h2.1 (by omega) h3.1 (by omega)

theorem day_tot{r:Qb}(h:r.Text.size≤1000):∃d,f23 r=some d∧(0≤r.Day→0≤d∧d≤r.Day):=by
 have hp:Qbf.size=4:=rfl;unfold f23 f23n0 f51 f51n0 f67 f67n0 f83 f83n0;rw [hp]
 by_cases h4:4≤r.Text.size
 ·have c1:cutB 0 ((4:Nat):Int) r.Text.size=true:=by simp only [cutB,decide_eq_true_eq]; omega
  have c2:cutB ((4:Nat):Int) (r.Text.size:Int) r.Text.size=true:=by simp only [cutB,decide_eq_true_eq]; omega
  rw [decide_eq_true (by omega:((4:Nat):Int)≤(r.Text.size:Int)),c1,c2];simp only [req,cond_true,Option.bind_some];have e4:Int.toNat ((4:Nat):Int)=4:=rfl;rw [e4];have hsz:(scut r.Text 4 r.Text.size).size=r.Text.size-4:=by
   show (scut r.Text 4 r.Text.size).data.toList.length=_;rw [scut_list,List.length_drop,List.length_take];show min r.Text.size r.Text.data.toList.length-4=_;rw [show r.Text.data.toList.length=r.Text.size from rfl,Nat.min_self]
  cases hq:seq (scut r.Text 0 4) Qbf with
  | false=>exact ⟨r.Day,rfl,fun h=>⟨h,Int.le_refl _⟩⟩
  | true =>
   simp only [cond_true,Option.bind_some];rw [hsz]
   by_cases h14:14≤r.Text.size
   ·rw [decide_eq_true (by omega:(10:Int)≤((r.Text.size-4:Nat):Int))];have c3:cutB 0 10 (r.Text.size-4)=true:=by simp only [cutB,decide_eq_true_eq]; omega
    have e10:Int.toNat 10=10:=rfl;rw [c3,e10];simp only [cond_true];obtain ⟨x,e1,hx0⟩:=parse_tot (s:=scut (scut r.Text 4 r.Text.size) 0 10) (by
     rw [scut_list,List.drop_zero,List.length_take,show (scut r.Text 4 r.Text.size).data.toList.length=r.Text.size-4 from hsz]; omega)
    rw [e1];simp only [Option.bind_some];cases decide (x.2=0) with
    | false=>exact ⟨_,rfl,fun h=>⟨h,Int.le_refl _⟩⟩
    | true =>
     by_cases hx:x.1≤r.Day
     ·rw [decide_eq_true hx]; exact ⟨_,rfl,fun _=>⟨hx0,hx⟩⟩
     ·rw [decide_eq_false hx]; exact ⟨_,rfl,fun h=>⟨h,Int.le_refl _⟩⟩
   ·rw [decide_eq_false (by omega:¬(10:Int)≤((r.Text.size-4:Nat):Int))];exact ⟨_,rfl,fun h=>⟨h,Int.le_refl _⟩⟩
 ·rw [decide_eq_false (by omega:¬((4:Nat):Int)≤(r.Text.size:Int))];exact ⟨_,rfl,fun h=>⟨h,Int.le_refl _⟩⟩
end Go.Proofs.YtfeklaffeigilaaDoor
namespace Go.Proofs.YtfeklaffeigilaaDoor
set_option linter.unusedVariables false
set_option linter.unusedSimpArgs false
open Go.RowKit

theorem f80_eq(a:ByteArray):f80 a=some false:=by unfold f80 f80n0; simp [seq_refl]
theorem f62_eq(a b:ByteArray):f62 a b=some (cmpB a b):=by
 unfold f62 f62n0 cmpB;rw [f80_eq,f80_eq];simp only [Option.bind_some,cond_false];cases slt a b<;>cases seq a b<;>rfl
theorem f61_eq(x y:Int):f61 [x,y]=some (cmpOr x y):=by
 unfold f61 f61n0 f61n1 cmpOr;rw [f61n2_run [x,y] (Qbr (by simp))]
 by_cases hx:x=0
 ·by_cases hy:y=0
  ·subst hx hy; rfl
  ·subst hx; simp only [f61n2L,decide_eq_false hy,decide_true,cond_true,cond_false,Option.bind_some]
 ·simp only [f61n2L,decide_eq_false hx,cond_false,Option.bind_some]
theorem f41_eq(a b:RW):f41 a b=some (rwC a b):=by
 unfold f41 f41n0;rw [f62_eq,f62_eq];simp only [Option.bind_some,f61_eq];rfl


def nzR(x:RW):Bool:=!(decide (x.In=0)&&decide (x.Out=0))
theorem f37r1n2_at(m:TB_):∀(p:TB_)(out:List RW),(∀x∈p,nzR x.2=true)→out.length+p.length≤1000000→Qbs m p out=some (.exit0 (out++p.map Prod.snd))
 | [],out,_,_=>by rw [Qbs,List.map_nil,List.append_nil]
 | x::p,out,h,hl=>by
  rw [List.length_cons] at hl;have hx:=h x List.mem_cons_self;have ih:=f37r1n2_at m p (out++[x.2]) (fun y hy=>h y (List.mem_cons_of_mem _ hy)) (by rw [List.length_append,List.length_singleton]; omega);rw [List.append_assoc] at ih;unfold nzR at hx;rw [Qbs,ih,req,fitSmall (by omega) (by omega),cond_true]
  revert hx
  cases decide (x.2.In=0)<;>cases decide (x.2.Out=0)<;>intro hx<;>first | rfl | cases hx
theorem tr_perm{m:TB_}{l:List RW}(T:TR m l):(m.map Prod.snd).Perm l:=by
 refine (List.perm_ext_iff_of_nodup ?_ ?_).2 fun z=>?_
 ·refine List.pairwise_map.2 (T.nd.imp_of_mem fun {a b} ha hb h e=>h ?_);rw [T.key a ha,T.key b hb,e]
 ·exact T.sr.imp fun {a b} h e=>by rw [e,swoR.irr] at h; cases h
 ·rw [T.mem z,List.mem_map]
  constructor
  ·rintro ⟨q,hq,rfl⟩; exact ⟨q.1,hq⟩
  ·rintro ⟨k,hk⟩; exact ⟨(k,z),hk,rfl⟩
theorem f37r1_eq{m:TB_}{l:List RW}(T:TR m l)(hn:∀x∈l,nzR x=true)(hl:l.length≤1000000):f37r1 m=some l:=by
 have hml:m.length=l.length:=by rw [←(tr_perm T).length_eq,List.length_map]
 have key:anyOrder m (fun p=>(f37r1n1 m p).bind fun o38=>match o38 with
   | .norm v40=>(so59_41 v40).bind fun x43=>some (.ret x43))=some (f37r1n0O.ret l):=by
  refine anyOrder_of fun p hp=>?_;have hpl:(p.map Prod.snd).Perm l:=(hp.map _).trans (tr_perm T);unfold f37r1n1;rw [f37r1n2_at m p [] (fun x hx=>hn _ ((hpl.mem_iff).1 (List.mem_map_of_mem hx))) (by rw [hp.length_eq,hml]; simpa using hl)];simp only [Option.bind_some,List.nil_append];rw [so59_41_val f41_eq rwC_cmp.SWO (by rw [hpl.length_eq]; omega)];have hperm:=(sortL_perm rwC_cmp.SWO (p.map Prod.snd)).trans hpl;have hsd:Sd ltR l:=T.sr.imp fun {x y} k=>swoR.asym k;have hne:l.Pairwise fun x y=>eqv ltR x y=false:=T.sr.imp fun {x y} k=>by unfold eqv; rw [k]; rfl
  have:sortL rwC (p.map Prod.snd)=l:=(sorted_one swoR hsd (sortL_sorted rwC_cmp.SWO _) (Cl.of_perm hperm hne swoR)).symm;rw [this]; rfl
 unfold f37r1 f37r1n0;rw [key]; rfl

def rowL(x:Qc):RW:=bif decide (x.Amount<0) then ⟨x.Account,x.Ccy,0,wr64 (0-x.Amount)⟩ else ⟨x.Account,x.Ccy,x.Amount,0⟩
theorem mxI_le{a b:Int}(h:a≤b):mxI a b=b:=by
 unfold mxI
 by_cases k:a<b
 ·rw [decide_eq_true k]; rfl
 ·rw [decide_eq_false k,cond_false]; omega
theorem mxI_ge{a b:Int}(h:b≤a):mxI a b=a:=by
 unfold mxI;rw [decide_eq_false (by omega)]; rfl
theorem row_tab{x:Qc}(h:within x.Amount=true):(⟨x.Account,x.Ccy,mxI x.Amount 0,mxI (wr64 (0-x.Amount)) 0⟩:RW)=rowL x:=by
 unfold within at h;rw [Bool.and_eq_true,decide_eq_true_eq,decide_eq_true_eq] at h;unfold rowL;rw [wrIn (n:=0-x.Amount) (by omega) (by omega)]
 by_cases hn:x.Amount<0
 ·rw [decide_eq_true hn,cond_true,mxI_le (by omega),mxI_ge (by omega)]
 ·rw [decide_eq_false hn,cond_false,mxI_ge (by omega),mxI_le (by omega)]
def Pz(B:Int)(z:RW):Prop:=0≤z.In∧z.In≤B∧0≤z.Out∧z.Out≤B∧0<z.In+z.Out
theorem row_p{x:Qc}(h:within x.Amount=true)(h0:x.Amount≠0):Pz 1125899906842624 (rowL x):=by
 unfold within at h;rw [Bool.and_eq_true,decide_eq_true_eq,decide_eq_true_eq] at h;unfold rowL Pz;rw [wrIn (n:=0-x.Amount) (by omega) (by omega)]
 by_cases hn:x.Amount<0
 ·rw [decide_eq_true hn,cond_true]; simp only []; omega
 ·rw [decide_eq_false hn,cond_false]; simp only []; omega
def okL(x:Qc):Prop:=within x.Amount=true∧x.Amount≠0
theorem with_p{B:Int}(hB:B≤4611686018427387904){x:RW}(hx:Pz 1125899906842624 x){l:List RW}(hs:RwS l)(hl:∀z∈l,Pz B z)(h0:0≤B):∀z∈withR l x,Pz (B+1125899906842624) z:=by
 intro z hz;rcases (with_mem hs z).1 hz with ⟨k,_⟩ | rfl
 ·have:=hl z k;unfold Pz at *; omega
 ·unfold getR
  split
  ·rename_i y hy;have:=hl y (List.mem_of_find?_eq_some hy);unfold Pz addR at *;rw [wrIn (n:=x.In+y.In) (by omega) (by omega),wrIn (n:=x.Out+y.Out) (by omega) (by omega)];simp only []; omega
  ·unfold Pz at *; omega
theorem with_len(l:List RW)(x:RW):(withR l x).length≤l.length+1:=by
 induction l with
 | nil=>simp [withR]
 | cons y r ih =>
  rw [withR];cases ltR y x with
  | true=>rw [cond_true,List.length_cons,List.length_cons]; omega
  | false =>
   rw [cond_false];cases ltR x y<;>simp
structure St_ (n:Nat) (m:TB_) (l:List RW):Prop where
 tr:TR m l
 p:∀z∈l,Pz (n*1125899906842624) z
 len:l.length≤n
theorem St_.nil:St_ 0 [] []:=⟨TR.nil,by simp,Nat.le_refl _⟩
theorem St_.add{n:Nat}{m:TB_}{l:List RW}(S:St_ n m l)(hn:n≤4000){x:Qc}(h:okL x):St_ (n+1) (addT m (rowL x)) (withR l (rowL x)):=by
 have hp:=row_p h.1 h.2;refine ⟨S.tr.add ?_ ?_,fun z hz=>?_,?_⟩
 ·unfold Pz at hp; omega
 ·unfold Pz at hp; omega
 ·have:=with_p (B:=n*1125899906842624) (by omega) hp S.tr.sr S.p (by omega) z hz;have e:((n+1:Nat):Int)*1125899906842624=n*1125899906842624+1125899906842624:=by omega
  rw [e]; exact this
 ·have:=with_len l (rowL x);have:=S.len;omega
def linT(m:TB_)(ls:List Qc):TB_:=ls.foldl (fun m x=>addT m (rowL x)) m
def linW(l:List RW)(ls:List Qc):List RW:=ls.foldl (fun l x=>withR l (rowL x)) l
theorem St_.lines:∀(ls:List Qc){n:Nat}{m:TB_}{l:List RW},St_ n m l→n+ls.length≤4000→(∀x∈ls,okL x)→St_ (n+ls.length) (linT m ls) (linW l ls)
 | [],_,_,_,S,_,_=>S
 | x::r,n,m,l,S,h,ho=>by
  rw [List.length_cons] at h;have:=St_.lines r (S.add (by omega) (ho x List.mem_cons_self)) (by omega) (fun y hy=>ho y (List.mem_cons_of_mem _ hy));rw [List.length_cons,show n+(r.length+1)=n+1+r.length by omega];exact this
theorem linT_app(m:TB_)(a b:List Qc):linT m (a++b)=linT (linT m a) b:=List.foldl_append
theorem f36r2_eq(a b:ByteArray)(c d:Int)(m:TB_):f36r2 a b c d m=some ():=rfl
theorem f21n3L_at(from_ to_ kn:Int)(j:Qj)(i:Int)(r:Qb):∀(ls:List Qc)(v:Int)(m:TB_),(∀x∈ls,okL x)→f21n3L from_ to_ kn j i r ls v m=some (.exit2 (linT m ls))
 | [],_,_,_=>rfl
 | x::ls,v,m,h=>by
  rw [f21n3L,f36r2_eq];simp only [Option.bind_some];rw [f21n3L_at from_ to_ kn j i r ls _ _ (fun y hy=>h y (List.mem_cons_of_mem _ hy))];show some (f21n3O.exit2 (linT (addT m ⟨x.Account,x.Ccy,mxI x.Amount 0,mxI (wr64 (0-x.Amount)) 0⟩) ls))=some (.exit2 (linT (addT m (rowL x)) ls));rw [row_tab (h x List.mem_cons_self).1]

noncomputable def dayR(r:Qb):Int:=(f23 r).getD 0
theorem f23_eq{r:Qb}(h:r.Text.size≤1000):f23 r=some (dayR r):=by
 obtain ⟨d,e,_⟩:=day_tot h;unfold dayR; rw [e]; rfl
noncomputable def selR(a b:Int)(r:Qb):List Qc:=bif decide (dayR r<a) then [] else bif decide (b≤dayR r) then [] else r.Lines
noncomputable def selL(a b:Int):List Qb→List Qc
 | []=>[]
 | r::l=>selR a b r++selL a b l
def okR(r:Qb):Prop:=r.Text.size≤300∧r.Lines.length≤20∧∀x∈r.Lines,okL x
theorem selR_ok{a b:Int}{r:Qb}(h:okR r):(selR a b r).length≤20∧∀x∈selR a b r,okL x:=by
 unfold selR;cases decide (dayR r<a) with
 | true=>simp
 | false=>cases decide (b≤dayR r) with
  | true=>simp
  | false=>exact ⟨h.2.1,h.2.2⟩
theorem f21n2_eq{a b kn i:Int}{j:Qj}{r:Qb} (hr:at? ((j.Records.take (Int.toNat kn)).drop 0) i=some r) (ho:okR r) (m:TB_):f21n2 a b kn j i m=some (.norm (linT m (selR a b r))):=by
 unfold f21n2 selR;rw [hr];simp only [Option.bind_some];rw [f23_eq (by have:=ho.1; omega)];simp only [Option.bind_some];rw [f21n3_run _ _ _ _ _ _ _ (Qbr (by have:=ho.2.1; omega)),f21n3L_at a b kn j i r r.Lines 0 m ho.2.2];cases decide (dayR r<a) with
 | true=>rfl
 | false=>cases decide (b≤dayR r)<;>rfl
theorem f21n4_at{a b:Int}{q:Nat}{j:Qj}(hq:j.Records.length≤1000):∀(l:List Qb)(f k:Nat)(m:TB_),(j.Records.take q).drop k=l→l.length<f→(∀r∈l,okR r)→f21n4 f a b (q:Int) j (k:Int) m=some (.exit0 (linT m (selL a b l)))
 | _,0,_,_,_,h,_=>absurd h (Nat.not_lt_zero _)
 | [],f+1,k,m,hd,_,_=>by
  have:=Qbj hd;rw [f21n4,List.drop_zero,Int.toNat_natCast,decide_eq_false (by omega),cond_false]; rfl
 | r::l,f+1,k,m,hd,hf,ho=>by
  obtain ⟨ha,hk,hd'⟩:=dropAt hd;rw [List.length_cons] at hf;have hlen:(j.Records.take q).length≤1000:=by rw [List.length_take]; omega
  rw [f21n4,List.drop_zero,Int.toNat_natCast,decide_eq_true (by omega),cond_true,f21n2_eq (r:=r) (by rw [List.drop_zero,Int.toNat_natCast]; exact ha) (ho r List.mem_cons_self)];simp only [Option.bind_some];rw [wrSucc (by omega),f21n4_at hq l f (k+1) _ hd' (by omega) (fun y hy=>ho y (List.mem_cons_of_mem _ hy)),selL,linT_app]
theorem sel_ok{a b:Int} : ∀{l:List Qb},(∀r∈l,okR r)→(selL a b l).length≤20*l.length∧∀x∈selL a b l,okL x
 | [],_=>by simp [selL]
 | r::l,h=>by
  have h1:=selR_ok (a:=a) (b:=b) (h r List.mem_cons_self);have h2:=sel_ok (a:=a) (b:=b) (l:=l) fun y hy=>h y (List.mem_cons_of_mem _ hy);rw [selL,List.length_append,List.length_cons];refine ⟨by omega,fun x hx=>?_⟩;rcases List.mem_append.1 hx with k | k
  ·exact h1.2 x k
  ·exact h2.2 x k
theorem open_formed:∀(l:List Qb)(d m:Int)(b:Bal),(openL l d m b).1=true→∀r∈l,formedB r=true
 | [],_,_,_,_=>by simp
 | r::l,d,m,b,h=>by
  rw [openL] at h;cases ha:(addS r d m b).1 with
  | false=>rw [ha] at h; cases h
  | true =>
   rw [ha,cond_true] at h;intro x hx;rcases List.mem_cons.1 hx with rfl | hx
   ·exact (add_true ha).2.1
   ·exact open_formed l _ _ _ h x hx
theorem formed_ok{r:Qb}(h:formedB r=true):okR r:=by
 obtain ⟨_,_,h1,_,h2,h3⟩:=formed_small h;refine ⟨by omega,h2,fun x hx=>?_⟩;have:=List.any_eq_false.1 h3 x hx;unfold badL at this;simp only [Bool.or_eq_true,not_or,Bool.not_eq_true,Bool.not_eq_false',decide_eq_false_iff_not] at this;exact ⟨this.2.2.2,this.2.2.1⟩


theorem f39_eq(a b:Int):f39 a b=some (decide (0≤a)&&(decide (a≤b)&&decide (b≤100000))):=by
 unfold f39 f39n0;cases decide (0≤a)<;>cases decide (a≤b)<;>rfl
noncomputable def betS(j:Qj)(a b kn:Int):Qh×Int :=
 bif (openS j).1 then
  bif decide (0≤a)&&(decide (a≤b)&&decide (b≤100000)) then
   bif decide (0≤kn)&&decide (kn≤(j.Records.length:Int)) then (⟨a,b,kn,linW [] (selL a b (j.Records.take kn.toNat))⟩,0) else (⟨0,0,0,[]⟩,2)
  else (⟨0,0,0,[]⟩,2)
 else (⟨0,0,0,[]⟩,8)
theorem open_ok{j:Qj}(hl:j.Records.length≤200)(ho:(openS j).1=true):∀r∈j.Records,okR r:=fun r hr=>by
 unfold openS at ho;rw [decide_eq_false (by omega:¬200<j.Records.length),cond_false] at ho;exact formed_ok (open_formed _ _ _ _ ho r hr)
theorem st_take{j:Qj}(hl:j.Records.length≤31)(ho:(openS j).1=true)(a b:Int)(q:Nat):St_ (selL a b (j.Records.take q)).length (linT [] (selL a b (j.Records.take q))) (linW [] (selL a b (j.Records.take q)))∧(selL a b (j.Records.take q)).length≤620∧∀x∈selL a b (j.Records.take q),okL x:=by
 have hok:=open_ok (by omega) ho;have hokq:∀r∈j.Records.take q,okR r:=fun r hr=>hok r (List.mem_of_mem_take hr);have hql:(j.Records.take q).length≤31:=by rw [List.length_take]; omega
 have hsel:=sel_ok (a:=a) (b:=b) hokq;have S:=St_.nil.lines (selL a b (j.Records.take q)) (by omega) hsel.2;rw [Nat.zero_add] at S;exact ⟨S,by omega,hsel.2⟩
theorem f21_eq{j:Qj}(hj:Jk j)(hl:j.Records.length≤31)(a b kn:Int):f21 j a b kn=some (betS j a b kn):=by
 unfold f21 f21n0 betS;rw [f50_eq hj,f39_eq];cases ho:(openS j).1 with
 | false=>rfl
 | true =>
  simp only [cond_true,Option.bind_some,decide_true];cases decide (0≤a)&&(decide (a≤b)&&decide (b≤100000)) with
  | false=>rfl
  | true =>
   simp only [cond_true]
   by_cases h0:kn<0
   ·rw [decide_eq_true h0,decide_eq_false (by omega:¬0≤kn)]; rfl
   ·rw [decide_eq_false h0,cond_false,decide_eq_true (by omega:0≤kn)]
    by_cases h1:(j.Records.length:Int)<kn
    ·rw [decide_eq_true h1,decide_eq_false (by omega:¬kn≤(j.Records.length:Int))]; rfl
    ·rw [decide_eq_false h1,cond_false,decide_eq_true (by omega:kn≤(j.Records.length:Int))];obtain ⟨q,rfl⟩:∃q:Nat,kn=(q:Int):=⟨kn.toNat,by omega⟩;have hok:=open_ok (by omega) ho;have hokq:∀r∈j.Records.take q,okR r:=fun r hr=>hok r (List.mem_of_mem_take hr);have hql:(j.Records.take q).length≤31:=by rw [List.length_take]; omega
     have e5:=f21n4_at (a:=a) (b:=b) (q:=q) (j:=j) (by omega) (j.Records.take q) FUEL 0 [] rfl (fuelSmall (by omega)) hokq;obtain ⟨S,hn,_⟩:=st_take hl ho a b q;rw [show ((0:Nat):Int)=0 from rfl] at e5;have hc:cutB 0 (q:Int) j.Records.length=true:=by simp only [cutB,decide_eq_true_eq]; omega
     unfold f21n1;rw [hc,req,cond_true,e5];simp only [Option.bind_some];have hlen:=S.len;rw [f37r1_eq S.tr (fun x hx=>by
      have:=S.p x hx;unfold Pz at this;unfold nzR
      by_cases hi:x.In=0
      ·rw [decide_eq_true hi,decide_eq_false (by omega)]; rfl
      ·rw [decide_eq_false hi]; rfl) (by omega)]
     rfl
end Go.Proofs.YtfeklaffeigilaaDoor
