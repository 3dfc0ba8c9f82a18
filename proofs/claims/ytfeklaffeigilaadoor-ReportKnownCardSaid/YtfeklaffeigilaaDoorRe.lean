/- Several texts in one. No condition. -/
import Derived.Test.YtfeklaffeigilaaDoorA6
import Derived.Test.YtfeklaffeigilaaDoorTU
namespace Go.Proofs.YtfeklaffeigilaaDoor
set_option linter.unusedVariables false
set_option linter.unusedSimpArgs false
set_option maxRecDepth 100000
open Go.RowKit
inductive f12r2n2O where
 | exit0 (v46:List (Key_×Qa))
def f12r2n2E(ba1:Qj):f12r2n2O→Ex×Tr×Hp
 | .exit0 v46=>((.exit 0),mkS [(2,(.bp 0 0)),(8,(.mp 1))],[some (.box 24 ((Qj.cells ba1).map .pl)),some (.map (v46.map (mkv (pAgg Key_.cells) (pAgg Qa.cells))))])
def f12r2n2S(ba1:Qj)(v34:Int)(v35:List (Key_×Qa)):Tr×Hp:=(mkS [(2,(.bp 0 0)),(8,(.mp 1)),(37,(jL 4 Qa.cells ba1.Rows)),(38,(jI (ba1.Rows.length:Int))),(39,(jI v34))],[some (.box 24 ((Qj.cells ba1).map .pl)),some (.map (v35.map (mkv (pAgg Key_.cells) (pAgg Qa.cells))))])
noncomputable def f12r2n2:Nat→Qj→Int→List (Key_×Qa)→Option f12r2n2O
 | 0,_,_,_=>none
 | f+1,ba1,v34,v35 =>
  bif decide (v34<(ba1.Rows.length:Int)) then
   (at? ba1.Rows v34).bind fun x42 =>
   (f36r2 x42.Account x42.Ccy x42.In x42.Out v35).bind fun x44 =>
   (f12r2n2 f ba1 (wr64 (v34+1)) (mPut Key_.eqb (Key_.mk x42.Account x42.Ccy) (Qa.mk x42.Account x42.Ccy (wr64 ((mGet Key_.eqb (Qa.mk Qs Qs 0 0) (Key_.mk x42.Account x42.Ccy) v35).In+x42.In)) (wr64 ((mGet Key_.eqb (Qa.mk Qs Qs 0 0) (Key_.mk x42.Account x42.Ccy) v35).Out+x42.Out))) v35))
  else
   some (.exit0 v35)
theorem f12r2n2_ok:∀(f:Nat)(ba1:Qj)(v34:Int)(v35:List (Key_×Qa)){o:f12r2n2O},f12r2n2 f ba1 v34 v35=some o→TL Tryd.prog Tryd.f12.ntmps 0 f (cL (cL (Qn 1 (cL (Qn 5 c12))))) (f12r2n2S ba1 v34 v35) (·=f12r2n2E ba1 o)
 | 0,_,_,_,o,h=>by rw [f12r2n2] at h; cases h
 | f+1,ba1,v34,v35,o,h=>by
  rw [f12r2n2] at h;refine TL.body (K:=fun s=>∃v34:Int,∃v35:List (Key_×Qa),s=(f12r2n2S ba1 v34 v35)∧f12r2n2 f ba1 v34 v35=some o) ?_ (by rintro _ ⟨v34,v35,rfl,hk⟩; exact f12r2n2_ok f _ _ _ hk);rcases Qg h with ⟨h37,h⟩|⟨h37,h⟩
  ·obtain ⟨x42,h43,h⟩:=Qe h;obtain ⟨x44,h45,h⟩:=Qe h
   exact rE Qh [j3,([],[(0,.idx (Int.toNat v34) (Qa.cells x42))],[]),([],[(9,.call (.tup []) [none,some (.map ((mPut Key_.eqb (Key_.mk x42.Account x42.Ccy) (Qa.mk x42.Account x42.Ccy (wr64 ((mGet Key_.eqb (Qa.mk Qs Qs 0 0) (Key_.mk x42.Account x42.Ccy) v35).In+x42.In)) (wr64 ((mGet Key_.eqb (Qa.mk Qs Qs 0 0) (Key_.mk x42.Account x42.Ccy) v35).Out+x42.Out))) v35).map (mkv (pAgg Key_.cells) (pAgg Qa.cells)))),none])],[]),j3] [some true] [] [0,1] [2,8,37,38,39] (.norm,(f12r2n2S ba1 (wr64 (v34+1)) (mPut Key_.eqb (Key_.mk x42.Account x42.Ccy) (Qa.mk x42.Account x42.Ccy (wr64 ((mGet Key_.eqb (Qa.mk Qs Qs 0 0) (Key_.mk x42.Account x42.Ccy) v35).In+x42.In)) (wr64 ((mGet Key_.eqb (Qa.mk Qs Qs 0 0) (Key_.mk x42.Account x42.Ccy) v35).Out+x42.Out))) v35))) (ap h37 (ap (Qk h43).1 (ap (Qt Qa.cells (Qk h43).2) (ap (Qo.rn 3 [1] (f36r2_ok x42.Account x42.Ccy x42.In x42.Out v35 h45)) an)))) (Qv.norm ⟨(wr64 (v34+1)),(mPut Key_.eqb (Key_.mk x42.Account x42.Ccy) (Qa.mk x42.Account x42.Ccy (wr64 ((mGet Key_.eqb (Qa.mk Qs Qs 0 0) (Key_.mk x42.Account x42.Ccy) v35).In+x42.In)) (wr64 ((mGet Key_.eqb (Qa.mk Qs Qs 0 0) (Key_.mk x42.Account x42.Ccy) v35).Out+x42.Out))) v35),rfl,h⟩)
  ·obtain rfl:=Qd h;exact rK Qh 2 [j3] [some false] [] [0,1] [2,8] (.exit 0) ((f12r2n2E ba1 (.exit0 v35)).2) (ap h37 an) (Qv.out rfl rfl)
noncomputable def f12r2n2L(ba1:Qj):List Qa→Int→(List (Key_×Qa))→Option f12r2n2O
 | [],v34,v35 =>
  some (.exit0 v35)
 | x0::rest,v34,v35 =>
  (f36r2 x0.Account x0.Ccy x0.In x0.Out v35).bind fun x44 =>
  (f12r2n2L ba1 rest (v34+1) (mPut Key_.eqb (Key_.mk x0.Account x0.Ccy) (Qa.mk x0.Account x0.Ccy (wr64 ((mGet Key_.eqb (Qa.mk Qs Qs 0 0) (Key_.mk x0.Account x0.Ccy) v35).In+x0.In)) (wr64 ((mGet Key_.eqb (Qa.mk Qs Qs 0 0) (Key_.mk x0.Account x0.Ccy) v35).Out+x0.Out))) v35))
theorem f12r2n2L_eq(ba1:Qj):∀(rest:List Qa)(f k:Nat)(v35:List (Key_×Qa)),ba1.Rows.drop k=rest→ba1.Rows.length≤maxLen→rest.length<f→f12r2n2 f ba1 (k:Int) v35=f12r2n2L ba1 rest (k:Int) v35
 | _,0,_,_,_,_,hf=>absurd hf (Nat.not_lt_zero _)
 | [],f+1,k,v35,hd,hm,hf=>by
  have hk:¬((k:Int)<(ba1.Rows.length:Int)):=by have:=Qak hd; omega
  rw [f12r2n2,f12r2n2L];simp only [decide_eq_false hk,cond_false]
 | x0::rest,f+1,k,v35,hd,hm,hf=>by
  obtain ⟨hx,hlt,hd'⟩:=Qaj hd;have hk:(k:Int)<(ba1.Rows.length:Int):=by omega
  have hw:wr64 ((k:Int)+1)=(k:Int)+1:=Qbk (by omega) (by unfold maxLen at hm; omega);have ih:∀(v35:List (Key_×Qa)),f12r2n2 f ba1 ((k:Int)+1) v35=f12r2n2L ba1 rest ((k:Int)+1) v35:=fun v35=>f12r2n2L_eq ba1 rest f (k+1) v35 hd' hm (by simpa using hf);rw [f12r2n2,f12r2n2L];simp only [decide_eq_true hk,cond_true,at_nat,hx,Option.bind_some,hw,ih]
theorem f12r2n2_run(ba1:Qj)(v35:List (Key_×Qa))(hm:ba1.Rows.length≤maxLen):f12r2n2 FUEL ba1 0 v35=f12r2n2L ba1 ba1.Rows 0 v35:=f12r2n2L_eq ba1 ba1.Rows FUEL 0 v35 List.drop_zero hm (Qbi hm)
inductive f12r2n1O where
 | norm (v50:List (Key_×Qa))
def f12r2n1E(ba1:Qj):f12r2n1O→Ex×Tr×Hp
 | .norm v50=>(.norm,mkS [(2,(.bp 0 0)),(8,(.mp 1))],[some (.box 24 ((Qj.cells ba1).map .pl)),some (.map (v50.map (mkv (pAgg Key_.cells) (pAgg Qa.cells))))])
def f12r2n1S(ba1:Qj):Tr×Hp:=(mkS [(2,(.bp 0 0)),(3,(.bp 1 0)),(8,(.mp 2))],[some (.box 24 ((Qj.cells ba1).map .pl)),some (.box 24 ((Qj.cells ba1).map .pl)),some (.map ([].map (mkv (pAgg Key_.cells) (pAgg Qa.cells))))])
noncomputable def f12r2n1(ba1:Qj):Option f12r2n1O :=
 (f12r2n2 FUEL ba1 0 []).bind fun o47=>match o47 with
 | .exit0 v49=>some (.norm v49)
theorem f12r2n1_ok(ba1:Qj){o:f12r2n1O}(h:f12r2n1 ba1=some o):T Tryd.prog Tryd.f12.ntmps 0 (cL (Qn 5 c12)) (f12r2n1S ba1) (·=f12r2n1E ba1 o):=by
 unfold f12r2n1 at h;refine rN Qh 1 [([],[],[(2,.val (jI (ba1.Rows.length:Int)))])] [] [] [0,2] [2,8,37,38,39] (f12r2n2S ba1 0 []) (ap (Qu (xs:=ba1.Rows) (c:=Qa.cells)) an) ?_;obtain ⟨o47,h48,h⟩:=Qe h;cases o47 with
 | exit0 v49 =>
  obtain rfl:=Qd h;exact T.last' (T.bl (i:=0) (by kernel_rfl) (by kernel_rfl) (f12r2n2_ok FUEL ba1 0 [] h48)) (tds:=[]) (m:=[0,1]) (keep:=[2,8]) (st2:=(f12r2n1E ba1 (.norm v49)).2) (by kernel_rfl) an rfl
inductive f12r2n4O where
 | exit2 (v88:List (Key_×Qa))
def f12r2n4E(ba1:Qj):f12r2n4O→Ex×Tr×Hp
 | .exit2 v88=>((.exit 2),mkS [(8,(.mp 0))],[some (.map (v88.map (mkv (pAgg Key_.cells) (pAgg Qa.cells))))])
def f12r2n4S(ba1:Qj)(v76:Int)(v77:List (Key_×Qa)):Tr×Hp:=(mkS [(8,(.mp 0)),(55,(jL 4 Qa.cells ba1.Rows)),(56,(jI (ba1.Rows.length:Int))),(57,(jI v76))],[some (.map (v77.map (mkv (pAgg Key_.cells) (pAgg Qa.cells))))])
noncomputable def f12r2n4:Nat→Qj→Int→List (Key_×Qa)→Option f12r2n4O
 | 0,_,_,_=>none
 | f+1,ba1,v76,v77 =>
  bif decide (v76<(ba1.Rows.length:Int)) then
   (at? ba1.Rows v76).bind fun x84 =>
   (f36r2 x84.Account x84.Ccy (wr64 (0-x84.In)) (wr64 (0-x84.Out)) v77).bind fun x86 =>
   (f12r2n4 f ba1 (wr64 (v76+1)) (mPut Key_.eqb (Key_.mk x84.Account x84.Ccy) (Qa.mk x84.Account x84.Ccy (wr64 ((mGet Key_.eqb (Qa.mk Qs Qs 0 0) (Key_.mk x84.Account x84.Ccy) v77).In+(wr64 (0-x84.In)))) (wr64 ((mGet Key_.eqb (Qa.mk Qs Qs 0 0) (Key_.mk x84.Account x84.Ccy) v77).Out+(wr64 (0-x84.Out))))) v77))
  else
   some (.exit2 v77)
theorem f12r2n4_ok:∀(f:Nat)(ba1:Qj)(v76:Int)(v77:List (Key_×Qa)){o:f12r2n4O},f12r2n4 f ba1 v76 v77=some o→TL Tryd.prog Tryd.f12.ntmps 0 f (cL (cL (Qn 1 (cL (Qn 0 (Qn 1 (Qn 5 c12))))))) (f12r2n4S ba1 v76 v77) (·=f12r2n4E ba1 o)
 | 0,_,_,_,o,h=>by rw [f12r2n4] at h; cases h
 | f+1,ba1,v76,v77,o,h=>by
  rw [f12r2n4] at h;refine TL.body (K:=fun s=>∃v76:Int,∃v77:List (Key_×Qa),s=(f12r2n4S ba1 v76 v77)∧f12r2n4 f ba1 v76 v77=some o) ?_ (by rintro _ ⟨v76,v77,rfl,hk⟩; exact f12r2n4_ok f _ _ _ hk);rcases Qg h with ⟨h79,h⟩|⟨h79,h⟩
  ·obtain ⟨x84,h85,h⟩:=Qe h;obtain ⟨x86,h87,h⟩:=Qe h
   exact rE Qh [j3,([],[(0,.idx (Int.toNat v76) (Qa.cells x84))],[]),([],[(11,.call (.tup []) [some (.map ((mPut Key_.eqb (Key_.mk x84.Account x84.Ccy) (Qa.mk x84.Account x84.Ccy (wr64 ((mGet Key_.eqb (Qa.mk Qs Qs 0 0) (Key_.mk x84.Account x84.Ccy) v77).In+(wr64 (0-x84.In)))) (wr64 ((mGet Key_.eqb (Qa.mk Qs Qs 0 0) (Key_.mk x84.Account x84.Ccy) v77).Out+(wr64 (0-x84.Out))))) v77).map (mkv (pAgg Key_.cells) (pAgg Qa.cells)))),none])],[]),j3] [some true] [] [0] [8,55,56,57] (.norm,(f12r2n4S ba1 (wr64 (v76+1)) (mPut Key_.eqb (Key_.mk x84.Account x84.Ccy) (Qa.mk x84.Account x84.Ccy (wr64 ((mGet Key_.eqb (Qa.mk Qs Qs 0 0) (Key_.mk x84.Account x84.Ccy) v77).In+(wr64 (0-x84.In)))) (wr64 ((mGet Key_.eqb (Qa.mk Qs Qs 0 0) (Key_.mk x84.Account x84.Ccy) v77).Out+(wr64 (0-x84.Out))))) v77))) (ap h79 (ap (Qk h85).1 (ap (Qt Qa.cells (Qk h85).2) (ap (Qo.rn 2 [0] (f36r2_ok x84.Account x84.Ccy (wr64 (0-x84.In)) (wr64 (0-x84.Out)) v77 h87)) an)))) (Qv.norm ⟨(wr64 (v76+1)),(mPut Key_.eqb (Key_.mk x84.Account x84.Ccy) (Qa.mk x84.Account x84.Ccy (wr64 ((mGet Key_.eqb (Qa.mk Qs Qs 0 0) (Key_.mk x84.Account x84.Ccy) v77).In+(wr64 (0-x84.In)))) (wr64 ((mGet Key_.eqb (Qa.mk Qs Qs 0 0) (Key_.mk x84.Account x84.Ccy) v77).Out+(wr64 (0-x84.Out))))) v77),rfl,h⟩)
  ·obtain rfl:=Qd h;exact rK Qh 2 [j3] [some false] [] [0] [8] (.exit 2) ((f12r2n4E ba1 (.exit2 v77)).2) (ap h79 an) (Qv.out rfl rfl)
noncomputable def f12r2n4L(ba1:Qj):List Qa→Int→(List (Key_×Qa))→Option f12r2n4O
 | [],v76,v77 =>
  some (.exit2 v77)
 | x0::rest,v76,v77 =>
  (f36r2 x0.Account x0.Ccy (wr64 (0-x0.In)) (wr64 (0-x0.Out)) v77).bind fun x86 =>
  (f12r2n4L ba1 rest (v76+1) (mPut Key_.eqb (Key_.mk x0.Account x0.Ccy) (Qa.mk x0.Account x0.Ccy (wr64 ((mGet Key_.eqb (Qa.mk Qs Qs 0 0) (Key_.mk x0.Account x0.Ccy) v77).In+(wr64 (0-x0.In)))) (wr64 ((mGet Key_.eqb (Qa.mk Qs Qs 0 0) (Key_.mk x0.Account x0.Ccy) v77).Out+(wr64 (0-x0.Out))))) v77))
theorem f12r2n4L_eq(ba1:Qj):∀(rest:List Qa)(f k:Nat)(v77:List (Key_×Qa)),ba1.Rows.drop k=rest→ba1.Rows.length≤maxLen→rest.length<f→f12r2n4 f ba1 (k:Int) v77=f12r2n4L ba1 rest (k:Int) v77
 | _,0,_,_,_,_,hf=>absurd hf (Nat.not_lt_zero _)
 | [],f+1,k,v77,hd,hm,hf=>by
  have hk:¬((k:Int)<(ba1.Rows.length:Int)):=by have:=Qak hd; omega
  rw [f12r2n4,f12r2n4L];simp only [decide_eq_false hk,cond_false]
 | x0::rest,f+1,k,v77,hd,hm,hf=>by
  obtain ⟨hx,hlt,hd'⟩:=Qaj hd;have hk:(k:Int)<(ba1.Rows.length:Int):=by omega
  have hw:wr64 ((k:Int)+1)=(k:Int)+1:=Qbk (by omega) (by unfold maxLen at hm; omega);have ih:∀(v77:List (Key_×Qa)),f12r2n4 f ba1 ((k:Int)+1) v77=f12r2n4L ba1 rest ((k:Int)+1) v77:=fun v77=>f12r2n4L_eq ba1 rest f (k+1) v77 hd' hm (by simpa using hf);rw [f12r2n4,f12r2n4L];simp only [decide_eq_true hk,cond_true,at_nat,hx,Option.bind_some,hw,ih]
theorem f12r2n4_run(ba1:Qj)(v77:List (Key_×Qa))(hm:ba1.Rows.length≤maxLen):f12r2n4 FUEL ba1 0 v77=f12r2n4L ba1 ba1.Rows 0 v77:=f12r2n4L_eq ba1 ba1.Rows FUEL 0 v77 List.drop_zero hm (Qbi hm)
inductive f12r2n3O where
 | norm (v92:List (Key_×Qa))
def f12r2n3E(ba1:Qj)(bj2:List (Key_×Qa)):f12r2n3O→Ex×Tr×Hp
 | .norm v92=>(.norm,mkS [(8,(.mp 0))],[some (.map (v92.map (mkv (pAgg Key_.cells) (pAgg Qa.cells))))])
def f12r2n3S(ba1:Qj)(bj2:List (Key_×Qa)):Tr×Hp:=(mkS [(2,(.bp 0 0)),(8,(.mp 1))],[some (.box 24 ((Qj.cells ba1).map .pl)),some (.map (bj2.map (mkv (pAgg Key_.cells) (pAgg Qa.cells))))])
noncomputable def f12r2n3(ba1:Qj)(bj2:List (Key_×Qa)):Option f12r2n3O :=
 (f12r2n4 FUEL ba1 0 bj2).bind fun o89=>match o89 with
 | .exit2 v91=>some (.norm v91)
theorem f12r2n3_ok(ba1:Qj)(bj2:List (Key_×Qa)){o:f12r2n3O}(h:f12r2n3 ba1 bj2=some o):T Tryd.prog Tryd.f12.ntmps 0 (cL (Qn 0 (Qn 1 (Qn 5 c12)))) (f12r2n3S ba1 bj2) (·=f12r2n3E ba1 bj2 o):=by
 unfold f12r2n3 at h;refine rN Qh 1 [([],[],[(2,.val (jI (ba1.Rows.length:Int)))])] [] [] [1] [8,55,56,57] (f12r2n4S ba1 0 bj2) (ap (Qu (xs:=ba1.Rows) (c:=Qa.cells)) an) ?_;obtain ⟨o89,h90,h⟩:=Qe h;cases o89 with
 | exit2 v91 =>
  obtain rfl:=Qd h;exact T.last' (T.bl (i:=2) (by kernel_rfl) (by kernel_rfl) (f12r2n4_ok FUEL ba1 0 bj2 h90)) (tds:=[]) (m:=[0]) (keep:=[8]) (st2:=(f12r2n3E ba1 bj2 (.norm v91)).2) (by kernel_rfl) an rfl
inductive f12r2n0O where
 | ret (v100:Int) (v101:List Qa)
def f12r2n0E(a1:Qj):f12r2n0O→Ex×Tr×Hp
 | .ret v100 v101=>(.ret,mkS [(4,(.own 0)),(5,(jI v100))],[jR 4 Qa.cells v101])
def f12r2n0S(a1:Qj):Tr×Hp:=(Qae [(jA Qj.cells a1),(jA Qj.cells a1)] 0 .leaf,[])
noncomputable def f12r2n0(a1:Qj):Option f12r2n0O :=
 (f15 a1).bind fun x5 =>
 bif decide (x5=0) then
  bif decide (a1.From=a1.From) then
   bif decide (a1.To=a1.To) then
    (f12r2n1 a1).bind fun o51=>match o51 with
    | .norm v53=>(f12r2n3 a1 v53).bind fun o93=>match o93 with
     | .norm v95=>(f37r1 v95).bind fun x98 =>
      some (.ret 0 x98)
   else
    some (.ret 2 [])
  else
   some (.ret 2 [])
 else
  some (.ret x5 [])
theorem f12r2n0_ok(a1:Qj){o:f12r2n0O}(h:f12r2n0 a1=some o):T Tryd.prog Tryd.f12.ntmps 0 c12 (f12r2n0S a1) (·=f12r2n0E a1 o):=by
 unfold f12r2n0 at h;obtain ⟨x5,h6,h⟩:=Qe h;rcases Qg h with ⟨h7,h⟩|⟨h7,h⟩
 ·rcases Qg h with ⟨h10,h⟩|⟨h10,h⟩
  ·rcases Qg h with ⟨h11,h⟩|⟨h11,h⟩
   ·refine rN Qh 5 [j3,([],[jH 1 (jI x5)],[]),j3,([],[jH 1 (jI x5)],[]),j3,(jF [6,7,8,9,10],[(11,.bool false)],[]),j3] [some false,some false,some false] [] [0,1,2] [2,3,8] (f12r2n1S a1) (ap (f15_ok a1 h6) (ap (Qm h7) (ap (f15_ok a1 h6) (ap (Qm h7) (ap2 (Qm h10) (ap4 (Qm h10) (ap (Qm h11) an))))))) ?_;obtain ⟨o51,h52,h⟩:=Qe h;cases o51 with
    | norm v53 =>
     refine T.oneN (by kernel_rfl) (f12r2n1_ok a1 h52) (st2:=(f12r2n1E a1 (.norm v53)).2) rfl ?_;refine rN Qh 0 [] [] [] [0,1] [2,8] (f12r2n3S a1 v53) an ?_;obtain ⟨o93,h94,h⟩:=Qe h;cases o93 with
     | norm v95 =>
      refine T.oneN (by kernel_rfl) (f12r2n3_ok a1 v53 h94) (st2:=(f12r2n3E a1 v53 (.norm v95)).2) rfl ?_;obtain ⟨x98,h99,h⟩:=Qe h;obtain rfl:=Qd h;exact rE Qh [([],[(1,.call (.own 1) [some (.map (v95.map (mkv (pAgg Key_.cells) (pAgg Qa.cells)))),jR 4 Qa.cells x98])],[])] [] [] [1] [4,5] (.ret,(f12r2n0E a1 (.ret 0 x98)).2) (ap (f37r1_ok v95 h99) an) rfl
   ·obtain rfl:=Qd h;exact rK Qh 4 [j3,([],[jH 1 (jI x5)],[]),j3,([],[jH 1 (jI x5)],[]),j3,(jF [6,7,8,9,10],[(11,.bool false)],[]),j3] [some false,some false,some true] [.mat 4 4] [2] [4,5] .ret ((f12r2n0E a1 (.ret 2 [])).2) (ap (f15_ok a1 h6) (ap (Qm h7) (ap (f15_ok a1 h6) (ap (Qm h7) (ap2 (Qm h10) (ap4 (Qm h10) (ap (Qx h11) an))))))) rfl
  ·obtain rfl:=Qd h;exact rK Qh 4 [j3,([],[jH 1 (jI x5)],[]),j3,([],[jH 1 (jI x5)],[]),j3,(jT [6,7,8,9,10],[(11,.bool true)],[]),j3] [some false,some false,none] [.mat 4 4] [2] [4,5] .ret ((f12r2n0E a1 (.ret 2 [])).2) (ap (f15_ok a1 h6) (ap (Qm h7) (ap (f15_ok a1 h6) (ap (Qm h7) (ap2 (Qx h10) (ap4 (Qx h10) an)))))) rfl
 ·obtain rfl:=Qd h;exact rK Qh 2 [j3,([],[jH 1 (jI x5)],[]),j3,j3] [some true] [.mat 4 4] [2] [4,5] .ret ((f12r2n0E a1 (.ret x5 [])).2) (ap (f15_ok a1 h6) (ap (Qx h7) an)) rfl
noncomputable def f12r2(a1:Qj):Option (Int×(List Qa)):=(f12r2n0 a1).bind fun o=>match o with
 | .ret v100 v101=>some (v100,v101)
theorem f12r2_ok(a1:Qj){r:Int×(List Qa)}(h:f12r2 a1=some r):Qo Tryd.prog true 12 [(jA Qj.cells a1),(jA Qj.cells a1)] [] (.tup [(.own 0),(jI r.1)]) [jR 4 Qa.cells r.2]:=by
 unfold f12r2 at h;obtain ⟨o,ho,h⟩:=Qe h;cases o with
 | ret v100 v101 =>
  obtain rfl:=Qd h;exact Qo.shared Qh (f:=Tryd.f12) (c:=c12) (by kernel_rfl) (by kernel_rfl) (by kernel_rfl) ((f12r2n0_ok a1 ho).mono fun r e=>by subst e; exact ⟨.inl rfl,by kernel_rfl,by kernel_rfl⟩)

noncomputable def c8:Code:=Tryd.f8.body.getD .skip
inductive f8n3O where
 | norm (v208:Bool)
def f8n3E(bi1:Bool)(bd2:Int)(bv3 bv4:Qj×Int)(bm5:Int×(List Qa)):f8n3O→Ex×Tr×Hp
 | .norm v208=>(.norm,mkS [(11,(jB bi1)),(12,(.bp 0 0)),(14,(.bp 1 0)),(16,(.own 2)),(20,(jI bd2)),(157,(jB v208))],[some (.box 24 ((Qj.cells bv3.1).map .pl)),some (.box 24 ((Qj.cells bv4.1).map .pl)),jR 4 Qa.cells bm5.2])
def f8n3S(bi1:Bool)(bd2:Int)(bv3 bv4:Qj×Int)(bm5:Int×(List Qa)):Tr×Hp:=(mkS [(11,(jB bi1)),(12,(.bp 0 0)),(14,(.bp 1 0)),(16,(.own 2)),(20,(jI bd2))],[some (.box 24 ((Qj.cells bv3.1).map .pl)),some (.box 24 ((Qj.cells bv4.1).map .pl)),jR 4 Qa.cells bm5.2])
noncomputable def f8n3(bi1:Bool)(bd2:Int)(bv3 bv4:Qj×Int)(bm5:Int×(List Qa)):Option f8n3O :=
 (at? bm5.2 bd2).bind fun x192 =>
 bif decide (x192.In<0) then
  some (.norm true)
 else
  bif decide (x192.Out<0) then
   some (.norm true)
  else
   bif decide (x192.In=0) then
    bif decide (x192.Out=0) then
     some (.norm true)
    else
     bif decide (0<bd2) then
      (at? bm5.2 (wr64 (bd2-1))).bind fun x199 =>
      (f29 x199 x192).bind fun x201 =>
      some (.norm (!x201))
     else
      some (.norm false)
   else
    bif decide (0<bd2) then
     (at? bm5.2 (wr64 (bd2-1))).bind fun x204 =>
     (f29 x204 x192).bind fun x206 =>
     some (.norm (!x206))
    else
     some (.norm false)
theorem f8n3_ok(bi1:Bool)(bd2:Int)(bv3 bv4:Qj×Int)(bm5:Int×(List Qa)){o:f8n3O}(h:f8n3 bi1 bd2 bv3 bv4 bm5=some o):T Tryd.prog Tryd.f8.ntmps 0 (cL (Qn 0 (cL (cL (Qn 1 (cL (cL (Qn 1 (cL (Qn 0 (Qn 3 (Qn 6 c8)))))))))))) (f8n3S bi1 bd2 bv3 bv4 bm5) (·=f8n3E bi1 bd2 bv3 bv4 bm5 o):=by
 unfold f8n3 at h;obtain ⟨x192,h193,h⟩:=Qe h;rcases Qg h with ⟨h194,h⟩|⟨h194,h⟩
 ·obtain rfl:=Qd h;exact rE Qh [(jT [7,8,9,10,11,12],[(2,.at_ (Int.toNat bd2)),(4,.idx 0 (Qa.cells x192)),(13,.bool true)],[])] [] [] [0,1,2] [11,12,14,16,20,157] (.norm,(f8n3E bi1 bd2 bv3 bv4 bm5 (.norm true)).2) (ap (Qk h193).1 (ap (Qau Qa.cells (Qk h193).2) (ap (Qt Qa.cells (Qk h193).2) (ap3 h194 (ap4 h194 an))))) rfl
 ·rcases Qg h with ⟨h195,h⟩|⟨h195,h⟩
  ·obtain rfl:=Qd h;exact rE Qh [(jF [7,8,9,10,11,12]++jT [15,16,17,18,19,20,21,28],[(2,.at_ (Int.toNat bd2)),(4,.idx 0 (Qa.cells x192)),(9,.at_ (Int.toNat bd2)),(11,.idx 0 (Qa.cells x192)),(13,.bool false),(29,.bool true)],[])] [] [] [0,1,2] [11,12,14,16,20,157] (.norm,(f8n3E bi1 bd2 bv3 bv4 bm5 (.norm true)).2) (ap (Qk h193).1 (ap (Qau Qa.cells (Qk h193).2) (ap (Qt Qa.cells (Qk h193).2) (ap3 h194 (ap (Qk h193).1 (ap (Qau Qa.cells (Qk h193).2) (ap2 h194 (ap (Qt Qa.cells (Qk h193).2) (ap2 h194 (ap h195 (ap4 h195 (ap4 h195 an)))))))))))) rfl
  ·rcases Qg h with ⟨h196,h⟩|⟨h196,h⟩
   ·rcases Qg h with ⟨h197,h⟩|⟨h197,h⟩
    ·obtain rfl:=Qd h
     exact rE Qh [(jF [7,8,9,10,11,12,15,16,17,18,19,20,21,28]++jT [22,23,24,25,26,27,31,32,33,45],[(2,.at_ (Int.toNat bd2)),(4,.idx 0 (Qa.cells x192)),(9,.at_ (Int.toNat bd2)),(11,.idx 0 (Qa.cells x192)),(13,.bool false),(17,.at_ (Int.toNat bd2)),(19,.idx 0 (Qa.cells x192)),(24,.at_ (Int.toNat bd2)),(26,.idx 0 (Qa.cells x192)),(28,.bool true),(29,.bool false),(46,.bool true)],[])] [] [] [0,1,2] [11,12,14,16,20,157] (.norm,(f8n3E bi1 bd2 bv3 bv4 bm5 (.norm true)).2) (ap (Qk h193).1 (ap (Qau Qa.cells (Qk h193).2) (ap (Qt Qa.cells (Qk h193).2) (ap3 h194 (ap (Qk h193).1 (ap (Qau Qa.cells (Qk h193).2) (ap2 h194 (ap (Qt Qa.cells (Qk h193).2) (ap2 h194 (ap3 h195 (ap (Qk h193).1 (ap (Qau Qa.cells (Qk h193).2) (ap2 h195 (ap (Qt Qa.cells (Qk h193).2) (ap2 h195 (ap3 h196 (ap (Qk h193).1 (ap (Qau Qa.cells (Qk h193).2) (ap2 h196 (ap (Qt Qa.cells (Qk h193).2) (ap h196 (ap h195 (ap h196 (ap h195 (ap h197 (ap4 h197 an)))))))))))))))))))))))))) rfl
    ·rcases Qg h with ⟨h198,h⟩|⟨h198,h⟩
     ·obtain ⟨x199,h200,h⟩:=Qe h;obtain ⟨x201,h202,h⟩:=Qe h;obtain rfl:=Qd h
      exact rE Qh [(jF [7,8,9,10,11,12,15,16,17,18,19,20,21,28,31,32,33,45]++jT [22,23,24,25,26,27,34,35,36,37,38,39,40,41,42,43,44],[(2,.at_ (Int.toNat bd2)),(4,.idx 0 (Qa.cells x192)),(9,.at_ (Int.toNat bd2)),(11,.idx 0 (Qa.cells x192)),(13,.bool false),(17,.at_ (Int.toNat bd2)),(19,.idx 0 (Qa.cells x192)),(24,.at_ (Int.toNat bd2)),(26,.idx 0 (Qa.cells x192)),(28,.bool true),(29,.bool false),(37,.at_ (Int.toNat (wr64 (bd2-1)))),(38,.idx 0 (Qa.cells x199)),(41,.at_ (Int.toNat bd2)),(42,.idx 0 (Qa.cells x192)),jH 43 (jB x201),(45,.bool true),(46,.bool false)],[])] [] [] [0,1,2] [11,12,14,16,20,157] (.norm,(f8n3E bi1 bd2 bv3 bv4 bm5 (.norm (!x201))).2) (ap (Qk h193).1 (ap (Qau Qa.cells (Qk h193).2) (ap (Qt Qa.cells (Qk h193).2) (ap3 h194 (ap (Qk h193).1 (ap (Qau Qa.cells (Qk h193).2) (ap2 h194 (ap (Qt Qa.cells (Qk h193).2) (ap2 h194 (ap3 h195 (ap (Qk h193).1 (ap (Qau Qa.cells (Qk h193).2) (ap2 h195 (ap (Qt Qa.cells (Qk h193).2) (ap2 h195 (ap3 h196 (ap (Qk h193).1 (ap (Qau Qa.cells (Qk h193).2) (ap2 h196 (ap (Qt Qa.cells (Qk h193).2) (ap h196 (ap h195 (ap h196 (ap h195 (ap3 h197 (ap4 h198 (ap (Qk h200).1 (ap (Qau Qa.cells (Qk h200).2) (ap h198 (ap (Qt Qa.cells (Qk h200).2) (ap3 h198 (ap (Qk h193).1 (ap (Qau Qa.cells (Qk h193).2) (ap h198 (ap (Qt Qa.cells (Qk h193).2) (ap2 h198 (ap h197 (ap h198 (ap h197 (ap (f29_ok x199 x192 h202) an)))))))))))))))))))))))))))))))))))))))) rfl
     ·obtain rfl:=Qd h
      exact rE Qh [(jF [7,8,9,10,11,12,15,16,17,18,19,20,21,28,31,32,33,34,35,36,37,38,39,40,41,42,43,44,45]++jT [22,23,24,25,26,27],[(2,.at_ (Int.toNat bd2)),(4,.idx 0 (Qa.cells x192)),(9,.at_ (Int.toNat bd2)),(11,.idx 0 (Qa.cells x192)),(13,.bool false),(17,.at_ (Int.toNat bd2)),(19,.idx 0 (Qa.cells x192)),(24,.at_ (Int.toNat bd2)),(26,.idx 0 (Qa.cells x192)),(28,.bool true),(29,.bool false),(45,.bool false),(46,.bool false)],[])] [] [] [0,1,2] [11,12,14,16,20,157] (.norm,(f8n3E bi1 bd2 bv3 bv4 bm5 (.norm false)).2) (ap (Qk h193).1 (ap (Qau Qa.cells (Qk h193).2) (ap (Qt Qa.cells (Qk h193).2) (ap3 h194 (ap (Qk h193).1 (ap (Qau Qa.cells (Qk h193).2) (ap2 h194 (ap (Qt Qa.cells (Qk h193).2) (ap2 h194 (ap3 h195 (ap (Qk h193).1 (ap (Qau Qa.cells (Qk h193).2) (ap2 h195 (ap (Qt Qa.cells (Qk h193).2) (ap2 h195 (ap3 h196 (ap (Qk h193).1 (ap (Qau Qa.cells (Qk h193).2) (ap2 h196 (ap (Qt Qa.cells (Qk h193).2) (ap h196 (ap h195 (ap h196 (ap h195 (ap3 h197 (ap3 h198 (ap4 h198 (ap4 h198 (ap h197 (ap h198 (ap h197 an))))))))))))))))))))))))))))))) rfl
   ·rcases Qg h with ⟨h203,h⟩|⟨h203,h⟩
    ·obtain ⟨x204,h205,h⟩:=Qe h;obtain ⟨x206,h207,h⟩:=Qe h;obtain rfl:=Qd h
     exact rE Qh [(jF [7,8,9,10,11,12,15,16,17,18,19,20,21,22,23,24,25,26,27,28]++jT [34,35,36,37,38,39,40,41,42,43,44],[(2,.at_ (Int.toNat bd2)),(4,.idx 0 (Qa.cells x192)),(9,.at_ (Int.toNat bd2)),(11,.idx 0 (Qa.cells x192)),(13,.bool false),(17,.at_ (Int.toNat bd2)),(19,.idx 0 (Qa.cells x192)),(28,.bool false),(29,.bool false),(37,.at_ (Int.toNat (wr64 (bd2-1)))),(38,.idx 0 (Qa.cells x204)),(41,.at_ (Int.toNat bd2)),(42,.idx 0 (Qa.cells x192)),jH 43 (jB x206),(45,.bool true)],[])] [] [] [0,1,2] [11,12,14,16,20,157] (.norm,(f8n3E bi1 bd2 bv3 bv4 bm5 (.norm (!x206))).2) (ap (Qk h193).1 (ap (Qau Qa.cells (Qk h193).2) (ap (Qt Qa.cells (Qk h193).2) (ap3 h194 (ap (Qk h193).1 (ap (Qau Qa.cells (Qk h193).2) (ap2 h194 (ap (Qt Qa.cells (Qk h193).2) (ap2 h194 (ap3 h195 (ap (Qk h193).1 (ap (Qau Qa.cells (Qk h193).2) (ap2 h195 (ap (Qt Qa.cells (Qk h193).2) (ap2 h195 (ap2 h196 (ap4 h196 (ap h195 (ap h196 (ap h195 (ap4 h203 (ap (Qk h205).1 (ap (Qau Qa.cells (Qk h205).2) (ap h203 (ap (Qt Qa.cells (Qk h205).2) (ap3 h203 (ap (Qk h193).1 (ap (Qau Qa.cells (Qk h193).2) (ap h203 (ap (Qt Qa.cells (Qk h193).2) (ap3 h203 (ap (f29_ok x204 x192 h207) an)))))))))))))))))))))))))))))))) rfl
    ·obtain rfl:=Qd h
     exact rE Qh [(jF [7,8,9,10,11,12,15,16,17,18,19,20,21,22,23,24,25,26,27,28,34,35,36,37,38,39,40,41,42,43,44],[(2,.at_ (Int.toNat bd2)),(4,.idx 0 (Qa.cells x192)),(9,.at_ (Int.toNat bd2)),(11,.idx 0 (Qa.cells x192)),(13,.bool false),(17,.at_ (Int.toNat bd2)),(19,.idx 0 (Qa.cells x192)),(28,.bool false),(29,.bool false),(45,.bool false)],[])] [] [] [0,1,2] [11,12,14,16,20,157] (.norm,(f8n3E bi1 bd2 bv3 bv4 bm5 (.norm false)).2) (ap (Qk h193).1 (ap (Qau Qa.cells (Qk h193).2) (ap (Qt Qa.cells (Qk h193).2) (ap3 h194 (ap (Qk h193).1 (ap (Qau Qa.cells (Qk h193).2) (ap2 h194 (ap (Qt Qa.cells (Qk h193).2) (ap2 h194 (ap3 h195 (ap (Qk h193).1 (ap (Qau Qa.cells (Qk h193).2) (ap2 h195 (ap (Qt Qa.cells (Qk h193).2) (ap2 h195 (ap2 h196 (ap4 h196 (ap h195 (ap h196 (ap h195 (ap4 h203 (ap4 h203 (ap4 h203 an))))))))))))))))))))))) rfl
inductive f8n2O where
 | norm
 | ret
def f8n2E(bi1:Bool)(bd2:Int)(bv3 bv4:Qj×Int)(bm5:Int×(List Qa)):f8n2O→Ex×Tr×Hp
 | .norm=>(.norm,mkS [(11,(jB bi1)),(12,(.bp 0 0)),(14,(.bp 1 0)),(16,(.own 2)),(20,(jI bd2))],[some (.box 24 ((Qj.cells bv3.1).map .pl)),some (.box 24 ((Qj.cells bv4.1).map .pl)),jR 4 Qa.cells bm5.2])
 | .ret=>(.ret,mkS [(10,(jB false))],[])
def f8n2S(bi1:Bool)(bd2:Int)(bv3 bv4:Qj×Int)(bm5:Int×(List Qa)):Tr×Hp:=(mkS [(11,(jB bi1)),(12,(.bp 0 0)),(14,(.bp 1 0)),(16,(.own 2)),(20,(jI bd2))],[some (.box 24 ((Qj.cells bv3.1).map .pl)),some (.box 24 ((Qj.cells bv4.1).map .pl)),jR 4 Qa.cells bm5.2])
noncomputable def f8n2(bi1:Bool)(bd2:Int)(bv3 bv4:Qj×Int)(bm5:Int×(List Qa)):Option f8n2O :=
 (f8n3 bi1 bd2 bv3 bv4 bm5).bind fun o209=>match o209 with
 | .norm v211=>bif v211 then
   some .ret
  else
   some .norm
theorem f8n2_ok(bi1:Bool)(bd2:Int)(bv3 bv4:Qj×Int)(bm5:Int×(List Qa)){o:f8n2O}(h:f8n2 bi1 bd2 bv3 bv4 bm5=some o):T Tryd.prog Tryd.f8.ntmps 0 (cL (Qn 1 (cL (cL (Qn 1 (cL (Qn 0 (Qn 3 (Qn 6 c8))))))))) (f8n2S bi1 bd2 bv3 bv4 bm5) (·=f8n2E bi1 bd2 bv3 bv4 bm5 o):=by
 unfold f8n2 at h;refine T.block' (i:=1) (by kernel_rfl) ?_;refine rN Qh 0 [] [] [] [0,1,2] [11,12,14,16,20] (f8n3S bi1 bd2 bv3 bv4 bm5) an ?_;obtain ⟨o209,h210,h⟩:=Qe h;cases o209 with
 | norm v211 =>
  refine T.oneN (by kernel_rfl) (f8n3_ok bi1 bd2 bv3 bv4 bm5 h210) (st2:=(f8n3E bi1 bd2 bv3 bv4 bm5 (.norm v211)).2) rfl ?_;rcases Qg h with ⟨h213,h⟩|⟨h213,h⟩
  ·obtain rfl:=Qd h;exact rE Qh [j3] [some true] [] [] [10] (.ret,(f8n2E bi1 bd2 bv3 bv4 bm5 .ret).2) (ap h213 an) rfl
  ·obtain rfl:=Qd h;exact rE Qh [] [some false] [] [0,1,2] [11,12,14,16,20] (.norm,(f8n2E bi1 bd2 bv3 bv4 bm5 .norm).2) (ap h213 an) rfl
inductive f8n4O where
 | exit0
 | ret
def f8n4E(bi1:Bool)(bv2 bv3:Qj×Int)(bm4:Int×(List Qa)):f8n4O→Ex×Tr×Hp
 | .exit0=>((.exit 0),mkS [(11,(jB bi1)),(12,(.bp 0 0)),(14,(.bp 1 0)),(16,(.own 2))],[some (.box 24 ((Qj.cells bv2.1).map .pl)),some (.box 24 ((Qj.cells bv3.1).map .pl)),jR 4 Qa.cells bm4.2])
 | .ret=>(.ret,mkS [(10,(jB false))],[])
def f8n4S(bi1:Bool)(bv2 bv3:Qj×Int)(bm4:Int×(List Qa))(v139:Int):Tr×Hp:=(mkS [(11,(jB bi1)),(12,(.bp 0 0)),(14,(.bp 1 0)),(16,(.own 2)),(20,(jI v139))],[some (.box 24 ((Qj.cells bv2.1).map .pl)),some (.box 24 ((Qj.cells bv3.1).map .pl)),jR 4 Qa.cells bm4.2])
noncomputable def f8n4:Nat→Bool→Qj×Int→Qj×Int→Int×(List Qa)→Int→Option f8n4O
 | 0,_,_,_,_,_=>none
 | f+1,bi1,bv2,bv3,bm4,v139 =>
  bif decide (v139<(bm4.2.length:Int)) then
   (f8n2 bi1 v139 bv2 bv3 bm4).bind fun o214=>match o214 with
   | .norm=>(f8n4 f bi1 bv2 bv3 bm4 (wr64 (v139+1)))
   | .ret=>some .ret
  else
   some .exit0
theorem f8n4_ok:∀(f:Nat)(bi1:Bool)(bv2 bv3:Qj×Int)(bm4:Int×(List Qa))(v139:Int){o:f8n4O},f8n4 f bi1 bv2 bv3 bm4 v139=some o→TL Tryd.prog Tryd.f8.ntmps 0 f (cL (cL (Qn 1 (cL (Qn 0 (Qn 3 (Qn 6 c8))))))) (f8n4S bi1 bv2 bv3 bm4 v139) (·=f8n4E bi1 bv2 bv3 bm4 o)
 | 0,_,_,_,_,_,o,h=>by rw [f8n4] at h; cases h
 | f+1,bi1,bv2,bv3,bm4,v139,o,h=>by
  rw [f8n4] at h;refine TL.body (K:=fun s=>∃v139:Int,s=(f8n4S bi1 bv2 bv3 bm4 v139)∧f8n4 f bi1 bv2 bv3 bm4 v139=some o) ?_ (by rintro _ ⟨v139,rfl,hk⟩; exact f8n4_ok f _ _ _ _ _ hk);rcases Qg h with ⟨h141,h⟩|⟨h141,h⟩
  ·refine rN Qh 1 [([],[],[(2,.val (jI (bm4.2.length:Int)))])] [some true] [] [0,1,2] [11,12,14,16,20] (f8n2S bi1 v139 bv2 bv3 bm4) (ap (Qu (xs:=bm4.2) (c:=Qa.cells)) (ap h141 an)) ?_;obtain ⟨o214,h215,h⟩:=Qe h;cases o214 with
   | norm =>
    refine T.oneN (by kernel_rfl) (f8n2_ok bi1 v139 bv2 bv3 bm4 h215) (st2:=(f8n2E bi1 v139 bv2 bv3 bm4 .norm).2) rfl ?_;exact rE Qh [j3] [] [] [0,1,2] [11,12,14,16,20] (.norm,(f8n4S bi1 bv2 bv3 bm4 (wr64 (v139+1)))) an (Qv.norm ⟨(wr64 (v139+1)),rfl,h⟩)
   | ret =>
    obtain rfl:=Qd h;exact T.oneX' (by kernel_rfl) (f8n2_ok bi1 v139 bv2 bv3 bm4 h215) (tds:=[]) (m:=[]) (keep:=[10]) (st2:=(f8n4E bi1 bv2 bv3 bm4 .ret).2) (by kernel_rfl) an rfl (Qv.out rfl rfl)
  ·obtain rfl:=Qd h;exact rK Qh 1 [([],[],[(2,.val (jI (bm4.2.length:Int)))])] [some false] [] [0,1,2] [11,12,14,16] (.exit 0) ((f8n4E bi1 bv2 bv3 bm4 .exit0).2) (ap (Qu (xs:=bm4.2) (c:=Qa.cells)) (ap h141 an)) (Qv.out rfl rfl)
inductive f8n1O where
 | norm
 | ret
def f8n1E(bi1:Bool)(bv2 bv3:Qj×Int)(bm4:Int×(List Qa)):f8n1O→Ex×Tr×Hp
 | .norm=>(.norm,mkS [(11,(jB bi1)),(12,(.bp 0 0)),(14,(.bp 1 0)),(16,(.own 2))],[some (.box 24 ((Qj.cells bv2.1).map .pl)),some (.box 24 ((Qj.cells bv3.1).map .pl)),jR 4 Qa.cells bm4.2])
 | .ret=>(.ret,mkS [(10,(jB false))],[])
def f8n1S(bi1:Bool)(bv2 bv3:Qj×Int)(bm4:Int×(List Qa)):Tr×Hp:=(mkS [(11,(jB bi1)),(12,(.bp 0 0)),(14,(.bp 1 0)),(16,(.own 2))],[some (.box 24 ((Qj.cells bv2.1).map .pl)),some (.box 24 ((Qj.cells bv3.1).map .pl)),jR 4 Qa.cells bm4.2])
noncomputable def f8n1(bi1:Bool)(bv2 bv3:Qj×Int)(bm4:Int×(List Qa)):Option f8n1O :=
 (f8n4 FUEL bi1 bv2 bv3 bm4 0).bind fun o216=>match o216 with
 | .exit0=>some .norm
 | .ret=>some .ret
theorem f8n1_ok(bi1:Bool)(bv2 bv3:Qj×Int)(bm4:Int×(List Qa)){o:f8n1O}(h:f8n1 bi1 bv2 bv3 bm4=some o):T Tryd.prog Tryd.f8.ntmps 0 (cL (Qn 0 (Qn 3 (Qn 6 c8)))) (f8n1S bi1 bv2 bv3 bm4) (·=f8n1E bi1 bv2 bv3 bm4 o):=by
 unfold f8n1 at h;refine rN Qh 1 [j3] [] [] [0,1,2] [11,12,14,16,20] (f8n4S bi1 bv2 bv3 bm4 0) an ?_;obtain ⟨o216,h217,h⟩:=Qe h;cases o216 with
 | exit0 =>
  obtain rfl:=Qd h;exact T.last' (T.bl (i:=0) (by kernel_rfl) (by kernel_rfl) (f8n4_ok FUEL bi1 bv2 bv3 bm4 0 h217)) (tds:=[]) (m:=[0,1,2]) (keep:=[11,12,14,16]) (st2:=(f8n1E bi1 bv2 bv3 bm4 .norm).2) (by kernel_rfl) an rfl
 | ret =>
  obtain rfl:=Qd h;exact T.last' (T.bl (i:=0) (by kernel_rfl) (by kernel_rfl) (f8n4_ok FUEL bi1 bv2 bv3 bm4 0 h217)) (tds:=[]) (m:=[]) (keep:=[10]) (st2:=(f8n1E bi1 bv2 bv3 bm4 .ret).2) (by kernel_rfl) an rfl
inductive f8n6O where
 | exit2 (v284:Int)
 | ret
def f8n6E(bi1:Bool)(bv2 bv3:Qj×Int)(bm4:Int×(List Qa)):f8n6O→Ex×Tr×Hp
 | .exit2 v284=>((.exit 2),mkS [(11,(jB bi1)),(12,(.bp 0 0)),(14,(.bp 1 0)),(16,(.own 2)),(21,(jI v284))],[some (.box 24 ((Qj.cells bv2.1).map .pl)),some (.box 24 ((Qj.cells bv3.1).map .pl)),jR 4 Qa.cells bm4.2])
 | .ret=>(.ret,mkS [(10,(jB false))],[])
def f8n6S(bi1:Bool)(bv2 bv3:Qj×Int)(bm4:Int×(List Qa))(v262 v263:Int):Tr×Hp:=(mkS [(11,(jB bi1)),(12,(.bp 0 0)),(14,(.bp 1 0)),(16,(.own 2)),(21,(jI v262)),(22,(jI v263))],[some (.box 24 ((Qj.cells bv2.1).map .pl)),some (.box 24 ((Qj.cells bv3.1).map .pl)),jR 4 Qa.cells bm4.2])
noncomputable def f8n6:Nat→Bool→Qj×Int→Qj×Int→Int×(List Qa)→Int→Int→Option f8n6O
 | 0,_,_,_,_,_,_=>none
 | f+1,bi1,bv2,bv3,bm4,v262,v263 =>
  bif decide (v263<(bv3.1.Rows.length:Int)) then
   (at? bv3.1.Rows v263).bind fun x275 =>
   (f24 bv2.1.Rows x275.Account x275.Ccy).bind fun x277 =>
   (f24 bm4.2 x275.Account x275.Ccy).bind fun x279 =>
   bif (decide ((wr64 (x277.In+x279.In))=x275.In)) then
    bif (decide ((wr64 (x277.Out+x279.Out))=x275.Out)) then
     bif (Qa.eqb x279 (Qa.mk Qs Qs 0 0)) then
      (f8n6 f bi1 bv2 bv3 bm4 v262 (wr64 (v263+1)))
     else
      (f8n6 f bi1 bv2 bv3 bm4 (wr64 (v262+1)) (wr64 (v263+1)))
    else
     some .ret
   else
    some .ret
  else
   some (.exit2 v262)
theorem f8n6_ok:∀(f:Nat)(bi1:Bool)(bv2 bv3:Qj×Int)(bm4:Int×(List Qa))(v262 v263:Int){o:f8n6O},f8n6 f bi1 bv2 bv3 bm4 v262 v263=some o→TL Tryd.prog Tryd.f8.ntmps 0 f (cL (cL (Qn 1 (cL (Qn 1 (Qn 1 (Qn 0 (Qn 3 (Qn 6 c8))))))))) (f8n6S bi1 bv2 bv3 bm4 v262 v263) (·=f8n6E bi1 bv2 bv3 bm4 o)
 | 0,_,_,_,_,_,_,o,h=>by rw [f8n6] at h; cases h
 | f+1,bi1,bv2,bv3,bm4,v262,v263,o,h=>by
  rw [f8n6] at h;refine TL.body (K:=fun s=>∃v262:Int,∃v263:Int,s=(f8n6S bi1 bv2 bv3 bm4 v262 v263)∧f8n6 f bi1 bv2 bv3 bm4 v262 v263=some o) ?_ (by rintro _ ⟨v262,v263,rfl,hk⟩; exact f8n6_ok f _ _ _ _ _ _ hk);rcases Qg h with ⟨h265,h⟩|⟨h265,h⟩
  ·obtain ⟨x275,h276,h⟩:=Qe h;obtain ⟨x277,h278,h⟩:=Qe h;obtain ⟨x279,h280,h⟩:=Qe h;rcases Qg h with ⟨h281,h⟩|⟨h281,h⟩
   ·rcases Qg h with ⟨h282,h⟩|⟨h282,h⟩
    ·rcases Qg h with ⟨h283,h⟩|⟨h283,h⟩
     ·exact rE Qh [([],[],[(3,.val (jI (bv3.1.Rows.length:Int)))]),([],[(3,.idx (Int.toNat v263) (Qa.cells x275))],[]),([],[jH 6 (jA Qa.cells x277),jH 12 (jA Qa.cells x279)],[]),(jF [9,10,11,12,13,14,15,16],[(17,.bool false)],[]),([],[(2,.bool (Qa.eqb x279 (Qa.mk Qs Qs 0 0)))],[]),j3] [some true,some false,some false] [] [0,1,2] [11,12,14,16,21,22] (.norm,(f8n6S bi1 bv2 bv3 bm4 v262 (wr64 (v263+1)))) (ap (Qu (xs:=bv3.1.Rows) (c:=Qa.cells)) (ap h265 (ap (Qk h276).1 (ap (Qt Qa.cells (Qk h276).2) (ap (Qab (e:=⟨false,24,[(jL 4 Qa.cells bv2.1.Rows),(jS x275.Account),(jS x275.Ccy)],[],(jA Qa.cells x277),[]⟩) (f:=⟨false,24,[(jL 4 Qa.cells bm4.2),(jS x275.Account),(jS x275.Ccy)],[],(jA Qa.cells x279),[]⟩) (fun k=>by simp only [jL,jS,jI,jB,jA,Qa.cells_eq,Qa.map_eq,Qj.cells_eq,Qj.map_eq,Key_.cells_eq,Key_.map_eq,Qb.cells_eq,Qb.map_eq,Qc.cells_eq,Qc.map_eq,Qi.cells_eq,Qi.map_eq,Qf.cells_eq,Qf.map_eq,Qq.cells_eq,Qq.map_eq,List.cons.injEq,AV.pl.injEq,PV.str.injEq,PV.int.injEq,PV.bool.injEq,PV.agg.injEq,PV.sl.injEq,and_true,true_and] at k; have e0:x277=x279:=Option.some.inj (by rw [←h278,←h280]; first | exact congrArg _ k | (obtain ⟨k1,_⟩:=k; simp only [k1]; done) | simp only [k]); exact ⟨by rw [e0],rfl⟩)) (ap (f24_ok bv2.1.Rows x275.Account x275.Ccy h278) (ap (f24_ok bm4.2 x275.Account x275.Ccy h280) (ap (Qm h281) (ap4 (Qm h281) (ap4 (Qm h281) (ap (Qm h282) (ap (Qa.eqb_ok x279 (Qa.mk Qs Qs 0 0)) (ap (Qm h283) an))))))))))))) (Qv.norm ⟨v262,(wr64 (v263+1)),rfl,h⟩)
     ·exact rE Qh [([],[],[(3,.val (jI (bv3.1.Rows.length:Int)))]),([],[(3,.idx (Int.toNat v263) (Qa.cells x275))],[]),([],[jH 6 (jA Qa.cells x277),jH 12 (jA Qa.cells x279)],[]),(jF [9,10,11,12,13,14,15,16],[(17,.bool false)],[]),([],[(2,.bool (Qa.eqb x279 (Qa.mk Qs Qs 0 0)))],[]),j3,j3] [some true,some false,some true] [] [0,1,2] [11,12,14,16,21,22] (.norm,(f8n6S bi1 bv2 bv3 bm4 (wr64 (v262+1)) (wr64 (v263+1)))) (ap (Qu (xs:=bv3.1.Rows) (c:=Qa.cells)) (ap h265 (ap (Qk h276).1 (ap (Qt Qa.cells (Qk h276).2) (ap (Qab (e:=⟨false,24,[(jL 4 Qa.cells bv2.1.Rows),(jS x275.Account),(jS x275.Ccy)],[],(jA Qa.cells x277),[]⟩) (f:=⟨false,24,[(jL 4 Qa.cells bm4.2),(jS x275.Account),(jS x275.Ccy)],[],(jA Qa.cells x279),[]⟩) (fun k=>by simp only [jL,jS,jI,jB,jA,Qa.cells_eq,Qa.map_eq,Qj.cells_eq,Qj.map_eq,Key_.cells_eq,Key_.map_eq,Qb.cells_eq,Qb.map_eq,Qc.cells_eq,Qc.map_eq,Qi.cells_eq,Qi.map_eq,Qf.cells_eq,Qf.map_eq,Qq.cells_eq,Qq.map_eq,List.cons.injEq,AV.pl.injEq,PV.str.injEq,PV.int.injEq,PV.bool.injEq,PV.agg.injEq,PV.sl.injEq,and_true,true_and] at k; have e0:x277=x279:=Option.some.inj (by rw [←h278,←h280]; first | exact congrArg _ k | (obtain ⟨k1,_⟩:=k; simp only [k1]; done) | simp only [k]); exact ⟨by rw [e0],rfl⟩)) (ap (f24_ok bv2.1.Rows x275.Account x275.Ccy h278) (ap (f24_ok bm4.2 x275.Account x275.Ccy h280) (ap (Qm h281) (ap4 (Qm h281) (ap4 (Qm h281) (ap (Qm h282) (ap (Qa.eqb_ok x279 (Qa.mk Qs Qs 0 0)) (ap (Qx h283) an))))))))))))) (Qv.norm ⟨(wr64 (v262+1)),(wr64 (v263+1)),rfl,h⟩)
    ·obtain rfl:=Qd h
     exact rK Qh 2 [([],[],[(3,.val (jI (bv3.1.Rows.length:Int)))]),([],[(3,.idx (Int.toNat v263) (Qa.cells x275))],[]),([],[jH 6 (jA Qa.cells x277),jH 12 (jA Qa.cells x279)],[]),(jF [9,10,11,12,13,14,15,16],[(17,.bool false)],[]),j3] [some true,some true] [] [] [10] .ret ((f8n6E bi1 bv2 bv3 bm4 .ret).2) (ap (Qu (xs:=bv3.1.Rows) (c:=Qa.cells)) (ap h265 (ap (Qk h276).1 (ap (Qt Qa.cells (Qk h276).2) (ap (Qab (e:=⟨false,24,[(jL 4 Qa.cells bv2.1.Rows),(jS x275.Account),(jS x275.Ccy)],[],(jA Qa.cells x277),[]⟩) (f:=⟨false,24,[(jL 4 Qa.cells bm4.2),(jS x275.Account),(jS x275.Ccy)],[],(jA Qa.cells x279),[]⟩) (fun k=>by simp only [jL,jS,jI,jB,jA,Qa.cells_eq,Qa.map_eq,Qj.cells_eq,Qj.map_eq,Key_.cells_eq,Key_.map_eq,Qb.cells_eq,Qb.map_eq,Qc.cells_eq,Qc.map_eq,Qi.cells_eq,Qi.map_eq,Qf.cells_eq,Qf.map_eq,Qq.cells_eq,Qq.map_eq,List.cons.injEq,AV.pl.injEq,PV.str.injEq,PV.int.injEq,PV.bool.injEq,PV.agg.injEq,PV.sl.injEq,and_true,true_and] at k; have e0:x277=x279:=Option.some.inj (by rw [←h278,←h280]; first | exact congrArg _ k | (obtain ⟨k1,_⟩:=k; simp only [k1]; done) | simp only [k]); exact ⟨by rw [e0],rfl⟩)) (ap (f24_ok bv2.1.Rows x275.Account x275.Ccy h278) (ap (f24_ok bm4.2 x275.Account x275.Ccy h280) (ap (Qm h281) (ap4 (Qm h281) (ap4 (Qm h281) (ap (Qx h282) an))))))))))) (Qv.out rfl rfl)
   ·obtain rfl:=Qd h
    exact rK Qh 2 [([],[],[(3,.val (jI (bv3.1.Rows.length:Int)))]),([],[(3,.idx (Int.toNat v263) (Qa.cells x275))],[]),([],[jH 6 (jA Qa.cells x277),jH 12 (jA Qa.cells x279)],[]),(jT [9,10,11,12,13,14,15,16],[(17,.bool true)],[]),j3] [some true,none] [] [] [10] .ret ((f8n6E bi1 bv2 bv3 bm4 .ret).2) (ap (Qu (xs:=bv3.1.Rows) (c:=Qa.cells)) (ap h265 (ap (Qk h276).1 (ap (Qt Qa.cells (Qk h276).2) (ap (Qab (e:=⟨false,24,[(jL 4 Qa.cells bv2.1.Rows),(jS x275.Account),(jS x275.Ccy)],[],(jA Qa.cells x277),[]⟩) (f:=⟨false,24,[(jL 4 Qa.cells bm4.2),(jS x275.Account),(jS x275.Ccy)],[],(jA Qa.cells x279),[]⟩) (fun k=>by simp only [jL,jS,jI,jB,jA,Qa.cells_eq,Qa.map_eq,Qj.cells_eq,Qj.map_eq,Key_.cells_eq,Key_.map_eq,Qb.cells_eq,Qb.map_eq,Qc.cells_eq,Qc.map_eq,Qi.cells_eq,Qi.map_eq,Qf.cells_eq,Qf.map_eq,Qq.cells_eq,Qq.map_eq,List.cons.injEq,AV.pl.injEq,PV.str.injEq,PV.int.injEq,PV.bool.injEq,PV.agg.injEq,PV.sl.injEq,and_true,true_and] at k; have e0:x277=x279:=Option.some.inj (by rw [←h278,←h280]; first | exact congrArg _ k | (obtain ⟨k1,_⟩:=k; simp only [k1]; done) | simp only [k]); exact ⟨by rw [e0],rfl⟩)) (ap (f24_ok bv2.1.Rows x275.Account x275.Ccy h278) (ap (f24_ok bm4.2 x275.Account x275.Ccy h280) (ap (Qx h281) (ap4 (Qx h281) (ap4 (Qx h281) an)))))))))) (Qv.out rfl rfl)
  ·obtain rfl:=Qd h;exact rK Qh 1 [([],[],[(3,.val (jI (bv3.1.Rows.length:Int)))])] [some false] [] [0,1,2] [11,12,14,16,21] (.exit 2) ((f8n6E bi1 bv2 bv3 bm4 (.exit2 v262)).2) (ap (Qu (xs:=bv3.1.Rows) (c:=Qa.cells)) (ap h265 an)) (Qv.out rfl rfl)
noncomputable def f8n6L(bi1:Bool)(bv2 bv3:Qj×Int)(bm4:Int×(List Qa)):List Qa→Int→Int→Option f8n6O
 | [],v262,v263 =>
  some (.exit2 v262)
 | x0::rest,v262,v263 =>
  (f24 bv2.1.Rows x0.Account x0.Ccy).bind fun x277 =>
  (f24 bm4.2 x0.Account x0.Ccy).bind fun x279 =>
  bif (decide ((wr64 (x277.In+x279.In))=x0.In)) then
   bif (decide ((wr64 (x277.Out+x279.Out))=x0.Out)) then
    bif (Qa.eqb x279 (Qa.mk Qs Qs 0 0)) then
     (f8n6L bi1 bv2 bv3 bm4 rest v262 (v263+1))
    else
     (f8n6L bi1 bv2 bv3 bm4 rest (wr64 (v262+1)) (v263+1))
   else
    some .ret
  else
   some .ret
theorem f8n6L_eq(bi1:Bool)(bv2 bv3:Qj×Int)(bm4:Int×(List Qa)):∀(rest:List Qa)(f k:Nat)(v262:Int),bv3.1.Rows.drop k=rest→bv3.1.Rows.length≤maxLen→rest.length<f→f8n6 f bi1 bv2 bv3 bm4 v262 (k:Int)=f8n6L bi1 bv2 bv3 bm4 rest v262 (k:Int)
 | _,0,_,_,_,_,hf=>absurd hf (Nat.not_lt_zero _)
 | [],f+1,k,v262,hd,hm,hf=>by
  have hk:¬((k:Int)<(bv3.1.Rows.length:Int)):=by have:=Qak hd; omega
  rw [f8n6,f8n6L];simp only [decide_eq_false hk,cond_false]
 | x0::rest,f+1,k,v262,hd,hm,hf=>by
  obtain ⟨hx,hlt,hd'⟩:=Qaj hd;have hk:(k:Int)<(bv3.1.Rows.length:Int):=by omega
  have hw:wr64 ((k:Int)+1)=(k:Int)+1:=Qbk (by omega) (by unfold maxLen at hm; omega);have ih:∀(v262:Int),f8n6 f bi1 bv2 bv3 bm4 v262 ((k:Int)+1)=f8n6L bi1 bv2 bv3 bm4 rest v262 ((k:Int)+1):=fun v262=>f8n6L_eq bi1 bv2 bv3 bm4 rest f (k+1) v262 hd' hm (by simpa using hf);rw [f8n6,f8n6L];simp only [decide_eq_true hk,cond_true,at_nat,hx,Option.bind_some,hw,ih]
theorem f8n6_run(bi1:Bool)(bv2 bv3:Qj×Int)(bm4:Int×(List Qa))(v262:Int)(hm:bv3.1.Rows.length≤maxLen):f8n6 FUEL bi1 bv2 bv3 bm4 v262 0=f8n6L bi1 bv2 bv3 bm4 bv3.1.Rows v262 0:=f8n6L_eq bi1 bv2 bv3 bm4 bv3.1.Rows FUEL 0 v262 List.drop_zero hm (Qbi hm)
inductive f8n5O where
 | norm (v288:Int)
 | ret
def f8n5E(bi1:Bool)(bv2 bv3:Qj×Int)(bm4:Int×(List Qa)):f8n5O→Ex×Tr×Hp
 | .norm v288=>(.norm,mkS [(11,(jB bi1)),(12,(.bp 0 0)),(14,(.bp 1 0)),(16,(.own 2)),(21,(jI v288))],[some (.box 24 ((Qj.cells bv2.1).map .pl)),some (.box 24 ((Qj.cells bv3.1).map .pl)),jR 4 Qa.cells bm4.2])
 | .ret=>(.ret,mkS [(10,(jB false))],[])
def f8n5S(bi1:Bool)(bv2 bv3:Qj×Int)(bm4:Int×(List Qa)):Tr×Hp:=(mkS [(11,(jB bi1)),(12,(.bp 0 0)),(14,(.bp 1 0)),(16,(.own 2)),(21,(jI 0))],[some (.box 24 ((Qj.cells bv2.1).map .pl)),some (.box 24 ((Qj.cells bv3.1).map .pl)),jR 4 Qa.cells bm4.2])
noncomputable def f8n5(bi1:Bool)(bv2 bv3:Qj×Int)(bm4:Int×(List Qa)):Option f8n5O :=
 (f8n6 FUEL bi1 bv2 bv3 bm4 0 0).bind fun o285=>match o285 with
 | .exit2 v287=>some (.norm v287)
 | .ret=>some .ret
theorem f8n5_ok(bi1:Bool)(bv2 bv3:Qj×Int)(bm4:Int×(List Qa)){o:f8n5O}(h:f8n5 bi1 bv2 bv3 bm4=some o):T Tryd.prog Tryd.f8.ntmps 0 (cL (Qn 1 (Qn 1 (Qn 0 (Qn 3 (Qn 6 c8)))))) (f8n5S bi1 bv2 bv3 bm4) (·=f8n5E bi1 bv2 bv3 bm4 o):=by
 unfold f8n5 at h;refine rN Qh 1 [j3] [] [] [0,1,2] [11,12,14,16,21,22] (f8n6S bi1 bv2 bv3 bm4 0 0) an ?_;obtain ⟨o285,h286,h⟩:=Qe h;cases o285 with
 | exit2 v287 =>
  obtain rfl:=Qd h;exact T.last' (T.bl (i:=2) (by kernel_rfl) (by kernel_rfl) (f8n6_ok FUEL bi1 bv2 bv3 bm4 0 0 h286)) (tds:=[]) (m:=[0,1,2]) (keep:=[11,12,14,16,21]) (st2:=(f8n5E bi1 bv2 bv3 bm4 (.norm v287)).2) (by kernel_rfl) an rfl
 | ret =>
  obtain rfl:=Qd h;exact T.last' (T.bl (i:=2) (by kernel_rfl) (by kernel_rfl) (f8n6_ok FUEL bi1 bv2 bv3 bm4 0 0 h286)) (tds:=[]) (m:=[]) (keep:=[10]) (st2:=(f8n5E bi1 bv2 bv3 bm4 .ret).2) (by kernel_rfl) an rfl
inductive f8n0O where
 | ret (v296:Bool)
def f8n0E(a1:Qi)(a2 a3 a4 a5:Int):f8n0O→Ex×Tr×Hp
 | .ret v296=>(.ret,mkS [(10,(jB v296))],[])
def f8n0S(a1:Qi)(a2 a3 a4 a5:Int):Tr×Hp:=(Qae [(jA Qi.cells a1),(jI a2),(jI a3),(jI a4),(jI a5)] 0 .leaf,[])
noncomputable def f8n0(a1:Qi)(a2 a3 a4 a5:Int):Option f8n0O :=
 f17.bind fun x8 =>
 (f18 a1).bind fun x15 =>
 bif x15 then
  some (.ret x8)
 else
  bif decide (a5<a4) then
   some (.ret x8)
  else
   bif x8 then
    (f21 a1 a2 a3 a4).bind fun x22 =>
    (f21 a1 a2 a3 a5).bind fun x26 =>
    bif decide (x22.2=0) then
     bif decide (x26.2=0) then
      (f12r1 x22.1 x26.1).bind fun x36 =>
      (f12r2 x26.1).bind fun x40 =>
      bif decide (x36.1=0) then
       bif decide (x40.1=0) then
        bif decide ((x40.2.length:Int)=0) then
         (f8n1 x8 x22 x26 x36).bind fun o218=>match o218 with
         | .norm=>(f8n5 x8 x22 x26 x36).bind fun o289=>match o289 with
          | .norm v291=>bif decide (v291=(x36.2.length:Int)) then
            some (.ret (decide ((x22.1.Rows.length:Int)≤(x26.1.Rows.length:Int))))
           else
            some (.ret false)
          | .ret=>some (.ret false)
         | .ret=>some (.ret false)
        else
         some (.ret false)
       else
        some (.ret false)
      else
       some (.ret false)
     else
      some (.ret (decide ((x26.1.Rows.length:Int)=0)))
    else
     bif decide ((x22.1.Rows.length:Int)=0) then
      bif decide (x26.2=0) then
       some (.ret true)
      else
       some (.ret (decide ((x26.1.Rows.length:Int)=0)))
     else
      some (.ret false)
   else
    some (.ret x8)
theorem f8n0_ok(a1:Qi)(a2 a3 a4 a5:Int){o:f8n0O}(h:f8n0 a1 a2 a3 a4 a5=some o):T Tryd.prog Tryd.f8.ntmps 0 c8 (f8n0S a1 a2 a3 a4 a5) (·=f8n0E a1 a2 a3 a4 a5 o):=by
 unfold f8n0 at h;obtain ⟨x8,h9,h⟩:=Qe h;obtain ⟨x15,h16,h⟩:=Qe h;rcases Qg h with ⟨h17,h⟩|⟨h17,h⟩
 ·obtain rfl:=Qd h;exact rK Qh 3 [j3,([],[jH 0 (jB x8)],[]),(jT [3,4,5],[jH 1 (jB x15),(6,.bool true)],[]),j3] [none] [] [] [10] .ret ((f8n0E a1 a2 a3 a4 a5 (.ret x8)).2) (ap (f17_ok h9) (ap4 h17 (ap (f18_ok a1 h16) an))) rfl
 ·rcases Qg h with ⟨h18,h⟩|⟨h18,h⟩
  ·obtain rfl:=Qd h;exact rK Qh 3 [j3,([],[jH 0 (jB x8)],[]),(jF [3,4,5]++jT [8,9],[jH 1 (jB x15),(6,.bool false),(10,.bool true)],[]),j3] [none] [] [] [10] .ret ((f8n0E a1 a2 a3 a4 a5 (.ret x8)).2) (ap (f17_ok h9) (ap4 h17 (ap3 h18 (ap (f18_ok a1 h16) an)))) rfl
  ·rcases Qg h with ⟨h19,h⟩|⟨h19,h⟩
   ·obtain ⟨x22,h23,h⟩:=Qe h;obtain ⟨x26,h27,h⟩:=Qe h;rcases Qg h with ⟨h32,h⟩|⟨h32,h⟩
    ·rcases Qg h with ⟨h33,h⟩|⟨h33,h⟩
     ·refine rN Qh 6 [j3,([],[jH 0 (jB x8)],[]),(jF [3,4,5,8,9],[jH 1 (jB x15),(6,.bool false),(10,.bool false)],[]),([],[jH 4 (.tup [(jA Qj.cells x22.1),(jI x22.2)])],[]),([],[jH 4 (.tup [(jA Qj.cells x26.1),(jI x26.2)])],[]),([(3,false),(4,false)],[(5,.bool false)],[])] [some false,some false] [] [1,2] [11,12,14] (mkS [(11,(jB x8)),(12,(.bp 0 0)),(14,(.bp 1 0))],[some (.box 24 ((Qj.cells x22.1).map .pl)),some (.box 24 ((Qj.cells x26.1).map .pl))]) (ap (f17_ok h9) (ap4 h17 (ap3 h18 (ap (f18_ok a1 h16) (ap (Qm h19) (ap (f21_ok a1 a2 a3 a4 h23) (ap (f21_ok a1 a2 a3 a5 h27) (ap3 (Qm h32) (ap (Qm h33) an))))))))) ?_;obtain ⟨x36,h37,h⟩:=Qe h;obtain ⟨x40,h41,h⟩:=Qe h;rcases Qg h with ⟨h45,h⟩|⟨h45,h⟩
      ·rcases Qg h with ⟨h46,h⟩|⟨h46,h⟩
       ·rcases Qg h with ⟨h47,h⟩|⟨h47,h⟩
        ·refine rN Qh 3 [([],[(2,.call (.tup [(.own 2),(jI x36.1)]) [none,none,jR 4 Qa.cells x36.2])],[]),([],[(2,.call (.tup [(.own 3),(jI x40.1)]) (jN 3 [jR 4 Qa.cells x40.2]))],[]),(jF [3,4,7,8,9],[(5,.bool false),(10,.bool false)],[(8,.val (jI (x40.2.length:Int)))])] [some false] [] [0,1,2] [11,12,14,16] (mkS [(11,(jB x8)),(12,(.bp 0 0)),(14,(.bp 1 0)),(16,(.own 2))],[some (.box 24 ((Qj.cells x22.1).map .pl)),some (.box 24 ((Qj.cells x26.1).map .pl)),jR 4 Qa.cells x36.2]) (ap (Qo.rn 2 [] (f12r1_ok x22.1 x26.1 h37)) (ap (Qo.rn 3 [] (f12r2_ok x26.1 h41)) (ap3 (Qm h45) (ap2 (Qm h46) (ap (Qu (xs:=x40.2) (c:=Qa.cells)) (ap2 (Qm h46) (ap (Qm h47) an))))))) ?_;refine rN Qh 0 [] [] [] [0,1,2] [11,12,14,16] (f8n1S x8 x22 x26 x36) an ?_;obtain ⟨o218,h219,h⟩:=Qe h;cases o218 with
         | norm =>
          refine T.oneN (by kernel_rfl) (f8n1_ok x8 x22 x26 x36 h219) (st2:=(f8n1E x8 x22 x26 x36 .norm).2) rfl ?_;refine rN Qh 1 [j3] [] [] [0,1,2] [11,12,14,16,21] (f8n5S x8 x22 x26 x36) an ?_;obtain ⟨o289,h290,h⟩:=Qe h;cases o289 with
          | norm v291 =>
           refine T.oneN (by kernel_rfl) (f8n5_ok x8 x22 x26 x36 h290) (st2:=(f8n5E x8 x22 x26 x36 (.norm v291)).2) rfl ?_;rcases Qg h with ⟨h293,h⟩|⟨h293,h⟩
           ·obtain rfl:=Qd h;exact rE Qh [(jT [2,3,4,5,8,9,10,11,12,13,14],[(6,.bool true),(15,.bool true)],[(4,.val (jI (x36.2.length:Int))),(10,.val (jI (x22.1.Rows.length:Int))),(13,.val (jI (x26.1.Rows.length:Int)))])] [] [] [] [10] (.ret,(f8n0E a1 a2 a3 a4 a5 (.ret (decide ((x22.1.Rows.length:Int)≤(x26.1.Rows.length:Int))))).2) (ap3 h19 (ap (Qu (xs:=x36.2) (c:=Qa.cells)) (ap2 h19 (ap3 h293 (ap (Qu (xs:=x22.1.Rows) (c:=Qa.cells)) (ap3 h293 (ap (Qu (xs:=x26.1.Rows) (c:=Qa.cells)) (ap2 h293 an)))))))) rfl
           ·obtain rfl:=Qd h;exact rE Qh [(jF [8,9,10,11,12,13,14]++jT [2,3,4,5],[(6,.bool true),(15,.bool false)],[(4,.val (jI (x36.2.length:Int)))])] [] [] [] [10] (.ret,(f8n0E a1 a2 a3 a4 a5 (.ret false)).2) (ap3 h19 (ap (Qu (xs:=x36.2) (c:=Qa.cells)) (ap2 h19 (ap4 h293 (ap4 h293 an))))) rfl
          | ret =>
           obtain rfl:=Qd h;exact T.oneX' (by kernel_rfl) (f8n5_ok x8 x22 x26 x36 h290) (tds:=[]) (m:=[]) (keep:=[10]) (st2:=(f8n0E a1 a2 a3 a4 a5 (.ret false)).2) (by kernel_rfl) an rfl rfl
         | ret =>
          obtain rfl:=Qd h;exact T.oneX' (by kernel_rfl) (f8n1_ok x8 x22 x26 x36 h219) (tds:=[]) (m:=[]) (keep:=[10]) (st2:=(f8n0E a1 a2 a3 a4 a5 (.ret false)).2) (by kernel_rfl) an rfl rfl
        ·obtain rfl:=Qd h;exact rK Qh 3 [([],[(2,.call (.tup [(.own 2),(jI x36.1)]) [none,none,jR 4 Qa.cells x36.2])],[]),([],[(2,.call (.tup [(.own 3),(jI x40.1)]) (jN 3 [jR 4 Qa.cells x40.2]))],[]),(jF [3,4,7,8,9],[(5,.bool false),(10,.bool false)],[(8,.val (jI (x40.2.length:Int)))]),j3] [some true] [] [] [10] .ret ((f8n0E a1 a2 a3 a4 a5 (.ret false)).2) (ap (Qo.rn 2 [] (f12r1_ok x22.1 x26.1 h37)) (ap (Qo.rn 3 [] (f12r2_ok x26.1 h41)) (ap3 (Qm h45) (ap2 (Qm h46) (ap (Qu (xs:=x40.2) (c:=Qa.cells)) (ap2 (Qm h46) (ap (Qx h47) an))))))) rfl
       ·obtain rfl:=Qd h;exact rK Qh 3 [([],[(2,.call (.tup [(.own 2),(jI x36.1)]) [none,none,jR 4 Qa.cells x36.2])],[]),([],[(2,.call (.tup [(.own 3),(jI x40.1)]) (jN 3 [jR 4 Qa.cells x40.2]))],[]),(jF [3,4]++jT [7,8,9],[(5,.bool false),(10,.bool true)],[]),j3] [none] [] [] [10] .ret ((f8n0E a1 a2 a3 a4 a5 (.ret false)).2) (ap (Qo.rn 2 [] (f12r1_ok x22.1 x26.1 h37)) (ap (Qo.rn 3 [] (f12r2_ok x26.1 h41)) (ap3 (Qm h45) (ap4 (Qx h46) an)))) rfl
      ·obtain rfl:=Qd h;exact rK Qh 3 [([],[(2,.call (.tup [(.own 2),(jI x36.1)]) [none,none,jR 4 Qa.cells x36.2])],[]),([],[(2,.call (.tup [(.own 3),(jI x40.1)]) (jN 3 [jR 4 Qa.cells x40.2]))],[]),([(3,true),(4,true)],[(5,.bool true)],[]),j3] [none] [] [] [10] .ret ((f8n0E a1 a2 a3 a4 a5 (.ret false)).2) (ap (Qo.rn 2 [] (f12r1_ok x22.1 x26.1 h37)) (ap (Qo.rn 3 [] (f12r2_ok x26.1 h41)) (ap3 (Qx h45) an))) rfl
     ·obtain rfl:=Qd h;exact rK Qh 6 [j3,([],[jH 0 (jB x8)],[]),(jF [3,4,5,8,9],[jH 1 (jB x15),(6,.bool false),(10,.bool false)],[]),([],[jH 4 (.tup [(jA Qj.cells x22.1),(jI x22.2)])],[]),([],[jH 4 (.tup [(jA Qj.cells x26.1),(jI x26.2)])],[]),([(3,false),(4,false)],[(5,.bool false)],[]),(jF [15,16,17,18]++jT [2,3,4,5,6,7,8,9],[(9,.bool true),(10,.bool true),(19,.bool false)],[(17,.val (jI (x26.1.Rows.length:Int)))])] [some false,some true] [] [] [10] .ret ((f8n0E a1 a2 a3 a4 a5 (.ret (decide ((x26.1.Rows.length:Int)=0)))).2) (ap (f17_ok h9) (ap4 h17 (ap3 h18 (ap (f18_ok a1 h16) (ap (Qm h19) (ap (f21_ok a1 a2 a3 a4 h23) (ap (f21_ok a1 a2 a3 a5 h27) (ap3 (Qm h32) (ap (Qx h33) (ap3 h19 (ap4 h32 (ap h19 (ap h32 (ap h19 (ap3 h33 (ap (Qu (xs:=x26.1.Rows) (c:=Qa.cells)) (ap2 h33 an))))))))))))))))) rfl
    ·rcases Qg h with ⟨h294,h⟩|⟨h294,h⟩
     ·rcases Qg h with ⟨h295,h⟩|⟨h295,h⟩
      ·obtain rfl:=Qd h;exact rK Qh 6 [j3,([],[jH 0 (jB x8)],[]),(jF [3,4,5,8,9],[jH 1 (jB x15),(6,.bool false),(10,.bool false)],[]),([],[jH 4 (.tup [(jA Qj.cells x22.1),(jI x22.2)])],[]),([],[jH 4 (.tup [(jA Qj.cells x26.1),(jI x26.2)])],[]),([(3,true),(4,true)],[(5,.bool true)],[]),(jF [5,6,7,8]++jT [2,3,4,9,12,13,14,15,16,17,18,19],[(9,.bool false),(10,.bool true),(19,.bool true),(20,.bool true)],[(7,.val (jI (x22.1.Rows.length:Int)))])] [some false,none] [] [] [10] .ret ((f8n0E a1 a2 a3 a4 a5 (.ret true)).2) (ap (f17_ok h9) (ap4 h17 (ap3 h18 (ap (f18_ok a1 h16) (ap (Qm h19) (ap (f21_ok a1 a2 a3 a4 h23) (ap (f21_ok a1 a2 a3 a5 h27) (ap3 (Qx h32) (ap3 h19 (ap3 h32 (ap (Qu (xs:=x22.1.Rows) (c:=Qa.cells)) (ap h32 (ap h19 (ap h32 (ap h19 (ap3 h294 (ap4 h295 (ap h294 (ap h295 (ap h294 an)))))))))))))))))))) rfl
      ·obtain rfl:=Qd h
       exact rK Qh 6 [j3,([],[jH 0 (jB x8)],[]),(jF [3,4,5,8,9],[jH 1 (jB x15),(6,.bool false),(10,.bool false)],[]),([],[jH 4 (.tup [(jA Qj.cells x22.1),(jI x22.2)])],[]),([],[jH 4 (.tup [(jA Qj.cells x26.1),(jI x26.2)])],[]),([(3,true),(4,true)],[(5,.bool true)],[]),(jF [5,6,7,8,15,16,17,18]++jT [2,3,4,9,12,13,14,19],[(9,.bool false),(10,.bool true),(19,.bool false),(20,.bool true)],[(7,.val (jI (x22.1.Rows.length:Int))),(17,.val (jI (x26.1.Rows.length:Int)))])] [some false,none] [] [] [10] .ret ((f8n0E a1 a2 a3 a4 a5 (.ret (decide ((x26.1.Rows.length:Int)=0)))).2) (ap (f17_ok h9) (ap4 h17 (ap3 h18 (ap (f18_ok a1 h16) (ap (Qm h19) (ap (f21_ok a1 a2 a3 a4 h23) (ap (f21_ok a1 a2 a3 a5 h27) (ap3 (Qx h32) (ap3 h19 (ap3 h32 (ap (Qu (xs:=x22.1.Rows) (c:=Qa.cells)) (ap h32 (ap h19 (ap h32 (ap h19 (ap3 h294 (ap3 h295 (ap (Qu (xs:=x26.1.Rows) (c:=Qa.cells)) (ap h295 (ap h294 (ap h295 (ap h294 an)))))))))))))))))))))) rfl
     ·obtain rfl:=Qd h;exact rK Qh 6 [j3,([],[jH 0 (jB x8)],[]),(jF [3,4,5,8,9],[jH 1 (jB x15),(6,.bool false),(10,.bool false)],[]),([],[jH 4 (.tup [(jA Qj.cells x22.1),(jI x22.2)])],[]),([],[jH 4 (.tup [(jA Qj.cells x26.1),(jI x26.2)])],[]),([(3,true),(4,true)],[(5,.bool true)],[]),(jF [5,6,7,8,12,13,14,19]++jT [2,3,4,9],[(9,.bool false),(10,.bool true),(20,.bool false)],[(7,.val (jI (x22.1.Rows.length:Int)))])] [some false,none] [] [] [10] .ret ((f8n0E a1 a2 a3 a4 a5 (.ret false)).2) (ap (f17_ok h9) (ap4 h17 (ap3 h18 (ap (f18_ok a1 h16) (ap (Qm h19) (ap (f21_ok a1 a2 a3 a4 h23) (ap (f21_ok a1 a2 a3 a5 h27) (ap3 (Qx h32) (ap3 h19 (ap3 h32 (ap (Qu (xs:=x22.1.Rows) (c:=Qa.cells)) (ap h32 (ap h19 (ap h32 (ap h19 (ap h294 (ap4 h294 an))))))))))))))))) rfl
   ·obtain rfl:=Qd h;exact rK Qh 3 [j3,([],[jH 0 (jB x8)],[]),(jF [3,4,5,8,9],[jH 1 (jB x15),(6,.bool false),(10,.bool false)],[]),j3] [some true] [] [] [10] .ret ((f8n0E a1 a2 a3 a4 a5 (.ret x8)).2) (ap (f17_ok h9) (ap4 h17 (ap3 h18 (ap (f18_ok a1 h16) (ap (Qx h19) an))))) rfl
noncomputable def f8(a1:Qi)(a2 a3 a4 a5:Int):Option Bool:=(f8n0 a1 a2 a3 a4 a5).bind fun o=>match o with
 | .ret v296=>some v296
theorem f8_ok(a1:Qi)(a2 a3 a4 a5:Int){r:Bool}(h:f8 a1 a2 a3 a4 a5=some r):Qo Tryd.prog false 8 [(jA Qi.cells a1),(jI a2),(jI a3),(jI a4),(jI a5)] [] (jB r) []:=by
 unfold f8 at h;obtain ⟨o,ho,h⟩:=Qe h;cases o with
 | ret v296 =>
  obtain rfl:=Qd h;exact Qo.plain Qh (f:=Tryd.f8) (c:=c8) (by kernel_rfl) (by kernel_rfl) (by kernel_rfl) (by kernel_rfl) ((f8n0_ok a1 a2 a3 a4 a5 ho).mono fun r e=>by subst e; exact ⟨.inl rfl,(jB v296),(jB v296),by kernel_rfl,by kernel_rfl,((Wk.refl _):Wk (jB v296) (jB v296))⟩)
end Go.Proofs.YtfeklaffeigilaaDoor
namespace Go.Proofs.YtfeklaffeigilaaDoor
set_option linter.unusedVariables false
set_option linter.unusedSimpArgs false
open Go.RowKit
abbrev RW:=Qa
abbrev KY:=Key_
section
variable {α:Type} {lt:α→α→Bool}
theorem srt_uniq(o:SWo lt){a b:List α}(ha:a.Pairwise fun x y=>lt x y=true)(hb:b.Pairwise fun x y=>lt x y=true)(h:∀z,z∈a↔z∈b):a=b:=by
 have nd:∀{l:List α},l.Pairwise (fun x y=>lt x y=true)→l.Nodup:=fun h=>h.imp fun {x y} k e=>by rw [e,o.irr] at k; cases k
 have hp:b.Perm a:=(List.perm_ext_iff_of_nodup (nd hb) (nd ha)).2 fun z=>(h z).symm;have sd:∀{l:List α},l.Pairwise (fun x y=>lt x y=true)→Sd lt l:=fun h=>h.imp fun {x y} k=>o.asym k;have hn:a.Pairwise fun x y=>eqv lt x y=false:=ha.imp fun {x y} k=>by unfold eqv; rw [k]; rfl
 exact sorted_one o (sd ha) (sd hb) (Cl.of_perm hp hn o)
end
def rwC(a b:RW):Int:=cmpOr (cmpB a.Account b.Account) (cmpB a.Ccy b.Ccy)
theorem rwC_cmp:Cmp rwC:=(Cmp.str Qa.Account).lex (Cmp.str Qa.Ccy)
abbrev ltR:RW→RW→Bool:=fun x y=>decide (rwC x y<0)
theorem swoR:SWo ltR:=rwC_cmp.swo
theorem cmpOr_zero{a b:Int} : cmpOr a b=0↔a=0∧b=0:=by
 unfold cmpOr
 by_cases h:a=0
 ·rw [decide_eq_true h]; simp [h]
 ·rw [decide_eq_false h]; simp [h]
theorem rwC_zero{a b:RW} : rwC a b=0↔a.Account=b.Account∧a.Ccy=b.Ccy:=by
 unfold rwC;rw [cmpOr_zero,cmpB_zero,cmpB_zero]
abbrev sameR(a b:RW):Prop:=a.Account=b.Account∧a.Ccy=b.Ccy
theorem lt_same_l{a b c:RW}(h:sameR a b):ltR a c=ltR b c:=by unfold ltR rwC; rw [h.1,h.2]
theorem lt_same_r{a b c:RW}(h:sameR a b):ltR c a=ltR c b:=by unfold ltR rwC; rw [h.1,h.2]
theorem Qcf{a b:RW}(h:sameR a b):ltR a b=false:=by rw [lt_same_l h]; exact swoR.irr b
theorem lt_tot{a b:RW}(h:ltR a b=false)(k:ltR b a=false):sameR a b:=by
 exact rwC_zero.1 (rwC_cmp.tot (of_decide_eq_false h) (of_decide_eq_false k))
def befR(a b:RW):Bool:=bif seq a.Account b.Account then slt a.Ccy b.Ccy else slt a.Account b.Account
theorem bef_lt(a b:RW):befR a b=ltR a b:=by
 unfold befR ltR rwC cmpOr;cases h:seq a.Account b.Account with
 | true =>
  rw [cond_true,decide_eq_true (cmpB_zero.2 (seq_iff.1 h)),cond_true];rw [Bool.eq_iff_iff,decide_eq_true_eq,cmpB_neg]
 | false =>
  have:cmpB a.Account b.Account≠0:=fun e=>by rw [cmpB_zero.1 e,seq_refl] at h; cases h
  rw [cond_false,decide_eq_false this,cond_false,Bool.eq_iff_iff,decide_eq_true_eq,cmpB_neg]

def addR(x y:RW):RW:=⟨x.Account,x.Ccy,wr64 (x.In+y.In),wr64 (x.Out+y.Out)⟩
def Qca:List RW→RW→List RW
 | [],x=>[x]
 | y::r,x=>bif ltR y x then y::Qca r x else bif ltR x y then x::y::r else addR x y::r
abbrev RwS(l:List RW):Prop:=l.Pairwise fun x y=>ltR x y=true
def getR(l:List RW)(x:RW):RW:=match l.find? (fun y=>!(ltR x y)&&!(ltR y x)) with | some y=>addR x y | none=>x
theorem with_mem{x:RW} : ∀{l:List RW},RwS l→∀z,z∈Qca l x↔(z∈l∧¬sameR z x)∨z=getR l x
 | [],_,z=>by simp [Qca,getR]
 | y::r,h,z=>by
  have h':=List.pairwise_cons.1 h;have ih:=with_mem (x:=x) h'.2 z;rw [Qca];cases h1:ltR y x with
  | true =>
   have hns:¬sameR y x:=fun e=>by rw [Qcf e] at h1; cases h1
   have hg:getR (y::r) x=getR r x:=by
    unfold getR;rw [List.find?_cons,h1,Bool.not_true,Bool.and_false]
   rw [cond_true,List.mem_cons,ih,hg,List.mem_cons]
   constructor
   ·rintro (rfl | ⟨k1,k2⟩ | k)
    ·exact .inl ⟨.inl rfl,hns⟩
    ·exact .inl ⟨.inr k1,k2⟩
    ·exact .inr k
   ·rintro (⟨rfl | k1,k2⟩ | k)
    ·exact .inl rfl
    ·exact .inr (.inl ⟨k1,k2⟩)
    ·exact .inr (.inr k)
  | false =>
   rw [cond_false];cases h2:ltR x y with
   | true =>
    have hr:∀w∈y::r,ltR x w=true:=fun w hw=>by
     rcases List.mem_cons.1 hw with rfl | hw
     ·exact h2
     ·exact swoR.tr h2 (h'.1 w hw)
    have hg:getR (y::r) x=x:=by
     unfold getR;rw [List.find?_eq_none.2 fun w hw=>by rw [hr w hw]; simp]
    rw [cond_true,List.mem_cons,hg]
    constructor
    ·rintro (k | k)
     ·exact .inr k
     ·refine .inl ⟨k,fun e=>?_⟩;have:=hr z k;rw [Qcf ⟨e.1.symm,e.2.symm⟩] at this; cases this
    ·rintro (⟨k,_⟩ | k)
     ·exact .inr k
     ·exact .inl k
   | false =>
    have hs:=lt_tot h1 h2;have hg:getR (y::r) x=addR x y:=by
     unfold getR;rw [List.find?_cons,h1,h2]; rfl
    have hr:∀w∈r,¬sameR w x:=fun w hw e=>by
     have:=h'.1 w hw;rw [lt_same_r e,Qcf hs] at this; cases this
    rw [cond_false,List.mem_cons,hg,List.mem_cons]
    constructor
    ·rintro (k | k)
     ·exact .inr k
     ·exact .inl ⟨.inr k,hr z k⟩
    ·rintro (⟨rfl | k,k2⟩ | k)
     ·exact absurd hs k2
     ·exact .inr k
     ·exact .inl k
theorem add_same(x y:RW):sameR (addR x y) x:=⟨rfl,rfl⟩
theorem with_sr{x:RW} : ∀{l:List RW},RwS l→RwS (Qca l x)
 | [],_=>by simp [Qca]
 | y::r,h=>by
  have h':=List.pairwise_cons.1 h;rw [Qca];cases h1:ltR y x with
  | true =>
   refine List.pairwise_cons.2 ⟨fun z hz=>?_,with_sr h'.2⟩;rcases (with_mem h'.2 z).1 hz with ⟨k,_⟩ | k
   ·exact h'.1 z k
   ·have hs:sameR z x:=by
     rw [k];unfold getR
     split
     ·exact add_same _ _
     ·exact ⟨rfl,rfl⟩
    rw [lt_same_r hs]; exact h1
  | false =>
   rw [cond_false];cases h2:ltR x y with
   | true =>
    refine List.pairwise_cons.2 ⟨fun z hz=>?_,h⟩;rcases List.mem_cons.1 hz with rfl | hz
    ·exact h2
    ·exact swoR.tr h2 (h'.1 z hz)
   | false =>
    have hs:=lt_tot h1 h2;refine List.pairwise_cons.2 ⟨fun z hz=>?_,h'.2⟩;rw [lt_same_l (add_same x y),←lt_same_l hs];exact h'.1 z hz

abbrev TB_:=List (KY×RW)
theorem keq_iff(a b:KY):Key_.eqb a b=true↔a=b:=by
 cases a; cases b;unfold Key_.eqb;simp only [Bool.and_eq_true,seq_iff,Key_.mk.injEq]
def zR:RW:=⟨⟨#[]⟩,⟨#[]⟩,0,0⟩
def kyR(x:RW):KY:=⟨x.Account,x.Ccy⟩
def addT(m:TB_)(x:RW):TB_:=mPut Key_.eqb (kyR x) ⟨x.Account,x.Ccy,wr64 ((mGet Key_.eqb zR (kyR x) m).In+x.In),wr64 ((mGet Key_.eqb zR (kyR x) m).Out+x.Out)⟩ m
theorem mput_iff{K V:Type}{E:K→K→Bool}(hE:∀a b,E a b=true↔a=b){k:K}{v:V} : ∀{m:List (K×V)},ndK m→∀x,x∈mPut E k v m↔x=(k,v)∨(x∈m∧x.1≠k)
 | [],_,x=>by simp [mPut]
 | (a,w)::r,h,x=>by
  have h':=List.pairwise_cons.1 h;rw [mPut];cases hk:E k a with
  | true =>
   have:=(hE _ _).1 hk; subst this;rw [cond_true,List.mem_cons,List.mem_cons]
   constructor
   ·rintro (e | e)
    ·exact .inl e
    ·exact .inr ⟨.inr e,fun k'=>h'.1 x e k'.symm⟩
   ·rintro (e | ⟨e | e,k'⟩)
    ·exact .inl e
    ·rw [e] at k'; exact absurd rfl k'
    ·exact .inr e
  | false =>
   have hne:a≠k:=fun e=>by rw [e,eRefl hE] at hk; cases hk
   rw [cond_false,List.mem_cons,List.mem_cons,mput_iff hE h'.2 x]
   constructor
   ·rintro (e | e | ⟨e,k'⟩)
    ·exact .inr ⟨.inl e,by rw [e]; exact hne⟩
    ·exact .inl e
    ·exact .inr ⟨.inr e,k'⟩
   ·rintro (e | ⟨e | e,k'⟩)
    ·exact .inr (.inl e)
    ·exact .inl e
    ·exact .inr (.inr ⟨e,k'⟩)
structure TR (m:TB_) (l:List RW):Prop where
 nd:ndK m
 key:∀x∈m,x.1=kyR x.2
 sr:RwS l
 rng:∀z∈l,-9223372036854775808≤z.In∧z.In≤9223372036854775807∧-9223372036854775808≤z.Out∧z.Out≤9223372036854775807
 mem:∀z,z∈l↔∃k,(k,z)∈m
theorem TR.nil:TR [] []:=⟨by simp,by simp,by simp,by simp,by simp⟩
theorem ky_same{x y:RW} : kyR x=kyR y↔sameR x y:=by
 unfold kyR; rw [Key_.mk.injEq]
theorem wr_id0{n:Int}(h1:-9223372036854775808≤n)(h2:n≤9223372036854775807):wr64 (0+n)=n:=by rw [Int.zero_add]; exact wrIn h1 h2
theorem wr_rng(n:Int) : -9223372036854775808≤wr64 n∧wr64 n≤9223372036854775807:=by
 show -9223372036854775808≤IntKind.i64.wrap n∧IntKind.i64.wrap n≤9223372036854775807;rw [IntKind.wrap_i64]; omega
theorem get_add{m:TB_}{l:List RW}(T:TR m l){x:RW}(h1:-9223372036854775808≤x.In∧x.In≤9223372036854775807)(h2:-9223372036854775808≤x.Out∧x.Out≤9223372036854775807) :
  (⟨x.Account,x.Ccy,wr64 ((mGet Key_.eqb zR (kyR x) m).In+x.In),wr64 ((mGet Key_.eqb zR (kyR x) m).Out+x.Out)⟩:RW)=getR l x:=by
 unfold getR;cases h:l.find? (fun y=>!(ltR x y)&&!(ltR y x)) with
 | none =>
  have hn:mGet Key_.eqb zR (kyR x) m=zR:=mgetNone keq_iff fun q hq e=>by
   have hz:=(T.mem q.2).2 ⟨q.1,hq⟩;have:=List.find?_eq_none.1 h q.2 hz;have hs:sameR q.2 x:=ky_same.1 (by rw [←T.key q hq,e]);rw [Qcf hs,Qcf ⟨hs.1.symm,hs.2.symm⟩] at this;exact this rfl
  rw [hn];show (⟨x.Account,x.Ccy,wr64 (0+x.In),wr64 (0+x.Out)⟩:RW)=x;rw [wr_id0 h1.1 h1.2,wr_id0 h2.1 h2.2]
 | some y =>
  have hy:=List.mem_of_find?_eq_some h;have hp:=List.find?_some h;simp only [Bool.and_eq_true,Bool.not_eq_true'] at hp;have hs:=lt_tot hp.1 hp.2;obtain ⟨k,hk⟩:=(T.mem y).1 hy;have hkk:k=kyR x:=by
   have:=T.key _ hk;rw [show k=kyR y from this];exact ky_same.2 ⟨hs.1.symm,hs.2.symm⟩
  have:mGet Key_.eqb zR (kyR x) m=y:=mgetMem keq_iff T.nd (by rw [←hkk]; exact hk);rw [this];unfold addR;rw [Int.add_comm y.In,Int.add_comm y.Out]
theorem TR.add{m:TB_}{l:List RW}(T:TR m l){x:RW}(h1:-9223372036854775808≤x.In∧x.In≤9223372036854775807)(h2:-9223372036854775808≤x.Out∧x.Out≤9223372036854775807):TR (addT m x) (Qca l x):=by
 have hg:=get_add T h1 h2;have hmem:∀q,q∈addT m x↔q=(kyR x,getR l x)∨(q∈m∧q.1≠kyR x):=fun q=>by
  unfold addT;rw [mput_iff keq_iff T.nd,hg]
 have hsame:sameR (getR l x) x:=by
  unfold getR
  split
  ·exact add_same _ _
  ·exact ⟨rfl,rfl⟩
 refine ⟨mputNd keq_iff T.nd,fun q hq=>?_,with_sr T.sr,fun z hz=>?_,fun z=>?_⟩
 ·rcases (hmem q).1 hq with rfl | ⟨k,_⟩
  ·exact ky_same.2 ⟨hsame.1.symm,hsame.2.symm⟩
  ·exact T.key q k
 ·rcases (with_mem T.sr z).1 hz with ⟨k,_⟩ | rfl
  ·exact T.rng z k
  ·rw [←hg];have a1:=wr_rng ((mGet Key_.eqb zR (kyR x) m).In+x.In);have a2:=wr_rng ((mGet Key_.eqb zR (kyR x) m).Out+x.Out);exact ⟨a1.1,a1.2,a2.1,a2.2⟩
 ·rw [with_mem T.sr]
  constructor
  ·rintro (⟨k1,k2⟩ | rfl)
   ·obtain ⟨k,hk⟩:=(T.mem z).1 k1;refine ⟨k,(hmem _).2 (.inr ⟨hk,fun e=>k2 ?_⟩)⟩;rw [←ky_same,←T.key _ hk]; exact e
   ·exact ⟨kyR x,(hmem _).2 (.inl rfl)⟩
  ·rintro ⟨k,hk⟩
   rcases (hmem _).1 hk with e | ⟨k1,k2⟩
   ·exact .inr (congrArg Prod.snd e)
   ·refine .inl ⟨(T.mem z).2 ⟨k,k1⟩,fun e=>k2 ?_⟩;show k=kyR x;rw [show k=kyR z from T.key _ k1];exact ky_same.2 e
end Go.Proofs.YtfeklaffeigilaaDoor
namespace Go.Proofs.YtfeklaffeigilaaDoor
set_option linter.unusedVariables false
set_option linter.unusedSimpArgs false
open Go.RowKit
theorem dec_nat(a b:Nat):decide ((a:Int)≤(b:Int))=decide (a≤b):=by congr 1; apply propext; omega

theorem f60_eq(c:Int):f60 c=some (ltrI c):=by
 unfold f60 f60n0 ltrI;cases decide (97≤c)<;>cases decide (c≤122)<;>cases decide (65≤c)<;>cases decide (c≤90)<;>rfl
theorem f40n2_eq{s:ByteArray}{k:Int}{b:UInt8}(h:at? s.data.toList k=some b):f40n2 s k=some (bif chB b then .norm else .ret):=by
 have h3:f40n3 s b k=some (.norm (!(chB b))):=by
  unfold f40n3 chB othI;rw [f60_eq,ltNot,ltNot];simp only [Option.bind_some];cases ltrI b.toNat<;>cases decide ((48:Int)≤(b.toNat:Int))<;>cases decide ((b.toNat:Int)≤57)<;>cases decide ((b.toNat:Int)=95)<;>cases decide ((b.toNat:Int)=45)<;>rfl
 unfold f40n2;rw [h];simp only [Option.bind_some,h3];cases chB b<;>rfl
theorem f40n4_at(s:ByteArray)(hs:s.data.toList.length≤1000):∀(r:List UInt8)(f k:Nat),s.data.toList.drop k=r→r.length<f→f40n4 f s (k:Int)=some (bif r.all chB then .exit0 else .ret)
 | _,0,_,_,h=>absurd h (Nat.not_lt_zero _)
 | [],f+1,k,hd,_=>by
  have:=Qak hd;rw [f40n4,sizeList,decide_eq_false (by omega),cond_false]; rfl
 | b::r,f+1,k,hd,hf=>by
  obtain ⟨h1,h2,h3⟩:=dropAt hd;rw [f40n4,sizeList,decide_eq_true (by omega),cond_true,f40n2_eq h1,List.all_cons];cases chB b with
  | false=>rfl
  | true =>
   simp only [cond_true,Option.bind_some,Bool.true_and];rw [wrSucc (by omega)];exact f40n4_at s hs r f (k+1) h3 (by simpa using hf)
theorem f40_eq(s:ByteArray):f40 s=some (nmB s):=by
 unfold f40 f40n0 nmB;rw [sizeList]
 by_cases hs:s.data.toList.length≤40
 ·have h1:f40n1 s=some (bif s.data.toList.all chB then .norm else .ret):=by
   unfold f40n1;have:=f40n4_at s (by omega) s.data.toList FUEL 0 List.drop_zero (fuelSmall (by omega));rw [show ((0:Nat):Int)=0 from rfl] at this;rw [this];cases s.data.toList.all chB<;>rfl
  rw [h1];generalize s.data.toList=l at hs;rw [decide_eq_false (by omega:¬(40:Int)<(l.length:Int))];cases l with
  | nil=>rfl
  | cons b r =>
   have h0:at? (b::r) 0=some b:=rfl;rw [decide_eq_false (by simp; omega:¬(((b::r).length:Nat):Int)<1),h0];simp only [cond_false,Option.bind_some,f60_eq,isNm,decide_eq_true hs,Bool.true_and,List.all_cons,chB];cases ltrI b.toNat<;>cases othI b.toNat<;>cases r.all chB<;>rfl
 ·rw [decide_eq_false (by omega:¬((s.data.toList.length:Nat):Int)<1),decide_eq_true (by omega:(40:Int)<((s.data.toList.length:Nat):Int))];have:isNm s.data.toList=false:=by
   generalize s.data.toList=l at hs;cases l with
   | nil=>rfl
   | cons b r=>simp only [isNm,decide_eq_false hs,Bool.false_and]
  rw [this]; rfl

def within(n:Int):Bool:=decide (-1125899906842624≤n)&&decide (n≤1125899906842624)
theorem f64_eq(n:Int):f64 n=some (within n):=by
 unfold f64 f64n0 within;cases decide (-1125899906842624≤n)<;>rfl
def badL(x:Qb):Bool:=!nmB x.Account||(!nmB x.Ccy||(decide (x.Amount=0)||!within x.Amount))
def Lk(x:Qb):Prop:=x.Account.size≤maxLen∧x.Ccy.size≤maxLen
theorem f63_eq{x:Qb}(h:Lk x):f63 x=some (badL x):=by
 unfold f63 f63n0 badL;rw [f40_eq,f40_eq];simp only [Option.bind_some,f64_eq];cases nmB x.Account<;>cases nmB x.Ccy<;>cases decide (x.Amount=0)<;>rfl
theorem f81_63n2L_at(bc:List Qb):∀(l:List Qb)(v:Int),(∀x∈l,Lk x)→(l.any badL=false∧f81_63n2L bc l v=some .exit0)∨(l.any badL=true∧∃k,v≤k∧f81_63n2L bc l v=some (.ret k))
 | [],v,_=>.inl ⟨rfl,rfl⟩
 | x::r,v,h=>by
  rw [f81_63n2L,f63_eq (h x (by simp))];simp only [Option.bind_some,List.any_cons];cases badL x with
  | true=>exact .inr ⟨rfl,v,Int.le_refl _,rfl⟩
  | false =>
   rcases f81_63n2L_at bc r (v+1) (fun y hy=>h y (by simp [hy])) with ⟨h1,h2⟩|⟨h1,k,h2,h3⟩
   ·exact .inl ⟨by simpa using h1,by simpa using h2⟩
   ·exact .inr ⟨by simpa using h1,k,by omega,by simpa using h3⟩
theorem f65_63_eq{l:List Qb}(hl:l.length≤maxLen)(h:∀x∈l,Lk x):f65_63 l=some (l.any badL):=by
 unfold f65_63 f65_63n0 f81_63 f81_63n0 f81_63n1;rw [f81_63n2_run l hl];rcases f81_63n2L_at l l 0 h with ⟨h1,h2⟩|⟨h1,k,h2,h3⟩
 ·rw [h2,h1]; rfl
 ·rw [h3,h1];simp only [Option.bind_some];rw [decide_eq_true h2]
def textB(s:ByteArray):Bool:=(ofB s).all fun c=>decide (32≤c)&&decide (c≤126)
theorem f46n2L_at(bb:Qc):∀(l:List Int)(v:Int),f46n2L bb l v=some (bif l.all (fun c=>decide (32≤c)&&decide (c≤126)) then .exit0 else .ret)
 | [],v=>rfl
 | c::r,v=>by
  rw [f46n2L];simp only [f46n2L_at bb r,ltNot,List.all_cons];cases decide (32≤c)<;>cases decide (c≤126)<;>rfl
def Rk(r:Qc):Prop:=r.Text.size≤maxLen∧r.Lines.length≤maxLen∧∀x∈r.Lines,Lk x
def formedB(r:Qc):Bool:=textB r.Text&&(decide (0≤r.Day)&&(decide (r.Day≤99999)&&(decide (r.Text.size≤100)&&(decide (2≤r.Lines.length)&&(decide (r.Lines.length≤20)&&!r.Lines.any badL)))))
theorem len_ofB(s:ByteArray):(ofB s).length=s.size:=by simp [ofB]
theorem f46_eq{r:Qc}(h:Rk r):f46 r=some (formedB r):=by
 unfold f46 f46n0 f46n1 formedB textB;have h1:r.Text.size≤9223372036854775807:=Nat.le_trans h.1 (by unfold maxLen; decide);have h2:decide ((r.Text.size:Int)≤100)=decide (r.Text.size≤100):=dec_nat _ 100;have h3:decide ((2:Int)≤(r.Lines.length:Int))=decide (2≤r.Lines.length):=dec_nat 2 _;have h4:decide ((r.Lines.length:Int)≤20)=decide (r.Lines.length≤20):=dec_nat _ 20;rw [f46n2_run r (by rw [len_ofB]; exact h.1),f46n2L_at,h2,h3,h4,f65_63_eq h.2.1 h.2.2,decide_eq_true h1];simp only [req,cond_true,Option.bind_some];cases (ofB r.Text).all (fun c=>decide (32≤c)&&decide (c≤126))<;>cases decide (0≤r.Day)<;>cases decide (r.Day≤99999)<;>cases decide (r.Text.size≤100)<;>cases decide (2≤r.Lines.length)<;>cases decide (r.Lines.length≤20)<;>rfl
theorem formed_small{r:Qc}(h:formedB r=true):0≤r.Day∧r.Day≤99999∧r.Text.size≤100∧2≤r.Lines.length∧r.Lines.length≤20∧r.Lines.any badL=false:=by
 simp only [formedB,Bool.and_eq_true,decide_eq_true_eq,Bool.not_eq_true'] at h;exact ⟨h.2.1,h.2.2.1,h.2.2.2.1,h.2.2.2.2.1,h.2.2.2.2.2.1,h.2.2.2.2.2.2⟩

def sumsL:List Qb→List (ByteArray×Int)→List (ByteArray×Int)
 | [],m=>m
 | x::l,m=>sumsL l (mPut seq x.Ccy (wr64 (mGet seq 0 x.Ccy m+x.Amount)) m)
theorem f47n2L_at(bb:Qc):∀(l:List Qb)(v:Int)(m:List (ByteArray×Int)),f47n2L bb l v m=some (.exit0 (sumsL l m))
 | [],v,m=>rfl
 | x::r,v,m=>by rw [f47n2L,f47n2L_at bb r]; rfl
theorem f47n4_eq(be:List (ByteArray×Int)):∀l:List (ByteArray×Int),f47n4 be l=some (bif l.all (fun x=>decide (x.2=0)) then .exit2 else .ret)
 | []=>rfl
 | x::r=>by
  rw [f47n4,f47n4_eq be r,List.all_cons];cases decide (x.2=0)<;>rfl
def balB(r:Qc):Bool:=(sumsL r.Lines []).all fun x=>decide (x.2=0)
theorem f47_eq{r:Qc}(h:r.Lines.length≤maxLen):f47 r=some (balB r):=by
 unfold f47 f47n0 f47n1 f47n3;rw [f47n2_run r _ h,f47n2L_at];simp only [Option.bind_some];have hp:∀p,p.Perm (sumsL r.Lines [])→f47n4 (sumsL r.Lines []) p=some (bif balB r then .exit2 else .ret):=fun p hp=>by
  rw [f47n4_eq,hp.all_eq]; rfl
 rw [anyOrder_of hp];cases balB r<;>rfl

abbrev Bal:=List (Qf×Int)
def acc(x:Qb):Qf:=⟨x.Account,x.Ccy⟩
def bal(a:Qf)(b:Bal):Int:=mGet Qf.eqb 0 a b
def postL:List Qb→Bal→Bal
 | [],m=>m
 | x::l,m=>postL l (mPut Qf.eqb (acc x) (wr64 (bal (acc x) m+x.Amount)) m)
def fitsM(l:List Qb)(b:Bal):Bool:=!l.any fun x=>!within (bal (acc x) b)
theorem f81r1n2L_at(bc:List Qb)(d k:Int)(b:Bal):∀(l:List Qb)(v:Int),(l.any (fun x=>!within (bal (acc x) b))=false∧f81r1n2L bc d k b l v=some .exit0)∨(l.any (fun x=>!within (bal (acc x) b))=true∧∃j,v≤j∧f81r1n2L bc d k b l v=some (.ret j))
 | [],v=>.inl ⟨rfl,rfl⟩
 | x::r,v=>by
  have e:f82r1 x d k b=some (!within (bal (acc x) b)):=by unfold f82r1 f82r1n0; rw [f64_eq]; rfl
  rw [f81r1n2L,e];simp only [Option.bind_some,List.any_cons];cases within (bal (acc x) b) with
  | false=>exact .inr ⟨rfl,v,Int.le_refl _,rfl⟩
  | true =>
   rcases f81r1n2L_at bc d k b r (v+1) with ⟨h1,h2⟩|⟨h1,j,h2,h3⟩
   ·exact .inl ⟨by simpa using h1,by simpa using h2⟩
   ·exact .inr ⟨by simpa using h1,j,by omega,by simpa using h3⟩
theorem f66r1_eq{r:Qc}(h:r.Lines.length≤maxLen)(d k:Int)(b:Bal):f66r1 r d k b=some (fitsM r.Lines b):=by
 unfold f66r1 f66r1n0 f65r1 f65r1n0 f81r1 f81r1n0 f81r1n1 fitsM;rw [f81r1n2_run _ _ _ _ h];rcases f81r1n2L_at r.Lines d k b r.Lines 0 with ⟨h1,h2⟩|⟨h1,j,h2,h3⟩
 ·rw [h2,h1]; rfl
 ·rw [h3,h1];simp only [Option.bind_some];rw [decide_eq_true h2]
def addS(r:Qc)(d m:Int)(b:Bal):Bool×Int×Int×Bal :=
 bif decide (m=200)||(!formedB r||(!balB r||decide (r.Day<d))) then (false,d,m,b) else (fitsM r.Lines (postL r.Lines b),r.Day,wr64 (m+1),postL r.Lines b)
theorem f48r2n2L_at(bb:Qc)(d m:Int):∀(l:List Qb)(v:Int)(b:Bal),f48r2n2L bb d m l v b=some (.exit0 (postL l b))
 | [],v,b=>rfl
 | x::r,v,b=>by rw [f48r2n2L,f48r2n2L_at bb d m r]; rfl
theorem f48r2_eq{r:Qc}(h:Rk r)(d m:Int)(b:Bal):f48r2 r d m b=some (addS r d m b):=by
 unfold f48r2 f48r2n0 f48r2n1 addS;rw [f46_eq h,f47_eq h.2.1,f48r2n2_run _ _ _ _ h.2.1,f48r2n2L_at];simp only [Option.bind_some,f66r1_eq h.2.1];cases decide (m=200)<;>cases formedB r<;>cases balB r<;>cases decide (r.Day<d)<;>rfl
theorem add_true{r:Qc}{d m:Int}{b:Bal}(h:(addS r d m b).1=true):m≠200∧formedB r=true∧balB r=true∧d≤r.Day∧fitsM r.Lines (postL r.Lines b)=true∧(addS r d m b).2=(r.Day,wr64 (m+1),postL r.Lines b):=by
 unfold addS at h ⊢;cases hc:decide (m=200)||(!formedB r||(!balB r||decide (r.Day<d))) with
 | true=>rw [hc] at h; cases h
 | false =>
  rw [hc] at h;simp only [cond_false] at h ⊢;simp only [Bool.or_eq_false_iff,decide_eq_false_iff_not,Bool.not_eq_false'] at hc;exact ⟨hc.1,hc.2.1,hc.2.2.1,by omega,h,trivial⟩
def openL:List Qc→Int→Int→Bal→Bool×Int×Int×Bal
 | [],d,m,b=>(true,d,m,b)
 | r::l,d,m,b=>bif (addS r d m b).1 then openL l (addS r d m b).2.1 (addS r d m b).2.2.1 (addS r d m b).2.2.2 else (false,(addS r d m b).2)
theorem f45r1n2L_at(ba:Qi):∀(l:List Qc)(v d m:Int)(b:Bal),(∀r∈l,Rk r) →
  f45r1n2L ba l v d m b=some (bif (openL l d m b).1 then .exit0 (openL l d m b).2.1 (openL l d m b).2.2.1 (openL l d m b).2.2.2 else .ret (openL l d m b).2.1 (openL l d m b).2.2.1 (openL l d m b).2.2.2)
 | [],v,d,m,b,_=>rfl
 | r::l,v,d,m,b,h=>by
  rw [f45r1n2L,f48r2_eq (h r (by simp)),openL];simp only [Option.bind_some];cases hx:(addS r d m b).1 with
  | true=>simp only [cond_true]; exact f45r1n2L_at ba l _ _ _ _ fun y hy=>h y (by simp [hy])
  | false=>rfl
def openS(j:Qi):Bool×Int×Int×Bal:=bif decide (200<j.Records.length) then (false,0,0,[]) else openL j.Records 0 0 []
def Jk(j:Qi):Prop:=j.Records.length≤maxLen∧∀r∈j.Records,Rk r
theorem f45r1_eq{j:Qi}(h:Jk j):f45r1 j=some (openS j):=by
 unfold f45r1 f45r1n0 f45r1n1 openS;rw [f45r1n2_run _ _ _ _ h.1,f45r1n2L_at _ _ _ _ _ _ h.2];have e:decide ((200:Int)<(j.Records.length:Int))=decide (200<j.Records.length):=by congr 1; apply propext; omega
 rw [e];generalize openL j.Records 0 0 []=x;obtain ⟨a,d,m,b⟩:=x;cases decide (200<j.Records.length)<;>cases a<;>rfl
theorem f50_eq{j:Qi}(h:Jk j):f50 j=some (bif (openS j).1 then 0 else 8):=by
 unfold f50 f50n0;rw [f45r1_eq h];simp only [Option.bind_some];cases (openS j).1<;>rfl
end Go.Proofs.YtfeklaffeigilaaDoor
namespace Go.Proofs.YtfeklaffeigilaaDoor
set_option linter.unusedVariables false
set_option linter.unusedSimpArgs false
open Go.RowKit
theorem wr_wr(a:Int):wr64 (wr64 a)=wr64 a:=by
 have:=wrL a 0;simpa using this
theorem seqC(a b:ByteArray):seq a b=seq b a:=by
 cases h:seq a b with
 | true=>rw [seq_iff.1 h,seq_refl]
 | false =>
  symm
  refine seqF fun e=>?_;rw [e,seq_refl] at h; cases h
theorem seq_iff'(a b:ByteArray):seq a b=true↔a=b:=seq_iff


def sC(c:ByteArray):List Qb→Int
 | []=>0
 | x::r=>(bif seq x.Ccy c then x.Amount else 0)+sC c r
theorem sums_get(c:ByteArray):∀(l:List Qb)(m:List (ByteArray×Int)),(∀c,wr64 (mGet seq 0 c m)=mGet seq 0 c m)→mGet seq 0 c (sumsL l m)=wr64 (mGet seq 0 c m+sC c l)
 | [],m,h=>by rw [sumsL,sC,Int.add_zero,h]
 | x::l,m,h=>by
  have h':∀c,wr64 (mGet seq 0 c (mPut seq x.Ccy (wr64 (mGet seq 0 x.Ccy m+x.Amount)) m))=mGet seq 0 c (mPut seq x.Ccy (wr64 (mGet seq 0 x.Ccy m+x.Amount)) m):=fun c=>by
   rw [mgetPut seq_iff'];cases seq c x.Ccy with
   | true=>exact wr_wr _
   | false=>exact h c
  rw [sumsL,sums_get c l _ h',mgetPut seq_iff',sC,seqC c];cases k:seq x.Ccy c with
  | true=>rw [cond_true,cond_true,seq_iff.1 k,wrL,Int.add_assoc]
  | false=>rw [cond_false,cond_false,Int.zero_add]
theorem sums_nd:∀(l:List Qb)(m:List (ByteArray×Int)),ndK m→ndK (sumsL l m)
 | [],_,h=>h
 | x::l,m,h=>sums_nd l _ (mputNd seq_iff' h)
theorem sums_keys:∀(l:List Qb)(m:List (ByteArray×Int))(q:ByteArray),(∃e∈sumsL l m,e.1=q)↔(∃e∈m,e.1=q)∨∃x∈l,x.Ccy=q
 | [],m,q=>by simp [sumsL]
 | x::l,m,q=>by
  rw [sumsL,sums_keys l]
  constructor
  ·rintro (h | ⟨y,hy,e⟩)
   ·rcases mputKeys seq_iff' h with rfl | h
    ·exact .inr ⟨x,List.mem_cons_self,rfl⟩
    ·exact .inl h
   ·exact .inr ⟨y,List.mem_cons_of_mem _ hy,e⟩
  ·rintro (h | ⟨y,hy,e⟩)
   ·exact .inl (mputKeep seq_iff' h)
   ·rcases List.mem_cons.1 hy with rfl | hy
    ·refine .inl ?_;obtain ⟨z,hz,e2⟩:=mputHas seq_iff' y.Ccy (wr64 (mGet seq 0 y.Ccy m+y.Amount)) m;exact ⟨z,hz,e2.trans e⟩
    ·exact .inr ⟨y,hy,e⟩
def sumB(r:Qc):Bool:=r.Lines.all fun x=>decide (wr64 (sC x.Ccy r.Lines)=0)
theorem bal_sum(r:Qc):balB r=sumB r:=by
 have hget:∀c,mGet seq 0 c (sumsL r.Lines [])=wr64 (sC c r.Lines):=fun c=>by
  have:=sums_get c r.Lines [] (fun _=>rfl);rw [this];show wr64 (0+_)=_;rw [Int.zero_add]
 have hnd:=sums_nd r.Lines [] (by simp);have hk:=sums_keys r.Lines [];unfold balB sumB;rw [Bool.eq_iff_iff,List.all_eq_true,List.all_eq_true]
 constructor
 ·intro h x hx;obtain ⟨e,he,eq⟩:=(hk x.Ccy).2 (.inr ⟨x,hx,rfl⟩);have h1:=of_decide_eq_true (h e he);have h2:mGet seq 0 e.1 (sumsL r.Lines [])=e.2:=mgetMem seq_iff' hnd he;rw [eq,hget,h1] at h2;exact decide_eq_true h2
 ·intro h e he;rcases (hk e.1).1 ⟨e,he,rfl⟩ with ⟨_,h0,_⟩|⟨x,hx,eq⟩
  ·cases h0
  ·have h1:=of_decide_eq_true (h x hx);have h2:mGet seq 0 e.1 (sumsL r.Lines [])=e.2:=mgetMem seq_iff' hnd he;rw [hget,←eq,h1] at h2;exact decide_eq_true h2.symm

end Go.Proofs.YtfeklaffeigilaaDoor
namespace Go.Proofs.YtfeklaffeigilaaDoor
set_option linter.unusedVariables false
set_option linter.unusedSimpArgs false
open Go.RowKit
def lpB(y:Int):Bool:=decide (y % 4=0)&&(!(decide (y % 100=0))||decide (y % 400=0))
theorem f106_eq{y:Int}(h:0≤y):f106 y=some (lpB y):=by
 unfold f106 f106n0 lpB;rw [Int.tmod_eq_emod_of_nonneg h,Int.tmod_eq_emod_of_nonneg h,Int.tmod_eq_emod_of_nonneg h];cases decide (y % 4=0)<;>cases decide (y % 100=0)<;>rfl
def mL(b:Bool):List Int:=[0,31,bif b then 29 else 28,31,30,31,30,31,31,30,31,30,31]
def mN(b:Bool)(m:Nat):Int:=((mL b)[m]?).getD 0
def arL(b:Bool):Qq:=bif b then Qq.mk 0 31 29 31 30 31 30 31 31 30 31 30 31 else Qq.mk 0 31 28 31 30 31 30 31 31 30 31 30 31
theorem f86_eq{y:Int}(h:0≤y):f86 y=some (arL (lpB y)):=by
 unfold f86 f86n0 arL;rw [f106_eq h];cases lpB y<;>rfl
theorem m_cases{m:Nat}(h1:1≤m)(h2:m≤12):m=1∨m=2∨m=3∨m=4∨m=5∨m=6∨m=7∨m=8∨m=9∨m=10∨m=11∨m=12:=by omega
theorem f84_eq{y:Int}{m:Nat}(h1:1900≤y)(h2:y≤2173)(h3:1≤m)(h4:m≤12):f84 y (m:Int)=some (mN (lpB y) m,0):=by
 unfold f84 f84n0 f104 f104n0;rw [decide_eq_true h1,decide_eq_true h2,f86_eq (by omega)];rcases m_cases h3 h4 with rfl | rfl | rfl | rfl | rfl | rfl | rfl | rfl | rfl | rfl | rfl | rfl<;>cases lpB y<;>rfl
theorem f84_bad{y m:Int}(h:¬(1900≤y∧y≤2173∧1≤m∧m≤12)):f84 y m=some (0,2):=by
 unfold f84 f84n0 f104 f104n0
 by_cases h1:1900≤y
 ·by_cases h2:y≤2173
  ·rw [decide_eq_true h1,decide_eq_true h2]
   by_cases h3:m<1
   ·rw [decide_eq_true h3]; rfl
   ·rw [decide_eq_false h3,decide_eq_true (by omega:12<m)]; rfl
  ·rw [decide_eq_true h1,decide_eq_false h2]; rfl
 ·rw [decide_eq_false h1]; rfl
theorem mN_rng{b:Bool}{m:Nat}(h3:1≤m)(h4:m≤12):28≤mN b m∧mN b m≤31:=by
 rcases m_cases h3 h4 with rfl | rfl | rfl | rfl | rfl | rfl | rfl | rfl | rfl | rfl | rfl | rfl<;>cases b<;>decide

def lps(y:Int):Int:=y / 4-y / 100+y / 400
def fst_(y:Int):Int:=365*(y-1900)+lps (y-1)-lps 1899
theorem f105_eq{y:Int}(h0:0≤y)(h1:y≤100000):f105 y=some (lps y):=by
 unfold f105 f105n0 lps;rw [Int.tdiv_eq_ediv_of_nonneg h0,Int.tdiv_eq_ediv_of_nonneg h0,Int.tdiv_eq_ediv_of_nonneg h0];simp only [Option.bind_some];rw [wrIn (n:=y / 4) (by omega) (by omega),wrIn (n:=y / 100) (by omega) (by omega),wrIn (n:=y / 400) (by omega) (by omega),wrIn (n:=y / 4-y / 100) (by omega) (by omega),wrIn (by omega) (by omega)]
theorem f85_eq{y:Int}(h1:1900≤y)(h2:y≤2173):f85 y=some (fst_ y):=by
 unfold f85 f85n0 fst_;rw [wrIn (n:=y-1) (by omega) (by omega),f105_eq (by omega) (by omega),f105_eq (by omega) (by omega)];simp only [Option.bind_some];have a1:lps 1899=460:=by decide
 have a2:0≤lps (y-1)∧lps (y-1)≤2000:=by unfold lps; omega
 rw [wrIn (n:=y-1900) (by omega) (by omega),wrIn (n:=365*(y-1900)) (by omega) (by omega),wrIn (n:=365*(y-1900)+lps (y-1)) (by omega) (by omega),wrIn (by omega) (by omega)]
theorem fst_rng{y:Int}(h1:1900≤y)(h2:y≤2174):0≤fst_ y∧fst_ y≤200000:=by
 have a1:lps 1899=460:=by decide
 unfold fst_;rw [a1];unfold lps;omega
def sm_:List Int→Int
 | []=>0
 | x::r=>x+sm_ r
theorem f69n2L_eq_(b:Qq)(m:Int):∀(l:List Int)(v k:Int),(∀x∈l,0≤x∧x≤31)→0≤v→v+31*l.length≤1000000→f69n2L b m l v k=some (.exit0 (v+sm_ l))
 | [],v,k,_,_,_=>by rw [f69n2L,sm_,Int.add_zero]
 | x::r,v,k,h,h0,hv=>by
  have hx:=h x List.mem_cons_self;rw [List.length_cons] at hv;rw [f69n2L,wrIn (n:=v+x) (by omega) (by omega),f69n2L_eq_ b m r _ _ (fun y hy=>h y (List.mem_cons_of_mem _ hy)) (by omega) (by omega),sm_,Int.add_assoc]

def dg(b:UInt8):Bool:=decide ((48:Int)≤(b.toNat:Int))&&decide ((b.toNat:Int)≤57)
def nmI:Int→List UInt8→Int
 | n,[]=>n
 | n,b::r=>nmI (10*n+((b.toNat:Int)-48)) r
def MM:Nat→Int
 | 0=>1000000000000
 | k+1=>MM k / 10-1
theorem MM_le:∀k,MM k≤1000000000000
 | 0=>by decide
 | k+1=>by have:=MM_le k; rw [MM]; omega
theorem dg_rng{b:UInt8}(h:dg b=true):48≤(b.toNat:Int)∧(b.toNat:Int)≤57:=by
 unfold dg at h;rw [Bool.and_eq_true,decide_eq_true_eq,decide_eq_true_eq] at h;exact h
theorem nm_step{n:Int}{b:UInt8}(h:dg b=true)(h0:0≤n)(h1:n≤1000000000000):wr64 ((wr64 (10*n))+(wr64 (wru8 ((b.toNat:Int)-48))))=10*n+((b.toNat:Int)-48):=by
 have hb:=dg_rng h;have h8:wru8 ((b.toNat:Int)-48)=(b.toNat:Int)-48:=by
  show IntKind.u8.wrap _=_;rw [IntKind.wrap_u8]; omega
 rw [h8,wrIn (n:=10*n) (by omega) (by omega),wrIn (n:=(b.toNat:Int)-48) (by omega) (by omega),wrIn (by omega) (by omega)]
theorem f68L_eq(s:ByteArray):∀(l:List UInt8)(n v:Int),0≤n→n≤MM l.length→f68n2L s l n v=some (bif l.all dg then .exit0 (nmI n l) else .ret)
 | [],n,v,_,_=>rfl
 | b::r,n,v,h0,h1=>by
  have hM:=MM_le r.length;rw [List.length_cons,MM] at h1;rw [f68n2L,ltNot (b.toNat:Int) 48,ltNot 57 (b.toNat:Int),List.all_cons,nmI];cases hd:dg b with
  | true =>
   have hb:=dg_rng hd;rw [decide_eq_true hb.1,decide_eq_true hb.2,nm_step hd h0 (by omega),f68L_eq s r _ _ (by omega) (by omega)]; rfl
  | false =>
   unfold dg at hd;rw [Bool.and_eq_false_iff] at hd;rcases hd with hd | hd<;>rw [hd]
   ·rfl
   ·cases decide ((48:Int)≤(b.toNat:Int))<;>rfl
theorem f68_eq{s:ByteArray}(h:s.data.toList.length≤4):f68 s=some (bif s.data.toList.all dg then (nmI 0 s.data.toList,true) else (0,false)):=by
 unfold f68 f68n0 f68n1;have hM:(0:Int)≤MM s.data.toList.length:=by
  have:∀j:Fin 5,(0:Int)≤MM j:=by decide
  exact this ⟨s.data.toList.length,by omega⟩
 rw [f68n2_run s 0 (Qaw (by show s.data.toList.length≤_; omega)),f68L_eq s s.data.toList 0 0 (by omega) hM];cases s.data.toList.all dg<;>rfl
theorem nm_nn:∀(l:List UInt8)(n:Int),0≤n→l.all dg=true→0≤nmI n l
 | [],n,h,_=>h
 | b::r,n,h,ha=>by
  rw [List.all_cons,Bool.and_eq_true] at ha;have:=dg_rng ha.1;exact nm_nn r _ (by omega) ha.2
theorem nm_two{a b:UInt8}(h:[a,b].all dg=true):0≤nmI 0 [a,b]∧nmI 0 [a,b]≤99:=by
 rw [List.all_cons,List.all_cons,Bool.and_eq_true,Bool.and_eq_true] at h;have:=dg_rng h.1;have:=dg_rng h.2.1;simp only [nmI]; omega

theorem ten{l:List UInt8}(h:l.length=10):∃b0 b1 b2 b3 b4 b5 b6 b7 b8 b9,l=[b0,b1,b2,b3,b4,b5,b6,b7,b8,b9]:=by
 match l,h with
 | [b0,b1,b2,b3,b4,b5,b6,b7,b8,b9],_=>exact ⟨b0,b1,b2,b3,b4,b5,b6,b7,b8,b9,rfl⟩
def okT(l:List UInt8):Bool:=match l with
 | [b0,b1,b2,b3,b4,b5,b6,b7,b8,b9]=>(decide ((b4.toNat:Int)=45)&&decide ((b7.toNat:Int)=45))&&([b0,b1,b2,b3].all dg&&([b5,b6].all dg&&[b8,b9].all dg))
 | _=>false
theorem scut_list(s:ByteArray)(a b:Nat):(scut s a b).data.toList=(s.data.toList.take b).drop a:=rfl
theorem f52_eq{s:ByteArray}{b0 b1 b2 b3 b4 b5 b6 b7 b8 b9:UInt8}(h:s.data.toList=[b0,b1,b2,b3,b4,b5,b6,b7,b8,b9]) :
  f52 s=bif okT s.data.toList then f69 (nmI 0 [b0,b1,b2,b3]) (nmI 0 [b5,b6]) (nmI 0 [b8,b9]) else some (0,12):=by
 have hs:s.size=10:=by show s.data.toList.length=10; rw [h]; rfl
 have l1:(scut s 0 (Int.toNat 4)).data.toList=[b0,b1,b2,b3]:=by rw [scut_list,h]; rfl
 have l2:(scut s (Int.toNat 5) (Int.toNat 7)).data.toList=[b5,b6]:=by rw [scut_list,h]; rfl
 have l3:(scut s (Int.toNat 8) s.size).data.toList=[b8,b9]:=by rw [scut_list,h,hs]; rfl
 unfold f52 f52n0;rw [f68_eq (by rw [l1]; simp),f68_eq (by rw [l2]; simp),f68_eq (by rw [l3]; simp),l1,l2,l3,hs,h];have c1:cutB 0 4 10=true:=by decide
 have c2:cutB 5 7 10=true:=by decide
 have c3:cutB 8 ((10:Nat):Int) 10=true:=by decide
 have a4:at? [b0,b1,b2,b3,b4,b5,b6,b7,b8,b9] 4=some b4:=rfl;have a7:at? [b0,b1,b2,b3,b4,b5,b6,b7,b8,b9] 7=some b7:=rfl;rw [c1,c2,c3,a4,a7,decide_eq_true (by rfl:(((10:Nat):Nat):Int)=10)];simp only [cond_true,Option.bind_some,req,okT];cases decide ((b4.toNat:Int)=45) with
 | false=>rfl
 | true =>
  cases decide ((b7.toNat:Int)=45) with
  | false=>rfl
  | true =>
   cases [b0,b1,b2,b3].all dg with
   | false=>rfl
   | true =>
    cases [b5,b6].all dg with
    | false=>rfl
    | true =>
     cases [b8,b9].all dg with
     | false=>rfl
     | true =>
      simp only [cond_true,Option.bind_some,Bool.and_self];cases f69 (nmI 0 [b0,b1,b2,b3]) (nmI 0 [b5,b6]) (nmI 0 [b8,b9]) with
      | none=>rfl
      | some r=>rfl
section
variable {s:ByteArray} {b0 b1 b2 b3 b4 b5 b6 b7 b8 b9:UInt8} (h:s.data.toList=[b0,b1,b2,b3,b4,b5,b6,b7,b8,b9])
include h
omit h in
end

theorem sm_nn_:∀{l:List Int},(∀x∈l,0≤x∧x≤31)→0≤sm_ l
 | [],_=>Int.le_refl _
 | x::r,h=>by
  have h1:=h x List.mem_cons_self;have h2:=sm_nn_ fun y hy=>h y (List.mem_cons_of_mem _ hy);rw [sm_]; omega
theorem of_tot{y m d:Int}(hy:0≤y)(hm:0≤m)(hm2:m≤100)(hd:0≤d)(hd2:d≤100):∃r,f69 y m d=some r∧0≤r.1:=by
 by_cases h:1900≤y∧y≤2173∧1≤m∧m≤12
 ·obtain ⟨h1,h2,h3,h4⟩:=h;obtain ⟨k,rfl⟩:∃k:Nat,m=(k:Int):=⟨m.toNat,by omega⟩;have hk1:1≤k:=by omega
  have hk2:k≤12:=by omega
  have hn:=mN_rng (b:=lpB y) hk1 hk2;have hf:=fst_rng h1 (by omega);unfold f69 f69n0;rw [f84_eq h1 h2 hk1 hk2];simp only [Option.bind_some,decide_true,cond_true];rw [ltNot d 1,ltNot (mN (lpB y) k) d]
  by_cases d1:1≤d
  ·by_cases d2:d≤mN (lpB y) k
   ·rw [decide_eq_true d1,decide_eq_true d2];have e1:f69n1 (k:Int) (fst_ y) d (arL (lpB y))=some (.norm (fst_ y+d-1+sm_ ((mL (lpB y)).take k))):=by
     unfold f69n1;have hc:cutB 0 (k:Int) 13=true:=by simp only [cutB,decide_eq_true_eq]; omega
     have hlst:∀b:Bool,([(arL b).e0,(arL b).e1,(arL b).e2,(arL b).e3,(arL b).e4,(arL b).e5,(arL b).e6,(arL b).e7,(arL b).e8,(arL b).e9,(arL b).e10,(arL b).e11,(arL b).e12].take (Int.toNat (k:Int))).drop 0=(mL b).take k:=fun b=>by
      rw [Int.toNat_natCast,List.drop_zero];cases b<;>rfl
     have hall:∀x∈(mL (lpB y)).take k,0≤x∧x≤31:=fun x hx=>by
      have hx:=List.mem_of_mem_take hx;have hall:∀b:Bool,∀x∈mL b,0≤x∧x≤31:=by decide
      exact hall _ x hx
     have hlen:((mL (lpB y)).take k).length≤13:=by rw [List.length_take]; exact Nat.le_trans (Nat.min_le_right _ _) (Nat.le_refl _)
     rw [hc,req,cond_true,wrIn (n:=fst_ y+d) (by omega) (by omega),wrIn (n:=fst_ y+d-1) (by omega) (by omega)];rw [f69n2_run (arL (lpB y)) (k:Int) (fst_ y+d-1) (by rw [hlst]; exact Qaw (by omega)),hlst,f69n2L_eq_ _ _ _ _ _ hall (by omega) (by omega)];rfl
    rw [f85_eq h1 h2,f86_eq hy];simp only [Option.bind_some,Bool.not_true,cond_false,e1];cases decide (99999<fst_ y+d-1+sm_ ((mL (lpB y)).take k)) with
    | true=>exact ⟨_,rfl,Int.le_refl _⟩
    | false =>
     refine ⟨_,rfl,?_⟩;show 0≤fst_ y+d-1+sm_ ((mL (lpB y)).take k);have:=sm_nn_ (l:=(mL (lpB y)).take k) fun x hx=>by
      have hx:=List.mem_of_mem_take hx;have hall:∀b:Bool,∀x∈mL b,0≤x∧x≤31:=by decide
      exact hall _ x hx
     omega
   ·rw [decide_eq_true d1,decide_eq_false d2]; exact ⟨_,rfl,Int.le_refl _⟩
  ·rw [decide_eq_false d1]; exact ⟨_,rfl,Int.le_refl _⟩
 ·unfold f69 f69n0;rw [f84_bad h];exact ⟨_,rfl,Int.le_refl _⟩
theorem parse_tot{s:ByteArray}(h:s.data.toList.length=10):∃r,f52 s=some r∧0≤r.1:=by
 obtain ⟨b0,b1,b2,b3,b4,b5,b6,b7,b8,b9,hl⟩:=ten h;rw [f52_eq hl];cases ho:okT s.data.toList with
 | false=>exact ⟨_,rfl,Int.le_refl _⟩
 | true =>
  rw [hl] at ho;simp only [okT,Bool.and_eq_true] at ho;obtain ⟨_,ho1,ho2,ho3⟩:=ho;have h2:=nm_two (a:=b5) (b:=b6) (by simp only [List.all_cons,List.all_nil,Bool.and_true,Bool.and_eq_true] at ho2 ⊢; exact ho2);have h3:=nm_two (a:=b8) (b:=b9) (by simp only [List.all_cons,List.all_nil,Bool.and_true,Bool.and_eq_true] at ho3 ⊢; exact ho3);exact of_tot (nm_nn [b0,b1,b2,b3] 0 (by omega) (by simp only [List.all_cons,List.all_nil,Bool.and_true,Bool.and_eq_true] at ho1 ⊢; exact ho1)) h2.1 (by omega) h3.1 (by omega)

theorem day_tot{r:Qc}(h:r.Text.size≤1000):∃d,f23 r=some d∧(0≤r.Day→0≤d∧d≤r.Day):=by
 have hp:Qax.size=4:=rfl;unfold f23 f23n0 f51 f51n0 f67 f67n0 f83 f83n0;rw [hp]
 by_cases h4:4≤r.Text.size
 ·have c1:cutB 0 ((4:Nat):Int) r.Text.size=true:=by simp only [cutB,decide_eq_true_eq]; omega
  have c2:cutB ((4:Nat):Int) (r.Text.size:Int) r.Text.size=true:=by simp only [cutB,decide_eq_true_eq]; omega
  rw [decide_eq_true (by omega:((4:Nat):Int)≤(r.Text.size:Int)),c1,c2];simp only [req,cond_true,Option.bind_some];have e4:Int.toNat ((4:Nat):Int)=4:=rfl;rw [e4];have hsz:(scut r.Text 4 r.Text.size).size=r.Text.size-4:=by
   show (scut r.Text 4 r.Text.size).data.toList.length=_;rw [scut_list,List.length_drop,List.length_take];show min r.Text.size r.Text.data.toList.length-4=_;rw [show r.Text.data.toList.length=r.Text.size from rfl,Nat.min_self]
  cases hq:seq (scut r.Text 0 4) Qax with
  | false=>exact ⟨r.Day,rfl,fun h=>⟨h,Int.le_refl _⟩⟩
  | true =>
   simp only [cond_true,Option.bind_some];rw [hsz]
   by_cases h14:14≤r.Text.size
   ·rw [decide_eq_true (by omega:(10:Int)≤((r.Text.size-4:Nat):Int))];have c3:cutB 0 10 (r.Text.size-4)=true:=by simp only [cutB,decide_eq_true_eq]; omega
    have e10:Int.toNat 10=10:=rfl;rw [c3,e10];simp only [cond_true];obtain ⟨x,e1,hx0⟩:=parse_tot (s:=scut (scut r.Text 4 r.Text.size) 0 10) (by
     rw [scut_list,List.drop_zero,List.length_take,show (scut r.Text 4 r.Text.size).data.toList.length=r.Text.size-4 from hsz]; omega)
    rw [e1];simp only [Option.bind_some];cases decide (x.2=0) with
    | false=>exact ⟨_,rfl,fun h=>⟨h,Int.le_refl _⟩⟩
    | true =>
     by_cases hx:x.1≤r.Day
     ·rw [decide_eq_true hx]; exact ⟨_,rfl,fun _=>⟨hx0,hx⟩⟩
     ·rw [decide_eq_false hx]; exact ⟨_,rfl,fun h=>⟨h,Int.le_refl _⟩⟩
   ·rw [decide_eq_false (by omega:¬(10:Int)≤((r.Text.size-4:Nat):Int))];exact ⟨_,rfl,fun h=>⟨h,Int.le_refl _⟩⟩
 ·rw [decide_eq_false (by omega:¬((4:Nat):Int)≤(r.Text.size:Int))];exact ⟨_,rfl,fun h=>⟨h,Int.le_refl _⟩⟩
end Go.Proofs.YtfeklaffeigilaaDoor
namespace Go.Proofs.YtfeklaffeigilaaDoor
set_option linter.unusedVariables false
set_option linter.unusedSimpArgs false
open Go.RowKit
theorem f19n2L_at(bc:List Qb):∀(l:List Qb)(v:Int),f19n2L bc l v=some .exit0∨f19n2L bc l v=some .ret
 | [],v=>.inl rfl
 | x::l,v=>by
  rw [f19n2L];cases decide (v≤40) with
  | false=>exact .inl rfl
  | true =>
   cases decide (300<(x.Account.size:Int)) with
   | true=>exact .inr rfl
   | false=>cases decide (300<(x.Ccy.size:Int)) with
    | true=>exact .inr rfl
    | false=>exact f19n2L_at bc l (v+1)
theorem f19_at{l:List Qb}(h:l.length≤maxLen):∃b,f19 l=some b∧(b=false→l.length≤40):=by
 unfold f19 f19n0 f19n1;rw [f19n2_run _ h];rcases f19n2L_at l l 0 with e | e<;>rw [e]
 ·exact ⟨decide (40<(l.length:Int)),rfl,fun h=>by have:=of_decide_eq_false h; omega⟩
 ·exact ⟨true,rfl,fun h=>by cases h⟩
def smR(r:Qc):Prop:=r.Lines.length≤40∧r.Text.size≤300
theorem f43n2L_at(j:Qi):∀(l:List Qc)(v:Nat),v+l.length≤30→(∀r∈l,Rk r)→(f43n2L j l v=some .exit0∧∀r∈l,smR r)∨f43n2L j l v=some .ret
 | [],v,_,_=>.inl ⟨rfl,by simp⟩
 | x::l,v,h,hk=>by
  rw [List.length_cons] at h;obtain ⟨b,e,hb⟩:=f19_at (hk x List.mem_cons_self).2.1;rw [f43n2L,decide_eq_true (by omega:(v:Int)≤220),cond_true,e];simp only [Option.bind_some];cases b with
  | true=>exact .inr rfl
  | false =>
   rw [cond_false]
   by_cases h3:300<(x.Text.size:Int)
   ·rw [decide_eq_true h3]; exact .inr rfl
   ·rw [decide_eq_false h3,cond_false];rcases f43n2L_at j l (v+1) (by omega) (fun r hr=>hk r (List.mem_cons_of_mem _ hr)) with ⟨k1,k2⟩ | k
    ·refine .inl ⟨k1,fun r hr=>?_⟩;rcases List.mem_cons.1 hr with rfl | hr
     ·exact ⟨hb rfl,by omega⟩
     ·exact k2 r hr
    ·exact .inr k
theorem f18_at{j:Qi}(h:Jk j):∃b,f18 j=some b∧(b=false→j.Records.length≤30∧∀r∈j.Records,smR r):=by
 unfold f18 f18n0
 by_cases h3:30<(j.Records.length:Int)
 ·rw [decide_eq_true h3]; exact ⟨true,rfl,fun h=>by cases h⟩
 ·rw [decide_eq_false h3,cond_false];unfold f43 f43n0 f43n1;rw [f43n2_run _ h.1];rcases f43n2L_at j j.Records 0 (by omega) h.2 with ⟨e,hs⟩ | e
  ·rw [show ((0:Nat):Int)=0 from rfl] at e;rw [e];refine ⟨false,?_,fun _=>⟨by omega,hs⟩⟩;simp only [Option.bind_some];rw [decide_eq_false (by omega:¬(220:Int)<(j.Records.length:Int))]
  ·rw [show ((0:Nat):Int)=0 from rfl] at e;rw [e];exact ⟨true,rfl,fun h=>by cases h⟩

theorem f80_eq(a:ByteArray):f80 a=some false:=by unfold f80 f80n0; simp [seq_refl]
theorem f62_eq(a b:ByteArray):f62 a b=some (cmpB a b):=by
 unfold f62 f62n0 cmpB;rw [f80_eq,f80_eq];simp only [Option.bind_some,cond_false];cases slt a b<;>cases seq a b<;>rfl
theorem f61_eq(x y:Int):f61 [x,y]=some (cmpOr x y):=by
 unfold f61 f61n0 f61n1 cmpOr;rw [f61n2_run [x,y] (Qaw (by simp))]
 by_cases hx:x=0
 ·by_cases hy:y=0
  ·subst hx hy; rfl
  ·subst hx; simp only [f61n2L,decide_eq_false hy,decide_true,cond_true,cond_false,Option.bind_some]
 ·simp only [f61n2L,decide_eq_false hx,cond_false,Option.bind_some]
theorem f41_eq(a b:RW):f41 a b=some (rwC a b):=by
 unfold f41 f41n0;rw [f62_eq,f62_eq];simp only [Option.bind_some,f61_eq];rfl
theorem f29_eq(a b:RW):f29 a b=some (ltR a b):=by
 rw [←bef_lt];unfold f29 f29n0 befR;cases seq a.Account b.Account<;>rfl


def nzR(x:RW):Bool:=!(decide (x.In=0)&&decide (x.Out=0))
theorem f37r1n2_at(m:TB_):∀(p:TB_)(out:List RW),(∀x∈p,nzR x.2=true)→out.length+p.length≤1000000→Qbh m p out=some (.exit0 (out++p.map Prod.snd))
 | [],out,_,_=>by rw [Qbh,List.map_nil,List.append_nil]
 | x::p,out,h,hl=>by
  rw [List.length_cons] at hl;have hx:=h x List.mem_cons_self;have ih:=f37r1n2_at m p (out++[x.2]) (fun y hy=>h y (List.mem_cons_of_mem _ hy)) (by rw [List.length_append,List.length_singleton]; omega);rw [List.append_assoc] at ih;unfold nzR at hx;rw [Qbh,ih,req,fitSmall (by omega) (by omega),cond_true]
  revert hx
  cases decide (x.2.In=0)<;>cases decide (x.2.Out=0)<;>intro hx<;>first | rfl | cases hx
theorem tr_perm{m:TB_}{l:List RW}(T:TR m l):(m.map Prod.snd).Perm l:=by
 refine (List.perm_ext_iff_of_nodup ?_ ?_).2 fun z=>?_
 ·refine List.pairwise_map.2 (T.nd.imp_of_mem fun {a b} ha hb h e=>h ?_);rw [T.key a ha,T.key b hb,e]
 ·exact T.sr.imp fun {a b} h e=>by rw [e,swoR.irr] at h; cases h
 ·rw [T.mem z,List.mem_map]
  constructor
  ·rintro ⟨q,hq,rfl⟩; exact ⟨q.1,hq⟩
  ·rintro ⟨k,hk⟩; exact ⟨(k,z),hk,rfl⟩
theorem f37r1_eq{m:TB_}{l:List RW}(T:TR m l)(hn:∀x∈l,nzR x=true)(hl:l.length≤1000000):f37r1 m=some l:=by
 have hml:m.length=l.length:=by rw [←(tr_perm T).length_eq,List.length_map]
 have key:anyOrder m (fun p=>(f37r1n1 m p).bind fun o38=>match o38 with
   | .norm v40=>(so59_41 v40).bind fun x43=>some (.ret x43))=some (f37r1n0O.ret l):=by
  refine anyOrder_of fun p hp=>?_;have hpl:(p.map Prod.snd).Perm l:=(hp.map _).trans (tr_perm T);unfold f37r1n1;rw [f37r1n2_at m p [] (fun x hx=>hn _ ((hpl.mem_iff).1 (List.mem_map_of_mem hx))) (by rw [hp.length_eq,hml]; simpa using hl)];simp only [Option.bind_some,List.nil_append];rw [so59_41_val f41_eq rwC_cmp.SWO (by rw [hpl.length_eq]; omega)];have hperm:=(sortL_perm rwC_cmp.SWO (p.map Prod.snd)).trans hpl;have hsd:Sd ltR l:=T.sr.imp fun {x y} k=>swoR.asym k;have hne:l.Pairwise fun x y=>eqv ltR x y=false:=T.sr.imp fun {x y} k=>by unfold eqv; rw [k]; rfl
  have:sortL rwC (p.map Prod.snd)=l:=(sorted_one swoR hsd (sortL_sorted rwC_cmp.SWO _) (Cl.of_perm hperm hne swoR)).symm;rw [this]; rfl
 unfold f37r1 f37r1n0;rw [key]; rfl

def rowL(x:Qb):RW:=bif decide (x.Amount<0) then ⟨x.Account,x.Ccy,0,wr64 (0-x.Amount)⟩ else ⟨x.Account,x.Ccy,x.Amount,0⟩
theorem mxI_le{a b:Int}(h:a≤b):mxI a b=b:=by
 unfold mxI
 by_cases k:a<b
 ·rw [decide_eq_true k]; rfl
 ·rw [decide_eq_false k,cond_false]; omega
theorem mxI_ge{a b:Int}(h:b≤a):mxI a b=a:=by
 unfold mxI;rw [decide_eq_false (by omega)]; rfl
theorem row_tab{x:Qb}(h:within x.Amount=true):(⟨x.Account,x.Ccy,mxI x.Amount 0,mxI (wr64 (0-x.Amount)) 0⟩:RW)=rowL x:=by
 unfold within at h;rw [Bool.and_eq_true,decide_eq_true_eq,decide_eq_true_eq] at h;unfold rowL;rw [wrIn (n:=0-x.Amount) (by omega) (by omega)]
 by_cases hn:x.Amount<0
 ·rw [decide_eq_true hn,cond_true,mxI_le (by omega),mxI_ge (by omega)]
 ·rw [decide_eq_false hn,cond_false,mxI_ge (by omega),mxI_le (by omega)]
def Pz(B:Int)(z:RW):Prop:=0≤z.In∧z.In≤B∧0≤z.Out∧z.Out≤B∧0<z.In+z.Out
theorem row_p{x:Qb}(h:within x.Amount=true)(h0:x.Amount≠0):Pz 1125899906842624 (rowL x):=by
 unfold within at h;rw [Bool.and_eq_true,decide_eq_true_eq,decide_eq_true_eq] at h;unfold rowL Pz;rw [wrIn (n:=0-x.Amount) (by omega) (by omega)]
 by_cases hn:x.Amount<0
 ·rw [decide_eq_true hn,cond_true]; simp only []; omega
 ·rw [decide_eq_false hn,cond_false]; simp only []; omega
def okL(x:Qb):Prop:=within x.Amount=true∧x.Amount≠0
theorem with_p{B:Int}(hB:B≤4611686018427387904){x:RW}(hx:Pz 1125899906842624 x){l:List RW}(hs:RwS l)(hl:∀z∈l,Pz B z)(h0:0≤B):∀z∈Qca l x,Pz (B+1125899906842624) z:=by
 intro z hz;rcases (with_mem hs z).1 hz with ⟨k,_⟩ | rfl
 ·have:=hl z k;unfold Pz at *; omega
 ·unfold getR
  split
  ·rename_i y hy;have:=hl y (List.mem_of_find?_eq_some hy);unfold Pz addR at *;rw [wrIn (n:=x.In+y.In) (by omega) (by omega),wrIn (n:=x.Out+y.Out) (by omega) (by omega)];simp only []; omega
  ·unfold Pz at *; omega
theorem with_len(l:List RW)(x:RW):(Qca l x).length≤l.length+1:=by
 induction l with
 | nil=>simp [Qca]
 | cons y r ih =>
  rw [Qca];cases ltR y x with
  | true=>rw [cond_true,List.length_cons,List.length_cons]; omega
  | false =>
   rw [cond_false];cases ltR x y<;>simp
structure St_ (n:Nat) (m:TB_) (l:List RW):Prop where
 tr:TR m l
 p:∀z∈l,Pz (n*1125899906842624) z
 len:l.length≤n
theorem St_.nil:St_ 0 [] []:=⟨TR.nil,by simp,Nat.le_refl _⟩
theorem St_.add{n:Nat}{m:TB_}{l:List RW}(S:St_ n m l)(hn:n≤4000){x:Qb}(h:okL x):St_ (n+1) (addT m (rowL x)) (Qca l (rowL x)):=by
 have hp:=row_p h.1 h.2;refine ⟨S.tr.add ?_ ?_,fun z hz=>?_,?_⟩
 ·unfold Pz at hp; omega
 ·unfold Pz at hp; omega
 ·have:=with_p (B:=n*1125899906842624) (by omega) hp S.tr.sr S.p (by omega) z hz;have e:((n+1:Nat):Int)*1125899906842624=n*1125899906842624+1125899906842624:=by omega
  rw [e]; exact this
 ·have:=with_len l (rowL x);have:=S.len;omega
def linT(m:TB_)(ls:List Qb):TB_:=ls.foldl (fun m x=>addT m (rowL x)) m
def linW(l:List RW)(ls:List Qb):List RW:=ls.foldl (fun l x=>Qca l (rowL x)) l
theorem St_.lines:∀(ls:List Qb){n:Nat}{m:TB_}{l:List RW},St_ n m l→n+ls.length≤4000→(∀x∈ls,okL x)→St_ (n+ls.length) (linT m ls) (linW l ls)
 | [],_,_,_,S,_,_=>S
 | x::r,n,m,l,S,h,ho=>by
  rw [List.length_cons] at h;have:=St_.lines r (S.add (by omega) (ho x List.mem_cons_self)) (by omega) (fun y hy=>ho y (List.mem_cons_of_mem _ hy));rw [List.length_cons,show n+(r.length+1)=n+1+r.length by omega];exact this
theorem linT_app(m:TB_)(a b:List Qb):linT m (a++b)=linT (linT m a) b:=List.foldl_append
theorem f36r2_eq(a b:ByteArray)(c d:Int)(m:TB_):f36r2 a b c d m=some ():=rfl
theorem f21n3L_at(from_ to_ kn:Int)(j:Qi)(i:Int)(r:Qc):∀(ls:List Qb)(v:Int)(m:TB_),(∀x∈ls,okL x)→f21n3L from_ to_ kn j i r ls v m=some (.exit2 (linT m ls))
 | [],_,_,_=>rfl
 | x::ls,v,m,h=>by
  rw [f21n3L,f36r2_eq];simp only [Option.bind_some];rw [f21n3L_at from_ to_ kn j i r ls _ _ (fun y hy=>h y (List.mem_cons_of_mem _ hy))];show some (f21n3O.exit2 (linT (addT m ⟨x.Account,x.Ccy,mxI x.Amount 0,mxI (wr64 (0-x.Amount)) 0⟩) ls))=some (.exit2 (linT (addT m (rowL x)) ls));rw [row_tab (h x List.mem_cons_self).1]

noncomputable def dayR(r:Qc):Int:=(f23 r).getD 0
theorem f23_eq{r:Qc}(h:r.Text.size≤1000):f23 r=some (dayR r):=by
 obtain ⟨d,e,_⟩:=day_tot h;unfold dayR; rw [e]; rfl
noncomputable def selR(a b:Int)(r:Qc):List Qb:=bif decide (dayR r<a) then [] else bif decide (b≤dayR r) then [] else r.Lines
noncomputable def selL(a b:Int):List Qc→List Qb
 | []=>[]
 | r::l=>selR a b r++selL a b l
def okR(r:Qc):Prop:=r.Text.size≤300∧r.Lines.length≤20∧∀x∈r.Lines,okL x
theorem selR_ok{a b:Int}{r:Qc}(h:okR r):(selR a b r).length≤20∧∀x∈selR a b r,okL x:=by
 unfold selR;cases decide (dayR r<a) with
 | true=>simp
 | false=>cases decide (b≤dayR r) with
  | true=>simp
  | false=>exact ⟨h.2.1,h.2.2⟩
theorem f21n2_eq{a b kn i:Int}{j:Qi}{r:Qc} (hr:at? ((j.Records.take (Int.toNat kn)).drop 0) i=some r) (ho:okR r) (m:TB_):f21n2 a b kn j i m=some (.norm (linT m (selR a b r))):=by
 unfold f21n2 selR;rw [hr];simp only [Option.bind_some];rw [f23_eq (by have:=ho.1; omega)];simp only [Option.bind_some];rw [f21n3_run _ _ _ _ _ _ _ (Qaw (by have:=ho.2.1; omega)),f21n3L_at a b kn j i r r.Lines 0 m ho.2.2];cases decide (dayR r<a) with
 | true=>rfl
 | false=>cases decide (b≤dayR r)<;>rfl
theorem f21n4_at{a b:Int}{q:Nat}{j:Qi}(hq:j.Records.length≤1000):∀(l:List Qc)(f k:Nat)(m:TB_),(j.Records.take q).drop k=l→l.length<f→(∀r∈l,okR r)→f21n4 f a b (q:Int) j (k:Int) m=some (.exit0 (linT m (selL a b l)))
 | _,0,_,_,_,h,_=>absurd h (Nat.not_lt_zero _)
 | [],f+1,k,m,hd,_,_=>by
  have:=Qak hd;rw [f21n4,List.drop_zero,Int.toNat_natCast,decide_eq_false (by omega),cond_false]; rfl
 | r::l,f+1,k,m,hd,hf,ho=>by
  obtain ⟨ha,hk,hd'⟩:=dropAt hd;rw [List.length_cons] at hf;have hlen:(j.Records.take q).length≤1000:=by rw [List.length_take]; omega
  rw [f21n4,List.drop_zero,Int.toNat_natCast,decide_eq_true (by omega),cond_true,f21n2_eq (r:=r) (by rw [List.drop_zero,Int.toNat_natCast]; exact ha) (ho r List.mem_cons_self)];simp only [Option.bind_some];rw [wrSucc (by omega),f21n4_at hq l f (k+1) _ hd' (by omega) (fun y hy=>ho y (List.mem_cons_of_mem _ hy)),selL,linT_app]
theorem sel_ok{a b:Int} : ∀{l:List Qc},(∀r∈l,okR r)→(selL a b l).length≤20*l.length∧∀x∈selL a b l,okL x
 | [],_=>by simp [selL]
 | r::l,h=>by
  have h1:=selR_ok (a:=a) (b:=b) (h r List.mem_cons_self);have h2:=sel_ok (a:=a) (b:=b) (l:=l) fun y hy=>h y (List.mem_cons_of_mem _ hy);rw [selL,List.length_append,List.length_cons];refine ⟨by omega,fun x hx=>?_⟩;rcases List.mem_append.1 hx with k | k
  ·exact h1.2 x k
  ·exact h2.2 x k
theorem open_formed:∀(l:List Qc)(d m:Int)(b:Bal),(openL l d m b).1=true→∀r∈l,formedB r=true
 | [],_,_,_,_=>by simp
 | r::l,d,m,b,h=>by
  rw [openL] at h;cases ha:(addS r d m b).1 with
  | false=>rw [ha] at h; cases h
  | true =>
   rw [ha,cond_true] at h;intro x hx;rcases List.mem_cons.1 hx with rfl | hx
   ·exact (add_true ha).2.1
   ·exact open_formed l _ _ _ h x hx
theorem formed_ok{r:Qc}(h:formedB r=true):okR r:=by
 obtain ⟨_,_,h1,_,h2,h3⟩:=formed_small h;refine ⟨by omega,h2,fun x hx=>?_⟩;have:=List.any_eq_false.1 h3 x hx;unfold badL at this;simp only [Bool.or_eq_true,not_or,Bool.not_eq_true,Bool.not_eq_false',decide_eq_false_iff_not] at this;exact ⟨this.2.2.2,this.2.2.1⟩


theorem f39_eq(a b:Int):f39 a b=some (decide (0≤a)&&(decide (a≤b)&&decide (b≤100000))):=by
 unfold f39 f39n0;cases decide (0≤a)<;>cases decide (a≤b)<;>rfl
noncomputable def betS(j:Qi)(a b kn:Int):Qj×Int :=
 bif (openS j).1 then
  bif decide (0≤a)&&(decide (a≤b)&&decide (b≤100000)) then
   bif decide (0≤kn)&&decide (kn≤(j.Records.length:Int)) then (⟨a,b,kn,linW [] (selL a b (j.Records.take kn.toNat))⟩,0) else (⟨0,0,0,[]⟩,2)
  else (⟨0,0,0,[]⟩,2)
 else (⟨0,0,0,[]⟩,8)
theorem open_ok{j:Qi}(hl:j.Records.length≤200)(ho:(openS j).1=true):∀r∈j.Records,okR r:=fun r hr=>by
 unfold openS at ho;rw [decide_eq_false (by omega:¬200<j.Records.length),cond_false] at ho;exact formed_ok (open_formed _ _ _ _ ho r hr)
theorem st_take{j:Qi}(hl:j.Records.length≤31)(ho:(openS j).1=true)(a b:Int)(q:Nat):St_ (selL a b (j.Records.take q)).length (linT [] (selL a b (j.Records.take q))) (linW [] (selL a b (j.Records.take q)))∧(selL a b (j.Records.take q)).length≤620∧∀x∈selL a b (j.Records.take q),okL x:=by
 have hok:=open_ok (by omega) ho;have hokq:∀r∈j.Records.take q,okR r:=fun r hr=>hok r (List.mem_of_mem_take hr);have hql:(j.Records.take q).length≤31:=by rw [List.length_take]; omega
 have hsel:=sel_ok (a:=a) (b:=b) hokq;have S:=St_.nil.lines (selL a b (j.Records.take q)) (by omega) hsel.2;rw [Nat.zero_add] at S;exact ⟨S,by omega,hsel.2⟩
theorem f21_eq{j:Qi}(hj:Jk j)(hl:j.Records.length≤31)(a b kn:Int):f21 j a b kn=some (betS j a b kn):=by
 unfold f21 f21n0 betS;rw [f50_eq hj,f39_eq];cases ho:(openS j).1 with
 | false=>rfl
 | true =>
  simp only [cond_true,Option.bind_some,decide_true];cases decide (0≤a)&&(decide (a≤b)&&decide (b≤100000)) with
  | false=>rfl
  | true =>
   simp only [cond_true]
   by_cases h0:kn<0
   ·rw [decide_eq_true h0,decide_eq_false (by omega:¬0≤kn)]; rfl
   ·rw [decide_eq_false h0,cond_false,decide_eq_true (by omega:0≤kn)]
    by_cases h1:(j.Records.length:Int)<kn
    ·rw [decide_eq_true h1,decide_eq_false (by omega:¬kn≤(j.Records.length:Int))]; rfl
    ·rw [decide_eq_false h1,cond_false,decide_eq_true (by omega:kn≤(j.Records.length:Int))];obtain ⟨q,rfl⟩:∃q:Nat,kn=(q:Int):=⟨kn.toNat,by omega⟩;have hok:=open_ok (by omega) ho;have hokq:∀r∈j.Records.take q,okR r:=fun r hr=>hok r (List.mem_of_mem_take hr);have hql:(j.Records.take q).length≤31:=by rw [List.length_take]; omega
     have e5:=f21n4_at (a:=a) (b:=b) (q:=q) (j:=j) (by omega) (j.Records.take q) FUEL 0 [] rfl (fuelSmall (by omega)) hokq;obtain ⟨S,hn,_⟩:=st_take hl ho a b q;rw [show ((0:Nat):Int)=0 from rfl] at e5;have hc:cutB 0 (q:Int) j.Records.length=true:=by simp only [cutB,decide_eq_true_eq]; omega
     unfold f21n1;rw [hc,req,cond_true,e5];simp only [Option.bind_some];have hlen:=S.len;rw [f37r1_eq S.tr (fun x hx=>by
      have:=S.p x hx;unfold Pz at this;unfold nzR
      by_cases hi:x.In=0
      ·rw [decide_eq_true hi,decide_eq_false (by omega)]; rfl
      ·rw [decide_eq_false hi]; rfl) (by omega)]
     rfl
end Go.Proofs.YtfeklaffeigilaaDoor
