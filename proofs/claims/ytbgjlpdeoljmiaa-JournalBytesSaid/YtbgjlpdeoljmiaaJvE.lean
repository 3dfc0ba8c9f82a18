/- Several texts in one. No condition. -/
import Derived.Test.YtbgjlpdeoljmiaaE4
import Derived.Test.YtbgjlpdeoljmiaaTU
namespace Go.Proofs.Ytbgjlpdeoljmiaa
set_option linter.unusedVariables false
set_option linter.unusedSimpArgs false
set_option maxRecDepth 100000
open Go.RowKit
noncomputable def c42:Code:=Try.f42.body.getD .skip
inductive f42r1n2O where
 | exit0 (v19:List Int)
def f42r1n2E(bf2:Int):f42r1n2O→Ex×Tr×Hp
 | .exit0 v19=>((.exit 0),mkS [(5,(.own 0))],[some (.row false 1 (v19.map (cInt .u8)))])
def f42r1n2S(bf2 v12 v13:Int)(v14:List Int):Tr×Hp:=(mkS [(0,(.pl (.int .u64 v12))),(1,(jI bf2)),(5,(.own 0)),(6,(jI v13))],[some (.row false 1 (v14.map (cInt .u8)))])
noncomputable def f42r1n2:Nat→Int→Int→Int→List Int→Option f42r1n2O
 | 0,_,_,_,_=>none
 | f+1,bf2,v12,v13,v14 =>
  bif decide (v13<bf2) then
   req (fit (v14.length+1) 1) <|
   (f42r1n2 f bf2 (Qu (Int.tdiv v12 256)) (wr64 (v13+1)) (v14++[(wru8 (Int.tmod v12 256))]))
  else
   some (.exit0 v14)
theorem f42r1n2_ok:∀(f:Nat)(bf2 v12 v13:Int)(v14:List Int){o:f42r1n2O},f42r1n2 f bf2 v12 v13 v14=some o→TL Try.prog Try.f42.ntmps 0 f (cL (cL (Qk 1 (cL (Qk 2 c42))))) (f42r1n2S bf2 v12 v13 v14) (·=f42r1n2E bf2 o)
 | 0,_,_,_,_,o,h=>by rw [f42r1n2] at h; cases h
 | f+1,bf2,v12,v13,v14,o,h=>by
  rw [f42r1n2] at h;refine TL.body (K:=fun s=>∃v12:Int,∃v13:Int,∃v14:List Int,s=(f42r1n2S bf2 v12 v13 v14)∧f42r1n2 f bf2 v12 v13 v14=some o) ?_ (by rintro _ ⟨v12,v13,v14,rfl,hk⟩; exact f42r1n2_ok f _ _ _ _ hk);rcases Qg h with ⟨h16,h⟩|⟨h16,h⟩
  ·obtain ⟨h18,h⟩:=Qp h;exact rE Qf [j3,([],[(5,.fits)],[(5,.row 2 ((v14++[(wru8 (Int.tmod v12 256))]).map (cInt .u8)))]),j3,j3] [some true] [] [2] [0,1,5,6] (.norm,(f42r1n2S bf2 (Qu (Int.tdiv v12 256)) (wr64 (v13+1)) (v14++[(wru8 (Int.tmod v12 256))]))) (ap h16 (ap (Qbq (te:=ti5) (xs:=v14) (n:=1) (c:=(cInt .u8)) h18 rfl) (ap (Qap (xs:=v14) (ys:=[(wru8 (Int.tmod v12 256))]) (c:=(cInt .u8))) an))) (Qt.norm ⟨(Qu (Int.tdiv v12 256)),(wr64 (v13+1)),(v14++[(wru8 (Int.tmod v12 256))]),rfl,h⟩)
  ·obtain rfl:=Qd h;exact rK Qf 1 [j3] [some false] [] [0] [5] (.exit 0) ((f42r1n2E bf2 (.exit0 v14)).2) (ap h16 an) (Qt.out rfl rfl)
inductive f42r1n1O where
 | norm (v23:List Int)
def f42r1n1E(bf1 bf2:Int):f42r1n1O→Ex×Tr×Hp
 | .norm v23=>(.norm,mkS [(5,(.own 0))],[some (.row false 1 (v23.map (cInt .u8)))])
def f42r1n1S(bf1 bf2:Int):Tr×Hp:=(mkS [(0,(.pl (.int .u64 bf1))),(1,(jI bf2)),(5,(.pl (.sl .nil 0 [])))],[])
noncomputable def f42r1n1(bf1 bf2:Int):Option f42r1n1O :=
 (f42r1n2 FUEL bf2 bf1 0 []).bind fun o20=>match o20 with
 | .exit0 v22=>some (.norm v22)
theorem f42r1n1_ok(bf1 bf2:Int){o:f42r1n1O}(h:f42r1n1 bf1 bf2=some o):T Try.prog Try.f42.ntmps 0 (cL (Qk 2 c42)) (f42r1n1S bf1 bf2) (·=f42r1n1E bf1 bf2 o):=by
 unfold f42r1n1 at h;refine rN Qf 1 [j3] [] [.mat 5 1] [0] [0,1,5,6] (f42r1n2S bf2 bf1 0 []) an ?_;obtain ⟨o20,h21,h⟩:=Qc h;cases o20 with
 | exit0 v22 =>
  obtain rfl:=Qd h;exact T.last' (T.bl (i:=0) (by kernel_rfl) (by kernel_rfl) (f42r1n2_ok FUEL bf2 bf1 0 [] h21)) (tds:=[]) (m:=[0]) (keep:=[5]) (st2:=(f42r1n1E bf1 bf2 (.norm v22)).2) (by kernel_rfl) an rfl
inductive f42r1n0O where
 | ret (v27:List Int)
def f42r1n0E(a1 a2:Int):f42r1n0O→Ex×Tr×Hp
 | .ret v27=>(.ret,mkS [(4,(.own 0))],[some (.row false 1 (v27.map (cInt .u8)))])
def f42r1n0S(a1 a2:Int):Tr×Hp:=(Qai [(.pl (.int .u64 a1)),(jI a2)] 0 .leaf,[])
noncomputable def f42r1n0(a1 a2:Int):Option f42r1n0O :=
 (f42r1n1 a1 a2).bind fun o24=>match o24 with
 | .norm v26=>some (.ret v26)
theorem f42r1n0_ok(a1 a2:Int){o:f42r1n0O}(h:f42r1n0 a1 a2=some o):T Try.prog Try.f42.ntmps 0 c42 (f42r1n0S a1 a2) (·=f42r1n0E a1 a2 o):=by
 unfold f42r1n0 at h;refine rN Qf 2 [j3,j3] [] [] [] [0,1,5] (f42r1n1S a1 a2) an ?_;obtain ⟨o24,h25,h⟩:=Qc h;cases o24 with
 | norm v26 =>
  refine T.oneN (by kernel_rfl) (f42r1n1_ok a1 a2 h25) (st2:=(f42r1n1E a1 a2 (.norm v26)).2) rfl ?_;obtain rfl:=Qd h;exact rE Qf [j3] [] [] [0] [4] (.ret,(f42r1n0E a1 a2 (.ret v26)).2) an rfl
noncomputable def f42r1(a1 a2:Int):Option (List Int):=(f42r1n0 a1 a2).bind fun o=>match o with
 | .ret v27=>some v27
theorem Qam(a1 a2:Int){r:List Int}(h:f42r1 a1 a2=some r):Qm Try.prog true 42 [(.pl (.int .u64 a1)),(jI a2)] [] (.own 0) [some (.row false 1 (r.map (cInt .u8)))]:=by
 unfold f42r1 at h;obtain ⟨o,ho,h⟩:=Qc h;cases o with
 | ret v27 =>
  obtain rfl:=Qd h;exact Qm.shared Qf (f:=Try.f42) (c:=c42) (by kernel_rfl) (by kernel_rfl) (by kernel_rfl) ((f42r1n0_ok a1 a2 ho).mono fun r e=>by subst e; exact ⟨.inl rfl,by kernel_rfl,by kernel_rfl⟩)

noncomputable def c41:Code:=Try.f41.body.getD .skip
inductive f41r1n1O where
 | norm (v21:List Int)
def f41r1n1E(bf1:Int)(bb2:Qa):f41r1n1O→Ex×Tr×Hp
 | .norm v21=>(.norm,mkS [(3,(.bp 0 0)),(5,(.own 1))],[some (.box 47 ((Qa.cells bb2).map .pl)),some (.row false 1 (v21.map (cInt .u8)))])
def f41r1n1S(bf1:Int)(bb2:Qa):Tr×Hp:=(mkS [(0,(jI bf1)),(3,(.bp 0 0))],[some (.box 47 ((Qa.cells bb2).map .pl))])
noncomputable def f41r1n1(bf1:Int)(bb2:Qa):Option f41r1n1O :=
 (f42r1 (Qu bf1) 4).bind fun x15 =>
 (f42r1 (Qu bb2.Day) 4).bind fun x17 =>
 bif (x17.isEmpty) then
  some (.norm x15)
 else
  req (fit (x15.length+x17.length) 1) <|
  some (.norm (x15++x17))
theorem f41r1n1_ok(bf1:Int)(bb2:Qa){o:f41r1n1O}(h:f41r1n1 bf1 bb2=some o):T Try.prog Try.f41.ntmps 0 (cL (Qk 1 c41)) (f41r1n1S bf1 bb2) (·=f41r1n1E bf1 bb2 o):=by
 unfold f41r1n1 at h;obtain ⟨x15,h16,h⟩:=Qc h;obtain ⟨x17,h18,h⟩:=Qc h;rcases Qg h with ⟨h19,h⟩|⟨h19,h⟩
 ·obtain rfl:=Qd h;exact rE Qf [([],[(2,.call (.own 3) (jN 3 [some (.row false 1 (x15.map (cInt .u8)))])),(6,.call (.own 4) (jN 4 [some (.row false 1 (x17.map (cInt .u8)))])),(7,.app false)],[])] [] [] [0,3] [3,5] (.norm,(f41r1n1E bf1 bb2 (.norm x15)).2) (ap (Qbc (c:=(cInt .u8)) h19) (ap (same_hlen (e:=⟨true,42,[(.pl (.int .u64 (Qu bf1))),(jI 4)],[none,none,none],(.own 3),(jN 3 [some (.row false 1 (x15.map (cInt .u8)))])⟩) (f:=⟨true,42,[(.pl (.int .u64 (Qu bb2.Day))),(jI 4)],(jN 3 [none]),(.own 4),(jN 4 [some (.row false 1 (x17.map (cInt .u8)))])⟩) (by kernel_rfl)) (ap (Qm.rn 3 [] (Qam (Qu bf1) 4 h16)) (ap (Qm.rn 4 [] (Qam (Qu bb2.Day) 4 h18)) an)))) rfl
 ·obtain ⟨h20,h⟩:=Qp h;obtain rfl:=Qd h
  exact rE Qf [([],[(2,.call (.own 3) (jN 3 [some (.row false 1 (x15.map (cInt .u8)))])),(6,.call (.own 4) (jN 4 [some (.row false 1 (x17.map (cInt .u8)))])),(7,.app true)],[(7,.row 1 ((x15++x17).map (cInt .u8)))])] [] [] [0,1] [3,5] (.norm,(f41r1n1E bf1 bb2 (.norm (x15++x17))).2) (ap (Qbj (te:=ti5) (xs:=x15) (ys:=x17) (c:=(cInt .u8)) (d:=(cInt .u8)) h20 rfl) (ap (Qcf (c:=(cInt .u8)) h19) (ap (Qbd (c:=(cInt .u8)) (xs:=x17) (n:=1) (fun _=>rfl)) (ap (Qap (xs:=x15) (ys:=x17) (c:=(cInt .u8))) (ap (same_hlen (e:=⟨true,42,[(.pl (.int .u64 (Qu bf1))),(jI 4)],[none,none,none],(.own 3),(jN 3 [some (.row false 1 (x15.map (cInt .u8)))])⟩) (f:=⟨true,42,[(.pl (.int .u64 (Qu bb2.Day))),(jI 4)],(jN 3 [none]),(.own 4),(jN 4 [some (.row false 1 (x17.map (cInt .u8)))])⟩) (by kernel_rfl)) (ap (Qm.rn 3 [] (Qam (Qu bf1) 4 h16)) (ap (Qm.rn 4 [] (Qam (Qu bb2.Day) 4 h18)) an))))))) rfl
inductive f41r1n2O where
 | norm (v34:List Int)
def f41r1n2E(bb1:Qa)(bk2:List Int):f41r1n2O→Ex×Tr×Hp
 | .norm v34=>(.norm,mkS [(3,(.bp 0 0)),(5,(.own 1))],[some (.box 47 ((Qa.cells bb1).map .pl)),some (.row false 1 (v34.map (cInt .u8)))])
def f41r1n2S(bb1:Qa)(bk2:List Int):Tr×Hp:=(mkS [(3,(.bp 0 0)),(5,(.own 1))],[some (.box 47 ((Qa.cells bb1).map .pl)),some (.row false 1 (bk2.map (cInt .u8)))])
noncomputable def f41r1n2(bb1:Qa)(bk2:List Int):Option f41r1n2O :=
 req (fit (bk2.length+1) 1) <|
 bif ((ofB bb1.Text).isEmpty) then
  some (.norm (bk2++[(wru8 (bb1.Text.size:Int))]))
 else
  req (fit ((bk2++[(wru8 (bb1.Text.size:Int))]).length+(ofB bb1.Text).length) 1) <|
  some (.norm ((bk2++[(wru8 (bb1.Text.size:Int))])++(ofB bb1.Text)))
theorem f41r1n2_ok(bb1:Qa)(bk2:List Int){o:f41r1n2O}(h:f41r1n2 bb1 bk2=some o):T Try.prog Try.f41.ntmps 0 (cL (Qk 0 (Qk 1 (Qk 1 c41)))) (f41r1n2S bb1 bk2) (·=f41r1n2E bb1 bk2 o):=by
 unfold f41r1n2 at h;obtain ⟨h31,h⟩:=Qp h;rcases Qg h with ⟨h32,h⟩|⟨h32,h⟩
 ·obtain rfl:=Qd h;exact rE Qf [([],[(6,.fits),(9,.app false)],[(6,.row 3 ((bk2++[(wru8 (bb1.Text.size:Int))]).map (cInt .u8)))])] [] [] [0,3] [3,5] (.norm,(f41r1n2E bb1 bk2 (.norm (bk2++[(wru8 (bb1.Text.size:Int))]))).2) (ap (Qbq (te:=ti5) (xs:=bk2) (n:=1) (c:=(cInt .u8)) h31 rfl) (ap (Qap (xs:=bk2) (ys:=[(wru8 (bb1.Text.size:Int))]) (c:=(cInt .u8))) (ap (nil_str h32) an))) rfl
 ·obtain ⟨h33,h⟩:=Qp h;obtain rfl:=Qd h;exact rE Qf [([],[(6,.fits),(9,.app true)],[(6,.row 3 ((bk2++[(wru8 (bb1.Text.size:Int))]).map (cInt .u8))),(9,.row 4 (((bk2++[(wru8 (bb1.Text.size:Int))])++(ofB bb1.Text)).map (cInt .u8)))])] [] [] [0,4] [3,5] (.norm,(f41r1n2E bb1 bk2 (.norm ((bk2++[(wru8 (bb1.Text.size:Int))])++(ofB bb1.Text)))).2) (ap (Qbq (te:=ti5) (xs:=bk2) (n:=1) (c:=(cInt .u8)) h31 rfl) (ap (Qap (xs:=bk2) (ys:=[(wru8 (bb1.Text.size:Int))]) (c:=(cInt .u8))) (ap (fit_str2 (te:=ti5) (xs:=(bk2++[(wru8 (bb1.Text.size:Int))])) (c:=(cInt .u8)) (s:=bb1.Text) h33 rfl) (ap (ne_str h32) (ap (len_str (s:=bb1.Text)) (ap (app_str (xs:=(bk2++[(wru8 (bb1.Text.size:Int))])) (s:=bb1.Text)) an)))))) rfl
inductive f41r1n5O where
 | norm (v228:List Int)
def f41r1n5E(bf1:Int)(bb2:Qa)(bk3:List Int)(bp4:Qb):f41r1n5O→Ex×Tr×Hp
 | .norm v228=>(.norm,mkS [(3,(.bp 0 0)),(5,(.own 1)),(6,(jI bf1)),(7,(.bp 2 0))],[some (.box 47 ((Qa.cells bb2).map .pl)),some (.row false 1 (v228.map (cInt .u8))),some (.box 49 ((Qb.cells bp4).map .pl))])
def f41r1n5S(bf1:Int)(bb2:Qa)(bk3:List Int)(bp4:Qb):Tr×Hp:=(mkS [(3,(.bp 0 0)),(5,(.own 1)),(6,(jI bf1)),(7,(.bp 2 0))],[some (.box 47 ((Qa.cells bb2).map .pl)),some (.row false 1 (bk3.map (cInt .u8))),some (.box 49 ((Qb.cells bp4).map .pl))])
noncomputable def f41r1n5(bf1:Int)(bb2:Qa)(bk3:List Int)(bp4:Qb):Option f41r1n5O :=
 req (fit (bk3.length+1) 1) <|
 bif ((ofB bp4.Account).isEmpty) then
  some (.norm (bk3++[(wru8 (bp4.Account.size:Int))]))
 else
  req (fit ((bk3++[(wru8 (bp4.Account.size:Int))]).length+(ofB bp4.Account).length) 1) <|
  some (.norm ((bk3++[(wru8 (bp4.Account.size:Int))])++(ofB bp4.Account)))
theorem f41r1n5_ok(bf1:Int)(bb2:Qa)(bk3:List Int)(bp4:Qb){o:f41r1n5O}(h:f41r1n5 bf1 bb2 bk3 bp4=some o):T Try.prog Try.f41.ntmps 0 (cL (Qk 1 (cL (cL (Qk 1 (cL (cL (Qk 1 (cL (Qk 1 (Qk 1 (Qk 0 (Qk 1 (Qk 1 c41)))))))))))))) (f41r1n5S bf1 bb2 bk3 bp4) (·=f41r1n5E bf1 bb2 bk3 bp4 o):=by
 unfold f41r1n5 at h;obtain ⟨h225,h⟩:=Qp h;rcases Qg h with ⟨h226,h⟩|⟨h226,h⟩
 ·obtain rfl:=Qd h;exact rE Qf [([],[(6,.fits),(9,.app false)],[(6,.row 4 ((bk3++[(wru8 (bp4.Account.size:Int))]).map (cInt .u8)))])] [] [] [0,4,2] [3,5,6,7] (.norm,(f41r1n5E bf1 bb2 bk3 bp4 (.norm (bk3++[(wru8 (bp4.Account.size:Int))]))).2) (ap (Qbq (te:=ti5) (xs:=bk3) (n:=1) (c:=(cInt .u8)) h225 rfl) (ap (Qap (xs:=bk3) (ys:=[(wru8 (bp4.Account.size:Int))]) (c:=(cInt .u8))) (ap (nil_str h226) an))) rfl
 ·obtain ⟨h227,h⟩:=Qp h;obtain rfl:=Qd h;exact rE Qf [([],[(6,.fits),(9,.app true)],[(6,.row 4 ((bk3++[(wru8 (bp4.Account.size:Int))]).map (cInt .u8))),(9,.row 5 (((bk3++[(wru8 (bp4.Account.size:Int))])++(ofB bp4.Account)).map (cInt .u8)))])] [] [] [0,5,2] [3,5,6,7] (.norm,(f41r1n5E bf1 bb2 bk3 bp4 (.norm ((bk3++[(wru8 (bp4.Account.size:Int))])++(ofB bp4.Account)))).2) (ap (Qbq (te:=ti5) (xs:=bk3) (n:=1) (c:=(cInt .u8)) h225 rfl) (ap (Qap (xs:=bk3) (ys:=[(wru8 (bp4.Account.size:Int))]) (c:=(cInt .u8))) (ap (fit_str2 (te:=ti5) (xs:=(bk3++[(wru8 (bp4.Account.size:Int))])) (c:=(cInt .u8)) (s:=bp4.Account) h227 rfl) (ap (ne_str h226) (ap (len_str (s:=bp4.Account)) (ap (app_str (xs:=(bk3++[(wru8 (bp4.Account.size:Int))])) (s:=bp4.Account)) an)))))) rfl
inductive f41r1n6O where
 | norm (v241:List Int)
def f41r1n6E(bf1:Int)(bb2:Qa)(bk3:List Int)(bp4:Qb):f41r1n6O→Ex×Tr×Hp
 | .norm v241=>(.norm,mkS [(3,(.bp 0 0)),(5,(.own 1)),(6,(jI bf1)),(7,(.bp 2 0))],[some (.box 47 ((Qa.cells bb2).map .pl)),some (.row false 1 (v241.map (cInt .u8))),some (.box 49 ((Qb.cells bp4).map .pl))])
def f41r1n6S(bf1:Int)(bb2:Qa)(bk3:List Int)(bp4:Qb):Tr×Hp:=(mkS [(3,(.bp 0 0)),(5,(.own 1)),(6,(jI bf1)),(7,(.bp 2 0))],[some (.box 47 ((Qa.cells bb2).map .pl)),some (.row false 1 (bk3.map (cInt .u8))),some (.box 49 ((Qb.cells bp4).map .pl))])
noncomputable def f41r1n6(bf1:Int)(bb2:Qa)(bk3:List Int)(bp4:Qb):Option f41r1n6O :=
 req (fit (bk3.length+1) 1) <|
 bif ((ofB bp4.Ccy).isEmpty) then
  some (.norm (bk3++[(wru8 (bp4.Ccy.size:Int))]))
 else
  req (fit ((bk3++[(wru8 (bp4.Ccy.size:Int))]).length+(ofB bp4.Ccy).length) 1) <|
  some (.norm ((bk3++[(wru8 (bp4.Ccy.size:Int))])++(ofB bp4.Ccy)))
theorem f41r1n6_ok(bf1:Int)(bb2:Qa)(bk3:List Int)(bp4:Qb){o:f41r1n6O}(h:f41r1n6 bf1 bb2 bk3 bp4=some o):T Try.prog Try.f41.ntmps 0 (cL (Qk 0 (Qk 1 (Qk 1 (cL (cL (Qk 1 (cL (cL (Qk 1 (cL (Qk 1 (Qk 1 (Qk 0 (Qk 1 (Qk 1 c41)))))))))))))))) (f41r1n6S bf1 bb2 bk3 bp4) (·=f41r1n6E bf1 bb2 bk3 bp4 o):=by
 unfold f41r1n6 at h;obtain ⟨h238,h⟩:=Qp h;rcases Qg h with ⟨h239,h⟩|⟨h239,h⟩
 ·obtain rfl:=Qd h;exact rE Qf [([],[(6,.fits),(9,.app false)],[(6,.row 4 ((bk3++[(wru8 (bp4.Ccy.size:Int))]).map (cInt .u8)))])] [] [] [0,4,2] [3,5,6,7] (.norm,(f41r1n6E bf1 bb2 bk3 bp4 (.norm (bk3++[(wru8 (bp4.Ccy.size:Int))]))).2) (ap (Qbq (te:=ti5) (xs:=bk3) (n:=1) (c:=(cInt .u8)) h238 rfl) (ap (Qap (xs:=bk3) (ys:=[(wru8 (bp4.Ccy.size:Int))]) (c:=(cInt .u8))) (ap (nil_str h239) an))) rfl
 ·obtain ⟨h240,h⟩:=Qp h;obtain rfl:=Qd h;exact rE Qf [([],[(6,.fits),(9,.app true)],[(6,.row 4 ((bk3++[(wru8 (bp4.Ccy.size:Int))]).map (cInt .u8))),(9,.row 5 (((bk3++[(wru8 (bp4.Ccy.size:Int))])++(ofB bp4.Ccy)).map (cInt .u8)))])] [] [] [0,5,2] [3,5,6,7] (.norm,(f41r1n6E bf1 bb2 bk3 bp4 (.norm ((bk3++[(wru8 (bp4.Ccy.size:Int))])++(ofB bp4.Ccy)))).2) (ap (Qbq (te:=ti5) (xs:=bk3) (n:=1) (c:=(cInt .u8)) h238 rfl) (ap (Qap (xs:=bk3) (ys:=[(wru8 (bp4.Ccy.size:Int))]) (c:=(cInt .u8))) (ap (fit_str2 (te:=ti5) (xs:=(bk3++[(wru8 (bp4.Ccy.size:Int))])) (c:=(cInt .u8)) (s:=bp4.Ccy) h240 rfl) (ap (ne_str h239) (ap (len_str (s:=bp4.Ccy)) (ap (app_str (xs:=(bk3++[(wru8 (bp4.Ccy.size:Int))])) (s:=bp4.Ccy)) an)))))) rfl
inductive f41r1n4O where
 | norm (v253:List Int)
def f41r1n4E(bf1:Int)(bb2:Qa)(bk3:List Int):f41r1n4O→Ex×Tr×Hp
 | .norm v253=>(.norm,mkS [(3,(.bp 0 0)),(5,(.own 1)),(6,(jI bf1))],[some (.box 47 ((Qa.cells bb2).map .pl)),some (.row false 1 (v253.map (cInt .u8)))])
def f41r1n4S(bf1:Int)(bb2:Qa)(bk3:List Int):Tr×Hp:=(mkS [(3,(.bp 0 0)),(5,(.own 1)),(6,(jI bf1))],[some (.box 47 ((Qa.cells bb2).map .pl)),some (.row false 1 (bk3.map (cInt .u8)))])
noncomputable def f41r1n4(bf1:Int)(bb2:Qa)(bk3:List Int):Option f41r1n4O :=
 (at? bb2.Lines bf1).bind fun x217 =>
 (f41r1n5 bf1 bb2 bk3 x217).bind fun o229=>match o229 with
 | .norm v231=>(f41r1n6 bf1 bb2 v231 x217).bind fun o242=>match o242 with
  | .norm v244=>(f42r1 (Qu x217.Amount) 8).bind fun x249 =>
   bif (x249.isEmpty) then
    some (.norm v244)
   else
    req (fit (v244.length+x249.length) 1) <|
    some (.norm (v244++x249))
theorem f41r1n4_ok(bf1:Int)(bb2:Qa)(bk3:List Int){o:f41r1n4O}(h:f41r1n4 bf1 bb2 bk3=some o):T Try.prog Try.f41.ntmps 0 (cL (Qk 1 (cL (cL (Qk 1 (cL (Qk 1 (Qk 1 (Qk 0 (Qk 1 (Qk 1 c41))))))))))) (f41r1n4S bf1 bb2 bk3) (·=f41r1n4E bf1 bb2 bk3 o):=by
 unfold f41r1n4 at h;refine T.block' (i:=1) (by kernel_rfl) ?_;obtain ⟨x217,h218,h⟩:=Qc h;refine rN Qf 1 [([],[(3,.idx (Int.toNat bf1) (Qb.cells x217))],[])] [] [] [0,1,2] [3,5,6,7] (f41r1n5S bf1 bb2 bk3 x217) (ap (Qj h218).1 (ap (Qs Qb.cells (Qj h218).2) an)) ?_;obtain ⟨o229,h230,h⟩:=Qc h;cases o229 with
 | norm v231 =>
  refine T.oneN (by kernel_rfl) (f41r1n5_ok bf1 bb2 bk3 x217 h230) (st2:=(f41r1n5E bf1 bb2 bk3 x217 (.norm v231)).2) rfl ?_;refine rN Qf 0 [] [] [] [0,1,2] [3,5,6,7] (f41r1n6S bf1 bb2 v231 x217) an ?_;obtain ⟨o242,h243,h⟩:=Qc h;cases o242 with
  | norm v244 =>
   refine T.oneN (by kernel_rfl) (f41r1n6_ok bf1 bb2 v231 x217 h243) (st2:=(f41r1n6E bf1 bb2 v231 x217 (.norm v244)).2) rfl ?_;obtain ⟨x249,h250,h⟩:=Qc h;rcases Qg h with ⟨h251,h⟩|⟨h251,h⟩
   ·obtain rfl:=Qd h;exact rE Qf [([],[(4,.call (.own 3) (jN 3 [some (.row false 1 (x249.map (cInt .u8)))])),(5,.app false)],[])] [] [] [0,1] [3,5,6] (.norm,(f41r1n4E bf1 bb2 bk3 (.norm v244)).2) (ap (Qbc (c:=(cInt .u8)) h251) (ap (Qm.rn 3 [] (Qam (Qu x217.Amount) 8 h250)) an)) rfl
   ·obtain ⟨h252,h⟩:=Qp h;obtain rfl:=Qd h;exact rE Qf [([],[(4,.call (.own 3) (jN 3 [some (.row false 1 (x249.map (cInt .u8)))])),(5,.app true)],[(5,.row 4 ((v244++x249).map (cInt .u8)))])] [] [] [0,4] [3,5,6] (.norm,(f41r1n4E bf1 bb2 bk3 (.norm (v244++x249))).2) (ap (Qbj (te:=ti5) (xs:=v244) (ys:=x249) (c:=(cInt .u8)) (d:=(cInt .u8)) h252 rfl) (ap (Qcf (c:=(cInt .u8)) h251) (ap (Qbd (c:=(cInt .u8)) (xs:=x249) (n:=1) (fun _=>rfl)) (ap (Qap (xs:=v244) (ys:=x249) (c:=(cInt .u8))) (ap (Qm.rn 3 [] (Qam (Qu x217.Amount) 8 h250)) an))))) rfl
inductive f41r1n7O where
 | exit0 (v257:List Int)
def f41r1n7E(bb1:Qa):f41r1n7O→Ex×Tr×Hp
 | .exit0 v257=>((.exit 0),mkS [(5,(.own 0))],[some (.row false 1 (v257.map (cInt .u8)))])
def f41r1n7S(bb1:Qa)(v184:Int)(v185:List Int):Tr×Hp:=(mkS [(3,(.bp 0 0)),(5,(.own 1)),(6,(jI v184))],[some (.box 47 ((Qa.cells bb1).map .pl)),some (.row false 1 (v185.map (cInt .u8)))])
noncomputable def f41r1n7:Nat→Qa→Int→List Int→Option f41r1n7O
 | 0,_,_,_=>none
 | f+1,bb1,v184,v185 =>
  bif decide (v184<(bb1.Lines.length:Int)) then
   (f41r1n4 v184 bb1 v185).bind fun o254=>match o254 with
   | .norm v256=>(f41r1n7 f bb1 (wr64 (v184+1)) v256)
  else
   some (.exit0 v185)
theorem f41r1n7_ok:∀(f:Nat)(bb1:Qa)(v184:Int)(v185:List Int){o:f41r1n7O},f41r1n7 f bb1 v184 v185=some o→TL Try.prog Try.f41.ntmps 0 f (cL (cL (Qk 1 (cL (Qk 1 (Qk 1 (Qk 0 (Qk 1 (Qk 1 c41))))))))) (f41r1n7S bb1 v184 v185) (·=f41r1n7E bb1 o)
 | 0,_,_,_,o,h=>by rw [f41r1n7] at h; cases h
 | f+1,bb1,v184,v185,o,h=>by
  rw [f41r1n7] at h;refine TL.body (K:=fun s=>∃v184:Int,∃v185:List Int,s=(f41r1n7S bb1 v184 v185)∧f41r1n7 f bb1 v184 v185=some o) ?_ (by rintro _ ⟨v184,v185,rfl,hk⟩; exact f41r1n7_ok f _ _ _ hk);rcases Qg h with ⟨h187,h⟩|⟨h187,h⟩
  ·refine rN Qf 1 [([],[],[(3,.val (jI (bb1.Lines.length:Int)))])] [some true] [] [0,1] [3,5,6] (f41r1n4S v184 bb1 v185) (ap (Qn (xs:=bb1.Lines) (c:=Qb.cells)) (ap h187 an)) ?_;obtain ⟨o254,h255,h⟩:=Qc h;cases o254 with
   | norm v256 =>
    refine T.oneN (by kernel_rfl) (f41r1n4_ok v184 bb1 v185 h255) (st2:=(f41r1n4E v184 bb1 v185 (.norm v256)).2) rfl ?_;exact rE Qf [j3] [] [] [0,1] [3,5,6] (.norm,(f41r1n7S bb1 (wr64 (v184+1)) v256)) an (Qt.norm ⟨(wr64 (v184+1)),v256,rfl,h⟩)
  ·obtain rfl:=Qd h;exact rK Qf 1 [([],[],[(3,.val (jI (bb1.Lines.length:Int)))])] [some false] [] [1] [5] (.exit 0) ((f41r1n7E bb1 (.exit0 v185)).2) (ap (Qn (xs:=bb1.Lines) (c:=Qb.cells)) (ap h187 an)) (Qt.out rfl rfl)
inductive f41r1n3O where
 | norm (v261:List Int)
def f41r1n3E(bb1:Qa)(bk2:List Int):f41r1n3O→Ex×Tr×Hp
 | .norm v261=>(.norm,mkS [(5,(.own 0))],[some (.row false 1 (v261.map (cInt .u8)))])
def f41r1n3S(bb1:Qa)(bk2:List Int):Tr×Hp:=(mkS [(3,(.bp 0 0)),(5,(.own 1))],[some (.box 47 ((Qa.cells bb1).map .pl)),some (.row false 1 ((bk2++[(wru8 (bb1.Lines.length:Int))]).map (cInt .u8)))])
noncomputable def f41r1n3(bb1:Qa)(bk2:List Int):Option f41r1n3O :=
 (f41r1n7 FUEL bb1 0 (bk2++[(wru8 (bb1.Lines.length:Int))])).bind fun o258=>match o258 with
 | .exit0 v260=>some (.norm v260)
theorem f41r1n3_ok(bb1:Qa)(bk2:List Int){o:f41r1n3O}(h:f41r1n3 bb1 bk2=some o):T Try.prog Try.f41.ntmps 0 (cL (Qk 1 (Qk 1 (Qk 0 (Qk 1 (Qk 1 c41)))))) (f41r1n3S bb1 bk2) (·=f41r1n3E bb1 bk2 o):=by
 unfold f41r1n3 at h;refine rN Qf 1 [j3] [] [] [0,1] [3,5,6] (f41r1n7S bb1 0 (bk2++[(wru8 (bb1.Lines.length:Int))])) an ?_;obtain ⟨o258,h259,h⟩:=Qc h;cases o258 with
 | exit0 v260 =>
  obtain rfl:=Qd h;exact T.last' (T.bl (i:=0) (by kernel_rfl) (by kernel_rfl) (f41r1n7_ok FUEL bb1 0 (bk2++[(wru8 (bb1.Lines.length:Int))]) h259)) (tds:=[]) (m:=[0]) (keep:=[5]) (st2:=(f41r1n3E bb1 bk2 (.norm v260)).2) (by kernel_rfl) an rfl
inductive f41r1n0O where
 | ret (v265:List Int)
def f41r1n0E(a1:Int)(a2:Qa):f41r1n0O→Ex×Tr×Hp
 | .ret v265=>(.ret,mkS [(4,(.own 0))],[some (.row false 1 (v265.map (cInt .u8)))])
def f41r1n0S(a1:Int)(a2:Qa):Tr×Hp:=(Qai [(jI a1),(jA Qa.cells a2)] 0 .leaf,[])
noncomputable def f41r1n0(a1:Int)(a2:Qa):Option f41r1n0O :=
 (f41r1n1 a1 a2).bind fun o22=>match o22 with
 | .norm v24=>(f41r1n2 a2 v24).bind fun o35=>match o35 with
  | .norm v37=>req (fit (v37.length+1) 1) <|
   (f41r1n3 a2 v37).bind fun o262=>match o262 with
   | .norm v264=>some (.ret v264)
theorem f41r1n0_ok(a1:Int)(a2:Qa){o:f41r1n0O}(h:f41r1n0 a1 a2=some o):T Try.prog Try.f41.ntmps 0 c41 (f41r1n0S a1 a2) (·=f41r1n0E a1 a2 o):=by
 unfold f41r1n0 at h;refine rN Qf 1 [j3] [] [] [0] [0,3] (f41r1n1S a1 a2) an ?_;obtain ⟨o22,h23,h⟩:=Qc h;cases o22 with
 | norm v24 =>
  refine T.oneN (by kernel_rfl) (f41r1n1_ok a1 a2 h23) (st2:=(f41r1n1E a1 a2 (.norm v24)).2) rfl ?_;refine rN Qf 0 [] [] [] [0,1] [3,5] (f41r1n2S a2 v24) an ?_;obtain ⟨o35,h36,h⟩:=Qc h;cases o35 with
  | norm v37 =>
   refine T.oneN (by kernel_rfl) (f41r1n2_ok a2 v24 h36) (st2:=(f41r1n2E a2 v24 (.norm v37)).2) rfl ?_;obtain ⟨h39,h⟩:=Qp h;refine rN Qf 1 [([],[(6,.fits)],[(3,.val (jI (a2.Lines.length:Int))),(6,.row 3 ((v37++[(wru8 (a2.Lines.length:Int))]).map (cInt .u8)))])] [] [] [0,3] [3,5] (f41r1n3S a2 v37) (ap (Qn (xs:=a2.Lines) (c:=Qb.cells)) (ap (Qbq (te:=ti5) (xs:=v37) (n:=1) (c:=(cInt .u8)) h39 rfl) (ap (Qap (xs:=v37) (ys:=[(wru8 (a2.Lines.length:Int))]) (c:=(cInt .u8))) an))) ?_;obtain ⟨o262,h263,h⟩:=Qc h;cases o262 with
   | norm v264 =>
    refine T.oneN (by kernel_rfl) (f41r1n3_ok a2 v37 h263) (st2:=(f41r1n3E a2 v37 (.norm v264)).2) rfl ?_;obtain rfl:=Qd h;exact rE Qf [j3] [] [] [0] [4] (.ret,(f41r1n0E a1 a2 (.ret v264)).2) an rfl
noncomputable def f41r1(a1:Int)(a2:Qa):Option (List Int):=(f41r1n0 a1 a2).bind fun o=>match o with
 | .ret v265=>some v265
theorem f41r1_ok(a1:Int)(a2:Qa){r:List Int}(h:f41r1 a1 a2=some r):Qm Try.prog true 41 [(jI a1),(jA Qa.cells a2)] [] (.own 0) [some (.row false 1 (r.map (cInt .u8)))]:=by
 unfold f41r1 at h;obtain ⟨o,ho,h⟩:=Qc h;cases o with
 | ret v265 =>
  obtain rfl:=Qd h;exact Qm.shared Qf (f:=Try.f41) (c:=c41) (by kernel_rfl) (by kernel_rfl) (by kernel_rfl) ((f41r1n0_ok a1 a2 ho).mono fun r e=>by subst e; exact ⟨.inl rfl,by kernel_rfl,by kernel_rfl⟩)

noncomputable def c21:Code:=Try.f21.body.getD .skip
inductive f21r1n1O where
 | norm (v15:List Int)
def f21r1n1E(bf1:Int)(bk2:List Int):f21r1n1O→Ex×Tr×Hp
 | .norm v15=>(.norm,mkS [(5,(.pl (.int .u64 14695981039346656037))),(6,(.own 1))],[some (.row false 1 (bk2.map (cInt .u8))),some (.row false 1 (v15.map (cInt .u8)))])
def f21r1n1S(bf1:Int)(bk2:List Int):Tr×Hp:=(mkS [(0,(.pl (.int .u64 bf1))),(1,(.own 0)),(5,(.pl (.int .u64 14695981039346656037)))],[some (.row false 1 (bk2.map (cInt .u8)))])
noncomputable def f21r1n1(bf1:Int)(bk2:List Int):Option f21r1n1O :=
 (f42r1 bf1 8).bind fun x11 =>
 bif (bk2.isEmpty) then
  some (.norm x11)
 else
  req (fit (x11.length+bk2.length) 1) <|
  some (.norm (x11++bk2))
theorem f21r1n1_ok(bf1:Int)(bk2:List Int){o:f21r1n1O}(h:f21r1n1 bf1 bk2=some o):T Try.prog Try.f21.ntmps 1 (cL (Qk 2 c21)) (f21r1n1S bf1 bk2) (·=f21r1n1E bf1 bk2 o):=by
 unfold f21r1n1 at h;obtain ⟨x11,h12,h⟩:=Qc h;rcases Qg h with ⟨h13,h⟩|⟨h13,h⟩
 ·obtain rfl:=Qd h;exact rE Qf [([],[(1,.call (.own 1) [none,some (.row false 1 (x11.map (cInt .u8)))]),(3,.app false)],[])] [] [] [1] [5,6] (.norm,(f21r1n1E bf1 bk2 (.norm x11)).2) (ap (Qbc (c:=(cInt .u8)) h13) (ap (Qm.rn 1 [] (Qam bf1 8 h12)) an)) rfl
 ·obtain ⟨h14,h⟩:=Qp h;obtain rfl:=Qd h;exact rE Qf [([],[(1,.call (.own 1) [none,some (.row false 1 (x11.map (cInt .u8)))]),(3,.app true)],[(3,.row 2 ((x11++bk2).map (cInt .u8)))])] [] [] [2] [5,6] (.norm,(f21r1n1E bf1 bk2 (.norm (x11++bk2))).2) (ap (Qbj (te:=ti5) (xs:=x11) (ys:=bk2) (c:=(cInt .u8)) (d:=(cInt .u8)) h14 rfl) (ap (Qcf (c:=(cInt .u8)) h13) (ap (Qbd (c:=(cInt .u8)) (xs:=bk2) (n:=1) (fun _=>rfl)) (ap (Qap (xs:=x11) (ys:=bk2) (c:=(cInt .u8))) (ap (Qm.rn 1 [] (Qam bf1 8 h12)) an))))) rfl
inductive f21r1n3O where
 | exit0 (v41:Int)
def f21r1n3E(bk1 bk2:List Int):f21r1n3O→Ex×Tr×Hp
 | .exit0 v41=>((.exit 0),mkS [(5,(.pl (.int .u64 v41)))],[some (.row false 1 (bk1.map (cInt .u8)))])
def f21r1n3S(bk1 bk2:List Int)(v33 v34:Int):Tr×Hp:=(mkS [(5,(.pl (.int .u64 v33))),(6,(.own 1)),(7,(jI v34))],[some (.row false 1 (bk1.map (cInt .u8))),some (.row false 1 (bk2.map (cInt .u8)))])
noncomputable def f21r1n3:Nat→List Int→List Int→Int→Int→Option f21r1n3O
 | 0,_,_,_,_=>none
 | f+1,bk1,bk2,v33,v34 =>
  bif decide (v34<(bk2.length:Int)) then
   (at? bk2 v34).bind fun x39 =>
   (f21r1n3 f bk1 bk2 (Qu ((IntKind.u64.wrap (BitVec.ofInt IntKind.u64.bits v33 ^^^ BitVec.ofInt IntKind.u64.bits (Qu x39)).toNat)*1099511628211)) (wr64 (v34+1)))
  else
   some (.exit0 v33)
theorem f21r1n3_ok:∀(f:Nat)(bk1 bk2:List Int)(v33 v34:Int){o:f21r1n3O},f21r1n3 f bk1 bk2 v33 v34=some o→TL Try.prog Try.f21.ntmps 1 f (cL (cL (Qk 1 (cL (Qk 0 (Qk 1 (Qk 2 c21))))))) (f21r1n3S bk1 bk2 v33 v34) (·=f21r1n3E bk1 bk2 o)
 | 0,_,_,_,_,o,h=>by rw [f21r1n3] at h; cases h
 | f+1,bk1,bk2,v33,v34,o,h=>by
  rw [f21r1n3] at h;refine TL.body (K:=fun s=>∃v33:Int,∃v34:Int,s=(f21r1n3S bk1 bk2 v33 v34)∧f21r1n3 f bk1 bk2 v33 v34=some o) ?_ (by rintro _ ⟨v33,v34,rfl,hk⟩; exact f21r1n3_ok f _ _ _ _ hk);rcases Qg h with ⟨h36,h⟩|⟨h36,h⟩
  ·obtain ⟨x39,h40,h⟩:=Qc h;exact rE Qf [([],[],[(2,.val (jI (bk2.length:Int)))]),([],[(3,.at_ (Int.toNat v34)),(4,.idx 0 ((cInt .u8) x39))],[]),j3] [some true] [] [1] [5,6,7] (.norm,(f21r1n3S bk1 bk2 (Qu ((IntKind.u64.wrap (BitVec.ofInt IntKind.u64.bits v33 ^^^ BitVec.ofInt IntKind.u64.bits (Qu x39)).toNat)*1099511628211)) (wr64 (v34+1)))) (ap (Qn (xs:=bk2) (c:=(cInt .u8))) (ap h36 (ap (Qj h40).1 (ap (lt_map (cInt .u8) (Qj h40).2) (ap (Qs (cInt .u8) (Qj h40).2) an))))) (Qt.norm ⟨(Qu ((IntKind.u64.wrap (BitVec.ofInt IntKind.u64.bits v33 ^^^ BitVec.ofInt IntKind.u64.bits (Qu x39)).toNat)*1099511628211)),(wr64 (v34+1)),rfl,h⟩)
  ·obtain rfl:=Qd h;exact rK Qf 1 [([],[],[(2,.val (jI (bk2.length:Int)))])] [some false] [] [] [5] (.exit 0) ((f21r1n3E bk1 bk2 (.exit0 v33)).2) (ap (Qn (xs:=bk2) (c:=(cInt .u8))) (ap h36 an)) (Qt.out rfl rfl)
noncomputable def f21r1n3L(bk1 bk2:List Int):List Int→Int→Int→Option f21r1n3O
 | [],v33,v34 =>
  some (.exit0 v33)
 | x0::rest,v33,v34 =>
  (f21r1n3L bk1 bk2 rest (Qu ((IntKind.u64.wrap (BitVec.ofInt IntKind.u64.bits v33 ^^^ BitVec.ofInt IntKind.u64.bits (Qu x0)).toNat)*1099511628211)) (v34+1))
theorem f21r1n3L_eq(bk1 bk2:List Int):∀(rest:List Int)(f k:Nat)(v33:Int),bk2.drop k=rest→bk2.length≤maxLen→rest.length<f→f21r1n3 f bk1 bk2 v33 (k:Int)=f21r1n3L bk1 bk2 rest v33 (k:Int)
 | _,0,_,_,_,_,hf=>absurd hf (Nat.not_lt_zero _)
 | [],f+1,k,v33,hd,hm,hf=>by
  have hk:¬((k:Int)<(bk2.length:Int)):=by have:=Qaj hd; omega
  rw [f21r1n3,f21r1n3L];simp only [decide_eq_false hk,cond_false]
 | x0::rest,f+1,k,v33,hd,hm,hf=>by
  obtain ⟨hx,hlt,hd'⟩:=Qx hd;have hk:(k:Int)<(bk2.length:Int):=by omega
  have hw:wr64 ((k:Int)+1)=(k:Int)+1:=Qr (by omega) (by unfold maxLen at hm; omega);have ih:∀(v33:Int),f21r1n3 f bk1 bk2 v33 ((k:Int)+1)=f21r1n3L bk1 bk2 rest v33 ((k:Int)+1):=fun v33=>f21r1n3L_eq bk1 bk2 rest f (k+1) v33 hd' hm (by simpa using hf);rw [f21r1n3,f21r1n3L];simp only [decide_eq_true hk,cond_true,Qaq,hx,Option.bind_some,hw,ih]
theorem f21r1n3_run(bk1 bk2:List Int)(v33:Int)(hm:bk2.length≤maxLen):f21r1n3 FUEL bk1 bk2 v33 0=f21r1n3L bk1 bk2 bk2 v33 0:=f21r1n3L_eq bk1 bk2 bk2 FUEL 0 v33 List.drop_zero hm (Qao hm)
inductive f21r1n2O where
 | norm (v45:Int)
def f21r1n2E(bk1 bk2:List Int):f21r1n2O→Ex×Tr×Hp
 | .norm v45=>(.norm,mkS [(5,(.pl (.int .u64 v45)))],[some (.row false 1 (bk1.map (cInt .u8)))])
def f21r1n2S(bk1 bk2:List Int):Tr×Hp:=(mkS [(5,(.pl (.int .u64 14695981039346656037))),(6,(.own 1))],[some (.row false 1 (bk1.map (cInt .u8))),some (.row false 1 (bk2.map (cInt .u8)))])
noncomputable def f21r1n2(bk1 bk2:List Int):Option f21r1n2O :=
 (f21r1n3 FUEL bk1 bk2 14695981039346656037 0).bind fun o42=>match o42 with
 | .exit0 v44=>some (.norm v44)
theorem f21r1n2_ok(bk1 bk2:List Int){o:f21r1n2O}(h:f21r1n2 bk1 bk2=some o):T Try.prog Try.f21.ntmps 1 (cL (Qk 0 (Qk 1 (Qk 2 c21)))) (f21r1n2S bk1 bk2) (·=f21r1n2E bk1 bk2 o):=by
 unfold f21r1n2 at h;refine rN Qf 1 [j3] [] [] [1] [5,6,7] (f21r1n3S bk1 bk2 14695981039346656037 0) an ?_;obtain ⟨o42,h43,h⟩:=Qc h;cases o42 with
 | exit0 v44 =>
  obtain rfl:=Qd h;exact T.last' (T.bl (i:=0) (by kernel_rfl) (by kernel_rfl) (f21r1n3_ok FUEL bk1 bk2 14695981039346656037 0 h43)) (tds:=[]) (m:=[]) (keep:=[5]) (st2:=(f21r1n2E bk1 bk2 (.norm v44)).2) (by kernel_rfl) an rfl
inductive f21r1n0O where
 | ret (v49:Int)
def f21r1n0E(a1:Int)(a2:List Int):f21r1n0O→Ex×Tr×Hp
 | .ret v49=>(.ret,mkS [(4,(.pl (.int .u64 v49)))],[some (.row false 1 (a2.map (cInt .u8)))])
def f21r1n0S(a1:Int)(a2:List Int):Tr×Hp:=(Qai [(.pl (.int .u64 a1)),(.own 0)] 0 .leaf,[some (.row false 1 (a2.map (cInt .u8)))])
noncomputable def f21r1n0(a1:Int)(a2:List Int):Option f21r1n0O :=
 (f21r1n1 a1 a2).bind fun o16=>match o16 with
 | .norm v18=>(f21r1n2 a2 v18).bind fun o46=>match o46 with
  | .norm v48=>some (.ret v48)
theorem f21r1n0_ok(a1:Int)(a2:List Int){o:f21r1n0O}(h:f21r1n0 a1 a2=some o):T Try.prog Try.f21.ntmps 1 c21 (f21r1n0S a1 a2) (·=f21r1n0E a1 a2 o):=by
 unfold f21r1n0 at h;refine rN Qf 2 [j3,j3] [] [] [] [0,1,5] (f21r1n1S a1 a2) an ?_;obtain ⟨o16,h17,h⟩:=Qc h;cases o16 with
 | norm v18 =>
  refine T.oneN (by kernel_rfl) (f21r1n1_ok a1 a2 h17) (st2:=(f21r1n1E a1 a2 (.norm v18)).2) rfl ?_;refine rN Qf 0 [] [] [] [1] [5,6] (f21r1n2S a2 v18) an ?_;obtain ⟨o46,h47,h⟩:=Qc h;cases o46 with
  | norm v48 =>
   refine T.oneN (by kernel_rfl) (f21r1n2_ok a2 v18 h47) (st2:=(f21r1n2E a2 v18 (.norm v48)).2) rfl ?_;obtain rfl:=Qd h;exact rE Qf [j3] [] [] [] [4] (.ret,(f21r1n0E a1 a2 (.ret v48)).2) an rfl
noncomputable def f21r1(a1:Int)(a2:List Int):Option Int:=(f21r1n0 a1 a2).bind fun o=>match o with
 | .ret v49=>some v49
theorem f21r1_ok(a1:Int)(a2:List Int){r:Int}(h:f21r1 a1 a2=some r):Qm Try.prog true 21 [(.pl (.int .u64 a1)),(.own 0)] [some (.row false 1 (a2.map (cInt .u8)))] (.pl (.int .u64 r)) [some (.row false 1 (a2.map (cInt .u8)))]:=by
 unfold f21r1 at h;obtain ⟨o,ho,h⟩:=Qc h;cases o with
 | ret v49 =>
  obtain rfl:=Qd h;exact Qm.shared Qf (f:=Try.f21) (c:=c21) (by kernel_rfl) (by kernel_rfl) (by kernel_rfl) ((f21r1n0_ok a1 a2 ho).mono fun r e=>by subst e; exact ⟨.inl rfl,by kernel_rfl,by kernel_rfl⟩)

noncomputable def c15:Code:=Try.f15.body.getD .skip
inductive f15n2O where
 | norm (v302:Int) (v303:List Int)
def f15n2E(bf1 bf2:Int)(ba3:Qh)(bk4:List Int):f15n2O→Ex×Tr×Hp
 | .norm v302 v303=>(.norm,mkS [(1,(.bp 0 0)),(4,(.own 1)),(5,(.pl (.int .u64 v302))),(6,(jI bf2))],[some (.box 24 ((Qh.cells ba3).map .pl)),some (.row false 1 (v303.map (cInt .u8)))])
def f15n2S(bf1 bf2:Int)(ba3:Qh)(bk4:List Int):Tr×Hp:=(mkS [(1,(.bp 0 0)),(4,(.own 1)),(5,(.pl (.int .u64 bf1))),(6,(jI bf2))],[some (.box 24 ((Qh.cells ba3).map .pl)),some (.row false 1 (bk4.map (cInt .u8)))])
noncomputable def f15n2(bf1 bf2:Int)(ba3:Qh)(bk4:List Int):Option f15n2O :=
 (at? ba3.Records bf2).bind fun x246 =>
 (f41r1 (wr64 (bf2+1)) x246).bind fun x248 =>
 (f21r1 bf1 x248).bind fun x252 =>
 (f42r1 (Qu (x248.length:Int)) 4).bind fun x278 =>
 bif (x278.isEmpty) then
  bif (x248.isEmpty) then
   (f42r1 x252 8).bind fun x282 =>
   bif (x282.isEmpty) then
    some (.norm x252 bk4)
   else
    req (fit (bk4.length+x282.length) 1) <|
    some (.norm x252 (bk4++x282))
  else
   req (fit (bk4.length+x248.length) 1) <|
   (f42r1 x252 8).bind fun x287 =>
   bif (x287.isEmpty) then
    some (.norm x252 (bk4++x248))
   else
    req (fit ((bk4++x248).length+x287.length) 1) <|
    some (.norm x252 ((bk4++x248)++x287))
 else
  req (fit (bk4.length+x278.length) 1) <|
  bif (x248.isEmpty) then
   (f42r1 x252 8).bind fun x293 =>
   bif (x293.isEmpty) then
    some (.norm x252 (bk4++x278))
   else
    req (fit ((bk4++x278).length+x293.length) 1) <|
    some (.norm x252 ((bk4++x278)++x293))
  else
   req (fit ((bk4++x278).length+x248.length) 1) <|
   (f42r1 x252 8).bind fun x298 =>
   bif (x298.isEmpty) then
    some (.norm x252 ((bk4++x278)++x248))
   else
    req (fit (((bk4++x278)++x248).length+x298.length) 1) <|
    some (.norm x252 (((bk4++x278)++x248)++x298))
theorem f15n2_ok(bf1 bf2:Int)(ba3:Qh)(bk4:List Int){o:f15n2O}(h:f15n2 bf1 bf2 ba3 bk4=some o):T Try.prog Try.f15.ntmps 0 (cL (Qk 1 (cL (cL (Qk 1 (cL (Qk 4 c15))))))) (f15n2S bf1 bf2 ba3 bk4) (·=f15n2E bf1 bf2 ba3 bk4 o):=by
 unfold f15n2 at h;refine T.block' (i:=1) (by kernel_rfl) ?_;obtain ⟨x246,h247,h⟩:=Qc h;obtain ⟨x248,h249,h⟩:=Qc h;obtain ⟨x252,h253,h⟩:=Qc h;obtain ⟨x278,h279,h⟩:=Qc h;rcases Qg h with ⟨h280,h⟩|⟨h280,h⟩
 ·rcases Qg h with ⟨h281,h⟩|⟨h281,h⟩
  ·obtain ⟨x282,h283,h⟩:=Qc h;rcases Qg h with ⟨h284,h⟩|⟨h284,h⟩
   ·obtain rfl:=Qd h
    exact rE Qf [([],[(5,.idx (Int.toNat bf2) (Qa.cells x246)),(7,.call (.own 2) [none,none,some (.row false 1 (x248.map (cInt .u8)))])],[]),([],[(2,.call (.pl (.int .u64 x252)) [none,none,some (.row false 1 (x248.map (cInt .u8)))])],[]),([],[(4,.call (.own 3) (jN 3 [some (.row false 1 (x278.map (cInt .u8)))])),(5,.app false),(7,.app false),(9,.call (.own 4) (jN 4 [some (.row false 1 (x282.map (cInt .u8)))])),(10,.app false)],[(2,.val (jI (x248.length:Int)))])] [] [] [0,1] [1,4,5,6] (.norm,(f15n2E bf1 bf2 ba3 bk4 (.norm x252 bk4)).2) (ap (Qj h247).1 (ap (Qs Qa.cells (Qj h247).2) (ap (Qm.rn 2 [] (f41r1_ok (wr64 (bf2+1)) x246 h249)) (ap (Qm.rn 3 [2] (f21r1_ok bf1 x248 h253)) (ap (Qn (xs:=x248) (c:=(cInt .u8))) (ap (Qbc (c:=(cInt .u8)) h280) (ap (Qbc (c:=(cInt .u8)) h281) (ap (Qbc (c:=(cInt .u8)) h284) (ap (Qm.rn 3 [] (Qam (Qu (x248.length:Int)) 4 h279)) (ap (Qm.rn 4 [] (Qam x252 8 h283)) an)))))))))) rfl
   ·obtain ⟨h285,h⟩:=Qp h;obtain rfl:=Qd h
    exact rE Qf [([],[(5,.idx (Int.toNat bf2) (Qa.cells x246)),(7,.call (.own 2) [none,none,some (.row false 1 (x248.map (cInt .u8)))])],[]),([],[(2,.call (.pl (.int .u64 x252)) [none,none,some (.row false 1 (x248.map (cInt .u8)))])],[]),([],[(4,.call (.own 3) (jN 3 [some (.row false 1 (x278.map (cInt .u8)))])),(5,.app false),(7,.app false),(9,.call (.own 4) (jN 4 [some (.row false 1 (x282.map (cInt .u8)))])),(10,.app true)],[(2,.val (jI (x248.length:Int))),(10,.row 5 ((bk4++x282).map (cInt .u8)))])] [] [] [0,5] [1,4,5,6] (.norm,(f15n2E bf1 bf2 ba3 bk4 (.norm x252 (bk4++x282))).2) (ap (Qj h247).1 (ap (Qs Qa.cells (Qj h247).2) (ap (Qm.rn 2 [] (f41r1_ok (wr64 (bf2+1)) x246 h249)) (ap (Qm.rn 3 [2] (f21r1_ok bf1 x248 h253)) (ap (Qn (xs:=x248) (c:=(cInt .u8))) (ap (Qbc (c:=(cInt .u8)) h280) (ap (Qbc (c:=(cInt .u8)) h281) (ap (Qbj (te:=ti5) (xs:=bk4) (ys:=x282) (c:=(cInt .u8)) (d:=(cInt .u8)) h285 rfl) (ap (Qcf (c:=(cInt .u8)) h284) (ap (Qbd (c:=(cInt .u8)) (xs:=x282) (n:=1) (fun _=>rfl)) (ap (Qap (xs:=bk4) (ys:=x282) (c:=(cInt .u8))) (ap (Qm.rn 3 [] (Qam (Qu (x248.length:Int)) 4 h279)) (ap (Qm.rn 4 [] (Qam x252 8 h283)) an))))))))))))) rfl
  ·obtain ⟨h286,h⟩:=Qp h;obtain ⟨x287,h288,h⟩:=Qc h;rcases Qg h with ⟨h289,h⟩|⟨h289,h⟩
   ·obtain rfl:=Qd h
    exact rE Qf [([],[(5,.idx (Int.toNat bf2) (Qa.cells x246)),(7,.call (.own 2) [none,none,some (.row false 1 (x248.map (cInt .u8)))])],[]),([],[(2,.call (.pl (.int .u64 x252)) [none,none,some (.row false 1 (x248.map (cInt .u8)))])],[]),([],[(4,.call (.own 3) (jN 3 [some (.row false 1 (x278.map (cInt .u8)))])),(5,.app false),(7,.app true),(9,.call (.own 5) (jN 5 [some (.row false 1 (x287.map (cInt .u8)))])),(10,.app false)],[(2,.val (jI (x248.length:Int))),(7,.row 4 ((bk4++x248).map (cInt .u8)))])] [] [] [0,4] [1,4,5,6] (.norm,(f15n2E bf1 bf2 ba3 bk4 (.norm x252 (bk4++x248))).2) (ap (Qj h247).1 (ap (Qs Qa.cells (Qj h247).2) (ap (Qm.rn 2 [] (f41r1_ok (wr64 (bf2+1)) x246 h249)) (ap (Qm.rn 3 [2] (f21r1_ok bf1 x248 h253)) (ap (Qn (xs:=x248) (c:=(cInt .u8))) (ap (Qbc (c:=(cInt .u8)) h280) (ap (Qbj (te:=ti5) (xs:=bk4) (ys:=x248) (c:=(cInt .u8)) (d:=(cInt .u8)) h286 rfl) (ap (Qcf (c:=(cInt .u8)) h281) (ap (Qbd (c:=(cInt .u8)) (xs:=x248) (n:=1) (fun _=>rfl)) (ap (Qap (xs:=bk4) (ys:=x248) (c:=(cInt .u8))) (ap (Qbc (c:=(cInt .u8)) h289) (ap (Qm.rn 3 [] (Qam (Qu (x248.length:Int)) 4 h279)) (ap (Qm.rn 5 [] (Qam x252 8 h288)) an))))))))))))) rfl
   ·obtain ⟨h290,h⟩:=Qp h;obtain rfl:=Qd h
    exact rE Qf [([],[(5,.idx (Int.toNat bf2) (Qa.cells x246)),(7,.call (.own 2) [none,none,some (.row false 1 (x248.map (cInt .u8)))])],[]),([],[(2,.call (.pl (.int .u64 x252)) [none,none,some (.row false 1 (x248.map (cInt .u8)))])],[]),([],[(4,.call (.own 3) (jN 3 [some (.row false 1 (x278.map (cInt .u8)))])),(5,.app false),(7,.app true),(9,.call (.own 5) (jN 5 [some (.row false 1 (x287.map (cInt .u8)))])),(10,.app true)],[(2,.val (jI (x248.length:Int))),(7,.row 4 ((bk4++x248).map (cInt .u8))),(10,.row 6 (((bk4++x248)++x287).map (cInt .u8)))])] [] [] [0,6] [1,4,5,6] (.norm,(f15n2E bf1 bf2 ba3 bk4 (.norm x252 ((bk4++x248)++x287))).2) (ap (Qj h247).1 (ap (Qs Qa.cells (Qj h247).2) (ap (Qm.rn 2 [] (f41r1_ok (wr64 (bf2+1)) x246 h249)) (ap (Qm.rn 3 [2] (f21r1_ok bf1 x248 h253)) (ap (Qn (xs:=x248) (c:=(cInt .u8))) (ap (Qbc (c:=(cInt .u8)) h280) (ap (Qbj (te:=ti5) (xs:=bk4) (ys:=x248) (c:=(cInt .u8)) (d:=(cInt .u8)) h286 rfl) (ap (Qcf (c:=(cInt .u8)) h281) (ap (Qbd (c:=(cInt .u8)) (xs:=x248) (n:=1) (fun _=>rfl)) (ap (Qap (xs:=bk4) (ys:=x248) (c:=(cInt .u8))) (ap (Qbj (te:=ti5) (xs:=(bk4++x248)) (ys:=x287) (c:=(cInt .u8)) (d:=(cInt .u8)) h290 rfl) (ap (Qcf (c:=(cInt .u8)) h289) (ap (Qbd (c:=(cInt .u8)) (xs:=x287) (n:=1) (fun _=>rfl)) (ap (Qap (xs:=(bk4++x248)) (ys:=x287) (c:=(cInt .u8))) (ap (Qm.rn 3 [] (Qam (Qu (x248.length:Int)) 4 h279)) (ap (Qm.rn 5 [] (Qam x252 8 h288)) an)))))))))))))))) rfl
 ·obtain ⟨h291,h⟩:=Qp h;rcases Qg h with ⟨h292,h⟩|⟨h292,h⟩
  ·obtain ⟨x293,h294,h⟩:=Qc h;rcases Qg h with ⟨h295,h⟩|⟨h295,h⟩
   ·obtain rfl:=Qd h
    exact rE Qf [([],[(5,.idx (Int.toNat bf2) (Qa.cells x246)),(7,.call (.own 2) [none,none,some (.row false 1 (x248.map (cInt .u8)))])],[]),([],[(2,.call (.pl (.int .u64 x252)) [none,none,some (.row false 1 (x248.map (cInt .u8)))])],[]),([],[(4,.call (.own 3) (jN 3 [some (.row false 1 (x278.map (cInt .u8)))])),(5,.app true),(7,.app false),(9,.call (.own 5) (jN 5 [some (.row false 1 (x293.map (cInt .u8)))])),(10,.app false)],[(2,.val (jI (x248.length:Int))),(5,.row 4 ((bk4++x278).map (cInt .u8)))])] [] [] [0,4] [1,4,5,6] (.norm,(f15n2E bf1 bf2 ba3 bk4 (.norm x252 (bk4++x278))).2) (ap (Qj h247).1 (ap (Qs Qa.cells (Qj h247).2) (ap (Qm.rn 2 [] (f41r1_ok (wr64 (bf2+1)) x246 h249)) (ap (Qm.rn 3 [2] (f21r1_ok bf1 x248 h253)) (ap (Qn (xs:=x248) (c:=(cInt .u8))) (ap (Qbj (te:=ti5) (xs:=bk4) (ys:=x278) (c:=(cInt .u8)) (d:=(cInt .u8)) h291 rfl) (ap (Qcf (c:=(cInt .u8)) h280) (ap (Qbd (c:=(cInt .u8)) (xs:=x278) (n:=1) (fun _=>rfl)) (ap (Qap (xs:=bk4) (ys:=x278) (c:=(cInt .u8))) (ap (Qbc (c:=(cInt .u8)) h292) (ap (Qbc (c:=(cInt .u8)) h295) (ap (Qm.rn 3 [] (Qam (Qu (x248.length:Int)) 4 h279)) (ap (Qm.rn 5 [] (Qam x252 8 h294)) an))))))))))))) rfl
   ·obtain ⟨h296,h⟩:=Qp h;obtain rfl:=Qd h
    exact rE Qf [([],[(5,.idx (Int.toNat bf2) (Qa.cells x246)),(7,.call (.own 2) [none,none,some (.row false 1 (x248.map (cInt .u8)))])],[]),([],[(2,.call (.pl (.int .u64 x252)) [none,none,some (.row false 1 (x248.map (cInt .u8)))])],[]),([],[(4,.call (.own 3) (jN 3 [some (.row false 1 (x278.map (cInt .u8)))])),(5,.app true),(7,.app false),(9,.call (.own 5) (jN 5 [some (.row false 1 (x293.map (cInt .u8)))])),(10,.app true)],[(2,.val (jI (x248.length:Int))),(5,.row 4 ((bk4++x278).map (cInt .u8))),(10,.row 6 (((bk4++x278)++x293).map (cInt .u8)))])] [] [] [0,6] [1,4,5,6] (.norm,(f15n2E bf1 bf2 ba3 bk4 (.norm x252 ((bk4++x278)++x293))).2) (ap (Qj h247).1 (ap (Qs Qa.cells (Qj h247).2) (ap (Qm.rn 2 [] (f41r1_ok (wr64 (bf2+1)) x246 h249)) (ap (Qm.rn 3 [2] (f21r1_ok bf1 x248 h253)) (ap (Qn (xs:=x248) (c:=(cInt .u8))) (ap (Qbj (te:=ti5) (xs:=bk4) (ys:=x278) (c:=(cInt .u8)) (d:=(cInt .u8)) h291 rfl) (ap (Qcf (c:=(cInt .u8)) h280) (ap (Qbd (c:=(cInt .u8)) (xs:=x278) (n:=1) (fun _=>rfl)) (ap (Qap (xs:=bk4) (ys:=x278) (c:=(cInt .u8))) (ap (Qbc (c:=(cInt .u8)) h292) (ap (Qbj (te:=ti5) (xs:=(bk4++x278)) (ys:=x293) (c:=(cInt .u8)) (d:=(cInt .u8)) h296 rfl) (ap (Qcf (c:=(cInt .u8)) h295) (ap (Qbd (c:=(cInt .u8)) (xs:=x293) (n:=1) (fun _=>rfl)) (ap (Qap (xs:=(bk4++x278)) (ys:=x293) (c:=(cInt .u8))) (ap (Qm.rn 3 [] (Qam (Qu (x248.length:Int)) 4 h279)) (ap (Qm.rn 5 [] (Qam x252 8 h294)) an)))))))))))))))) rfl
  ·obtain ⟨h297,h⟩:=Qp h;obtain ⟨x298,h299,h⟩:=Qc h;rcases Qg h with ⟨h300,h⟩|⟨h300,h⟩
   ·obtain rfl:=Qd h
    exact rE Qf [([],[(5,.idx (Int.toNat bf2) (Qa.cells x246)),(7,.call (.own 2) [none,none,some (.row false 1 (x248.map (cInt .u8)))])],[]),([],[(2,.call (.pl (.int .u64 x252)) [none,none,some (.row false 1 (x248.map (cInt .u8)))])],[]),([],[(4,.call (.own 3) (jN 3 [some (.row false 1 (x278.map (cInt .u8)))])),(5,.app true),(7,.app true),(9,.call (.own 6) (jN 6 [some (.row false 1 (x298.map (cInt .u8)))])),(10,.app false)],[(2,.val (jI (x248.length:Int))),(5,.row 4 ((bk4++x278).map (cInt .u8))),(7,.row 5 (((bk4++x278)++x248).map (cInt .u8)))])] [] [] [0,5] [1,4,5,6] (.norm,(f15n2E bf1 bf2 ba3 bk4 (.norm x252 ((bk4++x278)++x248))).2) (ap (Qj h247).1 (ap (Qs Qa.cells (Qj h247).2) (ap (Qm.rn 2 [] (f41r1_ok (wr64 (bf2+1)) x246 h249)) (ap (Qm.rn 3 [2] (f21r1_ok bf1 x248 h253)) (ap (Qn (xs:=x248) (c:=(cInt .u8))) (ap (Qbj (te:=ti5) (xs:=bk4) (ys:=x278) (c:=(cInt .u8)) (d:=(cInt .u8)) h291 rfl) (ap (Qcf (c:=(cInt .u8)) h280) (ap (Qbd (c:=(cInt .u8)) (xs:=x278) (n:=1) (fun _=>rfl)) (ap (Qap (xs:=bk4) (ys:=x278) (c:=(cInt .u8))) (ap (Qbj (te:=ti5) (xs:=(bk4++x278)) (ys:=x248) (c:=(cInt .u8)) (d:=(cInt .u8)) h297 rfl) (ap (Qcf (c:=(cInt .u8)) h292) (ap (Qbd (c:=(cInt .u8)) (xs:=x248) (n:=1) (fun _=>rfl)) (ap (Qap (xs:=(bk4++x278)) (ys:=x248) (c:=(cInt .u8))) (ap (Qbc (c:=(cInt .u8)) h300) (ap (Qm.rn 3 [] (Qam (Qu (x248.length:Int)) 4 h279)) (ap (Qm.rn 6 [] (Qam x252 8 h299)) an)))))))))))))))) rfl
   ·obtain ⟨h301,h⟩:=Qp h;obtain rfl:=Qd h
    exact rE Qf [([],[(5,.idx (Int.toNat bf2) (Qa.cells x246)),(7,.call (.own 2) [none,none,some (.row false 1 (x248.map (cInt .u8)))])],[]),([],[(2,.call (.pl (.int .u64 x252)) [none,none,some (.row false 1 (x248.map (cInt .u8)))])],[]),([],[(4,.call (.own 3) (jN 3 [some (.row false 1 (x278.map (cInt .u8)))])),(5,.app true),(7,.app true),(9,.call (.own 6) (jN 6 [some (.row false 1 (x298.map (cInt .u8)))])),(10,.app true)],[(2,.val (jI (x248.length:Int))),(5,.row 4 ((bk4++x278).map (cInt .u8))),(7,.row 5 (((bk4++x278)++x248).map (cInt .u8))),(10,.row 7 ((((bk4++x278)++x248)++x298).map (cInt .u8)))])] [] [] [0,7] [1,4,5,6] (.norm,(f15n2E bf1 bf2 ba3 bk4 (.norm x252 (((bk4++x278)++x248)++x298))).2) (ap (Qj h247).1 (ap (Qs Qa.cells (Qj h247).2) (ap (Qm.rn 2 [] (f41r1_ok (wr64 (bf2+1)) x246 h249)) (ap (Qm.rn 3 [2] (f21r1_ok bf1 x248 h253)) (ap (Qn (xs:=x248) (c:=(cInt .u8))) (ap (Qbj (te:=ti5) (xs:=bk4) (ys:=x278) (c:=(cInt .u8)) (d:=(cInt .u8)) h291 rfl) (ap (Qcf (c:=(cInt .u8)) h280) (ap (Qbd (c:=(cInt .u8)) (xs:=x278) (n:=1) (fun _=>rfl)) (ap (Qap (xs:=bk4) (ys:=x278) (c:=(cInt .u8))) (ap (Qbj (te:=ti5) (xs:=(bk4++x278)) (ys:=x248) (c:=(cInt .u8)) (d:=(cInt .u8)) h297 rfl) (ap (Qcf (c:=(cInt .u8)) h292) (ap (Qbd (c:=(cInt .u8)) (xs:=x248) (n:=1) (fun _=>rfl)) (ap (Qap (xs:=(bk4++x278)) (ys:=x248) (c:=(cInt .u8))) (ap (Qbj (te:=ti5) (xs:=((bk4++x278)++x248)) (ys:=x298) (c:=(cInt .u8)) (d:=(cInt .u8)) h301 rfl) (ap (Qcf (c:=(cInt .u8)) h300) (ap (Qbd (c:=(cInt .u8)) (xs:=x298) (n:=1) (fun _=>rfl)) (ap (Qap (xs:=((bk4++x278)++x248)) (ys:=x298) (c:=(cInt .u8))) (ap (Qm.rn 3 [] (Qam (Qu (x248.length:Int)) 4 h279)) (ap (Qm.rn 6 [] (Qam x252 8 h299)) an))))))))))))))))))) rfl
inductive f15n3O where
 | exit0 (v308:List Int)
def f15n3E(ba1:Qh):f15n3O→Ex×Tr×Hp
 | .exit0 v308=>((.exit 0),mkS [(4,(.own 0))],[some (.row false 1 (v308.map (cInt .u8)))])
def f15n3S(ba1:Qh)(v207 v208:Int)(v209:List Int):Tr×Hp:=(mkS [(1,(.bp 0 0)),(4,(.own 1)),(5,(.pl (.int .u64 v207))),(6,(jI v208))],[some (.box 24 ((Qh.cells ba1).map .pl)),some (.row false 1 (v209.map (cInt .u8)))])
noncomputable def f15n3:Nat→Qh→Int→Int→List Int→Option f15n3O
 | 0,_,_,_,_=>none
 | f+1,ba1,v207,v208,v209 =>
  bif decide (v208<(ba1.Records.length:Int)) then
   (f15n2 v207 v208 ba1 v209).bind fun o304=>match o304 with
   | .norm v306 v307=>(f15n3 f ba1 v306 (wr64 (v208+1)) v307)
  else
   some (.exit0 v209)
theorem f15n3_ok:∀(f:Nat)(ba1:Qh)(v207 v208:Int)(v209:List Int){o:f15n3O},f15n3 f ba1 v207 v208 v209=some o→TL Try.prog Try.f15.ntmps 0 f (cL (cL (Qk 1 (cL (Qk 4 c15))))) (f15n3S ba1 v207 v208 v209) (·=f15n3E ba1 o)
 | 0,_,_,_,_,o,h=>by rw [f15n3] at h; cases h
 | f+1,ba1,v207,v208,v209,o,h=>by
  rw [f15n3] at h;refine TL.body (K:=fun s=>∃v207:Int,∃v208:Int,∃v209:List Int,s=(f15n3S ba1 v207 v208 v209)∧f15n3 f ba1 v207 v208 v209=some o) ?_ (by rintro _ ⟨v207,v208,v209,rfl,hk⟩; exact f15n3_ok f _ _ _ _ hk);rcases Qg h with ⟨h211,h⟩|⟨h211,h⟩
  ·refine rN Qf 1 [([],[],[(3,.val (jI (ba1.Records.length:Int)))])] [some true] [] [0,1] [1,4,5,6] (f15n2S v207 v208 ba1 v209) (ap (Qn (xs:=ba1.Records) (c:=Qa.cells)) (ap h211 an)) ?_;obtain ⟨o304,h305,h⟩:=Qc h;cases o304 with
   | norm v306 v307 =>
    refine T.oneN (by kernel_rfl) (f15n2_ok v207 v208 ba1 v209 h305) (st2:=(f15n2E v207 v208 ba1 v209 (.norm v306 v307)).2) rfl ?_;exact rE Qf [j3] [] [] [0,1] [1,4,5,6] (.norm,(f15n3S ba1 v306 (wr64 (v208+1)) v307)) an (Qt.norm ⟨v306,(wr64 (v208+1)),v307,rfl,h⟩)
  ·obtain rfl:=Qd h;exact rK Qf 1 [([],[],[(3,.val (jI (ba1.Records.length:Int)))])] [some false] [] [1] [4] (.exit 0) ((f15n3E ba1 (.exit0 v209)).2) (ap (Qn (xs:=ba1.Records) (c:=Qa.cells)) (ap h211 an)) (Qt.out rfl rfl)
inductive f15n1O where
 | norm (v312:List Int)
def f15n1E(ba1:Qh):f15n1O→Ex×Tr×Hp
 | .norm v312=>(.norm,mkS [(4,(.own 0))],[some (.row false 1 (v312.map (cInt .u8)))])
def f15n1S(ba1:Qh):Tr×Hp:=(mkS [(1,(.bp 0 0)),(4,(.pl (.sl .nil 0 []))),(5,(.pl (.int .u64 0)))],[some (.box 24 ((Qh.cells ba1).map .pl))])
noncomputable def f15n1(ba1:Qh):Option f15n1O :=
 (f15n3 FUEL ba1 0 0 []).bind fun o309=>match o309 with
 | .exit0 v311=>some (.norm v311)
theorem f15n1_ok(ba1:Qh){o:f15n1O}(h:f15n1 ba1=some o):T Try.prog Try.f15.ntmps 0 (cL (Qk 4 c15)) (f15n1S ba1) (·=f15n1E ba1 o):=by
 unfold f15n1 at h;refine rN Qf 1 [j3] [] [.mat 4 1] [0,1] [1,4,5,6] (f15n3S ba1 0 0 []) an ?_;obtain ⟨o309,h310,h⟩:=Qc h;cases o309 with
 | exit0 v311 =>
  obtain rfl:=Qd h;exact T.last' (T.bl (i:=0) (by kernel_rfl) (by kernel_rfl) (f15n3_ok FUEL ba1 0 0 [] h310)) (tds:=[]) (m:=[0]) (keep:=[4]) (st2:=(f15n1E ba1 (.norm v311)).2) (by kernel_rfl) an rfl
inductive f15n0O where
 | ret (v316:Int) (v317:List Int)
def f15n0E(a1:Qh):f15n0O→Ex×Tr×Hp
 | .ret v316 v317=>(.ret,mkS [(2,(.own 0)),(3,(jI v316))],[some (.row false 1 (v317.map (cInt .u8)))])
def f15n0S(a1:Qh):Tr×Hp:=(Qai [(jA Qh.cells a1)] 0 .leaf,[])
noncomputable def f15n0(a1:Qh):Option f15n0O :=
 (f35 a1).bind fun x5 =>
 bif decide (x5=0) then
  (f15n1 a1).bind fun o313=>match o313 with
  | .norm v315=>some (.ret 0 v315)
 else
  some (.ret 8 [])
theorem f15n0_ok(a1:Qh){o:f15n0O}(h:f15n0 a1=some o):T Try.prog Try.f15.ntmps 0 c15 (f15n0S a1) (·=f15n0E a1 o):=by
 unfold f15n0 at h;obtain ⟨x5,h6,h⟩:=Qc h;rcases Qg h with ⟨h7,h⟩|⟨h7,h⟩
 ·refine rN Qf 4 [j3,([],[jH 1 (jI x5)],[]),j3,j3] [some false] [] [0] [1,4,5] (f15n1S a1) (ap (f35_ok a1 h6) (ap (Qq h7) an)) ?_;obtain ⟨o313,h314,h⟩:=Qc h;cases o313 with
  | norm v315 =>
   refine T.oneN (by kernel_rfl) (f15n1_ok a1 h314) (st2:=(f15n1E a1 (.norm v315)).2) rfl ?_;obtain rfl:=Qd h;exact rE Qf [j3] [] [] [0] [2,3] (.ret,(f15n0E a1 (.ret 0 v315)).2) an rfl
 ·obtain rfl:=Qd h;exact rK Qf 2 [j3,([],[jH 1 (jI x5)],[]),j3] [some true] [.mat 2 1] [1] [2,3] .ret ((f15n0E a1 (.ret 8 [])).2) (ap (f35_ok a1 h6) (ap (Qac h7) an)) rfl
noncomputable def f15(a1:Qh):Option ((List Int)×Int):=(f15n0 a1).bind fun o=>match o with
 | .ret v316 v317=>some (v317,v316)
theorem f15_ok(a1:Qh){r:(List Int)×Int}(h:f15 a1=some r):Qm Try.prog false 15 [(jA Qh.cells a1)] [] (.tup [(.pl (.sl .any 1 (r.1.map (cInt .u8)))),(jI r.2)]) []:=by
 unfold f15 at h;obtain ⟨o,ho,h⟩:=Qc h;cases o with
 | ret v316 v317 =>
  obtain rfl:=Qd h;exact Qm.plain Qf (f:=Try.f15) (c:=c15) (by kernel_rfl) (by kernel_rfl) (by kernel_rfl) (by kernel_rfl) ((f15n0_ok a1 ho).mono fun r e=>by subst e; exact ⟨.inl rfl,(.tup [(.own 0),(jI v316)]),(.tup [(.pl (.sl .any 1 (v317.map (cInt .u8)))),(jI v316)]),by kernel_rfl,by kernel_rfl,((Wk.refl _):Wk (.tup [(.pl (.sl .any 1 (v317.map (cInt .u8)))),(jI v316)]) (.tup [(.pl (.sl .any 1 (v317.map (cInt .u8)))),(jI v316)]))⟩)

noncomputable def c45:Code:=Try.f45.body.getD .skip
inductive f45n2O where
 | exit0 (v24:Int)
def f45n2E(bk1:List Int):f45n2O→Ex×Tr×Hp
 | .exit0 v24=>((.exit 0),mkS [(3,(.pl (.int .u64 v24)))],[])
def f45n2S(bk1:List Int)(v16 v17:Int):Tr×Hp:=(mkS [(0,(.pl (.sl .any 1 (bk1.map (cInt .u8))))),(3,(.pl (.int .u64 v16))),(4,(jI v17))],[])
noncomputable def f45n2:Nat→List Int→Int→Int→Option f45n2O
 | 0,_,_,_=>none
 | f+1,bk1,v16,v17 =>
  bif decide (0≤v17) then
   (at? bk1 v17).bind fun x22 =>
   (f45n2 f bk1 (Qu ((Qu (v16*256))+(Qu x22))) (wr64 (v17-1)))
  else
   some (.exit0 v16)
theorem f45n2_ok:∀(f:Nat)(bk1:List Int)(v16 v17:Int){o:f45n2O},f45n2 f bk1 v16 v17=some o→TL Try.prog Try.f45.ntmps 0 f (cL (cL (Qk 1 (cL (Qk 2 c45))))) (f45n2S bk1 v16 v17) (·=f45n2E bk1 o)
 | 0,_,_,_,o,h=>by rw [f45n2] at h; cases h
 | f+1,bk1,v16,v17,o,h=>by
  rw [f45n2] at h;refine TL.body (K:=fun s=>∃v16:Int,∃v17:Int,s=(f45n2S bk1 v16 v17)∧f45n2 f bk1 v16 v17=some o) ?_ (by rintro _ ⟨v16,v17,rfl,hk⟩; exact f45n2_ok f _ _ _ hk);rcases Qg h with ⟨h19,h⟩|⟨h19,h⟩
  ·obtain ⟨x22,h23,h⟩:=Qc h;exact rE Qf [j3,([],[(4,.idx (Int.toNat v17) ((cInt .u8) x22))],[]),j3] [some true] [] [] [0,3,4] (.norm,(f45n2S bk1 (Qu ((Qu (v16*256))+(Qu x22))) (wr64 (v17-1)))) (ap h19 (ap (Qj h23).1 (ap (Qs (cInt .u8) (Qj h23).2) an))) (Qt.norm ⟨(Qu ((Qu (v16*256))+(Qu x22))),(wr64 (v17-1)),rfl,h⟩)
  ·obtain rfl:=Qd h;exact rK Qf 1 [j3] [some false] [] [] [3] (.exit 0) ((f45n2E bk1 (.exit0 v16)).2) (ap h19 an) (Qt.out rfl rfl)
inductive f45n1O where
 | norm (v28:Int)
def f45n1E(bk1:List Int):f45n1O→Ex×Tr×Hp
 | .norm v28=>(.norm,mkS [(3,(.pl (.int .u64 v28)))],[])
def f45n1S(bk1:List Int):Tr×Hp:=(mkS [(0,(.pl (.sl .any 1 (bk1.map (cInt .u8))))),(3,(.pl (.int .u64 0)))],[])
noncomputable def f45n1(bk1:List Int):Option f45n1O :=
 (f45n2 FUEL bk1 0 (wr64 ((bk1.length:Int)-1))).bind fun o25=>match o25 with
 | .exit0 v27=>some (.norm v27)
theorem f45n1_ok(bk1:List Int){o:f45n1O}(h:f45n1 bk1=some o):T Try.prog Try.f45.ntmps 0 (cL (Qk 2 c45)) (f45n1S bk1) (·=f45n1E bk1 o):=by
 unfold f45n1 at h;refine rN Qf 1 [([],[],[(1,.val (jI (bk1.length:Int)))])] [] [] [] [0,3,4] (f45n2S bk1 0 (wr64 ((bk1.length:Int)-1))) (ap (Qn (xs:=bk1) (c:=(cInt .u8))) an) ?_;obtain ⟨o25,h26,h⟩:=Qc h;cases o25 with
 | exit0 v27 =>
  obtain rfl:=Qd h;exact T.last' (T.bl (i:=0) (by kernel_rfl) (by kernel_rfl) (f45n2_ok FUEL bk1 0 (wr64 ((bk1.length:Int)-1)) h26)) (tds:=[]) (m:=[]) (keep:=[3]) (st2:=(f45n1E bk1 (.norm v27)).2) (by kernel_rfl) an rfl
inductive f45n0O where
 | ret (v32:Int)
def f45n0E(a1:List Int):f45n0O→Ex×Tr×Hp
 | .ret v32=>(.ret,mkS [(2,(.pl (.int .u64 v32)))],[])
def f45n0S(a1:List Int):Tr×Hp:=(Qai [(.pl (.sl .any 1 (a1.map (cInt .u8))))] 0 .leaf,[])
noncomputable def f45n0(a1:List Int):Option f45n0O :=
 (f45n1 a1).bind fun o29=>match o29 with
 | .norm v31=>some (.ret v31)
theorem f45n0_ok(a1:List Int){o:f45n0O}(h:f45n0 a1=some o):T Try.prog Try.f45.ntmps 0 c45 (f45n0S a1) (·=f45n0E a1 o):=by
 unfold f45n0 at h;refine rN Qf 2 [j3,j3] [] [] [] [0,3] (f45n1S a1) an ?_;obtain ⟨o29,h30,h⟩:=Qc h;cases o29 with
 | norm v31 =>
  refine T.oneN (by kernel_rfl) (f45n1_ok a1 h30) (st2:=(f45n1E a1 (.norm v31)).2) rfl ?_;obtain rfl:=Qd h;exact rE Qf [j3] [] [] [] [2] (.ret,(f45n0E a1 (.ret v31)).2) an rfl
noncomputable def f45(a1:List Int):Option Int:=(f45n0 a1).bind fun o=>match o with
 | .ret v32=>some v32
theorem f45_ok(a1:List Int){r:Int}(h:f45 a1=some r):Qm Try.prog false 45 [(.pl (.sl .any 1 (a1.map (cInt .u8))))] [] (.pl (.int .u64 r)) []:=by
 unfold f45 at h;obtain ⟨o,ho,h⟩:=Qc h;cases o with
 | ret v32 =>
  obtain rfl:=Qd h;exact Qm.plain Qf (f:=Try.f45) (c:=c45) (by kernel_rfl) (by kernel_rfl) (by kernel_rfl) (by kernel_rfl) ((f45n0_ok a1 ho).mono fun r e=>by subst e; exact ⟨.inl rfl,(.pl (.int .u64 v32)),(.pl (.int .u64 v32)),by kernel_rfl,by kernel_rfl,((Wk.refl _):Wk (.pl (.int .u64 v32)) (.pl (.int .u64 v32)))⟩)

inductive f21r2n1O where
 | norm (v15:List Int)
def f21r2n1E(bf1:Int)(bk2:List Int):f21r2n1O→Ex×Tr×Hp
 | .norm v15=>(.norm,mkS [(5,(.pl (.int .u64 14695981039346656037))),(6,(.own 0))],[some (.row false 1 (v15.map (cInt .u8)))])
def f21r2n1S(bf1:Int)(bk2:List Int):Tr×Hp:=(mkS [(0,(.pl (.int .u64 bf1))),(1,(.pl (.sl .any 1 (bk2.map (cInt .u8))))),(5,(.pl (.int .u64 14695981039346656037)))],[])
noncomputable def f21r2n1(bf1:Int)(bk2:List Int):Option f21r2n1O :=
 (f42r1 bf1 8).bind fun x11 =>
 bif (bk2.isEmpty) then
  some (.norm x11)
 else
  req (fit (x11.length+bk2.length) 1) <|
  some (.norm (x11++bk2))
theorem f21r2n1_ok(bf1:Int)(bk2:List Int){o:f21r2n1O}(h:f21r2n1 bf1 bk2=some o):T Try.prog Try.f21.ntmps 0 (cL (Qk 2 c21)) (f21r2n1S bf1 bk2) (·=f21r2n1E bf1 bk2 o):=by
 unfold f21r2n1 at h;obtain ⟨x11,h12,h⟩:=Qc h;rcases Qg h with ⟨h13,h⟩|⟨h13,h⟩
 ·obtain rfl:=Qd h;exact rE Qf [([],[(1,.call (.own 0) [some (.row false 1 (x11.map (cInt .u8)))]),(3,.app false)],[])] [] [] [0] [5,6] (.norm,(f21r2n1E bf1 bk2 (.norm x11)).2) (ap (Qbc (c:=(cInt .u8)) h13) (ap (Qam bf1 8 h12) an)) rfl
 ·obtain ⟨h14,h⟩:=Qp h;obtain rfl:=Qd h;exact rE Qf [([],[(1,.call (.own 0) [some (.row false 1 (x11.map (cInt .u8)))]),(3,.app true)],[(3,.row 1 ((x11++bk2).map (cInt .u8)))])] [] [] [1] [5,6] (.norm,(f21r2n1E bf1 bk2 (.norm (x11++bk2))).2) (ap (Qbj (te:=ti5) (xs:=x11) (ys:=bk2) (c:=(cInt .u8)) (d:=(cInt .u8)) h14 rfl) (ap (Qcf (c:=(cInt .u8)) h13) (ap (Qbd (c:=(cInt .u8)) (xs:=bk2) (n:=1) (fun _=>rfl)) (ap (Qap (xs:=x11) (ys:=bk2) (c:=(cInt .u8))) (ap (Qam bf1 8 h12) an))))) rfl
inductive f21r2n3O where
 | exit0 (v41:Int)
def f21r2n3E(bk1:List Int):f21r2n3O→Ex×Tr×Hp
 | .exit0 v41=>((.exit 0),mkS [(5,(.pl (.int .u64 v41)))],[])
def f21r2n3S(bk1:List Int)(v33 v34:Int):Tr×Hp:=(mkS [(5,(.pl (.int .u64 v33))),(6,(.own 0)),(7,(jI v34))],[some (.row false 1 (bk1.map (cInt .u8)))])
noncomputable def f21r2n3:Nat→List Int→Int→Int→Option f21r2n3O
 | 0,_,_,_=>none
 | f+1,bk1,v33,v34 =>
  bif decide (v34<(bk1.length:Int)) then
   (at? bk1 v34).bind fun x39 =>
   (f21r2n3 f bk1 (Qu ((IntKind.u64.wrap (BitVec.ofInt IntKind.u64.bits v33 ^^^ BitVec.ofInt IntKind.u64.bits (Qu x39)).toNat)*1099511628211)) (wr64 (v34+1)))
  else
   some (.exit0 v33)
theorem f21r2n3_ok:∀(f:Nat)(bk1:List Int)(v33 v34:Int){o:f21r2n3O},f21r2n3 f bk1 v33 v34=some o→TL Try.prog Try.f21.ntmps 0 f (cL (cL (Qk 1 (cL (Qk 0 (Qk 1 (Qk 2 c21))))))) (f21r2n3S bk1 v33 v34) (·=f21r2n3E bk1 o)
 | 0,_,_,_,o,h=>by rw [f21r2n3] at h; cases h
 | f+1,bk1,v33,v34,o,h=>by
  rw [f21r2n3] at h;refine TL.body (K:=fun s=>∃v33:Int,∃v34:Int,s=(f21r2n3S bk1 v33 v34)∧f21r2n3 f bk1 v33 v34=some o) ?_ (by rintro _ ⟨v33,v34,rfl,hk⟩; exact f21r2n3_ok f _ _ _ hk);rcases Qg h with ⟨h36,h⟩|⟨h36,h⟩
  ·obtain ⟨x39,h40,h⟩:=Qc h;exact rE Qf [([],[],[(2,.val (jI (bk1.length:Int)))]),([],[(3,.at_ (Int.toNat v34)),(4,.idx 0 ((cInt .u8) x39))],[]),j3] [some true] [] [0] [5,6,7] (.norm,(f21r2n3S bk1 (Qu ((IntKind.u64.wrap (BitVec.ofInt IntKind.u64.bits v33 ^^^ BitVec.ofInt IntKind.u64.bits (Qu x39)).toNat)*1099511628211)) (wr64 (v34+1)))) (ap (Qn (xs:=bk1) (c:=(cInt .u8))) (ap h36 (ap (Qj h40).1 (ap (lt_map (cInt .u8) (Qj h40).2) (ap (Qs (cInt .u8) (Qj h40).2) an))))) (Qt.norm ⟨(Qu ((IntKind.u64.wrap (BitVec.ofInt IntKind.u64.bits v33 ^^^ BitVec.ofInt IntKind.u64.bits (Qu x39)).toNat)*1099511628211)),(wr64 (v34+1)),rfl,h⟩)
  ·obtain rfl:=Qd h;exact rK Qf 1 [([],[],[(2,.val (jI (bk1.length:Int)))])] [some false] [] [] [5] (.exit 0) ((f21r2n3E bk1 (.exit0 v33)).2) (ap (Qn (xs:=bk1) (c:=(cInt .u8))) (ap h36 an)) (Qt.out rfl rfl)
noncomputable def f21r2n3L(bk1:List Int):List Int→Int→Int→Option f21r2n3O
 | [],v33,v34 =>
  some (.exit0 v33)
 | x0::rest,v33,v34 =>
  (f21r2n3L bk1 rest (Qu ((IntKind.u64.wrap (BitVec.ofInt IntKind.u64.bits v33 ^^^ BitVec.ofInt IntKind.u64.bits (Qu x0)).toNat)*1099511628211)) (v34+1))
theorem f21r2n3L_eq(bk1:List Int):∀(rest:List Int)(f k:Nat)(v33:Int),bk1.drop k=rest→bk1.length≤maxLen→rest.length<f→f21r2n3 f bk1 v33 (k:Int)=f21r2n3L bk1 rest v33 (k:Int)
 | _,0,_,_,_,_,hf=>absurd hf (Nat.not_lt_zero _)
 | [],f+1,k,v33,hd,hm,hf=>by
  have hk:¬((k:Int)<(bk1.length:Int)):=by have:=Qaj hd; omega
  rw [f21r2n3,f21r2n3L];simp only [decide_eq_false hk,cond_false]
 | x0::rest,f+1,k,v33,hd,hm,hf=>by
  obtain ⟨hx,hlt,hd'⟩:=Qx hd;have hk:(k:Int)<(bk1.length:Int):=by omega
  have hw:wr64 ((k:Int)+1)=(k:Int)+1:=Qr (by omega) (by unfold maxLen at hm; omega);have ih:∀(v33:Int),f21r2n3 f bk1 v33 ((k:Int)+1)=f21r2n3L bk1 rest v33 ((k:Int)+1):=fun v33=>f21r2n3L_eq bk1 rest f (k+1) v33 hd' hm (by simpa using hf);rw [f21r2n3,f21r2n3L];simp only [decide_eq_true hk,cond_true,Qaq,hx,Option.bind_some,hw,ih]
theorem f21r2n3_run(bk1:List Int)(v33:Int)(hm:bk1.length≤maxLen):f21r2n3 FUEL bk1 v33 0=f21r2n3L bk1 bk1 v33 0:=f21r2n3L_eq bk1 bk1 FUEL 0 v33 List.drop_zero hm (Qao hm)
inductive f21r2n2O where
 | norm (v45:Int)
def f21r2n2E(bk1:List Int):f21r2n2O→Ex×Tr×Hp
 | .norm v45=>(.norm,mkS [(5,(.pl (.int .u64 v45)))],[])
def f21r2n2S(bk1:List Int):Tr×Hp:=(mkS [(5,(.pl (.int .u64 14695981039346656037))),(6,(.own 0))],[some (.row false 1 (bk1.map (cInt .u8)))])
noncomputable def f21r2n2(bk1:List Int):Option f21r2n2O :=
 (f21r2n3 FUEL bk1 14695981039346656037 0).bind fun o42=>match o42 with
 | .exit0 v44=>some (.norm v44)
theorem f21r2n2_ok(bk1:List Int){o:f21r2n2O}(h:f21r2n2 bk1=some o):T Try.prog Try.f21.ntmps 0 (cL (Qk 0 (Qk 1 (Qk 2 c21)))) (f21r2n2S bk1) (·=f21r2n2E bk1 o):=by
 unfold f21r2n2 at h;refine rN Qf 1 [j3] [] [] [0] [5,6,7] (f21r2n3S bk1 14695981039346656037 0) an ?_;obtain ⟨o42,h43,h⟩:=Qc h;cases o42 with
 | exit0 v44 =>
  obtain rfl:=Qd h;exact T.last' (T.bl (i:=0) (by kernel_rfl) (by kernel_rfl) (f21r2n3_ok FUEL bk1 14695981039346656037 0 h43)) (tds:=[]) (m:=[]) (keep:=[5]) (st2:=(f21r2n2E bk1 (.norm v44)).2) (by kernel_rfl) an rfl
inductive f21r2n0O where
 | ret (v49:Int)
def f21r2n0E(a1:Int)(a2:List Int):f21r2n0O→Ex×Tr×Hp
 | .ret v49=>(.ret,mkS [(4,(.pl (.int .u64 v49)))],[])
def f21r2n0S(a1:Int)(a2:List Int):Tr×Hp:=(Qai [(.pl (.int .u64 a1)),(.pl (.sl .any 1 (a2.map (cInt .u8))))] 0 .leaf,[])
noncomputable def f21r2n0(a1:Int)(a2:List Int):Option f21r2n0O :=
 (f21r2n1 a1 a2).bind fun o16=>match o16 with
 | .norm v18=>(f21r2n2 v18).bind fun o46=>match o46 with
  | .norm v48=>some (.ret v48)
theorem f21r2n0_ok(a1:Int)(a2:List Int){o:f21r2n0O}(h:f21r2n0 a1 a2=some o):T Try.prog Try.f21.ntmps 0 c21 (f21r2n0S a1 a2) (·=f21r2n0E a1 a2 o):=by
 unfold f21r2n0 at h;refine rN Qf 2 [j3,j3] [] [] [] [0,1,5] (f21r2n1S a1 a2) an ?_;obtain ⟨o16,h17,h⟩:=Qc h;cases o16 with
 | norm v18 =>
  refine T.oneN (by kernel_rfl) (f21r2n1_ok a1 a2 h17) (st2:=(f21r2n1E a1 a2 (.norm v18)).2) rfl ?_;refine rN Qf 0 [] [] [] [0] [5,6] (f21r2n2S v18) an ?_;obtain ⟨o46,h47,h⟩:=Qc h;cases o46 with
  | norm v48 =>
   refine T.oneN (by kernel_rfl) (f21r2n2_ok v18 h47) (st2:=(f21r2n2E v18 (.norm v48)).2) rfl ?_;obtain rfl:=Qd h;exact rE Qf [j3] [] [] [] [4] (.ret,(f21r2n0E a1 a2 (.ret v48)).2) an rfl
noncomputable def f21r2(a1:Int)(a2:List Int):Option Int:=(f21r2n0 a1 a2).bind fun o=>match o with
 | .ret v49=>some v49
theorem f21r2_ok(a1:Int)(a2:List Int){r:Int}(h:f21r2 a1 a2=some r):Qm Try.prog true 21 [(.pl (.int .u64 a1)),(.pl (.sl .any 1 (a2.map (cInt .u8))))] [] (.pl (.int .u64 r)) []:=by
 unfold f21r2 at h;obtain ⟨o,ho,h⟩:=Qc h;cases o with
 | ret v49 =>
  obtain rfl:=Qd h;exact Qm.shared Qf (f:=Try.f21) (c:=c21) (by kernel_rfl) (by kernel_rfl) (by kernel_rfl) ((f21r2n0_ok a1 a2 ho).mono fun r e=>by subst e; exact ⟨.inl rfl,by kernel_rfl,by kernel_rfl⟩)

noncomputable def c62:Code:=Try.f62.body.getD .skip
inductive f62n0O where
 | ret (v14:ByteArray) (v15:List Int) (v16:Bool)
def f62n0E(a1:List Int):f62n0O→Ex×Tr×Hp
 | .ret v14 v15 v16=>(.ret,mkS [(2,(jS v14)),(3,(.pl (.sl .any 1 (v15.map (cInt .u8))))),(4,(jB v16))],[])
def f62n0S(a1:List Int):Tr×Hp:=(Qai [(.pl (.sl .any 1 (a1.map (cInt .u8))))] 0 .leaf,[])
noncomputable def f62n0(a1:List Int):Option f62n0O :=
 bif decide ((a1.length:Int)=0) then
  some (.ret Qbz [] false)
 else
  (at? a1 0).bind fun x7 =>
  bif (decide ((a1.length:Int)<(wr64 (1+(wr64 x7))))) then
   some (.ret Qbz [] false)
  else
   req (cutB 1 (wr64 (1+(wr64 x7))) a1.length) <|
   req (cutB (wr64 (1+(wr64 x7))) (a1.length:Int) a1.length) <|
   some (.ret (sOf ((a1.take (Int.toNat (wr64 (1+(wr64 x7))))).drop (Int.toNat 1))) (a1.drop (Int.toNat (wr64 (1+(wr64 x7))))) true)
theorem f62n0_ok(a1:List Int){o:f62n0O}(h:f62n0 a1=some o):T Try.prog Try.f62.ntmps 0 c62 (f62n0S a1) (·=f62n0E a1 o):=by
 unfold f62n0 at h;rcases Qg h with ⟨h6,h⟩|⟨h6,h⟩
 ·obtain rfl:=Qd h;exact rK Qf 2 [j3,(jT [4,5,6,7,8,9,10,11],[(12,.bool true)],[(1,.val (jI (a1.length:Int)))]),j3] [none] [.wk 3 (.pl (.sl .any 1 ([].map (cInt .u8))))] [] [2,3,4] .ret ((f62n0E a1 (.ret Qbz [] false)).2) (ap (Qn (xs:=a1) (c:=(cInt .u8))) (ap h6 (ap4 h6 (ap4 h6 (ap ((Wk.pl (WkP.nil (f:=.nil) (sz:=0) (sz':=1))):Wk (.pl (.sl .nil 0 [])) (.pl (.sl .any 1 ([].map (cInt .u8))))) an))))) rfl
 ·obtain ⟨x7,h8,h⟩:=Qc h;rcases Qg h with ⟨h9,h⟩|⟨h9,h⟩
  ·obtain rfl:=Qd h;exact rK Qf 2 [j3,(jF [4,5,6,7,8,9,10,11],[(7,.idx (Int.toNat 0) ((cInt .u8) x7)),(12,.bool false)],[(1,.val (jI (a1.length:Int))),(5,.val (jI (a1.length:Int)))]),j3] [some true] [.wk 3 (.pl (.sl .any 1 ([].map (cInt .u8))))] [] [2,3,4] .ret ((f62n0E a1 (.ret Qbz [] false)).2) (ap (Qn (xs:=a1) (c:=(cInt .u8))) (ap2 h6 (ap (Qn (xs:=a1) (c:=(cInt .u8))) (ap2 h6 (ap (Qj h8).1 (ap (Qs (cInt .u8) (Qj h8).2) (ap h6 (ap4 h6 (ap h9 (ap ((Wk.pl (WkP.nil (f:=.nil) (sz:=0) (sz':=1))):Wk (.pl (.sl .nil 0 [])) (.pl (.sl .any 1 ([].map (cInt .u8))))) an)))))))))) rfl
  ·obtain ⟨h12,h⟩:=Qp h;obtain ⟨h13,h⟩:=Qp h;obtain rfl:=Qd h
   exact rE Qf [j3,(jF [4,5,6,7,8,9,10,11],[(7,.idx (Int.toNat 0) ((cInt .u8) x7)),(12,.bool false)],[(1,.val (jI (a1.length:Int))),(5,.val (jI (a1.length:Int)))]),([],[(1,.idx (Int.toNat 0) ((cInt .u8) x7))],[]),([],[(2,.cut (Int.toNat 1) (Int.toNat (wr64 (1+(wr64 x7))))),(3,.bs (toB ((a1.take (Int.toNat (wr64 (1+(wr64 x7))))).drop (Int.toNat 1)))),(6,.cut (Int.toNat (wr64 (1+(wr64 x7)))) a1.length)],[(2,.val (.pl (.sl .any 1 (((a1.take (Int.toNat (wr64 (1+(wr64 x7))))).drop (Int.toNat 1)).map (cInt .u8))))),(6,.val (.pl (.sl .any 1 ((a1.drop (Int.toNat (wr64 (1+(wr64 x7))))).map (cInt .u8)))))])] [some false] [] [] [2,3,4] (.ret,(f62n0E a1 (.ret (sOf ((a1.take (Int.toNat (wr64 (1+(wr64 x7))))).drop (Int.toNat 1))) (a1.drop (Int.toNat (wr64 (1+(wr64 x7))))) true)).2) (ap (Qn (xs:=a1) (c:=(cInt .u8))) (ap2 h6 (ap (Qn (xs:=a1) (c:=(cInt .u8))) (ap2 h6 (ap (Qj h8).1 (ap (Qs (cInt .u8) (Qj h8).2) (ap h6 (ap4 h6 (ap h9 (ap (Qj h8).1 (ap (Qs (cInt .u8) (Qj h8).2) (ap (Qbn (c:=(cInt .u8)) h12) (ap (cut_hl_2 h12) (ap (cut_hl_3 h12) (ap (Qbk (c:=(cInt .u8)) h12) (ap (congrArg (fun l=>AV.pl (.sl .any 1 l)) (cut_cv (xs:=a1) (c:=(cInt .u8)) (n:=(Int.toNat (wr64 (1+(wr64 x7))))) (m:=(Int.toNat 1)))) (ap (bytes_map ((a1.take (Int.toNat (wr64 (1+(wr64 x7))))).drop (Int.toNat 1))) (ap (Qco (c:=(cInt .u8)) h13) (ap (cut_nl_2 h13) (ap (cut_nl_3 h13) (ap (Qcm (c:=(cInt .u8)) h13) (ap (congrArg (fun l=>AV.pl (.sl .any 1 l)) (drop_cv (xs:=a1) (c:=(cInt .u8)) (m:=(Int.toNat (wr64 (1+(wr64 x7))))))) an)))))))))))))))))))))) rfl
noncomputable def f62(a1:List Int):Option (ByteArray×(List Int)×Bool):=(f62n0 a1).bind fun o=>match o with
 | .ret v14 v15 v16=>some (v14,v15,v16)
theorem f62_ok(a1:List Int){r:ByteArray×(List Int)×Bool}(h:f62 a1=some r):Qm Try.prog false 62 [(.pl (.sl .any 1 (a1.map (cInt .u8))))] [] (.tup [(jS r.1),(.pl (.sl .any 1 (r.2.1.map (cInt .u8)))),(jB r.2.2)]) []:=by
 unfold f62 at h;obtain ⟨o,ho,h⟩:=Qc h;cases o with
 | ret v14 v15 v16 =>
  obtain rfl:=Qd h;exact Qm.plain Qf (f:=Try.f62) (c:=c62) (by kernel_rfl) (by kernel_rfl) (by kernel_rfl) (by kernel_rfl) ((f62n0_ok a1 ho).mono fun r e=>by subst e; exact ⟨.inl rfl,(.tup [(jS v14),(.pl (.sl .any 1 (v15.map (cInt .u8)))),(jB v16)]),(.tup [(jS v14),(.pl (.sl .any 1 (v15.map (cInt .u8)))),(jB v16)]),by kernel_rfl,by kernel_rfl,((Wk.refl _):Wk (.tup [(jS v14),(.pl (.sl .any 1 (v15.map (cInt .u8)))),(jB v16)]) (.tup [(jS v14),(.pl (.sl .any 1 (v15.map (cInt .u8)))),(jB v16)]))⟩)

noncomputable def c46:Code:=Try.f46.body.getD .skip
inductive f46n2O where
 | exit0 (v108:List Int) (v109:List Qb)
 | ret (v110:List Qb)
def f46n2E(bf2 bf3:Int)(bq1:ByteArray×(List Int)×Bool):f46n2O→Ex×Tr×Hp
 | .exit0 v108 v109=>((.exit 0),mkS [(2,(.bp 0 0)),(4,(.bp 1 0)),(6,(.pl (.sl .any 1 (v108.map (cInt .u8)))))],[some (.box 47 [(jI 0),(jS Qbz),(.pl (.sl .nil 0 []))]),some (.box 47 [(jI (wr64 bf3)),(jS bq1.1),(.own 2)]),jR 3 Qb.cells v109])
 | .ret v110=>(.ret,mkS [(2,(.bp 0 0)),(3,(jB false))],[some (.box 47 [(jI (wr64 bf3)),(jS bq1.1),(.own 1)]),jR 3 Qb.cells v110])
def f46n2S(bf2 bf3:Int)(bq1:ByteArray×(List Int)×Bool)(v79:List Int)(v80:Int)(v81:List Qb):Tr×Hp:=(mkS [(2,(.bp 0 0)),(4,(.bp 1 0)),(6,(.pl (.sl .any 1 (v79.map (cInt .u8))))),(8,(jI (wr64 bf2))),(9,(jI v80))],[some (.box 47 [(jI 0),(jS Qbz),(.pl (.sl .nil 0 []))]),some (.box 47 [(jI (wr64 bf3)),(jS bq1.1),(.own 2)]),jR 3 Qb.cells v81])
noncomputable def f46n2:Nat→Int→Int→ByteArray×(List Int)×Bool→List Int→Int→List Qb→Option f46n2O
 | 0,_,_,_,_,_,_=>none
 | f+1,bf2,bf3,bq1,v79,v80,v81 =>
  bif decide (v80<(wr64 bf2)) then
   (f62 v79).bind fun x96 =>
   bif x96.2.2 then
    (f62 x96.2.1).bind fun x99 =>
    bif x99.2.2 then
     bif decide ((x99.2.1.length:Int)<8) then
      some (.ret v81)
     else
      req (cutB 0 8 x99.2.1.length) <|
      (f45 ((x99.2.1.take (Int.toNat 8)).drop 0)).bind fun x104 =>
      req (fit (v81.length+1) 40) <|
      req (cutB 8 (x99.2.1.length:Int) x99.2.1.length) <|
      (f46n2 f bf2 bf3 bq1 (x99.2.1.drop (Int.toNat 8)) (wr64 (v80+1)) (v81++[(Qb.mk x96.1 x99.1 (wr64 x104))]))
    else
     some (.ret v81)
   else
    some (.ret v81)
  else
   some (.exit0 v79 v81)
theorem f46n2_ok:∀(f:Nat)(bf2 bf3:Int)(bq1:ByteArray×(List Int)×Bool)(v79:List Int)(v80:Int)(v81:List Qb){o:f46n2O},f46n2 f bf2 bf3 bq1 v79 v80 v81=some o→TL Try.prog Try.f46.ntmps 0 f (cL (cL (Qk 1 (cL (Qk 3 (Qk 2 (Qk 4 c46))))))) (f46n2S bf2 bf3 bq1 v79 v80 v81) (·=f46n2E bf2 bf3 bq1 o)
 | 0,_,_,_,_,_,_,o,h=>by rw [f46n2] at h; cases h
 | f+1,bf2,bf3,bq1,v79,v80,v81,o,h=>by
  rw [f46n2] at h;refine TL.body (K:=fun s=>∃v79:List Int,∃v80:Int,∃v81:List Qb,s=(f46n2S bf2 bf3 bq1 v79 v80 v81)∧f46n2 f bf2 bf3 bq1 v79 v80 v81=some o) ?_ (by rintro _ ⟨v79,v80,v81,rfl,hk⟩; exact f46n2_ok f _ _ _ _ _ _ hk);rcases Qg h with ⟨h83,h⟩|⟨h83,h⟩
  ·obtain ⟨x96,h97,h⟩:=Qc h;rcases Qg h with ⟨h98,h⟩|⟨h98,h⟩
   ·obtain ⟨x99,h100,h⟩:=Qc h;rcases Qg h with ⟨h101,h⟩|⟨h101,h⟩
    ·rcases Qg h with ⟨h102,h⟩|⟨h102,h⟩
     ·obtain rfl:=Qd h;exact rK Qf 2 [j3,([],[jH 1 (.tup [(jS x96.1),(.pl (.sl .any 1 (x96.2.1.map (cInt .u8)))),(jB x96.2.2)])],[]),j3,([],[jH 1 (.tup [(jS x99.1),(.pl (.sl .any 1 (x99.2.1.map (cInt .u8)))),(jB x99.2.2)])],[]),(jF [3,4,5],[(6,.bool false)],[(4,.val (jI (x99.2.1.length:Int)))]),j3] [some true,some false,some true] [] [0,2] [2,3] .ret ((f46n2E bf2 bf3 bq1 (.ret v81)).2) (ap h83 (ap (f62_ok v79 h97) (ap (Qq h98) (ap (f62_ok x96.2.1 h100) (ap2 (Qq h101) (ap (Qn (xs:=x99.2.1) (c:=(cInt .u8))) (ap2 (Qq h101) (ap h102 an)))))))) (Qt.out rfl rfl)
     ·obtain ⟨h103,h⟩:=Qp h;obtain ⟨x104,h105,h⟩:=Qc h;obtain ⟨h106,h⟩:=Qp h;obtain ⟨h107,h⟩:=Qp h
      exact rE Qf [j3,([],[jH 1 (.tup [(jS x96.1),(.pl (.sl .any 1 (x96.2.1.map (cInt .u8)))),(jB x96.2.2)])],[]),j3,([],[jH 1 (.tup [(jS x99.1),(.pl (.sl .any 1 (x99.2.1.map (cInt .u8)))),(jB x99.2.2)])],[]),(jF [3,4,5],[(6,.bool false)],[(4,.val (jI (x99.2.1.length:Int)))]),([],[(5,.cut 0 (Int.toNat 8)),jH 6 (.pl (.int .u64 x104)),(10,.fits)],[(5,.val (.pl (.sl .any 1 (((x99.2.1.take (Int.toNat 8)).drop 0).map (cInt .u8))))),(10,.row 4 ((v81++[(Qb.mk x96.1 x99.1 (wr64 x104))]).map Qb.cells))]),([],[(1,.cut (Int.toNat 8) x99.2.1.length)],[(1,.val (.pl (.sl .any 1 ((x99.2.1.drop (Int.toNat 8)).map (cInt .u8)))))]),j3] [some true,some false,some false] [] [0,1,4] [2,4,6,8,9] (.norm,(f46n2S bf2 bf3 bq1 (x99.2.1.drop (Int.toNat 8)) (wr64 (v80+1)) (v81++[(Qb.mk x96.1 x99.1 (wr64 x104))]))) (ap h83 (ap (f62_ok v79 h97) (ap (Qq h98) (ap (f62_ok x96.2.1 h100) (ap2 (Qq h101) (ap (Qn (xs:=x99.2.1) (c:=(cInt .u8))) (ap2 (Qq h101) (ap h102 (ap (Qba (c:=(cInt .u8)) h103) (ap (cut_hn_2 h103) (ap (cut_hn_3 h103) (ap (Qaz (c:=(cInt .u8)) h103) (ap (congrArg (fun l=>AV.pl (.sl .any 1 l)) (cut_cv (xs:=x99.2.1) (c:=(cInt .u8)) (n:=(Int.toNat 8)) (m:=0))) (ap (Qbq (te:=ti49) (xs:=v81) (n:=1) (c:=Qb.cells) h106 rfl) (ap (Qap (xs:=v81) (ys:=[(Qb.mk x96.1 x99.1 (wr64 x104))]) (c:=Qb.cells)) (ap (f45_ok ((x99.2.1.take (Int.toNat 8)).drop 0) h105) (ap (Qco (c:=(cInt .u8)) h107) (ap (cut_nl_2 h107) (ap (cut_nl_3 h107) (ap (Qcm (c:=(cInt .u8)) h107) (ap (congrArg (fun l=>AV.pl (.sl .any 1 l)) (drop_cv (xs:=x99.2.1) (c:=(cInt .u8)) (m:=(Int.toNat 8)))) an))))))))))))))))))))) (Qt.norm ⟨(x99.2.1.drop (Int.toNat 8)),(wr64 (v80+1)),(v81++[(Qb.mk x96.1 x99.1 (wr64 x104))]),rfl,h⟩)
    ·obtain rfl:=Qd h;exact rK Qf 2 [j3,([],[jH 1 (.tup [(jS x96.1),(.pl (.sl .any 1 (x96.2.1.map (cInt .u8)))),(jB x96.2.2)])],[]),j3,([],[jH 1 (.tup [(jS x99.1),(.pl (.sl .any 1 (x99.2.1.map (cInt .u8)))),(jB x99.2.2)])],[]),(jT [3,4,5],[(6,.bool true)],[]),j3] [some true,some false,none] [] [0,2] [2,3] .ret ((f46n2E bf2 bf3 bq1 (.ret v81)).2) (ap h83 (ap (f62_ok v79 h97) (ap (Qq h98) (ap (f62_ok x96.2.1 h100) (ap4 (Qac h101) an))))) (Qt.out rfl rfl)
   ·obtain rfl:=Qd h;exact rK Qf 2 [j3,([],[jH 1 (.tup [(jS x96.1),(.pl (.sl .any 1 (x96.2.1.map (cInt .u8)))),(jB x96.2.2)])],[]),j3,j3] [some true,some true] [] [0,2] [2,3] .ret ((f46n2E bf2 bf3 bq1 (.ret v81)).2) (ap h83 (ap (f62_ok v79 h97) (ap (Qac h98) an))) (Qt.out rfl rfl)
  ·obtain rfl:=Qd h;exact rK Qf 1 [j3] [some false] [] [0,1,2] [2,4,6] (.exit 0) ((f46n2E bf2 bf3 bq1 (.exit0 v79 v81)).2) (ap h83 an) (Qt.out rfl rfl)
inductive f46n1O where
 | norm (v116:List Int) (v117:List Qb)
 | ret (v118:List Qb)
def f46n1E(bq1:ByteArray×(List Int)×Bool)(bf2 bf3:Int):f46n1O→Ex×Tr×Hp
 | .norm v116 v117=>(.norm,mkS [(2,(.bp 0 0)),(4,(.bp 1 0)),(6,(.pl (.sl .any 1 (v116.map (cInt .u8)))))],[some (.box 47 [(jI 0),(jS Qbz),(.pl (.sl .nil 0 []))]),some (.box 47 [(jI (wr64 bf3)),(jS bq1.1),(.own 2)]),jR 3 Qb.cells v117])
 | .ret v118=>(.ret,mkS [(2,(.bp 0 0)),(3,(jB false))],[some (.box 47 [(jI (wr64 bf3)),(jS bq1.1),(.own 1)]),jR 3 Qb.cells v118])
def f46n1S(bq1:ByteArray×(List Int)×Bool)(bf2 bf3:Int):Tr×Hp:=(mkS [(2,(.bp 0 0)),(4,(.bp 1 0)),(6,(.pl (.sl .any 1 ((bq1.2.1.drop (Int.toNat 1)).map (cInt .u8))))),(8,(jI (wr64 bf2)))],[some (.box 47 [(jI 0),(jS Qbz),(.pl (.sl .nil 0 []))]),some (.box 47 [(jI (wr64 bf3)),(jS bq1.1),(.pl (.sl .nil 0 []))])])
noncomputable def f46n1(bq1:ByteArray×(List Int)×Bool)(bf2 bf3:Int):Option f46n1O :=
 (f46n2 FUEL bf2 bf3 bq1 (bq1.2.1.drop (Int.toNat 1)) 0 []).bind fun o111=>match o111 with
 | .exit0 v113 v114=>some (.norm v113 v114)
 | .ret v115=>some (.ret v115)
theorem f46n1_ok(bq1:ByteArray×(List Int)×Bool)(bf2 bf3:Int){o:f46n1O}(h:f46n1 bq1 bf2 bf3=some o):T Try.prog Try.f46.ntmps 0 (cL (Qk 3 (Qk 2 (Qk 4 c46)))) (f46n1S bq1 bf2 bf3) (·=f46n1E bq1 bf2 bf3 o):=by
 unfold f46n1 at h;refine rN Qf 1 [j3] [] [.matC 1 2 3] [0,1,2] [2,4,6,8,9] (f46n2S bf2 bf3 bq1 (bq1.2.1.drop (Int.toNat 1)) 0 []) an ?_;obtain ⟨o111,h112,h⟩:=Qc h;cases o111 with
 | exit0 v113 v114 =>
  obtain rfl:=Qd h;exact T.last' (T.bl (i:=0) (by kernel_rfl) (by kernel_rfl) (f46n2_ok FUEL bf2 bf3 bq1 (bq1.2.1.drop (Int.toNat 1)) 0 [] h112)) (tds:=[]) (m:=[0,1,2]) (keep:=[2,4,6]) (st2:=(f46n1E bq1 bf2 bf3 (.norm v113 v114)).2) (by kernel_rfl) an rfl
 | ret v115 =>
  obtain rfl:=Qd h;exact T.last' (T.bl (i:=0) (by kernel_rfl) (by kernel_rfl) (f46n2_ok FUEL bf2 bf3 bq1 (bq1.2.1.drop (Int.toNat 1)) 0 [] h112)) (tds:=[]) (m:=[0,1]) (keep:=[2,3]) (st2:=(f46n1E bq1 bf2 bf3 (.ret v115)).2) (by kernel_rfl) an rfl
inductive f46n0O where
 | ret (v124:Bool) (v125:Int) (v126:ByteArray) (v127:List Qb)
def f46n0E(a1:List Int):f46n0O→Ex×Tr×Hp
 | .ret v124 v125 v126 v127=>(.ret,mkS [(2,(.bp 0 0)),(3,(jB v124))],[some (.box 47 [(jI v125),(jS v126),(.own 1)]),jR 3 Qb.cells v127])
def f46n0S(a1:List Int):Tr×Hp:=(Qai [(.pl (.sl .any 1 (a1.map (cInt .u8))))] 0 .leaf,[])
noncomputable def f46n0(a1:List Int):Option f46n0O :=
 bif decide ((a1.length:Int)<8) then
  some (.ret false 0 Qbz [])
 else
  req (cutB 4 8 a1.length) <|
  (f45 ((a1.take (Int.toNat 8)).drop (Int.toNat 4))).bind fun x8 =>
  req (cutB 8 (a1.length:Int) a1.length) <|
  (f62 (a1.drop (Int.toNat 8))).bind fun x14 =>
  bif x14.2.2 then
   bif decide ((x14.2.1.length:Int)=0) then
    some (.ret false (wr64 x8) Qbz [])
   else
    (at? x14.2.1 0).bind fun x22 =>
    req (cutB 1 (x14.2.1.length:Int) x14.2.1.length) <|
    (f46n1 x14 x22 x8).bind fun o119=>match o119 with
    | .norm v121 v122=>some (.ret (decide ((v121.length:Int)=0)) (wr64 x8) x14.1 v122)
    | .ret v123=>some (.ret false (wr64 x8) x14.1 v123)
  else
   some (.ret false (wr64 x8) Qbz [])
theorem f46n0_ok(a1:List Int){o:f46n0O}(h:f46n0 a1=some o):T Try.prog Try.f46.ntmps 0 c46 (f46n0S a1) (·=f46n0E a1 o):=by
 unfold f46n0 at h;rcases Qg h with ⟨h3,h⟩|⟨h3,h⟩
 ·obtain rfl:=Qd h;exact rK Qf 3 [j3,j3,([],[],[(1,.val (jI (a1.length:Int)))]),j3] [some true] [.matC 0 2 3] [0,2] [2,3] .ret ((f46n0E a1 (.ret false 0 Qbz [])).2) (ap (Qn (xs:=a1) (c:=(cInt .u8))) (ap h3 an)) rfl
 ·obtain ⟨h7,h⟩:=Qp h;obtain ⟨x8,h9,h⟩:=Qc h;refine rN Qf 4 [j3,j3,([],[],[(1,.val (jI (a1.length:Int)))]),([],[(1,.cut (Int.toNat 4) (Int.toNat 8)),jH 2 (.pl (.int .u64 x8))],[(1,.val (.pl (.sl .any 1 (((a1.take (Int.toNat 8)).drop (Int.toNat 4)).map (cInt .u8)))))])] [some false] [] [0,1] [0,2,4] (mkS [(0,(.pl (.sl .any 1 (a1.map (cInt .u8))))),(2,(.bp 0 0)),(4,(.bp 1 0))],[some (.box 47 [(jI 0),(jS Qbz),(.pl (.sl .nil 0 []))]),some (.box 47 [(jI (wr64 x8)),(jS Qbz),(.pl (.sl .nil 0 []))])]) (ap (Qn (xs:=a1) (c:=(cInt .u8))) (ap h3 (ap (Qbn (c:=(cInt .u8)) h7) (ap (cut_hl_2 h7) (ap (cut_hl_3 h7) (ap (Qbk (c:=(cInt .u8)) h7) (ap (congrArg (fun l=>AV.pl (.sl .any 1 l)) (cut_cv (xs:=a1) (c:=(cInt .u8)) (n:=(Int.toNat 8)) (m:=(Int.toNat 4)))) (ap (f45_ok ((a1.take (Int.toNat 8)).drop (Int.toNat 4)) h9) an)))))))) ?_;obtain ⟨h13,h⟩:=Qp h
  obtain ⟨x14,h15,h⟩:=Qc h;rcases Qg h with ⟨h18,h⟩|⟨h18,h⟩
  ·rcases Qg h with ⟨h19,h⟩|⟨h19,h⟩
   ·obtain rfl:=Qd h;exact rK Qf 2 [([],[(1,.cut (Int.toNat 8) a1.length),jH 2 (.tup [(jS x14.1),(.pl (.sl .any 1 (x14.2.1.map (cInt .u8)))),(jB x14.2.2)])],[(1,.val (.pl (.sl .any 1 ((a1.drop (Int.toNat 8)).map (cInt .u8)))))]),(jF [3,4,5],[(6,.bool false)],[(4,.val (jI (x14.2.1.length:Int)))]),j3] [some true] [.matC 0 2 3] [0,2] [2,3] .ret ((f46n0E a1 (.ret false (wr64 x8) Qbz [])).2) (ap (Qco (c:=(cInt .u8)) h13) (ap (cut_nl_2 h13) (ap (cut_nl_3 h13) (ap (Qcm (c:=(cInt .u8)) h13) (ap (congrArg (fun l=>AV.pl (.sl .any 1 l)) (drop_cv (xs:=a1) (c:=(cInt .u8)) (m:=(Int.toNat 8)))) (ap (f62_ok (a1.drop (Int.toNat 8)) h15) (ap2 (Qq h18) (ap (Qn (xs:=x14.2.1) (c:=(cInt .u8))) (ap2 (Qq h18) (ap h19 an)))))))))) rfl
   ·refine rN Qf 2 [([],[(1,.cut (Int.toNat 8) a1.length),jH 2 (.tup [(jS x14.1),(.pl (.sl .any 1 (x14.2.1.map (cInt .u8)))),(jB x14.2.2)])],[(1,.val (.pl (.sl .any 1 ((a1.drop (Int.toNat 8)).map (cInt .u8)))))]),(jF [3,4,5],[(6,.bool false)],[(4,.val (jI (x14.2.1.length:Int)))])] [some false] [] [0,1] [2,4,5,6] (mkS [(2,(.bp 0 0)),(4,(.bp 1 0)),(5,(jS x14.1)),(6,(.pl (.sl .any 1 (x14.2.1.map (cInt .u8)))))],[some (.box 47 [(jI 0),(jS Qbz),(.pl (.sl .nil 0 []))]),some (.box 47 [(jI (wr64 x8)),(jS Qbz),(.pl (.sl .nil 0 []))])]) (ap (Qco (c:=(cInt .u8)) h13) (ap (cut_nl_2 h13) (ap (cut_nl_3 h13) (ap (Qcm (c:=(cInt .u8)) h13) (ap (congrArg (fun l=>AV.pl (.sl .any 1 l)) (drop_cv (xs:=a1) (c:=(cInt .u8)) (m:=(Int.toNat 8)))) (ap (f62_ok (a1.drop (Int.toNat 8)) h15) (ap2 (Qq h18) (ap (Qn (xs:=x14.2.1) (c:=(cInt .u8))) (ap2 (Qq h18) (ap h19 an)))))))))) ?_
    obtain ⟨x22,h23,h⟩:=Qc h;obtain ⟨h25,h⟩:=Qp h;refine rN Qf 3 [j3,([],[(1,.idx (Int.toNat 0) ((cInt .u8) x22))],[]),([],[(1,.cut (Int.toNat 1) x14.2.1.length)],[(1,.val (.pl (.sl .any 1 ((x14.2.1.drop (Int.toNat 1)).map (cInt .u8)))))])] [] [] [0,1] [2,4,6,8] (f46n1S x14 x22 x8) (ap (Qj h23).1 (ap (Qs (cInt .u8) (Qj h23).2) (ap (Qco (c:=(cInt .u8)) h25) (ap (cut_nl_2 h25) (ap (cut_nl_3 h25) (ap (Qcm (c:=(cInt .u8)) h25) (ap (congrArg (fun l=>AV.pl (.sl .any 1 l)) (drop_cv (xs:=x14.2.1) (c:=(cInt .u8)) (m:=(Int.toNat 1)))) an))))))) ?_;obtain ⟨o119,h120,h⟩:=Qc h;cases o119 with
    | norm v121 v122 =>
     refine T.oneN (by kernel_rfl) (f46n1_ok x14 x22 x8 h120) (st2:=(f46n1E x14 x22 x8 (.norm v121 v122)).2) rfl ?_;obtain rfl:=Qd h;exact rE Qf [([],[],[(2,.val (jI (v121.length:Int)))])] [] [] [0,2] [2,3] (.ret,(f46n0E a1 (.ret (decide ((v121.length:Int)=0)) (wr64 x8) x14.1 v122)).2) (ap (Qn (xs:=v121) (c:=(cInt .u8))) an) rfl
    | ret v123 =>
     obtain rfl:=Qd h;exact T.oneX' (by kernel_rfl) (f46n1_ok x14 x22 x8 h120) (tds:=[]) (m:=[0,1]) (keep:=[2,3]) (st2:=(f46n0E a1 (.ret false (wr64 x8) x14.1 v123)).2) (by kernel_rfl) an rfl rfl
  ·obtain rfl:=Qd h;exact rK Qf 2 [([],[(1,.cut (Int.toNat 8) a1.length),jH 2 (.tup [(jS x14.1),(.pl (.sl .any 1 (x14.2.1.map (cInt .u8)))),(jB x14.2.2)])],[(1,.val (.pl (.sl .any 1 ((a1.drop (Int.toNat 8)).map (cInt .u8)))))]),(jT [3,4,5],[(6,.bool true)],[]),j3] [none] [.matC 0 2 3] [0,2] [2,3] .ret ((f46n0E a1 (.ret false (wr64 x8) Qbz [])).2) (ap (Qco (c:=(cInt .u8)) h13) (ap (cut_nl_2 h13) (ap (cut_nl_3 h13) (ap (Qcm (c:=(cInt .u8)) h13) (ap (congrArg (fun l=>AV.pl (.sl .any 1 l)) (drop_cv (xs:=a1) (c:=(cInt .u8)) (m:=(Int.toNat 8)))) (ap (f62_ok (a1.drop (Int.toNat 8)) h15) (ap4 (Qac h18) an))))))) rfl
noncomputable def f46(a1:List Int):Option (Qa×Bool):=(f46n0 a1).bind fun o=>match o with
 | .ret v124 v125 v126 v127=>some ((Qa.mk v125 v126 v127),v124)
theorem f46_ok(a1:List Int){r:Qa×Bool}(h:f46 a1=some r):Qm Try.prog false 46 [(.pl (.sl .any 1 (a1.map (cInt .u8))))] [] (.tup [(jA Qa.cells r.1),(jB r.2)]) []:=by
 unfold f46 at h;obtain ⟨o,ho,h⟩:=Qc h;cases o with
 | ret v124 v125 v126 v127 =>
  obtain rfl:=Qd h;exact Qm.plain Qf (f:=Try.f46) (c:=c46) (by kernel_rfl) (by kernel_rfl) (by kernel_rfl) (by kernel_rfl) ((f46n0_ok a1 ho).mono fun r e=>by subst e; exact ⟨.inl rfl,(.tup [(.agg [(jI v125),(jS v126),(.own 1)]),(jB v124)]),(.tup [(.pl (.agg (Qa.cells (Qa.mk v125 v126 v127)))),(jB v124)]),by kernel_rfl,by kernel_rfl,((Wk.refl _):Wk (.tup [(.pl (.agg (Qa.cells (Qa.mk v125 v126 v127)))),(jB v124)]) (.tup [(.pl (.agg (Qa.cells (Qa.mk v125 v126 v127)))),(jB v124)]))⟩)

noncomputable def c17:Code:=Try.f17.body.getD .skip
inductive f17n2O where
 | norm (v322:List Qa)
def f17n2E(bk1:List Int)(bf2 bf3 bf4:Int)(br5:Qa×Bool)(bj6:List Qa):f17n2O→Ex×Tr×Hp
 | .norm v322=>(.norm,mkS [(0,(.pl (.sl .any 1 (bk1.map (cInt .u8))))),(2,(.bp 0 0)),(4,(.bp 1 0)),(5,(jI bf2)),(7,(.pl (.int .u64 bf3))),(9,(.pl (.int .u64 bf4))),(12,(.bp 2 0))],[some (.box 24 [(.pl (.sl .nil 0 []))]),some (.box 24 [(.own 3)]),some (.box 24 [(.own 4)]),jR 3 Qa.cells bj6,jR 3 Qa.cells v322])
def f17n2S(bk1:List Int)(bf2 bf3 bf4:Int)(br5:Qa×Bool)(bj6:List Qa):Tr×Hp:=(mkS [(0,(.pl (.sl .any 1 (bk1.map (cInt .u8))))),(2,(.bp 0 0)),(4,(.bp 1 0)),(5,(jI bf2)),(7,(.pl (.int .u64 bf3))),(9,(.pl (.int .u64 bf4))),(10,(.bp 2 0))],[some (.box 24 [(.pl (.sl .nil 0 []))]),some (.box 24 [(.own 3)]),some (.box 47 ((Qa.cells br5.1).map .pl)),jR 3 Qa.cells bj6])
noncomputable def f17n2(bk1:List Int)(bf2 bf3 bf4:Int)(br5:Qa×Bool)(bj6:List Qa):Option f17n2O :=
 bif (bj6.isEmpty) then
  some (.norm [br5.1])
 else
  req (fit bj6.length 48) <|
  req (fit (bj6.length+1) 48) <|
  some (.norm (bj6++[br5.1]))
theorem f17n2_ok(bk1:List Int)(bf2 bf3 bf4:Int)(br5:Qa×Bool)(bj6:List Qa){o:f17n2O}(h:f17n2 bk1 bf2 bf3 bf4 br5 bj6=some o):T Try.prog Try.f17.ntmps 0 (cL (Qk 0 (Qk 2 (Qk 2 (Qk 2 (cL (Qk 1 (cL (cL (cL (Qk 4 c17))))))))))) (f17n2S bk1 bf2 bf3 bf4 br5 bj6) (·=f17n2E bk1 bf2 bf3 bf4 br5 bj6 o):=by
 unfold f17n2 at h;rcases Qg h with ⟨h319,h⟩|⟨h319,h⟩
 ·obtain rfl:=Qd h;exact rE Qf [([],[(3,.app false),(6,.fits)],[])] [] [] [0,1,8,3,7] [0,2,4,5,7,9,12] (.norm,(f17n2E bk1 bf2 bf3 bf4 br5 bj6 (.norm [br5.1])).2) (ap (Qbc (c:=Qa.cells) h319) (ap (rfl:Qbg 1 ti47=true) an)) rfl
 ·obtain ⟨h320,h⟩:=Qp h;obtain ⟨h321,h⟩:=Qp h;obtain rfl:=Qd h;exact rE Qf [([],[(3,.app true),(6,.fits)],[(6,.row 7 ((bj6++[br5.1]).map Qa.cells))])] [] [] [0,1,8,3,7] [0,2,4,5,7,9,12] (.norm,(f17n2E bk1 bf2 bf3 bf4 br5 bj6 (.norm (bj6++[br5.1]))).2) (ap (fit_map0z (te:=ti47) (xs:=bj6) (c:=Qa.cells) h320 rfl) (ap (Qcf (c:=Qa.cells) h319) (ap (Qbd (c:=Qa.cells) (xs:=bj6) (n:=3) (fun _=>rfl)) (ap (Qbq (te:=ti47) (xs:=bj6) (n:=1) (c:=Qa.cells) h321 rfl) (ap (Qap (xs:=bj6) (ys:=[br5.1]) (c:=Qa.cells)) an))))) rfl
inductive f17n1O where
 | norm (v332:Int) (v333:Int) (v334:List Qa)
 | ret
def f17n1E(bk1:List Int)(bf2 bf3:Int)(bj4:List Qa):f17n1O→Ex×Tr×Hp
 | .norm v332 v333 v334=>(.norm,mkS [(0,(.pl (.sl .any 1 (bk1.map (cInt .u8))))),(2,(.bp 0 0)),(4,(.bp 1 0)),(5,(jI v332)),(6,(.pl (.int .u64 v333)))],[some (.box 24 [(.pl (.sl .nil 0 []))]),some (.box 24 [(.own 2)]),jR 3 Qa.cells v334])
 | .ret=>(.ret,mkS [(2,(.bp 0 0)),(3,(jI bf2))],[some (.box 24 [(.own 1)]),jR 3 Qa.cells bj4])
def f17n1S(bk1:List Int)(bf2 bf3:Int)(bj4:List Qa):Tr×Hp:=(mkS [(0,(.pl (.sl .any 1 (bk1.map (cInt .u8))))),(2,(.bp 0 0)),(4,(.bp 1 0)),(5,(jI bf2)),(6,(.pl (.int .u64 bf3)))],[some (.box 24 [(.pl (.sl .nil 0 []))]),some (.box 24 [(.own 2)]),jR 3 Qa.cells bj4])
noncomputable def f17n1(bk1:List Int)(bf2 bf3:Int)(bj4:List Qa):Option f17n1O :=
 req (cutB bf2 (wr64 (bf2+4)) bk1.length) <|
 (f45 ((bk1.take (Int.toNat (wr64 (bf2+4)))).drop (Int.toNat bf2))).bind fun x229 =>
 bif (decide ((Qu (wr64 ((wr64 ((bk1.length:Int)-bf2))-12)))<x229)) then
  some .ret
 else
  req (cutB (wr64 (bf2+4)) (wr64 ((wr64 (bf2+4))+(wr64 x229))) bk1.length) <|
  (f21r2 bf3 ((bk1.take (Int.toNat (wr64 ((wr64 (bf2+4))+(wr64 x229))))).drop (Int.toNat (wr64 (bf2+4))))).bind fun x260 =>
  (f46 ((bk1.take (Int.toNat (wr64 ((wr64 (bf2+4))+(wr64 x229))))).drop (Int.toNat (wr64 (bf2+4))))).bind fun x284 =>
  bif x284.2 then
   req (cutB 0 4 ((bk1.take (Int.toNat (wr64 ((wr64 (bf2+4))+(wr64 x229))))).drop (Int.toNat (wr64 (bf2+4)))).length) <|
   (f45 ((((bk1.take (Int.toNat (wr64 ((wr64 (bf2+4))+(wr64 x229))))).drop (Int.toNat (wr64 (bf2+4)))).take (Int.toNat 4)).drop 0)).bind fun x297 =>
   bif (decide (x297=(Qu (wr64 ((bj4.length:Int)+1))))) then
    req (cutB (wr64 ((wr64 (bf2+4))+(wr64 x229))) (wr64 ((wr64 (bf2+12))+(wr64 x229))) bk1.length) <|
    (f45 ((bk1.take (Int.toNat (wr64 ((wr64 (bf2+12))+(wr64 x229))))).drop (Int.toNat (wr64 ((wr64 (bf2+4))+(wr64 x229)))))).bind fun x301 =>
    bif decide (x301=x260) then
     (f17n2 bk1 bf2 x229 x260 x284 bj4).bind fun o323=>match o323 with
     | .norm v325=>(f35 (Qh.mk v325)).bind fun x329 =>
      bif decide (x329=0) then
       some (.norm (wr64 ((wr64 (bf2+12))+(wr64 x229))) x260 v325)
      else
       some .ret
    else
     some .ret
   else
    some .ret
  else
   some .ret
theorem f17n1_ok(bk1:List Int)(bf2 bf3:Int)(bj4:List Qa){o:f17n1O}(h:f17n1 bk1 bf2 bf3 bj4=some o):T Try.prog Try.f17.ntmps 0 (Qk 1 (cL (cL (cL (Qk 4 c17))))) (f17n1S bk1 bf2 bf3 bj4) (·=f17n1E bk1 bf2 bf3 bj4 o):=by
 unfold f17n1 at h;refine T.block' (i:=1) (by kernel_rfl) ?_;obtain ⟨h228,h⟩:=Qp h;obtain ⟨x229,h230,h⟩:=Qc h;rcases Qg h with ⟨h232,h⟩|⟨h232,h⟩
 ·obtain rfl:=Qd h;exact rK Qf 2 [([],[(4,.cut (Int.toNat bf2) (Int.toNat (wr64 (bf2+4)))),jH 5 (.pl (.int .u64 x229))],[(4,.val (.pl (.sl .any 1 (((bk1.take (Int.toNat (wr64 (bf2+4)))).drop (Int.toNat bf2)).map (cInt .u8)))))]),([],[],[(2,.val (jI (bk1.length:Int)))]),j3] [some true] [] [0,2] [2,3] .ret ((f17n1E bk1 bf2 bf3 bj4 .ret).2) (ap (Qbn (c:=(cInt .u8)) h228) (ap (cut_hl_2 h228) (ap (cut_hl_3 h228) (ap (Qbk (c:=(cInt .u8)) h228) (ap (congrArg (fun l=>AV.pl (.sl .any 1 l)) (cut_cv (xs:=bk1) (c:=(cInt .u8)) (n:=(Int.toNat (wr64 (bf2+4)))) (m:=(Int.toNat bf2)))) (ap (f45_ok ((bk1.take (Int.toNat (wr64 (bf2+4)))).drop (Int.toNat bf2)) h230) (ap (Qn (xs:=bk1) (c:=(cInt .u8))) (ap h232 an)))))))) rfl
 ·refine rN Qf 2 [([],[(4,.cut (Int.toNat bf2) (Int.toNat (wr64 (bf2+4)))),jH 5 (.pl (.int .u64 x229))],[(4,.val (.pl (.sl .any 1 (((bk1.take (Int.toNat (wr64 (bf2+4)))).drop (Int.toNat bf2)).map (cInt .u8)))))]),([],[],[(2,.val (jI (bk1.length:Int)))])] [some false] [] [0,1,2] [0,2,4,5,6,7] (mkS [(0,(.pl (.sl .any 1 (bk1.map (cInt .u8))))),(2,(.bp 0 0)),(4,(.bp 1 0)),(5,(jI bf2)),(6,(.pl (.int .u64 bf3))),(7,(.pl (.int .u64 x229)))],[some (.box 24 [(.pl (.sl .nil 0 []))]),some (.box 24 [(.own 2)]),jR 3 Qa.cells bj4]) (ap (Qbn (c:=(cInt .u8)) h228) (ap (cut_hl_2 h228) (ap (cut_hl_3 h228) (ap (Qbk (c:=(cInt .u8)) h228) (ap (congrArg (fun l=>AV.pl (.sl .any 1 l)) (cut_cv (xs:=bk1) (c:=(cInt .u8)) (n:=(Int.toNat (wr64 (bf2+4)))) (m:=(Int.toNat bf2)))) (ap (f45_ok ((bk1.take (Int.toNat (wr64 (bf2+4)))).drop (Int.toNat bf2)) h230) (ap (Qn (xs:=bk1) (c:=(cInt .u8))) (ap h232 an)))))))) ?_
  obtain ⟨h257,h⟩:=Qp h;obtain ⟨x260,h261,h⟩:=Qc h
  refine rN Qf 2 [([],[(8,.cut (Int.toNat (wr64 (bf2+4))) (Int.toNat (wr64 ((wr64 (bf2+4))+(wr64 x229)))))],[(8,.val (.pl (.sl .any 1 (((bk1.take (Int.toNat (wr64 ((wr64 (bf2+4))+(wr64 x229))))).drop (Int.toNat (wr64 (bf2+4)))).map (cInt .u8)))))]),([],[(2,.call (.pl (.int .u64 x260)) [none,none,none])],[])] [] [] [0,1,2] [0,2,4,5,7,8,9] (mkS [(0,(.pl (.sl .any 1 (bk1.map (cInt .u8))))),(2,(.bp 0 0)),(4,(.bp 1 0)),(5,(jI bf2)),(7,(.pl (.int .u64 x229))),(8,(.pl (.sl .any 1 (((bk1.take (Int.toNat (wr64 ((wr64 (bf2+4))+(wr64 x229))))).drop (Int.toNat (wr64 (bf2+4)))).map (cInt .u8))))),(9,(.pl (.int .u64 x260)))],[some (.box 24 [(.pl (.sl .nil 0 []))]),some (.box 24 [(.own 2)]),jR 3 Qa.cells bj4]) (ap (Qbn (c:=(cInt .u8)) h257) (ap (cut_hl_2 h257) (ap (cut_hl_3 h257) (ap (Qbk (c:=(cInt .u8)) h257) (ap (congrArg (fun l=>AV.pl (.sl .any 1 l)) (cut_cv (xs:=bk1) (c:=(cInt .u8)) (n:=(Int.toNat (wr64 ((wr64 (bf2+4))+(wr64 x229))))) (m:=(Int.toNat (wr64 (bf2+4)))))) (ap (Qm.rn 3 [] (f21r2_ok bf3 ((bk1.take (Int.toNat (wr64 ((wr64 (bf2+4))+(wr64 x229))))).drop (Int.toNat (wr64 (bf2+4)))) h261)) an)))))) ?_
  obtain ⟨x284,h285,h⟩:=Qc h;rcases Qg h with ⟨h295,h⟩|⟨h295,h⟩
  ·obtain ⟨h296,h⟩:=Qp h;obtain ⟨x297,h298,h⟩:=Qc h;rcases Qg h with ⟨h299,h⟩|⟨h299,h⟩
   ·obtain ⟨h300,h⟩:=Qp h;obtain ⟨x301,h302,h⟩:=Qc h;rcases Qg h with ⟨h303,h⟩|⟨h303,h⟩
    ·refine rN Qf 2 [([],[jH 1 (.tup [(jA Qa.cells x284.1),(jB x284.2)])],[]),(jF [3,4,5,6,7,8,9,10,11,14,15,16,17,18,19,20,21,22,23,24,25,26,27,28],[(4,.cut 0 (Int.toNat 4)),jH 5 (.pl (.int .u64 x297)),(12,.bool false),(25,.cut (Int.toNat (wr64 ((wr64 (bf2+4))+(wr64 x229)))) (Int.toNat (wr64 ((wr64 (bf2+12))+(wr64 x229))))),jH 26 (.pl (.int .u64 x301)),(29,.bool false)],[(4,.val (.pl (.sl .any 1 (((((bk1.take (Int.toNat (wr64 ((wr64 (bf2+4))+(wr64 x229))))).drop (Int.toNat (wr64 (bf2+4)))).take (Int.toNat 4)).drop 0).map (cInt .u8))))),(8,.val (jI (bj4.length:Int))),(25,.val (.pl (.sl .any 1 (((bk1.take (Int.toNat (wr64 ((wr64 (bf2+12))+(wr64 x229))))).drop (Int.toNat (wr64 ((wr64 (bf2+4))+(wr64 x229))))).map (cInt .u8)))))])] [some false] [] [0,1,3,2] [0,2,4,5,7,9,10] (mkS [(0,(.pl (.sl .any 1 (bk1.map (cInt .u8))))),(2,(.bp 0 0)),(4,(.bp 1 0)),(5,(jI bf2)),(7,(.pl (.int .u64 x229))),(9,(.pl (.int .u64 x260))),(10,(.bp 2 0))],[some (.box 24 [(.pl (.sl .nil 0 []))]),some (.box 24 [(.own 3)]),some (.box 47 ((Qa.cells x284.1).map .pl)),jR 3 Qa.cells bj4]) (ap (f46_ok ((bk1.take (Int.toNat (wr64 ((wr64 (bf2+4))+(wr64 x229))))).drop (Int.toNat (wr64 (bf2+4)))) h285) (ap2 (Qq h295) (ap (Qba (c:=(cInt .u8)) h296) (ap (cut_hn_2 h296) (ap (cut_hn_3 h296) (ap (Qaz (c:=(cInt .u8)) h296) (ap (congrArg (fun l=>AV.pl (.sl .any 1 l)) (cut_cv (xs:=((bk1.take (Int.toNat (wr64 ((wr64 (bf2+4))+(wr64 x229))))).drop (Int.toNat (wr64 (bf2+4))))) (c:=(cInt .u8)) (n:=(Int.toNat 4)) (m:=0))) (ap4 (Qq h295) (ap (Qn (xs:=bj4) (c:=Qa.cells)) (ap4 (Qq h295) (ap4 (Qq h299) (ap4 (Qq h299) (ap4 (Qq h299) (ap (Qbn (c:=(cInt .u8)) h300) (ap (cut_hl_2 h300) (ap (cut_hl_3 h300) (ap (Qbk (c:=(cInt .u8)) h300) (ap (congrArg (fun l=>AV.pl (.sl .any 1 l)) (cut_cv (xs:=bk1) (c:=(cInt .u8)) (n:=(Int.toNat (wr64 ((wr64 (bf2+12))+(wr64 x229))))) (m:=(Int.toNat (wr64 ((wr64 (bf2+4))+(wr64 x229))))))) (ap4 (Qq h299) (ap (same_val (e:=⟨false,45,[(.pl (.sl .any 1 (((((bk1.take (Int.toNat (wr64 ((wr64 (bf2+4))+(wr64 x229))))).drop (Int.toNat (wr64 (bf2+4)))).take (Int.toNat 4)).drop 0).map (cInt .u8))))],[],(.pl (.int .u64 x297)),[]⟩) (f:=⟨false,45,[(.pl (.sl .any 1 (((bk1.take (Int.toNat (wr64 ((wr64 (bf2+12))+(wr64 x229))))).drop (Int.toNat (wr64 ((wr64 (bf2+4))+(wr64 x229))))).map (cInt .u8))))],[],(.pl (.int .u64 x301)),[]⟩) (fun k=>by simp only [jL,jS,jI,jB,jA,Qb.cells_eq,Qb.map_eq,Qa.cells_eq,Qa.map_eq,Qh.cells_eq,Qh.map_eq,Qe.cells_eq,Qe.map_eq,List.cons.injEq,AV.pl.injEq,PV.str.injEq,PV.int.injEq,PV.bool.injEq,PV.agg.injEq,PV.sl.injEq,and_true,true_and] at k; have e0:x297=x301:=Option.some.inj (by rw [←h298,←h302]; first | exact congrArg _ k | (obtain ⟨k1,_⟩:=k; simp only [k1]; done) | (have k1:=cInt_inj k; simp only [k1]; done) | simp only [k]); exact ⟨by rw [e0],rfl⟩)) (ap (f45_ok ((((bk1.take (Int.toNat (wr64 ((wr64 (bf2+4))+(wr64 x229))))).drop (Int.toNat (wr64 (bf2+4)))).take (Int.toNat 4)).drop 0) h298) (ap (f45_ok ((bk1.take (Int.toNat (wr64 ((wr64 (bf2+12))+(wr64 x229))))).drop (Int.toNat (wr64 ((wr64 (bf2+4))+(wr64 x229))))) h302) (ap (Qq h303) an))))))))))))))))))))))) ?_
     refine rN Qf 0 [] [] [] [0,1,2,3] [0,2,4,5,7,9,10] (f17n2S bk1 bf2 x229 x260 x284 bj4) an ?_;obtain ⟨o323,h324,h⟩:=Qc h;cases o323 with
     | norm v325 =>
      refine T.oneN (by kernel_rfl) (f17n2_ok bk1 bf2 x229 x260 x284 bj4 h324) (st2:=(f17n2E bk1 bf2 x229 x260 x284 bj4 (.norm v325)).2) rfl ?_;obtain ⟨x329,h330,h⟩:=Qc h;rcases Qg h with ⟨h331,h⟩|⟨h331,h⟩
      ·obtain rfl:=Qd h;exact rE Qf [([],[jH 1 (jI x329)],[]),j3,j3,j3] [some false] [] [0,1,4] [0,2,4,5,6] (.norm,(f17n1E bk1 bf2 bf3 bj4 (.norm (wr64 ((wr64 (bf2+12))+(wr64 x229))) x260 v325)).2) (ap (f35_ok (Qh.mk v325) h330) (ap (Qq h331) an)) rfl
      ·obtain rfl:=Qd h;exact rK Qf 1 [([],[jH 1 (jI x329)],[]),j3] [some true] [] [0,3] [2,3] .ret ((f17n1E bk1 bf2 bf3 bj4 .ret).2) (ap (f35_ok (Qh.mk v325) h330) (ap (Qac h331) an)) rfl
    ·obtain rfl:=Qd h
     exact rK Qf 2 [([],[jH 1 (.tup [(jA Qa.cells x284.1),(jB x284.2)])],[]),(jF [3,4,5,6,7,8,9,10,11,14,15,16,17,18,19,20,21,22,23,24,25,26,27,28],[(4,.cut 0 (Int.toNat 4)),jH 5 (.pl (.int .u64 x297)),(12,.bool false),(25,.cut (Int.toNat (wr64 ((wr64 (bf2+4))+(wr64 x229)))) (Int.toNat (wr64 ((wr64 (bf2+12))+(wr64 x229))))),jH 26 (.pl (.int .u64 x301)),(29,.bool false)],[(4,.val (.pl (.sl .any 1 (((((bk1.take (Int.toNat (wr64 ((wr64 (bf2+4))+(wr64 x229))))).drop (Int.toNat (wr64 (bf2+4)))).take (Int.toNat 4)).drop 0).map (cInt .u8))))),(8,.val (jI (bj4.length:Int))),(25,.val (.pl (.sl .any 1 (((bk1.take (Int.toNat (wr64 ((wr64 (bf2+12))+(wr64 x229))))).drop (Int.toNat (wr64 ((wr64 (bf2+4))+(wr64 x229))))).map (cInt .u8)))))]),j3] [some true] [] [0,2] [2,3] .ret ((f17n1E bk1 bf2 bf3 bj4 .ret).2) (ap (f46_ok ((bk1.take (Int.toNat (wr64 ((wr64 (bf2+4))+(wr64 x229))))).drop (Int.toNat (wr64 (bf2+4)))) h285) (ap2 (Qq h295) (ap (Qba (c:=(cInt .u8)) h296) (ap (cut_hn_2 h296) (ap (cut_hn_3 h296) (ap (Qaz (c:=(cInt .u8)) h296) (ap (congrArg (fun l=>AV.pl (.sl .any 1 l)) (cut_cv (xs:=((bk1.take (Int.toNat (wr64 ((wr64 (bf2+4))+(wr64 x229))))).drop (Int.toNat (wr64 (bf2+4))))) (c:=(cInt .u8)) (n:=(Int.toNat 4)) (m:=0))) (ap4 (Qq h295) (ap (Qn (xs:=bj4) (c:=Qa.cells)) (ap4 (Qq h295) (ap4 (Qq h299) (ap4 (Qq h299) (ap4 (Qq h299) (ap (Qbn (c:=(cInt .u8)) h300) (ap (cut_hl_2 h300) (ap (cut_hl_3 h300) (ap (Qbk (c:=(cInt .u8)) h300) (ap (congrArg (fun l=>AV.pl (.sl .any 1 l)) (cut_cv (xs:=bk1) (c:=(cInt .u8)) (n:=(Int.toNat (wr64 ((wr64 (bf2+12))+(wr64 x229))))) (m:=(Int.toNat (wr64 ((wr64 (bf2+4))+(wr64 x229))))))) (ap4 (Qq h299) (ap (same_val (e:=⟨false,45,[(.pl (.sl .any 1 (((((bk1.take (Int.toNat (wr64 ((wr64 (bf2+4))+(wr64 x229))))).drop (Int.toNat (wr64 (bf2+4)))).take (Int.toNat 4)).drop 0).map (cInt .u8))))],[],(.pl (.int .u64 x297)),[]⟩) (f:=⟨false,45,[(.pl (.sl .any 1 (((bk1.take (Int.toNat (wr64 ((wr64 (bf2+12))+(wr64 x229))))).drop (Int.toNat (wr64 ((wr64 (bf2+4))+(wr64 x229))))).map (cInt .u8))))],[],(.pl (.int .u64 x301)),[]⟩) (fun k=>by simp only [jL,jS,jI,jB,jA,Qb.cells_eq,Qb.map_eq,Qa.cells_eq,Qa.map_eq,Qh.cells_eq,Qh.map_eq,Qe.cells_eq,Qe.map_eq,List.cons.injEq,AV.pl.injEq,PV.str.injEq,PV.int.injEq,PV.bool.injEq,PV.agg.injEq,PV.sl.injEq,and_true,true_and] at k; have e0:x297=x301:=Option.some.inj (by rw [←h298,←h302]; first | exact congrArg _ k | (obtain ⟨k1,_⟩:=k; simp only [k1]; done) | (have k1:=cInt_inj k; simp only [k1]; done) | simp only [k]); exact ⟨by rw [e0],rfl⟩)) (ap (f45_ok ((((bk1.take (Int.toNat (wr64 ((wr64 (bf2+4))+(wr64 x229))))).drop (Int.toNat (wr64 (bf2+4)))).take (Int.toNat 4)).drop 0) h298) (ap (f45_ok ((bk1.take (Int.toNat (wr64 ((wr64 (bf2+12))+(wr64 x229))))).drop (Int.toNat (wr64 ((wr64 (bf2+4))+(wr64 x229))))) h302) (ap (Qac h303) an))))))))))))))))))))))) rfl
   ·obtain rfl:=Qd h
    exact rK Qf 2 [([],[jH 1 (.tup [(jA Qa.cells x284.1),(jB x284.2)])],[]),(jF [3,4,5,6,7,8,9,10,11]++jT [14,15,16,17,18,19,20,21,22,23,24,25,26,27,28],[(4,.cut 0 (Int.toNat 4)),jH 5 (.pl (.int .u64 x297)),(12,.bool false),(29,.bool true)],[(4,.val (.pl (.sl .any 1 (((((bk1.take (Int.toNat (wr64 ((wr64 (bf2+4))+(wr64 x229))))).drop (Int.toNat (wr64 (bf2+4)))).take (Int.toNat 4)).drop 0).map (cInt .u8))))),(8,.val (jI (bj4.length:Int)))]),j3] [none] [] [0,2] [2,3] .ret ((f17n1E bk1 bf2 bf3 bj4 .ret).2) (ap (f46_ok ((bk1.take (Int.toNat (wr64 ((wr64 (bf2+4))+(wr64 x229))))).drop (Int.toNat (wr64 (bf2+4)))) h285) (ap2 (Qq h295) (ap (Qba (c:=(cInt .u8)) h296) (ap (cut_hn_2 h296) (ap (cut_hn_3 h296) (ap (Qaz (c:=(cInt .u8)) h296) (ap (congrArg (fun l=>AV.pl (.sl .any 1 l)) (cut_cv (xs:=((bk1.take (Int.toNat (wr64 ((wr64 (bf2+4))+(wr64 x229))))).drop (Int.toNat (wr64 (bf2+4))))) (c:=(cInt .u8)) (n:=(Int.toNat 4)) (m:=0))) (ap4 (Qq h295) (ap (Qn (xs:=bj4) (c:=Qa.cells)) (ap4 (Qq h295) (ap4 (Qac h299) (ap4 (Qac h299) (ap4 (Qac h299) (ap4 (Qac h299) (ap (f45_ok ((((bk1.take (Int.toNat (wr64 ((wr64 (bf2+4))+(wr64 x229))))).drop (Int.toNat (wr64 (bf2+4)))).take (Int.toNat 4)).drop 0) h298) an))))))))))))))) rfl
  ·obtain rfl:=Qd h;exact rK Qf 2 [([],[jH 1 (.tup [(jA Qa.cells x284.1),(jB x284.2)])],[]),(jT [3,4,5,6,7,8,9,10,11],[(12,.bool true)],[]),j3] [none] [] [0,2] [2,3] .ret ((f17n1E bk1 bf2 bf3 bj4 .ret).2) (ap (f46_ok ((bk1.take (Int.toNat (wr64 ((wr64 (bf2+4))+(wr64 x229))))).drop (Int.toNat (wr64 (bf2+4)))) h285) (ap2 (Qac h295) (ap4 (Qac h295) (ap4 (Qac h295) an)))) rfl
inductive f17n3O where
 | exit0 (v340:Int) (v341:List Qa)
 | ret (v342:Int) (v343:List Qa)
def f17n3E(a1:List Int):f17n3O→Ex×Tr×Hp
 | .exit0 v340 v341=>((.exit 0),mkS [(2,(.bp 0 0)),(4,(.bp 1 0)),(5,(jI v340))],[some (.box 24 [(.pl (.sl .nil 0 []))]),some (.box 24 [(.own 2)]),jR 3 Qa.cells v341])
 | .ret v342 v343=>(.ret,mkS [(2,(.bp 0 0)),(3,(jI v342))],[some (.box 24 [(.own 1)]),jR 3 Qa.cells v343])
def f17n3S(a1:List Int)(v193 v194:Int)(v195:List Qa):Tr×Hp:=(mkS [(0,(.pl (.sl .any 1 (a1.map (cInt .u8))))),(2,(.bp 0 0)),(4,(.bp 1 0)),(5,(jI v193)),(6,(.pl (.int .u64 v194)))],[some (.box 24 [(.pl (.sl .nil 0 []))]),some (.box 24 [(.own 2)]),jR 3 Qa.cells v195])
noncomputable def f17n3:Nat→List Int→Int→Int→List Qa→Option f17n3O
 | 0,_,_,_,_=>none
 | f+1,a1,v193,v194,v195 =>
  bif (decide (12≤(wr64 ((a1.length:Int)-v193)))) then
   (f17n1 a1 v193 v194 v195).bind fun o335=>match o335 with
   | .norm v337 v338 v339=>(f17n3 f a1 v337 v338 v339)
   | .ret=>some (.ret v193 v195)
  else
   some (.exit0 v193 v195)
theorem f17n3_ok:∀(f:Nat)(a1:List Int)(v193 v194:Int)(v195:List Qa){o:f17n3O},f17n3 f a1 v193 v194 v195=some o→TL Try.prog Try.f17.ntmps 0 f (cL (cL (cL (Qk 4 c17)))) (f17n3S a1 v193 v194 v195) (·=f17n3E a1 o)
 | 0,_,_,_,_,o,h=>by rw [f17n3] at h; cases h
 | f+1,a1,v193,v194,v195,o,h=>by
  rw [f17n3] at h;refine TL.body (K:=fun s=>∃v193:Int,∃v194:Int,∃v195:List Qa,s=(f17n3S a1 v193 v194 v195)∧f17n3 f a1 v193 v194 v195=some o) ?_ (by rintro _ ⟨v193,v194,v195,rfl,hk⟩; exact f17n3_ok f _ _ _ _ hk);rcases Qg h with ⟨h197,h⟩|⟨h197,h⟩
  ·refine rN Qf 1 [([],[],[(1,.val (jI (a1.length:Int)))])] [some true] [] [0,1,2] [0,2,4,5,6] (f17n1S a1 v193 v194 v195) (ap (Qn (xs:=a1) (c:=(cInt .u8))) (ap h197 an)) ?_;obtain ⟨o335,h336,h⟩:=Qc h;cases o335 with
   | norm v337 v338 v339 =>
    exact T.last' (f17n1_ok a1 v193 v194 v195 h336) (tds:=[]) (m:=[0,1,2]) (keep:=[0,2,4,5,6]) (st2:=(f17n3S a1 v337 v338 v339)) (by kernel_rfl) an (Qt.norm ⟨v337,v338,v339,rfl,h⟩)
   | ret =>
    obtain rfl:=Qd h;exact T.last' (f17n1_ok a1 v193 v194 v195 h336) (tds:=[]) (m:=[0,1]) (keep:=[2,3]) (st2:=(f17n3E a1 (.ret v193 v195)).2) (by kernel_rfl) an (Qt.out rfl rfl)
  ·obtain rfl:=Qd h;exact rK Qf 1 [([],[],[(1,.val (jI (a1.length:Int)))])] [some false] [] [0,1,2] [2,4,5] (.exit 0) ((f17n3E a1 (.exit0 v193 v195)).2) (ap (Qn (xs:=a1) (c:=(cInt .u8))) (ap h197 an)) (Qt.out rfl rfl)
inductive f17n0O where
 | ret (v350:Int) (v351:List Qa)
def f17n0E(a1:List Int):f17n0O→Ex×Tr×Hp
 | .ret v350 v351=>(.ret,mkS [(2,(.bp 0 0)),(3,(jI v350))],[some (.box 24 [(.own 1)]),jR 3 Qa.cells v351])
def f17n0S(a1:List Int):Tr×Hp:=(Qai [(.pl (.sl .any 1 (a1.map (cInt .u8))))] 0 .leaf,[])
noncomputable def f17n0(a1:List Int):Option f17n0O :=
 (f17n3 FUEL a1 0 0 []).bind fun o344=>match o344 with
 | .exit0 v346 v347=>some (.ret v346 v347)
 | .ret v348 v349=>some (.ret v348 v349)
theorem f17n0_ok(a1:List Int){o:f17n0O}(h:f17n0 a1=some o):T Try.prog Try.f17.ntmps 0 c17 (f17n0S a1) (·=f17n0E a1 o):=by
 unfold f17n0 at h;refine rN Qf 4 [j3,j3,j3,j3] [] [.matC 1 0 3] [0,1,2] [0,2,4,5,6] (f17n3S a1 0 0 []) an ?_;obtain ⟨o344,h345,h⟩:=Qc h;cases o344 with
 | exit0 v346 v347 =>
  refine T.oneN (by kernel_rfl) (T.bl (i:=0) (by kernel_rfl) (by kernel_rfl) (f17n3_ok FUEL a1 0 0 [] h345)) (st2:=(f17n3E a1 (.exit0 v346 v347)).2) rfl ?_;obtain rfl:=Qd h;exact rE Qf [j3] [] [] [0,2] [2,3] (.ret,(f17n0E a1 (.ret v346 v347)).2) an rfl
 | ret v348 v349 =>
  obtain rfl:=Qd h;exact T.oneX' (by kernel_rfl) (T.bl (i:=0) (by kernel_rfl) (by kernel_rfl) (f17n3_ok FUEL a1 0 0 [] h345)) (tds:=[]) (m:=[0,1]) (keep:=[2,3]) (st2:=(f17n0E a1 (.ret v348 v349)).2) (by kernel_rfl) an rfl rfl
noncomputable def f17(a1:List Int):Option (Qh×Int):=(f17n0 a1).bind fun o=>match o with
 | .ret v350 v351=>some ((Qh.mk v351),v350)
theorem f17_ok(a1:List Int){r:Qh×Int}(h:f17 a1=some r):Qm Try.prog false 17 [(.pl (.sl .any 1 (a1.map (cInt .u8))))] [] (.tup [(jA Qh.cells r.1),(jI r.2)]) []:=by
 unfold f17 at h;obtain ⟨o,ho,h⟩:=Qc h;cases o with
 | ret v350 v351 =>
  obtain rfl:=Qd h;exact Qm.plain Qf (f:=Try.f17) (c:=c17) (by kernel_rfl) (by kernel_rfl) (by kernel_rfl) (by kernel_rfl) ((f17n0_ok a1 ho).mono fun r e=>by subst e; exact ⟨.inl rfl,(.tup [(.agg [(.own 1)]),(jI v350)]),(.tup [(.pl (.agg (Qh.cells (Qh.mk v351)))),(jI v350)]),by kernel_rfl,by kernel_rfl,((Wk.refl _):Wk (.tup [(.pl (.agg (Qh.cells (Qh.mk v351)))),(jI v350)]) (.tup [(.pl (.agg (Qh.cells (Qh.mk v351)))),(jI v350)]))⟩)
end Go.Proofs.Ytbgjlpdeoljmiaa
namespace Go.Proofs.Ytbgjlpdeoljmiaa
set_option linter.unusedVariables false
set_option linter.unusedSimpArgs false
set_option maxRecDepth 100000
open Go.RowKit
theorem touch_cells(xs:List Qa):TouchOK (xs.map Qa.cells):=fun e he=>by
 obtain ⟨x,_,rfl⟩:=List.mem_map.1 he;exact ⟨x.Day,x.Text,_,rfl,fun l hl=>by
  obtain ⟨y,_,rfl⟩:=List.mem_map.1 hl;exact ⟨_,_,_,rfl⟩⟩
def tch22(p1:List Qa):Option Unit:=some ()
theorem tch22_ok(p1:List Qa){r:Unit}(h:tch22 p1=some r):Qm Try.prog true 22 [.agg [.own 0]] [some (.drow 3 (p1.map Qa.cells))] (.tup []) [none]:=touch_call (touch_cells p1)


noncomputable def c3:Code:=Try.f3.body.getD .skip
inductive f3n1O where
 | norm (v24:List Int)
def f3n1E(bk1:List Int)(bf2:Int)(bo3:Bool)(ba4:Qh):f3n1O→Ex×Tr×Hp
 | .norm v24=>(.norm,mkS [(1,(.pl (.sl .any 1 (bk1.map (cInt .u8))))),(2,(.pl (.int .u64 bf2))),(3,(.bp 0 0)),(7,(jB bo3)),(8,(.pl (.sl .any 1 (v24.map (cInt .u8)))))],[some (.box 24 ((Qh.cells ba4).map .pl))])
def f3n1S(bk1:List Int)(bf2:Int)(bo3:Bool)(ba4:Qh):Tr×Hp:=(mkS [(1,(.pl (.sl .any 1 (bk1.map (cInt .u8))))),(2,(.pl (.int .u64 bf2))),(3,(.bp 0 0)),(7,(jB bo3))],[some (.box 24 ((Qh.cells ba4).map .pl))])
noncomputable def f3n1(bk1:List Int)(bf2:Int)(bo3:Bool)(ba4:Qh):Option f3n1O :=
 bif (bk1.isEmpty) then
  some (.norm [])
 else
  req (fit bk1.length 1) <|
  some (.norm bk1)
theorem f3n1_ok(bk1:List Int)(bf2:Int)(bo3:Bool)(ba4:Qh){o:f3n1O}(h:f3n1 bk1 bf2 bo3 ba4=some o):T Try.prog Try.f3.ntmps 0 (cL (Qk 3 c3)) (f3n1S bk1 bf2 bo3 ba4) (·=f3n1E bk1 bf2 bo3 ba4 o):=by
 unfold f3n1 at h;rcases Qg h with ⟨h22,h⟩|⟨h22,h⟩
 ·obtain rfl:=Qd h;exact rE Qf [([],[(2,.app false)],[])] [] [.frz 8] [0] [1,2,3,7,8] (.norm,(f3n1E bk1 bf2 bo3 ba4 (.norm [])).2) (ap (Qbc (c:=(cInt .u8)) h22) an) rfl
 ·obtain ⟨h23,h⟩:=Qp h;obtain rfl:=Qd h;exact rE Qf [([],[(2,.app true)],[])] [] [.frz 8] [0] [1,2,3,7,8] (.norm,(f3n1E bk1 bf2 bo3 ba4 (.norm bk1)).2) (ap (fit_map0z (te:=ti5) (xs:=bk1) (c:=(cInt .u8)) h23 rfl) (ap (Qcf (c:=(cInt .u8)) h22) (ap (Qbd (c:=(cInt .u8)) (xs:=bk1) (n:=1) (fun _=>rfl)) an))) rfl
inductive f3n2O where
 | norm (v111:Bool)
def f3n2E(bk1:List Int)(bf2:Int)(bo3:Bool)(bk4:List Int)(bl5 bl6:(List Int)×Int)(bm7:Int×(List Qa))(bs8:Qh×Int):f3n2O→Ex×Tr×Hp
 | .norm v111=>(.norm,mkS [(1,(.pl (.sl .any 1 (bk1.map (cInt .u8))))),(7,(jB bo3)),(8,(.pl (.sl .any 1 (bk4.map (cInt .u8))))),(13,(.bp 0 0)),(17,(jB v111))],[some (.box 24 [(.own 1)]),some (.drow 3 (bm7.2.map Qa.cells))])
def f3n2S(bk1:List Int)(bf2:Int)(bo3:Bool)(bk4:List Int)(bl5 bl6:(List Int)×Int)(bm7:Int×(List Qa))(bs8:Qh×Int):Tr×Hp:=(mkS [(1,(.pl (.sl .any 1 (bk1.map (cInt .u8))))),(2,(.pl (.int .u64 bf2))),(7,(jB bo3)),(8,(.pl (.sl .any 1 (bk4.map (cInt .u8))))),(9,(.pl (.sl .any 1 (bl5.1.map (cInt .u8))))),(10,(jI bl5.2)),(11,(.pl (.sl .any 1 (bl6.1.map (cInt .u8))))),(12,(jI bl6.2)),(13,(.bp 0 0)),(14,(jI bm7.1)),(15,(.bp 1 0)),(16,(jI bs8.2))],[some (.box 24 [(.own 2)]),some (.box 24 ((Qh.cells bs8.1).map .pl)),some (.drow 3 (bm7.2.map Qa.cells))])
noncomputable def f3n2(bk1:List Int)(bf2:Int)(bo3:Bool)(bk4:List Int)(bl5 bl6:(List Int)×Int)(bm7:Int×(List Qa))(bs8:Qh×Int):Option f3n2O :=
 (f18 bl5.1 bl6.1).bind fun x99 =>
 bif x99 then
  bif decide (bl5.2=bl6.2) then
   (f19 (Qh.mk bm7.2) bs8.1).bind fun x103 =>
   bif x103 then
    bif decide (bm7.1=bs8.2) then
     (f20 bf2 bk4).bind fun x107 =>
     (f21r2 bf2 bk1).bind fun x109 =>
     some (.norm (decide (x107=x109)))
    else
     some (.norm false)
   else
    some (.norm false)
  else
   some (.norm false)
 else
  some (.norm false)
theorem f3n2_ok(bk1:List Int)(bf2:Int)(bo3:Bool)(bk4:List Int)(bl5 bl6:(List Int)×Int)(bm7:Int×(List Qa))(bs8:Qh×Int){o:f3n2O}(h:f3n2 bk1 bf2 bo3 bk4 bl5 bl6 bm7 bs8=some o):T Try.prog Try.f3.ntmps 0 (cL (Qk 1 (Qk 3 (Qk 1 (Qk 3 c3))))) (f3n2S bk1 bf2 bo3 bk4 bl5 bl6 bm7 bs8) (·=f3n2E bk1 bf2 bo3 bk4 bl5 bl6 bm7 bs8 o):=by
 unfold f3n2 at h;obtain ⟨x99,h100,h⟩:=Qc h;rcases Qg h with ⟨h101,h⟩|⟨h101,h⟩
 ·rcases Qg h with ⟨h102,h⟩|⟨h102,h⟩
  ·obtain ⟨x103,h104,h⟩:=Qc h;rcases Qg h with ⟨h105,h⟩|⟨h105,h⟩
   ·rcases Qg h with ⟨h106,h⟩|⟨h106,h⟩
    ·obtain ⟨x107,h108,h⟩:=Qc h;obtain ⟨x109,h110,h⟩:=Qc h;obtain rfl:=Qd h;exact rE Qf [(jT [4,5,6,9,10,11,14,15,16,19,20,21,22,23,24,25],[jH 2 (jB x99),(7,.bool true),jH 11 (jB x103),(12,.bool true),(17,.bool true),jH 21 (.pl (.int .u64 x107)),(24,.call (.pl (.int .u64 x109)) [none,none,none]),(26,.bool true)],[])] [] [] [0,2] [1,7,8,13,17] (.norm,(f3n2E bk1 bf2 bo3 bk4 bl5 bl6 bm7 bs8 (.norm (decide (x107=x109)))).2) (ap4 h101 (ap4 h102 (ap4 h105 (ap4 h106 (ap4 h106 (ap (f18_ok bl5.1 bl6.1 h100) (ap (f19_ok (Qh.mk bm7.2) bs8.1 h104) (ap (f20_ok bf2 bk4 h108) (ap (Qm.rn 3 [] (f21r2_ok bf2 bk1 h110)) an))))))))) rfl
    ·obtain rfl:=Qd h;exact rE Qf [(jF [19,20,21,22,23,24,25]++jT [4,5,6,9,10,11,14,15,16],[jH 2 (jB x99),(7,.bool true),jH 11 (jB x103),(12,.bool true),(17,.bool true),(26,.bool false)],[])] [] [] [0,2] [1,7,8,13,17] (.norm,(f3n2E bk1 bf2 bo3 bk4 bl5 bl6 bm7 bs8 (.norm false)).2) (ap4 h101 (ap4 h102 (ap4 h105 (ap4 h106 (ap4 h106 (ap (f18_ok bl5.1 bl6.1 h100) (ap (f19_ok (Qh.mk bm7.2) bs8.1 h104) an))))))) rfl
   ·obtain rfl:=Qd h;exact rE Qf [(jF [14,15,16]++jT [4,5,6,9,10,11],[jH 2 (jB x99),(7,.bool true),jH 11 (jB x103),(12,.bool true),(17,.bool false)],[])] [] [] [0,2] [1,7,8,13,17] (.norm,(f3n2E bk1 bf2 bo3 bk4 bl5 bl6 bm7 bs8 (.norm false)).2) (ap4 h101 (ap4 h102 (ap4 h105 (ap (f18_ok bl5.1 bl6.1 h100) (ap (f19_ok (Qh.mk bm7.2) bs8.1 h104) an))))) rfl
  ·obtain rfl:=Qd h;exact rE Qf [(jF [9,10,11]++jT [4,5,6],[jH 2 (jB x99),(7,.bool true),(12,.bool false)],[])] [] [] [0,2] [1,7,8,13,17] (.norm,(f3n2E bk1 bf2 bo3 bk4 bl5 bl6 bm7 bs8 (.norm false)).2) (ap4 h101 (ap4 h102 (ap (f18_ok bl5.1 bl6.1 h100) an))) rfl
 ·obtain rfl:=Qd h;exact rE Qf [(jF [4,5,6],[jH 2 (jB x99),(7,.bool false)],[])] [] [] [0,2] [1,7,8,13,17] (.norm,(f3n2E bk1 bf2 bo3 bk4 bl5 bl6 bm7 bs8 (.norm false)).2) (ap4 h101 (ap (f18_ok bl5.1 bl6.1 h100) an)) rfl
inductive f3n0O where
 | ret (v125:Bool)
def f3n0E(a1:Qh)(a2:List Int)(a3:Int):f3n0O→Ex×Tr×Hp
 | .ret v125=>(.ret,mkS [(6,(jB v125))],[])
def f3n0S(a1:Qh)(a2:List Int)(a3:Int):Tr×Hp:=(Qai [(jA Qh.cells a1),(.pl (.sl .any 1 (a2.map (cInt .u8)))),(.pl (.int .u64 a3))] 0 .leaf,[])
noncomputable def f3n0(a1:Qh)(a2:List Int)(a3:Int):Option f3n0O :=
 f11.bind fun x6 =>
 (f12 a1).bind fun x13 =>
 bif x13 then
  some (.ret x6)
 else
  bif decide (20000<(a2.length:Int)) then
   some (.ret x6)
  else
   bif x6 then
    (f3n1 a2 a3 x6 a1).bind fun o25=>match o25 with
    | .norm v27=>(f14r1 a1).bind fun x32 =>
     (f13 (Qh.mk x32)).bind fun x34 =>
     (f15 a1).bind fun x38 =>
     (f16r1 v27).bind fun x42 =>
     (f17 a2).bind fun x73 =>
     (f3n2 a2 a3 x6 v27 x34 x38 x42 x73).bind fun o112=>match o112 with
     | .norm v114=>(tch22 x42.2).bind fun x117 =>
      bif v114 then
       (f18 v27 a2).bind fun x123 =>
       some (.ret x123)
      else
       some (.ret false)
   else
    some (.ret x6)
theorem f3n0_ok(a1:Qh)(a2:List Int)(a3:Int){o:f3n0O}(h:f3n0 a1 a2 a3=some o):T Try.prog Try.f3.ntmps 0 c3 (f3n0S a1 a2 a3) (·=f3n0E a1 a2 a3 o):=by
 unfold f3n0 at h;obtain ⟨x6,h7,h⟩:=Qc h;obtain ⟨x13,h14,h⟩:=Qc h;rcases Qg h with ⟨h15,h⟩|⟨h15,h⟩
 ·obtain rfl:=Qd h;exact rK Qf 3 [j3,([],[jH 0 (jB x6)],[]),(jT [3,4,5],[jH 1 (jB x13),(6,.bool true)],[]),j3] [none] [] [] [6] .ret ((f3n0E a1 a2 a3 (.ret x6)).2) (ap (f11_ok h7) (ap4 h15 (ap (f12_ok a1 h14) an))) rfl
 ·rcases Qg h with ⟨h16,h⟩|⟨h16,h⟩
  ·obtain rfl:=Qd h;exact rK Qf 3 [j3,([],[jH 0 (jB x6)],[]),(jF [3,4,5]++jT [8,9],[jH 1 (jB x13),(6,.bool false),(10,.bool true)],[(4,.val (jI (a2.length:Int)))]),j3] [none] [] [] [6] .ret ((f3n0E a1 a2 a3 (.ret x6)).2) (ap (f11_ok h7) (ap2 h15 (ap (Qn (xs:=a2) (c:=(cInt .u8))) (ap2 h15 (ap3 h16 (ap (f12_ok a1 h14) an)))))) rfl
  ·rcases Qg h with ⟨h17,h⟩|⟨h17,h⟩
   ·refine rN Qf 3 [j3,([],[jH 0 (jB x6)],[]),(jF [3,4,5,8,9],[jH 1 (jB x13),(6,.bool false),(10,.bool false)],[(4,.val (jI (a2.length:Int)))])] [some false] [] [0] [1,2,3,7] (f3n1S a2 a3 x6 a1) (ap (f11_ok h7) (ap2 h15 (ap (Qn (xs:=a2) (c:=(cInt .u8))) (ap2 h15 (ap3 h16 (ap (f12_ok a1 h14) (ap (Qq h17) an))))))) ?_;obtain ⟨o25,h26,h⟩:=Qc h;cases o25 with
    | norm v27 =>
     refine T.oneN (by kernel_rfl) (f3n1_ok a2 a3 x6 a1 h26) (st2:=(f3n1E a2 a3 x6 a1 (.norm v27)).2) rfl ?_;obtain ⟨x32,h33,h⟩:=Qc h;obtain ⟨x34,h35,h⟩:=Qc h;obtain ⟨x38,h39,h⟩:=Qc h;obtain ⟨x42,h43,h⟩:=Qc h
     refine rN Qf 3 [([],[(1,.call (.agg [(.own 2)]) [none,some (.box 24 [(.own 2)]),some (.drow 3 (x32.map Qa.cells))]),jH 2 (.tup [(.pl (.sl .any 1 (x34.1.map (cInt .u8)))),(jI x34.2)])],[]),([],[jH 1 (.tup [(.pl (.sl .any 1 (x38.1.map (cInt .u8)))),(jI x38.2)])],[]),([],[(1,.call (.tup [(.agg [(.own 4)]),(jI x42.1)]) (jN 3 [some (.box 24 [(.own 4)]),some (.drow 3 (x42.2.map Qa.cells))]))],[])] [] [] [5,4] [1,2,7,8,9,10,11,12,13,14] (mkS [(1,(.pl (.sl .any 1 (a2.map (cInt .u8))))),(2,(.pl (.int .u64 a3))),(7,(jB x6)),(8,(.pl (.sl .any 1 (v27.map (cInt .u8))))),(9,(.pl (.sl .any 1 (x34.1.map (cInt .u8))))),(10,(jI x34.2)),(11,(.pl (.sl .any 1 (x38.1.map (cInt .u8))))),(12,(jI x38.2)),(13,(.bp 0 0)),(14,(jI x42.1))],[some (.box 24 [(.own 1)]),some (.drow 3 (x42.2.map Qa.cells))]) (ap (Qm.rn 1 [] (f14r1_ok a1 h33)) (ap (f13_ok (Qh.mk x32) h35) (ap (f15_ok a1 h39) (ap (Qm.rn 3 [] (f16r1_ok v27 h43)) an)))) ?_
     obtain ⟨x73,h74,h⟩:=Qc h;refine rN Qf 1 [([],[jH 1 (.tup [(jA Qh.cells x73.1),(jI x73.2)])],[])] [] [] [0,2,1] [1,2,7,8,9,10,11,12,13,14,15,16] (f3n2S a2 a3 x6 v27 x34 x38 x42 x73) (ap (f17_ok a2 h74) an) ?_;obtain ⟨o112,h113,h⟩:=Qc h;cases o112 with
     | norm v114 =>
      refine T.oneN (by kernel_rfl) (f3n2_ok a2 a3 x6 v27 x34 x38 x42 x73 h113) (st2:=(f3n2E a2 a3 x6 v27 x34 x38 x42 x73 (.norm v114)).2) rfl ?_;obtain ⟨x117,h118,h⟩:=Qc h;rcases Qg h with ⟨h122,h⟩|⟨h122,h⟩
      ·obtain ⟨x123,h124,h⟩:=Qc h;obtain rfl:=Qd h;exact rE Qf [([],[(1,.call (.tup []) [none,none])],[]),(jT [2,5,6,7],[(3,.bool true),jH 7 (jB x123),(8,.bool true)],[])] [] [] [] [6] (.ret,(f3n0E a1 a2 a3 (.ret x123)).2) (ap (Qm.rn 2 [1] (tch22_ok x42.2 h118)) (ap2 h17 (ap4 h122 (ap (f18_ok v27 a2 h124) an)))) rfl
      ·obtain rfl:=Qd h;exact rE Qf [([],[(1,.call (.tup []) [none,none])],[]),(jF [5,6,7]++jT [2],[(3,.bool true),(8,.bool false)],[])] [] [] [] [6] (.ret,(f3n0E a1 a2 a3 (.ret false)).2) (ap (Qm.rn 2 [1] (tch22_ok x42.2 h118)) (ap2 h17 (ap4 h122 an))) rfl
   ·obtain rfl:=Qd h;exact rK Qf 3 [j3,([],[jH 0 (jB x6)],[]),(jF [3,4,5,8,9],[jH 1 (jB x13),(6,.bool false),(10,.bool false)],[(4,.val (jI (a2.length:Int)))]),j3] [some true] [] [] [6] .ret ((f3n0E a1 a2 a3 (.ret x6)).2) (ap (f11_ok h7) (ap2 h15 (ap (Qn (xs:=a2) (c:=(cInt .u8))) (ap2 h15 (ap3 h16 (ap (f12_ok a1 h14) (ap (Qac h17) an))))))) rfl
noncomputable def f3(a1:Qh)(a2:List Int)(a3:Int):Option Bool:=(f3n0 a1 a2 a3).bind fun o=>match o with
 | .ret v125=>some v125
theorem f3_ok(a1:Qh)(a2:List Int)(a3:Int){r:Bool}(h:f3 a1 a2 a3=some r):Qm Try.prog false 3 [(jA Qh.cells a1),(.pl (.sl .any 1 (a2.map (cInt .u8)))),(.pl (.int .u64 a3))] [] (jB r) []:=by
 unfold f3 at h;obtain ⟨o,ho,h⟩:=Qc h;cases o with
 | ret v125 =>
  obtain rfl:=Qd h;exact Qm.plain Qf (f:=Try.f3) (c:=c3) (by kernel_rfl) (by kernel_rfl) (by kernel_rfl) (by kernel_rfl) ((f3n0_ok a1 a2 a3 ho).mono fun r e=>by subst e; exact ⟨.inl rfl,(jB v125),(jB v125),by kernel_rfl,by kernel_rfl,((Wk.refl _):Wk (jB v125) (jB v125))⟩)
end Go.Proofs.Ytbgjlpdeoljmiaa
namespace Go.Proofs.Ytbgjlpdeoljmiaa
set_option linter.unusedVariables false
set_option linter.unusedSimpArgs false
open Go.RowKit
theorem Qaf{n b:Nat}(h:n≤1000000)(hb:b≤1000000):fit n b=true:=by
 unfold fit;have:n*b≤1000000*1000000:=Nat.mul_le_mul h hb;simp only [Bool.and_eq_true,Nat.ble_eq];omega
theorem seq_self(s:ByteArray):seq s s=true:=by simp [seq]
theorem lt_not(a b:Int):decide (a<b) = !decide (b≤a):=by
 by_cases h:a<b
 ·rw [decide_eq_true h,decide_eq_false (by omega)]; rfl
 ·rw [decide_eq_false h,decide_eq_true (by omega)]; rfl
theorem dec_nat(a b:Nat):decide ((a:Int)≤(b:Int))=decide (a≤b):=by congr 1; apply propext; omega

def letterI(c:Int):Bool:=(decide (97≤c)&&decide (c≤122))||(decide (65≤c)&&decide (c≤90))
def otherI(c:Int):Bool:=(decide (48≤c)&&decide (c≤57))||(decide (c=95)||decide (c=45))
theorem f70_eq(c:Int):f70 c=some (letterI c):=by
 unfold f70 f70n0 letterI;cases decide (97≤c)<;>cases decide (c≤122)<;>cases decide (65≤c)<;>cases decide (c≤90)<;>rfl
def charB(b:UInt8):Bool:=letterI b.toNat||otherI b.toNat
def isName(l:List UInt8):Bool:=match l with
 | []=>false
 | b::r=>decide (l.length≤40)&&(letterI b.toNat&&r.all charB)
theorem f64n2_at{s:ByteArray}{k:Nat}{c:UInt8}(h:s.data.toList[k]?=some c):f64n2 s (k:Int)=some (bif charB c then .norm else .ret):=by
 unfold f64n2 f64n3;rw [Qaq,h];simp only [Option.bind_some,f70_eq,charB,otherI,lt_not];cases letterI c.toNat<;>cases decide ((48:Int)≤(c.toNat:Int))<;>cases decide ((c.toNat:Int)≤57)<;>cases decide ((c.toNat:Int)=95)<;>cases decide ((c.toNat:Int)=45)<;>rfl
theorem f64n4_at{s:ByteArray}(hm:s.data.toList.length≤maxLen):∀(rest:List UInt8)(f k:Nat),s.data.toList.drop k=rest→rest.length<f→f64n4 f s (k:Int)=some (bif rest.all charB then .exit0 else .ret)
 | _,0,_,_,hf=>absurd hf (Nat.not_lt_zero _)
 | [],f+1,k,hd,hf=>by
  have hk:¬((k:Int)<(s.size:Int)):=by have:=Qaj hd; rw [size_list]; omega
  rw [f64n4,decide_eq_false hk]; rfl
 | x::rest,f+1,k,hd,hf=>by
  obtain ⟨hx,hl,hd'⟩:=Qx hd;have hk:(k:Int)<(s.size:Int):=by rw [size_list]; omega
  have hw:wr64 ((k:Int)+1)=((k+1:Nat):Int):=Qr (by omega) (by unfold maxLen at hm; omega);rw [f64n4,decide_eq_true hk,f64n2_at hx,hw,f64n4_at hm rest f (k+1) hd' (by simpa using hf),List.all_cons];cases charB x<;>rfl
theorem f64_eq(s:ByteArray)(h:s.size≤maxLen):f64 s=some (isName s.data.toList):=by
 have hs:s.data.toList.length≤maxLen:=h;have hr:=f64n4_at hs s.data.toList FUEL 0 rfl (Qao hs);simp only [Int.natCast_zero] at hr;unfold f64 f64n0 f64n1;rw [hr,size_list];generalize s.data.toList=l at hs;cases l with
 | nil=>rfl
 | cons b r =>
  have h1:¬(((b::r).length:Nat):Int)<1:=by simp; omega
  rw [decide_eq_false h1];have h0:at? (b::r) 0=some b:=rfl;simp only [cond_false,h0,Option.bind_some,f70_eq,isName,List.all_cons,charB,lt_not];have h2:decide ((((b::r).length:Nat):Int)≤40)=decide ((b::r).length≤40):=by congr 1; apply propext; omega
  rw [h2];cases decide ((b::r).length≤40)<;>cases letterI b.toNat<;>cases r.all charB<;>rfl

def within(n:Int):Bool:=decide (-1125899906842624≤n)&&decide (n≤1125899906842624)
theorem f65_eq(n:Int):f65 n=some (within n):=by
 unfold f65 f65n0 within;cases decide (-1125899906842624≤n)<;>rfl
def badL(x:Qb):Bool:=!isName x.Account.data.toList||(!isName x.Ccy.data.toList||(decide (x.Amount=0)||!within x.Amount))
def Lk(x:Qb):Prop:=x.Account.size≤maxLen∧x.Ccy.size≤maxLen
theorem f63_eq{x:Qb}(h:Lk x):f63 x=some (badL x):=by
 unfold f63 f63n0 badL;rw [f64_eq _ h.1,f64_eq _ h.2];simp only [Option.bind_some,f65_eq];cases isName x.Account.data.toList<;>cases isName x.Ccy.data.toList<;>cases decide (x.Amount=0)<;>rfl
theorem f71_63n2L_at(bc:List Qb):∀(l:List Qb)(v:Int),(∀x∈l,Lk x)→(l.any badL=false∧f71_63n2L bc l v=some .exit0)∨(l.any badL=true∧∃k,v≤k∧f71_63n2L bc l v=some (.ret k))
 | [],v,_=>.inl ⟨rfl,rfl⟩
 | x::r,v,h=>by
  rw [f71_63n2L,f63_eq (h x (by simp))];simp only [Option.bind_some,List.any_cons];cases badL x with
  | true=>exact .inr ⟨rfl,v,Int.le_refl _,rfl⟩
  | false =>
   rcases f71_63n2L_at bc r (v+1) (fun y hy=>h y (by simp [hy])) with ⟨h1,h2⟩|⟨h1,k,h2,h3⟩
   ·exact .inl ⟨by simpa using h1,by simpa using h2⟩
   ·exact .inr ⟨by simpa using h1,k,by omega,by simpa using h3⟩
theorem f66_63_eq{l:List Qb}(hl:l.length≤maxLen)(h:∀x∈l,Lk x):f66_63 l=some (l.any badL):=by
 unfold f66_63 f66_63n0 f71_63 f71_63n0 f71_63n1;rw [f71_63n2_run l hl];rcases f71_63n2L_at l l 0 h with ⟨h1,h2⟩|⟨h1,k,h2,h3⟩
 ·rw [h2,h1]; rfl
 ·rw [h3,h1];simp only [Option.bind_some];rw [decide_eq_true h2]
def textB(s:ByteArray):Bool:=(ofB s).all fun c=>decide (32≤c)&&decide (c≤126)
theorem f49n2L_at(bb:Qa):∀(l:List Int)(v:Int),f49n2L bb l v=some (bif l.all (fun c=>decide (32≤c)&&decide (c≤126)) then .exit0 else .ret)
 | [],v=>rfl
 | c::r,v=>by
  rw [f49n2L];simp only [f49n2L_at bb r,lt_not,List.all_cons];cases decide (32≤c)<;>cases decide (c≤126)<;>rfl
def Rk(r:Qa):Prop:=r.Text.size≤maxLen∧r.Lines.length≤maxLen∧∀x∈r.Lines,Lk x
def Qaw(r:Qa):Bool:=textB r.Text&&(decide (0≤r.Day)&&(decide (r.Day≤99999)&&(decide (r.Text.size≤100)&&(decide (2≤r.Lines.length)&&(decide (r.Lines.length≤20)&&!r.Lines.any badL)))))
theorem len_ofB(s:ByteArray):(ofB s).length=s.size:=by simp [ofB]
theorem f49_eq{r:Qa}(h:Rk r):f49 r=some (Qaw r):=by
 unfold f49 f49n0 f49n1 Qaw textB;have h1:r.Text.size≤9223372036854775807:=Nat.le_trans h.1 (by unfold maxLen; decide);have h2:decide ((r.Text.size:Int)≤100)=decide (r.Text.size≤100):=dec_nat _ 100;have h3:decide ((2:Int)≤(r.Lines.length:Int))=decide (2≤r.Lines.length):=dec_nat 2 _;have h4:decide ((r.Lines.length:Int)≤20)=decide (r.Lines.length≤20):=dec_nat _ 20;rw [f49n2_run r (by rw [len_ofB]; exact h.1),f49n2L_at,h2,h3,h4,f66_63_eq h.2.1 h.2.2,decide_eq_true h1];simp only [req,cond_true,Option.bind_some];cases (ofB r.Text).all (fun c=>decide (32≤c)&&decide (c≤126))<;>cases decide (0≤r.Day)<;>cases decide (r.Day≤99999)<;>cases decide (r.Text.size≤100)<;>cases decide (2≤r.Lines.length)<;>cases decide (r.Lines.length≤20)<;>rfl
theorem formed_small{r:Qa}(h:Qaw r=true):0≤r.Day∧r.Day≤99999∧r.Text.size≤100∧2≤r.Lines.length∧r.Lines.length≤20∧r.Lines.any badL=false:=by
 simp only [Qaw,Bool.and_eq_true,decide_eq_true_eq,Bool.not_eq_true'] at h;exact ⟨h.2.1,h.2.2.1,h.2.2.2.1,h.2.2.2.2.1,h.2.2.2.2.2.1,h.2.2.2.2.2.2⟩

def sumsL:List Qb→List (ByteArray×Int)→List (ByteArray×Int)
 | [],m=>m
 | x::l,m=>sumsL l (mPut seq x.Ccy (wr64 (mGet seq 0 x.Ccy m+x.Amount)) m)
theorem f50n2L_at(bb:Qa):∀(l:List Qb)(v:Int)(m:List (ByteArray×Int)),f50n2L bb l v m=some (.exit0 (sumsL l m))
 | [],v,m=>rfl
 | x::r,v,m=>by rw [f50n2L,f50n2L_at bb r]; rfl
theorem f50n4_eq(be:List (ByteArray×Int)):∀l:List (ByteArray×Int),f50n4 be l=some (bif l.all (fun x=>decide (x.2=0)) then .exit2 else .ret)
 | []=>rfl
 | x::r=>by
  rw [f50n4,f50n4_eq be r,List.all_cons];cases decide (x.2=0)<;>rfl
def balB(r:Qa):Bool:=(sumsL r.Lines []).all fun x=>decide (x.2=0)
theorem f50_eq{r:Qa}(h:r.Lines.length≤maxLen):f50 r=some (balB r):=by
 unfold f50 f50n0 f50n1 f50n3;rw [f50n2_run r _ h,f50n2L_at];simp only [Option.bind_some];have hp:∀p,p.Perm (sumsL r.Lines [])→f50n4 (sumsL r.Lines []) p=some (bif balB r then .exit2 else .ret):=fun p hp=>by
  rw [f50n4_eq,hp.all_eq]; rfl
 rw [anyOrder_of hp];cases balB r<;>rfl

abbrev Bal:=List (Qe×Int)
def acc(x:Qb):Qe:=⟨x.Account,x.Ccy⟩
def bal(a:Qe)(b:Bal):Int:=mGet Qe.eqb 0 a b
def postL:List Qb→Bal→Bal
 | [],m=>m
 | x::l,m=>postL l (mPut Qe.eqb (acc x) (wr64 (bal (acc x) m+x.Amount)) m)
def fitsM(l:List Qb)(b:Bal):Bool:=!l.any fun x=>!within (bal (acc x) b)
theorem f71r1n2L_at(bc:List Qb)(d k:Int)(b:Bal):∀(l:List Qb)(v:Int),(l.any (fun x=>!within (bal (acc x) b))=false∧f71r1n2L bc d k b l v=some .exit0)∨(l.any (fun x=>!within (bal (acc x) b))=true∧∃j,v≤j∧f71r1n2L bc d k b l v=some (.ret j))
 | [],v=>.inl ⟨rfl,rfl⟩
 | x::r,v=>by
  have e:f69r1 x d k b=some (!within (bal (acc x) b)):=by unfold f69r1 f69r1n0; rw [f65_eq]; rfl
  rw [f71r1n2L,e];simp only [Option.bind_some,List.any_cons];cases within (bal (acc x) b) with
  | false=>exact .inr ⟨rfl,v,Int.le_refl _,rfl⟩
  | true =>
   rcases f71r1n2L_at bc d k b r (v+1) with ⟨h1,h2⟩|⟨h1,j,h2,h3⟩
   ·exact .inl ⟨by simpa using h1,by simpa using h2⟩
   ·exact .inr ⟨by simpa using h1,j,by omega,by simpa using h3⟩
theorem f61r1_eq{r:Qa}(h:r.Lines.length≤maxLen)(d k:Int)(b:Bal):f61r1 r d k b=some (fitsM r.Lines b):=by
 unfold f61r1 f61r1n0 f66r1 f66r1n0 f71r1 f71r1n0 f71r1n1 fitsM;rw [f71r1n2_run _ _ _ _ h];rcases f71r1n2L_at r.Lines d k b r.Lines 0 with ⟨h1,h2⟩|⟨h1,j,h2,h3⟩
 ·rw [h2,h1]; rfl
 ·rw [h3,h1];simp only [Option.bind_some];rw [decide_eq_true h2]
theorem f71r2n2L_at(bc:List Qb)(d k:Int)(b:Bal):∀(l:List Qb)(v:Int),(l.any (fun x=>!within (bal (acc x) b))=false∧f71r2n2L bc d k b l v=some .exit0)∨(l.any (fun x=>!within (bal (acc x) b))=true∧∃j,v≤j∧f71r2n2L bc d k b l v=some (.ret j))
 | [],v=>.inl ⟨rfl,rfl⟩
 | x::r,v=>by
  have e:f69r1 x d k b=some (!within (bal (acc x) b)):=by unfold f69r1 f69r1n0; rw [f65_eq]; rfl
  rw [f71r2n2L,e];simp only [Option.bind_some,List.any_cons];cases within (bal (acc x) b) with
  | false=>exact .inr ⟨rfl,v,Int.le_refl _,rfl⟩
  | true =>
   rcases f71r2n2L_at bc d k b r (v+1) with ⟨h1,h2⟩|⟨h1,j,h2,h3⟩
   ·exact .inl ⟨by simpa using h1,by simpa using h2⟩
   ·exact .inr ⟨by simpa using h1,j,by omega,by simpa using h3⟩
theorem f61r2_eq{l:List Qb}(h:l.length≤maxLen)(d:Int)(t:ByteArray)(k:Int)(b:Bal):f61r2 d t k l b=some (fitsM l b):=by
 unfold f61r2 f61r2n0 f66r2 f66r2n0 f71r2 f71r2n0 f71r2n1 fitsM;rw [f71r2n2_run _ _ _ _ h];rcases f71r2n2L_at l d k b l 0 with ⟨h1,h2⟩|⟨h1,j,h2,h3⟩
 ·rw [h2,h1]; rfl
 ·rw [h3,h1];simp only [Option.bind_some];rw [decide_eq_true h2]
def addS(r:Qa)(d m:Int)(b:Bal):Bool×Int×Int×Bal :=
 bif decide (m=200)||(!Qaw r||(!balB r||decide (r.Day<d))) then (false,d,m,b) else (fitsM r.Lines (postL r.Lines b),r.Day,wr64 (m+1),postL r.Lines b)
theorem f44r2n2L_at(bb:Qa)(d m:Int):∀(l:List Qb)(v:Int)(b:Bal),f44r2n2L bb d m l v b=some (.exit0 (postL l b))
 | [],v,b=>rfl
 | x::r,v,b=>by rw [f44r2n2L,f44r2n2L_at bb d m r]; rfl
theorem f44r2_eq{r:Qa}(h:Rk r)(d m:Int)(b:Bal):f44r2 r d m b=some (addS r d m b):=by
 unfold f44r2 f44r2n0 f44r2n1 addS;rw [f49_eq h,f50_eq h.2.1,f44r2n2_run _ _ _ _ h.2.1,f44r2n2L_at];simp only [Option.bind_some,f61r1_eq h.2.1];cases decide (m=200)<;>cases Qaw r<;>cases balB r<;>cases decide (r.Day<d)<;>rfl
theorem f44r3n2L_at(bc:List Qb)(a b' c:Int)(t:ByteArray):∀(l:List Qb)(v:Int)(b:Bal),f44r3n2L bc a b' c t l v b=some (.exit0 (postL l b))
 | [],v,b=>rfl
 | x::r,v,b=>by rw [f44r3n2L,f44r3n2L_at bc a b' c t r]; rfl
theorem f44r3_eq{r:Qa}(h:Rk r)(d m:Int)(b:Bal):f44r3 r.Day r.Text d m r.Lines b=some (addS r d m b):=by
 unfold f44r3 f44r3n0 f44r3n1 addS;have e:(Qa.mk r.Day r.Text r.Lines)=r:=rfl;rw [e,f49_eq h,f50_eq h.2.1,f44r3n2_run _ _ _ _ _ _ h.2.1,f44r3n2L_at];simp only [Option.bind_some,f61r2_eq h.2.1];cases decide (m=200)<;>cases Qaw r<;>cases balB r<;>cases decide (r.Day<d)<;>rfl
theorem add_true{r:Qa}{d m:Int}{b:Bal}(h:(addS r d m b).1=true):m≠200∧Qaw r=true∧balB r=true∧d≤r.Day∧fitsM r.Lines (postL r.Lines b)=true∧(addS r d m b).2=(r.Day,wr64 (m+1),postL r.Lines b):=by
 unfold addS at h ⊢;cases hc:decide (m=200)||(!Qaw r||(!balB r||decide (r.Day<d))) with
 | true=>rw [hc] at h; cases h
 | false =>
  rw [hc] at h;simp only [cond_false] at h ⊢;simp only [Bool.or_eq_false_iff,decide_eq_false_iff_not,Bool.not_eq_false'] at hc;exact ⟨hc.1,hc.2.1,hc.2.2.1,by omega,h,trivial⟩
def Qat:List Qa→Int→Int→Bal→Bool×Int×Int×Bal
 | [],d,m,b=>(true,d,m,b)
 | r::l,d,m,b=>bif (addS r d m b).1 then Qat l (addS r d m b).2.1 (addS r d m b).2.2.1 (addS r d m b).2.2.2 else (false,(addS r d m b).2)
theorem f47r1n2L_at(ba:Qh):∀(l:List Qa)(v d m:Int)(b:Bal),(∀r∈l,Rk r) →
  f47r1n2L ba l v d m b=some (bif (Qat l d m b).1 then .exit0 (Qat l d m b).2.1 (Qat l d m b).2.2.1 (Qat l d m b).2.2.2 else .ret (Qat l d m b).2.1 (Qat l d m b).2.2.1 (Qat l d m b).2.2.2)
 | [],v,d,m,b,_=>rfl
 | r::l,v,d,m,b,h=>by
  rw [f47r1n2L,f44r2_eq (h r (by simp)),Qat];simp only [Option.bind_some];cases hx:(addS r d m b).1 with
  | true=>simp only [cond_true]; exact f47r1n2L_at ba l _ _ _ _ fun y hy=>h y (by simp [hy])
  | false=>rfl
def openS(j:Qh):Bool×Int×Int×Bal:=bif decide (200<j.Records.length) then (false,0,0,[]) else Qat j.Records 0 0 []
def Jk(j:Qh):Prop:=j.Records.length≤maxLen∧∀r∈j.Records,Rk r
theorem f47r1_eq{j:Qh}(h:Jk j):f47r1 j=some (openS j):=by
 unfold f47r1 f47r1n0 f47r1n1 openS;rw [f47r1n2_run _ _ _ _ h.1,f47r1n2L_at _ _ _ _ _ _ h.2];have e:decide ((200:Int)<(j.Records.length:Int))=decide (200<j.Records.length):=by congr 1; apply propext; omega
 rw [e];generalize Qat j.Records 0 0 []=x;obtain ⟨a,d,m,b⟩:=x;cases decide (200<j.Records.length)<;>cases a<;>rfl
theorem f28_eq{j:Qh}(h:Jk j):f28 j=some (bif (openS j).1 then 0 else 8):=by
 unfold f28 f28n0;rw [f47r1_eq h];simp only [Option.bind_some];cases (openS j).1<;>rfl
theorem open_append:∀(l k:List Qa)(d m:Int)(b:Bal),Qat (l++k) d m b=bif (Qat l d m b).1 then Qat k (Qat l d m b).2.1 (Qat l d m b).2.2.1 (Qat l d m b).2.2.2 else Qat l d m b
 | [],k,d,m,b=>rfl
 | r::l,k,d,m,b=>by
  rw [List.cons_append,Qat,Qat,open_append l k];cases (addS r d m b).1<;>rfl
theorem open_pre{l k:List Qa}{d m:Int}{b:Bal} (h:(Qat (l++k) d m b).1=true):(Qat l d m b).1=true:=by
 rw [open_append] at h;cases hx:(Qat l d m b).1 with
 | true=>rfl
 | false=>rw [hx] at h; simp only [cond_false] at h; rw [hx] at h; cases h
theorem Qcy:∀{l:List Qa} {d m:Int} {b:Bal},(Qat l d m b).1=true→∀r∈l,Qaw r=true∧balB r=true
 | [],_,_,_,_,r,hr=>by cases hr
 | x::l,d,m,b,h,r,hr=>by
  rw [Qat] at h;cases hx:(addS x d m b).1 with
  | false=>rw [hx] at h; cases h
  | true =>
   rw [hx] at h;rcases List.mem_cons.1 hr with rfl | hr
   ·have:=add_true hx; exact ⟨this.2.1,this.2.2.1⟩
   ·exact Qcy h r hr
theorem open_many:∀{l:List Qa} {d m:Int} {b:Bal},(Qat l d m b).1=true→0≤m→m≤200→(Qat l d m b).2.2.1=m+(l.length:Int)∧m+(l.length:Int)≤200
 | [],d,m,b,_,h0,h1=>⟨by simp [Qat],by simpa using h1⟩
 | x::l,d,m,b,h,h0,h1=>by
  rw [Qat] at h ⊢;cases hx:(addS x d m b).1 with
  | false=>rw [hx] at h; cases h
  | true =>
   rw [hx] at h;have ha:=add_true hx;simp only [cond_true] at h ⊢;rw [ha.2.2.2.2.2] at h ⊢;have hw:wr64 (m+1)=m+1:=IntWalk.i64_in _ ⟨by omega,by omega⟩;simp only [hw] at h ⊢;have hm:=ha.1;obtain ⟨k1,k2⟩:=open_many h (by omega) (by omega);simp only [List.length_cons];exact ⟨by rw [k1]; omega,by omega⟩
def Valid(j:Qh):Prop:=Jk j∧(openS j).1=true
theorem Valid.open{j:Qh}(h:Valid j):j.Records.length≤200∧openS j=Qat j.Records 0 0 []∧(Qat j.Records 0 0 []).1=true:=by
 have h2:=h.2;unfold openS at h2 ⊢;cases hc:decide (200<j.Records.length) with
 | true=>rw [hc] at h2; cases h2
 | false=>rw [hc] at h2; exact ⟨by simpa using hc,rfl,h2⟩
theorem Valid.of{j:Qh}(h:Jk j)(hl:(Qat j.Records 0 0 []).1=true):Valid j:=by
 refine ⟨h,?_⟩;have:=(open_many hl (Int.le_refl _) (by decide)).2;unfold openS;rw [decide_eq_false (by omega)]; exact hl


end Go.Proofs.Ytbgjlpdeoljmiaa
namespace Go.Proofs.Ytbgjlpdeoljmiaa
set_option linter.unusedVariables false
set_option linter.unusedSimpArgs false
open Go.RowKit
theorem eqb_self(x:Qb):Qb.eqb x x=true:=by simp [Qb.eqb,seq]
theorem f27n2L_at(b:Qa):∀(l:List Qb)(k:Nat),b.Lines.drop k=l→f27n2L b b l (k:Int)=some .exit0
 | [],k,_=>rfl
 | x::l,k,h=>by
  obtain ⟨hx,_,hd⟩:=Qx h;rw [f27n2L,Qaq,hx];simp only [Option.bind_some,eqb_self,cond_true];exact f27n2L_at b l (k+1) hd
theorem f27_self{r:Qa}(h:r.Lines.length≤maxLen):f27 r r=some true:=by
 unfold f27 f27n0 f27n1;rw [f27n2_run _ _ h];have:=f27n2L_at r r.Lines 0 rfl;simp only [Int.natCast_zero] at this;rw [this,seq_self]
 simp
theorem f19n2L_at(j:Qh)(hr:∀r∈j.Records,r.Lines.length≤maxLen):∀(l:List Qa)(k:Nat),j.Records.drop k=l→f19n2L j j l (k:Int)=some .exit0
 | [],k,_=>rfl
 | x::l,k,h=>by
  obtain ⟨hx,_,hd⟩:=Qx h;rw [f19n2L,Qaq,hx];simp only [Option.bind_some,f27_self (hr x (List.mem_of_getElem? hx)),cond_true];exact f19n2L_at j hr l (k+1) hd
theorem f19_self{j:Qh}(h:Jk j):f19 j j=some true:=by
 unfold f19 f19n0 f19n1;rw [f19n2_run _ _ h.1];have:=f19n2L_at j (fun r hr=>(h.2 r hr).2.1) j.Records 0 rfl;simp only [Int.natCast_zero] at this;rw [this]
 simp
end Go.Proofs.Ytbgjlpdeoljmiaa
namespace Go.Proofs.Ytbgjlpdeoljmiaa
set_option linter.unusedVariables false
set_option linter.unusedSimpArgs false
open Go.RowKit
theorem f29n2L_at(bc:List Qb):∀(l:List Qb)(v:Int),f29n2L bc l v=some .exit0∨f29n2L bc l v=some .ret
 | [],v=>.inl rfl
 | x::l,v=>by
  rw [f29n2L];cases decide (v≤40) with
  | false=>exact .inl rfl
  | true =>
   cases decide (300<(x.Account.size:Int)) with
   | true=>exact .inr rfl
   | false=>cases decide (300<(x.Ccy.size:Int)) with
    | true=>exact .inr rfl
    | false=>exact f29n2L_at bc l (v+1)
theorem f29_at{l:List Qb}(h:l.length≤maxLen):∃b,f29 l=some b∧(b=false→l.length≤40):=by
 unfold f29 f29n0 f29n1;rw [f29n2_run _ h];rcases f29n2L_at l l 0 with e | e<;>rw [e]
 ·exact ⟨decide (40<(l.length:Int)),rfl,fun h=>by have:=of_decide_eq_false h; omega⟩
 ·exact ⟨true,rfl,fun h=>by cases h⟩
end Go.Proofs.Ytbgjlpdeoljmiaa
namespace Go.Proofs.Ytbgjlpdeoljmiaa
set_option maxRecDepth 1000000
theorem alive_t:f11=some true:=by kernel_rfl
end Go.Proofs.Ytbgjlpdeoljmiaa
namespace Go.Proofs.Ytbgjlpdeoljmiaa
set_option linter.unusedVariables false
set_option linter.unusedSimpArgs false
open Go.RowKit
def sumF(p:Qb→Bool):List Qb→Int→Int
 | [],s=>s
 | x::l,s=>sumF p l (bif p x then wr64 (s+x.Amount) else s)
theorem sumF_append(p:Qb→Bool):∀(l k:List Qb)(s:Int),sumF p (l++k) s=sumF p k (sumF p l s)
 | [],k,s=>rfl
 | x::l,k,s=>by rw [List.cons_append,sumF,sumF,sumF_append p l k]
theorem get_put{K:Type}{keq:K→K→Bool} (he:∀{a b},keq a b=true→a=b) (hr:∀a,keq a a=true) (z v:Int) (k q:K):∀m:List (K×Int),mGet keq z q (mPut keq k v m)=bif keq q k then v else mGet keq z q m
 | []=>by simp [mPut,mGet]
 | (a,w)::r=>by
  simp only [mPut,mGet];cases hk:keq k a with
  | true =>
   have:=he hk; subst this;simp only [cond_true,mGet];cases keq q k<;>rfl
  | false =>
   simp only [cond_false,mGet];cases hq:keq q a with
   | true =>
    have:=he hq; subst this;have hne:keq q k=false:=by
     cases h:keq q k with
     | false=>rfl
     | true=>have:=he h; subst this; rw [hr] at hk; cases hk
    simp only [cond_true,hne,cond_false]
   | false=>simp only [cond_false]; exact get_put he hr z v k q r
theorem seq_eq2{a b:ByteArray}(h:seq a b=true):a=b:=bytes_eq (by simpa [seq] using h)
theorem acc_self(a:Qe):Qe.eqb a a=true:=by simp [Qe.eqb,seq]
theorem bal_post(a:Qe):∀(l:List Qb)(b:Bal),bal a (postL l b)=sumF (fun x=>Qe.eqb a (acc x)) l (bal a b)
 | [],b=>rfl
 | x::l,b=>by
  rw [postL,sumF,bal_post a l];have:=get_put (keq:=Qe.eqb) (fun h=>Qe.eqb_eq h) acc_self 0 (wr64 (bal (acc x) b+x.Amount)) (acc x) a b;show sumF _ l (mGet Qe.eqb 0 a _)=_;rw [this];cases h:Qe.eqb a (acc x) with
  | true=>have:=Qe.eqb_eq h; subst this; rfl
  | false=>rfl
theorem get_sums(c:ByteArray):∀(l:List Qb)(m:List (ByteArray×Int)),mGet seq 0 c (sumsL l m)=sumF (fun x=>seq c x.Ccy) l (mGet seq 0 c m)
 | [],m=>rfl
 | x::l,m=>by
  rw [sumsL,sumF,get_sums c l,get_put (fun h=>seq_eq2 h) seq_self];cases h:seq c x.Ccy with
  | true=>have:=seq_eq2 h; rw [←this]
  | false=>rfl
theorem get_zero(c:ByteArray):∀{m:List (ByteArray×Int)},m.all (fun x=>decide (x.2=0))=true→mGet seq 0 c m=0
 | [],_=>rfl
 | (a,w)::r,h=>by
  simp only [List.all_cons,Bool.and_eq_true,decide_eq_true_eq] at h;rw [mGet,h.1,get_zero c h.2];cases seq c a<;>rfl
theorem bal_zero{r:Qa}(h:balB r=true)(c:ByteArray):sumF (fun x=>seq c x.Ccy) r.Lines 0=0:=by
 have:=get_sums c r.Lines [];rw [get_zero c h] at this;exact this.symm
def linesOf(l:List Qa):List Qb:=l.flatMap (·.Lines)
end Go.Proofs.Ytbgjlpdeoljmiaa
namespace Go.Proofs.Ytbgjlpdeoljmiaa
set_option linter.unusedVariables false
set_option linter.unusedSimpArgs false
open Go.RowKit
theorem f67n2_at{s:ByteArray}{k:Nat}{c:UInt8}(h:s.data.toList[k]?=some c):f67n2 s (k:Int)=some (bif letterI c.toNat||(otherI c.toNat&&!decide (k=0)) then .norm else .ret):=by
 unfold f67n2 f67n3 f67n4 f67n5;rw [Qaq,h];have e:decide ((k:Int)=0)=decide (k=0):=by congr 1; apply propext; omega
 simp only [Option.bind_some,letterI,otherI,e];cases decide ((97:Int)≤(c.toNat:Int))<;>cases decide ((c.toNat:Int)≤122)<;>cases decide ((65:Int)≤(c.toNat:Int))<;>cases decide ((c.toNat:Int)≤90)<;>cases decide ((48:Int)≤(c.toNat:Int))<;>cases decide ((c.toNat:Int)≤57)<;>cases decide ((c.toNat:Int)=95)<;>cases decide ((c.toNat:Int)=45)<;>cases decide (k=0)<;>rfl
theorem f67n6_at{s:ByteArray}(hm:s.data.toList.length≤maxLen):∀(rest:List UInt8)(f k:Nat),0<k→s.data.toList.drop k=rest→rest.length<f→f67n6 f s (k:Int)=some (bif rest.all charB then .exit0 else .ret)
 | _,0,_,_,_,hf=>absurd hf (Nat.not_lt_zero _)
 | [],f+1,k,h0,hd,hf=>by
  have hk:¬((k:Int)<(s.size:Int)):=by have:=Qaj hd; rw [size_list]; omega
  rw [f67n6,decide_eq_false hk]; rfl
 | x::rest,f+1,k,h0,hd,hf=>by
  obtain ⟨hx,hl,hd'⟩:=Qx hd;have hk:(k:Int)<(s.size:Int):=by rw [size_list]; omega
  have hw:wr64 ((k:Int)+1)=((k+1:Nat):Int):=Qr (by omega) (by unfold maxLen at hm; omega);rw [f67n6,decide_eq_true hk,f67n2_at hx,hw,f67n6_at hm rest f (k+1) (by omega) hd' (by simpa using hf),List.all_cons,decide_eq_false (by omega),charB];cases letterI x.toNat<;>cases otherI x.toNat<;>rfl
theorem f67_eq(s:ByteArray)(h:s.size≤maxLen):f67 s=some (isName s.data.toList):=by
 have hs:s.data.toList.length≤maxLen:=h;have hF:s.data.toList.length<FUEL:=Qao hs;unfold f67 f67n0 f67n1;rw [size_list];cases hl:s.data.toList with
 | nil=>rfl
 | cons b r =>
  rw [hl] at hF;have h1:¬(((b::r).length:Nat):Int)<1:=by simp; omega
  rw [decide_eq_false h1];have h2:decide ((40:Int)<(((b::r).length:Nat):Int)) = !decide ((b::r).length≤40):=by rw [lt_not]; congr 1; exact dec_nat _ 40
  rw [h2];have hr:f67n6 FUEL s 0=some (bif letterI b.toNat&&r.all charB then .exit0 else .ret):=by
   have hd:s.data.toList.drop 0=b::r:=hl;obtain ⟨hx,hlt,hd'⟩:=Qx hd;have hn:=f67n2_at hx;obtain ⟨F,hF2⟩:∃F,FUEL=F+1:=⟨FUEL-1,by have:=hF; omega⟩;rw [hF2] at hF ⊢;have hk:((0:Int)<(s.size:Int)):=by rw [size_list,hl]; simp only [List.length_cons]; omega
   have ih:=f67n6_at hs r F 1 (by omega) hd' (by simpa using hF);have hw:wr64 ((0:Int)+1)=((1:Nat):Int):=rfl;simp only [Int.natCast_zero] at hn;rw [f67n6,decide_eq_true hk,hn,hw,ih];simp only [decide_true,Bool.not_true,Bool.and_false,Bool.or_false];cases letterI b.toNat<;>cases r.all charB<;>rfl
  rw [hr];simp only [cond_false,isName];cases decide ((b::r).length≤40)<;>cases letterI b.toNat<;>cases r.all charB<;>rfl

theorem f52n2L_at(r:Qa):∀(l:List UInt8)(v:Int),f52n2L r l v=some (bif (l.map fun c=>(c.toNat:Int)).all (fun c=>decide (32≤c)&&decide (c≤126)) then .exit0 else .ret)
 | [],v=>rfl
 | x::l,v=>by
  rw [f52n2L];simp only [f52n2L_at r l,lt_not,List.map_cons,List.all_cons];cases decide ((32:Int)≤(x.toNat:Int))<;>cases decide ((x.toNat:Int)≤126)<;>rfl
theorem f52n4L_at(r:Qa):∀(l:List Qb)(v:Int),(∀x∈l,Lk x)→f52n4L r l v=some (bif l.any badL then .ret else .exit2)
 | [],v,_=>rfl
 | x::l,v,h=>by
  have hx:=h x (by simp);rw [f52n4L,f67_eq _ hx.1,f67_eq _ hx.2];simp only [Option.bind_some,f52n4L_at r l _ (fun y hy=>h y (by simp [hy])),lt_not,List.any_cons,badL,within];cases isName x.Account.data.toList<;>cases isName x.Ccy.data.toList<;>cases decide (x.Amount=0)<;>cases decide ((-1125899906842624)≤x.Amount)<;>cases decide (x.Amount≤1125899906842624)<;>rfl
theorem f52_eq{r:Qa}(h:Rk r):f52 r=some (Qaw r):=by
 unfold f52 f52n0 f52n1 f52n3 Qaw textB;rw [f52n2_run r h.1,f52n2L_at,f52n4_run r h.2.1,f52n4L_at r _ _ h.2.2];have e:ofB r.Text=r.Text.data.toList.map (fun c=>(c.toNat:Int)):=rfl;have h2:decide ((r.Text.size:Int)≤100)=decide (r.Text.size≤100):=dec_nat _ 100;have h3:decide ((2:Int)≤(r.Lines.length:Int))=decide (2≤r.Lines.length):=dec_nat 2 _;have h4:decide ((r.Lines.length:Int)≤20)=decide (r.Lines.length≤20):=dec_nat _ 20;simp only [Option.bind_some,lt_not,h2,h3,h4,e];cases (r.Text.data.toList.map (fun c=>(c.toNat:Int))).all (fun c=>decide (32≤c)&&decide (c≤126))<;>cases decide (0≤r.Day)<;>cases decide (r.Day≤99999)<;>cases decide (r.Text.size≤100)<;>cases decide (2≤r.Lines.length)<;>cases decide (r.Lines.length≤20)<;>cases r.Lines.any badL<;>rfl
theorem seq_comm(a b:ByteArray):seq a b=seq b a:=by simp only [seq]; congr 1; apply propext; exact eq_comm
theorem f53n4L_at{r:Qa}{k:Nat}{y:Qb}(hy:r.Lines[k]?=some y):∀(l:List Qb)(s v:Int),f53n4L (k:Int) r l s v=some (.exit2 (sumF (fun x=>seq y.Ccy x.Ccy) l s))
 | [],s,v=>rfl
 | x::l,s,v=>by
  rw [f53n4L,Qaq,hy,sumF];simp only [Option.bind_some,f53n4L_at hy l,seq_comm x.Ccy];cases seq y.Ccy x.Ccy<;>rfl
theorem f53n5_at{r:Qa}(hm:r.Lines.length≤maxLen):∀(rest:List Qb)(f k:Nat),r.Lines.drop k=rest→rest.length<f→f53n5 f r (k:Int)=some (bif rest.all (fun y=>decide (sumF (fun x=>seq y.Ccy x.Ccy) r.Lines 0=0)) then .exit0 else .ret)
 | _,0,_,_,hf=>absurd hf (Nat.not_lt_zero _)
 | [],f+1,k,hd,hf=>by
  have hk:¬((k:Int)<(r.Lines.length:Int)):=by have:=Qaj hd; omega
  rw [f53n5,decide_eq_false hk]; rfl
 | x::rest,f+1,k,hd,hf=>by
  obtain ⟨hx,hl,hd'⟩:=Qx hd;have hk:(k:Int)<(r.Lines.length:Int):=by omega
  have hw:wr64 ((k:Int)+1)=((k+1:Nat):Int):=Qr (by omega) (by unfold maxLen at hm; omega);have e:f53n2 (k:Int) r=some (bif decide (sumF (fun z=>seq x.Ccy z.Ccy) r.Lines 0=0) then .norm else .ret):=by
   unfold f53n2 f53n3;rw [f53n4_run _ _ _ hm,f53n4L_at hx];simp only [Option.bind_some];cases decide (sumF (fun z=>seq x.Ccy z.Ccy) r.Lines 0=0)<;>rfl
  rw [f53n5,decide_eq_true hk,e,hw,f53n5_at hm rest f (k+1) hd' (by simpa using hf),List.all_cons];cases decide (sumF (fun z=>seq x.Ccy z.Ccy) r.Lines 0=0)<;>rfl
theorem seqIff(a b:ByteArray):seq a b=true↔a=b:=⟨seq_eq2,fun h=>by rw [h]; exact seq_self b⟩
theorem sums_nd:∀(l:List Qb)(m:List (ByteArray×Int)),ndK m→ndK (sumsL l m)
 | [],m,h=>h
 | x::l,m,h=>by rw [sumsL]; exact sums_nd l _ (mputNd seqIff h)
theorem sums_key{p:ByteArray×Int} : ∀(l:List Qb)(m:List (ByteArray×Int)),p∈sumsL l m→(∃x∈l,x.Ccy=p.1)∨p∈m
 | [],m,h=>.inr h
 | x::l,m,h=>by
  rw [sumsL] at h;rcases sums_key l _ h with ⟨y,hy,e⟩ | h
  ·exact .inl ⟨y,List.mem_cons_of_mem _ hy,e⟩
  ·rcases mputMem seqIff h with rfl | h
   ·exact .inl ⟨x,List.mem_cons_self,rfl⟩
   ·exact .inr h
theorem balB_eq(r:Qa):balB r=r.Lines.all fun y=>decide (sumF (fun x=>seq y.Ccy x.Ccy) r.Lines 0=0):=by
 rw [Bool.eq_iff_iff]
 constructor
 ·intro h;rw [List.all_eq_true];intro y _;exact decide_eq_true (bal_zero h y.Ccy)
 ·intro h;rw [List.all_eq_true] at h;unfold balB;rw [List.all_eq_true]
  rintro ⟨c,w⟩ hp
  rcases sums_key r.Lines [] hp with ⟨y,hy,e⟩ | hn
  ·have h1:=of_decide_eq_true (h y hy);have h2:=get_sums c r.Lines [];have h3:=mgetMem seqIff (z:=0) (sums_nd r.Lines [] List.Pairwise.nil) hp;have e:y.Ccy=c:=e;subst e;rw [h3] at h2;exact decide_eq_true (h2.trans h1)
  ·cases hn
theorem f53_eq{r:Qa}(h:r.Lines.length≤maxLen):f53 r=some (balB r):=by
 have hr:=f53n5_at h r.Lines FUEL 0 rfl (Qao h);simp only [Int.natCast_zero] at hr;unfold f53 f53n0 f53n1;rw [hr,balB_eq];cases r.Lines.all (fun y=>decide (sumF (fun x=>seq y.Ccy x.Ccy) r.Lines 0=0))<;>rfl

def sumR(a:Qe)(l:List Qa):Int:=sumF (fun x=>Qe.eqb a (acc x)) (linesOf l) 0
theorem f55n3_at{L:List Qa}{k:Nat}{r:Qa}(hr:L[k]?=some r)(hm:r.Lines.length≤maxLen)(a c:ByteArray):∀(rest:List Qb)(f v:Nat)(s:Int),r.Lines.drop v=rest→rest.length<f→f55n3 f L a c (k:Int) s (v:Int)=some (.exit2 (sumF (fun x=>Qe.eqb ⟨a,c⟩ (acc x)) rest s))
 | _,0,_,_,_,hf=>absurd hf (Nat.not_lt_zero _)
 | [],f+1,v,s,hd,hf=>by
  have hk:¬((v:Int)<(r.Lines.length:Int)):=by have:=Qaj hd; omega
  rw [f55n3,Qaq,hr,Option.bind_some,decide_eq_false hk]; rfl
 | x::rest,f+1,v,s,hd,hf=>by
  obtain ⟨hx,hl,hd'⟩:=Qx hd;have hk:(v:Int)<(r.Lines.length:Int):=by omega
  have hw:wr64 ((v:Int)+1)=((v+1:Nat):Int):=Qr (by omega) (by unfold maxLen at hm; omega);rw [f55n3,Qaq,hr,Option.bind_some,decide_eq_true hk,Qaq,hx];simp only [cond_true,Option.bind_some,hw,fun s=>f55n3_at hr hm a c rest f (v+1) s hd' (by simpa using hf),sumF,seq_comm x.Account,seq_comm x.Ccy];show (bif seq a x.Account then bif seq c x.Ccy then _ else _ else _)=some (f55n3O.exit2 (sumF _ rest (bif (seq a x.Account&&seq c x.Ccy) then _ else _)));cases seq a x.Account<;>cases seq c x.Ccy<;>rfl
theorem f55n4_at{L:List Qa}(hL:L.length≤maxLen)(hl:∀r∈L,r.Lines.length≤maxLen)(a c:ByteArray):∀(rest:List Qa)(f k:Nat)(s:Int),L.drop k=rest→rest.length<f→f55n4 f L a c s (k:Int)=some (.exit0 (sumF (fun x=>Qe.eqb ⟨a,c⟩ (acc x)) (linesOf rest) s))
 | _,0,_,_,_,hf=>absurd hf (Nat.not_lt_zero _)
 | [],f+1,k,s,hd,hf=>by
  have hk:¬((k:Int)<(L.length:Int)):=by have:=Qaj hd; omega
  rw [f55n4,decide_eq_false hk]; rfl
 | r::rest,f+1,k,s,hd,hf=>by
  obtain ⟨hx,hlt,hd'⟩:=Qx hd;have hk:(k:Int)<(L.length:Int):=by omega
  have hw:wr64 ((k:Int)+1)=((k+1:Nat):Int):=Qr (by omega) (by unfold maxLen at hL; omega);have hrl:=hl r (List.mem_of_getElem? hx);have e:=f55n3_at hx hrl a c r.Lines FUEL 0 s rfl (Qao hrl);simp only [Int.natCast_zero] at e;rw [f55n4,decide_eq_true hk,f55n2,e];simp only [cond_true,Option.bind_some,hw];rw [f55n4_at hL hl a c rest f (k+1) _ hd' (by simpa using hf)];show _=some (f55n4O.exit0 (sumF _ (r.Lines++linesOf rest) s));rw [sumF_append]
theorem f55_eq{L:List Qa}(hL:L.length≤maxLen)(hl:∀r∈L,r.Lines.length≤maxLen)(a c:ByteArray):f55 L a c=some (sumR ⟨a,c⟩ L):=by
 have e:=f55n4_at hL hl a c L FUEL 0 0 rfl (Qao hL);simp only [Int.natCast_zero] at e;unfold f55 f55n0 f55n1;rw [e]; rfl
theorem f54n2L_at{L:List Qa}(hL:L.length≤maxLen)(hl:∀r∈L,r.Lines.length≤maxLen)(r:Qa):∀(l:List Qb)(v:Int),f54n2L L r l v=some (bif l.all (fun x=>within (sumR (acc x) L)) then .exit0 else .ret)
 | [],v=>rfl
 | x::l,v=>by
  rw [f54n2L,f55_eq hL hl];have e:within (sumR (acc x) L)=(decide ((-1125899906842624)≤sumR ⟨x.Account,x.Ccy⟩ L)&&decide (sumR ⟨x.Account,x.Ccy⟩ L≤1125899906842624)):=rfl;simp only [Option.bind_some,f54n2L_at hL hl r l,lt_not,List.all_cons,e];cases decide (sumR ⟨x.Account,x.Ccy⟩ L≤1125899906842624)<;>cases decide ((-1125899906842624)≤sumR ⟨x.Account,x.Ccy⟩ L)<;>rfl
def fitsR(p:List Qa)(r:Qa):Bool:=r.Lines.all fun x=>within (sumR (acc x) (p++[r]))
theorem f54_eq{p:List Qa}{r:Qa}(hL:(p++[r]).length≤maxLen)(hl:∀y∈p++[r],y.Lines.length≤maxLen):f54 (p++[r])=some (fitsR p r):=by
 have hlen:(p++[r]).length=p.length+1:=by simp
 have hw:wr64 (((p++[r]).length:Int)-1)=(p.length:Int):=by
  rw [hlen];rw [hlen] at hL;rw [Qr (by omega) (by unfold maxLen at hL; omega)]; omega
 have hx:(p++[r])[p.length]?=some r:=by simp
 unfold f54 f54n0 f54n1 fitsR;rw [hw,Qaq,hx];simp only [Option.bind_some];rw [f54n2_run _ _ (hl r (by simp)),f54n2L_at hL hl];simp only [Option.bind_some];cases r.Lines.all (fun x=>within (sumR (acc x) (p++[r])))<;>rfl

def lastDay(p:List Qa):Int:=match p.getLast? with
 | some r=>r.Day
 | none=>0
def okL:List Qa→List Qa→Bool
 | _,[]=>true
 | p,r::l=>Qaw r&&(balB r&&(decide (lastDay p≤r.Day)&&(fitsR p r&&okL (p++[r]) l)))
theorem lastDay_snoc(p:List Qa)(r:Qa):lastDay (p++[r])=r.Day:=by simp [lastDay]
theorem postAppend:∀(k k2:List Qb)(b:Bal),postL (k++k2) b=postL k2 (postL k b)
 | [],_,_=>rfl
 | x::k,k2,b=>by rw [List.cons_append,postL,postL,postAppend k]
theorem linesSnoc(p:List Qa)(r:Qa):linesOf (p++[r])=linesOf p++r.Lines:=by simp [linesOf]
theorem fitsM_eq(p:List Qa)(r:Qa):fitsM r.Lines (postL r.Lines (postL (linesOf p) []))=fitsR p r:=by
 have e:∀x,bal (acc x) (postL r.Lines (postL (linesOf p) []))=sumR (acc x) (p++[r]):=fun x=>by
  rw [←postAppend,←linesSnoc,bal_post]; rfl
 unfold fitsM fitsR;simp only [e]
 induction r.Lines with
 | nil=>rfl
 | cons x l ih =>
  rw [List.any_cons,List.all_cons,←ih];cases within (sumR (acc x) (p++[r]))<;>rfl
theorem openL_ok:∀(l p:List Qa),p.length+l.length≤200→(Qat l (lastDay p) (p.length:Int) (postL (linesOf p) [])).1=okL p l
 | [],p,h=>rfl
 | r::l,p,h=>by
  simp only [List.length_cons] at h;rw [Qat,okL];have hm:decide ((p.length:Int)=200)=false:=decide_eq_false (by omega);have hw:wr64 ((p.length:Int)+1)=(((p++[r]).length:Nat):Int):=by
   rw [Qr (by omega) (by omega)]; simp
  unfold addS;rw [hm,lt_not,fitsM_eq,hw];have ih:=openL_ok l (p++[r]) (by simp; omega);rw [lastDay_snoc,linesSnoc,postAppend] at ih;cases Qaw r<;>cases balB r<;>cases decide (lastDay p≤r.Day)<;>cases fitsR p r<;>first | rfl | exact ih
theorem openS_ok(j:Qh):(openS j).1=(!decide (200<j.Records.length)&&okL [] j.Records):=by
 unfold openS
 by_cases h:200<j.Records.length
 ·rw [decide_eq_true h]; rfl
 ·rw [decide_eq_false h];exact openL_ok j.Records [] (by simp; omega)
theorem f35n3_eq{j:Qh}(hj:Jk j){p l:List Qa}{r:Qa}(hs:j.Records=p++r::l):f35n3 (p.length:Int) j r=some (.norm (!(Qaw r&&(balB r&&(decide (lastDay p≤r.Day)&&fitsR p r))))):=by
 have hr:Rk r:=hj.2 r (by rw [hs]; simp);have hlen:j.Records.length=p.length+(l.length+1):=by rw [hs]; simp
 have hm:=hj.1;have hw:wr64 ((p.length:Int)+1)=((p.length+1:Nat):Int):=Qr (by omega) (by unfold maxLen at hm; omega);have hc:cutB 0 (((p.length+1:Nat)):Int) j.Records.length=true:=by simp only [cutB,Bool.and_eq_true,decide_eq_true_eq]; omega
 have htn:Int.toNat (((p.length+1:Nat)):Int)=p.length+1:=rfl;have ht:(j.Records.take (p.length+1)).drop 0=p++[r]:=by
  rw [List.drop_zero,hs];have:p++r::l=(p++[r])++l:=by simp
  rw [this,List.take_left' (by simp)]
 have h54:f54 (p++[r])=some (fitsR p r):=by
  refine f54_eq (by simp; omega) fun y hy=>?_;have:y∈j.Records:=by
   rw [hs];rcases List.mem_append.1 hy with hy | hy
   ·exact List.mem_append_left _ hy
   ·rw [List.mem_singleton.1 hy]; simp
  exact (hj.2 y this).2.1
 unfold f35n3;rw [f52_eq hr,f53_eq hr.2.1,hw,htn,ht,h54];simp only [Option.bind_some,req,hc,cond_true];cases hf:Qaw r with
 | false=>rfl
 | true =>
  have hday:=(formed_small hf).1;cases balB r with
  | false=>rfl
  | true =>
   simp only [cond_true,Bool.true_and];rcases List.eq_nil_or_concat p with rfl | ⟨q,z,rfl⟩
   ·have e1:decide ((0:Int)<(([]:List Qa).length:Int))=false:=rfl;have e2:decide (lastDay []≤r.Day)=true:=decide_eq_true hday;rw [e1,e2]; rfl
   ·rw [List.concat_eq_append] at hs hw hlen ⊢;have e1:decide ((0:Int)<((q++[z]).length:Int))=true:=decide_eq_true (by rw [List.length_append]; show (0:Int)<((q.length+1:Nat):Int); omega);have e3:wr64 (((q++[z]).length:Int)-1)=(q.length:Int):=by
     rw [List.length_append] at hlen ⊢;have hq:q.length + [z].length=q.length+1:=rfl;rw [hq] at hlen ⊢;rw [Qr (by omega) (by unfold maxLen at hm; omega)]; omega
    have e4:j.Records[q.length]?=some z:=by rw [hs]; simp
    rw [e1,e3,Qaq,e4,lastDay_snoc];simp only [cond_true,Option.bind_some,lt_not];cases decide (z.Day≤r.Day)<;>cases fitsR (q++[z]) r<;>rfl
theorem f35n4_at{j:Qh}(hj:Jk j):∀(l p:List Qa)(f:Nat),j.Records=p++l→l.length<f→f35n4 f j (p.length:Int)=some (bif okL p l then .exit0 else .ret)
 | _,_,0,_,hf=>absurd hf (Nat.not_lt_zero _)
 | [],p,f+1,hs,hf=>by
  have hk:¬((p.length:Int)<(j.Records.length:Int)):=by rw [hs]; simp
  rw [f35n4,decide_eq_false hk]; rfl
 | r::l,p,f+1,hs,hf=>by
  have hlen:j.Records.length=p.length+(l.length+1):=by rw [hs]; simp
  have hm:=hj.1;have hk:(p.length:Int)<(j.Records.length:Int):=by omega
  have hx:j.Records[p.length]?=some r:=by rw [hs]; simp
  have hw:wr64 ((p.length:Int)+1)=(((p++[r]).length:Nat):Int):=by
   rw [Qr (by omega) (by unfold maxLen at hm; omega)]; simp
  have ih:=f35n4_at hj l (p++[r]) f (by rw [hs]; simp) (by simpa using hf);rw [f35n4,decide_eq_true hk,f35n2,Qaq,hx,Option.bind_some,f35n3_eq hj hs,hw,ih,okL];simp only [cond_true,Option.bind_some];cases Qaw r<;>cases balB r<;>cases decide (lastDay p≤r.Day)<;>cases fitsR p r<;>rfl
theorem f35_eq{j:Qh}(hj:Jk j):f35 j=some (bif (openS j).1 then 0 else 8):=by
 have e:=f35n4_at hj j.Records [] FUEL rfl (Qao hj.1);simp only [List.length_nil,Int.natCast_zero] at e;have hd:decide ((200:Int)<(j.Records.length:Int))=decide (200<j.Records.length):=by congr 1; apply propext; omega
 unfold f35 f35n0 f35n1;rw [hd,e,openS_ok];cases decide (200<j.Records.length)<;>cases okL [] j.Records<;>rfl
end Go.Proofs.Ytbgjlpdeoljmiaa
namespace Go.Proofs.Ytbgjlpdeoljmiaa
set_option linter.unusedVariables false
set_option linter.unusedSimpArgs false
open Go.RowKit
def Byt(l:List Int):Prop:=∀x∈l,0≤x∧x≤255
def num:List Int→Int
 | []=>0
 | x::r=>x+256*num r
def low:Int→Nat→List Int
 | _,0=>[]
 | n,k+1=>n % 256::low (n / 256) k
theorem Byt.app{a b:List Int}(h:Byt a)(k:Byt b):Byt (a++b):=fun x hx=>(List.mem_append.1 hx).elim (h x) (k x)
theorem Byt.right{a b:List Int}(h:Byt (a++b)):Byt b:=fun x hx=>h x (List.mem_append_right _ hx)
theorem Byt.take{a:List Int}(h:Byt a)(n:Nat):Byt (a.take n):=fun x hx=>h x (List.mem_of_mem_take hx)
theorem Byt.drop{a:List Int}(h:Byt a)(n:Nat):Byt (a.drop n):=fun x hx=>h x (List.mem_of_mem_drop hx)
theorem num_nn:∀{l:List Int},Byt l→0≤num l∧num l<256 ^ l.length
 | [],_=>⟨Int.le_refl _,by decide⟩
 | x::r,h=>by
  obtain ⟨h1,h2⟩:=num_nn (l:=r) fun y hy=>h y (by simp [hy]);have hx:=h x (by simp);simp only [num,List.length_cons,Int.pow_succ];omega
theorem low_num:∀{l:List Int},Byt l→low (num l) l.length=l
 | [],_=>rfl
 | x::r,h=>by
  have ih:=low_num (l:=r) fun y hy=>h y (by simp [hy]);have hx:=h x (by simp);simp only [num,List.length_cons,low];rw [show (x+256*num r) % 256=x by omega,show (x+256*num r) / 256=num r by omega,ih]
theorem low_num'{l:List Int}{k:Nat}(h:Byt l)(hk:l.length=k):low (num l) k=l:=by subst hk; exact low_num h
theorem num_low:∀{k:Nat} {n:Int},0≤n→n<256 ^ k→num (low n k)=n
 | 0,n,h0,h=>by simp only [Int.pow_zero] at h; simp only [low,num]; omega
 | k+1,n,h0,h=>by
  rw [Int.pow_succ] at h;simp only [low,num];rw [num_low (k:=k) (n:=n / 256) (by omega) (by omega)];omega
theorem Qw:∀(k:Nat)(n:Int),(low n k).length=k
 | 0,_=>rfl
 | k+1,n=>by simp [low,Qw k]
theorem low_byt:∀(k:Nat)(n:Int),Byt (low n k)
 | 0,_=>fun x hx=>by cases hx
 | k+1,n=>fun x hx=>by
  rcases List.mem_cons.1 hx with rfl | hx
  ·omega
  ·exact low_byt k _ x hx
theorem pow_mul8(i:Nat):(2:Int) ^ (8*i)=256 ^ i:=by rw [Int.pow_mul]; rfl
theorem pow_le8{i:Nat}(h:i≤7):(256:Int) ^ i≤72057594037927936:=by
 have:i=0∨i=1∨i=2∨i=3∨i=4∨i=5∨i=6∨i=7:=by omega
 rcases this with rfl | rfl | rfl | rfl | rfl | rfl | rfl | rfl<;>decide
theorem pow_pos8(i:Nat):(0:Int)<256 ^ i:=Int.pow_pos (by decide)
theorem or_step{v x:Int}{i:Nat}(h0:0≤v)(h1:v<256 ^ i)(hx:0≤x∧x≤255)(hi:i<8) :
  IntKind.u64.wrap (BitVec.ofInt IntKind.u64.bits v ||| BitVec.ofInt IntKind.u64.bits (shlK .u64 (Qu x) (wr64 (8*(i:Int))))).toNat=v+256 ^ i*x:=by
 have hp:=pow_le8 (i:=i) (by omega);have hpp:=pow_pos8 i;have hw:wr64 (8*(i:Int))=8*(i:Int):=Qr (by omega) (by omega);have hxx:Qu x=x:=Go.IntWalk.u64_in x (by omega);have hb:IntKind.u64.bits=64:=rfl;have hsh:shlK .u64 x (8*(i:Int))=x*256 ^ i:=by
  unfold shlK;rw [hb,show min (Int.toNat (8*(i:Int))) 64=8*i by omega,pow_mul8];have h2:x*256 ^ i≤255*256 ^ i:=Int.mul_le_mul_of_nonneg_right hx.2 (Int.le_of_lt hpp);have h3:0≤x*256 ^ i:=Int.mul_nonneg hx.1 (Int.le_of_lt hpp);exact Go.IntWalk.u64_in _ ⟨h3,by omega⟩
 rw [hw,hxx,hsh,hb];obtain ⟨vn,rfl⟩:=Int.eq_ofNat_of_zero_le h0;obtain ⟨xn,rfl⟩:=Int.eq_ofNat_of_zero_le hx.1;have hpn:(256:Int) ^ i=((256 ^ i:Nat):Int):=by simp
 rw [hpn] at h1 hp ⊢;have hv:vn<256 ^ i:=by omega
 have hpl:256 ^ i≤72057594037927936:=by omega
 have hxl:xn≤255:=by omega
 have hmul:xn*256 ^ i≤255*72057594037927936:=Nat.mul_le_mul hxl hpl;rw [show ((xn:Int)*((256 ^ i:Nat):Int))=((xn*256 ^ i:Nat):Int) by simp];have e:(BitVec.ofInt 64 (vn:Int) ||| BitVec.ofInt 64 ((xn*256 ^ i:Nat):Int)).toNat=vn+256 ^ i*xn:=by
  rw [BitVec.toNat_or,BitVec.toNat_ofInt,BitVec.toNat_ofInt];have e1:(((vn:Int)) % ((2 ^ 64:Nat):Int)).toNat=vn:=by omega
  have e2:((((xn*256 ^ i:Nat):Int)) % ((2 ^ 64:Nat):Int)).toNat=xn*256 ^ i:=by omega
  rw [e1,e2];have hp2:256 ^ i=2 ^ (8*i):=by rw [Nat.pow_mul]
  have h4:=Nat.shiftLeft_add_eq_or_of_lt (b:=vn) (i:=8*i) (by rw [←hp2]; exact hv) xn;rw [Nat.shiftLeft_eq,←hp2] at h4;rw [Nat.or_comm,←h4,Nat.mul_comm,Nat.add_comm]
 rw [e];have:vn+256 ^ i*xn≤18446744073709551615:=by rw [Nat.mul_comm]; omega
 rw [show ((vn:Int)+((256 ^ i:Nat):Int)*(xn:Int))=((vn+256 ^ i*xn:Nat):Int) by simp];exact Go.IntWalk.u64_in _ (by omega)
theorem f58n2L_at(bm:Qi)(bf:Int):∀(l:List Int)(v:Int)(i:Nat),Byt l→0≤v→v<256 ^ i→i+l.length≤8→f58r1n2L bm bf l v (i:Int)=some (.exit0 (v+256 ^ i*num l))
 | [],v,i,_,_,_,_=>by simp [f58r1n2L,num]
 | x::l,v,i,hb,h0,h1,hi=>by
  simp only [List.length_cons] at hi;have hx:=hb x (by simp);have hw:wr64 (8*(i:Int))=8*(i:Int):=Qr (by omega) (by omega);have hpp:=pow_pos8 i;rw [f58r1n2L,or_step h0 h1 hx (by omega),hw,decide_eq_true (by omega)];have hm:0≤256 ^ i*x:=Int.mul_nonneg (Int.le_of_lt hpp) hx.1;have hm2:256 ^ i*x≤256 ^ i*255:=Int.mul_le_mul_of_nonneg_left hx.2 (Int.le_of_lt hpp);have hs:(256:Int) ^ (i+1)=256 ^ i*256:=Int.pow_succ ..;have ih:=f58n2L_at bm bf l (v+256 ^ i*x) (i+1) (fun y hy=>hb y (by simp [hy])) (by omega) (by rw [hs]; omega) (by omega);simp only [req,cond_true];rw [show ((i:Int)+1)=((i+1:Nat):Int) by omega,ih,hs,num]
  congr 2
  rw [Int.mul_add,←Int.mul_assoc]; omega
theorem f59_eq{k:Nat}{b:List Int} : f59r1n0 (k:Int) ⟨b⟩=if b.length<k then some .pan else some .ret:=by
 unfold f59r1n0
 by_cases h:b.length<k
 ·rw [if_pos h,decide_eq_true (by show ((b.length:Nat):Int)<(k:Int); omega)]; rfl
 ·rw [if_neg h,decide_eq_false (by show ¬((b.length:Nat):Int)<(k:Int); omega)];have h1:cutB 0 (k:Int) b.length=true:=by simp only [cutB,decide_eq_true_eq]; omega
  have h2:cutB (k:Int) (b.length:Int) b.length=true:=by simp only [cutB,decide_eq_true_eq]; omega
  simp only [cond_false,req,h1,h2,cond_true]
theorem f58_eq{k:Nat}(hk:k≤8){b:List Int}(hb:Byt b):Qav (k:Int) ⟨b⟩=if b.length<k then some .pan else some (.ret (num (b.take k))):=by
 unfold Qav f58r1n1;rw [f59_eq]
 by_cases h:b.length<k
 ·rw [if_pos h,if_pos h]; rfl
 ·rw [if_neg h,if_neg h];simp only [Option.bind_some];have hl:(b.take k).length=k:=by simp; omega
  have hM:8≤maxLen:=by unfold maxLen; decide
  rw [f58r1n2_run _ _ _ (by show ((b.take (Int.toNat (k:Int))).drop 0).length≤maxLen; rw [List.drop_zero,Int.toNat_natCast,hl]; omega)];show ((f58r1n2L ⟨b⟩ (k:Int) ((b.take (Int.toNat (k:Int))).drop 0) 0 ((0:Nat):Int)).bind _).bind _=_;rw [List.drop_zero,Int.toNat_natCast,f58n2L_at _ _ _ _ _ (hb.take k) (Int.le_refl _) (by decide) (by omega)]
  simp

theorem put_byte{x:Int}{i:Nat}(hi:i<8)(h0:0≤x):wru8 (shrK .u64 x (wr64 (8*(i:Int))))=x / 256 ^ i % 256:=by
 have hw:wr64 (8*(i:Int))=8*(i:Int):=Qr (by omega) (by omega);have hb:IntKind.u64.bits=64:=rfl;rw [hw];unfold shrK;rw [hb,show min (Int.toNat (8*(i:Int))) 64=8*i by omega,pow_mul8,Int.fdiv_eq_ediv_of_nonneg _ (Int.le_of_lt (pow_pos8 i))];show IntKind.u8.wrap _=_;rw [IntKind.wrap_u8]
theorem f40r2n3_at{k:Nat}(hk:k≤8){x:Int}(h0:0≤x)(bj:List Int)(bf:Int):∀(n f i:Nat)(pre:List Int),i+n=k→n<f→pre.length+n≤1000000→f40r2n3 f (k:Int) x bj bf (i:Int) pre=some (.exit2 (pre++low (x / 256 ^ i) n))
 | n,0,_,_,_,hf,_=>absurd hf (Nat.not_lt_zero _)
 | 0,f+1,i,pre,hi,_,_=>by rw [f40r2n3,decide_eq_false (by omega)]; simp [low]
 | n+1,f+1,i,pre,hi,hf,hp=>by
  have hw:wr64 (8*(i:Int))=8*(i:Int):=Qr (by omega) (by omega);have hw2:wr64 ((i:Int)+1)=((i+1:Nat):Int):=Qr (by omega) (by omega);have e:x / 256 ^ (i+1)=x / 256 ^ i / 256:=by rw [Int.pow_succ,Int.ediv_ediv_of_nonneg (Int.le_of_lt (pow_pos8 i))]
  have ih:=f40r2n3_at hk h0 bj bf n f (i+1) (pre++[x / 256 ^ i % 256]) (by omega) (by omega) (by simp; omega);rw [f40r2n3,decide_eq_true (by omega),put_byte (by omega) h0,hw,decide_eq_true (show (0:Int)≤8*(i:Int) by omega),hw2];simp only [cond_true,req,Qaf (show pre.length+1≤1000000 by omega) (show 1≤1000000 by omega)];rw [ih,e,List.append_assoc]; rfl
theorem f40r2_eq{k:Nat}(hk:k≤8){x:Int}(h0:0≤x){pre:List Int}(hp:pre.length≤900000):f40r2 (k:Int) pre [x]=some (pre++low x k):=by
 have hF:100<FUEL:=by unfold FUEL; decide
 have hF2:FUEL=18446744073709551615+1:=rfl;have e:=f40r2n3_at hk h0 [x] 0 k FUEL 0 pre (by omega) (by omega) (by omega);simp only [Int.natCast_zero,Int.pow_zero,Int.ediv_one] at e;have e2:f40r2n2 (k:Int) [x] 0 pre=some (.norm (pre++low x k)):=by
  unfold f40r2n2;show ((some x).bind _)=_;simp only [Option.bind_some,e]
 have e3:∀f:Nat,f40r2n4 (f+1) (k:Int) [x] 1 (pre++low x k)=some (.exit0 (pre++low x k)):=fun f=>by
  rw [f40r2n4]; rfl
 unfold f40r2 f40r2n0 f40r2n1;rw [hF2,f40r2n4,decide_eq_true (by simp),e2];have hw:wr64 (0+1)=1:=by decide
 simp only [cond_true,Option.bind_some,hw];rw [show (18446744073709551615:Nat)=18446744073709551614+1 from rfl,e3]; rfl
theorem f40r1n3_at{k:Nat}(hk:k≤8){x:Int}(h0:0≤x)(bj:List Int)(bf:Int):∀(n f i:Nat)(pre:List Int),i+n=k→n<f→pre.length+n≤1000000→f40r1n3 f (k:Int) x bj bf (i:Int) pre=some (.exit2 (pre++low (x / 256 ^ i) n))
 | n,0,_,_,_,hf,_=>absurd hf (Nat.not_lt_zero _)
 | 0,f+1,i,pre,hi,_,_=>by rw [f40r1n3,decide_eq_false (by omega)]; simp [low]
 | n+1,f+1,i,pre,hi,hf,hp=>by
  have hw:wr64 (8*(i:Int))=8*(i:Int):=Qr (by omega) (by omega);have hw2:wr64 ((i:Int)+1)=((i+1:Nat):Int):=Qr (by omega) (by omega);have e:x / 256 ^ (i+1)=x / 256 ^ i / 256:=by rw [Int.pow_succ,Int.ediv_ediv_of_nonneg (Int.le_of_lt (pow_pos8 i))]
  have ih:=f40r1n3_at hk h0 bj bf n f (i+1) (pre++[x / 256 ^ i % 256]) (by omega) (by omega) (by simp; omega);rw [f40r1n3,decide_eq_true (by omega),put_byte (by omega) h0,hw,decide_eq_true (show (0:Int)≤8*(i:Int) by omega),hw2];simp only [cond_true,req,Qaf (show pre.length+1≤1000000 by omega) (show 1≤1000000 by omega)];rw [ih,e,List.append_assoc]; rfl
theorem f40r1_eq{x y:Int}(h0:0≤x)(h1:0≤y):f40r1 4 [x,y]=some (low x 4++low y 4):=by
 have hF:100<FUEL:=by unfold FUEL; decide
 have hF2:FUEL=18446744073709551615+1:=rfl;have e:=f40r1n3_at (k:=4) (by decide) h0 [x,y] 0 4 FUEL 0 [] (by omega) (by omega) (by simp);have e':=f40r1n3_at (k:=4) (by decide) h1 [x,y] 1 4 FUEL 0 (low x 4) (by omega) (by omega) (by simp [Qw]);simp only [Int.natCast_zero,Int.pow_zero,Int.ediv_one,List.nil_append] at e e';have e2:f40r1n2 4 [x,y] 0 []=some (.norm (low x 4)):=by
  unfold f40r1n2;show ((some x).bind _)=_;simp only [Option.bind_some];rw [show f40r1n3 FUEL 4 x [x,y] 0 0 []=_ from e]; rfl
 have e2':f40r1n2 4 [x,y] 1 (low x 4)=some (.norm (low x 4++low y 4)):=by
  unfold f40r1n2;show ((some y).bind _)=_;simp only [Option.bind_some];rw [show f40r1n3 FUEL 4 y [x,y] 1 0 (low x 4)=_ from e']; rfl
 have e3:∀f:Nat,f40r1n4 (f+1) 4 [x,y] 2 (low x 4++low y 4)=some (.exit0 (low x 4++low y 4)):=fun f=>by
  rw [f40r1n4]; rfl
 unfold f40r1 f40r1n0 f40r1n1;have hw:wr64 (0+1)=1:=by decide
 have hw2:wr64 (1+1)=2:=by decide
 rw [hF2,f40r1n4,decide_eq_true (by simp),e2];simp only [cond_true,Option.bind_some,hw];rw [show (18446744073709551615:Nat)=18446744073709551613+1+1 from rfl,f40r1n4,decide_eq_true (by simp),e2'];simp only [cond_true,Option.bind_some,hw2];rw [e3]; rfl

def strB(s:ByteArray):List Int:=(s.size:Int)::ofB s
theorem ofB_byt(s:ByteArray):Byt (ofB s):=fun x hx=>by
 unfold ofB at hx;obtain ⟨c,_,rfl⟩:=List.mem_map.1 hx;have:=c.toNat_lt;omega
theorem sOf_ofB(s:ByteArray):sOf (ofB s)=s:=by
 have:toB (ofB s)=s.data.toList:=by
  unfold toB ofB;rw [List.map_map]
  conv=>rhs; rw [←List.map_id s.data.toList]
  apply List.map_congr_left
  intro c _
  simp
 unfold sOf;rw [this]
theorem ofB_sOf:∀{l:List Int},Byt l→ofB (sOf l)=l:=fun {l} h=>by
 unfold ofB sOf toB;simp only [List.map_map]
 conv=>rhs; rw [←List.map_id l]
 apply List.map_congr_left
 intro x hx;have:=h x hx;simp only [Function.comp,id_eq,UInt8.toNat_ofNat'];omega
theorem size_sOf(l:List Int):(sOf l).size=l.length:=by
 show (sOf l).data.size=_;simp [sOf,toB]
theorem Qce(s:ByteArray):(strB s).length=s.size+1:=by simp [strB,len_ofB]
theorem strB_byt{s:ByteArray}(h:s.size≤255):Byt (strB s):=fun x hx=>by
 rcases List.mem_cons.1 hx with rfl | hx
 ·omega
 ·exact ofB_byt s x hx
theorem f56_eq{s:ByteArray}(h:s.size≤255){pre:List Int}(hp:pre.length≤900000):f56r1 s pre=some (pre++strB s):=by
 unfold f56r1 f56r1n0;have hw:wru8 (s.size:Int)=(s.size:Int):=Go.IntWalk.u8_in _ (by omega);rw [hw];simp only [req,Qaf (show pre.length+1≤1000000 by omega) (show 1≤1000000 by omega),cond_true];have hf:fit ((pre++[(s.size:Int)]).length+(ofB s).length) 1=true:=Qaf (by simp [len_ofB]; omega) (by omega);cases he:(ofB s).isEmpty with
 | true =>
  have:ofB s=[]:=by simpa using he
  simp [strB,this]
 | false=>simp only [cond_false,hf,cond_true,Option.bind_some,strB,List.append_assoc]; rfl
theorem f68_eq{b:List Int}(hb:Byt b):f68r1n0 ⟨b⟩=match b with
  | []=>some (.pan ⟨[]⟩)
  | n::r=>if r.length<n.toNat then some (.pan ⟨r⟩) else some (.ret (sOf (r.take n.toNat)) ⟨r.drop n.toNat⟩):=by
 unfold f68r1n0;have e:=f58_eq (k:=1) (by decide) hb;rw [show Qav 1 ⟨b⟩=_ from e];cases b with
 | nil=>rfl
 | cons n r =>
  have hn:=hb n (by simp);have hw:wr64 (n+256*0)=((n.toNat:Nat):Int):=by rw [Qr (by omega) (by omega)]; omega
  simp only [List.length_cons];rw [if_neg (by omega)];simp only [Option.bind_some,List.take_succ_cons,List.take_zero,num,hw,Int.toNat_natCast];show (match (f59r1n0 ((n.toNat:Nat):Int) ⟨r⟩).bind _ with | x=>x)=_
  rw [f59_eq]
  by_cases h:r.length<n.toNat
  ·rw [if_pos h,if_pos h]; rfl
  ·rw [if_neg h,if_neg h];simp only [Option.bind_some,List.drop_zero]; rfl
theorem read_str{b:List Int}(hb:Byt b):(∃r,f68r1n0 ⟨b⟩=some (.pan r))∨∃s r,f68r1n0 ⟨b⟩=some (.ret s ⟨r⟩)∧b=strB s++r∧s.size≤255:=by
 rw [f68_eq hb];cases b with
 | nil=>exact .inl ⟨_,rfl⟩
 | cons n r =>
  have hn:=hb n (by simp)
  by_cases h:r.length<n.toNat
  ·simp only [if_pos h]; exact .inl ⟨_,rfl⟩
  ·simp only [if_neg h];refine .inr ⟨_,_,rfl,?_,?_⟩
   ·have hl:(r.take n.toNat).length=n.toNat:=by simp; omega
    unfold strB;rw [size_sOf,hl,ofB_sOf (fun x hx=>hb x (List.mem_cons_of_mem _ (List.mem_of_mem_take hx))),List.cons_append,List.take_append_drop]
    congr 1; omega
   ·rw [size_sOf]; simp; omega
theorem write_str{s:ByteArray}(h:s.size≤255){r:List Int}(hr:Byt r):f68r1n0 ⟨strB s++r⟩=some (.ret s ⟨r⟩):=by
 rw [f68_eq ((strB_byt h).app hr)];simp only [strB,List.cons_append];have hl:(ofB s).length=s.size:=len_ofB s;rw [if_neg (by simp [hl])];rw [Int.toNat_natCast,←hl,List.take_left',List.drop_left',sOf_ofB]<;>rfl
end Go.Proofs.Ytbgjlpdeoljmiaa
namespace Go.Proofs.Ytbgjlpdeoljmiaa
set_option linter.unusedVariables false
set_option linter.unusedSimpArgs false
open Go.RowKit
theorem u64_of_i64{a:Int}(h:-9223372036854775808≤a∧a≤9223372036854775807):wr64 (Qu a)=a∧0≤Qu a∧Qu a≤18446744073709551615:=by
 show IntKind.i64.wrap (IntKind.u64.wrap a)=a∧0≤IntKind.u64.wrap a∧IntKind.u64.wrap a≤18446744073709551615;rw [IntKind.wrap_u64,IntKind.wrap_i64]; omega
theorem i64_of_u64{u:Int}(h:0≤u∧u≤18446744073709551615):Qu (wr64 u)=u∧-9223372036854775808≤wr64 u∧wr64 u≤9223372036854775807:=by
 show IntKind.u64.wrap (IntKind.i64.wrap u)=u∧-9223372036854775808≤IntKind.i64.wrap u∧IntKind.i64.wrap u≤9223372036854775807;rw [IntKind.wrap_i64,IntKind.wrap_u64]; omega
theorem wru_rng(n:Int):0≤Qu n∧Qu n≤18446744073709551615:=by
 show 0≤IntKind.u64.wrap n∧IntKind.u64.wrap n≤18446744073709551615;rw [IntKind.wrap_u64]; omega
theorem wru_id{n:Int}(h:0≤n)(h2:n≤18446744073709551615):Qu n=n:=Go.IntWalk.u64_in n ⟨h,h2⟩

def Qas(x:Qb):List Int:=strB x.Account++(strB x.Ccy++low (Qu x.Amount) 8)
def pay(n:Int)(r:Qa):List Int:=low n 4++(low r.Day 4++(strB r.Text++((r.Lines.length:Int)::r.Lines.flatMap Qas)))
def Lsm(x:Qb):Prop:=x.Account.size≤255∧x.Ccy.size≤255∧-9223372036854775808≤x.Amount∧x.Amount≤9223372036854775807
def Rsm(r:Qa):Prop:=0≤r.Day∧r.Day<4294967296∧r.Text.size≤255∧r.Lines.length≤255∧∀x∈r.Lines,Lsm x
theorem lineB_len{x:Qb}(h:Lsm x):(Qas x).length≤520:=by
 have h1:=h.1; have h2:=h.2.1;simp only [Qas,List.length_append,Qce,Qw]; omega
theorem lineB_byt{x:Qb}(h:Lsm x):Byt (Qas x):=(strB_byt h.1).app ((strB_byt h.2.1).app (low_byt 8 _))
theorem lines_len:∀{l:List Qb},(∀x∈l,Lsm x)→(l.flatMap Qas).length≤520*l.length
 | [],_=>by simp
 | x::l,h=>by
  have:=lines_len (l:=l) fun y hy=>h y (by simp [hy]);have:=lineB_len (h x (by simp));simp only [List.flatMap_cons,List.length_append,List.length_cons]; omega
theorem lines_byt:∀{l:List Qb},(∀x∈l,Lsm x)→Byt (l.flatMap Qas)
 | [],_=>fun x hx=>by simp at hx
 | x::l,h=>by
  rw [List.flatMap_cons];exact (lineB_byt (h x (by simp))).app (lines_byt fun y hy=>h y (by simp [hy]))
theorem pay_len{n:Int}{r:Qa}(h:Rsm r):(pay n r).length≤140000:=by
 have h1:=lines_len h.2.2.2.2;have h2:=h.2.2.1; have h3:=h.2.2.2.1;simp only [pay,List.length_append,Qw,Qce,List.length_cons]; omega
theorem pay_byt{n:Int}{r:Qa}(h:Rsm r):Byt (pay n r):=by
 have h3:=h.2.2.2.1;refine (low_byt 4 _).app ((low_byt 4 _).app ((strB_byt h.2.2.1).app fun x hx=>?_));rcases List.mem_cons.1 hx with rfl | hx
 ·omega
 ·exact lines_byt h.2.2.2.2 x hx
theorem f39n2L_at(bb:Qa):∀(l:List Qb)(v:Int)(acc:List Int),(∀x∈l,Lsm x)→acc.length+520*l.length≤800000→f39r1n2L bb l v acc=some (.exit0 (acc++l.flatMap Qas))
 | [],v,acc,_,_=>by rw [f39r1n2L]; simp
 | x::l,v,acc,h,hl=>by
  have hx:=h x (by simp);have h1:=hx.1; have h2:=hx.2.1;simp only [List.length_cons] at hl;have hu:=u64_of_i64 hx.2.2;rw [f39r1n2L,f56_eq h1 (by omega)];simp only [Option.bind_some];rw [f56_eq h2 (by simp only [List.length_append,Qce]; omega)];simp only [Option.bind_some];rw [show f40r2 8 _ [Qu x.Amount]=_ from f40r2_eq (k:=8) (by decide) hu.2.1 (by simp only [List.length_append,Qce]; omega)];simp only [Option.bind_some];rw [f39n2L_at bb l _ _ (fun y hy=>h y (by simp [hy])) (by simp only [List.length_append,Qce,Qw]; omega)];simp only [List.flatMap_cons,Qas,List.append_assoc]
theorem f39_eq{n:Int}{r:Qa}(h:Rsm r)(h0:0≤n)(h1:n<4294967296):f39r1 n r=some (pay n r):=by
 have hd:=h.1; have hd2:=h.2.1;have ht:=h.2.2.1; have hl:=h.2.2.2.1;have hM:255≤maxLen:=by unfold maxLen; decide
 unfold f39r1 f39r1n0 f39r1n1;rw [wru_id h0 (by omega),wru_id h.1 (by omega),f40r1_eq h0 h.1];simp only [Option.bind_some];rw [f56_eq ht (by simp only [List.length_append,Qw]; omega)];simp only [Option.bind_some];rw [show fit ((low n 4++low r.Day 4++strB r.Text).length+1) 1=true from Qaf (by simp only [List.length_append,Qw,Qce]; omega) (by omega)];have hw:wru8 (r.Lines.length:Int)=(r.Lines.length:Int):=Go.IntWalk.u8_in _ (by omega);simp only [req,cond_true,hw];rw [f39r1n2_run _ _ (by omega),f39n2L_at _ _ _ _ h.2.2.2.2 (by simp only [List.length_append,Qw,Qce,List.length_cons,List.length_nil]; omega)];simp only [Option.bind_some,pay,List.append_assoc]; rfl

theorem f20n2_at(a:Int)(bj:List Int):∀(n f i:Nat)(v:Int),i+n=8→n<f→0≤v∧v≤18446744073709551615→∃h,f20n2 f a bj v (i:Int)=some (.exit0 h)∧0≤h∧h≤18446744073709551615
 | n,0,_,_,_,hf,_=>absurd hf (Nat.not_lt_zero _)
 | 0,f+1,i,v,hi,_,hv=>⟨v,by rw [f20n2,decide_eq_false (by omega)]; rfl,hv⟩
 | n+1,f+1,i,v,hi,hf,hv=>by
  have hw:wr64 (8*(i:Int))=8*(i:Int):=Qr (by omega) (by omega);have hw2:wr64 ((i:Int)+1)=((i+1:Nat):Int):=Qr (by omega) (by omega);rw [f20n2,decide_eq_true (by omega),hw,decide_eq_true (show (0:Int)≤8*(i:Int) by omega),hw2];simp only [cond_true,req];exact f20n2_at a bj n f (i+1) _ (by omega) (by omega) (wru_rng _)
theorem f20n4L_at(bj:List Int):∀(l:List Int)(v i:Int),0≤v∧v≤18446744073709551615→∃h,f20n4L bj l v i=some (.exit2 h)∧0≤h∧h≤18446744073709551615
 | [],v,i,hv=>⟨v,rfl,hv⟩
 | x::l,v,i,hv=>by rw [f20n4L]; exact f20n4L_at bj l _ _ (wru_rng _)
noncomputable def stm(s:Int)(l:List Int):Int:=(f20 s l).getD 0
theorem f20_eq(s:Int){l:List Int}(h:l.length≤maxLen):f20 s l=some (stm s l)∧0≤stm s l∧stm s l≤18446744073709551615:=by
 have hF:100<FUEL:=by unfold FUEL; decide
 obtain ⟨a,e1,h1⟩:=f20n2_at s l 8 FUEL 0 14695981039346656037 (by omega) (by omega) (by omega);obtain ⟨b,e2,h2⟩:=f20n4L_at l l a 0 h1;simp only [Int.natCast_zero] at e1;have:f20 s l=some b:=by
  unfold f20 f20n0 f20n1 f20n3;rw [e1];simp only [Option.bind_some];rw [f20n4_run _ _ h,e2]; rfl
 unfold stm;rw [this];exact ⟨rfl,h2⟩

theorem lines_read(a1 a2 a4:Int)(a5:ByteArray){m:Nat}(hm:m≤255):∀(n f v:Nat)(b:List Int)(acc:List Qb),v+n=m→n<f→acc.length+n≤1000→Byt b →
  (∃r,f60r1n2 f a1 a2 (m:Int) a4 a5 (v:Int) ⟨b⟩ acc=some (.pan r))∨∃ls r,f60r1n2 f a1 a2 (m:Int) a4 a5 (v:Int) ⟨b⟩ acc=some (.exit0 ⟨r⟩ (acc++ls))∧b=ls.flatMap Qas++r∧ls.length=n∧(∀x∈ls,Lsm x)∧Byt r
 | n,0,_,_,_,_,hf,_,_=>absurd hf (Nat.not_lt_zero _)
 | 0,f+1,v,b,acc,hv,_,_,hb=>.inr ⟨[],b,by rw [f60r1n2,decide_eq_false (by omega),List.append_nil]; rfl,rfl,rfl,fun x hx=>by simp at hx,hb⟩
 | n+1,f+1,v,b,acc,hv,hf,ha,hb=>by
  rw [f60r1n2,decide_eq_true (by omega)];simp only [cond_true];rcases read_str hb with ⟨r,e⟩|⟨s,b1,e,h1,h2⟩
  ·rw [e]; exact .inl ⟨r,rfl⟩
  ·subst h1;have hb1:=hb.right;rw [e];simp only [Option.bind_some];rcases read_str hb1 with ⟨r,e2⟩|⟨t,b2,e2,h3,h4⟩
   ·rw [e2]; exact .inl ⟨r,rfl⟩
   ·subst h3;have hb2:=hb1.right;rw [e2];simp only [Option.bind_some];rw [show Qav 8 ⟨b2⟩=_ from f58_eq (k:=8) (by decide) hb2]
    by_cases hl:b2.length<8
    ·rw [if_pos hl]; exact .inl ⟨_,rfl⟩
    ·rw [if_neg hl];simp only [Option.bind_some,req,Qaf (show acc.length+1≤1000000 by omega) (show 40≤1000000 by omega),cond_true];have hw:Qu ((v:Int)+1)=((v+1:Nat):Int):=wru_id (by omega) (by omega);have hn:=num_nn (hb2.take 8);have hl8:(b2.take 8).length=8:=by simp; omega
     rw [hl8] at hn;have hp:(256:Int) ^ 8=18446744073709551616:=by decide
     have hi:=i64_of_u64 (u:=num (b2.take 8)) (by omega);have hlow:low (Qu (wr64 (num (b2.take 8)))) 8=b2.take 8:=by
      rw [hi.1]; exact low_num' (hb2.take 8) hl8
     rw [hw];have hdr:(8:Int).toNat=8:=rfl;rcases lines_read a1 a2 a4 a5 hm n f (v+1) (b2.drop 8) (acc++[⟨s,t,wr64 (num (b2.take 8))⟩]) (by omega) (by omega) (by simp; omega) (hb2.drop 8) with ⟨r,e3⟩|⟨ls,r,e3,k1,k2,k3,k4⟩
     ·exact .inl ⟨r,e3⟩
     ·refine .inr ⟨⟨s,t,wr64 (num (b2.take 8))⟩::ls,r,by rw [hdr,e3,List.append_assoc]; rfl,?_,by simp [k2],fun x hx=>?_,k4⟩
      ·simp only [List.flatMap_cons,Qas,hlow,List.append_assoc];rw [←k1,List.take_append_drop]
      ·rcases List.mem_cons.1 hx with rfl | hx
       ·exact ⟨h2,h4,hi.2⟩
       ·exact k3 x hx
theorem lines_write(a1 a2 a4:Int)(a5:ByteArray){m:Nat}(hm:m≤255):∀(ls:List Qb)(f v:Nat)(r:List Int)(acc:List Qb),v+ls.length=m→ls.length<f→acc.length+ls.length≤1000→(∀x∈ls,Lsm x)→Byt r →
  f60r1n2 f a1 a2 (m:Int) a4 a5 (v:Int) ⟨ls.flatMap Qas++r⟩ acc=some (.exit0 ⟨r⟩ (acc++ls))
 | _,0,_,_,_,_,hf,_,_,_=>absurd hf (Nat.not_lt_zero _)
 | [],f+1,v,r,acc,hv,_,_,_,_=>by
  rw [f60r1n2,decide_eq_false (by simp at hv; omega),List.append_nil]; rfl
 | x::ls,f+1,v,r,acc,hv,hf,ha,h,hr=>by
  simp only [List.length_cons] at hv hf ha;have hx:=h x (by simp);have hls:∀y∈ls,Lsm y:=fun y hy=>h y (by simp [hy]);have hu:=u64_of_i64 hx.2.2;have hrest:Byt (ls.flatMap Qas++r):=(lines_byt hls).app hr;have hw:Qu ((v:Int)+1)=((v+1:Nat):Int):=wru_id (by omega) (by omega);rw [f60r1n2,decide_eq_true (by omega)];simp only [cond_true,List.flatMap_cons,Qas,List.append_assoc];rw [write_str hx.1 ((strB_byt hx.2.1).app ((low_byt 8 _).app hrest))];simp only [Option.bind_some];rw [write_str hx.2.1 ((low_byt 8 _).app hrest)];simp only [Option.bind_some];rw [show Qav 8 ⟨low (Qu x.Amount) 8++(ls.flatMap Qas++r)⟩=_ from f58_eq (k:=8) (by decide) ((low_byt 8 _).app hrest),if_neg (by simp [Qw])];have ht:(low (Qu x.Amount) 8++(ls.flatMap Qas++r)).take 8=low (Qu x.Amount) 8:=List.take_left' (Qw 8 _)
  have hd:(low (Qu x.Amount) 8++(ls.flatMap Qas++r)).drop (8:Int).toNat=ls.flatMap Qas++r:=List.drop_left' (Qw 8 _);have hp:(256:Int) ^ 8=18446744073709551616:=by decide
  rw [ht,num_low hu.2.1 (by omega)];simp only [Option.bind_some,hu.1,req,Qaf (show acc.length+1≤1000000 by omega) (show 40≤1000000 by omega),cond_true,hd,hw];rw [lines_write a1 a2 a4 a5 hm ls f (v+1) r _ (by omega) (by omega) (by simp; omega) hls hr,List.append_assoc]; rfl

theorem rec_read{n:Int}(h0:0≤n)(h1:n<4294967296){p:List Int}(hp:Byt p) :
  (∃r,f60r1n0 n ⟨p⟩=some (.pan r))∨∃is r d t ls,f60r1n0 n ⟨p⟩=some (.ret is r d t ls)∧(is=true→p=pay n ⟨d,t,ls⟩∧Rsm ⟨d,t,ls⟩):=by
 unfold f60r1n0;rw [show Qav 4 ⟨p⟩=_ from f58_eq (k:=4) (by decide) hp]
 by_cases hl:p.length<4
 ·rw [if_pos hl]; exact .inl ⟨_,rfl⟩
 ·rw [if_neg hl];simp only [Option.bind_some];have h4:(4:Int).toNat=4:=rfl;rw [h4,show Qav 4 ⟨p.drop 4⟩=_ from f58_eq (k:=4) (by decide) (hp.drop 4)]
  by_cases hl2:(p.drop 4).length<4
  ·rw [if_pos hl2]; exact .inl ⟨_,rfl⟩
  ·rw [if_neg hl2];simp only [Option.bind_some];rcases read_str ((hp.drop 4).drop 4) with ⟨r,e⟩|⟨t,b,e,k1,k2⟩
   ·rw [e]; exact .inl ⟨r,rfl⟩
   ·rw [e];simp only [Option.bind_some];have hb:Byt b:=by have:=(hp.drop 4).drop 4; rw [k1] at this; exact this.right
    unfold f60r1n1;rw [show Qav 1 ⟨b⟩=_ from f58_eq (k:=1) (by decide) hb]
    by_cases hl3:b.length<1
    ·rw [if_pos hl3]; exact .inl ⟨_,rfl⟩
    ·rw [if_neg hl3];simp only [Option.bind_some];cases b with
     | nil=>simp at hl3
     | cons c b2 =>
      have hc:=hb c (by simp);have e1:num ((c::b2).take 1)=((c.toNat:Nat):Int):=by simp only [List.take_succ_cons,List.take_zero,num]; omega
      have e2:(c::b2).drop (1:Int).toNat=b2:=rfl;have hF:1000<FUEL:=by unfold FUEL; decide
      rw [e1,e2];have hn4:=num_nn (hp.take 4);have hn5:=num_nn ((hp.drop 4).take 4);have hl4:(p.take 4).length=4:=by simp; omega
      have hl5:((p.drop 4).take 4).length=4:=by simp at hl2 ⊢; omega
      have hp4:(256:Int) ^ 4=4294967296:=by decide
      rw [hl4,hp4] at hn4;rw [hl5,hp4] at hn5;have hw:wr64 (num ((p.drop 4).take 4))=num ((p.drop 4).take 4):=Qr (by omega) (by omega);have hwn:Qu n=n:=wru_id h0 (by omega);rcases lines_read (num (p.take 4)) n (num ((p.drop 4).take 4)) t (m:=c.toNat) (by omega) c.toNat FUEL 0 b2 [] (by omega) (by omega) (by simp; omega) (fun x hx=>hb x (by simp [hx])) with ⟨r,e3⟩|⟨ls,r,e3,k3,k4,k5,k6⟩
      ·simp only [Int.natCast_zero] at e3;rw [e3]; exact .inl ⟨_,rfl⟩
      ·simp only [Int.natCast_zero,List.nil_append] at e3;rw [e3];simp only [Option.bind_some,hw,hwn]
       by_cases hq:num (p.take 4)=n
       ·rw [decide_eq_true hq];refine .inr ⟨_,_,_,_,_,rfl,fun his=>?_⟩;have hr0:r=[]:=by
         have:=of_decide_eq_true his;have h2:((r.length:Nat):Int)=0:=this;exact List.eq_nil_of_length_eq_zero (by omega)
        subst hr0;rw [List.append_nil] at k3;refine ⟨?_,hn5.1,hn5.2,k2,by show ls.length≤255; omega,k5⟩;have s1:low n 4=p.take 4:=by rw [←hq]; exact low_num' (hp.take 4) hl4
        have s2:low (num ((p.drop 4).take 4)) 4=(p.drop 4).take 4:=low_num' ((hp.drop 4).take 4) hl5;have s3:((ls.length:Nat):Int)=c:=by omega
        simp only [pay];rw [s1,s2,s3,←k3,←k1,List.take_append_drop,List.take_append_drop]
       ·rw [decide_eq_false hq];exact .inr ⟨_,_,_,_,_,rfl,fun his=>by cases his⟩
theorem rec_write{n:Int}(h0:0≤n)(h1:n<4294967296){r:Qa}(h:Rsm r):f60r1n0 n ⟨pay n r⟩=some (.ret true ⟨[]⟩ r.Day r.Text r.Lines):=by
 have hp:=pay_byt (n:=n) h;have h4:(4:Int).toNat=4:=rfl;have hp4:(256:Int) ^ 4=4294967296:=by decide
 have hl3:=h.2.2.2.1;have hd:=h.1; have hd2:=h.2.1;unfold f60r1n0;rw [show Qav 4 ⟨pay n r⟩=_ from f58_eq (k:=4) (by decide) hp,if_neg (by simp [pay,Qw])];have t1:(pay n r).take 4=low n 4:=List.take_left' (Qw 4 _);have d1:(pay n r).drop 4=low r.Day 4++(strB r.Text++((r.Lines.length:Int)::r.Lines.flatMap Qas)):=List.drop_left' (Qw 4 _);simp only [Option.bind_some];have hb1:=hp.drop 4;rw [h4,d1] at *;rw [show Qav 4 ⟨low r.Day 4++(strB r.Text++((r.Lines.length:Int)::r.Lines.flatMap Qas))⟩=_ from f58_eq (k:=4) (by decide) hb1,if_neg (by simp [Qw])];have t2:(low r.Day 4++(strB r.Text++((r.Lines.length:Int)::r.Lines.flatMap Qas))).take 4=low r.Day 4:=List.take_left' (Qw 4 _);have d2:(low r.Day 4++(strB r.Text++((r.Lines.length:Int)::r.Lines.flatMap Qas))).drop 4=strB r.Text++((r.Lines.length:Int)::r.Lines.flatMap Qas):=List.drop_left' (Qw 4 _)
 have hb2:=hb1.drop 4;simp only [Option.bind_some];rw [d2] at *;rw [write_str h.2.2.1 hb2.right];simp only [Option.bind_some];unfold f60r1n1;rw [show Qav 1 ⟨(r.Lines.length:Int)::r.Lines.flatMap Qas⟩=_ from f58_eq (k:=1) (by decide) hb2.right,if_neg (by simp)];simp only [Option.bind_some,t1,t2,num_low h0 (show n<256 ^ 4 by omega),num_low hd (show r.Day<256 ^ 4 by omega)];have e1:num (((r.Lines.length:Int)::r.Lines.flatMap Qas).take 1)=((r.Lines.length:Nat):Int):=by simp [num]
 have e2:((r.Lines.length:Int)::r.Lines.flatMap Qas).drop (1:Int).toNat=r.Lines.flatMap Qas++[]:=by simp
 have hF:1000<FUEL:=by unfold FUEL; decide
 have hw:=lines_write n n r.Day r.Text (m:=r.Lines.length) hl3 r.Lines FUEL 0 [] [] (by omega) (by omega) (by simp; omega) h.2.2.2.2 (fun x hx=>by cases hx);simp only [Int.natCast_zero,List.nil_append] at hw;rw [e1,e2,hw];simp only [Option.bind_some];rw [wru_id h0 (by omega),decide_eq_true rfl,Qr (by omega) (by omega)]; rfl

theorem next_read{n:Int}(h0:0≤n)(h1:n<4294967296)(s:Int){b:List Int}(hb:Byt b)(hl:b.length≤1000000) :
  ∃rd d t now is ls,f43r1 n s ⟨b⟩=some (rd,d,t,now,is,ls)∧(is=true→∃rest,rd=⟨rest⟩∧Rsm ⟨d,t,ls⟩∧now=stm s (pay n ⟨d,t,ls⟩)∧b=low ((pay n ⟨d,t,ls⟩).length:Int) 4++(pay n ⟨d,t,ls⟩++(low now 8++rest))):=by
 have fail:∀{o:f43r1n0O},f43r1n0 n s ⟨b⟩=some o→(match o with | .ret _ _ _ _ is _=>is=false | .pan _ _=>True)→∃rd d t now is ls,f43r1 n s ⟨b⟩=some (rd,d,t,now,is,ls)∧(is=true→∃rest,rd=⟨rest⟩∧Rsm ⟨d,t,ls⟩∧now=stm s (pay n ⟨d,t,ls⟩)∧b=low ((pay n ⟨d,t,ls⟩).length:Int) 4++(pay n ⟨d,t,ls⟩++(low now 8++rest))):=by
  intro o ho hk;unfold f43r1;rw [ho];cases o with
  | pan a b=>exact ⟨_,_,_,_,_,_,rfl,fun h=>by cases h⟩
  | ret a b c d e f=>exact ⟨_,_,_,_,_,_,rfl,fun h=>by simp only at hk; rw [hk] at h; cases h⟩
 have h4:(4:Int).toNat=4:=rfl;have h8:(8:Int).toNat=8:=rfl;have e0:f43r1n0 n s ⟨b⟩=f43r1n0 n s ⟨b⟩:=rfl
 conv at e0=>rhs; unfold f43r1n0
 rw [show Qav 4 ⟨b⟩=_ from f58_eq (k:=4) (by decide) hb,h4] at e0
 by_cases hl1:b.length<4
 ·rw [if_pos hl1] at e0; exact fail e0 trivial
 ·rw [if_neg hl1] at e0;simp only [Option.bind_some] at e0;have hn4:=num_nn (hb.take 4);have hl4:(b.take 4).length=4:=by simp; omega
  have hp4:(256:Int) ^ 4=4294967296:=by decide
  rw [hl4,hp4] at hn4;have hwl:Qu ((b.drop 4).length:Int)=((b.drop 4).length:Int):=wru_id (by omega) (by simp; omega);rw [hwl] at e0
  by_cases hl2:((b.drop 4).length:Int)<num (b.take 4)
  ·rw [decide_eq_true hl2] at e0; exact fail e0 rfl
  ·rw [decide_eq_false hl2] at e0;obtain ⟨k,hk⟩:=Int.eq_ofNat_of_zero_le hn4.1;have hwk:wr64 (num (b.take 4))=(k:Int):=by rw [hk]; exact Qr (by omega) (by omega)
   have hkl:k≤(b.drop 4).length:=by omega
   rw [hwk] at e0;simp only [cond_false,Int.toNat_natCast,List.drop_zero] at e0;rw [f59_eq,if_neg (by omega)] at e0;simp only [Option.bind_some] at e0;have hM:1000000≤maxLen:=by unfold maxLen; decide
   have hpl:((b.drop 4).take k).length=k:=by simp at hkl ⊢; omega
   obtain ⟨es,hs⟩:=f20_eq s (l:=(b.drop 4).take k) (by simp at hkl ⊢; omega);rw [es] at e0;simp only [Option.bind_some] at e0;rw [show Qav 8 ⟨(b.drop 4).drop k⟩=_ from f58_eq (k:=8) (by decide) ((hb.drop 4).drop k),h8] at e0
   by_cases hl3:((b.drop 4).drop k).length<8
   ·rw [if_pos hl3] at e0; exact fail e0 trivial
   ·rw [if_neg hl3] at e0;simp only [Option.bind_some] at e0
    by_cases hq:num (((b.drop 4).drop k).take 8)=stm s ((b.drop 4).take k)
    ·rw [decide_eq_true hq] at e0;simp only [cond_true] at e0;rcases rec_read h0 h1 ((hb.drop 4).take k) with ⟨r,er⟩|⟨is,r,d,t,ls,er,hr⟩
     ·rw [er] at e0; exact fail e0 trivial
     ·rw [er] at e0;simp only [Option.bind_some] at e0;cases is with
      | false=>exact fail e0 rfl
      | true =>
       obtain ⟨hr1,hr2⟩:=hr rfl;unfold f43r1;rw [e0];refine ⟨_,_,_,_,_,_,rfl,fun _=>⟨_,rfl,hr2,by rw [←hr1],?_⟩⟩;rw [←hr1,hpl,←hk,←hq];have s1:low (num (b.take 4)) 4=b.take 4:=low_num' (hb.take 4) hl4;have hl8:(((b.drop 4).drop k).take 8).length=8:=by rw [List.length_take]; omega
       have s2:low (num (((b.drop 4).drop k).take 8)) 8=((b.drop 4).drop k).take 8:=low_num' (((hb.drop 4).drop k).take 8) hl8;rw [s1,s2,List.take_append_drop,List.take_append_drop,List.take_append_drop]
    ·rw [decide_eq_false hq] at e0; exact fail e0 rfl
theorem next_write{n:Int}(h0:0≤n)(h1:n<4294967296)(s:Int){r:Qa}(h:Rsm r){rest:List Int}(hr:Byt rest)(hl:rest.length≤1000000) :
  f43r1 n s ⟨low ((pay n r).length:Int) 4++(pay n r++(low (stm s (pay n r)) 8++rest))⟩=some (⟨rest⟩,r.Day,r.Text,stm s (pay n r),true,r.Lines):=by
 have hpl:=pay_len (n:=n) h;have hpb:=pay_byt (n:=n) h;have hM:1000000≤maxLen:=by unfold maxLen; decide
 obtain ⟨es,hs⟩:=f20_eq s (l:=pay n r) (by omega);have hb3:Byt (low (stm s (pay n r)) 8++rest):=(low_byt 8 _).app hr;have hb2:Byt (pay n r++(low (stm s (pay n r)) 8++rest)):=hpb.app hb3;have hb:Byt (low ((pay n r).length:Int) 4++(pay n r++(low (stm s (pay n r)) 8++rest))):=(low_byt 4 _).app hb2;have h4:(4:Int).toNat=4:=rfl;have h8:(8:Int).toNat=8:=rfl;have hp4:(256:Int) ^ 4=4294967296:=by decide
 have hp8:(256:Int) ^ 8=18446744073709551616:=by decide
 have t1:(low ((pay n r).length:Int) 4++(pay n r++(low (stm s (pay n r)) 8++rest))).take 4=low ((pay n r).length:Int) 4:=List.take_left' (Qw 4 _);have d1:(low ((pay n r).length:Int) 4++(pay n r++(low (stm s (pay n r)) 8++rest))).drop 4=pay n r++(low (stm s (pay n r)) 8++rest):=List.drop_left' (Qw 4 _);have t2:(pay n r++(low (stm s (pay n r)) 8++rest)).take (pay n r).length=pay n r:=List.take_left' rfl;have d2:(pay n r++(low (stm s (pay n r)) 8++rest)).drop (pay n r).length=low (stm s (pay n r)) 8++rest:=List.drop_left' rfl;have t3:(low (stm s (pay n r)) 8++rest).take 8=low (stm s (pay n r)) 8:=List.take_left' (Qw 8 _);have d3:(low (stm s (pay n r)) 8++rest).drop 8=rest:=List.drop_left' (Qw 8 _);unfold f43r1 f43r1n0
 rw [show Qav 4 ⟨low ((pay n r).length:Int) 4++(pay n r++(low (stm s (pay n r)) 8++rest))⟩=_ from f58_eq (k:=4) (by decide) hb,if_neg (by simp [Qw])];simp only [Option.bind_some,h4,h8,t1,d1,num_low (show (0:Int)≤((pay n r).length:Int) by omega) (show ((pay n r).length:Int)<256 ^ 4 by omega)];have hlen:(pay n r++(low (stm s (pay n r)) 8++rest)).length=(pay n r).length+(8+rest.length):=by simp [Qw]
 rw [hlen,wru_id (by omega) (by omega),decide_eq_false (by omega)];simp only [cond_false];rw [Qr (n:=((pay n r).length:Int)) (by omega) (by omega),f59_eq,if_neg (by rw [hlen]; omega)];simp only [Option.bind_some,Int.toNat_natCast,t2,d2,List.drop_zero,es];rw [show Qav 8 ⟨low (stm s (pay n r)) 8++rest⟩=_ from f58_eq (k:=8) (by decide) hb3,if_neg (by simp [Qw])];simp only [Option.bind_some,t3,d3,num_low hs.1 (show stm s (pay n r)<256 ^ 8 by omega)];simp only [decide_true,cond_true,rec_write h0 h1 h,Option.bind_some]
end Go.Proofs.Ytbgjlpdeoljmiaa
namespace Go.Proofs.Ytbgjlpdeoljmiaa
set_option linter.unusedVariables false
set_option linter.unusedSimpArgs false
open Go.RowKit
theorem name_len{l:List UInt8}(h:isName l=true):l.length≤40:=by
 cases l with
 | nil=>simp
 | cons b r=>simp only [isName,Bool.and_eq_true,decide_eq_true_eq] at h; exact h.1
theorem line_small{x:Qb}(h:badL x=false):x.Account.size≤40∧x.Ccy.size≤40∧-1125899906842624≤x.Amount∧x.Amount≤1125899906842624:=by
 simp only [badL,Bool.or_eq_false_iff,Bool.not_eq_false',within,Bool.and_eq_true,decide_eq_true_eq] at h;exact ⟨name_len h.1,name_len h.2.1,h.2.2.2.1,h.2.2.2.2⟩
theorem formed_line{r:Qa}(h:Qaw r=true){x:Qb}(hx:x∈r.Lines):badL x=false:=by
 have h1:=(formed_small h).2.2.2.2.2;cases hb:badL x with
 | false=>rfl
 | true =>
  have:r.Lines.any badL=true:=List.any_eq_true.2 ⟨x,hx,hb⟩;rw [this] at h1; cases h1
theorem formed_rsm{r:Qa}(h:Qaw r=true):Rsm r:=by
 obtain ⟨h1,h2,h3,h4,h5,h6⟩:=formed_small h;refine ⟨h1,by omega,by omega,by omega,fun x hx=>?_⟩;obtain ⟨k1,k2,k3,k4⟩:=line_small (formed_line h hx);exact ⟨by omega,by omega,by omega,by omega⟩
theorem rsm_rk{r:Qa}(h:Rsm r):Rk r:=by
 have hM:255≤maxLen:=by unfold maxLen; decide
 have h1:=h.2.2.1; have h2:=h.2.2.2.1;exact ⟨by omega,by omega,fun x hx=>by have:=h.2.2.2.2 x hx; exact ⟨by have:=this.1; omega,by have:=this.2.1; omega⟩⟩
theorem pay_small{n:Int}{r:Qa}(h:Qaw r=true):(pay n r).length≤2000∧8≤(pay n r).length:=by
 obtain ⟨h1,h2,h3,h4,h5,h6⟩:=formed_small h;have key:∀l:List Qb,(∀x∈l,badL x=false)→(l.flatMap Qas).length≤90*l.length:=by
  intro l
  induction l with
  | nil=>intro _; simp
  | cons x l ih =>
   intro h;have:=ih fun y hy=>h y (by simp [hy]);obtain ⟨k1,k2,_⟩:=line_small (h x (by simp));simp only [List.flatMap_cons,List.length_append,List.length_cons,Qas,Qce,Qw]; omega
 have:=key r.Lines fun x hx=>formed_line h hx;simp only [pay,List.length_append,Qw,Qce,List.length_cons]; omega
noncomputable def encL:List Qa→Int→Nat→List Int
 | [],_,_=>[]
 | r::l,s,k=>low ((pay ((k:Int)+1) r).length:Int) 4++(pay ((k:Int)+1) r++(low (stm s (pay ((k:Int)+1) r)) 8++encL l (stm s (pay ((k:Int)+1) r)) (k+1)))
noncomputable def stL:List Qa→Int→Nat→Int
 | [],s,_=>s
 | r::l,s,k=>stL l (stm s (pay ((k:Int)+1) r)) (k+1)
theorem encL_append:∀(a b:List Qa)(s:Int)(k:Nat),encL (a++b) s k=encL a s k++encL b (stL a s k) (k+a.length)
 | [],b,s,k=>rfl
 | r::a,b,s,k=>by
  simp only [List.cons_append,encL,stL,encL_append a b,List.append_assoc,List.length_cons];rw [show k+1+a.length=k+(a.length+1) by omega]
theorem stL_append:∀(a b:List Qa)(s:Int)(k:Nat),stL (a++b) s k=stL b (stL a s k) (k+a.length)
 | [],b,s,k=>rfl
 | r::a,b,s,k=>by
  simp only [List.cons_append,stL,stL_append a b,List.length_cons];rw [show k+1+a.length=k+(a.length+1) by omega]
structure RI (b:List Int) (used s d m:Int) (rest:List Int) (recs:List Qa) (bl:Bal):Prop where
 ho:Qat recs 0 0 []=(true,d,m,bl)
 hb:b=encL recs 0 0++rest
 hu:used=((encL recs 0 0).length:Int)
 hs:s=stL recs 0 0
 hr:Byt rest
theorem recover_at{b:List Int}(hbl:b.length≤900000):∀(n f:Nat)(used s d m:Int)(rest:List Int)(recs:List Qa)(bl:Bal),RI b used s d m rest recs bl→recs.length+n=201→n<f →
  ∃ recs' rest', f16r1n1 f b used s d m ⟨rest⟩ recs bl = some (.ret ((encL recs' 0 0).length : Int) recs') ∧ (Qat recs' 0 0 []).1 = true ∧ (∀ r ∈ recs', Rk r) ∧ b = encL recs' 0 0 ++ rest' ∧
   ∀more t,(Qat (recs++more) 0 0 []).1=true→rest=encL more s recs.length++t→∃x,recs'=recs++more++x
 | n,0,_,_,_,_,_,_,_,_,_,hf=>absurd hf (Nat.not_lt_zero _)
 | n,f+1,used,s,d,m,rest,recs,bl,hI,hn,hf=>by
  have ho1:(Qat recs 0 0 []).1=true:=by rw [hI.ho]
  obtain ⟨om1,om2⟩:=open_many ho1 (Int.le_refl _) (by decide);rw [hI.ho] at om1;simp only [Int.zero_add] at om1 om2;have hfo:∀r∈recs,Qaw r=true:=fun r hr=>(Qcy ho1 r hr).1;have hrk:∀r∈recs,Rk r:=fun r hr=>rsm_rk (formed_rsm (hfo r hr));have hrl:rest.length≤900000:=by have:=hbl; rw [hI.hb] at this; simp only [List.length_append] at this; omega
  have hw:wr64 (m+1)=(recs.length:Int)+1:=by rw [om1]; exact Qr (by omega) (by omega)
  -- it stops here
  have stop:f16r1n1 (f+1) b used s d m ⟨rest⟩ recs bl=some (.ret used recs)→(∀r more' t,(Qat (recs++r::more') 0 0 []).1=true→rest≠encL (r::more') s recs.length++t) →
    ∃ recs' rest', f16r1n1 (f + 1) b used s d m ⟨rest⟩ recs bl = some (.ret ((encL recs' 0 0).length : Int) recs') ∧ (Qat recs' 0 0 []).1 = true ∧ (∀ r ∈ recs', Rk r) ∧ b = encL recs' 0 0 ++ rest' ∧
     ∀more t,(Qat (recs++more) 0 0 []).1=true→rest=encL more s recs.length++t→∃x,recs'=recs++more++x:=by
   intro e hno;refine ⟨recs,rest,by rw [e,hI.hu],ho1,hrk,hI.hb,fun more t h1 h2=>?_⟩;cases more with
   | nil=>exact ⟨[],by simp⟩
   | cons r more'=>exact absurd h2 (hno r more' t h1)
  -- what a whole record behind it is read as
  have whole:∀r more' t,(Qat (recs++r::more') 0 0 []).1=true→rest=encL (r::more') s recs.length++t →
    f43r1 ((recs.length:Int)+1) s ⟨rest⟩=some (⟨encL more' (stm s (pay ((recs.length:Int)+1) r)) (recs.length+1)++t⟩,r.Day,r.Text,stm s (pay ((recs.length:Int)+1) r),true,r.Lines)∧(addS r d m bl).1=true∧Rsm r:=by
   intro r more' t h1 h2;have hfr:Qaw r=true:=(Qcy h1 r (by simp)).1;have hrs:=formed_rsm hfr;have hby:Byt (encL more' (stm s (pay ((recs.length:Int)+1) r)) (recs.length+1)++t):=by
    have:=hI.hr;rw [h2] at this;simp only [encL,List.append_assoc] at this;exact this.right.right.right
   refine ⟨?_,?_,hrs⟩
   ·rw [h2];simp only [encL,List.append_assoc];refine next_write (by omega) (by omega) s hrs hby ?_;rw [h2] at hrl;simp only [encL,List.length_append] at hrl ⊢; omega
   ·rw [open_append,hI.ho] at h1;simp only [cond_true] at h1;rw [Qat] at h1;cases hx:(addS r d m bl).1 with
    | true=>rfl
    | false=>rw [hx] at h1; cases h1
  obtain ⟨rd,dd,tt,now,is,ls,e,hread⟩:=next_read (n:=(recs.length:Int)+1) (by omega) (by omega) s hI.hr (by omega);have eq0:f16r1n1 (f+1) b used s d m ⟨rest⟩ recs bl=f16r1n1 (f+1) b used s d m ⟨rest⟩ recs bl:=rfl
  conv at eq0=>rhs; rw [f16r1n1]
  rw [hw,e] at eq0;simp only [Option.bind_some] at eq0;cases is with
  | false =>
   refine stop eq0 fun r more' t h1 h2=>?_;have:=(whole r more' t h1 h2).1;rw [e] at this;simp only [Option.some.injEq,Prod.mk.injEq] at this;cases this.2.2.2.2.1
  | true =>
   obtain ⟨rest2,rfl,hrs,hnow,hsplit⟩:=hread rfl;have ea:=f44r3_eq (r:=⟨dd,tt,ls⟩) (rsm_rk hrs) d m bl;simp only at ea;simp only [cond_true,ea,Option.bind_some] at eq0;cases hx:(addS ⟨dd,tt,ls⟩ d m bl).1 with
   | false =>
    rw [hx] at eq0;refine stop eq0 fun r more' t h1 h2=>?_;obtain ⟨w1,w2,_⟩:=whole r more' t h1 h2;rw [e] at w1;simp only [Option.some.injEq,Prod.mk.injEq] at w1;have:(⟨dd,tt,ls⟩:Qa)=r:=by cases r; simp only [Qa.mk.injEq]; exact ⟨w1.2.1,w1.2.2.1,w1.2.2.2.2.2⟩
    rw [this,w2] at hx; cases hx
   | true =>
    rw [hx] at eq0;have ha:=add_true hx;have hlt:recs.length<200:=by have:=ha.1; omega
    simp only [cond_true,req,Qaf (show recs.length+1≤1000000 by omega) (show 48≤1000000 by omega),ha.2.2.2.2.2] at eq0;have hfr:Qaw ⟨dd,tt,ls⟩=true:=ha.2.1;have henc:encL (recs++[⟨dd,tt,ls⟩]) 0 0=encL recs 0 0++(low ((pay ((recs.length:Int)+1) ⟨dd,tt,ls⟩).length:Int) 4++(pay ((recs.length:Int)+1) ⟨dd,tt,ls⟩++low now 8)):=by
     rw [encL_append];simp only [encL,List.append_nil,Nat.zero_add];rw [←hI.hs,←hnow]
    have hb2:b=encL (recs++[⟨dd,tt,ls⟩]) 0 0++rest2:=by
     rw [henc,hI.hb,hsplit]; simp only [List.append_assoc]
    have hw2:wr64 (m+1)=(recs.length:Int)+1:=hw;have hused:wr64 ((b.length:Int)-(rest2.length:Int))=((encL (recs++[⟨dd,tt,ls⟩]) 0 0).length:Int):=by
     have:b.length=(encL (recs++[⟨dd,tt,ls⟩]) 0 0).length+rest2.length:=by
      have h:=congrArg List.length hb2;rw [List.length_append] at h; exact h
     rw [this,Qr (by omega) (by omega)]; omega
    rw [hused] at eq0;have hI2:RI b ((encL (recs++[⟨dd,tt,ls⟩]) 0 0).length:Int) now dd (wr64 (m+1)) rest2 (recs++[⟨dd,tt,ls⟩]) (postL ls bl):=by
     refine ⟨?_,hb2,rfl,?_,?_⟩
     ·rw [open_append,hI.ho];simp only [cond_true,Qat,hx,ha.2.2.2.2.2]
     ·rw [stL_append];simp only [stL,Nat.zero_add];rw [←hI.hs,hnow]
     ·have:=hI.hr; rw [hsplit] at this; exact this.right.right.right
    obtain ⟨n',rfl⟩:∃n',n=n'+1:=⟨n-1,by omega⟩;obtain ⟨recs',rest',r1,r2,r3,r4,r5⟩:=recover_at hbl n' f _ _ _ _ _ _ _ hI2 (by simp; omega) (by omega);refine ⟨recs',rest',by rw [eq0]; exact r1,r2,r3,r4,fun more t h1 h2=>?_⟩;cases more with
    | nil =>
     obtain ⟨x,hx2⟩:=r5 [] rest2 (by rw [List.append_nil,hI2.ho]) rfl;exact ⟨⟨dd,tt,ls⟩::x,by rw [hx2]; simp⟩
    | cons r more' =>
     obtain ⟨w1,_,_⟩:=whole r more' t h1 h2;rw [e] at w1;simp only [Option.some.injEq,Prod.mk.injEq,Qi.mk.injEq] at w1;have hre:(⟨dd,tt,ls⟩:Qa)=r:=by cases r; simp only [Qa.mk.injEq]; exact ⟨w1.2.1,w1.2.2.1,w1.2.2.2.2.2⟩
     have h3:rest2=encL more' now (recs++[(⟨dd,tt,ls⟩:Qa)]).length++t:=by
      rw [w1.1,w1.2.2.2.1]; simp
     obtain ⟨x,hx2⟩:=r5 more' t (by rw [hre]; simpa using h1) h3;exact ⟨x,by rw [hx2,hre]; simp⟩
theorem recover_eq{b:List Int}(hb:Byt b)(hl:b.length≤900000):∃recs rest,f16r1 b=some (((encL recs 0 0).length:Int),recs)∧Valid ⟨recs⟩∧b=encL recs 0 0++rest ∧
  ∀more t,(Qat more 0 0 []).1=true→b=encL more 0 0++t→∃x,recs=more++x:=by
 have hF:1000<FUEL:=by unfold FUEL; decide
 obtain ⟨recs,rest,h1,h2,h3,h4,h5⟩:=recover_at hl 201 FUEL 0 0 0 0 b [] [] ⟨rfl,rfl,rfl,rfl,hb⟩ (by simp) (by omega);refine ⟨recs,rest,?_,Valid.of ⟨?_,h3⟩ h2,h4,fun more t k1 k2=>?_⟩
 ·unfold f16r1 f16r1n0;rw [h1]; rfl
 ·have:=(open_many h2 (Int.le_refl _) (by decide)).2;have hM:1000≤maxLen:=by unfold maxLen; decide
  show recs.length≤maxLen;omega
 ·obtain ⟨x,hx⟩:=h5 more t (by simpa using k1) k2;exact ⟨x,by simpa using hx⟩
theorem f18_self(l:List Int):f18 l l=some true:=by
 unfold f18 f18n0;show some (seq (sOf l) (sOf l))=_;rw [seq_self]
end Go.Proofs.Ytbgjlpdeoljmiaa
namespace Go.Proofs.Ytbgjlpdeoljmiaa
set_option linter.unusedVariables false
set_option linter.unusedSimpArgs false
open Go.RowKit
theorem f13n2L_at(ba:Qh):∀(l:List Qa)(s:Int)(k:Nat)(out:List Int),(∀r∈l,Qaw r=true)→k+l.length≤200→out.length+2012*l.length≤800000→f13n2L ba l s (k:Int) out=some (.exit0 (out++encL l s k))
 | [],s,k,out,_,_,_=>by rw [f13n2L,encL,List.append_nil]
 | r::l,s,k,out,h,hk,ho=>by
  simp only [List.length_cons] at hk ho;have hf:=h r (by simp);obtain ⟨p1,p2⟩:=pay_small (n:=(k:Int)+1) hf;have hM:1000000≤maxLen:=by unfold maxLen; decide
  obtain ⟨es,hs⟩:=f20_eq s (l:=pay ((k:Int)+1) r) (by omega);rw [f13n2L,Qr (by omega) (by omega),f39_eq (formed_rsm hf) (by omega) (by omega)];simp only [Option.bind_some,es];rw [wru_id (by omega) (by omega),show f40r2 4 out [((pay ((k:Int)+1) r).length:Int)]=_ from f40r2_eq (k:=4) (by decide) (by omega) (by omega)];have he:(pay ((k:Int)+1) r).isEmpty=false:=by
   cases hp:pay ((k:Int)+1) r with
   | nil=>rw [hp] at p2; simp at p2
   | cons a b=>rfl
  simp only [Option.bind_some,he,cond_false,req];rw [show fit ((out++low ((pay ((k:Int)+1) r).length:Int) 4).length+(pay ((k:Int)+1) r).length) 1=true from Qaf (by simp only [List.length_append,Qw]; omega) (by omega)];simp only [cond_true];rw [show f40r2 8 _ [stm s (pay ((k:Int)+1) r)]=_ from f40r2_eq (k:=8) (by decide) hs.1 (by simp only [List.length_append,Qw]; omega)];simp only [Option.bind_some];rw [show ((k:Int)+1)=((k+1:Nat):Int) by omega];rw [f13n2L_at ba l _ (k+1) _ (fun y hy=>h y (by simp [hy])) (by omega) (by simp only [List.length_append,Qw]; simp only [show ((k:Int)+1)=((k+1:Nat):Int) by omega] at p1; omega)];simp only [encL,List.append_assoc];rw [show ((k:Int)+1)=((k+1:Nat):Int) by omega]
theorem f13_eq{j:Qh}(h:Valid j):f13 j=some (encL j.Records 0 0,0):=by
 obtain ⟨k1,k2,k3⟩:=h.open;unfold f13 f13n0 f13n1;rw [f28_eq h.1,h.2];simp only [cond_true,Option.bind_some,decide_true];rw [f13n2_run _ _ _ h.1.1];have:=f13n2L_at j j.Records 0 0 [] (fun r hr=>(Qcy k3 r hr).1) (by omega) (by simp; omega);simp only [Int.natCast_zero] at this;rw [this]; rfl
theorem f13_bad{j:Qh}(h:Jk j)(hb:(openS j).1=false):f13 j=some ([],8):=by
 unfold f13 f13n0;rw [f28_eq h,hb]; rfl
end Go.Proofs.Ytbgjlpdeoljmiaa
namespace Go.Proofs.Ytbgjlpdeoljmiaa
set_option linter.unusedVariables false
set_option linter.unusedSimpArgs false
open Go.RowKit
theorem f42n2_at{k:Nat}(hk:k≤8):∀(n f i:Nat)(x:Int)(pre:List Int),i+n=k→n<f→0≤x→x≤18446744073709551615→pre.length+n≤1000→f42r1n2 f (k:Int) x (i:Int) pre=some (.exit0 (pre++low x n))
 | n,0,_,_,_,_,hf,_,_,_=>absurd hf (Nat.not_lt_zero _)
 | 0,f+1,i,x,pre,hi,_,_,_,_=>by rw [f42r1n2,decide_eq_false (by omega)]; simp [low]
 | n+1,f+1,i,x,pre,hi,hf,h0,h1,hp=>by
  have hw2:wr64 ((i:Int)+1)=((i+1:Nat):Int):=Qr (by omega) (by omega);have hd:Qu (Int.tdiv x 256)=x / 256:=by rw [Int.tdiv_eq_ediv_of_nonneg h0]; exact wru_id (by omega) (by omega)
  have hm:wru8 (Int.tmod x 256)=x % 256:=by rw [Int.tmod_eq_emod_of_nonneg h0]; exact Go.IntWalk.u8_in _ (by omega)
  have ih:=f42n2_at hk n f (i+1) (x / 256) (pre++[x % 256]) (by omega) (by omega) (by omega) (by omega) (by simp; omega);rw [f42r1n2,decide_eq_true (by omega),hd,hm,hw2];simp only [cond_true,req,Qaf (show pre.length+1≤1000000 by omega) (show 1≤1000000 by omega)];rw [ih,List.append_assoc]; rfl
theorem f42_eq{k:Nat}(hk:k≤8){x:Int}(h0:0≤x)(h1:x≤18446744073709551615):f42r1 x (k:Int)=some (low x k):=by
 have hF:100<FUEL:=by unfold FUEL; decide
 have e:=f42n2_at hk k FUEL 0 x [] (by omega) (by omega) h0 h1 (by simp; omega);simp only [Int.natCast_zero,List.nil_append] at e;unfold f42r1 f42r1n0 f42r1n1;rw [e]; rfl
theorem low_ne(x:Int)(k:Nat):(low x (k+1)).isEmpty=false:=rfl
theorem f45n2_at{l:List Int}(hb:Byt l)(hl:l.length≤8):∀(k f:Nat),k≤l.length→k<f→f45n2 f l (num (l.drop k)) ((k:Int)-1)=some (.exit0 (num l))
 | _,0,_,hf=>absurd hf (Nat.not_lt_zero _)
 | 0,f+1,_,_=>by rw [f45n2,decide_eq_false (by omega),List.drop_zero]; rfl
 | k+1,f+1,hk,hf=>by
  have hx:l[k]?=some l[k]:=List.getElem?_eq_getElem (by omega);have hd:l.drop k=l[k]::l.drop (k+1):=List.drop_eq_getElem_cons (by omega);have hn:=num_nn (hb.drop (k+1));have hxx:=hb l[k] (List.getElem_mem _);have hp:=pow_le8 (i:=(l.drop (k+1)).length) (by simp; omega);have e0:(((k+1:Nat):Int)-1)=(k:Int):=by omega
  have e1:Qu (num (l.drop (k+1))*256)=num (l.drop (k+1))*256:=wru_id (by omega) (by omega);have e2:Qu l[k]=l[k]:=wru_id (by omega) (by omega);have e3:Qu (num (l.drop (k+1))*256+l[k])=num (l.drop k):=by rw [wru_id (by omega) (by omega),hd]; simp only [num]; omega
  have e4:wr64 ((k:Int)-1)=(k:Int)-1:=Qr (by omega) (by omega);rw [f45n2,e0,decide_eq_true (by omega),Qaq,hx];simp only [cond_true,Option.bind_some,e1,e2,e3,e4];exact f45n2_at hb hl k f (by omega) (by omega)
theorem f45_eq{l:List Int}(hb:Byt l)(hl:l.length≤8):f45 l=some (num l):=by
 have hF:100<FUEL:=by unfold FUEL; decide
 have e:=f45n2_at hb hl l.length FUEL (Nat.le_refl _) (by omega);rw [List.drop_length] at e;have hw:wr64 ((l.length:Int)-1)=(l.length:Int)-1:=Qr (by omega) (by omega);unfold f45 f45n0 f45n1;rw [hw,show f45n2 FUEL l 0 ((l.length:Int)-1)=_ from e]; rfl

def xorS(v x:Int):Int:=IntKind.u64.wrap (BitVec.ofInt IntKind.u64.bits v ^^^ BitVec.ofInt IntKind.u64.bits (Qu x)).toNat
def stepF(v x:Int):Int:=Qu (xorS v x*1099511628211)
theorem f20n4L_fold(bj:List Int):∀(l:List Int)(v i:Int),f20n4L bj l v i=some (.exit2 (l.foldl stepF v))
 | [],v,i=>rfl
 | x::l,v,i=>by rw [f20n4L,f20n4L_fold bj l]; rfl
theorem f21r1n3L_fold(a b:List Int):∀(l:List Int)(v i:Int),f21r1n3L a b l v i=some (.exit0 (l.foldl stepF v))
 | [],v,i=>rfl
 | x::l,v,i=>by rw [f21r1n3L,f21r1n3L_fold a b l]; rfl
theorem f21r2n3L_fold(b:List Int):∀(l:List Int)(v i:Int),f21r2n3L b l v i=some (.exit0 (l.foldl stepF v))
 | [],v,i=>rfl
 | x::l,v,i=>by rw [f21r2n3L,f21r2n3L_fold b l]; rfl
theorem and_byte{y:Int}(h0:0≤y)(h1:y≤18446744073709551615):IntKind.u64.wrap (BitVec.ofInt IntKind.u64.bits y &&& BitVec.ofInt IntKind.u64.bits 255).toNat=Qu (y % 256):=by
 have hb:IntKind.u64.bits=64:=rfl;rw [hb,BitVec.toNat_and,BitVec.toNat_ofInt,BitVec.toNat_ofInt];obtain ⟨n,rfl⟩:=Int.eq_ofNat_of_zero_le h0;have e1:(((n:Int)) % ((2 ^ 64:Nat):Int)).toNat=n:=by omega
 have e2:(((255:Int)) % ((2 ^ 64:Nat):Int)).toNat=2 ^ 8-1:=by decide
 rw [e1,e2,Nat.and_two_pow_sub_one_eq_mod];show IntKind.u64.wrap _=IntKind.u64.wrap _
 congr 1
theorem f20n2_fold{a:Int}(h0:0≤a)(h1:a≤18446744073709551615)(bj:List Int):∀(n f i:Nat)(v:Int),i+n=8→n<f→f20n2 f a bj v (i:Int)=some (.exit0 ((low (a / 256 ^ i) n).foldl stepF v))
 | n,0,_,_,_,hf=>absurd hf (Nat.not_lt_zero _)
 | 0,f+1,i,v,hi,_=>by rw [f20n2,decide_eq_false (by omega)]; rfl
 | n+1,f+1,i,v,hi,hf=>by
  have hw:wr64 (8*(i:Int))=8*(i:Int):=Qr (by omega) (by omega);have hw2:wr64 ((i:Int)+1)=((i+1:Nat):Int):=Qr (by omega) (by omega);have hb:IntKind.u64.bits=64:=rfl;have hpp:=pow_pos8 i;have hs:shrK .u64 a (8*(i:Int))=a / 256 ^ i:=by
   unfold shrK;rw [hb,show min (Int.toNat (8*(i:Int))) 64=8*i by omega,pow_mul8,Int.fdiv_eq_ediv_of_nonneg _ (Int.le_of_lt hpp)]
  have hd0:0≤a / 256 ^ i:=Int.ediv_nonneg h0 (Int.le_of_lt hpp);have hd1:a / 256 ^ i≤a:=Int.ediv_le_self _ h0;have e:a / 256 ^ (i+1)=a / 256 ^ i / 256:=by rw [Int.pow_succ,Int.ediv_ediv_of_nonneg (Int.le_of_lt hpp)]
  rw [f20n2,decide_eq_true (by omega),hw,decide_eq_true (show (0:Int)≤8*(i:Int) by omega),hw2,hs,and_byte hd0 (by omega)];simp only [cond_true,req];rw [f20n2_fold h0 h1 bj n f (i+1) _ (by omega) (by omega),e]; rfl
def stF(s:Int)(l:List Int):Int:=(low s 8++l).foldl stepF 14695981039346656037
theorem f20_fold{s:Int}(h0:0≤s)(h1:s≤18446744073709551615){l:List Int}(h:l.length≤maxLen):f20 s l=some (stF s l):=by
 have hF:100<FUEL:=by unfold FUEL; decide
 have e:=f20n2_fold h0 h1 l 8 FUEL 0 14695981039346656037 (by omega) (by omega);simp only [Int.natCast_zero,Int.pow_zero,Int.ediv_one] at e;unfold f20 f20n0 f20n1 f20n3 stF;rw [e];simp only [Option.bind_some];rw [f20n4_run _ _ h,f20n4L_fold,List.foldl_append]; rfl
theorem stm_eq{s:Int}(h0:0≤s)(h1:s≤18446744073709551615){l:List Int}(h:l.length≤maxLen):stm s l=stF s l:=by
 unfold stm;simp only [f20_fold h0 h1 h,Option.getD_some]
theorem f21r2_eq{s:Int}(h0:0≤s)(h1:s≤18446744073709551615){l:List Int}(h:l.length≤900000):f21r2 s l=some (stF s l):=by
 have hM:1000000≤maxLen:=by unfold maxLen; decide
 have e:f21r2n1 s l=some (.norm (low s 8++l)):=by
  unfold f21r2n1;rw [show f42r1 s 8=_ from f42_eq (k:=8) (by decide) h0 h1];simp only [Option.bind_some,req,Qaf (show (low s 8).length+l.length≤1000000 by rw [Qw]; omega) (show 1≤1000000 by omega),cond_true];cases he:l.isEmpty with
  | false=>rfl
  | true =>
   have:l=[]:=by simpa using he
   rw [this,List.append_nil]; rfl
 unfold f21r2 f21r2n0 f21r2n2 stF;rw [e];simp only [Option.bind_some];rw [f21r2n3_run _ _ (by rw [List.length_append,Qw]; omega),f21r2n3L_fold]; rfl
theorem f21r1_eq{s:Int}(h0:0≤s)(h1:s≤18446744073709551615){l:List Int}(h:l.length≤900000):f21r1 s l=some (stF s l):=by
 have hM:1000000≤maxLen:=by unfold maxLen; decide
 have e:f21r1n1 s l=some (.norm (low s 8++l)):=by
  unfold f21r1n1;rw [show f42r1 s 8=_ from f42_eq (k:=8) (by decide) h0 h1];simp only [Option.bind_some,req,Qaf (show (low s 8).length+l.length≤1000000 by rw [Qw]; omega) (show 1≤1000000 by omega),cond_true];cases he:l.isEmpty with
  | false=>rfl
  | true =>
   have:l=[]:=by simpa using he
   rw [this,List.append_nil]; rfl
 unfold f21r1 f21r1n0 f21r1n2 stF;rw [e];simp only [Option.bind_some];rw [f21r1n3_run _ _ _ (by rw [List.length_append,Qw]; omega),f21r1n3L_fold]; rfl

theorem put_str{s:ByteArray}(h:s.size≤255){pre:List Int}(hp:pre.length≤900000){α:Type}(g:List Int→α):(req (fit (pre.length+1) 1) <|
  bif ((ofB s).isEmpty) then some (g (pre++[(wru8 (s.size:Int))]))
  else req (fit ((pre++[(wru8 (s.size:Int))]).length+(ofB s).length) 1) <| some (g ((pre++[(wru8 (s.size:Int))])++(ofB s))))=some (g (pre++strB s)):=by
 have hw:wru8 (s.size:Int)=(s.size:Int):=Go.IntWalk.u8_in _ (by omega);rw [hw];simp only [req,Qaf (show pre.length+1≤1000000 by omega) (show 1≤1000000 by omega),cond_true];have hf:fit ((pre++[(s.size:Int)]).length+(ofB s).length) 1=true:=Qaf (by simp [len_ofB]; omega) (by omega);cases he:(ofB s).isEmpty with
 | true =>
  have:ofB s=[]:=by simpa using he
  simp [strB,this]
 | false=>simp only [cond_false,hf,cond_true,strB,List.append_assoc]; rfl
theorem f41n7_at{r:Qa}(hr:Rsm r):∀(l:List Qb)(f k:Nat)(acc:List Int),r.Lines.drop k=l→l.length<f→acc.length+520*l.length≤800000→f41r1n7 f r (k:Int) acc=some (.exit0 (acc++l.flatMap Qas))
 | _,0,_,_,_,hf,_=>absurd hf (Nat.not_lt_zero _)
 | [],f+1,k,acc,hd,hf,_=>by
  have hk:¬((k:Int)<(r.Lines.length:Int)):=by have:=Qaj hd; omega
  rw [f41r1n7,decide_eq_false hk]; simp
 | x::l,f+1,k,acc,hd,hf,ha=>by
  obtain ⟨hx,hl,hd'⟩:=Qx hd;simp only [List.length_cons] at ha hf;have hll:=hr.2.2.2.1;have hk:(k:Int)<(r.Lines.length:Int):=by omega
  have hw:wr64 ((k:Int)+1)=((k+1:Nat):Int):=Qr (by omega) (by omega);have hxs:=hr.2.2.2.2 x (List.mem_of_getElem? hx);have h1:=hxs.1; have h2:=hxs.2.1;have hu:=u64_of_i64 hxs.2.2;have e5:f41r1n5 (k:Int) r acc x=some (.norm (acc++strB x.Account)):=put_str h1 (by omega) f41r1n5O.norm;have e6:f41r1n6 (k:Int) r (acc++strB x.Account) x=some (.norm (acc++strB x.Account++strB x.Ccy)):=put_str h2 (by simp only [List.length_append,Qce]; omega) f41r1n6O.norm;have e4:f41r1n4 (k:Int) r acc=some (.norm (acc++Qas x)):=by
   unfold f41r1n4;rw [Qaq,hx];simp only [Option.bind_some,e5,e6];rw [show f42r1 (Qu x.Amount) 8=_ from f42_eq (k:=8) (by decide) hu.2.1 hu.2.2];simp only [Option.bind_some,low_ne,cond_false,req];rw [show fit ((acc++strB x.Account++strB x.Ccy).length+(low (Qu x.Amount) 8).length) 1=true from Qaf (by simp only [List.length_append,Qce,Qw]; omega) (by omega)];simp only [cond_true,Qas,List.append_assoc]
  rw [f41r1n7,decide_eq_true hk,e4,hw];simp only [cond_true,Option.bind_some];rw [f41n7_at hr l f (k+1) _ hd' (by omega) (by have:=lineB_len hxs; simp only [List.length_append]; omega),List.flatMap_cons,List.append_assoc]
theorem f41_eq{n:Int}{r:Qa}(h:Rsm r)(h0:0≤n)(h1:n<4294967296):f41r1 n r=some (pay n r):=by
 have hd:=h.1; have hd2:=h.2.1;have ht:=h.2.2.1; have hl:=h.2.2.2.1;have hF:1000<FUEL:=by unfold FUEL; decide
 have e1:f41r1n1 n r=some (.norm (low n 4++low r.Day 4)):=by
  unfold f41r1n1;rw [wru_id h0 (by omega),wru_id h.1 (by omega),show f42r1 n 4=_ from f42_eq (k:=4) (by decide) h0 (by omega),show f42r1 r.Day 4=_ from f42_eq (k:=4) (by decide) hd (by omega)];simp only [Option.bind_some,low_ne,cond_false,req,Qaf (show (low n 4).length+(low r.Day 4).length≤1000000 by simp [Qw]) (show 1≤1000000 by omega),cond_true]
 have e2:f41r1n2 r (low n 4++low r.Day 4)=some (.norm (low n 4++low r.Day 4++strB r.Text)):=put_str ht (by simp [Qw]) f41r1n2O.norm;have hw:wru8 (r.Lines.length:Int)=(r.Lines.length:Int):=Go.IntWalk.u8_in _ (by omega);have e7:=f41n7_at h r.Lines FUEL 0 (low n 4++low r.Day 4++strB r.Text++[(r.Lines.length:Int)]) rfl (by omega) (by simp only [List.length_append,Qw,Qce,List.length_cons,List.length_nil]; omega);simp only [Int.natCast_zero] at e7;unfold f41r1 f41r1n0 f41r1n3;rw [e1];simp only [Option.bind_some,e2,req];rw [show fit ((low n 4++low r.Day 4++strB r.Text).length+1) 1=true from Qaf (by simp only [List.length_append,Qw,Qce]; omega) (by omega),hw,e7];simp only [cond_true,Option.bind_some,pay,List.append_assoc]; rfl

theorem stL_rng:∀(l:List Qa)(s:Int)(k:Nat),(∀r∈l,Qaw r=true)→0≤s∧s≤18446744073709551615→0≤stL l s k∧stL l s k≤18446744073709551615
 | [],s,k,_,h=>h
 | r::l,s,k,hf,h=>by
  have hM:1000000≤maxLen:=by unfold maxLen; decide
  have hp:=(pay_small (n:=(k:Int)+1) (hf r (by simp))).1;rw [stL];exact stL_rng l _ _ (fun y hy=>hf y (by simp [hy])) (f20_eq s (l:=pay ((k:Int)+1) r) (by omega)).2
theorem f15n3_at{j:Qh}(hv:Valid j):∀(l:List Qa)(f k:Nat)(s:Int)(out:List Int),j.Records.drop k=l→l.length<f→0≤s∧s≤18446744073709551615→out.length+2012*l.length≤800000→f15n3 f j s (k:Int) out=some (.exit0 (out++encL l s k))
 | _,0,_,_,_,_,hf,_,_=>absurd hf (Nat.not_lt_zero _)
 | [],f+1,k,s,out,hd,hf,_,_=>by
  have hk:¬((k:Int)<(j.Records.length:Int)):=by have:=Qaj hd; omega
  rw [f15n3,decide_eq_false hk,encL,List.append_nil]; rfl
 | r::l,f+1,k,s,out,hd,hf,hs,ha=>by
  obtain ⟨k1,k2,k3⟩:=hv.open;obtain ⟨hx,hl,hd'⟩:=Qx hd;simp only [List.length_cons] at ha hf;have hk:(k:Int)<(j.Records.length:Int):=by omega
  have hw:wr64 ((k:Int)+1)=(k:Int)+1:=Qr (by omega) (by omega);have hM:1000000≤maxLen:=by unfold maxLen; decide
  have hfo:=(Qcy k3 r (List.mem_of_getElem? hx)).1;obtain ⟨p1,p2⟩:=pay_small (n:=(k:Int)+1) hfo;obtain ⟨_,hst⟩:=f20_eq s (l:=pay ((k:Int)+1) r) (by omega);have he:(pay ((k:Int)+1) r).isEmpty=false:=by
   cases hp:pay ((k:Int)+1) r with
   | nil=>rw [hp] at p2; simp at p2
   | cons a b=>rfl
  have e2:f15n2 s (k:Int) j out=some (.norm (stm s (pay ((k:Int)+1) r)) (out++(low ((pay ((k:Int)+1) r).length:Int) 4++(pay ((k:Int)+1) r++low (stm s (pay ((k:Int)+1) r)) 8)))):=by
   unfold f15n2;rw [Qaq,hx];simp only [Option.bind_some,hw];rw [f41_eq (formed_rsm hfo) (by omega) (by omega)];simp only [Option.bind_some];rw [f21r1_eq hs.1 hs.2 (by omega),←stm_eq hs.1 hs.2 (by omega),wru_id (by omega) (by omega),show f42r1 ((pay ((k:Int)+1) r).length:Int) 4=_ from f42_eq (k:=4) (by decide) (by omega) (by omega)];simp only [Option.bind_some,show f42r1 (stm s (pay ((k:Int)+1) r)) 8=_ from f42_eq (k:=8) (by decide) hst.1 hst.2,low_ne,he,cond_false,req];rw [show fit (out.length+(low ((pay ((k:Int)+1) r).length:Int) 4).length) 1=true from Qaf (by simp only [Qw]; omega) (by omega),
    show fit ((out++low ((pay ((k:Int)+1) r).length:Int) 4).length+(pay ((k:Int)+1) r).length) 1=true from Qaf (by simp only [List.length_append,Qw]; omega) (by omega),
    show fit ((out++low ((pay ((k:Int)+1) r).length:Int) 4++pay ((k:Int)+1) r).length+(low (stm s (pay ((k:Int)+1) r)) 8).length) 1=true from Qaf (by simp only [List.length_append,Qw]; omega) (by omega)]
   simp only [cond_true,List.append_assoc]
  rw [f15n3,decide_eq_true hk,e2,hw];simp only [cond_true,Option.bind_some];have ih:=fun o=>f15n3_at hv l f (k+1) (stm s (pay ((k:Int)+1) r)) o hd' (by omega) hst;rw [show (((k+1:Nat):Int))=(k:Int)+1 by omega] at ih;rw [ih _ (by simp only [List.length_append,Qw]; omega)];simp only [encL,List.append_assoc]
theorem f15_eq{j:Qh}(hv:Valid j):f15 j=some (encL j.Records 0 0,0):=by
 obtain ⟨k1,k2,k3⟩:=hv.open;have hF:1000<FUEL:=by unfold FUEL; decide
 have e:=f15n3_at hv j.Records FUEL 0 0 [] rfl (by omega) (by omega) (by simp; omega);simp only [Int.natCast_zero,List.nil_append] at e;unfold f15 f15n0 f15n1;rw [f35_eq hv.1,hv.2,e]; rfl
theorem f15_bad{j:Qh}(h:Jk j)(hb:(openS j).1=false):f15 j=some ([],8):=by
 unfold f15 f15n0;rw [f35_eq h,hb]; rfl
end Go.Proofs.Ytbgjlpdeoljmiaa
