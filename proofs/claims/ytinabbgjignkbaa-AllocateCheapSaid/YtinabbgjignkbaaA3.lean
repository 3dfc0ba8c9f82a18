/- Several texts in one. No condition. -/
import Derived.Test.YtinabbgjignkbaaA1
namespace Go.Proofs.Ytinabbgjignkbaa
set_option linter.unusedVariables false
set_option linter.unusedSimpArgs false
set_option maxRecDepth 100000
open Go.RowKit
noncomputable def c52:Code:=Try.f52.body.getD .skip
inductive f52r1n1O where
 | exit0 (v27:Int) (v28:List Qa)
def f52r1n1E(a1:Int):f52r1n1O→Ex×Tr×Hp
 | .exit0 v27 v28=>((.exit 0),mkS [(0,(.own 0)),(1,(jI a1)),(2,(.pl (.fn 42))),(6,(jI 20)),(7,(jI v27))],[jR 4 Qa.cells v28])
def f52r1n1S(a1 v18 v19:Int)(v20:List Qa):Tr×Hp:=(mkS [(0,(.own 0)),(1,(jI a1)),(2,(.pl (.fn 42))),(6,(jI 20)),(7,(jI v18)),(8,(jI v19))],[jR 4 Qa.cells v20])
noncomputable def f52r1n1:Nat→Int→Int→Int→List Qa→Option f52r1n1O
 | 0,_,_,_,_=>none
 | f+1,a1,v18,v19,v20 =>
  bif decide (v19≤a1) then
   (f67r1 v18 v19 v20).bind fun x25 =>
   (f52r1n1 f a1 v19 (wr64 (v19+20)) x25)
  else
   some (.exit0 v18 v20)
theorem f52r1n1_ok:∀(f:Nat)(a1 v18 v19:Int)(v20:List Qa){o:f52r1n1O},f52r1n1 f a1 v18 v19 v20=some o→TL Try.prog Try.f52.ntmps 1 f (cL (cL (cL (Qh 2 c52)))) (f52r1n1S a1 v18 v19 v20) (·=f52r1n1E a1 o)
 | 0,_,_,_,_,o,h=>by rw [f52r1n1] at h; cases h
 | f+1,a1,v18,v19,v20,o,h=>by
  rw [f52r1n1] at h;refine TL.body (K:=fun s=>∃v18:Int,∃v19:Int,∃v20:List Qa,s=(f52r1n1S a1 v18 v19 v20)∧f52r1n1 f a1 v18 v19 v20=some o) ?_ (by rintro _ ⟨v18,v19,v20,rfl,hk⟩; exact f52r1n1_ok f _ _ _ _ hk);rcases Qi h with ⟨h22,h⟩|⟨h22,h⟩
  ·obtain ⟨x25,h26,h⟩:=Qc h;exact rE Qg [j3,([],[(4,.call (.tup []) [jR 4 Qa.cells x25])],[]),j3,j3] [some true] [] [] [0,1,2,6,7,8] (.norm,(f52r1n1S a1 v19 (wr64 (v19+20)) x25)) (ap h22 (ap (f67r1_ok v18 v19 v20 h26) an)) (Qn.norm ⟨v19,(wr64 (v19+20)),x25,rfl,h⟩)
  ·obtain rfl:=Qf h;exact rK Qg 1 [j3] [some false] [] [] [0,1,2,6,7] (.exit 0) ((f52r1n1E a1 (.exit0 v18 v20)).2) (ap h22 an) (Qn.out rfl rfl)
inductive f52r1n3O where
 | exit4 (v151:Int) (v152:List Qa)
def f52r1n3E(bg1 bg2:Int):f52r1n3O→Ex×Tr×Hp
 | .exit4 v151 v152=>((.exit 4),mkS [(0,(.own 0)),(1,(jI bg1)),(2,(.pl (.fn 42))),(6,(jI bg2)),(7,(jI v151))],[jR 4 Qa.cells v152])
def f52r1n3S(bg1 bg2 v142 v143:Int)(v144:List Qa):Tr×Hp:=(mkS [(0,(.own 0)),(1,(jI bg1)),(2,(.pl (.fn 42))),(6,(jI bg2)),(7,(jI v142)),(8,(jI v143))],[jR 4 Qa.cells v144])
noncomputable def f52r1n3:Nat→Int→Int→Int→Int→List Qa→Option f52r1n3O
 | 0,_,_,_,_,_=>none
 | f+1,bg1,bg2,v142,v143,v144 =>
  bif decide (v143≤bg1) then
   (f68r1 v142 (wr64 (v142+bg2)) v143 v144).bind fun x149 =>
   (f52r1n3 f bg1 bg2 v143 (wr64 (v143+(wr64 (2*bg2)))) x149)
  else
   some (.exit4 v142 v144)
theorem f52r1n3_ok:∀(f:Nat)(bg1 bg2 v142 v143:Int)(v144:List Qa){o:f52r1n3O},f52r1n3 f bg1 bg2 v142 v143 v144=some o→TL Try.prog Try.f52.ntmps 1 f (cL (cL (cL (Qh 1 (cL (Qh 1 (cL (cL (Qh 1 (Qh 1 (Qh 2 c52))))))))))) (f52r1n3S bg1 bg2 v142 v143 v144) (·=f52r1n3E bg1 bg2 o)
 | 0,_,_,_,_,_,o,h=>by rw [f52r1n3] at h; cases h
 | f+1,bg1,bg2,v142,v143,v144,o,h=>by
  rw [f52r1n3] at h;refine TL.body (K:=fun s=>∃v142:Int,∃v143:Int,∃v144:List Qa,s=(f52r1n3S bg1 bg2 v142 v143 v144)∧f52r1n3 f bg1 bg2 v142 v143 v144=some o) ?_ (by rintro _ ⟨v142,v143,v144,rfl,hk⟩; exact f52r1n3_ok f _ _ _ _ _ hk);rcases Qi h with ⟨h146,h⟩|⟨h146,h⟩
  ·obtain ⟨x149,h150,h⟩:=Qc h;exact rE Qg [j3,([],[(7,.call (.tup []) [jR 4 Qa.cells x149])],[]),j3,j3] [some true] [] [] [0,1,2,6,7,8] (.norm,(f52r1n3S bg1 bg2 v143 (wr64 (v143+(wr64 (2*bg2)))) x149)) (ap h146 (ap (f68r1_ok v142 (wr64 (v142+bg2)) v143 v144 h150) an)) (Qn.norm ⟨v143,(wr64 (v143+(wr64 (2*bg2)))),x149,rfl,h⟩)
  ·obtain rfl:=Qf h;exact rK Qg 1 [j3] [some false] [] [] [0,1,2,6,7] (.exit 4) ((f52r1n3E bg1 bg2 (.exit4 v142 v144)).2) (ap h146 an) (Qn.out rfl rfl)
inductive f52r1n2O where
 | norm (v163:List Qa)
def f52r1n2E(bg1 bg2:Int)(ba3:List Qa):f52r1n2O→Ex×Tr×Hp
 | .norm v163=>(.norm,mkS [(0,(.own 0)),(1,(jI bg1)),(2,(.pl (.fn 42))),(6,(jI (wr64 (bg2*2))))],[jR 4 Qa.cells v163])
def f52r1n2S(bg1 bg2:Int)(ba3:List Qa):Tr×Hp:=(mkS [(0,(.own 0)),(1,(jI bg1)),(2,(.pl (.fn 42))),(6,(jI bg2))],[jR 4 Qa.cells ba3])
noncomputable def f52r1n2(bg1 bg2:Int)(ba3:List Qa):Option f52r1n2O :=
 (f52r1n3 FUEL bg1 bg2 0 (wr64 (2*bg2)) ba3).bind fun o153=>match o153 with
 | .exit4 v155 v156=>bif (decide ((wr64 (v155+bg2))<bg1)) then
   (f68r1 v155 (wr64 (v155+bg2)) bg1 v156).bind fun x161 =>
   some (.norm x161)
  else
   some (.norm v156)
theorem f52r1n2_ok(bg1 bg2:Int)(ba3:List Qa){o:f52r1n2O}(h:f52r1n2 bg1 bg2 ba3=some o):T Try.prog Try.f52.ntmps 1 (Qh 1 (cL (cL (Qh 1 (Qh 1 (Qh 2 c52)))))) (f52r1n2S bg1 bg2 ba3) (·=f52r1n2E bg1 bg2 ba3 o):=by
 unfold f52r1n2 at h;refine T.block' (i:=3) (by kernel_rfl) ?_;refine rN Qg 1 [j3] [] [] [] [0,1,2,6,7,8] (f52r1n3S bg1 bg2 0 (wr64 (2*bg2)) ba3) an ?_;obtain ⟨o153,h154,h⟩:=Qc h;cases o153 with
 | exit4 v155 v156 =>
  refine T.oneN (by kernel_rfl) (T.bl (i:=4) (by kernel_rfl) (by kernel_rfl) (f52r1n3_ok FUEL bg1 bg2 0 (wr64 (2*bg2)) ba3 h154)) (st2:=(f52r1n3E bg1 bg2 (.exit4 v155 v156)).2) rfl ?_;rcases Qi h with ⟨h160,h⟩|⟨h160,h⟩
  ·obtain ⟨x161,h162,h⟩:=Qc h;obtain rfl:=Qf h;exact rE Qg [j3,j3,([],[(5,.call (.tup []) [jR 4 Qa.cells x161])],[]),j3] [some true] [] [] [0,1,2,6] (.norm,(f52r1n2E bg1 bg2 ba3 (.norm x161)).2) (ap h160 (ap (f68r1_ok v155 (wr64 (v155+bg2)) bg1 v156 h162) an)) rfl
  ·obtain rfl:=Qf h;exact rE Qg [j3,j3,j3] [some false] [] [] [0,1,2,6] (.norm,(f52r1n2E bg1 bg2 ba3 (.norm v156)).2) (ap h160 an) rfl
inductive f52r1n4O where
 | exit2 (v167:List Qa)
def f52r1n4E(a1:Int):f52r1n4O→Ex×Tr×Hp
 | .exit2 v167=>((.exit 2),mkS [],[jR 4 Qa.cells v167])
def f52r1n4S(a1 v123:Int)(v124:List Qa):Tr×Hp:=(mkS [(0,(.own 0)),(1,(jI a1)),(2,(.pl (.fn 42))),(6,(jI v123))],[jR 4 Qa.cells v124])
noncomputable def f52r1n4:Nat→Int→Int→List Qa→Option f52r1n4O
 | 0,_,_,_=>none
 | f+1,a1,v123,v124 =>
  bif decide (v123<a1) then
   (f52r1n2 a1 v123 v124).bind fun o164=>match o164 with
   | .norm v166=>(f52r1n4 f a1 (wr64 (v123*2)) v166)
  else
   some (.exit2 v124)
theorem f52r1n4_ok:∀(f:Nat)(a1 v123:Int)(v124:List Qa){o:f52r1n4O},f52r1n4 f a1 v123 v124=some o→TL Try.prog Try.f52.ntmps 1 f (cL (cL (Qh 1 (Qh 1 (Qh 2 c52))))) (f52r1n4S a1 v123 v124) (·=f52r1n4E a1 o)
 | 0,_,_,_,o,h=>by rw [f52r1n4] at h; cases h
 | f+1,a1,v123,v124,o,h=>by
  rw [f52r1n4] at h;refine TL.body (K:=fun s=>∃v123:Int,∃v124:List Qa,s=(f52r1n4S a1 v123 v124)∧f52r1n4 f a1 v123 v124=some o) ?_ (by rintro _ ⟨v123,v124,rfl,hk⟩; exact f52r1n4_ok f _ _ _ hk);rcases Qi h with ⟨h126,h⟩|⟨h126,h⟩
  ·refine rN Qg 1 [j3] [some true] [] [] [0,1,2,6] (f52r1n2S a1 v123 v124) (ap h126 an) ?_;obtain ⟨o164,h165,h⟩:=Qc h;cases o164 with
   | norm v166 =>
    exact T.last' (f52r1n2_ok a1 v123 v124 h165) (tds:=[]) (m:=[]) (keep:=[0,1,2,6]) (st2:=(f52r1n4S a1 (wr64 (v123*2)) v166)) (by kernel_rfl) an (Qn.norm ⟨(wr64 (v123*2)),v166,rfl,h⟩)
  ·obtain rfl:=Qf h;exact rK Qg 1 [j3] [some false] [] [] [] (.exit 2) ((f52r1n4E a1 (.exit2 v124)).2) (ap h126 an) (Qn.out rfl rfl)
inductive f52r1n0O where
 | norm (v171:List Qa)
def f52r1n0E(a1:Int)(a2:List Qa):f52r1n0O→Ex×Tr×Hp
 | .norm v171=>(.norm,mkS [],[jR 4 Qa.cells v171])
def f52r1n0S(a1:Int)(a2:List Qa):Tr×Hp:=(Qaz [(.own 0),(jI a1),(.pl (.fn 42))] 0 .leaf,[jR 4 Qa.cells a2])
noncomputable def f52r1n0(a1:Int)(a2:List Qa):Option f52r1n0O :=
 (f52r1n1 FUEL a1 0 20 a2).bind fun o29=>match o29 with
 | .exit0 v31 v32=>(f67r1 v31 a1 v32).bind fun x35 =>
  (f52r1n4 FUEL a1 20 x35).bind fun o168=>match o168 with
  | .exit2 v170=>some (.norm v170)
theorem f52r1n0_ok(a1:Int)(a2:List Qa){o:f52r1n0O}(h:f52r1n0 a1 a2=some o):T Try.prog Try.f52.ntmps 1 c52 (f52r1n0S a1 a2) (·=f52r1n0E a1 a2 o):=by
 unfold f52r1n0 at h;refine rN Qg 2 [j3,j3] [] [] [] [0,1,2,6,7,8] (f52r1n1S a1 0 20 a2) an ?_;obtain ⟨o29,h30,h⟩:=Qc h;cases o29 with
 | exit0 v31 v32 =>
  refine T.oneN (by kernel_rfl) (T.bl (i:=0) (by kernel_rfl) (by kernel_rfl) (f52r1n1_ok FUEL a1 0 20 a2 h30)) (st2:=(f52r1n1E a1 (.exit0 v31 v32)).2) rfl ?_;obtain ⟨x35,h36,h⟩:=Qc h;refine rN Qg 1 [([],[(4,.call (.tup []) [jR 4 Qa.cells x35])],[])] [] [] [] [0,1,2,6] (f52r1n4S a1 20 x35) (ap (f67r1_ok v31 a1 v32 h36) an) ?_;obtain ⟨o168,h169,h⟩:=Qc h;cases o168 with
  | exit2 v170 =>
   obtain rfl:=Qf h;exact T.last' (T.bl (i:=2) (by kernel_rfl) (by kernel_rfl) (f52r1n4_ok FUEL a1 20 x35 h169)) (tds:=[]) (m:=[]) (keep:=[]) (st2:=(f52r1n0E a1 a2 (.norm v170)).2) (by kernel_rfl) an rfl
noncomputable def f52r1(a1:Int)(a2:List Qa):Option (List Qa):=(f52r1n0 a1 a2).bind fun o=>match o with
 | .norm v171=>some v171
theorem f52r1_ok(a1:Int)(a2:List Qa){r:List Qa}(h:f52r1 a1 a2=some r):Qr Try.prog true 52 [(.own 0),(jI a1),(.pl (.fn 42))] [jR 4 Qa.cells a2] (.tup []) [jR 4 Qa.cells r]:=by
 unfold f52r1 at h;obtain ⟨o,ho,h⟩:=Qc h;cases o with
 | norm v171 =>
  obtain rfl:=Qf h;exact Qr.shared Qg (f:=Try.f52) (c:=c52) (by kernel_rfl) (by kernel_rfl) (by kernel_rfl) ((f52r1n0_ok a1 a2 ho).mono fun r e=>by subst e; exact ⟨.inr rfl,by kernel_rfl,by kernel_rfl⟩)

noncomputable def c41:Code:=Try.f41.body.getD .skip
inductive f41r1n0O where
 | norm (v6:List Qa)
def f41r1n0E(a1:List Qa):f41r1n0O→Ex×Tr×Hp
 | .norm v6=>(.norm,mkS [],[jR 4 Qa.cells v6])
def f41r1n0S(a1:List Qa):Tr×Hp:=(Qaz [(.own 0),(.pl (.fn 42))] 0 .leaf,[jR 4 Qa.cells a1])
noncomputable def f41r1n0(a1:List Qa):Option f41r1n0O :=
 (f52r1 (a1.length:Int) a1).bind fun x4 =>
 some (.norm x4)
theorem f41r1n0_ok(a1:List Qa){o:f41r1n0O}(h:f41r1n0 a1=some o):T Try.prog Try.f41.ntmps 1 c41 (f41r1n0S a1) (·=f41r1n0E a1 o):=by
 unfold f41r1n0 at h;obtain ⟨x4,h5,h⟩:=Qc h;obtain rfl:=Qf h;exact rE Qg [([],[(4,.call (.tup []) [jR 4 Qa.cells x4])],[(2,.val (jI (a1.length:Int)))])] [] [] [] [] (.norm,(f41r1n0E a1 (.norm x4)).2) (ap (Qu (xs:=a1) (c:=Qa.cells)) (ap (f52r1_ok (a1.length:Int) a1 h5) an)) rfl
noncomputable def f41r1(a1:List Qa):Option (List Qa):=(f41r1n0 a1).bind fun o=>match o with
 | .norm v6=>some v6
theorem f41r1_ok(a1:List Qa){r:List Qa}(h:f41r1 a1=some r):Qr Try.prog true 41 [(.own 0),(.pl (.fn 42))] [jR 4 Qa.cells a1] (.tup []) [jR 4 Qa.cells r]:=by
 unfold f41r1 at h;obtain ⟨o,ho,h⟩:=Qc h;cases o with
 | norm v6 =>
  obtain rfl:=Qf h;exact Qr.shared Qg (f:=Try.f41) (c:=c41) (by kernel_rfl) (by kernel_rfl) (by kernel_rfl) ((f41r1n0_ok a1 ho).mono fun r e=>by subst e; exact ⟨.inr rfl,by kernel_rfl,by kernel_rfl⟩)

noncomputable def c54:Code:=Try.f54.body.getD .skip
inductive f54n2O where
 | exit0
 | ret (v29:Int)
def f54n2E(bd1:List ByteArray)(be2:ByteArray):f54n2O→Ex×Tr×Hp
 | .exit0=>((.exit 0),mkS [],[])
 | .ret v29=>(.ret,mkS [(4,(jI v29))],[])
def f54n2S(bd1:List ByteArray)(be2:ByteArray)(v20:Int):Tr×Hp:=(mkS [(0,(jL 1 cStr bd1)),(1,(jS be2)),(7,(jI (bd1.length:Int))),(8,(jI v20))],[])
noncomputable def f54n2:Nat→List ByteArray→ByteArray→Int→Option f54n2O
 | 0,_,_,_=>none
 | f+1,bd1,be2,v20 =>
  bif decide (v20<(bd1.length:Int)) then
   (at? bd1 v20).bind fun x26 =>
   bif (seq be2 x26) then
    some (.ret v20)
   else
    (f54n2 f bd1 be2 (wr64 (v20+1)))
  else
   some .exit0
theorem f54n2_ok:∀(f:Nat)(bd1:List ByteArray)(be2:ByteArray)(v20:Int){o:f54n2O},f54n2 f bd1 be2 v20=some o→TL Try.prog Try.f54.ntmps 0 f (cL (cL (Qh 1 (cL (Qh 1 c54))))) (f54n2S bd1 be2 v20) (·=f54n2E bd1 be2 o)
 | 0,_,_,_,o,h=>by rw [f54n2] at h; cases h
 | f+1,bd1,be2,v20,o,h=>by
  rw [f54n2] at h;refine TL.body (K:=fun s=>∃v20:Int,s=(f54n2S bd1 be2 v20)∧f54n2 f bd1 be2 v20=some o) ?_ (by rintro _ ⟨v20,rfl,hk⟩; exact f54n2_ok f _ _ _ hk);rcases Qi h with ⟨h22,h⟩|⟨h22,h⟩
  ·obtain ⟨x26,h27,h⟩:=Qc h;rcases Qi h with ⟨h28,h⟩|⟨h28,h⟩
   ·obtain rfl:=Qf h;exact rK Qg 3 [j3,j3,([],[(3,.idx (Int.toNat v20) (cStr x26))],[]),j3] [some true,some true] [] [] [4] .ret ((f54n2E bd1 be2 (.ret v20)).2) (ap h22 (ap (Qe h27).1 (ap (Ql cStr (Qe h27).2) (ap h28 an)))) (Qn.out rfl rfl)
   ·exact rE Qg [j3,j3,([],[(3,.idx (Int.toNat v20) (cStr x26))],[]),j3] [some true,some false] [] [] [0,1,7,8] (.norm,(f54n2S bd1 be2 (wr64 (v20+1)))) (ap h22 (ap (Qe h27).1 (ap (Ql cStr (Qe h27).2) (ap h28 an)))) (Qn.norm ⟨(wr64 (v20+1)),rfl,h⟩)
  ·obtain rfl:=Qf h;exact rK Qg 2 [j3] [some false] [] [] [] (.exit 0) ((f54n2E bd1 be2 .exit0).2) (ap h22 an) (Qn.out rfl rfl)
noncomputable def f54n2L(bd1:List ByteArray)(be2:ByteArray):List ByteArray→Int→Option f54n2O
 | [],v20 =>
  some .exit0
 | x0::rest,v20 =>
  bif (seq be2 x0) then
   some (.ret v20)
  else
   (f54n2L bd1 be2 rest (v20+1))
theorem f54n2L_eq(bd1:List ByteArray)(be2:ByteArray):∀(rest:List ByteArray)(f k:Nat),bd1.drop k=rest→bd1.length≤maxLen→rest.length<f→f54n2 f bd1 be2 (k:Int)=f54n2L bd1 be2 rest (k:Int)
 | _,0,_,_,_,hf=>absurd hf (Nat.not_lt_zero _)
 | [],f+1,k,hd,hm,hf=>by
  have hk:¬((k:Int)<(bd1.length:Int)):=by have:=Qbj hd; omega
  rw [f54n2,f54n2L];simp only [decide_eq_false hk,cond_false]
 | x0::rest,f+1,k,hd,hm,hf=>by
  obtain ⟨hx,hlt,hd'⟩:=Qbk hd;have hk:(k:Int)<(bd1.length:Int):=by omega
  have hw:wr64 ((k:Int)+1)=(k:Int)+1:=wr64_of (by omega) (by unfold maxLen at hm; omega);have ih:f54n2 f bd1 be2 ((k:Int)+1)=f54n2L bd1 be2 rest ((k:Int)+1):=f54n2L_eq bd1 be2 rest f (k+1) hd' hm (by simpa using hf);rw [f54n2,f54n2L];simp only [decide_eq_true hk,cond_true,at_nat,hx,Option.bind_some,hw,ih]
theorem f54n2_run(bd1:List ByteArray)(be2:ByteArray)(hm:bd1.length≤maxLen):f54n2 FUEL bd1 be2 0=f54n2L bd1 be2 bd1 0:=f54n2L_eq bd1 be2 bd1 FUEL 0 List.drop_zero hm (lt_FUEL hm)
inductive f54n1O where
 | norm
 | ret (v33:Int)
def f54n1E(bd1:List ByteArray)(be2:ByteArray):f54n1O→Ex×Tr×Hp
 | .norm=>(.norm,mkS [],[])
 | .ret v33=>(.ret,mkS [(4,(jI v33))],[])
def f54n1S(bd1:List ByteArray)(be2:ByteArray):Tr×Hp:=(mkS [(0,(jL 1 cStr bd1)),(1,(jS be2))],[])
noncomputable def f54n1(bd1:List ByteArray)(be2:ByteArray):Option f54n1O :=
 (f54n2 FUEL bd1 be2 0).bind fun o30=>match o30 with
 | .exit0=>some .norm
 | .ret v32=>some (.ret v32)
theorem f54n1_ok(bd1:List ByteArray)(be2:ByteArray){o:f54n1O}(h:f54n1 bd1 be2=some o):T Try.prog Try.f54.ntmps 0 (cL (Qh 1 c54)) (f54n1S bd1 be2) (·=f54n1E bd1 be2 o):=by
 unfold f54n1 at h;refine rN Qg 1 [([],[],[(1,.val (jI (bd1.length:Int)))])] [] [] [] [0,1,7,8] (f54n2S bd1 be2 0) (ap (Qu (xs:=bd1) (c:=cStr)) an) ?_;obtain ⟨o30,h31,h⟩:=Qc h;cases o30 with
 | exit0 =>
  obtain rfl:=Qf h;exact T.last' (T.bl (i:=0) (by kernel_rfl) (by kernel_rfl) (f54n2_ok FUEL bd1 be2 0 h31)) (tds:=[]) (m:=[]) (keep:=[]) (st2:=(f54n1E bd1 be2 .norm).2) (by kernel_rfl) an rfl
 | ret v32 =>
  obtain rfl:=Qf h;exact T.last' (T.bl (i:=0) (by kernel_rfl) (by kernel_rfl) (f54n2_ok FUEL bd1 be2 0 h31)) (tds:=[]) (m:=[]) (keep:=[4]) (st2:=(f54n1E bd1 be2 (.ret v32)).2) (by kernel_rfl) an rfl
inductive f54n0O where
 | ret (v37:Int)
def f54n0E(a1:List ByteArray)(a2:ByteArray):f54n0O→Ex×Tr×Hp
 | .ret v37=>(.ret,mkS [(4,(jI v37))],[])
def f54n0S(a1:List ByteArray)(a2:ByteArray):Tr×Hp:=(Qaz [(jL 1 cStr a1),(jS a2)] 0 .leaf,[])
noncomputable def f54n0(a1:List ByteArray)(a2:ByteArray):Option f54n0O :=
 (f54n1 a1 a2).bind fun o34=>match o34 with
 | .norm=>some (.ret (-1))
 | .ret v36=>some (.ret v36)
theorem f54n0_ok(a1:List ByteArray)(a2:ByteArray){o:f54n0O}(h:f54n0 a1 a2=some o):T Try.prog Try.f54.ntmps 0 c54 (f54n0S a1 a2) (·=f54n0E a1 a2 o):=by
 unfold f54n0 at h;refine rN Qg 1 [j3] [] [] [] [0,1] (f54n1S a1 a2) an ?_;obtain ⟨o34,h35,h⟩:=Qc h;cases o34 with
 | norm =>
  refine T.oneN (by kernel_rfl) (f54n1_ok a1 a2 h35) (st2:=(f54n1E a1 a2 .norm).2) rfl ?_;obtain rfl:=Qf h;exact rE Qg [j3] [] [] [] [4] (.ret,(f54n0E a1 a2 (.ret (-1))).2) an rfl
 | ret v36 =>
  obtain rfl:=Qf h;exact T.oneX' (by kernel_rfl) (f54n1_ok a1 a2 h35) (tds:=[]) (m:=[]) (keep:=[4]) (st2:=(f54n0E a1 a2 (.ret v36)).2) (by kernel_rfl) an rfl rfl
noncomputable def f54(a1:List ByteArray)(a2:ByteArray):Option Int:=(f54n0 a1 a2).bind fun o=>match o with
 | .ret v37=>some v37
theorem f54_ok(a1:List ByteArray)(a2:ByteArray){r:Int}(h:f54 a1 a2=some r):Qr Try.prog false 54 [(jL 1 cStr a1),(jS a2)] [] (jI r) []:=by
 unfold f54 at h;obtain ⟨o,ho,h⟩:=Qc h;cases o with
 | ret v37 =>
  obtain rfl:=Qf h;exact Qr.plain Qg (f:=Try.f54) (c:=c54) (by kernel_rfl) (by kernel_rfl) (by kernel_rfl) (by kernel_rfl) ((f54n0_ok a1 a2 ho).mono fun r e=>by subst e; exact ⟨.inl rfl,(jI v37),(jI v37),by kernel_rfl,by kernel_rfl,((Wk.refl _):Wk (jI v37) (jI v37))⟩)

noncomputable def c44:Code:=Try.f44.body.getD .skip
inductive f44n0O where
 | ret (v7:Bool)
def f44n0E(a1:List ByteArray)(a2:ByteArray):f44n0O→Ex×Tr×Hp
 | .ret v7=>(.ret,mkS [(4,(jB v7))],[])
def f44n0S(a1:List ByteArray)(a2:ByteArray):Tr×Hp:=(Qaz [(jL 1 cStr a1),(jS a2)] 0 .leaf,[])
noncomputable def f44n0(a1:List ByteArray)(a2:ByteArray):Option f44n0O :=
 (f54 a1 a2).bind fun x5 =>
 some (.ret (decide (0≤x5)))
theorem f44n0_ok(a1:List ByteArray)(a2:ByteArray){o:f44n0O}(h:f44n0 a1 a2=some o):T Try.prog Try.f44.ntmps 0 c44 (f44n0S a1 a2) (·=f44n0E a1 a2 o):=by
 unfold f44n0 at h;obtain ⟨x5,h6,h⟩:=Qc h;obtain rfl:=Qf h;exact rE Qg [j3,([],[jH 2 (jI x5)],[])] [] [] [] [4] (.ret,(f44n0E a1 a2 (.ret (decide (0≤x5)))).2) (ap (f54_ok a1 a2 h6) an) rfl
noncomputable def f44(a1:List ByteArray)(a2:ByteArray):Option Bool:=(f44n0 a1 a2).bind fun o=>match o with
 | .ret v7=>some v7
theorem f44_ok(a1:List ByteArray)(a2:ByteArray){r:Bool}(h:f44 a1 a2=some r):Qr Try.prog false 44 [(jL 1 cStr a1),(jS a2)] [] (jB r) []:=by
 unfold f44 at h;obtain ⟨o,ho,h⟩:=Qc h;cases o with
 | ret v7 =>
  obtain rfl:=Qf h;exact Qr.plain Qg (f:=Try.f44) (c:=c44) (by kernel_rfl) (by kernel_rfl) (by kernel_rfl) (by kernel_rfl) ((f44n0_ok a1 a2 ho).mono fun r e=>by subst e; exact ⟨.inl rfl,(jB v7),(jB v7),by kernel_rfl,by kernel_rfl,((Wk.refl _):Wk (jB v7) (jB v7))⟩)

noncomputable def c22:Code:=Try.f22.body.getD .skip
inductive f22r1n2O where
 | exit0 (v37:List Int)
def f22r1n2E(bb1:List Qb)(ba2:List Qa):f22r1n2O→Ex×Tr×Hp
 | .exit0 v37=>((.exit 0),mkS [(1,(jL 2 Qb.cells bb1)),(5,(.bp 0 0))],[some (.abox 57 [(.own 1),(jL 2 Qb.cells bb1),(.pl (.sl .nil 0 [])),(.own 2)] ((List.replicate 80 false).map Qm)),jR 4 Qa.cells ba2,some (.row false 1 (v37.map (cInt .i64)))])
def f22r1n2S(bb1:List Qb)(ba2:List Qa)(v27:Int)(v28:List Int):Tr×Hp:=(mkS [(1,(jL 2 Qb.cells bb1)),(5,(.bp 0 0)),(22,(jL 2 Qb.cells bb1)),(23,(jI (bb1.length:Int))),(24,(jI v27))],[some (.abox 57 [(.own 1),(jL 2 Qb.cells bb1),(.pl (.sl .nil 0 [])),(.own 2)] ((List.replicate 80 false).map Qm)),jR 4 Qa.cells ba2,some (.row false 1 (v28.map (cInt .i64)))])
noncomputable def f22r1n2:Nat→List Qb→List Qa→Int→List Int→Option f22r1n2O
 | 0,_,_,_,_=>none
 | f+1,bb1,ba2,v27,v28 =>
  bif decide (v27<(bb1.length:Int)) then
   (at? bb1 v27).bind fun x34 =>
   req (fit (v28.length+1) 8) <|
   (f22r1n2 f bb1 ba2 (wr64 (v27+1)) (v28++[x34.Need]))
  else
   some (.exit0 v28)
theorem f22r1n2_ok:∀(f:Nat)(bb1:List Qb)(ba2:List Qa)(v27:Int)(v28:List Int){o:f22r1n2O},f22r1n2 f bb1 ba2 v27 v28=some o→TL Try.prog Try.f22.ntmps 0 f (cL (cL (Qh 1 (cL (Qh 3 c22))))) (f22r1n2S bb1 ba2 v27 v28) (·=f22r1n2E bb1 ba2 o)
 | 0,_,_,_,_,o,h=>by rw [f22r1n2] at h; cases h
 | f+1,bb1,ba2,v27,v28,o,h=>by
  rw [f22r1n2] at h;refine TL.body (K:=fun s=>∃v27:Int,∃v28:List Int,s=(f22r1n2S bb1 ba2 v27 v28)∧f22r1n2 f bb1 ba2 v27 v28=some o) ?_ (by rintro _ ⟨v27,v28,rfl,hk⟩; exact f22r1n2_ok f _ _ _ _ hk);rcases Qi h with ⟨h30,h⟩|⟨h30,h⟩
  ·obtain ⟨x34,h35,h⟩:=Qc h;obtain ⟨h36,h⟩:=Qk h;exact rE Qg [j3,([],[(0,.idx (Int.toNat v27) (Qb.cells x34))],[]),([],[(8,.fits)],[(8,.row 5 ((v28++[x34.Need]).map (cInt .i64)))]),j3] [some true] [] [0,1,5] [1,5,22,23,24] (.norm,(f22r1n2S bb1 ba2 (wr64 (v27+1)) (v28++[x34.Need]))) (ap h30 (ap (Qe h35).1 (ap (Ql Qb.cells (Qe h35).2) (ap (fit_map (te:=ti3) (xs:=v28) (n:=1) (c:=(cInt .i64)) h36 rfl) (ap (app_cv (xs:=v28) (ys:=[x34.Need]) (c:=(cInt .i64))) an))))) (Qn.norm ⟨(wr64 (v27+1)),(v28++[x34.Need]),rfl,h⟩)
  ·obtain rfl:=Qf h;exact rK Qg 2 [j3] [some false] [] [0,1,2] [1,5] (.exit 0) ((f22r1n2E bb1 ba2 (.exit0 v28)).2) (ap h30 an) (Qn.out rfl rfl)
noncomputable def f22r1n2L(bb1:List Qb)(ba2:List Qa):List Qb→Int→(List Int)→Option f22r1n2O
 | [],v27,v28 =>
  some (.exit0 v28)
 | x0::rest,v27,v28 =>
  req (fit (v28.length+1) 8) <|
  (f22r1n2L bb1 ba2 rest (v27+1) (v28++[x0.Need]))
theorem f22r1n2L_eq(bb1:List Qb)(ba2:List Qa):∀(rest:List Qb)(f k:Nat)(v28:List Int),bb1.drop k=rest→bb1.length≤maxLen→rest.length<f→f22r1n2 f bb1 ba2 (k:Int) v28=f22r1n2L bb1 ba2 rest (k:Int) v28
 | _,0,_,_,_,_,hf=>absurd hf (Nat.not_lt_zero _)
 | [],f+1,k,v28,hd,hm,hf=>by
  have hk:¬((k:Int)<(bb1.length:Int)):=by have:=Qbj hd; omega
  rw [f22r1n2,f22r1n2L];simp only [decide_eq_false hk,cond_false]
 | x0::rest,f+1,k,v28,hd,hm,hf=>by
  obtain ⟨hx,hlt,hd'⟩:=Qbk hd;have hk:(k:Int)<(bb1.length:Int):=by omega
  have hw:wr64 ((k:Int)+1)=(k:Int)+1:=wr64_of (by omega) (by unfold maxLen at hm; omega);have ih:∀(v28:List Int),f22r1n2 f bb1 ba2 ((k:Int)+1) v28=f22r1n2L bb1 ba2 rest ((k:Int)+1) v28:=fun v28=>f22r1n2L_eq bb1 ba2 rest f (k+1) v28 hd' hm (by simpa using hf);rw [f22r1n2,f22r1n2L];simp only [decide_eq_true hk,cond_true,at_nat,hx,Option.bind_some,hw,ih]
theorem f22r1n2_run(bb1:List Qb)(ba2:List Qa)(v28:List Int)(hm:bb1.length≤maxLen):f22r1n2 FUEL bb1 ba2 0 v28=f22r1n2L bb1 ba2 bb1 0 v28:=f22r1n2L_eq bb1 ba2 bb1 FUEL 0 v28 List.drop_zero hm (lt_FUEL hm)
inductive f22r1n1O where
 | norm (v41:List Int)
def f22r1n1E(bb1:List Qb)(ba2:List Qa):f22r1n1O→Ex×Tr×Hp
 | .norm v41=>(.norm,mkS [(1,(jL 2 Qb.cells bb1)),(5,(.bp 0 0))],[some (.abox 57 [(.own 1),(jL 2 Qb.cells bb1),(.pl (.sl .nil 0 [])),(.own 2)] ((List.replicate 80 false).map Qm)),jR 4 Qa.cells ba2,some (.row false 1 (v41.map (cInt .i64)))])
def f22r1n1S(bb1:List Qb)(ba2:List Qa):Tr×Hp:=(mkS [(1,(jL 2 Qb.cells bb1)),(5,(.bp 0 0))],[some (.box 57 [(.own 1),(jL 2 Qb.cells bb1),(.pl (.sl .nil 0 [])),(.pl (.sl .nil 0 [])),(jB false),(jB false),(jB false),(jB false),(jB false),(jB false),(jB false),(jB false),(jB false),(jB false),(jB false),(jB false),(jB false),(jB false),(jB false),(jB false),(jB false),(jB false),(jB false),(jB false),(jB false),(jB false),(jB false),(jB false),(jB false),(jB false),(jB false),(jB false),(jB false),(jB false),(jB false),(jB false),(jB false),(jB false),(jB false),(jB false),(jB false),(jB false),(jB false),(jB false),(jB false),(jB false),(jB false),(jB false),(jB false),(jB false),(jB false),(jB false),(jB false),(jB false),(jB false),(jB false),(jB false),(jB false),(jB false),(jB false),(jB false),(jB false),(jB false),(jB false),(jB false),(jB false),(jB false),(jB false),(jB false),(jB false),(jB false),(jB false),(jB false),(jB false),(jB false),(jB false),(jB false),(jB false),(jB false),(jB false),(jB false),(jB false),(jB false),(jB false)]),jR 4 Qa.cells ba2])
noncomputable def f22r1n1(bb1:List Qb)(ba2:List Qa):Option f22r1n1O :=
 (f22r1n2 FUEL bb1 ba2 0 []).bind fun o38=>match o38 with
 | .exit0 v40=>some (.norm v40)
theorem f22r1n1_ok(bb1:List Qb)(ba2:List Qa){o:f22r1n1O}(h:f22r1n1 bb1 ba2=some o):T Try.prog Try.f22.ntmps 0 (cL (Qh 3 c22)) (f22r1n1S bb1 ba2) (·=f22r1n1E bb1 ba2 o):=by
 unfold f22r1n1 at h;refine rN Qg 1 [([],[],[(1,.val (jI (bb1.length:Int)))])] [] [.toA 0 4 ((List.replicate 80 false).map Qm),.unA 0,.matC 0 3 1,.toA 0 4 ((List.replicate 80 false).map Qm)] [0,1,2] [1,5,22,23,24] (f22r1n2S bb1 ba2 0 []) (ap (Qu (xs:=bb1) (c:=Qb.cells)) (ap2 (toA_r ((List.replicate 80 false).map Qm)) an)) ?_;obtain ⟨o38,h39,h⟩:=Qc h;cases o38 with
 | exit0 v40 =>
  obtain rfl:=Qf h;exact T.last' (T.bl (i:=0) (by kernel_rfl) (by kernel_rfl) (f22r1n2_ok FUEL bb1 ba2 0 [] h39)) (tds:=[]) (m:=[0,1,2]) (keep:=[1,5]) (st2:=(f22r1n1E bb1 ba2 (.norm v40)).2) (by kernel_rfl) an rfl
inductive f22r1n5O where
 | exit4 (v237:List Bool)
def f22r1n5E(bb1:List Qb)(bg3:Int)(ba2:List Qa)(x183:Qa)(bh5 bh6:List Int):f22r1n5O→Ex×Tr×Hp
 | .exit4 v237=>((.exit 4),mkS [(1,(jL 2 Qb.cells bb1)),(5,(.bp 0 0)),(43,(.own 1)),(44,(jI (ba2.length:Int))),(45,(jI bg3))],[some (.abox 57 [(.own 1),(jL 2 Qb.cells bb1),(.own 2),(.own 3)] (v237.map Qm)),jR 4 Qa.cells ba2,some (.row false 1 ((bh5++[x183.Amount]).map (cInt .i64))),some (.row false 1 (bh6.map (cInt .i64)))])
def f22r1n5S(bb1:List Qb)(bg3:Int)(ba2:List Qa)(x183:Qa)(bh5 bh6:List Int)(v219:Int)(v220:List Bool):Tr×Hp:=(mkS [(1,(jL 2 Qb.cells bb1)),(5,(.bp 0 0)),(8,(jI bg3)),(9,(.bp 1 0)),(43,(.own 2)),(44,(jI (ba2.length:Int))),(45,(jI bg3)),(61,(jL 2 Qb.cells bb1)),(62,(jI (bb1.length:Int))),(63,(jI v219))],[some (.abox 57 [(.own 2),(jL 2 Qb.cells bb1),(.own 3),(.own 4)] (v220.map Qm)),some (.box 36 ((Qa.cells x183).map .pl)),jR 4 Qa.cells ba2,some (.row false 1 ((bh5++[x183.Amount]).map (cInt .i64))),some (.row false 1 (bh6.map (cInt .i64)))])
noncomputable def f22r1n5:Nat→List Qb→Int→List Qa→Qa→List Int→List Int→Int→List Bool→Option f22r1n5O
 | 0,_,_,_,_,_,_,_,_=>none
 | f+1,bb1,bg3,ba2,x183,bh5,bh6,v219,v220 =>
  bif decide (v219<(bb1.length:Int)) then
   (at? bb1 v219).bind fun x230 =>
   (f44 x183.For x230.Name).bind fun x232 =>
   req (idxB bg3 10) <|
   req (idxB v219 8) <|
   req (decide (((Int.toNat bg3)*8+(Int.toNat v219)*1)<v220.length)) <|
   (f22r1n5 f bb1 bg3 ba2 x183 bh5 bh6 (wr64 (v219+1)) (v220.set ((Int.toNat bg3)*8+(Int.toNat v219)*1) x232))
  else
   some (.exit4 v220)
theorem f22r1n5_ok:∀(f:Nat)(bb1:List Qb)(bg3:Int)(ba2:List Qa)(x183:Qa)(bh5 bh6:List Int)(v219:Int)(v220:List Bool){o:f22r1n5O},f22r1n5 f bb1 bg3 ba2 x183 bh5 bh6 v219 v220=some o→TL Try.prog Try.f22.ntmps 0 f (cL (cL (Qh 3 (cL (cL (Qh 2 (cL (cL (Qh 1 (cL (Qh 0 (Qh 1 (Qh 3 c22))))))))))))) (f22r1n5S bb1 bg3 ba2 x183 bh5 bh6 v219 v220) (·=f22r1n5E bb1 bg3 ba2 x183 bh5 bh6 o)
 | 0,_,_,_,_,_,_,_,_,o,h=>by rw [f22r1n5] at h; cases h
 | f+1,bb1,bg3,ba2,x183,bh5,bh6,v219,v220,o,h=>by
  rw [f22r1n5] at h;refine TL.body (K:=fun s=>∃v219:Int,∃v220:List Bool,s=(f22r1n5S bb1 bg3 ba2 x183 bh5 bh6 v219 v220)∧f22r1n5 f bb1 bg3 ba2 x183 bh5 bh6 v219 v220=some o) ?_ (by rintro _ ⟨v219,v220,rfl,hk⟩; exact f22r1n5_ok f _ _ _ _ _ _ _ _ hk);rcases Qi h with ⟨h222,h⟩|⟨h222,h⟩
  ·obtain ⟨x230,h231,h⟩:=Qc h;obtain ⟨x232,h233,h⟩:=Qc h;obtain ⟨h234,h⟩:=Qk h;obtain ⟨h235,h⟩:=Qk h;obtain ⟨h236,h⟩:=Qk h
   exact rE Qg [j3,([],[(1,.idx (Int.toNat v219) (Qb.cells x230))],[]),([],[jH 7 (jB x232),(10,.at_ (Int.toNat bg3)),(11,.at_ (Int.toNat v219)),(12,.arw ((Int.toNat bg3)*8+(Int.toNat v219)*1))],[(12,.arr 0 ((v220.set ((Int.toNat bg3)*8+(Int.toNat v219)*1) x232).map Qm))]),j3] [some true] [] [0,1,2,3,4] [1,5,8,9,43,44,45,61,62,63] (.norm,(f22r1n5S bb1 bg3 ba2 x183 bh5 bh6 (wr64 (v219+1)) (v220.set ((Int.toNat bg3)*8+(Int.toNat v219)*1) x232))) (ap h222 (ap (Qe h231).1 (ap (Ql Qb.cells (Qe h231).2) (ap (Qq h234) (ap (Qs h234) (ap (Qq h235) (ap (Qs h235) (ap ((by omega:(4+(Int.toNat bg3)*8+(Int.toNat v219)*1)=4+((Int.toNat bg3)*8+(Int.toNat v219)*1))) (ap (arr_lt (f:=Qm) h236) (ap (Qai (xs:=v220) (f:=Qm) (k:=((Int.toNat bg3)*8+(Int.toNat v219)*1)) (x:=x232)) (ap (f44_ok x183.For x230.Name h233) an))))))))))) (Qn.norm ⟨(wr64 (v219+1)),(v220.set ((Int.toNat bg3)*8+(Int.toNat v219)*1) x232),rfl,h⟩)
  ·obtain rfl:=Qf h;exact rK Qg 2 [j3] [some false] [] [0,2,3,4] [1,5,43,44,45] (.exit 4) ((f22r1n5E bb1 bg3 ba2 x183 bh5 bh6 (.exit4 v220)).2) (ap h222 an) (Qn.out rfl rfl)
noncomputable def f22r1n5L(bb1:List Qb)(bg3:Int)(ba2:List Qa)(x183:Qa)(bh5 bh6:List Int):List Qb→Int→(List Bool)→Option f22r1n5O
 | [],v219,v220 =>
  some (.exit4 v220)
 | x0::rest,v219,v220 =>
  (f44 x183.For x0.Name).bind fun x232 =>
  req (idxB bg3 10) <|
  req (idxB v219 8) <|
  req (decide (((Int.toNat bg3)*8+(Int.toNat v219)*1)<v220.length)) <|
  (f22r1n5L bb1 bg3 ba2 x183 bh5 bh6 rest (v219+1) (v220.set ((Int.toNat bg3)*8+(Int.toNat v219)*1) x232))
theorem f22r1n5L_eq(bb1:List Qb)(bg3:Int)(ba2:List Qa)(x183:Qa)(bh5 bh6:List Int):∀(rest:List Qb)(f k:Nat)(v220:List Bool),bb1.drop k=rest→bb1.length≤maxLen→rest.length<f→f22r1n5 f bb1 bg3 ba2 x183 bh5 bh6 (k:Int) v220=f22r1n5L bb1 bg3 ba2 x183 bh5 bh6 rest (k:Int) v220
 | _,0,_,_,_,_,hf=>absurd hf (Nat.not_lt_zero _)
 | [],f+1,k,v220,hd,hm,hf=>by
  have hk:¬((k:Int)<(bb1.length:Int)):=by have:=Qbj hd; omega
  rw [f22r1n5,f22r1n5L];simp only [decide_eq_false hk,cond_false]
 | x0::rest,f+1,k,v220,hd,hm,hf=>by
  obtain ⟨hx,hlt,hd'⟩:=Qbk hd;have hk:(k:Int)<(bb1.length:Int):=by omega
  have hw:wr64 ((k:Int)+1)=(k:Int)+1:=wr64_of (by omega) (by unfold maxLen at hm; omega);have ih:∀(v220:List Bool),f22r1n5 f bb1 bg3 ba2 x183 bh5 bh6 ((k:Int)+1) v220=f22r1n5L bb1 bg3 ba2 x183 bh5 bh6 rest ((k:Int)+1) v220:=fun v220=>f22r1n5L_eq bb1 bg3 ba2 x183 bh5 bh6 rest f (k+1) v220 hd' hm (by simpa using hf);rw [f22r1n5,f22r1n5L];simp only [decide_eq_true hk,cond_true,at_nat,hx,Option.bind_some,hw,ih]
theorem f22r1n5_run(bb1:List Qb)(bg3:Int)(ba2:List Qa)(x183:Qa)(bh5 bh6:List Int)(v220:List Bool)(hm:bb1.length≤maxLen):f22r1n5 FUEL bb1 bg3 ba2 x183 bh5 bh6 0 v220=f22r1n5L bb1 bg3 ba2 x183 bh5 bh6 bb1 0 v220:=f22r1n5L_eq bb1 bg3 ba2 x183 bh5 bh6 bb1 FUEL 0 v220 List.drop_zero hm (lt_FUEL hm)
inductive f22r1n4O where
 | norm (v241:List Bool) (v242:List Int)
def f22r1n4E(bb1:List Qb)(ba2:List Qa)(bg3:Int)(bi4:List Bool)(bh5 bh6:List Int):f22r1n4O→Ex×Tr×Hp
 | .norm v241 v242=>(.norm,mkS [(1,(jL 2 Qb.cells bb1)),(5,(.bp 0 0)),(43,(.own 1)),(44,(jI (ba2.length:Int))),(45,(jI bg3))],[some (.abox 57 [(.own 1),(jL 2 Qb.cells bb1),(.own 2),(.own 3)] (v241.map Qm)),jR 4 Qa.cells ba2,some (.row false 1 (v242.map (cInt .i64))),some (.row false 1 (bh6.map (cInt .i64)))])
def f22r1n4S(bb1:List Qb)(ba2:List Qa)(bg3:Int)(bi4:List Bool)(bh5 bh6:List Int):Tr×Hp:=(mkS [(1,(jL 2 Qb.cells bb1)),(5,(.bp 0 0)),(43,(.own 1)),(44,(jI (ba2.length:Int))),(45,(jI bg3))],[some (.abox 57 [(.own 1),(jL 2 Qb.cells bb1),(.own 2),(.own 3)] (bi4.map Qm)),jR 4 Qa.cells ba2,some (.row false 1 (bh5.map (cInt .i64))),some (.row false 1 (bh6.map (cInt .i64)))])
noncomputable def f22r1n4(bb1:List Qb)(ba2:List Qa)(bg3:Int)(bi4:List Bool)(bh5 bh6:List Int):Option f22r1n4O :=
 (at? ba2 bg3).bind fun x183 =>
 req (fit (bh5.length+1) 8) <|
 (f22r1n5 FUEL bb1 bg3 ba2 x183 bh5 bh6 0 bi4).bind fun o238=>match o238 with
 | .exit4 v240=>some (.norm v240 (bh5++[x183.Amount]))
theorem f22r1n4_ok(bb1:List Qb)(ba2:List Qa)(bg3:Int)(bi4:List Bool)(bh5 bh6:List Int){o:f22r1n4O}(h:f22r1n4 bb1 ba2 bg3 bi4 bh5 bh6=some o):T Try.prog Try.f22.ntmps 0 (cL (Qh 2 (cL (cL (Qh 1 (cL (Qh 0 (Qh 1 (Qh 3 c22))))))))) (f22r1n4S bb1 ba2 bg3 bi4 bh5 bh6) (·=f22r1n4E bb1 ba2 bg3 bi4 bh5 bh6 o):=by
 unfold f22r1n4 at h;refine T.block' (i:=3) (by kernel_rfl) ?_;obtain ⟨x183,h184,h⟩:=Qc h;obtain ⟨h186,h⟩:=Qk h;refine rN Qg 3 [([],[(1,.at_ (Int.toNat bg3)),(2,.idx 0 (Qa.cells x183))],[]),([],[(8,.fits)],[(8,.row 6 ((bh5++[x183.Amount]).map (cInt .i64)))]),([],[],[(1,.val (jI (bb1.length:Int)))])] [] [] [0,4,1,6,3] [1,5,8,9,43,44,45,61,62,63] (f22r1n5S bb1 bg3 ba2 x183 bh5 bh6 0 bi4) (ap (Qe h184).1 (ap (Qp Qa.cells (Qe h184).2) (ap (Ql Qa.cells (Qe h184).2) (ap (fit_map (te:=ti3) (xs:=bh5) (n:=1) (c:=(cInt .i64)) h186 rfl) (ap (app_cv (xs:=bh5) (ys:=[x183.Amount]) (c:=(cInt .i64))) (ap (Qu (xs:=bb1) (c:=Qb.cells)) an)))))) ?_;obtain ⟨o238,h239,h⟩:=Qc h;cases o238 with
 | exit4 v240 =>
  obtain rfl:=Qf h;exact T.last' (T.bl (i:=4) (by kernel_rfl) (by kernel_rfl) (f22r1n5_ok FUEL bb1 bg3 ba2 x183 bh5 bh6 0 bi4 h239)) (tds:=[]) (m:=[0,1,2,3]) (keep:=[1,5,43,44,45]) (st2:=(f22r1n4E bb1 ba2 bg3 bi4 bh5 bh6 (.norm v240 (bh5++[x183.Amount]))).2) (by kernel_rfl) an rfl
inductive f22r1n6O where
 | exit2 (v247:List Bool) (v248:List Int)
def f22r1n6E(bb1:List Qb)(ba2:List Qa)(bh3:List Int):f22r1n6O→Ex×Tr×Hp
 | .exit2 v247 v248=>((.exit 2),mkS [(5,(.bp 0 0))],[some (.abox 57 [(.own 1),(jL 2 Qb.cells bb1),(.own 2),(.own 3)] (v247.map Qm)),jR 4 Qa.cells ba2,some (.row false 1 (v248.map (cInt .i64))),some (.row false 1 (bh3.map (cInt .i64)))])
def f22r1n6S(bb1:List Qb)(ba2:List Qa)(bh3:List Int)(v176:Int)(v177:List Bool)(v178:List Int):Tr×Hp:=(mkS [(1,(jL 2 Qb.cells bb1)),(5,(.bp 0 0)),(43,(.own 1)),(44,(jI (ba2.length:Int))),(45,(jI v176))],[some (.abox 57 [(.own 1),(jL 2 Qb.cells bb1),(.own 2),(.own 3)] (v177.map Qm)),jR 4 Qa.cells ba2,some (.row false 1 (v178.map (cInt .i64))),some (.row false 1 (bh3.map (cInt .i64)))])
noncomputable def f22r1n6:Nat→List Qb→List Qa→List Int→Int→List Bool→List Int→Option f22r1n6O
 | 0,_,_,_,_,_,_=>none
 | f+1,bb1,ba2,bh3,v176,v177,v178 =>
  bif decide (v176<(ba2.length:Int)) then
   (f22r1n4 bb1 ba2 v176 v177 v178 bh3).bind fun o243=>match o243 with
   | .norm v245 v246=>(f22r1n6 f bb1 ba2 bh3 (wr64 (v176+1)) v245 v246)
  else
   some (.exit2 v177 v178)
theorem f22r1n6_ok:∀(f:Nat)(bb1:List Qb)(ba2:List Qa)(bh3:List Int)(v176:Int)(v177:List Bool)(v178:List Int){o:f22r1n6O},f22r1n6 f bb1 ba2 bh3 v176 v177 v178=some o→TL Try.prog Try.f22.ntmps 0 f (cL (cL (Qh 1 (cL (Qh 0 (Qh 1 (Qh 3 c22))))))) (f22r1n6S bb1 ba2 bh3 v176 v177 v178) (·=f22r1n6E bb1 ba2 bh3 o)
 | 0,_,_,_,_,_,_,o,h=>by rw [f22r1n6] at h; cases h
 | f+1,bb1,ba2,bh3,v176,v177,v178,o,h=>by
  rw [f22r1n6] at h;refine TL.body (K:=fun s=>∃v176:Int,∃v177:List Bool,∃v178:List Int,s=(f22r1n6S bb1 ba2 bh3 v176 v177 v178)∧f22r1n6 f bb1 ba2 bh3 v176 v177 v178=some o) ?_ (by rintro _ ⟨v176,v177,v178,rfl,hk⟩; exact f22r1n6_ok f _ _ _ _ _ _ hk);rcases Qi h with ⟨h180,h⟩|⟨h180,h⟩
  ·refine rN Qg 2 [j3] [some true] [] [0,1,2,3] [1,5,43,44,45] (f22r1n4S bb1 ba2 v176 v177 v178 bh3) (ap h180 an) ?_;obtain ⟨o243,h244,h⟩:=Qc h;cases o243 with
   | norm v245 v246 =>
    refine T.oneN (by kernel_rfl) (f22r1n4_ok bb1 ba2 v176 v177 v178 bh3 h244) (st2:=(f22r1n4E bb1 ba2 v176 v177 v178 bh3 (.norm v245 v246)).2) rfl ?_;exact rE Qg [j3] [] [] [0,1,2,3] [1,5,43,44,45] (.norm,(f22r1n6S bb1 ba2 bh3 (wr64 (v176+1)) v245 v246)) an (Qn.norm ⟨(wr64 (v176+1)),v245,v246,rfl,h⟩)
  ·obtain rfl:=Qf h;exact rK Qg 2 [j3] [some false] [] [0,1,2,3] [5] (.exit 2) ((f22r1n6E bb1 ba2 bh3 (.exit2 v177 v178)).2) (ap h180 an) (Qn.out rfl rfl)
inductive f22r1n3O where
 | norm (v253:List Bool) (v254:List Int)
def f22r1n3E(bb1:List Qb)(ba2:List Qa)(bh3:List Int):f22r1n3O→Ex×Tr×Hp
 | .norm v253 v254=>(.norm,mkS [(5,(.bp 0 0))],[some (.abox 57 [(.own 1),(jL 2 Qb.cells bb1),(.own 2),(.own 3)] (v253.map Qm)),jR 4 Qa.cells ba2,some (.row false 1 (v254.map (cInt .i64))),some (.row false 1 (bh3.map (cInt .i64)))])
def f22r1n3S(bb1:List Qb)(ba2:List Qa)(bh3:List Int):Tr×Hp:=(mkS [(1,(jL 2 Qb.cells bb1)),(5,(.bp 0 0))],[some (.abox 57 [(.own 1),(jL 2 Qb.cells bb1),(.pl (.sl .nil 0 [])),(.own 2)] ((List.replicate 80 false).map Qm)),jR 4 Qa.cells ba2,some (.row false 1 (bh3.map (cInt .i64)))])
noncomputable def f22r1n3(bb1:List Qb)(ba2:List Qa)(bh3:List Int):Option f22r1n3O :=
 (f22r1n6 FUEL bb1 ba2 bh3 0 (List.replicate 80 false) []).bind fun o249=>match o249 with
 | .exit2 v251 v252=>some (.norm v251 v252)
theorem f22r1n3_ok(bb1:List Qb)(ba2:List Qa)(bh3:List Int){o:f22r1n3O}(h:f22r1n3 bb1 ba2 bh3=some o):T Try.prog Try.f22.ntmps 0 (cL (Qh 0 (Qh 1 (Qh 3 c22)))) (f22r1n3S bb1 ba2 bh3) (·=f22r1n3E bb1 ba2 bh3 o):=by
 unfold f22r1n3 at h;refine rN Qg 1 [([],[],[(4,.val (jI (ba2.length:Int)))])] [] [.unA 0,.matC 0 2 1,.toA 0 4 ((List.replicate 80 false).map Qm)] [0,1,3,2] [1,5,43,44,45] (f22r1n6S bb1 ba2 bh3 0 (List.replicate 80 false) []) (ap (Qu (xs:=ba2) (c:=Qa.cells)) (ap (toA_r ((List.replicate 80 false).map Qm)) an)) ?_;obtain ⟨o249,h250,h⟩:=Qc h;cases o249 with
 | exit2 v251 v252 =>
  obtain rfl:=Qf h;exact T.last' (T.bl (i:=2) (by kernel_rfl) (by kernel_rfl) (f22r1n6_ok FUEL bb1 ba2 bh3 0 (List.replicate 80 false) [] h250)) (tds:=[]) (m:=[0,1,2,3]) (keep:=[5]) (st2:=(f22r1n3E bb1 ba2 bh3 (.norm v251 v252)).2) (by kernel_rfl) an rfl
inductive f22r1n0O where
 | ret (v259:List Bool) (v260:List Qa) (v261:List Int) (v262:List Int)
def f22r1n0E(a1:List Qa)(a2:List Qb):f22r1n0O→Ex×Tr×Hp
 | .ret v259 v260 v261 v262=>(.ret,mkS [(4,(.bp 0 0))],[some (.abox 57 [(.own 1),(jL 2 Qb.cells a2),(.own 2),(.own 3)] (v259.map Qm)),jR 4 Qa.cells v260,some (.row false 1 (v261.map (cInt .i64))),some (.row false 1 (v262.map (cInt .i64)))])
def f22r1n0S(a1:List Qa)(a2:List Qb):Tr×Hp:=(Qaz [(jL 4 Qa.cells a1),(jL 2 Qb.cells a2)] 0 .leaf,[])
noncomputable def f22r1n0(a1:List Qa)(a2:List Qb):Option f22r1n0O :=
 (f40r1 a1).bind fun x5 =>
 (f41r1 x5).bind fun x9 =>
 (f22r1n1 a2 x9).bind fun o42=>match o42 with
 | .norm v44=>(f22r1n3 a2 x9 v44).bind fun o255=>match o255 with
  | .norm v257 v258=>some (.ret v257 x9 v258 v44)
theorem f22r1n0_ok(a1:List Qa)(a2:List Qb){o:f22r1n0O}(h:f22r1n0 a1 a2=some o):T Try.prog Try.f22.ntmps 0 c22 (f22r1n0S a1 a2) (·=f22r1n0E a1 a2 o):=by
 unfold f22r1n0 at h;obtain ⟨x5,h6,h⟩:=Qc h;obtain ⟨x9,h10,h⟩:=Qc h;refine rN Qg 3 [j3,([],[(1,.call (.own 0) [jR 4 Qa.cells x5])],[]),([],[(4,.call (.tup []) [jR 4 Qa.cells x9,none])],[])] [] [] [1,0] [1,5] (f22r1n1S a2 x9) (ap (f40r1_ok a1 h6) (ap (Qr.rn 2 [0] (f41r1_ok x5 h10)) an)) ?_;obtain ⟨o42,h43,h⟩:=Qc h;cases o42 with
 | norm v44 =>
  refine T.oneN (by kernel_rfl) (f22r1n1_ok a2 x9 h43) (st2:=(f22r1n1E a2 x9 (.norm v44)).2) rfl ?_;refine rN Qg 0 [] [] [] [0,1,2] [1,5] (f22r1n3S a2 x9 v44) an ?_;obtain ⟨o255,h256,h⟩:=Qc h;cases o255 with
  | norm v257 v258 =>
   refine T.oneN (by kernel_rfl) (f22r1n3_ok a2 x9 v44 h256) (st2:=(f22r1n3E a2 x9 v44 (.norm v257 v258)).2) rfl ?_;obtain rfl:=Qf h;exact rE Qg [j3] [] [] [0,1,2,3] [4] (.ret,(f22r1n0E a1 a2 (.ret v257 x9 v258 v44)).2) an rfl
noncomputable def f22r1(a1:List Qa)(a2:List Qb):Option ((List Bool)×(List Qa)×(List Int)×(List Int)):=(f22r1n0 a1 a2).bind fun o=>match o with
 | .ret v259 v260 v261 v262=>some (v259,v260,v261,v262)
theorem f22r1_ok(a1:List Qa)(a2:List Qb){r:(List Bool)×(List Qa)×(List Int)×(List Int)}(h:f22r1 a1 a2=some r):Qr Try.prog true 22 [(jL 4 Qa.cells a1),(jL 2 Qb.cells a2)] [] (.bp 0 0) [some (.abox 57 [(.own 1),(jL 2 Qb.cells a2),(.own 2),(.own 3)] (r.1.map Qm)),jR 4 Qa.cells r.2.1,some (.row false 1 (r.2.2.1.map (cInt .i64))),some (.row false 1 (r.2.2.2.map (cInt .i64)))]:=by
 unfold f22r1 at h;obtain ⟨o,ho,h⟩:=Qc h;cases o with
 | ret v259 v260 v261 v262 =>
  obtain rfl:=Qf h;exact Qr.shared Qg (f:=Try.f22) (c:=c22) (by kernel_rfl) (by kernel_rfl) (by kernel_rfl) ((f22r1n0_ok a1 a2 ho).mono fun r e=>by subst e; exact ⟨.inl rfl,by kernel_rfl,by kernel_rfl⟩)

noncomputable def c45:Code:=Try.f45.body.getD .skip
inductive f45r1n0O where
 | ret (v7:List Int)
def f45r1n0E(a1:Nat)(a2:List Int):f45r1n0O→Ex×Tr×Hp
 | .ret v7=>(.ret,mkS [(2,(.own 1))],[some (.row false 1 (a2.map (cInt .i64))),some (.row false 1 (v7.map (cInt .i64)))])
def f45r1n0S(a1:Nat)(a2:List Int):Tr×Hp:=(Qaz [(.vw 0 0 a1)] 0 .leaf,[some (.row false 1 (a2.map (cInt .i64)))])
noncomputable def f45r1n0(a1:Nat)(a2:List Int):Option f45r1n0O :=
 req (decide (0+a1≤a2.length)) <|
 bif (((a2.drop 0).take a1).isEmpty) then
  some (.ret [])
 else
  req (fit ((a2.drop 0).take a1).length 8) <|
  some (.ret ((a2.drop 0).take a1))
theorem f45r1n0_ok(a1:Nat)(a2:List Int){o:f45r1n0O}(h:f45r1n0 a1 a2=some o):T Try.prog Try.f45.ntmps 1 c45 (f45r1n0S a1 a2) (·=f45r1n0E a1 a2 o):=by
 unfold f45r1n0 at h;refine rN Qg 1 [j3] [] [] [] [0] (mkS [(0,(.vw 0 0 a1))],[some (.row false 1 (a2.map (cInt .i64)))]) an ?_;refine T.nest (by kernel_rfl) ?_;obtain ⟨h3,h⟩:=Qk h;rcases Qi h with ⟨h4,h⟩|⟨h4,h⟩
 ·refine rN Qg 0 [] [] [] [] [0] (mkS [(0,(.vw 0 0 a1))],[some (.row false 1 (a2.map (cInt .i64)))]) an ?_;refine T.oneNil Qg (x:=.tmp 0) (t:=33) (t3:=3) (t4:=4) (sz:=1) (es:=(((a2.drop 0).take a1).map (cInt .i64))) (by kernel_rfl) (by kernel_rfl) (by kernel_rfl) (by kernel_rfl) (el_vw (f:=false) (xs:=a2) (c:=(cInt .i64)) (by kernel_rfl) (vw_req (c:=(cInt .i64)) h3)) (fun b hb=>?_);cases b
  ·refine rE Qg [] [none] [] [] [0] (.norm,(mkS [(0,(.vw 0 0 a1))],[some (.row false 1 (a2.map (cInt .i64)))])) an (ThenQ.norm ?_);obtain rfl:=Qf h;exact rE Qg [([],[(2,.apv false (((a2.drop 0).take a1).map (cInt .i64)))],[])] [] [] [1] [2] (.ret,(f45r1n0E a1 a2 (.ret [])).2) (ap (el_vwS (H:=[some (.row false 1 (a2.map (cInt .i64))),some (.row false 1 ([].map (cInt .i64)))]) (sz:=1) (o:=0) (f:=false) (xs:=a2) (c:=(cInt .i64)) (by kernel_rfl) (vw_req (c:=(cInt .i64)) h3)) (ap (nil_map (c:=(cInt .i64)) h4) an)) rfl
  ·obtain rfl:=Qf h;exact rE Qg [j3] [none] [.mat 2 1] [1] [2] (.ret,(f45r1n0E a1 a2 (.ret [])).2) an (ThenQ.out rfl rfl)
 ·refine rN Qg 0 [] [] [] [] [0] (mkS [(0,(.vw 0 0 a1))],[some (.row false 1 (a2.map (cInt .i64)))]) an ?_;refine T.oneNil Qg (x:=.tmp 0) (t:=33) (t3:=3) (t4:=4) (sz:=1) (es:=(((a2.drop 0).take a1).map (cInt .i64))) (by kernel_rfl) (by kernel_rfl) (by kernel_rfl) (by kernel_rfl) (el_vw (f:=false) (xs:=a2) (c:=(cInt .i64)) (by kernel_rfl) (vw_req (c:=(cInt .i64)) h3)) (fun b hb=>?_);cases b
  ·refine rE Qg [] [none] [] [] [0] (.norm,(mkS [(0,(.vw 0 0 a1))],[some (.row false 1 (a2.map (cInt .i64)))])) an (ThenQ.norm ?_);obtain ⟨h6,h⟩:=Qk h;obtain rfl:=Qf h;exact rE Qg [([],[(2,.apv true (((a2.drop 0).take a1).map (cInt .i64)))],[])] [] [] [2] [2] (.ret,(f45r1n0E a1 a2 (.ret ((a2.drop 0).take a1))).2) (ap (el_vwS (H:=[some (.row false 1 (a2.map (cInt .i64))),some (.row false 1 ([].map (cInt .i64)))]) (sz:=1) (o:=0) (f:=false) (xs:=a2) (c:=(cInt .i64)) (by kernel_rfl) (vw_req (c:=(cInt .i64)) h3)) (ap (fit_map0z (te:=ti3) (xs:=((a2.drop 0).take a1)) (c:=(cInt .i64)) h6 rfl) (ap (ne_map (c:=(cInt .i64)) h4) (ap (len_all (c:=(cInt .i64)) (xs:=((a2.drop 0).take a1)) (n:=1) (fun _=>rfl)) an)))) rfl
  ·exact absurd (hb rfl) (ne_map (c:=(cInt .i64)) h4)
noncomputable def f45r1(a1:Nat)(a2:List Int):Option (List Int):=(f45r1n0 a1 a2).bind fun o=>match o with
 | .ret v7=>some v7
theorem f45r1_ok(a1:Nat)(a2:List Int){r:List Int}(h:f45r1 a1 a2=some r):Qr Try.prog true 45 [(.vw 0 0 a1)] [some (.row false 1 (a2.map (cInt .i64)))] (.own 1) [some (.row false 1 (a2.map (cInt .i64))),some (.row false 1 (r.map (cInt .i64)))]:=by
 unfold f45r1 at h;obtain ⟨o,ho,h⟩:=Qc h;cases o with
 | ret v7 =>
  obtain rfl:=Qf h;exact Qr.shared Qg (f:=Try.f45) (c:=c45) (by kernel_rfl) (by kernel_rfl) (by kernel_rfl) ((f45r1n0_ok a1 a2 ho).mono fun r e=>by subst e; exact ⟨.inl rfl,by kernel_rfl,by kernel_rfl⟩)

inductive f45r2n0O where
 | ret (v5:List Int)
def f45r2n0E(a1:List Int):f45r2n0O→Ex×Tr×Hp
 | .ret v5=>(.ret,mkS [(2,(.own 1))],[some (.row false 1 (a1.map (cInt .i64))),some (.row false 1 (v5.map (cInt .i64)))])
def f45r2n0S(a1:List Int):Tr×Hp:=(Qaz [(.own 0)] 0 .leaf,[some (.row false 1 (a1.map (cInt .i64)))])
noncomputable def f45r2n0(a1:List Int):Option f45r2n0O :=
 bif (a1.isEmpty) then
  some (.ret [])
 else
  req (fit a1.length 8) <|
  some (.ret a1)
theorem f45r2n0_ok(a1:List Int){o:f45r2n0O}(h:f45r2n0 a1=some o):T Try.prog Try.f45.ntmps 1 c45 (f45r2n0S a1) (·=f45r2n0E a1 o):=by
 unfold f45r2n0 at h;refine rN Qg 1 [j3] [] [] [] [0] (mkS [(0,(.own 0))],[some (.row false 1 (a1.map (cInt .i64)))]) an ?_;refine T.nest (by kernel_rfl) ?_;rcases Qi h with ⟨h2,h⟩|⟨h2,h⟩
 ·refine rN Qg 0 [] [] [] [] [0] (mkS [(0,(.own 0))],[some (.row false 1 (a1.map (cInt .i64)))]) an ?_;refine T.oneNil Qg (x:=.tmp 0) (t:=33) (t3:=3) (t4:=4) (sz:=1) (es:=(a1.map (cInt .i64))) (by kernel_rfl) (by kernel_rfl) (by kernel_rfl) (by kernel_rfl) (by kernel_rfl) (fun b hb=>?_);cases b
  ·refine rE Qg [] [none] [] [] [0] (.norm,(mkS [(0,(.own 0))],[some (.row false 1 (a1.map (cInt .i64)))])) an (ThenQ.norm ?_);obtain rfl:=Qf h;exact rE Qg [([],[(2,.app false)],[])] [] [] [1] [2] (.ret,(f45r2n0E a1 (.ret [])).2) (ap (nil_map (c:=(cInt .i64)) h2) an) rfl
  ·obtain rfl:=Qf h;exact rE Qg [j3] [none] [.mat 2 1] [1] [2] (.ret,(f45r2n0E a1 (.ret [])).2) an (ThenQ.out rfl rfl)
 ·refine rN Qg 0 [] [] [] [] [0] (mkS [(0,(.own 0))],[some (.row false 1 (a1.map (cInt .i64)))]) an ?_;refine T.oneNil Qg (x:=.tmp 0) (t:=33) (t3:=3) (t4:=4) (sz:=1) (es:=(a1.map (cInt .i64))) (by kernel_rfl) (by kernel_rfl) (by kernel_rfl) (by kernel_rfl) (by kernel_rfl) (fun b hb=>?_);cases b
  ·refine rE Qg [] [none] [] [] [0] (.norm,(mkS [(0,(.own 0))],[some (.row false 1 (a1.map (cInt .i64)))])) an (ThenQ.norm ?_);obtain ⟨h4,h⟩:=Qk h;obtain rfl:=Qf h;exact rE Qg [([],[(2,.app true)],[])] [] [] [2] [2] (.ret,(f45r2n0E a1 (.ret a1)).2) (ap (fit_map0z (te:=ti3) (xs:=a1) (c:=(cInt .i64)) h4 rfl) (ap (ne_map (c:=(cInt .i64)) h2) (ap (len_all (c:=(cInt .i64)) (xs:=a1) (n:=1) (fun _=>rfl)) an))) rfl
  ·exact absurd (hb rfl) (ne_map (c:=(cInt .i64)) h2)
noncomputable def f45r2(a1:List Int):Option (List Int):=(f45r2n0 a1).bind fun o=>match o with
 | .ret v5=>some v5
theorem f45r2_ok(a1:List Int){r:List Int}(h:f45r2 a1=some r):Qr Try.prog true 45 [(.own 0)] [some (.row false 1 (a1.map (cInt .i64)))] (.own 1) [some (.row false 1 (a1.map (cInt .i64))),some (.row false 1 (r.map (cInt .i64)))]:=by
 unfold f45r2 at h;obtain ⟨o,ho,h⟩:=Qc h;cases o with
 | ret v5 =>
  obtain rfl:=Qf h;exact Qr.shared Qg (f:=Try.f45) (c:=c45) (by kernel_rfl) (by kernel_rfl) (by kernel_rfl) ((f45r2n0_ok a1 ho).mono fun r e=>by subst e; exact ⟨.inl rfl,by kernel_rfl,by kernel_rfl⟩)

noncomputable def c23:Code:=Try.f23.body.getD .skip
inductive f23r1n2O where
 | exit2 (v3109:List Int)
def f23r1n2E(bg1:Int)(bh2 bh3:List Int)(bb4:List Qb)(bi5:List Bool)(ba6:List Qa)(bh7 bh8 bh9:List Int):f23r1n2O→Ex×Tr×Hp
 | .exit2 v3109=>((.exit 2),mkS [(0,(.own 4)),(1,(.own 5)),(2,(.bp 2 4)),(7,(.bp 6 0)),(8,(jI bg1)),(9,(.bp 7 0)),(10,(.bp 8 0))],[some (.row false 1 (bh2.map (cInt .i64))),some (.row false 1 (bh3.map (cInt .i64))),some (.abox 57 [(.own 3),(jL 2 Qb.cells bb4),(.own 0),(.own 1)] (bi5.map Qm)),jR 4 Qa.cells ba6,some (.row false 1 (bh7.map (cInt .i64))),some (.row false 1 (bh8.map (cInt .i64))),some (.abox 82 [] (bh9.map (pInt .i64))),some (.abox 83 [] ((List.replicate 10 0).map (pInt .i64))),some (.abox 80 [] (v3109.map (pInt .i64)))])
def f23r1n2S(bg1:Int)(bh2 bh3:List Int)(bb4:List Qb)(bi5:List Bool)(ba6:List Qa)(bh7 bh8 bh9:List Int)(v3101:Int)(v3102:List Int):Tr×Hp:=(mkS [(0,(.own 4)),(1,(.own 5)),(2,(.bp 2 4)),(7,(.bp 6 0)),(8,(jI bg1)),(9,(.bp 7 0)),(10,(.bp 8 0)),(27,(jI v3101))],[some (.row false 1 (bh2.map (cInt .i64))),some (.row false 1 (bh3.map (cInt .i64))),some (.abox 57 [(.own 3),(jL 2 Qb.cells bb4),(.own 0),(.own 1)] (bi5.map Qm)),jR 4 Qa.cells ba6,some (.row false 1 (bh7.map (cInt .i64))),some (.row false 1 (bh8.map (cInt .i64))),some (.abox 82 [] (bh9.map (pInt .i64))),some (.abox 83 [] ((List.replicate 10 0).map (pInt .i64))),some (.abox 80 [] (v3102.map (pInt .i64)))])
noncomputable def f23r1n2:Nat→Int→List Int→List Int→List Qb→List Bool→List Qa→List Int→List Int→List Int→Int→List Int→Option f23r1n2O
 | 0,_,_,_,_,_,_,_,_,_,_,_=>none
 | f+1,bg1,bh2,bh3,bb4,bi5,ba6,bh7,bh8,bh9,v3101,v3102 =>
  bif decide (v3101<8) then
   req (idxB v3101 8) <|
   req (decide (((Int.toNat v3101)*1)<v3102.length)) <|
   (f23r1n2 f bg1 bh2 bh3 bb4 bi5 ba6 bh7 bh8 bh9 (wr64 (v3101+1)) (v3102.set ((Int.toNat v3101)*1) (-1)))
  else
   some (.exit2 v3102)
theorem f23r1n2_ok:∀(f:Nat)(bg1:Int)(bh2 bh3:List Int)(bb4:List Qb)(bi5:List Bool)(ba6:List Qa)(bh7 bh8 bh9:List Int)(v3101:Int)(v3102:List Int){o:f23r1n2O},f23r1n2 f bg1 bh2 bh3 bb4 bi5 ba6 bh7 bh8 bh9 v3101 v3102=some o→TL Try.prog Try.f23.ntmps 4 f (cL (cL (Qh 1 (cL (Qh 2 (cL (cL (cL (Qh 4 c23))))))))) (f23r1n2S bg1 bh2 bh3 bb4 bi5 ba6 bh7 bh8 bh9 v3101 v3102) (·=f23r1n2E bg1 bh2 bh3 bb4 bi5 ba6 bh7 bh8 bh9 o)
 | 0,_,_,_,_,_,_,_,_,_,_,_,o,h=>by rw [f23r1n2] at h; cases h
 | f+1,bg1,bh2,bh3,bb4,bi5,ba6,bh7,bh8,bh9,v3101,v3102,o,h=>by
  rw [f23r1n2] at h;refine TL.body (K:=fun s=>∃v3101:Int,∃v3102:List Int,s=(f23r1n2S bg1 bh2 bh3 bb4 bi5 ba6 bh7 bh8 bh9 v3101 v3102)∧f23r1n2 f bg1 bh2 bh3 bb4 bi5 ba6 bh7 bh8 bh9 v3101 v3102=some o) ?_ (by rintro _ ⟨v3101,v3102,rfl,hk⟩; exact f23r1n2_ok f _ _ _ _ _ _ _ _ _ _ _ hk);rcases Qi h with ⟨h3104,h⟩|⟨h3104,h⟩
  ·obtain ⟨h3107,h⟩:=Qk h;obtain ⟨h3108,h⟩:=Qk h;exact rE Qg [j3,j3,([],[(1,.at_ (Int.toNat v3101)),(2,.arw ((Int.toNat v3101)*1))],[(2,.arr 8 ((v3102.set ((Int.toNat v3101)*1) (-1)).map (pInt .i64)))]),j3] [some true] [] [4,5,6,7,8] [0,1,2,7,8,9,10,27] (.norm,(f23r1n2S bg1 bh2 bh3 bb4 bi5 ba6 bh7 bh8 bh9 (wr64 (v3101+1)) (v3102.set ((Int.toNat v3101)*1) (-1)))) (ap h3104 (ap (Qq h3107) (ap (Qs h3107) (ap ((by omega:(0+(Int.toNat v3101)*1)=0+((Int.toNat v3101)*1))) (ap (arr_lt (f:=(pInt .i64)) h3108) (ap (Qai (xs:=v3102) (f:=(pInt .i64)) (k:=((Int.toNat v3101)*1)) (x:=(-1))) an)))))) (Qn.norm ⟨(wr64 (v3101+1)),(v3102.set ((Int.toNat v3101)*1) (-1)),rfl,h⟩)
  ·obtain rfl:=Qf h;exact rK Qg 2 [j3] [some false] [] [4,5,6,7,8] [0,1,2,7,8,9,10] (.exit 2) ((f23r1n2E bg1 bh2 bh3 bb4 bi5 ba6 bh7 bh8 bh9 (.exit2 v3102)).2) (ap h3104 an) (Qn.out rfl rfl)
inductive f23r1n1O where
 | norm (v3113:List Int)
def f23r1n1E(bg1:Int)(bh2 bh3:List Int)(bb4:List Qb)(bi5:List Bool)(ba6:List Qa)(bh7 bh8 bh9:List Int):f23r1n1O→Ex×Tr×Hp
 | .norm v3113=>(.norm,mkS [(0,(.own 4)),(1,(.own 5)),(2,(.bp 2 4)),(7,(.bp 6 0)),(8,(jI bg1)),(9,(.bp 7 0)),(10,(.bp 8 0))],[some (.row false 1 (bh2.map (cInt .i64))),some (.row false 1 (bh3.map (cInt .i64))),some (.abox 57 [(.own 3),(jL 2 Qb.cells bb4),(.own 0),(.own 1)] (bi5.map Qm)),jR 4 Qa.cells ba6,some (.row false 1 (bh7.map (cInt .i64))),some (.row false 1 (bh8.map (cInt .i64))),some (.abox 82 [] (bh9.map (pInt .i64))),some (.abox 83 [] ((List.replicate 10 0).map (pInt .i64))),some (.abox 80 [] (v3113.map (pInt .i64)))])
def f23r1n1S(bg1:Int)(bh2 bh3:List Int)(bb4:List Qb)(bi5:List Bool)(ba6:List Qa)(bh7 bh8 bh9:List Int):Tr×Hp:=(mkS [(0,(.own 4)),(1,(.own 5)),(2,(.bp 2 4)),(7,(.bp 6 0)),(8,(jI bg1)),(9,(.bp 7 0)),(10,(.bp 8 0))],[some (.row false 1 (bh2.map (cInt .i64))),some (.row false 1 (bh3.map (cInt .i64))),some (.abox 57 [(.own 3),(jL 2 Qb.cells bb4),(.own 0),(.own 1)] (bi5.map Qm)),jR 4 Qa.cells ba6,some (.row false 1 (bh7.map (cInt .i64))),some (.row false 1 (bh8.map (cInt .i64))),some (.abox 82 [] (bh9.map (pInt .i64))),some (.box 83 ((Arr83.cells (Arr83.mk 0 0 0 0 0 0 0 0 0 0)).map .pl)),some (.box 80 ((Qbd.cells (Qbd.mk 0 0 0 0 0 0 0 0)).map .pl))])
noncomputable def f23r1n1(bg1:Int)(bh2 bh3:List Int)(bb4:List Qb)(bi5:List Bool)(ba6:List Qa)(bh7 bh8 bh9:List Int):Option f23r1n1O :=
 (f23r1n2 FUEL bg1 bh2 bh3 bb4 bi5 ba6 bh7 bh8 bh9 0 (List.replicate 8 0)).bind fun o3110=>match o3110 with
 | .exit2 v3112=>some (.norm v3112)
theorem f23r1n1_ok(bg1:Int)(bh2 bh3:List Int)(bb4:List Qb)(bi5:List Bool)(ba6:List Qa)(bh7 bh8 bh9:List Int){o:f23r1n1O}(h:f23r1n1 bg1 bh2 bh3 bb4 bi5 ba6 bh7 bh8 bh9=some o):T Try.prog Try.f23.ntmps 4 (cL (Qh 2 (cL (cL (cL (Qh 4 c23)))))) (f23r1n1S bg1 bh2 bh3 bb4 bi5 ba6 bh7 bh8 bh9) (·=f23r1n1E bg1 bh2 bh3 bb4 bi5 ba6 bh7 bh8 bh9 o):=by
 unfold f23r1n1 at h;refine rN Qg 1 [j3] [] [.toA 7 0 ((List.replicate 10 0).map (pInt .i64)),.toA 8 0 ((List.replicate 8 0).map (pInt .i64))] [4,5,6,7,8] [0,1,2,7,8,9,10,27] (f23r1n2S bg1 bh2 bh3 bb4 bi5 ba6 bh7 bh8 bh9 0 (List.replicate 8 0)) (ap (toA_r ((List.replicate 10 0).map (pInt .i64))) (ap (toA_r ((List.replicate 8 0).map (pInt .i64))) an)) ?_;obtain ⟨o3110,h3111,h⟩:=Qc h;cases o3110 with
 | exit2 v3112 =>
  obtain rfl:=Qf h;exact T.last' (T.bl (i:=2) (by kernel_rfl) (by kernel_rfl) (f23r1n2_ok FUEL bg1 bh2 bh3 bb4 bi5 ba6 bh7 bh8 bh9 0 (List.replicate 8 0) h3111)) (tds:=[]) (m:=[4,5,6,7,8]) (keep:=[0,1,2,7,8,9,10]) (st2:=(f23r1n1E bg1 bh2 bh3 bb4 bi5 ba6 bh7 bh8 bh9 (.norm v3112)).2) (by kernel_rfl) an rfl
inductive f23r1n4O where
 | exit4 (v3171:List Int) (v3172:List Int)
def f23r1n4E(bg1:Int)(bh2 bh3:List Int)(bb4:List Qb)(bi5:List Bool)(ba6:List Qa)(bh7 bh8 bh9 bh10:List Int):f23r1n4O→Ex×Tr×Hp
 | .exit4 v3171 v3172=>((.exit 4),mkS [(0,(.own 4)),(1,(.own 5)),(2,(.bp 2 4)),(7,(.bp 6 0)),(8,(jI bg1)),(9,(.bp 7 0)),(10,(.bp 8 0)),(12,(.own 9))],[some (.row false 1 (bh2.map (cInt .i64))),some (.row false 1 (bh3.map (cInt .i64))),some (.abox 57 [(.own 3),(jL 2 Qb.cells bb4),(.own 0),(.own 1)] (bi5.map Qm)),jR 4 Qa.cells ba6,some (.row false 1 (bh7.map (cInt .i64))),some (.row false 1 (bh8.map (cInt .i64))),some (.abox 82 [] (bh9.map (pInt .i64))),some (.abox 83 [] (v3171.map (pInt .i64))),some (.abox 80 [] (bh10.map (pInt .i64))),some (.row false 1 (v3172.map (cInt .i64)))])
def f23r1n4S(bg1:Int)(bh2 bh3:List Int)(bb4:List Qb)(bi5:List Bool)(ba6:List Qa)(bh7 bh8 bh9 bh10:List Int)(v3150:Int)(v3151 v3152:List Int):Tr×Hp:=(mkS [(0,(.own 4)),(1,(.own 5)),(2,(.bp 2 4)),(7,(.bp 6 0)),(8,(jI bg1)),(9,(.bp 7 0)),(10,(.bp 8 0)),(12,(.own 9)),(33,(jI v3150))],[some (.row false 1 (bh2.map (cInt .i64))),some (.row false 1 (bh3.map (cInt .i64))),some (.abox 57 [(.own 3),(jL 2 Qb.cells bb4),(.own 0),(.own 1)] (bi5.map Qm)),jR 4 Qa.cells ba6,some (.row false 1 (bh7.map (cInt .i64))),some (.row false 1 (bh8.map (cInt .i64))),some (.abox 82 [] (bh9.map (pInt .i64))),some (.abox 83 [] (v3151.map (pInt .i64))),some (.abox 80 [] (bh10.map (pInt .i64))),some (.row false 1 (v3152.map (cInt .i64)))])
noncomputable def f23r1n4:Nat→Int→List Int→List Int→List Qb→List Bool→List Qa→List Int→List Int→List Int→List Int→Int→List Int→List Int→Option f23r1n4O
 | 0,_,_,_,_,_,_,_,_,_,_,_,_,_=>none
 | f+1,bg1,bh2,bh3,bb4,bi5,ba6,bh7,bh8,bh9,bh10,v3150,v3151,v3152 =>
  bif decide (v3150<10) then
   req (idxB v3150 10) <|
   req (decide (((Int.toNat v3150)*1)<v3151.length)) <|
   bif decide (v3150<(bh7.length:Int)) then
    (at? bh7 v3150).bind fun x3166 =>
    bif decide (0<x3166) then
     req (decide (((Int.toNat v3150)*1)<(v3151.set ((Int.toNat v3150)*1) (-1)).length)) <|
     req (fit (v3152.length+1) 8) <|
     (f23r1n4 f bg1 bh2 bh3 bb4 bi5 ba6 bh7 bh8 bh9 bh10 (wr64 (v3150+1)) ((v3151.set ((Int.toNat v3150)*1) (-1)).set ((Int.toNat v3150)*1) (-2)) (v3152++[v3150]))
    else
     (f23r1n4 f bg1 bh2 bh3 bb4 bi5 ba6 bh7 bh8 bh9 bh10 (wr64 (v3150+1)) (v3151.set ((Int.toNat v3150)*1) (-1)) v3152)
   else
    (f23r1n4 f bg1 bh2 bh3 bb4 bi5 ba6 bh7 bh8 bh9 bh10 (wr64 (v3150+1)) (v3151.set ((Int.toNat v3150)*1) (-1)) v3152)
  else
   some (.exit4 v3151 v3152)
theorem f23r1n4_ok:∀(f:Nat)(bg1:Int)(bh2 bh3:List Int)(bb4:List Qb)(bi5:List Bool)(ba6:List Qa)(bh7 bh8 bh9 bh10:List Int)(v3150:Int)(v3151 v3152:List Int){o:f23r1n4O},f23r1n4 f bg1 bh2 bh3 bb4 bi5 ba6 bh7 bh8 bh9 bh10 v3150 v3151 v3152=some o→TL Try.prog Try.f23.ntmps 4 f (cL (cL (Qh 1 (cL (Qh 1 (Qh 1 (Qh 2 (cL (cL (cL (Qh 4 c23))))))))))) (f23r1n4S bg1 bh2 bh3 bb4 bi5 ba6 bh7 bh8 bh9 bh10 v3150 v3151 v3152) (·=f23r1n4E bg1 bh2 bh3 bb4 bi5 ba6 bh7 bh8 bh9 bh10 o)
 | 0,_,_,_,_,_,_,_,_,_,_,_,_,_,o,h=>by rw [f23r1n4] at h; cases h
 | f+1,bg1,bh2,bh3,bb4,bi5,ba6,bh7,bh8,bh9,bh10,v3150,v3151,v3152,o,h=>by
  rw [f23r1n4] at h;refine TL.body (K:=fun s=>∃v3150:Int,∃v3151:List Int,∃v3152:List Int,s=(f23r1n4S bg1 bh2 bh3 bb4 bi5 ba6 bh7 bh8 bh9 bh10 v3150 v3151 v3152)∧f23r1n4 f bg1 bh2 bh3 bb4 bi5 ba6 bh7 bh8 bh9 bh10 v3150 v3151 v3152=some o) ?_ (by rintro _ ⟨v3150,v3151,v3152,rfl,hk⟩; exact f23r1n4_ok f _ _ _ _ _ _ _ _ _ _ _ _ _ hk);rcases Qi h with ⟨h3154,h⟩|⟨h3154,h⟩
  ·obtain ⟨h3163,h⟩:=Qk h;obtain ⟨h3164,h⟩:=Qk h;rcases Qi h with ⟨h3165,h⟩|⟨h3165,h⟩
   ·obtain ⟨x3166,h3167,h⟩:=Qc h;rcases Qi h with ⟨h3168,h⟩|⟨h3168,h⟩
    ·obtain ⟨h3169,h⟩:=Qk h;obtain ⟨h3170,h⟩:=Qk h
     exact rE Qg [j3,j3,([],[(1,.at_ (Int.toNat v3150)),(2,.arw ((Int.toNat v3150)*1))],[(2,.arr 7 ((v3151.set ((Int.toNat v3150)*1) (-1)).map (pInt .i64)))]),(jT [5,6,7,8,9],[(7,.at_ (Int.toNat v3150)),(8,.idx 0 ((cInt .i64) x3166)),(10,.bool true)],[(2,.val (jI (bh7.length:Int)))]),([],[(1,.at_ (Int.toNat v3150)),(2,.arw ((Int.toNat v3150)*1))],[(2,.arr 7 (((v3151.set ((Int.toNat v3150)*1) (-1)).set ((Int.toNat v3150)*1) (-2)).map (pInt .i64)))]),([],[(3,.fits)],[(3,.row 11 ((v3152++[v3150]).map (cInt .i64)))]),j3] [some true,some true] [] [4,5,6,7,8,11] [0,1,2,7,8,9,10,12,33] (.norm,(f23r1n4S bg1 bh2 bh3 bb4 bi5 ba6 bh7 bh8 bh9 bh10 (wr64 (v3150+1)) ((v3151.set ((Int.toNat v3150)*1) (-1)).set ((Int.toNat v3150)*1) (-2)) (v3152++[v3150]))) (ap h3154 (ap (Qq h3163) (ap (Qs h3163) (ap ((by omega:(0+(Int.toNat v3150)*1)=0+((Int.toNat v3150)*1))) (ap (arr_lt (f:=(pInt .i64)) h3164) (ap (Qai (xs:=v3151) (f:=(pInt .i64)) (k:=((Int.toNat v3150)*1)) (x:=(-1))) (ap (Qu (xs:=bh7) (c:=(cInt .i64))) (ap3 h3165 (ap (Qe h3167).1 (ap (Qp (cInt .i64) (Qe h3167).2) (ap h3165 (ap (Ql (cInt .i64) (Qe h3167).2) (ap2 h3165 (ap h3168 (ap (Qq h3163) (ap (Qs h3163) (ap ((by omega:(0+(Int.toNat v3150)*1)=0+((Int.toNat v3150)*1))) (ap (arr_lt (f:=(pInt .i64)) h3169) (ap (Qai (xs:=(v3151.set ((Int.toNat v3150)*1) (-1))) (f:=(pInt .i64)) (k:=((Int.toNat v3150)*1)) (x:=(-2))) (ap (fit_map (te:=ti3) (xs:=v3152) (n:=1) (c:=(cInt .i64)) h3170 rfl) (ap (app_cv (xs:=v3152) (ys:=[v3150]) (c:=(cInt .i64))) an))))))))))))))))))))) (Qn.norm ⟨(wr64 (v3150+1)),((v3151.set ((Int.toNat v3150)*1) (-1)).set ((Int.toNat v3150)*1) (-2)),(v3152++[v3150]),rfl,h⟩)
    ·exact rE Qg [j3,j3,([],[(1,.at_ (Int.toNat v3150)),(2,.arw ((Int.toNat v3150)*1))],[(2,.arr 7 ((v3151.set ((Int.toNat v3150)*1) (-1)).map (pInt .i64)))]),(jT [5,6,7,8,9],[(7,.at_ (Int.toNat v3150)),(8,.idx 0 ((cInt .i64) x3166)),(10,.bool true)],[(2,.val (jI (bh7.length:Int)))]),j3] [some true,some false] [] [4,5,6,7,8,9] [0,1,2,7,8,9,10,12,33] (.norm,(f23r1n4S bg1 bh2 bh3 bb4 bi5 ba6 bh7 bh8 bh9 bh10 (wr64 (v3150+1)) (v3151.set ((Int.toNat v3150)*1) (-1)) v3152)) (ap h3154 (ap (Qq h3163) (ap (Qs h3163) (ap ((by omega:(0+(Int.toNat v3150)*1)=0+((Int.toNat v3150)*1))) (ap (arr_lt (f:=(pInt .i64)) h3164) (ap (Qai (xs:=v3151) (f:=(pInt .i64)) (k:=((Int.toNat v3150)*1)) (x:=(-1))) (ap (Qu (xs:=bh7) (c:=(cInt .i64))) (ap3 h3165 (ap (Qe h3167).1 (ap (Qp (cInt .i64) (Qe h3167).2) (ap h3165 (ap (Ql (cInt .i64) (Qe h3167).2) (ap2 h3165 (ap h3168 an)))))))))))))) (Qn.norm ⟨(wr64 (v3150+1)),(v3151.set ((Int.toNat v3150)*1) (-1)),v3152,rfl,h⟩)
   ·exact rE Qg [j3,j3,([],[(1,.at_ (Int.toNat v3150)),(2,.arw ((Int.toNat v3150)*1))],[(2,.arr 7 ((v3151.set ((Int.toNat v3150)*1) (-1)).map (pInt .i64)))]),(jF [5,6,7,8,9],[(10,.bool false)],[(2,.val (jI (bh7.length:Int)))]),j3] [some true,none] [] [4,5,6,7,8,9] [0,1,2,7,8,9,10,12,33] (.norm,(f23r1n4S bg1 bh2 bh3 bb4 bi5 ba6 bh7 bh8 bh9 bh10 (wr64 (v3150+1)) (v3151.set ((Int.toNat v3150)*1) (-1)) v3152)) (ap h3154 (ap (Qq h3163) (ap (Qs h3163) (ap ((by omega:(0+(Int.toNat v3150)*1)=0+((Int.toNat v3150)*1))) (ap (arr_lt (f:=(pInt .i64)) h3164) (ap (Qai (xs:=v3151) (f:=(pInt .i64)) (k:=((Int.toNat v3150)*1)) (x:=(-1))) (ap (Qu (xs:=bh7) (c:=(cInt .i64))) (ap2 h3165 (ap4 h3165 an))))))))) (Qn.norm ⟨(wr64 (v3150+1)),(v3151.set ((Int.toNat v3150)*1) (-1)),v3152,rfl,h⟩)
  ·obtain rfl:=Qf h;exact rK Qg 2 [j3] [some false] [] [4,5,6,7,8,9] [0,1,2,7,8,9,10,12] (.exit 4) ((f23r1n4E bg1 bh2 bh3 bb4 bi5 ba6 bh7 bh8 bh9 bh10 (.exit4 v3151 v3152)).2) (ap h3154 an) (Qn.out rfl rfl)
inductive f23r1n3O where
 | norm (v3177:List Int) (v3178:List Int)
def f23r1n3E(bg1:Int)(bh2 bh3:List Int)(bb4:List Qb)(bi5:List Bool)(ba6:List Qa)(bh7 bh8 bh9 bh10:List Int):f23r1n3O→Ex×Tr×Hp
 | .norm v3177 v3178=>(.norm,mkS [(0,(.own 4)),(1,(.own 5)),(2,(.bp 2 4)),(7,(.bp 6 0)),(8,(jI bg1)),(9,(.bp 7 0)),(10,(.bp 8 0)),(12,(.own 9))],[some (.row false 1 (bh2.map (cInt .i64))),some (.row false 1 (bh3.map (cInt .i64))),some (.abox 57 [(.own 3),(jL 2 Qb.cells bb4),(.own 0),(.own 1)] (bi5.map Qm)),jR 4 Qa.cells ba6,some (.row false 1 (bh7.map (cInt .i64))),some (.row false 1 (bh8.map (cInt .i64))),some (.abox 82 [] (bh9.map (pInt .i64))),some (.abox 83 [] (v3177.map (pInt .i64))),some (.abox 80 [] (bh10.map (pInt .i64))),some (.row false 1 (v3178.map (cInt .i64)))])
def f23r1n3S(bg1:Int)(bh2 bh3:List Int)(bb4:List Qb)(bi5:List Bool)(ba6:List Qa)(bh7 bh8 bh9 bh10:List Int):Tr×Hp:=(mkS [(0,(.own 4)),(1,(.own 5)),(2,(.bp 2 4)),(7,(.bp 6 0)),(8,(jI bg1)),(9,(.bp 7 0)),(10,(.bp 8 0)),(12,(.pl (.sl .nil 0 [])))],[some (.row false 1 (bh2.map (cInt .i64))),some (.row false 1 (bh3.map (cInt .i64))),some (.abox 57 [(.own 3),(jL 2 Qb.cells bb4),(.own 0),(.own 1)] (bi5.map Qm)),jR 4 Qa.cells ba6,some (.row false 1 (bh7.map (cInt .i64))),some (.row false 1 (bh8.map (cInt .i64))),some (.abox 82 [] (bh9.map (pInt .i64))),some (.abox 83 [] ((List.replicate 10 0).map (pInt .i64))),some (.abox 80 [] (bh10.map (pInt .i64)))])
noncomputable def f23r1n3(bg1:Int)(bh2 bh3:List Int)(bb4:List Qb)(bi5:List Bool)(ba6:List Qa)(bh7 bh8 bh9 bh10:List Int):Option f23r1n3O :=
 (f23r1n4 FUEL bg1 bh2 bh3 bb4 bi5 ba6 bh7 bh8 bh9 bh10 0 (List.replicate 10 0) []).bind fun o3173=>match o3173 with
 | .exit4 v3175 v3176=>some (.norm v3175 v3176)
theorem f23r1n3_ok(bg1:Int)(bh2 bh3:List Int)(bb4:List Qb)(bi5:List Bool)(ba6:List Qa)(bh7 bh8 bh9 bh10:List Int){o:f23r1n3O}(h:f23r1n3 bg1 bh2 bh3 bb4 bi5 ba6 bh7 bh8 bh9 bh10=some o):T Try.prog Try.f23.ntmps 4 (cL (Qh 1 (Qh 1 (Qh 2 (cL (cL (cL (Qh 4 c23)))))))) (f23r1n3S bg1 bh2 bh3 bb4 bi5 ba6 bh7 bh8 bh9 bh10) (·=f23r1n3E bg1 bh2 bh3 bb4 bi5 ba6 bh7 bh8 bh9 bh10 o):=by
 unfold f23r1n3 at h;refine rN Qg 1 [j3] [] [.mat 12 1] [4,5,6,7,8,9] [0,1,2,7,8,9,10,12,33] (f23r1n4S bg1 bh2 bh3 bb4 bi5 ba6 bh7 bh8 bh9 bh10 0 (List.replicate 10 0) []) an ?_;obtain ⟨o3173,h3174,h⟩:=Qc h;cases o3173 with
 | exit4 v3175 v3176 =>
  obtain rfl:=Qf h;exact T.last' (T.bl (i:=4) (by kernel_rfl) (by kernel_rfl) (f23r1n4_ok FUEL bg1 bh2 bh3 bb4 bi5 ba6 bh7 bh8 bh9 bh10 0 (List.replicate 10 0) [] h3174)) (tds:=[]) (m:=[4,5,6,7,8,9]) (keep:=[0,1,2,7,8,9,10,12]) (st2:=(f23r1n3E bg1 bh2 bh3 bb4 bi5 ba6 bh7 bh8 bh9 bh10 (.norm v3175 v3176)).2) (by kernel_rfl) an rfl
inductive f23r1n7O where
 | exit10 (v4353:Nat) (v4354:Nat) (v4355:List Int) (v4356:List Int)
def f23r1n7E(bg1 bg4 bg5 bg7:Int)(bh6 bh13 bh8 bh9:List Int)(bb10:List Qb)(bi11:List Bool)(ba12:List Qa)(bh14 bh16:List Int):f23r1n7O→Ex×Tr×Hp
 | .exit10 v4353 v4354 v4355 v4356=>((.exit 10),mkS [(0,(.own 4)),(1,(.own 5)),(2,(.bp 2 4)),(7,(.bp 6 0)),(8,(jI bg1)),(9,(.bp 7 0)),(10,(.bp 8 0)),(12,(.vw 9 v4353 v4354)),(14,(jI bg4)),(15,(jI bg5)),(69,(jI (bh6.length:Int))),(70,(jI bg7))],[some (.row false 1 (bh8.map (cInt .i64))),some (.row false 1 (bh9.map (cInt .i64))),some (.abox 57 [(.own 3),(jL 2 Qb.cells bb10),(.own 0),(.own 1)] (bi11.map Qm)),jR 4 Qa.cells ba12,some (.row false 1 (bh13.map (cInt .i64))),some (.row false 1 (bh6.map (cInt .i64))),some (.abox 82 [] (bh14.map (pInt .i64))),some (.abox 83 [] (v4355.map (pInt .i64))),some (.abox 80 [] ((bh16.set ((Int.toNat bg7)*1) bg5).map (pInt .i64))),some (.row false 1 (v4356.map (cInt .i64)))])
def f23r1n7S(bg1 bg4 bg5 bg7:Int)(bh6 bh13 bh8 bh9:List Int)(bb10:List Qb)(bi11:List Bool)(ba12:List Qa)(bh14 bh16:List Int)(v4326 v4327:Nat)(v4328:Int)(v4329 v4330:List Int):Tr×Hp:=(mkS [(0,(.own 4)),(1,(.own 5)),(2,(.bp 2 4)),(7,(.bp 6 0)),(8,(jI bg1)),(9,(.bp 7 0)),(10,(.bp 8 0)),(12,(.vw 9 v4326 v4327)),(14,(jI bg4)),(15,(jI bg5)),(16,(jI bg7)),(69,(jI (bh6.length:Int))),(70,(jI bg7)),(97,(jI (bh13.length:Int))),(98,(jI v4328))],[some (.row false 1 (bh8.map (cInt .i64))),some (.row false 1 (bh9.map (cInt .i64))),some (.abox 57 [(.own 3),(jL 2 Qb.cells bb10),(.own 0),(.own 1)] (bi11.map Qm)),jR 4 Qa.cells ba12,some (.row false 1 (bh13.map (cInt .i64))),some (.row false 1 (bh6.map (cInt .i64))),some (.abox 82 [] (bh14.map (pInt .i64))),some (.abox 83 [] (v4329.map (pInt .i64))),some (.abox 80 [] ((bh16.set ((Int.toNat bg7)*1) bg5).map (pInt .i64))),some (.row false 1 (v4330.map (cInt .i64)))])
noncomputable def f23r1n7:Nat→Int→Int→Int→Int→List Int→List Int→List Int→List Int→List Qb→List Bool→List Qa→List Int→List Int→Nat→Nat→Int→List Int→List Int→Option f23r1n7O
 | 0,_,_,_,_,_,_,_,_,_,_,_,_,_,_,_,_,_,_=>none
 | f+1,bg1,bg4,bg5,bg7,bh6,bh13,bh8,bh9,bb10,bi11,ba12,bh14,bh16,v4326,v4327,v4328,v4329,v4330 =>
  bif decide (v4328<(bh13.length:Int)) then
   req (idxB v4328 10) <|
   (v4329[((Int.toNat v4328)*1)]?).bind fun x4344 =>
   bif decide (x4344=(-1)) then
    req (idxB bg7 8) <|
    (bh14[((Int.toNat v4328)*8+(Int.toNat bg7)*1)]?).bind fun x4348 =>
    bif decide (0<x4348) then
     req (fit (v4327+1) 8) <|
     req (decide (v4326+v4327=v4330.length)) <|
     (f23r1n7 f bg1 bg4 bg5 bg7 bh6 bh13 bh8 bh9 bb10 bi11 ba12 bh14 bh16 0 ((v4330.drop v4326++[v4328]).length) (wr64 (v4328+1)) (v4329.set ((Int.toNat v4328)*1) bg7) (v4330.drop v4326++[v4328]))
    else
     (f23r1n7 f bg1 bg4 bg5 bg7 bh6 bh13 bh8 bh9 bb10 bi11 ba12 bh14 bh16 v4326 v4327 (wr64 (v4328+1)) v4329 v4330)
   else
    (f23r1n7 f bg1 bg4 bg5 bg7 bh6 bh13 bh8 bh9 bb10 bi11 ba12 bh14 bh16 v4326 v4327 (wr64 (v4328+1)) v4329 v4330)
  else
   some (.exit10 v4326 v4327 v4329 v4330)
theorem f23r1n7_ok:∀(f:Nat)(bg1 bg4 bg5 bg7:Int)(bh6 bh13 bh8 bh9:List Int)(bb10:List Qb)(bi11:List Bool)(ba12:List Qa)(bh14 bh16:List Int)(v4326 v4327:Nat)(v4328:Int)(v4329 v4330:List Int){o:f23r1n7O},f23r1n7 f bg1 bg4 bg5 bg7 bh6 bh13 bh8 bh9 bb10 bi11 ba12 bh14 bh16 v4326 v4327 v4328 v4329 v4330=some o→TL Try.prog Try.f23.ntmps 4 f (cL (cL (Qh 3 (Qh 2 (cL (cL (Qh 2 (cL (cL (Qh 3 (cL (Qh 1 (cL (cL (cL (Qh 1 (Qh 1 (Qh 1 (Qh 1 (Qh 2 (cL (cL (cL (Qh 4 c23)))))))))))))))))))))))) (f23r1n7S bg1 bg4 bg5 bg7 bh6 bh13 bh8 bh9 bb10 bi11 ba12 bh14 bh16 v4326 v4327 v4328 v4329 v4330) (·=f23r1n7E bg1 bg4 bg5 bg7 bh6 bh13 bh8 bh9 bb10 bi11 ba12 bh14 bh16 o)
 | 0,_,_,_,_,_,_,_,_,_,_,_,_,_,_,_,_,_,_,o,h=>by rw [f23r1n7] at h; cases h
 | f+1,bg1,bg4,bg5,bg7,bh6,bh13,bh8,bh9,bb10,bi11,ba12,bh14,bh16,v4326,v4327,v4328,v4329,v4330,o,h=>by
  rw [f23r1n7] at h;refine TL.body (K:=fun s=>∃v4326:Nat,∃v4327:Nat,∃v4328:Int,∃v4329:List Int,∃v4330:List Int,s=(f23r1n7S bg1 bg4 bg5 bg7 bh6 bh13 bh8 bh9 bb10 bi11 ba12 bh14 bh16 v4326 v4327 v4328 v4329 v4330)∧f23r1n7 f bg1 bg4 bg5 bg7 bh6 bh13 bh8 bh9 bb10 bi11 ba12 bh14 bh16 v4326 v4327 v4328 v4329 v4330=some o) ?_ (by rintro _ ⟨v4326,v4327,v4328,v4329,v4330,rfl,hk⟩; exact f23r1n7_ok f _ _ _ _ _ _ _ _ _ _ _ _ _ _ _ _ _ _ hk);rcases Qi h with ⟨h4332,h⟩|⟨h4332,h⟩
  ·obtain ⟨h4343,h⟩:=Qk h;obtain ⟨x4344,h4345,h⟩:=Qc h;rcases Qi h with ⟨h4346,h⟩|⟨h4346,h⟩
   ·obtain ⟨h4347,h⟩:=Qk h;obtain ⟨x4348,h4349,h⟩:=Qc h;rcases Qi h with ⟨h4350,h⟩|⟨h4350,h⟩
    ·obtain ⟨h4351,h⟩:=Qk h;obtain ⟨h4352,h⟩:=Qk h
     exact rE Qg [j3,j3,(jT [5,6,7,8,9,10],[(1,.at_ (Int.toNat v4328)),(2,.arr ((Int.toNat v4328)*1) ((pInt .i64) x4344)),(7,.at_ (Int.toNat v4328)),(8,.at_ (Int.toNat bg7)),(9,.arr ((Int.toNat v4328)*8+(Int.toNat bg7)*1) ((pInt .i64) x4348)),(11,.bool true)],[]),([],[(2,.at_ (Int.toNat v4328)),(3,.arw ((Int.toNat v4328)*1))],[(3,.arr 7 ((v4329.set ((Int.toNat v4328)*1) bg7).map (pInt .i64)))]),([],[(3,.fits)],[(3,.row 11 ((v4330.drop v4326++[v4328]).map (cInt .i64)))]),j3] [some true,some true] [.ovw 12 ((v4330.drop v4326++[v4328]).length)] [4,5,6,7,8,11] [0,1,2,7,8,9,10,12,14,15,16,69,70,97,98] (.norm,(f23r1n7S bg1 bg4 bg5 bg7 bh6 bh13 bh8 bh9 bb10 bi11 ba12 bh14 bh16 0 ((v4330.drop v4326++[v4328]).length) (wr64 (v4328+1)) (v4329.set ((Int.toNat v4328)*1) bg7) (v4330.drop v4326++[v4328]))) (ap h4332 (ap (Qq h4343) (ap (Qs h4343) (ap ((by omega:(0+(Int.toNat v4328)*1)=0+((Int.toNat v4328)*1))) (ap (Qt (pInt .i64) h4345) (ap3 h4346 (ap (Qq h4343) (ap (Qs h4343) (ap h4346 (ap (Qq h4347) (ap (Qs h4347) (ap h4346 (ap ((by omega:(0+(Int.toNat v4328)*8+(Int.toNat bg7)*1)=0+((Int.toNat v4328)*8+(Int.toNat bg7)*1))) (ap (Qt (pInt .i64) h4349) (ap2 h4346 (ap h4350 (ap (Qq h4343) (ap (Qs h4343) (ap ((by omega:(0+(Int.toNat v4328)*1)=0+((Int.toNat v4328)*1))) (ap (Qcg (f:=(pInt .i64)) h4345) (ap (Qai (xs:=v4329) (f:=(pInt .i64)) (k:=((Int.toNat v4328)*1)) (x:=bg7)) (ap (fit_num (te:=ti3) (n:=v4327) (k:=1) h4351 rfl) (ap (vw_end (xs:=v4330) (c:=(cInt .i64)) (a:=v4326) (l:=v4327) h4352) (ap (app_cvd (xs:=v4330) (ys:=[v4328]) (c:=(cInt .i64)) (a:=v4326)) (ap (len_ov (xs:=(v4330.drop v4326++[v4328])) (c:=(cInt .i64))) an))))))))))))))))))))))))) (Qn.norm ⟨0,(v4330.drop v4326++[v4328]).length,(wr64 (v4328+1)),(v4329.set ((Int.toNat v4328)*1) bg7),(v4330.drop v4326++[v4328]),rfl,h⟩)
    ·exact rE Qg [j3,j3,(jT [5,6,7,8,9,10],[(1,.at_ (Int.toNat v4328)),(2,.arr ((Int.toNat v4328)*1) ((pInt .i64) x4344)),(7,.at_ (Int.toNat v4328)),(8,.at_ (Int.toNat bg7)),(9,.arr ((Int.toNat v4328)*8+(Int.toNat bg7)*1) ((pInt .i64) x4348)),(11,.bool true)],[]),j3] [some true,some false] [] [4,5,6,7,8,9] [0,1,2,7,8,9,10,12,14,15,16,69,70,97,98] (.norm,(f23r1n7S bg1 bg4 bg5 bg7 bh6 bh13 bh8 bh9 bb10 bi11 ba12 bh14 bh16 v4326 v4327 (wr64 (v4328+1)) v4329 v4330)) (ap h4332 (ap (Qq h4343) (ap (Qs h4343) (ap ((by omega:(0+(Int.toNat v4328)*1)=0+((Int.toNat v4328)*1))) (ap (Qt (pInt .i64) h4345) (ap3 h4346 (ap (Qq h4343) (ap (Qs h4343) (ap h4346 (ap (Qq h4347) (ap (Qs h4347) (ap h4346 (ap ((by omega:(0+(Int.toNat v4328)*8+(Int.toNat bg7)*1)=0+((Int.toNat v4328)*8+(Int.toNat bg7)*1))) (ap (Qt (pInt .i64) h4349) (ap2 h4346 (ap h4350 an)))))))))))))))) (Qn.norm ⟨v4326,v4327,(wr64 (v4328+1)),v4329,v4330,rfl,h⟩)
   ·exact rE Qg [j3,j3,(jF [5,6,7,8,9,10],[(1,.at_ (Int.toNat v4328)),(2,.arr ((Int.toNat v4328)*1) ((pInt .i64) x4344)),(11,.bool false)],[]),j3] [some true,none] [] [4,5,6,7,8,9] [0,1,2,7,8,9,10,12,14,15,16,69,70,97,98] (.norm,(f23r1n7S bg1 bg4 bg5 bg7 bh6 bh13 bh8 bh9 bb10 bi11 ba12 bh14 bh16 v4326 v4327 (wr64 (v4328+1)) v4329 v4330)) (ap h4332 (ap (Qq h4343) (ap (Qs h4343) (ap ((by omega:(0+(Int.toNat v4328)*1)=0+((Int.toNat v4328)*1))) (ap (Qt (pInt .i64) h4345) (ap3 h4346 (ap4 h4346 an))))))) (Qn.norm ⟨v4326,v4327,(wr64 (v4328+1)),v4329,v4330,rfl,h⟩)
  ·obtain rfl:=Qf h;exact rK Qg 2 [j3] [some false] [] [4,5,6,7,8,9] [0,1,2,7,8,9,10,12,14,15,69,70] (.exit 10) ((f23r1n7E bg1 bg4 bg5 bg7 bh6 bh13 bh8 bh9 bb10 bi11 ba12 bh14 bh16 (.exit10 v4326 v4327 v4329 v4330)).2) (ap h4332 an) (Qn.out rfl rfl)
inductive f23r1n6O where
 | exit8
 | norm (v4363:Nat) (v4364:Nat) (v4365:List Int) (v4366:List Int) (v4367:List Int)
def f23r1n6E(bg1:Int)(bk2 bk3:Nat)(bg4 bg5:Int)(bh6:List Int)(bg7:Int)(bh8 bh9:List Int)(bb10:List Qb)(bi11:List Bool)(ba12:List Qa)(bh13 bh14 bh15 bh16 bh17:List Int):f23r1n6O→Ex×Tr×Hp
 | .exit8=>((.exit 8),mkS [(0,(.own 4)),(1,(.own 5)),(2,(.bp 2 4)),(7,(.bp 6 0)),(8,(jI bg1)),(9,(.bp 7 0)),(10,(.bp 8 0)),(12,(.vw 9 bk2 bk3)),(14,(jI bg7))],[some (.row false 1 (bh8.map (cInt .i64))),some (.row false 1 (bh9.map (cInt .i64))),some (.abox 57 [(.own 3),(jL 2 Qb.cells bb10),(.own 0),(.own 1)] (bi11.map Qm)),jR 4 Qa.cells ba12,some (.row false 1 (bh13.map (cInt .i64))),some (.row false 1 (bh6.map (cInt .i64))),some (.abox 82 [] (bh14.map (pInt .i64))),some (.abox 83 [] (bh15.map (pInt .i64))),some (.abox 80 [] ((bh16.set ((Int.toNat bg7)*1) bg5).map (pInt .i64))),some (.row false 1 (bh17.map (cInt .i64)))])
 | .norm v4363 v4364 v4365 v4366 v4367=>(.norm,mkS [(0,(.own 4)),(1,(.own 5)),(2,(.bp 2 4)),(7,(.bp 6 0)),(8,(jI bg1)),(9,(.bp 7 0)),(10,(.bp 8 0)),(12,(.vw 9 v4363 v4364)),(14,(jI bg4)),(15,(jI bg5)),(69,(jI (bh6.length:Int))),(70,(jI bg7))],[some (.row false 1 (bh8.map (cInt .i64))),some (.row false 1 (bh9.map (cInt .i64))),some (.abox 57 [(.own 3),(jL 2 Qb.cells bb10),(.own 0),(.own 1)] (bi11.map Qm)),jR 4 Qa.cells ba12,some (.row false 1 (bh13.map (cInt .i64))),some (.row false 1 (bh6.map (cInt .i64))),some (.abox 82 [] (bh14.map (pInt .i64))),some (.abox 83 [] (v4365.map (pInt .i64))),some (.abox 80 [] (v4366.map (pInt .i64))),some (.row false 1 (v4367.map (cInt .i64)))])
def f23r1n6S(bg1:Int)(bk2 bk3:Nat)(bg4 bg5:Int)(bh6:List Int)(bg7:Int)(bh8 bh9:List Int)(bb10:List Qb)(bi11:List Bool)(ba12:List Qa)(bh13 bh14 bh15 bh16 bh17:List Int):Tr×Hp:=(mkS [(0,(.own 4)),(1,(.own 5)),(2,(.bp 2 4)),(7,(.bp 6 0)),(8,(jI bg1)),(9,(.bp 7 0)),(10,(.bp 8 0)),(12,(.vw 9 bk2 bk3)),(14,(jI bg4)),(15,(jI bg5)),(69,(jI (bh6.length:Int))),(70,(jI bg7))],[some (.row false 1 (bh8.map (cInt .i64))),some (.row false 1 (bh9.map (cInt .i64))),some (.abox 57 [(.own 3),(jL 2 Qb.cells bb10),(.own 0),(.own 1)] (bi11.map Qm)),jR 4 Qa.cells ba12,some (.row false 1 (bh13.map (cInt .i64))),some (.row false 1 (bh6.map (cInt .i64))),some (.abox 82 [] (bh14.map (pInt .i64))),some (.abox 83 [] (bh15.map (pInt .i64))),some (.abox 80 [] (bh16.map (pInt .i64))),some (.row false 1 (bh17.map (cInt .i64)))])
noncomputable def f23r1n6(bg1:Int)(bk2 bk3:Nat)(bg4 bg5:Int)(bh6:List Int)(bg7:Int)(bh8 bh9:List Int)(bb10:List Qb)(bi11:List Bool)(ba12:List Qa)(bh13 bh14 bh15 bh16 bh17:List Int):Option f23r1n6O :=
 req (idxB bg5 10) <|
 req (idxB bg7 8) <|
 (bi11[((Int.toNat bg5)*8+(Int.toNat bg7)*1)]?).bind fun x4267 =>
 bif x4267 then
  (bh16[((Int.toNat bg7)*1)]?).bind fun x4270 =>
  bif decide (0≤x4270) then
   some (.norm bk2 bk3 bh15 bh16 bh17)
  else
   (at? bh6 bg7).bind fun x4276 =>
   bif decide (0<x4276) then
    some .exit8
   else
    (f23r1n7 FUEL bg1 bg4 bg5 bg7 bh6 bh13 bh8 bh9 bb10 bi11 ba12 bh14 bh16 bk2 bk3 0 bh15 bh17).bind fun o4357=>match o4357 with
    | .exit10 v4359 v4360 v4361 v4362=>some (.norm v4359 v4360 v4361 (bh16.set ((Int.toNat bg7)*1) bg5) v4362)
 else
  some (.norm bk2 bk3 bh15 bh16 bh17)
theorem f23r1n6_ok(bg1:Int)(bk2 bk3:Nat)(bg4 bg5:Int)(bh6:List Int)(bg7:Int)(bh8 bh9:List Int)(bb10:List Qb)(bi11:List Bool)(ba12:List Qa)(bh13 bh14 bh15 bh16 bh17:List Int){o:f23r1n6O}(h:f23r1n6 bg1 bk2 bk3 bg4 bg5 bh6 bg7 bh8 bh9 bb10 bi11 ba12 bh13 bh14 bh15 bh16 bh17=some o):T Try.prog Try.f23.ntmps 4 (cL (Qh 2 (cL (cL (Qh 3 (cL (Qh 1 (cL (cL (cL (Qh 1 (Qh 1 (Qh 1 (Qh 1 (Qh 2 (cL (cL (cL (Qh 4 c23))))))))))))))))))) (f23r1n6S bg1 bk2 bk3 bg4 bg5 bh6 bg7 bh8 bh9 bb10 bi11 ba12 bh13 bh14 bh15 bh16 bh17) (·=f23r1n6E bg1 bk2 bk3 bg4 bg5 bh6 bg7 bh8 bh9 bb10 bi11 ba12 bh13 bh14 bh15 bh16 bh17 o):=by
 unfold f23r1n6 at h;refine T.block' (i:=9) (by kernel_rfl) ?_;obtain ⟨h4265,h⟩:=Qk h;obtain ⟨h4266,h⟩:=Qk h;obtain ⟨x4267,h4268,h⟩:=Qc h;rcases Qi h with ⟨h4269,h⟩|⟨h4269,h⟩
 ·obtain ⟨x4270,h4271,h⟩:=Qc h;rcases Qi h with ⟨h4272,h⟩|⟨h4272,h⟩
  ·obtain rfl:=Qf h;exact rK Qg 2 [j3,(jF [9,10,11,12],[(4,.at_ (Int.toNat bg5)),(5,.at_ (Int.toNat bg7)),(6,.arr ((Int.toNat bg5)*8+(Int.toNat bg7)*1) (Qm x4267)),(10,.at_ (Int.toNat bg7)),(11,.arr ((Int.toNat bg7)*1) ((pInt .i64) x4270)),(13,.bool false)],[])] [some true] [] [4,5,6,7,8,9] [0,1,2,7,8,9,10,12,14,15,69,70] (.exit 9) ((f23r1n6E bg1 bk2 bk3 bg4 bg5 bh6 bg7 bh8 bh9 bb10 bi11 ba12 bh13 bh14 bh15 bh16 bh17 (.norm bk2 bk3 bh15 bh16 bh17)).2) (ap (Qq h4265) (ap (Qs h4265) (ap (Qq h4266) (ap (Qs h4266) (ap ((by omega:(4+(Int.toNat bg5)*8+(Int.toNat bg7)*1)=4+((Int.toNat bg5)*8+(Int.toNat bg7)*1))) (ap (Qt Qm h4268) (ap2 (Qab h4269) (ap (Qq h4266) (ap (Qs h4266) (ap (Qab h4269) (ap ((by omega:(0+(Int.toNat bg7)*1)=0+((Int.toNat bg7)*1))) (ap (Qt (pInt .i64) h4271) (ap2 (Qab h4269) (ap h4272 an)))))))))))))) rfl
  ·refine rN Qg 2 [j3,(jF [9,10,11,12],[(4,.at_ (Int.toNat bg5)),(5,.at_ (Int.toNat bg7)),(6,.arr ((Int.toNat bg5)*8+(Int.toNat bg7)*1) (Qm x4267)),(10,.at_ (Int.toNat bg7)),(11,.arr ((Int.toNat bg7)*1) ((pInt .i64) x4270)),(13,.bool false)],[])] [some false] [] [4,5,6,7,8,9] [0,1,2,7,8,9,10,12,14,15,16,69,70] (mkS [(0,(.own 4)),(1,(.own 5)),(2,(.bp 2 4)),(7,(.bp 6 0)),(8,(jI bg1)),(9,(.bp 7 0)),(10,(.bp 8 0)),(12,(.vw 9 bk2 bk3)),(14,(jI bg4)),(15,(jI bg5)),(16,(jI bg7)),(69,(jI (bh6.length:Int))),(70,(jI bg7))],[some (.row false 1 (bh8.map (cInt .i64))),some (.row false 1 (bh9.map (cInt .i64))),some (.abox 57 [(.own 3),(jL 2 Qb.cells bb10),(.own 0),(.own 1)] (bi11.map Qm)),jR 4 Qa.cells ba12,some (.row false 1 (bh13.map (cInt .i64))),some (.row false 1 (bh6.map (cInt .i64))),some (.abox 82 [] (bh14.map (pInt .i64))),some (.abox 83 [] (bh15.map (pInt .i64))),some (.abox 80 [] (bh16.map (pInt .i64))),some (.row false 1 (bh17.map (cInt .i64)))]) (ap (Qq h4265) (ap (Qs h4265) (ap (Qq h4266) (ap (Qs h4266) (ap ((by omega:(4+(Int.toNat bg5)*8+(Int.toNat bg7)*1)=4+((Int.toNat bg5)*8+(Int.toNat bg7)*1))) (ap (Qt Qm h4268) (ap2 (Qab h4269) (ap (Qq h4266) (ap (Qs h4266) (ap (Qab h4269) (ap ((by omega:(0+(Int.toNat bg7)*1)=0+((Int.toNat bg7)*1))) (ap (Qt (pInt .i64) h4271) (ap2 (Qab h4269) (ap h4272 an)))))))))))))) ?_
   obtain ⟨x4276,h4277,h⟩:=Qc h;rcases Qi h with ⟨h4278,h⟩|⟨h4278,h⟩
   ·obtain rfl:=Qf h;exact rK Qg 2 [([],[(2,.at_ (Int.toNat bg7)),(3,.arw ((Int.toNat bg7)*1))],[(3,.arr 8 ((bh16.set ((Int.toNat bg7)*1) bg5).map (pInt .i64)))]),([],[(2,.at_ (Int.toNat bg7)),(3,.idx 0 ((cInt .i64) x4276))],[]),j3] [some true] [] [4,5,6,7,8,9] [0,1,2,7,8,9,10,12,14] (.exit 8) ((f23r1n6E bg1 bk2 bk3 bg4 bg5 bh6 bg7 bh8 bh9 bb10 bi11 ba12 bh13 bh14 bh15 bh16 bh17 .exit8).2) (ap (Qq h4266) (ap (Qs h4266) (ap ((by omega:(0+(Int.toNat bg7)*1)=0+((Int.toNat bg7)*1))) (ap (Qcg (f:=(pInt .i64)) h4271) (ap (Qai (xs:=bh16) (f:=(pInt .i64)) (k:=((Int.toNat bg7)*1)) (x:=bg5)) (ap (Qe h4277).1 (ap (Qp (cInt .i64) (Qe h4277).2) (ap (Ql (cInt .i64) (Qe h4277).2) (ap h4278 an))))))))) rfl
   ·refine rN Qg 3 [([],[(2,.at_ (Int.toNat bg7)),(3,.arw ((Int.toNat bg7)*1))],[(3,.arr 8 ((bh16.set ((Int.toNat bg7)*1) bg5).map (pInt .i64)))]),([],[(2,.at_ (Int.toNat bg7)),(3,.idx 0 ((cInt .i64) x4276))],[]),([],[],[(1,.val (jI (bh13.length:Int)))])] [some false] [] [4,5,6,7,8,9] [0,1,2,7,8,9,10,12,14,15,16,69,70,97,98] (f23r1n7S bg1 bg4 bg5 bg7 bh6 bh13 bh8 bh9 bb10 bi11 ba12 bh14 bh16 bk2 bk3 0 bh15 bh17) (ap (Qq h4266) (ap (Qs h4266) (ap ((by omega:(0+(Int.toNat bg7)*1)=0+((Int.toNat bg7)*1))) (ap (Qcg (f:=(pInt .i64)) h4271) (ap (Qai (xs:=bh16) (f:=(pInt .i64)) (k:=((Int.toNat bg7)*1)) (x:=bg5)) (ap (Qe h4277).1 (ap (Qp (cInt .i64) (Qe h4277).2) (ap (Ql (cInt .i64) (Qe h4277).2) (ap h4278 (ap (Qu (xs:=bh13) (c:=(cInt .i64))) an)))))))))) ?_;obtain ⟨o4357,h4358,h⟩:=Qc h;cases o4357 with
    | exit10 v4359 v4360 v4361 v4362 =>
     obtain rfl:=Qf h;exact T.last' (T.bl (i:=10) (by kernel_rfl) (by kernel_rfl) (f23r1n7_ok FUEL bg1 bg4 bg5 bg7 bh6 bh13 bh8 bh9 bb10 bi11 ba12 bh14 bh16 bk2 bk3 0 bh15 bh17 h4358)) (tds:=[]) (m:=[4,5,6,7,8,9]) (keep:=[0,1,2,7,8,9,10,12,14,15,69,70]) (st2:=(f23r1n6E bg1 bk2 bk3 bg4 bg5 bh6 bg7 bh8 bh9 bb10 bi11 ba12 bh13 bh14 bh15 bh16 bh17 (.norm v4359 v4360 v4361 (bh16.set ((Int.toNat bg7)*1) bg5) v4362)).2) (by kernel_rfl) an rfl
 ·obtain rfl:=Qf h;exact rK Qg 2 [j3,(jT [9,10,11,12],[(4,.at_ (Int.toNat bg5)),(5,.at_ (Int.toNat bg7)),(6,.arr ((Int.toNat bg5)*8+(Int.toNat bg7)*1) (Qm x4267)),(13,.bool true)],[])] [none] [] [4,5,6,7,8,9] [0,1,2,7,8,9,10,12,14,15,69,70] (.exit 9) ((f23r1n6E bg1 bk2 bk3 bg4 bg5 bh6 bg7 bh8 bh9 bb10 bi11 ba12 bh13 bh14 bh15 bh16 bh17 (.norm bk2 bk3 bh15 bh16 bh17)).2) (ap (Qq h4265) (ap (Qs h4265) (ap (Qq h4266) (ap (Qs h4266) (ap ((by omega:(4+(Int.toNat bg5)*8+(Int.toNat bg7)*1)=4+((Int.toNat bg5)*8+(Int.toNat bg7)*1))) (ap (Qt Qm h4268) (ap (Qak h4269) (ap4 (Qak h4269) an)))))))) rfl
inductive f23r1n8O where
 | exit8 (v4375:Nat) (v4376:Nat) (v4377:Int) (v4378:List Int) (v4379:List Int) (v4380:List Int)
def f23r1n8E(bg1 bg4 x4007:Int)(bh11 bh5 bh6:List Int)(bb7:List Qb)(bi8:List Bool)(ba9:List Qa)(bh10 bh12:List Int):f23r1n8O→Ex×Tr×Hp
 | .exit8 v4375 v4376 v4377 v4378 v4379 v4380=>((.exit 8),mkS [(0,(.own 4)),(1,(.own 5)),(2,(.bp 2 4)),(7,(.bp 6 0)),(8,(jI bg1)),(9,(.bp 7 0)),(10,(.bp 8 0)),(12,(.vw 9 v4375 v4376)),(14,(jI v4377))],[some (.row false 1 (bh5.map (cInt .i64))),some (.row false 1 (bh6.map (cInt .i64))),some (.abox 57 [(.own 3),(jL 2 Qb.cells bb7),(.own 0),(.own 1)] (bi8.map Qm)),jR 4 Qa.cells ba9,some (.row false 1 (bh10.map (cInt .i64))),some (.row false 1 (bh11.map (cInt .i64))),some (.abox 82 [] (bh12.map (pInt .i64))),some (.abox 83 [] (v4378.map (pInt .i64))),some (.abox 80 [] (v4379.map (pInt .i64))),some (.row false 1 (v4380.map (cInt .i64)))])
def f23r1n8S(bg1 bg4 x4007:Int)(bh11 bh5 bh6:List Int)(bb7:List Qb)(bi8:List Bool)(ba9:List Qa)(bh10 bh12:List Int)(v4249 v4250:Nat)(v4251:Int)(v4252 v4253 v4254:List Int):Tr×Hp:=(mkS [(0,(.own 4)),(1,(.own 5)),(2,(.bp 2 4)),(7,(.bp 6 0)),(8,(jI bg1)),(9,(.bp 7 0)),(10,(.bp 8 0)),(12,(.vw 9 v4249 v4250)),(14,(jI bg4)),(15,(jI x4007)),(69,(jI (bh11.length:Int))),(70,(jI v4251))],[some (.row false 1 (bh5.map (cInt .i64))),some (.row false 1 (bh6.map (cInt .i64))),some (.abox 57 [(.own 3),(jL 2 Qb.cells bb7),(.own 0),(.own 1)] (bi8.map Qm)),jR 4 Qa.cells ba9,some (.row false 1 (bh10.map (cInt .i64))),some (.row false 1 (bh11.map (cInt .i64))),some (.abox 82 [] (bh12.map (pInt .i64))),some (.abox 83 [] (v4252.map (pInt .i64))),some (.abox 80 [] (v4253.map (pInt .i64))),some (.row false 1 (v4254.map (cInt .i64)))])
noncomputable def f23r1n8:Nat→Int→Int→Int→List Int→List Int→List Int→List Qb→List Bool→List Qa→List Int→List Int→Nat→Nat→Int→List Int→List Int→List Int→Option f23r1n8O
 | 0,_,_,_,_,_,_,_,_,_,_,_,_,_,_,_,_,_=>none
 | f+1,bg1,bg4,x4007,bh11,bh5,bh6,bb7,bi8,ba9,bh10,bh12,v4249,v4250,v4251,v4252,v4253,v4254 =>
  bif decide (v4251<(bh11.length:Int)) then
   (f23r1n6 bg1 v4249 v4250 bg4 x4007 bh11 v4251 bh5 bh6 bb7 bi8 ba9 bh10 bh12 v4252 v4253 v4254).bind fun o4368=>match o4368 with
   | .exit8=>some (.exit8 v4249 v4250 v4251 v4252 (v4253.set ((Int.toNat v4251)*1) x4007) v4254)
   | .norm v4370 v4371 v4372 v4373 v4374=>(f23r1n8 f bg1 bg4 x4007 bh11 bh5 bh6 bb7 bi8 ba9 bh10 bh12 v4370 v4371 (wr64 (v4251+1)) v4372 v4373 v4374)
  else
   some (.exit8 v4249 v4250 bg4 v4252 v4253 v4254)
theorem f23r1n8_ok:∀(f:Nat)(bg1 bg4 x4007:Int)(bh11 bh5 bh6:List Int)(bb7:List Qb)(bi8:List Bool)(ba9:List Qa)(bh10 bh12:List Int)(v4249 v4250:Nat)(v4251:Int)(v4252 v4253 v4254:List Int){o:f23r1n8O},f23r1n8 f bg1 bg4 x4007 bh11 bh5 bh6 bb7 bi8 ba9 bh10 bh12 v4249 v4250 v4251 v4252 v4253 v4254=some o→TL Try.prog Try.f23.ntmps 4 f (cL (cL (Qh 3 (cL (Qh 1 (cL (cL (cL (Qh 1 (Qh 1 (Qh 1 (Qh 1 (Qh 2 (cL (cL (cL (Qh 4 c23))))))))))))))))) (f23r1n8S bg1 bg4 x4007 bh11 bh5 bh6 bb7 bi8 ba9 bh10 bh12 v4249 v4250 v4251 v4252 v4253 v4254) (·=f23r1n8E bg1 bg4 x4007 bh11 bh5 bh6 bb7 bi8 ba9 bh10 bh12 o)
 | 0,_,_,_,_,_,_,_,_,_,_,_,_,_,_,_,_,_,o,h=>by rw [f23r1n8] at h; cases h
 | f+1,bg1,bg4,x4007,bh11,bh5,bh6,bb7,bi8,ba9,bh10,bh12,v4249,v4250,v4251,v4252,v4253,v4254,o,h=>by
  rw [f23r1n8] at h;refine TL.body (K:=fun s=>∃v4249:Nat,∃v4250:Nat,∃v4251:Int,∃v4252:List Int,∃v4253:List Int,∃v4254:List Int,s=(f23r1n8S bg1 bg4 x4007 bh11 bh5 bh6 bb7 bi8 ba9 bh10 bh12 v4249 v4250 v4251 v4252 v4253 v4254)∧f23r1n8 f bg1 bg4 x4007 bh11 bh5 bh6 bb7 bi8 ba9 bh10 bh12 v4249 v4250 v4251 v4252 v4253 v4254=some o) ?_ (by rintro _ ⟨v4249,v4250,v4251,v4252,v4253,v4254,rfl,hk⟩; exact f23r1n8_ok f _ _ _ _ _ _ _ _ _ _ _ _ _ _ _ _ _ hk);rcases Qi h with ⟨h4256,h⟩|⟨h4256,h⟩
  ·refine rN Qg 2 [j3] [some true] [] [4,5,6,7,8,9] [0,1,2,7,8,9,10,12,14,15,69,70] (f23r1n6S bg1 v4249 v4250 bg4 x4007 bh11 v4251 bh5 bh6 bb7 bi8 ba9 bh10 bh12 v4252 v4253 v4254) (ap h4256 an) ?_;obtain ⟨o4368,h4369,h⟩:=Qc h;cases o4368 with
   | exit8 =>
    obtain rfl:=Qf h;exact T.oneX' (by kernel_rfl) (f23r1n6_ok bg1 v4249 v4250 bg4 x4007 bh11 v4251 bh5 bh6 bb7 bi8 ba9 bh10 bh12 v4252 v4253 v4254 h4369) (tds:=[]) (m:=[4,5,6,7,8,9]) (keep:=[0,1,2,7,8,9,10,12,14]) (st2:=(f23r1n8E bg1 bg4 x4007 bh11 bh5 bh6 bb7 bi8 ba9 bh10 bh12 (.exit8 v4249 v4250 v4251 v4252 (v4253.set ((Int.toNat v4251)*1) x4007) v4254)).2) (by kernel_rfl) an rfl (Qn.out rfl rfl)
   | norm v4370 v4371 v4372 v4373 v4374 =>
    refine T.oneN (by kernel_rfl) (f23r1n6_ok bg1 v4249 v4250 bg4 x4007 bh11 v4251 bh5 bh6 bb7 bi8 ba9 bh10 bh12 v4252 v4253 v4254 h4369) (st2:=(f23r1n6E bg1 v4249 v4250 bg4 x4007 bh11 v4251 bh5 bh6 bb7 bi8 ba9 bh10 bh12 v4252 v4253 v4254 (.norm v4370 v4371 v4372 v4373 v4374)).2) rfl ?_;exact rE Qg [j3] [] [] [4,5,6,7,8,9] [0,1,2,7,8,9,10,12,14,15,69,70] (.norm,(f23r1n8S bg1 bg4 x4007 bh11 bh5 bh6 bb7 bi8 ba9 bh10 bh12 v4370 v4371 (wr64 (v4251+1)) v4372 v4373 v4374)) an (Qn.norm ⟨v4370,v4371,(wr64 (v4251+1)),v4372,v4373,v4374,rfl,h⟩)
  ·obtain rfl:=Qf h;exact rK Qg 2 [j3] [some false] [] [4,5,6,7,8,9] [0,1,2,7,8,9,10,12,14] (.exit 8) ((f23r1n8E bg1 bg4 x4007 bh11 bh5 bh6 bb7 bi8 ba9 bh10 bh12 (.exit8 v4249 v4250 bg4 v4252 v4253 v4254)).2) (ap h4256 an) (Qn.out rfl rfl)
inductive f23r1n5O where
 | norm (v4389:Nat) (v4390:Nat) (v4391:Int) (v4392:List Int) (v4393:List Int) (v4394:List Int)
def f23r1n5E(bg1:Int)(bk2 bk3:Nat)(bg4:Int)(bh5 bh6:List Int)(bb7:List Qb)(bi8:List Bool)(ba9:List Qa)(bh10 bh11 bh12 bh13 bh14 bh15:List Int):f23r1n5O→Ex×Tr×Hp
 | .norm v4389 v4390 v4391 v4392 v4393 v4394=>(.norm,mkS [(0,(.own 4)),(1,(.own 5)),(2,(.bp 2 4)),(7,(.bp 6 0)),(8,(jI bg1)),(9,(.bp 7 0)),(10,(.bp 8 0)),(12,(.vw 9 v4389 v4390)),(14,(jI v4391))],[some (.row false 1 (bh5.map (cInt .i64))),some (.row false 1 (bh6.map (cInt .i64))),some (.abox 57 [(.own 3),(jL 2 Qb.cells bb7),(.own 0),(.own 1)] (bi8.map Qm)),jR 4 Qa.cells ba9,some (.row false 1 (bh10.map (cInt .i64))),some (.row false 1 (bh11.map (cInt .i64))),some (.abox 82 [] (bh12.map (pInt .i64))),some (.abox 83 [] (v4392.map (pInt .i64))),some (.abox 80 [] (v4393.map (pInt .i64))),some (.row false 1 (v4394.map (cInt .i64)))])
def f23r1n5S(bg1:Int)(bk2 bk3:Nat)(bg4:Int)(bh5 bh6:List Int)(bb7:List Qb)(bi8:List Bool)(ba9:List Qa)(bh10 bh11 bh12 bh13 bh14 bh15:List Int):Tr×Hp:=(mkS [(0,(.own 4)),(1,(.own 5)),(2,(.bp 2 4)),(7,(.bp 6 0)),(8,(jI bg1)),(9,(.bp 7 0)),(10,(.bp 8 0)),(12,(.vw 9 bk2 bk3)),(14,(jI bg4))],[some (.row false 1 (bh5.map (cInt .i64))),some (.row false 1 (bh6.map (cInt .i64))),some (.abox 57 [(.own 3),(jL 2 Qb.cells bb7),(.own 0),(.own 1)] (bi8.map Qm)),jR 4 Qa.cells ba9,some (.row false 1 (bh10.map (cInt .i64))),some (.row false 1 (bh11.map (cInt .i64))),some (.abox 82 [] (bh12.map (pInt .i64))),some (.abox 83 [] (bh13.map (pInt .i64))),some (.abox 80 [] (bh14.map (pInt .i64))),some (.row false 1 (bh15.map (cInt .i64)))])
noncomputable def f23r1n5(bg1:Int)(bk2 bk3:Nat)(bg4:Int)(bh5 bh6:List Int)(bb7:List Qb)(bi8:List Bool)(ba9:List Qa)(bh10 bh11 bh12 bh13 bh14 bh15:List Int):Option f23r1n5O :=
 req (decide (bk2+bk3≤bh15.length)) <|
 (at? ((bh15.drop bk2).take bk3) 0).bind fun x4007 =>
 req (cutB 1 (bk3:Int) bk3) <|
 (f23r1n8 FUEL bg1 bg4 x4007 bh11 bh5 bh6 bb7 bi8 ba9 bh10 bh12 (bk2+(Int.toNat 1)) (bk3-(Int.toNat 1)) 0 bh13 bh14 bh15).bind fun o4381=>match o4381 with
 | .exit8 v4383 v4384 v4385 v4386 v4387 v4388=>some (.norm v4383 v4384 v4385 v4386 v4387 v4388)
theorem f23r1n5_ok(bg1:Int)(bk2 bk3:Nat)(bg4:Int)(bh5 bh6:List Int)(bb7:List Qb)(bi8:List Bool)(ba9:List Qa)(bh10 bh11 bh12 bh13 bh14 bh15:List Int){o:f23r1n5O}(h:f23r1n5 bg1 bk2 bk3 bg4 bh5 bh6 bb7 bi8 ba9 bh10 bh11 bh12 bh13 bh14 bh15=some o):T Try.prog Try.f23.ntmps 4 (Qh 1 (cL (cL (cL (Qh 1 (Qh 1 (Qh 1 (Qh 1 (Qh 2 (cL (cL (cL (Qh 4 c23))))))))))))) (f23r1n5S bg1 bk2 bk3 bg4 bh5 bh6 bb7 bi8 ba9 bh10 bh11 bh12 bh13 bh14 bh15) (·=f23r1n5E bg1 bk2 bk3 bg4 bh5 bh6 bb7 bi8 ba9 bh10 bh11 bh12 bh13 bh14 bh15 o):=by
 unfold f23r1n5 at h;refine T.block' (i:=7) (by kernel_rfl) ?_;obtain ⟨h4006,h⟩:=Qk h;obtain ⟨x4007,h4008,h⟩:=Qc h;obtain ⟨h4010,h⟩:=Qk h;refine rN Qg 3 [([],[(1,.at_ (Int.toNat 0)),(2,.idx 0 ((cInt .i64) x4007))],[]),([],[(1,.cut (Int.toNat 1) bk3)],[]),([],[],[(1,.val (jI (bh11.length:Int)))])] [] [] [4,5,6,7,8,9] [0,1,2,7,8,9,10,12,14,15,69,70] (f23r1n8S bg1 bg4 x4007 bh11 bh5 bh6 bb7 bi8 ba9 bh10 bh12 (bk2+(Int.toNat 1)) (bk3-(Int.toNat 1)) 0 bh13 bh14 bh15) (ap (Qe h4008).1 (ap (vw_lt h4008) (ap (vw_req (c:=(cInt .i64)) h4006) (ap (Ql (cInt .i64) (vw_at h4008)) (ap (rfl:bk3=bk3) (ap (cut_nl_2 h4010) (ap (cut_nl_3 h4010) (ap (vw_cut (cut_nl_4 h4010) (vw_req (c:=(cInt .i64)) h4006)) (ap (Qu (xs:=bh11) (c:=(cInt .i64))) an))))))))) ?_;obtain ⟨o4381,h4382,h⟩:=Qc h;cases o4381 with
 | exit8 v4383 v4384 v4385 v4386 v4387 v4388 =>
  obtain rfl:=Qf h;exact T.last' (T.bl (i:=8) (by kernel_rfl) (by kernel_rfl) (f23r1n8_ok FUEL bg1 bg4 x4007 bh11 bh5 bh6 bb7 bi8 ba9 bh10 bh12 (bk2+(Int.toNat 1)) (bk3-(Int.toNat 1)) 0 bh13 bh14 bh15 h4382)) (tds:=[]) (m:=[4,5,6,7,8,9]) (keep:=[0,1,2,7,8,9,10,12,14]) (st2:=(f23r1n5E bg1 bk2 bk3 bg4 bh5 bh6 bb7 bi8 ba9 bh10 bh11 bh12 bh13 bh14 bh15 (.norm v4383 v4384 v4385 v4386 v4387 v4388)).2) (by kernel_rfl) an rfl
inductive f23r1n9O where
 | exit6 (v4403:Int) (v4404:List Int) (v4405:List Int)
def f23r1n9E(v3087:Int)(a2 a3:List Int)(a4:List Qb)(a5:List Bool)(a6:List Qa)(v3088 v3089 v3090:List Int):f23r1n9O→Ex×Tr×Hp
 | .exit6 v4403 v4404 v4405=>((.exit 6),mkS [(0,(.own 4)),(1,(.own 5)),(2,(.bp 2 4)),(7,(.bp 6 0)),(8,(jI v3087)),(9,(.bp 7 0)),(10,(.bp 8 0)),(14,(jI v4403))],[some (.row false 1 (a2.map (cInt .i64))),some (.row false 1 (a3.map (cInt .i64))),some (.abox 57 [(.own 3),(jL 2 Qb.cells a4),(.own 0),(.own 1)] (a5.map Qm)),jR 4 Qa.cells a6,some (.row false 1 (v3088.map (cInt .i64))),some (.row false 1 (v3089.map (cInt .i64))),some (.abox 82 [] (v3090.map (pInt .i64))),some (.abox 83 [] (v4404.map (pInt .i64))),some (.abox 80 [] (v4405.map (pInt .i64)))])
def f23r1n9S(v3087:Int)(a2 a3:List Int)(a4:List Qb)(a5:List Bool)(a6:List Qa)(v3088 v3089 v3090:List Int)(v3993 v3994:Nat)(v3995:Int)(v3996 v3997 v3998:List Int):Tr×Hp:=(mkS [(0,(.own 4)),(1,(.own 5)),(2,(.bp 2 4)),(7,(.bp 6 0)),(8,(jI v3087)),(9,(.bp 7 0)),(10,(.bp 8 0)),(12,(.vw 9 v3993 v3994)),(14,(jI v3995))],[some (.row false 1 (a2.map (cInt .i64))),some (.row false 1 (a3.map (cInt .i64))),some (.abox 57 [(.own 3),(jL 2 Qb.cells a4),(.own 0),(.own 1)] (a5.map Qm)),jR 4 Qa.cells a6,some (.row false 1 (v3088.map (cInt .i64))),some (.row false 1 (v3089.map (cInt .i64))),some (.abox 82 [] (v3090.map (pInt .i64))),some (.abox 83 [] (v3996.map (pInt .i64))),some (.abox 80 [] (v3997.map (pInt .i64))),some (.row false 1 (v3998.map (cInt .i64)))])
noncomputable def f23r1n9:Nat→Int→List Int→List Int→List Qb→List Bool→List Qa→List Int→List Int→List Int→Nat→Nat→Int→List Int→List Int→List Int→Option f23r1n9O
 | 0,_,_,_,_,_,_,_,_,_,_,_,_,_,_,_=>none
 | f+1,v3087,a2,a3,a4,a5,a6,v3088,v3089,v3090,v3993,v3994,v3995,v3996,v3997,v3998 =>
  bif decide (v3995<0) then
   bif (decide (0<((v3994:Nat):Int))) then
    (f23r1n5 v3087 v3993 v3994 v3995 a2 a3 a4 a5 a6 v3088 v3089 v3090 v3996 v3997 v3998).bind fun o4395=>match o4395 with
    | .norm v4397 v4398 v4399 v4400 v4401 v4402=>(f23r1n9 f v3087 a2 a3 a4 a5 a6 v3088 v3089 v3090 v4397 v4398 v4399 v4400 v4401 v4402)
   else
    some (.exit6 v3995 v3996 v3997)
  else
   some (.exit6 v3995 v3996 v3997)
theorem f23r1n9_ok:∀(f:Nat)(v3087:Int)(a2 a3:List Int)(a4:List Qb)(a5:List Bool)(a6:List Qa)(v3088 v3089 v3090:List Int)(v3993 v3994:Nat)(v3995:Int)(v3996 v3997 v3998:List Int){o:f23r1n9O},f23r1n9 f v3087 a2 a3 a4 a5 a6 v3088 v3089 v3090 v3993 v3994 v3995 v3996 v3997 v3998=some o→TL Try.prog Try.f23.ntmps 4 f (cL (cL (cL (Qh 1 (Qh 1 (Qh 1 (Qh 1 (Qh 2 (cL (cL (cL (Qh 4 c23)))))))))))) (f23r1n9S v3087 a2 a3 a4 a5 a6 v3088 v3089 v3090 v3993 v3994 v3995 v3996 v3997 v3998) (·=f23r1n9E v3087 a2 a3 a4 a5 a6 v3088 v3089 v3090 o)
 | 0,_,_,_,_,_,_,_,_,_,_,_,_,_,_,_,o,h=>by rw [f23r1n9] at h; cases h
 | f+1,v3087,a2,a3,a4,a5,a6,v3088,v3089,v3090,v3993,v3994,v3995,v3996,v3997,v3998,o,h=>by
  rw [f23r1n9] at h;refine TL.body (K:=fun s=>∃v3993:Nat,∃v3994:Nat,∃v3995:Int,∃v3996:List Int,∃v3997:List Int,∃v3998:List Int,s=(f23r1n9S v3087 a2 a3 a4 a5 a6 v3088 v3089 v3090 v3993 v3994 v3995 v3996 v3997 v3998)∧f23r1n9 f v3087 a2 a3 a4 a5 a6 v3088 v3089 v3090 v3993 v3994 v3995 v3996 v3997 v3998=some o) ?_ (by rintro _ ⟨v3993,v3994,v3995,v3996,v3997,v3998,rfl,hk⟩; exact f23r1n9_ok f _ _ _ _ _ _ _ _ _ _ _ _ _ _ _ hk);rcases Qi h with ⟨h4001,h⟩|⟨h4001,h⟩
  ·rcases Qi h with ⟨h4002,h⟩|⟨h4002,h⟩
   ·refine rN Qg 1 [(jT [3,4,5],[(6,.bool true)],[])] [some true] [] [4,5,6,7,8,9] [0,1,2,7,8,9,10,12,14] (f23r1n5S v3087 v3993 v3994 v3995 a2 a3 a4 a5 a6 v3088 v3089 v3090 v3996 v3997 v3998) (ap4 h4001 (ap h4002 an)) ?_;obtain ⟨o4395,h4396,h⟩:=Qc h;cases o4395 with
    | norm v4397 v4398 v4399 v4400 v4401 v4402 =>
     exact T.last' (f23r1n5_ok v3087 v3993 v3994 v3995 a2 a3 a4 a5 a6 v3088 v3089 v3090 v3996 v3997 v3998 h4396) (tds:=[]) (m:=[4,5,6,7,8,9]) (keep:=[0,1,2,7,8,9,10,12,14]) (st2:=(f23r1n9S v3087 a2 a3 a4 a5 a6 v3088 v3089 v3090 v4397 v4398 v4399 v4400 v4401 v4402)) (by kernel_rfl) an (Qn.norm ⟨v4397,v4398,v4399,v4400,v4401,v4402,rfl,h⟩)
   ·obtain rfl:=Qf h;exact rK Qg 1 [(jT [3,4,5],[(6,.bool true)],[])] [some false] [] [4,5,6,7,8] [0,1,2,7,8,9,10,14] (.exit 6) ((f23r1n9E v3087 a2 a3 a4 a5 a6 v3088 v3089 v3090 (.exit6 v3995 v3996 v3997)).2) (ap4 h4001 (ap h4002 an)) (Qn.out rfl rfl)
  ·obtain rfl:=Qf h;exact rK Qg 1 [(jF [3,4,5],[(6,.bool false)],[])] [none] [] [4,5,6,7,8] [0,1,2,7,8,9,10,14] (.exit 6) ((f23r1n9E v3087 a2 a3 a4 a5 a6 v3088 v3089 v3090 (.exit6 v3995 v3996 v3997)).2) (ap4 h4001 an) (Qn.out rfl rfl)
inductive f23r1n11O where
 | exit12 (v4493:Int)
def f23r1n11E(bg1 bg2:Int)(bh4 bh5:List Int)(bb6:List Qb)(bi7:List Bool)(ba8:List Qa)(bh9 bh10 bh11 bh12 bh13:List Int):f23r1n11O→Ex×Tr×Hp
 | .exit12 v4493=>((.exit 12),mkS [(0,(.own 4)),(1,(.own 5)),(2,(.bp 2 4)),(7,(.bp 6 0)),(8,(jI bg1)),(9,(.bp 7 0)),(10,(.bp 8 0)),(14,(jI bg2)),(18,(jI v4493))],[some (.row false 1 (bh4.map (cInt .i64))),some (.row false 1 (bh5.map (cInt .i64))),some (.abox 57 [(.own 3),(jL 2 Qb.cells bb6),(.own 0),(.own 1)] (bi7.map Qm)),jR 4 Qa.cells ba8,some (.row false 1 (bh9.map (cInt .i64))),some (.row false 1 (bh10.map (cInt .i64))),some (.abox 82 [] (bh11.map (pInt .i64))),some (.abox 83 [] (bh12.map (pInt .i64))),some (.abox 80 [] (bh13.map (pInt .i64)))])
def f23r1n11S(bg1 bg2:Int)(bh4 bh5:List Int)(bb6:List Qb)(bi7:List Bool)(ba8:List Qa)(bh9 bh10 bh11 bh12 bh13:List Int)(v4467 v4468:Int):Tr×Hp:=(mkS [(0,(.own 4)),(1,(.own 5)),(2,(.bp 2 4)),(7,(.bp 6 0)),(8,(jI bg1)),(9,(.bp 7 0)),(10,(.bp 8 0)),(14,(jI bg2)),(18,(jI v4467)),(19,(jI v4468))],[some (.row false 1 (bh4.map (cInt .i64))),some (.row false 1 (bh5.map (cInt .i64))),some (.abox 57 [(.own 3),(jL 2 Qb.cells bb6),(.own 0),(.own 1)] (bi7.map Qm)),jR 4 Qa.cells ba8,some (.row false 1 (bh9.map (cInt .i64))),some (.row false 1 (bh10.map (cInt .i64))),some (.abox 82 [] (bh11.map (pInt .i64))),some (.abox 83 [] (bh12.map (pInt .i64))),some (.abox 80 [] (bh13.map (pInt .i64)))])
noncomputable def f23r1n11:Nat→Int→Int→List Int→List Int→List Qb→List Bool→List Qa→List Int→List Int→List Int→List Int→List Int→Int→Int→Option f23r1n11O
 | 0,_,_,_,_,_,_,_,_,_,_,_,_,_,_=>none
 | f+1,bg1,bg2,bh4,bh5,bb6,bi7,ba8,bh9,bh10,bh11,bh12,bh13,v4467,v4468 =>
  req (idxB v4468 8) <|
  (bh13[((Int.toNat v4468)*1)]?).bind fun x4473 =>
  req (idxB x4473 10) <|
  (bh12[((Int.toNat x4473)*1)]?).bind fun x4482 =>
  bif decide (x4482=(-2)) then
   (at? bh9 x4473).bind fun x4485 =>
   some (.exit12 (mnI v4467 x4485))
  else
   req (idxB x4482 8) <|
   (bh11[((Int.toNat x4473)*8+(Int.toNat x4482)*1)]?).bind fun x4491 =>
   (f23r1n11 f bg1 bg2 bh4 bh5 bb6 bi7 ba8 bh9 bh10 bh11 bh12 bh13 (mnI v4467 x4491) x4482)
theorem f23r1n11_ok:∀(f:Nat)(bg1 bg2:Int)(bh4 bh5:List Int)(bb6:List Qb)(bi7:List Bool)(ba8:List Qa)(bh9 bh10 bh11 bh12 bh13:List Int)(v4467 v4468:Int){o:f23r1n11O},f23r1n11 f bg1 bg2 bh4 bh5 bb6 bi7 ba8 bh9 bh10 bh11 bh12 bh13 v4467 v4468=some o→TL Try.prog Try.f23.ntmps 4 f (cL (cL (Qh 1 (cL (Qh 2 (Qh 1 (Qh 1 (Qh 1 (Qh 1 (Qh 1 (Qh 2 (cL (cL (cL (Qh 4 c23))))))))))))))) (f23r1n11S bg1 bg2 bh4 bh5 bb6 bi7 ba8 bh9 bh10 bh11 bh12 bh13 v4467 v4468) (·=f23r1n11E bg1 bg2 bh4 bh5 bb6 bi7 ba8 bh9 bh10 bh11 bh12 bh13 o)
 | 0,_,_,_,_,_,_,_,_,_,_,_,_,_,_,o,h=>by rw [f23r1n11] at h; cases h
 | f+1,bg1,bg2,bh4,bh5,bb6,bi7,ba8,bh9,bh10,bh11,bh12,bh13,v4467,v4468,o,h=>by
  rw [f23r1n11] at h;refine TL.body (K:=fun s=>∃v4467:Int,∃v4468:Int,s=(f23r1n11S bg1 bg2 bh4 bh5 bb6 bi7 ba8 bh9 bh10 bh11 bh12 bh13 v4467 v4468)∧f23r1n11 f bg1 bg2 bh4 bh5 bb6 bi7 ba8 bh9 bh10 bh11 bh12 bh13 v4467 v4468=some o) ?_ (by rintro _ ⟨v4467,v4468,rfl,hk⟩; exact f23r1n11_ok f _ _ _ _ _ _ _ _ _ _ _ _ _ _ hk);refine T.block' (i:=13) (by kernel_rfl) ?_;obtain ⟨h4472,h⟩:=Qk h;obtain ⟨x4473,h4474,h⟩:=Qc h;obtain ⟨h4481,h⟩:=Qk h;obtain ⟨x4482,h4483,h⟩:=Qc h;rcases Qi h with ⟨h4484,h⟩|⟨h4484,h⟩
  ·obtain ⟨x4485,h4486,h⟩:=Qc h;obtain rfl:=Qf h
   exact rK Qg 2 [([],[(1,.at_ (Int.toNat v4468)),(2,.arr ((Int.toNat v4468)*1) ((pInt .i64) x4473))],[]),([],[(1,.at_ (Int.toNat x4473)),(2,.arr ((Int.toNat x4473)*1) ((pInt .i64) x4482))],[]),([],[(3,.at_ (Int.toNat x4473)),(4,.idx 0 ((cInt .i64) x4485))],[])] [some true] [] [4,5,6,7,8] [0,1,2,7,8,9,10,14,18] (.exit 12) ((f23r1n11E bg1 bg2 bh4 bh5 bb6 bi7 ba8 bh9 bh10 bh11 bh12 bh13 (.exit12 (mnI v4467 x4485))).2) (ap (Qq h4472) (ap (Qs h4472) (ap ((by omega:(0+(Int.toNat v4468)*1)=0+((Int.toNat v4468)*1))) (ap (Qt (pInt .i64) h4474) (ap (Qq h4481) (ap (Qs h4481) (ap ((by omega:(0+(Int.toNat x4473)*1)=0+((Int.toNat x4473)*1))) (ap (Qt (pInt .i64) h4483) (ap h4484 (ap (Qe h4486).1 (ap (Qp (cInt .i64) (Qe h4486).2) (ap (Ql (cInt .i64) (Qe h4486).2) an)))))))))))) (Qn.out rfl rfl)
  ·obtain ⟨h4490,h⟩:=Qk h;obtain ⟨x4491,h4492,h⟩:=Qc h
   exact rE Qg [([],[(1,.at_ (Int.toNat v4468)),(2,.arr ((Int.toNat v4468)*1) ((pInt .i64) x4473))],[]),([],[(1,.at_ (Int.toNat x4473)),(2,.arr ((Int.toNat x4473)*1) ((pInt .i64) x4482))],[]),([],[(1,.at_ (Int.toNat x4473)),(2,.arr ((Int.toNat x4473)*1) ((pInt .i64) x4482))],[]),([],[(3,.at_ (Int.toNat x4473)),(4,.at_ (Int.toNat x4482)),(5,.arr ((Int.toNat x4473)*8+(Int.toNat x4482)*1) ((pInt .i64) x4491))],[])] [some false] [] [4,5,6,7,8] [0,1,2,7,8,9,10,14,18,19] (.norm,(f23r1n11S bg1 bg2 bh4 bh5 bb6 bi7 ba8 bh9 bh10 bh11 bh12 bh13 (mnI v4467 x4491) x4482)) (ap (Qq h4472) (ap (Qs h4472) (ap ((by omega:(0+(Int.toNat v4468)*1)=0+((Int.toNat v4468)*1))) (ap (Qt (pInt .i64) h4474) (ap (Qq h4481) (ap (Qs h4481) (ap ((by omega:(0+(Int.toNat x4473)*1)=0+((Int.toNat x4473)*1))) (ap (Qt (pInt .i64) h4483) (ap h4484 (ap (Qq h4481) (ap (Qs h4481) (ap ((by omega:(0+(Int.toNat x4473)*1)=0+((Int.toNat x4473)*1))) (ap (Qt (pInt .i64) h4483) (ap (Qq h4481) (ap (Qs h4481) (ap (Qq h4490) (ap (Qs h4490) (ap ((by omega:(0+(Int.toNat x4473)*8+(Int.toNat x4482)*1)=0+((Int.toNat x4473)*8+(Int.toNat x4482)*1))) (ap (Qt (pInt .i64) h4492) an))))))))))))))))))) (Qn.norm ⟨(mnI v4467 x4491),x4482,rfl,h⟩)
inductive f23r1n10O where
 | norm (v4497:Int)
def f23r1n10E(bg1 bg2 bg3:Int)(bh4 bh5:List Int)(bb6:List Qb)(bi7:List Bool)(ba8:List Qa)(bh9 bh10 bh11 bh12 bh13:List Int):f23r1n10O→Ex×Tr×Hp
 | .norm v4497=>(.norm,mkS [(0,(.own 4)),(1,(.own 5)),(2,(.bp 2 4)),(7,(.bp 6 0)),(8,(jI bg1)),(9,(.bp 7 0)),(10,(.bp 8 0)),(14,(jI bg2)),(18,(jI v4497))],[some (.row false 1 (bh4.map (cInt .i64))),some (.row false 1 (bh5.map (cInt .i64))),some (.abox 57 [(.own 3),(jL 2 Qb.cells bb6),(.own 0),(.own 1)] (bi7.map Qm)),jR 4 Qa.cells ba8,some (.row false 1 (bh9.map (cInt .i64))),some (.row false 1 (bh10.map (cInt .i64))),some (.abox 82 [] (bh11.map (pInt .i64))),some (.abox 83 [] (bh12.map (pInt .i64))),some (.abox 80 [] (bh13.map (pInt .i64)))])
def f23r1n10S(bg1 bg2 bg3:Int)(bh4 bh5:List Int)(bb6:List Qb)(bi7:List Bool)(ba8:List Qa)(bh9 bh10 bh11 bh12 bh13:List Int):Tr×Hp:=(mkS [(0,(.own 4)),(1,(.own 5)),(2,(.bp 2 4)),(7,(.bp 6 0)),(8,(jI bg1)),(9,(.bp 7 0)),(10,(.bp 8 0)),(14,(jI bg2)),(18,(jI bg3))],[some (.row false 1 (bh4.map (cInt .i64))),some (.row false 1 (bh5.map (cInt .i64))),some (.abox 57 [(.own 3),(jL 2 Qb.cells bb6),(.own 0),(.own 1)] (bi7.map Qm)),jR 4 Qa.cells ba8,some (.row false 1 (bh9.map (cInt .i64))),some (.row false 1 (bh10.map (cInt .i64))),some (.abox 82 [] (bh11.map (pInt .i64))),some (.abox 83 [] (bh12.map (pInt .i64))),some (.abox 80 [] (bh13.map (pInt .i64)))])
noncomputable def f23r1n10(bg1 bg2 bg3:Int)(bh4 bh5:List Int)(bb6:List Qb)(bi7:List Bool)(ba8:List Qa)(bh9 bh10 bh11 bh12 bh13:List Int):Option f23r1n10O :=
 (f23r1n11 FUEL bg1 bg2 bh4 bh5 bb6 bi7 ba8 bh9 bh10 bh11 bh12 bh13 bg3 bg2).bind fun o4494=>match o4494 with
 | .exit12 v4496=>some (.norm v4496)
theorem f23r1n10_ok(bg1 bg2 bg3:Int)(bh4 bh5:List Int)(bb6:List Qb)(bi7:List Bool)(ba8:List Qa)(bh9 bh10 bh11 bh12 bh13:List Int){o:f23r1n10O}(h:f23r1n10 bg1 bg2 bg3 bh4 bh5 bb6 bi7 ba8 bh9 bh10 bh11 bh12 bh13=some o):T Try.prog Try.f23.ntmps 4 (cL (Qh 2 (Qh 1 (Qh 1 (Qh 1 (Qh 1 (Qh 1 (Qh 2 (cL (cL (cL (Qh 4 c23)))))))))))) (f23r1n10S bg1 bg2 bg3 bh4 bh5 bb6 bi7 ba8 bh9 bh10 bh11 bh12 bh13) (·=f23r1n10E bg1 bg2 bg3 bh4 bh5 bb6 bi7 ba8 bh9 bh10 bh11 bh12 bh13 o):=by
 unfold f23r1n10 at h;refine rN Qg 1 [j3] [] [] [4,5,6,7,8] [0,1,2,7,8,9,10,14,18,19] (f23r1n11S bg1 bg2 bh4 bh5 bb6 bi7 ba8 bh9 bh10 bh11 bh12 bh13 bg3 bg2) an ?_;obtain ⟨o4494,h4495,h⟩:=Qc h;cases o4494 with
 | exit12 v4496 =>
  obtain rfl:=Qf h;exact T.last' (T.bl (i:=12) (by kernel_rfl) (by kernel_rfl) (f23r1n11_ok FUEL bg1 bg2 bh4 bh5 bb6 bi7 ba8 bh9 bh10 bh11 bh12 bh13 bg3 bg2 h4495)) (tds:=[]) (m:=[4,5,6,7,8]) (keep:=[0,1,2,7,8,9,10,14,18]) (st2:=(f23r1n10E bg1 bg2 bg3 bh4 bh5 bb6 bi7 ba8 bh9 bh10 bh11 bh12 bh13 (.norm v4496)).2) (by kernel_rfl) an rfl
inductive f23r1n13O where
 | exit14 (v4613:List Int) (v4614:List Int)
def f23r1n13E(bg1 bg3:Int)(bh4 bh5:List Int)(bb6:List Qb)(bi7:List Bool)(ba8:List Qa)(bh9 bh10:List Int)(bg2 bg11:Int)(bh13 bh14:List Int):f23r1n13O→Ex×Tr×Hp
 | .exit14 v4613 v4614=>((.exit 14),mkS [(0,(.own 4)),(1,(.own 5)),(2,(.bp 2 4)),(7,(.bp 6 0)),(8,(jI bg1)),(18,(jI bg3))],[some (.row false 1 (bh4.map (cInt .i64))),some (.row false 1 (bh5.map (cInt .i64))),some (.abox 57 [(.own 3),(jL 2 Qb.cells bb6),(.own 0),(.own 1)] (bi7.map Qm)),jR 4 Qa.cells ba8,some (.row false 1 (v4613.map (cInt .i64))),some (.row false 1 ((bh10.set (Int.toNat bg2) (wr64 (bg11-bg3))).map (cInt .i64))),some (.abox 82 [] (v4614.map (pInt .i64)))])
def f23r1n13S(bg1 bg3:Int)(bh4 bh5:List Int)(bb6:List Qb)(bi7:List Bool)(ba8:List Qa)(bh9 bh10:List Int)(bg2 bg11:Int)(bh13 bh14:List Int)(v4575:Int)(v4576:List Int):Tr×Hp:=(mkS [(0,(.own 4)),(1,(.own 5)),(2,(.bp 2 4)),(7,(.bp 6 0)),(8,(jI bg1)),(9,(.bp 7 0)),(10,(.bp 8 0)),(18,(jI bg3)),(21,(jI v4575))],[some (.row false 1 (bh4.map (cInt .i64))),some (.row false 1 (bh5.map (cInt .i64))),some (.abox 57 [(.own 3),(jL 2 Qb.cells bb6),(.own 0),(.own 1)] (bi7.map Qm)),jR 4 Qa.cells ba8,some (.row false 1 (bh9.map (cInt .i64))),some (.row false 1 ((bh10.set (Int.toNat bg2) (wr64 (bg11-bg3))).map (cInt .i64))),some (.abox 82 [] (v4576.map (pInt .i64))),some (.abox 83 [] (bh13.map (pInt .i64))),some (.abox 80 [] (bh14.map (pInt .i64)))])
noncomputable def f23r1n13:Nat→Int→Int→List Int→List Int→List Qb→List Bool→List Qa→List Int→List Int→Int→Int→List Int→List Int→Int→List Int→Option f23r1n13O
 | 0,_,_,_,_,_,_,_,_,_,_,_,_,_,_,_=>none
 | f+1,bg1,bg3,bh4,bh5,bb6,bi7,ba8,bh9,bh10,bg2,bg11,bh13,bh14,v4575,v4576 =>
  req (idxB v4575 8) <|
  (bh14[((Int.toNat v4575)*1)]?).bind fun x4581 =>
  req (idxB x4581 10) <|
  (v4576[((Int.toNat x4581)*8+(Int.toNat v4575)*1)]?).bind fun x4587 =>
  (bh13[((Int.toNat x4581)*1)]?).bind fun x4602 =>
  bif decide (x4602=(-2)) then
   (at? bh9 x4581).bind fun x4605 =>
   some (.exit14 (bh9.set (Int.toNat x4581) (wr64 (x4605-bg3))) (v4576.set ((Int.toNat x4581)*8+(Int.toNat v4575)*1) (wr64 (x4587+bg3))))
  else
   req (idxB x4602 8) <|
   (v4576.set ((Int.toNat x4581)*8+(Int.toNat v4575)*1) (wr64 (x4587+bg3)))[((Int.toNat x4581)*8+(Int.toNat x4602)*1)]?.bind fun x4611 =>
   (f23r1n13 f bg1 bg3 bh4 bh5 bb6 bi7 ba8 bh9 bh10 bg2 bg11 bh13 bh14 x4602 ((v4576.set ((Int.toNat x4581)*8+(Int.toNat v4575)*1) (wr64 (x4587+bg3))).set ((Int.toNat x4581)*8+(Int.toNat x4602)*1) (wr64 (x4611-bg3))))
theorem f23r1n13_ok:∀(f:Nat)(bg1 bg3:Int)(bh4 bh5:List Int)(bb6:List Qb)(bi7:List Bool)(ba8:List Qa)(bh9 bh10:List Int)(bg2 bg11:Int)(bh13 bh14:List Int)(v4575:Int)(v4576:List Int){o:f23r1n13O},f23r1n13 f bg1 bg3 bh4 bh5 bb6 bi7 ba8 bh9 bh10 bg2 bg11 bh13 bh14 v4575 v4576=some o→TL Try.prog Try.f23.ntmps 4 f (cL (cL (Qh 1 (cL (Qh 1 (Qh 1 (Qh 2 (Qh 1 (Qh 1 (Qh 1 (Qh 1 (Qh 1 (Qh 2 (cL (cL (cL (Qh 4 c23))))))))))))))))) (f23r1n13S bg1 bg3 bh4 bh5 bb6 bi7 ba8 bh9 bh10 bg2 bg11 bh13 bh14 v4575 v4576) (·=f23r1n13E bg1 bg3 bh4 bh5 bb6 bi7 ba8 bh9 bh10 bg2 bg11 bh13 bh14 o)
 | 0,_,_,_,_,_,_,_,_,_,_,_,_,_,_,_,o,h=>by rw [f23r1n13] at h; cases h
 | f+1,bg1,bg3,bh4,bh5,bb6,bi7,ba8,bh9,bh10,bg2,bg11,bh13,bh14,v4575,v4576,o,h=>by
  rw [f23r1n13] at h;refine TL.body (K:=fun s=>∃v4575:Int,∃v4576:List Int,s=(f23r1n13S bg1 bg3 bh4 bh5 bb6 bi7 ba8 bh9 bh10 bg2 bg11 bh13 bh14 v4575 v4576)∧f23r1n13 f bg1 bg3 bh4 bh5 bb6 bi7 ba8 bh9 bh10 bg2 bg11 bh13 bh14 v4575 v4576=some o) ?_ (by rintro _ ⟨v4575,v4576,rfl,hk⟩; exact f23r1n13_ok f _ _ _ _ _ _ _ _ _ _ _ _ _ _ _ hk);refine T.block' (i:=15) (by kernel_rfl) ?_;obtain ⟨h4580,h⟩:=Qk h;obtain ⟨x4581,h4582,h⟩:=Qc h;obtain ⟨h4586,h⟩:=Qk h;obtain ⟨x4587,h4588,h⟩:=Qc h
  refine rN Qg 2 [([],[(1,.at_ (Int.toNat v4575)),(2,.arr ((Int.toNat v4575)*1) ((pInt .i64) x4581))],[]),([],[(2,.at_ (Int.toNat x4581)),(3,.at_ (Int.toNat v4575)),(4,.arr ((Int.toNat x4581)*8+(Int.toNat v4575)*1) ((pInt .i64) x4587)),(7,.at_ (Int.toNat x4581)),(8,.at_ (Int.toNat v4575)),(9,.arw ((Int.toNat x4581)*8+(Int.toNat v4575)*1))],[(9,.arr 6 ((v4576.set ((Int.toNat x4581)*8+(Int.toNat v4575)*1) (wr64 (x4587+bg3))).map (pInt .i64)))])] [] [] [4,5,6,7,8] [0,1,2,7,8,9,10,18,22] (mkS [(0,(.own 4)),(1,(.own 5)),(2,(.bp 2 4)),(7,(.bp 6 0)),(8,(jI bg1)),(9,(.bp 7 0)),(10,(.bp 8 0)),(18,(jI bg3)),(22,(jI x4581))],[some (.row false 1 (bh4.map (cInt .i64))),some (.row false 1 (bh5.map (cInt .i64))),some (.abox 57 [(.own 3),(jL 2 Qb.cells bb6),(.own 0),(.own 1)] (bi7.map Qm)),jR 4 Qa.cells ba8,some (.row false 1 (bh9.map (cInt .i64))),some (.row false 1 ((bh10.set (Int.toNat bg2) (wr64 (bg11-bg3))).map (cInt .i64))),some (.abox 82 [] ((v4576.set ((Int.toNat x4581)*8+(Int.toNat v4575)*1) (wr64 (x4587+bg3))).map (pInt .i64))),some (.abox 83 [] (bh13.map (pInt .i64))),some (.abox 80 [] (bh14.map (pInt .i64)))]) (ap (Qq h4580) (ap (Qs h4580) (ap ((by omega:(0+(Int.toNat v4575)*1)=0+((Int.toNat v4575)*1))) (ap (Qt (pInt .i64) h4582) (ap (Qq h4586) (ap (Qs h4586) (ap (Qq h4580) (ap (Qs h4580) (ap ((by omega:(0+(Int.toNat x4581)*8+(Int.toNat v4575)*1)=0+((Int.toNat x4581)*8+(Int.toNat v4575)*1))) (ap (Qt (pInt .i64) h4588) (ap (Qq h4586) (ap (Qs h4586) (ap (Qq h4580) (ap (Qs h4580) (ap ((by omega:(0+(Int.toNat x4581)*8+(Int.toNat v4575)*1)=0+((Int.toNat x4581)*8+(Int.toNat v4575)*1))) (ap (Qcg (f:=(pInt .i64)) h4588) (ap (Qai (xs:=v4576) (f:=(pInt .i64)) (k:=((Int.toNat x4581)*8+(Int.toNat v4575)*1)) (x:=(wr64 (x4587+bg3)))) an))))))))))))))))) ?_
  obtain ⟨x4602,h4603,h⟩:=Qc h;rcases Qi h with ⟨h4604,h⟩|⟨h4604,h⟩
  ·obtain ⟨x4605,h4606,h⟩:=Qc h;obtain rfl:=Qf h
   exact rK Qg 1 [([],[(1,.at_ (Int.toNat x4581)),(2,.arr ((Int.toNat x4581)*1) ((pInt .i64) x4602))],[]),([],[(2,.at_ (Int.toNat x4581)),(3,.idx 0 ((cInt .i64) x4605)),(6,.at_ (Int.toNat x4581)),(7,.idx 0 ((cInt .i64) x4605))],[(7,.row 4 ((bh9.set (Int.toNat x4581) (wr64 (x4605-bg3))).map (cInt .i64)))])] [some true] [] [4,5,6] [0,1,2,7,8,18] (.exit 14) ((f23r1n13E bg1 bg3 bh4 bh5 bb6 bi7 ba8 bh9 bh10 bg2 bg11 bh13 bh14 (.exit14 (bh9.set (Int.toNat x4581) (wr64 (x4605-bg3))) (v4576.set ((Int.toNat x4581)*8+(Int.toNat v4575)*1) (wr64 (x4587+bg3))))).2) (ap (Qq h4586) (ap (Qs h4586) (ap ((by omega:(0+(Int.toNat x4581)*1)=0+((Int.toNat x4581)*1))) (ap (Qt (pInt .i64) h4603) (ap h4604 (ap (Qe h4606).1 (ap (Qp (cInt .i64) (Qe h4606).2) (ap (Ql (cInt .i64) (Qe h4606).2) (ap (Qe h4606).1 (ap (Qp (cInt .i64) (Qe h4606).2) (ap (Ql (cInt .i64) (Qe h4606).2) (ap (Qcj (xs:=bh9) (c:=(cInt .i64)) (k:=(Int.toNat x4581)) (x:=(wr64 (x4605-bg3)))) an)))))))))))) (Qn.out rfl rfl)
  ·obtain ⟨h4610,h⟩:=Qk h;obtain ⟨x4611,h4612,h⟩:=Qc h
   exact rE Qg [([],[(1,.at_ (Int.toNat x4581)),(2,.arr ((Int.toNat x4581)*1) ((pInt .i64) x4602))],[]),([],[(1,.at_ (Int.toNat x4581)),(2,.arr ((Int.toNat x4581)*1) ((pInt .i64) x4602))],[]),([],[(2,.at_ (Int.toNat x4581)),(3,.at_ (Int.toNat x4602)),(4,.arr ((Int.toNat x4581)*8+(Int.toNat x4602)*1) ((pInt .i64) x4611)),(7,.at_ (Int.toNat x4581)),(8,.at_ (Int.toNat x4602)),(9,.arw ((Int.toNat x4581)*8+(Int.toNat x4602)*1))],[(9,.arr 6 (((v4576.set ((Int.toNat x4581)*8+(Int.toNat v4575)*1) (wr64 (x4587+bg3))).set ((Int.toNat x4581)*8+(Int.toNat x4602)*1) (wr64 (x4611-bg3))).map (pInt .i64)))])] [some false] [] [4,5,6,7,8] [0,1,2,7,8,9,10,18,21] (.norm,(f23r1n13S bg1 bg3 bh4 bh5 bb6 bi7 ba8 bh9 bh10 bg2 bg11 bh13 bh14 x4602 ((v4576.set ((Int.toNat x4581)*8+(Int.toNat v4575)*1) (wr64 (x4587+bg3))).set ((Int.toNat x4581)*8+(Int.toNat x4602)*1) (wr64 (x4611-bg3))))) (ap (Qq h4586) (ap (Qs h4586) (ap ((by omega:(0+(Int.toNat x4581)*1)=0+((Int.toNat x4581)*1))) (ap (Qt (pInt .i64) h4603) (ap h4604 (ap (Qq h4586) (ap (Qs h4586) (ap ((by omega:(0+(Int.toNat x4581)*1)=0+((Int.toNat x4581)*1))) (ap (Qt (pInt .i64) h4603) (ap (Qq h4586) (ap (Qs h4586) (ap (Qq h4610) (ap (Qs h4610) (ap ((by omega:(0+(Int.toNat x4581)*8+(Int.toNat x4602)*1)=0+((Int.toNat x4581)*8+(Int.toNat x4602)*1))) (ap (Qt (pInt .i64) h4612) (ap (Qq h4586) (ap (Qs h4586) (ap (Qq h4610) (ap (Qs h4610) (ap ((by omega:(0+(Int.toNat x4581)*8+(Int.toNat x4602)*1)=0+((Int.toNat x4581)*8+(Int.toNat x4602)*1))) (ap (Qcg (f:=(pInt .i64)) h4612) (ap (Qai (xs:=(v4576.set ((Int.toNat x4581)*8+(Int.toNat v4575)*1) (wr64 (x4587+bg3)))) (f:=(pInt .i64)) (k:=((Int.toNat x4581)*8+(Int.toNat x4602)*1)) (x:=(wr64 (x4611-bg3)))) an)))))))))))))))))))))) (Qn.norm ⟨x4602,((v4576.set ((Int.toNat x4581)*8+(Int.toNat v4575)*1) (wr64 (x4587+bg3))).set ((Int.toNat x4581)*8+(Int.toNat x4602)*1) (wr64 (x4611-bg3))),rfl,h⟩)
inductive f23r1n12O where
 | norm (v4619:List Int) (v4620:List Int)
def f23r1n12E(bg1 bg2 bg3:Int)(bh4 bh5:List Int)(bb6:List Qb)(bi7:List Bool)(ba8:List Qa)(bh9 bh10:List Int)(bg11:Int)(bh12 bh13 bh14:List Int):f23r1n12O→Ex×Tr×Hp
 | .norm v4619 v4620=>(.norm,mkS [(0,(.own 4)),(1,(.own 5)),(2,(.bp 2 4)),(7,(.bp 6 0)),(8,(jI bg1)),(18,(jI bg3))],[some (.row false 1 (bh4.map (cInt .i64))),some (.row false 1 (bh5.map (cInt .i64))),some (.abox 57 [(.own 3),(jL 2 Qb.cells bb6),(.own 0),(.own 1)] (bi7.map Qm)),jR 4 Qa.cells ba8,some (.row false 1 (v4619.map (cInt .i64))),some (.row false 1 ((bh10.set (Int.toNat bg2) (wr64 (bg11-bg3))).map (cInt .i64))),some (.abox 82 [] (v4620.map (pInt .i64)))])
def f23r1n12S(bg1 bg2 bg3:Int)(bh4 bh5:List Int)(bb6:List Qb)(bi7:List Bool)(ba8:List Qa)(bh9 bh10:List Int)(bg11:Int)(bh12 bh13 bh14:List Int):Tr×Hp:=(mkS [(0,(.own 4)),(1,(.own 5)),(2,(.bp 2 4)),(7,(.bp 6 0)),(8,(jI bg1)),(9,(.bp 7 0)),(10,(.bp 8 0)),(14,(jI bg2)),(18,(jI bg3))],[some (.row false 1 (bh4.map (cInt .i64))),some (.row false 1 (bh5.map (cInt .i64))),some (.abox 57 [(.own 3),(jL 2 Qb.cells bb6),(.own 0),(.own 1)] (bi7.map Qm)),jR 4 Qa.cells ba8,some (.row false 1 (bh9.map (cInt .i64))),some (.row false 1 ((bh10.set (Int.toNat bg2) (wr64 (bg11-bg3))).map (cInt .i64))),some (.abox 82 [] (bh12.map (pInt .i64))),some (.abox 83 [] (bh13.map (pInt .i64))),some (.abox 80 [] (bh14.map (pInt .i64)))])
noncomputable def f23r1n12(bg1 bg2 bg3:Int)(bh4 bh5:List Int)(bb6:List Qb)(bi7:List Bool)(ba8:List Qa)(bh9 bh10:List Int)(bg11:Int)(bh12 bh13 bh14:List Int):Option f23r1n12O :=
 (f23r1n13 FUEL bg1 bg3 bh4 bh5 bb6 bi7 ba8 bh9 bh10 bg2 bg11 bh13 bh14 bg2 bh12).bind fun o4615=>match o4615 with
 | .exit14 v4617 v4618=>some (.norm v4617 v4618)
theorem f23r1n12_ok(bg1 bg2 bg3:Int)(bh4 bh5:List Int)(bb6:List Qb)(bi7:List Bool)(ba8:List Qa)(bh9 bh10:List Int)(bg11:Int)(bh12 bh13 bh14:List Int){o:f23r1n12O}(h:f23r1n12 bg1 bg2 bg3 bh4 bh5 bb6 bi7 ba8 bh9 bh10 bg11 bh12 bh13 bh14=some o):T Try.prog Try.f23.ntmps 4 (cL (Qh 1 (Qh 1 (Qh 2 (Qh 1 (Qh 1 (Qh 1 (Qh 1 (Qh 1 (Qh 2 (cL (cL (cL (Qh 4 c23)))))))))))))) (f23r1n12S bg1 bg2 bg3 bh4 bh5 bb6 bi7 ba8 bh9 bh10 bg11 bh12 bh13 bh14) (·=f23r1n12E bg1 bg2 bg3 bh4 bh5 bb6 bi7 ba8 bh9 bh10 bg11 bh12 bh13 bh14 o):=by
 unfold f23r1n12 at h;refine rN Qg 1 [j3] [] [] [4,5,6,7,8] [0,1,2,7,8,9,10,18,21] (f23r1n13S bg1 bg3 bh4 bh5 bb6 bi7 ba8 bh9 bh10 bg2 bg11 bh13 bh14 bg2 bh12) an ?_;obtain ⟨o4615,h4616,h⟩:=Qc h;cases o4615 with
 | exit14 v4617 v4618 =>
  obtain rfl:=Qf h;exact T.last' (T.bl (i:=14) (by kernel_rfl) (by kernel_rfl) (f23r1n13_ok FUEL bg1 bg3 bh4 bh5 bb6 bi7 ba8 bh9 bh10 bg2 bg11 bh13 bh14 bg2 bh12 h4616)) (tds:=[]) (m:=[4,5,6]) (keep:=[0,1,2,7,8,18]) (st2:=(f23r1n12E bg1 bg2 bg3 bh4 bh5 bb6 bi7 ba8 bh9 bh10 bg11 bh12 bh13 bh14 (.norm v4617 v4618)).2) (by kernel_rfl) an rfl
inductive f23r1n14O where
 | ret (v4625:Int)
def f23r1n14E(a2 a3:List Int)(a4:List Qb)(a5:List Bool)(a6:List Qa):f23r1n14O→Ex×Tr×Hp
 | .ret v4625=>(.ret,mkS [(6,(jI v4625))],[some (.row false 1 (a2.map (cInt .i64))),some (.row false 1 (a3.map (cInt .i64))),some (.abox 57 [(.own 3),(jL 2 Qb.cells a4),(.own 0),(.own 1)] (a5.map Qm)),jR 4 Qa.cells a6])
def f23r1n14S(a2 a3:List Int)(a4:List Qb)(a5:List Bool)(a6:List Qa)(v3087:Int)(v3088 v3089 v3090:List Int):Tr×Hp:=(mkS [(0,(.own 4)),(1,(.own 5)),(2,(.bp 2 4)),(7,(.bp 6 0)),(8,(jI v3087))],[some (.row false 1 (a2.map (cInt .i64))),some (.row false 1 (a3.map (cInt .i64))),some (.abox 57 [(.own 3),(jL 2 Qb.cells a4),(.own 0),(.own 1)] (a5.map Qm)),jR 4 Qa.cells a6,some (.row false 1 (v3088.map (cInt .i64))),some (.row false 1 (v3089.map (cInt .i64))),some (.abox 82 [] (v3090.map (pInt .i64)))])
noncomputable def f23r1n14:Nat→List Int→List Int→List Qb→List Bool→List Qa→Int→List Int→List Int→List Int→Option f23r1n14O
 | 0,_,_,_,_,_,_,_,_,_=>none
 | f+1,a2,a3,a4,a5,a6,v3087,v3088,v3089,v3090 =>
  (f23r1n1 v3087 a2 a3 a4 a5 a6 v3088 v3089 v3090).bind fun o3114=>match o3114 with
  | .norm v3116=>(f23r1n3 v3087 a2 a3 a4 a5 a6 v3088 v3089 v3090 v3116).bind fun o3179=>match o3179 with
   | .norm v3181 v3182=>(f23r1n9 FUEL v3087 a2 a3 a4 a5 a6 v3088 v3089 v3090 0 v3182.length (-1) v3181 v3116 v3182).bind fun o4406=>match o4406 with
    | .exit6 v4408 v4409 v4410=>bif decide (v4408<0) then
      some (.ret v3087)
     else
      (at? v3089 v4408).bind fun x4415 =>
      (f23r1n10 v3087 v4408 x4415 a2 a3 a4 a5 a6 v3088 v3089 v3090 v4409 v4410).bind fun o4498=>match o4498 with
      | .norm v4500=>(f23r1n12 v3087 v4408 v4500 a2 a3 a4 a5 a6 v3088 v3089 x4415 v3090 v4409 v4410).bind fun o4621=>match o4621 with
       | .norm v4623 v4624=>(f23r1n14 f a2 a3 a4 a5 a6 (wr64 (v3087+v4500)) v4623 (v3089.set (Int.toNat v4408) (wr64 (x4415-v4500))) v4624)
theorem f23r1n14_ok:∀(f:Nat)(a2 a3:List Int)(a4:List Qb)(a5:List Bool)(a6:List Qa)(v3087:Int)(v3088 v3089 v3090:List Int){o:f23r1n14O},f23r1n14 f a2 a3 a4 a5 a6 v3087 v3088 v3089 v3090=some o→TL Try.prog Try.f23.ntmps 4 f (cL (cL (Qh 4 c23))) (f23r1n14S a2 a3 a4 a5 a6 v3087 v3088 v3089 v3090) (·=f23r1n14E a2 a3 a4 a5 a6 o)
 | 0,_,_,_,_,_,_,_,_,_,o,h=>by rw [f23r1n14] at h; cases h
 | f+1,a2,a3,a4,a5,a6,v3087,v3088,v3089,v3090,o,h=>by
  rw [f23r1n14] at h;refine TL.body (K:=fun s=>∃v3087:Int,∃v3088:List Int,∃v3089:List Int,∃v3090:List Int,s=(f23r1n14S a2 a3 a4 a5 a6 v3087 v3088 v3089 v3090)∧f23r1n14 f a2 a3 a4 a5 a6 v3087 v3088 v3089 v3090=some o) ?_ (by rintro _ ⟨v3087,v3088,v3089,v3090,rfl,hk⟩; exact f23r1n14_ok f _ _ _ _ _ _ _ _ _ hk);refine T.block' (i:=1) (by kernel_rfl) ?_;refine rN Qg 2 [j3,j3] [] [] [4,5,6,7,8] [0,1,2,7,8,9,10] (f23r1n1S v3087 a2 a3 a4 a5 a6 v3088 v3089 v3090) an ?_;obtain ⟨o3114,h3115,h⟩:=Qc h;cases o3114 with
  | norm v3116 =>
   refine T.oneN (by kernel_rfl) (f23r1n1_ok v3087 a2 a3 a4 a5 a6 v3088 v3089 v3090 h3115) (st2:=(f23r1n1E v3087 a2 a3 a4 a5 a6 v3088 v3089 v3090 (.norm v3116)).2) rfl ?_;refine rN Qg 1 [j3] [] [] [4,5,6,7,8] [0,1,2,7,8,9,10,12] (f23r1n3S v3087 a2 a3 a4 a5 a6 v3088 v3089 v3090 v3116) an ?_;obtain ⟨o3179,h3180,h⟩:=Qc h;cases o3179 with
   | norm v3181 v3182 =>
    refine T.oneN (by kernel_rfl) (f23r1n3_ok v3087 a2 a3 a4 a5 a6 v3088 v3089 v3090 v3116 h3180) (st2:=(f23r1n3E v3087 a2 a3 a4 a5 a6 v3088 v3089 v3090 v3116 (.norm v3181 v3182)).2) rfl ?_;refine rN Qg 1 [j3] [] [.ovw 12 v3182.length] [4,5,6,7,8,9] [0,1,2,7,8,9,10,12,14] (f23r1n9S v3087 a2 a3 a4 a5 a6 v3088 v3089 v3090 0 v3182.length (-1) v3181 v3116 v3182) (ap (len_ov (xs:=v3182) (c:=(cInt .i64))) an) ?_;obtain ⟨o4406,h4407,h⟩:=Qc h;cases o4406 with
    | exit6 v4408 v4409 v4410 =>
     refine T.oneN (by kernel_rfl) (T.bl (i:=6) (by kernel_rfl) (by kernel_rfl) (f23r1n9_ok FUEL v3087 a2 a3 a4 a5 a6 v3088 v3089 v3090 0 v3182.length (-1) v3181 v3116 v3182 h4407)) (st2:=(f23r1n9E v3087 a2 a3 a4 a5 a6 v3088 v3089 v3090 (.exit6 v4408 v4409 v4410)).2) rfl ?_;rcases Qi h with ⟨h4412,h⟩|⟨h4412,h⟩
     ·obtain rfl:=Qf h;exact rK Qg 1 [j3,j3] [some true] [] [] [6] .ret ((f23r1n14E a2 a3 a4 a5 a6 (.ret v3087)).2) (ap h4412 an) (Qn.out rfl rfl)
     ·obtain ⟨x4415,h4416,h⟩:=Qc h;refine rN Qg 2 [j3,([],[(2,.at_ (Int.toNat v4408)),(3,.idx 0 ((cInt .i64) x4415))],[])] [some false] [] [4,5,6,7,8] [0,1,2,7,8,9,10,14,18] (f23r1n10S v3087 v4408 x4415 a2 a3 a4 a5 a6 v3088 v3089 v3090 v4409 v4410) (ap h4412 (ap (Qe h4416).1 (ap (Qp (cInt .i64) (Qe h4416).2) (ap (Ql (cInt .i64) (Qe h4416).2) an)))) ?_;obtain ⟨o4498,h4499,h⟩:=Qc h;cases o4498 with
      | norm v4500 =>
       refine T.oneN (by kernel_rfl) (f23r1n10_ok v3087 v4408 x4415 a2 a3 a4 a5 a6 v3088 v3089 v3090 v4409 v4410 h4499) (st2:=(f23r1n10E v3087 v4408 x4415 a2 a3 a4 a5 a6 v3088 v3089 v3090 v4409 v4410 (.norm v4500)).2) rfl ?_;refine rN Qg 1 [([],[(2,.at_ (Int.toNat v4408)),(3,.idx 0 ((cInt .i64) x4415)),(6,.at_ (Int.toNat v4408)),(7,.idx 0 ((cInt .i64) x4415))],[(7,.row 5 ((v3089.set (Int.toNat v4408) (wr64 (x4415-v4500))).map (cInt .i64)))])] [] [] [4,5,6,7,8] [0,1,2,7,8,9,10,14,18] (f23r1n12S v3087 v4408 v4500 a2 a3 a4 a5 a6 v3088 v3089 x4415 v3090 v4409 v4410) (ap (Qe h4416).1 (ap (Qp (cInt .i64) (Qe h4416).2) (ap (Ql (cInt .i64) (Qe h4416).2) (ap (Qe h4416).1 (ap (Qp (cInt .i64) (Qe h4416).2) (ap (Ql (cInt .i64) (Qe h4416).2) (ap (Qcj (xs:=v3089) (c:=(cInt .i64)) (k:=(Int.toNat v4408)) (x:=(wr64 (x4415-v4500)))) an))))))) ?_
       obtain ⟨o4621,h4622,h⟩:=Qc h;cases o4621 with
       | norm v4623 v4624 =>
        refine T.oneN (by kernel_rfl) (f23r1n12_ok v3087 v4408 v4500 a2 a3 a4 a5 a6 v3088 v3089 x4415 v3090 v4409 v4410 h4622) (st2:=(f23r1n12E v3087 v4408 v4500 a2 a3 a4 a5 a6 v3088 v3089 x4415 v3090 v4409 v4410 (.norm v4623 v4624)).2) rfl ?_;exact rE Qg [j3] [] [] [4,5,6] [0,1,2,7,8] (.norm,(f23r1n14S a2 a3 a4 a5 a6 (wr64 (v3087+v4500)) v4623 (v3089.set (Int.toNat v4408) (wr64 (x4415-v4500))) v4624)) an (Qn.norm ⟨(wr64 (v3087+v4500)),v4623,(v3089.set (Int.toNat v4408) (wr64 (x4415-v4500))),v4624,rfl,h⟩)
inductive f23r1n0O where
 | ret (v4629:Int)
def f23r1n0E(a1:Nat)(a2 a3:List Int)(a4:List Qb)(a5:List Bool)(a6:List Qa):f23r1n0O→Ex×Tr×Hp
 | .ret v4629=>(.ret,mkS [(6,(jI v4629))],[some (.row false 1 (a2.map (cInt .i64))),some (.row false 1 (a3.map (cInt .i64))),some (.abox 57 [(.own 3),(jL 2 Qb.cells a4),(.own 0),(.own 1)] (a5.map Qm)),jR 4 Qa.cells a6])
def f23r1n0S(a1:Nat)(a2 a3:List Int)(a4:List Qb)(a5:List Bool)(a6:List Qa):Tr×Hp:=(Qaz [(.vw 0 0 a1),(.own 1),(.bp 2 4)] 0 .leaf,[some (.row false 1 (a2.map (cInt .i64))),some (.row false 1 (a3.map (cInt .i64))),some (.abox 57 [(.own 3),(jL 2 Qb.cells a4),(.own 0),(.own 1)] (a5.map Qm)),jR 4 Qa.cells a6])
noncomputable def f23r1n0(a1:Nat)(a2 a3:List Int)(a4:List Qb)(a5:List Bool)(a6:List Qa):Option f23r1n0O :=
 (f45r1 a1 a2).bind fun x11 =>
 (f45r2 a3).bind fun x13 =>
 (f23r1n14 FUEL a2 a3 a4 a5 a6 0 x11 x13 (List.replicate 80 0)).bind fun o4626=>match o4626 with
 | .ret v4628=>some (.ret v4628)
theorem f23r1n0_ok(a1:Nat)(a2 a3:List Int)(a4:List Qb)(a5:List Bool)(a6:List Qa){o:f23r1n0O}(h:f23r1n0 a1 a2 a3 a4 a5 a6=some o):T Try.prog Try.f23.ntmps 4 c23 (f23r1n0S a1 a2 a3 a4 a5 a6) (·=f23r1n0E a1 a2 a3 a4 a5 a6 o):=by
 unfold f23r1n0 at h;obtain ⟨x11,h12,h⟩:=Qc h;obtain ⟨x13,h14,h⟩:=Qc h;refine rN Qg 4 [j3,([],[(1,.call (.own 4) [some (.row false 1 (a2.map (cInt .i64))),none,none,none,some (.row false 1 (x11.map (cInt .i64)))]),(3,.call (.own 5) [none,some (.row false 1 (a3.map (cInt .i64))),none,none,none,some (.row false 1 (x13.map (cInt .i64)))])],[]),j3,j3] [] [.toA 6 0 ((List.replicate 80 0).map (pInt .i64))] [4,5,6] [0,1,2,7,8] (f23r1n14S a2 a3 a4 a5 a6 0 x11 x13 (List.replicate 80 0)) (ap (Qr.rn 4 [0] (f45r1_ok a1 a2 h12)) (ap (Qr.rn 5 [1] (f45r2_ok a3 h14)) (ap (toA_r ((List.replicate 80 0).map (pInt .i64))) an))) ?_;obtain ⟨o4626,h4627,h⟩:=Qc h;cases o4626 with
 | ret v4628 =>
  obtain rfl:=Qf h;exact T.last' (T.bl (i:=0) (by kernel_rfl) (by kernel_rfl) (f23r1n14_ok FUEL a2 a3 a4 a5 a6 0 x11 x13 (List.replicate 80 0) h4627)) (tds:=[]) (m:=[]) (keep:=[6]) (st2:=(f23r1n0E a1 a2 a3 a4 a5 a6 (.ret v4628)).2) (by kernel_rfl) an rfl
noncomputable def f23r1(a1:Nat)(a2 a3:List Int)(a4:List Qb)(a5:List Bool)(a6:List Qa):Option Int:=(f23r1n0 a1 a2 a3 a4 a5 a6).bind fun o=>match o with
 | .ret v4629=>some v4629
theorem f23r1_ok(a1:Nat)(a2 a3:List Int)(a4:List Qb)(a5:List Bool)(a6:List Qa){r:Int}(h:f23r1 a1 a2 a3 a4 a5 a6=some r):Qr Try.prog true 23 [(.vw 0 0 a1),(.own 1),(.bp 2 4)] [some (.row false 1 (a2.map (cInt .i64))),some (.row false 1 (a3.map (cInt .i64))),some (.abox 57 [(.own 3),(jL 2 Qb.cells a4),(.own 0),(.own 1)] (a5.map Qm)),jR 4 Qa.cells a6] (jI r) [some (.row false 1 (a2.map (cInt .i64))),some (.row false 1 (a3.map (cInt .i64))),some (.abox 57 [(.own 3),(jL 2 Qb.cells a4),(.own 0),(.own 1)] (a5.map Qm)),jR 4 Qa.cells a6]:=by
 unfold f23r1 at h;obtain ⟨o,ho,h⟩:=Qc h;cases o with
 | ret v4629 =>
  obtain rfl:=Qf h;exact Qr.shared Qg (f:=Try.f23) (c:=c23) (by kernel_rfl) (by kernel_rfl) (by kernel_rfl) ((f23r1n0_ok a1 a2 a3 a4 a5 a6 ho).mono fun r e=>by subst e; exact ⟨.inl rfl,by kernel_rfl,by kernel_rfl⟩)
end Go.Proofs.Ytinabbgjignkbaa
namespace Go.Proofs.Ytinabbgjignkbaa
set_option linter.unusedVariables false
set_option linter.unusedSimpArgs false
set_option maxRecDepth 100000
open Go.RowKit
noncomputable def c24:Code:=Try.f24.body.getD .skip
inductive f24r1n2O where
 | exit0 (v24:Int)
def f24r1n2E(bh1:List Int):f24r1n2O→Ex×Tr×Hp
 | .exit0 v24=>((.exit 0),mkS [(3,(jI v24))],[some (.row false 1 (bh1.map (cInt .i64)))])
def f24r1n2S(bh1:List Int)(v16 v17:Int):Tr×Hp:=(mkS [(3,(jI v16)),(6,(.own 0)),(7,(jI (bh1.length:Int))),(8,(jI v17))],[some (.row false 1 (bh1.map (cInt .i64)))])
noncomputable def f24r1n2:Nat→List Int→Int→Int→Option f24r1n2O
 | 0,_,_,_=>none
 | f+1,bh1,v16,v17 =>
  bif decide (v17<(bh1.length:Int)) then
   (at? bh1 v17).bind fun x22 =>
   (f24r1n2 f bh1 (wr64 (v16+x22)) (wr64 (v17+1)))
  else
   some (.exit0 v16)
theorem f24r1n2_ok:∀(f:Nat)(bh1:List Int)(v16 v17:Int){o:f24r1n2O},f24r1n2 f bh1 v16 v17=some o→TL Try.prog Try.f24.ntmps 1 f (cL (cL (Qh 1 (cL (Qh 2 c24))))) (f24r1n2S bh1 v16 v17) (·=f24r1n2E bh1 o)
 | 0,_,_,_,o,h=>by rw [f24r1n2] at h; cases h
 | f+1,bh1,v16,v17,o,h=>by
  rw [f24r1n2] at h;refine TL.body (K:=fun s=>∃v16:Int,∃v17:Int,s=(f24r1n2S bh1 v16 v17)∧f24r1n2 f bh1 v16 v17=some o) ?_ (by rintro _ ⟨v16,v17,rfl,hk⟩; exact f24r1n2_ok f _ _ _ hk);rcases Qi h with ⟨h19,h⟩|⟨h19,h⟩
  ·obtain ⟨x22,h23,h⟩:=Qc h;exact rE Qg [j3,([],[(0,.at_ (Int.toNat v17)),(1,.idx 0 ((cInt .i64) x22))],[]),j3,j3] [some true] [] [] [3,6,7,8] (.norm,(f24r1n2S bh1 (wr64 (v16+x22)) (wr64 (v17+1)))) (ap h19 (ap (Qe h23).1 (ap (Qp (cInt .i64) (Qe h23).2) (ap (Ql (cInt .i64) (Qe h23).2) an)))) (Qn.norm ⟨(wr64 (v16+x22)),(wr64 (v17+1)),rfl,h⟩)
  ·obtain rfl:=Qf h;exact rK Qg 2 [j3] [some false] [] [] [3] (.exit 0) ((f24r1n2E bh1 (.exit0 v16)).2) (ap h19 an) (Qn.out rfl rfl)
noncomputable def f24r1n2L(bh1:List Int):List Int→Int→Int→Option f24r1n2O
 | [],v16,v17 =>
  some (.exit0 v16)
 | x0::rest,v16,v17 =>
  (f24r1n2L bh1 rest (wr64 (v16+x0)) (v17+1))
theorem f24r1n2L_eq(bh1:List Int):∀(rest:List Int)(f k:Nat)(v16:Int),bh1.drop k=rest→bh1.length≤maxLen→rest.length<f→f24r1n2 f bh1 v16 (k:Int)=f24r1n2L bh1 rest v16 (k:Int)
 | _,0,_,_,_,_,hf=>absurd hf (Nat.not_lt_zero _)
 | [],f+1,k,v16,hd,hm,hf=>by
  have hk:¬((k:Int)<(bh1.length:Int)):=by have:=Qbj hd; omega
  rw [f24r1n2,f24r1n2L];simp only [decide_eq_false hk,cond_false]
 | x0::rest,f+1,k,v16,hd,hm,hf=>by
  obtain ⟨hx,hlt,hd'⟩:=Qbk hd;have hk:(k:Int)<(bh1.length:Int):=by omega
  have hw:wr64 ((k:Int)+1)=(k:Int)+1:=wr64_of (by omega) (by unfold maxLen at hm; omega);have ih:∀(v16:Int),f24r1n2 f bh1 v16 ((k:Int)+1)=f24r1n2L bh1 rest v16 ((k:Int)+1):=fun v16=>f24r1n2L_eq bh1 rest f (k+1) v16 hd' hm (by simpa using hf);rw [f24r1n2,f24r1n2L];simp only [decide_eq_true hk,cond_true,at_nat,hx,Option.bind_some,hw,ih]
theorem f24r1n2_run(bh1:List Int)(v16:Int)(hm:bh1.length≤maxLen):f24r1n2 FUEL bh1 v16 0=f24r1n2L bh1 bh1 v16 0:=f24r1n2L_eq bh1 bh1 FUEL 0 v16 List.drop_zero hm (lt_FUEL hm)
inductive f24r1n1O where
 | norm (v28:Int)
def f24r1n1E(bh1:List Int):f24r1n1O→Ex×Tr×Hp
 | .norm v28=>(.norm,mkS [(3,(jI v28))],[some (.row false 1 (bh1.map (cInt .i64)))])
def f24r1n1S(bh1:List Int):Tr×Hp:=(mkS [(0,(.own 0)),(3,(jI 0))],[some (.row false 1 (bh1.map (cInt .i64)))])
noncomputable def f24r1n1(bh1:List Int):Option f24r1n1O :=
 (f24r1n2 FUEL bh1 0 0).bind fun o25=>match o25 with
 | .exit0 v27=>some (.norm v27)
theorem f24r1n1_ok(bh1:List Int){o:f24r1n1O}(h:f24r1n1 bh1=some o):T Try.prog Try.f24.ntmps 1 (cL (Qh 2 c24)) (f24r1n1S bh1) (·=f24r1n1E bh1 o):=by
 unfold f24r1n1 at h;refine rN Qg 1 [([],[],[(1,.val (jI (bh1.length:Int)))])] [] [] [] [3,6,7,8] (f24r1n2S bh1 0 0) (ap (Qu (xs:=bh1) (c:=(cInt .i64))) an) ?_;obtain ⟨o25,h26,h⟩:=Qc h;cases o25 with
 | exit0 v27 =>
  obtain rfl:=Qf h;exact T.last' (T.bl (i:=0) (by kernel_rfl) (by kernel_rfl) (f24r1n2_ok FUEL bh1 0 0 h26)) (tds:=[]) (m:=[]) (keep:=[3]) (st2:=(f24r1n1E bh1 (.norm v27)).2) (by kernel_rfl) an rfl
inductive f24r1n0O where
 | ret (v32:Int)
def f24r1n0E(a1:List Int):f24r1n0O→Ex×Tr×Hp
 | .ret v32=>(.ret,mkS [(2,(jI v32))],[some (.row false 1 (a1.map (cInt .i64)))])
def f24r1n0S(a1:List Int):Tr×Hp:=(Qaz [(.own 0)] 0 .leaf,[some (.row false 1 (a1.map (cInt .i64)))])
noncomputable def f24r1n0(a1:List Int):Option f24r1n0O :=
 (f24r1n1 a1).bind fun o29=>match o29 with
 | .norm v31=>some (.ret v31)
theorem f24r1n0_ok(a1:List Int){o:f24r1n0O}(h:f24r1n0 a1=some o):T Try.prog Try.f24.ntmps 1 c24 (f24r1n0S a1) (·=f24r1n0E a1 o):=by
 unfold f24r1n0 at h;refine rN Qg 2 [j3,j3] [] [] [] [0,3] (f24r1n1S a1) an ?_;obtain ⟨o29,h30,h⟩:=Qc h;cases o29 with
 | norm v31 =>
  refine T.oneN (by kernel_rfl) (f24r1n1_ok a1 h30) (st2:=(f24r1n1E a1 (.norm v31)).2) rfl ?_;obtain rfl:=Qf h;exact rE Qg [j3] [] [] [] [2] (.ret,(f24r1n0E a1 (.ret v31)).2) an rfl
noncomputable def f24r1(a1:List Int):Option Int:=(f24r1n0 a1).bind fun o=>match o with
 | .ret v32=>some v32
theorem f24r1_ok(a1:List Int){r:Int}(h:f24r1 a1=some r):Qr Try.prog true 24 [(.own 0)] [some (.row false 1 (a1.map (cInt .i64)))] (jI r) [some (.row false 1 (a1.map (cInt .i64)))]:=by
 unfold f24r1 at h;obtain ⟨o,ho,h⟩:=Qc h;cases o with
 | ret v32 =>
  obtain rfl:=Qf h;exact Qr.shared Qg (f:=Try.f24) (c:=c24) (by kernel_rfl) (by kernel_rfl) (by kernel_rfl) ((f24r1n0_ok a1 ho).mono fun r e=>by subst e; exact ⟨.inl rfl,by kernel_rfl,by kernel_rfl⟩)

inductive f23r2n2O where
 | exit2 (v3109:List Int)
def f23r2n2E(bg1:Int)(bh2 bh3:List Int)(bb4:List Qb)(bi5:List Bool)(ba6:List Qa)(bh7 bh8 bh9 bh10:List Int):f23r2n2O→Ex×Tr×Hp
 | .exit2 v3109=>((.exit 2),mkS [(0,(.own 5)),(1,(.own 6)),(2,(.bp 2 4)),(7,(.bp 7 0)),(8,(jI bg1)),(9,(.bp 8 0)),(10,(.bp 9 0))],[some (.row false 1 (bh2.map (cInt .i64))),some (.row false 1 (bh3.map (cInt .i64))),some (.abox 57 [(.own 3),(jL 2 Qb.cells bb4),(.own 4),(.own 1)] (bi5.map Qm)),jR 4 Qa.cells ba6,some (.row false 1 (bh7.map (cInt .i64))),some (.row false 1 (bh8.map (cInt .i64))),some (.row false 1 (bh9.map (cInt .i64))),some (.abox 82 [] (bh10.map (pInt .i64))),some (.abox 83 [] ((List.replicate 10 0).map (pInt .i64))),some (.abox 80 [] (v3109.map (pInt .i64)))])
def f23r2n2S(bg1:Int)(bh2 bh3:List Int)(bb4:List Qb)(bi5:List Bool)(ba6:List Qa)(bh7 bh8 bh9 bh10:List Int)(v3101:Int)(v3102:List Int):Tr×Hp:=(mkS [(0,(.own 5)),(1,(.own 6)),(2,(.bp 2 4)),(7,(.bp 7 0)),(8,(jI bg1)),(9,(.bp 8 0)),(10,(.bp 9 0)),(27,(jI v3101))],[some (.row false 1 (bh2.map (cInt .i64))),some (.row false 1 (bh3.map (cInt .i64))),some (.abox 57 [(.own 3),(jL 2 Qb.cells bb4),(.own 4),(.own 1)] (bi5.map Qm)),jR 4 Qa.cells ba6,some (.row false 1 (bh7.map (cInt .i64))),some (.row false 1 (bh8.map (cInt .i64))),some (.row false 1 (bh9.map (cInt .i64))),some (.abox 82 [] (bh10.map (pInt .i64))),some (.abox 83 [] ((List.replicate 10 0).map (pInt .i64))),some (.abox 80 [] (v3102.map (pInt .i64)))])
noncomputable def f23r2n2:Nat→Int→List Int→List Int→List Qb→List Bool→List Qa→List Int→List Int→List Int→List Int→Int→List Int→Option f23r2n2O
 | 0,_,_,_,_,_,_,_,_,_,_,_,_=>none
 | f+1,bg1,bh2,bh3,bb4,bi5,ba6,bh7,bh8,bh9,bh10,v3101,v3102 =>
  bif decide (v3101<8) then
   req (idxB v3101 8) <|
   req (decide (((Int.toNat v3101)*1)<v3102.length)) <|
   (f23r2n2 f bg1 bh2 bh3 bb4 bi5 ba6 bh7 bh8 bh9 bh10 (wr64 (v3101+1)) (v3102.set ((Int.toNat v3101)*1) (-1)))
  else
   some (.exit2 v3102)
theorem f23r2n2_ok:∀(f:Nat)(bg1:Int)(bh2 bh3:List Int)(bb4:List Qb)(bi5:List Bool)(ba6:List Qa)(bh7 bh8 bh9 bh10:List Int)(v3101:Int)(v3102:List Int){o:f23r2n2O},f23r2n2 f bg1 bh2 bh3 bb4 bi5 ba6 bh7 bh8 bh9 bh10 v3101 v3102=some o→TL Try.prog Try.f23.ntmps 5 f (cL (cL (Qh 1 (cL (Qh 2 (cL (cL (cL (Qh 4 c23))))))))) (f23r2n2S bg1 bh2 bh3 bb4 bi5 ba6 bh7 bh8 bh9 bh10 v3101 v3102) (·=f23r2n2E bg1 bh2 bh3 bb4 bi5 ba6 bh7 bh8 bh9 bh10 o)
 | 0,_,_,_,_,_,_,_,_,_,_,_,_,o,h=>by rw [f23r2n2] at h; cases h
 | f+1,bg1,bh2,bh3,bb4,bi5,ba6,bh7,bh8,bh9,bh10,v3101,v3102,o,h=>by
  rw [f23r2n2] at h;refine TL.body (K:=fun s=>∃v3101:Int,∃v3102:List Int,s=(f23r2n2S bg1 bh2 bh3 bb4 bi5 ba6 bh7 bh8 bh9 bh10 v3101 v3102)∧f23r2n2 f bg1 bh2 bh3 bb4 bi5 ba6 bh7 bh8 bh9 bh10 v3101 v3102=some o) ?_ (by rintro _ ⟨v3101,v3102,rfl,hk⟩; exact f23r2n2_ok f _ _ _ _ _ _ _ _ _ _ _ _ hk);rcases Qi h with ⟨h3104,h⟩|⟨h3104,h⟩
  ·obtain ⟨h3107,h⟩:=Qk h;obtain ⟨h3108,h⟩:=Qk h;exact rE Qg [j3,j3,([],[(1,.at_ (Int.toNat v3101)),(2,.arw ((Int.toNat v3101)*1))],[(2,.arr 9 ((v3102.set ((Int.toNat v3101)*1) (-1)).map (pInt .i64)))]),j3] [some true] [] [5,6,7,8,9] [0,1,2,7,8,9,10,27] (.norm,(f23r2n2S bg1 bh2 bh3 bb4 bi5 ba6 bh7 bh8 bh9 bh10 (wr64 (v3101+1)) (v3102.set ((Int.toNat v3101)*1) (-1)))) (ap h3104 (ap (Qq h3107) (ap (Qs h3107) (ap ((by omega:(0+(Int.toNat v3101)*1)=0+((Int.toNat v3101)*1))) (ap (arr_lt (f:=(pInt .i64)) h3108) (ap (Qai (xs:=v3102) (f:=(pInt .i64)) (k:=((Int.toNat v3101)*1)) (x:=(-1))) an)))))) (Qn.norm ⟨(wr64 (v3101+1)),(v3102.set ((Int.toNat v3101)*1) (-1)),rfl,h⟩)
  ·obtain rfl:=Qf h;exact rK Qg 2 [j3] [some false] [] [5,6,7,8,9] [0,1,2,7,8,9,10] (.exit 2) ((f23r2n2E bg1 bh2 bh3 bb4 bi5 ba6 bh7 bh8 bh9 bh10 (.exit2 v3102)).2) (ap h3104 an) (Qn.out rfl rfl)
inductive f23r2n1O where
 | norm (v3113:List Int)
def f23r2n1E(bg1:Int)(bh2 bh3:List Int)(bb4:List Qb)(bi5:List Bool)(ba6:List Qa)(bh7 bh8 bh9 bh10:List Int):f23r2n1O→Ex×Tr×Hp
 | .norm v3113=>(.norm,mkS [(0,(.own 5)),(1,(.own 6)),(2,(.bp 2 4)),(7,(.bp 7 0)),(8,(jI bg1)),(9,(.bp 8 0)),(10,(.bp 9 0))],[some (.row false 1 (bh2.map (cInt .i64))),some (.row false 1 (bh3.map (cInt .i64))),some (.abox 57 [(.own 3),(jL 2 Qb.cells bb4),(.own 4),(.own 1)] (bi5.map Qm)),jR 4 Qa.cells ba6,some (.row false 1 (bh7.map (cInt .i64))),some (.row false 1 (bh8.map (cInt .i64))),some (.row false 1 (bh9.map (cInt .i64))),some (.abox 82 [] (bh10.map (pInt .i64))),some (.abox 83 [] ((List.replicate 10 0).map (pInt .i64))),some (.abox 80 [] (v3113.map (pInt .i64)))])
def f23r2n1S(bg1:Int)(bh2 bh3:List Int)(bb4:List Qb)(bi5:List Bool)(ba6:List Qa)(bh7 bh8 bh9 bh10:List Int):Tr×Hp:=(mkS [(0,(.own 5)),(1,(.own 6)),(2,(.bp 2 4)),(7,(.bp 7 0)),(8,(jI bg1)),(9,(.bp 8 0)),(10,(.bp 9 0))],[some (.row false 1 (bh2.map (cInt .i64))),some (.row false 1 (bh3.map (cInt .i64))),some (.abox 57 [(.own 3),(jL 2 Qb.cells bb4),(.own 4),(.own 1)] (bi5.map Qm)),jR 4 Qa.cells ba6,some (.row false 1 (bh7.map (cInt .i64))),some (.row false 1 (bh8.map (cInt .i64))),some (.row false 1 (bh9.map (cInt .i64))),some (.abox 82 [] (bh10.map (pInt .i64))),some (.box 83 ((Arr83.cells (Arr83.mk 0 0 0 0 0 0 0 0 0 0)).map .pl)),some (.box 80 ((Qbd.cells (Qbd.mk 0 0 0 0 0 0 0 0)).map .pl))])
noncomputable def f23r2n1(bg1:Int)(bh2 bh3:List Int)(bb4:List Qb)(bi5:List Bool)(ba6:List Qa)(bh7 bh8 bh9 bh10:List Int):Option f23r2n1O :=
 (f23r2n2 FUEL bg1 bh2 bh3 bb4 bi5 ba6 bh7 bh8 bh9 bh10 0 (List.replicate 8 0)).bind fun o3110=>match o3110 with
 | .exit2 v3112=>some (.norm v3112)
theorem f23r2n1_ok(bg1:Int)(bh2 bh3:List Int)(bb4:List Qb)(bi5:List Bool)(ba6:List Qa)(bh7 bh8 bh9 bh10:List Int){o:f23r2n1O}(h:f23r2n1 bg1 bh2 bh3 bb4 bi5 ba6 bh7 bh8 bh9 bh10=some o):T Try.prog Try.f23.ntmps 5 (cL (Qh 2 (cL (cL (cL (Qh 4 c23)))))) (f23r2n1S bg1 bh2 bh3 bb4 bi5 ba6 bh7 bh8 bh9 bh10) (·=f23r2n1E bg1 bh2 bh3 bb4 bi5 ba6 bh7 bh8 bh9 bh10 o):=by
 unfold f23r2n1 at h;refine rN Qg 1 [j3] [] [.toA 8 0 ((List.replicate 10 0).map (pInt .i64)),.toA 9 0 ((List.replicate 8 0).map (pInt .i64))] [5,6,7,8,9] [0,1,2,7,8,9,10,27] (f23r2n2S bg1 bh2 bh3 bb4 bi5 ba6 bh7 bh8 bh9 bh10 0 (List.replicate 8 0)) (ap (toA_r ((List.replicate 10 0).map (pInt .i64))) (ap (toA_r ((List.replicate 8 0).map (pInt .i64))) an)) ?_;obtain ⟨o3110,h3111,h⟩:=Qc h;cases o3110 with
 | exit2 v3112 =>
  obtain rfl:=Qf h;exact T.last' (T.bl (i:=2) (by kernel_rfl) (by kernel_rfl) (f23r2n2_ok FUEL bg1 bh2 bh3 bb4 bi5 ba6 bh7 bh8 bh9 bh10 0 (List.replicate 8 0) h3111)) (tds:=[]) (m:=[5,6,7,8,9]) (keep:=[0,1,2,7,8,9,10]) (st2:=(f23r2n1E bg1 bh2 bh3 bb4 bi5 ba6 bh7 bh8 bh9 bh10 (.norm v3112)).2) (by kernel_rfl) an rfl
inductive f23r2n4O where
 | exit4 (v3171:List Int) (v3172:List Int)
def f23r2n4E(bg1:Int)(bh2 bh3:List Int)(bb4:List Qb)(bi5:List Bool)(ba6:List Qa)(bh7 bh8 bh9 bh10 bh11:List Int):f23r2n4O→Ex×Tr×Hp
 | .exit4 v3171 v3172=>((.exit 4),mkS [(0,(.own 5)),(1,(.own 6)),(2,(.bp 2 4)),(7,(.bp 7 0)),(8,(jI bg1)),(9,(.bp 8 0)),(10,(.bp 9 0)),(12,(.own 10))],[some (.row false 1 (bh2.map (cInt .i64))),some (.row false 1 (bh3.map (cInt .i64))),some (.abox 57 [(.own 3),(jL 2 Qb.cells bb4),(.own 4),(.own 1)] (bi5.map Qm)),jR 4 Qa.cells ba6,some (.row false 1 (bh7.map (cInt .i64))),some (.row false 1 (bh8.map (cInt .i64))),some (.row false 1 (bh9.map (cInt .i64))),some (.abox 82 [] (bh10.map (pInt .i64))),some (.abox 83 [] (v3171.map (pInt .i64))),some (.abox 80 [] (bh11.map (pInt .i64))),some (.row false 1 (v3172.map (cInt .i64)))])
def f23r2n4S(bg1:Int)(bh2 bh3:List Int)(bb4:List Qb)(bi5:List Bool)(ba6:List Qa)(bh7 bh8 bh9 bh10 bh11:List Int)(v3150:Int)(v3151 v3152:List Int):Tr×Hp:=(mkS [(0,(.own 5)),(1,(.own 6)),(2,(.bp 2 4)),(7,(.bp 7 0)),(8,(jI bg1)),(9,(.bp 8 0)),(10,(.bp 9 0)),(12,(.own 10)),(33,(jI v3150))],[some (.row false 1 (bh2.map (cInt .i64))),some (.row false 1 (bh3.map (cInt .i64))),some (.abox 57 [(.own 3),(jL 2 Qb.cells bb4),(.own 4),(.own 1)] (bi5.map Qm)),jR 4 Qa.cells ba6,some (.row false 1 (bh7.map (cInt .i64))),some (.row false 1 (bh8.map (cInt .i64))),some (.row false 1 (bh9.map (cInt .i64))),some (.abox 82 [] (bh10.map (pInt .i64))),some (.abox 83 [] (v3151.map (pInt .i64))),some (.abox 80 [] (bh11.map (pInt .i64))),some (.row false 1 (v3152.map (cInt .i64)))])
noncomputable def f23r2n4:Nat→Int→List Int→List Int→List Qb→List Bool→List Qa→List Int→List Int→List Int→List Int→List Int→Int→List Int→List Int→Option f23r2n4O
 | 0,_,_,_,_,_,_,_,_,_,_,_,_,_,_=>none
 | f+1,bg1,bh2,bh3,bb4,bi5,ba6,bh7,bh8,bh9,bh10,bh11,v3150,v3151,v3152 =>
  bif decide (v3150<10) then
   req (idxB v3150 10) <|
   req (decide (((Int.toNat v3150)*1)<v3151.length)) <|
   bif decide (v3150<(bh8.length:Int)) then
    (at? bh8 v3150).bind fun x3166 =>
    bif decide (0<x3166) then
     req (decide (((Int.toNat v3150)*1)<(v3151.set ((Int.toNat v3150)*1) (-1)).length)) <|
     req (fit (v3152.length+1) 8) <|
     (f23r2n4 f bg1 bh2 bh3 bb4 bi5 ba6 bh7 bh8 bh9 bh10 bh11 (wr64 (v3150+1)) ((v3151.set ((Int.toNat v3150)*1) (-1)).set ((Int.toNat v3150)*1) (-2)) (v3152++[v3150]))
    else
     (f23r2n4 f bg1 bh2 bh3 bb4 bi5 ba6 bh7 bh8 bh9 bh10 bh11 (wr64 (v3150+1)) (v3151.set ((Int.toNat v3150)*1) (-1)) v3152)
   else
    (f23r2n4 f bg1 bh2 bh3 bb4 bi5 ba6 bh7 bh8 bh9 bh10 bh11 (wr64 (v3150+1)) (v3151.set ((Int.toNat v3150)*1) (-1)) v3152)
  else
   some (.exit4 v3151 v3152)
theorem f23r2n4_ok:∀(f:Nat)(bg1:Int)(bh2 bh3:List Int)(bb4:List Qb)(bi5:List Bool)(ba6:List Qa)(bh7 bh8 bh9 bh10 bh11:List Int)(v3150:Int)(v3151 v3152:List Int){o:f23r2n4O},f23r2n4 f bg1 bh2 bh3 bb4 bi5 ba6 bh7 bh8 bh9 bh10 bh11 v3150 v3151 v3152=some o→TL Try.prog Try.f23.ntmps 5 f (cL (cL (Qh 1 (cL (Qh 1 (Qh 1 (Qh 2 (cL (cL (cL (Qh 4 c23))))))))))) (f23r2n4S bg1 bh2 bh3 bb4 bi5 ba6 bh7 bh8 bh9 bh10 bh11 v3150 v3151 v3152) (·=f23r2n4E bg1 bh2 bh3 bb4 bi5 ba6 bh7 bh8 bh9 bh10 bh11 o)
 | 0,_,_,_,_,_,_,_,_,_,_,_,_,_,_,o,h=>by rw [f23r2n4] at h; cases h
 | f+1,bg1,bh2,bh3,bb4,bi5,ba6,bh7,bh8,bh9,bh10,bh11,v3150,v3151,v3152,o,h=>by
  rw [f23r2n4] at h;refine TL.body (K:=fun s=>∃v3150:Int,∃v3151:List Int,∃v3152:List Int,s=(f23r2n4S bg1 bh2 bh3 bb4 bi5 ba6 bh7 bh8 bh9 bh10 bh11 v3150 v3151 v3152)∧f23r2n4 f bg1 bh2 bh3 bb4 bi5 ba6 bh7 bh8 bh9 bh10 bh11 v3150 v3151 v3152=some o) ?_ (by rintro _ ⟨v3150,v3151,v3152,rfl,hk⟩; exact f23r2n4_ok f _ _ _ _ _ _ _ _ _ _ _ _ _ _ hk);rcases Qi h with ⟨h3154,h⟩|⟨h3154,h⟩
  ·obtain ⟨h3163,h⟩:=Qk h;obtain ⟨h3164,h⟩:=Qk h;rcases Qi h with ⟨h3165,h⟩|⟨h3165,h⟩
   ·obtain ⟨x3166,h3167,h⟩:=Qc h;rcases Qi h with ⟨h3168,h⟩|⟨h3168,h⟩
    ·obtain ⟨h3169,h⟩:=Qk h;obtain ⟨h3170,h⟩:=Qk h
     exact rE Qg [j3,j3,([],[(1,.at_ (Int.toNat v3150)),(2,.arw ((Int.toNat v3150)*1))],[(2,.arr 8 ((v3151.set ((Int.toNat v3150)*1) (-1)).map (pInt .i64)))]),(jT [5,6,7,8,9],[(7,.at_ (Int.toNat v3150)),(8,.idx 0 ((cInt .i64) x3166)),(10,.bool true)],[(2,.val (jI (bh8.length:Int)))]),([],[(1,.at_ (Int.toNat v3150)),(2,.arw ((Int.toNat v3150)*1))],[(2,.arr 8 (((v3151.set ((Int.toNat v3150)*1) (-1)).set ((Int.toNat v3150)*1) (-2)).map (pInt .i64)))]),([],[(3,.fits)],[(3,.row 12 ((v3152++[v3150]).map (cInt .i64)))]),j3] [some true,some true] [] [5,6,7,8,9,12] [0,1,2,7,8,9,10,12,33] (.norm,(f23r2n4S bg1 bh2 bh3 bb4 bi5 ba6 bh7 bh8 bh9 bh10 bh11 (wr64 (v3150+1)) ((v3151.set ((Int.toNat v3150)*1) (-1)).set ((Int.toNat v3150)*1) (-2)) (v3152++[v3150]))) (ap h3154 (ap (Qq h3163) (ap (Qs h3163) (ap ((by omega:(0+(Int.toNat v3150)*1)=0+((Int.toNat v3150)*1))) (ap (arr_lt (f:=(pInt .i64)) h3164) (ap (Qai (xs:=v3151) (f:=(pInt .i64)) (k:=((Int.toNat v3150)*1)) (x:=(-1))) (ap (Qu (xs:=bh8) (c:=(cInt .i64))) (ap3 h3165 (ap (Qe h3167).1 (ap (Qp (cInt .i64) (Qe h3167).2) (ap h3165 (ap (Ql (cInt .i64) (Qe h3167).2) (ap2 h3165 (ap h3168 (ap (Qq h3163) (ap (Qs h3163) (ap ((by omega:(0+(Int.toNat v3150)*1)=0+((Int.toNat v3150)*1))) (ap (arr_lt (f:=(pInt .i64)) h3169) (ap (Qai (xs:=(v3151.set ((Int.toNat v3150)*1) (-1))) (f:=(pInt .i64)) (k:=((Int.toNat v3150)*1)) (x:=(-2))) (ap (fit_map (te:=ti3) (xs:=v3152) (n:=1) (c:=(cInt .i64)) h3170 rfl) (ap (app_cv (xs:=v3152) (ys:=[v3150]) (c:=(cInt .i64))) an))))))))))))))))))))) (Qn.norm ⟨(wr64 (v3150+1)),((v3151.set ((Int.toNat v3150)*1) (-1)).set ((Int.toNat v3150)*1) (-2)),(v3152++[v3150]),rfl,h⟩)
    ·exact rE Qg [j3,j3,([],[(1,.at_ (Int.toNat v3150)),(2,.arw ((Int.toNat v3150)*1))],[(2,.arr 8 ((v3151.set ((Int.toNat v3150)*1) (-1)).map (pInt .i64)))]),(jT [5,6,7,8,9],[(7,.at_ (Int.toNat v3150)),(8,.idx 0 ((cInt .i64) x3166)),(10,.bool true)],[(2,.val (jI (bh8.length:Int)))]),j3] [some true,some false] [] [5,6,7,8,9,10] [0,1,2,7,8,9,10,12,33] (.norm,(f23r2n4S bg1 bh2 bh3 bb4 bi5 ba6 bh7 bh8 bh9 bh10 bh11 (wr64 (v3150+1)) (v3151.set ((Int.toNat v3150)*1) (-1)) v3152)) (ap h3154 (ap (Qq h3163) (ap (Qs h3163) (ap ((by omega:(0+(Int.toNat v3150)*1)=0+((Int.toNat v3150)*1))) (ap (arr_lt (f:=(pInt .i64)) h3164) (ap (Qai (xs:=v3151) (f:=(pInt .i64)) (k:=((Int.toNat v3150)*1)) (x:=(-1))) (ap (Qu (xs:=bh8) (c:=(cInt .i64))) (ap3 h3165 (ap (Qe h3167).1 (ap (Qp (cInt .i64) (Qe h3167).2) (ap h3165 (ap (Ql (cInt .i64) (Qe h3167).2) (ap2 h3165 (ap h3168 an)))))))))))))) (Qn.norm ⟨(wr64 (v3150+1)),(v3151.set ((Int.toNat v3150)*1) (-1)),v3152,rfl,h⟩)
   ·exact rE Qg [j3,j3,([],[(1,.at_ (Int.toNat v3150)),(2,.arw ((Int.toNat v3150)*1))],[(2,.arr 8 ((v3151.set ((Int.toNat v3150)*1) (-1)).map (pInt .i64)))]),(jF [5,6,7,8,9],[(10,.bool false)],[(2,.val (jI (bh8.length:Int)))]),j3] [some true,none] [] [5,6,7,8,9,10] [0,1,2,7,8,9,10,12,33] (.norm,(f23r2n4S bg1 bh2 bh3 bb4 bi5 ba6 bh7 bh8 bh9 bh10 bh11 (wr64 (v3150+1)) (v3151.set ((Int.toNat v3150)*1) (-1)) v3152)) (ap h3154 (ap (Qq h3163) (ap (Qs h3163) (ap ((by omega:(0+(Int.toNat v3150)*1)=0+((Int.toNat v3150)*1))) (ap (arr_lt (f:=(pInt .i64)) h3164) (ap (Qai (xs:=v3151) (f:=(pInt .i64)) (k:=((Int.toNat v3150)*1)) (x:=(-1))) (ap (Qu (xs:=bh8) (c:=(cInt .i64))) (ap2 h3165 (ap4 h3165 an))))))))) (Qn.norm ⟨(wr64 (v3150+1)),(v3151.set ((Int.toNat v3150)*1) (-1)),v3152,rfl,h⟩)
  ·obtain rfl:=Qf h;exact rK Qg 2 [j3] [some false] [] [5,6,7,8,9,10] [0,1,2,7,8,9,10,12] (.exit 4) ((f23r2n4E bg1 bh2 bh3 bb4 bi5 ba6 bh7 bh8 bh9 bh10 bh11 (.exit4 v3151 v3152)).2) (ap h3154 an) (Qn.out rfl rfl)
inductive f23r2n3O where
 | norm (v3177:List Int) (v3178:List Int)
def f23r2n3E(bg1:Int)(bh2 bh3:List Int)(bb4:List Qb)(bi5:List Bool)(ba6:List Qa)(bh7 bh8 bh9 bh10 bh11:List Int):f23r2n3O→Ex×Tr×Hp
 | .norm v3177 v3178=>(.norm,mkS [(0,(.own 5)),(1,(.own 6)),(2,(.bp 2 4)),(7,(.bp 7 0)),(8,(jI bg1)),(9,(.bp 8 0)),(10,(.bp 9 0)),(12,(.own 10))],[some (.row false 1 (bh2.map (cInt .i64))),some (.row false 1 (bh3.map (cInt .i64))),some (.abox 57 [(.own 3),(jL 2 Qb.cells bb4),(.own 4),(.own 1)] (bi5.map Qm)),jR 4 Qa.cells ba6,some (.row false 1 (bh7.map (cInt .i64))),some (.row false 1 (bh8.map (cInt .i64))),some (.row false 1 (bh9.map (cInt .i64))),some (.abox 82 [] (bh10.map (pInt .i64))),some (.abox 83 [] (v3177.map (pInt .i64))),some (.abox 80 [] (bh11.map (pInt .i64))),some (.row false 1 (v3178.map (cInt .i64)))])
def f23r2n3S(bg1:Int)(bh2 bh3:List Int)(bb4:List Qb)(bi5:List Bool)(ba6:List Qa)(bh7 bh8 bh9 bh10 bh11:List Int):Tr×Hp:=(mkS [(0,(.own 5)),(1,(.own 6)),(2,(.bp 2 4)),(7,(.bp 7 0)),(8,(jI bg1)),(9,(.bp 8 0)),(10,(.bp 9 0)),(12,(.pl (.sl .nil 0 [])))],[some (.row false 1 (bh2.map (cInt .i64))),some (.row false 1 (bh3.map (cInt .i64))),some (.abox 57 [(.own 3),(jL 2 Qb.cells bb4),(.own 4),(.own 1)] (bi5.map Qm)),jR 4 Qa.cells ba6,some (.row false 1 (bh7.map (cInt .i64))),some (.row false 1 (bh8.map (cInt .i64))),some (.row false 1 (bh9.map (cInt .i64))),some (.abox 82 [] (bh10.map (pInt .i64))),some (.abox 83 [] ((List.replicate 10 0).map (pInt .i64))),some (.abox 80 [] (bh11.map (pInt .i64)))])
noncomputable def f23r2n3(bg1:Int)(bh2 bh3:List Int)(bb4:List Qb)(bi5:List Bool)(ba6:List Qa)(bh7 bh8 bh9 bh10 bh11:List Int):Option f23r2n3O :=
 (f23r2n4 FUEL bg1 bh2 bh3 bb4 bi5 ba6 bh7 bh8 bh9 bh10 bh11 0 (List.replicate 10 0) []).bind fun o3173=>match o3173 with
 | .exit4 v3175 v3176=>some (.norm v3175 v3176)
theorem f23r2n3_ok(bg1:Int)(bh2 bh3:List Int)(bb4:List Qb)(bi5:List Bool)(ba6:List Qa)(bh7 bh8 bh9 bh10 bh11:List Int){o:f23r2n3O}(h:f23r2n3 bg1 bh2 bh3 bb4 bi5 ba6 bh7 bh8 bh9 bh10 bh11=some o):T Try.prog Try.f23.ntmps 5 (cL (Qh 1 (Qh 1 (Qh 2 (cL (cL (cL (Qh 4 c23)))))))) (f23r2n3S bg1 bh2 bh3 bb4 bi5 ba6 bh7 bh8 bh9 bh10 bh11) (·=f23r2n3E bg1 bh2 bh3 bb4 bi5 ba6 bh7 bh8 bh9 bh10 bh11 o):=by
 unfold f23r2n3 at h;refine rN Qg 1 [j3] [] [.mat 12 1] [5,6,7,8,9,10] [0,1,2,7,8,9,10,12,33] (f23r2n4S bg1 bh2 bh3 bb4 bi5 ba6 bh7 bh8 bh9 bh10 bh11 0 (List.replicate 10 0) []) an ?_;obtain ⟨o3173,h3174,h⟩:=Qc h;cases o3173 with
 | exit4 v3175 v3176 =>
  obtain rfl:=Qf h;exact T.last' (T.bl (i:=4) (by kernel_rfl) (by kernel_rfl) (f23r2n4_ok FUEL bg1 bh2 bh3 bb4 bi5 ba6 bh7 bh8 bh9 bh10 bh11 0 (List.replicate 10 0) [] h3174)) (tds:=[]) (m:=[5,6,7,8,9,10]) (keep:=[0,1,2,7,8,9,10,12]) (st2:=(f23r2n3E bg1 bh2 bh3 bb4 bi5 ba6 bh7 bh8 bh9 bh10 bh11 (.norm v3175 v3176)).2) (by kernel_rfl) an rfl
inductive f23r2n7O where
 | exit10 (v4353:Nat) (v4354:Nat) (v4355:List Int) (v4356:List Int)
def f23r2n7E(bg1 bg4 bg5 bg7:Int)(bh6 bh14 bh8 bh9:List Int)(bb10:List Qb)(bi11:List Bool)(ba12:List Qa)(bh13 bh15 bh17:List Int):f23r2n7O→Ex×Tr×Hp
 | .exit10 v4353 v4354 v4355 v4356=>((.exit 10),mkS [(0,(.own 5)),(1,(.own 6)),(2,(.bp 2 4)),(7,(.bp 7 0)),(8,(jI bg1)),(9,(.bp 8 0)),(10,(.bp 9 0)),(12,(.vw 10 v4353 v4354)),(14,(jI bg4)),(15,(jI bg5)),(69,(jI (bh6.length:Int))),(70,(jI bg7))],[some (.row false 1 (bh8.map (cInt .i64))),some (.row false 1 (bh9.map (cInt .i64))),some (.abox 57 [(.own 3),(jL 2 Qb.cells bb10),(.own 4),(.own 1)] (bi11.map Qm)),jR 4 Qa.cells ba12,some (.row false 1 (bh13.map (cInt .i64))),some (.row false 1 (bh14.map (cInt .i64))),some (.row false 1 (bh6.map (cInt .i64))),some (.abox 82 [] (bh15.map (pInt .i64))),some (.abox 83 [] (v4355.map (pInt .i64))),some (.abox 80 [] ((bh17.set ((Int.toNat bg7)*1) bg5).map (pInt .i64))),some (.row false 1 (v4356.map (cInt .i64)))])
def f23r2n7S(bg1 bg4 bg5 bg7:Int)(bh6 bh14 bh8 bh9:List Int)(bb10:List Qb)(bi11:List Bool)(ba12:List Qa)(bh13 bh15 bh17:List Int)(v4326 v4327:Nat)(v4328:Int)(v4329 v4330:List Int):Tr×Hp:=(mkS [(0,(.own 5)),(1,(.own 6)),(2,(.bp 2 4)),(7,(.bp 7 0)),(8,(jI bg1)),(9,(.bp 8 0)),(10,(.bp 9 0)),(12,(.vw 10 v4326 v4327)),(14,(jI bg4)),(15,(jI bg5)),(16,(jI bg7)),(69,(jI (bh6.length:Int))),(70,(jI bg7)),(97,(jI (bh14.length:Int))),(98,(jI v4328))],[some (.row false 1 (bh8.map (cInt .i64))),some (.row false 1 (bh9.map (cInt .i64))),some (.abox 57 [(.own 3),(jL 2 Qb.cells bb10),(.own 4),(.own 1)] (bi11.map Qm)),jR 4 Qa.cells ba12,some (.row false 1 (bh13.map (cInt .i64))),some (.row false 1 (bh14.map (cInt .i64))),some (.row false 1 (bh6.map (cInt .i64))),some (.abox 82 [] (bh15.map (pInt .i64))),some (.abox 83 [] (v4329.map (pInt .i64))),some (.abox 80 [] ((bh17.set ((Int.toNat bg7)*1) bg5).map (pInt .i64))),some (.row false 1 (v4330.map (cInt .i64)))])
noncomputable def f23r2n7:Nat→Int→Int→Int→Int→List Int→List Int→List Int→List Int→List Qb→List Bool→List Qa→List Int→List Int→List Int→Nat→Nat→Int→List Int→List Int→Option f23r2n7O
 | 0,_,_,_,_,_,_,_,_,_,_,_,_,_,_,_,_,_,_,_=>none
 | f+1,bg1,bg4,bg5,bg7,bh6,bh14,bh8,bh9,bb10,bi11,ba12,bh13,bh15,bh17,v4326,v4327,v4328,v4329,v4330 =>
  bif decide (v4328<(bh14.length:Int)) then
   req (idxB v4328 10) <|
   (v4329[((Int.toNat v4328)*1)]?).bind fun x4344 =>
   bif decide (x4344=(-1)) then
    req (idxB bg7 8) <|
    (bh15[((Int.toNat v4328)*8+(Int.toNat bg7)*1)]?).bind fun x4348 =>
    bif decide (0<x4348) then
     req (fit (v4327+1) 8) <|
     req (decide (v4326+v4327=v4330.length)) <|
     (f23r2n7 f bg1 bg4 bg5 bg7 bh6 bh14 bh8 bh9 bb10 bi11 ba12 bh13 bh15 bh17 0 ((v4330.drop v4326++[v4328]).length) (wr64 (v4328+1)) (v4329.set ((Int.toNat v4328)*1) bg7) (v4330.drop v4326++[v4328]))
    else
     (f23r2n7 f bg1 bg4 bg5 bg7 bh6 bh14 bh8 bh9 bb10 bi11 ba12 bh13 bh15 bh17 v4326 v4327 (wr64 (v4328+1)) v4329 v4330)
   else
    (f23r2n7 f bg1 bg4 bg5 bg7 bh6 bh14 bh8 bh9 bb10 bi11 ba12 bh13 bh15 bh17 v4326 v4327 (wr64 (v4328+1)) v4329 v4330)
  else
   some (.exit10 v4326 v4327 v4329 v4330)
theorem f23r2n7_ok:∀(f:Nat)(bg1 bg4 bg5 bg7:Int)(bh6 bh14 bh8 bh9:List Int)(bb10:List Qb)(bi11:List Bool)(ba12:List Qa)(bh13 bh15 bh17:List Int)(v4326 v4327:Nat)(v4328:Int)(v4329 v4330:List Int){o:f23r2n7O},f23r2n7 f bg1 bg4 bg5 bg7 bh6 bh14 bh8 bh9 bb10 bi11 ba12 bh13 bh15 bh17 v4326 v4327 v4328 v4329 v4330=some o→TL Try.prog Try.f23.ntmps 5 f (cL (cL (Qh 2 (Qh 3 (cL (cL (Qh 2 (cL (cL (Qh 3 (cL (Qh 1 (cL (cL (cL (Qh 1 (Qh 1 (Qh 1 (Qh 1 (Qh 2 (cL (cL (cL (Qh 4 c23)))))))))))))))))))))))) (f23r2n7S bg1 bg4 bg5 bg7 bh6 bh14 bh8 bh9 bb10 bi11 ba12 bh13 bh15 bh17 v4326 v4327 v4328 v4329 v4330) (·=f23r2n7E bg1 bg4 bg5 bg7 bh6 bh14 bh8 bh9 bb10 bi11 ba12 bh13 bh15 bh17 o)
 | 0,_,_,_,_,_,_,_,_,_,_,_,_,_,_,_,_,_,_,_,o,h=>by rw [f23r2n7] at h; cases h
 | f+1,bg1,bg4,bg5,bg7,bh6,bh14,bh8,bh9,bb10,bi11,ba12,bh13,bh15,bh17,v4326,v4327,v4328,v4329,v4330,o,h=>by
  rw [f23r2n7] at h;refine TL.body (K:=fun s=>∃v4326:Nat,∃v4327:Nat,∃v4328:Int,∃v4329:List Int,∃v4330:List Int,s=(f23r2n7S bg1 bg4 bg5 bg7 bh6 bh14 bh8 bh9 bb10 bi11 ba12 bh13 bh15 bh17 v4326 v4327 v4328 v4329 v4330)∧f23r2n7 f bg1 bg4 bg5 bg7 bh6 bh14 bh8 bh9 bb10 bi11 ba12 bh13 bh15 bh17 v4326 v4327 v4328 v4329 v4330=some o) ?_ (by rintro _ ⟨v4326,v4327,v4328,v4329,v4330,rfl,hk⟩; exact f23r2n7_ok f _ _ _ _ _ _ _ _ _ _ _ _ _ _ _ _ _ _ _ hk);rcases Qi h with ⟨h4332,h⟩|⟨h4332,h⟩
  ·obtain ⟨h4343,h⟩:=Qk h;obtain ⟨x4344,h4345,h⟩:=Qc h;rcases Qi h with ⟨h4346,h⟩|⟨h4346,h⟩
   ·obtain ⟨h4347,h⟩:=Qk h;obtain ⟨x4348,h4349,h⟩:=Qc h;rcases Qi h with ⟨h4350,h⟩|⟨h4350,h⟩
    ·obtain ⟨h4351,h⟩:=Qk h;obtain ⟨h4352,h⟩:=Qk h
     exact rE Qg [j3,j3,(jT [5,6,7,8,9,10],[(1,.at_ (Int.toNat v4328)),(2,.arr ((Int.toNat v4328)*1) ((pInt .i64) x4344)),(7,.at_ (Int.toNat v4328)),(8,.at_ (Int.toNat bg7)),(9,.arr ((Int.toNat v4328)*8+(Int.toNat bg7)*1) ((pInt .i64) x4348)),(11,.bool true)],[]),([],[(2,.at_ (Int.toNat v4328)),(3,.arw ((Int.toNat v4328)*1))],[(3,.arr 8 ((v4329.set ((Int.toNat v4328)*1) bg7).map (pInt .i64)))]),([],[(3,.fits)],[(3,.row 12 ((v4330.drop v4326++[v4328]).map (cInt .i64)))]),j3] [some true,some true] [.ovw 12 ((v4330.drop v4326++[v4328]).length)] [5,6,7,8,9,12] [0,1,2,7,8,9,10,12,14,15,16,69,70,97,98] (.norm,(f23r2n7S bg1 bg4 bg5 bg7 bh6 bh14 bh8 bh9 bb10 bi11 ba12 bh13 bh15 bh17 0 ((v4330.drop v4326++[v4328]).length) (wr64 (v4328+1)) (v4329.set ((Int.toNat v4328)*1) bg7) (v4330.drop v4326++[v4328]))) (ap h4332 (ap (Qq h4343) (ap (Qs h4343) (ap ((by omega:(0+(Int.toNat v4328)*1)=0+((Int.toNat v4328)*1))) (ap (Qt (pInt .i64) h4345) (ap3 h4346 (ap (Qq h4343) (ap (Qs h4343) (ap h4346 (ap (Qq h4347) (ap (Qs h4347) (ap h4346 (ap ((by omega:(0+(Int.toNat v4328)*8+(Int.toNat bg7)*1)=0+((Int.toNat v4328)*8+(Int.toNat bg7)*1))) (ap (Qt (pInt .i64) h4349) (ap2 h4346 (ap h4350 (ap (Qq h4343) (ap (Qs h4343) (ap ((by omega:(0+(Int.toNat v4328)*1)=0+((Int.toNat v4328)*1))) (ap (Qcg (f:=(pInt .i64)) h4345) (ap (Qai (xs:=v4329) (f:=(pInt .i64)) (k:=((Int.toNat v4328)*1)) (x:=bg7)) (ap (fit_num (te:=ti3) (n:=v4327) (k:=1) h4351 rfl) (ap (vw_end (xs:=v4330) (c:=(cInt .i64)) (a:=v4326) (l:=v4327) h4352) (ap (app_cvd (xs:=v4330) (ys:=[v4328]) (c:=(cInt .i64)) (a:=v4326)) (ap (len_ov (xs:=(v4330.drop v4326++[v4328])) (c:=(cInt .i64))) an))))))))))))))))))))))))) (Qn.norm ⟨0,(v4330.drop v4326++[v4328]).length,(wr64 (v4328+1)),(v4329.set ((Int.toNat v4328)*1) bg7),(v4330.drop v4326++[v4328]),rfl,h⟩)
    ·exact rE Qg [j3,j3,(jT [5,6,7,8,9,10],[(1,.at_ (Int.toNat v4328)),(2,.arr ((Int.toNat v4328)*1) ((pInt .i64) x4344)),(7,.at_ (Int.toNat v4328)),(8,.at_ (Int.toNat bg7)),(9,.arr ((Int.toNat v4328)*8+(Int.toNat bg7)*1) ((pInt .i64) x4348)),(11,.bool true)],[]),j3] [some true,some false] [] [5,6,7,8,9,10] [0,1,2,7,8,9,10,12,14,15,16,69,70,97,98] (.norm,(f23r2n7S bg1 bg4 bg5 bg7 bh6 bh14 bh8 bh9 bb10 bi11 ba12 bh13 bh15 bh17 v4326 v4327 (wr64 (v4328+1)) v4329 v4330)) (ap h4332 (ap (Qq h4343) (ap (Qs h4343) (ap ((by omega:(0+(Int.toNat v4328)*1)=0+((Int.toNat v4328)*1))) (ap (Qt (pInt .i64) h4345) (ap3 h4346 (ap (Qq h4343) (ap (Qs h4343) (ap h4346 (ap (Qq h4347) (ap (Qs h4347) (ap h4346 (ap ((by omega:(0+(Int.toNat v4328)*8+(Int.toNat bg7)*1)=0+((Int.toNat v4328)*8+(Int.toNat bg7)*1))) (ap (Qt (pInt .i64) h4349) (ap2 h4346 (ap h4350 an)))))))))))))))) (Qn.norm ⟨v4326,v4327,(wr64 (v4328+1)),v4329,v4330,rfl,h⟩)
   ·exact rE Qg [j3,j3,(jF [5,6,7,8,9,10],[(1,.at_ (Int.toNat v4328)),(2,.arr ((Int.toNat v4328)*1) ((pInt .i64) x4344)),(11,.bool false)],[]),j3] [some true,none] [] [5,6,7,8,9,10] [0,1,2,7,8,9,10,12,14,15,16,69,70,97,98] (.norm,(f23r2n7S bg1 bg4 bg5 bg7 bh6 bh14 bh8 bh9 bb10 bi11 ba12 bh13 bh15 bh17 v4326 v4327 (wr64 (v4328+1)) v4329 v4330)) (ap h4332 (ap (Qq h4343) (ap (Qs h4343) (ap ((by omega:(0+(Int.toNat v4328)*1)=0+((Int.toNat v4328)*1))) (ap (Qt (pInt .i64) h4345) (ap3 h4346 (ap4 h4346 an))))))) (Qn.norm ⟨v4326,v4327,(wr64 (v4328+1)),v4329,v4330,rfl,h⟩)
  ·obtain rfl:=Qf h;exact rK Qg 2 [j3] [some false] [] [5,6,7,8,9,10] [0,1,2,7,8,9,10,12,14,15,69,70] (.exit 10) ((f23r2n7E bg1 bg4 bg5 bg7 bh6 bh14 bh8 bh9 bb10 bi11 ba12 bh13 bh15 bh17 (.exit10 v4326 v4327 v4329 v4330)).2) (ap h4332 an) (Qn.out rfl rfl)
inductive f23r2n6O where
 | exit8
 | norm (v4363:Nat) (v4364:Nat) (v4365:List Int) (v4366:List Int) (v4367:List Int)
def f23r2n6E(bg1:Int)(bk2 bk3:Nat)(bg4 bg5:Int)(bh6:List Int)(bg7:Int)(bh8 bh9:List Int)(bb10:List Qb)(bi11:List Bool)(ba12:List Qa)(bh13 bh14 bh15 bh16 bh17 bh18:List Int):f23r2n6O→Ex×Tr×Hp
 | .exit8=>((.exit 8),mkS [(0,(.own 5)),(1,(.own 6)),(2,(.bp 2 4)),(7,(.bp 7 0)),(8,(jI bg1)),(9,(.bp 8 0)),(10,(.bp 9 0)),(12,(.vw 10 bk2 bk3)),(14,(jI bg7))],[some (.row false 1 (bh8.map (cInt .i64))),some (.row false 1 (bh9.map (cInt .i64))),some (.abox 57 [(.own 3),(jL 2 Qb.cells bb10),(.own 4),(.own 1)] (bi11.map Qm)),jR 4 Qa.cells ba12,some (.row false 1 (bh13.map (cInt .i64))),some (.row false 1 (bh14.map (cInt .i64))),some (.row false 1 (bh6.map (cInt .i64))),some (.abox 82 [] (bh15.map (pInt .i64))),some (.abox 83 [] (bh16.map (pInt .i64))),some (.abox 80 [] ((bh17.set ((Int.toNat bg7)*1) bg5).map (pInt .i64))),some (.row false 1 (bh18.map (cInt .i64)))])
 | .norm v4363 v4364 v4365 v4366 v4367=>(.norm,mkS [(0,(.own 5)),(1,(.own 6)),(2,(.bp 2 4)),(7,(.bp 7 0)),(8,(jI bg1)),(9,(.bp 8 0)),(10,(.bp 9 0)),(12,(.vw 10 v4363 v4364)),(14,(jI bg4)),(15,(jI bg5)),(69,(jI (bh6.length:Int))),(70,(jI bg7))],[some (.row false 1 (bh8.map (cInt .i64))),some (.row false 1 (bh9.map (cInt .i64))),some (.abox 57 [(.own 3),(jL 2 Qb.cells bb10),(.own 4),(.own 1)] (bi11.map Qm)),jR 4 Qa.cells ba12,some (.row false 1 (bh13.map (cInt .i64))),some (.row false 1 (bh14.map (cInt .i64))),some (.row false 1 (bh6.map (cInt .i64))),some (.abox 82 [] (bh15.map (pInt .i64))),some (.abox 83 [] (v4365.map (pInt .i64))),some (.abox 80 [] (v4366.map (pInt .i64))),some (.row false 1 (v4367.map (cInt .i64)))])
def f23r2n6S(bg1:Int)(bk2 bk3:Nat)(bg4 bg5:Int)(bh6:List Int)(bg7:Int)(bh8 bh9:List Int)(bb10:List Qb)(bi11:List Bool)(ba12:List Qa)(bh13 bh14 bh15 bh16 bh17 bh18:List Int):Tr×Hp:=(mkS [(0,(.own 5)),(1,(.own 6)),(2,(.bp 2 4)),(7,(.bp 7 0)),(8,(jI bg1)),(9,(.bp 8 0)),(10,(.bp 9 0)),(12,(.vw 10 bk2 bk3)),(14,(jI bg4)),(15,(jI bg5)),(69,(jI (bh6.length:Int))),(70,(jI bg7))],[some (.row false 1 (bh8.map (cInt .i64))),some (.row false 1 (bh9.map (cInt .i64))),some (.abox 57 [(.own 3),(jL 2 Qb.cells bb10),(.own 4),(.own 1)] (bi11.map Qm)),jR 4 Qa.cells ba12,some (.row false 1 (bh13.map (cInt .i64))),some (.row false 1 (bh14.map (cInt .i64))),some (.row false 1 (bh6.map (cInt .i64))),some (.abox 82 [] (bh15.map (pInt .i64))),some (.abox 83 [] (bh16.map (pInt .i64))),some (.abox 80 [] (bh17.map (pInt .i64))),some (.row false 1 (bh18.map (cInt .i64)))])
noncomputable def f23r2n6(bg1:Int)(bk2 bk3:Nat)(bg4 bg5:Int)(bh6:List Int)(bg7:Int)(bh8 bh9:List Int)(bb10:List Qb)(bi11:List Bool)(ba12:List Qa)(bh13 bh14 bh15 bh16 bh17 bh18:List Int):Option f23r2n6O :=
 req (idxB bg5 10) <|
 req (idxB bg7 8) <|
 (bi11[((Int.toNat bg5)*8+(Int.toNat bg7)*1)]?).bind fun x4267 =>
 bif x4267 then
  (bh17[((Int.toNat bg7)*1)]?).bind fun x4270 =>
  bif decide (0≤x4270) then
   some (.norm bk2 bk3 bh16 bh17 bh18)
  else
   (at? bh6 bg7).bind fun x4276 =>
   bif decide (0<x4276) then
    some .exit8
   else
    (f23r2n7 FUEL bg1 bg4 bg5 bg7 bh6 bh14 bh8 bh9 bb10 bi11 ba12 bh13 bh15 bh17 bk2 bk3 0 bh16 bh18).bind fun o4357=>match o4357 with
    | .exit10 v4359 v4360 v4361 v4362=>some (.norm v4359 v4360 v4361 (bh17.set ((Int.toNat bg7)*1) bg5) v4362)
 else
  some (.norm bk2 bk3 bh16 bh17 bh18)
theorem f23r2n6_ok(bg1:Int)(bk2 bk3:Nat)(bg4 bg5:Int)(bh6:List Int)(bg7:Int)(bh8 bh9:List Int)(bb10:List Qb)(bi11:List Bool)(ba12:List Qa)(bh13 bh14 bh15 bh16 bh17 bh18:List Int){o:f23r2n6O}(h:f23r2n6 bg1 bk2 bk3 bg4 bg5 bh6 bg7 bh8 bh9 bb10 bi11 ba12 bh13 bh14 bh15 bh16 bh17 bh18=some o):T Try.prog Try.f23.ntmps 5 (cL (Qh 2 (cL (cL (Qh 3 (cL (Qh 1 (cL (cL (cL (Qh 1 (Qh 1 (Qh 1 (Qh 1 (Qh 2 (cL (cL (cL (Qh 4 c23))))))))))))))))))) (f23r2n6S bg1 bk2 bk3 bg4 bg5 bh6 bg7 bh8 bh9 bb10 bi11 ba12 bh13 bh14 bh15 bh16 bh17 bh18) (·=f23r2n6E bg1 bk2 bk3 bg4 bg5 bh6 bg7 bh8 bh9 bb10 bi11 ba12 bh13 bh14 bh15 bh16 bh17 bh18 o):=by
 unfold f23r2n6 at h;refine T.block' (i:=9) (by kernel_rfl) ?_;obtain ⟨h4265,h⟩:=Qk h;obtain ⟨h4266,h⟩:=Qk h;obtain ⟨x4267,h4268,h⟩:=Qc h;rcases Qi h with ⟨h4269,h⟩|⟨h4269,h⟩
 ·obtain ⟨x4270,h4271,h⟩:=Qc h;rcases Qi h with ⟨h4272,h⟩|⟨h4272,h⟩
  ·obtain rfl:=Qf h;exact rK Qg 2 [j3,(jF [9,10,11,12],[(4,.at_ (Int.toNat bg5)),(5,.at_ (Int.toNat bg7)),(6,.arr ((Int.toNat bg5)*8+(Int.toNat bg7)*1) (Qm x4267)),(10,.at_ (Int.toNat bg7)),(11,.arr ((Int.toNat bg7)*1) ((pInt .i64) x4270)),(13,.bool false)],[])] [some true] [] [5,6,7,8,9,10] [0,1,2,7,8,9,10,12,14,15,69,70] (.exit 9) ((f23r2n6E bg1 bk2 bk3 bg4 bg5 bh6 bg7 bh8 bh9 bb10 bi11 ba12 bh13 bh14 bh15 bh16 bh17 bh18 (.norm bk2 bk3 bh16 bh17 bh18)).2) (ap (Qq h4265) (ap (Qs h4265) (ap (Qq h4266) (ap (Qs h4266) (ap ((by omega:(4+(Int.toNat bg5)*8+(Int.toNat bg7)*1)=4+((Int.toNat bg5)*8+(Int.toNat bg7)*1))) (ap (Qt Qm h4268) (ap2 (Qab h4269) (ap (Qq h4266) (ap (Qs h4266) (ap (Qab h4269) (ap ((by omega:(0+(Int.toNat bg7)*1)=0+((Int.toNat bg7)*1))) (ap (Qt (pInt .i64) h4271) (ap2 (Qab h4269) (ap h4272 an)))))))))))))) rfl
  ·refine rN Qg 3 [j3,(jF [9,10,11,12],[(4,.at_ (Int.toNat bg5)),(5,.at_ (Int.toNat bg7)),(6,.arr ((Int.toNat bg5)*8+(Int.toNat bg7)*1) (Qm x4267)),(10,.at_ (Int.toNat bg7)),(11,.arr ((Int.toNat bg7)*1) ((pInt .i64) x4270)),(13,.bool false)],[]),([],[(2,.at_ (Int.toNat bg7)),(3,.arw ((Int.toNat bg7)*1))],[(3,.arr 9 ((bh17.set ((Int.toNat bg7)*1) bg5).map (pInt .i64)))])] [some false] [] [5,6,7,8,9,10] [0,1,2,7,8,9,10,12,14,15,16,69,70] (mkS [(0,(.own 5)),(1,(.own 6)),(2,(.bp 2 4)),(7,(.bp 7 0)),(8,(jI bg1)),(9,(.bp 8 0)),(10,(.bp 9 0)),(12,(.vw 10 bk2 bk3)),(14,(jI bg4)),(15,(jI bg5)),(16,(jI bg7)),(69,(jI (bh6.length:Int))),(70,(jI bg7))],[some (.row false 1 (bh8.map (cInt .i64))),some (.row false 1 (bh9.map (cInt .i64))),some (.abox 57 [(.own 3),(jL 2 Qb.cells bb10),(.own 4),(.own 1)] (bi11.map Qm)),jR 4 Qa.cells ba12,some (.row false 1 (bh13.map (cInt .i64))),some (.row false 1 (bh14.map (cInt .i64))),some (.row false 1 (bh6.map (cInt .i64))),some (.abox 82 [] (bh15.map (pInt .i64))),some (.abox 83 [] (bh16.map (pInt .i64))),some (.abox 80 [] ((bh17.set ((Int.toNat bg7)*1) bg5).map (pInt .i64))),some (.row false 1 (bh18.map (cInt .i64)))]) (ap (Qq h4265) (ap (Qs h4265) (ap (Qq h4266) (ap (Qs h4266) (ap ((by omega:(4+(Int.toNat bg5)*8+(Int.toNat bg7)*1)=4+((Int.toNat bg5)*8+(Int.toNat bg7)*1))) (ap (Qt Qm h4268) (ap2 (Qab h4269) (ap (Qq h4266) (ap (Qs h4266) (ap (Qab h4269) (ap ((by omega:(0+(Int.toNat bg7)*1)=0+((Int.toNat bg7)*1))) (ap (Qt (pInt .i64) h4271) (ap2 (Qab h4269) (ap h4272 (ap (Qq h4266) (ap (Qs h4266) (ap ((by omega:(0+(Int.toNat bg7)*1)=0+((Int.toNat bg7)*1))) (ap (Qcg (f:=(pInt .i64)) h4271) (ap (Qai (xs:=bh17) (f:=(pInt .i64)) (k:=((Int.toNat bg7)*1)) (x:=bg5)) an))))))))))))))))))) ?_
   obtain ⟨x4276,h4277,h⟩:=Qc h;rcases Qi h with ⟨h4278,h⟩|⟨h4278,h⟩
   ·obtain rfl:=Qf h;exact rK Qg 1 [([],[(2,.at_ (Int.toNat bg7)),(3,.idx 0 ((cInt .i64) x4276))],[]),j3] [some true] [] [5,6,7,8,9,10] [0,1,2,7,8,9,10,12,14] (.exit 8) ((f23r2n6E bg1 bk2 bk3 bg4 bg5 bh6 bg7 bh8 bh9 bb10 bi11 ba12 bh13 bh14 bh15 bh16 bh17 bh18 .exit8).2) (ap (Qe h4277).1 (ap (Qp (cInt .i64) (Qe h4277).2) (ap (Ql (cInt .i64) (Qe h4277).2) (ap h4278 an)))) rfl
   ·refine rN Qg 2 [([],[(2,.at_ (Int.toNat bg7)),(3,.idx 0 ((cInt .i64) x4276))],[]),([],[],[(1,.val (jI (bh14.length:Int)))])] [some false] [] [5,6,7,8,9,10] [0,1,2,7,8,9,10,12,14,15,16,69,70,97,98] (f23r2n7S bg1 bg4 bg5 bg7 bh6 bh14 bh8 bh9 bb10 bi11 ba12 bh13 bh15 bh17 bk2 bk3 0 bh16 bh18) (ap (Qe h4277).1 (ap (Qp (cInt .i64) (Qe h4277).2) (ap (Ql (cInt .i64) (Qe h4277).2) (ap h4278 (ap (Qu (xs:=bh14) (c:=(cInt .i64))) an))))) ?_;obtain ⟨o4357,h4358,h⟩:=Qc h;cases o4357 with
    | exit10 v4359 v4360 v4361 v4362 =>
     obtain rfl:=Qf h;exact T.last' (T.bl (i:=10) (by kernel_rfl) (by kernel_rfl) (f23r2n7_ok FUEL bg1 bg4 bg5 bg7 bh6 bh14 bh8 bh9 bb10 bi11 ba12 bh13 bh15 bh17 bk2 bk3 0 bh16 bh18 h4358)) (tds:=[]) (m:=[5,6,7,8,9,10]) (keep:=[0,1,2,7,8,9,10,12,14,15,69,70]) (st2:=(f23r2n6E bg1 bk2 bk3 bg4 bg5 bh6 bg7 bh8 bh9 bb10 bi11 ba12 bh13 bh14 bh15 bh16 bh17 bh18 (.norm v4359 v4360 v4361 (bh17.set ((Int.toNat bg7)*1) bg5) v4362)).2) (by kernel_rfl) an rfl
 ·obtain rfl:=Qf h;exact rK Qg 2 [j3,(jT [9,10,11,12],[(4,.at_ (Int.toNat bg5)),(5,.at_ (Int.toNat bg7)),(6,.arr ((Int.toNat bg5)*8+(Int.toNat bg7)*1) (Qm x4267)),(13,.bool true)],[])] [none] [] [5,6,7,8,9,10] [0,1,2,7,8,9,10,12,14,15,69,70] (.exit 9) ((f23r2n6E bg1 bk2 bk3 bg4 bg5 bh6 bg7 bh8 bh9 bb10 bi11 ba12 bh13 bh14 bh15 bh16 bh17 bh18 (.norm bk2 bk3 bh16 bh17 bh18)).2) (ap (Qq h4265) (ap (Qs h4265) (ap (Qq h4266) (ap (Qs h4266) (ap ((by omega:(4+(Int.toNat bg5)*8+(Int.toNat bg7)*1)=4+((Int.toNat bg5)*8+(Int.toNat bg7)*1))) (ap (Qt Qm h4268) (ap (Qak h4269) (ap4 (Qak h4269) an)))))))) rfl
inductive f23r2n8O where
 | exit8 (v4375:Nat) (v4376:Nat) (v4377:Int) (v4378:List Int) (v4379:List Int) (v4380:List Int)
def f23r2n8E(bg1 bg4 x4007:Int)(bh12 bh5 bh6:List Int)(bb7:List Qb)(bi8:List Bool)(ba9:List Qa)(bh10 bh11 bh13:List Int):f23r2n8O→Ex×Tr×Hp
 | .exit8 v4375 v4376 v4377 v4378 v4379 v4380=>((.exit 8),mkS [(0,(.own 5)),(1,(.own 6)),(2,(.bp 2 4)),(7,(.bp 7 0)),(8,(jI bg1)),(9,(.bp 8 0)),(10,(.bp 9 0)),(12,(.vw 10 v4375 v4376)),(14,(jI v4377))],[some (.row false 1 (bh5.map (cInt .i64))),some (.row false 1 (bh6.map (cInt .i64))),some (.abox 57 [(.own 3),(jL 2 Qb.cells bb7),(.own 4),(.own 1)] (bi8.map Qm)),jR 4 Qa.cells ba9,some (.row false 1 (bh10.map (cInt .i64))),some (.row false 1 (bh11.map (cInt .i64))),some (.row false 1 (bh12.map (cInt .i64))),some (.abox 82 [] (bh13.map (pInt .i64))),some (.abox 83 [] (v4378.map (pInt .i64))),some (.abox 80 [] (v4379.map (pInt .i64))),some (.row false 1 (v4380.map (cInt .i64)))])
def f23r2n8S(bg1 bg4 x4007:Int)(bh12 bh5 bh6:List Int)(bb7:List Qb)(bi8:List Bool)(ba9:List Qa)(bh10 bh11 bh13:List Int)(v4249 v4250:Nat)(v4251:Int)(v4252 v4253 v4254:List Int):Tr×Hp:=(mkS [(0,(.own 5)),(1,(.own 6)),(2,(.bp 2 4)),(7,(.bp 7 0)),(8,(jI bg1)),(9,(.bp 8 0)),(10,(.bp 9 0)),(12,(.vw 10 v4249 v4250)),(14,(jI bg4)),(15,(jI x4007)),(69,(jI (bh12.length:Int))),(70,(jI v4251))],[some (.row false 1 (bh5.map (cInt .i64))),some (.row false 1 (bh6.map (cInt .i64))),some (.abox 57 [(.own 3),(jL 2 Qb.cells bb7),(.own 4),(.own 1)] (bi8.map Qm)),jR 4 Qa.cells ba9,some (.row false 1 (bh10.map (cInt .i64))),some (.row false 1 (bh11.map (cInt .i64))),some (.row false 1 (bh12.map (cInt .i64))),some (.abox 82 [] (bh13.map (pInt .i64))),some (.abox 83 [] (v4252.map (pInt .i64))),some (.abox 80 [] (v4253.map (pInt .i64))),some (.row false 1 (v4254.map (cInt .i64)))])
noncomputable def f23r2n8:Nat→Int→Int→Int→List Int→List Int→List Int→List Qb→List Bool→List Qa→List Int→List Int→List Int→Nat→Nat→Int→List Int→List Int→List Int→Option f23r2n8O
 | 0,_,_,_,_,_,_,_,_,_,_,_,_,_,_,_,_,_,_=>none
 | f+1,bg1,bg4,x4007,bh12,bh5,bh6,bb7,bi8,ba9,bh10,bh11,bh13,v4249,v4250,v4251,v4252,v4253,v4254 =>
  bif decide (v4251<(bh12.length:Int)) then
   (f23r2n6 bg1 v4249 v4250 bg4 x4007 bh12 v4251 bh5 bh6 bb7 bi8 ba9 bh10 bh11 bh13 v4252 v4253 v4254).bind fun o4368=>match o4368 with
   | .exit8=>some (.exit8 v4249 v4250 v4251 v4252 (v4253.set ((Int.toNat v4251)*1) x4007) v4254)
   | .norm v4370 v4371 v4372 v4373 v4374=>(f23r2n8 f bg1 bg4 x4007 bh12 bh5 bh6 bb7 bi8 ba9 bh10 bh11 bh13 v4370 v4371 (wr64 (v4251+1)) v4372 v4373 v4374)
  else
   some (.exit8 v4249 v4250 bg4 v4252 v4253 v4254)
theorem f23r2n8_ok:∀(f:Nat)(bg1 bg4 x4007:Int)(bh12 bh5 bh6:List Int)(bb7:List Qb)(bi8:List Bool)(ba9:List Qa)(bh10 bh11 bh13:List Int)(v4249 v4250:Nat)(v4251:Int)(v4252 v4253 v4254:List Int){o:f23r2n8O},f23r2n8 f bg1 bg4 x4007 bh12 bh5 bh6 bb7 bi8 ba9 bh10 bh11 bh13 v4249 v4250 v4251 v4252 v4253 v4254=some o→TL Try.prog Try.f23.ntmps 5 f (cL (cL (Qh 3 (cL (Qh 1 (cL (cL (cL (Qh 1 (Qh 1 (Qh 1 (Qh 1 (Qh 2 (cL (cL (cL (Qh 4 c23))))))))))))))))) (f23r2n8S bg1 bg4 x4007 bh12 bh5 bh6 bb7 bi8 ba9 bh10 bh11 bh13 v4249 v4250 v4251 v4252 v4253 v4254) (·=f23r2n8E bg1 bg4 x4007 bh12 bh5 bh6 bb7 bi8 ba9 bh10 bh11 bh13 o)
 | 0,_,_,_,_,_,_,_,_,_,_,_,_,_,_,_,_,_,_,o,h=>by rw [f23r2n8] at h; cases h
 | f+1,bg1,bg4,x4007,bh12,bh5,bh6,bb7,bi8,ba9,bh10,bh11,bh13,v4249,v4250,v4251,v4252,v4253,v4254,o,h=>by
  rw [f23r2n8] at h;refine TL.body (K:=fun s=>∃v4249:Nat,∃v4250:Nat,∃v4251:Int,∃v4252:List Int,∃v4253:List Int,∃v4254:List Int,s=(f23r2n8S bg1 bg4 x4007 bh12 bh5 bh6 bb7 bi8 ba9 bh10 bh11 bh13 v4249 v4250 v4251 v4252 v4253 v4254)∧f23r2n8 f bg1 bg4 x4007 bh12 bh5 bh6 bb7 bi8 ba9 bh10 bh11 bh13 v4249 v4250 v4251 v4252 v4253 v4254=some o) ?_ (by rintro _ ⟨v4249,v4250,v4251,v4252,v4253,v4254,rfl,hk⟩; exact f23r2n8_ok f _ _ _ _ _ _ _ _ _ _ _ _ _ _ _ _ _ _ hk);rcases Qi h with ⟨h4256,h⟩|⟨h4256,h⟩
  ·refine rN Qg 2 [j3] [some true] [] [5,6,7,8,9,10] [0,1,2,7,8,9,10,12,14,15,69,70] (f23r2n6S bg1 v4249 v4250 bg4 x4007 bh12 v4251 bh5 bh6 bb7 bi8 ba9 bh10 bh11 bh13 v4252 v4253 v4254) (ap h4256 an) ?_;obtain ⟨o4368,h4369,h⟩:=Qc h;cases o4368 with
   | exit8 =>
    obtain rfl:=Qf h;exact T.oneX' (by kernel_rfl) (f23r2n6_ok bg1 v4249 v4250 bg4 x4007 bh12 v4251 bh5 bh6 bb7 bi8 ba9 bh10 bh11 bh13 v4252 v4253 v4254 h4369) (tds:=[]) (m:=[5,6,7,8,9,10]) (keep:=[0,1,2,7,8,9,10,12,14]) (st2:=(f23r2n8E bg1 bg4 x4007 bh12 bh5 bh6 bb7 bi8 ba9 bh10 bh11 bh13 (.exit8 v4249 v4250 v4251 v4252 (v4253.set ((Int.toNat v4251)*1) x4007) v4254)).2) (by kernel_rfl) an rfl (Qn.out rfl rfl)
   | norm v4370 v4371 v4372 v4373 v4374 =>
    refine T.oneN (by kernel_rfl) (f23r2n6_ok bg1 v4249 v4250 bg4 x4007 bh12 v4251 bh5 bh6 bb7 bi8 ba9 bh10 bh11 bh13 v4252 v4253 v4254 h4369) (st2:=(f23r2n6E bg1 v4249 v4250 bg4 x4007 bh12 v4251 bh5 bh6 bb7 bi8 ba9 bh10 bh11 bh13 v4252 v4253 v4254 (.norm v4370 v4371 v4372 v4373 v4374)).2) rfl ?_;exact rE Qg [j3] [] [] [5,6,7,8,9,10] [0,1,2,7,8,9,10,12,14,15,69,70] (.norm,(f23r2n8S bg1 bg4 x4007 bh12 bh5 bh6 bb7 bi8 ba9 bh10 bh11 bh13 v4370 v4371 (wr64 (v4251+1)) v4372 v4373 v4374)) an (Qn.norm ⟨v4370,v4371,(wr64 (v4251+1)),v4372,v4373,v4374,rfl,h⟩)
  ·obtain rfl:=Qf h;exact rK Qg 2 [j3] [some false] [] [5,6,7,8,9,10] [0,1,2,7,8,9,10,12,14] (.exit 8) ((f23r2n8E bg1 bg4 x4007 bh12 bh5 bh6 bb7 bi8 ba9 bh10 bh11 bh13 (.exit8 v4249 v4250 bg4 v4252 v4253 v4254)).2) (ap h4256 an) (Qn.out rfl rfl)
inductive f23r2n5O where
 | norm (v4389:Nat) (v4390:Nat) (v4391:Int) (v4392:List Int) (v4393:List Int) (v4394:List Int)
def f23r2n5E(bg1:Int)(bk2 bk3:Nat)(bg4:Int)(bh5 bh6:List Int)(bb7:List Qb)(bi8:List Bool)(ba9:List Qa)(bh10 bh11 bh12 bh13 bh14 bh15 bh16:List Int):f23r2n5O→Ex×Tr×Hp
 | .norm v4389 v4390 v4391 v4392 v4393 v4394=>(.norm,mkS [(0,(.own 5)),(1,(.own 6)),(2,(.bp 2 4)),(7,(.bp 7 0)),(8,(jI bg1)),(9,(.bp 8 0)),(10,(.bp 9 0)),(12,(.vw 10 v4389 v4390)),(14,(jI v4391))],[some (.row false 1 (bh5.map (cInt .i64))),some (.row false 1 (bh6.map (cInt .i64))),some (.abox 57 [(.own 3),(jL 2 Qb.cells bb7),(.own 4),(.own 1)] (bi8.map Qm)),jR 4 Qa.cells ba9,some (.row false 1 (bh10.map (cInt .i64))),some (.row false 1 (bh11.map (cInt .i64))),some (.row false 1 (bh12.map (cInt .i64))),some (.abox 82 [] (bh13.map (pInt .i64))),some (.abox 83 [] (v4392.map (pInt .i64))),some (.abox 80 [] (v4393.map (pInt .i64))),some (.row false 1 (v4394.map (cInt .i64)))])
def f23r2n5S(bg1:Int)(bk2 bk3:Nat)(bg4:Int)(bh5 bh6:List Int)(bb7:List Qb)(bi8:List Bool)(ba9:List Qa)(bh10 bh11 bh12 bh13 bh14 bh15 bh16:List Int):Tr×Hp:=(mkS [(0,(.own 5)),(1,(.own 6)),(2,(.bp 2 4)),(7,(.bp 7 0)),(8,(jI bg1)),(9,(.bp 8 0)),(10,(.bp 9 0)),(12,(.vw 10 bk2 bk3)),(14,(jI bg4))],[some (.row false 1 (bh5.map (cInt .i64))),some (.row false 1 (bh6.map (cInt .i64))),some (.abox 57 [(.own 3),(jL 2 Qb.cells bb7),(.own 4),(.own 1)] (bi8.map Qm)),jR 4 Qa.cells ba9,some (.row false 1 (bh10.map (cInt .i64))),some (.row false 1 (bh11.map (cInt .i64))),some (.row false 1 (bh12.map (cInt .i64))),some (.abox 82 [] (bh13.map (pInt .i64))),some (.abox 83 [] (bh14.map (pInt .i64))),some (.abox 80 [] (bh15.map (pInt .i64))),some (.row false 1 (bh16.map (cInt .i64)))])
noncomputable def f23r2n5(bg1:Int)(bk2 bk3:Nat)(bg4:Int)(bh5 bh6:List Int)(bb7:List Qb)(bi8:List Bool)(ba9:List Qa)(bh10 bh11 bh12 bh13 bh14 bh15 bh16:List Int):Option f23r2n5O :=
 req (decide (bk2+bk3≤bh16.length)) <|
 (at? ((bh16.drop bk2).take bk3) 0).bind fun x4007 =>
 req (cutB 1 (bk3:Int) bk3) <|
 (f23r2n8 FUEL bg1 bg4 x4007 bh12 bh5 bh6 bb7 bi8 ba9 bh10 bh11 bh13 (bk2+(Int.toNat 1)) (bk3-(Int.toNat 1)) 0 bh14 bh15 bh16).bind fun o4381=>match o4381 with
 | .exit8 v4383 v4384 v4385 v4386 v4387 v4388=>some (.norm v4383 v4384 v4385 v4386 v4387 v4388)
theorem f23r2n5_ok(bg1:Int)(bk2 bk3:Nat)(bg4:Int)(bh5 bh6:List Int)(bb7:List Qb)(bi8:List Bool)(ba9:List Qa)(bh10 bh11 bh12 bh13 bh14 bh15 bh16:List Int){o:f23r2n5O}(h:f23r2n5 bg1 bk2 bk3 bg4 bh5 bh6 bb7 bi8 ba9 bh10 bh11 bh12 bh13 bh14 bh15 bh16=some o):T Try.prog Try.f23.ntmps 5 (Qh 1 (cL (cL (cL (Qh 1 (Qh 1 (Qh 1 (Qh 1 (Qh 2 (cL (cL (cL (Qh 4 c23))))))))))))) (f23r2n5S bg1 bk2 bk3 bg4 bh5 bh6 bb7 bi8 ba9 bh10 bh11 bh12 bh13 bh14 bh15 bh16) (·=f23r2n5E bg1 bk2 bk3 bg4 bh5 bh6 bb7 bi8 ba9 bh10 bh11 bh12 bh13 bh14 bh15 bh16 o):=by
 unfold f23r2n5 at h;refine T.block' (i:=7) (by kernel_rfl) ?_;obtain ⟨h4006,h⟩:=Qk h;obtain ⟨x4007,h4008,h⟩:=Qc h;obtain ⟨h4010,h⟩:=Qk h;refine rN Qg 3 [([],[(1,.at_ (Int.toNat 0)),(2,.idx 0 ((cInt .i64) x4007))],[]),([],[(1,.cut (Int.toNat 1) bk3)],[]),([],[],[(1,.val (jI (bh12.length:Int)))])] [] [] [5,6,7,8,9,10] [0,1,2,7,8,9,10,12,14,15,69,70] (f23r2n8S bg1 bg4 x4007 bh12 bh5 bh6 bb7 bi8 ba9 bh10 bh11 bh13 (bk2+(Int.toNat 1)) (bk3-(Int.toNat 1)) 0 bh14 bh15 bh16) (ap (Qe h4008).1 (ap (vw_lt h4008) (ap (vw_req (c:=(cInt .i64)) h4006) (ap (Ql (cInt .i64) (vw_at h4008)) (ap (rfl:bk3=bk3) (ap (cut_nl_2 h4010) (ap (cut_nl_3 h4010) (ap (vw_cut (cut_nl_4 h4010) (vw_req (c:=(cInt .i64)) h4006)) (ap (Qu (xs:=bh12) (c:=(cInt .i64))) an))))))))) ?_;obtain ⟨o4381,h4382,h⟩:=Qc h;cases o4381 with
 | exit8 v4383 v4384 v4385 v4386 v4387 v4388 =>
  obtain rfl:=Qf h;exact T.last' (T.bl (i:=8) (by kernel_rfl) (by kernel_rfl) (f23r2n8_ok FUEL bg1 bg4 x4007 bh12 bh5 bh6 bb7 bi8 ba9 bh10 bh11 bh13 (bk2+(Int.toNat 1)) (bk3-(Int.toNat 1)) 0 bh14 bh15 bh16 h4382)) (tds:=[]) (m:=[5,6,7,8,9,10]) (keep:=[0,1,2,7,8,9,10,12,14]) (st2:=(f23r2n5E bg1 bk2 bk3 bg4 bh5 bh6 bb7 bi8 ba9 bh10 bh11 bh12 bh13 bh14 bh15 bh16 (.norm v4383 v4384 v4385 v4386 v4387 v4388)).2) (by kernel_rfl) an rfl
inductive f23r2n9O where
 | exit6 (v4403:Int) (v4404:List Int) (v4405:List Int)
def f23r2n9E(v3087:Int)(a1 a2:List Int)(a3:List Qb)(a4:List Bool)(a5:List Qa)(a6 v3088 v3089 v3090:List Int):f23r2n9O→Ex×Tr×Hp
 | .exit6 v4403 v4404 v4405=>((.exit 6),mkS [(0,(.own 5)),(1,(.own 6)),(2,(.bp 2 4)),(7,(.bp 7 0)),(8,(jI v3087)),(9,(.bp 8 0)),(10,(.bp 9 0)),(14,(jI v4403))],[some (.row false 1 (a1.map (cInt .i64))),some (.row false 1 (a2.map (cInt .i64))),some (.abox 57 [(.own 3),(jL 2 Qb.cells a3),(.own 4),(.own 1)] (a4.map Qm)),jR 4 Qa.cells a5,some (.row false 1 (a6.map (cInt .i64))),some (.row false 1 (v3088.map (cInt .i64))),some (.row false 1 (v3089.map (cInt .i64))),some (.abox 82 [] (v3090.map (pInt .i64))),some (.abox 83 [] (v4404.map (pInt .i64))),some (.abox 80 [] (v4405.map (pInt .i64)))])
def f23r2n9S(v3087:Int)(a1 a2:List Int)(a3:List Qb)(a4:List Bool)(a5:List Qa)(a6 v3088 v3089 v3090:List Int)(v3993 v3994:Nat)(v3995:Int)(v3996 v3997 v3998:List Int):Tr×Hp:=(mkS [(0,(.own 5)),(1,(.own 6)),(2,(.bp 2 4)),(7,(.bp 7 0)),(8,(jI v3087)),(9,(.bp 8 0)),(10,(.bp 9 0)),(12,(.vw 10 v3993 v3994)),(14,(jI v3995))],[some (.row false 1 (a1.map (cInt .i64))),some (.row false 1 (a2.map (cInt .i64))),some (.abox 57 [(.own 3),(jL 2 Qb.cells a3),(.own 4),(.own 1)] (a4.map Qm)),jR 4 Qa.cells a5,some (.row false 1 (a6.map (cInt .i64))),some (.row false 1 (v3088.map (cInt .i64))),some (.row false 1 (v3089.map (cInt .i64))),some (.abox 82 [] (v3090.map (pInt .i64))),some (.abox 83 [] (v3996.map (pInt .i64))),some (.abox 80 [] (v3997.map (pInt .i64))),some (.row false 1 (v3998.map (cInt .i64)))])
noncomputable def f23r2n9:Nat→Int→List Int→List Int→List Qb→List Bool→List Qa→List Int→List Int→List Int→List Int→Nat→Nat→Int→List Int→List Int→List Int→Option f23r2n9O
 | 0,_,_,_,_,_,_,_,_,_,_,_,_,_,_,_,_=>none
 | f+1,v3087,a1,a2,a3,a4,a5,a6,v3088,v3089,v3090,v3993,v3994,v3995,v3996,v3997,v3998 =>
  bif decide (v3995<0) then
   bif (decide (0<((v3994:Nat):Int))) then
    (f23r2n5 v3087 v3993 v3994 v3995 a1 a2 a3 a4 a5 a6 v3088 v3089 v3090 v3996 v3997 v3998).bind fun o4395=>match o4395 with
    | .norm v4397 v4398 v4399 v4400 v4401 v4402=>(f23r2n9 f v3087 a1 a2 a3 a4 a5 a6 v3088 v3089 v3090 v4397 v4398 v4399 v4400 v4401 v4402)
   else
    some (.exit6 v3995 v3996 v3997)
  else
   some (.exit6 v3995 v3996 v3997)
theorem f23r2n9_ok:∀(f:Nat)(v3087:Int)(a1 a2:List Int)(a3:List Qb)(a4:List Bool)(a5:List Qa)(a6 v3088 v3089 v3090:List Int)(v3993 v3994:Nat)(v3995:Int)(v3996 v3997 v3998:List Int){o:f23r2n9O},f23r2n9 f v3087 a1 a2 a3 a4 a5 a6 v3088 v3089 v3090 v3993 v3994 v3995 v3996 v3997 v3998=some o→TL Try.prog Try.f23.ntmps 5 f (cL (cL (cL (Qh 1 (Qh 1 (Qh 1 (Qh 1 (Qh 2 (cL (cL (cL (Qh 4 c23)))))))))))) (f23r2n9S v3087 a1 a2 a3 a4 a5 a6 v3088 v3089 v3090 v3993 v3994 v3995 v3996 v3997 v3998) (·=f23r2n9E v3087 a1 a2 a3 a4 a5 a6 v3088 v3089 v3090 o)
 | 0,_,_,_,_,_,_,_,_,_,_,_,_,_,_,_,_,o,h=>by rw [f23r2n9] at h; cases h
 | f+1,v3087,a1,a2,a3,a4,a5,a6,v3088,v3089,v3090,v3993,v3994,v3995,v3996,v3997,v3998,o,h=>by
  rw [f23r2n9] at h;refine TL.body (K:=fun s=>∃v3993:Nat,∃v3994:Nat,∃v3995:Int,∃v3996:List Int,∃v3997:List Int,∃v3998:List Int,s=(f23r2n9S v3087 a1 a2 a3 a4 a5 a6 v3088 v3089 v3090 v3993 v3994 v3995 v3996 v3997 v3998)∧f23r2n9 f v3087 a1 a2 a3 a4 a5 a6 v3088 v3089 v3090 v3993 v3994 v3995 v3996 v3997 v3998=some o) ?_ (by rintro _ ⟨v3993,v3994,v3995,v3996,v3997,v3998,rfl,hk⟩; exact f23r2n9_ok f _ _ _ _ _ _ _ _ _ _ _ _ _ _ _ _ hk);rcases Qi h with ⟨h4001,h⟩|⟨h4001,h⟩
  ·rcases Qi h with ⟨h4002,h⟩|⟨h4002,h⟩
   ·refine rN Qg 1 [(jT [3,4,5],[(6,.bool true)],[])] [some true] [] [5,6,7,8,9,10] [0,1,2,7,8,9,10,12,14] (f23r2n5S v3087 v3993 v3994 v3995 a1 a2 a3 a4 a5 a6 v3088 v3089 v3090 v3996 v3997 v3998) (ap4 h4001 (ap h4002 an)) ?_;obtain ⟨o4395,h4396,h⟩:=Qc h;cases o4395 with
    | norm v4397 v4398 v4399 v4400 v4401 v4402 =>
     exact T.last' (f23r2n5_ok v3087 v3993 v3994 v3995 a1 a2 a3 a4 a5 a6 v3088 v3089 v3090 v3996 v3997 v3998 h4396) (tds:=[]) (m:=[5,6,7,8,9,10]) (keep:=[0,1,2,7,8,9,10,12,14]) (st2:=(f23r2n9S v3087 a1 a2 a3 a4 a5 a6 v3088 v3089 v3090 v4397 v4398 v4399 v4400 v4401 v4402)) (by kernel_rfl) an (Qn.norm ⟨v4397,v4398,v4399,v4400,v4401,v4402,rfl,h⟩)
   ·obtain rfl:=Qf h;exact rK Qg 1 [(jT [3,4,5],[(6,.bool true)],[])] [some false] [] [5,6,7,8,9] [0,1,2,7,8,9,10,14] (.exit 6) ((f23r2n9E v3087 a1 a2 a3 a4 a5 a6 v3088 v3089 v3090 (.exit6 v3995 v3996 v3997)).2) (ap4 h4001 (ap h4002 an)) (Qn.out rfl rfl)
  ·obtain rfl:=Qf h;exact rK Qg 1 [(jF [3,4,5],[(6,.bool false)],[])] [none] [] [5,6,7,8,9] [0,1,2,7,8,9,10,14] (.exit 6) ((f23r2n9E v3087 a1 a2 a3 a4 a5 a6 v3088 v3089 v3090 (.exit6 v3995 v3996 v3997)).2) (ap4 h4001 an) (Qn.out rfl rfl)
inductive f23r2n11O where
 | exit12 (v4493:Int)
def f23r2n11E(bg1 bg2:Int)(bh4 bh5:List Int)(bb6:List Qb)(bi7:List Bool)(ba8:List Qa)(bh9 bh10 bh11 bh12 bh13 bh14:List Int):f23r2n11O→Ex×Tr×Hp
 | .exit12 v4493=>((.exit 12),mkS [(0,(.own 5)),(1,(.own 6)),(2,(.bp 2 4)),(7,(.bp 7 0)),(8,(jI bg1)),(9,(.bp 8 0)),(10,(.bp 9 0)),(14,(jI bg2)),(18,(jI v4493))],[some (.row false 1 (bh4.map (cInt .i64))),some (.row false 1 (bh5.map (cInt .i64))),some (.abox 57 [(.own 3),(jL 2 Qb.cells bb6),(.own 4),(.own 1)] (bi7.map Qm)),jR 4 Qa.cells ba8,some (.row false 1 (bh9.map (cInt .i64))),some (.row false 1 (bh10.map (cInt .i64))),some (.row false 1 (bh11.map (cInt .i64))),some (.abox 82 [] (bh12.map (pInt .i64))),some (.abox 83 [] (bh13.map (pInt .i64))),some (.abox 80 [] (bh14.map (pInt .i64)))])
def f23r2n11S(bg1 bg2:Int)(bh4 bh5:List Int)(bb6:List Qb)(bi7:List Bool)(ba8:List Qa)(bh9 bh10 bh11 bh12 bh13 bh14:List Int)(v4467 v4468:Int):Tr×Hp:=(mkS [(0,(.own 5)),(1,(.own 6)),(2,(.bp 2 4)),(7,(.bp 7 0)),(8,(jI bg1)),(9,(.bp 8 0)),(10,(.bp 9 0)),(14,(jI bg2)),(18,(jI v4467)),(19,(jI v4468))],[some (.row false 1 (bh4.map (cInt .i64))),some (.row false 1 (bh5.map (cInt .i64))),some (.abox 57 [(.own 3),(jL 2 Qb.cells bb6),(.own 4),(.own 1)] (bi7.map Qm)),jR 4 Qa.cells ba8,some (.row false 1 (bh9.map (cInt .i64))),some (.row false 1 (bh10.map (cInt .i64))),some (.row false 1 (bh11.map (cInt .i64))),some (.abox 82 [] (bh12.map (pInt .i64))),some (.abox 83 [] (bh13.map (pInt .i64))),some (.abox 80 [] (bh14.map (pInt .i64)))])
noncomputable def f23r2n11:Nat→Int→Int→List Int→List Int→List Qb→List Bool→List Qa→List Int→List Int→List Int→List Int→List Int→List Int→Int→Int→Option f23r2n11O
 | 0,_,_,_,_,_,_,_,_,_,_,_,_,_,_,_=>none
 | f+1,bg1,bg2,bh4,bh5,bb6,bi7,ba8,bh9,bh10,bh11,bh12,bh13,bh14,v4467,v4468 =>
  req (idxB v4468 8) <|
  (bh14[((Int.toNat v4468)*1)]?).bind fun x4473 =>
  req (idxB x4473 10) <|
  (bh13[((Int.toNat x4473)*1)]?).bind fun x4482 =>
  bif decide (x4482=(-2)) then
   (at? bh10 x4473).bind fun x4485 =>
   some (.exit12 (mnI v4467 x4485))
  else
   req (idxB x4482 8) <|
   (bh12[((Int.toNat x4473)*8+(Int.toNat x4482)*1)]?).bind fun x4491 =>
   (f23r2n11 f bg1 bg2 bh4 bh5 bb6 bi7 ba8 bh9 bh10 bh11 bh12 bh13 bh14 (mnI v4467 x4491) x4482)
theorem f23r2n11_ok:∀(f:Nat)(bg1 bg2:Int)(bh4 bh5:List Int)(bb6:List Qb)(bi7:List Bool)(ba8:List Qa)(bh9 bh10 bh11 bh12 bh13 bh14:List Int)(v4467 v4468:Int){o:f23r2n11O},f23r2n11 f bg1 bg2 bh4 bh5 bb6 bi7 ba8 bh9 bh10 bh11 bh12 bh13 bh14 v4467 v4468=some o→TL Try.prog Try.f23.ntmps 5 f (cL (cL (Qh 1 (cL (Qh 2 (Qh 1 (Qh 1 (Qh 1 (Qh 1 (Qh 1 (Qh 2 (cL (cL (cL (Qh 4 c23))))))))))))))) (f23r2n11S bg1 bg2 bh4 bh5 bb6 bi7 ba8 bh9 bh10 bh11 bh12 bh13 bh14 v4467 v4468) (·=f23r2n11E bg1 bg2 bh4 bh5 bb6 bi7 ba8 bh9 bh10 bh11 bh12 bh13 bh14 o)
 | 0,_,_,_,_,_,_,_,_,_,_,_,_,_,_,_,o,h=>by rw [f23r2n11] at h; cases h
 | f+1,bg1,bg2,bh4,bh5,bb6,bi7,ba8,bh9,bh10,bh11,bh12,bh13,bh14,v4467,v4468,o,h=>by
  rw [f23r2n11] at h;refine TL.body (K:=fun s=>∃v4467:Int,∃v4468:Int,s=(f23r2n11S bg1 bg2 bh4 bh5 bb6 bi7 ba8 bh9 bh10 bh11 bh12 bh13 bh14 v4467 v4468)∧f23r2n11 f bg1 bg2 bh4 bh5 bb6 bi7 ba8 bh9 bh10 bh11 bh12 bh13 bh14 v4467 v4468=some o) ?_ (by rintro _ ⟨v4467,v4468,rfl,hk⟩; exact f23r2n11_ok f _ _ _ _ _ _ _ _ _ _ _ _ _ _ _ hk);refine T.block' (i:=13) (by kernel_rfl) ?_;obtain ⟨h4472,h⟩:=Qk h;obtain ⟨x4473,h4474,h⟩:=Qc h;obtain ⟨h4481,h⟩:=Qk h;obtain ⟨x4482,h4483,h⟩:=Qc h;rcases Qi h with ⟨h4484,h⟩|⟨h4484,h⟩
  ·obtain ⟨x4485,h4486,h⟩:=Qc h;obtain rfl:=Qf h
   exact rK Qg 2 [([],[(1,.at_ (Int.toNat v4468)),(2,.arr ((Int.toNat v4468)*1) ((pInt .i64) x4473))],[]),([],[(1,.at_ (Int.toNat x4473)),(2,.arr ((Int.toNat x4473)*1) ((pInt .i64) x4482))],[]),([],[(3,.at_ (Int.toNat x4473)),(4,.idx 0 ((cInt .i64) x4485))],[])] [some true] [] [5,6,7,8,9] [0,1,2,7,8,9,10,14,18] (.exit 12) ((f23r2n11E bg1 bg2 bh4 bh5 bb6 bi7 ba8 bh9 bh10 bh11 bh12 bh13 bh14 (.exit12 (mnI v4467 x4485))).2) (ap (Qq h4472) (ap (Qs h4472) (ap ((by omega:(0+(Int.toNat v4468)*1)=0+((Int.toNat v4468)*1))) (ap (Qt (pInt .i64) h4474) (ap (Qq h4481) (ap (Qs h4481) (ap ((by omega:(0+(Int.toNat x4473)*1)=0+((Int.toNat x4473)*1))) (ap (Qt (pInt .i64) h4483) (ap h4484 (ap (Qe h4486).1 (ap (Qp (cInt .i64) (Qe h4486).2) (ap (Ql (cInt .i64) (Qe h4486).2) an)))))))))))) (Qn.out rfl rfl)
  ·obtain ⟨h4490,h⟩:=Qk h;obtain ⟨x4491,h4492,h⟩:=Qc h
   exact rE Qg [([],[(1,.at_ (Int.toNat v4468)),(2,.arr ((Int.toNat v4468)*1) ((pInt .i64) x4473))],[]),([],[(1,.at_ (Int.toNat x4473)),(2,.arr ((Int.toNat x4473)*1) ((pInt .i64) x4482))],[]),([],[(1,.at_ (Int.toNat x4473)),(2,.arr ((Int.toNat x4473)*1) ((pInt .i64) x4482))],[]),([],[(3,.at_ (Int.toNat x4473)),(4,.at_ (Int.toNat x4482)),(5,.arr ((Int.toNat x4473)*8+(Int.toNat x4482)*1) ((pInt .i64) x4491))],[])] [some false] [] [5,6,7,8,9] [0,1,2,7,8,9,10,14,18,19] (.norm,(f23r2n11S bg1 bg2 bh4 bh5 bb6 bi7 ba8 bh9 bh10 bh11 bh12 bh13 bh14 (mnI v4467 x4491) x4482)) (ap (Qq h4472) (ap (Qs h4472) (ap ((by omega:(0+(Int.toNat v4468)*1)=0+((Int.toNat v4468)*1))) (ap (Qt (pInt .i64) h4474) (ap (Qq h4481) (ap (Qs h4481) (ap ((by omega:(0+(Int.toNat x4473)*1)=0+((Int.toNat x4473)*1))) (ap (Qt (pInt .i64) h4483) (ap h4484 (ap (Qq h4481) (ap (Qs h4481) (ap ((by omega:(0+(Int.toNat x4473)*1)=0+((Int.toNat x4473)*1))) (ap (Qt (pInt .i64) h4483) (ap (Qq h4481) (ap (Qs h4481) (ap (Qq h4490) (ap (Qs h4490) (ap ((by omega:(0+(Int.toNat x4473)*8+(Int.toNat x4482)*1)=0+((Int.toNat x4473)*8+(Int.toNat x4482)*1))) (ap (Qt (pInt .i64) h4492) an))))))))))))))))))) (Qn.norm ⟨(mnI v4467 x4491),x4482,rfl,h⟩)
inductive f23r2n10O where
 | norm (v4497:Int)
def f23r2n10E(bg1 bg2 bg3:Int)(bh4 bh5:List Int)(bb6:List Qb)(bi7:List Bool)(ba8:List Qa)(bh9 bh10 bh11 bh12 bh13 bh14:List Int):f23r2n10O→Ex×Tr×Hp
 | .norm v4497=>(.norm,mkS [(0,(.own 5)),(1,(.own 6)),(2,(.bp 2 4)),(7,(.bp 7 0)),(8,(jI bg1)),(9,(.bp 8 0)),(10,(.bp 9 0)),(14,(jI bg2)),(18,(jI v4497))],[some (.row false 1 (bh4.map (cInt .i64))),some (.row false 1 (bh5.map (cInt .i64))),some (.abox 57 [(.own 3),(jL 2 Qb.cells bb6),(.own 4),(.own 1)] (bi7.map Qm)),jR 4 Qa.cells ba8,some (.row false 1 (bh9.map (cInt .i64))),some (.row false 1 (bh10.map (cInt .i64))),some (.row false 1 (bh11.map (cInt .i64))),some (.abox 82 [] (bh12.map (pInt .i64))),some (.abox 83 [] (bh13.map (pInt .i64))),some (.abox 80 [] (bh14.map (pInt .i64)))])
def f23r2n10S(bg1 bg2 bg3:Int)(bh4 bh5:List Int)(bb6:List Qb)(bi7:List Bool)(ba8:List Qa)(bh9 bh10 bh11 bh12 bh13 bh14:List Int):Tr×Hp:=(mkS [(0,(.own 5)),(1,(.own 6)),(2,(.bp 2 4)),(7,(.bp 7 0)),(8,(jI bg1)),(9,(.bp 8 0)),(10,(.bp 9 0)),(14,(jI bg2)),(18,(jI bg3))],[some (.row false 1 (bh4.map (cInt .i64))),some (.row false 1 (bh5.map (cInt .i64))),some (.abox 57 [(.own 3),(jL 2 Qb.cells bb6),(.own 4),(.own 1)] (bi7.map Qm)),jR 4 Qa.cells ba8,some (.row false 1 (bh9.map (cInt .i64))),some (.row false 1 (bh10.map (cInt .i64))),some (.row false 1 (bh11.map (cInt .i64))),some (.abox 82 [] (bh12.map (pInt .i64))),some (.abox 83 [] (bh13.map (pInt .i64))),some (.abox 80 [] (bh14.map (pInt .i64)))])
noncomputable def f23r2n10(bg1 bg2 bg3:Int)(bh4 bh5:List Int)(bb6:List Qb)(bi7:List Bool)(ba8:List Qa)(bh9 bh10 bh11 bh12 bh13 bh14:List Int):Option f23r2n10O :=
 (f23r2n11 FUEL bg1 bg2 bh4 bh5 bb6 bi7 ba8 bh9 bh10 bh11 bh12 bh13 bh14 bg3 bg2).bind fun o4494=>match o4494 with
 | .exit12 v4496=>some (.norm v4496)
theorem f23r2n10_ok(bg1 bg2 bg3:Int)(bh4 bh5:List Int)(bb6:List Qb)(bi7:List Bool)(ba8:List Qa)(bh9 bh10 bh11 bh12 bh13 bh14:List Int){o:f23r2n10O}(h:f23r2n10 bg1 bg2 bg3 bh4 bh5 bb6 bi7 ba8 bh9 bh10 bh11 bh12 bh13 bh14=some o):T Try.prog Try.f23.ntmps 5 (cL (Qh 2 (Qh 1 (Qh 1 (Qh 1 (Qh 1 (Qh 1 (Qh 2 (cL (cL (cL (Qh 4 c23)))))))))))) (f23r2n10S bg1 bg2 bg3 bh4 bh5 bb6 bi7 ba8 bh9 bh10 bh11 bh12 bh13 bh14) (·=f23r2n10E bg1 bg2 bg3 bh4 bh5 bb6 bi7 ba8 bh9 bh10 bh11 bh12 bh13 bh14 o):=by
 unfold f23r2n10 at h;refine rN Qg 1 [j3] [] [] [5,6,7,8,9] [0,1,2,7,8,9,10,14,18,19] (f23r2n11S bg1 bg2 bh4 bh5 bb6 bi7 ba8 bh9 bh10 bh11 bh12 bh13 bh14 bg3 bg2) an ?_;obtain ⟨o4494,h4495,h⟩:=Qc h;cases o4494 with
 | exit12 v4496 =>
  obtain rfl:=Qf h;exact T.last' (T.bl (i:=12) (by kernel_rfl) (by kernel_rfl) (f23r2n11_ok FUEL bg1 bg2 bh4 bh5 bb6 bi7 ba8 bh9 bh10 bh11 bh12 bh13 bh14 bg3 bg2 h4495)) (tds:=[]) (m:=[5,6,7,8,9]) (keep:=[0,1,2,7,8,9,10,14,18]) (st2:=(f23r2n10E bg1 bg2 bg3 bh4 bh5 bb6 bi7 ba8 bh9 bh10 bh11 bh12 bh13 bh14 (.norm v4496)).2) (by kernel_rfl) an rfl
inductive f23r2n13O where
 | exit14 (v4613:List Int) (v4614:List Int)
def f23r2n13E(bg1 bg3:Int)(bh4 bh5:List Int)(bb6:List Qb)(bi7:List Bool)(ba8:List Qa)(bh9 bh10 bh11:List Int)(bg2 bg12:Int)(bh14 bh15:List Int):f23r2n13O→Ex×Tr×Hp
 | .exit14 v4613 v4614=>((.exit 14),mkS [(0,(.own 5)),(1,(.own 6)),(2,(.bp 2 4)),(7,(.bp 7 0)),(8,(jI bg1)),(18,(jI bg3))],[some (.row false 1 (bh4.map (cInt .i64))),some (.row false 1 (bh5.map (cInt .i64))),some (.abox 57 [(.own 3),(jL 2 Qb.cells bb6),(.own 4),(.own 1)] (bi7.map Qm)),jR 4 Qa.cells ba8,some (.row false 1 (bh9.map (cInt .i64))),some (.row false 1 (v4613.map (cInt .i64))),some (.row false 1 ((bh11.set (Int.toNat bg2) (wr64 (bg12-bg3))).map (cInt .i64))),some (.abox 82 [] (v4614.map (pInt .i64)))])
def f23r2n13S(bg1 bg3:Int)(bh4 bh5:List Int)(bb6:List Qb)(bi7:List Bool)(ba8:List Qa)(bh9 bh10 bh11:List Int)(bg2 bg12:Int)(bh14 bh15:List Int)(v4575:Int)(v4576:List Int):Tr×Hp:=(mkS [(0,(.own 5)),(1,(.own 6)),(2,(.bp 2 4)),(7,(.bp 7 0)),(8,(jI bg1)),(9,(.bp 8 0)),(10,(.bp 9 0)),(18,(jI bg3)),(21,(jI v4575))],[some (.row false 1 (bh4.map (cInt .i64))),some (.row false 1 (bh5.map (cInt .i64))),some (.abox 57 [(.own 3),(jL 2 Qb.cells bb6),(.own 4),(.own 1)] (bi7.map Qm)),jR 4 Qa.cells ba8,some (.row false 1 (bh9.map (cInt .i64))),some (.row false 1 (bh10.map (cInt .i64))),some (.row false 1 ((bh11.set (Int.toNat bg2) (wr64 (bg12-bg3))).map (cInt .i64))),some (.abox 82 [] (v4576.map (pInt .i64))),some (.abox 83 [] (bh14.map (pInt .i64))),some (.abox 80 [] (bh15.map (pInt .i64)))])
noncomputable def f23r2n13:Nat→Int→Int→List Int→List Int→List Qb→List Bool→List Qa→List Int→List Int→List Int→Int→Int→List Int→List Int→Int→List Int→Option f23r2n13O
 | 0,_,_,_,_,_,_,_,_,_,_,_,_,_,_,_,_=>none
 | f+1,bg1,bg3,bh4,bh5,bb6,bi7,ba8,bh9,bh10,bh11,bg2,bg12,bh14,bh15,v4575,v4576 =>
  req (idxB v4575 8) <|
  (bh15[((Int.toNat v4575)*1)]?).bind fun x4581 =>
  req (idxB x4581 10) <|
  (v4576[((Int.toNat x4581)*8+(Int.toNat v4575)*1)]?).bind fun x4587 =>
  (bh14[((Int.toNat x4581)*1)]?).bind fun x4602 =>
  bif decide (x4602=(-2)) then
   (at? bh10 x4581).bind fun x4605 =>
   some (.exit14 (bh10.set (Int.toNat x4581) (wr64 (x4605-bg3))) (v4576.set ((Int.toNat x4581)*8+(Int.toNat v4575)*1) (wr64 (x4587+bg3))))
  else
   req (idxB x4602 8) <|
   (v4576.set ((Int.toNat x4581)*8+(Int.toNat v4575)*1) (wr64 (x4587+bg3)))[((Int.toNat x4581)*8+(Int.toNat x4602)*1)]?.bind fun x4611 =>
   (f23r2n13 f bg1 bg3 bh4 bh5 bb6 bi7 ba8 bh9 bh10 bh11 bg2 bg12 bh14 bh15 x4602 ((v4576.set ((Int.toNat x4581)*8+(Int.toNat v4575)*1) (wr64 (x4587+bg3))).set ((Int.toNat x4581)*8+(Int.toNat x4602)*1) (wr64 (x4611-bg3))))
theorem f23r2n13_ok:∀(f:Nat)(bg1 bg3:Int)(bh4 bh5:List Int)(bb6:List Qb)(bi7:List Bool)(ba8:List Qa)(bh9 bh10 bh11:List Int)(bg2 bg12:Int)(bh14 bh15:List Int)(v4575:Int)(v4576:List Int){o:f23r2n13O},f23r2n13 f bg1 bg3 bh4 bh5 bb6 bi7 ba8 bh9 bh10 bh11 bg2 bg12 bh14 bh15 v4575 v4576=some o→TL Try.prog Try.f23.ntmps 5 f (cL (cL (Qh 1 (cL (Qh 1 (Qh 1 (Qh 2 (Qh 1 (Qh 1 (Qh 1 (Qh 1 (Qh 1 (Qh 2 (cL (cL (cL (Qh 4 c23))))))))))))))))) (f23r2n13S bg1 bg3 bh4 bh5 bb6 bi7 ba8 bh9 bh10 bh11 bg2 bg12 bh14 bh15 v4575 v4576) (·=f23r2n13E bg1 bg3 bh4 bh5 bb6 bi7 ba8 bh9 bh10 bh11 bg2 bg12 bh14 bh15 o)
 | 0,_,_,_,_,_,_,_,_,_,_,_,_,_,_,_,_,o,h=>by rw [f23r2n13] at h; cases h
 | f+1,bg1,bg3,bh4,bh5,bb6,bi7,ba8,bh9,bh10,bh11,bg2,bg12,bh14,bh15,v4575,v4576,o,h=>by
  rw [f23r2n13] at h;refine TL.body (K:=fun s=>∃v4575:Int,∃v4576:List Int,s=(f23r2n13S bg1 bg3 bh4 bh5 bb6 bi7 ba8 bh9 bh10 bh11 bg2 bg12 bh14 bh15 v4575 v4576)∧f23r2n13 f bg1 bg3 bh4 bh5 bb6 bi7 ba8 bh9 bh10 bh11 bg2 bg12 bh14 bh15 v4575 v4576=some o) ?_ (by rintro _ ⟨v4575,v4576,rfl,hk⟩; exact f23r2n13_ok f _ _ _ _ _ _ _ _ _ _ _ _ _ _ _ _ hk);refine T.block' (i:=15) (by kernel_rfl) ?_;obtain ⟨h4580,h⟩:=Qk h;obtain ⟨x4581,h4582,h⟩:=Qc h;obtain ⟨h4586,h⟩:=Qk h;obtain ⟨x4587,h4588,h⟩:=Qc h
  refine rN Qg 2 [([],[(1,.at_ (Int.toNat v4575)),(2,.arr ((Int.toNat v4575)*1) ((pInt .i64) x4581))],[]),([],[(2,.at_ (Int.toNat x4581)),(3,.at_ (Int.toNat v4575)),(4,.arr ((Int.toNat x4581)*8+(Int.toNat v4575)*1) ((pInt .i64) x4587)),(7,.at_ (Int.toNat x4581)),(8,.at_ (Int.toNat v4575)),(9,.arw ((Int.toNat x4581)*8+(Int.toNat v4575)*1))],[(9,.arr 7 ((v4576.set ((Int.toNat x4581)*8+(Int.toNat v4575)*1) (wr64 (x4587+bg3))).map (pInt .i64)))])] [] [] [5,6,7,8,9] [0,1,2,7,8,9,10,18,22] (mkS [(0,(.own 5)),(1,(.own 6)),(2,(.bp 2 4)),(7,(.bp 7 0)),(8,(jI bg1)),(9,(.bp 8 0)),(10,(.bp 9 0)),(18,(jI bg3)),(22,(jI x4581))],[some (.row false 1 (bh4.map (cInt .i64))),some (.row false 1 (bh5.map (cInt .i64))),some (.abox 57 [(.own 3),(jL 2 Qb.cells bb6),(.own 4),(.own 1)] (bi7.map Qm)),jR 4 Qa.cells ba8,some (.row false 1 (bh9.map (cInt .i64))),some (.row false 1 (bh10.map (cInt .i64))),some (.row false 1 ((bh11.set (Int.toNat bg2) (wr64 (bg12-bg3))).map (cInt .i64))),some (.abox 82 [] ((v4576.set ((Int.toNat x4581)*8+(Int.toNat v4575)*1) (wr64 (x4587+bg3))).map (pInt .i64))),some (.abox 83 [] (bh14.map (pInt .i64))),some (.abox 80 [] (bh15.map (pInt .i64)))]) (ap (Qq h4580) (ap (Qs h4580) (ap ((by omega:(0+(Int.toNat v4575)*1)=0+((Int.toNat v4575)*1))) (ap (Qt (pInt .i64) h4582) (ap (Qq h4586) (ap (Qs h4586) (ap (Qq h4580) (ap (Qs h4580) (ap ((by omega:(0+(Int.toNat x4581)*8+(Int.toNat v4575)*1)=0+((Int.toNat x4581)*8+(Int.toNat v4575)*1))) (ap (Qt (pInt .i64) h4588) (ap (Qq h4586) (ap (Qs h4586) (ap (Qq h4580) (ap (Qs h4580) (ap ((by omega:(0+(Int.toNat x4581)*8+(Int.toNat v4575)*1)=0+((Int.toNat x4581)*8+(Int.toNat v4575)*1))) (ap (Qcg (f:=(pInt .i64)) h4588) (ap (Qai (xs:=v4576) (f:=(pInt .i64)) (k:=((Int.toNat x4581)*8+(Int.toNat v4575)*1)) (x:=(wr64 (x4587+bg3)))) an))))))))))))))))) ?_
  obtain ⟨x4602,h4603,h⟩:=Qc h;rcases Qi h with ⟨h4604,h⟩|⟨h4604,h⟩
  ·obtain ⟨x4605,h4606,h⟩:=Qc h;obtain rfl:=Qf h
   exact rK Qg 1 [([],[(1,.at_ (Int.toNat x4581)),(2,.arr ((Int.toNat x4581)*1) ((pInt .i64) x4602))],[]),([],[(2,.at_ (Int.toNat x4581)),(3,.idx 0 ((cInt .i64) x4605)),(6,.at_ (Int.toNat x4581)),(7,.idx 0 ((cInt .i64) x4605))],[(7,.row 5 ((bh10.set (Int.toNat x4581) (wr64 (x4605-bg3))).map (cInt .i64)))])] [some true] [] [5,6,7] [0,1,2,7,8,18] (.exit 14) ((f23r2n13E bg1 bg3 bh4 bh5 bb6 bi7 ba8 bh9 bh10 bh11 bg2 bg12 bh14 bh15 (.exit14 (bh10.set (Int.toNat x4581) (wr64 (x4605-bg3))) (v4576.set ((Int.toNat x4581)*8+(Int.toNat v4575)*1) (wr64 (x4587+bg3))))).2) (ap (Qq h4586) (ap (Qs h4586) (ap ((by omega:(0+(Int.toNat x4581)*1)=0+((Int.toNat x4581)*1))) (ap (Qt (pInt .i64) h4603) (ap h4604 (ap (Qe h4606).1 (ap (Qp (cInt .i64) (Qe h4606).2) (ap (Ql (cInt .i64) (Qe h4606).2) (ap (Qe h4606).1 (ap (Qp (cInt .i64) (Qe h4606).2) (ap (Ql (cInt .i64) (Qe h4606).2) (ap (Qcj (xs:=bh10) (c:=(cInt .i64)) (k:=(Int.toNat x4581)) (x:=(wr64 (x4605-bg3)))) an)))))))))))) (Qn.out rfl rfl)
  ·obtain ⟨h4610,h⟩:=Qk h;obtain ⟨x4611,h4612,h⟩:=Qc h
   exact rE Qg [([],[(1,.at_ (Int.toNat x4581)),(2,.arr ((Int.toNat x4581)*1) ((pInt .i64) x4602))],[]),([],[(1,.at_ (Int.toNat x4581)),(2,.arr ((Int.toNat x4581)*1) ((pInt .i64) x4602))],[]),([],[(2,.at_ (Int.toNat x4581)),(3,.at_ (Int.toNat x4602)),(4,.arr ((Int.toNat x4581)*8+(Int.toNat x4602)*1) ((pInt .i64) x4611)),(7,.at_ (Int.toNat x4581)),(8,.at_ (Int.toNat x4602)),(9,.arw ((Int.toNat x4581)*8+(Int.toNat x4602)*1))],[(9,.arr 7 (((v4576.set ((Int.toNat x4581)*8+(Int.toNat v4575)*1) (wr64 (x4587+bg3))).set ((Int.toNat x4581)*8+(Int.toNat x4602)*1) (wr64 (x4611-bg3))).map (pInt .i64)))])] [some false] [] [5,6,7,8,9] [0,1,2,7,8,9,10,18,21] (.norm,(f23r2n13S bg1 bg3 bh4 bh5 bb6 bi7 ba8 bh9 bh10 bh11 bg2 bg12 bh14 bh15 x4602 ((v4576.set ((Int.toNat x4581)*8+(Int.toNat v4575)*1) (wr64 (x4587+bg3))).set ((Int.toNat x4581)*8+(Int.toNat x4602)*1) (wr64 (x4611-bg3))))) (ap (Qq h4586) (ap (Qs h4586) (ap ((by omega:(0+(Int.toNat x4581)*1)=0+((Int.toNat x4581)*1))) (ap (Qt (pInt .i64) h4603) (ap h4604 (ap (Qq h4586) (ap (Qs h4586) (ap ((by omega:(0+(Int.toNat x4581)*1)=0+((Int.toNat x4581)*1))) (ap (Qt (pInt .i64) h4603) (ap (Qq h4586) (ap (Qs h4586) (ap (Qq h4610) (ap (Qs h4610) (ap ((by omega:(0+(Int.toNat x4581)*8+(Int.toNat x4602)*1)=0+((Int.toNat x4581)*8+(Int.toNat x4602)*1))) (ap (Qt (pInt .i64) h4612) (ap (Qq h4586) (ap (Qs h4586) (ap (Qq h4610) (ap (Qs h4610) (ap ((by omega:(0+(Int.toNat x4581)*8+(Int.toNat x4602)*1)=0+((Int.toNat x4581)*8+(Int.toNat x4602)*1))) (ap (Qcg (f:=(pInt .i64)) h4612) (ap (Qai (xs:=(v4576.set ((Int.toNat x4581)*8+(Int.toNat v4575)*1) (wr64 (x4587+bg3)))) (f:=(pInt .i64)) (k:=((Int.toNat x4581)*8+(Int.toNat x4602)*1)) (x:=(wr64 (x4611-bg3)))) an)))))))))))))))))))))) (Qn.norm ⟨x4602,((v4576.set ((Int.toNat x4581)*8+(Int.toNat v4575)*1) (wr64 (x4587+bg3))).set ((Int.toNat x4581)*8+(Int.toNat x4602)*1) (wr64 (x4611-bg3))),rfl,h⟩)
inductive f23r2n12O where
 | norm (v4619:List Int) (v4620:List Int)
def f23r2n12E(bg1 bg2 bg3:Int)(bh4 bh5:List Int)(bb6:List Qb)(bi7:List Bool)(ba8:List Qa)(bh9 bh10 bh11:List Int)(bg12:Int)(bh13 bh14 bh15:List Int):f23r2n12O→Ex×Tr×Hp
 | .norm v4619 v4620=>(.norm,mkS [(0,(.own 5)),(1,(.own 6)),(2,(.bp 2 4)),(7,(.bp 7 0)),(8,(jI bg1)),(18,(jI bg3))],[some (.row false 1 (bh4.map (cInt .i64))),some (.row false 1 (bh5.map (cInt .i64))),some (.abox 57 [(.own 3),(jL 2 Qb.cells bb6),(.own 4),(.own 1)] (bi7.map Qm)),jR 4 Qa.cells ba8,some (.row false 1 (bh9.map (cInt .i64))),some (.row false 1 (v4619.map (cInt .i64))),some (.row false 1 ((bh11.set (Int.toNat bg2) (wr64 (bg12-bg3))).map (cInt .i64))),some (.abox 82 [] (v4620.map (pInt .i64)))])
def f23r2n12S(bg1 bg2 bg3:Int)(bh4 bh5:List Int)(bb6:List Qb)(bi7:List Bool)(ba8:List Qa)(bh9 bh10 bh11:List Int)(bg12:Int)(bh13 bh14 bh15:List Int):Tr×Hp:=(mkS [(0,(.own 5)),(1,(.own 6)),(2,(.bp 2 4)),(7,(.bp 7 0)),(8,(jI bg1)),(9,(.bp 8 0)),(10,(.bp 9 0)),(14,(jI bg2)),(18,(jI bg3))],[some (.row false 1 (bh4.map (cInt .i64))),some (.row false 1 (bh5.map (cInt .i64))),some (.abox 57 [(.own 3),(jL 2 Qb.cells bb6),(.own 4),(.own 1)] (bi7.map Qm)),jR 4 Qa.cells ba8,some (.row false 1 (bh9.map (cInt .i64))),some (.row false 1 (bh10.map (cInt .i64))),some (.row false 1 ((bh11.set (Int.toNat bg2) (wr64 (bg12-bg3))).map (cInt .i64))),some (.abox 82 [] (bh13.map (pInt .i64))),some (.abox 83 [] (bh14.map (pInt .i64))),some (.abox 80 [] (bh15.map (pInt .i64)))])
noncomputable def f23r2n12(bg1 bg2 bg3:Int)(bh4 bh5:List Int)(bb6:List Qb)(bi7:List Bool)(ba8:List Qa)(bh9 bh10 bh11:List Int)(bg12:Int)(bh13 bh14 bh15:List Int):Option f23r2n12O :=
 (f23r2n13 FUEL bg1 bg3 bh4 bh5 bb6 bi7 ba8 bh9 bh10 bh11 bg2 bg12 bh14 bh15 bg2 bh13).bind fun o4615=>match o4615 with
 | .exit14 v4617 v4618=>some (.norm v4617 v4618)
theorem f23r2n12_ok(bg1 bg2 bg3:Int)(bh4 bh5:List Int)(bb6:List Qb)(bi7:List Bool)(ba8:List Qa)(bh9 bh10 bh11:List Int)(bg12:Int)(bh13 bh14 bh15:List Int){o:f23r2n12O}(h:f23r2n12 bg1 bg2 bg3 bh4 bh5 bb6 bi7 ba8 bh9 bh10 bh11 bg12 bh13 bh14 bh15=some o):T Try.prog Try.f23.ntmps 5 (cL (Qh 1 (Qh 1 (Qh 2 (Qh 1 (Qh 1 (Qh 1 (Qh 1 (Qh 1 (Qh 2 (cL (cL (cL (Qh 4 c23)))))))))))))) (f23r2n12S bg1 bg2 bg3 bh4 bh5 bb6 bi7 ba8 bh9 bh10 bh11 bg12 bh13 bh14 bh15) (·=f23r2n12E bg1 bg2 bg3 bh4 bh5 bb6 bi7 ba8 bh9 bh10 bh11 bg12 bh13 bh14 bh15 o):=by
 unfold f23r2n12 at h;refine rN Qg 1 [j3] [] [] [5,6,7,8,9] [0,1,2,7,8,9,10,18,21] (f23r2n13S bg1 bg3 bh4 bh5 bb6 bi7 ba8 bh9 bh10 bh11 bg2 bg12 bh14 bh15 bg2 bh13) an ?_;obtain ⟨o4615,h4616,h⟩:=Qc h;cases o4615 with
 | exit14 v4617 v4618 =>
  obtain rfl:=Qf h;exact T.last' (T.bl (i:=14) (by kernel_rfl) (by kernel_rfl) (f23r2n13_ok FUEL bg1 bg3 bh4 bh5 bb6 bi7 ba8 bh9 bh10 bh11 bg2 bg12 bh14 bh15 bg2 bh13 h4616)) (tds:=[]) (m:=[5,6,7]) (keep:=[0,1,2,7,8,18]) (st2:=(f23r2n12E bg1 bg2 bg3 bh4 bh5 bb6 bi7 ba8 bh9 bh10 bh11 bg12 bh13 bh14 bh15 (.norm v4617 v4618)).2) (by kernel_rfl) an rfl
inductive f23r2n14O where
 | ret (v4625:Int)
def f23r2n14E(a1 a2:List Int)(a3:List Qb)(a4:List Bool)(a5:List Qa)(a6:List Int):f23r2n14O→Ex×Tr×Hp
 | .ret v4625=>(.ret,mkS [(6,(jI v4625))],[some (.row false 1 (a1.map (cInt .i64))),some (.row false 1 (a2.map (cInt .i64))),some (.abox 57 [(.own 3),(jL 2 Qb.cells a3),(.own 4),(.own 1)] (a4.map Qm)),jR 4 Qa.cells a5,some (.row false 1 (a6.map (cInt .i64)))])
def f23r2n14S(a1 a2:List Int)(a3:List Qb)(a4:List Bool)(a5:List Qa)(a6:List Int)(v3087:Int)(v3088 v3089 v3090:List Int):Tr×Hp:=(mkS [(0,(.own 5)),(1,(.own 6)),(2,(.bp 2 4)),(7,(.bp 7 0)),(8,(jI v3087))],[some (.row false 1 (a1.map (cInt .i64))),some (.row false 1 (a2.map (cInt .i64))),some (.abox 57 [(.own 3),(jL 2 Qb.cells a3),(.own 4),(.own 1)] (a4.map Qm)),jR 4 Qa.cells a5,some (.row false 1 (a6.map (cInt .i64))),some (.row false 1 (v3088.map (cInt .i64))),some (.row false 1 (v3089.map (cInt .i64))),some (.abox 82 [] (v3090.map (pInt .i64)))])
noncomputable def f23r2n14:Nat→List Int→List Int→List Qb→List Bool→List Qa→List Int→Int→List Int→List Int→List Int→Option f23r2n14O
 | 0,_,_,_,_,_,_,_,_,_,_=>none
 | f+1,a1,a2,a3,a4,a5,a6,v3087,v3088,v3089,v3090 =>
  (f23r2n1 v3087 a1 a2 a3 a4 a5 a6 v3088 v3089 v3090).bind fun o3114=>match o3114 with
  | .norm v3116=>(f23r2n3 v3087 a1 a2 a3 a4 a5 a6 v3088 v3089 v3090 v3116).bind fun o3179=>match o3179 with
   | .norm v3181 v3182=>(f23r2n9 FUEL v3087 a1 a2 a3 a4 a5 a6 v3088 v3089 v3090 0 v3182.length (-1) v3181 v3116 v3182).bind fun o4406=>match o4406 with
    | .exit6 v4408 v4409 v4410=>bif decide (v4408<0) then
      some (.ret v3087)
     else
      (at? v3089 v4408).bind fun x4415 =>
      (f23r2n10 v3087 v4408 x4415 a1 a2 a3 a4 a5 a6 v3088 v3089 v3090 v4409 v4410).bind fun o4498=>match o4498 with
      | .norm v4500=>(f23r2n12 v3087 v4408 v4500 a1 a2 a3 a4 a5 a6 v3088 v3089 x4415 v3090 v4409 v4410).bind fun o4621=>match o4621 with
       | .norm v4623 v4624=>(f23r2n14 f a1 a2 a3 a4 a5 a6 (wr64 (v3087+v4500)) v4623 (v3089.set (Int.toNat v4408) (wr64 (x4415-v4500))) v4624)
theorem f23r2n14_ok:∀(f:Nat)(a1 a2:List Int)(a3:List Qb)(a4:List Bool)(a5:List Qa)(a6:List Int)(v3087:Int)(v3088 v3089 v3090:List Int){o:f23r2n14O},f23r2n14 f a1 a2 a3 a4 a5 a6 v3087 v3088 v3089 v3090=some o→TL Try.prog Try.f23.ntmps 5 f (cL (cL (Qh 4 c23))) (f23r2n14S a1 a2 a3 a4 a5 a6 v3087 v3088 v3089 v3090) (·=f23r2n14E a1 a2 a3 a4 a5 a6 o)
 | 0,_,_,_,_,_,_,_,_,_,_,o,h=>by rw [f23r2n14] at h; cases h
 | f+1,a1,a2,a3,a4,a5,a6,v3087,v3088,v3089,v3090,o,h=>by
  rw [f23r2n14] at h;refine TL.body (K:=fun s=>∃v3087:Int,∃v3088:List Int,∃v3089:List Int,∃v3090:List Int,s=(f23r2n14S a1 a2 a3 a4 a5 a6 v3087 v3088 v3089 v3090)∧f23r2n14 f a1 a2 a3 a4 a5 a6 v3087 v3088 v3089 v3090=some o) ?_ (by rintro _ ⟨v3087,v3088,v3089,v3090,rfl,hk⟩; exact f23r2n14_ok f _ _ _ _ _ _ _ _ _ _ hk);refine T.block' (i:=1) (by kernel_rfl) ?_;refine rN Qg 2 [j3,j3] [] [] [5,6,7,8,9] [0,1,2,7,8,9,10] (f23r2n1S v3087 a1 a2 a3 a4 a5 a6 v3088 v3089 v3090) an ?_;obtain ⟨o3114,h3115,h⟩:=Qc h;cases o3114 with
  | norm v3116 =>
   refine T.oneN (by kernel_rfl) (f23r2n1_ok v3087 a1 a2 a3 a4 a5 a6 v3088 v3089 v3090 h3115) (st2:=(f23r2n1E v3087 a1 a2 a3 a4 a5 a6 v3088 v3089 v3090 (.norm v3116)).2) rfl ?_;refine rN Qg 1 [j3] [] [] [5,6,7,8,9] [0,1,2,7,8,9,10,12] (f23r2n3S v3087 a1 a2 a3 a4 a5 a6 v3088 v3089 v3090 v3116) an ?_;obtain ⟨o3179,h3180,h⟩:=Qc h;cases o3179 with
   | norm v3181 v3182 =>
    refine T.oneN (by kernel_rfl) (f23r2n3_ok v3087 a1 a2 a3 a4 a5 a6 v3088 v3089 v3090 v3116 h3180) (st2:=(f23r2n3E v3087 a1 a2 a3 a4 a5 a6 v3088 v3089 v3090 v3116 (.norm v3181 v3182)).2) rfl ?_;refine rN Qg 1 [j3] [] [.ovw 12 v3182.length] [5,6,7,8,9,10] [0,1,2,7,8,9,10,12,14] (f23r2n9S v3087 a1 a2 a3 a4 a5 a6 v3088 v3089 v3090 0 v3182.length (-1) v3181 v3116 v3182) (ap (len_ov (xs:=v3182) (c:=(cInt .i64))) an) ?_;obtain ⟨o4406,h4407,h⟩:=Qc h;cases o4406 with
    | exit6 v4408 v4409 v4410 =>
     refine T.oneN (by kernel_rfl) (T.bl (i:=6) (by kernel_rfl) (by kernel_rfl) (f23r2n9_ok FUEL v3087 a1 a2 a3 a4 a5 a6 v3088 v3089 v3090 0 v3182.length (-1) v3181 v3116 v3182 h4407)) (st2:=(f23r2n9E v3087 a1 a2 a3 a4 a5 a6 v3088 v3089 v3090 (.exit6 v4408 v4409 v4410)).2) rfl ?_;rcases Qi h with ⟨h4412,h⟩|⟨h4412,h⟩
     ·obtain rfl:=Qf h;exact rK Qg 1 [j3,j3] [some true] [] [] [6] .ret ((f23r2n14E a1 a2 a3 a4 a5 a6 (.ret v3087)).2) (ap h4412 an) (Qn.out rfl rfl)
     ·obtain ⟨x4415,h4416,h⟩:=Qc h;refine rN Qg 2 [j3,([],[(2,.at_ (Int.toNat v4408)),(3,.idx 0 ((cInt .i64) x4415))],[])] [some false] [] [5,6,7,8,9] [0,1,2,7,8,9,10,14,18] (f23r2n10S v3087 v4408 x4415 a1 a2 a3 a4 a5 a6 v3088 v3089 v3090 v4409 v4410) (ap h4412 (ap (Qe h4416).1 (ap (Qp (cInt .i64) (Qe h4416).2) (ap (Ql (cInt .i64) (Qe h4416).2) an)))) ?_;obtain ⟨o4498,h4499,h⟩:=Qc h;cases o4498 with
      | norm v4500 =>
       refine T.oneN (by kernel_rfl) (f23r2n10_ok v3087 v4408 x4415 a1 a2 a3 a4 a5 a6 v3088 v3089 v3090 v4409 v4410 h4499) (st2:=(f23r2n10E v3087 v4408 x4415 a1 a2 a3 a4 a5 a6 v3088 v3089 v3090 v4409 v4410 (.norm v4500)).2) rfl ?_
       refine rN Qg 1 [([],[(2,.at_ (Int.toNat v4408)),(3,.idx 0 ((cInt .i64) x4415)),(6,.at_ (Int.toNat v4408)),(7,.idx 0 ((cInt .i64) x4415))],[(7,.row 6 ((v3089.set (Int.toNat v4408) (wr64 (x4415-v4500))).map (cInt .i64)))])] [] [] [5,6,7,8,9] [0,1,2,7,8,9,10,14,18] (f23r2n12S v3087 v4408 v4500 a1 a2 a3 a4 a5 a6 v3088 v3089 x4415 v3090 v4409 v4410) (ap (Qe h4416).1 (ap (Qp (cInt .i64) (Qe h4416).2) (ap (Ql (cInt .i64) (Qe h4416).2) (ap (Qe h4416).1 (ap (Qp (cInt .i64) (Qe h4416).2) (ap (Ql (cInt .i64) (Qe h4416).2) (ap (Qcj (xs:=v3089) (c:=(cInt .i64)) (k:=(Int.toNat v4408)) (x:=(wr64 (x4415-v4500)))) an))))))) ?_;obtain ⟨o4621,h4622,h⟩:=Qc h;cases o4621 with
       | norm v4623 v4624 =>
        refine T.oneN (by kernel_rfl) (f23r2n12_ok v3087 v4408 v4500 a1 a2 a3 a4 a5 a6 v3088 v3089 x4415 v3090 v4409 v4410 h4622) (st2:=(f23r2n12E v3087 v4408 v4500 a1 a2 a3 a4 a5 a6 v3088 v3089 x4415 v3090 v4409 v4410 (.norm v4623 v4624)).2) rfl ?_;exact rE Qg [j3] [] [] [5,6,7] [0,1,2,7,8] (.norm,(f23r2n14S a1 a2 a3 a4 a5 a6 (wr64 (v3087+v4500)) v4623 (v3089.set (Int.toNat v4408) (wr64 (x4415-v4500))) v4624)) an (Qn.norm ⟨(wr64 (v3087+v4500)),v4623,(v3089.set (Int.toNat v4408) (wr64 (x4415-v4500))),v4624,rfl,h⟩)
inductive f23r2n0O where
 | ret (v4629:Int)
def f23r2n0E(a1 a2:List Int)(a3:List Qb)(a4:List Bool)(a5:List Qa)(a6:List Int):f23r2n0O→Ex×Tr×Hp
 | .ret v4629=>(.ret,mkS [(6,(jI v4629))],[some (.row false 1 (a1.map (cInt .i64))),some (.row false 1 (a2.map (cInt .i64))),some (.abox 57 [(.own 3),(jL 2 Qb.cells a3),(.own 4),(.own 1)] (a4.map Qm)),jR 4 Qa.cells a5,some (.row false 1 (a6.map (cInt .i64)))])
def f23r2n0S(a1 a2:List Int)(a3:List Qb)(a4:List Bool)(a5:List Qa)(a6:List Int):Tr×Hp:=(Qaz [(.own 0),(.own 1),(.bp 2 4)] 0 .leaf,[some (.row false 1 (a1.map (cInt .i64))),some (.row false 1 (a2.map (cInt .i64))),some (.abox 57 [(.own 3),(jL 2 Qb.cells a3),(.own 4),(.own 1)] (a4.map Qm)),jR 4 Qa.cells a5,some (.row false 1 (a6.map (cInt .i64)))])
noncomputable def f23r2n0(a1 a2:List Int)(a3:List Qb)(a4:List Bool)(a5:List Qa)(a6:List Int):Option f23r2n0O :=
 (f45r2 a1).bind fun x11 =>
 (f45r2 a2).bind fun x13 =>
 (f23r2n14 FUEL a1 a2 a3 a4 a5 a6 0 x11 x13 (List.replicate 80 0)).bind fun o4626=>match o4626 with
 | .ret v4628=>some (.ret v4628)
theorem f23r2n0_ok(a1 a2:List Int)(a3:List Qb)(a4:List Bool)(a5:List Qa)(a6:List Int){o:f23r2n0O}(h:f23r2n0 a1 a2 a3 a4 a5 a6=some o):T Try.prog Try.f23.ntmps 5 c23 (f23r2n0S a1 a2 a3 a4 a5 a6) (·=f23r2n0E a1 a2 a3 a4 a5 a6 o):=by
 unfold f23r2n0 at h;obtain ⟨x11,h12,h⟩:=Qc h;obtain ⟨x13,h14,h⟩:=Qc h;refine rN Qg 4 [j3,([],[(1,.call (.own 5) [some (.row false 1 (a1.map (cInt .i64))),none,none,none,none,some (.row false 1 (x11.map (cInt .i64)))]),(3,.call (.own 6) [none,some (.row false 1 (a2.map (cInt .i64))),none,none,none,none,some (.row false 1 (x13.map (cInt .i64)))])],[]),j3,j3] [] [.toA 7 0 ((List.replicate 80 0).map (pInt .i64))] [5,6,7] [0,1,2,7,8] (f23r2n14S a1 a2 a3 a4 a5 a6 0 x11 x13 (List.replicate 80 0)) (ap (Qr.rn 5 [0] (f45r2_ok a1 h12)) (ap (Qr.rn 6 [1] (f45r2_ok a2 h14)) (ap (toA_r ((List.replicate 80 0).map (pInt .i64))) an))) ?_;obtain ⟨o4626,h4627,h⟩:=Qc h;cases o4626 with
 | ret v4628 =>
  obtain rfl:=Qf h;exact T.last' (T.bl (i:=0) (by kernel_rfl) (by kernel_rfl) (f23r2n14_ok FUEL a1 a2 a3 a4 a5 a6 0 x11 x13 (List.replicate 80 0) h4627)) (tds:=[]) (m:=[]) (keep:=[6]) (st2:=(f23r2n0E a1 a2 a3 a4 a5 a6 (.ret v4628)).2) (by kernel_rfl) an rfl
noncomputable def f23r2(a1 a2:List Int)(a3:List Qb)(a4:List Bool)(a5:List Qa)(a6:List Int):Option Int:=(f23r2n0 a1 a2 a3 a4 a5 a6).bind fun o=>match o with
 | .ret v4629=>some v4629
theorem f23r2_ok(a1 a2:List Int)(a3:List Qb)(a4:List Bool)(a5:List Qa)(a6:List Int){r:Int}(h:f23r2 a1 a2 a3 a4 a5 a6=some r):Qr Try.prog true 23 [(.own 0),(.own 1),(.bp 2 4)] [some (.row false 1 (a1.map (cInt .i64))),some (.row false 1 (a2.map (cInt .i64))),some (.abox 57 [(.own 3),(jL 2 Qb.cells a3),(.own 4),(.own 1)] (a4.map Qm)),jR 4 Qa.cells a5,some (.row false 1 (a6.map (cInt .i64)))] (jI r) [some (.row false 1 (a1.map (cInt .i64))),some (.row false 1 (a2.map (cInt .i64))),some (.abox 57 [(.own 3),(jL 2 Qb.cells a3),(.own 4),(.own 1)] (a4.map Qm)),jR 4 Qa.cells a5,some (.row false 1 (a6.map (cInt .i64)))]:=by
 unfold f23r2 at h;obtain ⟨o,ho,h⟩:=Qc h;cases o with
 | ret v4629 =>
  obtain rfl:=Qf h;exact Qr.shared Qg (f:=Try.f23) (c:=c23) (by kernel_rfl) (by kernel_rfl) (by kernel_rfl) ((f23r2n0_ok a1 a2 a3 a4 a5 a6 ho).mono fun r e=>by subst e; exact ⟨.inl rfl,by kernel_rfl,by kernel_rfl⟩)

noncomputable def c25:Code:=Try.f25.body.getD .skip

inductive f25r2n0O where
 | norm (v38:List Int) (v39:List Int) (v40:List Qd)
def f25r2n0E(a1 a2 a3 a4:Int)(a5:List Int)(a6:List Qb)(a7:List Bool)(a8:List Qd)(a9:List Qa)(a10 a11:List Int):f25r2n0O→Ex×Tr×Hp
 | .norm v38 v39 v40=>(.norm,mkS [],[some (.box 33 [(.own 4)]),some (.box 51 [(.bp 5 0)]),some (.box 3 (((cInt .i64) (wr64 (a4-a3))).map .pl)),some (.box 26 [(.own 10)]),some (.row false 1 (v38.map (cInt .i64))),some (.abox 57 [(.own 7),(jL 2 Qb.cells a6),(.own 8),(.own 9)] (a7.map Qm)),none,jR 4 Qa.cells a9,some (.row false 1 (a10.map (cInt .i64))),some (.row false 1 (v39.map (cInt .i64))),jR 3 Qd.cells v40])
def f25r2n0S(a1 a2 a3 a4:Int)(a5:List Int)(a6:List Qb)(a7:List Bool)(a8:List Qd)(a9:List Qa)(a10 a11:List Int):Tr×Hp:=(Qaz [(jI a1),(jI a2),(jI a3),(.bp 0 0),(.bp 1 0),(.bp 2 0),(.bp 3 0)] 0 .leaf,[some (.box 33 [(.own 4)]),some (.box 51 [(.bp 5 0)]),some (.box 3 (((cInt .i64) a4).map .pl)),some (.box 26 [(.own 6)]),some (.row false 1 (a5.map (cInt .i64))),some (.abox 57 [(.own 7),(jL 2 Qb.cells a6),(.own 8),(.own 9)] (a7.map Qm)),jR 3 Qd.cells a8,jR 4 Qa.cells a9,some (.row false 1 (a10.map (cInt .i64))),some (.row false 1 (a11.map (cInt .i64)))])
noncomputable def f25r2n0(a1 a2 a3 a4:Int)(a5:List Int)(a6:List Qb)(a7:List Bool)(a8:List Qd)(a9:List Qa)(a10 a11:List Int):Option f25r2n0O :=
 (at? a5 a1).bind fun x14 =>
 (at? a11 a2).bind fun x18 =>
 bif decide (0<a3) then
  (at? a9 a1).bind fun x33 =>
  (at? a6 a2).bind fun x35 =>
  req (fit (a8.length+1) 40) <|
  some (.norm (a5.set (Int.toNat a1) (wr64 (x14-a3))) (a11.set (Int.toNat a2) (wr64 (x18-a3))) (a8++[(Qd.mk x33.Name x35.Name a3)]))
 else
  some (.norm (a5.set (Int.toNat a1) (wr64 (x14-a3))) (a11.set (Int.toNat a2) (wr64 (x18-a3))) a8)
theorem f25r2n0_ok(a1 a2 a3 a4:Int)(a5:List Int)(a6:List Qb)(a7:List Bool)(a8:List Qd)(a9:List Qa)(a10 a11:List Int){o:f25r2n0O}(h:f25r2n0 a1 a2 a3 a4 a5 a6 a7 a8 a9 a10 a11=some o):T Try.prog Try.f25.ntmps 10 c25 (f25r2n0S a1 a2 a3 a4 a5 a6 a7 a8 a9 a10 a11) (·=f25r2n0E a1 a2 a3 a4 a5 a6 a7 a8 a9 a10 a11 o):=by
 unfold f25r2n0 at h;obtain ⟨x14,h15,h⟩:=Qc h;obtain ⟨x18,h19,h⟩:=Qc h
 refine rN Qg 2 [([],[(2,.at_ (Int.toNat a1)),(3,.idx 0 ((cInt .i64) x14)),(6,.at_ (Int.toNat a1)),(7,.idx 0 ((cInt .i64) x14))],[(7,.row 4 ((a5.set (Int.toNat a1) (wr64 (x14-a3))).map (cInt .i64)))]),([],[(5,.at_ (Int.toNat a2)),(6,.idx 0 ((cInt .i64) x18)),(9,.at_ (Int.toNat a2)),(10,.idx 0 ((cInt .i64) x18))],[(10,.row 9 ((a11.set (Int.toNat a2) (wr64 (x18-a3))).map (cInt .i64)))])] [] [] [] [0,1,2,4,5,6] (mkS [(0,(jI a1)),(1,(jI a2)),(2,(jI a3)),(4,(.bp 1 0)),(5,(.bp 2 0)),(6,(.bp 3 0))],[some (.box 33 [(.own 4)]),some (.box 51 [(.bp 5 0)]),some (.box 3 (((cInt .i64) a4).map .pl)),some (.box 26 [(.own 6)]),some (.row false 1 ((a5.set (Int.toNat a1) (wr64 (x14-a3))).map (cInt .i64))),some (.abox 57 [(.own 7),(jL 2 Qb.cells a6),(.own 8),(.own 9)] (a7.map Qm)),jR 3 Qd.cells a8,jR 4 Qa.cells a9,some (.row false 1 (a10.map (cInt .i64))),some (.row false 1 ((a11.set (Int.toNat a2) (wr64 (x18-a3))).map (cInt .i64)))]) (ap (Qe h15).1 (ap (Qp (cInt .i64) (Qe h15).2) (ap (Ql (cInt .i64) (Qe h15).2) (ap (Qe h15).1 (ap (Qp (cInt .i64) (Qe h15).2) (ap (Ql (cInt .i64) (Qe h15).2) (ap (Qcj (xs:=a5) (c:=(cInt .i64)) (k:=(Int.toNat a1)) (x:=(wr64 (x14-a3)))) (ap (Qe h19).1 (ap (Qp (cInt .i64) (Qe h19).2) (ap (Ql (cInt .i64) (Qe h19).2) (ap (Qe h19).1 (ap (Qp (cInt .i64) (Qe h19).2) (ap (Ql (cInt .i64) (Qe h19).2) (ap (Qcj (xs:=a11) (c:=(cInt .i64)) (k:=(Int.toNat a2)) (x:=(wr64 (x18-a3)))) an)))))))))))))) ?_
 rcases Qi h with ⟨h32,h⟩|⟨h32,h⟩
 ·obtain ⟨x33,h34,h⟩:=Qc h;obtain ⟨x35,h36,h⟩:=Qc h;obtain ⟨h37,h⟩:=Qk h;obtain rfl:=Qf h
  exact rE Qg [j3,j3,([],[(6,.at_ (Int.toNat a1)),(8,.idx 0 (Qa.cells x33)),(14,.idx (Int.toNat a2) (Qb.cells x35)),(20,.fits)],[(20,.row 11 ((a8++[(Qd.mk x33.Name x35.Name a3)]).map Qd.cells))])] [some true] [] [11] [] (.norm,(f25r2n0E a1 a2 a3 a4 a5 a6 a7 a8 a9 a10 a11 (.norm (a5.set (Int.toNat a1) (wr64 (x14-a3))) (a11.set (Int.toNat a2) (wr64 (x18-a3))) (a8++[(Qd.mk x33.Name x35.Name a3)]))).2) (ap h32 (ap (Qe h34).1 (ap (Qp Qa.cells (Qe h34).2) (ap (Ql Qa.cells (Qe h34).2) (ap (Qe h36).1 (ap (Ql Qb.cells (Qe h36).2) (ap (fit_map (te:=ti45) (xs:=a8) (n:=1) (c:=Qd.cells) h37 rfl) (ap (app_cv (xs:=a8) (ys:=[(Qd.mk x33.Name x35.Name a3)]) (c:=Qd.cells)) an)))))))) rfl
 ·obtain rfl:=Qf h;exact rE Qg [j3,j3] [some false] [.movC 3 0] [10] [] (.norm,(f25r2n0E a1 a2 a3 a4 a5 a6 a7 a8 a9 a10 a11 (.norm (a5.set (Int.toNat a1) (wr64 (x14-a3))) (a11.set (Int.toNat a2) (wr64 (x18-a3))) a8)).2) (ap h32 an) rfl
noncomputable def f25r2(a1 a2 a3 a4:Int)(a5:List Int)(a6:List Qb)(a7:List Bool)(a8:List Qd)(a9:List Qa)(a10 a11:List Int):Option ((List Int)×(List Int)×(List Qd)):=(f25r2n0 a1 a2 a3 a4 a5 a6 a7 a8 a9 a10 a11).bind fun o=>match o with
 | .norm v38 v39 v40=>some (v38,v39,v40)
theorem f25r2_ok(a1 a2 a3 a4:Int)(a5:List Int)(a6:List Qb)(a7:List Bool)(a8:List Qd)(a9:List Qa)(a10 a11:List Int){r:(List Int)×(List Int)×(List Qd)}(h:f25r2 a1 a2 a3 a4 a5 a6 a7 a8 a9 a10 a11=some r):Qr Try.prog true 25 [(jI a1),(jI a2),(jI a3),(.bp 0 0),(.bp 1 0),(.bp 2 0),(.bp 3 0)] [some (.box 33 [(.own 4)]),some (.box 51 [(.bp 5 0)]),some (.box 3 (((cInt .i64) a4).map .pl)),some (.box 26 [(.own 6)]),some (.row false 1 (a5.map (cInt .i64))),some (.abox 57 [(.own 7),(jL 2 Qb.cells a6),(.own 8),(.own 9)] (a7.map Qm)),jR 3 Qd.cells a8,jR 4 Qa.cells a9,some (.row false 1 (a10.map (cInt .i64))),some (.row false 1 (a11.map (cInt .i64)))] (.tup []) [some (.box 33 [(.own 4)]),some (.box 51 [(.bp 5 0)]),some (.box 3 (((cInt .i64) (wr64 (a4-a3))).map .pl)),some (.box 26 [(.own 10)]),some (.row false 1 (r.1.map (cInt .i64))),some (.abox 57 [(.own 7),(jL 2 Qb.cells a6),(.own 8),(.own 9)] (a7.map Qm)),none,jR 4 Qa.cells a9,some (.row false 1 (a10.map (cInt .i64))),some (.row false 1 (r.2.1.map (cInt .i64))),jR 3 Qd.cells r.2.2]:=by
 unfold f25r2 at h;obtain ⟨o,ho,h⟩:=Qc h;cases o with
 | norm v38 v39 v40 =>
  obtain rfl:=Qf h;exact Qr.shared Qg (f:=Try.f25) (c:=c25) (by kernel_rfl) (by kernel_rfl) (by kernel_rfl) ((f25r2n0_ok a1 a2 a3 a4 a5 a6 a7 a8 a9 a10 a11 ho).mono fun r e=>by subst e; exact ⟨.inr rfl,by kernel_rfl,by kernel_rfl⟩)
end Go.Proofs.Ytinabbgjignkbaa
