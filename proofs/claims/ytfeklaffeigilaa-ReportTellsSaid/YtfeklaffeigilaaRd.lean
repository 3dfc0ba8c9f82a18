/- Several texts in one. No condition. -/
import Derived.Test.YtfeklaffeigilaaA2
import Derived.Test.YtfeklaffeigilaaTU
namespace Go.Proofs.Ytfeklaffeigilaa
set_option linter.unusedVariables false
set_option linter.unusedSimpArgs false
set_option maxRecDepth 100000
open Go.RowKit
noncomputable def c38:Code:=Try.f38.body.getD .skip
inductive f38n3O where
 | norm (v302:Bool)
def f38n3E(bd1:ByteArray)(bf2:Int)(be3:UInt8):f38n3O→Ex×Tr×Hp
 | .norm v302=>(.norm,mkS [(0,(jS bd1)),(3,(jI bf2)),(4,(.pl (.int .u8 (be3.toNat:Int)))),(5,(jB v302))],[])
def f38n3S(bd1:ByteArray)(bf2:Int)(be3:UInt8):Tr×Hp:=(mkS [(0,(jS bd1)),(3,(jI bf2)),(4,(.pl (.int .u8 (be3.toNat:Int))))],[])
noncomputable def f38n3(bd1:ByteArray)(bf2:Int)(be3:UInt8):Option f38n3O :=
 bif decide (97≤(be3.toNat:Int)) then
  bif decide ((be3.toNat:Int)≤122) then
   some (.norm true)
  else
   bif decide (65≤(be3.toNat:Int)) then
    some (.norm (decide ((be3.toNat:Int)≤90)))
   else
    some (.norm false)
 else
  bif decide (65≤(be3.toNat:Int)) then
   some (.norm (decide ((be3.toNat:Int)≤90)))
  else
   some (.norm false)
theorem f38n3_ok(bd1:ByteArray)(bf2:Int)(be3:UInt8){o:f38n3O}(h:f38n3 bd1 bf2 be3=some o):T Try.prog Try.f38.ntmps 0 (cL (Ql 1 (cL (cL (Ql 1 (cL (cL (Ql 1 (cL (Ql 2 c38)))))))))) (f38n3S bd1 bf2 be3) (·=f38n3E bd1 bf2 be3 o):=by
 unfold f38n3 at h;rcases Qf h with ⟨h298,h⟩|⟨h298,h⟩
 ·rcases Qf h with ⟨h299,h⟩|⟨h299,h⟩
  ·obtain rfl:=Qd h;exact rE Qg [(jT [3,4,7,8,9,12],[(5,.bool true),(13,.bool true)],[])] [] [] [] [0,3,4,5] (.norm,(f38n3E bd1 bf2 be3 (.norm true)).2) (ap3 h298 (ap h299 (ap4 h299 an))) rfl
  ·rcases Qf h with ⟨h300,h⟩|⟨h300,h⟩
   ·obtain rfl:=Qd h;exact rE Qg [(jF [7,8,9,12]++jT [3,4,10,11],[(5,.bool true),(12,.bool true),(13,.bool false)],[])] [] [] [] [0,3,4,5] (.norm,(f38n3E bd1 bf2 be3 (.norm (decide ((be3.toNat:Int)≤90)))).2) (ap3 h298 (ap3 h299 (ap2 h300 (ap h299 (ap h300 (ap h299 an)))))) rfl
   ·obtain rfl:=Qd h;exact rE Qg [(jF [7,8,9,10,11,12]++jT [3,4],[(5,.bool true),(12,.bool false),(13,.bool false)],[])] [] [] [] [0,3,4,5] (.norm,(f38n3E bd1 bf2 be3 (.norm false)).2) (ap3 h298 (ap3 h299 (ap2 h300 (ap h299 (ap h300 (ap h299 an)))))) rfl
 ·rcases Qf h with ⟨h301,h⟩|⟨h301,h⟩
  ·obtain rfl:=Qd h;exact rE Qg [(jF [3,4]++jT [10,11],[(5,.bool false),(12,.bool true)],[])] [] [] [] [0,3,4,5] (.norm,(f38n3E bd1 bf2 be3 (.norm (decide ((be3.toNat:Int)≤90)))).2) (ap3 h298 (ap3 h301 an)) rfl
  ·obtain rfl:=Qd h;exact rE Qg [(jF [3,4,10,11],[(5,.bool false),(12,.bool false)],[])] [] [] [] [0,3,4,5] (.norm,(f38n3E bd1 bf2 be3 (.norm false)).2) (ap3 h298 (ap3 h301 an)) rfl
inductive f38n4O where
 | norm (v318:Bool)
def f38n4E(bd1:ByteArray)(bf2:Int)(be3:UInt8)(bl4:Bool):f38n4O→Ex×Tr×Hp
 | .norm v318=>(.norm,mkS [(0,(jS bd1)),(3,(jI bf2)),(5,(jB bl4)),(6,(jB v318))],[])
def f38n4S(bd1:ByteArray)(bf2:Int)(be3:UInt8)(bl4:Bool):Tr×Hp:=(mkS [(0,(jS bd1)),(3,(jI bf2)),(4,(.pl (.int .u8 (be3.toNat:Int)))),(5,(jB bl4))],[])
noncomputable def f38n4(bd1:ByteArray)(bf2:Int)(be3:UInt8)(bl4:Bool):Option f38n4O :=
 bif decide (48≤(be3.toNat:Int)) then
  bif decide ((be3.toNat:Int)≤57) then
   some (.norm true)
  else
   bif decide ((be3.toNat:Int)=95) then
    some (.norm true)
   else
    some (.norm (decide ((be3.toNat:Int)=45)))
 else
  bif decide ((be3.toNat:Int)=95) then
   some (.norm true)
  else
   some (.norm (decide ((be3.toNat:Int)=45)))
theorem f38n4_ok(bd1:ByteArray)(bf2:Int)(be3:UInt8)(bl4:Bool){o:f38n4O}(h:f38n4 bd1 bf2 be3 bl4=some o):T Try.prog Try.f38.ntmps 0 (cL (Ql 0 (Ql 1 (Ql 1 (cL (cL (Ql 1 (cL (cL (Ql 1 (cL (Ql 2 c38)))))))))))) (f38n4S bd1 bf2 be3 bl4) (·=f38n4E bd1 bf2 be3 bl4 o):=by
 unfold f38n4 at h;rcases Qf h with ⟨h314,h⟩|⟨h314,h⟩
 ·rcases Qf h with ⟨h315,h⟩|⟨h315,h⟩
  ·obtain rfl:=Qd h;exact rE Qg [(jT [3,4,7,8],[(5,.bool true),(9,.bool true)],[])] [] [] [] [0,3,5,6] (.norm,(f38n4E bd1 bf2 be3 bl4 (.norm true)).2) (ap3 h314 (ap3 h315 an)) rfl
  ·rcases Qf h with ⟨h316,h⟩|⟨h316,h⟩
   ·obtain rfl:=Qd h;exact rE Qg [(jF [7,8]++jT [3,4,11,12],[(5,.bool true),(9,.bool false),(13,.bool true)],[])] [] [] [] [0,3,5,6] (.norm,(f38n4E bd1 bf2 be3 bl4 (.norm true)).2) (ap3 h314 (ap3 h315 (ap3 h316 an))) rfl
   ·obtain rfl:=Qd h;exact rE Qg [(jF [7,8,11,12]++jT [3,4],[(5,.bool true),(9,.bool false),(13,.bool false)],[])] [] [] [] [0,3,5,6] (.norm,(f38n4E bd1 bf2 be3 bl4 (.norm (decide ((be3.toNat:Int)=45)))).2) (ap3 h314 (ap3 h315 (ap3 h316 an))) rfl
 ·rcases Qf h with ⟨h317,h⟩|⟨h317,h⟩
  ·obtain rfl:=Qd h;exact rE Qg [(jF [3,4]++jT [11,12],[(5,.bool false),(13,.bool true)],[])] [] [] [] [0,3,5,6] (.norm,(f38n4E bd1 bf2 be3 bl4 (.norm true)).2) (ap3 h314 (ap3 h317 an)) rfl
  ·obtain rfl:=Qd h;exact rE Qg [(jF [3,4,11,12],[(5,.bool false),(13,.bool false)],[])] [] [] [] [0,3,5,6] (.norm,(f38n4E bd1 bf2 be3 bl4 (.norm (decide ((be3.toNat:Int)=45)))).2) (ap3 h314 (ap3 h317 an)) rfl
inductive f38n5O where
 | norm (v328:Bool)
def f38n5E(bd1:ByteArray)(bf2:Int)(bl3 bl4:Bool):f38n5O→Ex×Tr×Hp
 | .norm v328=>(.norm,mkS [(0,(jS bd1)),(3,(jI bf2)),(61,(jB v328))],[])
def f38n5S(bd1:ByteArray)(bf2:Int)(bl3 bl4:Bool):Tr×Hp:=(mkS [(0,(jS bd1)),(3,(jI bf2)),(5,(jB bl3)),(6,(jB bl4))],[])
noncomputable def f38n5(bd1:ByteArray)(bf2:Int)(bl3 bl4:Bool):Option f38n5O :=
 bif bl3 then
  some (.norm false)
 else
  bif bl4 then
   some (.norm (decide (bf2=0)))
  else
   some (.norm true)
theorem f38n5_ok(bd1:ByteArray)(bf2:Int)(bl3 bl4:Bool){o:f38n5O}(h:f38n5 bd1 bf2 bl3 bl4=some o):T Try.prog Try.f38.ntmps 0 (cL (Ql 0 (Ql 1 (Ql 0 (Ql 1 (Ql 1 (cL (cL (Ql 1 (cL (cL (Ql 1 (cL (Ql 2 c38)))))))))))))) (f38n5S bd1 bf2 bl3 bl4) (·=f38n5E bd1 bf2 bl3 bl4 o):=by
 unfold f38n5 at h;rcases Qf h with ⟨h326,h⟩|⟨h326,h⟩
 ·obtain rfl:=Qd h;exact rE Qg [(jF [3,4,5,8],[(9,.bool false)],[])] [] [] [] [0,3,61] (.norm,(f38n5E bd1 bf2 bl3 bl4 (.norm false)).2) (ap (Qp h326) (ap4 (Qp h326) an)) rfl
 ·rcases Qf h with ⟨h327,h⟩|⟨h327,h⟩
  ·obtain rfl:=Qd h;exact rE Qg [(jF [6,7]++jT [3,4,5,8],[(8,.bool false),(9,.bool true)],[])] [] [] [] [0,3,61] (.norm,(f38n5E bd1 bf2 bl3 bl4 (.norm (decide (bf2=0)))).2) (ap3 (Qw h326) (ap2 (Qp h327) (ap (Qw h326) (ap (Qp h327) (ap (Qw h326) an))))) rfl
  ·obtain rfl:=Qd h;exact rE Qg [(jT [3,4,5,6,7,8],[(8,.bool true),(9,.bool true)],[])] [] [] [] [0,3,61] (.norm,(f38n5E bd1 bf2 bl3 bl4 (.norm true)).2) (ap3 (Qw h326) (ap2 (Qw h327) (ap (Qw h326) (ap (Qw h327) (ap (Qw h326) an))))) rfl
inductive f38n2O where
 | norm
 | ret
def f38n2E(bd1:ByteArray)(bf2:Int):f38n2O→Ex×Tr×Hp
 | .norm=>(.norm,mkS [(0,(jS bd1)),(3,(jI bf2))],[])
 | .ret=>(.ret,mkS [(2,(jB false))],[])
def f38n2S(bd1:ByteArray)(bf2:Int):Tr×Hp:=(mkS [(0,(jS bd1)),(3,(jI bf2))],[])
noncomputable def f38n2(bd1:ByteArray)(bf2:Int):Option f38n2O :=
 (at? bd1.data.toList bf2).bind fun x288 =>
 (f38n3 bd1 bf2 x288).bind fun o303=>match o303 with
 | .norm v305=>(f38n4 bd1 bf2 x288 v305).bind fun o319=>match o319 with
  | .norm v321=>(f38n5 bd1 bf2 v305 v321).bind fun o329=>match o329 with
   | .norm v331=>bif v331 then
     some .ret
    else
     some .norm
theorem f38n2_ok(bd1:ByteArray)(bf2:Int){o:f38n2O}(h:f38n2 bd1 bf2=some o):T Try.prog Try.f38.ntmps 0 (cL (Ql 1 (cL (cL (Ql 1 (cL (Ql 2 c38))))))) (f38n2S bd1 bf2) (·=f38n2E bd1 bf2 o):=by
 unfold f38n2 at h;refine T.block' (i:=1) (by kernel_rfl) ?_;obtain ⟨x288,h289,h⟩:=Qe h;refine rN Qg 1 [([],[(2,.byte (Int.toNat bf2) x288)],[])] [] [] [] [0,3,4] (f38n3S bd1 bf2 x288) (ap (Qi h289).1 (ap (Qi h289).2 an)) ?_;obtain ⟨o303,h304,h⟩:=Qe h;cases o303 with
 | norm v305 =>
  refine T.oneN (by kernel_rfl) (f38n3_ok bd1 bf2 x288 h304) (st2:=(f38n3E bd1 bf2 x288 (.norm v305)).2) rfl ?_;refine rN Qg 0 [] [] [] [] [0,3,4,5] (f38n4S bd1 bf2 x288 v305) an ?_;obtain ⟨o319,h320,h⟩:=Qe h;cases o319 with
  | norm v321 =>
   refine T.oneN (by kernel_rfl) (f38n4_ok bd1 bf2 x288 v305 h320) (st2:=(f38n4E bd1 bf2 x288 v305 (.norm v321)).2) rfl ?_;refine rN Qg 0 [] [] [] [] [0,3,5,6] (f38n5S bd1 bf2 v305 v321) an ?_;obtain ⟨o329,h330,h⟩:=Qe h;cases o329 with
   | norm v331 =>
    refine T.oneN (by kernel_rfl) (f38n5_ok bd1 bf2 v305 v321 h330) (st2:=(f38n5E bd1 bf2 v305 v321 (.norm v331)).2) rfl ?_;rcases Qf h with ⟨h333,h⟩|⟨h333,h⟩
    ·obtain rfl:=Qd h;exact rE Qg [j3] [some true] [] [] [2] (.ret,(f38n2E bd1 bf2 .ret).2) (ap h333 an) rfl
    ·obtain rfl:=Qd h;exact rE Qg [] [some false] [] [] [0,3] (.norm,(f38n2E bd1 bf2 .norm).2) (ap h333 an) rfl
inductive f38n6O where
 | exit0
 | ret
def f38n6E(bd1:ByteArray):f38n6O→Ex×Tr×Hp
 | .exit0=>((.exit 0),mkS [],[])
 | .ret=>(.ret,mkS [(2,(jB false))],[])
def f38n6S(bd1:ByteArray)(v219:Int):Tr×Hp:=(mkS [(0,(jS bd1)),(3,(jI v219))],[])
noncomputable def f38n6:Nat→ByteArray→Int→Option f38n6O
 | 0,_,_=>none
 | f+1,bd1,v219 =>
  bif decide (v219<(bd1.size:Int)) then
   (f38n2 bd1 v219).bind fun o334=>match o334 with
   | .norm=>(f38n6 f bd1 (wr64 (v219+1)))
   | .ret=>some .ret
  else
   some .exit0
theorem f38n6_ok:∀(f:Nat)(bd1:ByteArray)(v219:Int){o:f38n6O},f38n6 f bd1 v219=some o→TL Try.prog Try.f38.ntmps 0 f (cL (cL (Ql 1 (cL (Ql 2 c38))))) (f38n6S bd1 v219) (·=f38n6E bd1 o)
 | 0,_,_,o,h=>by rw [f38n6] at h; cases h
 | f+1,bd1,v219,o,h=>by
  rw [f38n6] at h;refine TL.body (K:=fun s=>∃v219:Int,s=(f38n6S bd1 v219)∧f38n6 f bd1 v219=some o) ?_ (by rintro _ ⟨v219,rfl,hk⟩; exact f38n6_ok f _ _ hk);rcases Qf h with ⟨h221,h⟩|⟨h221,h⟩
  ·refine rN Qg 1 [j3] [some true] [] [] [0,3] (f38n2S bd1 v219) (ap h221 an) ?_;obtain ⟨o334,h335,h⟩:=Qe h;cases o334 with
   | norm =>
    refine T.oneN (by kernel_rfl) (f38n2_ok bd1 v219 h335) (st2:=(f38n2E bd1 v219 .norm).2) rfl ?_;exact rE Qg [j3] [] [] [] [0,3] (.norm,(f38n6S bd1 (wr64 (v219+1)))) an (Qs.norm ⟨(wr64 (v219+1)),rfl,h⟩)
   | ret =>
    obtain rfl:=Qd h;exact T.oneX' (by kernel_rfl) (f38n2_ok bd1 v219 h335) (tds:=[]) (m:=[]) (keep:=[2]) (st2:=(f38n6E bd1 .ret).2) (by kernel_rfl) an rfl (Qs.out rfl rfl)
  ·obtain rfl:=Qd h;exact rK Qg 1 [j3] [some false] [] [] [] (.exit 0) ((f38n6E bd1 .exit0).2) (ap h221 an) (Qs.out rfl rfl)
inductive f38n1O where
 | norm
 | ret
def f38n1E(bd1:ByteArray):f38n1O→Ex×Tr×Hp
 | .norm=>(.norm,mkS [],[])
 | .ret=>(.ret,mkS [(2,(jB false))],[])
def f38n1S(bd1:ByteArray):Tr×Hp:=(mkS [(0,(jS bd1))],[])
noncomputable def f38n1(bd1:ByteArray):Option f38n1O :=
 (f38n6 FUEL bd1 0).bind fun o336=>match o336 with
 | .exit0=>some .norm
 | .ret=>some .ret
theorem f38n1_ok(bd1:ByteArray){o:f38n1O}(h:f38n1 bd1=some o):T Try.prog Try.f38.ntmps 0 (cL (Ql 2 c38)) (f38n1S bd1) (·=f38n1E bd1 o):=by
 unfold f38n1 at h;refine rN Qg 1 [j3] [] [] [] [0,3] (f38n6S bd1 0) an ?_;obtain ⟨o336,h337,h⟩:=Qe h;cases o336 with
 | exit0 =>
  obtain rfl:=Qd h;exact T.last' (T.bl (i:=0) (by kernel_rfl) (by kernel_rfl) (f38n6_ok FUEL bd1 0 h337)) (tds:=[]) (m:=[]) (keep:=[]) (st2:=(f38n1E bd1 .norm).2) (by kernel_rfl) an rfl
 | ret =>
  obtain rfl:=Qd h;exact T.last' (T.bl (i:=0) (by kernel_rfl) (by kernel_rfl) (f38n6_ok FUEL bd1 0 h337)) (tds:=[]) (m:=[]) (keep:=[2]) (st2:=(f38n1E bd1 .ret).2) (by kernel_rfl) an rfl
inductive f38n0O where
 | ret (v340:Bool)
def f38n0E(a1:ByteArray):f38n0O→Ex×Tr×Hp
 | .ret v340=>(.ret,mkS [(2,(jB v340))],[])
def f38n0S(a1:ByteArray):Tr×Hp:=(Qad [(jS a1)] 0 .leaf,[])
noncomputable def f38n0(a1:ByteArray):Option f38n0O :=
 bif decide ((a1.size:Int)<1) then
  some (.ret false)
 else
  bif decide (40<(a1.size:Int)) then
   some (.ret false)
  else
   (f38n1 a1).bind fun o338=>match o338 with
   | .norm=>some (.ret true)
   | .ret=>some (.ret false)
theorem f38n0_ok(a1:ByteArray){o:f38n0O}(h:f38n0 a1=some o):T Try.prog Try.f38.ntmps 0 c38 (f38n0S a1) (·=f38n0E a1 o):=by
 unfold f38n0 at h;rcases Qf h with ⟨h4,h⟩|⟨h4,h⟩
 ·obtain rfl:=Qd h;exact rK Qg 2 [j3,(jT [4,5,6],[(7,.bool true)],[]),j3] [none] [] [] [2] .ret ((f38n0E a1 (.ret false)).2) (ap4 h4 an) rfl
 ·rcases Qf h with ⟨h5,h⟩|⟨h5,h⟩
  ·obtain rfl:=Qd h;exact rK Qg 2 [j3,(jF [4,5,6],[(7,.bool false)],[]),j3] [some true] [] [] [2] .ret ((f38n0E a1 (.ret false)).2) (ap4 h4 (ap h5 an)) rfl
  ·refine rN Qg 2 [j3,(jF [4,5,6],[(7,.bool false)],[])] [some false] [] [] [0] (f38n1S a1) (ap4 h4 (ap h5 an)) ?_;obtain ⟨o338,h339,h⟩:=Qe h;cases o338 with
   | norm =>
    refine T.oneN (by kernel_rfl) (f38n1_ok a1 h339) (st2:=(f38n1E a1 .norm).2) rfl ?_;obtain rfl:=Qd h;exact rE Qg [j3] [] [] [] [2] (.ret,(f38n0E a1 (.ret true)).2) an rfl
   | ret =>
    obtain rfl:=Qd h;exact T.oneX' (by kernel_rfl) (f38n1_ok a1 h339) (tds:=[]) (m:=[]) (keep:=[2]) (st2:=(f38n0E a1 (.ret false)).2) (by kernel_rfl) an rfl rfl
noncomputable def f38(a1:ByteArray):Option Bool:=(f38n0 a1).bind fun o=>match o with
 | .ret v340=>some v340
theorem f38_ok(a1:ByteArray){r:Bool}(h:f38 a1=some r):Qo Try.prog false 38 [(jS a1)] [] (jB r) []:=by
 unfold f38 at h;obtain ⟨o,ho,h⟩:=Qe h;cases o with
 | ret v340 =>
  obtain rfl:=Qd h;exact Qo.plain Qg (f:=Try.f38) (c:=c38) (by kernel_rfl) (by kernel_rfl) (by kernel_rfl) (by kernel_rfl) ((f38n0_ok a1 ho).mono fun r e=>by subst e; exact ⟨.inl rfl,(jB v340),(jB v340),by kernel_rfl,by kernel_rfl,((Wk.refl _):Wk (jB v340) (jB v340))⟩)

noncomputable def c25:Code:=Try.f25.body.getD .skip
inductive f25n2O where
 | exit0
 | ret
def f25n2E(bc1:Qa):f25n2O→Ex×Tr×Hp
 | .exit0=>((.exit 0),mkS [(1,(.bp 0 0))],[some (.box ((Qa.cells bc1).map .pl))])
 | .ret=>(.ret,mkS [(2,(jB false))],[])
def f25n2S(bc1:Qa)(v33:Int):Tr×Hp:=(mkS [(1,(.bp 0 0)),(3,(jI v33))],[some (.box ((Qa.cells bc1).map .pl))])
noncomputable def f25n2:Nat→Qa→Int→Option f25n2O
 | 0,_,_=>none
 | f+1,bc1,v33 =>
  bif decide (v33<(bc1.Text.size:Int)) then
   (at? bc1.Text.data.toList v33).bind fun x40 =>
   bif decide ((x40.toNat:Int)<32) then
    some .ret
   else
    bif decide (126<(x40.toNat:Int)) then
     some .ret
    else
     (f25n2 f bc1 (wr64 (v33+1)))
  else
   some .exit0
theorem f25n2_ok:∀(f:Nat)(bc1:Qa)(v33:Int){o:f25n2O},f25n2 f bc1 v33=some o→TL Try.prog Try.f25.ntmps 0 f (cL (cL (Ql 1 (cL (Ql 0 (Ql 2 c25)))))) (f25n2S bc1 v33) (·=f25n2E bc1 o)
 | 0,_,_,o,h=>by rw [f25n2] at h; cases h
 | f+1,bc1,v33,o,h=>by
  rw [f25n2] at h;refine TL.body (K:=fun s=>∃v33:Int,s=(f25n2S bc1 v33)∧f25n2 f bc1 v33=some o) ?_ (by rintro _ ⟨v33,rfl,hk⟩; exact f25n2_ok f _ _ hk);rcases Qf h with ⟨h35,h⟩|⟨h35,h⟩
  ·obtain ⟨x40,h41,h⟩:=Qe h;rcases Qf h with ⟨h42,h⟩|⟨h42,h⟩
   ·obtain rfl:=Qd h;exact rK Qg 2 [j3,(jT [6,7,8,9,10],[(3,.byte (Int.toNat v33) x40),(11,.bool true)],[]),j3] [some true,none] [] [] [2] .ret ((f25n2E bc1 .ret).2) (ap h35 (ap (Qi h41).1 (ap (Qi h41).2 (ap2 h42 (ap4 h42 an))))) (Qs.out rfl rfl)
   ·rcases Qf h with ⟨h43,h⟩|⟨h43,h⟩
    ·obtain rfl:=Qd h;exact rK Qg 2 [j3,(jF [6,7,8,9,10],[(3,.byte (Int.toNat v33) x40),(9,.byte (Int.toNat v33) x40),(11,.bool false)],[]),j3] [some true,some true] [] [] [2] .ret ((f25n2E bc1 .ret).2) (ap h35 (ap (Qi h41).1 (ap (Qi h41).2 (ap4 h42 (ap (Qi h41).1 (ap (Qi h41).2 (ap2 h42 (ap h43 an)))))))) (Qs.out rfl rfl)
    ·exact rE Qg [j3,(jF [6,7,8,9,10],[(3,.byte (Int.toNat v33) x40),(9,.byte (Int.toNat v33) x40),(11,.bool false)],[]),j3] [some true,some false] [] [0] [1,3] (.norm,(f25n2S bc1 (wr64 (v33+1)))) (ap h35 (ap (Qi h41).1 (ap (Qi h41).2 (ap4 h42 (ap (Qi h41).1 (ap (Qi h41).2 (ap2 h42 (ap h43 an)))))))) (Qs.norm ⟨(wr64 (v33+1)),rfl,h⟩)
  ·obtain rfl:=Qd h;exact rK Qg 1 [j3] [some false] [] [0] [1] (.exit 0) ((f25n2E bc1 .exit0).2) (ap h35 an) (Qs.out rfl rfl)
noncomputable def f25n2L(bc1:Qa):List UInt8→Int→Option f25n2O
 | [],v33 =>
  some .exit0
 | x0::rest,v33 =>
  bif decide ((x0.toNat:Int)<32) then
   some .ret
  else
   bif decide (126<(x0.toNat:Int)) then
    some .ret
   else
    (f25n2L bc1 rest (v33+1))
theorem f25n2L_eq(bc1:Qa):∀(rest:List UInt8)(f k:Nat),bc1.Text.data.toList.drop k=rest→bc1.Text.data.toList.length≤maxLen→rest.length<f→f25n2 f bc1 (k:Int)=f25n2L bc1 rest (k:Int)
 | _,0,_,_,_,hf=>absurd hf (Nat.not_lt_zero _)
 | [],f+1,k,hd,hm,hf=>by
  have hk:¬((k:Int)<(bc1.Text.data.toList.length:Int)):=by have:=Qab hd; omega
  rw [f25n2,f25n2L];simp only [size_list,decide_eq_false hk,cond_false]
 | x0::rest,f+1,k,hd,hm,hf=>by
  obtain ⟨hx,hlt,hd'⟩:=Qah hd;have hk:(k:Int)<(bc1.Text.data.toList.length:Int):=by omega
  have hw:wr64 ((k:Int)+1)=(k:Int)+1:=Qbi (by omega) (by unfold maxLen at hm; omega);have ih:f25n2 f bc1 ((k:Int)+1)=f25n2L bc1 rest ((k:Int)+1):=f25n2L_eq bc1 rest f (k+1) hd' hm (by simpa using hf);rw [f25n2,f25n2L];simp only [size_list,decide_eq_true hk,cond_true,Qbt,hx,Option.bind_some,hw,ih]
theorem f25n2_run(bc1:Qa)(hm:bc1.Text.data.toList.length≤maxLen):f25n2 FUEL bc1 0=f25n2L bc1 bc1.Text.data.toList 0:=f25n2L_eq bc1 bc1.Text.data.toList FUEL 0 List.drop_zero hm (Qbe hm)
inductive f25n1O where
 | norm
 | ret
def f25n1E(bc1:Qa):f25n1O→Ex×Tr×Hp
 | .norm=>(.norm,mkS [(1,(.bp 0 0))],[some (.box ((Qa.cells bc1).map .pl))])
 | .ret=>(.ret,mkS [(2,(jB false))],[])
def f25n1S(bc1:Qa):Tr×Hp:=(mkS [(1,(.bp 0 0))],[some (.box ((Qa.cells bc1).map .pl))])
noncomputable def f25n1(bc1:Qa):Option f25n1O :=
 (f25n2 FUEL bc1 0).bind fun o44=>match o44 with
 | .exit0=>some .norm
 | .ret=>some .ret
theorem f25n1_ok(bc1:Qa){o:f25n1O}(h:f25n1 bc1=some o):T Try.prog Try.f25.ntmps 0 (cL (Ql 0 (Ql 2 c25))) (f25n1S bc1) (·=f25n1E bc1 o):=by
 unfold f25n1 at h;refine rN Qg 1 [j3] [] [] [0] [1,3] (f25n2S bc1 0) an ?_;obtain ⟨o44,h45,h⟩:=Qe h;cases o44 with
 | exit0 =>
  obtain rfl:=Qd h;exact T.last' (T.bl (i:=0) (by kernel_rfl) (by kernel_rfl) (f25n2_ok FUEL bc1 0 h45)) (tds:=[]) (m:=[0]) (keep:=[1]) (st2:=(f25n1E bc1 .norm).2) (by kernel_rfl) an rfl
 | ret =>
  obtain rfl:=Qd h;exact T.last' (T.bl (i:=0) (by kernel_rfl) (by kernel_rfl) (f25n2_ok FUEL bc1 0 h45)) (tds:=[]) (m:=[]) (keep:=[2]) (st2:=(f25n1E bc1 .ret).2) (by kernel_rfl) an rfl
inductive f25n4O where
 | exit2
 | ret
def f25n4E(bc1:Qa):f25n4O→Ex×Tr×Hp
 | .exit2=>((.exit 2),mkS [],[])
 | .ret=>(.ret,mkS [(2,(jB false))],[])
def f25n4S(bc1:Qa)(v97:Int):Tr×Hp:=(mkS [(1,(.bp 0 0)),(4,(jI v97))],[some (.box ((Qa.cells bc1).map .pl))])
noncomputable def f25n4:Nat→Qa→Int→Option f25n4O
 | 0,_,_=>none
 | f+1,bc1,v97 =>
  bif decide (v97<(bc1.Lines.length:Int)) then
   (at? bc1.Lines v97).bind fun x111 =>
   (f38 x111.Account).bind fun x113 =>
   bif x113 then
    (f38 x111.Ccy).bind fun x116 =>
    bif x116 then
     bif decide (x111.Amount=0) then
      some .ret
     else
      bif decide (x111.Amount<(-1125899906842624)) then
       some .ret
      else
       bif decide (1125899906842624<x111.Amount) then
        some .ret
       else
        (f25n4 f bc1 (wr64 (v97+1)))
    else
     some .ret
   else
    some .ret
  else
   some .exit2
theorem f25n4_ok:∀(f:Nat)(bc1:Qa)(v97:Int){o:f25n4O},f25n4 f bc1 v97=some o→TL Try.prog Try.f25.ntmps 0 f (cL (cL (Ql 1 (cL (Ql 0 (Ql 1 (Ql 0 (Ql 2 c25)))))))) (f25n4S bc1 v97) (·=f25n4E bc1 o)
 | 0,_,_,o,h=>by rw [f25n4] at h; cases h
 | f+1,bc1,v97,o,h=>by
  rw [f25n4] at h;refine TL.body (K:=fun s=>∃v97:Int,s=(f25n4S bc1 v97)∧f25n4 f bc1 v97=some o) ?_ (by rintro _ ⟨v97,rfl,hk⟩; exact f25n4_ok f _ _ hk);rcases Qf h with ⟨h99,h⟩|⟨h99,h⟩
  ·obtain ⟨x111,h112,h⟩:=Qe h;obtain ⟨x113,h114,h⟩:=Qe h;rcases Qf h with ⟨h115,h⟩|⟨h115,h⟩
   ·obtain ⟨x116,h117,h⟩:=Qe h;rcases Qf h with ⟨h118,h⟩|⟨h118,h⟩
    ·rcases Qf h with ⟨h119,h⟩|⟨h119,h⟩
     ·obtain rfl:=Qd h;exact rK Qg 2 [([],[],[(3,.val (jI (bc1.Lines.length:Int)))]),([],[(3,.idx (Int.toNat v97) (Qc.cells x111))],[]),(jF [5,6,7,8,11,12,13]++jT [16,17,18],[jH 2 (jB x113),jH 7 (jB x116),(9,.bool false),(14,.bool false),(19,.bool true)],[]),j3] [some true,none] [] [] [2] .ret ((f25n4E bc1 .ret).2) (ap (Qr (xs:=bc1.Lines) (c:=Qc.cells)) (ap h99 (ap (Qi h112).1 (ap (Qq Qc.cells (Qi h112).2) (ap (Qp h115) (ap4 (Qp h115) (ap4 (Qp h118) (ap4 h119 (ap (f38_ok x111.Account h114) (ap (f38_ok x111.Ccy h117) an)))))))))) (Qs.out rfl rfl)
     ·rcases Qf h with ⟨h120,h⟩|⟨h120,h⟩
      ·obtain rfl:=Qd h;exact rK Qg 2 [([],[],[(3,.val (jI (bc1.Lines.length:Int)))]),([],[(3,.idx (Int.toNat v97) (Qc.cells x111))],[]),(jF [5,6,7,8,11,12,13,16,17,18]++jT [21,22,23],[jH 2 (jB x113),jH 7 (jB x116),(9,.bool false),(14,.bool false),(19,.bool false),(24,.bool true)],[]),j3] [some true,none] [] [] [2] .ret ((f25n4E bc1 .ret).2) (ap (Qr (xs:=bc1.Lines) (c:=Qc.cells)) (ap h99 (ap (Qi h112).1 (ap (Qq Qc.cells (Qi h112).2) (ap (Qp h115) (ap4 (Qp h115) (ap4 (Qp h118) (ap4 h119 (ap4 h120 (ap (f38_ok x111.Account h114) (ap (f38_ok x111.Ccy h117) an))))))))))) (Qs.out rfl rfl)
      ·rcases Qf h with ⟨h121,h⟩|⟨h121,h⟩
       ·obtain rfl:=Qd h;exact rK Qg 2 [([],[],[(3,.val (jI (bc1.Lines.length:Int)))]),([],[(3,.idx (Int.toNat v97) (Qc.cells x111))],[]),(jF [5,6,7,8,11,12,13,16,17,18,21,22,23],[jH 2 (jB x113),jH 7 (jB x116),(9,.bool false),(14,.bool false),(19,.bool false),(24,.bool false)],[]),j3] [some true,some true] [] [] [2] .ret ((f25n4E bc1 .ret).2) (ap (Qr (xs:=bc1.Lines) (c:=Qc.cells)) (ap h99 (ap (Qi h112).1 (ap (Qq Qc.cells (Qi h112).2) (ap (Qp h115) (ap4 (Qp h115) (ap4 (Qp h118) (ap4 h119 (ap4 h120 (ap (f38_ok x111.Account h114) (ap (f38_ok x111.Ccy h117) (ap h121 an)))))))))))) (Qs.out rfl rfl)
       ·exact rE Qg [([],[],[(3,.val (jI (bc1.Lines.length:Int)))]),([],[(3,.idx (Int.toNat v97) (Qc.cells x111))],[]),(jF [5,6,7,8,11,12,13,16,17,18,21,22,23],[jH 2 (jB x113),jH 7 (jB x116),(9,.bool false),(14,.bool false),(19,.bool false),(24,.bool false)],[]),j3] [some true,some false] [] [0] [1,4] (.norm,(f25n4S bc1 (wr64 (v97+1)))) (ap (Qr (xs:=bc1.Lines) (c:=Qc.cells)) (ap h99 (ap (Qi h112).1 (ap (Qq Qc.cells (Qi h112).2) (ap (Qp h115) (ap4 (Qp h115) (ap4 (Qp h118) (ap4 h119 (ap4 h120 (ap (f38_ok x111.Account h114) (ap (f38_ok x111.Ccy h117) (ap h121 an)))))))))))) (Qs.norm ⟨(wr64 (v97+1)),rfl,h⟩)
    ·obtain rfl:=Qd h;exact rK Qg 2 [([],[],[(3,.val (jI (bc1.Lines.length:Int)))]),([],[(3,.idx (Int.toNat v97) (Qc.cells x111))],[]),(jF [5,6,7,8]++jT [11,12,13],[jH 2 (jB x113),jH 7 (jB x116),(9,.bool false),(14,.bool true)],[]),j3] [some true,none] [] [] [2] .ret ((f25n4E bc1 .ret).2) (ap (Qr (xs:=bc1.Lines) (c:=Qc.cells)) (ap h99 (ap (Qi h112).1 (ap (Qq Qc.cells (Qi h112).2) (ap (Qp h115) (ap4 (Qp h115) (ap4 (Qw h118) (ap (f38_ok x111.Account h114) (ap (f38_ok x111.Ccy h117) an))))))))) (Qs.out rfl rfl)
   ·obtain rfl:=Qd h;exact rK Qg 2 [([],[],[(3,.val (jI (bc1.Lines.length:Int)))]),([],[(3,.idx (Int.toNat v97) (Qc.cells x111))],[]),(jT [5,6,7,8],[jH 2 (jB x113),(9,.bool true)],[]),j3] [some true,none] [] [] [2] .ret ((f25n4E bc1 .ret).2) (ap (Qr (xs:=bc1.Lines) (c:=Qc.cells)) (ap h99 (ap (Qi h112).1 (ap (Qq Qc.cells (Qi h112).2) (ap (Qw h115) (ap4 (Qw h115) (ap (f38_ok x111.Account h114) an))))))) (Qs.out rfl rfl)
  ·obtain rfl:=Qd h;exact rK Qg 1 [([],[],[(3,.val (jI (bc1.Lines.length:Int)))])] [some false] [] [] [] (.exit 2) ((f25n4E bc1 .exit2).2) (ap (Qr (xs:=bc1.Lines) (c:=Qc.cells)) (ap h99 an)) (Qs.out rfl rfl)
noncomputable def f25n4L(bc1:Qa):List Qc→Int→Option f25n4O
 | [],v97 =>
  some .exit2
 | x0::rest,v97 =>
  (f38 x0.Account).bind fun x113 =>
  bif x113 then
   (f38 x0.Ccy).bind fun x116 =>
   bif x116 then
    bif decide (x0.Amount=0) then
     some .ret
    else
     bif decide (x0.Amount<(-1125899906842624)) then
      some .ret
     else
      bif decide (1125899906842624<x0.Amount) then
       some .ret
      else
       (f25n4L bc1 rest (v97+1))
   else
    some .ret
  else
   some .ret
theorem f25n4L_eq(bc1:Qa):∀(rest:List Qc)(f k:Nat),bc1.Lines.drop k=rest→bc1.Lines.length≤maxLen→rest.length<f→f25n4 f bc1 (k:Int)=f25n4L bc1 rest (k:Int)
 | _,0,_,_,_,hf=>absurd hf (Nat.not_lt_zero _)
 | [],f+1,k,hd,hm,hf=>by
  have hk:¬((k:Int)<(bc1.Lines.length:Int)):=by have:=Qab hd; omega
  rw [f25n4,f25n4L];simp only [decide_eq_false hk,cond_false]
 | x0::rest,f+1,k,hd,hm,hf=>by
  obtain ⟨hx,hlt,hd'⟩:=Qah hd;have hk:(k:Int)<(bc1.Lines.length:Int):=by omega
  have hw:wr64 ((k:Int)+1)=(k:Int)+1:=Qbi (by omega) (by unfold maxLen at hm; omega);have ih:f25n4 f bc1 ((k:Int)+1)=f25n4L bc1 rest ((k:Int)+1):=f25n4L_eq bc1 rest f (k+1) hd' hm (by simpa using hf);rw [f25n4,f25n4L];simp only [decide_eq_true hk,cond_true,Qbt,hx,Option.bind_some,hw,ih]
theorem f25n4_run(bc1:Qa)(hm:bc1.Lines.length≤maxLen):f25n4 FUEL bc1 0=f25n4L bc1 bc1.Lines 0:=f25n4L_eq bc1 bc1.Lines FUEL 0 List.drop_zero hm (Qbe hm)
inductive f25n3O where
 | norm
 | ret
def f25n3E(bc1:Qa):f25n3O→Ex×Tr×Hp
 | .norm=>(.norm,mkS [],[])
 | .ret=>(.ret,mkS [(2,(jB false))],[])
def f25n3S(bc1:Qa):Tr×Hp:=(mkS [(1,(.bp 0 0))],[some (.box ((Qa.cells bc1).map .pl))])
noncomputable def f25n3(bc1:Qa):Option f25n3O :=
 (f25n4 FUEL bc1 0).bind fun o122=>match o122 with
 | .exit2=>some .norm
 | .ret=>some .ret
theorem f25n3_ok(bc1:Qa){o:f25n3O}(h:f25n3 bc1=some o):T Try.prog Try.f25.ntmps 0 (cL (Ql 0 (Ql 1 (Ql 0 (Ql 2 c25))))) (f25n3S bc1) (·=f25n3E bc1 o):=by
 unfold f25n3 at h;refine rN Qg 1 [j3] [] [] [0] [1,4] (f25n4S bc1 0) an ?_;obtain ⟨o122,h123,h⟩:=Qe h;cases o122 with
 | exit2 =>
  obtain rfl:=Qd h;exact T.last' (T.bl (i:=2) (by kernel_rfl) (by kernel_rfl) (f25n4_ok FUEL bc1 0 h123)) (tds:=[]) (m:=[]) (keep:=[]) (st2:=(f25n3E bc1 .norm).2) (by kernel_rfl) an rfl
 | ret =>
  obtain rfl:=Qd h;exact T.last' (T.bl (i:=2) (by kernel_rfl) (by kernel_rfl) (f25n4_ok FUEL bc1 0 h123)) (tds:=[]) (m:=[]) (keep:=[2]) (st2:=(f25n3E bc1 .ret).2) (by kernel_rfl) an rfl
inductive f25n0O where
 | ret (v126:Bool)
def f25n0E(a1:Qa):f25n0O→Ex×Tr×Hp
 | .ret v126=>(.ret,mkS [(2,(jB v126))],[])
def f25n0S(a1:Qa):Tr×Hp:=(Qad [(jA Qa.cells a1)] 0 .leaf,[])
noncomputable def f25n0(a1:Qa):Option f25n0O :=
 bif decide (a1.Day<0) then
  some (.ret false)
 else
  bif decide (99999<a1.Day) then
   some (.ret false)
  else
   bif decide (100<(a1.Text.size:Int)) then
    some (.ret false)
   else
    bif decide ((a1.Lines.length:Int)<2) then
     some (.ret false)
    else
     bif decide (20<(a1.Lines.length:Int)) then
      some (.ret false)
     else
      (f25n1 a1).bind fun o46=>match o46 with
      | .norm=>(f25n3 a1).bind fun o124=>match o124 with
       | .norm=>some (.ret true)
       | .ret=>some (.ret false)
      | .ret=>some (.ret false)
theorem f25n0_ok(a1:Qa){o:f25n0O}(h:f25n0 a1=some o):T Try.prog Try.f25.ntmps 0 c25 (f25n0S a1) (·=f25n0E a1 o):=by
 unfold f25n0 at h;rcases Qf h with ⟨h7,h⟩|⟨h7,h⟩
 ·obtain rfl:=Qd h;exact rK Qg 2 [j3,(jT [4,5,6],[(7,.bool true)],[]),j3] [none] [] [] [2] .ret ((f25n0E a1 (.ret false)).2) (ap4 h7 an) rfl
 ·rcases Qf h with ⟨h8,h⟩|⟨h8,h⟩
  ·obtain rfl:=Qd h;exact rK Qg 2 [j3,(jF [4,5,6]++jT [9,10,11,12],[(7,.bool false),(13,.bool true)],[]),j3] [none] [] [] [2] .ret ((f25n0E a1 (.ret false)).2) (ap4 h7 (ap h8 (ap4 h8 an))) rfl
  ·rcases Qf h with ⟨h9,h⟩|⟨h9,h⟩
   ·obtain rfl:=Qd h;exact rK Qg 2 [j3,(jF [4,5,6,9,10,11,12]++jT [15,16,17,18],[(7,.bool false),(13,.bool false),(19,.bool true)],[]),j3] [none] [] [] [2] .ret ((f25n0E a1 (.ret false)).2) (ap4 h7 (ap h8 (ap4 h8 (ap h9 (ap4 h9 an))))) rfl
   ·rcases Qf h with ⟨h10,h⟩|⟨h10,h⟩
    ·obtain rfl:=Qd h;exact rK Qg 2 [j3,(jF [4,5,6,9,10,11,12,15,16,17,18]++jT [21,22,23,24],[(7,.bool false),(13,.bool false),(19,.bool false),(25,.bool true)],[(17,.val (jI (a1.Lines.length:Int)))]),j3] [none] [] [] [2] .ret ((f25n0E a1 (.ret false)).2) (ap4 h7 (ap h8 (ap4 h8 (ap3 h9 (ap (Qr (xs:=a1.Lines) (c:=Qc.cells)) (ap2 h9 (ap h10 (ap4 h10 an)))))))) rfl
    ·rcases Qf h with ⟨h11,h⟩|⟨h11,h⟩
     ·obtain rfl:=Qd h;exact rK Qg 2 [j3,(jF [4,5,6,9,10,11,12,15,16,17,18,21,22,23,24],[(7,.bool false),(13,.bool false),(19,.bool false),(25,.bool false)],[(17,.val (jI (a1.Lines.length:Int))),(23,.val (jI (a1.Lines.length:Int)))]),j3] [some true] [] [] [2] .ret ((f25n0E a1 (.ret false)).2) (ap4 h7 (ap h8 (ap4 h8 (ap3 h9 (ap (Qr (xs:=a1.Lines) (c:=Qc.cells)) (ap2 h9 (ap3 h10 (ap (Qr (xs:=a1.Lines) (c:=Qc.cells)) (ap2 h10 (ap h11 an)))))))))) rfl
     ·refine rN Qg 2 [j3,(jF [4,5,6,9,10,11,12,15,16,17,18,21,22,23,24],[(7,.bool false),(13,.bool false),(19,.bool false),(25,.bool false)],[(17,.val (jI (a1.Lines.length:Int))),(23,.val (jI (a1.Lines.length:Int)))])] [some false] [] [0] [1] (mkS [(1,(.bp 0 0))],[some (.box ((Qa.cells a1).map .pl))]) (ap4 h7 (ap h8 (ap4 h8 (ap3 h9 (ap (Qr (xs:=a1.Lines) (c:=Qc.cells)) (ap2 h9 (ap3 h10 (ap (Qr (xs:=a1.Lines) (c:=Qc.cells)) (ap2 h10 (ap h11 an)))))))))) ?_;refine rN Qg 0 [] [] [] [0] [1] (f25n1S a1) an ?_;obtain ⟨o46,h47,h⟩:=Qe h;cases o46 with
      | norm =>
       refine T.oneN (by kernel_rfl) (f25n1_ok a1 h47) (st2:=(f25n1E a1 .norm).2) rfl ?_;refine rN Qg 0 [] [] [] [0] [1] (f25n3S a1) an ?_;obtain ⟨o124,h125,h⟩:=Qe h;cases o124 with
       | norm =>
        refine T.oneN (by kernel_rfl) (f25n3_ok a1 h125) (st2:=(f25n3E a1 .norm).2) rfl ?_;obtain rfl:=Qd h;exact rE Qg [j3] [] [] [] [2] (.ret,(f25n0E a1 (.ret true)).2) an rfl
       | ret =>
        obtain rfl:=Qd h;exact T.oneX' (by kernel_rfl) (f25n3_ok a1 h125) (tds:=[]) (m:=[]) (keep:=[2]) (st2:=(f25n0E a1 (.ret false)).2) (by kernel_rfl) an rfl rfl
      | ret =>
       obtain rfl:=Qd h;exact T.oneX' (by kernel_rfl) (f25n1_ok a1 h47) (tds:=[]) (m:=[]) (keep:=[2]) (st2:=(f25n0E a1 (.ret false)).2) (by kernel_rfl) an rfl rfl
noncomputable def f25(a1:Qa):Option Bool:=(f25n0 a1).bind fun o=>match o with
 | .ret v126=>some v126
theorem f25_ok(a1:Qa){r:Bool}(h:f25 a1=some r):Qo Try.prog false 25 [(jA Qa.cells a1)] [] (jB r) []:=by
 unfold f25 at h;obtain ⟨o,ho,h⟩:=Qe h;cases o with
 | ret v126 =>
  obtain rfl:=Qd h;exact Qo.plain Qg (f:=Try.f25) (c:=c25) (by kernel_rfl) (by kernel_rfl) (by kernel_rfl) (by kernel_rfl) ((f25n0_ok a1 ho).mono fun r e=>by subst e; exact ⟨.inl rfl,(jB v126),(jB v126),by kernel_rfl,by kernel_rfl,((Wk.refl _):Wk (jB v126) (jB v126))⟩)

noncomputable def c26:Code:=Try.f26.body.getD .skip
inductive f26n4O where
 | exit2 (v150:Int)
def f26n4E(bf1:Int)(bc2:Qa):f26n4O→Ex×Tr×Hp
 | .exit2 v150=>((.exit 2),mkS [(1,(.bp 0 0)),(3,(jI bf1)),(4,(jI v150))],[some (.box ((Qa.cells bc2).map .pl))])
def f26n4S(bf1:Int)(bc2:Qa)(v136 v137:Int):Tr×Hp:=(mkS [(1,(.bp 0 0)),(3,(jI bf1)),(4,(jI v136)),(5,(jI v137))],[some (.box ((Qa.cells bc2).map .pl))])
noncomputable def f26n4:Nat→Int→Qa→Int→Int→Option f26n4O
 | 0,_,_,_,_=>none
 | f+1,bf1,bc2,v136,v137 =>
  bif decide (v137<(bc2.Lines.length:Int)) then
   (at? bc2.Lines v137).bind fun x145 =>
   (at? bc2.Lines bf1).bind fun x147 =>
   bif (seq x145.Ccy x147.Ccy) then
    (f26n4 f bf1 bc2 (wr64 (v136+x145.Amount)) (wr64 (v137+1)))
   else
    (f26n4 f bf1 bc2 v136 (wr64 (v137+1)))
  else
   some (.exit2 v136)
theorem f26n4_ok:∀(f:Nat)(bf1:Int)(bc2:Qa)(v136 v137:Int){o:f26n4O},f26n4 f bf1 bc2 v136 v137=some o→TL Try.prog Try.f26.ntmps 0 f (cL (cL (Ql 1 (cL (Ql 1 (cL (cL (Ql 1 (cL (cL (Ql 1 (cL (Ql 1 c26))))))))))))) (f26n4S bf1 bc2 v136 v137) (·=f26n4E bf1 bc2 o)
 | 0,_,_,_,_,o,h=>by rw [f26n4] at h; cases h
 | f+1,bf1,bc2,v136,v137,o,h=>by
  rw [f26n4] at h;refine TL.body (K:=fun s=>∃v136:Int,∃v137:Int,s=(f26n4S bf1 bc2 v136 v137)∧f26n4 f bf1 bc2 v136 v137=some o) ?_ (by rintro _ ⟨v136,v137,rfl,hk⟩; exact f26n4_ok f _ _ _ _ hk);rcases Qf h with ⟨h139,h⟩|⟨h139,h⟩
  ·obtain ⟨x145,h146,h⟩:=Qe h;obtain ⟨x147,h148,h⟩:=Qe h;rcases Qf h with ⟨h149,h⟩|⟨h149,h⟩
   ·exact rE Qg [([],[],[(3,.val (jI (bc2.Lines.length:Int)))]),([],[(3,.idx (Int.toNat v137) (Qc.cells x145)),(9,.idx (Int.toNat bf1) (Qc.cells x147))],[]),([],[(4,.idx (Int.toNat v137) (Qc.cells x145))],[]),j3] [some true,some true] [] [0] [1,3,4,5] (.norm,(f26n4S bf1 bc2 (wr64 (v136+x145.Amount)) (wr64 (v137+1)))) (ap (Qr (xs:=bc2.Lines) (c:=Qc.cells)) (ap h139 (ap (Qi h146).1 (ap (Qq Qc.cells (Qi h146).2) (ap (Qi h148).1 (ap (Qq Qc.cells (Qi h148).2) (ap h149 (ap (Qi h146).1 (ap (Qq Qc.cells (Qi h146).2) an))))))))) (Qs.norm ⟨(wr64 (v136+x145.Amount)),(wr64 (v137+1)),rfl,h⟩)
   ·exact rE Qg [([],[],[(3,.val (jI (bc2.Lines.length:Int)))]),([],[(3,.idx (Int.toNat v137) (Qc.cells x145)),(9,.idx (Int.toNat bf1) (Qc.cells x147))],[]),j3] [some true,some false] [] [0] [1,3,4,5] (.norm,(f26n4S bf1 bc2 v136 (wr64 (v137+1)))) (ap (Qr (xs:=bc2.Lines) (c:=Qc.cells)) (ap h139 (ap (Qi h146).1 (ap (Qq Qc.cells (Qi h146).2) (ap (Qi h148).1 (ap (Qq Qc.cells (Qi h148).2) (ap h149 an))))))) (Qs.norm ⟨v136,(wr64 (v137+1)),rfl,h⟩)
  ·obtain rfl:=Qd h;exact rK Qg 1 [([],[],[(3,.val (jI (bc2.Lines.length:Int)))])] [some false] [] [0] [1,3,4] (.exit 2) ((f26n4E bf1 bc2 (.exit2 v136)).2) (ap (Qr (xs:=bc2.Lines) (c:=Qc.cells)) (ap h139 an)) (Qs.out rfl rfl)
noncomputable def f26n4L(bf1:Int)(bc2:Qa):List Qc→Int→Int→Option f26n4O
 | [],v136,v137 =>
  some (.exit2 v136)
 | x0::rest,v136,v137 =>
  (at? bc2.Lines bf1).bind fun x147 =>
  bif (seq x0.Ccy x147.Ccy) then
   (f26n4L bf1 bc2 rest (wr64 (v136+x0.Amount)) (v137+1))
  else
   (f26n4L bf1 bc2 rest v136 (v137+1))
theorem f26n4L_eq(bf1:Int)(bc2:Qa):∀(rest:List Qc)(f k:Nat)(v136:Int),bc2.Lines.drop k=rest→bc2.Lines.length≤maxLen→rest.length<f→f26n4 f bf1 bc2 v136 (k:Int)=f26n4L bf1 bc2 rest v136 (k:Int)
 | _,0,_,_,_,_,hf=>absurd hf (Nat.not_lt_zero _)
 | [],f+1,k,v136,hd,hm,hf=>by
  have hk:¬((k:Int)<(bc2.Lines.length:Int)):=by have:=Qab hd; omega
  rw [f26n4,f26n4L];simp only [decide_eq_false hk,cond_false]
 | x0::rest,f+1,k,v136,hd,hm,hf=>by
  obtain ⟨hx,hlt,hd'⟩:=Qah hd;have hk:(k:Int)<(bc2.Lines.length:Int):=by omega
  have hw:wr64 ((k:Int)+1)=(k:Int)+1:=Qbi (by omega) (by unfold maxLen at hm; omega);have ih:∀(v136:Int),f26n4 f bf1 bc2 v136 ((k:Int)+1)=f26n4L bf1 bc2 rest v136 ((k:Int)+1):=fun v136=>f26n4L_eq bf1 bc2 rest f (k+1) v136 hd' hm (by simpa using hf);rw [f26n4,f26n4L];simp only [decide_eq_true hk,cond_true,Qbt,hx,Option.bind_some,hw,ih]
theorem f26n4_run(bf1:Int)(bc2:Qa)(v136:Int)(hm:bc2.Lines.length≤maxLen):f26n4 FUEL bf1 bc2 v136 0=f26n4L bf1 bc2 bc2.Lines v136 0:=f26n4L_eq bf1 bc2 bc2.Lines FUEL 0 v136 List.drop_zero hm (Qbe hm)
inductive f26n3O where
 | norm (v154:Int)
def f26n3E(bf1:Int)(bc2:Qa):f26n3O→Ex×Tr×Hp
 | .norm v154=>(.norm,mkS [(1,(.bp 0 0)),(3,(jI bf1)),(4,(jI v154))],[some (.box ((Qa.cells bc2).map .pl))])
def f26n3S(bf1:Int)(bc2:Qa):Tr×Hp:=(mkS [(1,(.bp 0 0)),(3,(jI bf1)),(4,(jI 0))],[some (.box ((Qa.cells bc2).map .pl))])
noncomputable def f26n3(bf1:Int)(bc2:Qa):Option f26n3O :=
 (f26n4 FUEL bf1 bc2 0 0).bind fun o151=>match o151 with
 | .exit2 v153=>some (.norm v153)
theorem f26n3_ok(bf1:Int)(bc2:Qa){o:f26n3O}(h:f26n3 bf1 bc2=some o):T Try.prog Try.f26.ntmps 0 (cL (Ql 1 (cL (cL (Ql 1 (cL (cL (Ql 1 (cL (Ql 1 c26)))))))))) (f26n3S bf1 bc2) (·=f26n3E bf1 bc2 o):=by
 unfold f26n3 at h;refine rN Qg 1 [j3] [] [] [0] [1,3,4,5] (f26n4S bf1 bc2 0 0) an ?_;obtain ⟨o151,h152,h⟩:=Qe h;cases o151 with
 | exit2 v153 =>
  obtain rfl:=Qd h;exact T.last' (T.bl (i:=2) (by kernel_rfl) (by kernel_rfl) (f26n4_ok FUEL bf1 bc2 0 0 h152)) (tds:=[]) (m:=[0]) (keep:=[1,3,4]) (st2:=(f26n3E bf1 bc2 (.norm v153)).2) (by kernel_rfl) an rfl
inductive f26n2O where
 | norm
 | ret
def f26n2E(bf1:Int)(bc2:Qa):f26n2O→Ex×Tr×Hp
 | .norm=>(.norm,mkS [(1,(.bp 0 0)),(3,(jI bf1))],[some (.box ((Qa.cells bc2).map .pl))])
 | .ret=>(.ret,mkS [(2,(jB false))],[])
def f26n2S(bf1:Int)(bc2:Qa):Tr×Hp:=(mkS [(1,(.bp 0 0)),(3,(jI bf1))],[some (.box ((Qa.cells bc2).map .pl))])
noncomputable def f26n2(bf1:Int)(bc2:Qa):Option f26n2O :=
 (f26n3 bf1 bc2).bind fun o155=>match o155 with
 | .norm v157=>bif decide (v157=0) then
   some .norm
  else
   some .ret
theorem f26n2_ok(bf1:Int)(bc2:Qa){o:f26n2O}(h:f26n2 bf1 bc2=some o):T Try.prog Try.f26.ntmps 0 (cL (Ql 1 (cL (cL (Ql 1 (cL (Ql 1 c26))))))) (f26n2S bf1 bc2) (·=f26n2E bf1 bc2 o):=by
 unfold f26n2 at h;refine T.block' (i:=1) (by kernel_rfl) ?_;refine rN Qg 1 [j3] [] [] [0] [1,3,4] (f26n3S bf1 bc2) an ?_;obtain ⟨o155,h156,h⟩:=Qe h;cases o155 with
 | norm v157 =>
  refine T.oneN (by kernel_rfl) (f26n3_ok bf1 bc2 h156) (st2:=(f26n3E bf1 bc2 (.norm v157)).2) rfl ?_;rcases Qf h with ⟨h159,h⟩|⟨h159,h⟩
  ·obtain rfl:=Qd h;exact rE Qg [j3] [some false] [] [0] [1,3] (.norm,(f26n2E bf1 bc2 .norm).2) (ap (Qp h159) an) rfl
  ·obtain rfl:=Qd h;exact rE Qg [j3,j3] [some true] [] [] [2] (.ret,(f26n2E bf1 bc2 .ret).2) (ap (Qw h159) an) rfl
inductive f26n5O where
 | exit0
 | ret
def f26n5E(bc1:Qa):f26n5O→Ex×Tr×Hp
 | .exit0=>((.exit 0),mkS [],[])
 | .ret=>(.ret,mkS [(2,(jB false))],[])
def f26n5S(bc1:Qa)(v107:Int):Tr×Hp:=(mkS [(1,(.bp 0 0)),(3,(jI v107))],[some (.box ((Qa.cells bc1).map .pl))])
noncomputable def f26n5:Nat→Qa→Int→Option f26n5O
 | 0,_,_=>none
 | f+1,bc1,v107 =>
  bif decide (v107<(bc1.Lines.length:Int)) then
   (f26n2 v107 bc1).bind fun o160=>match o160 with
   | .norm=>(f26n5 f bc1 (wr64 (v107+1)))
   | .ret=>some .ret
  else
   some .exit0
theorem f26n5_ok:∀(f:Nat)(bc1:Qa)(v107:Int){o:f26n5O},f26n5 f bc1 v107=some o→TL Try.prog Try.f26.ntmps 0 f (cL (cL (Ql 1 (cL (Ql 1 c26))))) (f26n5S bc1 v107) (·=f26n5E bc1 o)
 | 0,_,_,o,h=>by rw [f26n5] at h; cases h
 | f+1,bc1,v107,o,h=>by
  rw [f26n5] at h;refine TL.body (K:=fun s=>∃v107:Int,s=(f26n5S bc1 v107)∧f26n5 f bc1 v107=some o) ?_ (by rintro _ ⟨v107,rfl,hk⟩; exact f26n5_ok f _ _ hk);rcases Qf h with ⟨h109,h⟩|⟨h109,h⟩
  ·refine rN Qg 1 [([],[],[(3,.val (jI (bc1.Lines.length:Int)))])] [some true] [] [0] [1,3] (f26n2S v107 bc1) (ap (Qr (xs:=bc1.Lines) (c:=Qc.cells)) (ap h109 an)) ?_;obtain ⟨o160,h161,h⟩:=Qe h;cases o160 with
   | norm =>
    refine T.oneN (by kernel_rfl) (f26n2_ok v107 bc1 h161) (st2:=(f26n2E v107 bc1 .norm).2) rfl ?_;exact rE Qg [j3] [] [] [0] [1,3] (.norm,(f26n5S bc1 (wr64 (v107+1)))) an (Qs.norm ⟨(wr64 (v107+1)),rfl,h⟩)
   | ret =>
    obtain rfl:=Qd h;exact T.oneX' (by kernel_rfl) (f26n2_ok v107 bc1 h161) (tds:=[]) (m:=[]) (keep:=[2]) (st2:=(f26n5E bc1 .ret).2) (by kernel_rfl) an rfl (Qs.out rfl rfl)
  ·obtain rfl:=Qd h;exact rK Qg 1 [([],[],[(3,.val (jI (bc1.Lines.length:Int)))])] [some false] [] [] [] (.exit 0) ((f26n5E bc1 .exit0).2) (ap (Qr (xs:=bc1.Lines) (c:=Qc.cells)) (ap h109 an)) (Qs.out rfl rfl)
inductive f26n1O where
 | norm
 | ret
def f26n1E(bc1:Qa):f26n1O→Ex×Tr×Hp
 | .norm=>(.norm,mkS [],[])
 | .ret=>(.ret,mkS [(2,(jB false))],[])
def f26n1S(bc1:Qa):Tr×Hp:=(mkS [(1,(.bp 0 0))],[some (.box ((Qa.cells bc1).map .pl))])
noncomputable def f26n1(bc1:Qa):Option f26n1O :=
 (f26n5 FUEL bc1 0).bind fun o162=>match o162 with
 | .exit0=>some .norm
 | .ret=>some .ret
theorem f26n1_ok(bc1:Qa){o:f26n1O}(h:f26n1 bc1=some o):T Try.prog Try.f26.ntmps 0 (cL (Ql 1 c26)) (f26n1S bc1) (·=f26n1E bc1 o):=by
 unfold f26n1 at h;refine rN Qg 1 [j3] [] [] [0] [1,3] (f26n5S bc1 0) an ?_;obtain ⟨o162,h163,h⟩:=Qe h;cases o162 with
 | exit0 =>
  obtain rfl:=Qd h;exact T.last' (T.bl (i:=0) (by kernel_rfl) (by kernel_rfl) (f26n5_ok FUEL bc1 0 h163)) (tds:=[]) (m:=[]) (keep:=[]) (st2:=(f26n1E bc1 .norm).2) (by kernel_rfl) an rfl
 | ret =>
  obtain rfl:=Qd h;exact T.last' (T.bl (i:=0) (by kernel_rfl) (by kernel_rfl) (f26n5_ok FUEL bc1 0 h163)) (tds:=[]) (m:=[]) (keep:=[2]) (st2:=(f26n1E bc1 .ret).2) (by kernel_rfl) an rfl
inductive f26n0O where
 | ret (v166:Bool)
def f26n0E(a1:Qa):f26n0O→Ex×Tr×Hp
 | .ret v166=>(.ret,mkS [(2,(jB v166))],[])
def f26n0S(a1:Qa):Tr×Hp:=(Qad [(jA Qa.cells a1)] 0 .leaf,[])
noncomputable def f26n0(a1:Qa):Option f26n0O :=
 (f26n1 a1).bind fun o164=>match o164 with
 | .norm=>some (.ret true)
 | .ret=>some (.ret false)
theorem f26n0_ok(a1:Qa){o:f26n0O}(h:f26n0 a1=some o):T Try.prog Try.f26.ntmps 0 c26 (f26n0S a1) (·=f26n0E a1 o):=by
 unfold f26n0 at h;refine rN Qg 1 [j3] [] [] [0] [1] (f26n1S a1) an ?_;obtain ⟨o164,h165,h⟩:=Qe h;cases o164 with
 | norm =>
  refine T.oneN (by kernel_rfl) (f26n1_ok a1 h165) (st2:=(f26n1E a1 .norm).2) rfl ?_;obtain rfl:=Qd h;exact rE Qg [j3] [] [] [] [2] (.ret,(f26n0E a1 (.ret true)).2) an rfl
 | ret =>
  obtain rfl:=Qd h;exact T.oneX' (by kernel_rfl) (f26n1_ok a1 h165) (tds:=[]) (m:=[]) (keep:=[2]) (st2:=(f26n0E a1 (.ret false)).2) (by kernel_rfl) an rfl rfl
noncomputable def f26(a1:Qa):Option Bool:=(f26n0 a1).bind fun o=>match o with
 | .ret v166=>some v166
theorem f26_ok(a1:Qa){r:Bool}(h:f26 a1=some r):Qo Try.prog false 26 [(jA Qa.cells a1)] [] (jB r) []:=by
 unfold f26 at h;obtain ⟨o,ho,h⟩:=Qe h;cases o with
 | ret v166 =>
  obtain rfl:=Qd h;exact Qo.plain Qg (f:=Try.f26) (c:=c26) (by kernel_rfl) (by kernel_rfl) (by kernel_rfl) (by kernel_rfl) ((f26n0_ok a1 ho).mono fun r e=>by subst e; exact ⟨.inl rfl,(jB v166),(jB v166),by kernel_rfl,by kernel_rfl,((Wk.refl _):Wk (jB v166) (jB v166))⟩)

noncomputable def c39:Code:=Try.f39.body.getD .skip
inductive f39n3O where
 | exit2 (v168:Int)
def f39n3E(bm1:List Qa)(bd2 bd3:ByteArray)(bf5:Int):f39n3O→Ex×Tr×Hp
 | .exit2 v168=>((.exit 2),mkS [(0,(jL 3 Qa.cells bm1)),(1,(jS bd2)),(2,(jS bd3)),(7,(jI v168)),(8,(jI bf5))],[])
def f39n3S(bm1:List Qa)(bd2 bd3:ByteArray)(bf5 v152 v153:Int):Tr×Hp:=(mkS [(0,(jL 3 Qa.cells bm1)),(1,(jS bd2)),(2,(jS bd3)),(7,(jI v152)),(8,(jI bf5)),(9,(jI v153))],[])
noncomputable def f39n3:Nat→List Qa→ByteArray→ByteArray→Int→Int→Int→Option f39n3O
 | 0,_,_,_,_,_,_=>none
 | f+1,bm1,bd2,bd3,bf5,v152,v153 =>
  (at? bm1 bf5).bind fun x157 =>
  bif decide (v153<(x157.Lines.length:Int)) then
   (at? x157.Lines v153).bind fun x164 =>
   bif (seq x164.Account bd2) then
    bif (seq x164.Ccy bd3) then
     (f39n3 f bm1 bd2 bd3 bf5 (wr64 (v152+x164.Amount)) (wr64 (v153+1)))
    else
     (f39n3 f bm1 bd2 bd3 bf5 v152 (wr64 (v153+1)))
   else
    (f39n3 f bm1 bd2 bd3 bf5 v152 (wr64 (v153+1)))
  else
   some (.exit2 v152)
theorem f39n3_ok:∀(f:Nat)(bm1:List Qa)(bd2 bd3:ByteArray)(bf5 v152 v153:Int){o:f39n3O},f39n3 f bm1 bd2 bd3 bf5 v152 v153=some o→TL Try.prog Try.f39.ntmps 0 f (cL (cL (Ql 1 (cL (cL (Ql 1 (cL (cL (Ql 1 (cL (Ql 2 c39))))))))))) (f39n3S bm1 bd2 bd3 bf5 v152 v153) (·=f39n3E bm1 bd2 bd3 bf5 o)
 | 0,_,_,_,_,_,_,o,h=>by rw [f39n3] at h; cases h
 | f+1,bm1,bd2,bd3,bf5,v152,v153,o,h=>by
  rw [f39n3] at h;refine TL.body (K:=fun s=>∃v152:Int,∃v153:Int,s=(f39n3S bm1 bd2 bd3 bf5 v152 v153)∧f39n3 f bm1 bd2 bd3 bf5 v152 v153=some o) ?_ (by rintro _ ⟨v152,v153,rfl,hk⟩; exact f39n3_ok f _ _ _ _ _ _ hk);obtain ⟨x157,h158,h⟩:=Qe h;rcases Qf h with ⟨h159,h⟩|⟨h159,h⟩
  ·obtain ⟨x164,h165,h⟩:=Qe h;rcases Qf h with ⟨h166,h⟩|⟨h166,h⟩
   ·rcases Qf h with ⟨h167,h⟩|⟨h167,h⟩
    ·exact rE Qg [([],[(3,.idx (Int.toNat bf5) (Qa.cells x157))],[(6,.val (jI (x157.Lines.length:Int)))]),(jT [12,13,14,15,16,17,18,19,20,21,22],[(2,.idx (Int.toNat bf5) (Qa.cells x157)),(6,.idx (Int.toNat v153) (Qc.cells x164)),(14,.idx (Int.toNat bf5) (Qa.cells x157)),(18,.idx (Int.toNat v153) (Qc.cells x164)),(23,.bool true)],[]),([],[(3,.idx (Int.toNat bf5) (Qa.cells x157)),(7,.idx (Int.toNat v153) (Qc.cells x164))],[]),j3] [some true,some true] [] [] [0,1,2,7,8,9] (.norm,(f39n3S bm1 bd2 bd3 bf5 (wr64 (v152+x164.Amount)) (wr64 (v153+1)))) (ap (Qi h158).1 (ap (Qq Qa.cells (Qi h158).2) (ap (Qr (xs:=x157.Lines) (c:=Qc.cells)) (ap h159 (ap (Qi h158).1 (ap (Qq Qa.cells (Qi h158).2) (ap (Qi h165).1 (ap (Qq Qc.cells (Qi h165).2) (ap3 h166 (ap (Qi h158).1 (ap (Qq Qa.cells (Qi h158).2) (ap4 h166 (ap (Qi h165).1 (ap (Qq Qc.cells (Qi h165).2) (ap h166 (ap4 h166 (ap h167 (ap (Qi h158).1 (ap (Qq Qa.cells (Qi h158).2) (ap (Qi h165).1 (ap (Qq Qc.cells (Qi h165).2) an))))))))))))))))))))) (Qs.norm ⟨(wr64 (v152+x164.Amount)),(wr64 (v153+1)),rfl,h⟩)
    ·exact rE Qg [([],[(3,.idx (Int.toNat bf5) (Qa.cells x157))],[(6,.val (jI (x157.Lines.length:Int)))]),(jT [12,13,14,15,16,17,18,19,20,21,22],[(2,.idx (Int.toNat bf5) (Qa.cells x157)),(6,.idx (Int.toNat v153) (Qc.cells x164)),(14,.idx (Int.toNat bf5) (Qa.cells x157)),(18,.idx (Int.toNat v153) (Qc.cells x164)),(23,.bool true)],[]),j3] [some true,some false] [] [] [0,1,2,7,8,9] (.norm,(f39n3S bm1 bd2 bd3 bf5 v152 (wr64 (v153+1)))) (ap (Qi h158).1 (ap (Qq Qa.cells (Qi h158).2) (ap (Qr (xs:=x157.Lines) (c:=Qc.cells)) (ap h159 (ap (Qi h158).1 (ap (Qq Qa.cells (Qi h158).2) (ap (Qi h165).1 (ap (Qq Qc.cells (Qi h165).2) (ap3 h166 (ap (Qi h158).1 (ap (Qq Qa.cells (Qi h158).2) (ap4 h166 (ap (Qi h165).1 (ap (Qq Qc.cells (Qi h165).2) (ap h166 (ap4 h166 (ap h167 an))))))))))))))))) (Qs.norm ⟨v152,(wr64 (v153+1)),rfl,h⟩)
   ·exact rE Qg [([],[(3,.idx (Int.toNat bf5) (Qa.cells x157))],[(6,.val (jI (x157.Lines.length:Int)))]),(jF [12,13,14,15,16,17,18,19,20,21,22],[(2,.idx (Int.toNat bf5) (Qa.cells x157)),(6,.idx (Int.toNat v153) (Qc.cells x164)),(23,.bool false)],[]),j3] [some true,none] [] [] [0,1,2,7,8,9] (.norm,(f39n3S bm1 bd2 bd3 bf5 v152 (wr64 (v153+1)))) (ap (Qi h158).1 (ap (Qq Qa.cells (Qi h158).2) (ap (Qr (xs:=x157.Lines) (c:=Qc.cells)) (ap h159 (ap (Qi h158).1 (ap (Qq Qa.cells (Qi h158).2) (ap (Qi h165).1 (ap (Qq Qc.cells (Qi h165).2) (ap4 h166 (ap4 h166 (ap4 h166 an))))))))))) (Qs.norm ⟨v152,(wr64 (v153+1)),rfl,h⟩)
  ·obtain rfl:=Qd h;exact rK Qg 1 [([],[(3,.idx (Int.toNat bf5) (Qa.cells x157))],[(6,.val (jI (x157.Lines.length:Int)))])] [some false] [] [] [0,1,2,7,8] (.exit 2) ((f39n3E bm1 bd2 bd3 bf5 (.exit2 v152)).2) (ap (Qi h158).1 (ap (Qq Qa.cells (Qi h158).2) (ap (Qr (xs:=x157.Lines) (c:=Qc.cells)) (ap h159 an)))) (Qs.out rfl rfl)
inductive f39n2O where
 | norm (v172:Int)
def f39n2E(bm1:List Qa)(bd2 bd3:ByteArray)(bf4 bf5:Int):f39n2O→Ex×Tr×Hp
 | .norm v172=>(.norm,mkS [(0,(jL 3 Qa.cells bm1)),(1,(jS bd2)),(2,(jS bd3)),(7,(jI v172)),(8,(jI bf5))],[])
def f39n2S(bm1:List Qa)(bd2 bd3:ByteArray)(bf4 bf5:Int):Tr×Hp:=(mkS [(0,(jL 3 Qa.cells bm1)),(1,(jS bd2)),(2,(jS bd3)),(7,(jI bf4)),(8,(jI bf5))],[])
noncomputable def f39n2(bm1:List Qa)(bd2 bd3:ByteArray)(bf4 bf5:Int):Option f39n2O :=
 (f39n3 FUEL bm1 bd2 bd3 bf5 bf4 0).bind fun o169=>match o169 with
 | .exit2 v171=>some (.norm v171)
theorem f39n2_ok(bm1:List Qa)(bd2 bd3:ByteArray)(bf4 bf5:Int){o:f39n2O}(h:f39n2 bm1 bd2 bd3 bf4 bf5=some o):T Try.prog Try.f39.ntmps 0 (cL (Ql 1 (cL (cL (Ql 1 (cL (Ql 2 c39))))))) (f39n2S bm1 bd2 bd3 bf4 bf5) (·=f39n2E bm1 bd2 bd3 bf4 bf5 o):=by
 unfold f39n2 at h;refine T.block' (i:=1) (by kernel_rfl) ?_;refine rN Qg 1 [j3] [] [] [] [0,1,2,7,8,9] (f39n3S bm1 bd2 bd3 bf5 bf4 0) an ?_;obtain ⟨o169,h170,h⟩:=Qe h;cases o169 with
 | exit2 v171 =>
  obtain rfl:=Qd h;exact T.last' (T.bl (i:=2) (by kernel_rfl) (by kernel_rfl) (f39n3_ok FUEL bm1 bd2 bd3 bf5 bf4 0 h170)) (tds:=[]) (m:=[]) (keep:=[0,1,2,7,8]) (st2:=(f39n2E bm1 bd2 bd3 bf4 bf5 (.norm v171)).2) (by kernel_rfl) an rfl
inductive f39n4O where
 | exit0 (v176:Int)
def f39n4E(bm1:List Qa)(bd2 bd3:ByteArray):f39n4O→Ex×Tr×Hp
 | .exit0 v176=>((.exit 0),mkS [(7,(jI v176))],[])
def f39n4S(bm1:List Qa)(bd2 bd3:ByteArray)(v118 v119:Int):Tr×Hp:=(mkS [(0,(jL 3 Qa.cells bm1)),(1,(jS bd2)),(2,(jS bd3)),(7,(jI v118)),(8,(jI v119))],[])
noncomputable def f39n4:Nat→List Qa→ByteArray→ByteArray→Int→Int→Option f39n4O
 | 0,_,_,_,_,_=>none
 | f+1,bm1,bd2,bd3,v118,v119 =>
  bif decide (v119<(bm1.length:Int)) then
   (f39n2 bm1 bd2 bd3 v118 v119).bind fun o173=>match o173 with
   | .norm v175=>(f39n4 f bm1 bd2 bd3 v175 (wr64 (v119+1)))
  else
   some (.exit0 v118)
theorem f39n4_ok:∀(f:Nat)(bm1:List Qa)(bd2 bd3:ByteArray)(v118 v119:Int){o:f39n4O},f39n4 f bm1 bd2 bd3 v118 v119=some o→TL Try.prog Try.f39.ntmps 0 f (cL (cL (Ql 1 (cL (Ql 2 c39))))) (f39n4S bm1 bd2 bd3 v118 v119) (·=f39n4E bm1 bd2 bd3 o)
 | 0,_,_,_,_,_,o,h=>by rw [f39n4] at h; cases h
 | f+1,bm1,bd2,bd3,v118,v119,o,h=>by
  rw [f39n4] at h;refine TL.body (K:=fun s=>∃v118:Int,∃v119:Int,s=(f39n4S bm1 bd2 bd3 v118 v119)∧f39n4 f bm1 bd2 bd3 v118 v119=some o) ?_ (by rintro _ ⟨v118,v119,rfl,hk⟩; exact f39n4_ok f _ _ _ _ _ hk);rcases Qf h with ⟨h121,h⟩|⟨h121,h⟩
  ·refine rN Qg 1 [([],[],[(2,.val (jI (bm1.length:Int)))])] [some true] [] [] [0,1,2,7,8] (f39n2S bm1 bd2 bd3 v118 v119) (ap (Qr (xs:=bm1) (c:=Qa.cells)) (ap h121 an)) ?_;obtain ⟨o173,h174,h⟩:=Qe h;cases o173 with
   | norm v175 =>
    refine T.oneN (by kernel_rfl) (f39n2_ok bm1 bd2 bd3 v118 v119 h174) (st2:=(f39n2E bm1 bd2 bd3 v118 v119 (.norm v175)).2) rfl ?_;exact rE Qg [j3] [] [] [] [0,1,2,7,8] (.norm,(f39n4S bm1 bd2 bd3 v175 (wr64 (v119+1)))) an (Qs.norm ⟨v175,(wr64 (v119+1)),rfl,h⟩)
  ·obtain rfl:=Qd h;exact rK Qg 1 [([],[],[(2,.val (jI (bm1.length:Int)))])] [some false] [] [] [7] (.exit 0) ((f39n4E bm1 bd2 bd3 (.exit0 v118)).2) (ap (Qr (xs:=bm1) (c:=Qa.cells)) (ap h121 an)) (Qs.out rfl rfl)
inductive f39n1O where
 | norm (v180:Int)
def f39n1E(bm1:List Qa)(bd2 bd3:ByteArray):f39n1O→Ex×Tr×Hp
 | .norm v180=>(.norm,mkS [(7,(jI v180))],[])
def f39n1S(bm1:List Qa)(bd2 bd3:ByteArray):Tr×Hp:=(mkS [(0,(jL 3 Qa.cells bm1)),(1,(jS bd2)),(2,(jS bd3)),(7,(jI 0))],[])
noncomputable def f39n1(bm1:List Qa)(bd2 bd3:ByteArray):Option f39n1O :=
 (f39n4 FUEL bm1 bd2 bd3 0 0).bind fun o177=>match o177 with
 | .exit0 v179=>some (.norm v179)
theorem f39n1_ok(bm1:List Qa)(bd2 bd3:ByteArray){o:f39n1O}(h:f39n1 bm1 bd2 bd3=some o):T Try.prog Try.f39.ntmps 0 (cL (Ql 2 c39)) (f39n1S bm1 bd2 bd3) (·=f39n1E bm1 bd2 bd3 o):=by
 unfold f39n1 at h;refine rN Qg 1 [j3] [] [] [] [0,1,2,7,8] (f39n4S bm1 bd2 bd3 0 0) an ?_;obtain ⟨o177,h178,h⟩:=Qe h;cases o177 with
 | exit0 v179 =>
  obtain rfl:=Qd h;exact T.last' (T.bl (i:=0) (by kernel_rfl) (by kernel_rfl) (f39n4_ok FUEL bm1 bd2 bd3 0 0 h178)) (tds:=[]) (m:=[]) (keep:=[7]) (st2:=(f39n1E bm1 bd2 bd3 (.norm v179)).2) (by kernel_rfl) an rfl
inductive f39n0O where
 | ret (v184:Int)
def f39n0E(a1:List Qa)(a2 a3:ByteArray):f39n0O→Ex×Tr×Hp
 | .ret v184=>(.ret,mkS [(6,(jI v184))],[])
def f39n0S(a1:List Qa)(a2 a3:ByteArray):Tr×Hp:=(Qad [(jL 3 Qa.cells a1),(jS a2),(jS a3)] 0 .leaf,[])
noncomputable def f39n0(a1:List Qa)(a2 a3:ByteArray):Option f39n0O :=
 (f39n1 a1 a2 a3).bind fun o181=>match o181 with
 | .norm v183=>some (.ret v183)
theorem f39n0_ok(a1:List Qa)(a2 a3:ByteArray){o:f39n0O}(h:f39n0 a1 a2 a3=some o):T Try.prog Try.f39.ntmps 0 c39 (f39n0S a1 a2 a3) (·=f39n0E a1 a2 a3 o):=by
 unfold f39n0 at h;refine rN Qg 2 [j3,j3] [] [] [] [0,1,2,7] (f39n1S a1 a2 a3) an ?_;obtain ⟨o181,h182,h⟩:=Qe h;cases o181 with
 | norm v183 =>
  refine T.oneN (by kernel_rfl) (f39n1_ok a1 a2 a3 h182) (st2:=(f39n1E a1 a2 a3 (.norm v183)).2) rfl ?_;obtain rfl:=Qd h;exact rE Qg [j3] [] [] [] [6] (.ret,(f39n0E a1 a2 a3 (.ret v183)).2) an rfl
noncomputable def f39(a1:List Qa)(a2 a3:ByteArray):Option Int:=(f39n0 a1 a2 a3).bind fun o=>match o with
 | .ret v184=>some v184
theorem f39_ok(a1:List Qa)(a2 a3:ByteArray){r:Int}(h:f39 a1 a2 a3=some r):Qo Try.prog false 39 [(jL 3 Qa.cells a1),(jS a2),(jS a3)] [] (jI r) []:=by
 unfold f39 at h;obtain ⟨o,ho,h⟩:=Qe h;cases o with
 | ret v184 =>
  obtain rfl:=Qd h;exact Qo.plain Qg (f:=Try.f39) (c:=c39) (by kernel_rfl) (by kernel_rfl) (by kernel_rfl) (by kernel_rfl) ((f39n0_ok a1 a2 a3 ho).mono fun r e=>by subst e; exact ⟨.inl rfl,(jI v184),(jI v184),by kernel_rfl,by kernel_rfl,((Wk.refl _):Wk (jI v184) (jI v184))⟩)

noncomputable def c27:Code:=Try.f27.body.getD .skip
inductive f27n2O where
 | exit0
 | ret
def f27n2E(bm1:List Qa)(bc2:Qa):f27n2O→Ex×Tr×Hp
 | .exit0=>((.exit 0),mkS [],[])
 | .ret=>(.ret,mkS [(2,(jB false))],[])
def f27n2S(bm1:List Qa)(bc2:Qa)(v35:Int):Tr×Hp:=(mkS [(0,(jL 3 Qa.cells bm1)),(3,(.bp 0 0)),(4,(jI v35))],[some (.box ((Qa.cells bc2).map .pl))])
noncomputable def f27n2:Nat→List Qa→Qa→Int→Option f27n2O
 | 0,_,_,_=>none
 | f+1,bm1,bc2,v35 =>
  bif decide (v35<(bc2.Lines.length:Int)) then
   (at? bc2.Lines v35).bind fun x44 =>
   (f39 bm1 x44.Account x44.Ccy).bind fun x46 =>
   bif decide (1125899906842624<x46) then
    some .ret
   else
    bif decide (x46<(-1125899906842624)) then
     some .ret
    else
     (f27n2 f bm1 bc2 (wr64 (v35+1)))
  else
   some .exit0
theorem f27n2_ok:∀(f:Nat)(bm1:List Qa)(bc2:Qa)(v35:Int){o:f27n2O},f27n2 f bm1 bc2 v35=some o→TL Try.prog Try.f27.ntmps 0 f (cL (cL (Ql 1 (cL (Ql 2 c27))))) (f27n2S bm1 bc2 v35) (·=f27n2E bm1 bc2 o)
 | 0,_,_,_,o,h=>by rw [f27n2] at h; cases h
 | f+1,bm1,bc2,v35,o,h=>by
  rw [f27n2] at h;refine TL.body (K:=fun s=>∃v35:Int,s=(f27n2S bm1 bc2 v35)∧f27n2 f bm1 bc2 v35=some o) ?_ (by rintro _ ⟨v35,rfl,hk⟩; exact f27n2_ok f _ _ _ hk);rcases Qf h with ⟨h37,h⟩|⟨h37,h⟩
  ·obtain ⟨x44,h45,h⟩:=Qe h;obtain ⟨x46,h47,h⟩:=Qe h;rcases Qf h with ⟨h48,h⟩|⟨h48,h⟩
   ·obtain rfl:=Qd h;exact rK Qg 2 [([],[],[(3,.val (jI (bc2.Lines.length:Int)))]),([],[(4,.idx (Int.toNat v35) (Qc.cells x44)),(10,.idx (Int.toNat v35) (Qc.cells x44)),jH 13 (jI x46)],[]),([(3,true),(4,true)],[(5,.bool true)],[]),j3] [some true,none] [] [] [2] .ret ((f27n2E bm1 bc2 .ret).2) (ap (Qr (xs:=bc2.Lines) (c:=Qc.cells)) (ap h37 (ap (Qi h45).1 (ap (Qq Qc.cells (Qi h45).2) (ap (Qi h45).1 (ap (Qq Qc.cells (Qi h45).2) (ap (f39_ok bm1 x44.Account x44.Ccy h47) (ap3 h48 an)))))))) (Qs.out rfl rfl)
   ·rcases Qf h with ⟨h49,h⟩|⟨h49,h⟩
    ·obtain rfl:=Qd h;exact rK Qg 2 [([],[],[(3,.val (jI (bc2.Lines.length:Int)))]),([],[(4,.idx (Int.toNat v35) (Qc.cells x44)),(10,.idx (Int.toNat v35) (Qc.cells x44)),jH 13 (jI x46)],[]),([(3,false),(4,false)],[(5,.bool false)],[]),j3] [some true,some true] [] [] [2] .ret ((f27n2E bm1 bc2 .ret).2) (ap (Qr (xs:=bc2.Lines) (c:=Qc.cells)) (ap h37 (ap (Qi h45).1 (ap (Qq Qc.cells (Qi h45).2) (ap (Qi h45).1 (ap (Qq Qc.cells (Qi h45).2) (ap (f39_ok bm1 x44.Account x44.Ccy h47) (ap3 h48 (ap h49 an))))))))) (Qs.out rfl rfl)
    ·exact rE Qg [([],[],[(3,.val (jI (bc2.Lines.length:Int)))]),([],[(4,.idx (Int.toNat v35) (Qc.cells x44)),(10,.idx (Int.toNat v35) (Qc.cells x44)),jH 13 (jI x46)],[]),([(3,false),(4,false)],[(5,.bool false)],[]),j3] [some true,some false] [] [0] [0,3,4] (.norm,(f27n2S bm1 bc2 (wr64 (v35+1)))) (ap (Qr (xs:=bc2.Lines) (c:=Qc.cells)) (ap h37 (ap (Qi h45).1 (ap (Qq Qc.cells (Qi h45).2) (ap (Qi h45).1 (ap (Qq Qc.cells (Qi h45).2) (ap (f39_ok bm1 x44.Account x44.Ccy h47) (ap3 h48 (ap h49 an))))))))) (Qs.norm ⟨(wr64 (v35+1)),rfl,h⟩)
  ·obtain rfl:=Qd h;exact rK Qg 1 [([],[],[(3,.val (jI (bc2.Lines.length:Int)))])] [some false] [] [] [] (.exit 0) ((f27n2E bm1 bc2 .exit0).2) (ap (Qr (xs:=bc2.Lines) (c:=Qc.cells)) (ap h37 an)) (Qs.out rfl rfl)
noncomputable def f27n2L(bm1:List Qa)(bc2:Qa):List Qc→Int→Option f27n2O
 | [],v35 =>
  some .exit0
 | x0::rest,v35 =>
  (f39 bm1 x0.Account x0.Ccy).bind fun x46 =>
  bif decide (1125899906842624<x46) then
   some .ret
  else
   bif decide (x46<(-1125899906842624)) then
    some .ret
   else
    (f27n2L bm1 bc2 rest (v35+1))
theorem f27n2L_eq(bm1:List Qa)(bc2:Qa):∀(rest:List Qc)(f k:Nat),bc2.Lines.drop k=rest→bc2.Lines.length≤maxLen→rest.length<f→f27n2 f bm1 bc2 (k:Int)=f27n2L bm1 bc2 rest (k:Int)
 | _,0,_,_,_,hf=>absurd hf (Nat.not_lt_zero _)
 | [],f+1,k,hd,hm,hf=>by
  have hk:¬((k:Int)<(bc2.Lines.length:Int)):=by have:=Qab hd; omega
  rw [f27n2,f27n2L];simp only [decide_eq_false hk,cond_false]
 | x0::rest,f+1,k,hd,hm,hf=>by
  obtain ⟨hx,hlt,hd'⟩:=Qah hd;have hk:(k:Int)<(bc2.Lines.length:Int):=by omega
  have hw:wr64 ((k:Int)+1)=(k:Int)+1:=Qbi (by omega) (by unfold maxLen at hm; omega);have ih:f27n2 f bm1 bc2 ((k:Int)+1)=f27n2L bm1 bc2 rest ((k:Int)+1):=f27n2L_eq bm1 bc2 rest f (k+1) hd' hm (by simpa using hf);rw [f27n2,f27n2L];simp only [decide_eq_true hk,cond_true,Qbt,hx,Option.bind_some,hw,ih]
theorem f27n2_run(bm1:List Qa)(bc2:Qa)(hm:bc2.Lines.length≤maxLen):f27n2 FUEL bm1 bc2 0=f27n2L bm1 bc2 bc2.Lines 0:=f27n2L_eq bm1 bc2 bc2.Lines FUEL 0 List.drop_zero hm (Qbe hm)
inductive f27n1O where
 | norm
 | ret
def f27n1E(bm1:List Qa)(bc2:Qa):f27n1O→Ex×Tr×Hp
 | .norm=>(.norm,mkS [],[])
 | .ret=>(.ret,mkS [(2,(jB false))],[])
def f27n1S(bm1:List Qa)(bc2:Qa):Tr×Hp:=(mkS [(0,(jL 3 Qa.cells bm1)),(3,(.bp 0 0))],[some (.box ((Qa.cells bc2).map .pl))])
noncomputable def f27n1(bm1:List Qa)(bc2:Qa):Option f27n1O :=
 (f27n2 FUEL bm1 bc2 0).bind fun o50=>match o50 with
 | .exit0=>some .norm
 | .ret=>some .ret
theorem f27n1_ok(bm1:List Qa)(bc2:Qa){o:f27n1O}(h:f27n1 bm1 bc2=some o):T Try.prog Try.f27.ntmps 0 (cL (Ql 2 c27)) (f27n1S bm1 bc2) (·=f27n1E bm1 bc2 o):=by
 unfold f27n1 at h;refine rN Qg 1 [j3] [] [] [0] [0,3,4] (f27n2S bm1 bc2 0) an ?_;obtain ⟨o50,h51,h⟩:=Qe h;cases o50 with
 | exit0 =>
  obtain rfl:=Qd h;exact T.last' (T.bl (i:=0) (by kernel_rfl) (by kernel_rfl) (f27n2_ok FUEL bm1 bc2 0 h51)) (tds:=[]) (m:=[]) (keep:=[]) (st2:=(f27n1E bm1 bc2 .norm).2) (by kernel_rfl) an rfl
 | ret =>
  obtain rfl:=Qd h;exact T.last' (T.bl (i:=0) (by kernel_rfl) (by kernel_rfl) (f27n2_ok FUEL bm1 bc2 0 h51)) (tds:=[]) (m:=[]) (keep:=[2]) (st2:=(f27n1E bm1 bc2 .ret).2) (by kernel_rfl) an rfl
inductive f27n0O where
 | ret (v54:Bool)
def f27n0E(a1:List Qa):f27n0O→Ex×Tr×Hp
 | .ret v54=>(.ret,mkS [(2,(jB v54))],[])
def f27n0S(a1:List Qa):Tr×Hp:=(Qad [(jL 3 Qa.cells a1)] 0 .leaf,[])
noncomputable def f27n0(a1:List Qa):Option f27n0O :=
 (at? a1 (wr64 ((a1.length:Int)-1))).bind fun x4 =>
 (f27n1 a1 x4).bind fun o52=>match o52 with
 | .norm=>some (.ret true)
 | .ret=>some (.ret false)
theorem f27n0_ok(a1:List Qa){o:f27n0O}(h:f27n0 a1=some o):T Try.prog Try.f27.ntmps 0 c27 (f27n0S a1) (·=f27n0E a1 o):=by
 unfold f27n0 at h;obtain ⟨x4,h5,h⟩:=Qe h;refine rN Qg 2 [j3,([],[(4,.idx (Int.toNat (wr64 ((a1.length:Int)-1))) (Qa.cells x4))],[(2,.val (jI (a1.length:Int)))])] [] [] [0] [0,3] (f27n1S a1 x4) (ap (Qr (xs:=a1) (c:=Qa.cells)) (ap (Qi h5).1 (ap (Qq Qa.cells (Qi h5).2) an))) ?_;obtain ⟨o52,h53,h⟩:=Qe h;cases o52 with
 | norm =>
  refine T.oneN (by kernel_rfl) (f27n1_ok a1 x4 h53) (st2:=(f27n1E a1 x4 .norm).2) rfl ?_;obtain rfl:=Qd h;exact rE Qg [j3] [] [] [] [2] (.ret,(f27n0E a1 (.ret true)).2) an rfl
 | ret =>
  obtain rfl:=Qd h;exact T.oneX' (by kernel_rfl) (f27n1_ok a1 x4 h53) (tds:=[]) (m:=[]) (keep:=[2]) (st2:=(f27n0E a1 (.ret false)).2) (by kernel_rfl) an rfl rfl
noncomputable def f27(a1:List Qa):Option Bool:=(f27n0 a1).bind fun o=>match o with
 | .ret v54=>some v54
theorem f27_ok(a1:List Qa){r:Bool}(h:f27 a1=some r):Qo Try.prog false 27 [(jL 3 Qa.cells a1)] [] (jB r) []:=by
 unfold f27 at h;obtain ⟨o,ho,h⟩:=Qe h;cases o with
 | ret v54 =>
  obtain rfl:=Qd h;exact Qo.plain Qg (f:=Try.f27) (c:=c27) (by kernel_rfl) (by kernel_rfl) (by kernel_rfl) (by kernel_rfl) ((f27n0_ok a1 ho).mono fun r e=>by subst e; exact ⟨.inl rfl,(jB v54),(jB v54),by kernel_rfl,by kernel_rfl,((Wk.refl _):Wk (jB v54) (jB v54))⟩)

noncomputable def c15:Code:=Try.f15.body.getD .skip
inductive f15n3O where
 | norm (v188:Bool)
def f15n3E(bf1:Int)(ba2:Qj)(bc3:Qa):f15n3O→Ex×Tr×Hp
 | .norm v188=>(.norm,mkS [(1,(.bp 0 0)),(3,(jI bf1)),(53,(jB v188))],[some (.box ((Qj.cells ba2).map .pl))])
def f15n3S(bf1:Int)(ba2:Qj)(bc3:Qa):Tr×Hp:=(mkS [(1,(.bp 0 0)),(3,(jI bf1)),(4,(.bp 1 0))],[some (.box ((Qj.cells ba2).map .pl)),some (.box ((Qa.cells bc3).map .pl))])
noncomputable def f15n3(bf1:Int)(ba2:Qj)(bc3:Qa):Option f15n3O :=
 (f25 bc3).bind fun x172 =>
 bif x172 then
  (f26 bc3).bind fun x175 =>
  bif x175 then
   bif decide (0<bf1) then
    (at? ba2.Records (wr64 (bf1-1))).bind fun x179 =>
    bif decide (bc3.Day<x179.Day) then
     some (.norm true)
    else
     req (cutB 0 (wr64 (bf1+1)) ba2.Records.length) <|
     (f27 ((ba2.Records.take (Int.toNat (wr64 (bf1+1)))).drop 0)).bind fun x183 =>
     some (.norm (!x183))
   else
    req (cutB 0 (wr64 (bf1+1)) ba2.Records.length) <|
    (f27 ((ba2.Records.take (Int.toNat (wr64 (bf1+1)))).drop 0)).bind fun x186 =>
    some (.norm (!x186))
  else
   some (.norm true)
 else
  some (.norm true)
theorem f15n3_ok(bf1:Int)(ba2:Qj)(bc3:Qa){o:f15n3O}(h:f15n3 bf1 ba2 bc3=some o):T Try.prog Try.f15.ntmps 0 (cL (Ql 1 (cL (cL (Ql 1 (cL (cL (Ql 1 (cL (Ql 2 c15)))))))))) (f15n3S bf1 ba2 bc3) (·=f15n3E bf1 ba2 bc3 o):=by
 unfold f15n3 at h;obtain ⟨x172,h173,h⟩:=Qe h;rcases Qf h with ⟨h174,h⟩|⟨h174,h⟩
 ·obtain ⟨x175,h176,h⟩:=Qe h;rcases Qf h with ⟨h177,h⟩|⟨h177,h⟩
  ·rcases Qf h with ⟨h178,h⟩|⟨h178,h⟩
   ·obtain ⟨x179,h180,h⟩:=Qe h;rcases Qf h with ⟨h181,h⟩|⟨h181,h⟩
    ·obtain rfl:=Qd h;exact rE Qg [(jF [4,5,6,9,10,11,22]++jT [12,13,14,15,16,17,18,19,20,21,25,26,27,28,29,30,31],[jH 1 (jB x172),jH 5 (jB x175),(7,.bool false),(18,.idx (Int.toNat (wr64 (bf1-1))) (Qa.cells x179)),(22,.bool true),(23,.bool false),(32,.bool true)],[])] [] [] [0] [1,3,53] (.norm,(f15n3E bf1 ba2 bc3 (.norm true)).2) (ap4 (Qp h174) (ap3 (Qp h177) (ap3 h178 (ap4 h178 (ap (Qi h180).1 (ap (Qq Qa.cells (Qi h180).2) (ap3 h178 (ap (Qp h177) (ap h178 (ap (Qp h177) (ap4 h181 (ap4 h181 (ap (f25_ok bc3 h173) (ap (f26_ok bc3 h176) an)))))))))))))) rfl
    ·obtain ⟨h182,h⟩:=Qaf h;obtain ⟨x183,h184,h⟩:=Qe h;obtain rfl:=Qd h
     exact rE Qg [(jF [4,5,6,9,10,11,22,25,26,27,28,29,30,31]++jT [12,13,14,15,16,17,18,19,20,21],[jH 1 (jB x172),jH 5 (jB x175),(7,.bool false),(18,.idx (Int.toNat (wr64 (bf1-1))) (Qa.cells x179)),(22,.bool true),(23,.bool false),(29,.cut 0 (Int.toNat (wr64 (bf1+1)))),jH 30 (jB x183),(32,.bool false)],[(29,.val (.pl (.sl .any 3 (((ba2.Records.take (Int.toNat (wr64 (bf1+1)))).drop 0).map Qa.cells))))])] [] [] [0] [1,3,53] (.norm,(f15n3E bf1 ba2 bc3 (.norm (!x183))).2) (ap4 (Qp h174) (ap3 (Qp h177) (ap3 h178 (ap4 h178 (ap (Qi h180).1 (ap (Qq Qa.cells (Qi h180).2) (ap3 h178 (ap (Qp h177) (ap h178 (ap (Qp h177) (ap h181 (ap4 h181 (ap (cut_hn_1_map (c:=Qa.cells) h182) (ap (Qbm h182) (ap (Qbq h182) (ap (cut_hn_4_map (c:=Qa.cells) h182) (ap (congrArg (fun l=>AV.pl (.sl .any 3 l)) (cut_cv (xs:=ba2.Records) (c:=Qa.cells) (n:=(Int.toNat (wr64 (bf1+1)))) (m:=0))) (ap3 h181 (ap (f25_ok bc3 h173) (ap (f26_ok bc3 h176) (ap (f27_ok ((ba2.Records.take (Int.toNat (wr64 (bf1+1)))).drop 0) h184) an))))))))))))))))))))) rfl
   ·obtain ⟨h185,h⟩:=Qaf h;obtain ⟨x186,h187,h⟩:=Qe h;obtain rfl:=Qd h
    exact rE Qg [(jF [4,5,6,9,10,11,12,13,14,15,16,17,18,19,20,21,22],[jH 1 (jB x172),jH 5 (jB x175),(7,.bool false),(22,.bool false),(23,.bool false),(29,.cut 0 (Int.toNat (wr64 (bf1+1)))),jH 30 (jB x186)],[(29,.val (.pl (.sl .any 3 (((ba2.Records.take (Int.toNat (wr64 (bf1+1)))).drop 0).map Qa.cells))))])] [] [] [0] [1,3,53] (.norm,(f15n3E bf1 ba2 bc3 (.norm (!x186))).2) (ap4 (Qp h174) (ap3 (Qp h177) (ap2 h178 (ap4 h178 (ap4 h178 (ap (Qp h177) (ap h178 (ap (Qp h177) (ap (cut_hn_1_map (c:=Qa.cells) h185) (ap (Qbm h185) (ap (Qbq h185) (ap (cut_hn_4_map (c:=Qa.cells) h185) (ap (congrArg (fun l=>AV.pl (.sl .any 3 l)) (cut_cv (xs:=ba2.Records) (c:=Qa.cells) (n:=(Int.toNat (wr64 (bf1+1)))) (m:=0))) (ap (f25_ok bc3 h173) (ap (f26_ok bc3 h176) (ap (f27_ok ((ba2.Records.take (Int.toNat (wr64 (bf1+1)))).drop 0) h187) an)))))))))))))))) rfl
  ·obtain rfl:=Qd h;exact rE Qg [(jF [4,5,6]++jT [9,10,11,22],[jH 1 (jB x172),jH 5 (jB x175),(7,.bool false),(23,.bool true)],[])] [] [] [0] [1,3,53] (.norm,(f15n3E bf1 ba2 bc3 (.norm true)).2) (ap4 (Qp h174) (ap (Qw h177) (ap4 (Qw h177) (ap (f25_ok bc3 h173) (ap (f26_ok bc3 h176) an))))) rfl
 ·obtain rfl:=Qd h;exact rE Qg [(jT [4,5,6],[jH 1 (jB x172),(7,.bool true)],[])] [] [] [0] [1,3,53] (.norm,(f15n3E bf1 ba2 bc3 (.norm true)).2) (ap4 (Qw h174) (ap (f25_ok bc3 h173) an)) rfl
inductive f15n2O where
 | norm
 | ret
def f15n2E(bf1:Int)(ba2:Qj):f15n2O→Ex×Tr×Hp
 | .norm=>(.norm,mkS [(1,(.bp 0 0)),(3,(jI bf1))],[some (.box ((Qj.cells ba2).map .pl))])
 | .ret=>(.ret,mkS [(2,(jI 8))],[])
def f15n2S(bf1:Int)(ba2:Qj):Tr×Hp:=(mkS [(1,(.bp 0 0)),(3,(jI bf1))],[some (.box ((Qj.cells ba2).map .pl))])
noncomputable def f15n2(bf1:Int)(ba2:Qj):Option f15n2O :=
 (at? ba2.Records bf1).bind fun x138 =>
 (f15n3 bf1 ba2 x138).bind fun o189=>match o189 with
 | .norm v191=>bif v191 then
   some .ret
  else
   some .norm
theorem f15n2_ok(bf1:Int)(ba2:Qj){o:f15n2O}(h:f15n2 bf1 ba2=some o):T Try.prog Try.f15.ntmps 0 (cL (Ql 1 (cL (cL (Ql 1 (cL (Ql 2 c15))))))) (f15n2S bf1 ba2) (·=f15n2E bf1 ba2 o):=by
 unfold f15n2 at h;refine T.block' (i:=1) (by kernel_rfl) ?_;obtain ⟨x138,h139,h⟩:=Qe h;refine rN Qg 1 [([],[(3,.idx (Int.toNat bf1) (Qa.cells x138))],[])] [] [] [0,1] [1,3,4] (f15n3S bf1 ba2 x138) (ap (Qi h139).1 (ap (Qq Qa.cells (Qi h139).2) an)) ?_;obtain ⟨o189,h190,h⟩:=Qe h;cases o189 with
 | norm v191 =>
  refine T.oneN (by kernel_rfl) (f15n3_ok bf1 ba2 x138 h190) (st2:=(f15n3E bf1 ba2 x138 (.norm v191)).2) rfl ?_;rcases Qf h with ⟨h193,h⟩|⟨h193,h⟩
  ·obtain rfl:=Qd h;exact rE Qg [j3] [some true] [] [] [2] (.ret,(f15n2E bf1 ba2 .ret).2) (ap h193 an) rfl
  ·obtain rfl:=Qd h;exact rE Qg [] [some false] [] [0] [1,3] (.norm,(f15n2E bf1 ba2 .norm).2) (ap h193 an) rfl
inductive f15n4O where
 | exit0
 | ret
def f15n4E(ba1:Qj):f15n4O→Ex×Tr×Hp
 | .exit0=>((.exit 0),mkS [],[])
 | .ret=>(.ret,mkS [(2,(jI 8))],[])
def f15n4S(ba1:Qj)(v113:Int):Tr×Hp:=(mkS [(1,(.bp 0 0)),(3,(jI v113))],[some (.box ((Qj.cells ba1).map .pl))])
noncomputable def f15n4:Nat→Qj→Int→Option f15n4O
 | 0,_,_=>none
 | f+1,ba1,v113 =>
  bif decide (v113<(ba1.Records.length:Int)) then
   (f15n2 v113 ba1).bind fun o194=>match o194 with
   | .norm=>(f15n4 f ba1 (wr64 (v113+1)))
   | .ret=>some .ret
  else
   some .exit0
theorem f15n4_ok:∀(f:Nat)(ba1:Qj)(v113:Int){o:f15n4O},f15n4 f ba1 v113=some o→TL Try.prog Try.f15.ntmps 0 f (cL (cL (Ql 1 (cL (Ql 2 c15))))) (f15n4S ba1 v113) (·=f15n4E ba1 o)
 | 0,_,_,o,h=>by rw [f15n4] at h; cases h
 | f+1,ba1,v113,o,h=>by
  rw [f15n4] at h;refine TL.body (K:=fun s=>∃v113:Int,s=(f15n4S ba1 v113)∧f15n4 f ba1 v113=some o) ?_ (by rintro _ ⟨v113,rfl,hk⟩; exact f15n4_ok f _ _ hk);rcases Qf h with ⟨h115,h⟩|⟨h115,h⟩
  ·refine rN Qg 1 [([],[],[(3,.val (jI (ba1.Records.length:Int)))])] [some true] [] [0] [1,3] (f15n2S v113 ba1) (ap (Qr (xs:=ba1.Records) (c:=Qa.cells)) (ap h115 an)) ?_;obtain ⟨o194,h195,h⟩:=Qe h;cases o194 with
   | norm =>
    refine T.oneN (by kernel_rfl) (f15n2_ok v113 ba1 h195) (st2:=(f15n2E v113 ba1 .norm).2) rfl ?_;exact rE Qg [j3] [] [] [0] [1,3] (.norm,(f15n4S ba1 (wr64 (v113+1)))) an (Qs.norm ⟨(wr64 (v113+1)),rfl,h⟩)
   | ret =>
    obtain rfl:=Qd h;exact T.oneX' (by kernel_rfl) (f15n2_ok v113 ba1 h195) (tds:=[]) (m:=[]) (keep:=[2]) (st2:=(f15n4E ba1 .ret).2) (by kernel_rfl) an rfl (Qs.out rfl rfl)
  ·obtain rfl:=Qd h;exact rK Qg 1 [([],[],[(3,.val (jI (ba1.Records.length:Int)))])] [some false] [] [] [] (.exit 0) ((f15n4E ba1 .exit0).2) (ap (Qr (xs:=ba1.Records) (c:=Qa.cells)) (ap h115 an)) (Qs.out rfl rfl)
inductive f15n1O where
 | norm
 | ret
def f15n1E(ba1:Qj):f15n1O→Ex×Tr×Hp
 | .norm=>(.norm,mkS [],[])
 | .ret=>(.ret,mkS [(2,(jI 8))],[])
def f15n1S(ba1:Qj):Tr×Hp:=(mkS [(1,(.bp 0 0))],[some (.box ((Qj.cells ba1).map .pl))])
noncomputable def f15n1(ba1:Qj):Option f15n1O :=
 (f15n4 FUEL ba1 0).bind fun o196=>match o196 with
 | .exit0=>some .norm
 | .ret=>some .ret
theorem f15n1_ok(ba1:Qj){o:f15n1O}(h:f15n1 ba1=some o):T Try.prog Try.f15.ntmps 0 (cL (Ql 2 c15)) (f15n1S ba1) (·=f15n1E ba1 o):=by
 unfold f15n1 at h;refine rN Qg 1 [j3] [] [] [0] [1,3] (f15n4S ba1 0) an ?_;obtain ⟨o196,h197,h⟩:=Qe h;cases o196 with
 | exit0 =>
  obtain rfl:=Qd h;exact T.last' (T.bl (i:=0) (by kernel_rfl) (by kernel_rfl) (f15n4_ok FUEL ba1 0 h197)) (tds:=[]) (m:=[]) (keep:=[]) (st2:=(f15n1E ba1 .norm).2) (by kernel_rfl) an rfl
 | ret =>
  obtain rfl:=Qd h;exact T.last' (T.bl (i:=0) (by kernel_rfl) (by kernel_rfl) (f15n4_ok FUEL ba1 0 h197)) (tds:=[]) (m:=[]) (keep:=[2]) (st2:=(f15n1E ba1 .ret).2) (by kernel_rfl) an rfl
inductive f15n0O where
 | ret (v200:Int)
def f15n0E(a1:Qj):f15n0O→Ex×Tr×Hp
 | .ret v200=>(.ret,mkS [(2,(jI v200))],[])
def f15n0S(a1:Qj):Tr×Hp:=(Qad [(jA Qj.cells a1)] 0 .leaf,[])
noncomputable def f15n0(a1:Qj):Option f15n0O :=
 bif decide (200<(a1.Records.length:Int)) then
  some (.ret 8)
 else
  (f15n1 a1).bind fun o198=>match o198 with
  | .norm=>some (.ret 0)
  | .ret=>some (.ret 8)
theorem f15n0_ok(a1:Qj){o:f15n0O}(h:f15n0 a1=some o):T Try.prog Try.f15.ntmps 0 c15 (f15n0S a1) (·=f15n0E a1 o):=by
 unfold f15n0 at h;rcases Qf h with ⟨h3,h⟩|⟨h3,h⟩
 ·obtain rfl:=Qd h;exact rK Qg 2 [j3,([],[],[(2,.val (jI (a1.Records.length:Int)))]),j3] [some true] [] [] [2] .ret ((f15n0E a1 (.ret 8)).2) (ap (Qr (xs:=a1.Records) (c:=Qa.cells)) (ap h3 an)) rfl
 ·refine rN Qg 2 [j3,([],[],[(2,.val (jI (a1.Records.length:Int)))])] [some false] [] [0] [1] (f15n1S a1) (ap (Qr (xs:=a1.Records) (c:=Qa.cells)) (ap h3 an)) ?_;obtain ⟨o198,h199,h⟩:=Qe h;cases o198 with
  | norm =>
   refine T.oneN (by kernel_rfl) (f15n1_ok a1 h199) (st2:=(f15n1E a1 .norm).2) rfl ?_;obtain rfl:=Qd h;exact rE Qg [j3] [] [] [] [2] (.ret,(f15n0E a1 (.ret 0)).2) an rfl
  | ret =>
   obtain rfl:=Qd h;exact T.oneX' (by kernel_rfl) (f15n1_ok a1 h199) (tds:=[]) (m:=[]) (keep:=[2]) (st2:=(f15n0E a1 (.ret 8)).2) (by kernel_rfl) an rfl rfl
noncomputable def f15(a1:Qj):Option Int:=(f15n0 a1).bind fun o=>match o with
 | .ret v200=>some v200
theorem f15_ok(a1:Qj){r:Int}(h:f15 a1=some r):Qo Try.prog false 15 [(jA Qj.cells a1)] [] (jI r) []:=by
 unfold f15 at h;obtain ⟨o,ho,h⟩:=Qe h;cases o with
 | ret v200 =>
  obtain rfl:=Qd h;exact Qo.plain Qg (f:=Try.f15) (c:=c15) (by kernel_rfl) (by kernel_rfl) (by kernel_rfl) (by kernel_rfl) ((f15n0_ok a1 ho).mono fun r e=>by subst e; exact ⟨.inl rfl,(jI v200),(jI v200),by kernel_rfl,by kernel_rfl,((Wk.refl _):Wk (jI v200) (jI v200))⟩)

noncomputable def c44:Code:=Try.f44.body.getD .skip
inductive f44n0O where
 | ret (v6:Bool)
def f44n0E(a1 a2 a3:Int):f44n0O→Ex×Tr×Hp
 | .ret v6=>(.ret,mkS [(6,(jB v6))],[])
def f44n0S(a1 a2 a3:Int):Tr×Hp:=(Qad [(jI a1),(jI a2),(jI a3)] 0 .leaf,[])
noncomputable def f44n0(a1 a2 a3:Int):Option f44n0O :=
 bif decide (a2≤a1) then
  some (.ret (decide (a1≤a3)))
 else
  some (.ret false)
theorem f44n0_ok(a1 a2 a3:Int){o:f44n0O}(h:f44n0 a1 a2 a3=some o):T Try.prog Try.f44.ntmps 0 c44 (f44n0S a1 a2 a3) (·=f44n0E a1 a2 a3 o):=by
 unfold f44n0 at h;rcases Qf h with ⟨h5,h⟩|⟨h5,h⟩
 ·obtain rfl:=Qd h;exact rE Qg [j3,(jT [4,5,6],[(7,.bool true)],[])] [] [] [] [6] (.ret,(f44n0E a1 a2 a3 (.ret (decide (a1≤a3)))).2) (ap4 h5 an) rfl
 ·obtain rfl:=Qd h;exact rE Qg [j3,(jF [4,5,6],[(7,.bool false)],[])] [] [] [] [6] (.ret,(f44n0E a1 a2 a3 (.ret false)).2) (ap4 h5 an) rfl
noncomputable def f44(a1 a2 a3:Int):Option Bool:=(f44n0 a1 a2 a3).bind fun o=>match o with
 | .ret v6=>some v6
theorem f44_ok(a1 a2 a3:Int){r:Bool}(h:f44 a1 a2 a3=some r):Qo Try.prog false 44 [(jI a1),(jI a2),(jI a3)] [] (jB r) []:=by
 unfold f44 at h;obtain ⟨o,ho,h⟩:=Qe h;cases o with
 | ret v6 =>
  obtain rfl:=Qd h;exact Qo.plain Qg (f:=Try.f44) (c:=c44) (by kernel_rfl) (by kernel_rfl) (by kernel_rfl) (by kernel_rfl) ((f44n0_ok a1 a2 a3 ho).mono fun r e=>by subst e; exact ⟨.inl rfl,(jB v6),(jB v6),by kernel_rfl,by kernel_rfl,((Wk.refl _):Wk (jB v6) (jB v6))⟩)

noncomputable def c46:Code:=Try.f46.body.getD .skip
inductive f46n0O where
 | ret (v6:Bool)
def f46n0E(a1:Int):f46n0O→Ex×Tr×Hp
 | .ret v6=>(.ret,mkS [(2,(jB v6))],[])
def f46n0S(a1:Int):Tr×Hp:=(Qad [(jI a1)] 0 .leaf,[])
noncomputable def f46n0(a1:Int):Option f46n0O :=
 bif decide ((Int.tmod a1 400)=0) then
  some (.ret true)
 else
  bif decide ((Int.tmod a1 100)=0) then
   some (.ret false)
  else
   some (.ret (decide ((Int.tmod a1 4)=0)))
theorem f46n0_ok(a1:Int){o:f46n0O}(h:f46n0 a1=some o):T Try.prog Try.f46.ntmps 0 c46 (f46n0S a1) (·=f46n0E a1 o):=by
 unfold f46n0 at h;rcases Qf h with ⟨h3,h⟩|⟨h3,h⟩
 ·obtain rfl:=Qd h;exact rK Qg 2 [j3,j3,j3] [some true] [] [] [2] .ret ((f46n0E a1 (.ret true)).2) (ap h3 an) rfl
 ·rcases Qf h with ⟨h5,h⟩|⟨h5,h⟩
  ·obtain rfl:=Qd h;exact rK Qg 3 [j3,j3,j3,j3] [some false,some true] [] [] [2] .ret ((f46n0E a1 (.ret false)).2) (ap h3 (ap h5 an)) rfl
  ·obtain rfl:=Qd h;exact rE Qg [j3,j3,j3,j3] [some false,some false] [] [] [2] (.ret,(f46n0E a1 (.ret (decide ((Int.tmod a1 4)=0)))).2) (ap h3 (ap h5 an)) rfl
noncomputable def f46(a1:Int):Option Bool:=(f46n0 a1).bind fun o=>match o with
 | .ret v6=>some v6
theorem f46_ok(a1:Int){r:Bool}(h:f46 a1=some r):Qo Try.prog false 46 [(jI a1)] [] (jB r) []:=by
 unfold f46 at h;obtain ⟨o,ho,h⟩:=Qe h;cases o with
 | ret v6 =>
  obtain rfl:=Qd h;exact Qo.plain Qg (f:=Try.f46) (c:=c46) (by kernel_rfl) (by kernel_rfl) (by kernel_rfl) (by kernel_rfl) ((f46n0_ok a1 ho).mono fun r e=>by subst e; exact ⟨.inl rfl,(jB v6),(jB v6),by kernel_rfl,by kernel_rfl,((Wk.refl _):Wk (jB v6) (jB v6))⟩)

noncomputable def c45:Code:=Try.f45.body.getD .skip
inductive f45n3O where
 | norm (v28:Bool)
def f45n3E(bf1 bf2:Int):f45n3O→Ex×Tr×Hp
 | .norm v28=>(.norm,mkS [(0,(jI bf1)),(5,(jI bf2)),(6,(jB v28))],[])
def f45n3S(bf1 bf2:Int):Tr×Hp:=(mkS [(0,(jI bf1)),(5,(jI bf2))],[])
noncomputable def f45n3(bf1 bf2:Int):Option f45n3O :=
 bif decide (bf2=4) then
  some (.norm (decide (bf2=4)))
 else
  bif decide (bf2=6) then
   some (.norm (decide (bf2=6)))
  else
   bif decide (bf2=9) then
    some (.norm (decide (bf2=9)))
   else
    some (.norm (decide (bf2=11)))
theorem f45n3_ok(bf1 bf2:Int){o:f45n3O}(h:f45n3 bf1 bf2=some o):T Try.prog Try.f45.ntmps 0 (cL (Ql 0 (cL (Ql 1 (cL (Ql 1 c45)))))) (f45n3S bf1 bf2) (·=f45n3E bf1 bf2 o):=by
 unfold f45n3 at h;rcases Qf h with ⟨h25,h⟩|⟨h25,h⟩
 ·obtain rfl:=Qd h;exact rE Qg [j3] [some true] [] [] [0,5,6] (.norm,(f45n3E bf1 bf2 (.norm (decide (bf2=4)))).2) (ap h25 an) rfl
 ·rcases Qf h with ⟨h26,h⟩|⟨h26,h⟩
  ·obtain rfl:=Qd h;exact rE Qg [j3,j3] [some false,some true] [] [] [0,5,6] (.norm,(f45n3E bf1 bf2 (.norm (decide (bf2=6)))).2) (ap h25 (ap h26 an)) rfl
  ·rcases Qf h with ⟨h27,h⟩|⟨h27,h⟩
   ·obtain rfl:=Qd h;exact rE Qg [j3,j3,j3] [some false,some false,some true] [] [] [0,5,6] (.norm,(f45n3E bf1 bf2 (.norm (decide (bf2=9)))).2) (ap h25 (ap h26 (ap h27 an))) rfl
   ·obtain rfl:=Qd h;exact rE Qg [j3,j3,j3,j3] [some false,some false,some false] [] [] [0,5,6] (.norm,(f45n3E bf1 bf2 (.norm (decide (bf2=11)))).2) (ap h25 (ap h26 (ap h27 an))) rfl
inductive f45n2O where
 | norm
 | ret (v42:Int)
def f45n2E(bf1 bf2:Int):f45n2O→Ex×Tr×Hp
 | .norm=>(.norm,mkS [],[])
 | .ret v42=>(.ret,mkS [(4,(jI v42))],[])
def f45n2S(bf1 bf2:Int):Tr×Hp:=(mkS [(0,(jI bf1)),(5,(jI bf2))],[])
noncomputable def f45n2(bf1 bf2:Int):Option f45n2O :=
 (f45n3 bf1 bf2).bind fun o29=>match o29 with
 | .norm v31=>bif v31 then
   some (.ret 30)
  else
   bif decide (bf2=2) then
    (f46 bf1).bind fun x39 =>
    bif x39 then
     some (.ret 29)
    else
     some (.ret 28)
   else
    some .norm
theorem f45n2_ok(bf1 bf2:Int){o:f45n2O}(h:f45n2 bf1 bf2=some o):T Try.prog Try.f45.ntmps 0 (Ql 1 (cL (Ql 1 c45))) (f45n2S bf1 bf2) (·=f45n2E bf1 bf2 o):=by
 unfold f45n2 at h;refine T.block' (i:=0) (by kernel_rfl) ?_;refine rN Qg 0 [] [] [] [] [0,5] (f45n3S bf1 bf2) an ?_;obtain ⟨o29,h30,h⟩:=Qe h;cases o29 with
 | norm v31 =>
  refine T.oneN (by kernel_rfl) (f45n3_ok bf1 bf2 h30) (st2:=(f45n3E bf1 bf2 (.norm v31)).2) rfl ?_;rcases Qf h with ⟨h37,h⟩|⟨h37,h⟩
  ·obtain rfl:=Qd h;exact rE Qg [j3] [some true] [] [] [4] (.ret,(f45n2E bf1 bf2 (.ret 30)).2) (ap h37 an) rfl
  ·rcases Qf h with ⟨h38,h⟩|⟨h38,h⟩
   ·obtain ⟨x39,h40,h⟩:=Qe h;rcases Qf h with ⟨h41,h⟩|⟨h41,h⟩
    ·obtain rfl:=Qd h;exact rE Qg [j3,([],[jH 1 (jB x39)],[]),j3] [some false,some true,some true] [] [] [4] (.ret,(f45n2E bf1 bf2 (.ret 29)).2) (ap h37 (ap h38 (ap (f46_ok bf1 h40) (ap h41 an)))) rfl
    ·obtain rfl:=Qd h;exact rE Qg [j3,([],[jH 1 (jB x39)],[]),j3] [some false,some true,some false] [] [] [4] (.ret,(f45n2E bf1 bf2 (.ret 28)).2) (ap h37 (ap h38 (ap (f46_ok bf1 h40) (ap h41 an)))) rfl
   ·obtain rfl:=Qd h;exact rE Qg [j3] [some false,some false] [] [] [] (.norm,(f45n2E bf1 bf2 .norm).2) (ap h37 (ap h38 an)) rfl
inductive f45n1O where
 | norm
 | ret (v46:Int)
def f45n1E(bf1 bf2:Int):f45n1O→Ex×Tr×Hp
 | .norm=>(.norm,mkS [],[])
 | .ret v46=>(.ret,mkS [(4,(jI v46))],[])
def f45n1S(bf1 bf2:Int):Tr×Hp:=(mkS [(0,(jI bf1)),(1,(jI bf2))],[])
noncomputable def f45n1(bf1 bf2:Int):Option f45n1O :=
 (f45n2 bf1 bf2).bind fun o43=>match o43 with
 | .norm=>some .norm
 | .ret v45=>some (.ret v45)
theorem f45n1_ok(bf1 bf2:Int){o:f45n1O}(h:f45n1 bf1 bf2=some o):T Try.prog Try.f45.ntmps 0 (cL (Ql 1 c45)) (f45n1S bf1 bf2) (·=f45n1E bf1 bf2 o):=by
 unfold f45n1 at h;refine rN Qg 1 [j3] [] [] [] [0,5] (f45n2S bf1 bf2) an ?_;obtain ⟨o43,h44,h⟩:=Qe h;cases o43 with
 | norm =>
  obtain rfl:=Qd h;exact T.last' (f45n2_ok bf1 bf2 h44) (tds:=[]) (m:=[]) (keep:=[]) (st2:=(f45n1E bf1 bf2 .norm).2) (by kernel_rfl) an rfl
 | ret v45 =>
  obtain rfl:=Qd h;exact T.last' (f45n2_ok bf1 bf2 h44) (tds:=[]) (m:=[]) (keep:=[4]) (st2:=(f45n1E bf1 bf2 (.ret v45)).2) (by kernel_rfl) an rfl
inductive f45n0O where
 | ret (v50:Int)
def f45n0E(a1 a2:Int):f45n0O→Ex×Tr×Hp
 | .ret v50=>(.ret,mkS [(4,(jI v50))],[])
def f45n0S(a1 a2:Int):Tr×Hp:=(Qad [(jI a1),(jI a2)] 0 .leaf,[])
noncomputable def f45n0(a1 a2:Int):Option f45n0O :=
 (f45n1 a1 a2).bind fun o47=>match o47 with
 | .norm=>some (.ret 31)
 | .ret v49=>some (.ret v49)
theorem f45n0_ok(a1 a2:Int){o:f45n0O}(h:f45n0 a1 a2=some o):T Try.prog Try.f45.ntmps 0 c45 (f45n0S a1 a2) (·=f45n0E a1 a2 o):=by
 unfold f45n0 at h;refine rN Qg 1 [j3] [] [] [] [0,1] (f45n1S a1 a2) an ?_;obtain ⟨o47,h48,h⟩:=Qe h;cases o47 with
 | norm =>
  refine T.oneN (by kernel_rfl) (f45n1_ok a1 a2 h48) (st2:=(f45n1E a1 a2 .norm).2) rfl ?_;obtain rfl:=Qd h;exact rE Qg [j3] [] [] [] [4] (.ret,(f45n0E a1 a2 (.ret 31)).2) an rfl
 | ret v49 =>
  obtain rfl:=Qd h;exact T.oneX' (by kernel_rfl) (f45n1_ok a1 a2 h48) (tds:=[]) (m:=[]) (keep:=[4]) (st2:=(f45n0E a1 a2 (.ret v49)).2) (by kernel_rfl) an rfl rfl
noncomputable def f45(a1 a2:Int):Option Int:=(f45n0 a1 a2).bind fun o=>match o with
 | .ret v50=>some v50
theorem f45_ok(a1 a2:Int){r:Int}(h:f45 a1 a2=some r):Qo Try.prog false 45 [(jI a1),(jI a2)] [] (jI r) []:=by
 unfold f45 at h;obtain ⟨o,ho,h⟩:=Qe h;cases o with
 | ret v50 =>
  obtain rfl:=Qd h;exact Qo.plain Qg (f:=Try.f45) (c:=c45) (by kernel_rfl) (by kernel_rfl) (by kernel_rfl) (by kernel_rfl) ((f45n0_ok a1 a2 ho).mono fun r e=>by subst e; exact ⟨.inl rfl,(jI v50),(jI v50),by kernel_rfl,by kernel_rfl,((Wk.refl _):Wk (jI v50) (jI v50))⟩)

noncomputable def c47:Code:=Try.f47.body.getD .skip
inductive f47n0O where
 | ret (v6:Bool)
def f47n0E(a1:Int):f47n0O→Ex×Tr×Hp
 | .ret v6=>(.ret,mkS [(2,(jB v6))],[])
def f47n0S(a1:Int):Tr×Hp:=(Qad [(jI a1)] 0 .leaf,[])
noncomputable def f47n0(a1:Int):Option f47n0O :=
 (f44 a1 0 99999).bind fun x4 =>
 some (.ret x4)
theorem f47n0_ok(a1:Int){o:f47n0O}(h:f47n0 a1=some o):T Try.prog Try.f47.ntmps 0 c47 (f47n0S a1) (·=f47n0E a1 o):=by
 unfold f47n0 at h;obtain ⟨x4,h5,h⟩:=Qe h;obtain rfl:=Qd h;exact rE Qg [j3,([],[jH 1 (jB x4)],[])] [] [] [] [2] (.ret,(f47n0E a1 (.ret x4)).2) (ap (f44_ok a1 0 99999 h5) an) rfl
noncomputable def f47(a1:Int):Option Bool:=(f47n0 a1).bind fun o=>match o with
 | .ret v6=>some v6
theorem f47_ok(a1:Int){r:Bool}(h:f47 a1=some r):Qo Try.prog false 47 [(jI a1)] [] (jB r) []:=by
 unfold f47 at h;obtain ⟨o,ho,h⟩:=Qe h;cases o with
 | ret v6 =>
  obtain rfl:=Qd h;exact Qo.plain Qg (f:=Try.f47) (c:=c47) (by kernel_rfl) (by kernel_rfl) (by kernel_rfl) (by kernel_rfl) ((f47n0_ok a1 ho).mono fun r e=>by subst e; exact ⟨.inl rfl,(jB v6),(jB v6),by kernel_rfl,by kernel_rfl,((Wk.refl _):Wk (jB v6) (jB v6))⟩)

noncomputable def c32:Code:=Try.f32.body.getD .skip
inductive f32n2O where
 | exit0 (v54:Int)
def f32n2E(bf1 bf2:Int):f32n2O→Ex×Tr×Hp
 | .exit0 v54=>((.exit 0),mkS [(0,(jI bf1)),(1,(jI bf2)),(8,(jI v54))],[])
def f32n2S(bf1 bf2 v44 v45:Int):Tr×Hp:=(mkS [(0,(jI bf1)),(1,(jI bf2)),(8,(jI v44)),(9,(jI v45))],[])
noncomputable def f32n2:Nat→Int→Int→Int→Int→Option f32n2O
 | 0,_,_,_,_=>none
 | f+1,bf1,bf2,v44,v45 =>
  bif decide (v45<bf1) then
   (f46 v45).bind fun x51 =>
   bif x51 then
    (f32n2 f bf1 bf2 (wr64 ((wr64 (v44+365))+1)) (wr64 (v45+1)))
   else
    (f32n2 f bf1 bf2 (wr64 (v44+365)) (wr64 (v45+1)))
  else
   some (.exit0 v44)
theorem f32n2_ok:∀(f:Nat)(bf1 bf2 v44 v45:Int){o:f32n2O},f32n2 f bf1 bf2 v44 v45=some o→TL Try.prog Try.f32.ntmps 0 f (cL (cL (Ql 1 (cL (Ql 1 (Ql 2 c32)))))) (f32n2S bf1 bf2 v44 v45) (·=f32n2E bf1 bf2 o)
 | 0,_,_,_,_,o,h=>by rw [f32n2] at h; cases h
 | f+1,bf1,bf2,v44,v45,o,h=>by
  rw [f32n2] at h;refine TL.body (K:=fun s=>∃v44:Int,∃v45:Int,s=(f32n2S bf1 bf2 v44 v45)∧f32n2 f bf1 bf2 v44 v45=some o) ?_ (by rintro _ ⟨v44,v45,rfl,hk⟩; exact f32n2_ok f _ _ _ _ hk);rcases Qf h with ⟨h47,h⟩|⟨h47,h⟩
  ·obtain ⟨x51,h52,h⟩:=Qe h;rcases Qf h with ⟨h53,h⟩|⟨h53,h⟩
   ·exact rE Qg [j3,j3,([],[jH 1 (jB x51)],[]),j3,j3] [some true,some true] [] [] [0,1,8,9] (.norm,(f32n2S bf1 bf2 (wr64 ((wr64 (v44+365))+1)) (wr64 (v45+1)))) (ap h47 (ap (f46_ok v45 h52) (ap h53 an))) (Qs.norm ⟨(wr64 ((wr64 (v44+365))+1)),(wr64 (v45+1)),rfl,h⟩)
   ·exact rE Qg [j3,j3,([],[jH 1 (jB x51)],[]),j3] [some true,some false] [] [] [0,1,8,9] (.norm,(f32n2S bf1 bf2 (wr64 (v44+365)) (wr64 (v45+1)))) (ap h47 (ap (f46_ok v45 h52) (ap h53 an))) (Qs.norm ⟨(wr64 (v44+365)),(wr64 (v45+1)),rfl,h⟩)
  ·obtain rfl:=Qd h;exact rK Qg 1 [j3] [some false] [] [] [0,1,8] (.exit 0) ((f32n2E bf1 bf2 (.exit0 v44)).2) (ap h47 an) (Qs.out rfl rfl)
inductive f32n1O where
 | norm (v58:Int)
def f32n1E(bf1 bf2 bf3:Int):f32n1O→Ex×Tr×Hp
 | .norm v58=>(.norm,mkS [(0,(jI bf1)),(1,(jI bf2)),(8,(jI v58))],[])
def f32n1S(bf1 bf2 bf3:Int):Tr×Hp:=(mkS [(0,(jI bf1)),(1,(jI bf2)),(8,(jI (wr64 (bf3-1))))],[])
noncomputable def f32n1(bf1 bf2 bf3:Int):Option f32n1O :=
 (f32n2 FUEL bf1 bf2 (wr64 (bf3-1)) 1900).bind fun o55=>match o55 with
 | .exit0 v57=>some (.norm v57)
theorem f32n1_ok(bf1 bf2 bf3:Int){o:f32n1O}(h:f32n1 bf1 bf2 bf3=some o):T Try.prog Try.f32.ntmps 0 (cL (Ql 1 (Ql 2 c32))) (f32n1S bf1 bf2 bf3) (·=f32n1E bf1 bf2 bf3 o):=by
 unfold f32n1 at h;refine rN Qg 1 [j3] [] [] [] [0,1,8,9] (f32n2S bf1 bf2 (wr64 (bf3-1)) 1900) an ?_;obtain ⟨o55,h56,h⟩:=Qe h;cases o55 with
 | exit0 v57 =>
  obtain rfl:=Qd h;exact T.last' (T.bl (i:=0) (by kernel_rfl) (by kernel_rfl) (f32n2_ok FUEL bf1 bf2 (wr64 (bf3-1)) 1900 h56)) (tds:=[]) (m:=[]) (keep:=[0,1,8]) (st2:=(f32n1E bf1 bf2 bf3 (.norm v57)).2) (by kernel_rfl) an rfl
inductive f32n4O where
 | exit2 (v84:Int)
def f32n4E(bf1 bf2:Int):f32n4O→Ex×Tr×Hp
 | .exit2 v84=>((.exit 2),mkS [(8,(jI v84))],[])
def f32n4S(bf1 bf2 v76 v77:Int):Tr×Hp:=(mkS [(0,(jI bf1)),(1,(jI bf2)),(8,(jI v76)),(10,(jI v77))],[])
noncomputable def f32n4:Nat→Int→Int→Int→Int→Option f32n4O
 | 0,_,_,_,_=>none
 | f+1,bf1,bf2,v76,v77 =>
  bif decide (v77<bf2) then
   (f45 bf1 v77).bind fun x82 =>
   (f32n4 f bf1 bf2 (wr64 (v76+x82)) (wr64 (v77+1)))
  else
   some (.exit2 v76)
theorem f32n4_ok:∀(f:Nat)(bf1 bf2 v76 v77:Int){o:f32n4O},f32n4 f bf1 bf2 v76 v77=some o→TL Try.prog Try.f32.ntmps 0 f (cL (cL (Ql 1 (cL (Ql 0 (Ql 1 (Ql 1 (Ql 2 c32)))))))) (f32n4S bf1 bf2 v76 v77) (·=f32n4E bf1 bf2 o)
 | 0,_,_,_,_,o,h=>by rw [f32n4] at h; cases h
 | f+1,bf1,bf2,v76,v77,o,h=>by
  rw [f32n4] at h;refine TL.body (K:=fun s=>∃v76:Int,∃v77:Int,s=(f32n4S bf1 bf2 v76 v77)∧f32n4 f bf1 bf2 v76 v77=some o) ?_ (by rintro _ ⟨v76,v77,rfl,hk⟩; exact f32n4_ok f _ _ _ _ hk);rcases Qf h with ⟨h79,h⟩|⟨h79,h⟩
  ·obtain ⟨x82,h83,h⟩:=Qe h;exact rE Qg [j3,([],[jH 3 (jI x82)],[]),j3] [some true] [] [] [0,1,8,10] (.norm,(f32n4S bf1 bf2 (wr64 (v76+x82)) (wr64 (v77+1)))) (ap h79 (ap (f45_ok bf1 v77 h83) an)) (Qs.norm ⟨(wr64 (v76+x82)),(wr64 (v77+1)),rfl,h⟩)
  ·obtain rfl:=Qd h;exact rK Qg 1 [j3] [some false] [] [] [8] (.exit 2) ((f32n4E bf1 bf2 (.exit2 v76)).2) (ap h79 an) (Qs.out rfl rfl)
inductive f32n3O where
 | norm (v88:Int)
def f32n3E(bf1 bf2 bf3:Int):f32n3O→Ex×Tr×Hp
 | .norm v88=>(.norm,mkS [(8,(jI v88))],[])
def f32n3S(bf1 bf2 bf3:Int):Tr×Hp:=(mkS [(0,(jI bf1)),(1,(jI bf2)),(8,(jI bf3))],[])
noncomputable def f32n3(bf1 bf2 bf3:Int):Option f32n3O :=
 (f32n4 FUEL bf1 bf2 bf3 1).bind fun o85=>match o85 with
 | .exit2 v87=>some (.norm v87)
theorem f32n3_ok(bf1 bf2 bf3:Int){o:f32n3O}(h:f32n3 bf1 bf2 bf3=some o):T Try.prog Try.f32.ntmps 0 (cL (Ql 0 (Ql 1 (Ql 1 (Ql 2 c32))))) (f32n3S bf1 bf2 bf3) (·=f32n3E bf1 bf2 bf3 o):=by
 unfold f32n3 at h;refine rN Qg 1 [j3] [] [] [] [0,1,8,10] (f32n4S bf1 bf2 bf3 1) an ?_;obtain ⟨o85,h86,h⟩:=Qe h;cases o85 with
 | exit2 v87 =>
  obtain rfl:=Qd h;exact T.last' (T.bl (i:=2) (by kernel_rfl) (by kernel_rfl) (f32n4_ok FUEL bf1 bf2 bf3 1 h86)) (tds:=[]) (m:=[]) (keep:=[8]) (st2:=(f32n3E bf1 bf2 bf3 (.norm v87)).2) (by kernel_rfl) an rfl
inductive f32n0O where
 | ret (v98:Int) (v99:Int)
def f32n0E(a1 a2 a3:Int):f32n0O→Ex×Tr×Hp
 | .ret v98 v99=>(.ret,mkS [(6,(jI v98)),(7,(jI v99))],[])
def f32n0S(a1 a2 a3:Int):Tr×Hp:=(Qad [(jI a1),(jI a2),(jI a3)] 0 .leaf,[])
noncomputable def f32n0(a1 a2 a3:Int):Option f32n0O :=
 (f44 a1 1900 2173).bind fun x15 =>
 bif x15 then
  (f44 a2 1 12).bind fun x18 =>
  bif x18 then
   (f45 a1 a2).bind fun x21 =>
   (f44 a3 1 x21).bind fun x23 =>
   bif x23 then
    (f32n1 a1 a2 a3).bind fun o59=>match o59 with
    | .norm v61=>(f32n3 a1 a2 v61).bind fun o89=>match o89 with
     | .norm v91=>(f47 v91).bind fun x95 =>
      bif x95 then
       some (.ret v91 0)
      else
       some (.ret 0 2)
   else
    some (.ret 0 2)
  else
   some (.ret 0 2)
 else
  some (.ret 0 2)
theorem f32n0_ok(a1 a2 a3:Int){o:f32n0O}(h:f32n0 a1 a2 a3=some o):T Try.prog Try.f32.ntmps 0 c32 (f32n0S a1 a2 a3) (·=f32n0E a1 a2 a3 o):=by
 unfold f32n0 at h;obtain ⟨x15,h16,h⟩:=Qe h;rcases Qf h with ⟨h17,h⟩|⟨h17,h⟩
 ·obtain ⟨x18,h19,h⟩:=Qe h;rcases Qf h with ⟨h20,h⟩|⟨h20,h⟩
  ·obtain ⟨x21,h22,h⟩:=Qe h;obtain ⟨x23,h24,h⟩:=Qe h;rcases Qf h with ⟨h25,h⟩|⟨h25,h⟩
   ·refine rN Qg 2 [j3,(jF [4,5,6,9,10,11,12,13,14],[jH 1 (jB x15),jH 5 (jB x18),(7,.bool false),jH 12 (jI x21),jH 13 (jB x23),(15,.bool false)],[])] [some false] [] [] [0,1,2] (mkS [(0,(jI a1)),(1,(jI a2)),(2,(jI a3))],[]) (ap4 (Qp h17) (ap3 (Qp h20) (ap4 (Qp h20) (ap (f44_ok a1 1900 2173 h16) (ap (f44_ok a2 1 12 h19) (ap (f45_ok a1 a2 h22) (ap (f44_ok a3 1 x21 h24) (ap (Qp h25) an)))))))) ?_;refine rN Qg 1 [j3] [] [] [] [0,1,8] (f32n1S a1 a2 a3) an ?_;obtain ⟨o59,h60,h⟩:=Qe h;cases o59 with
    | norm v61 =>
     refine T.oneN (by kernel_rfl) (f32n1_ok a1 a2 a3 h60) (st2:=(f32n1E a1 a2 a3 (.norm v61)).2) rfl ?_;refine rN Qg 0 [] [] [] [] [0,1,8] (f32n3S a1 a2 v61) an ?_;obtain ⟨o89,h90,h⟩:=Qe h;cases o89 with
     | norm v91 =>
      refine T.oneN (by kernel_rfl) (f32n3_ok a1 a2 v61 h90) (st2:=(f32n3E a1 a2 v61 (.norm v91)).2) rfl ?_;obtain ⟨x95,h96,h⟩:=Qe h;rcases Qf h with ⟨h97,h⟩|⟨h97,h⟩
      ·obtain rfl:=Qd h;exact rE Qg [([],[jH 1 (jB x95)],[]),j3] [some false] [] [] [6,7] (.ret,(f32n0E a1 a2 a3 (.ret v91 0)).2) (ap (f47_ok v91 h96) (ap (Qp h97) an)) rfl
      ·obtain rfl:=Qd h;exact rK Qg 1 [([],[jH 1 (jB x95)],[]),j3] [some true] [] [] [6,7] .ret ((f32n0E a1 a2 a3 (.ret 0 2)).2) (ap (f47_ok v91 h96) (ap (Qw h97) an)) rfl
   ·obtain rfl:=Qd h;exact rK Qg 2 [j3,(jF [4,5,6,9,10,11,12,13,14],[jH 1 (jB x15),jH 5 (jB x18),(7,.bool false),jH 12 (jI x21),jH 13 (jB x23),(15,.bool false)],[]),j3] [some true] [] [] [6,7] .ret ((f32n0E a1 a2 a3 (.ret 0 2)).2) (ap4 (Qp h17) (ap3 (Qp h20) (ap4 (Qp h20) (ap (f44_ok a1 1900 2173 h16) (ap (f44_ok a2 1 12 h19) (ap (f45_ok a1 a2 h22) (ap (f44_ok a3 1 x21 h24) (ap (Qw h25) an)))))))) rfl
  ·obtain rfl:=Qd h;exact rK Qg 2 [j3,(jF [4,5,6]++jT [9,10,11,12,13,14],[jH 1 (jB x15),jH 5 (jB x18),(7,.bool false),(15,.bool true)],[]),j3] [none] [] [] [6,7] .ret ((f32n0E a1 a2 a3 (.ret 0 2)).2) (ap4 (Qp h17) (ap3 (Qw h20) (ap4 (Qw h20) (ap (f44_ok a1 1900 2173 h16) (ap (f44_ok a2 1 12 h19) an))))) rfl
 ·obtain rfl:=Qd h;exact rK Qg 2 [j3,(jT [4,5,6],[jH 1 (jB x15),(7,.bool true)],[]),j3] [none] [] [] [6,7] .ret ((f32n0E a1 a2 a3 (.ret 0 2)).2) (ap4 (Qw h17) (ap (f44_ok a1 1900 2173 h16) an)) rfl
noncomputable def f32(a1 a2 a3:Int):Option (Int×Int):=(f32n0 a1 a2 a3).bind fun o=>match o with
 | .ret v98 v99=>some (v98,v99)
theorem f32_ok(a1 a2 a3:Int){r:Int×Int}(h:f32 a1 a2 a3=some r):Qo Try.prog false 32 [(jI a1),(jI a2),(jI a3)] [] (.tup [(jI r.1),(jI r.2)]) []:=by
 unfold f32 at h;obtain ⟨o,ho,h⟩:=Qe h;cases o with
 | ret v98 v99 =>
  obtain rfl:=Qd h;exact Qo.plain Qg (f:=Try.f32) (c:=c32) (by kernel_rfl) (by kernel_rfl) (by kernel_rfl) (by kernel_rfl) ((f32n0_ok a1 a2 a3 ho).mono fun r e=>by subst e; exact ⟨.inl rfl,(.tup [(jI v98),(jI v99)]),(.tup [(jI v98),(jI v99)]),by kernel_rfl,by kernel_rfl,((Wk.refl _):Wk (.tup [(jI v98),(jI v99)]) (.tup [(jI v98),(jI v99)]))⟩)

noncomputable def c20:Code:=Try.f20.body.getD .skip
inductive f20n2O where
 | norm (v164:Int) (v165:Qac)
 | ret
def f20n2E(bd1:ByteArray)(bf2 bf3:Int)(bn4:Qac):f20n2O→Ex×Tr×Hp
 | .norm v164 v165=>(.norm,mkS [(0,(jS bd1)),(4,(.bp 0 0)),(5,(jI v164)),(6,(jI bf3))],[some (.box ((Qac.cells v165).map .pl))])
 | .ret=>(.ret,mkS [(2,(jI 0)),(3,(jI 12))],[])
def f20n2S(bd1:ByteArray)(bf2 bf3:Int)(bn4:Qac):Tr×Hp:=(mkS [(0,(jS bd1)),(4,(.bp 0 0)),(5,(jI bf2)),(6,(jI bf3))],[some (.box ((Qac.cells bn4).map .pl))])
noncomputable def f20n2(bd1:ByteArray)(bf2 bf3:Int)(bn4:Qac):Option f20n2O :=
 bif decide (bf3=4) then
  (at? bd1.data.toList bf3).bind fun x143 =>
  bif decide ((x143.toNat:Int)=45) then
   some (.norm (wr64 (bf2+1)) bn4)
  else
   some .ret
 else
  bif decide (bf3=7) then
   (at? bd1.data.toList bf3).bind fun x147 =>
   bif decide ((x147.toNat:Int)=45) then
    some (.norm (wr64 (bf2+1)) bn4)
   else
    some .ret
  else
   (at? bd1.data.toList bf3).bind fun x154 =>
   bif decide ((x154.toNat:Int)<48) then
    some .ret
   else
    bif decide (57<(x154.toNat:Int)) then
     some .ret
    else
     bif decide (bf2=0) then
      some (.norm bf2 (Qac.mk (wr64 ((wr64 ((wr64 (10*bn4.e0))+(wr64 (x154.toNat:Int))))-48)) bn4.e1 bn4.e2))
     else
      bif decide (bf2=1) then
       some (.norm bf2 (Qac.mk bn4.e0 (wr64 ((wr64 ((wr64 (10*bn4.e1))+(wr64 (x154.toNat:Int))))-48)) bn4.e2))
      else
       bif decide (bf2=2) then
        some (.norm bf2 (Qac.mk bn4.e0 bn4.e1 (wr64 ((wr64 ((wr64 (10*bn4.e2))+(wr64 (x154.toNat:Int))))-48))))
       else
        none
theorem f20n2_ok(bd1:ByteArray)(bf2 bf3:Int)(bn4:Qac){o:f20n2O}(h:f20n2 bd1 bf2 bf3 bn4=some o):T Try.prog Try.f20.ntmps 0 (cL (Ql 1 (cL (cL (Ql 1 (cL (Ql 4 c20))))))) (f20n2S bd1 bf2 bf3 bn4) (·=f20n2E bd1 bf2 bf3 bn4 o):=by
 unfold f20n2 at h;refine T.block' (i:=1) (by kernel_rfl) ?_;rcases Qf h with ⟨h142,h⟩|⟨h142,h⟩
 ·obtain ⟨x143,h144,h⟩:=Qe h;rcases Qf h with ⟨h145,h⟩|⟨h145,h⟩
  ·obtain rfl:=Qd h;exact rK Qg 1 [([(3,true),(4,true)],[(5,.bool true)],[]),([],[(2,.byte (Int.toNat bf3) x143)],[]),j3] [none,some false] [] [0] [0,4,5,6] (.exit 1) ((f20n2E bd1 bf2 bf3 bn4 (.norm (wr64 (bf2+1)) bn4)).2) (ap3 h142 (ap (Qi h144).1 (ap (Qi h144).2 (ap (Qp h145) an)))) rfl
  ·obtain rfl:=Qd h;exact rK Qg 1 [([(3,true),(4,true)],[(5,.bool true)],[]),([],[(2,.byte (Int.toNat bf3) x143)],[]),j3] [none,some true] [] [] [2,3] .ret ((f20n2E bd1 bf2 bf3 bn4 .ret).2) (ap3 h142 (ap (Qi h144).1 (ap (Qi h144).2 (ap (Qw h145) an)))) rfl
 ·rcases Qf h with ⟨h146,h⟩|⟨h146,h⟩
  ·obtain ⟨x147,h148,h⟩:=Qe h;rcases Qf h with ⟨h149,h⟩|⟨h149,h⟩
   ·obtain rfl:=Qd h;exact rK Qg 1 [([(3,false),(4,false)],[(5,.bool false)],[]),([],[(2,.byte (Int.toNat bf3) x147)],[]),j3] [some true,some false] [] [0] [0,4,5,6] (.exit 1) ((f20n2E bd1 bf2 bf3 bn4 (.norm (wr64 (bf2+1)) bn4)).2) (ap3 h142 (ap h146 (ap (Qi h148).1 (ap (Qi h148).2 (ap (Qp h149) an))))) rfl
   ·obtain rfl:=Qd h;exact rK Qg 1 [([(3,false),(4,false)],[(5,.bool false)],[]),([],[(2,.byte (Int.toNat bf3) x147)],[]),j3] [some true,some true] [] [] [2,3] .ret ((f20n2E bd1 bf2 bf3 bn4 .ret).2) (ap3 h142 (ap h146 (ap (Qi h148).1 (ap (Qi h148).2 (ap (Qw h149) an))))) rfl
  ·obtain ⟨x154,h155,h⟩:=Qe h;rcases Qf h with ⟨h156,h⟩|⟨h156,h⟩
   ·obtain rfl:=Qd h;exact rK Qg 2 [([(3,false),(4,false)],[(5,.bool false)],[]),(jT [5,6,7,8],[(2,.byte (Int.toNat bf3) x154),(9,.bool true)],[]),j3] [some false,none] [] [] [2,3] .ret ((f20n2E bd1 bf2 bf3 bn4 .ret).2) (ap3 h142 (ap h146 (ap (Qi h155).1 (ap (Qi h155).2 (ap h156 (ap4 h156 an)))))) rfl
   ·rcases Qf h with ⟨h157,h⟩|⟨h157,h⟩
    ·obtain rfl:=Qd h;exact rK Qg 2 [([(3,false),(4,false)],[(5,.bool false)],[]),(jF [5,6,7,8],[(2,.byte (Int.toNat bf3) x154),(7,.byte (Int.toNat bf3) x154),(9,.bool false)],[]),j3] [some false,some true] [] [] [2,3] .ret ((f20n2E bd1 bf2 bf3 bn4 .ret).2) (ap3 h142 (ap h146 (ap (Qi h155).1 (ap (Qi h155).2 (ap3 h156 (ap (Qi h155).1 (ap (Qi h155).2 (ap2 h156 (ap h157 an))))))))) rfl
    ·rcases Qf h with ⟨h161,h⟩|⟨h161,h⟩
     ·obtain rfl:=Qd h;exact rE Qg [([(3,false),(4,false)],[(5,.bool false)],[]),(jF [5,6,7,8],[(2,.byte (Int.toNat bf3) x154),(7,.byte (Int.toNat bf3) x154),(9,.bool false)],[]),([],[(2,.at_ 0),(7,.byte (Int.toNat bf3) x154),(11,.at_ 0)],[])] [some false,some false] [] [0] [0,4,5,6] (.norm,(f20n2E bd1 bf2 bf3 bn4 (.norm bf2 (Qac.mk (wr64 ((wr64 ((wr64 (10*bn4.e0))+(wr64 (x154.toNat:Int))))-48)) bn4.e1 bn4.e2))).2) (ap3 h142 (ap h146 (ap (Qi h155).1 (ap (Qi h155).2 (ap3 h156 (ap (Qi h155).1 (ap (Qi h155).2 (ap2 h156 (ap h157 (ap (of_decide_eq_true h161) (ap (by decide:(0:Nat)<3) (ap (Qi h155).1 (ap (Qi h155).2 (ap (of_decide_eq_true h161) (ap (by decide:(0:Nat)<3) an))))))))))))))) rfl
     ·rcases Qf h with ⟨h162,h⟩|⟨h162,h⟩
      ·obtain rfl:=Qd h;exact rE Qg [([(3,false),(4,false)],[(5,.bool false)],[]),(jF [5,6,7,8],[(2,.byte (Int.toNat bf3) x154),(7,.byte (Int.toNat bf3) x154),(9,.bool false)],[]),([],[(2,.at_ 1),(7,.byte (Int.toNat bf3) x154),(11,.at_ 1)],[])] [some false,some false] [] [0] [0,4,5,6] (.norm,(f20n2E bd1 bf2 bf3 bn4 (.norm bf2 (Qac.mk bn4.e0 (wr64 ((wr64 ((wr64 (10*bn4.e1))+(wr64 (x154.toNat:Int))))-48)) bn4.e2))).2) (ap3 h142 (ap h146 (ap (Qi h155).1 (ap (Qi h155).2 (ap3 h156 (ap (Qi h155).1 (ap (Qi h155).2 (ap2 h156 (ap h157 (ap (of_decide_eq_true h162) (ap (by decide:(1:Nat)<3) (ap (Qi h155).1 (ap (Qi h155).2 (ap (of_decide_eq_true h162) (ap (by decide:(1:Nat)<3) an))))))))))))))) rfl
      ·rcases Qf h with ⟨h163,h⟩|⟨h163,h⟩
       ·obtain rfl:=Qd h;exact rE Qg [([(3,false),(4,false)],[(5,.bool false)],[]),(jF [5,6,7,8],[(2,.byte (Int.toNat bf3) x154),(7,.byte (Int.toNat bf3) x154),(9,.bool false)],[]),([],[(2,.at_ 2),(7,.byte (Int.toNat bf3) x154),(11,.at_ 2)],[])] [some false,some false] [] [0] [0,4,5,6] (.norm,(f20n2E bd1 bf2 bf3 bn4 (.norm bf2 (Qac.mk bn4.e0 bn4.e1 (wr64 ((wr64 ((wr64 (10*bn4.e2))+(wr64 (x154.toNat:Int))))-48))))).2) (ap3 h142 (ap h146 (ap (Qi h155).1 (ap (Qi h155).2 (ap3 h156 (ap (Qi h155).1 (ap (Qi h155).2 (ap2 h156 (ap h157 (ap (of_decide_eq_true h163) (ap (by decide:(2:Nat)<3) (ap (Qi h155).1 (ap (Qi h155).2 (ap (of_decide_eq_true h163) (ap (by decide:(2:Nat)<3) an))))))))))))))) rfl
       ·cases h
inductive f20n3O where
 | exit0 (v170:Qac)
 | ret
def f20n3E(bd1:ByteArray):f20n3O→Ex×Tr×Hp
 | .exit0 v170=>((.exit 0),mkS [(4,(.bp 0 0))],[some (.box ((Qac.cells v170).map .pl))])
 | .ret=>(.ret,mkS [(2,(jI 0)),(3,(jI 12))],[])
def f20n3S(bd1:ByteArray)(v114 v115:Int)(v116:Qac):Tr×Hp:=(mkS [(0,(jS bd1)),(4,(.bp 0 0)),(5,(jI v114)),(6,(jI v115))],[some (.box ((Qac.cells v116).map .pl))])
noncomputable def f20n3:Nat→ByteArray→Int→Int→Qac→Option f20n3O
 | 0,_,_,_,_=>none
 | f+1,bd1,v114,v115,v116 =>
  bif decide (v115<10) then
   (f20n2 bd1 v114 v115 v116).bind fun o166=>match o166 with
   | .norm v168 v169=>(f20n3 f bd1 v168 (wr64 (v115+1)) v169)
   | .ret=>some .ret
  else
   some (.exit0 v116)
theorem f20n3_ok:∀(f:Nat)(bd1:ByteArray)(v114 v115:Int)(v116:Qac){o:f20n3O},f20n3 f bd1 v114 v115 v116=some o→TL Try.prog Try.f20.ntmps 0 f (cL (cL (Ql 1 (cL (Ql 4 c20))))) (f20n3S bd1 v114 v115 v116) (·=f20n3E bd1 o)
 | 0,_,_,_,_,o,h=>by rw [f20n3] at h; cases h
 | f+1,bd1,v114,v115,v116,o,h=>by
  rw [f20n3] at h;refine TL.body (K:=fun s=>∃v114:Int,∃v115:Int,∃v116:Qac,s=(f20n3S bd1 v114 v115 v116)∧f20n3 f bd1 v114 v115 v116=some o) ?_ (by rintro _ ⟨v114,v115,v116,rfl,hk⟩; exact f20n3_ok f _ _ _ _ hk);rcases Qf h with ⟨h118,h⟩|⟨h118,h⟩
  ·refine rN Qg 1 [j3] [some true] [] [0] [0,4,5,6] (f20n2S bd1 v114 v115 v116) (ap h118 an) ?_;obtain ⟨o166,h167,h⟩:=Qe h;cases o166 with
   | norm v168 v169 =>
    refine T.oneN (by kernel_rfl) (f20n2_ok bd1 v114 v115 v116 h167) (st2:=(f20n2E bd1 v114 v115 v116 (.norm v168 v169)).2) rfl ?_;exact rE Qg [j3] [] [] [0] [0,4,5,6] (.norm,(f20n3S bd1 v168 (wr64 (v115+1)) v169)) an (Qs.norm ⟨v168,(wr64 (v115+1)),v169,rfl,h⟩)
   | ret =>
    obtain rfl:=Qd h;exact T.oneX' (by kernel_rfl) (f20n2_ok bd1 v114 v115 v116 h167) (tds:=[]) (m:=[]) (keep:=[2,3]) (st2:=(f20n3E bd1 .ret).2) (by kernel_rfl) an rfl (Qs.out rfl rfl)
  ·obtain rfl:=Qd h;exact rK Qg 1 [j3] [some false] [] [0] [4] (.exit 0) ((f20n3E bd1 (.exit0 v116)).2) (ap h118 an) (Qs.out rfl rfl)
inductive f20n1O where
 | norm (v174:Qac)
 | ret
def f20n1E(bd1:ByteArray):f20n1O→Ex×Tr×Hp
 | .norm v174=>(.norm,mkS [(4,(.bp 0 0))],[some (.box ((Qac.cells v174).map .pl))])
 | .ret=>(.ret,mkS [(2,(jI 0)),(3,(jI 12))],[])
def f20n1S(bd1:ByteArray):Tr×Hp:=(mkS [(0,(jS bd1)),(4,(.bp 0 0)),(5,(jI 0))],[some (.box ((Qac.cells (Qac.mk 0 0 0)).map .pl))])
noncomputable def f20n1(bd1:ByteArray):Option f20n1O :=
 (f20n3 FUEL bd1 0 0 (Qac.mk 0 0 0)).bind fun o171=>match o171 with
 | .exit0 v173=>some (.norm v173)
 | .ret=>some .ret
theorem f20n1_ok(bd1:ByteArray){o:f20n1O}(h:f20n1 bd1=some o):T Try.prog Try.f20.ntmps 0 (cL (Ql 4 c20)) (f20n1S bd1) (·=f20n1E bd1 o):=by
 unfold f20n1 at h;refine rN Qg 1 [j3] [] [] [0] [0,4,5,6] (f20n3S bd1 0 0 (Qac.mk 0 0 0)) an ?_;obtain ⟨o171,h172,h⟩:=Qe h;cases o171 with
 | exit0 v173 =>
  obtain rfl:=Qd h;exact T.last' (T.bl (i:=0) (by kernel_rfl) (by kernel_rfl) (f20n3_ok FUEL bd1 0 0 (Qac.mk 0 0 0) h172)) (tds:=[]) (m:=[0]) (keep:=[4]) (st2:=(f20n1E bd1 (.norm v173)).2) (by kernel_rfl) an rfl
 | ret =>
  obtain rfl:=Qd h;exact T.last' (T.bl (i:=0) (by kernel_rfl) (by kernel_rfl) (f20n3_ok FUEL bd1 0 0 (Qac.mk 0 0 0) h172)) (tds:=[]) (m:=[]) (keep:=[2,3]) (st2:=(f20n1E bd1 .ret).2) (by kernel_rfl) an rfl
inductive f20n0O where
 | ret (v182:Int) (v183:Int)
def f20n0E(a1:ByteArray):f20n0O→Ex×Tr×Hp
 | .ret v182 v183=>(.ret,mkS [(2,(jI v182)),(3,(jI v183))],[])
def f20n0S(a1:ByteArray):Tr×Hp:=(Qad [(jS a1)] 0 .leaf,[])
noncomputable def f20n0(a1:ByteArray):Option f20n0O :=
 bif decide ((a1.size:Int)=10) then
  (f20n1 a1).bind fun o175=>match o175 with
  | .norm v177=>(f32 v177.e0 v177.e1 v177.e2).bind fun x180 =>
   some (.ret x180.1 x180.2)
  | .ret=>some (.ret 0 12)
 else
  some (.ret 0 12)
theorem f20n0_ok(a1:ByteArray){o:f20n0O}(h:f20n0 a1=some o):T Try.prog Try.f20.ntmps 0 c20 (f20n0S a1) (·=f20n0E a1 o):=by
 unfold f20n0 at h;rcases Qf h with ⟨h3,h⟩|⟨h3,h⟩
 ·refine rN Qg 4 [j3,j3,j3,j3] [some false] [] [0] [0,4,5] (f20n1S a1) (ap (Qp h3) an) ?_;obtain ⟨o175,h176,h⟩:=Qe h;cases o175 with
  | norm v177 =>
   refine T.oneN (by kernel_rfl) (f20n1_ok a1 h176) (st2:=(f20n1E a1 (.norm v177)).2) rfl ?_;obtain ⟨x180,h181,h⟩:=Qe h;obtain rfl:=Qd h;exact rE Qg [([],[jH 6 (.tup [(jI x180.1),(jI x180.2)])],[]),j3] [] [] [] [2,3] (.ret,(f20n0E a1 (.ret x180.1 x180.2)).2) (ap (f32_ok v177.e0 v177.e1 v177.e2 h181) an) rfl
  | ret =>
   obtain rfl:=Qd h;exact T.oneX' (by kernel_rfl) (f20n1_ok a1 h176) (tds:=[]) (m:=[]) (keep:=[2,3]) (st2:=(f20n0E a1 (.ret 0 12)).2) (by kernel_rfl) an rfl rfl
 ·obtain rfl:=Qd h;exact rK Qg 2 [j3,j3,j3] [some true] [] [] [2,3] .ret ((f20n0E a1 (.ret 0 12)).2) (ap (Qw h3) an) rfl
noncomputable def f20(a1:ByteArray):Option (Int×Int):=(f20n0 a1).bind fun o=>match o with
 | .ret v182 v183=>some (v182,v183)
theorem f20_ok(a1:ByteArray){r:Int×Int}(h:f20 a1=some r):Qo Try.prog false 20 [(jS a1)] [] (.tup [(jI r.1),(jI r.2)]) []:=by
 unfold f20 at h;obtain ⟨o,ho,h⟩:=Qe h;cases o with
 | ret v182 v183 =>
  obtain rfl:=Qd h;exact Qo.plain Qg (f:=Try.f20) (c:=c20) (by kernel_rfl) (by kernel_rfl) (by kernel_rfl) (by kernel_rfl) ((f20n0_ok a1 ho).mono fun r e=>by subst e; exact ⟨.inl rfl,(.tup [(jI v182),(jI v183)]),(.tup [(jI v182),(jI v183)]),by kernel_rfl,by kernel_rfl,((Wk.refl _):Wk (.tup [(jI v182),(jI v183)]) (.tup [(jI v182),(jI v183)]))⟩)
end Go.Proofs.Ytfeklaffeigilaa
namespace Go.Proofs.Ytfeklaffeigilaa
set_option linter.unusedVariables false
set_option linter.unusedSimpArgs false
set_option maxRecDepth 100000
open Go.RowKit
noncomputable def c9:Code:=Try.f9.body.getD .skip
inductive f9n0O where
 | ret (v18:Int)
def f9n0E(a1:Qa):f9n0O→Ex×Tr×Hp
 | .ret v18=>(.ret,mkS [(2,(jI v18))],[])
def f9n0S(a1:Qa):Tr×Hp:=(Qad [(jA Qa.cells a1)] 0 .leaf,[])
noncomputable def f9n0(a1:Qa):Option f9n0O :=
 bif decide ((a1.Text.size:Int)<14) then
  some (.ret a1.Day)
 else
  req (cutB 0 4 a1.Text.size) <|
  bif (seq (scut a1.Text 0 (Int.toNat 4)) Qal) then
   req (cutB 4 14 a1.Text.size) <|
   (f20 (scut a1.Text (Int.toNat 4) (Int.toNat 14))).bind fun x12 =>
   bif decide (x12.2=0) then
    bif decide (a1.Day<x12.1) then
     some (.ret a1.Day)
    else
     some (.ret x12.1)
   else
    some (.ret a1.Day)
  else
   some (.ret a1.Day)
theorem f9n0_ok(a1:Qa){o:f9n0O}(h:f9n0 a1=some o):T Try.prog Try.f9.ntmps 0 c9 (f9n0S a1) (·=f9n0E a1 o):=by
 unfold f9n0 at h;rcases Qf h with ⟨h5,h⟩|⟨h5,h⟩
 ·obtain rfl:=Qd h;exact rK Qg 2 [j3,(jT [5,6,7,8],[(9,.bool true)],[]),j3] [none] [] [] [2] .ret ((f9n0E a1 (.ret a1.Day)).2) (ap h5 (ap4 h5 an)) rfl
 ·obtain ⟨h6,h⟩:=Qaf h;rcases Qf h with ⟨h7,h⟩|⟨h7,h⟩
  ·obtain ⟨h11,h⟩:=Qaf h;obtain ⟨x12,h13,h⟩:=Qe h;rcases Qf h with ⟨h16,h⟩|⟨h16,h⟩
   ·rcases Qf h with ⟨h17,h⟩|⟨h17,h⟩
    ·obtain rfl:=Qd h;exact rK Qg 4 [j3,(jF [5,6,7,8],[(7,.cut 0 (Int.toNat 4)),(9,.bool false)],[]),([],[(2,.cut (Int.toNat 4) (Int.toNat 14)),jH 3 (.tup [(jI x12.1),(jI x12.2)])],[]),(jF [3,4,5,6],[(7,.bool false)],[]),j3] [some false,some true] [] [] [2] .ret ((f9n0E a1 (.ret a1.Day)).2) (ap3 h5 (ap (cut_hn_1 h6) (ap (Qbm h6) (ap (Qbq h6) (ap (cut_hn_4 h6) (ap2 h5 (ap (Qp h7) (ap (cut_hl_1 h11) (ap (cut_hl_2 h11) (ap (cut_hl_3 h11) (ap (cut_hl_4 h11) (ap (f20_ok (scut a1.Text (Int.toNat 4) (Int.toNat 14)) h13) (ap (Qp h16) (ap4 (Qp h16) (ap h17 an))))))))))))))) rfl
    ·obtain rfl:=Qd h;exact rE Qg [j3,(jF [5,6,7,8],[(7,.cut 0 (Int.toNat 4)),(9,.bool false)],[]),([],[(2,.cut (Int.toNat 4) (Int.toNat 14)),jH 3 (.tup [(jI x12.1),(jI x12.2)])],[]),(jF [3,4,5,6],[(7,.bool false)],[]),j3] [some false,some false] [] [] [2] (.ret,(f9n0E a1 (.ret x12.1)).2) (ap3 h5 (ap (cut_hn_1 h6) (ap (Qbm h6) (ap (Qbq h6) (ap (cut_hn_4 h6) (ap2 h5 (ap (Qp h7) (ap (cut_hl_1 h11) (ap (cut_hl_2 h11) (ap (cut_hl_3 h11) (ap (cut_hl_4 h11) (ap (f20_ok (scut a1.Text (Int.toNat 4) (Int.toNat 14)) h13) (ap (Qp h16) (ap4 (Qp h16) (ap h17 an))))))))))))))) rfl
   ·obtain rfl:=Qd h;exact rK Qg 4 [j3,(jF [5,6,7,8],[(7,.cut 0 (Int.toNat 4)),(9,.bool false)],[]),([],[(2,.cut (Int.toNat 4) (Int.toNat 14)),jH 3 (.tup [(jI x12.1),(jI x12.2)])],[]),(jT [3,4,5,6],[(7,.bool true)],[]),j3] [some false,none] [] [] [2] .ret ((f9n0E a1 (.ret a1.Day)).2) (ap3 h5 (ap (cut_hn_1 h6) (ap (Qbm h6) (ap (Qbq h6) (ap (cut_hn_4 h6) (ap2 h5 (ap (Qp h7) (ap (cut_hl_1 h11) (ap (cut_hl_2 h11) (ap (cut_hl_3 h11) (ap (cut_hl_4 h11) (ap (f20_ok (scut a1.Text (Int.toNat 4) (Int.toNat 14)) h13) (ap (Qw h16) (ap4 (Qw h16) an)))))))))))))) rfl
  ·obtain rfl:=Qd h;exact rK Qg 2 [j3,(jF [5,6,7,8],[(7,.cut 0 (Int.toNat 4)),(9,.bool false)],[]),j3] [some true] [] [] [2] .ret ((f9n0E a1 (.ret a1.Day)).2) (ap3 h5 (ap (cut_hn_1 h6) (ap (Qbm h6) (ap (Qbq h6) (ap (cut_hn_4 h6) (ap2 h5 (ap (Qw h7) an))))))) rfl
noncomputable def f9(a1:Qa):Option Int:=(f9n0 a1).bind fun o=>match o with
 | .ret v18=>some v18
theorem f9_ok(a1:Qa){r:Int}(h:f9 a1=some r):Qo Try.prog false 9 [(jA Qa.cells a1)] [] (jI r) []:=by
 unfold f9 at h;obtain ⟨o,ho,h⟩:=Qe h;cases o with
 | ret v18 =>
  obtain rfl:=Qd h;exact Qo.plain Qg (f:=Try.f9) (c:=c9) (by kernel_rfl) (by kernel_rfl) (by kernel_rfl) (by kernel_rfl) ((f9n0_ok a1 ho).mono fun r e=>by subst e; exact ⟨.inl rfl,(jI v18),(jI v18),by kernel_rfl,by kernel_rfl,((Wk.refl _):Wk (jI v18) (jI v18))⟩)

noncomputable def c28:Code:=Try.f28.body.getD .skip
inductive f28n0O where
 | ret (v5:Bool)
def f28n0E(a1 a2:Qb):f28n0O→Ex×Tr×Hp
 | .ret v5=>(.ret,mkS [(4,(jB v5))],[])
def f28n0S(a1 a2:Qb):Tr×Hp:=(Qad [(jA Qb.cells a1),(jA Qb.cells a2)] 0 .leaf,[])
noncomputable def f28n0(a1 a2:Qb):Option f28n0O :=
 bif (seq a1.Account a2.Account) then
  some (.ret (slt a1.Ccy a2.Ccy))
 else
  some (.ret (slt a1.Account a2.Account))
theorem f28n0_ok(a1 a2:Qb){o:f28n0O}(h:f28n0 a1 a2=some o):T Try.prog Try.f28.ntmps 0 c28 (f28n0S a1 a2) (·=f28n0E a1 a2 o):=by
 unfold f28n0 at h;rcases Qf h with ⟨h4,h⟩|⟨h4,h⟩
 ·obtain rfl:=Qd h;exact rE Qg [j3,j3,j3] [some false] [] [] [4] (.ret,(f28n0E a1 a2 (.ret (slt a1.Ccy a2.Ccy))).2) (ap (Qp h4) an) rfl
 ·obtain rfl:=Qd h;exact rK Qg 2 [j3,j3,j3] [some true] [] [] [4] .ret ((f28n0E a1 a2 (.ret (slt a1.Account a2.Account))).2) (ap (Qw h4) an) rfl
noncomputable def f28(a1 a2:Qb):Option Bool:=(f28n0 a1 a2).bind fun o=>match o with
 | .ret v5=>some v5
theorem f28_ok(a1 a2:Qb){r:Bool}(h:f28 a1 a2=some r):Qo Try.prog false 28 [(jA Qb.cells a1),(jA Qb.cells a2)] [] (jB r) []:=by
 unfold f28 at h;obtain ⟨o,ho,h⟩:=Qe h;cases o with
 | ret v5 =>
  obtain rfl:=Qd h;exact Qo.plain Qg (f:=Try.f28) (c:=c28) (by kernel_rfl) (by kernel_rfl) (by kernel_rfl) (by kernel_rfl) ((f28n0_ok a1 a2 ho).mono fun r e=>by subst e; exact ⟨.inl rfl,(jB v5),(jB v5),by kernel_rfl,by kernel_rfl,((Wk.refl _):Wk (jB v5) (jB v5))⟩)

noncomputable def c16:Code:=Try.f16.body.getD .skip
inductive f16n4O where
 | norm (v228:Bool)
def f16n4E(bo1:List Qb)(bl2:Bool)(bf3:Int)(bp4:Qb)(bo5:List Qb):f16n4O→Ex×Tr×Hp
 | .norm v228=>(.norm,mkS [(0,(jL 4 Qb.cells bo1)),(3,(.bp 0 0)),(5,(.own 1)),(6,(jB bl2)),(7,(jI bf3)),(24,(jB v228))],[some (.box ((Qb.cells bp4).map .pl)),jR 4 Qb.cells bo5])
def f16n4S(bo1:List Qb)(bl2:Bool)(bf3:Int)(bp4:Qb)(bo5:List Qb):Tr×Hp:=(mkS [(0,(jL 4 Qb.cells bo1)),(3,(.bp 0 0)),(5,(.own 1)),(6,(jB bl2)),(7,(jI bf3))],[some (.box ((Qb.cells bp4).map .pl)),jR 4 Qb.cells bo5])
noncomputable def f16n4(bo1:List Qb)(bl2:Bool)(bf3:Int)(bp4:Qb)(bo5:List Qb):Option f16n4O :=
 bif bl2 then
  some (.norm false)
 else
  (at? bo1 bf3).bind fun x224 =>
  (f28 x224 bp4).bind fun x226 =>
  some (.norm (!x226))
theorem f16n4_ok(bo1:List Qb)(bl2:Bool)(bf3:Int)(bp4:Qb)(bo5:List Qb){o:f16n4O}(h:f16n4 bo1 bl2 bf3 bp4 bo5=some o):T Try.prog Try.f16.ntmps 0 (cL (Ql 0 (cL (Ql 0 (cL (cL (Ql 1 (cL (cL (Ql 1 (cL (Ql 3 c16)))))))))))) (f16n4S bo1 bl2 bf3 bp4 bo5) (·=f16n4E bo1 bl2 bf3 bp4 bo5 o):=by
 unfold f16n4 at h;rcases Qf h with ⟨h223,h⟩|⟨h223,h⟩
 ·obtain rfl:=Qd h;exact rE Qg [(jF [3,4,5,6,7,8,9],[(10,.bool false)],[])] [] [] [0,1] [0,3,5,6,7,24] (.norm,(f16n4E bo1 bl2 bf3 bp4 bo5 (.norm false)).2) (ap4 (Qp h223) (ap4 (Qp h223) an)) rfl
 ·obtain ⟨x224,h225,h⟩:=Qe h;obtain ⟨x226,h227,h⟩:=Qe h;obtain rfl:=Qd h;exact rE Qg [(jT [3,4,5,6,7,8,9],[(5,.idx (Int.toNat bf3) (Qb.cells x224)),jH 8 (jB x226),(10,.bool true)],[])] [] [] [0,1] [0,3,5,6,7,24] (.norm,(f16n4E bo1 bl2 bf3 bp4 bo5 (.norm (!x226))).2) (ap3 (Qw h223) (ap (Qi h225).1 (ap (Qq Qb.cells (Qi h225).2) (ap (Qw h223) (ap4 (Qw h223) (ap (f28_ok x224 bp4 h227) an)))))) rfl
inductive f16n3O where
 | norm (v248:Bool) (v249:Qb) (v250:List Qb)
def f16n3E(bo1:List Qb)(bl2:Bool)(bf3:Int)(bp4:Qb)(bo5:List Qb):f16n3O→Ex×Tr×Hp
 | .norm v248 v249 v250=>(.norm,mkS [(0,(jL 4 Qb.cells bo1)),(3,(.bp 0 0)),(5,(.own 1)),(6,(jB v248)),(7,(jI bf3))],[some (.box ((Qb.cells v249).map .pl)),jR 4 Qb.cells v250])
def f16n3S(bo1:List Qb)(bl2:Bool)(bf3:Int)(bp4:Qb)(bo5:List Qb):Tr×Hp:=(mkS [(0,(jL 4 Qb.cells bo1)),(3,(.bp 0 0)),(5,(.own 1)),(6,(jB bl2)),(7,(jI bf3))],[some (.box ((Qb.cells bp4).map .pl)),jR 4 Qb.cells bo5])
noncomputable def f16n3(bo1:List Qb)(bl2:Bool)(bf3:Int)(bp4:Qb)(bo5:List Qb):Option f16n3O :=
 (f16n4 bo1 bl2 bf3 bp4 bo5).bind fun o229=>match o229 with
 | .norm v231=>bif v231 then
   (at? bo1 bf3).bind fun x241 =>
   (f28 bp4 x241).bind fun x243 =>
   bif x243 then
    req (fit (bo5.length+1) 48) <|
    some (.norm true bp4 (bo5++[bp4]))
   else
    req (fit (bo5.length+1) 48) <|
    some (.norm true (Qb.mk bp4.Account bp4.Ccy (wr64 (bp4.In+x241.In)) (wr64 (bp4.Out+x241.Out))) (bo5++[(Qb.mk bp4.Account bp4.Ccy (wr64 (bp4.In+x241.In)) (wr64 (bp4.Out+x241.Out)))]))
  else
   some (.norm bl2 bp4 bo5)
theorem f16n3_ok(bo1:List Qb)(bl2:Bool)(bf3:Int)(bp4:Qb)(bo5:List Qb){o:f16n3O}(h:f16n3 bo1 bl2 bf3 bp4 bo5=some o):T Try.prog Try.f16.ntmps 0 (cL (Ql 0 (cL (cL (Ql 1 (cL (cL (Ql 1 (cL (Ql 3 c16)))))))))) (f16n3S bo1 bl2 bf3 bp4 bo5) (·=f16n3E bo1 bl2 bf3 bp4 bo5 o):=by
 unfold f16n3 at h;refine rN Qg 0 [] [] [] [0,1] [0,3,5,6,7] (f16n4S bo1 bl2 bf3 bp4 bo5) an ?_;obtain ⟨o229,h230,h⟩:=Qe h;cases o229 with
 | norm v231 =>
  refine T.oneN (by kernel_rfl) (f16n4_ok bo1 bl2 bf3 bp4 bo5 h230) (st2:=(f16n4E bo1 bl2 bf3 bp4 bo5 (.norm v231)).2) rfl ?_;rcases Qf h with ⟨h240,h⟩|⟨h240,h⟩
  ·obtain ⟨x241,h242,h⟩:=Qe h;obtain ⟨x243,h244,h⟩:=Qe h;rcases Qf h with ⟨h245,h⟩|⟨h245,h⟩
   ·obtain ⟨h246,h⟩:=Qaf h;obtain rfl:=Qd h;exact rE Qg [([],[(3,.idx (Int.toNat bf3) (Qb.cells x241)),jH 5 (jB x243)],[]),([],[(3,.fits)],[(3,.row 4 ((bo5++[bp4]).map Qb.cells))]),j3] [some true,some false] [] [0,4] [0,3,5,6,7] (.norm,(f16n3E bo1 bl2 bf3 bp4 bo5 (.norm true bp4 (bo5++[bp4]))).2) (ap h240 (ap (Qi h242).1 (ap (Qq Qb.cells (Qi h242).2) (ap (f28_ok bp4 x241 h244) (ap (Qp h245) (ap (fit_map (te:=ti50) (xs:=bo5) (n:=1) (c:=Qb.cells) h246 rfl) (ap (app_cv (xs:=bo5) (ys:=[bp4]) (c:=Qb.cells)) an))))))) rfl
   ·obtain ⟨h247,h⟩:=Qaf h;obtain rfl:=Qd h
    exact rE Qg [([],[(3,.idx (Int.toNat bf3) (Qb.cells x241)),jH 5 (jB x243)],[]),([],[(4,.idx (Int.toNat bf3) (Qb.cells x241))],[]),([],[(4,.idx (Int.toNat bf3) (Qb.cells x241))],[]),([],[(3,.fits)],[(3,.row 6 ((bo5++[(Qb.mk bp4.Account bp4.Ccy (wr64 (bp4.In+x241.In)) (wr64 (bp4.Out+x241.Out)))]).map Qb.cells))]),j3] [some true,some true] [] [0,6] [0,3,5,6,7] (.norm,(f16n3E bo1 bl2 bf3 bp4 bo5 (.norm true (Qb.mk bp4.Account bp4.Ccy (wr64 (bp4.In+x241.In)) (wr64 (bp4.Out+x241.Out))) (bo5++[(Qb.mk bp4.Account bp4.Ccy (wr64 (bp4.In+x241.In)) (wr64 (bp4.Out+x241.Out)))]))).2) (ap h240 (ap (Qi h242).1 (ap (Qq Qb.cells (Qi h242).2) (ap (f28_ok bp4 x241 h244) (ap (Qw h245) (ap (Qi h242).1 (ap (Qq Qb.cells (Qi h242).2) (ap (Qi h242).1 (ap (Qq Qb.cells (Qi h242).2) (ap (fit_map (te:=ti50) (xs:=bo5) (n:=1) (c:=Qb.cells) h247 rfl) (ap (app_cv (xs:=bo5) (ys:=[(Qb.mk bp4.Account bp4.Ccy (wr64 (bp4.In+x241.In)) (wr64 (bp4.Out+x241.Out)))]) (c:=Qb.cells)) an))))))))))) rfl
  ·obtain rfl:=Qd h;exact rE Qg [] [some false] [] [0,1] [0,3,5,6,7] (.norm,(f16n3E bo1 bl2 bf3 bp4 bo5 (.norm bl2 bp4 bo5)).2) (ap h240 an) rfl
inductive f16n5O where
 | norm (v277:Bool)
def f16n5E(bo1:List Qb)(bl2:Bool)(bf3:Int)(bp4:Qb)(bo5:List Qb):f16n5O→Ex×Tr×Hp
 | .norm v277=>(.norm,mkS [(0,(jL 4 Qb.cells bo1)),(3,(.bp 0 0)),(5,(.own 1)),(6,(jB bl2)),(7,(jI bf3)),(67,(jB v277))],[some (.box ((Qb.cells bp4).map .pl)),jR 4 Qb.cells bo5])
def f16n5S(bo1:List Qb)(bl2:Bool)(bf3:Int)(bp4:Qb)(bo5:List Qb):Tr×Hp:=(mkS [(0,(jL 4 Qb.cells bo1)),(3,(.bp 0 0)),(5,(.own 1)),(6,(jB bl2)),(7,(jI bf3))],[some (.box ((Qb.cells bp4).map .pl)),jR 4 Qb.cells bo5])
noncomputable def f16n5(bo1:List Qb)(bl2:Bool)(bf3:Int)(bp4:Qb)(bo5:List Qb):Option f16n5O :=
 (at? bo1 bf3).bind fun x270 =>
 (f28 x270 bp4).bind fun x272 =>
 bif x272 then
  some (.norm true)
 else
  (f28 bp4 x270).bind fun x275 =>
  some (.norm x275)
theorem f16n5_ok(bo1:List Qb)(bl2:Bool)(bf3:Int)(bp4:Qb)(bo5:List Qb){o:f16n5O}(h:f16n5 bo1 bl2 bf3 bp4 bo5=some o):T Try.prog Try.f16.ntmps 0 (cL (Ql 0 (Ql 1 (Ql 0 (cL (cL (Ql 1 (cL (cL (Ql 1 (cL (Ql 3 c16)))))))))))) (f16n5S bo1 bl2 bf3 bp4 bo5) (·=f16n5E bo1 bl2 bf3 bp4 bo5 o):=by
 unfold f16n5 at h;obtain ⟨x270,h271,h⟩:=Qe h;obtain ⟨x272,h273,h⟩:=Qe h;rcases Qf h with ⟨h274,h⟩|⟨h274,h⟩
 ·obtain rfl:=Qd h;exact rE Qg [(jT [7,8,9,10,11,12],[(2,.idx (Int.toNat bf3) (Qb.cells x270)),jH 5 (jB x272),(13,.bool true)],[])] [] [] [0,1] [0,3,5,6,7,67] (.norm,(f16n5E bo1 bl2 bf3 bp4 bo5 (.norm true)).2) (ap (Qi h271).1 (ap (Qq Qb.cells (Qi h271).2) (ap3 h274 (ap4 h274 (ap (f28_ok x270 bp4 h273) an))))) rfl
 ·obtain ⟨x275,h276,h⟩:=Qe h;obtain rfl:=Qd h
  exact rE Qg [(jF [7,8,9,10,11,12],[(2,.idx (Int.toNat bf3) (Qb.cells x270)),jH 5 (jB x272),(10,.idx (Int.toNat bf3) (Qb.cells x270)),jH 12 (jB x275),(13,.bool false)],[])] [] [] [0,1] [0,3,5,6,7,67] (.norm,(f16n5E bo1 bl2 bf3 bp4 bo5 (.norm x275)).2) (ap (Qi h271).1 (ap (Qq Qb.cells (Qi h271).2) (ap4 h274 (ap (Qi h271).1 (ap (Qq Qb.cells (Qi h271).2) (ap3 h274 (ap (same_val (e:=⟨false,28,[(jA Qb.cells x270),(jA Qb.cells bp4)],[],(jB x272),[]⟩) (f:=⟨false,28,[(jA Qb.cells bp4),(jA Qb.cells x270)],[],(jB x275),[]⟩) (fun k=>by simp only [jL,jS,jI,jB,jA,Qc.cells_eq,Qc.map_eq,Qa.cells_eq,Qa.map_eq,Qj.cells_eq,Qj.map_eq,Qb.cells_eq,Qb.map_eq,Qm.cells_eq,Qm.map_eq,Qh.cells_eq,Qh.map_eq,Key_.cells_eq,Key_.map_eq,Qae.cells_eq,Qae.map_eq,Qac.cells_eq,Qac.map_eq,List.cons.injEq,AV.pl.injEq,PV.str.injEq,PV.int.injEq,PV.bool.injEq,PV.agg.injEq,PV.sl.injEq,and_true,true_and] at k; have e0:x272=x275:=Option.some.inj (by rw [←h273,←h276]; first | (obtain ⟨k1,_⟩:=k; simp only [k1]; done) | simp only [k]); exact ⟨by rw [e0],rfl⟩)) (ap (f28_ok x270 bp4 h273) (ap (f28_ok bp4 x270 h276) an))))))))) rfl
inductive f16n2O where
 | norm (v289:Bool) (v290:Qb) (v291:List Qb)
def f16n2E(bo1:List Qb)(bl2:Bool)(bf3:Int)(bp4:Qb)(bo5:List Qb):f16n2O→Ex×Tr×Hp
 | .norm v289 v290 v291=>(.norm,mkS [(0,(jL 4 Qb.cells bo1)),(3,(.bp 0 0)),(5,(.own 1)),(6,(jB v289)),(7,(jI bf3))],[some (.box ((Qb.cells v290).map .pl)),jR 4 Qb.cells v291])
def f16n2S(bo1:List Qb)(bl2:Bool)(bf3:Int)(bp4:Qb)(bo5:List Qb):Tr×Hp:=(mkS [(0,(jL 4 Qb.cells bo1)),(3,(.bp 0 0)),(5,(.own 1)),(6,(jB bl2)),(7,(jI bf3))],[some (.box ((Qb.cells bp4).map .pl)),jR 4 Qb.cells bo5])
noncomputable def f16n2(bo1:List Qb)(bl2:Bool)(bf3:Int)(bp4:Qb)(bo5:List Qb):Option f16n2O :=
 (f16n3 bo1 bl2 bf3 bp4 bo5).bind fun o251=>match o251 with
 | .norm v253 v254 v255=>(f16n5 bo1 v253 bf3 v254 v255).bind fun o278=>match o278 with
  | .norm v280=>bif v280 then
    (at? bo1 bf3).bind fun x286 =>
    req (fit (v255.length+1) 48) <|
    some (.norm v253 v254 (v255++[x286]))
   else
    some (.norm v253 v254 v255)
theorem f16n2_ok(bo1:List Qb)(bl2:Bool)(bf3:Int)(bp4:Qb)(bo5:List Qb){o:f16n2O}(h:f16n2 bo1 bl2 bf3 bp4 bo5=some o):T Try.prog Try.f16.ntmps 0 (cL (Ql 1 (cL (cL (Ql 1 (cL (Ql 3 c16))))))) (f16n2S bo1 bl2 bf3 bp4 bo5) (·=f16n2E bo1 bl2 bf3 bp4 bo5 o):=by
 unfold f16n2 at h;refine T.block' (i:=1) (by kernel_rfl) ?_;refine rN Qg 0 [] [] [] [0,1] [0,3,5,6,7] (f16n3S bo1 bl2 bf3 bp4 bo5) an ?_;obtain ⟨o251,h252,h⟩:=Qe h;cases o251 with
 | norm v253 v254 v255 =>
  refine T.oneN (by kernel_rfl) (f16n3_ok bo1 bl2 bf3 bp4 bo5 h252) (st2:=(f16n3E bo1 bl2 bf3 bp4 bo5 (.norm v253 v254 v255)).2) rfl ?_;refine rN Qg 0 [] [] [] [0,1] [0,3,5,6,7] (f16n5S bo1 v253 bf3 v254 v255) an ?_;obtain ⟨o278,h279,h⟩:=Qe h;cases o278 with
  | norm v280 =>
   refine T.oneN (by kernel_rfl) (f16n5_ok bo1 v253 bf3 v254 v255 h279) (st2:=(f16n5E bo1 v253 bf3 v254 v255 (.norm v280)).2) rfl ?_;rcases Qf h with ⟨h285,h⟩|⟨h285,h⟩
   ·obtain ⟨x286,h287,h⟩:=Qe h;obtain ⟨h288,h⟩:=Qaf h;obtain rfl:=Qd h;exact rE Qg [([],[(3,.idx (Int.toNat bf3) (Qb.cells x286)),(6,.fits)],[(6,.row 3 ((v255++[x286]).map Qb.cells))])] [some true] [] [0,3] [0,3,5,6,7] (.norm,(f16n2E bo1 bl2 bf3 bp4 bo5 (.norm v253 v254 (v255++[x286]))).2) (ap h285 (ap (Qi h287).1 (ap (Qq Qb.cells (Qi h287).2) (ap (fit_map (te:=ti50) (xs:=v255) (n:=1) (c:=Qb.cells) h288 rfl) (ap (app_cv (xs:=v255) (ys:=[x286]) (c:=Qb.cells)) an))))) rfl
   ·obtain rfl:=Qd h;exact rE Qg [] [some false] [] [0,1] [0,3,5,6,7] (.norm,(f16n2E bo1 bl2 bf3 bp4 bo5 (.norm v253 v254 v255)).2) (ap h285 an) rfl
inductive f16n6O where
 | exit0 (v297:Bool) (v298:Qb) (v299:List Qb)
def f16n6E(bo1:List Qb):f16n6O→Ex×Tr×Hp
 | .exit0 v297 v298 v299=>((.exit 0),mkS [(3,(.bp 0 0)),(5,(.own 1)),(6,(jB v297))],[some (.box ((Qb.cells v298).map .pl)),jR 4 Qb.cells v299])
def f16n6S(bo1:List Qb)(v165:Bool)(v166:Int)(v167:Qb)(v168:List Qb):Tr×Hp:=(mkS [(0,(jL 4 Qb.cells bo1)),(3,(.bp 0 0)),(5,(.own 1)),(6,(jB v165)),(7,(jI v166))],[some (.box ((Qb.cells v167).map .pl)),jR 4 Qb.cells v168])
noncomputable def f16n6:Nat→List Qb→Bool→Int→Qb→List Qb→Option f16n6O
 | 0,_,_,_,_,_=>none
 | f+1,bo1,v165,v166,v167,v168 =>
  bif decide (v166<(bo1.length:Int)) then
   (f16n2 bo1 v165 v166 v167 v168).bind fun o292=>match o292 with
   | .norm v294 v295 v296=>(f16n6 f bo1 v294 (wr64 (v166+1)) v295 v296)
  else
   some (.exit0 v165 v167 v168)
theorem f16n6_ok:∀(f:Nat)(bo1:List Qb)(v165:Bool)(v166:Int)(v167:Qb)(v168:List Qb){o:f16n6O},f16n6 f bo1 v165 v166 v167 v168=some o→TL Try.prog Try.f16.ntmps 0 f (cL (cL (Ql 1 (cL (Ql 3 c16))))) (f16n6S bo1 v165 v166 v167 v168) (·=f16n6E bo1 o)
 | 0,_,_,_,_,_,o,h=>by rw [f16n6] at h; cases h
 | f+1,bo1,v165,v166,v167,v168,o,h=>by
  rw [f16n6] at h;refine TL.body (K:=fun s=>∃v165:Bool,∃v166:Int,∃v167:Qb,∃v168:List Qb,s=(f16n6S bo1 v165 v166 v167 v168)∧f16n6 f bo1 v165 v166 v167 v168=some o) ?_ (by rintro _ ⟨v165,v166,v167,v168,rfl,hk⟩; exact f16n6_ok f _ _ _ _ _ hk);rcases Qf h with ⟨h170,h⟩|⟨h170,h⟩
  ·refine rN Qg 1 [([],[],[(2,.val (jI (bo1.length:Int)))])] [some true] [] [0,1] [0,3,5,6,7] (f16n2S bo1 v165 v166 v167 v168) (ap (Qr (xs:=bo1) (c:=Qb.cells)) (ap h170 an)) ?_;obtain ⟨o292,h293,h⟩:=Qe h;cases o292 with
   | norm v294 v295 v296 =>
    refine T.oneN (by kernel_rfl) (f16n2_ok bo1 v165 v166 v167 v168 h293) (st2:=(f16n2E bo1 v165 v166 v167 v168 (.norm v294 v295 v296)).2) rfl ?_;exact rE Qg [j3] [] [] [0,1] [0,3,5,6,7] (.norm,(f16n6S bo1 v294 (wr64 (v166+1)) v295 v296)) an (Qs.norm ⟨v294,(wr64 (v166+1)),v295,v296,rfl,h⟩)
  ·obtain rfl:=Qd h;exact rK Qg 1 [([],[],[(2,.val (jI (bo1.length:Int)))])] [some false] [] [0,1] [3,5,6] (.exit 0) ((f16n6E bo1 (.exit0 v165 v167 v168)).2) (ap (Qr (xs:=bo1) (c:=Qb.cells)) (ap h170 an)) (Qs.out rfl rfl)
inductive f16n1O where
 | norm (v305:Bool) (v306:Qb) (v307:List Qb)
def f16n1E(bo1:List Qb)(bp2:Qb):f16n1O→Ex×Tr×Hp
 | .norm v305 v306 v307=>(.norm,mkS [(3,(.bp 0 0)),(5,(.own 1)),(6,(jB v305))],[some (.box ((Qb.cells v306).map .pl)),jR 4 Qb.cells v307])
def f16n1S(bo1:List Qb)(bp2:Qb):Tr×Hp:=(mkS [(0,(jL 4 Qb.cells bo1)),(3,(.bp 0 0)),(5,(.pl (.sl .nil 0 []))),(6,(jB false))],[some (.box ((Qb.cells bp2).map .pl))])
noncomputable def f16n1(bo1:List Qb)(bp2:Qb):Option f16n1O :=
 (f16n6 FUEL bo1 false 0 bp2 []).bind fun o300=>match o300 with
 | .exit0 v302 v303 v304=>some (.norm v302 v303 v304)
theorem f16n1_ok(bo1:List Qb)(bp2:Qb){o:f16n1O}(h:f16n1 bo1 bp2=some o):T Try.prog Try.f16.ntmps 0 (cL (Ql 3 c16)) (f16n1S bo1 bp2) (·=f16n1E bo1 bp2 o):=by
 unfold f16n1 at h;refine rN Qg 1 [j3] [] [.mat 5 4] [0,1] [0,3,5,6,7] (f16n6S bo1 false 0 bp2 []) an ?_;obtain ⟨o300,h301,h⟩:=Qe h;cases o300 with
 | exit0 v302 v303 v304 =>
  obtain rfl:=Qd h;exact T.last' (T.bl (i:=0) (by kernel_rfl) (by kernel_rfl) (f16n6_ok FUEL bo1 false 0 bp2 [] h301)) (tds:=[]) (m:=[0,1]) (keep:=[3,5,6]) (st2:=(f16n1E bo1 bp2 (.norm v302 v303 v304)).2) (by kernel_rfl) an rfl
inductive f16n0O where
 | ret (v317:List Qb)
def f16n0E(a1:List Qb)(a2:Qb):f16n0O→Ex×Tr×Hp
 | .ret v317=>(.ret,mkS [(4,(.own 0))],[jR 4 Qb.cells v317])
def f16n0S(a1:List Qb)(a2:Qb):Tr×Hp:=(Qad [(jL 4 Qb.cells a1),(jA Qb.cells a2)] 0 .leaf,[])
noncomputable def f16n0(a1:List Qb)(a2:Qb):Option f16n0O :=
 (f16n1 a1 a2).bind fun o308=>match o308 with
 | .norm v310 v311 v312=>bif v310 then
   some (.ret v312)
  else
   req (fit (v312.length+1) 48) <|
   some (.ret (v312++[v311]))
theorem f16n0_ok(a1:List Qb)(a2:Qb){o:f16n0O}(h:f16n0 a1 a2=some o):T Try.prog Try.f16.ntmps 0 c16 (f16n0S a1 a2) (·=f16n0E a1 a2 o):=by
 unfold f16n0 at h;refine rN Qg 3 [j3,j3,j3] [] [] [0] [0,3,5,6] (f16n1S a1 a2) an ?_;obtain ⟨o308,h309,h⟩:=Qe h;cases o308 with
 | norm v310 v311 v312 =>
  refine T.oneN (by kernel_rfl) (f16n1_ok a1 a2 h309) (st2:=(f16n1E a1 a2 (.norm v310 v311 v312)).2) rfl ?_;rcases Qf h with ⟨h315,h⟩|⟨h315,h⟩
  ·obtain rfl:=Qd h;exact rE Qg [j3,j3] [some false] [] [1] [4] (.ret,(f16n0E a1 a2 (.ret v312)).2) (ap (Qp h315) an) rfl
  ·obtain ⟨h316,h⟩:=Qaf h;obtain rfl:=Qd h;exact rE Qg [j3,([],[(3,.fits)],[(3,.row 3 ((v312++[v311]).map Qb.cells))]),j3] [some true] [] [3] [4] (.ret,(f16n0E a1 a2 (.ret (v312++[v311]))).2) (ap (Qw h315) (ap (fit_map (te:=ti50) (xs:=v312) (n:=1) (c:=Qb.cells) h316 rfl) (ap (app_cv (xs:=v312) (ys:=[v311]) (c:=Qb.cells)) an))) rfl
noncomputable def f16(a1:List Qb)(a2:Qb):Option (List Qb):=(f16n0 a1 a2).bind fun o=>match o with
 | .ret v317=>some v317
theorem f16_ok(a1:List Qb)(a2:Qb){r:List Qb}(h:f16 a1 a2=some r):Qo Try.prog false 16 [(jL 4 Qb.cells a1),(jA Qb.cells a2)] [] (jL 4 Qb.cells r) []:=by
 unfold f16 at h;obtain ⟨o,ho,h⟩:=Qe h;cases o with
 | ret v317 =>
  obtain rfl:=Qd h;exact Qo.plain Qg (f:=Try.f16) (c:=c16) (by kernel_rfl) (by kernel_rfl) (by kernel_rfl) (by kernel_rfl) ((f16n0_ok a1 a2 ho).mono fun r e=>by subst e; exact ⟨.inl rfl,(.own 0),(jL 4 Qb.cells v317),by kernel_rfl,by kernel_rfl,((Wk.refl _):Wk (jL 4 Qb.cells v317) (jL 4 Qb.cells v317))⟩)

noncomputable def c6:Code:=Try.f6.body.getD .skip
inductive f6n3O where
 | exit2 (v275:Qm)
def f6n3E(bf1 bf2 bf3 bf4:Int)(ba5:Qj):f6n3O→Ex×Tr×Hp
 | .exit2 v275=>((.exit 2),mkS [(1,(jI bf1)),(2,(jI bf2)),(3,(jI bf3)),(4,(.bp 0 0)),(8,(.bp 1 0)),(10,(.bp 2 0)),(11,(jI bf4))],[some (.box ((Qj.cells ba5).map .pl)),some (.box [(jI 0),(jI 0),(jI 0),(.pl (.sl .nil 0 []))]),some (.box ((Qm.cells v275).map .pl))])
def f6n3S(bf1 bf2 bf3 bf4:Int)(ba5:Qj)(v253:Int)(v254:Qm):Tr×Hp:=(mkS [(1,(jI bf1)),(2,(jI bf2)),(3,(jI bf3)),(4,(.bp 0 0)),(8,(.bp 1 0)),(10,(.bp 2 0)),(11,(jI bf4)),(13,(jI v253))],[some (.box ((Qj.cells ba5).map .pl)),some (.box [(jI 0),(jI 0),(jI 0),(.pl (.sl .nil 0 []))]),some (.box ((Qm.cells v254).map .pl))])
noncomputable def f6n3:Nat→Int→Int→Int→Int→Qj→Int→Qm→Option f6n3O
 | 0,_,_,_,_,_,_,_=>none
 | f+1,bf1,bf2,bf3,bf4,ba5,v253,v254 =>
  (at? ba5.Records bf4).bind fun x258 =>
  bif decide (v253<(x258.Lines.length:Int)) then
   (at? x258.Lines v253).bind fun x268 =>
   bif decide (x268.Amount<0) then
    (f16 v254.Rows (Qb.mk x268.Account x268.Ccy 0 (wr64 (0-x268.Amount)))).bind fun x271 =>
    (f6n3 f bf1 bf2 bf3 bf4 ba5 (wr64 (v253+1)) (Qm.mk v254.From v254.To v254.Known x271))
   else
    (f16 v254.Rows (Qb.mk x268.Account x268.Ccy x268.Amount 0)).bind fun x273 =>
    (f6n3 f bf1 bf2 bf3 bf4 ba5 (wr64 (v253+1)) (Qm.mk v254.From v254.To v254.Known x273))
  else
   some (.exit2 v254)
theorem f6n3_ok:∀(f:Nat)(bf1 bf2 bf3 bf4:Int)(ba5:Qj)(v253:Int)(v254:Qm){o:f6n3O},f6n3 f bf1 bf2 bf3 bf4 ba5 v253 v254=some o→TL Try.prog Try.f6.ntmps 0 f (cL (cL (Ql 3 (cL (cL (Ql 1 (cL (cL (Ql 1 (cL (Ql 4 c6))))))))))) (f6n3S bf1 bf2 bf3 bf4 ba5 v253 v254) (·=f6n3E bf1 bf2 bf3 bf4 ba5 o)
 | 0,_,_,_,_,_,_,_,o,h=>by rw [f6n3] at h; cases h
 | f+1,bf1,bf2,bf3,bf4,ba5,v253,v254,o,h=>by
  rw [f6n3] at h;refine TL.body (K:=fun s=>∃v253:Int,∃v254:Qm,s=(f6n3S bf1 bf2 bf3 bf4 ba5 v253 v254)∧f6n3 f bf1 bf2 bf3 bf4 ba5 v253 v254=some o) ?_ (by rintro _ ⟨v253,v254,rfl,hk⟩; exact f6n3_ok f _ _ _ _ _ _ _ hk);obtain ⟨x258,h259,h⟩:=Qe h;rcases Qf h with ⟨h260,h⟩|⟨h260,h⟩
  ·obtain ⟨x268,h269,h⟩:=Qe h;rcases Qf h with ⟨h270,h⟩|⟨h270,h⟩
   ·obtain ⟨x271,h272,h⟩:=Qe h
    exact rE Qg [([],[(4,.idx (Int.toNat bf4) (Qa.cells x258))],[(7,.val (jI (x258.Lines.length:Int)))]),([],[(3,.idx (Int.toNat bf4) (Qa.cells x258)),(7,.idx (Int.toNat v253) (Qc.cells x268))],[]),j3,j3,j3,([],[jH 3 (jL 4 Qb.cells x271)],[]),j3] [some true,some true] [] [0,1,2] [1,2,3,4,8,10,11,13] (.norm,(f6n3S bf1 bf2 bf3 bf4 ba5 (wr64 (v253+1)) (Qm.mk v254.From v254.To v254.Known x271))) (ap (Qi h259).1 (ap (Qq Qa.cells (Qi h259).2) (ap (Qr (xs:=x258.Lines) (c:=Qc.cells)) (ap h260 (ap (Qi h259).1 (ap (Qq Qa.cells (Qi h259).2) (ap (Qi h269).1 (ap (Qq Qc.cells (Qi h269).2) (ap h270 (ap (f16_ok v254.Rows (Qb.mk x268.Account x268.Ccy 0 (wr64 (0-x268.Amount))) h272) an)))))))))) (Qs.norm ⟨(wr64 (v253+1)),(Qm.mk v254.From v254.To v254.Known x271),rfl,h⟩)
   ·obtain ⟨x273,h274,h⟩:=Qe h
    exact rE Qg [([],[(4,.idx (Int.toNat bf4) (Qa.cells x258))],[(7,.val (jI (x258.Lines.length:Int)))]),([],[(3,.idx (Int.toNat bf4) (Qa.cells x258)),(7,.idx (Int.toNat v253) (Qc.cells x268))],[]),j3,j3,([],[jH 3 (jL 4 Qb.cells x273)],[]),j3] [some true,some false] [] [0,1,2] [1,2,3,4,8,10,11,13] (.norm,(f6n3S bf1 bf2 bf3 bf4 ba5 (wr64 (v253+1)) (Qm.mk v254.From v254.To v254.Known x273))) (ap (Qi h259).1 (ap (Qq Qa.cells (Qi h259).2) (ap (Qr (xs:=x258.Lines) (c:=Qc.cells)) (ap h260 (ap (Qi h259).1 (ap (Qq Qa.cells (Qi h259).2) (ap (Qi h269).1 (ap (Qq Qc.cells (Qi h269).2) (ap h270 (ap (f16_ok v254.Rows (Qb.mk x268.Account x268.Ccy x268.Amount 0) h274) an)))))))))) (Qs.norm ⟨(wr64 (v253+1)),(Qm.mk v254.From v254.To v254.Known x273),rfl,h⟩)
  ·obtain rfl:=Qd h;exact rK Qg 1 [([],[(4,.idx (Int.toNat bf4) (Qa.cells x258))],[(7,.val (jI (x258.Lines.length:Int)))])] [some false] [] [0,1,2] [1,2,3,4,8,10,11] (.exit 2) ((f6n3E bf1 bf2 bf3 bf4 ba5 (.exit2 v254)).2) (ap (Qi h259).1 (ap (Qq Qa.cells (Qi h259).2) (ap (Qr (xs:=x258.Lines) (c:=Qc.cells)) (ap h260 an)))) (Qs.out rfl rfl)
inductive f6n2O where
 | norm (v279:Qm)
def f6n2E(bf1 bf2 bf3 bf4:Int)(ba5:Qj)(bq6:Qm):f6n2O→Ex×Tr×Hp
 | .norm v279=>(.norm,mkS [(1,(jI bf1)),(2,(jI bf2)),(3,(jI bf3)),(4,(.bp 0 0)),(8,(.bp 1 0)),(10,(.bp 2 0)),(11,(jI bf4))],[some (.box ((Qj.cells ba5).map .pl)),some (.box [(jI 0),(jI 0),(jI 0),(.pl (.sl .nil 0 []))]),some (.box ((Qm.cells v279).map .pl))])
def f6n2S(bf1 bf2 bf3 bf4:Int)(ba5:Qj)(bq6:Qm):Tr×Hp:=(mkS [(1,(jI bf1)),(2,(jI bf2)),(3,(jI bf3)),(4,(.bp 0 0)),(8,(.bp 1 0)),(10,(.bp 2 0)),(11,(jI bf4))],[some (.box ((Qj.cells ba5).map .pl)),some (.box [(jI 0),(jI 0),(jI 0),(.pl (.sl .nil 0 []))]),some (.box ((Qm.cells bq6).map .pl))])
noncomputable def f6n2(bf1 bf2 bf3 bf4:Int)(ba5:Qj)(bq6:Qm):Option f6n2O :=
 (at? ba5.Records bf4).bind fun x203 =>
 (f9 x203).bind fun x205 =>
 bif decide (x205<bf1) then
  some (.norm bq6)
 else
  bif decide (bf2≤x205) then
   some (.norm bq6)
  else
   (f6n3 FUEL bf1 bf2 bf3 bf4 ba5 0 bq6).bind fun o276=>match o276 with
   | .exit2 v278=>some (.norm v278)
theorem f6n2_ok(bf1 bf2 bf3 bf4:Int)(ba5:Qj)(bq6:Qm){o:f6n2O}(h:f6n2 bf1 bf2 bf3 bf4 ba5 bq6=some o):T Try.prog Try.f6.ntmps 0 (cL (Ql 1 (cL (cL (Ql 1 (cL (Ql 4 c6))))))) (f6n2S bf1 bf2 bf3 bf4 ba5 bq6) (·=f6n2E bf1 bf2 bf3 bf4 ba5 bq6 o):=by
 unfold f6n2 at h;refine T.block' (i:=1) (by kernel_rfl) ?_;obtain ⟨x203,h204,h⟩:=Qe h;obtain ⟨x205,h206,h⟩:=Qe h;rcases Qf h with ⟨h209,h⟩|⟨h209,h⟩
 ·obtain rfl:=Qd h;exact rK Qg 2 [([],[(3,.idx (Int.toNat bf4) (Qa.cells x203)),jH 5 (jI x205)],[]),(jT [4,5,6],[(7,.bool true)],[])] [none] [] [0,1,2] [1,2,3,4,8,10,11] (.exit 1) ((f6n2E bf1 bf2 bf3 bf4 ba5 bq6 (.norm bq6)).2) (ap (Qi h204).1 (ap (Qq Qa.cells (Qi h204).2) (ap (f9_ok x203 h206) (ap4 h209 an)))) rfl
 ·rcases Qf h with ⟨h210,h⟩|⟨h210,h⟩
  ·obtain rfl:=Qd h;exact rK Qg 2 [([],[(3,.idx (Int.toNat bf4) (Qa.cells x203)),jH 5 (jI x205)],[]),(jF [4,5,6],[(7,.bool false)],[])] [some true] [] [0,1,2] [1,2,3,4,8,10,11] (.exit 1) ((f6n2E bf1 bf2 bf3 bf4 ba5 bq6 (.norm bq6)).2) (ap (Qi h204).1 (ap (Qq Qa.cells (Qi h204).2) (ap (f9_ok x203 h206) (ap4 h209 (ap h210 an))))) rfl
  ·refine rN Qg 3 [([],[(3,.idx (Int.toNat bf4) (Qa.cells x203)),jH 5 (jI x205)],[]),(jF [4,5,6],[(7,.bool false)],[]),j3] [some false] [] [0,1,2] [1,2,3,4,8,10,11,13] (f6n3S bf1 bf2 bf3 bf4 ba5 0 bq6) (ap (Qi h204).1 (ap (Qq Qa.cells (Qi h204).2) (ap (f9_ok x203 h206) (ap4 h209 (ap h210 an))))) ?_;obtain ⟨o276,h277,h⟩:=Qe h;cases o276 with
   | exit2 v278 =>
    obtain rfl:=Qd h;exact T.last' (T.bl (i:=2) (by kernel_rfl) (by kernel_rfl) (f6n3_ok FUEL bf1 bf2 bf3 bf4 ba5 0 bq6 h277)) (tds:=[]) (m:=[0,1,2]) (keep:=[1,2,3,4,8,10,11]) (st2:=(f6n2E bf1 bf2 bf3 bf4 ba5 bq6 (.norm v278)).2) (by kernel_rfl) an rfl
inductive f6n4O where
 | exit0 (v283:Qm)
def f6n4E(bf1 bf2 bf3:Int)(ba4:Qj):f6n4O→Ex×Tr×Hp
 | .exit0 v283=>((.exit 0),mkS [(8,(.bp 0 0)),(10,(.bp 1 0))],[some (.box [(jI 0),(jI 0),(jI 0),(.pl (.sl .nil 0 []))]),some (.box ((Qm.cells v283).map .pl))])
def f6n4S(bf1 bf2 bf3:Int)(ba4:Qj)(v195:Int)(v196:Qm):Tr×Hp:=(mkS [(1,(jI bf1)),(2,(jI bf2)),(3,(jI bf3)),(4,(.bp 0 0)),(8,(.bp 1 0)),(10,(.bp 2 0)),(11,(jI v195))],[some (.box ((Qj.cells ba4).map .pl)),some (.box [(jI 0),(jI 0),(jI 0),(.pl (.sl .nil 0 []))]),some (.box ((Qm.cells v196).map .pl))])
noncomputable def f6n4:Nat→Int→Int→Int→Qj→Int→Qm→Option f6n4O
 | 0,_,_,_,_,_,_=>none
 | f+1,bf1,bf2,bf3,ba4,v195,v196 =>
  bif decide (v195<bf3) then
   (f6n2 bf1 bf2 bf3 v195 ba4 v196).bind fun o280=>match o280 with
   | .norm v282=>(f6n4 f bf1 bf2 bf3 ba4 (wr64 (v195+1)) v282)
  else
   some (.exit0 v196)
theorem f6n4_ok:∀(f:Nat)(bf1 bf2 bf3:Int)(ba4:Qj)(v195:Int)(v196:Qm){o:f6n4O},f6n4 f bf1 bf2 bf3 ba4 v195 v196=some o→TL Try.prog Try.f6.ntmps 0 f (cL (cL (Ql 1 (cL (Ql 4 c6))))) (f6n4S bf1 bf2 bf3 ba4 v195 v196) (·=f6n4E bf1 bf2 bf3 ba4 o)
 | 0,_,_,_,_,_,_,o,h=>by rw [f6n4] at h; cases h
 | f+1,bf1,bf2,bf3,ba4,v195,v196,o,h=>by
  rw [f6n4] at h;refine TL.body (K:=fun s=>∃v195:Int,∃v196:Qm,s=(f6n4S bf1 bf2 bf3 ba4 v195 v196)∧f6n4 f bf1 bf2 bf3 ba4 v195 v196=some o) ?_ (by rintro _ ⟨v195,v196,rfl,hk⟩; exact f6n4_ok f _ _ _ _ _ _ hk);rcases Qf h with ⟨h198,h⟩|⟨h198,h⟩
  ·refine rN Qg 1 [j3] [some true] [] [0,1,2] [1,2,3,4,8,10,11] (f6n2S bf1 bf2 bf3 v195 ba4 v196) (ap h198 an) ?_;obtain ⟨o280,h281,h⟩:=Qe h;cases o280 with
   | norm v282 =>
    refine T.oneN (by kernel_rfl) (f6n2_ok bf1 bf2 bf3 v195 ba4 v196 h281) (st2:=(f6n2E bf1 bf2 bf3 v195 ba4 v196 (.norm v282)).2) rfl ?_;exact rE Qg [j3] [] [] [0,1,2] [1,2,3,4,8,10,11] (.norm,(f6n4S bf1 bf2 bf3 ba4 (wr64 (v195+1)) v282)) an (Qs.norm ⟨(wr64 (v195+1)),v282,rfl,h⟩)
  ·obtain rfl:=Qd h;exact rK Qg 1 [j3] [some false] [] [1,2] [8,10] (.exit 0) ((f6n4E bf1 bf2 bf3 ba4 (.exit0 v196)).2) (ap h198 an) (Qs.out rfl rfl)
inductive f6n1O where
 | norm (v287:Qm)
def f6n1E(bf1 bf2 bf3:Int)(ba4:Qj):f6n1O→Ex×Tr×Hp
 | .norm v287=>(.norm,mkS [(8,(.bp 0 0)),(10,(.bp 1 0))],[some (.box [(jI 0),(jI 0),(jI 0),(.pl (.sl .nil 0 []))]),some (.box ((Qm.cells v287).map .pl))])
def f6n1S(bf1 bf2 bf3:Int)(ba4:Qj):Tr×Hp:=(mkS [(1,(jI bf1)),(2,(jI bf2)),(3,(jI bf3)),(4,(.bp 0 0)),(8,(.bp 1 0)),(10,(.bp 2 0))],[some (.box ((Qj.cells ba4).map .pl)),some (.box [(jI 0),(jI 0),(jI 0),(.pl (.sl .nil 0 []))]),some (.box [(jI bf1),(jI bf2),(jI bf3),(.pl (.sl .nil 0 []))])])
noncomputable def f6n1(bf1 bf2 bf3:Int)(ba4:Qj):Option f6n1O :=
 (f6n4 FUEL bf1 bf2 bf3 ba4 0 (Qm.mk bf1 bf2 bf3 [])).bind fun o284=>match o284 with
 | .exit0 v286=>some (.norm v286)
theorem f6n1_ok(bf1 bf2 bf3:Int)(ba4:Qj){o:f6n1O}(h:f6n1 bf1 bf2 bf3 ba4=some o):T Try.prog Try.f6.ntmps 0 (cL (Ql 4 c6)) (f6n1S bf1 bf2 bf3 ba4) (·=f6n1E bf1 bf2 bf3 ba4 o):=by
 unfold f6n1 at h;refine rN Qg 1 [j3] [] [.matC 2 3 4,.frzC 2 3] [0,1,2] [1,2,3,4,8,10,11] (f6n4S bf1 bf2 bf3 ba4 0 (Qm.mk bf1 bf2 bf3 [])) an ?_;obtain ⟨o284,h285,h⟩:=Qe h;cases o284 with
 | exit0 v286 =>
  obtain rfl:=Qd h;exact T.last' (T.bl (i:=0) (by kernel_rfl) (by kernel_rfl) (f6n4_ok FUEL bf1 bf2 bf3 ba4 0 (Qm.mk bf1 bf2 bf3 []) h285)) (tds:=[]) (m:=[0,1]) (keep:=[8,10]) (st2:=(f6n1E bf1 bf2 bf3 ba4 (.norm v286)).2) (by kernel_rfl) an rfl
inductive f6n0O where
 | ret (v291:Int) (v292:Qm)
def f6n0E(a1:Qj)(a2 a3 a4:Int):f6n0O→Ex×Tr×Hp
 | .ret v291 v292=>(.ret,mkS [(8,(.bp 0 0)),(9,(jI v291))],[some (.box ((Qm.cells v292).map .pl))])
def f6n0S(a1:Qj)(a2 a3 a4:Int):Tr×Hp:=(Qad [(jA Qj.cells a1),(jI a2),(jI a3),(jI a4)] 0 .leaf,[])
noncomputable def f6n0(a1:Qj)(a2 a3 a4:Int):Option f6n0O :=
 (f15 a1).bind fun x8 =>
 bif decide (x8=0) then
  bif decide (a2<0) then
   some (.ret 2 (Qm.mk 0 0 0 []))
  else
   bif decide (a3<a2) then
    some (.ret 2 (Qm.mk 0 0 0 []))
   else
    bif decide (100000<a3) then
     some (.ret 2 (Qm.mk 0 0 0 []))
    else
     bif decide (a4<0) then
      some (.ret 2 (Qm.mk 0 0 0 []))
     else
      bif decide ((a1.Records.length:Int)<a4) then
       some (.ret 2 (Qm.mk 0 0 0 []))
      else
       (f6n1 a2 a3 a4 a1).bind fun o288=>match o288 with
       | .norm v290=>some (.ret 0 v290)
 else
  some (.ret 8 (Qm.mk 0 0 0 []))
theorem f6n0_ok(a1:Qj)(a2 a3 a4:Int){o:f6n0O}(h:f6n0 a1 a2 a3 a4=some o):T Try.prog Try.f6.ntmps 0 c6 (f6n0S a1 a2 a3 a4) (·=f6n0E a1 a2 a3 a4 o):=by
 unfold f6n0 at h;obtain ⟨x8,h9,h⟩:=Qe h;rcases Qf h with ⟨h10,h⟩|⟨h10,h⟩
 ·rcases Qf h with ⟨h16,h⟩|⟨h16,h⟩
  ·obtain rfl:=Qd h;exact rK Qg 3 [j3,([],[jH 1 (jI x8)],[]),(jT [3,4,5],[(6,.bool true)],[]),j3] [some false,none] [.matC 1 3 4,.frzC 1 3] [1] [8,9] .ret ((f6n0E a1 a2 a3 a4 (.ret 2 (Qm.mk 0 0 0 []))).2) (ap (f15_ok a1 h9) (ap (Qp h10) (ap4 h16 an))) rfl
  ·rcases Qf h with ⟨h17,h⟩|⟨h17,h⟩
   ·obtain rfl:=Qd h;exact rK Qg 3 [j3,([],[jH 1 (jI x8)],[]),(jF [3,4,5]++jT [8,9],[(6,.bool false),(10,.bool true)],[]),j3] [some false,none] [.matC 1 3 4,.frzC 1 3] [1] [8,9] .ret ((f6n0E a1 a2 a3 a4 (.ret 2 (Qm.mk 0 0 0 []))).2) (ap (f15_ok a1 h9) (ap (Qp h10) (ap4 h16 (ap3 h17 an)))) rfl
   ·rcases Qf h with ⟨h18,h⟩|⟨h18,h⟩
    ·obtain rfl:=Qd h;exact rK Qg 3 [j3,([],[jH 1 (jI x8)],[]),(jF [3,4,5,8,9]++jT [12,13],[(6,.bool false),(10,.bool false),(14,.bool true)],[]),j3] [some false,none] [.matC 1 3 4,.frzC 1 3] [1] [8,9] .ret ((f6n0E a1 a2 a3 a4 (.ret 2 (Qm.mk 0 0 0 []))).2) (ap (f15_ok a1 h9) (ap (Qp h10) (ap4 h16 (ap3 h17 (ap3 h18 an))))) rfl
    ·rcases Qf h with ⟨h19,h⟩|⟨h19,h⟩
     ·obtain rfl:=Qd h;exact rK Qg 3 [j3,([],[jH 1 (jI x8)],[]),(jF [3,4,5,8,9,12,13]++jT [16,17,18,19,20],[(6,.bool false),(10,.bool false),(14,.bool false),(21,.bool true)],[]),j3] [some false,none] [.matC 1 3 4,.frzC 1 3] [1] [8,9] .ret ((f6n0E a1 a2 a3 a4 (.ret 2 (Qm.mk 0 0 0 []))).2) (ap (f15_ok a1 h9) (ap (Qp h10) (ap4 h16 (ap3 h17 (ap3 h18 (ap2 h19 (ap4 h19 an))))))) rfl
     ·rcases Qf h with ⟨h20,h⟩|⟨h20,h⟩
      ·obtain rfl:=Qd h;exact rK Qg 3 [j3,([],[jH 1 (jI x8)],[]),(jF [3,4,5,8,9,12,13,16,17,18,19,20],[(6,.bool false),(10,.bool false),(14,.bool false),(21,.bool false)],[(19,.val (jI (a1.Records.length:Int)))]),j3] [some false,some true] [.matC 1 3 4,.frzC 1 3] [1] [8,9] .ret ((f6n0E a1 a2 a3 a4 (.ret 2 (Qm.mk 0 0 0 []))).2) (ap (f15_ok a1 h9) (ap (Qp h10) (ap4 h16 (ap3 h17 (ap3 h18 (ap4 h19 (ap (Qr (xs:=a1.Records) (c:=Qa.cells)) (ap2 h19 (ap h20 an))))))))) rfl
      ·refine rN Qg 4 [j3,([],[jH 1 (jI x8)],[]),(jF [3,4,5,8,9,12,13,16,17,18,19,20],[(6,.bool false),(10,.bool false),(14,.bool false),(21,.bool false)],[(19,.val (jI (a1.Records.length:Int)))]),j3] [some false,some false] [] [0,1,2] [1,2,3,4,8,10] (f6n1S a2 a3 a4 a1) (ap (f15_ok a1 h9) (ap (Qp h10) (ap4 h16 (ap3 h17 (ap3 h18 (ap4 h19 (ap (Qr (xs:=a1.Records) (c:=Qa.cells)) (ap2 h19 (ap h20 an))))))))) ?_;obtain ⟨o288,h289,h⟩:=Qe h;cases o288 with
       | norm v290 =>
        refine T.oneN (by kernel_rfl) (f6n1_ok a2 a3 a4 a1 h289) (st2:=(f6n1E a2 a3 a4 a1 (.norm v290)).2) rfl ?_;obtain rfl:=Qd h;exact rE Qg [j3] [] [] [0] [8,9] (.ret,(f6n0E a1 a2 a3 a4 (.ret 0 v290)).2) an rfl
 ·obtain rfl:=Qd h;exact rK Qg 2 [j3,([],[jH 1 (jI x8)],[]),j3] [some true] [.matC 1 3 4,.frzC 1 3] [1] [8,9] .ret ((f6n0E a1 a2 a3 a4 (.ret 8 (Qm.mk 0 0 0 []))).2) (ap (f15_ok a1 h9) (ap (Qw h10) an)) rfl
noncomputable def f6(a1:Qj)(a2 a3 a4:Int):Option (Qm×Int):=(f6n0 a1 a2 a3 a4).bind fun o=>match o with
 | .ret v291 v292=>some (v292,v291)
theorem f6_ok(a1:Qj)(a2 a3 a4:Int){r:Qm×Int}(h:f6 a1 a2 a3 a4=some r):Qo Try.prog false 6 [(jA Qj.cells a1),(jI a2),(jI a3),(jI a4)] [] (.tup [(jA Qm.cells r.1),(jI r.2)]) []:=by
 unfold f6 at h;obtain ⟨o,ho,h⟩:=Qe h;cases o with
 | ret v291 v292 =>
  obtain rfl:=Qd h;exact Qo.plain Qg (f:=Try.f6) (c:=c6) (by kernel_rfl) (by kernel_rfl) (by kernel_rfl) (by kernel_rfl) ((f6n0_ok a1 a2 a3 a4 ho).mono fun r e=>by subst e; exact ⟨.inl rfl,(.tup [(jA Qm.cells v292),(jI v291)]),(.tup [(jA Qm.cells v292),(jI v291)]),by kernel_rfl,by kernel_rfl,((Wk.refl _):Wk (.tup [(jA Qm.cells v292),(jI v291)]) (.tup [(jA Qm.cells v292),(jI v291)]))⟩)

noncomputable def c17:Code:=Try.f17.body.getD .skip
inductive f17n2O where
 | exit0
 | ret
def f17n2E(bo1 bo2:List Qb):f17n2O→Ex×Tr×Hp
 | .exit0=>((.exit 0),mkS [],[])
 | .ret=>(.ret,mkS [(4,(jB false))],[])
def f17n2S(bo1 bo2:List Qb)(v30:Int):Tr×Hp:=(mkS [(0,(jL 4 Qb.cells bo1)),(1,(jL 4 Qb.cells bo2)),(5,(jI v30))],[])
noncomputable def f17n2:Nat→List Qb→List Qb→Int→Option f17n2O
 | 0,_,_,_=>none
 | f+1,bo1,bo2,v30 =>
  bif decide (v30<(bo1.length:Int)) then
   (at? bo1 v30).bind fun x38 =>
   (at? bo2 v30).bind fun x40 =>
   bif (Qb.eqb x38 x40) then
    (f17n2 f bo1 bo2 (wr64 (v30+1)))
   else
    some .ret
  else
   some .exit0
theorem f17n2_ok:∀(f:Nat)(bo1 bo2:List Qb)(v30:Int){o:f17n2O},f17n2 f bo1 bo2 v30=some o→TL Try.prog Try.f17.ntmps 0 f (cL (cL (Ql 1 (cL (Ql 2 c17))))) (f17n2S bo1 bo2 v30) (·=f17n2E bo1 bo2 o)
 | 0,_,_,_,o,h=>by rw [f17n2] at h; cases h
 | f+1,bo1,bo2,v30,o,h=>by
  rw [f17n2] at h;refine TL.body (K:=fun s=>∃v30:Int,s=(f17n2S bo1 bo2 v30)∧f17n2 f bo1 bo2 v30=some o) ?_ (by rintro _ ⟨v30,rfl,hk⟩; exact f17n2_ok f _ _ _ hk);rcases Qf h with ⟨h32,h⟩|⟨h32,h⟩
  ·obtain ⟨x38,h39,h⟩:=Qe h;obtain ⟨x40,h41,h⟩:=Qe h;rcases Qf h with ⟨h42,h⟩|⟨h42,h⟩
   ·exact rE Qg [([],[],[(2,.val (jI (bo1.length:Int)))]),([],[(2,.idx (Int.toNat v30) (Qb.cells x38)),(6,.idx (Int.toNat v30) (Qb.cells x40)),(8,.bool (Qb.eqb x38 x40))],[]),j3] [some true,some false] [] [] [0,1,5] (.norm,(f17n2S bo1 bo2 (wr64 (v30+1)))) (ap (Qr (xs:=bo1) (c:=Qb.cells)) (ap h32 (ap (Qi h39).1 (ap (Qq Qb.cells (Qi h39).2) (ap (Qi h41).1 (ap (Qq Qb.cells (Qi h41).2) (ap (Qb.eqb_ok x38 x40) (ap (Qp h42) an)))))))) (Qs.norm ⟨(wr64 (v30+1)),rfl,h⟩)
   ·obtain rfl:=Qd h;exact rK Qg 2 [([],[],[(2,.val (jI (bo1.length:Int)))]),([],[(2,.idx (Int.toNat v30) (Qb.cells x38)),(6,.idx (Int.toNat v30) (Qb.cells x40)),(8,.bool (Qb.eqb x38 x40))],[]),j3] [some true,some true] [] [] [4] .ret ((f17n2E bo1 bo2 .ret).2) (ap (Qr (xs:=bo1) (c:=Qb.cells)) (ap h32 (ap (Qi h39).1 (ap (Qq Qb.cells (Qi h39).2) (ap (Qi h41).1 (ap (Qq Qb.cells (Qi h41).2) (ap (Qb.eqb_ok x38 x40) (ap (Qw h42) an)))))))) (Qs.out rfl rfl)
  ·obtain rfl:=Qd h;exact rK Qg 1 [([],[],[(2,.val (jI (bo1.length:Int)))])] [some false] [] [] [] (.exit 0) ((f17n2E bo1 bo2 .exit0).2) (ap (Qr (xs:=bo1) (c:=Qb.cells)) (ap h32 an)) (Qs.out rfl rfl)
noncomputable def f17n2L(bo1 bo2:List Qb):List Qb→Int→Option f17n2O
 | [],v30 =>
  some .exit0
 | x0::rest,v30 =>
  (at? bo2 v30).bind fun x40 =>
  bif (Qb.eqb x0 x40) then
   (f17n2L bo1 bo2 rest (v30+1))
  else
   some .ret
theorem f17n2L_eq(bo1 bo2:List Qb):∀(rest:List Qb)(f k:Nat),bo1.drop k=rest→bo1.length≤maxLen→rest.length<f→f17n2 f bo1 bo2 (k:Int)=f17n2L bo1 bo2 rest (k:Int)
 | _,0,_,_,_,hf=>absurd hf (Nat.not_lt_zero _)
 | [],f+1,k,hd,hm,hf=>by
  have hk:¬((k:Int)<(bo1.length:Int)):=by have:=Qab hd; omega
  rw [f17n2,f17n2L];simp only [decide_eq_false hk,cond_false]
 | x0::rest,f+1,k,hd,hm,hf=>by
  obtain ⟨hx,hlt,hd'⟩:=Qah hd;have hk:(k:Int)<(bo1.length:Int):=by omega
  have hw:wr64 ((k:Int)+1)=(k:Int)+1:=Qbi (by omega) (by unfold maxLen at hm; omega);have ih:f17n2 f bo1 bo2 ((k:Int)+1)=f17n2L bo1 bo2 rest ((k:Int)+1):=f17n2L_eq bo1 bo2 rest f (k+1) hd' hm (by simpa using hf);rw [f17n2,f17n2L];simp only [decide_eq_true hk,cond_true,Qbt,hx,Option.bind_some,hw,ih]
theorem f17n2_run(bo1 bo2:List Qb)(hm:bo1.length≤maxLen):f17n2 FUEL bo1 bo2 0=f17n2L bo1 bo2 bo1 0:=f17n2L_eq bo1 bo2 bo1 FUEL 0 List.drop_zero hm (Qbe hm)
inductive f17n1O where
 | norm
 | ret
def f17n1E(bo1 bo2:List Qb):f17n1O→Ex×Tr×Hp
 | .norm=>(.norm,mkS [],[])
 | .ret=>(.ret,mkS [(4,(jB false))],[])
def f17n1S(bo1 bo2:List Qb):Tr×Hp:=(mkS [(0,(jL 4 Qb.cells bo1)),(1,(jL 4 Qb.cells bo2))],[])
noncomputable def f17n1(bo1 bo2:List Qb):Option f17n1O :=
 (f17n2 FUEL bo1 bo2 0).bind fun o43=>match o43 with
 | .exit0=>some .norm
 | .ret=>some .ret
theorem f17n1_ok(bo1 bo2:List Qb){o:f17n1O}(h:f17n1 bo1 bo2=some o):T Try.prog Try.f17.ntmps 0 (cL (Ql 2 c17)) (f17n1S bo1 bo2) (·=f17n1E bo1 bo2 o):=by
 unfold f17n1 at h;refine rN Qg 1 [j3] [] [] [] [0,1,5] (f17n2S bo1 bo2 0) an ?_;obtain ⟨o43,h44,h⟩:=Qe h;cases o43 with
 | exit0 =>
  obtain rfl:=Qd h;exact T.last' (T.bl (i:=0) (by kernel_rfl) (by kernel_rfl) (f17n2_ok FUEL bo1 bo2 0 h44)) (tds:=[]) (m:=[]) (keep:=[]) (st2:=(f17n1E bo1 bo2 .norm).2) (by kernel_rfl) an rfl
 | ret =>
  obtain rfl:=Qd h;exact T.last' (T.bl (i:=0) (by kernel_rfl) (by kernel_rfl) (f17n2_ok FUEL bo1 bo2 0 h44)) (tds:=[]) (m:=[]) (keep:=[4]) (st2:=(f17n1E bo1 bo2 .ret).2) (by kernel_rfl) an rfl
inductive f17n0O where
 | ret (v47:Bool)
def f17n0E(a1 a2:List Qb):f17n0O→Ex×Tr×Hp
 | .ret v47=>(.ret,mkS [(4,(jB v47))],[])
def f17n0S(a1 a2:List Qb):Tr×Hp:=(Qad [(jL 4 Qb.cells a1),(jL 4 Qb.cells a2)] 0 .leaf,[])
noncomputable def f17n0(a1 a2:List Qb):Option f17n0O :=
 bif decide ((a1.length:Int)=(a2.length:Int)) then
  (f17n1 a1 a2).bind fun o45=>match o45 with
  | .norm=>some (.ret true)
  | .ret=>some (.ret false)
 else
  some (.ret false)
theorem f17n0_ok(a1 a2:List Qb){o:f17n0O}(h:f17n0 a1 a2=some o):T Try.prog Try.f17.ntmps 0 c17 (f17n0S a1 a2) (·=f17n0E a1 a2 o):=by
 unfold f17n0 at h;rcases Qf h with ⟨h4,h⟩|⟨h4,h⟩
 ·refine rN Qg 2 [j3,([],[],[(1,.val (jI (a1.length:Int))),(3,.val (jI (a2.length:Int)))])] [some false] [] [] [0,1] (f17n1S a1 a2) (ap (Qr (xs:=a1) (c:=Qb.cells)) (ap (Qr (xs:=a2) (c:=Qb.cells)) (ap (Qp h4) an))) ?_;obtain ⟨o45,h46,h⟩:=Qe h;cases o45 with
  | norm =>
   refine T.oneN (by kernel_rfl) (f17n1_ok a1 a2 h46) (st2:=(f17n1E a1 a2 .norm).2) rfl ?_;obtain rfl:=Qd h;exact rE Qg [j3] [] [] [] [4] (.ret,(f17n0E a1 a2 (.ret true)).2) an rfl
  | ret =>
   obtain rfl:=Qd h;exact T.oneX' (by kernel_rfl) (f17n1_ok a1 a2 h46) (tds:=[]) (m:=[]) (keep:=[4]) (st2:=(f17n0E a1 a2 (.ret false)).2) (by kernel_rfl) an rfl rfl
 ·obtain rfl:=Qd h;exact rK Qg 2 [j3,([],[],[(1,.val (jI (a1.length:Int))),(3,.val (jI (a2.length:Int)))]),j3] [some true] [] [] [4] .ret ((f17n0E a1 a2 (.ret false)).2) (ap (Qr (xs:=a1) (c:=Qb.cells)) (ap (Qr (xs:=a2) (c:=Qb.cells)) (ap (Qw h4) an))) rfl
noncomputable def f17(a1 a2:List Qb):Option Bool:=(f17n0 a1 a2).bind fun o=>match o with
 | .ret v47=>some v47
theorem f17_ok(a1 a2:List Qb){r:Bool}(h:f17 a1 a2=some r):Qo Try.prog false 17 [(jL 4 Qb.cells a1),(jL 4 Qb.cells a2)] [] (jB r) []:=by
 unfold f17 at h;obtain ⟨o,ho,h⟩:=Qe h;cases o with
 | ret v47 =>
  obtain rfl:=Qd h;exact Qo.plain Qg (f:=Try.f17) (c:=c17) (by kernel_rfl) (by kernel_rfl) (by kernel_rfl) (by kernel_rfl) ((f17n0_ok a1 a2 ho).mono fun r e=>by subst e; exact ⟨.inl rfl,(jB v47),(jB v47),by kernel_rfl,by kernel_rfl,((Wk.refl _):Wk (jB v47) (jB v47))⟩)

noncomputable def c7:Code:=Try.f7.body.getD .skip
inductive f7n0O where
 | ret (v13:Bool)
def f7n0E(a1 a2:Qm):f7n0O→Ex×Tr×Hp
 | .ret v13=>(.ret,mkS [(4,(jB v13))],[])
def f7n0S(a1 a2:Qm):Tr×Hp:=(Qad [(jA Qm.cells a1),(jA Qm.cells a2)] 0 .leaf,[])
noncomputable def f7n0(a1 a2:Qm):Option f7n0O :=
 bif decide (a1.From=a2.From) then
  bif decide (a1.To=a2.To) then
   bif decide (a1.Known=a2.Known) then
    (f17 a1.Rows a2.Rows).bind fun x11 =>
    some (.ret x11)
   else
    some (.ret false)
  else
   some (.ret false)
 else
  some (.ret false)
theorem f7n0_ok(a1 a2:Qm){o:f7n0O}(h:f7n0 a1 a2=some o):T Try.prog Try.f7.ntmps 0 c7 (f7n0S a1 a2) (·=f7n0E a1 a2 o):=by
 unfold f7n0 at h;rcases Qf h with ⟨h8,h⟩|⟨h8,h⟩
 ·rcases Qf h with ⟨h9,h⟩|⟨h9,h⟩
  ·rcases Qf h with ⟨h10,h⟩|⟨h10,h⟩
   ·obtain ⟨x11,h12,h⟩:=Qe h;obtain rfl:=Qd h;exact rE Qg [j3,(jT [6,7,8,9,10,13,14,15,16,17,20,21,22,23,24],[(11,.bool true),(18,.bool true),jH 24 (jB x11),(25,.bool true)],[])] [] [] [] [4] (.ret,(f7n0E a1 a2 (.ret x11)).2) (ap2 h8 (ap4 h8 (ap2 h9 (ap4 h9 (ap2 h10 (ap4 h10 (ap (f17_ok a1.Rows a2.Rows h12) an))))))) rfl
   ·obtain rfl:=Qd h;exact rE Qg [j3,(jF [20,21,22,23,24]++jT [6,7,8,9,10,13,14,15,16,17],[(11,.bool true),(18,.bool true),(25,.bool false)],[])] [] [] [] [4] (.ret,(f7n0E a1 a2 (.ret false)).2) (ap2 h8 (ap4 h8 (ap2 h9 (ap4 h9 (ap2 h10 (ap4 h10 an)))))) rfl
  ·obtain rfl:=Qd h;exact rE Qg [j3,(jF [13,14,15,16,17]++jT [6,7,8,9,10],[(11,.bool true),(18,.bool false)],[])] [] [] [] [4] (.ret,(f7n0E a1 a2 (.ret false)).2) (ap2 h8 (ap4 h8 (ap2 h9 (ap4 h9 an)))) rfl
 ·obtain rfl:=Qd h;exact rE Qg [j3,(jF [6,7,8,9,10],[(11,.bool false)],[])] [] [] [] [4] (.ret,(f7n0E a1 a2 (.ret false)).2) (ap2 h8 (ap4 h8 an)) rfl
noncomputable def f7(a1 a2:Qm):Option Bool:=(f7n0 a1 a2).bind fun o=>match o with
 | .ret v13=>some v13
theorem f7_ok(a1 a2:Qm){r:Bool}(h:f7 a1 a2=some r):Qo Try.prog false 7 [(jA Qm.cells a1),(jA Qm.cells a2)] [] (jB r) []:=by
 unfold f7 at h;obtain ⟨o,ho,h⟩:=Qe h;cases o with
 | ret v13 =>
  obtain rfl:=Qd h;exact Qo.plain Qg (f:=Try.f7) (c:=c7) (by kernel_rfl) (by kernel_rfl) (by kernel_rfl) (by kernel_rfl) ((f7n0_ok a1 a2 ho).mono fun r e=>by subst e; exact ⟨.inl rfl,(jB v13),(jB v13),by kernel_rfl,by kernel_rfl,((Wk.refl _):Wk (jB v13) (jB v13))⟩)

noncomputable def c3:Code:=Try.f3.body.getD .skip
inductive f3n0O where
 | ret (v38:Bool)
def f3n0E(a1:Qj)(a2 a3 a4:Int)(a5:Qa):f3n0O→Ex×Tr×Hp
 | .ret v38=>(.ret,mkS [(10,(jB v38))],[])
def f3n0S(a1:Qj)(a2 a3 a4:Int)(a5:Qa):Tr×Hp:=(Qad [(jA Qj.cells a1),(jI a2),(jI a3),(jI a4),(jA Qa.cells a5)] 0 .leaf,[])
noncomputable def f3n0(a1:Qj)(a2 a3 a4:Int)(a5:Qa):Option f3n0O :=
 (f4 a1).bind fun x10 =>
 bif x10 then
  some (.ret true)
 else
  bif decide (300<(a5.Text.size:Int)) then
   some (.ret true)
  else
   (f5 a1 a2 a3 a4).bind fun x16 =>
   (f6 a1 a2 a3 a4).bind fun x20 =>
   (f7 x16.1 x20.1).bind fun x30 =>
   bif x30 then
    bif decide (x16.2=x20.2) then
     (f8 a5).bind fun x34 =>
     (f9 a5).bind fun x36 =>
     some (.ret (decide (x34=x36)))
    else
     some (.ret false)
   else
    some (.ret false)
theorem f3n0_ok(a1:Qj)(a2 a3 a4:Int)(a5:Qa){o:f3n0O}(h:f3n0 a1 a2 a3 a4 a5=some o):T Try.prog Try.f3.ntmps 0 c3 (f3n0S a1 a2 a3 a4 a5) (·=f3n0E a1 a2 a3 a4 a5 o):=by
 unfold f3n0 at h;obtain ⟨x10,h11,h⟩:=Qe h;rcases Qf h with ⟨h12,h⟩|⟨h12,h⟩
 ·obtain rfl:=Qd h;exact rK Qg 2 [j3,(jT [3,4,5,6],[jH 1 (jB x10),(7,.bool true)],[]),j3] [none] [] [] [10] .ret ((f3n0E a1 a2 a3 a4 a5 (.ret true)).2) (ap h12 (ap4 h12 (ap (f4_ok a1 h11) an))) rfl
 ·rcases Qf h with ⟨h13,h⟩|⟨h13,h⟩
  ·obtain rfl:=Qd h;exact rK Qg 2 [j3,(jF [3,4,5,6],[jH 1 (jB x10),(7,.bool false)],[]),j3] [some true] [] [] [10] .ret ((f3n0E a1 a2 a3 a4 a5 (.ret true)).2) (ap h12 (ap4 h12 (ap (f4_ok a1 h11) (ap h13 an)))) rfl
  ·obtain ⟨x16,h17,h⟩:=Qe h;obtain ⟨x20,h21,h⟩:=Qe h;obtain ⟨x30,h31,h⟩:=Qe h;rcases Qf h with ⟨h32,h⟩|⟨h32,h⟩
   ·rcases Qf h with ⟨h33,h⟩|⟨h33,h⟩
    ·obtain ⟨x34,h35,h⟩:=Qe h;obtain ⟨x36,h37,h⟩:=Qe h;obtain rfl:=Qd h;exact rE Qg [j3,(jF [3,4,5,6],[jH 1 (jB x10),(7,.bool false)],[]),([],[jH 4 (.tup [(jA Qm.cells x16.1),(jI x16.2)])],[]),([],[jH 4 (.tup [(jA Qm.cells x20.1),(jI x20.2)])],[]),(jT [4,5,6,9,10,11,12,13],[jH 2 (jB x30),(7,.bool true),jH 10 (jI x34),jH 12 (jI x36),(14,.bool true)],[])] [some false] [] [] [10] (.ret,(f3n0E a1 a2 a3 a4 a5 (.ret (decide (x34=x36)))).2) (ap h12 (ap4 h12 (ap (f4_ok a1 h11) (ap h13 (ap (f5_ok a1 a2 a3 a4 h17) (ap (f6_ok a1 a2 a3 a4 h21) (ap4 h32 (ap2 h33 (ap4 h33 (ap (f7_ok x16.1 x20.1 h31) (ap (f8_ok a5 h35) (ap (f9_ok a5 h37) an)))))))))))) rfl
    ·obtain rfl:=Qd h;exact rE Qg [j3,(jF [3,4,5,6],[jH 1 (jB x10),(7,.bool false)],[]),([],[jH 4 (.tup [(jA Qm.cells x16.1),(jI x16.2)])],[]),([],[jH 4 (.tup [(jA Qm.cells x20.1),(jI x20.2)])],[]),(jF [9,10,11,12,13]++jT [4,5,6],[jH 2 (jB x30),(7,.bool true),(14,.bool false)],[])] [some false] [] [] [10] (.ret,(f3n0E a1 a2 a3 a4 a5 (.ret false)).2) (ap h12 (ap4 h12 (ap (f4_ok a1 h11) (ap h13 (ap (f5_ok a1 a2 a3 a4 h17) (ap (f6_ok a1 a2 a3 a4 h21) (ap4 h32 (ap2 h33 (ap4 h33 (ap (f7_ok x16.1 x20.1 h31) an)))))))))) rfl
   ·obtain rfl:=Qd h;exact rE Qg [j3,(jF [3,4,5,6],[jH 1 (jB x10),(7,.bool false)],[]),([],[jH 4 (.tup [(jA Qm.cells x16.1),(jI x16.2)])],[]),([],[jH 4 (.tup [(jA Qm.cells x20.1),(jI x20.2)])],[]),(jF [4,5,6],[jH 2 (jB x30),(7,.bool false)],[])] [some false] [] [] [10] (.ret,(f3n0E a1 a2 a3 a4 a5 (.ret false)).2) (ap h12 (ap4 h12 (ap (f4_ok a1 h11) (ap h13 (ap (f5_ok a1 a2 a3 a4 h17) (ap (f6_ok a1 a2 a3 a4 h21) (ap4 h32 (ap (f7_ok x16.1 x20.1 h31) an)))))))) rfl
noncomputable def f3(a1:Qj)(a2 a3 a4:Int)(a5:Qa):Option Bool:=(f3n0 a1 a2 a3 a4 a5).bind fun o=>match o with
 | .ret v38=>some v38
theorem f3_ok(a1:Qj)(a2 a3 a4:Int)(a5:Qa){r:Bool}(h:f3 a1 a2 a3 a4 a5=some r):Qo Try.prog false 3 [(jA Qj.cells a1),(jI a2),(jI a3),(jI a4),(jA Qa.cells a5)] [] (jB r) []:=by
 unfold f3 at h;obtain ⟨o,ho,h⟩:=Qe h;cases o with
 | ret v38 =>
  obtain rfl:=Qd h;exact Qo.plain Qg (f:=Try.f3) (c:=c3) (by kernel_rfl) (by kernel_rfl) (by kernel_rfl) (by kernel_rfl) ((f3n0_ok a1 a2 a3 a4 a5 ho).mono fun r e=>by subst e; exact ⟨.inl rfl,(jB v38),(jB v38),by kernel_rfl,by kernel_rfl,((Wk.refl _):Wk (jB v38) (jB v38))⟩)
end Go.Proofs.Ytfeklaffeigilaa
namespace Go.Proofs.Ytfeklaffeigilaa
set_option linter.unusedVariables false
set_option linter.unusedSimpArgs false
open Go.RowKit
abbrev RW:=Qb
abbrev KY:=Key_


def rwC(a b:RW):Int:=cmpOr (cmpB a.Account b.Account) (cmpB a.Ccy b.Ccy)
theorem rwC_cmp:Cmp rwC:=(Cmp.str Qb.Account).lex (Cmp.str Qb.Ccy)
abbrev ltR:RW→RW→Bool:=fun x y=>decide (rwC x y<0)
theorem swoR:SWo ltR:=rwC_cmp.swo
theorem cmpOr_zero{a b:Int} : cmpOr a b=0↔a=0∧b=0:=by
 unfold cmpOr
 by_cases h:a=0
 ·rw [decide_eq_true h]; simp [h]
 ·rw [decide_eq_false h]; simp [h]
theorem rwC_zero{a b:RW} : rwC a b=0↔a.Account=b.Account∧a.Ccy=b.Ccy:=by
 unfold rwC;rw [cmpOr_zero,cmpB_zero,cmpB_zero]
abbrev sameR(a b:RW):Prop:=a.Account=b.Account∧a.Ccy=b.Ccy
theorem lt_same_l{a b c:RW}(h:sameR a b):ltR a c=ltR b c:=by unfold ltR rwC; rw [h.1,h.2]
theorem lt_same_r{a b c:RW}(h:sameR a b):ltR c a=ltR c b:=by unfold ltR rwC; rw [h.1,h.2]
theorem lt_irr_same{a b:RW}(h:sameR a b):ltR a b=false:=by rw [lt_same_l h]; exact swoR.irr b
theorem lt_tot{a b:RW}(h:ltR a b=false)(k:ltR b a=false):sameR a b:=by
 exact rwC_zero.1 (rwC_cmp.tot (of_decide_eq_false h) (of_decide_eq_false k))
def befR(a b:RW):Bool:=bif seq a.Account b.Account then slt a.Ccy b.Ccy else slt a.Account b.Account
theorem bef_lt(a b:RW):befR a b=ltR a b:=by
 unfold befR ltR rwC cmpOr;cases h:seq a.Account b.Account with
 | true =>
  rw [cond_true,decide_eq_true (cmpB_zero.2 (seq_iff.1 h)),cond_true];rw [Bool.eq_iff_iff,decide_eq_true_eq,cmpB_neg]
 | false =>
  have:cmpB a.Account b.Account≠0:=fun e=>by rw [cmpB_zero.1 e,seq_refl] at h; cases h
  rw [cond_false,decide_eq_false this,cond_false,Bool.eq_iff_iff,decide_eq_true_eq,cmpB_neg]

def addR(x y:RW):RW:=⟨x.Account,x.Ccy,wr64 (x.In+y.In),wr64 (x.Out+y.Out)⟩
def withR:List RW→RW→List RW
 | [],x=>[x]
 | y::r,x=>bif ltR y x then y::withR r x else bif ltR x y then x::y::r else addR x y::r
abbrev RwS(l:List RW):Prop:=l.Pairwise fun x y=>ltR x y=true
def getR(l:List RW)(x:RW):RW:=match l.find? (fun y=>!(ltR x y)&&!(ltR y x)) with | some y=>addR x y | none=>x
theorem with_mem{x:RW} : ∀{l:List RW},RwS l→∀z,z∈withR l x↔(z∈l∧¬sameR z x)∨z=getR l x
 | [],_,z=>by simp [withR,getR]
 | y::r,h,z=>by
  have h':=List.pairwise_cons.1 h;have ih:=with_mem (x:=x) h'.2 z;rw [withR];cases h1:ltR y x with
  | true =>
   have hns:¬sameR y x:=fun e=>by rw [lt_irr_same e] at h1; cases h1
   have hg:getR (y::r) x=getR r x:=by
    unfold getR;rw [List.find?_cons,h1,Bool.not_true,Bool.and_false]
   rw [cond_true,List.mem_cons,ih,hg,List.mem_cons]
   constructor
   ·rintro (rfl | ⟨k1,k2⟩ | k)
    ·exact .inl ⟨.inl rfl,hns⟩
    ·exact .inl ⟨.inr k1,k2⟩
    ·exact .inr k
   ·rintro (⟨rfl | k1,k2⟩ | k)
    ·exact .inl rfl
    ·exact .inr (.inl ⟨k1,k2⟩)
    ·exact .inr (.inr k)
  | false =>
   rw [cond_false];cases h2:ltR x y with
   | true =>
    have hr:∀w∈y::r,ltR x w=true:=fun w hw=>by
     rcases List.mem_cons.1 hw with rfl | hw
     ·exact h2
     ·exact swoR.tr h2 (h'.1 w hw)
    have hg:getR (y::r) x=x:=by
     unfold getR;rw [List.find?_eq_none.2 fun w hw=>by rw [hr w hw]; simp]
    rw [cond_true,List.mem_cons,hg]
    constructor
    ·rintro (k | k)
     ·exact .inr k
     ·refine .inl ⟨k,fun e=>?_⟩;have:=hr z k;rw [lt_irr_same ⟨e.1.symm,e.2.symm⟩] at this; cases this
    ·rintro (⟨k,_⟩ | k)
     ·exact .inr k
     ·exact .inl k
   | false =>
    have hs:=lt_tot h1 h2;have hg:getR (y::r) x=addR x y:=by
     unfold getR;rw [List.find?_cons,h1,h2]; rfl
    have hr:∀w∈r,¬sameR w x:=fun w hw e=>by
     have:=h'.1 w hw;rw [lt_same_r e,lt_irr_same hs] at this; cases this
    rw [cond_false,List.mem_cons,hg,List.mem_cons]
    constructor
    ·rintro (k | k)
     ·exact .inr k
     ·exact .inl ⟨.inr k,hr z k⟩
    ·rintro (⟨rfl | k,k2⟩ | k)
     ·exact absurd hs k2
     ·exact .inr k
     ·exact .inl k
theorem add_same(x y:RW):sameR (addR x y) x:=⟨rfl,rfl⟩
theorem with_sr{x:RW} : ∀{l:List RW},RwS l→RwS (withR l x)
 | [],_=>by simp [withR]
 | y::r,h=>by
  have h':=List.pairwise_cons.1 h;rw [withR];cases h1:ltR y x with
  | true =>
   refine List.pairwise_cons.2 ⟨fun z hz=>?_,with_sr h'.2⟩;rcases (with_mem h'.2 z).1 hz with ⟨k,_⟩ | k
   ·exact h'.1 z k
   ·have hs:sameR z x:=by
     rw [k];unfold getR
     split
     ·exact add_same _ _
     ·exact ⟨rfl,rfl⟩
    rw [lt_same_r hs]; exact h1
  | false =>
   rw [cond_false];cases h2:ltR x y with
   | true =>
    refine List.pairwise_cons.2 ⟨fun z hz=>?_,h⟩;rcases List.mem_cons.1 hz with rfl | hz
    ·exact h2
    ·exact swoR.tr h2 (h'.1 z hz)
   | false =>
    have hs:=lt_tot h1 h2;refine List.pairwise_cons.2 ⟨fun z hz=>?_,h'.2⟩;rw [lt_same_l (add_same x y),←lt_same_l hs];exact h'.1 z hz

abbrev TB_:=List (KY×RW)
theorem keq_iff(a b:KY):Key_.eqb a b=true↔a=b:=by
 cases a; cases b;unfold Key_.eqb;simp only [Bool.and_eq_true,seq_iff,Key_.mk.injEq]
def zR:RW:=⟨⟨#[]⟩,⟨#[]⟩,0,0⟩
def kyR(x:RW):KY:=⟨x.Account,x.Ccy⟩
def addT(m:TB_)(x:RW):TB_:=mPut Key_.eqb (kyR x) ⟨x.Account,x.Ccy,wr64 ((mGet Key_.eqb zR (kyR x) m).In+x.In),wr64 ((mGet Key_.eqb zR (kyR x) m).Out+x.Out)⟩ m
theorem mput_iff{K V:Type}{E:K→K→Bool}(hE:∀a b,E a b=true↔a=b){k:K}{v:V} : ∀{m:List (K×V)},ndK m→∀x,x∈mPut E k v m↔x=(k,v)∨(x∈m∧x.1≠k)
 | [],_,x=>by simp [mPut]
 | (a,w)::r,h,x=>by
  have h':=List.pairwise_cons.1 h;rw [mPut];cases hk:E k a with
  | true =>
   have:=(hE _ _).1 hk; subst this;rw [cond_true,List.mem_cons,List.mem_cons]
   constructor
   ·rintro (e | e)
    ·exact .inl e
    ·exact .inr ⟨.inr e,fun k'=>h'.1 x e k'.symm⟩
   ·rintro (e | ⟨e | e,k'⟩)
    ·exact .inl e
    ·rw [e] at k'; exact absurd rfl k'
    ·exact .inr e
  | false =>
   have hne:a≠k:=fun e=>by rw [e,eRefl hE] at hk; cases hk
   rw [cond_false,List.mem_cons,List.mem_cons,mput_iff hE h'.2 x]
   constructor
   ·rintro (e | e | ⟨e,k'⟩)
    ·exact .inr ⟨.inl e,by rw [e]; exact hne⟩
    ·exact .inl e
    ·exact .inr ⟨.inr e,k'⟩
   ·rintro (e | ⟨e | e,k'⟩)
    ·exact .inr (.inl e)
    ·exact .inl e
    ·exact .inr (.inr ⟨e,k'⟩)
structure TR (m:TB_) (l:List RW):Prop where
 nd:ndK m
 key:∀x∈m,x.1=kyR x.2
 sr:RwS l
 rng:∀z∈l,-9223372036854775808≤z.In∧z.In≤9223372036854775807∧-9223372036854775808≤z.Out∧z.Out≤9223372036854775807
 mem:∀z,z∈l↔∃k,(k,z)∈m
theorem TR.nil:TR [] []:=⟨by simp,by simp,by simp,by simp,by simp⟩
theorem ky_same{x y:RW} : kyR x=kyR y↔sameR x y:=by
 unfold kyR; rw [Key_.mk.injEq]
theorem wr_id0{n:Int}(h1:-9223372036854775808≤n)(h2:n≤9223372036854775807):wr64 (0+n)=n:=by rw [Int.zero_add]; exact wrIn h1 h2
theorem wr_rng(n:Int) : -9223372036854775808≤wr64 n∧wr64 n≤9223372036854775807:=by
 show -9223372036854775808≤IntKind.i64.wrap n∧IntKind.i64.wrap n≤9223372036854775807;rw [IntKind.wrap_i64]; omega
theorem get_add{m:TB_}{l:List RW}(T:TR m l){x:RW}(h1:-9223372036854775808≤x.In∧x.In≤9223372036854775807)(h2:-9223372036854775808≤x.Out∧x.Out≤9223372036854775807) :
  (⟨x.Account,x.Ccy,wr64 ((mGet Key_.eqb zR (kyR x) m).In+x.In),wr64 ((mGet Key_.eqb zR (kyR x) m).Out+x.Out)⟩:RW)=getR l x:=by
 unfold getR;cases h:l.find? (fun y=>!(ltR x y)&&!(ltR y x)) with
 | none =>
  have hn:mGet Key_.eqb zR (kyR x) m=zR:=mgetNone keq_iff fun q hq e=>by
   have hz:=(T.mem q.2).2 ⟨q.1,hq⟩;have:=List.find?_eq_none.1 h q.2 hz;have hs:sameR q.2 x:=ky_same.1 (by rw [←T.key q hq,e]);rw [lt_irr_same hs,lt_irr_same ⟨hs.1.symm,hs.2.symm⟩] at this;exact this rfl
  rw [hn];show (⟨x.Account,x.Ccy,wr64 (0+x.In),wr64 (0+x.Out)⟩:RW)=x;rw [wr_id0 h1.1 h1.2,wr_id0 h2.1 h2.2]
 | some y =>
  have hy:=List.mem_of_find?_eq_some h;have hp:=List.find?_some h;simp only [Bool.and_eq_true,Bool.not_eq_true'] at hp;have hs:=lt_tot hp.1 hp.2;obtain ⟨k,hk⟩:=(T.mem y).1 hy;have hkk:k=kyR x:=by
   have:=T.key _ hk;rw [show k=kyR y from this];exact ky_same.2 ⟨hs.1.symm,hs.2.symm⟩
  have:mGet Key_.eqb zR (kyR x) m=y:=mgetMem keq_iff T.nd (by rw [←hkk]; exact hk);rw [this];unfold addR;rw [Int.add_comm y.In,Int.add_comm y.Out]
theorem TR.add{m:TB_}{l:List RW}(T:TR m l){x:RW}(h1:-9223372036854775808≤x.In∧x.In≤9223372036854775807)(h2:-9223372036854775808≤x.Out∧x.Out≤9223372036854775807):TR (addT m x) (withR l x):=by
 have hg:=get_add T h1 h2;have hmem:∀q,q∈addT m x↔q=(kyR x,getR l x)∨(q∈m∧q.1≠kyR x):=fun q=>by
  unfold addT;rw [mput_iff keq_iff T.nd,hg]
 have hsame:sameR (getR l x) x:=by
  unfold getR
  split
  ·exact add_same _ _
  ·exact ⟨rfl,rfl⟩
 refine ⟨mputNd keq_iff T.nd,fun q hq=>?_,with_sr T.sr,fun z hz=>?_,fun z=>?_⟩
 ·rcases (hmem q).1 hq with rfl | ⟨k,_⟩
  ·exact ky_same.2 ⟨hsame.1.symm,hsame.2.symm⟩
  ·exact T.key q k
 ·rcases (with_mem T.sr z).1 hz with ⟨k,_⟩ | rfl
  ·exact T.rng z k
  ·rw [←hg];have a1:=wr_rng ((mGet Key_.eqb zR (kyR x) m).In+x.In);have a2:=wr_rng ((mGet Key_.eqb zR (kyR x) m).Out+x.Out);exact ⟨a1.1,a1.2,a2.1,a2.2⟩
 ·rw [with_mem T.sr]
  constructor
  ·rintro (⟨k1,k2⟩ | rfl)
   ·obtain ⟨k,hk⟩:=(T.mem z).1 k1;refine ⟨k,(hmem _).2 (.inr ⟨hk,fun e=>k2 ?_⟩)⟩;rw [←ky_same,←T.key _ hk]; exact e
   ·exact ⟨kyR x,(hmem _).2 (.inl rfl)⟩
  ·rintro ⟨k,hk⟩
   rcases (hmem _).1 hk with e | ⟨k1,k2⟩
   ·exact .inr (congrArg Prod.snd e)
   ·refine .inl ⟨(T.mem z).2 ⟨k,k1⟩,fun e=>k2 ?_⟩;show k=kyR x;rw [show k=kyR z from T.key _ k1];exact ky_same.2 e
end Go.Proofs.Ytfeklaffeigilaa
namespace Go.Proofs.Ytfeklaffeigilaa
set_option linter.unusedVariables false
set_option linter.unusedSimpArgs false
open Go.RowKit
theorem dec_nat(a b:Nat):decide ((a:Int)≤(b:Int))=decide (a≤b):=by congr 1; apply propext; omega

theorem f75_eq(c:Int):f75 c=some (ltrI c):=by
 unfold f75 f75n0 ltrI;cases decide (97≤c)<;>cases decide (c≤122)<;>cases decide (65≤c)<;>cases decide (c≤90)<;>rfl
theorem f66n2_eq{s:ByteArray}{k:Int}{b:UInt8}(h:at? s.data.toList k=some b):f66n2 s k=some (bif chB b then .norm else .ret):=by
 have h3:f66n3 s b k=some (.norm (!(chB b))):=by
  unfold f66n3 chB othI;rw [f75_eq,ltNot,ltNot];simp only [Option.bind_some];cases ltrI b.toNat<;>cases decide ((48:Int)≤(b.toNat:Int))<;>cases decide ((b.toNat:Int)≤57)<;>cases decide ((b.toNat:Int)=95)<;>cases decide ((b.toNat:Int)=45)<;>rfl
 unfold f66n2;rw [h];simp only [Option.bind_some,h3];cases chB b<;>rfl
theorem f66n4_at(s:ByteArray)(hs:s.data.toList.length≤1000):∀(r:List UInt8)(f k:Nat),s.data.toList.drop k=r→r.length<f→f66n4 f s (k:Int)=some (bif r.all chB then .exit0 else .ret)
 | _,0,_,_,h=>absurd h (Nat.not_lt_zero _)
 | [],f+1,k,hd,_=>by
  have:=Qab hd;rw [f66n4,sizeList,decide_eq_false (by omega),cond_false]; rfl
 | b::r,f+1,k,hd,hf=>by
  obtain ⟨h1,h2,h3⟩:=dropAt hd;rw [f66n4,sizeList,decide_eq_true (by omega),cond_true,f66n2_eq h1,List.all_cons];cases chB b with
  | false=>rfl
  | true =>
   simp only [cond_true,Option.bind_some,Bool.true_and];rw [wrSucc (by omega)];exact f66n4_at s hs r f (k+1) h3 (by simpa using hf)
theorem f66_eq(s:ByteArray):f66 s=some (nmB s):=by
 unfold f66 f66n0 nmB;rw [sizeList]
 by_cases hs:s.data.toList.length≤40
 ·have h1:f66n1 s=some (bif s.data.toList.all chB then .norm else .ret):=by
   unfold f66n1;have:=f66n4_at s (by omega) s.data.toList FUEL 0 List.drop_zero (Qar (by omega));rw [show ((0:Nat):Int)=0 from rfl] at this;rw [this];cases s.data.toList.all chB<;>rfl
  rw [h1];generalize s.data.toList=l at hs;rw [decide_eq_false (by omega:¬(40:Int)<(l.length:Int))];cases l with
  | nil=>rfl
  | cons b r =>
   have h0:at? (b::r) 0=some b:=rfl;rw [decide_eq_false (by simp; omega:¬(((b::r).length:Nat):Int)<1),h0];simp only [cond_false,Option.bind_some,f75_eq,isNm,decide_eq_true hs,Bool.true_and,List.all_cons,chB];cases ltrI b.toNat<;>cases othI b.toNat<;>cases r.all chB<;>rfl
 ·rw [decide_eq_false (by omega:¬((s.data.toList.length:Nat):Int)<1),decide_eq_true (by omega:(40:Int)<((s.data.toList.length:Nat):Int))];have:isNm s.data.toList=false:=by
   generalize s.data.toList=l at hs;cases l with
   | nil=>rfl
   | cons b r=>simp only [isNm,decide_eq_false hs,Bool.false_and]
  rw [this]; rfl
theorem f38n2_eq{s:ByteArray}{k:Int}{b:UInt8}(h:at? s.data.toList k=some b):f38n2 s k=some (bif ltrI b.toNat||(othI b.toNat&&!(decide (k=0))) then .norm else .ret):=by
 have h3:f38n3 s k b=some (.norm (ltrI b.toNat)):=by
  unfold f38n3 ltrI;cases decide ((97:Int)≤(b.toNat:Int))<;>cases decide ((b.toNat:Int)≤122)<;>cases decide ((65:Int)≤(b.toNat:Int))<;>cases decide ((b.toNat:Int)≤90)<;>rfl
 have h4:f38n4 s k b (ltrI b.toNat)=some (.norm (othI b.toNat)):=by
  unfold f38n4 othI;cases decide ((48:Int)≤(b.toNat:Int))<;>cases decide ((b.toNat:Int)≤57)<;>cases decide ((b.toNat:Int)=95)<;>cases decide ((b.toNat:Int)=45)<;>rfl
 unfold f38n2;rw [h];simp only [Option.bind_some,h3,h4];unfold f38n5;cases ltrI b.toNat<;>cases othI b.toNat<;>cases decide (k=0)<;>rfl
theorem f38n6_at(s:ByteArray)(hs:s.data.toList.length≤1000):∀(r:List UInt8)(f k:Nat),1≤k→s.data.toList.drop k=r→r.length<f→f38n6 f s (k:Int)=some (bif r.all chB then .exit0 else .ret)
 | _,0,_,_,_,h=>absurd h (Nat.not_lt_zero _)
 | [],f+1,k,_,hd,_=>by
  have:=Qab hd;rw [f38n6,sizeList,decide_eq_false (by omega),cond_false]; rfl
 | b::r,f+1,k,h1k,hd,hf=>by
  obtain ⟨h1,h2,h3⟩:=dropAt hd;rw [f38n6,sizeList,decide_eq_true (by omega),cond_true,f38n2_eq h1,List.all_cons,decide_eq_false (by omega:¬((k:Int)=0)),Bool.not_false,Bool.and_true];show _=some (bif chB b&&r.all chB then _ else _);unfold chB;cases ltrI b.toNat||othI b.toNat with
  | false=>rfl
  | true =>
   simp only [cond_true,Option.bind_some,Bool.true_and];rw [wrSucc (by omega)];exact f38n6_at s hs r f (k+1) (by omega) h3 (by simpa using hf)
theorem f38_eq(s:ByteArray):f38 s=some (nmB s):=by
 unfold f38 f38n0 nmB;rw [sizeList]
 by_cases hs:s.data.toList.length≤40
 ·cases hl:s.data.toList with
  | nil=>rfl
  | cons b r =>
   rw [hl] at hs;have h1:f38n1 s=some (bif ltrI b.toNat&&r.all chB then .norm else .ret):=by
    unfold f38n1;obtain ⟨g,hg⟩:∃g,FUEL=g+1:=⟨FUEL-1,by have:=Qar (n:=1) (by omega); omega⟩;have hlt:r.length<g:=by
     have:=Qar (n:=50) (by omega);simp only [List.length_cons] at hs;omega
    have h0:at? s.data.toList 0=some b:=by rw [hl]; rfl
    rw [hg,f38n6,sizeList,hl,decide_eq_true (by simp),cond_true,f38n2_eq h0];cases hb:ltrI b.toNat with
    | false=>cases othI b.toNat<;>rfl
    | true =>
     have:=f38n6_at s (by rw [hl]; omega) r g 1 (by omega) (by rw [hl]; rfl) hlt;rw [show wr64 (0+1)=((1:Nat):Int) from by rw [wrIn (by omega) (by omega)]; rfl,this];cases r.all chB<;>rfl
   rw [decide_eq_false (by simp; omega:¬(((b::r).length:Nat):Int)<1),decide_eq_false (by omega:¬(40:Int)<(((b::r).length:Nat):Int)),h1];simp only [cond_false,Option.bind_some,isNm,decide_eq_true hs,Bool.true_and];cases ltrI b.toNat&&r.all chB<;>rfl
 ·rw [decide_eq_false (by omega:¬((s.data.toList.length:Nat):Int)<1),decide_eq_true (by omega:(40:Int)<((s.data.toList.length:Nat):Int))];have:isNm s.data.toList=false:=by
   generalize s.data.toList=l at hs;cases l with
   | nil=>rfl
   | cons b r=>simp only [isNm,decide_eq_false hs,Bool.false_and]
  rw [this]; rfl

def Qby(n:Int):Bool:=decide (-1125899906842624≤n)&&decide (n≤1125899906842624)
theorem f67_eq(n:Int):f67 n=some (Qby n):=by
 unfold f67 f67n0 Qby;cases decide (-1125899906842624≤n)<;>rfl
def badL(x:Qc):Bool:=!nmB x.Account||(!nmB x.Ccy||(decide (x.Amount=0)||!Qby x.Amount))
def Lk(x:Qc):Prop:=x.Account.size≤maxLen∧x.Ccy.size≤maxLen
theorem f65_eq{x:Qc}(h:Lk x):f65 x=some (badL x):=by
 unfold f65 f65n0 badL;rw [f66_eq,f66_eq];simp only [Option.bind_some,f67_eq];cases nmB x.Account<;>cases nmB x.Ccy<;>cases decide (x.Amount=0)<;>rfl
theorem f76_65n2L_at(bc:List Qc):∀(l:List Qc)(v:Int),(∀x∈l,Lk x)→(l.any badL=false∧f76_65n2L bc l v=some .exit0)∨(l.any badL=true∧∃k,v≤k∧f76_65n2L bc l v=some (.ret k))
 | [],v,_=>.inl ⟨rfl,rfl⟩
 | x::r,v,h=>by
  rw [f76_65n2L,f65_eq (h x (by simp))];simp only [Option.bind_some,List.any_cons];cases badL x with
  | true=>exact .inr ⟨rfl,v,Int.le_refl _,rfl⟩
  | false =>
   rcases f76_65n2L_at bc r (v+1) (fun y hy=>h y (by simp [hy])) with ⟨h1,h2⟩|⟨h1,k,h2,h3⟩
   ·exact .inl ⟨by simpa using h1,by simpa using h2⟩
   ·exact .inr ⟨by simpa using h1,k,by omega,by simpa using h3⟩
theorem f68_65_eq{l:List Qc}(hl:l.length≤maxLen)(h:∀x∈l,Lk x):f68_65 l=some (l.any badL):=by
 unfold f68_65 f68_65n0 f76_65 f76_65n0 f76_65n1;rw [f76_65n2_run l hl];rcases f76_65n2L_at l l 0 h with ⟨h1,h2⟩|⟨h1,k,h2,h3⟩
 ·rw [h2,h1]; rfl
 ·rw [h3,h1];simp only [Option.bind_some];rw [decide_eq_true h2]
def textB(s:ByteArray):Bool:=(ofB s).all fun c=>decide (32≤c)&&decide (c≤126)
theorem f48n2L_at(bb:Qa):∀(l:List Int)(v:Int),f48n2L bb l v=some (bif l.all (fun c=>decide (32≤c)&&decide (c≤126)) then .exit0 else .ret)
 | [],v=>rfl
 | c::r,v=>by
  rw [f48n2L];simp only [f48n2L_at bb r,ltNot,List.all_cons];cases decide (32≤c)<;>cases decide (c≤126)<;>rfl
def Rk(r:Qa):Prop:=r.Text.size≤maxLen∧r.Lines.length≤maxLen∧∀x∈r.Lines,Lk x
def formedB(r:Qa):Bool:=textB r.Text&&(decide (0≤r.Day)&&(decide (r.Day≤99999)&&(decide (r.Text.size≤100)&&(decide (2≤r.Lines.length)&&(decide (r.Lines.length≤20)&&!r.Lines.any badL)))))
theorem len_ofB(s:ByteArray):(ofB s).length=s.size:=by simp [ofB]
theorem f48_eq{r:Qa}(h:Rk r):f48 r=some (formedB r):=by
 unfold f48 f48n0 f48n1 formedB textB;have h1:r.Text.size≤9223372036854775807:=Nat.le_trans h.1 (by unfold maxLen; decide);have h2:decide ((r.Text.size:Int)≤100)=decide (r.Text.size≤100):=dec_nat _ 100;have h3:decide ((2:Int)≤(r.Lines.length:Int))=decide (2≤r.Lines.length):=dec_nat 2 _;have h4:decide ((r.Lines.length:Int)≤20)=decide (r.Lines.length≤20):=dec_nat _ 20;rw [f48n2_run r (by rw [len_ofB]; exact h.1),f48n2L_at,h2,h3,h4,f68_65_eq h.2.1 h.2.2,decide_eq_true h1];simp only [req,cond_true,Option.bind_some];cases (ofB r.Text).all (fun c=>decide (32≤c)&&decide (c≤126))<;>cases decide (0≤r.Day)<;>cases decide (r.Day≤99999)<;>cases decide (r.Text.size≤100)<;>cases decide (2≤r.Lines.length)<;>cases decide (r.Lines.length≤20)<;>rfl
theorem formed_small{r:Qa}(h:formedB r=true):0≤r.Day∧r.Day≤99999∧r.Text.size≤100∧2≤r.Lines.length∧r.Lines.length≤20∧r.Lines.any badL=false:=by
 simp only [formedB,Bool.and_eq_true,decide_eq_true_eq,Bool.not_eq_true'] at h;exact ⟨h.2.1,h.2.2.1,h.2.2.2.1,h.2.2.2.2.1,h.2.2.2.2.2.1,h.2.2.2.2.2.2⟩

def sumsL:List Qc→List (ByteArray×Int)→List (ByteArray×Int)
 | [],m=>m
 | x::l,m=>sumsL l (mPut seq x.Ccy (wr64 (mGet seq 0 x.Ccy m+x.Amount)) m)
theorem f49n2L_at(bb:Qa):∀(l:List Qc)(v:Int)(m:List (ByteArray×Int)),f49n2L bb l v m=some (.exit0 (sumsL l m))
 | [],v,m=>rfl
 | x::r,v,m=>by rw [f49n2L,f49n2L_at bb r]; rfl
theorem f49n4_eq(be:List (ByteArray×Int)):∀l:List (ByteArray×Int),f49n4 be l=some (bif l.all (fun x=>decide (x.2=0)) then .exit2 else .ret)
 | []=>rfl
 | x::r=>by
  rw [f49n4,f49n4_eq be r,List.all_cons];cases decide (x.2=0)<;>rfl
def balB(r:Qa):Bool:=(sumsL r.Lines []).all fun x=>decide (x.2=0)
theorem f49_eq{r:Qa}(h:r.Lines.length≤maxLen):f49 r=some (balB r):=by
 unfold f49 f49n0 f49n1 f49n3;rw [f49n2_run r _ h,f49n2L_at];simp only [Option.bind_some];have hp:∀p,p.Perm (sumsL r.Lines [])→f49n4 (sumsL r.Lines []) p=some (bif balB r then .exit2 else .ret):=fun p hp=>by
  rw [f49n4_eq,hp.all_eq]; rfl
 rw [anyOrder_of hp];cases balB r<;>rfl

abbrev Bal:=List (Qh×Int)
def acc(x:Qc):Qh:=⟨x.Account,x.Ccy⟩
def bal(a:Qh)(b:Bal):Int:=mGet Qh.eqb 0 a b
def postL:List Qc→Bal→Bal
 | [],m=>m
 | x::l,m=>postL l (mPut Qh.eqb (acc x) (wr64 (bal (acc x) m+x.Amount)) m)
def fitsM(l:List Qc)(b:Bal):Bool:=!l.any fun x=>!Qby (bal (acc x) b)
theorem f76r1n2L_at(bc:List Qc)(d k:Int)(b:Bal):∀(l:List Qc)(v:Int),(l.any (fun x=>!Qby (bal (acc x) b))=false∧f76r1n2L bc d k b l v=some .exit0)∨(l.any (fun x=>!Qby (bal (acc x) b))=true∧∃j,v≤j∧f76r1n2L bc d k b l v=some (.ret j))
 | [],v=>.inl ⟨rfl,rfl⟩
 | x::r,v=>by
  have e:f69r1 x d k b=some (!Qby (bal (acc x) b)):=by unfold f69r1 f69r1n0; rw [f67_eq]; rfl
  rw [f76r1n2L,e];simp only [Option.bind_some,List.any_cons];cases Qby (bal (acc x) b) with
  | false=>exact .inr ⟨rfl,v,Int.le_refl _,rfl⟩
  | true =>
   rcases f76r1n2L_at bc d k b r (v+1) with ⟨h1,h2⟩|⟨h1,j,h2,h3⟩
   ·exact .inl ⟨by simpa using h1,by simpa using h2⟩
   ·exact .inr ⟨by simpa using h1,j,by omega,by simpa using h3⟩
theorem f50r1_eq{r:Qa}(h:r.Lines.length≤maxLen)(d k:Int)(b:Bal):f50r1 r d k b=some (fitsM r.Lines b):=by
 unfold f50r1 f50r1n0 f68r1 f68r1n0 f76r1 f76r1n0 f76r1n1 fitsM;rw [f76r1n2_run _ _ _ _ h];rcases f76r1n2L_at r.Lines d k b r.Lines 0 with ⟨h1,h2⟩|⟨h1,j,h2,h3⟩
 ·rw [h2,h1]; rfl
 ·rw [h3,h1];simp only [Option.bind_some];rw [decide_eq_true h2]
def addS(r:Qa)(d m:Int)(b:Bal):Bool×Int×Int×Bal :=
 bif decide (m=200)||(!formedB r||(!balB r||decide (r.Day<d))) then (false,d,m,b) else (fitsM r.Lines (postL r.Lines b),r.Day,wr64 (m+1),postL r.Lines b)
theorem f33r2n2L_at(bb:Qa)(d m:Int):∀(l:List Qc)(v:Int)(b:Bal),f33r2n2L bb d m l v b=some (.exit0 (postL l b))
 | [],v,b=>rfl
 | x::r,v,b=>by rw [f33r2n2L,f33r2n2L_at bb d m r]; rfl
theorem f33r2_eq{r:Qa}(h:Rk r)(d m:Int)(b:Bal):f33r2 r d m b=some (addS r d m b):=by
 unfold f33r2 f33r2n0 f33r2n1 addS;rw [f48_eq h,f49_eq h.2.1,f33r2n2_run _ _ _ _ h.2.1,f33r2n2L_at];simp only [Option.bind_some,f50r1_eq h.2.1];cases decide (m=200)<;>cases formedB r<;>cases balB r<;>cases decide (r.Day<d)<;>rfl
theorem add_true{r:Qa}{d m:Int}{b:Bal}(h:(addS r d m b).1=true):m≠200∧formedB r=true∧balB r=true∧d≤r.Day∧fitsM r.Lines (postL r.Lines b)=true∧(addS r d m b).2=(r.Day,wr64 (m+1),postL r.Lines b):=by
 unfold addS at h ⊢;cases hc:decide (m=200)||(!formedB r||(!balB r||decide (r.Day<d))) with
 | true=>rw [hc] at h; cases h
 | false =>
  rw [hc] at h;simp only [cond_false] at h ⊢;simp only [Bool.or_eq_false_iff,decide_eq_false_iff_not,Bool.not_eq_false'] at hc;exact ⟨hc.1,hc.2.1,hc.2.2.1,by omega,h,trivial⟩
def openL:List Qa→Int→Int→Bal→Bool×Int×Int×Bal
 | [],d,m,b=>(true,d,m,b)
 | r::l,d,m,b=>bif (addS r d m b).1 then openL l (addS r d m b).2.1 (addS r d m b).2.2.1 (addS r d m b).2.2.2 else (false,(addS r d m b).2)
theorem f22r1n2L_at(ba:Qj):∀(l:List Qa)(v d m:Int)(b:Bal),(∀r∈l,Rk r) →
  f22r1n2L ba l v d m b=some (bif (openL l d m b).1 then .exit0 (openL l d m b).2.1 (openL l d m b).2.2.1 (openL l d m b).2.2.2 else .ret (openL l d m b).2.1 (openL l d m b).2.2.1 (openL l d m b).2.2.2)
 | [],v,d,m,b,_=>rfl
 | r::l,v,d,m,b,h=>by
  rw [f22r1n2L,f33r2_eq (h r (by simp)),openL];simp only [Option.bind_some];cases hx:(addS r d m b).1 with
  | true=>simp only [cond_true]; exact f22r1n2L_at ba l _ _ _ _ fun y hy=>h y (by simp [hy])
  | false=>rfl
def openS(j:Qj):Bool×Int×Int×Bal:=bif decide (200<j.Records.length) then (false,0,0,[]) else openL j.Records 0 0 []
def Jk(j:Qj):Prop:=j.Records.length≤maxLen∧∀r∈j.Records,Rk r
theorem f22r1_eq{j:Qj}(h:Jk j):f22r1 j=some (openS j):=by
 unfold f22r1 f22r1n0 f22r1n1 openS;rw [f22r1n2_run _ _ _ _ h.1,f22r1n2L_at _ _ _ _ _ _ h.2];have e:decide ((200:Int)<(j.Records.length:Int))=decide (200<j.Records.length):=by congr 1; apply propext; omega
 rw [e];generalize openL j.Records 0 0 []=x;obtain ⟨a,d,m,b⟩:=x;cases decide (200<j.Records.length)<;>cases a<;>rfl
theorem f11_eq{j:Qj}(h:Jk j):f11 j=some (bif (openS j).1 then 0 else 8):=by
 unfold f11 f11n0;rw [f22r1_eq h];simp only [Option.bind_some];cases (openS j).1<;>rfl
end Go.Proofs.Ytfeklaffeigilaa
namespace Go.Proofs.Ytfeklaffeigilaa
set_option linter.unusedVariables false
set_option linter.unusedSimpArgs false
open Go.RowKit
theorem wr_wr(a:Int):wr64 (wr64 a)=wr64 a:=by
 have:=wrL a 0;simpa using this
theorem seqC(a b:ByteArray):seq a b=seq b a:=by
 cases h:seq a b with
 | true=>rw [seq_iff.1 h,seq_refl]
 | false =>
  symm
  refine seqF fun e=>?_;rw [e,seq_refl] at h; cases h
theorem seq_iff'(a b:ByteArray):seq a b=true↔a=b:=seq_iff

theorem ofB_map(s:ByteArray):ofB s=s.data.toList.map fun b=>((b.toNat:Nat):Int):=rfl
theorem f25n2L_eq_(r:Qa):∀(l:List UInt8)(v:Int),f25n2L r l v=some (bif (l.map fun b=>((b.toNat:Nat):Int)).all (fun c=>decide (32≤c)&&decide (c≤126)) then .exit0 else .ret)
 | [],_=>rfl
 | b::l,v=>by
  rw [f25n2L,f25n2L_eq_ r l,List.map_cons,List.all_cons,ltNot,ltNot];cases decide ((32:Int)≤(b.toNat:Int))<;>cases decide ((b.toNat:Int)≤126)<;>rfl
theorem f25n4L_eq_(r:Qa):∀(l:List Qc)(v:Int),f25n4L r l v=some (bif l.any badL then .ret else .exit2)
 | [],_=>rfl
 | x::l,v=>by
  rw [f25n4L,f38_eq,f38_eq,f25n4L_eq_ r l,List.any_cons,badL,Qby,ltNot x.Amount,ltNot 1125899906842624 x.Amount];cases nmB x.Account<;>cases nmB x.Ccy<;>cases decide (x.Amount=0)<;>cases decide (-1125899906842624≤x.Amount)<;>cases decide (x.Amount≤1125899906842624)<;>rfl
theorem f25_eq{r:Qa}(h:Rk r):f25 r=some (formedB r):=by
 have h1:f25n1 r=some (bif textB r.Text then .norm else .ret):=by
  unfold f25n1 textB;rw [f25n2_run r h.1,f25n2L_eq_,ofB_map];generalize (r.Text.data.toList.map fun b=>((b.toNat:Nat):Int)).all (fun c=>decide (32≤c)&&decide (c≤126))=z;cases z<;>rfl
 have h3:f25n3 r=some (bif r.Lines.any badL then .ret else .norm):=by
  unfold f25n3;rw [f25n4_run r h.2.1,f25n4L_eq_];cases r.Lines.any badL<;>rfl
 unfold f25 f25n0 formedB;rw [h1,h3,ltNot r.Day 0,ltNot 99999 r.Day,ltNot 100 (r.Text.size:Int),ltNot (r.Lines.length:Int) 2,ltNot 20 (r.Lines.length:Int)];rw [show decide ((r.Text.size:Int)≤100)=decide (r.Text.size≤100) from dec_nat _ 100,show decide ((2:Int)≤(r.Lines.length:Int))=decide (2≤r.Lines.length) from dec_nat 2 _,show decide ((r.Lines.length:Int)≤20)=decide (r.Lines.length≤20) from dec_nat _ 20];cases textB r.Text<;>cases decide (0≤r.Day)<;>cases decide (r.Day≤99999)<;>cases decide (r.Text.size≤100)<;>cases decide (2≤r.Lines.length)<;>cases decide (r.Lines.length≤20)<;>cases r.Lines.any badL<;>rfl

def sC(c:ByteArray):List Qc→Int
 | []=>0
 | x::r=>(bif seq x.Ccy c then x.Amount else 0)+sC c r
theorem sums_get(c:ByteArray):∀(l:List Qc)(m:List (ByteArray×Int)),(∀c,wr64 (mGet seq 0 c m)=mGet seq 0 c m)→mGet seq 0 c (sumsL l m)=wr64 (mGet seq 0 c m+sC c l)
 | [],m,h=>by rw [sumsL,sC,Int.add_zero,h]
 | x::l,m,h=>by
  have h':∀c,wr64 (mGet seq 0 c (mPut seq x.Ccy (wr64 (mGet seq 0 x.Ccy m+x.Amount)) m))=mGet seq 0 c (mPut seq x.Ccy (wr64 (mGet seq 0 x.Ccy m+x.Amount)) m):=fun c=>by
   rw [mgetPut seq_iff'];cases seq c x.Ccy with
   | true=>exact wr_wr _
   | false=>exact h c
  rw [sumsL,sums_get c l _ h',mgetPut seq_iff',sC,seqC c];cases k:seq x.Ccy c with
  | true=>rw [cond_true,cond_true,seq_iff.1 k,wrL,Int.add_assoc]
  | false=>rw [cond_false,cond_false,Int.zero_add]
theorem sums_nd:∀(l:List Qc)(m:List (ByteArray×Int)),ndK m→ndK (sumsL l m)
 | [],_,h=>h
 | x::l,m,h=>sums_nd l _ (mputNd seq_iff' h)
theorem sums_keys:∀(l:List Qc)(m:List (ByteArray×Int))(q:ByteArray),(∃e∈sumsL l m,e.1=q)↔(∃e∈m,e.1=q)∨∃x∈l,x.Ccy=q
 | [],m,q=>by simp [sumsL]
 | x::l,m,q=>by
  rw [sumsL,sums_keys l]
  constructor
  ·rintro (h | ⟨y,hy,e⟩)
   ·rcases mputKeys seq_iff' h with rfl | h
    ·exact .inr ⟨x,List.mem_cons_self,rfl⟩
    ·exact .inl h
   ·exact .inr ⟨y,List.mem_cons_of_mem _ hy,e⟩
  ·rintro (h | ⟨y,hy,e⟩)
   ·exact .inl (mputKeep seq_iff' h)
   ·rcases List.mem_cons.1 hy with rfl | hy
    ·refine .inl ?_;obtain ⟨z,hz,e2⟩:=mputHas seq_iff' y.Ccy (wr64 (mGet seq 0 y.Ccy m+y.Amount)) m;exact ⟨z,hz,e2.trans e⟩
    ·exact .inr ⟨y,hy,e⟩
def sumB(r:Qa):Bool:=r.Lines.all fun x=>decide (wr64 (sC x.Ccy r.Lines)=0)
theorem bal_sum(r:Qa):balB r=sumB r:=by
 have hget:∀c,mGet seq 0 c (sumsL r.Lines [])=wr64 (sC c r.Lines):=fun c=>by
  have:=sums_get c r.Lines [] (fun _=>rfl);rw [this];show wr64 (0+_)=_;rw [Int.zero_add]
 have hnd:=sums_nd r.Lines [] (by simp);have hk:=sums_keys r.Lines [];unfold balB sumB;rw [Bool.eq_iff_iff,List.all_eq_true,List.all_eq_true]
 constructor
 ·intro h x hx;obtain ⟨e,he,eq⟩:=(hk x.Ccy).2 (.inr ⟨x,hx,rfl⟩);have h1:=of_decide_eq_true (h e he);have h2:mGet seq 0 e.1 (sumsL r.Lines [])=e.2:=mgetMem seq_iff' hnd he;rw [eq,hget,h1] at h2;exact decide_eq_true h2
 ·intro h e he;rcases (hk e.1).1 ⟨e,he,rfl⟩ with ⟨_,h0,_⟩|⟨x,hx,eq⟩
  ·cases h0
  ·have h1:=of_decide_eq_true (h x hx);have h2:mGet seq 0 e.1 (sumsL r.Lines [])=e.2:=mgetMem seq_iff' hnd he;rw [hget,←eq,h1] at h2;exact decide_eq_true h2.symm
theorem f26n4L_eq_{r:Qa}{i:Int}{y:Qc}(hi:at? r.Lines i=some y):∀(l:List Qc)(n v:Int),wr64 n=n→f26n4L i r l n v=some (.exit2 (wr64 (n+sC y.Ccy l)))
 | [],n,v,h=>by rw [f26n4L,sC,Int.add_zero,h]
 | x::l,n,v,h=>by
  rw [f26n4L,hi,sC];simp only [Option.bind_some];cases seq x.Ccy y.Ccy with
  | true=>rw [cond_true,cond_true,f26n4L_eq_ hi l _ _ (wr_wr _),wrL,Int.add_assoc]
  | false=>rw [cond_false,cond_false,f26n4L_eq_ hi l _ _ h,Int.zero_add]
theorem f26n5_at{r:Qa}(hl:r.Lines.length≤maxLen)(hs:r.Lines.length≤1000000):∀(l:List Qc)(f k:Nat),r.Lines.drop k=l→l.length<f→f26n5 f r (k:Int)=some (bif l.all (fun x=>decide (wr64 (sC x.Ccy r.Lines)=0)) then .exit0 else .ret)
 | _,0,_,_,h=>absurd h (Nat.not_lt_zero _)
 | [],f+1,k,hd,_=>by
  have:=Qab hd;rw [f26n5,decide_eq_false (by omega),cond_false]; rfl
 | y::l,f+1,k,hd,hf=>by
  have hk:=dropAt hd;have h2:f26n2 (k:Int) r=some (bif decide (wr64 (sC y.Ccy r.Lines)=0) then .norm else .ret):=by
   unfold f26n2 f26n3;rw [f26n4_run (k:Int) r 0 hl,f26n4L_eq_ hk.1 r.Lines 0 0 rfl,Int.zero_add];simp only [Option.bind_some];cases decide (wr64 (sC y.Ccy r.Lines)=0)<;>rfl
  rw [f26n5,decide_eq_true (by have:=hk.2.1; omega),cond_true,h2,List.all_cons];cases decide (wr64 (sC y.Ccy r.Lines)=0) with
  | false=>rfl
  | true =>
   simp only [cond_true,Option.bind_some,Bool.true_and];rw [wrSucc (by have:=hk.2.1; omega)];exact f26n5_at hl hs l f (k+1) hk.2.2 (by simpa using hf)
theorem f26_eq{r:Qa}(hs:r.Lines.length≤1000000):f26 r=some (balB r):=by
 have hl:r.Lines.length≤maxLen:=maxSmall hs;rw [bal_sum];unfold f26 f26n0 f26n1;have:=f26n5_at hl hs r.Lines FUEL 0 rfl (Qar hs);rw [show ((0:Nat):Int)=0 from rfl] at this;rw [this];unfold sumB;cases r.Lines.all (fun x=>decide (wr64 (sC x.Ccy r.Lines)=0))<;>rfl

theorem aeq_iff(a b:Qh):Qh.eqb a b=true↔a=b:=by
 cases a; cases b;unfold Qh.eqb;simp only [Bool.and_eq_true,seq_iff,Qh.mk.injEq]
def sA(u c:ByteArray):List Qc→Int
 | []=>0
 | x::r=>(bif seq x.Account u&&seq x.Ccy c then x.Amount else 0)+sA u c r
def sR(u c:ByteArray):List Qa→Int
 | []=>0
 | r::l=>sA u c r.Lines+sR u c l
theorem sR_app(u c:ByteArray):∀a b:List Qa,sR u c (a++b)=sR u c a+sR u c b
 | [],b=>by simp [sR]
 | r::a,b=>by rw [List.cons_append,sR,sR,sR_app u c a b,Int.add_assoc]
theorem post_get(u c:ByteArray):∀(l:List Qc)(b:Bal),(∀a,wr64 (bal a b)=bal a b)→bal ⟨u,c⟩ (postL l b)=wr64 (bal ⟨u,c⟩ b+sA u c l)∧∀a,wr64 (bal a (postL l b))=bal a (postL l b)
 | [],b,h=>⟨by rw [postL,sA,Int.add_zero,h],h⟩
 | x::l,b,h=>by
  have hg:∀a,bal a (mPut Qh.eqb (acc x) (wr64 (bal (acc x) b+x.Amount)) b)=bif Qh.eqb a (acc x) then wr64 (bal (acc x) b+x.Amount) else bal a b:=fun a=>mgetPut aeq_iff _ _ _ _ b;have h':∀a,wr64 (bal a (mPut Qh.eqb (acc x) (wr64 (bal (acc x) b+x.Amount)) b))=bal a (mPut Qh.eqb (acc x) (wr64 (bal (acc x) b+x.Amount)) b):=fun a=>by
   rw [hg];cases Qh.eqb a (acc x) with
   | true=>exact wr_wr _
   | false=>exact h a
  obtain ⟨h1,h2⟩:=post_get u c l _ h';refine ⟨?_,h2⟩;rw [postL,h1,hg,sA];have he:Qh.eqb ⟨u,c⟩ (acc x)=(seq x.Account u&&seq x.Ccy c):=by
   unfold Qh.eqb acc;rw [seqC u,seqC c]
  rw [he];cases k:(seq x.Account u&&seq x.Ccy c) with
  | true =>
   rw [Bool.and_eq_true] at k;have:acc x=⟨u,c⟩:=by unfold acc; rw [seq_iff.1 k.1,seq_iff.1 k.2]
   rw [cond_true,cond_true,this,wrL,Int.add_assoc]
  | false=>rw [cond_false,cond_false,Int.zero_add]
theorem f39n3_at{bm:List Qa}{u c:ByteArray}{i:Int}{y:Qa}(hi:at? bm i=some y)(hs:y.Lines.length≤1000000):∀(l:List Qc)(f k:Nat)(n:Int),y.Lines.drop k=l→l.length<f→wr64 n=n→f39n3 f bm u c i n (k:Int)=some (.exit2 (wr64 (n+sA u c l)))
 | _,0,_,_,_,h,_=>absurd h (Nat.not_lt_zero _)
 | [],f+1,k,n,hd,_,hn=>by
  have:=Qab hd;rw [f39n3,hi];simp only [Option.bind_some];rw [decide_eq_false (by omega),cond_false,sA,Int.add_zero,hn]
 | x::l,f+1,k,n,hd,hf,hn=>by
  have hk:=dropAt hd;rw [f39n3,hi];simp only [Option.bind_some];rw [decide_eq_true (by have:=hk.2.1; omega),cond_true,hk.1,sA];simp only [Option.bind_some];rw [wrSucc (by have:=hk.2.1; omega)];cases seq x.Account u with
  | false=>rw [cond_false,Bool.false_and,cond_false,f39n3_at hi hs l f (k+1) n hk.2.2 (by simpa using hf) hn,Int.zero_add]
  | true =>
   cases seq x.Ccy c with
   | false=>rw [cond_true,cond_false,Bool.and_false,cond_false,f39n3_at hi hs l f (k+1) n hk.2.2 (by simpa using hf) hn,Int.zero_add]
   | true=>rw [cond_true,cond_true,Bool.and_self,cond_true,f39n3_at hi hs l f (k+1) _ hk.2.2 (by simpa using hf) (wr_wr _),wrL,Int.add_assoc]
theorem f39n4_at{bm:List Qa}{u c:ByteArray}(hb:bm.length≤1000000)(hs:∀r∈bm,r.Lines.length≤1000000):∀(l:List Qa)(f k:Nat)(n:Int),bm.drop k=l→l.length<f→wr64 n=n→f39n4 f bm u c n (k:Int)=some (.exit0 (wr64 (n+sR u c l)))
 | _,0,_,_,_,h,_=>absurd h (Nat.not_lt_zero _)
 | [],f+1,k,n,hd,_,hn=>by
  have:=Qab hd;rw [f39n4,decide_eq_false (by omega),cond_false,sR,Int.add_zero,hn]
 | y::l,f+1,k,n,hd,hf,hn=>by
  have hk:=dropAt hd;have hy:=hs y (List.mem_of_mem_drop (hd ▸ List.mem_cons_self));have h3:=f39n3_at (u:=u) (c:=c) hk.1 hy y.Lines FUEL 0 n rfl (Qar hy) hn;rw [show ((0:Nat):Int)=0 from rfl] at h3;have h2:f39n2 bm u c n (k:Int)=some (.norm (wr64 (n+sA u c y.Lines))):=by unfold f39n2; rw [h3]; rfl
  rw [f39n4,decide_eq_true (by have:=hk.2.1; omega),cond_true,h2];simp only [Option.bind_some];rw [wrSucc (by have:=hk.2.1; omega),f39n4_at hb hs l f (k+1) _ hk.2.2 (by simpa using hf) (wr_wr _),wrL,sR,Int.add_assoc]
theorem f39_eq{bm:List Qa}(u c:ByteArray)(hb:bm.length≤1000000)(hs:∀r∈bm,r.Lines.length≤1000000):f39 bm u c=some (wr64 (sR u c bm)):=by
 have:=f39n4_at (u:=u) (c:=c) hb hs bm FUEL 0 0 rfl (Qar hb) rfl;rw [show ((0:Nat):Int)=0 from rfl,Int.zero_add] at this;unfold f39 f39n0 f39n1;rw [this]; rfl
theorem f27n2L_eq_{bm:List Qa}(hb:bm.length≤1000000)(hs:∀r∈bm,r.Lines.length≤1000000)(r:Qa):∀(l:List Qc)(v:Int),f27n2L bm r l v=some (bif l.any (fun x=>!Qby (wr64 (sR x.Account x.Ccy bm))) then .ret else .exit0)
 | [],_=>rfl
 | x::l,v=>by
  rw [f27n2L,f39_eq _ _ hb hs,f27n2L_eq_ hb hs r l,List.any_cons,Qby];simp only [Option.bind_some];rw [ltNot 1125899906842624,ltNot (wr64 _)];cases decide (-1125899906842624≤wr64 (sR x.Account x.Ccy bm))<;>cases decide (wr64 (sR x.Account x.Ccy bm)≤1125899906842624)<;>rfl
theorem f27_eq{p:List Qa}{r:Qa}(hb:(p++[r]).length≤1000000)(hs:∀x∈p++[r],x.Lines.length≤1000000):f27 (p++[r])=some (!(r.Lines.any fun x=>!Qby (wr64 (sR x.Account x.Ccy (p++[r]))))):=by
 have hl:r.Lines.length≤1000000:=hs r (by simp);have ea:at? (p++[r]) (wr64 (((p++[r]).length:Int)-1))=some r:=by
  have:wr64 (((p++[r]).length:Int)-1)=((p.length:Nat):Int):=by rw [wrIn (by simp<;>omega) (by simp at hb ⊢<;>omega)]; simp
  rw [this,at_len (k:=p.length) (a:=p) (x:=r) (b:=[]) rfl rfl]
 unfold f27 f27n0 f27n1;rw [ea];simp only [Option.bind_some];rw [f27n2_run (p++[r]) r (maxSmall hl),f27n2L_eq_ hb hs];cases r.Lines.any (fun x=>!Qby (wr64 (sR x.Account x.Ccy (p++[r]))))<;>rfl

theorem f15n4_at{j:Qj}(hj:Jk j)(hl:j.Records.length≤30)(hs:∀r∈j.Records,r.Lines.length≤1000000):∀(l:List Qa)(f:Nat)(p:List Qa)(d:Int)(b:Bal),j.Records=p++l→l.length<f →
  (match p.getLast? with | some y=>d=y.Day | none=>d=0)→(∀u c,bal ⟨u,c⟩ b=wr64 (sR u c p)) →
  f15n4 f j ((p.length:Nat):Int)=some (bif (openL l d (p.length:Int) b).1 then .exit0 else .ret)
 | _,0,_,_,_,_,h,_,_=>absurd h (Nat.not_lt_zero _)
 | [],f+1,p,d,b,h,_,_,_=>by
  rw [f15n4,decide_eq_false (by rw [h,List.append_nil]; omega),cond_false]; rfl
 | r::l,f+1,p,d,b,h,hf,hd,hb=>by
  have hlen:j.Records.length=p.length+(l.length+1):=by rw [h]; simp
  have hr:Rk r:=hj.2 r (by rw [h]; simp);have hrl:r.Lines.length≤1000000:=hs r (by rw [h]; simp);have hwr:∀a,wr64 (bal a b)=bal a b:=fun a=>by
   cases a with
   | mk u c=>rw [hb,wr_wr]
  have hpost:∀u c,bal ⟨u,c⟩ (postL r.Lines b)=wr64 (sR u c (p++[r])):=fun u c=>by
   rw [(post_get u c r.Lines b hwr).1,hb,wrL,sR_app];simp only [sR,Int.add_zero]
  have htake:(j.Records.take (Int.toNat ((p.length+1:Nat):Int))).drop 0=p++[r]:=by
   rw [Int.toNat_natCast,List.drop_zero,h,show p++r::l=(p++[r])++l by simp];exact List.take_left' (by simp)
  have ew:wr64 ((p.length:Int)+1)=((p.length+1:Nat):Int):=wrSucc (by omega);have hcut:cutB 0 ((p.length+1:Nat):Int) j.Records.length=true:=by simp only [cutB,decide_eq_true_eq]; omega
  have h27:f27 (p++[r])=some (fitsM r.Lines (postL r.Lines b)):=by
   rw [f27_eq (by simp; omega) (fun x hx=>hs x (by rw [h]; simp at hx ⊢; rcases hx with hx | hx<;>simp [hx]))];unfold fitsM;have:(fun x:Qc=>!Qby (wr64 (sR x.Account x.Ccy (p++[r]))))=fun x=>!Qby (bal (acc x) (postL r.Lines b)):=funext fun x=>by
    rw [show bal (acc x) (postL r.Lines b)=_ from hpost x.Account x.Ccy]
   rw [this]
  have h200:decide (((p.length:Nat):Int)=200)=false:=decide_eq_false (by omega);have h3:f15n3 ((p.length:Nat):Int) j r=some (.norm (!(addS r d (p.length:Int) b).1)):=by
   unfold f15n3 addS;rw [f25_eq hr,f26_eq hrl,h200];cases hfm:formedB r with
   | false=>rfl
   | true =>
    cases hbl:balB r with
    | false=>rfl
    | true =>
     simp only [Option.bind_some,cond_true,Bool.false_or,Bool.not_true];rcases List.eq_nil_or_concat p with rfl | ⟨q,y,rfl⟩
     ·have hd0:d=0:=hd;have hday:=(formed_small hfm).1;rw [show (((([]:List Qa).length:Nat)):Int)=0 from rfl,decide_eq_false (by omega:¬(0:Int)<0),cond_false,decide_eq_false (by omega:¬r.Day<d),cond_false];have ew1:wr64 (0+1)=((0+1:Nat):Int):=ew;have hc1:cutB 0 ((0+1:Nat):Int) j.Records.length=true:=hcut;have ht1:(j.Records.take (Int.toNat ((0+1:Nat):Int))).drop 0=[]++[r]:=htake;rw [ew1,hc1,ht1,h27]; rfl
     ·rw [List.concat_eq_append] at *;have hd0:d=y.Day:=by rw [List.getLast?_concat] at hd; exact hd
      rw [decide_eq_true (by simp:(0:Int)<(((q++[y]).length:Nat):Int)),cond_true,show wr64 ((((q++[y]).length:Nat):Int)-1)=((q.length:Nat):Int) by rw [wrIn (by simp<;>omega) (by simp at hlen ⊢<;>omega)]; simp,at_len (k:=q.length) (a:=q) (x:=y) (b:=r::l) (by rw [h]; simp) rfl,hd0];simp only [Option.bind_some];cases decide (r.Day<y.Day) with
      | true=>rfl
      | false =>
       rw [ew,hcut,htake,h27]; rfl
  have h2:f15n2 ((p.length:Nat):Int) j=some (bif (addS r d (p.length:Int) b).1 then .norm else .ret):=by
   unfold f15n2;rw [at_len (k:=p.length) h rfl];simp only [Option.bind_some,h3];cases (addS r d (p.length:Int) b).1<;>rfl
  rw [f15n4,decide_eq_true (by omega),cond_true,h2,openL];cases ha:(addS r d (p.length:Int) b).1 with
  | false=>rfl
  | true =>
   have hadd:=add_true ha;simp only [cond_true,Option.bind_some];rw [hadd.2.2.2.2.2,ew];have ih:=f15n4_at hj hl hs l f (p++[r]) r.Day (postL r.Lines b) (by rw [h]; simp) (by simpa using hf) (by rw [List.getLast?_concat]) hpost;rw [List.length_append] at ih;exact ih
theorem f15_eq{j:Qj}(hj:Jk j)(hl:j.Records.length≤30)(hs:∀r∈j.Records,r.Lines.length≤1000000):f15 j=some (bif (openS j).1 then 0 else 8):=by
 unfold f15 f15n0 f15n1 openS;have:=f15n4_at hj hl hs j.Records FUEL [] 0 [] rfl (Qar (by omega)) rfl (fun u c=>rfl);rw [show (((([]:List Qa).length:Nat)):Int)=0 from rfl] at this;rw [decide_eq_false (by omega),this,decide_eq_false (by omega)];simp only [cond_false];cases (openL j.Records 0 0 []).1<;>rfl
end Go.Proofs.Ytfeklaffeigilaa
namespace Go.Proofs.Ytfeklaffeigilaa
set_option linter.unusedVariables false
set_option linter.unusedSimpArgs false
open Go.RowKit
def lpB(y:Int):Bool:=decide (y % 4=0)&&(!(decide (y % 100=0))||decide (y % 400=0))
theorem f64_eq{y:Int}(h:0≤y):f64 y=some (lpB y):=by
 unfold f64 f64n0 lpB;rw [Int.tmod_eq_emod_of_nonneg h,Int.tmod_eq_emod_of_nonneg h,Int.tmod_eq_emod_of_nonneg h];cases decide (y % 4=0)<;>cases decide (y % 100=0)<;>rfl
theorem f46_eq{y:Int}(h:0≤y):f46 y=some (lpB y):=by
 unfold f46 f46n0 lpB;rw [Int.tmod_eq_emod_of_nonneg h,Int.tmod_eq_emod_of_nonneg h,Int.tmod_eq_emod_of_nonneg h]
 by_cases h4:y % 400=0
 ·rw [decide_eq_true h4,decide_eq_true (by omega:y % 4=0)]; simp
 ·rw [decide_eq_false h4]
  by_cases h1:y % 100=0
  ·rw [decide_eq_true h1]; simp
  ·rw [decide_eq_false h1]; simp
def mL(b:Bool):List Int:=[0,31,bif b then 29 else 28,31,30,31,30,31,31,30,31,30,31]
def mN(b:Bool)(m:Nat):Int:=((mL b)[m]?).getD 0
def arL(b:Bool):Qae:=bif b then Qae.mk 0 31 29 31 30 31 30 31 31 30 31 30 31 else Qae.mk 0 31 28 31 30 31 30 31 31 30 31 30 31
theorem f43_eq{y:Int}(h:0≤y):f43 y=some (arL (lpB y)):=by
 unfold f43 f43n0 arL;rw [f64_eq h];cases lpB y<;>rfl
theorem m_cases{m:Nat}(h1:1≤m)(h2:m≤12):m=1∨m=2∨m=3∨m=4∨m=5∨m=6∨m=7∨m=8∨m=9∨m=10∨m=11∨m=12:=by omega
theorem f41_eq{y:Int}{m:Nat}(h1:1900≤y)(h2:y≤2173)(h3:1≤m)(h4:m≤12):f41 y (m:Int)=some (mN (lpB y) m,0):=by
 unfold f41 f41n0 f62 f62n0;rw [decide_eq_true h1,decide_eq_true h2,f43_eq (by omega)];rcases m_cases h3 h4 with rfl | rfl | rfl | rfl | rfl | rfl | rfl | rfl | rfl | rfl | rfl | rfl<;>cases lpB y<;>rfl
theorem f41_bad{y m:Int}(h:¬(1900≤y∧y≤2173∧1≤m∧m≤12)):f41 y m=some (0,2):=by
 unfold f41 f41n0 f62 f62n0
 by_cases h1:1900≤y
 ·by_cases h2:y≤2173
  ·rw [decide_eq_true h1,decide_eq_true h2]
   by_cases h3:m<1
   ·rw [decide_eq_true h3]; rfl
   ·rw [decide_eq_false h3,decide_eq_true (by omega:12<m)]; rfl
  ·rw [decide_eq_true h1,decide_eq_false h2]; rfl
 ·rw [decide_eq_false h1]; rfl
theorem f45_eq{y:Int}{m:Nat}(h0:0≤y)(h3:1≤m)(h4:m≤12):f45 y (m:Int)=some (mN (lpB y) m):=by
 unfold f45 f45n0 f45n1 f45n2 f45n3;rw [f46_eq h0];rcases m_cases h3 h4 with rfl | rfl | rfl | rfl | rfl | rfl | rfl | rfl | rfl | rfl | rfl | rfl<;>cases lpB y<;>rfl
theorem mN_rng{b:Bool}{m:Nat}(h3:1≤m)(h4:m≤12):28≤mN b m∧mN b m≤31:=by
 rcases m_cases h3 h4 with rfl | rfl | rfl | rfl | rfl | rfl | rfl | rfl | rfl | rfl | rfl | rfl<;>cases b<;>decide

def lps(y:Int):Int:=y / 4-y / 100+y / 400
def fst_(y:Int):Int:=365*(y-1900)+lps (y-1)-lps 1899
theorem f63_eq{y:Int}(h0:0≤y)(h1:y≤100000):f63 y=some (lps y):=by
 unfold f63 f63n0 lps;rw [Int.tdiv_eq_ediv_of_nonneg h0,Int.tdiv_eq_ediv_of_nonneg h0,Int.tdiv_eq_ediv_of_nonneg h0];simp only [Option.bind_some];rw [wrIn (n:=y / 4) (by omega) (by omega),wrIn (n:=y / 100) (by omega) (by omega),wrIn (n:=y / 400) (by omega) (by omega),wrIn (n:=y / 4-y / 100) (by omega) (by omega),wrIn (by omega) (by omega)]
theorem f42_eq{y:Int}(h1:1900≤y)(h2:y≤2173):f42 y=some (fst_ y):=by
 unfold f42 f42n0 fst_;rw [wrIn (n:=y-1) (by omega) (by omega),f63_eq (by omega) (by omega),f63_eq (by omega) (by omega)];simp only [Option.bind_some];have a1:lps 1899=460:=by decide
 have a2:0≤lps (y-1)∧lps (y-1)≤2000:=by unfold lps; omega
 rw [wrIn (n:=y-1900) (by omega) (by omega),wrIn (n:=365*(y-1900)) (by omega) (by omega),wrIn (n:=365*(y-1900)+lps (y-1)) (by omega) (by omega),wrIn (by omega) (by omega)]
theorem fst_rng{y:Int}(h1:1900≤y)(h2:y≤2174):0≤fst_ y∧fst_ y≤200000:=by
 have a1:lps 1899=460:=by decide
 unfold fst_;rw [a1];unfold lps;omega
theorem fst_step{y:Int}(h1:1900≤y):fst_ (y+1)=fst_ y+365+(bif lpB y then 1 else 0):=by
 unfold fst_ lps;have e:y+1-1=y:=by omega
 rw [e];unfold lpB
 by_cases h4:y % 4=0
 ·by_cases h100:y % 100=0
  ·by_cases h400:y % 400=0
   ·rw [decide_eq_true h4,decide_eq_true h100,decide_eq_true h400]; simp only [Bool.not_true,Bool.or_true,Bool.and_true,cond_true]; omega
   ·rw [decide_eq_true h4,decide_eq_true h100,decide_eq_false h400]; simp only [Bool.not_true,Bool.or_false,Bool.and_false,cond_false]; omega
  ·rw [decide_eq_true h4,decide_eq_false h100]; simp only [Bool.not_false,Bool.true_or,Bool.and_true,cond_true]; omega
 ·rw [decide_eq_false h4]; simp only [Bool.false_and,cond_false]; omega
theorem f32n2_at{y:Int}(h2:y≤2173)(m:Int):∀(n f:Nat)(v i:Int),i+n=y→n<f→1900≤i→0≤v→v+400*n≤1000000→f32n2 f y m v i=some (.exit0 (v+(fst_ y-fst_ i)))
 | _,0,_,_,_,h,_,_,_=>absurd h (Nat.not_lt_zero _)
 | 0,f+1,v,i,h,_,_,_,_=>by
  have:i=y:=by omega
  rw [f32n2,decide_eq_false (by omega),cond_false,this,Int.sub_self,Int.add_zero]
 | n+1,f+1,v,i,h,hf,h1,h0,hv=>by
  have hs:=fst_step h1;have w1:wr64 (v+365)=v+365:=wrIn (by omega) (by omega);have w2:wr64 (v+365+1)=v+365+1:=wrIn (by omega) (by omega);have w3:wr64 (i+1)=i+1:=wrIn (by omega) (by omega);rw [f32n2,decide_eq_true (by omega),cond_true,f46_eq (by omega)];simp only [Option.bind_some];rw [w1,w2,w3];cases hl:lpB i with
  | true =>
   rw [hl,cond_true] at hs;rw [cond_true,f32n2_at h2 m n f _ (i+1) (by omega) (by omega) (by omega) (by omega) (by omega),hs]
   congr 2; omega
  | false =>
   rw [hl,cond_false] at hs;rw [cond_false,f32n2_at h2 m n f _ (i+1) (by omega) (by omega) (by omega) (by omega) (by omega),hs]
   congr 2; omega
def sm_:List Int→Int
 | []=>0
 | x::r=>x+sm_ r
theorem f31n2L_eq_(b:Qae)(m:Int):∀(l:List Int)(v k:Int),(∀x∈l,0≤x∧x≤31)→0≤v→v+31*l.length≤1000000→f31n2L b m l v k=some (.exit0 (v+sm_ l))
 | [],v,k,_,_,_=>by rw [f31n2L,sm_,Int.add_zero]
 | x::r,v,k,h,h0,hv=>by
  have hx:=h x List.mem_cons_self;rw [List.length_cons] at hv;rw [f31n2L,wrIn (n:=v+x) (by omega) (by omega),f31n2L_eq_ b m r _ _ (fun y hy=>h y (List.mem_cons_of_mem _ hy)) (by omega) (by omega),sm_,Int.add_assoc]
def ms_(b:Bool):Nat→Nat→Int
 | _,0=>0
 | k,n+1=>mN b k+ms_ b (k+1) n
theorem f32n4_at{y:Int}(h0:0≤y):∀(n f:Nat)(v:Int)(k m:Nat),k+n=m→n<f→1≤k→m≤12→0≤v→v+31*n≤1000000→f32n4 f y (m:Int) v (k:Int)=some (.exit2 (v+ms_ (lpB y) k n))
 | _,0,_,_,_,_,h,_,_,_,_=>absurd h (Nat.not_lt_zero _)
 | 0,f+1,v,k,m,h,_,_,_,_,_=>by rw [f32n4,decide_eq_false (by omega),cond_false,ms_,Int.add_zero]
 | n+1,f+1,v,k,m,h,hf,h1,h2,hv,hb=>by
  have hr:=mN_rng (b:=lpB y) (m:=k) h1 (by omega);rw [f32n4,decide_eq_true (by omega),cond_true,f45_eq h0 h1 (by omega)];simp only [Option.bind_some];rw [wrIn (n:=v+mN (lpB y) k) (by omega) (by omega),wrSucc (by omega),f32n4_at h0 n f _ (k+1) m (by omega) (by omega) (by omega) h2 (by omega) (by omega),ms_,Int.add_assoc]
theorem months{b:Bool}{m:Nat}(h3:1≤m)(h4:m≤12):sm_ ((mL b).take m)=ms_ b 1 (m-1):=by
 rcases m_cases h3 h4 with rfl | rfl | rfl | rfl | rfl | rfl | rfl | rfl | rfl | rfl | rfl | rfl<;>cases b<;>decide
theorem f44_eq(a b c:Int):f44 a b c=some (decide (b≤a)&&decide (a≤c)):=by
 unfold f44 f44n0;cases decide (b≤a)<;>rfl
theorem of_eq{y m d:Int}(hy:0≤y)(hm:0≤m)(hm2:m≤100)(hd:0≤d)(hd2:d≤100):∃r,f31 y m d=some r∧f32 y m d=some r:=by
 by_cases h:1900≤y∧y≤2173∧1≤m∧m≤12
 ·obtain ⟨h1,h2,h3,h4⟩:=h;obtain ⟨k,rfl⟩:∃k:Nat,m=(k:Int):=⟨m.toNat,by omega⟩;have hk1:1≤k:=by omega
  have hk2:k≤12:=by omega
  have hn:=mN_rng (b:=lpB y) hk1 hk2;have hf:=fst_rng h1 (by omega);unfold f31 f31n0 f32 f32n0;rw [f41_eq h1 h2 hk1 hk2,f44_eq,f44_eq,f45_eq hy hk1 hk2,decide_eq_true h1,decide_eq_true h2,decide_eq_true h3,decide_eq_true h4];simp only [Option.bind_some,decide_true,cond_true,Bool.and_self,f44_eq];rw [ltNot d 1,ltNot (mN (lpB y) k) d]
  by_cases d1:1≤d
  ·by_cases d2:d≤mN (lpB y) k
   ·rw [decide_eq_true d1,decide_eq_true d2];have e1:f31n1 (k:Int) (fst_ y) d (arL (lpB y))=some (.norm (fst_ y+d-1+sm_ ((mL (lpB y)).take k))):=by
     unfold f31n1;have hc:cutB 0 (k:Int) 13=true:=by simp only [cutB,decide_eq_true_eq]; omega
     have hlst:∀b:Bool,([(arL b).e0,(arL b).e1,(arL b).e2,(arL b).e3,(arL b).e4,(arL b).e5,(arL b).e6,(arL b).e7,(arL b).e8,(arL b).e9,(arL b).e10,(arL b).e11,(arL b).e12].take (Int.toNat (k:Int))).drop 0=(mL b).take k:=fun b=>by
      rw [Int.toNat_natCast,List.drop_zero];cases b<;>rfl
     have hall:∀x∈(mL (lpB y)).take k,0≤x∧x≤31:=fun x hx=>by
      have hx:=List.mem_of_mem_take hx;have hall:∀b:Bool,∀x∈mL b,0≤x∧x≤31:=by decide
      exact hall _ x hx
     have hlen:((mL (lpB y)).take k).length≤13:=by rw [List.length_take]; exact Nat.le_trans (Nat.min_le_right _ _) (Nat.le_refl _)
     rw [hc,req,cond_true,wrIn (n:=fst_ y+d) (by omega) (by omega),wrIn (n:=fst_ y+d-1) (by omega) (by omega)];rw [f31n2_run (arL (lpB y)) (k:Int) (fst_ y+d-1) (by rw [hlst]; exact maxSmall (by omega)),hlst,f31n2L_eq_ _ _ _ _ _ hall (by omega) (by omega)];rfl
    have e0:fst_ 1900=0:=by decide
    have e2:f32n1 y (k:Int) d=some (.norm (d-1+fst_ y)):=by
     unfold f32n1;rw [wrIn (n:=d-1) (by omega) (by omega),f32n2_at h2 (k:Int) (y-1900).toNat FUEL (d-1) 1900 (by omega) (Qar (by omega)) (by omega) (by omega) (by omega),e0,Int.sub_zero];rfl
    have e3:f32n3 y (k:Int) (d-1+fst_ y)=some (.norm (d-1+fst_ y+ms_ (lpB y) 1 (k-1))):=by
     unfold f32n3;have:=f32n4_at hy (k-1) FUEL (d-1+fst_ y) 1 k (by omega) (Qar (by omega)) (by omega) hk2 (by omega) (by omega);rw [show ((1:Nat):Int)=1 from rfl] at this;rw [this]; rfl
    have hms:0≤ms_ (lpB y) 1 (k-1)∧ms_ (lpB y) 1 (k-1)≤400:=by
     have:∀b:Bool,∀j:Fin 12,0≤ms_ b 1 j∧ms_ b 1 j≤400:=by decide
     exact this _ ⟨k-1,by omega⟩
    rw [f42_eq h1 h2,f43_eq hy];simp only [Option.bind_some,Bool.not_true,cond_false,cond_true,Bool.and_self,e1,e2,e3,months hk1 hk2];have e4:fst_ y+d-1+ms_ (lpB y) 1 (k-1)=d-1+fst_ y+ms_ (lpB y) 1 (k-1):=by omega
    unfold f47 f47n0;rw [e4,f44_eq,decide_eq_true (by omega:(0:Int)≤d-1+fst_ y+ms_ (lpB y) 1 (k-1)),ltNot 99999];simp only [Option.bind_some,Bool.true_and];cases decide (d-1+fst_ y+ms_ (lpB y) 1 (k-1)≤99999) with
    | true=>exact ⟨_,rfl,rfl⟩
    | false=>exact ⟨_,rfl,rfl⟩
   ·rw [decide_eq_true d1,decide_eq_false d2]; exact ⟨_,rfl,rfl⟩
  ·rw [decide_eq_false d1]; exact ⟨_,rfl,rfl⟩
 ·unfold f31 f31n0 f32 f32n0;rw [f41_bad h,f44_eq,f44_eq];refine ⟨(0,2),rfl,?_⟩
  by_cases h1:1900≤y∧y≤2173
  ·have h2:¬(1≤m∧m≤12):=fun k=>h ⟨h1.1,h1.2,k.1,k.2⟩;rw [decide_eq_true h1.1,decide_eq_true h1.2];have:(decide (1≤m)&&decide (m≤12))=false:=by
    rw [Bool.and_eq_false_iff,decide_eq_false_iff_not,decide_eq_false_iff_not]; omega
   simp only [Option.bind_some,Bool.and_self,cond_true,this,cond_false]
  ·have:(decide (1900≤y)&&decide (y≤2173))=false:=by
    rw [Bool.and_eq_false_iff,decide_eq_false_iff_not,decide_eq_false_iff_not]; omega
   simp only [Option.bind_some,this,cond_false]

def dg(b:UInt8):Bool:=decide ((48:Int)≤(b.toNat:Int))&&decide ((b.toNat:Int)≤57)
def nmI:Int→List UInt8→Int
 | n,[]=>n
 | n,b::r=>nmI (10*n+((b.toNat:Int)-48)) r
def MM:Nat→Int
 | 0=>1000000000000
 | k+1=>MM k / 10-1
theorem MM_le:∀k,MM k≤1000000000000
 | 0=>by decide
 | k+1=>by have:=MM_le k; rw [MM]; omega
theorem dg_rng{b:UInt8}(h:dg b=true):48≤(b.toNat:Int)∧(b.toNat:Int)≤57:=by
 unfold dg at h;rw [Bool.and_eq_true,decide_eq_true_eq,decide_eq_true_eq] at h;exact h
theorem nm_step{n:Int}{b:UInt8}(h:dg b=true)(h0:0≤n)(h1:n≤1000000000000):wr64 ((wr64 (10*n))+(wr64 (wru8 ((b.toNat:Int)-48))))=10*n+((b.toNat:Int)-48):=by
 have hb:=dg_rng h;have h8:wru8 ((b.toNat:Int)-48)=(b.toNat:Int)-48:=by
  show IntKind.u8.wrap _=_;rw [IntKind.wrap_u8]; omega
 rw [h8,wrIn (n:=10*n) (by omega) (by omega),wrIn (n:=(b.toNat:Int)-48) (by omega) (by omega),wrIn (by omega) (by omega)]
theorem nm_step2{n:Int}{b:UInt8}(h:dg b=true)(h0:0≤n)(h1:n≤1000000000000):wr64 ((wr64 ((wr64 (10*n))+(wr64 (b.toNat:Int))))-48)=10*n+((b.toNat:Int)-48):=by
 have hb:=dg_rng h;rw [wrIn (n:=10*n) (by omega) (by omega),wrIn (n:=(b.toNat:Int)) (by omega) (by omega),wrIn (n:=10*n+(b.toNat:Int)) (by omega) (by omega),wrIn (by omega) (by omega)]; omega
theorem f30L_eq(s:ByteArray):∀(l:List UInt8)(n v:Int),0≤n→n≤MM l.length→f30n2L s l n v=some (bif l.all dg then .exit0 (nmI n l) else .ret)
 | [],n,v,_,_=>rfl
 | b::r,n,v,h0,h1=>by
  have hM:=MM_le r.length;rw [List.length_cons,MM] at h1;rw [f30n2L,ltNot (b.toNat:Int) 48,ltNot 57 (b.toNat:Int),List.all_cons,nmI];cases hd:dg b with
  | true =>
   have hb:=dg_rng hd;rw [decide_eq_true hb.1,decide_eq_true hb.2,nm_step hd h0 (by omega),f30L_eq s r _ _ (by omega) (by omega)]; rfl
  | false =>
   unfold dg at hd;rw [Bool.and_eq_false_iff] at hd;rcases hd with hd | hd<;>rw [hd]
   ·rfl
   ·cases decide ((48:Int)≤(b.toNat:Int))<;>rfl
theorem f30_eq{s:ByteArray}(h:s.data.toList.length≤4):f30 s=some (bif s.data.toList.all dg then (nmI 0 s.data.toList,true) else (0,false)):=by
 unfold f30 f30n0 f30n1;have hM:(0:Int)≤MM s.data.toList.length:=by
  have:∀j:Fin 5,(0:Int)≤MM j:=by decide
  exact this ⟨s.data.toList.length,by omega⟩
 rw [f30n2_run s 0 (maxSmall (by show s.data.toList.length≤_; omega)),f30L_eq s s.data.toList 0 0 (by omega) hM];cases s.data.toList.all dg<;>rfl
theorem nm_nn:∀(l:List UInt8)(n:Int),0≤n→l.all dg=true→0≤nmI n l
 | [],n,h,_=>h
 | b::r,n,h,ha=>by
  rw [List.all_cons,Bool.and_eq_true] at ha;have:=dg_rng ha.1;exact nm_nn r _ (by omega) ha.2
theorem nm_two{a b:UInt8}(h:[a,b].all dg=true):0≤nmI 0 [a,b]∧nmI 0 [a,b]≤99:=by
 rw [List.all_cons,List.all_cons,Bool.and_eq_true,Bool.and_eq_true] at h;have:=dg_rng h.1;have:=dg_rng h.2.1;simp only [nmI]; omega

theorem ten{l:List UInt8}(h:l.length=10):∃b0 b1 b2 b3 b4 b5 b6 b7 b8 b9,l=[b0,b1,b2,b3,b4,b5,b6,b7,b8,b9]:=by
 match l,h with
 | [b0,b1,b2,b3,b4,b5,b6,b7,b8,b9],_=>exact ⟨b0,b1,b2,b3,b4,b5,b6,b7,b8,b9,rfl⟩
def okT(l:List UInt8):Bool:=match l with
 | [b0,b1,b2,b3,b4,b5,b6,b7,b8,b9]=>(decide ((b4.toNat:Int)=45)&&decide ((b7.toNat:Int)=45))&&([b0,b1,b2,b3].all dg&&([b5,b6].all dg&&[b8,b9].all dg))
 | _=>false
theorem scut_list(s:ByteArray)(a b:Nat):(scut s a b).data.toList=(s.data.toList.take b).drop a:=rfl
theorem f19_eq{s:ByteArray}{b0 b1 b2 b3 b4 b5 b6 b7 b8 b9:UInt8}(h:s.data.toList=[b0,b1,b2,b3,b4,b5,b6,b7,b8,b9]) :
  f19 s=bif okT s.data.toList then f31 (nmI 0 [b0,b1,b2,b3]) (nmI 0 [b5,b6]) (nmI 0 [b8,b9]) else some (0,12):=by
 have hs:s.size=10:=by show s.data.toList.length=10; rw [h]; rfl
 have l1:(scut s 0 (Int.toNat 4)).data.toList=[b0,b1,b2,b3]:=by rw [scut_list,h]; rfl
 have l2:(scut s (Int.toNat 5) (Int.toNat 7)).data.toList=[b5,b6]:=by rw [scut_list,h]; rfl
 have l3:(scut s (Int.toNat 8) s.size).data.toList=[b8,b9]:=by rw [scut_list,h,hs]; rfl
 unfold f19 f19n0;rw [f30_eq (by rw [l1]; simp),f30_eq (by rw [l2]; simp),f30_eq (by rw [l3]; simp),l1,l2,l3,hs,h];have c1:cutB 0 4 10=true:=by decide
 have c2:cutB 5 7 10=true:=by decide
 have c3:cutB 8 ((10:Nat):Int) 10=true:=by decide
 have a4:at? [b0,b1,b2,b3,b4,b5,b6,b7,b8,b9] 4=some b4:=rfl;have a7:at? [b0,b1,b2,b3,b4,b5,b6,b7,b8,b9] 7=some b7:=rfl;rw [c1,c2,c3,a4,a7,decide_eq_true (by rfl:(((10:Nat):Nat):Int)=10)];simp only [cond_true,Option.bind_some,req,okT];cases decide ((b4.toNat:Int)=45) with
 | false=>rfl
 | true =>
  cases decide ((b7.toNat:Int)=45) with
  | false=>rfl
  | true =>
   cases [b0,b1,b2,b3].all dg with
   | false=>rfl
   | true =>
    cases [b5,b6].all dg with
    | false=>rfl
    | true =>
     cases [b8,b9].all dg with
     | false=>rfl
     | true =>
      simp only [cond_true,Option.bind_some,Bool.and_self];cases f31 (nmI 0 [b0,b1,b2,b3]) (nmI 0 [b5,b6]) (nmI 0 [b8,b9]) with
      | none=>rfl
      | some r=>rfl
theorem dg_false{b:UInt8}(h:dg b=false){α:Type}(x y:α):(bif decide ((b.toNat:Int)<48) then x else bif decide (57<(b.toNat:Int)) then x else y)=x:=by
 rw [ltNot (b.toNat:Int) 48,ltNot 57 (b.toNat:Int)];unfold dg at h;rw [Bool.and_eq_false_iff] at h;rcases h with h | h<;>rw [h]
 ·rfl
 ·cases decide ((48:Int)≤(b.toNat:Int))<;>rfl
theorem dg_true{b:UInt8}(h:dg b=true){α:Type}(x y:α):(bif decide ((b.toNat:Int)<48) then x else bif decide (57<(b.toNat:Int)) then x else y)=y:=by
 have hb:=dg_rng h;rw [decide_eq_false (by omega),decide_eq_false (by omega)]; rfl
theorem nm_app(l:List UInt8)(b:UInt8):∀n,nmI n (l++[b])=10*nmI n l+((b.toNat:Int)-48):=by
 induction l with
 | nil=>intro n; rfl
 | cons x r ih=>intro n; exact ih _
section
variable {s:ByteArray} {b0 b1 b2 b3 b4 b5 b6 b7 b8 b9:UInt8} (h:s.data.toList=[b0,b1,b2,b3,b4,b5,b6,b7,b8,b9])
include h
omit h in
theorem st_0(h:s.data.toList=[b0,b1,b2,b3,b4,b5,b6,b7,b8,b9])  : f20n2 s 0 0 (Qac.mk 0 0 0)=some (bif dg b0 then .norm 0 (Qac.mk (nmI 0 [b0]) 0 0) else .ret):=by
 have hn:(0:Int)≤0∧0≤(1000000000000:Int):=by
  decide
 have he:nmI 0 [b0]=10*0+((b0.toNat:Int)-48):=by simp only [nmI]
 unfold f20n2;rw [h,show at? [b0,b1,b2,b3,b4,b5,b6,b7,b8,b9] 0=some b0 from rfl];cases hd:dg b0 with
 | false =>
  have:=dg_false hd (α:=Option f20n2O);simp only [Option.bind_some,this];rfl
 | true =>
  have:=dg_true hd (α:=Option f20n2O);simp only [Option.bind_some,this];rw [nm_step2 (n:=0) hd hn.1 hn.2,he];rfl
omit h in
theorem st_1(h:s.data.toList=[b0,b1,b2,b3,b4,b5,b6,b7,b8,b9])(h0:dg b0=true):f20n2 s 0 1 (Qac.mk (nmI 0 [b0]) 0 0)=some (bif dg b1 then .norm 0 (Qac.mk (nmI 0 [b0,b1]) 0 0) else .ret):=by
 have hn:(0:Int)≤(nmI 0 [b0])∧(nmI 0 [b0])≤(1000000000000:Int):=by
  have e:=dg_rng h0;simp only [nmI]; omega
 have he:nmI 0 [b0,b1]=10*(nmI 0 [b0])+((b1.toNat:Int)-48):=nm_app [b0] b1 0;unfold f20n2;rw [h,show at? [b0,b1,b2,b3,b4,b5,b6,b7,b8,b9] 1=some b1 from rfl];cases hd:dg b1 with
 | false =>
  have:=dg_false hd (α:=Option f20n2O);simp only [Option.bind_some,this];rfl
 | true =>
  have:=dg_true hd (α:=Option f20n2O);simp only [Option.bind_some,this];rw [nm_step2 (n:=nmI 0 [b0]) hd hn.1 hn.2,he];rfl
omit h in
theorem st_2(h:s.data.toList=[b0,b1,b2,b3,b4,b5,b6,b7,b8,b9])(h0:dg b0=true)(h1:dg b1=true):f20n2 s 0 2 (Qac.mk (nmI 0 [b0,b1]) 0 0)=some (bif dg b2 then .norm 0 (Qac.mk (nmI 0 [b0,b1,b2]) 0 0) else .ret):=by
 have hn:(0:Int)≤(nmI 0 [b0,b1])∧(nmI 0 [b0,b1])≤(1000000000000:Int):=by
  have e:=(⟨dg_rng h0,dg_rng h1⟩:((48:Int)≤(b0.toNat:Int)∧(b0.toNat:Int)≤57)∧((48:Int)≤(b1.toNat:Int)∧(b1.toNat:Int)≤57));simp only [nmI]; omega
 have he:nmI 0 [b0,b1,b2]=10*(nmI 0 [b0,b1])+((b2.toNat:Int)-48):=nm_app [b0,b1] b2 0;unfold f20n2;rw [h,show at? [b0,b1,b2,b3,b4,b5,b6,b7,b8,b9] 2=some b2 from rfl];cases hd:dg b2 with
 | false =>
  have:=dg_false hd (α:=Option f20n2O);simp only [Option.bind_some,this];rfl
 | true =>
  have:=dg_true hd (α:=Option f20n2O);simp only [Option.bind_some,this];rw [nm_step2 (n:=nmI 0 [b0,b1]) hd hn.1 hn.2,he];rfl
omit h in
theorem st_3(h:s.data.toList=[b0,b1,b2,b3,b4,b5,b6,b7,b8,b9])(h0:dg b0=true)(h1:dg b1=true)(h2:dg b2=true):f20n2 s 0 3 (Qac.mk (nmI 0 [b0,b1,b2]) 0 0)=some (bif dg b3 then .norm 0 (Qac.mk (nmI 0 [b0,b1,b2,b3]) 0 0) else .ret):=by
 have hn:(0:Int)≤(nmI 0 [b0,b1,b2])∧(nmI 0 [b0,b1,b2])≤(1000000000000:Int):=by
  have e:=(⟨dg_rng h0,dg_rng h1,dg_rng h2⟩:((48:Int)≤(b0.toNat:Int)∧(b0.toNat:Int)≤57)∧((48:Int)≤(b1.toNat:Int)∧(b1.toNat:Int)≤57)∧((48:Int)≤(b2.toNat:Int)∧(b2.toNat:Int)≤57));simp only [nmI]; omega
 have he:nmI 0 [b0,b1,b2,b3]=10*(nmI 0 [b0,b1,b2])+((b3.toNat:Int)-48):=nm_app [b0,b1,b2] b3 0;unfold f20n2;rw [h,show at? [b0,b1,b2,b3,b4,b5,b6,b7,b8,b9] 3=some b3 from rfl];cases hd:dg b3 with
 | false =>
  have:=dg_false hd (α:=Option f20n2O);simp only [Option.bind_some,this];rfl
 | true =>
  have:=dg_true hd (α:=Option f20n2O);simp only [Option.bind_some,this];rw [nm_step2 (n:=nmI 0 [b0,b1,b2]) hd hn.1 hn.2,he];rfl
omit h in
theorem st_4(h:s.data.toList=[b0,b1,b2,b3,b4,b5,b6,b7,b8,b9]):f20n2 s 0 4 (Qac.mk (nmI 0 [b0,b1,b2,b3]) 0 0)=some (bif decide ((b4.toNat:Int)=45) then .norm 1 (Qac.mk (nmI 0 [b0,b1,b2,b3]) 0 0) else .ret):=by
 unfold f20n2;rw [h,show at? [b0,b1,b2,b3,b4,b5,b6,b7,b8,b9] 4=some b4 from rfl];cases hb:decide ((b4.toNat:Int)=45)<;>simp [hb]<;>rfl
omit h in
theorem st_5(h:s.data.toList=[b0,b1,b2,b3,b4,b5,b6,b7,b8,b9])  : f20n2 s 1 5 (Qac.mk (nmI 0 [b0,b1,b2,b3]) 0 0)=some (bif dg b5 then .norm 1 (Qac.mk (nmI 0 [b0,b1,b2,b3]) (nmI 0 [b5]) 0) else .ret):=by
 have hn:(0:Int)≤0∧0≤(1000000000000:Int):=by
  decide
 have he:nmI 0 [b5]=10*0+((b5.toNat:Int)-48):=by simp only [nmI]
 unfold f20n2;rw [h,show at? [b0,b1,b2,b3,b4,b5,b6,b7,b8,b9] 5=some b5 from rfl];cases hd:dg b5 with
 | false =>
  have:=dg_false hd (α:=Option f20n2O);simp only [Option.bind_some,this];rfl
 | true =>
  have:=dg_true hd (α:=Option f20n2O);simp only [Option.bind_some,this];rw [nm_step2 (n:=0) hd hn.1 hn.2,he];rfl
omit h in
theorem st_6(h:s.data.toList=[b0,b1,b2,b3,b4,b5,b6,b7,b8,b9])(h5:dg b5=true):f20n2 s 1 6 (Qac.mk (nmI 0 [b0,b1,b2,b3]) (nmI 0 [b5]) 0)=some (bif dg b6 then .norm 1 (Qac.mk (nmI 0 [b0,b1,b2,b3]) (nmI 0 [b5,b6]) 0) else .ret):=by
 have hn:(0:Int)≤(nmI 0 [b5])∧(nmI 0 [b5])≤(1000000000000:Int):=by
  have e:=dg_rng h5;simp only [nmI]; omega
 have he:nmI 0 [b5,b6]=10*(nmI 0 [b5])+((b6.toNat:Int)-48):=nm_app [b5] b6 0;unfold f20n2;rw [h,show at? [b0,b1,b2,b3,b4,b5,b6,b7,b8,b9] 6=some b6 from rfl];cases hd:dg b6 with
 | false =>
  have:=dg_false hd (α:=Option f20n2O);simp only [Option.bind_some,this];rfl
 | true =>
  have:=dg_true hd (α:=Option f20n2O);simp only [Option.bind_some,this];rw [nm_step2 (n:=nmI 0 [b5]) hd hn.1 hn.2,he];rfl
omit h in
theorem st_7(h:s.data.toList=[b0,b1,b2,b3,b4,b5,b6,b7,b8,b9]):f20n2 s 1 7 (Qac.mk (nmI 0 [b0,b1,b2,b3]) (nmI 0 [b5,b6]) 0)=some (bif decide ((b7.toNat:Int)=45) then .norm 2 (Qac.mk (nmI 0 [b0,b1,b2,b3]) (nmI 0 [b5,b6]) 0) else .ret):=by
 unfold f20n2;rw [h,show at? [b0,b1,b2,b3,b4,b5,b6,b7,b8,b9] 7=some b7 from rfl];cases hb:decide ((b7.toNat:Int)=45)<;>simp [hb]<;>rfl
omit h in
theorem st_8(h:s.data.toList=[b0,b1,b2,b3,b4,b5,b6,b7,b8,b9])  : f20n2 s 2 8 (Qac.mk (nmI 0 [b0,b1,b2,b3]) (nmI 0 [b5,b6]) 0)=some (bif dg b8 then .norm 2 (Qac.mk (nmI 0 [b0,b1,b2,b3]) (nmI 0 [b5,b6]) (nmI 0 [b8])) else .ret):=by
 have hn:(0:Int)≤0∧0≤(1000000000000:Int):=by
  decide
 have he:nmI 0 [b8]=10*0+((b8.toNat:Int)-48):=by simp only [nmI]
 unfold f20n2;rw [h,show at? [b0,b1,b2,b3,b4,b5,b6,b7,b8,b9] 8=some b8 from rfl];cases hd:dg b8 with
 | false =>
  have:=dg_false hd (α:=Option f20n2O);simp only [Option.bind_some,this];rfl
 | true =>
  have:=dg_true hd (α:=Option f20n2O);simp only [Option.bind_some,this];rw [nm_step2 (n:=0) hd hn.1 hn.2,he];rfl
omit h in
theorem st_9(h:s.data.toList=[b0,b1,b2,b3,b4,b5,b6,b7,b8,b9])(h8:dg b8=true):f20n2 s 2 9 (Qac.mk (nmI 0 [b0,b1,b2,b3]) (nmI 0 [b5,b6]) (nmI 0 [b8]))=some (bif dg b9 then .norm 2 (Qac.mk (nmI 0 [b0,b1,b2,b3]) (nmI 0 [b5,b6]) (nmI 0 [b8,b9])) else .ret):=by
 have hn:(0:Int)≤(nmI 0 [b8])∧(nmI 0 [b8])≤(1000000000000:Int):=by
  have e:=dg_rng h8;simp only [nmI]; omega
 have he:nmI 0 [b8,b9]=10*(nmI 0 [b8])+((b9.toNat:Int)-48):=nm_app [b8] b9 0;unfold f20n2;rw [h,show at? [b0,b1,b2,b3,b4,b5,b6,b7,b8,b9] 9=some b9 from rfl];cases hd:dg b9 with
 | false =>
  have:=dg_false hd (α:=Option f20n2O);simp only [Option.bind_some,this];rfl
 | true =>
  have:=dg_true hd (α:=Option f20n2O);simp only [Option.bind_some,this];rw [nm_step2 (n:=nmI 0 [b8]) hd hn.1 hn.2,he];rfl
end
theorem f20_eq{s:ByteArray}{b0 b1 b2 b3 b4 b5 b6 b7 b8 b9:UInt8}(h:s.data.toList=[b0,b1,b2,b3,b4,b5,b6,b7,b8,b9]) :
  f20 s=bif okT s.data.toList then f32 (nmI 0 [b0,b1,b2,b3]) (nmI 0 [b5,b6]) (nmI 0 [b8,b9]) else some (0,12):=by
 have hs:s.size=10:=by show s.data.toList.length=10; rw [h]; rfl
 obtain ⟨g,hg⟩:∃g,FUEL=g+11:=⟨FUEL-11,by have:=Qar (n:=11) (by omega); omega⟩;have hok:okT s.data.toList=((decide ((b4.toNat:Int)=45)&&decide ((b7.toNat:Int)=45))&&([b0,b1,b2,b3].all dg&&([b5,b6].all dg&&[b8,b9].all dg))):=by rw [h]; rfl
 have key:f20n1 s=some (bif okT s.data.toList then .norm (Qac.mk (nmI 0 [b0,b1,b2,b3]) (nmI 0 [b5,b6]) (nmI 0 [b8,b9])) else .ret):=by
  rw [hok];unfold f20n1;rw [hg];rw [f20n3,decide_eq_true (by decide:((0:Int))<10),cond_true,st_0 h];cases h0:dg b0 with
  | false=>simp [h0]
  | true =>
   simp only [cond_true,Option.bind_some];rw [show wr64 (0+1)=1 from by rw [wrIn (by omega) (by omega)]; rfl];rw [f20n3,decide_eq_true (by decide:((1:Int))<10),cond_true,st_1 h h0];cases h1:dg b1 with
   | false=>simp [h0,h1]
   | true =>
    simp only [cond_true,Option.bind_some];rw [show wr64 (1+1)=2 from by rw [wrIn (by omega) (by omega)]; rfl];rw [f20n3,decide_eq_true (by decide:((2:Int))<10),cond_true,st_2 h h0 h1];cases h2:dg b2 with
    | false=>simp [h0,h1,h2]
    | true =>
     simp only [cond_true,Option.bind_some];rw [show wr64 (2+1)=3 from by rw [wrIn (by omega) (by omega)]; rfl];rw [f20n3,decide_eq_true (by decide:((3:Int))<10),cond_true,st_3 h h0 h1 h2];cases h3:dg b3 with
     | false=>simp [h0,h1,h2,h3]
     | true =>
      simp only [cond_true,Option.bind_some];rw [show wr64 (3+1)=4 from by rw [wrIn (by omega) (by omega)]; rfl];rw [f20n3,decide_eq_true (by decide:((4:Int))<10),cond_true,st_4 h];cases h4:decide ((b4.toNat:Int)=45) with
      | false=>simp [h0,h1,h2,h3,h4]
      | true =>
       simp only [cond_true,Option.bind_some];rw [show wr64 (4+1)=5 from by rw [wrIn (by omega) (by omega)]; rfl];rw [f20n3,decide_eq_true (by decide:((5:Int))<10),cond_true,st_5 h];cases h5:dg b5 with
       | false=>simp [h0,h1,h2,h3,h4,h5]
       | true =>
        simp only [cond_true,Option.bind_some];rw [show wr64 (5+1)=6 from by rw [wrIn (by omega) (by omega)]; rfl];rw [f20n3,decide_eq_true (by decide:((6:Int))<10),cond_true,st_6 h h5];cases h6:dg b6 with
        | false=>simp [h0,h1,h2,h3,h4,h5,h6]
        | true =>
         simp only [cond_true,Option.bind_some];rw [show wr64 (6+1)=7 from by rw [wrIn (by omega) (by omega)]; rfl];rw [f20n3,decide_eq_true (by decide:((7:Int))<10),cond_true,st_7 h];cases h7:decide ((b7.toNat:Int)=45) with
         | false=>simp [h0,h1,h2,h3,h4,h5,h6,h7]
         | true =>
          simp only [cond_true,Option.bind_some];rw [show wr64 (7+1)=8 from by rw [wrIn (by omega) (by omega)]; rfl];rw [f20n3,decide_eq_true (by decide:((8:Int))<10),cond_true,st_8 h];cases h8:dg b8 with
          | false=>simp [h0,h1,h2,h3,h4,h5,h6,h7,h8]
          | true =>
           simp only [cond_true,Option.bind_some];rw [show wr64 (8+1)=9 from by rw [wrIn (by omega) (by omega)]; rfl];rw [f20n3,decide_eq_true (by decide:((9:Int))<10),cond_true,st_9 h h8];cases h9:dg b9 with
           | false=>simp [h0,h1,h2,h3,h4,h5,h6,h7,h8,h9]
           | true =>
            simp only [cond_true,Option.bind_some];rw [show wr64 (9+1)=10 from by rw [wrIn (by omega) (by omega)]; rfl];rw [f20n3,decide_eq_false (by decide:¬((10:Int))<10),cond_false];simp [h0,h1,h2,h3,h4,h5,h6,h7,h8,h9]
 unfold f20 f20n0;rw [hs,decide_eq_true (by rfl:(((10:Nat):Nat):Int)=10),cond_true,key];cases okT s.data.toList with
 | false=>rfl
 | true =>
  simp only [cond_true,Option.bind_some];cases f32 (nmI 0 [b0,b1,b2,b3]) (nmI 0 [b5,b6]) (nmI 0 [b8,b9]) with
  | none=>rfl
  | some r=>rfl
theorem parse_eq{s:ByteArray}(h:s.data.toList.length=10):∃r,f19 s=some r∧f20 s=some r:=by
 obtain ⟨b0,b1,b2,b3,b4,b5,b6,b7,b8,b9,hl⟩:=ten h;rw [f19_eq hl,f20_eq hl];cases ho:okT s.data.toList with
 | false=>exact ⟨_,rfl,rfl⟩
 | true =>
  rw [hl] at ho;simp only [okT,Bool.and_eq_true] at ho;obtain ⟨_,ho1,ho2,ho3⟩:=ho;have h2:=nm_two (a:=b5) (b:=b6) (by simp only [List.all_cons,List.all_nil,Bool.and_true,Bool.and_eq_true] at ho2 ⊢; exact ho2);have h3:=nm_two (a:=b8) (b:=b9) (by simp only [List.all_cons,List.all_nil,Bool.and_true,Bool.and_eq_true] at ho3 ⊢; exact ho3);exact of_eq (nm_nn [b0,b1,b2,b3] 0 (by omega) (by simp only [List.all_cons,List.all_nil,Bool.and_true,Bool.and_eq_true] at ho1 ⊢; exact ho1)) h2.1 (by omega) h3.1 (by omega)

theorem day_eq{r:Qa}(h:r.Text.size≤1000):∃d,f8 r=some d∧f9 r=some d:=by
 have hp:Qal.size=4:=rfl;unfold f8 f8n0 f9 f9n0 f18 f18n0 f29 f29n0 f40 f40n0;rw [hp]
 by_cases h4:4≤r.Text.size
 ·have c1:cutB 0 ((4:Nat):Int) r.Text.size=true:=by simp only [cutB,decide_eq_true_eq]; omega
  have c1':cutB 0 4 r.Text.size=true:=c1;have c2:cutB ((4:Nat):Int) (r.Text.size:Int) r.Text.size=true:=by simp only [cutB,decide_eq_true_eq]; omega
  rw [decide_eq_true (by omega:((4:Nat):Int)≤(r.Text.size:Int)),c1,c1',c2];simp only [req,cond_true,Option.bind_some];have e4:Int.toNat ((4:Nat):Int)=4:=rfl;have e4':Int.toNat 4=4:=rfl;rw [e4,e4'];have hsz:(scut r.Text 4 r.Text.size).size=r.Text.size-4:=by
   show (scut r.Text 4 r.Text.size).data.toList.length=_;rw [scut_list,List.length_drop,List.length_take];show min r.Text.size r.Text.data.toList.length-4=_;rw [show r.Text.data.toList.length=r.Text.size from rfl,Nat.min_self]
  cases hq:seq (scut r.Text 0 4) Qal with
  | false =>
   simp only [cond_false,Option.bind_some];refine ⟨r.Day,rfl,?_⟩;cases decide ((r.Text.size:Int)<14)<;>rfl
  | true =>
   simp only [cond_true,Option.bind_some];rw [hsz]
   by_cases h14:14≤r.Text.size
   ·rw [decide_eq_true (by omega:(10:Int)≤((r.Text.size-4:Nat):Int)),decide_eq_false (by omega:¬(r.Text.size:Int)<14)];have c3:cutB 0 10 (r.Text.size-4)=true:=by simp only [cutB,decide_eq_true_eq]; omega
    have c4:cutB 4 14 r.Text.size=true:=by simp only [cutB,decide_eq_true_eq]; omega
    have e10:Int.toNat 10=10:=rfl;have e14:Int.toNat 14=14:=rfl;rw [c3,c4,e10,e14];simp only [cond_true,cond_false];have hcut:scut (scut r.Text 4 r.Text.size) 0 10=scut r.Text 4 14:=by
     have:((((r.Text.data.toList.take r.Text.size).drop 4).take 10).drop 0)=(r.Text.data.toList.take 14).drop 4:=by
      rw [List.drop_zero,show r.Text.size=r.Text.data.toList.length from rfl,List.take_length,List.take_drop]
     unfold scut;rw [show (((r.Text.data.toList.take r.Text.size).drop 4).toArray).toList=(r.Text.data.toList.take r.Text.size).drop 4 from rfl,this]
    rw [hcut];obtain ⟨x,e1,e2⟩:=parse_eq (s:=scut r.Text 4 14) (by
     rw [scut_list,List.length_drop,List.length_take,show r.Text.data.toList.length=r.Text.size from rfl]; omega)
    rw [e1,e2];simp only [Option.bind_some];cases decide (x.2=0) with
    | false=>exact ⟨_,rfl,rfl⟩
    | true =>
     rw [ltNot r.Day x.1];cases decide (x.1≤r.Day) with
     | true=>exact ⟨_,rfl,rfl⟩
     | false=>exact ⟨_,rfl,rfl⟩
   ·rw [decide_eq_false (by omega:¬(10:Int)≤((r.Text.size-4:Nat):Int)),decide_eq_true (by omega:(r.Text.size:Int)<14)];exact ⟨_,rfl,rfl⟩
 ·rw [decide_eq_false (by omega:¬((4:Nat):Int)≤(r.Text.size:Int)),decide_eq_true (by omega:(r.Text.size:Int)<14)];exact ⟨_,rfl,rfl⟩
end Go.Proofs.Ytfeklaffeigilaa
