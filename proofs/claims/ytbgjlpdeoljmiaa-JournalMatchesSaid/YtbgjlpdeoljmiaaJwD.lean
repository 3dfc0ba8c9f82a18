/- Several texts in one. No condition. -/
import Derived.Test.YtbgjlpdeoljmiaaD4
import Derived.Test.YtbgjlpdeoljmiaaTU
namespace Go.Proofs.Ytbgjlpdeoljmiaa
set_option linter.unusedVariables false
set_option linter.unusedSimpArgs false
set_option maxRecDepth 100000
open Go.RowKit
noncomputable def c31:Code:=Try.f31.body.getD .skip
inductive f31n1O where
 | norm (v11:List Qb)
def f31n1E(bf1:Int)(bd2:ByteArray)(bc3:List Qb)(ba4:Qf):f31n1O→Ex×Tr×Hp
 | .norm v11=>(.norm,mkS [(1,(jI bf1)),(4,(.bp 0 0)),(8,(.bp 1 0)),(10,(.bp 2 0))],[some (.box 24 ((Qf.cells ba4).map .pl)),some (.box 24 [(.pl (.sl .nil 0 []))]),some (.box 47 [(jI bf1),(jS bd2),(.own 3)]),jR 3 Qb.cells v11])
def f31n1S(bf1:Int)(bd2:ByteArray)(bc3:List Qb)(ba4:Qf):Tr×Hp:=(mkS [(1,(jI bf1)),(2,(jS bd2)),(3,(jL 3 Qb.cells bc3)),(4,(.bp 0 0)),(8,(.bp 1 0))],[some (.box 24 ((Qf.cells ba4).map .pl)),some (.box 24 [(.pl (.sl .nil 0 []))])])
noncomputable def f31n1(bf1:Int)(bd2:ByteArray)(bc3:List Qb)(ba4:Qf):Option f31n1O :=
 bif (bc3.isEmpty) then
  some (.norm [])
 else
  req (fit bc3.length 40) <|
  some (.norm bc3)
theorem f31n1_ok(bf1:Int)(bd2:ByteArray)(bc3:List Qb)(ba4:Qf){o:f31n1O}(h:f31n1 bf1 bd2 bc3 ba4=some o):T Try.prog Try.f31.ntmps 0 (cL (Ql 1 c31)) (f31n1S bf1 bd2 bc3 ba4) (·=f31n1E bf1 bd2 bc3 ba4 o):=by
 unfold f31n1 at h;rcases Qh h with ⟨h9,h⟩|⟨h9,h⟩
 ·obtain rfl:=Qd h;exact rE Qg [([],[(4,.app false)],[])] [] [] [0,1,3,2] [1,4,8,10] (.norm,(f31n1E bf1 bd2 bc3 ba4 (.norm [])).2) (ap (nil_map (c:=Qb.cells) h9) an) rfl
 ·obtain ⟨h10,h⟩:=Qt h;obtain rfl:=Qd h;exact rE Qg [([],[(4,.app true)],[])] [] [] [0,1,4,3] [1,4,8,10] (.norm,(f31n1E bf1 bd2 bc3 ba4 (.norm bc3)).2) (ap (fit_map0z (te:=ti49) (xs:=bc3) (c:=Qb.cells) h10 rfl) (ap (ne_map (c:=Qb.cells) h9) (ap (len_all (c:=Qb.cells) (xs:=bc3) (n:=3) (fun _=>rfl)) an))) rfl
inductive f31n3O where
 | norm (v46:Bool)
def f31n3E(bf1:Int)(ba2:Qf)(bd3:ByteArray)(bc4:List Qb):f31n3O→Ex×Tr×Hp
 | .norm v46=>(.norm,mkS [(4,(.bp 0 0)),(8,(.bp 1 0)),(10,(.bp 2 0)),(11,(jI (ba2.Records.length:Int))),(46,(jB v46))],[some (.box 24 ((Qf.cells ba2).map .pl)),some (.box 24 [(.pl (.sl .nil 0 []))]),some (.box 47 [(jI bf1),(jS bd3),(.own 3)]),jR 3 Qb.cells bc4])
def f31n3S(bf1:Int)(ba2:Qf)(bd3:ByteArray)(bc4:List Qb):Tr×Hp:=(mkS [(1,(jI bf1)),(4,(.bp 0 0)),(8,(.bp 1 0)),(10,(.bp 2 0)),(11,(jI (ba2.Records.length:Int)))],[some (.box 24 ((Qf.cells ba2).map .pl)),some (.box 24 [(.pl (.sl .nil 0 []))]),some (.box 47 [(jI bf1),(jS bd3),(.own 3)]),jR 3 Qb.cells bc4])
noncomputable def f31n3(bf1:Int)(ba2:Qf)(bd3:ByteArray)(bc4:List Qb):Option f31n3O :=
 bif decide (0<(ba2.Records.length:Int)) then
  (at? ba2.Records (wr64 ((ba2.Records.length:Int)-1))).bind fun x44 =>
  some (.norm (decide (bf1<x44.Day)))
 else
  some (.norm false)
theorem f31n3_ok(bf1:Int)(ba2:Qf)(bd3:ByteArray)(bc4:List Qb){o:f31n3O}(h:f31n3 bf1 ba2 bd3 bc4=some o):T Try.prog Try.f31.ntmps 0 (cL (Ql 0 (cL (Ql 4 (Ql 1 (Ql 1 c31)))))) (f31n3S bf1 ba2 bd3 bc4) (·=f31n3E bf1 ba2 bd3 bc4 o):=by
 unfold f31n3 at h;rcases Qh h with ⟨h43,h⟩|⟨h43,h⟩
 ·obtain ⟨x44,h45,h⟩:=Qc h;obtain rfl:=Qd h;exact rE Qg [(jT [3,4,5,6,7,8,9,10,11],[(8,.idx (Int.toNat (wr64 ((ba2.Records.length:Int)-1))) (Qa.cells x44)),(12,.bool true)],[])] [] [] [0,1,2,3] [4,8,10,11,46] (.norm,(f31n3E bf1 ba2 bd3 bc4 (.norm (decide (bf1<x44.Day)))).2) (ap2 h43 (ap4 h43 (ap (Qj h45).1 (ap (Qp Qa.cells (Qj h45).2) (ap4 h43 an))))) rfl
 ·obtain rfl:=Qd h;exact rE Qg [(jF [3,4,5,6,7,8,9,10,11],[(12,.bool false)],[])] [] [] [0,1,2,3] [4,8,10,11,46] (.norm,(f31n3E bf1 ba2 bd3 bc4 (.norm false)).2) (ap2 h43 (ap4 h43 (ap4 h43 an))) rfl
inductive f31n2O where
 | norm
 | ret
def f31n2E(bf1:Int)(ba2:Qf)(bd3:ByteArray)(bc4:List Qb):f31n2O→Ex×Tr×Hp
 | .norm=>(.norm,mkS [(4,(.bp 0 0)),(8,(.bp 1 0)),(10,(.bp 2 0)),(11,(jI (ba2.Records.length:Int)))],[some (.box 24 ((Qf.cells ba2).map .pl)),some (.box 24 [(.pl (.sl .nil 0 []))]),some (.box 47 [(jI bf1),(jS bd3),(.own 3)]),jR 3 Qb.cells bc4])
 | .ret=>(.ret,mkS [(8,(.bp 0 0)),(9,(jI 40))],[some (.box 24 [(.pl (.sl .nil 0 []))])])
def f31n2S(bf1:Int)(ba2:Qf)(bd3:ByteArray)(bc4:List Qb):Tr×Hp:=(mkS [(1,(jI bf1)),(4,(.bp 0 0)),(8,(.bp 1 0)),(10,(.bp 2 0)),(11,(jI (ba2.Records.length:Int)))],[some (.box 24 ((Qf.cells ba2).map .pl)),some (.box 24 [(.pl (.sl .nil 0 []))]),some (.box 47 [(jI bf1),(jS bd3),(.own 3)]),jR 3 Qb.cells bc4])
noncomputable def f31n2(bf1:Int)(ba2:Qf)(bd3:ByteArray)(bc4:List Qb):Option f31n2O :=
 (f31n3 bf1 ba2 bd3 bc4).bind fun o47=>match o47 with
 | .norm v49=>bif v49 then
   some .ret
  else
   some .norm
theorem f31n2_ok(bf1:Int)(ba2:Qf)(bd3:ByteArray)(bc4:List Qb){o:f31n2O}(h:f31n2 bf1 ba2 bd3 bc4=some o):T Try.prog Try.f31.ntmps 0 (cL (Ql 4 (Ql 1 (Ql 1 c31)))) (f31n2S bf1 ba2 bd3 bc4) (·=f31n2E bf1 ba2 bd3 bc4 o):=by
 unfold f31n2 at h;refine rN Qg 0 [] [] [] [0,1,2,3] [1,4,8,10,11] (f31n3S bf1 ba2 bd3 bc4) an ?_;obtain ⟨o47,h48,h⟩:=Qc h;cases o47 with
 | norm v49 =>
  refine T.oneN (by kernel_rfl) (f31n3_ok bf1 ba2 bd3 bc4 h48) (st2:=(f31n3E bf1 ba2 bd3 bc4 (.norm v49)).2) rfl ?_;rcases Qh h with ⟨h51,h⟩|⟨h51,h⟩
  ·obtain rfl:=Qd h;exact rE Qg [j3] [some true] [] [1] [8,9] (.ret,(f31n2E bf1 ba2 bd3 bc4 .ret).2) (ap h51 an) rfl
  ·obtain rfl:=Qd h;exact rE Qg [] [some false] [] [0,1,2,3] [4,8,10,11] (.norm,(f31n2E bf1 ba2 bd3 bc4 .norm).2) (ap h51 an) rfl
inductive f31n0O where
 | ret (v68:Int) (v69:List Qa)
def f31n0E(a1:Qf)(a2:Int)(a3:ByteArray)(a4:List Qb):f31n0O→Ex×Tr×Hp
 | .ret v68 v69=>(.ret,mkS [(8,(.bp 0 0)),(9,(jI v68))],[some (.box 24 [(.own 1)]),some (.drow 3 (v69.map Qa.cells))])
def f31n0S(a1:Qf)(a2:Int)(a3:ByteArray)(a4:List Qb):Tr×Hp:=(Qae [(jA Qf.cells a1),(jI a2),(jS a3),(jL 3 Qb.cells a4)] 0 .leaf,[])
noncomputable def f31n0(a1:Qf)(a2:Int)(a3:ByteArray)(a4:List Qb):Option f31n0O :=
 (f31n1 a2 a3 a4 a1).bind fun o12=>match o12 with
 | .norm v14=>(f35 a1).bind fun x18 =>
  bif decide (x18=0) then
   (f52 (Qa.mk a2 a3 v14)).bind fun x24 =>
   bif x24 then
    (f53 (Qa.mk a2 a3 v14)).bind fun x30 =>
    bif x30 then
     (f31n2 a2 a1 a3 v14).bind fun o52=>match o52 with
     | .norm=>bif decide (200≤(a1.Records.length:Int)) then
       some (.ret 22 [])
      else
       (f14r1 a1).bind fun x58 =>
       req (fit (x58.length+1) 48) <|
       (f54 (x58++[(Qa.mk a2 a3 v14)])).bind fun x65 =>
       bif x65 then
        some (.ret 0 (x58++[(Qa.mk a2 a3 v14)]))
       else
        some (.ret 14 [])
     | .ret=>some (.ret 40 [])
    else
     some (.ret 60 [])
   else
    some (.ret 2 [])
  else
   some (.ret 8 [])
theorem f31n0_ok(a1:Qf)(a2:Int)(a3:ByteArray)(a4:List Qb){o:f31n0O}(h:f31n0 a1 a2 a3 a4=some o):T Try.prog Try.f31.ntmps 0 c31 (f31n0S a1 a2 a3 a4) (·=f31n0E a1 a2 a3 a4 o):=by
 unfold f31n0 at h;refine rN Qg 1 [j3] [] [] [0,1] [1,2,3,4,8] (f31n1S a2 a3 a4 a1) an ?_;obtain ⟨o12,h13,h⟩:=Qc h;cases o12 with
 | norm v14 =>
  refine T.oneN (by kernel_rfl) (f31n1_ok a2 a3 a4 a1 h13) (st2:=(f31n1E a2 a3 a4 a1 (.norm v14)).2) rfl ?_;obtain ⟨x18,h19,h⟩:=Qc h;rcases Qh h with ⟨h20,h⟩|⟨h20,h⟩
  ·obtain ⟨x24,h25,h⟩:=Qc h;rcases Qh h with ⟨h26,h⟩|⟨h26,h⟩
   ·obtain ⟨x30,h31,h⟩:=Qc h;rcases Qh h with ⟨h32,h⟩|⟨h32,h⟩
    ·refine rN Qg 4 [([],[jH 1 (jI x18)],[]),([],[jH 1 (jB x24)],[]),([],[jH 1 (jB x30)],[]),([],[],[(2,.val (jI (a1.Records.length:Int)))])] [some false,some false,some false] [] [0,1,2,3] [1,4,8,10,11] (f31n2S a2 a1 a3 v14) (ap (f35_ok a1 h19) (ap (Qq h20) (ap (f52_ok (Qa.mk a2 a3 v14) h25) (ap (Qq h26) (ap (f53_ok (Qa.mk a2 a3 v14) h31) (ap (Qq h32) (ap (Qo (xs:=a1.Records) (c:=Qa.cells)) an))))))) ?_;obtain ⟨o52,h53,h⟩:=Qc h;cases o52 with
     | norm =>
      refine T.oneN (by kernel_rfl) (f31n2_ok a2 a1 a3 v14 h53) (st2:=(f31n2E a2 a1 a3 v14 .norm).2) rfl ?_;rcases Qh h with ⟨h55,h⟩|⟨h55,h⟩
      ·obtain rfl:=Qd h;exact rK Qg 1 [j3,j3] [some true] [.matC 1 0 1003] [1,4] [8,9] .ret ((f31n0E a1 a2 a3 a4 (.ret 22 [])).2) (ap h55 an) rfl
      ·obtain ⟨x58,h59,h⟩:=Qc h;obtain ⟨h61,h⟩:=Qt h;obtain ⟨x65,h66,h⟩:=Qc h;rcases Qh h with ⟨h67,h⟩|⟨h67,h⟩
       ·obtain rfl:=Qd h;exact rE Qg [j3,([],[(1,.call (.agg [(.own 5)]) (jN 4 [some (.box 24 [(.own 5)]),some (.drow 3 (x58.map Qa.cells))]))],[]),([],[(3,.nz),(4,.fits)],[(4,.drw 8 ((x58++[(Qa.mk a2 a3 v14)]).map Qa.cells))]),([],[jH 2 (jB x65)],[]),j3] [some false,some false] [] [1,8] [8,9] (.ret,(f31n0E a1 a2 a3 a4 (.ret 0 (x58++[(Qa.mk a2 a3 v14)]))).2) (ap h55 (ap (Qm.rn 4 [] (f14r1_ok a1 h59)) (ap (flat_cv (c:=Qb.cells) (fun _=>rfl) v14) (ap (Qce (te:=ti47) (xs:=x58) (n:=1) (c:=Qa.cells) h61 rfl) (ap (app_cv (xs:=x58) (ys:=[(Qa.mk a2 a3 v14)]) (c:=Qa.cells)) (ap (f54_ok (x58++[(Qa.mk a2 a3 v14)]) h66) (ap (Qq h67) an))))))) rfl
       ·obtain rfl:=Qd h;exact rK Qg 4 [j3,([],[(1,.call (.agg [(.own 5)]) (jN 4 [some (.box 24 [(.own 5)]),some (.drow 3 (x58.map Qa.cells))]))],[]),([],[(3,.nz),(4,.fits)],[(4,.drw 8 ((x58++[(Qa.mk a2 a3 v14)]).map Qa.cells))]),([],[jH 2 (jB x65)],[]),j3] [some false,some true] [.matC 1 0 1003] [1,9] [8,9] .ret ((f31n0E a1 a2 a3 a4 (.ret 14 [])).2) (ap h55 (ap (Qm.rn 4 [] (f14r1_ok a1 h59)) (ap (flat_cv (c:=Qb.cells) (fun _=>rfl) v14) (ap (Qce (te:=ti47) (xs:=x58) (n:=1) (c:=Qa.cells) h61 rfl) (ap (app_cv (xs:=x58) (ys:=[(Qa.mk a2 a3 v14)]) (c:=Qa.cells)) (ap (f54_ok (x58++[(Qa.mk a2 a3 v14)]) h66) (ap (Qad h67) an))))))) rfl
     | ret =>
      obtain rfl:=Qd h;exact T.oneX' (by kernel_rfl) (f31n2_ok a2 a1 a3 v14 h53) (tds:=[.matC 0 0 1003]) (m:=[0,1]) (keep:=[8,9]) (st2:=(f31n0E a1 a2 a3 a4 (.ret 40 [])).2) (by kernel_rfl) an rfl rfl
    ·obtain rfl:=Qd h;exact rK Qg 3 [([],[jH 1 (jI x18)],[]),([],[jH 1 (jB x24)],[]),([],[jH 1 (jB x30)],[]),j3] [some false,some false,some true] [.matC 1 0 1003] [1,4] [8,9] .ret ((f31n0E a1 a2 a3 a4 (.ret 60 [])).2) (ap (f35_ok a1 h19) (ap (Qq h20) (ap (f52_ok (Qa.mk a2 a3 v14) h25) (ap (Qq h26) (ap (f53_ok (Qa.mk a2 a3 v14) h31) (ap (Qad h32) an)))))) rfl
   ·obtain rfl:=Qd h;exact rK Qg 2 [([],[jH 1 (jI x18)],[]),([],[jH 1 (jB x24)],[]),j3] [some false,some true] [.matC 1 0 1003] [1,4] [8,9] .ret ((f31n0E a1 a2 a3 a4 (.ret 2 [])).2) (ap (f35_ok a1 h19) (ap (Qq h20) (ap (f52_ok (Qa.mk a2 a3 v14) h25) (ap (Qad h26) an)))) rfl
  ·obtain rfl:=Qd h;exact rK Qg 1 [([],[jH 1 (jI x18)],[]),j3] [some true] [.matC 1 0 1003] [1,4] [8,9] .ret ((f31n0E a1 a2 a3 a4 (.ret 8 [])).2) (ap (f35_ok a1 h19) (ap (Qad h20) an)) rfl
noncomputable def f31(a1:Qf)(a2:Int)(a3:ByteArray)(a4:List Qb):Option (Qf×Int):=(f31n0 a1 a2 a3 a4).bind fun o=>match o with
 | .ret v68 v69=>some ((Qf.mk v69),v68)
theorem f31_ok(a1:Qf)(a2:Int)(a3:ByteArray)(a4:List Qb){r:Qf×Int}(h:f31 a1 a2 a3 a4=some r):Qm Try.prog false 31 [(jA Qf.cells a1),(jI a2),(jS a3),(jL 3 Qb.cells a4)] [] (.tup [(jA Qf.cells r.1),(jI r.2)]) []:=by
 unfold f31 at h;obtain ⟨o,ho,h⟩:=Qc h;cases o with
 | ret v68 v69 =>
  obtain rfl:=Qd h;exact Qm.plain Qg (f:=Try.f31) (c:=c31) (by kernel_rfl) (by kernel_rfl) (by kernel_rfl) (by kernel_rfl) ((f31n0_ok a1 a2 a3 a4 ho).mono fun r e=>by subst e; exact ⟨.inl rfl,(.tup [(.agg [(.own 1)]),(jI v68)]),(.tup [(.pl (.agg (Qf.cells (Qf.mk v69)))),(jI v68)]),by kernel_rfl,by kernel_rfl,((Wk.refl _):Wk (.tup [(.pl (.agg (Qf.cells (Qf.mk v69)))),(jI v68)]) (.tup [(.pl (.agg (Qf.cells (Qf.mk v69)))),(jI v68)]))⟩)

noncomputable def c32:Code:=Try.f32.body.getD .skip
inductive f32r1n1O where
 | exit0 (v35:Int)
def f32r1n1E(a2:Int)(a1:Qf):f32r1n1O→Ex×Tr×Hp
 | .exit0 v35=>((.exit 0),mkS [(2,(.bp 0 0)),(4,(.bp 1 0)),(7,(jI v35))],[some (.box 24 ((Qf.cells a1).map .pl)),some (.box 24 [(.pl (.sl .nil 0 []))])])
def f32r1n1S(a2:Int)(a1:Qf)(v26:Int):Tr×Hp:=(mkS [(1,(jI a2)),(2,(.bp 0 0)),(4,(.bp 1 0)),(7,(jI v26))],[some (.box 24 ((Qf.cells a1).map .pl)),some (.box 24 [(.pl (.sl .nil 0 []))])])
noncomputable def f32r1n1:Nat→Int→Qf→Int→Option f32r1n1O
 | 0,_,_,_=>none
 | f+1,a2,a1,v26 =>
  bif decide (v26<(a1.Records.length:Int)) then
   (at? a1.Records v26).bind fun x32 =>
   bif decide (x32.Day≤a2) then
    (f32r1n1 f a2 a1 (wr64 (v26+1)))
   else
    some (.exit0 v26)
  else
   some (.exit0 v26)
theorem f32r1n1_ok:∀(f:Nat)(a2:Int)(a1:Qf)(v26:Int){o:f32r1n1O},f32r1n1 f a2 a1 v26=some o→TL Try.prog Try.f32.ntmps 0 f (cL (cL (cL (Ql 3 c32)))) (f32r1n1S a2 a1 v26) (·=f32r1n1E a2 a1 o)
 | 0,_,_,_,o,h=>by rw [f32r1n1] at h; cases h
 | f+1,a2,a1,v26,o,h=>by
  rw [f32r1n1] at h;refine TL.body (K:=fun s=>∃v26:Int,s=(f32r1n1S a2 a1 v26)∧f32r1n1 f a2 a1 v26=some o) ?_ (by rintro _ ⟨v26,rfl,hk⟩; exact f32r1n1_ok f _ _ _ hk);rcases Qh h with ⟨h31,h⟩|⟨h31,h⟩
  ·obtain ⟨x32,h33,h⟩:=Qc h;rcases Qh h with ⟨h34,h⟩|⟨h34,h⟩
   ·exact rE Qg [(jT [6,7,8,9,10,11,12,13],[(9,.idx (Int.toNat v26) (Qa.cells x32)),(14,.bool true)],[(3,.val (jI (a1.Records.length:Int)))]),j3] [some true] [] [0,1] [1,2,4,7] (.norm,(f32r1n1S a2 a1 (wr64 (v26+1)))) (ap (Qo (xs:=a1.Records) (c:=Qa.cells)) (ap4 h31 (ap (Qj h33).1 (ap (Qp Qa.cells (Qj h33).2) (ap h31 (ap4 h31 (ap h34 an))))))) (Qs.norm ⟨(wr64 (v26+1)),rfl,h⟩)
   ·obtain rfl:=Qd h;exact rK Qg 1 [(jT [6,7,8,9,10,11,12,13],[(9,.idx (Int.toNat v26) (Qa.cells x32)),(14,.bool true)],[(3,.val (jI (a1.Records.length:Int)))])] [some false] [] [0,1] [2,4,7] (.exit 0) ((f32r1n1E a2 a1 (.exit0 v26)).2) (ap (Qo (xs:=a1.Records) (c:=Qa.cells)) (ap4 h31 (ap (Qj h33).1 (ap (Qp Qa.cells (Qj h33).2) (ap h31 (ap4 h31 (ap h34 an))))))) (Qs.out rfl rfl)
  ·obtain rfl:=Qd h;exact rK Qg 1 [(jF [6,7,8,9,10,11,12,13],[(14,.bool false)],[(3,.val (jI (a1.Records.length:Int)))])] [none] [] [0,1] [2,4,7] (.exit 0) ((f32r1n1E a2 a1 (.exit0 v26)).2) (ap (Qo (xs:=a1.Records) (c:=Qa.cells)) (ap h31 (ap4 h31 (ap4 h31 an)))) (Qs.out rfl rfl)
noncomputable def f32r1n1L(a2:Int)(a1:Qf):List Qa→Int→Option f32r1n1O
 | [],v26 =>
  some (.exit0 v26)
 | x0::rest,v26 =>
  bif decide (x0.Day≤a2) then
   (f32r1n1L a2 a1 rest (v26+1))
  else
   some (.exit0 v26)
theorem f32r1n1L_eq(a2:Int)(a1:Qf):∀(rest:List Qa)(f k:Nat),a1.Records.drop k=rest→a1.Records.length≤maxLen→rest.length<f→f32r1n1 f a2 a1 (k:Int)=f32r1n1L a2 a1 rest (k:Int)
 | _,0,_,_,_,hf=>absurd hf (Nat.not_lt_zero _)
 | [],f+1,k,hd,hm,hf=>by
  have hk:¬((k:Int)<(a1.Records.length:Int)):=by have:=Qah hd; omega
  rw [f32r1n1,f32r1n1L];simp only [decide_eq_false hk,cond_false]
 | x0::rest,f+1,k,hd,hm,hf=>by
  obtain ⟨hx,hlt,hd'⟩:=Qv hd;have hk:(k:Int)<(a1.Records.length:Int):=by omega
  have hw:wr64 ((k:Int)+1)=(k:Int)+1:=Qai (by omega) (by unfold maxLen at hm; omega);have ih:f32r1n1 f a2 a1 ((k:Int)+1)=f32r1n1L a2 a1 rest ((k:Int)+1):=f32r1n1L_eq a2 a1 rest f (k+1) hd' hm (by simpa using hf);rw [f32r1n1,f32r1n1L];simp only [decide_eq_true hk,cond_true,Qao,hx,Option.bind_some,hw,ih]
theorem f32r1n1_run(a2:Int)(a1:Qf)(hm:a1.Records.length≤maxLen):f32r1n1 FUEL a2 a1 0=f32r1n1L a2 a1 a1.Records 0:=f32r1n1L_eq a2 a1 a1.Records FUEL 0 List.drop_zero hm (Qak hm)
inductive f32r1n0O where
 | ret (v45:Int) (v46:List Qa)
def f32r1n0E(a1:Qf)(a2:Int):f32r1n0O→Ex×Tr×Hp
 | .ret v45 v46=>(.ret,mkS [(4,(.bp 0 0)),(5,(jI v45))],[some (.box 24 [(.own 1)]),some (.drow 3 (v46.map Qa.cells))])
def f32r1n0S(a1:Qf)(a2:Int):Tr×Hp:=(Qae [(jA Qf.cells a1),(jI a2)] 0 .leaf,[])
noncomputable def f32r1n0(a1:Qf)(a2:Int):Option f32r1n0O :=
 (f28 a1).bind fun x6 =>
 bif decide (x6=0) then
  (f32r1n1 FUEL a2 a1 0).bind fun o36=>match o36 with
  | .exit0 v38=>req (cutB 0 v38 a1.Records.length) <|
   (f51r1 ((a1.Records.take (Int.toNat v38)).drop 0)).bind fun x43 =>
   some (.ret 0 x43)
 else
  some (.ret x6 [])
theorem f32r1n0_ok(a1:Qf)(a2:Int){o:f32r1n0O}(h:f32r1n0 a1 a2=some o):T Try.prog Try.f32.ntmps 0 c32 (f32r1n0S a1 a2) (·=f32r1n0E a1 a2 o):=by
 unfold f32r1n0 at h;obtain ⟨x6,h7,h⟩:=Qc h;rcases Qh h with ⟨h8,h⟩|⟨h8,h⟩
 ·refine rN Qg 3 [j3,([],[jH 1 (jI x6)],[]),j3,j3] [some false] [] [0,1] [1,2,4,7] (f32r1n1S a2 a1 0) (ap (f28_ok a1 h7) (ap (Qq h8) an)) ?_;obtain ⟨o36,h37,h⟩:=Qc h;cases o36 with
  | exit0 v38 =>
   refine T.oneN (by kernel_rfl) (T.bl (i:=0) (by kernel_rfl) (by kernel_rfl) (f32r1n1_ok FUEL a2 a1 0 h37)) (st2:=(f32r1n1E a2 a1 (.exit0 v38)).2) rfl ?_;obtain ⟨h42,h⟩:=Qt h;obtain ⟨x43,h44,h⟩:=Qc h;obtain rfl:=Qd h;exact rE Qg [([],[(3,.cut 0 (Int.toNat v38)),(4,.call (.own 2) [none,none,some (.drow 3 (x43.map Qa.cells))])],[(3,.val (.pl (.sl .any 3 (((a1.Records.take (Int.toNat v38)).drop 0).map Qa.cells))))])] [] [] [1,2] [4,5] (.ret,(f32r1n0E a1 a2 (.ret 0 x43)).2) (ap (Qbw (c:=Qa.cells) h42) (ap (cut_hn_2 h42) (ap (cut_hn_3 h42) (ap (Qbx (c:=Qa.cells) h42) (ap (congrArg (fun l=>AV.pl (.sl .any 3 l)) (cut_cv (xs:=a1.Records) (c:=Qa.cells) (n:=(Int.toNat v38)) (m:=0))) (ap (Qm.rn 2 [] (f51r1_ok ((a1.Records.take (Int.toNat v38)).drop 0) h44)) an)))))) rfl
 ·obtain rfl:=Qd h;exact rK Qg 2 [j3,([],[jH 1 (jI x6)],[]),j3,j3] [some true] [.matC 1 0 1003] [1,2] [4,5] .ret ((f32r1n0E a1 a2 (.ret x6 [])).2) (ap (f28_ok a1 h7) (ap (Qad h8) an)) rfl
noncomputable def f32r1(a1:Qf)(a2:Int):Option (Int×(List Qa)):=(f32r1n0 a1 a2).bind fun o=>match o with
 | .ret v45 v46=>some (v45,v46)
theorem f32r1_ok(a1:Qf)(a2:Int){r:Int×(List Qa)}(h:f32r1 a1 a2=some r):Qm Try.prog true 32 [(jA Qf.cells a1),(jI a2)] [] (.tup [(.agg [(.own 1)]),(jI r.1)]) [some (.box 24 [(.own 1)]),some (.drow 3 (r.2.map Qa.cells))]:=by
 unfold f32r1 at h;obtain ⟨o,ho,h⟩:=Qc h;cases o with
 | ret v45 v46 =>
  obtain rfl:=Qd h;exact Qm.shared Qg (f:=Try.f32) (c:=c32) (by kernel_rfl) (by kernel_rfl) (by kernel_rfl) ((f32r1n0_ok a1 a2 ho).mono fun r e=>by subst e; exact ⟨.inl rfl,by kernel_rfl,by kernel_rfl⟩)

inductive f14r2n2O where
 | exit0 (v44:List Qa)
def f14r2n2E(bj1:List Qa):f14r2n2O→Ex×Tr×Hp
 | .exit0 v44=>((.exit 0),mkS [(2,(.bp 1 0)),(3,(.bp 2 0))],[jR 3 Qa.cells bj1,some (.box 24 [(.pl (.sl .nil 0 []))]),some (.box 24 [(.own 3)]),some (.drow 3 (v44.map Qa.cells))])
def f14r2n2S(bj1:List Qa)(v28:Int)(v29:List Qa):Tr×Hp:=(mkS [(1,(.bp 1 0)),(2,(.bp 2 0)),(3,(.bp 3 0)),(4,(jI v28))],[jR 3 Qa.cells bj1,some (.box 24 [(.own 0)]),some (.box 24 [(.pl (.sl .nil 0 []))]),some (.box 24 [(.own 4)]),some (.drow 3 (v29.map Qa.cells))])
noncomputable def f14r2n2:Nat→List Qa→Int→List Qa→Option f14r2n2O
 | 0,_,_,_=>none
 | f+1,bj1,v28,v29 =>
  bif decide (v28<(bj1.length:Int)) then
   (at? bj1 v28).bind fun x38 =>
   bif (x38.Lines.isEmpty) then
    req (fit (v29.length+1) 48) <|
    (f14r2n2 f bj1 (wr64 (v28+1)) (v29++[(Qa.mk x38.Day x38.Text [])]))
   else
    req (fit x38.Lines.length 40) <|
    req (fit (v29.length+1) 48) <|
    (f14r2n2 f bj1 (wr64 (v28+1)) (v29++[x38]))
  else
   some (.exit0 v29)
theorem f14r2n2_ok:∀(f:Nat)(bj1:List Qa)(v28:Int)(v29:List Qa){o:f14r2n2O},f14r2n2 f bj1 v28 v29=some o→TL Try.prog Try.f14.ntmps 1 f (cL (cL (Ql 1 (cL (Ql 2 c14))))) (f14r2n2S bj1 v28 v29) (·=f14r2n2E bj1 o)
 | 0,_,_,_,o,h=>by rw [f14r2n2] at h; cases h
 | f+1,bj1,v28,v29,o,h=>by
  rw [f14r2n2] at h;refine TL.body (K:=fun s=>∃v28:Int,∃v29:List Qa,s=(f14r2n2S bj1 v28 v29)∧f14r2n2 f bj1 v28 v29=some o) ?_ (by rintro _ ⟨v28,v29,rfl,hk⟩; exact f14r2n2_ok f _ _ _ hk);rcases Qh h with ⟨h31,h⟩|⟨h31,h⟩
  ·obtain ⟨x38,h39,h⟩:=Qc h;rcases Qh h with ⟨h40,h⟩|⟨h40,h⟩
   ·obtain ⟨h41,h⟩:=Qt h
    exact rE Qg [([],[],[(3,.val (jI (bj1.length:Int)))]),([],[(3,.at_ (Int.toNat v28)),(4,.idx 0 (Qa.cells x38))],[]),([],[(3,.app false)],[]),([],[(3,.nz),(4,.fits)],[(4,.drw 8 ((v29++[(Qa.mk x38.Day x38.Text [])]).map Qa.cells))]),j3] [some true] [] [1,2,3,8] [1,2,3,4] (.norm,(f14r2n2S bj1 (wr64 (v28+1)) (v29++[(Qa.mk x38.Day x38.Text [])]))) (ap (Qo (xs:=bj1) (c:=Qa.cells)) (ap h31 (ap (Qj h39).1 (ap (lt_map Qa.cells (Qj h39).2) (ap (Qp Qa.cells (Qj h39).2) (ap (nil_map (c:=Qb.cells) h40) (ap (flat_cv (c:=Qb.cells) (fun _=>rfl) []) (ap (Qce (te:=ti47) (xs:=v29) (n:=1) (c:=Qa.cells) h41 rfl) (ap (app_cv (xs:=v29) (ys:=[(Qa.mk x38.Day x38.Text [])]) (c:=Qa.cells)) an))))))))) (Qs.norm ⟨(wr64 (v28+1)),(v29++[(Qa.mk x38.Day x38.Text [])]),rfl,h⟩)
   ·obtain ⟨h42,h⟩:=Qt h;obtain ⟨h43,h⟩:=Qt h
    exact rE Qg [([],[],[(3,.val (jI (bj1.length:Int)))]),([],[(3,.at_ (Int.toNat v28)),(4,.idx 0 (Qa.cells x38))],[]),([],[(3,.app true)],[]),([],[(3,.nz),(4,.fits)],[(4,.drw 9 ((v29++[x38]).map Qa.cells))]),j3] [some true] [] [1,2,3,9] [1,2,3,4] (.norm,(f14r2n2S bj1 (wr64 (v28+1)) (v29++[x38]))) (ap (Qo (xs:=bj1) (c:=Qa.cells)) (ap h31 (ap (Qj h39).1 (ap (lt_map Qa.cells (Qj h39).2) (ap (Qp Qa.cells (Qj h39).2) (ap (fit_map0z (te:=ti49) (xs:=x38.Lines) (c:=Qb.cells) h42 rfl) (ap (ne_map (c:=Qb.cells) h40) (ap (len_all (c:=Qb.cells) (xs:=x38.Lines) (n:=3) (fun _=>rfl)) (ap (flat_cv (c:=Qb.cells) (fun _=>rfl) x38.Lines) (ap (Qce (te:=ti47) (xs:=v29) (n:=1) (c:=Qa.cells) h43 rfl) (ap (app_cv (xs:=v29) (ys:=[x38]) (c:=Qa.cells)) an))))))))))) (Qs.norm ⟨(wr64 (v28+1)),(v29++[x38]),rfl,h⟩)
  ·obtain rfl:=Qd h;exact rK Qg 1 [([],[],[(3,.val (jI (bj1.length:Int)))])] [some false] [] [2,3,4] [2,3] (.exit 0) ((f14r2n2E bj1 (.exit0 v29)).2) (ap (Qo (xs:=bj1) (c:=Qa.cells)) (ap h31 an)) (Qs.out rfl rfl)
noncomputable def f14r2n2L(bj1:List Qa):List Qa→Int→(List Qa)→Option f14r2n2O
 | [],v28,v29 =>
  some (.exit0 v29)
 | x0::rest,v28,v29 =>
  bif (x0.Lines.isEmpty) then
   req (fit (v29.length+1) 48) <|
   (f14r2n2L bj1 rest (v28+1) (v29++[(Qa.mk x0.Day x0.Text [])]))
  else
   req (fit x0.Lines.length 40) <|
   req (fit (v29.length+1) 48) <|
   (f14r2n2L bj1 rest (v28+1) (v29++[x0]))
theorem f14r2n2L_eq(bj1:List Qa):∀(rest:List Qa)(f k:Nat)(v29:List Qa),bj1.drop k=rest→bj1.length≤maxLen→rest.length<f→f14r2n2 f bj1 (k:Int) v29=f14r2n2L bj1 rest (k:Int) v29
 | _,0,_,_,_,_,hf=>absurd hf (Nat.not_lt_zero _)
 | [],f+1,k,v29,hd,hm,hf=>by
  have hk:¬((k:Int)<(bj1.length:Int)):=by have:=Qah hd; omega
  rw [f14r2n2,f14r2n2L];simp only [decide_eq_false hk,cond_false]
 | x0::rest,f+1,k,v29,hd,hm,hf=>by
  obtain ⟨hx,hlt,hd'⟩:=Qv hd;have hk:(k:Int)<(bj1.length:Int):=by omega
  have hw:wr64 ((k:Int)+1)=(k:Int)+1:=Qai (by omega) (by unfold maxLen at hm; omega);have ih:∀(v29:List Qa),f14r2n2 f bj1 ((k:Int)+1) v29=f14r2n2L bj1 rest ((k:Int)+1) v29:=fun v29=>f14r2n2L_eq bj1 rest f (k+1) v29 hd' hm (by simpa using hf);rw [f14r2n2,f14r2n2L];simp only [decide_eq_true hk,cond_true,Qao,hx,Option.bind_some,hw,ih]
theorem f14r2n2_run(bj1 v29:List Qa)(hm:bj1.length≤maxLen):f14r2n2 FUEL bj1 0 v29=f14r2n2L bj1 bj1 0 v29:=f14r2n2L_eq bj1 bj1 FUEL 0 v29 List.drop_zero hm (Qak hm)
inductive f14r2n1O where
 | norm (v48:List Qa)
def f14r2n1E(bj1:List Qa):f14r2n1O→Ex×Tr×Hp
 | .norm v48=>(.norm,mkS [(2,(.bp 1 0)),(3,(.bp 2 0))],[jR 3 Qa.cells bj1,some (.box 24 [(.pl (.sl .nil 0 []))]),some (.box 24 [(.own 3)]),some (.drow 3 (v48.map Qa.cells))])
def f14r2n1S(bj1:List Qa):Tr×Hp:=(mkS [(1,(.bp 1 0)),(2,(.bp 2 0)),(3,(.bp 3 0))],[jR 3 Qa.cells bj1,some (.box 24 [(.own 0)]),some (.box 24 [(.pl (.sl .nil 0 []))]),some (.box 24 [(.pl (.sl .nil 0 []))])])
noncomputable def f14r2n1(bj1:List Qa):Option f14r2n1O :=
 (f14r2n2 FUEL bj1 0 []).bind fun o45=>match o45 with
 | .exit0 v47=>some (.norm v47)
theorem f14r2n1_ok(bj1:List Qa){o:f14r2n1O}(h:f14r2n1 bj1=some o):T Try.prog Try.f14.ntmps 1 (cL (Ql 2 c14)) (f14r2n1S bj1) (·=f14r2n1E bj1 o):=by
 unfold f14r2n1 at h;refine rN Qg 1 [j3] [] [.matC 3 0 1003] [1,2,3,4] [1,2,3,4] (f14r2n2S bj1 0 []) an ?_;obtain ⟨o45,h46,h⟩:=Qc h;cases o45 with
 | exit0 v47 =>
  obtain rfl:=Qd h;exact T.last' (T.bl (i:=0) (by kernel_rfl) (by kernel_rfl) (f14r2n2_ok FUEL bj1 0 [] h46)) (tds:=[]) (m:=[1,2,3]) (keep:=[2,3]) (st2:=(f14r2n1E bj1 (.norm v47)).2) (by kernel_rfl) an rfl
inductive f14r2n0O where
 | ret (v52:List Qa)
def f14r2n0E(a1:List Qa):f14r2n0O→Ex×Tr×Hp
 | .ret v52=>(.ret,mkS [(2,(.bp 1 0))],[jR 3 Qa.cells a1,some (.box 24 [(.own 2)]),some (.drow 3 (v52.map Qa.cells))])
def f14r2n0S(a1:List Qa):Tr×Hp:=(Qae [(.agg [(.own 0)])] 0 .leaf,[jR 3 Qa.cells a1])
noncomputable def f14r2n0(a1:List Qa):Option f14r2n0O :=
 (f14r2n1 a1).bind fun o49=>match o49 with
 | .norm v51=>some (.ret v51)
theorem f14r2n0_ok(a1:List Qa){o:f14r2n0O}(h:f14r2n0 a1=some o):T Try.prog Try.f14.ntmps 1 c14 (f14r2n0S a1) (·=f14r2n0E a1 o):=by
 unfold f14r2n0 at h;refine rN Qg 2 [j3,j3] [] [] [1,2,3] [1,2,3] (f14r2n1S a1) an ?_;obtain ⟨o49,h50,h⟩:=Qc h;cases o49 with
 | norm v51 =>
  refine T.oneN (by kernel_rfl) (f14r2n1_ok a1 h50) (st2:=(f14r2n1E a1 (.norm v51)).2) rfl ?_;obtain rfl:=Qd h;exact rE Qg [j3] [] [] [1,3] [2] (.ret,(f14r2n0E a1 (.ret v51)).2) an rfl
noncomputable def f14r2(a1:List Qa):Option (List Qa):=(f14r2n0 a1).bind fun o=>match o with
 | .ret v52=>some v52
theorem f14r2_ok(a1:List Qa){r:List Qa}(h:f14r2 a1=some r):Qm Try.prog true 14 [(.agg [(.own 0)])] [jR 3 Qa.cells a1] (.agg [(.own 2)]) [jR 3 Qa.cells a1,some (.box 24 [(.own 2)]),some (.drow 3 (r.map Qa.cells))]:=by
 unfold f14r2 at h;obtain ⟨o,ho,h⟩:=Qc h;cases o with
 | ret v52 =>
  obtain rfl:=Qd h;exact Qm.shared Qg (f:=Try.f14) (c:=c14) (by kernel_rfl) (by kernel_rfl) (by kernel_rfl) ((f14r2n0_ok a1 ho).mono fun r e=>by subst e; exact ⟨.inl rfl,by kernel_rfl,by kernel_rfl⟩)

noncomputable def c33:Code:=Try.f33.body.getD .skip
inductive f33n2O where
 | exit0 (v41:List Qa)
def f33n2E(bf1:Int)(ba2:Qf):f33n2O→Ex×Tr×Hp
 | .exit0 v41=>((.exit 0),mkS [(4,(.bp 0 0)),(6,(.bp 1 0))],[some (.box 24 [(.pl (.sl .nil 0 []))]),some (.box 24 [(.own 2)]),jR 3 Qa.cells v41])
def f33n2S(bf1:Int)(ba2:Qf)(v29:Int)(v30:List Qa):Tr×Hp:=(mkS [(1,(jI bf1)),(2,(.bp 0 0)),(4,(.bp 1 0)),(6,(.bp 2 0)),(7,(jI v29))],[some (.box 24 ((Qf.cells ba2).map .pl)),some (.box 24 [(.pl (.sl .nil 0 []))]),some (.box 24 [(.own 3)]),jR 3 Qa.cells v30])
noncomputable def f33n2:Nat→Int→Qf→Int→List Qa→Option f33n2O
 | 0,_,_,_,_=>none
 | f+1,bf1,ba2,v29,v30 =>
  bif decide (v29<(ba2.Records.length:Int)) then
   (at? ba2.Records v29).bind fun x37 =>
   bif decide (x37.Day≤bf1) then
    req (fit (v30.length+1) 48) <|
    (f33n2 f bf1 ba2 (wr64 (v29+1)) (v30++[x37]))
   else
    (f33n2 f bf1 ba2 (wr64 (v29+1)) v30)
  else
   some (.exit0 v30)
theorem f33n2_ok:∀(f:Nat)(bf1:Int)(ba2:Qf)(v29:Int)(v30:List Qa){o:f33n2O},f33n2 f bf1 ba2 v29 v30=some o→TL Try.prog Try.f33.ntmps 0 f (cL (cL (Ql 1 (cL (Ql 3 c33))))) (f33n2S bf1 ba2 v29 v30) (·=f33n2E bf1 ba2 o)
 | 0,_,_,_,_,o,h=>by rw [f33n2] at h; cases h
 | f+1,bf1,ba2,v29,v30,o,h=>by
  rw [f33n2] at h;refine TL.body (K:=fun s=>∃v29:Int,∃v30:List Qa,s=(f33n2S bf1 ba2 v29 v30)∧f33n2 f bf1 ba2 v29 v30=some o) ?_ (by rintro _ ⟨v29,v30,rfl,hk⟩; exact f33n2_ok f _ _ _ _ hk);rcases Qh h with ⟨h32,h⟩|⟨h32,h⟩
  ·obtain ⟨x37,h38,h⟩:=Qc h;rcases Qh h with ⟨h39,h⟩|⟨h39,h⟩
   ·obtain ⟨h40,h⟩:=Qt h;exact rE Qg [([],[],[(3,.val (jI (ba2.Records.length:Int)))]),([],[(3,.idx (Int.toNat v29) (Qa.cells x37))],[]),([],[(5,.idx (Int.toNat v29) (Qa.cells x37)),(8,.fits)],[(8,.row 5 ((v30++[x37]).map Qa.cells))]),j3] [some true,some true] [] [0,1,2,5] [1,2,4,6,7] (.norm,(f33n2S bf1 ba2 (wr64 (v29+1)) (v30++[x37]))) (ap (Qo (xs:=ba2.Records) (c:=Qa.cells)) (ap h32 (ap (Qj h38).1 (ap (Qp Qa.cells (Qj h38).2) (ap h39 (ap (Qj h38).1 (ap (Qp Qa.cells (Qj h38).2) (ap (Qce (te:=ti47) (xs:=v30) (n:=1) (c:=Qa.cells) h40 rfl) (ap (app_cv (xs:=v30) (ys:=[x37]) (c:=Qa.cells)) an))))))))) (Qs.norm ⟨(wr64 (v29+1)),(v30++[x37]),rfl,h⟩)
   ·exact rE Qg [([],[],[(3,.val (jI (ba2.Records.length:Int)))]),([],[(3,.idx (Int.toNat v29) (Qa.cells x37))],[]),j3] [some true,some false] [] [0,1,2,3] [1,2,4,6,7] (.norm,(f33n2S bf1 ba2 (wr64 (v29+1)) v30)) (ap (Qo (xs:=ba2.Records) (c:=Qa.cells)) (ap h32 (ap (Qj h38).1 (ap (Qp Qa.cells (Qj h38).2) (ap h39 an))))) (Qs.norm ⟨(wr64 (v29+1)),v30,rfl,h⟩)
  ·obtain rfl:=Qd h;exact rK Qg 1 [([],[],[(3,.val (jI (ba2.Records.length:Int)))])] [some false] [] [1,2,3] [4,6] (.exit 0) ((f33n2E bf1 ba2 (.exit0 v30)).2) (ap (Qo (xs:=ba2.Records) (c:=Qa.cells)) (ap h32 an)) (Qs.out rfl rfl)
noncomputable def f33n2L(bf1:Int)(ba2:Qf):List Qa→Int→(List Qa)→Option f33n2O
 | [],v29,v30 =>
  some (.exit0 v30)
 | x0::rest,v29,v30 =>
  bif decide (x0.Day≤bf1) then
   req (fit (v30.length+1) 48) <|
   (f33n2L bf1 ba2 rest (v29+1) (v30++[x0]))
  else
   (f33n2L bf1 ba2 rest (v29+1) v30)
theorem f33n2L_eq(bf1:Int)(ba2:Qf):∀(rest:List Qa)(f k:Nat)(v30:List Qa),ba2.Records.drop k=rest→ba2.Records.length≤maxLen→rest.length<f→f33n2 f bf1 ba2 (k:Int) v30=f33n2L bf1 ba2 rest (k:Int) v30
 | _,0,_,_,_,_,hf=>absurd hf (Nat.not_lt_zero _)
 | [],f+1,k,v30,hd,hm,hf=>by
  have hk:¬((k:Int)<(ba2.Records.length:Int)):=by have:=Qah hd; omega
  rw [f33n2,f33n2L];simp only [decide_eq_false hk,cond_false]
 | x0::rest,f+1,k,v30,hd,hm,hf=>by
  obtain ⟨hx,hlt,hd'⟩:=Qv hd;have hk:(k:Int)<(ba2.Records.length:Int):=by omega
  have hw:wr64 ((k:Int)+1)=(k:Int)+1:=Qai (by omega) (by unfold maxLen at hm; omega);have ih:∀(v30:List Qa),f33n2 f bf1 ba2 ((k:Int)+1) v30=f33n2L bf1 ba2 rest ((k:Int)+1) v30:=fun v30=>f33n2L_eq bf1 ba2 rest f (k+1) v30 hd' hm (by simpa using hf);rw [f33n2,f33n2L];simp only [decide_eq_true hk,cond_true,Qao,hx,Option.bind_some,hw,ih]
theorem f33n2_run(bf1:Int)(ba2:Qf)(v30:List Qa)(hm:ba2.Records.length≤maxLen):f33n2 FUEL bf1 ba2 0 v30=f33n2L bf1 ba2 ba2.Records 0 v30:=f33n2L_eq bf1 ba2 ba2.Records FUEL 0 v30 List.drop_zero hm (Qak hm)
inductive f33n1O where
 | norm (v45:List Qa)
def f33n1E(bf1:Int)(ba2:Qf):f33n1O→Ex×Tr×Hp
 | .norm v45=>(.norm,mkS [(4,(.bp 0 0)),(6,(.bp 1 0))],[some (.box 24 [(.pl (.sl .nil 0 []))]),some (.box 24 [(.own 2)]),jR 3 Qa.cells v45])
def f33n1S(bf1:Int)(ba2:Qf):Tr×Hp:=(mkS [(1,(jI bf1)),(2,(.bp 0 0)),(4,(.bp 1 0)),(6,(.bp 2 0))],[some (.box 24 ((Qf.cells ba2).map .pl)),some (.box 24 [(.pl (.sl .nil 0 []))]),some (.box 24 [(.pl (.sl .nil 0 []))])])
noncomputable def f33n1(bf1:Int)(ba2:Qf):Option f33n1O :=
 (f33n2 FUEL bf1 ba2 0 []).bind fun o42=>match o42 with
 | .exit0 v44=>some (.norm v44)
theorem f33n1_ok(bf1:Int)(ba2:Qf){o:f33n1O}(h:f33n1 bf1 ba2=some o):T Try.prog Try.f33.ntmps 0 (cL (Ql 3 c33)) (f33n1S bf1 ba2) (·=f33n1E bf1 ba2 o):=by
 unfold f33n1 at h;refine rN Qg 1 [j3] [] [.matC 2 0 3] [0,1,2,3] [1,2,4,6,7] (f33n2S bf1 ba2 0 []) an ?_;obtain ⟨o42,h43,h⟩:=Qc h;cases o42 with
 | exit0 v44 =>
  obtain rfl:=Qd h;exact T.last' (T.bl (i:=0) (by kernel_rfl) (by kernel_rfl) (f33n2_ok FUEL bf1 ba2 0 [] h43)) (tds:=[]) (m:=[0,1,2]) (keep:=[4,6]) (st2:=(f33n1E bf1 ba2 (.norm v44)).2) (by kernel_rfl) an rfl
inductive f33n0O where
 | ret (v53:Int) (v54:List Qa)
def f33n0E(a1:Qf)(a2:Int):f33n0O→Ex×Tr×Hp
 | .ret v53 v54=>(.ret,mkS [(4,(.bp 0 0)),(5,(jI v53))],[some (.box 24 [(.own 1)]),some (.drow 3 (v54.map Qa.cells))])
def f33n0S(a1:Qf)(a2:Int):Tr×Hp:=(Qae [(jA Qf.cells a1),(jI a2)] 0 .leaf,[])
noncomputable def f33n0(a1:Qf)(a2:Int):Option f33n0O :=
 (f35 a1).bind fun x6 =>
 bif decide (x6=0) then
  (f33n1 a2 a1).bind fun o46=>match o46 with
  | .norm v48=>(f14r2 v48).bind fun x51 =>
   some (.ret 0 x51)
 else
  some (.ret 8 [])
theorem f33n0_ok(a1:Qf)(a2:Int){o:f33n0O}(h:f33n0 a1 a2=some o):T Try.prog Try.f33.ntmps 0 c33 (f33n0S a1 a2) (·=f33n0E a1 a2 o):=by
 unfold f33n0 at h;obtain ⟨x6,h7,h⟩:=Qc h;rcases Qh h with ⟨h8,h⟩|⟨h8,h⟩
 ·refine rN Qg 3 [j3,([],[jH 1 (jI x6)],[]),j3] [some false] [] [0,1,2] [1,2,4,6] (f33n1S a2 a1) (ap (f35_ok a1 h7) (ap (Qq h8) an)) ?_;obtain ⟨o46,h47,h⟩:=Qc h;cases o46 with
  | norm v48 =>
   refine T.oneN (by kernel_rfl) (f33n1_ok a2 a1 h47) (st2:=(f33n1E a2 a1 (.norm v48)).2) rfl ?_;obtain ⟨x51,h52,h⟩:=Qc h;obtain rfl:=Qd h;exact rE Qg [([],[(1,.call (.agg [(.own 4)]) [none,none,jR 3 Qa.cells v48,some (.box 24 [(.own 4)]),some (.drow 3 (x51.map Qa.cells))])],[])] [] [] [0,4] [4,5] (.ret,(f33n0E a1 a2 (.ret 0 x51)).2) (ap (Qm.rn 3 [2] (f14r2_ok v48 h52)) an) rfl
 ·obtain rfl:=Qd h;exact rK Qg 2 [j3,([],[jH 1 (jI x6)],[]),j3] [some true] [.matC 1 0 1003] [1,2] [4,5] .ret ((f33n0E a1 a2 (.ret 8 [])).2) (ap (f35_ok a1 h7) (ap (Qad h8) an)) rfl
noncomputable def f33(a1:Qf)(a2:Int):Option (Qf×Int):=(f33n0 a1 a2).bind fun o=>match o with
 | .ret v53 v54=>some ((Qf.mk v54),v53)
theorem f33_ok(a1:Qf)(a2:Int){r:Qf×Int}(h:f33 a1 a2=some r):Qm Try.prog false 33 [(jA Qf.cells a1),(jI a2)] [] (.tup [(jA Qf.cells r.1),(jI r.2)]) []:=by
 unfold f33 at h;obtain ⟨o,ho,h⟩:=Qc h;cases o with
 | ret v53 v54 =>
  obtain rfl:=Qd h;exact Qm.plain Qg (f:=Try.f33) (c:=c33) (by kernel_rfl) (by kernel_rfl) (by kernel_rfl) (by kernel_rfl) ((f33n0_ok a1 a2 ho).mono fun r e=>by subst e; exact ⟨.inl rfl,(.tup [(.agg [(.own 1)]),(jI v53)]),(.tup [(.pl (.agg (Qf.cells (Qf.mk v54)))),(jI v53)]),by kernel_rfl,by kernel_rfl,((Wk.refl _):Wk (.tup [(.pl (.agg (Qf.cells (Qf.mk v54)))),(jI v53)]) (.tup [(.pl (.agg (Qf.cells (Qf.mk v54)))),(jI v53)]))⟩)

noncomputable def c34:Code:=Try.f34.body.getD .skip
inductive f34n0O where
 | ret (v14:Int) (v15:Int)
def f34n0E(a1:Qf)(a2 a3:ByteArray):f34n0O→Ex×Tr×Hp
 | .ret v14 v15=>(.ret,mkS [(6,(jI v14)),(7,(jI v15))],[])
def f34n0S(a1:Qf)(a2 a3:ByteArray):Tr×Hp:=(Qae [(jA Qf.cells a1),(jS a2),(jS a3)] 0 .leaf,[])
noncomputable def f34n0(a1:Qf)(a2 a3:ByteArray):Option f34n0O :=
 (f35 a1).bind fun x7 =>
 bif decide (x7=0) then
  (f55 a1.Records a2 a3).bind fun x12 =>
  some (.ret x12 0)
 else
  some (.ret 0 8)
theorem f34n0_ok(a1:Qf)(a2 a3:ByteArray){o:f34n0O}(h:f34n0 a1 a2 a3=some o):T Try.prog Try.f34.ntmps 0 c34 (f34n0S a1 a2 a3) (·=f34n0E a1 a2 a3 o):=by
 unfold f34n0 at h;obtain ⟨x7,h8,h⟩:=Qc h;rcases Qh h with ⟨h9,h⟩|⟨h9,h⟩
 ·obtain ⟨x12,h13,h⟩:=Qc h;obtain rfl:=Qd h;exact rE Qg [j3,([],[jH 1 (jI x7)],[]),([],[jH 4 (jI x12)],[])] [some false] [] [] [6,7] (.ret,(f34n0E a1 a2 a3 (.ret x12 0)).2) (ap (f35_ok a1 h8) (ap (Qq h9) (ap (f55_ok a1.Records a2 a3 h13) an))) rfl
 ·obtain rfl:=Qd h;exact rK Qg 2 [j3,([],[jH 1 (jI x7)],[]),j3] [some true] [] [] [6,7] .ret ((f34n0E a1 a2 a3 (.ret 0 8)).2) (ap (f35_ok a1 h8) (ap (Qad h9) an)) rfl
noncomputable def f34(a1:Qf)(a2 a3:ByteArray):Option (Int×Int):=(f34n0 a1 a2 a3).bind fun o=>match o with
 | .ret v14 v15=>some (v14,v15)
theorem f34_ok(a1:Qf)(a2 a3:ByteArray){r:Int×Int}(h:f34 a1 a2 a3=some r):Qm Try.prog false 34 [(jA Qf.cells a1),(jS a2),(jS a3)] [] (.tup [(jI r.1),(jI r.2)]) []:=by
 unfold f34 at h;obtain ⟨o,ho,h⟩:=Qc h;cases o with
 | ret v14 v15 =>
  obtain rfl:=Qd h;exact Qm.plain Qg (f:=Try.f34) (c:=c34) (by kernel_rfl) (by kernel_rfl) (by kernel_rfl) (by kernel_rfl) ((f34n0_ok a1 a2 a3 ho).mono fun r e=>by subst e; exact ⟨.inl rfl,(.tup [(jI v14),(jI v15)]),(.tup [(jI v14),(jI v15)]),by kernel_rfl,by kernel_rfl,((Wk.refl _):Wk (.tup [(jI v14),(jI v15)]) (.tup [(jI v14),(jI v15)]))⟩)

theorem touch_cells(xs:List Qa):TouchOK (xs.map Qa.cells):=fun e he=>by
 obtain ⟨x,_,rfl⟩:=List.mem_map.1 he;exact ⟨x.Day,x.Text,_,rfl,fun l hl=>by
  obtain ⟨y,_,rfl⟩:=List.mem_map.1 hl;exact ⟨_,_,_,rfl⟩⟩
def tch22(p1:List Qa):Option Unit:=some ()
theorem tch22_ok(p1:List Qa){r:Unit}(h:tch22 p1=some r):Qm Try.prog true 22 [.agg [.own 0]] [some (.drow 3 (p1.map Qa.cells))] (.tup []) [none]:=touch_call (touch_cells p1)


noncomputable def c8:Code:=Try.f8.body.getD .skip
inductive f8n1O where
 | norm (v39:Qf) (v40:List Qb)
def f8n1E(bf1:Int)(bd2:ByteArray)(bc3:List Qb)(bd4 bd5:ByteArray)(bo6:Bool)(ba7:Qf):f8n1O→Ex×Tr×Hp
 | .norm v39 v40=>(.norm,mkS [(1,(jI bf1)),(2,(jS bd2)),(3,(jL 3 Qb.cells bc3)),(4,(jS bd4)),(5,(jS bd5)),(6,(.bp 0 0)),(13,(jB bo6)),(14,(.bp 1 0)),(15,(.own 2))],[some (.box 24 ((Qf.cells ba7).map .pl)),some (.box 24 ((Qf.cells v39).map .pl)),jR 3 Qb.cells v40])
def f8n1S(bf1:Int)(bd2:ByteArray)(bc3:List Qb)(bd4 bd5:ByteArray)(bo6:Bool)(ba7:Qf):Tr×Hp:=(mkS [(1,(jI bf1)),(2,(jS bd2)),(3,(jL 3 Qb.cells bc3)),(4,(jS bd4)),(5,(jS bd5)),(6,(.bp 0 0)),(13,(jB bo6))],[some (.box 24 ((Qf.cells ba7).map .pl))])
noncomputable def f8n1(bf1:Int)(bd2:ByteArray)(bc3:List Qb)(bd4 bd5:ByteArray)(bo6:Bool)(ba7:Qf):Option f8n1O :=
 (f14r1 ba7).bind fun x35 =>
 bif (bc3.isEmpty) then
  some (.norm (Qf.mk x35) [])
 else
  req (fit bc3.length 40) <|
  some (.norm (Qf.mk x35) bc3)
theorem f8n1_ok(bf1:Int)(bd2:ByteArray)(bc3:List Qb)(bd4 bd5:ByteArray)(bo6:Bool)(ba7:Qf){o:f8n1O}(h:f8n1 bf1 bd2 bc3 bd4 bd5 bo6 ba7=some o):T Try.prog Try.f8.ntmps 0 (cL (Ql 3 c8)) (f8n1S bf1 bd2 bc3 bd4 bd5 bo6 ba7) (·=f8n1E bf1 bd2 bc3 bd4 bd5 bo6 ba7 o):=by
 unfold f8n1 at h;obtain ⟨x35,h36,h⟩:=Qc h;rcases Qh h with ⟨h37,h⟩|⟨h37,h⟩
 ·obtain rfl:=Qd h;exact rE Qg [([],[(1,.call (.agg [(.own 2)]) [none,some (.box 24 [(.own 2)]),some (.drow 3 (x35.map Qa.cells))]),(4,.app false)],[])] [] [.mlt 2,.frzC 4 0] [0,4,3] [1,2,3,4,5,6,13,14,15] (.norm,(f8n1E bf1 bd2 bc3 bd4 bd5 bo6 ba7 (.norm (Qf.mk x35) [])).2) (ap (nil_map (c:=Qb.cells) h37) (ap (Qm.rn 1 [] (f14r1_ok ba7 h36)) an)) rfl
 ·obtain ⟨h38,h⟩:=Qt h;obtain rfl:=Qd h;exact rE Qg [([],[(1,.call (.agg [(.own 2)]) [none,some (.box 24 [(.own 2)]),some (.drow 3 (x35.map Qa.cells))]),(4,.app true)],[])] [] [.mlt 2,.frzC 5 0] [0,5,4] [1,2,3,4,5,6,13,14,15] (.norm,(f8n1E bf1 bd2 bc3 bd4 bd5 bo6 ba7 (.norm (Qf.mk x35) bc3)).2) (ap (fit_map0z (te:=ti49) (xs:=bc3) (c:=Qb.cells) h38 rfl) (ap (ne_map (c:=Qb.cells) h37) (ap (len_all (c:=Qb.cells) (xs:=bc3) (n:=3) (fun _=>rfl)) (ap (Qm.rn 1 [] (f14r1_ok ba7 h36)) an)))) rfl
inductive f8n2O where
 | norm (v111:Bool)
def f8n2E(bc1:List Qb)(bo2:Bool)(bm3:Int×(List Qa))(bp4:Qf×Int)(bm5:Int×(List Qa))(bp6:Qf×Int)(bq7 bq8:Int×Int)(ba9 ba10:Qf)(bc11:List Qb):f8n2O→Ex×Tr×Hp
 | .norm v111=>(.norm,mkS [(3,(jL 3 Qb.cells bc1)),(6,(.bp 0 0)),(13,(jB bo2)),(14,(.bp 1 0)),(15,(.own 2)),(16,(.bp 3 0)),(20,(.bp 4 0)),(28,(jB v111))],[some (.box 24 ((Qf.cells ba9).map .pl)),some (.box 24 ((Qf.cells ba10).map .pl)),jR 3 Qb.cells bc11,some (.box 24 [(.own 5)]),some (.box 24 [(.own 6)]),some (.drow 3 (bm3.2.map Qa.cells)),some (.drow 3 (bm5.2.map Qa.cells))])
def f8n2S(bc1:List Qb)(bo2:Bool)(bm3:Int×(List Qa))(bp4:Qf×Int)(bm5:Int×(List Qa))(bp6:Qf×Int)(bq7 bq8:Int×Int)(ba9 ba10:Qf)(bc11:List Qb):Tr×Hp:=(mkS [(3,(jL 3 Qb.cells bc1)),(6,(.bp 0 0)),(13,(jB bo2)),(14,(.bp 1 0)),(15,(.own 2)),(16,(.bp 3 0)),(17,(jI bm3.1)),(18,(.bp 4 0)),(19,(jI bp4.2)),(20,(.bp 5 0)),(21,(jI bm5.1)),(22,(.bp 6 0)),(23,(jI bp6.2)),(24,(jI bq7.1)),(25,(jI bq7.2)),(26,(jI bq8.1)),(27,(jI bq8.2))],[some (.box 24 ((Qf.cells ba9).map .pl)),some (.box 24 ((Qf.cells ba10).map .pl)),jR 3 Qb.cells bc11,some (.box 24 [(.own 7)]),some (.box 24 ((Qf.cells bp4.1).map .pl)),some (.box 24 [(.own 8)]),some (.box 24 ((Qf.cells bp6.1).map .pl)),some (.drow 3 (bm3.2.map Qa.cells)),some (.drow 3 (bm5.2.map Qa.cells))])
noncomputable def f8n2(bc1:List Qb)(bo2:Bool)(bm3:Int×(List Qa))(bp4:Qf×Int)(bm5:Int×(List Qa))(bp6:Qf×Int)(bq7 bq8:Int×Int)(ba9 ba10:Qf)(bc11:List Qb):Option f8n2O :=
 (f19 (Qf.mk bm3.2) bp4.1).bind fun x97 =>
 bif x97 then
  bif decide (bm3.1=bp4.2) then
   (f19 (Qf.mk bm5.2) bp6.1).bind fun x101 =>
   bif x101 then
    bif decide (bm5.1=bp6.2) then
     bif decide (bq7.1=bq8.1) then
      bif decide (bq7.2=bq8.2) then
       (f28 ba10).bind fun x107 =>
       (f35 ba9).bind fun x109 =>
       some (.norm (decide (x107=x109)))
      else
       some (.norm false)
     else
      some (.norm false)
    else
     some (.norm false)
   else
    some (.norm false)
  else
   some (.norm false)
 else
  some (.norm false)
theorem f8n2_ok(bc1:List Qb)(bo2:Bool)(bm3:Int×(List Qa))(bp4:Qf×Int)(bm5:Int×(List Qa))(bp6:Qf×Int)(bq7 bq8:Int×Int)(ba9 ba10:Qf)(bc11:List Qb){o:f8n2O}(h:f8n2 bc1 bo2 bm3 bp4 bm5 bp6 bq7 bq8 ba9 ba10 bc11=some o):T Try.prog Try.f8.ntmps 0 (cL (Ql 3 (Ql 3 (Ql 1 (Ql 3 c8))))) (f8n2S bc1 bo2 bm3 bp4 bm5 bp6 bq7 bq8 ba9 ba10 bc11) (·=f8n2E bc1 bo2 bm3 bp4 bm5 bp6 bq7 bq8 ba9 ba10 bc11 o):=by
 unfold f8n2 at h;obtain ⟨x97,h98,h⟩:=Qc h;rcases Qh h with ⟨h99,h⟩|⟨h99,h⟩
 ·rcases Qh h with ⟨h100,h⟩|⟨h100,h⟩
  ·obtain ⟨x101,h102,h⟩:=Qc h;rcases Qh h with ⟨h103,h⟩|⟨h103,h⟩
   ·rcases Qh h with ⟨h104,h⟩|⟨h104,h⟩
    ·rcases Qh h with ⟨h105,h⟩|⟨h105,h⟩
     ·rcases Qh h with ⟨h106,h⟩|⟨h106,h⟩
      ·obtain ⟨x107,h108,h⟩:=Qc h;obtain ⟨x109,h110,h⟩:=Qc h;obtain rfl:=Qd h
       exact rE Qg [(jT [4,5,6,9,10,11,14,15,16,19,20,21,24,25,26,29,30,31,32,33],[jH 2 (jB x97),(7,.bool true),jH 11 (jB x101),(12,.bool true),(17,.bool true),(22,.bool true),(27,.bool true),jH 30 (jI x107),jH 32 (jI x109),(34,.bool true)],[])] [] [] [0,1,2,3,5,7,8] [3,6,13,14,15,16,20,28] (.norm,(f8n2E bc1 bo2 bm3 bp4 bm5 bp6 bq7 bq8 ba9 ba10 bc11 (.norm (decide (x107=x109)))).2) (ap4 h99 (ap4 h100 (ap4 h103 (ap4 h104 (ap4 h105 (ap2 h106 (ap4 h106 (ap (same_val (e:=⟨false,19,[(.pl (.agg (Qf.cells (Qf.mk bm3.2)))),(jA Qf.cells bp4.1)],[],(jB x97),[]⟩) (f:=⟨false,19,[(.pl (.agg (Qf.cells (Qf.mk bm5.2)))),(jA Qf.cells bp6.1)],[],(jB x101),[]⟩) (fun k=>by simp only [jL,jS,jI,jB,jA,Qb.cells_eq,Qb.map_eq,Qa.cells_eq,Qa.map_eq,Qf.cells_eq,Qf.map_eq,Qe.cells_eq,Qe.map_eq,List.cons.injEq,AV.pl.injEq,PV.str.injEq,PV.int.injEq,PV.bool.injEq,PV.agg.injEq,PV.sl.injEq,and_true,true_and] at k; have e0:x97=x101:=Option.some.inj (by rw [←h98,←h102]; first | exact congrArg _ k | (obtain ⟨k1,_⟩:=k; simp only [k1]; done) | simp only [k]); exact ⟨by rw [e0],rfl⟩)) (ap (f19_ok (Qf.mk bm3.2) bp4.1 h98) (ap (f19_ok (Qf.mk bm5.2) bp6.1 h102) (ap (f28_ok ba10 h108) (ap (f35_ok ba9 h110) an)))))))))))) rfl
      ·obtain rfl:=Qd h
       exact rE Qg [(jF [29,30,31,32,33]++jT [4,5,6,9,10,11,14,15,16,19,20,21,24,25,26],[jH 2 (jB x97),(7,.bool true),jH 11 (jB x101),(12,.bool true),(17,.bool true),(22,.bool true),(27,.bool true),(34,.bool false)],[])] [] [] [0,1,2,3,5,7,8] [3,6,13,14,15,16,20,28] (.norm,(f8n2E bc1 bo2 bm3 bp4 bm5 bp6 bq7 bq8 ba9 ba10 bc11 (.norm false)).2) (ap4 h99 (ap4 h100 (ap4 h103 (ap4 h104 (ap4 h105 (ap2 h106 (ap4 h106 (ap (same_val (e:=⟨false,19,[(.pl (.agg (Qf.cells (Qf.mk bm3.2)))),(jA Qf.cells bp4.1)],[],(jB x97),[]⟩) (f:=⟨false,19,[(.pl (.agg (Qf.cells (Qf.mk bm5.2)))),(jA Qf.cells bp6.1)],[],(jB x101),[]⟩) (fun k=>by simp only [jL,jS,jI,jB,jA,Qb.cells_eq,Qb.map_eq,Qa.cells_eq,Qa.map_eq,Qf.cells_eq,Qf.map_eq,Qe.cells_eq,Qe.map_eq,List.cons.injEq,AV.pl.injEq,PV.str.injEq,PV.int.injEq,PV.bool.injEq,PV.agg.injEq,PV.sl.injEq,and_true,true_and] at k; have e0:x97=x101:=Option.some.inj (by rw [←h98,←h102]; first | exact congrArg _ k | (obtain ⟨k1,_⟩:=k; simp only [k1]; done) | simp only [k]); exact ⟨by rw [e0],rfl⟩)) (ap (f19_ok (Qf.mk bm3.2) bp4.1 h98) (ap (f19_ok (Qf.mk bm5.2) bp6.1 h102) an)))))))))) rfl
     ·obtain rfl:=Qd h
      exact rE Qg [(jF [24,25,26]++jT [4,5,6,9,10,11,14,15,16,19,20,21],[jH 2 (jB x97),(7,.bool true),jH 11 (jB x101),(12,.bool true),(17,.bool true),(22,.bool true),(27,.bool false)],[])] [] [] [0,1,2,3,5,7,8] [3,6,13,14,15,16,20,28] (.norm,(f8n2E bc1 bo2 bm3 bp4 bm5 bp6 bq7 bq8 ba9 ba10 bc11 (.norm false)).2) (ap4 h99 (ap4 h100 (ap4 h103 (ap4 h104 (ap4 h105 (ap (same_val (e:=⟨false,19,[(.pl (.agg (Qf.cells (Qf.mk bm3.2)))),(jA Qf.cells bp4.1)],[],(jB x97),[]⟩) (f:=⟨false,19,[(.pl (.agg (Qf.cells (Qf.mk bm5.2)))),(jA Qf.cells bp6.1)],[],(jB x101),[]⟩) (fun k=>by simp only [jL,jS,jI,jB,jA,Qb.cells_eq,Qb.map_eq,Qa.cells_eq,Qa.map_eq,Qf.cells_eq,Qf.map_eq,Qe.cells_eq,Qe.map_eq,List.cons.injEq,AV.pl.injEq,PV.str.injEq,PV.int.injEq,PV.bool.injEq,PV.agg.injEq,PV.sl.injEq,and_true,true_and] at k; have e0:x97=x101:=Option.some.inj (by rw [←h98,←h102]; first | exact congrArg _ k | (obtain ⟨k1,_⟩:=k; simp only [k1]; done) | simp only [k]); exact ⟨by rw [e0],rfl⟩)) (ap (f19_ok (Qf.mk bm3.2) bp4.1 h98) (ap (f19_ok (Qf.mk bm5.2) bp6.1 h102) an)))))))) rfl
    ·obtain rfl:=Qd h
     exact rE Qg [(jF [19,20,21]++jT [4,5,6,9,10,11,14,15,16],[jH 2 (jB x97),(7,.bool true),jH 11 (jB x101),(12,.bool true),(17,.bool true),(22,.bool false)],[])] [] [] [0,1,2,3,5,7,8] [3,6,13,14,15,16,20,28] (.norm,(f8n2E bc1 bo2 bm3 bp4 bm5 bp6 bq7 bq8 ba9 ba10 bc11 (.norm false)).2) (ap4 h99 (ap4 h100 (ap4 h103 (ap4 h104 (ap (same_val (e:=⟨false,19,[(.pl (.agg (Qf.cells (Qf.mk bm3.2)))),(jA Qf.cells bp4.1)],[],(jB x97),[]⟩) (f:=⟨false,19,[(.pl (.agg (Qf.cells (Qf.mk bm5.2)))),(jA Qf.cells bp6.1)],[],(jB x101),[]⟩) (fun k=>by simp only [jL,jS,jI,jB,jA,Qb.cells_eq,Qb.map_eq,Qa.cells_eq,Qa.map_eq,Qf.cells_eq,Qf.map_eq,Qe.cells_eq,Qe.map_eq,List.cons.injEq,AV.pl.injEq,PV.str.injEq,PV.int.injEq,PV.bool.injEq,PV.agg.injEq,PV.sl.injEq,and_true,true_and] at k; have e0:x97=x101:=Option.some.inj (by rw [←h98,←h102]; first | exact congrArg _ k | (obtain ⟨k1,_⟩:=k; simp only [k1]; done) | simp only [k]); exact ⟨by rw [e0],rfl⟩)) (ap (f19_ok (Qf.mk bm3.2) bp4.1 h98) (ap (f19_ok (Qf.mk bm5.2) bp6.1 h102) an))))))) rfl
   ·obtain rfl:=Qd h
    exact rE Qg [(jF [14,15,16]++jT [4,5,6,9,10,11],[jH 2 (jB x97),(7,.bool true),jH 11 (jB x101),(12,.bool true),(17,.bool false)],[])] [] [] [0,1,2,3,5,7,8] [3,6,13,14,15,16,20,28] (.norm,(f8n2E bc1 bo2 bm3 bp4 bm5 bp6 bq7 bq8 ba9 ba10 bc11 (.norm false)).2) (ap4 h99 (ap4 h100 (ap4 h103 (ap (same_val (e:=⟨false,19,[(.pl (.agg (Qf.cells (Qf.mk bm3.2)))),(jA Qf.cells bp4.1)],[],(jB x97),[]⟩) (f:=⟨false,19,[(.pl (.agg (Qf.cells (Qf.mk bm5.2)))),(jA Qf.cells bp6.1)],[],(jB x101),[]⟩) (fun k=>by simp only [jL,jS,jI,jB,jA,Qb.cells_eq,Qb.map_eq,Qa.cells_eq,Qa.map_eq,Qf.cells_eq,Qf.map_eq,Qe.cells_eq,Qe.map_eq,List.cons.injEq,AV.pl.injEq,PV.str.injEq,PV.int.injEq,PV.bool.injEq,PV.agg.injEq,PV.sl.injEq,and_true,true_and] at k; have e0:x97=x101:=Option.some.inj (by rw [←h98,←h102]; first | exact congrArg _ k | (obtain ⟨k1,_⟩:=k; simp only [k1]; done) | simp only [k]); exact ⟨by rw [e0],rfl⟩)) (ap (f19_ok (Qf.mk bm3.2) bp4.1 h98) (ap (f19_ok (Qf.mk bm5.2) bp6.1 h102) an)))))) rfl
  ·obtain rfl:=Qd h;exact rE Qg [(jF [9,10,11]++jT [4,5,6],[jH 2 (jB x97),(7,.bool true),(12,.bool false)],[])] [] [] [0,1,2,3,5,7,8] [3,6,13,14,15,16,20,28] (.norm,(f8n2E bc1 bo2 bm3 bp4 bm5 bp6 bq7 bq8 ba9 ba10 bc11 (.norm false)).2) (ap4 h99 (ap4 h100 (ap (f19_ok (Qf.mk bm3.2) bp4.1 h98) an))) rfl
 ·obtain rfl:=Qd h;exact rE Qg [(jF [4,5,6],[jH 2 (jB x97),(7,.bool false)],[])] [] [] [0,1,2,3,5,7,8] [3,6,13,14,15,16,20,28] (.norm,(f8n2E bc1 bo2 bm3 bp4 bm5 bp6 bq7 bq8 ba9 ba10 bc11 (.norm false)).2) (ap4 h99 (ap (f19_ok (Qf.mk bm3.2) bp4.1 h98) an)) rfl
inductive f8n4O where
 | exit0 (v163:Bool)
def f8n4E(bc1:List Qb)(bo2:Bool)(ba4 ba5:Qf)(bc6:List Qb):f8n4O→Ex×Tr×Hp
 | .exit0 v163=>((.exit 0),mkS [(6,(.bp 0 0)),(13,(jB bo2)),(14,(.bp 1 0)),(28,(jB v163))],[some (.box 24 ((Qf.cells ba4).map .pl)),some (.box 24 ((Qf.cells ba5).map .pl))])
def f8n4S(bc1:List Qb)(bo2:Bool)(ba4 ba5:Qf)(bc6:List Qb)(v149:Bool)(v150:Int):Tr×Hp:=(mkS [(3,(jL 3 Qb.cells bc1)),(6,(.bp 0 0)),(13,(jB bo2)),(14,(.bp 1 0)),(15,(.own 2)),(28,(jB v149)),(29,(jI v150))],[some (.box 24 ((Qf.cells ba4).map .pl)),some (.box 24 ((Qf.cells ba5).map .pl)),jR 3 Qb.cells bc6])
noncomputable def f8n4:Nat→List Qb→Bool→Qf→Qf→List Qb→Bool→Int→Option f8n4O
 | 0,_,_,_,_,_,_,_=>none
 | f+1,bc1,bo2,ba4,ba5,bc6,v149,v150 =>
  bif decide (v150<(bc1.length:Int)) then
   bif v149 then
    (at? bc6 v150).bind fun x159 =>
    (at? bc1 v150).bind fun x161 =>
    (f8n4 f bc1 bo2 ba4 ba5 bc6 (Qb.eqb x159 x161) (wr64 (v150+1)))
   else
    (f8n4 f bc1 bo2 ba4 ba5 bc6 false (wr64 (v150+1)))
  else
   some (.exit0 v149)
theorem f8n4_ok:∀(f:Nat)(bc1:List Qb)(bo2:Bool)(ba4 ba5:Qf)(bc6:List Qb)(v149:Bool)(v150:Int){o:f8n4O},f8n4 f bc1 bo2 ba4 ba5 bc6 v149 v150=some o→TL Try.prog Try.f8.ntmps 0 f (cL (cL (Ql 1 (cL (Ql 2 (Ql 1 (Ql 3 (Ql 3 (Ql 1 (Ql 3 c8)))))))))) (f8n4S bc1 bo2 ba4 ba5 bc6 v149 v150) (·=f8n4E bc1 bo2 ba4 ba5 bc6 o)
 | 0,_,_,_,_,_,_,_,o,h=>by rw [f8n4] at h; cases h
 | f+1,bc1,bo2,ba4,ba5,bc6,v149,v150,o,h=>by
  rw [f8n4] at h;refine TL.body (K:=fun s=>∃v149:Bool,∃v150:Int,s=(f8n4S bc1 bo2 ba4 ba5 bc6 v149 v150)∧f8n4 f bc1 bo2 ba4 ba5 bc6 v149 v150=some o) ?_ (by rintro _ ⟨v149,v150,rfl,hk⟩; exact f8n4_ok f _ _ _ _ _ _ _ hk);rcases Qh h with ⟨h152,h⟩|⟨h152,h⟩
  ·rcases Qh h with ⟨h158,h⟩|⟨h158,h⟩
   ·obtain ⟨x159,h160,h⟩:=Qc h;obtain ⟨x161,h162,h⟩:=Qc h;exact rE Qg [([],[],[(2,.val (jI (bc1.length:Int)))]),(jT [2,3,4,5,6,7,8,9,10],[(4,.at_ (Int.toNat v150)),(5,.idx 0 (Qb.cells x159)),(8,.idx (Int.toNat v150) (Qb.cells x161)),(10,.bool (Qb.eqb x159 x161)),(11,.bool true)],[]),j3] [some true] [] [0,1,2] [3,6,13,14,15,28,29] (.norm,(f8n4S bc1 bo2 ba4 ba5 bc6 (Qb.eqb x159 x161) (wr64 (v150+1)))) (ap (Qo (xs:=bc1) (c:=Qb.cells)) (ap h152 (ap3 h158 (ap (Qj h160).1 (ap (lt_map Qb.cells (Qj h160).2) (ap h158 (ap (Qp Qb.cells (Qj h160).2) (ap3 h158 (ap (Qj h162).1 (ap (Qp Qb.cells (Qj h162).2) (ap2 h158 (ap (Qb.eqb_ok x159 x161) (ap h158 an))))))))))))) (Qs.norm ⟨(Qb.eqb x159 x161),(wr64 (v150+1)),rfl,h⟩)
   ·exact rE Qg [([],[],[(2,.val (jI (bc1.length:Int)))]),(jF [2,3,4,5,6,7,8,9,10],[(11,.bool false)],[]),j3] [some true] [] [0,1,2] [3,6,13,14,15,28,29] (.norm,(f8n4S bc1 bo2 ba4 ba5 bc6 false (wr64 (v150+1)))) (ap (Qo (xs:=bc1) (c:=Qb.cells)) (ap h152 (ap2 h158 (ap4 h158 (ap4 h158 an))))) (Qs.norm ⟨false,(wr64 (v150+1)),rfl,h⟩)
  ·obtain rfl:=Qd h;exact rK Qg 1 [([],[],[(2,.val (jI (bc1.length:Int)))])] [some false] [] [0,1] [6,13,14,28] (.exit 0) ((f8n4E bc1 bo2 ba4 ba5 bc6 (.exit0 v149)).2) (ap (Qo (xs:=bc1) (c:=Qb.cells)) (ap h152 an)) (Qs.out rfl rfl)
noncomputable def f8n4L(bc1:List Qb)(bo2:Bool)(ba4 ba5:Qf)(bc6:List Qb):List Qb→Bool→Int→Option f8n4O
 | [],v149,v150 =>
  some (.exit0 v149)
 | x0::rest,v149,v150 =>
  bif v149 then
   (at? bc6 v150).bind fun x159 =>
   (f8n4L bc1 bo2 ba4 ba5 bc6 rest (Qb.eqb x159 x0) (v150+1))
  else
   (f8n4L bc1 bo2 ba4 ba5 bc6 rest false (v150+1))
theorem f8n4L_eq(bc1:List Qb)(bo2:Bool)(ba4 ba5:Qf)(bc6:List Qb):∀(rest:List Qb)(f k:Nat)(v149:Bool),bc1.drop k=rest→bc1.length≤maxLen→rest.length<f→f8n4 f bc1 bo2 ba4 ba5 bc6 v149 (k:Int)=f8n4L bc1 bo2 ba4 ba5 bc6 rest v149 (k:Int)
 | _,0,_,_,_,_,hf=>absurd hf (Nat.not_lt_zero _)
 | [],f+1,k,v149,hd,hm,hf=>by
  have hk:¬((k:Int)<(bc1.length:Int)):=by have:=Qah hd; omega
  rw [f8n4,f8n4L];simp only [decide_eq_false hk,cond_false]
 | x0::rest,f+1,k,v149,hd,hm,hf=>by
  obtain ⟨hx,hlt,hd'⟩:=Qv hd;have hk:(k:Int)<(bc1.length:Int):=by omega
  have hw:wr64 ((k:Int)+1)=(k:Int)+1:=Qai (by omega) (by unfold maxLen at hm; omega);have ih:∀(v149:Bool),f8n4 f bc1 bo2 ba4 ba5 bc6 v149 ((k:Int)+1)=f8n4L bc1 bo2 ba4 ba5 bc6 rest v149 ((k:Int)+1):=fun v149=>f8n4L_eq bc1 bo2 ba4 ba5 bc6 rest f (k+1) v149 hd' hm (by simpa using hf);rw [f8n4,f8n4L];simp only [decide_eq_true hk,cond_true,Qao,hx,Option.bind_some,hw,ih]
theorem f8n4_run(bc1:List Qb)(bo2:Bool)(ba4 ba5:Qf)(bc6:List Qb)(v149:Bool)(hm:bc1.length≤maxLen):f8n4 FUEL bc1 bo2 ba4 ba5 bc6 v149 0=f8n4L bc1 bo2 ba4 ba5 bc6 bc1 v149 0:=f8n4L_eq bc1 bo2 ba4 ba5 bc6 bc1 FUEL 0 v149 List.drop_zero hm (Qak hm)
inductive f8n3O where
 | norm (v167:Bool)
def f8n3E(bc1:List Qb)(bo2 bo3:Bool)(ba4 ba5:Qf)(bc6:List Qb):f8n3O→Ex×Tr×Hp
 | .norm v167=>(.norm,mkS [(6,(.bp 0 0)),(13,(jB bo2)),(14,(.bp 1 0)),(28,(jB v167))],[some (.box 24 ((Qf.cells ba4).map .pl)),some (.box 24 ((Qf.cells ba5).map .pl))])
def f8n3S(bc1:List Qb)(bo2 bo3:Bool)(ba4 ba5:Qf)(bc6:List Qb):Tr×Hp:=(mkS [(3,(jL 3 Qb.cells bc1)),(6,(.bp 0 0)),(13,(jB bo2)),(14,(.bp 1 0)),(15,(.own 2)),(28,(jB bo3))],[some (.box 24 ((Qf.cells ba4).map .pl)),some (.box 24 ((Qf.cells ba5).map .pl)),jR 3 Qb.cells bc6])
noncomputable def f8n3(bc1:List Qb)(bo2 bo3:Bool)(ba4 ba5:Qf)(bc6:List Qb):Option f8n3O :=
 (f8n4 FUEL bc1 bo2 ba4 ba5 bc6 bo3 0).bind fun o164=>match o164 with
 | .exit0 v166=>some (.norm v166)
theorem f8n3_ok(bc1:List Qb)(bo2 bo3:Bool)(ba4 ba5:Qf)(bc6:List Qb){o:f8n3O}(h:f8n3 bc1 bo2 bo3 ba4 ba5 bc6=some o):T Try.prog Try.f8.ntmps 0 (cL (Ql 2 (Ql 1 (Ql 3 (Ql 3 (Ql 1 (Ql 3 c8))))))) (f8n3S bc1 bo2 bo3 ba4 ba5 bc6) (·=f8n3E bc1 bo2 bo3 ba4 ba5 bc6 o):=by
 unfold f8n3 at h;refine rN Qg 1 [j3] [] [] [0,1,2] [3,6,13,14,15,28,29] (f8n4S bc1 bo2 ba4 ba5 bc6 bo3 0) an ?_;obtain ⟨o164,h165,h⟩:=Qc h;cases o164 with
 | exit0 v166 =>
  obtain rfl:=Qd h;exact T.last' (T.bl (i:=0) (by kernel_rfl) (by kernel_rfl) (f8n4_ok FUEL bc1 bo2 ba4 ba5 bc6 bo3 0 h165)) (tds:=[]) (m:=[0,1]) (keep:=[6,13,14,28]) (st2:=(f8n3E bc1 bo2 bo3 ba4 ba5 bc6 (.norm v166)).2) (by kernel_rfl) an rfl
inductive f8n0O where
 | ret (v177:Bool)
def f8n0E(a1:Qf)(a2:Int)(a3:ByteArray)(a4:List Qb)(a5 a6:ByteArray):f8n0O→Ex×Tr×Hp
 | .ret v177=>(.ret,mkS [(12,(jB v177))],[])
def f8n0S(a1:Qf)(a2:Int)(a3:ByteArray)(a4:List Qb)(a5 a6:ByteArray):Tr×Hp:=(Qae [(jA Qf.cells a1),(jI a2),(jS a3),(jL 3 Qb.cells a4),(jS a5),(jS a6)] 0 .leaf,[])
noncomputable def f8n0(a1:Qf)(a2:Int)(a3:ByteArray)(a4:List Qb)(a5 a6:ByteArray):Option f8n0O :=
 f11.bind fun x9 =>
 (f12 a1).bind fun x19 =>
 bif x19 then
  some (.ret x9)
 else
  (f29 a4).bind fun x22 =>
  bif x22 then
   some (.ret x9)
  else
   bif decide (300<(a3.size:Int)) then
    some (.ret x9)
   else
    bif x9 then
     (f8n1 a2 a3 a4 a5 a6 x9 a1).bind fun o41=>match o41 with
     | .norm v43 v44=>(f30r1 v43 a2 a3 v44).bind fun x47 =>
      (f31 a1 a2 a3 a4).bind fun x51 =>
      (f32r1 v43 a2).bind fun x55 =>
      (f33 a1 a2).bind fun x59 =>
      (f25 v43 a5 a6).bind fun x63 =>
      (f34 a1 a5 a6).bind fun x67 =>
      (f8n2 a4 x9 x47 x51 x55 x59 x63 x67 a1 v43 v44).bind fun o112=>match o112 with
      | .norm v114=>(tch22 x47.2).bind fun x117 =>
       (tch22 x55.2).bind fun x121 =>
       (f8n3 a4 x9 v114 a1 v43 v44).bind fun o168=>match o168 with
       | .norm v170=>bif v170 then
         (f19 v43 a1).bind fun x175 =>
         some (.ret x175)
        else
         some (.ret false)
    else
     some (.ret x9)
theorem f8n0_ok(a1:Qf)(a2:Int)(a3:ByteArray)(a4:List Qb)(a5 a6:ByteArray){o:f8n0O}(h:f8n0 a1 a2 a3 a4 a5 a6=some o):T Try.prog Try.f8.ntmps 0 c8 (f8n0S a1 a2 a3 a4 a5 a6) (·=f8n0E a1 a2 a3 a4 a5 a6 o):=by
 unfold f8n0 at h;obtain ⟨x9,h10,h⟩:=Qc h;obtain ⟨x19,h20,h⟩:=Qc h;rcases Qh h with ⟨h21,h⟩|⟨h21,h⟩
 ·obtain rfl:=Qd h;exact rK Qg 3 [j3,([],[jH 0 (jB x9)],[]),([(3,true),(4,true)],[jH 1 (jB x19),(5,.bool true)],[]),j3] [none] [] [] [12] .ret ((f8n0E a1 a2 a3 a4 a5 a6 (.ret x9)).2) (ap (f11_ok h10) (ap3 h21 (ap (f12_ok a1 h20) an))) rfl
 ·obtain ⟨x22,h23,h⟩:=Qc h;rcases Qh h with ⟨h24,h⟩|⟨h24,h⟩
  ·obtain rfl:=Qd h;exact rK Qg 3 [j3,([],[jH 0 (jB x9)],[]),(jF [3,4]++jT [7,8,9],[jH 1 (jB x19),jH 4 (jB x22),(5,.bool false),(10,.bool true)],[]),j3] [none] [] [] [12] .ret ((f8n0E a1 a2 a3 a4 a5 a6 (.ret x9)).2) (ap (f11_ok h10) (ap3 h21 (ap4 h24 (ap (f12_ok a1 h20) (ap (f29_ok a4 h23) an))))) rfl
  ·rcases Qh h with ⟨h25,h⟩|⟨h25,h⟩
   ·obtain rfl:=Qd h;exact rK Qg 3 [j3,([],[jH 0 (jB x9)],[]),(jF [3,4,7,8,9]++jT [12,13],[jH 1 (jB x19),jH 4 (jB x22),(5,.bool false),(10,.bool false),(14,.bool true)],[]),j3] [none] [] [] [12] .ret ((f8n0E a1 a2 a3 a4 a5 a6 (.ret x9)).2) (ap (f11_ok h10) (ap3 h21 (ap4 h24 (ap3 h25 (ap (f12_ok a1 h20) (ap (f29_ok a4 h23) an)))))) rfl
   ·rcases Qh h with ⟨h26,h⟩|⟨h26,h⟩
    ·refine rN Qg 3 [j3,([],[jH 0 (jB x9)],[]),(jF [3,4,7,8,9,12,13],[jH 1 (jB x19),jH 4 (jB x22),(5,.bool false),(10,.bool false),(14,.bool false)],[])] [some false] [] [0] [1,2,3,4,5,6,13] (f8n1S a2 a3 a4 a5 a6 x9 a1) (ap (f11_ok h10) (ap3 h21 (ap4 h24 (ap3 h25 (ap (f12_ok a1 h20) (ap (f29_ok a4 h23) (ap (Qq h26) an))))))) ?_;obtain ⟨o41,h42,h⟩:=Qc h;cases o41 with
     | norm v43 v44 =>
      refine T.oneN (by kernel_rfl) (f8n1_ok a2 a3 a4 a5 a6 x9 a1 h42) (st2:=(f8n1E a2 a3 a4 a5 a6 x9 a1 (.norm v43 v44)).2) rfl ?_;obtain ⟨x47,h48,h⟩:=Qc h;obtain ⟨x51,h52,h⟩:=Qc h;obtain ⟨x55,h56,h⟩:=Qc h
      refine rN Qg 3 [([],[(4,.call (.tup [(.agg [(.own 4)]),(jI x47.1)]) [none,none,jR 3 Qb.cells v44,some (.box 24 [(.own 4)]),some (.drow 3 (x47.2.map Qa.cells))])],[]),([],[jH 4 (.tup [(jA Qf.cells x51.1),(jI x51.2)])],[]),([],[(2,.call (.tup [(.agg [(.own 8)]),(jI x55.1)]) (jN 7 [some (.box 24 [(.own 8)]),some (.drow 3 (x55.2.map Qa.cells))]))],[])] [] [] [0,1,2,5,6,9,4,8] [1,3,4,5,6,13,14,15,16,17,18,19,20,21] (mkS [(1,(jI a2)),(3,(jL 3 Qb.cells a4)),(4,(jS a5)),(5,(jS a6)),(6,(.bp 0 0)),(13,(jB x9)),(14,(.bp 1 0)),(15,(.own 2)),(16,(.bp 3 0)),(17,(jI x47.1)),(18,(.bp 4 0)),(19,(jI x51.2)),(20,(.bp 5 0)),(21,(jI x55.1))],[some (.box 24 ((Qf.cells a1).map .pl)),some (.box 24 ((Qf.cells v43).map .pl)),jR 3 Qb.cells v44,some (.box 24 [(.own 6)]),some (.box 24 ((Qf.cells x51.1).map .pl)),some (.box 24 [(.own 7)]),some (.drow 3 (x47.2.map Qa.cells)),some (.drow 3 (x55.2.map Qa.cells))]) (ap (Qm.rn 3 [2] (f30r1_ok v43 a2 a3 v44 h48)) (ap (f31_ok a1 a2 a3 a4 h52) (ap (Qm.rn 7 [] (f32r1_ok v43 a2 h56)) an))) ?_
      obtain ⟨x59,h60,h⟩:=Qc h;obtain ⟨x63,h64,h⟩:=Qc h;obtain ⟨x67,h68,h⟩:=Qc h;refine rN Qg 3 [([],[jH 2 (.tup [(jA Qf.cells x59.1),(jI x59.2)])],[]),([],[jH 3 (.tup [(jI x63.1),(jI x63.2)])],[]),([],[jH 3 (.tup [(jI x67.1),(jI x67.2)])],[])] [] [] [0,1,2,3,4,5,8,6,7] [3,6,13,14,15,16,17,18,19,20,21,22,23,24,25,26,27] (f8n2S a4 x9 x47 x51 x55 x59 x63 x67 a1 v43 v44) (ap (f33_ok a1 a2 h60) (ap (f25_ok v43 a5 a6 h64) (ap (f34_ok a1 a5 a6 h68) an))) ?_;obtain ⟨o112,h113,h⟩:=Qc h;cases o112 with
      | norm v114 =>
       refine T.oneN (by kernel_rfl) (f8n2_ok a4 x9 x47 x51 x55 x59 x63 x67 a1 v43 v44 h113) (st2:=(f8n2E a4 x9 x47 x51 x55 x59 x63 x67 a1 v43 v44 (.norm v114)).2) rfl ?_;obtain ⟨x117,h118,h⟩:=Qc h;obtain ⟨x121,h122,h⟩:=Qc h;refine rN Qg 2 [([],[(1,.call (.tup []) (jN 6 [none]))],[]),([],[(1,.call (.tup []) (jN 6 [none]))],[])] [] [] [0,1,2] [3,6,13,14,15,28] (f8n3S a4 x9 v114 a1 v43 v44) (ap (Qm.rn 7 [5] (tch22_ok x47.2 h118)) (ap (Qm.rn 7 [6] (tch22_ok x55.2 h122)) an)) ?_;obtain ⟨o168,h169,h⟩:=Qc h;cases o168 with
       | norm v170 =>
        refine T.oneN (by kernel_rfl) (f8n3_ok a4 x9 v114 a1 v43 v44 h169) (st2:=(f8n3E a4 x9 v114 a1 v43 v44 (.norm v170)).2) rfl ?_;rcases Qh h with ⟨h174,h⟩|⟨h174,h⟩
        ·obtain ⟨x175,h176,h⟩:=Qc h;obtain rfl:=Qd h;exact rE Qg [(jT [2,5,6,7],[(3,.bool true),jH 7 (jB x175),(8,.bool true)],[])] [] [] [] [12] (.ret,(f8n0E a1 a2 a3 a4 a5 a6 (.ret x175)).2) (ap2 h26 (ap4 h174 (ap (f19_ok v43 a1 h176) an))) rfl
        ·obtain rfl:=Qd h;exact rE Qg [(jF [5,6,7]++jT [2],[(3,.bool true),(8,.bool false)],[])] [] [] [] [12] (.ret,(f8n0E a1 a2 a3 a4 a5 a6 (.ret false)).2) (ap2 h26 (ap4 h174 an)) rfl
    ·obtain rfl:=Qd h;exact rK Qg 3 [j3,([],[jH 0 (jB x9)],[]),(jF [3,4,7,8,9,12,13],[jH 1 (jB x19),jH 4 (jB x22),(5,.bool false),(10,.bool false),(14,.bool false)],[]),j3] [some true] [] [] [12] .ret ((f8n0E a1 a2 a3 a4 a5 a6 (.ret x9)).2) (ap (f11_ok h10) (ap3 h21 (ap4 h24 (ap3 h25 (ap (f12_ok a1 h20) (ap (f29_ok a4 h23) (ap (Qad h26) an))))))) rfl
noncomputable def f8(a1:Qf)(a2:Int)(a3:ByteArray)(a4:List Qb)(a5 a6:ByteArray):Option Bool:=(f8n0 a1 a2 a3 a4 a5 a6).bind fun o=>match o with
 | .ret v177=>some v177
theorem f8_ok(a1:Qf)(a2:Int)(a3:ByteArray)(a4:List Qb)(a5 a6:ByteArray){r:Bool}(h:f8 a1 a2 a3 a4 a5 a6=some r):Qm Try.prog false 8 [(jA Qf.cells a1),(jI a2),(jS a3),(jL 3 Qb.cells a4),(jS a5),(jS a6)] [] (jB r) []:=by
 unfold f8 at h;obtain ⟨o,ho,h⟩:=Qc h;cases o with
 | ret v177 =>
  obtain rfl:=Qd h;exact Qm.plain Qg (f:=Try.f8) (c:=c8) (by kernel_rfl) (by kernel_rfl) (by kernel_rfl) (by kernel_rfl) ((f8n0_ok a1 a2 a3 a4 a5 a6 ho).mono fun r e=>by subst e; exact ⟨.inl rfl,(jB v177),(jB v177),by kernel_rfl,by kernel_rfl,((Wk.refl _):Wk (jB v177) (jB v177))⟩)
end Go.Proofs.Ytbgjlpdeoljmiaa
namespace Go.Proofs.Ytbgjlpdeoljmiaa
set_option linter.unusedVariables false
set_option linter.unusedSimpArgs false
open Go.RowKit
theorem Qbo{n b:Nat}(h:n≤1000000)(hb:b≤1000000):fit n b=true:=by
 unfold fit;have:n*b≤1000000*1000000:=Nat.mul_le_mul h hb;simp only [Bool.and_eq_true,Nat.ble_eq];omega
theorem seq_self(s:ByteArray):seq s s=true:=by simp [seq]
theorem lt_not(a b:Int):decide (a<b) = !decide (b≤a):=by
 by_cases h:a<b
 ·rw [decide_eq_true h,decide_eq_false (by omega)]; rfl
 ·rw [decide_eq_false h,decide_eq_true (by omega)]; rfl
theorem dec_nat(a b:Nat):decide ((a:Int)≤(b:Int))=decide (a≤b):=by congr 1; apply propext; omega

def letterI(c:Int):Bool:=(decide (97≤c)&&decide (c≤122))||(decide (65≤c)&&decide (c≤90))
def otherI(c:Int):Bool:=(decide (48≤c)&&decide (c≤57))||(decide (c=95)||decide (c=45))
theorem f70_eq(c:Int):f70 c=some (letterI c):=by
 unfold f70 f70n0 letterI;cases decide (97≤c)<;>cases decide (c≤122)<;>cases decide (65≤c)<;>cases decide (c≤90)<;>rfl
def charB(b:UInt8):Bool:=letterI b.toNat||otherI b.toNat
def isName(l:List UInt8):Bool:=match l with
 | []=>false
 | b::r=>decide (l.length≤40)&&(letterI b.toNat&&r.all charB)
theorem f64n2_at{s:ByteArray}{k:Nat}{c:UInt8}(h:s.data.toList[k]?=some c):f64n2 s (k:Int)=some (bif charB c then .norm else .ret):=by
 unfold f64n2 f64n3;rw [Qao,h];simp only [Option.bind_some,f70_eq,charB,otherI,lt_not];cases letterI c.toNat<;>cases decide ((48:Int)≤(c.toNat:Int))<;>cases decide ((c.toNat:Int)≤57)<;>cases decide ((c.toNat:Int)=95)<;>cases decide ((c.toNat:Int)=45)<;>rfl
theorem f64n4_at{s:ByteArray}(hm:s.data.toList.length≤maxLen):∀(rest:List UInt8)(f k:Nat),s.data.toList.drop k=rest→rest.length<f→f64n4 f s (k:Int)=some (bif rest.all charB then .exit0 else .ret)
 | _,0,_,_,hf=>absurd hf (Nat.not_lt_zero _)
 | [],f+1,k,hd,hf=>by
  have hk:¬((k:Int)<(s.size:Int)):=by have:=Qah hd; rw [size_list]; omega
  rw [f64n4,decide_eq_false hk]; rfl
 | x::rest,f+1,k,hd,hf=>by
  obtain ⟨hx,hl,hd'⟩:=Qv hd;have hk:(k:Int)<(s.size:Int):=by rw [size_list]; omega
  have hw:wr64 ((k:Int)+1)=((k+1:Nat):Int):=Qai (by omega) (by unfold maxLen at hm; omega);rw [f64n4,decide_eq_true hk,f64n2_at hx,hw,f64n4_at hm rest f (k+1) hd' (by simpa using hf),List.all_cons];cases charB x<;>rfl
theorem f64_eq(s:ByteArray)(h:s.size≤maxLen):f64 s=some (isName s.data.toList):=by
 have hs:s.data.toList.length≤maxLen:=h;have hr:=f64n4_at hs s.data.toList FUEL 0 rfl (Qak hs);simp only [Int.natCast_zero] at hr;unfold f64 f64n0 f64n1;rw [hr,size_list];generalize s.data.toList=l at hs;cases l with
 | nil=>rfl
 | cons b r =>
  have h1:¬(((b::r).length:Nat):Int)<1:=by simp; omega
  rw [decide_eq_false h1];have h0:at? (b::r) 0=some b:=rfl;simp only [cond_false,h0,Option.bind_some,f70_eq,isName,List.all_cons,charB,lt_not];have h2:decide ((((b::r).length:Nat):Int)≤40)=decide ((b::r).length≤40):=by congr 1; apply propext; omega
  rw [h2];cases decide ((b::r).length≤40)<;>cases letterI b.toNat<;>cases r.all charB<;>rfl

def within(n:Int):Bool:=decide (-1125899906842624≤n)&&decide (n≤1125899906842624)
theorem f65_eq(n:Int):f65 n=some (within n):=by
 unfold f65 f65n0 within;cases decide (-1125899906842624≤n)<;>rfl
def badL(x:Qb):Bool:=!isName x.Account.data.toList||(!isName x.Ccy.data.toList||(decide (x.Amount=0)||!within x.Amount))
def Lk(x:Qb):Prop:=x.Account.size≤maxLen∧x.Ccy.size≤maxLen
theorem f63_eq{x:Qb}(h:Lk x):f63 x=some (badL x):=by
 unfold f63 f63n0 badL;rw [f64_eq _ h.1,f64_eq _ h.2];simp only [Option.bind_some,f65_eq];cases isName x.Account.data.toList<;>cases isName x.Ccy.data.toList<;>cases decide (x.Amount=0)<;>rfl
theorem f71_63n2L_at(bc:List Qb):∀(l:List Qb)(v:Int),(∀x∈l,Lk x)→(l.any badL=false∧f71_63n2L bc l v=some .exit0)∨(l.any badL=true∧∃k,v≤k∧f71_63n2L bc l v=some (.ret k))
 | [],v,_=>.inl ⟨rfl,rfl⟩
 | x::r,v,h=>by
  rw [f71_63n2L,f63_eq (h x (by simp))];simp only [Option.bind_some,List.any_cons];cases badL x with
  | true=>exact .inr ⟨rfl,v,Int.le_refl _,rfl⟩
  | false =>
   rcases f71_63n2L_at bc r (v+1) (fun y hy=>h y (by simp [hy])) with ⟨h1,h2⟩|⟨h1,k,h2,h3⟩
   ·exact .inl ⟨by simpa using h1,by simpa using h2⟩
   ·exact .inr ⟨by simpa using h1,k,by omega,by simpa using h3⟩
theorem f66_63_eq{l:List Qb}(hl:l.length≤maxLen)(h:∀x∈l,Lk x):f66_63 l=some (l.any badL):=by
 unfold f66_63 f66_63n0 f71_63 f71_63n0 f71_63n1;rw [f71_63n2_run l hl];rcases f71_63n2L_at l l 0 h with ⟨h1,h2⟩|⟨h1,k,h2,h3⟩
 ·rw [h2,h1]; rfl
 ·rw [h3,h1];simp only [Option.bind_some];rw [decide_eq_true h2]
def textB(s:ByteArray):Bool:=(ofB s).all fun c=>decide (32≤c)&&decide (c≤126)
theorem f49n2L_at(bb:Qa):∀(l:List Int)(v:Int),f49n2L bb l v=some (bif l.all (fun c=>decide (32≤c)&&decide (c≤126)) then .exit0 else .ret)
 | [],v=>rfl
 | c::r,v=>by
  rw [f49n2L];simp only [f49n2L_at bb r,lt_not,List.all_cons];cases decide (32≤c)<;>cases decide (c≤126)<;>rfl
def Rk(r:Qa):Prop:=r.Text.size≤maxLen∧r.Lines.length≤maxLen∧∀x∈r.Lines,Lk x
def Qar(r:Qa):Bool:=textB r.Text&&(decide (0≤r.Day)&&(decide (r.Day≤99999)&&(decide (r.Text.size≤100)&&(decide (2≤r.Lines.length)&&(decide (r.Lines.length≤20)&&!r.Lines.any badL)))))
theorem len_ofB(s:ByteArray):(ofB s).length=s.size:=by simp [ofB]
theorem f49_eq{r:Qa}(h:Rk r):f49 r=some (Qar r):=by
 unfold f49 f49n0 f49n1 Qar textB;have h1:r.Text.size≤9223372036854775807:=Nat.le_trans h.1 (by unfold maxLen; decide);have h2:decide ((r.Text.size:Int)≤100)=decide (r.Text.size≤100):=dec_nat _ 100;have h3:decide ((2:Int)≤(r.Lines.length:Int))=decide (2≤r.Lines.length):=dec_nat 2 _;have h4:decide ((r.Lines.length:Int)≤20)=decide (r.Lines.length≤20):=dec_nat _ 20;rw [f49n2_run r (by rw [len_ofB]; exact h.1),f49n2L_at,h2,h3,h4,f66_63_eq h.2.1 h.2.2,decide_eq_true h1];simp only [req,cond_true,Option.bind_some];cases (ofB r.Text).all (fun c=>decide (32≤c)&&decide (c≤126))<;>cases decide (0≤r.Day)<;>cases decide (r.Day≤99999)<;>cases decide (r.Text.size≤100)<;>cases decide (2≤r.Lines.length)<;>cases decide (r.Lines.length≤20)<;>rfl
theorem formed_small{r:Qa}(h:Qar r=true):0≤r.Day∧r.Day≤99999∧r.Text.size≤100∧2≤r.Lines.length∧r.Lines.length≤20∧r.Lines.any badL=false:=by
 simp only [Qar,Bool.and_eq_true,decide_eq_true_eq,Bool.not_eq_true'] at h;exact ⟨h.2.1,h.2.2.1,h.2.2.2.1,h.2.2.2.2.1,h.2.2.2.2.2.1,h.2.2.2.2.2.2⟩

def sumsL:List Qb→List (ByteArray×Int)→List (ByteArray×Int)
 | [],m=>m
 | x::l,m=>sumsL l (mPut seq x.Ccy (wr64 (mGet seq 0 x.Ccy m+x.Amount)) m)
theorem f50n2L_at(bb:Qa):∀(l:List Qb)(v:Int)(m:List (ByteArray×Int)),f50n2L bb l v m=some (.exit0 (sumsL l m))
 | [],v,m=>rfl
 | x::r,v,m=>by rw [f50n2L,f50n2L_at bb r]; rfl
theorem f50n4_eq(be:List (ByteArray×Int)):∀l:List (ByteArray×Int),f50n4 be l=some (bif l.all (fun x=>decide (x.2=0)) then .exit2 else .ret)
 | []=>rfl
 | x::r=>by
  rw [f50n4,f50n4_eq be r,List.all_cons];cases decide (x.2=0)<;>rfl
def balB(r:Qa):Bool:=(sumsL r.Lines []).all fun x=>decide (x.2=0)
theorem f50_eq{r:Qa}(h:r.Lines.length≤maxLen):f50 r=some (balB r):=by
 unfold f50 f50n0 f50n1 f50n3;rw [f50n2_run r _ h,f50n2L_at];simp only [Option.bind_some];have hp:∀p,p.Perm (sumsL r.Lines [])→f50n4 (sumsL r.Lines []) p=some (bif balB r then .exit2 else .ret):=fun p hp=>by
  rw [f50n4_eq,hp.all_eq]; rfl
 rw [anyOrder_of hp];cases balB r<;>rfl

abbrev Bal:=List (Qe×Int)
def acc(x:Qb):Qe:=⟨x.Account,x.Ccy⟩
def bal(a:Qe)(b:Bal):Int:=mGet Qe.eqb 0 a b
def Qck:List Qb→Bal→Bal
 | [],m=>m
 | x::l,m=>Qck l (mPut Qe.eqb (acc x) (wr64 (bal (acc x) m+x.Amount)) m)
def fitsM(l:List Qb)(b:Bal):Bool:=!l.any fun x=>!within (bal (acc x) b)
theorem f71r1n2L_at(bc:List Qb)(d k:Int)(b:Bal):∀(l:List Qb)(v:Int),(l.any (fun x=>!within (bal (acc x) b))=false∧f71r1n2L bc d k b l v=some .exit0)∨(l.any (fun x=>!within (bal (acc x) b))=true∧∃j,v≤j∧f71r1n2L bc d k b l v=some (.ret j))
 | [],v=>.inl ⟨rfl,rfl⟩
 | x::r,v=>by
  have e:f69r1 x d k b=some (!within (bal (acc x) b)):=by unfold f69r1 f69r1n0; rw [f65_eq]; rfl
  rw [f71r1n2L,e];simp only [Option.bind_some,List.any_cons];cases within (bal (acc x) b) with
  | false=>exact .inr ⟨rfl,v,Int.le_refl _,rfl⟩
  | true =>
   rcases f71r1n2L_at bc d k b r (v+1) with ⟨h1,h2⟩|⟨h1,j,h2,h3⟩
   ·exact .inl ⟨by simpa using h1,by simpa using h2⟩
   ·exact .inr ⟨by simpa using h1,j,by omega,by simpa using h3⟩
theorem f61r1_eq{r:Qa}(h:r.Lines.length≤maxLen)(d k:Int)(b:Bal):f61r1 r d k b=some (fitsM r.Lines b):=by
 unfold f61r1 f61r1n0 f66r1 f66r1n0 f71r1 f71r1n0 f71r1n1 fitsM;rw [f71r1n2_run _ _ _ _ h];rcases f71r1n2L_at r.Lines d k b r.Lines 0 with ⟨h1,h2⟩|⟨h1,j,h2,h3⟩
 ·rw [h2,h1]; rfl
 ·rw [h3,h1];simp only [Option.bind_some];rw [decide_eq_true h2]
theorem f71r2n2L_at(bc:List Qb)(d k:Int)(b:Bal):∀(l:List Qb)(v:Int),(l.any (fun x=>!within (bal (acc x) b))=false∧f71r2n2L bc d k b l v=some .exit0)∨(l.any (fun x=>!within (bal (acc x) b))=true∧∃j,v≤j∧f71r2n2L bc d k b l v=some (.ret j))
 | [],v=>.inl ⟨rfl,rfl⟩
 | x::r,v=>by
  have e:f69r1 x d k b=some (!within (bal (acc x) b)):=by unfold f69r1 f69r1n0; rw [f65_eq]; rfl
  rw [f71r2n2L,e];simp only [Option.bind_some,List.any_cons];cases within (bal (acc x) b) with
  | false=>exact .inr ⟨rfl,v,Int.le_refl _,rfl⟩
  | true =>
   rcases f71r2n2L_at bc d k b r (v+1) with ⟨h1,h2⟩|⟨h1,j,h2,h3⟩
   ·exact .inl ⟨by simpa using h1,by simpa using h2⟩
   ·exact .inr ⟨by simpa using h1,j,by omega,by simpa using h3⟩
theorem f61r2_eq{l:List Qb}(h:l.length≤maxLen)(d:Int)(t:ByteArray)(k:Int)(b:Bal):f61r2 d t k l b=some (fitsM l b):=by
 unfold f61r2 f61r2n0 f66r2 f66r2n0 f71r2 f71r2n0 f71r2n1 fitsM;rw [f71r2n2_run _ _ _ _ h];rcases f71r2n2L_at l d k b l 0 with ⟨h1,h2⟩|⟨h1,j,h2,h3⟩
 ·rw [h2,h1]; rfl
 ·rw [h3,h1];simp only [Option.bind_some];rw [decide_eq_true h2]
def addS(r:Qa)(d m:Int)(b:Bal):Bool×Int×Int×Bal :=
 bif decide (m=200)||(!Qar r||(!balB r||decide (r.Day<d))) then (false,d,m,b) else (fitsM r.Lines (Qck r.Lines b),r.Day,wr64 (m+1),Qck r.Lines b)
theorem f44r2n2L_at(bb:Qa)(d m:Int):∀(l:List Qb)(v:Int)(b:Bal),f44r2n2L bb d m l v b=some (.exit0 (Qck l b))
 | [],v,b=>rfl
 | x::r,v,b=>by rw [f44r2n2L,f44r2n2L_at bb d m r]; rfl
theorem f44r2_eq{r:Qa}(h:Rk r)(d m:Int)(b:Bal):f44r2 r d m b=some (addS r d m b):=by
 unfold f44r2 f44r2n0 f44r2n1 addS;rw [f49_eq h,f50_eq h.2.1,f44r2n2_run _ _ _ _ h.2.1,f44r2n2L_at];simp only [Option.bind_some,f61r1_eq h.2.1];cases decide (m=200)<;>cases Qar r<;>cases balB r<;>cases decide (r.Day<d)<;>rfl
theorem f44r3n2L_at(bc:List Qb)(a b' c:Int)(t:ByteArray):∀(l:List Qb)(v:Int)(b:Bal),f44r3n2L bc a b' c t l v b=some (.exit0 (Qck l b))
 | [],v,b=>rfl
 | x::r,v,b=>by rw [f44r3n2L,f44r3n2L_at bc a b' c t r]; rfl
theorem f44r3_eq{r:Qa}(h:Rk r)(d m:Int)(b:Bal):f44r3 r.Day r.Text d m r.Lines b=some (addS r d m b):=by
 unfold f44r3 f44r3n0 f44r3n1 addS;have e:(Qa.mk r.Day r.Text r.Lines)=r:=rfl;rw [e,f49_eq h,f50_eq h.2.1,f44r3n2_run _ _ _ _ _ _ h.2.1,f44r3n2L_at];simp only [Option.bind_some,f61r2_eq h.2.1];cases decide (m=200)<;>cases Qar r<;>cases balB r<;>cases decide (r.Day<d)<;>rfl
theorem add_true{r:Qa}{d m:Int}{b:Bal}(h:(addS r d m b).1=true):m≠200∧Qar r=true∧balB r=true∧d≤r.Day∧fitsM r.Lines (Qck r.Lines b)=true∧(addS r d m b).2=(r.Day,wr64 (m+1),Qck r.Lines b):=by
 unfold addS at h ⊢;cases hc:decide (m=200)||(!Qar r||(!balB r||decide (r.Day<d))) with
 | true=>rw [hc] at h; cases h
 | false =>
  rw [hc] at h;simp only [cond_false] at h ⊢;simp only [Bool.or_eq_false_iff,decide_eq_false_iff_not,Bool.not_eq_false'] at hc;exact ⟨hc.1,hc.2.1,hc.2.2.1,by omega,h,trivial⟩
def openL:List Qa→Int→Int→Bal→Bool×Int×Int×Bal
 | [],d,m,b=>(true,d,m,b)
 | r::l,d,m,b=>bif (addS r d m b).1 then openL l (addS r d m b).2.1 (addS r d m b).2.2.1 (addS r d m b).2.2.2 else (false,(addS r d m b).2)
theorem f47r1n2L_at(ba:Qf):∀(l:List Qa)(v d m:Int)(b:Bal),(∀r∈l,Rk r) →
  f47r1n2L ba l v d m b=some (bif (openL l d m b).1 then .exit0 (openL l d m b).2.1 (openL l d m b).2.2.1 (openL l d m b).2.2.2 else .ret (openL l d m b).2.1 (openL l d m b).2.2.1 (openL l d m b).2.2.2)
 | [],v,d,m,b,_=>rfl
 | r::l,v,d,m,b,h=>by
  rw [f47r1n2L,f44r2_eq (h r (by simp)),openL];simp only [Option.bind_some];cases hx:(addS r d m b).1 with
  | true=>simp only [cond_true]; exact f47r1n2L_at ba l _ _ _ _ fun y hy=>h y (by simp [hy])
  | false=>rfl
def Qap(j:Qf):Bool×Int×Int×Bal:=bif decide (200<j.Records.length) then (false,0,0,[]) else openL j.Records 0 0 []
def Jk(j:Qf):Prop:=j.Records.length≤maxLen∧∀r∈j.Records,Rk r
theorem f47r1_eq{j:Qf}(h:Jk j):f47r1 j=some (Qap j):=by
 unfold f47r1 f47r1n0 f47r1n1 Qap;rw [f47r1n2_run _ _ _ _ h.1,f47r1n2L_at _ _ _ _ _ _ h.2];have e:decide ((200:Int)<(j.Records.length:Int))=decide (200<j.Records.length):=by congr 1; apply propext; omega
 rw [e];generalize openL j.Records 0 0 []=x;obtain ⟨a,d,m,b⟩:=x;cases decide (200<j.Records.length)<;>cases a<;>rfl
theorem f28_eq{j:Qf}(h:Jk j):f28 j=some (bif (Qap j).1 then 0 else 8):=by
 unfold f28 f28n0;rw [f47r1_eq h];simp only [Option.bind_some];cases (Qap j).1<;>rfl
theorem open_formed:∀{l:List Qa} {d m:Int} {b:Bal},(openL l d m b).1=true→∀r∈l,Qar r=true∧balB r=true
 | [],_,_,_,_,r,hr=>by cases hr
 | x::l,d,m,b,h,r,hr=>by
  rw [openL] at h;cases hx:(addS x d m b).1 with
  | false=>rw [hx] at h; cases h
  | true =>
   rw [hx] at h;rcases List.mem_cons.1 hr with rfl | hr
   ·have:=add_true hx; exact ⟨this.2.1,this.2.2.1⟩
   ·exact open_formed h r hr
theorem open_many:∀{l:List Qa} {d m:Int} {b:Bal},(openL l d m b).1=true→0≤m→m≤200→(openL l d m b).2.2.1=m+(l.length:Int)∧m+(l.length:Int)≤200
 | [],d,m,b,_,h0,h1=>⟨by simp [openL],by simpa using h1⟩
 | x::l,d,m,b,h,h0,h1=>by
  rw [openL] at h ⊢;cases hx:(addS x d m b).1 with
  | false=>rw [hx] at h; cases h
  | true =>
   rw [hx] at h;have ha:=add_true hx;simp only [cond_true] at h ⊢;rw [ha.2.2.2.2.2] at h ⊢;have hw:wr64 (m+1)=m+1:=IntWalk.i64_in _ ⟨by omega,by omega⟩;simp only [hw] at h ⊢;have hm:=ha.1;obtain ⟨k1,k2⟩:=open_many h (by omega) (by omega);simp only [List.length_cons];exact ⟨by rw [k1]; omega,by omega⟩
def daysOK:Int→List Qa→Prop
 | _,[]=>True
 | d,r::l=>d≤r.Day∧daysOK r.Day l
theorem open_days:∀{l:List Qa} {d m:Int} {b:Bal},(openL l d m b).1=true→daysOK d l
 | [],_,_,_,_=>trivial
 | x::l,d,m,b,h=>by
  rw [openL] at h;cases hx:(addS x d m b).1 with
  | false=>rw [hx] at h; cases h
  | true =>
   rw [hx] at h;have ha:=add_true hx;simp only [cond_true,ha.2.2.2.2.2] at h;exact ⟨ha.2.2.2.1,open_days h⟩
def Valid(j:Qf):Prop:=Jk j∧(Qap j).1=true
theorem Valid.open{j:Qf}(h:Valid j):j.Records.length≤200∧Qap j=openL j.Records 0 0 []∧(openL j.Records 0 0 []).1=true:=by
 have h2:=h.2;unfold Qap at h2 ⊢;cases hc:decide (200<j.Records.length) with
 | true=>rw [hc] at h2; cases h2
 | false=>rw [hc] at h2; exact ⟨by simpa using hc,rfl,h2⟩

theorem f48r1_eq{l:List Qb}(h:l.length≤1000000):f48r1 l=some l:=by
 unfold f48r1 f48r1n0;cases l with
 | nil=>rfl
 | cons x l =>
  simp only [List.isEmpty_cons,cond_false,req,Qbo h (show 40≤1000000 by omega),cond_true]; rfl
theorem f48r2_eq{l:List Qb}(h:l.length≤1000000):f48r2 l=some l:=by
 unfold f48r2 f48r2n0;cases l with
 | nil=>rfl
 | cons x l =>
  simp only [List.isEmpty_cons,cond_false,req,Qbo h (show 40≤1000000 by omega),cond_true]; rfl
theorem f51r1n2L_at(bi:List Qa):∀(l:List Qa)(v:Int)(a:List Qa),(∀r∈l,r.Lines.length≤1000000)→a.length+l.length≤1000→f51r1n2L bi l v a=some (.exit0 (a++l))
 | [],v,a,_,_=>by rw [f51r1n2L,List.append_nil]
 | r::l,v,a,h,hl=>by
  simp only [List.length_cons] at hl;rw [f51r1n2L,f48r2_eq (h r (by simp))];simp only [Option.bind_some,req,Qbo (show a.length+1≤1000000 by omega) (show 48≤1000000 by omega),cond_true];rw [f51r1n2L_at bi l _ _ (fun y hy=>h y (by simp [hy])) (by simp; omega),List.append_assoc]; rfl
theorem f51r1_eq{l:List Qa}(h:∀r∈l,r.Lines.length≤1000000)(hl:l.length≤1000):f51r1 l=some l:=by
 unfold f51r1 f51r1n0 f51r1n1;rw [f51r1n2_run _ _ (Nat.le_trans hl (by unfold maxLen; decide)),f51r1n2L_at _ _ _ _ h (by simpa using hl)]; rfl

def errA(j:Qf)(r:Qa):Int :=
 bif (Qap j).1 then bif Qar r then bif balB r then bif decide (r.Day<(Qap j).2.1) then 40 else bif decide ((Qap j).2.2.1=200) then 22 else bif (addS r (Qap j).2.1 (Qap j).2.2.1 (Qap j).2.2.2).1 then 0 else 14 else 60 else 2 else 8
theorem errA_zero{j:Qf}{r:Qa}(h:errA j r=0):(Qap j).1=true∧(addS r (Qap j).2.1 (Qap j).2.2.1 (Qap j).2.2.2).1=true:=by
 unfold errA at h;cases h1:(Qap j).1<;>rw [h1] at h<;>first | (simp at h; done) | skip
 cases h2:Qar r<;>rw [h2] at h<;>first | (simp at h; done) | skip
 cases h3:balB r<;>rw [h3] at h<;>first | (simp at h; done) | skip
 cases h4:decide (r.Day<(Qap j).2.1)<;>rw [h4] at h<;>first | (simp at h; done) | skip
 cases h5:decide ((Qap j).2.2.1=200)<;>rw [h5] at h<;>first | (simp at h; done) | skip
 cases h6:(addS r (Qap j).2.1 (Qap j).2.2.1 (Qap j).2.2.2).1<;>rw [h6] at h<;>first | (simp at h; done) | skip
 exact ⟨rfl,rfl⟩
theorem f30r1_eq{j:Qf}{r:Qa}(hj:Jk j)(hr:Rk r)(hl:r.Lines.length≤1000000) :
  f30r1 j r.Day r.Text r.Lines=some (bif decide (errA j r=0) then (0,j.Records++[r]) else (errA j r,[])):=by
 unfold f30r1 f30r1n0 f30r1n1 f30r1n2;have e:(Qa.mk r.Day r.Text r.Lines)=r:=rfl;rw [f48r1_eq hl,f47r1_eq hj];simp only [Option.bind_some,e,f49_eq hr,f50_eq hr.2.1,f44r3_eq hr];have main:(bif (Qap j).1 then bif Qar r then bif balB r then bif decide (r.Day<(Qap j).2.1) then some (f30r1n2O.norm 40) else bif decide ((Qap j).2.2.1=200) then some (.norm 22) else bif (addS r (Qap j).2.1 (Qap j).2.2.1 (Qap j).2.2.2).1 then some (.norm 0) else some (.norm 14) else some (.norm 60) else some (.norm 2) else some (.norm 8))=some (f30r1n2O.norm (errA j r)):=by
  unfold errA;cases (Qap j).1<;>cases Qar r<;>cases balB r<;>cases decide (r.Day<(Qap j).2.1)<;>cases decide ((Qap j).2.2.1=200)<;>cases (addS r (Qap j).2.1 (Qap j).2.2.1 (Qap j).2.2.2).1<;>rfl
 rw [main];simp only [Option.bind_some];cases hd:decide (errA j r=0) with
 | false=>rfl
 | true =>
  have h0:=of_decide_eq_true hd;have hg:Valid j:=⟨hj,(errA_zero h0).1⟩;obtain ⟨k1,k2,k3⟩:=hg.open;simp only [cond_true];rw [f51r1_eq (fun y hy=>by have:=formed_small (open_formed k3 y hy).1; omega) (by omega)];simp only [Option.bind_some,req,Qbo (show j.Records.length+1≤1000000 by omega) (show 48≤1000000 by omega),cond_true]
end Go.Proofs.Ytbgjlpdeoljmiaa
namespace Go.Proofs.Ytbgjlpdeoljmiaa
set_option linter.unusedVariables false
set_option linter.unusedSimpArgs false
open Go.RowKit
theorem eqb_self(x:Qb):Qb.eqb x x=true:=by simp [Qb.eqb,seq]
theorem f27n2L_at(b:Qa):∀(l:List Qb)(k:Nat),b.Lines.drop k=l→f27n2L b b l (k:Int)=some .exit0
 | [],k,_=>rfl
 | x::l,k,h=>by
  obtain ⟨hx,_,hd⟩:=Qv h;rw [f27n2L,Qao,hx];simp only [Option.bind_some,eqb_self,cond_true];exact f27n2L_at b l (k+1) hd
theorem f27_self{r:Qa}(h:r.Lines.length≤maxLen):f27 r r=some true:=by
 unfold f27 f27n0 f27n1;rw [f27n2_run _ _ h];have:=f27n2L_at r r.Lines 0 rfl;simp only [Int.natCast_zero] at this;rw [this,seq_self]
 simp
theorem f19n2L_at(j:Qf)(hr:∀r∈j.Records,r.Lines.length≤maxLen):∀(l:List Qa)(k:Nat),j.Records.drop k=l→f19n2L j j l (k:Int)=some .exit0
 | [],k,_=>rfl
 | x::l,k,h=>by
  obtain ⟨hx,_,hd⟩:=Qv h;rw [f19n2L,Qao,hx];simp only [Option.bind_some,f27_self (hr x (List.mem_of_getElem? hx)),cond_true];exact f19n2L_at j hr l (k+1) hd
theorem f19_self{j:Qf}(h:Jk j):f19 j j=some true:=by
 unfold f19 f19n0 f19n1;rw [f19n2_run _ _ h.1];have:=f19n2L_at j (fun r hr=>(h.2 r hr).2.1) j.Records 0 rfl;simp only [Int.natCast_zero] at this;rw [this]
 simp
end Go.Proofs.Ytbgjlpdeoljmiaa
namespace Go.Proofs.Ytbgjlpdeoljmiaa
set_option linter.unusedVariables false
set_option linter.unusedSimpArgs false
open Go.RowKit
theorem f29n2L_at(bc:List Qb):∀(l:List Qb)(v:Int),f29n2L bc l v=some .exit0∨f29n2L bc l v=some .ret
 | [],v=>.inl rfl
 | x::l,v=>by
  rw [f29n2L];cases decide (v≤40) with
  | false=>exact .inl rfl
  | true =>
   cases decide (300<(x.Account.size:Int)) with
   | true=>exact .inr rfl
   | false=>cases decide (300<(x.Ccy.size:Int)) with
    | true=>exact .inr rfl
    | false=>exact f29n2L_at bc l (v+1)
theorem f29_at{l:List Qb}(h:l.length≤maxLen):∃b,f29 l=some b∧(b=false→l.length≤40):=by
 unfold f29 f29n0 f29n1;rw [f29n2_run _ h];rcases f29n2L_at l l 0 with e | e<;>rw [e]
 ·exact ⟨decide (40<(l.length:Int)),rfl,fun h=>by have:=of_decide_eq_false h; omega⟩
 ·exact ⟨true,rfl,fun h=>by cases h⟩
end Go.Proofs.Ytbgjlpdeoljmiaa
namespace Go.Proofs.Ytbgjlpdeoljmiaa
set_option maxRecDepth 1000000
theorem alive_t:f11=some true:=by kernel_rfl
end Go.Proofs.Ytbgjlpdeoljmiaa
namespace Go.Proofs.Ytbgjlpdeoljmiaa
set_option linter.unusedVariables false
set_option linter.unusedSimpArgs false
open Go.RowKit
def sumF(p:Qb→Bool):List Qb→Int→Int
 | [],s=>s
 | x::l,s=>sumF p l (bif p x then wr64 (s+x.Amount) else s)
theorem sumF_append(p:Qb→Bool):∀(l k:List Qb)(s:Int),sumF p (l++k) s=sumF p k (sumF p l s)
 | [],k,s=>rfl
 | x::l,k,s=>by rw [List.cons_append,sumF,sumF,sumF_append p l k]
theorem get_put{K:Type}{keq:K→K→Bool} (he:∀{a b},keq a b=true→a=b) (hr:∀a,keq a a=true) (z v:Int) (k q:K):∀m:List (K×Int),mGet keq z q (mPut keq k v m)=bif keq q k then v else mGet keq z q m
 | []=>by simp [mPut,mGet]
 | (a,w)::r=>by
  simp only [mPut,mGet];cases hk:keq k a with
  | true =>
   have:=he hk; subst this;simp only [cond_true,mGet];cases keq q k<;>rfl
  | false =>
   simp only [cond_false,mGet];cases hq:keq q a with
   | true =>
    have:=he hq; subst this;have hne:keq q k=false:=by
     cases h:keq q k with
     | false=>rfl
     | true=>have:=he h; subst this; rw [hr] at hk; cases hk
    simp only [cond_true,hne,cond_false]
   | false=>simp only [cond_false]; exact get_put he hr z v k q r
theorem seq_eq2{a b:ByteArray}(h:seq a b=true):a=b:=bytes_eq (by simpa [seq] using h)
theorem acc_self(a:Qe):Qe.eqb a a=true:=by simp [Qe.eqb,seq]
theorem bal_post(a:Qe):∀(l:List Qb)(b:Bal),bal a (Qck l b)=sumF (fun x=>Qe.eqb a (acc x)) l (bal a b)
 | [],b=>rfl
 | x::l,b=>by
  rw [Qck,sumF,bal_post a l];have:=get_put (keq:=Qe.eqb) (fun h=>Qe.eqb_eq h) acc_self 0 (wr64 (bal (acc x) b+x.Amount)) (acc x) a b;show sumF _ l (mGet Qe.eqb 0 a _)=_;rw [this];cases h:Qe.eqb a (acc x) with
  | true=>have:=Qe.eqb_eq h; subst this; rfl
  | false=>rfl
theorem get_sums(c:ByteArray):∀(l:List Qb)(m:List (ByteArray×Int)),mGet seq 0 c (sumsL l m)=sumF (fun x=>seq c x.Ccy) l (mGet seq 0 c m)
 | [],m=>rfl
 | x::l,m=>by
  rw [sumsL,sumF,get_sums c l,get_put (fun h=>seq_eq2 h) seq_self];cases h:seq c x.Ccy with
  | true=>have:=seq_eq2 h; rw [←this]
  | false=>rfl
theorem get_zero(c:ByteArray):∀{m:List (ByteArray×Int)},m.all (fun x=>decide (x.2=0))=true→mGet seq 0 c m=0
 | [],_=>rfl
 | (a,w)::r,h=>by
  simp only [List.all_cons,Bool.and_eq_true,decide_eq_true_eq] at h;rw [mGet,h.1,get_zero c h.2];cases seq c a<;>rfl
theorem bal_zero{r:Qa}(h:balB r=true)(c:ByteArray):sumF (fun x=>seq c x.Ccy) r.Lines 0=0:=by
 have:=get_sums c r.Lines [];rw [get_zero c h] at this;exact this.symm
def linesOf(l:List Qa):List Qb:=l.flatMap (·.Lines)
theorem open_bal:∀{l:List Qa} {d m:Int} {b:Bal},(openL l d m b).1=true→(openL l d m b).2.2.2=Qck (linesOf l) b
 | [],_,_,_,_=>rfl
 | r::l,d,m,b,h=>by
  rw [openL] at h ⊢;cases hx:(addS r d m b).1 with
  | false=>rw [hx] at h; cases h
  | true =>
   rw [hx] at h;have ha:=add_true hx;simp only [cond_true,ha.2.2.2.2.2] at h ⊢;rw [open_bal h];have post_append:∀(k k2:List Qb)(b:Bal),Qck (k++k2) b=Qck k2 (Qck k b):=by
    intro k
    induction k with
    | nil=>intro _ _; rfl
    | cons x k ih=>intro k2 b; rw [List.cons_append,Qck,Qck,ih]
   show Qck (linesOf l) (Qck r.Lines b)=Qck (r.Lines++linesOf l) b;rw [post_append]
theorem f25_eq{j:Qf}(h:Valid j)(a c:ByteArray):f25 j a c=some (bal ⟨a,c⟩ (Qck (linesOf j.Records) []),0):=by
 obtain ⟨k1,k2,k3⟩:=h.open;unfold f25 f25n0;rw [f47r1_eq h.1,k2];simp only [Option.bind_some,k3,cond_true,open_bal k3]; rfl
end Go.Proofs.Ytbgjlpdeoljmiaa
namespace Go.Proofs.Ytbgjlpdeoljmiaa
set_option linter.unusedVariables false
set_option linter.unusedSimpArgs false
open Go.RowKit
theorem f67n2_at{s:ByteArray}{k:Nat}{c:UInt8}(h:s.data.toList[k]?=some c):f67n2 s (k:Int)=some (bif letterI c.toNat||(otherI c.toNat&&!decide (k=0)) then .norm else .ret):=by
 unfold f67n2 f67n3 f67n4 f67n5;rw [Qao,h];have e:decide ((k:Int)=0)=decide (k=0):=by congr 1; apply propext; omega
 simp only [Option.bind_some,letterI,otherI,e];cases decide ((97:Int)≤(c.toNat:Int))<;>cases decide ((c.toNat:Int)≤122)<;>cases decide ((65:Int)≤(c.toNat:Int))<;>cases decide ((c.toNat:Int)≤90)<;>cases decide ((48:Int)≤(c.toNat:Int))<;>cases decide ((c.toNat:Int)≤57)<;>cases decide ((c.toNat:Int)=95)<;>cases decide ((c.toNat:Int)=45)<;>cases decide (k=0)<;>rfl
theorem f67n6_at{s:ByteArray}(hm:s.data.toList.length≤maxLen):∀(rest:List UInt8)(f k:Nat),0<k→s.data.toList.drop k=rest→rest.length<f→f67n6 f s (k:Int)=some (bif rest.all charB then .exit0 else .ret)
 | _,0,_,_,_,hf=>absurd hf (Nat.not_lt_zero _)
 | [],f+1,k,h0,hd,hf=>by
  have hk:¬((k:Int)<(s.size:Int)):=by have:=Qah hd; rw [size_list]; omega
  rw [f67n6,decide_eq_false hk]; rfl
 | x::rest,f+1,k,h0,hd,hf=>by
  obtain ⟨hx,hl,hd'⟩:=Qv hd;have hk:(k:Int)<(s.size:Int):=by rw [size_list]; omega
  have hw:wr64 ((k:Int)+1)=((k+1:Nat):Int):=Qai (by omega) (by unfold maxLen at hm; omega);rw [f67n6,decide_eq_true hk,f67n2_at hx,hw,f67n6_at hm rest f (k+1) (by omega) hd' (by simpa using hf),List.all_cons,decide_eq_false (by omega),charB];cases letterI x.toNat<;>cases otherI x.toNat<;>rfl
theorem f67_eq(s:ByteArray)(h:s.size≤maxLen):f67 s=some (isName s.data.toList):=by
 have hs:s.data.toList.length≤maxLen:=h;have hF:s.data.toList.length<FUEL:=Qak hs;unfold f67 f67n0 f67n1;rw [size_list];cases hl:s.data.toList with
 | nil=>rfl
 | cons b r =>
  rw [hl] at hF;have h1:¬(((b::r).length:Nat):Int)<1:=by simp; omega
  rw [decide_eq_false h1];have h2:decide ((40:Int)<(((b::r).length:Nat):Int)) = !decide ((b::r).length≤40):=by rw [lt_not]; congr 1; exact dec_nat _ 40
  rw [h2];have hr:f67n6 FUEL s 0=some (bif letterI b.toNat&&r.all charB then .exit0 else .ret):=by
   have hd:s.data.toList.drop 0=b::r:=hl;obtain ⟨hx,hlt,hd'⟩:=Qv hd;have hn:=f67n2_at hx;obtain ⟨F,hF2⟩:∃F,FUEL=F+1:=⟨FUEL-1,by have:=hF; omega⟩;rw [hF2] at hF ⊢;have hk:((0:Int)<(s.size:Int)):=by rw [size_list,hl]; simp only [List.length_cons]; omega
   have ih:=f67n6_at hs r F 1 (by omega) hd' (by simpa using hF);have hw:wr64 ((0:Int)+1)=((1:Nat):Int):=rfl;simp only [Int.natCast_zero] at hn;rw [f67n6,decide_eq_true hk,hn,hw,ih];simp only [decide_true,Bool.not_true,Bool.and_false,Bool.or_false];cases letterI b.toNat<;>cases r.all charB<;>rfl
  rw [hr];simp only [cond_false,isName];cases decide ((b::r).length≤40)<;>cases letterI b.toNat<;>cases r.all charB<;>rfl

theorem f52n2L_at(r:Qa):∀(l:List UInt8)(v:Int),f52n2L r l v=some (bif (l.map fun c=>(c.toNat:Int)).all (fun c=>decide (32≤c)&&decide (c≤126)) then .exit0 else .ret)
 | [],v=>rfl
 | x::l,v=>by
  rw [f52n2L];simp only [f52n2L_at r l,lt_not,List.map_cons,List.all_cons];cases decide ((32:Int)≤(x.toNat:Int))<;>cases decide ((x.toNat:Int)≤126)<;>rfl
theorem f52n4L_at(r:Qa):∀(l:List Qb)(v:Int),(∀x∈l,Lk x)→f52n4L r l v=some (bif l.any badL then .ret else .exit2)
 | [],v,_=>rfl
 | x::l,v,h=>by
  have hx:=h x (by simp);rw [f52n4L,f67_eq _ hx.1,f67_eq _ hx.2];simp only [Option.bind_some,f52n4L_at r l _ (fun y hy=>h y (by simp [hy])),lt_not,List.any_cons,badL,within];cases isName x.Account.data.toList<;>cases isName x.Ccy.data.toList<;>cases decide (x.Amount=0)<;>cases decide ((-1125899906842624)≤x.Amount)<;>cases decide (x.Amount≤1125899906842624)<;>rfl
theorem f52_eq{r:Qa}(h:Rk r):f52 r=some (Qar r):=by
 unfold f52 f52n0 f52n1 f52n3 Qar textB;rw [f52n2_run r h.1,f52n2L_at,f52n4_run r h.2.1,f52n4L_at r _ _ h.2.2];have e:ofB r.Text=r.Text.data.toList.map (fun c=>(c.toNat:Int)):=rfl;have h2:decide ((r.Text.size:Int)≤100)=decide (r.Text.size≤100):=dec_nat _ 100;have h3:decide ((2:Int)≤(r.Lines.length:Int))=decide (2≤r.Lines.length):=dec_nat 2 _;have h4:decide ((r.Lines.length:Int)≤20)=decide (r.Lines.length≤20):=dec_nat _ 20;simp only [Option.bind_some,lt_not,h2,h3,h4,e];cases (r.Text.data.toList.map (fun c=>(c.toNat:Int))).all (fun c=>decide (32≤c)&&decide (c≤126))<;>cases decide (0≤r.Day)<;>cases decide (r.Day≤99999)<;>cases decide (r.Text.size≤100)<;>cases decide (2≤r.Lines.length)<;>cases decide (r.Lines.length≤20)<;>cases r.Lines.any badL<;>rfl
theorem seq_comm(a b:ByteArray):seq a b=seq b a:=by simp only [seq]; congr 1; apply propext; exact eq_comm
theorem f53n4L_at{r:Qa}{k:Nat}{y:Qb}(hy:r.Lines[k]?=some y):∀(l:List Qb)(s v:Int),f53n4L (k:Int) r l s v=some (.exit2 (sumF (fun x=>seq y.Ccy x.Ccy) l s))
 | [],s,v=>rfl
 | x::l,s,v=>by
  rw [f53n4L,Qao,hy,sumF];simp only [Option.bind_some,f53n4L_at hy l,seq_comm x.Ccy];cases seq y.Ccy x.Ccy<;>rfl
theorem f53n5_at{r:Qa}(hm:r.Lines.length≤maxLen):∀(rest:List Qb)(f k:Nat),r.Lines.drop k=rest→rest.length<f→f53n5 f r (k:Int)=some (bif rest.all (fun y=>decide (sumF (fun x=>seq y.Ccy x.Ccy) r.Lines 0=0)) then .exit0 else .ret)
 | _,0,_,_,hf=>absurd hf (Nat.not_lt_zero _)
 | [],f+1,k,hd,hf=>by
  have hk:¬((k:Int)<(r.Lines.length:Int)):=by have:=Qah hd; omega
  rw [f53n5,decide_eq_false hk]; rfl
 | x::rest,f+1,k,hd,hf=>by
  obtain ⟨hx,hl,hd'⟩:=Qv hd;have hk:(k:Int)<(r.Lines.length:Int):=by omega
  have hw:wr64 ((k:Int)+1)=((k+1:Nat):Int):=Qai (by omega) (by unfold maxLen at hm; omega);have e:f53n2 (k:Int) r=some (bif decide (sumF (fun z=>seq x.Ccy z.Ccy) r.Lines 0=0) then .norm else .ret):=by
   unfold f53n2 f53n3;rw [f53n4_run _ _ _ hm,f53n4L_at hx];simp only [Option.bind_some];cases decide (sumF (fun z=>seq x.Ccy z.Ccy) r.Lines 0=0)<;>rfl
  rw [f53n5,decide_eq_true hk,e,hw,f53n5_at hm rest f (k+1) hd' (by simpa using hf),List.all_cons];cases decide (sumF (fun z=>seq x.Ccy z.Ccy) r.Lines 0=0)<;>rfl
theorem seqIff(a b:ByteArray):seq a b=true↔a=b:=⟨seq_eq2,fun h=>by rw [h]; exact seq_self b⟩
theorem sums_nd:∀(l:List Qb)(m:List (ByteArray×Int)),ndK m→ndK (sumsL l m)
 | [],m,h=>h
 | x::l,m,h=>by rw [sumsL]; exact sums_nd l _ (mputNd seqIff h)
theorem sums_key{p:ByteArray×Int} : ∀(l:List Qb)(m:List (ByteArray×Int)),p∈sumsL l m→(∃x∈l,x.Ccy=p.1)∨p∈m
 | [],m,h=>.inr h
 | x::l,m,h=>by
  rw [sumsL] at h;rcases sums_key l _ h with ⟨y,hy,e⟩ | h
  ·exact .inl ⟨y,List.mem_cons_of_mem _ hy,e⟩
  ·rcases mputMem seqIff h with rfl | h
   ·exact .inl ⟨x,List.mem_cons_self,rfl⟩
   ·exact .inr h
theorem balB_eq(r:Qa):balB r=r.Lines.all fun y=>decide (sumF (fun x=>seq y.Ccy x.Ccy) r.Lines 0=0):=by
 rw [Bool.eq_iff_iff]
 constructor
 ·intro h;rw [List.all_eq_true];intro y _;exact decide_eq_true (bal_zero h y.Ccy)
 ·intro h;rw [List.all_eq_true] at h;unfold balB;rw [List.all_eq_true]
  rintro ⟨c,w⟩ hp
  rcases sums_key r.Lines [] hp with ⟨y,hy,e⟩ | hn
  ·have h1:=of_decide_eq_true (h y hy);have h2:=get_sums c r.Lines [];have h3:=mgetMem seqIff (z:=0) (sums_nd r.Lines [] List.Pairwise.nil) hp;have e:y.Ccy=c:=e;subst e;rw [h3] at h2;exact decide_eq_true (h2.trans h1)
  ·cases hn
theorem f53_eq{r:Qa}(h:r.Lines.length≤maxLen):f53 r=some (balB r):=by
 have hr:=f53n5_at h r.Lines FUEL 0 rfl (Qak h);simp only [Int.natCast_zero] at hr;unfold f53 f53n0 f53n1;rw [hr,balB_eq];cases r.Lines.all (fun y=>decide (sumF (fun x=>seq y.Ccy x.Ccy) r.Lines 0=0))<;>rfl

def sumR(a:Qe)(l:List Qa):Int:=sumF (fun x=>Qe.eqb a (acc x)) (linesOf l) 0
theorem f55n3_at{L:List Qa}{k:Nat}{r:Qa}(hr:L[k]?=some r)(hm:r.Lines.length≤maxLen)(a c:ByteArray):∀(rest:List Qb)(f v:Nat)(s:Int),r.Lines.drop v=rest→rest.length<f→f55n3 f L a c (k:Int) s (v:Int)=some (.exit2 (sumF (fun x=>Qe.eqb ⟨a,c⟩ (acc x)) rest s))
 | _,0,_,_,_,hf=>absurd hf (Nat.not_lt_zero _)
 | [],f+1,v,s,hd,hf=>by
  have hk:¬((v:Int)<(r.Lines.length:Int)):=by have:=Qah hd; omega
  rw [f55n3,Qao,hr,Option.bind_some,decide_eq_false hk]; rfl
 | x::rest,f+1,v,s,hd,hf=>by
  obtain ⟨hx,hl,hd'⟩:=Qv hd;have hk:(v:Int)<(r.Lines.length:Int):=by omega
  have hw:wr64 ((v:Int)+1)=((v+1:Nat):Int):=Qai (by omega) (by unfold maxLen at hm; omega);rw [f55n3,Qao,hr,Option.bind_some,decide_eq_true hk,Qao,hx];simp only [cond_true,Option.bind_some,hw,fun s=>f55n3_at hr hm a c rest f (v+1) s hd' (by simpa using hf),sumF,seq_comm x.Account,seq_comm x.Ccy];show (bif seq a x.Account then bif seq c x.Ccy then _ else _ else _)=some (f55n3O.exit2 (sumF _ rest (bif (seq a x.Account&&seq c x.Ccy) then _ else _)));cases seq a x.Account<;>cases seq c x.Ccy<;>rfl
theorem f55n4_at{L:List Qa}(hL:L.length≤maxLen)(hl:∀r∈L,r.Lines.length≤maxLen)(a c:ByteArray):∀(rest:List Qa)(f k:Nat)(s:Int),L.drop k=rest→rest.length<f→f55n4 f L a c s (k:Int)=some (.exit0 (sumF (fun x=>Qe.eqb ⟨a,c⟩ (acc x)) (linesOf rest) s))
 | _,0,_,_,_,hf=>absurd hf (Nat.not_lt_zero _)
 | [],f+1,k,s,hd,hf=>by
  have hk:¬((k:Int)<(L.length:Int)):=by have:=Qah hd; omega
  rw [f55n4,decide_eq_false hk]; rfl
 | r::rest,f+1,k,s,hd,hf=>by
  obtain ⟨hx,hlt,hd'⟩:=Qv hd;have hk:(k:Int)<(L.length:Int):=by omega
  have hw:wr64 ((k:Int)+1)=((k+1:Nat):Int):=Qai (by omega) (by unfold maxLen at hL; omega);have hrl:=hl r (List.mem_of_getElem? hx);have e:=f55n3_at hx hrl a c r.Lines FUEL 0 s rfl (Qak hrl);simp only [Int.natCast_zero] at e;rw [f55n4,decide_eq_true hk,f55n2,e];simp only [cond_true,Option.bind_some,hw];rw [f55n4_at hL hl a c rest f (k+1) _ hd' (by simpa using hf)];show _=some (f55n4O.exit0 (sumF _ (r.Lines++linesOf rest) s));rw [sumF_append]
theorem f55_eq{L:List Qa}(hL:L.length≤maxLen)(hl:∀r∈L,r.Lines.length≤maxLen)(a c:ByteArray):f55 L a c=some (sumR ⟨a,c⟩ L):=by
 have e:=f55n4_at hL hl a c L FUEL 0 0 rfl (Qak hL);simp only [Int.natCast_zero] at e;unfold f55 f55n0 f55n1;rw [e]; rfl
theorem f54n2L_at{L:List Qa}(hL:L.length≤maxLen)(hl:∀r∈L,r.Lines.length≤maxLen)(r:Qa):∀(l:List Qb)(v:Int),f54n2L L r l v=some (bif l.all (fun x=>within (sumR (acc x) L)) then .exit0 else .ret)
 | [],v=>rfl
 | x::l,v=>by
  rw [f54n2L,f55_eq hL hl];have e:within (sumR (acc x) L)=(decide ((-1125899906842624)≤sumR ⟨x.Account,x.Ccy⟩ L)&&decide (sumR ⟨x.Account,x.Ccy⟩ L≤1125899906842624)):=rfl;simp only [Option.bind_some,f54n2L_at hL hl r l,lt_not,List.all_cons,e];cases decide (sumR ⟨x.Account,x.Ccy⟩ L≤1125899906842624)<;>cases decide ((-1125899906842624)≤sumR ⟨x.Account,x.Ccy⟩ L)<;>rfl
def fitsR(p:List Qa)(r:Qa):Bool:=r.Lines.all fun x=>within (sumR (acc x) (p++[r]))
theorem f54_eq{p:List Qa}{r:Qa}(hL:(p++[r]).length≤maxLen)(hl:∀y∈p++[r],y.Lines.length≤maxLen):f54 (p++[r])=some (fitsR p r):=by
 have hlen:(p++[r]).length=p.length+1:=by simp
 have hw:wr64 (((p++[r]).length:Int)-1)=(p.length:Int):=by
  rw [hlen];rw [hlen] at hL;rw [Qai (by omega) (by unfold maxLen at hL; omega)]; omega
 have hx:(p++[r])[p.length]?=some r:=by simp
 unfold f54 f54n0 f54n1 fitsR;rw [hw,Qao,hx];simp only [Option.bind_some];rw [f54n2_run _ _ (hl r (by simp)),f54n2L_at hL hl];simp only [Option.bind_some];cases r.Lines.all (fun x=>within (sumR (acc x) (p++[r])))<;>rfl

def lastDay(p:List Qa):Int:=match p.getLast? with
 | some r=>r.Day
 | none=>0
def okL:List Qa→List Qa→Bool
 | _,[]=>true
 | p,r::l=>Qar r&&(balB r&&(decide (lastDay p≤r.Day)&&(fitsR p r&&okL (p++[r]) l)))
theorem lastDay_snoc(p:List Qa)(r:Qa):lastDay (p++[r])=r.Day:=by simp [lastDay]
theorem postAppend:∀(k k2:List Qb)(b:Bal),Qck (k++k2) b=Qck k2 (Qck k b)
 | [],_,_=>rfl
 | x::k,k2,b=>by rw [List.cons_append,Qck,Qck,postAppend k]
theorem linesSnoc(p:List Qa)(r:Qa):linesOf (p++[r])=linesOf p++r.Lines:=by simp [linesOf]
theorem fitsM_eq(p:List Qa)(r:Qa):fitsM r.Lines (Qck r.Lines (Qck (linesOf p) []))=fitsR p r:=by
 have e:∀x,bal (acc x) (Qck r.Lines (Qck (linesOf p) []))=sumR (acc x) (p++[r]):=fun x=>by
  rw [←postAppend,←linesSnoc,bal_post]; rfl
 unfold fitsM fitsR;simp only [e]
 induction r.Lines with
 | nil=>rfl
 | cons x l ih =>
  rw [List.any_cons,List.all_cons,←ih];cases within (sumR (acc x) (p++[r]))<;>rfl
theorem openL_ok:∀(l p:List Qa),p.length+l.length≤200→(openL l (lastDay p) (p.length:Int) (Qck (linesOf p) [])).1=okL p l
 | [],p,h=>rfl
 | r::l,p,h=>by
  simp only [List.length_cons] at h;rw [openL,okL];have hm:decide ((p.length:Int)=200)=false:=decide_eq_false (by omega);have hw:wr64 ((p.length:Int)+1)=(((p++[r]).length:Nat):Int):=by
   rw [Qai (by omega) (by omega)]; simp
  unfold addS;rw [hm,lt_not,fitsM_eq,hw];have ih:=openL_ok l (p++[r]) (by simp; omega);rw [lastDay_snoc,linesSnoc,postAppend] at ih;cases Qar r<;>cases balB r<;>cases decide (lastDay p≤r.Day)<;>cases fitsR p r<;>first | rfl | exact ih
theorem openS_ok(j:Qf):(Qap j).1=(!decide (200<j.Records.length)&&okL [] j.Records):=by
 unfold Qap
 by_cases h:200<j.Records.length
 ·rw [decide_eq_true h]; rfl
 ·rw [decide_eq_false h];exact openL_ok j.Records [] (by simp; omega)
theorem open_last:∀{l:List Qa} {d m:Int} {b:Bal},(openL l d m b).1=true→(openL l d m b).2.1=(match l.getLast? with | some r=>r.Day | none=>d)
 | [],_,_,_,_=>rfl
 | r::l,d,m,b,h=>by
  rw [openL] at h ⊢;cases hx:(addS r d m b).1 with
  | false=>rw [hx] at h; cases h
  | true =>
   rw [hx] at h;have ha:=add_true hx;simp only [cond_true,ha.2.2.2.2.2] at h ⊢;rw [open_last h];cases l with
   | nil=>rfl
   | cons y l=>rw [List.getLast?_cons_cons]; cases hg:(y::l).getLast? with
    | none=>simp at hg
    | some z=>rfl
theorem f35n3_eq{j:Qf}(hj:Jk j){p l:List Qa}{r:Qa}(hs:j.Records=p++r::l):f35n3 (p.length:Int) j r=some (.norm (!(Qar r&&(balB r&&(decide (lastDay p≤r.Day)&&fitsR p r))))):=by
 have hr:Rk r:=hj.2 r (by rw [hs]; simp);have hlen:j.Records.length=p.length+(l.length+1):=by rw [hs]; simp
 have hm:=hj.1;have hw:wr64 ((p.length:Int)+1)=((p.length+1:Nat):Int):=Qai (by omega) (by unfold maxLen at hm; omega);have hc:cutB 0 (((p.length+1:Nat)):Int) j.Records.length=true:=by simp only [cutB,Bool.and_eq_true,decide_eq_true_eq]; omega
 have htn:Int.toNat (((p.length+1:Nat)):Int)=p.length+1:=rfl;have ht:(j.Records.take (p.length+1)).drop 0=p++[r]:=by
  rw [List.drop_zero,hs];have:p++r::l=(p++[r])++l:=by simp
  rw [this,List.take_left' (by simp)]
 have h54:f54 (p++[r])=some (fitsR p r):=by
  refine f54_eq (by simp; omega) fun y hy=>?_;have:y∈j.Records:=by
   rw [hs];rcases List.mem_append.1 hy with hy | hy
   ·exact List.mem_append_left _ hy
   ·rw [List.mem_singleton.1 hy]; simp
  exact (hj.2 y this).2.1
 unfold f35n3;rw [f52_eq hr,f53_eq hr.2.1,hw,htn,ht,h54];simp only [Option.bind_some,req,hc,cond_true];cases hf:Qar r with
 | false=>rfl
 | true =>
  have hday:=(formed_small hf).1;cases balB r with
  | false=>rfl
  | true =>
   simp only [cond_true,Bool.true_and];rcases List.eq_nil_or_concat p with rfl | ⟨q,z,rfl⟩
   ·have e1:decide ((0:Int)<(([]:List Qa).length:Int))=false:=rfl;have e2:decide (lastDay []≤r.Day)=true:=decide_eq_true hday;rw [e1,e2]; rfl
   ·rw [List.concat_eq_append] at hs hw hlen ⊢;have e1:decide ((0:Int)<((q++[z]).length:Int))=true:=decide_eq_true (by rw [List.length_append]; show (0:Int)<((q.length+1:Nat):Int); omega);have e3:wr64 (((q++[z]).length:Int)-1)=(q.length:Int):=by
     rw [List.length_append] at hlen ⊢;have hq:q.length + [z].length=q.length+1:=rfl;rw [hq] at hlen ⊢;rw [Qai (by omega) (by unfold maxLen at hm; omega)]; omega
    have e4:j.Records[q.length]?=some z:=by rw [hs]; simp
    rw [e1,e3,Qao,e4,lastDay_snoc];simp only [cond_true,Option.bind_some,lt_not];cases decide (z.Day≤r.Day)<;>cases fitsR (q++[z]) r<;>rfl
theorem f35n4_at{j:Qf}(hj:Jk j):∀(l p:List Qa)(f:Nat),j.Records=p++l→l.length<f→f35n4 f j (p.length:Int)=some (bif okL p l then .exit0 else .ret)
 | _,_,0,_,hf=>absurd hf (Nat.not_lt_zero _)
 | [],p,f+1,hs,hf=>by
  have hk:¬((p.length:Int)<(j.Records.length:Int)):=by rw [hs]; simp
  rw [f35n4,decide_eq_false hk]; rfl
 | r::l,p,f+1,hs,hf=>by
  have hlen:j.Records.length=p.length+(l.length+1):=by rw [hs]; simp
  have hm:=hj.1;have hk:(p.length:Int)<(j.Records.length:Int):=by omega
  have hx:j.Records[p.length]?=some r:=by rw [hs]; simp
  have hw:wr64 ((p.length:Int)+1)=(((p++[r]).length:Nat):Int):=by
   rw [Qai (by omega) (by unfold maxLen at hm; omega)]; simp
  have ih:=f35n4_at hj l (p++[r]) f (by rw [hs]; simp) (by simpa using hf);rw [f35n4,decide_eq_true hk,f35n2,Qao,hx,Option.bind_some,f35n3_eq hj hs,hw,ih,okL];simp only [cond_true,Option.bind_some];cases Qar r<;>cases balB r<;>cases decide (lastDay p≤r.Day)<;>cases fitsR p r<;>rfl
theorem f35_eq{j:Qf}(hj:Jk j):f35 j=some (bif (Qap j).1 then 0 else 8):=by
 have e:=f35n4_at hj j.Records [] FUEL rfl (Qak hj.1);simp only [List.length_nil,Int.natCast_zero] at e;have hd:decide ((200:Int)<(j.Records.length:Int))=decide (200<j.Records.length):=by congr 1; apply propext; omega
 unfold f35 f35n0 f35n1;rw [hd,e,openS_ok];cases decide (200<j.Records.length)<;>cases okL [] j.Records<;>rfl
end Go.Proofs.Ytbgjlpdeoljmiaa
namespace Go.Proofs.Ytbgjlpdeoljmiaa
set_option linter.unusedVariables false
set_option linter.unusedSimpArgs false
open Go.RowKit
def small(l:List Qa):Prop:=l.length≤1000∧∀r∈l,r.Lines.length≤1000
theorem f14r1n2L_at(j:Qf):∀(l:List Qa)(v:Int)(a:List Qa),(∀r∈l,r.Lines.length≤1000)→a.length+l.length≤1000→f14r1n2L j l v a=some (.exit0 (a++l))
 | [],v,a,_,_=>by rw [f14r1n2L,List.append_nil]
 | r::l,v,a,h,hl=>by
  simp only [List.length_cons] at hl;have hr:=h r (by simp);have ih:=fun y=>f14r1n2L_at j l (v+1) (a++[y]) (fun y hy=>h y (by simp [hy])) (by simp; omega);rw [f14r1n2L];simp only [req,Qbo (show a.length+1≤1000000 by omega) (show 48≤1000000 by omega),Qbo (show r.Lines.length≤1000000 by omega) (show 40≤1000000 by omega),cond_true,ih,List.append_assoc];cases he:r.Lines.isEmpty with
  | false=>rfl
  | true =>
   have e:r.Lines=[]:=by simpa using he
   obtain ⟨d,t,k⟩:=r;have e:k=[]:=e;subst e;rfl
theorem f14r1_eq{j:Qf}(h:small j.Records):f14r1 j=some j.Records:=by
 unfold f14r1 f14r1n0 f14r1n1;rw [f14r1n2_run _ _ (Nat.le_trans h.1 (by unfold maxLen; decide)),f14r1n2L_at _ _ _ _ h.2 (by simpa using h.1)]; rfl
theorem f14r2n2L_at(j:List Qa):∀(l:List Qa)(v:Int)(a:List Qa),(∀r∈l,r.Lines.length≤1000)→a.length+l.length≤1000→f14r2n2L j l v a=some (.exit0 (a++l))
 | [],v,a,_,_=>by rw [f14r2n2L,List.append_nil]
 | r::l,v,a,h,hl=>by
  simp only [List.length_cons] at hl;have hr:=h r (by simp);have ih:=fun y=>f14r2n2L_at j l (v+1) (a++[y]) (fun y hy=>h y (by simp [hy])) (by simp; omega);rw [f14r2n2L];simp only [req,Qbo (show a.length+1≤1000000 by omega) (show 48≤1000000 by omega),Qbo (show r.Lines.length≤1000000 by omega) (show 40≤1000000 by omega),cond_true,ih,List.append_assoc];cases he:r.Lines.isEmpty with
  | false=>rfl
  | true =>
   have e:r.Lines=[]:=by simpa using he
   obtain ⟨d,t,k⟩:=r;have e:k=[]:=e;subst e;rfl
theorem f14r2_eq{l:List Qa}(h:small l):f14r2 l=some l:=by
 unfold f14r2 f14r2n0 f14r2n1;rw [f14r2n2_run _ _ (Nat.le_trans h.1 (by unfold maxLen; decide)),f14r2n2L_at _ _ _ _ h.2 (by simpa using h.1)]; rfl

theorem f31n1_eq(d:Int)(t:ByteArray){l:List Qb}(h:l.length≤1000)(j:Qf):f31n1 d t l j=some (.norm l):=by
 unfold f31n1;cases l with
 | nil=>rfl
 | cons x l=>simp only [List.isEmpty_cons,cond_false,req,Qbo (show (x::l).length≤1000000 by omega) (show 40≤1000000 by omega),cond_true]
theorem f31n2_eq{j:Qf}(hj:Jk j)(d:Int)(h0:0≤d)(t:ByteArray)(l:List Qb):f31n2 d j t l=some (bif decide (d<lastDay j.Records) then .ret else .norm):=by
 unfold f31n2 f31n3;have hm:=hj.1;rcases List.eq_nil_or_concat j.Records with e | ⟨q,z,e⟩
 ·rw [e];have e1:decide (d<lastDay [])=false:=decide_eq_false (by show ¬d<0; omega);rw [e1]; rfl
 ·rw [List.concat_eq_append] at e;rw [e];have hq:(q++[z]).length=q.length+1:=by simp
  rw [e] at hm;rw [hq] at hm ⊢;have e3:wr64 (((q.length+1:Nat):Int)-1)=(q.length:Int):=by
   rw [Qai (by omega) (by unfold maxLen at hm; omega)]; omega
  have e4:(q++[z])[q.length]?=some z:=by simp
  rw [decide_eq_true (by omega),e3,Qao,e4,lastDay_snoc];simp only [cond_true,Option.bind_some];cases decide (d<z.Day)<;>rfl
theorem errA_ref{j:Qf}(hj:Jk j)(r:Qa):errA j r=bif (Qap j).1 then bif Qar r then bif balB r then bif decide (r.Day<lastDay j.Records) then 40 else bif decide (200≤j.Records.length) then 22 else bif fitsR j.Records r then 0 else 14 else 60 else 2 else 8:=by
 unfold errA;cases ho:(Qap j).1 with
 | false=>rfl
 | true =>
  have hv:Valid j:=⟨hj,ho⟩;obtain ⟨k1,k2,k3⟩:=hv.open;have hd:(Qap j).2.1=lastDay j.Records:=by rw [k2]; exact open_last k3
  have hmn:(Qap j).2.2.1=(j.Records.length:Int):=by rw [k2,(open_many k3 (Int.le_refl _) (by decide)).1]; omega
  have hb:(Qap j).2.2.2=Qck (linesOf j.Records) []:=by rw [k2]; exact open_bal k3
  rw [hd,hmn,hb];unfold addS;rw [fitsM_eq];have e1:decide ((j.Records.length:Int)=200)=decide (200≤j.Records.length):=by congr 1; apply propext; omega
  rw [e1];cases Qar r<;>cases balB r<;>cases decide (r.Day<lastDay j.Records)<;>cases decide (200≤j.Records.length)<;>cases fitsR j.Records r<;>rfl
theorem f31_eq{j:Qf}(hj:Jk j)(hs:small j.Records){r:Qa}(hr:Rk r)(hl:r.Lines.length≤1000) :
  f31 j r.Day r.Text r.Lines=some (bif decide (errA j r=0) then (⟨j.Records++[r]⟩,0) else (⟨[]⟩,errA j r)):=by
 have e:(Qa.mk r.Day r.Text r.Lines)=r:=rfl;unfold f31 f31n0;rw [f31n1_eq _ _ hl,f35_eq hj];simp only [Option.bind_some,e,f52_eq hr,f53_eq hr.2.1];rw [errA_ref hj];cases ho:(Qap j).1 with
 | false=>rfl
 | true =>
  simp only [cond_true,decide_true];cases hf:Qar r with
  | false=>rfl
  | true =>
   have h0:=(formed_small hf).1;cases balB r with
   | false=>rfl
   | true =>
    simp only [cond_true,f31n2_eq hj r.Day h0,Option.bind_some];cases decide (r.Day<lastDay j.Records) with
    | true=>rfl
    | false =>
     have e2:decide ((200:Int)≤(j.Records.length:Int))=decide (200≤j.Records.length):=dec_nat 200 _;simp only [cond_false,e2];cases h2:decide (200≤j.Records.length) with
     | true=>rfl
     | false =>
      have h2:=of_decide_eq_false h2;have h54:f54 (j.Records++[r])=some (fitsR j.Records r):=by
       refine f54_eq ?_ fun y hy=>?_
       ·simp only [List.length_append,List.length_cons,List.length_nil];have:1000≤maxLen:=by unfold maxLen; decide
        omega
       ·rcases List.mem_append.1 hy with hy | hy
        ·exact (hj.2 y hy).2.1
        ·rw [List.mem_singleton.1 hy]; exact hr.2.1
      simp only [cond_false,f14r1_eq hs,Option.bind_some,req,Qbo (show j.Records.length+1≤1000000 by omega) (show 48≤1000000 by omega),cond_true,h54];cases fitsR j.Records r<;>rfl

def upto(d:Int)(l:List Qa):List Qa:=l.takeWhile fun r=>decide (r.Day≤d)
theorem f32r1n1L_at(d:Int)(j:Qf):∀(l:List Qa)(v:Int),f32r1n1L d j l v=some (.exit0 (v+((upto d l).length:Int)))
 | [],v=>by rw [f32r1n1L]; simp [upto]
 | r::l,v=>by
  rw [f32r1n1L,f32r1n1L_at d j l];cases h:decide (r.Day≤d) with
  | true=>simp only [cond_true,upto,List.takeWhile_cons,h,if_true,List.length_cons]; congr 2; omega
  | false=>simp [upto,List.takeWhile_cons,h]
theorem take_upto(d:Int):∀l:List Qa,l.take (upto d l).length=upto d l
 | []=>rfl
 | r::l=>by
  unfold upto;rw [List.takeWhile_cons];cases h:decide (r.Day≤d) with
  | true=>simp only [if_true,List.length_cons,List.take_succ_cons]; exact congrArg (r::·) (take_upto d l)
  | false=>simp
theorem upto_le(d:Int)(l:List Qa):(upto d l).length≤l.length:=(List.takeWhile_prefix _).length_le
theorem upto_sub{d:Int}{l:List Qa}{r:Qa}(h:r∈upto d l):r∈l:=(List.takeWhile_prefix _).subset h
def untilS(j:Qf)(d:Int):Int×List Qa:=bif (Qap j).1 then (0,upto d j.Records) else (8,[])
theorem f32r1_eq{j:Qf}(hj:Jk j)(d:Int):f32r1 j d=some (untilS j d):=by
 unfold f32r1 f32r1n0 untilS;rw [f28_eq hj];cases ho:(Qap j).1 with
 | false=>rfl
 | true =>
  have hv:Valid j:=⟨hj,ho⟩;obtain ⟨k1,k2,k3⟩:=hv.open;rw [f32r1n1_run _ _ hj.1,f32r1n1L_at];have hle:=upto_le d j.Records;have hc:cutB 0 (0+((upto d j.Records).length:Int)) j.Records.length=true:=by
   simp only [cutB,Bool.and_eq_true,decide_eq_true_eq]; omega
  simp only [cond_true,Option.bind_some,decide_true,req,hc];have e:(Int.toNat (0+((upto d j.Records).length:Int)))=(upto d j.Records).length:=by omega
  rw [e,take_upto,List.drop_zero,f51r1_eq (fun y hy=>by have:=formed_small (open_formed k3 y (upto_sub hy)).1; omega) (by omega)];rfl
theorem f33n2L_at(d:Int)(j:Qf):∀(l:List Qa)(v:Int)(a:List Qa),a.length+l.length≤1000→f33n2L d j l v a=some (.exit0 (a++l.filter fun r=>decide (r.Day≤d)))
 | [],v,a,_=>by rw [f33n2L]; simp
 | r::l,v,a,hl=>by
  simp only [List.length_cons] at hl;rw [f33n2L,List.filter_cons];cases hd:decide (r.Day≤d) with
  | true =>
   simp only [cond_true,req,Qbo (show a.length+1≤1000000 by omega) (show 48≤1000000 by omega),if_true];rw [f33n2L_at d j l _ _ (by simp; omega),List.append_assoc]; rfl
  | false =>
   simp only [cond_false];rw [f33n2L_at d j l _ _ (by omega)]; rfl
theorem days_le:∀{l:List Qa} {a:Int},daysOK a l→∀r∈l,a≤r.Day
 | [],_,_,r,hr=>by cases hr
 | x::l,a,h,r,hr=>by
  rcases List.mem_cons.1 hr with rfl | hr
  ·exact h.1
  ·have:=days_le h.2 r hr; have:=h.1; omega
theorem filter_upto(d:Int):∀{l:List Qa} {a:Int},daysOK a l→l.filter (fun r=>decide (r.Day≤d))=upto d l
 | [],_,_=>rfl
 | x::l,a,h=>by
  unfold upto;rw [List.filter_cons,List.takeWhile_cons];cases hx:decide (x.Day≤d) with
  | true=>simp only [if_true]; exact congrArg (x::·) (filter_upto d h.2)
  | false =>
   have hx:=of_decide_eq_false hx;simp only [Bool.false_eq_true,if_false];rw [List.filter_eq_nil_iff];intro r hr;have:=days_le h.2 r hr;simp only [decide_eq_true_eq]; omega
theorem f33_eq{j:Qf}(hj:Jk j)(hs:small j.Records)(d:Int):f33 j d=some (⟨(untilS j d).2⟩,(untilS j d).1):=by
 unfold f33 f33n0 f33n1 untilS;rw [f35_eq hj];cases ho:(Qap j).1 with
 | false=>rfl
 | true =>
  have hv:Valid j:=⟨hj,ho⟩;obtain ⟨k1,k2,k3⟩:=hv.open;rw [f33n2_run _ _ _ hj.1,f33n2L_at _ _ _ _ _ (by simpa using hs.1),List.nil_append,filter_upto d (open_days k3)];have hle:=upto_le d j.Records;simp only [cond_true,decide_true,Option.bind_some,f14r2_eq (l:=upto d j.Records) ⟨by have:=hs.1; omega,fun r hr=>hs.2 r (upto_sub hr)⟩]

def balS(j:Qf)(a c:ByteArray):Int×Int:=bif (Qap j).1 then (sumR ⟨a,c⟩ j.Records,0) else (0,8)
theorem f25_all{j:Qf}(hj:Jk j)(a c:ByteArray):f25 j a c=some (balS j a c):=by
 unfold balS;cases ho:(Qap j).1 with
 | false =>
  unfold f25 f25n0;rw [f47r1_eq hj];simp only [Option.bind_some,ho,cond_false]
 | true =>
  rw [f25_eq ⟨hj,ho⟩,bal_post]; rfl
theorem f34_eq{j:Qf}(hj:Jk j)(a c:ByteArray):f34 j a c=some (balS j a c):=by
 unfold f34 f34n0 balS;rw [f35_eq hj,f55_eq hj.1 (fun r hr=>(hj.2 r hr).2.1)];cases (Qap j).1<;>rfl

theorem f12n2L_at(j:Qf):∀(l:List Qa)(v:Int),(∀r∈l,Rk r)→f12n2L j l v=some .ret∨(f12n2L j l v=some .exit0∧(v+(l.length:Int)≤221→∀r∈l,r.Lines.length≤40))
 | [],v,_=>.inr ⟨rfl,fun _ r hr=>by cases hr⟩
 | x::l,v,h=>by
  rw [f12n2L];cases hv:decide (v≤220) with
  | false =>
   refine .inr ⟨rfl,fun hl=>?_⟩;have:=of_decide_eq_false hv;simp only [List.length_cons] at hl;omega
  | true =>
   obtain ⟨b,hb,hb2⟩:=f29_at (h x (by simp)).2.1;rw [hb];simp only [cond_true,Option.bind_some];cases b with
   | true=>exact .inl rfl
   | false =>
    simp only [cond_false];cases decide (300<(x.Text.size:Int)) with
    | true=>exact .inl rfl
    | false =>
     simp only [cond_false];rcases f12n2L_at j l (v+1) (fun y hy=>h y (by simp [hy])) with e | ⟨e,he⟩
     ·exact .inl e
     ·refine .inr ⟨e,fun hl r hr=>?_⟩;simp only [List.length_cons] at hl;rcases List.mem_cons.1 hr with rfl | hr
      ·exact hb2 rfl
      ·exact he (by omega) r hr
theorem f12_at{j:Qf}(hj:Jk j):∃b,f12 j=some b∧(b=false→small j.Records):=by
 unfold f12 f12n0 f12n1;rw [f12n2_run _ hj.1];rcases f12n2L_at j j.Records 0 hj.2 with e | ⟨e,he⟩<;>rw [e]
 ·exact ⟨true,rfl,fun h=>by cases h⟩
 ·refine ⟨decide (220<(j.Records.length:Int)),rfl,fun h=>?_⟩;have:=of_decide_eq_false h;exact ⟨by omega,fun r hr=>by have:=he (by omega) r hr; omega⟩

theorem f8n4L_at(bc:List Qb)(o:Bool)(a b:Qf):∀(l:List Qb)(k:Nat),bc.drop k=l→f8n4L bc o a b bc l true (k:Int)=some (.exit0 true)
 | [],k,_=>rfl
 | x::l,k,h=>by
  obtain ⟨hx,_,hd⟩:=Qv h;rw [f8n4L,Qao,hx];simp only [Option.bind_some,eqb_self,cond_true];exact f8n4L_at bc o a b l (k+1) hd
theorem f19_recs{l:List Qa}(h:Jk ⟨l⟩):f19 ⟨l⟩ ⟨l⟩=some true:=f19_self h
theorem Jk_nil:Jk ⟨[]⟩:=⟨Nat.zero_le _,fun r hr=>by cases hr⟩
theorem lawMatches(j:Qf)(day:Int)(text:ByteArray)(lines:List Qb)(a c:ByteArray)(ok0:Qf.ok j)(ok1:okInt .i64 day)(ok2:text.size≤maxLen)(ok3:lines.length≤maxLen∧∀x∈lines,Qb.ok x)(ok4:a.size≤maxLen)(ok5:c.size≤maxLen):f8 j day text lines a c=some true:=by
 have hj:Jk j:=⟨ok0.1.1,fun r hr=>by
  have:=ok0.1.2 r hr;exact ⟨this.2.1,this.2.2.1.1,fun y hy=>⟨(this.2.2.1.2 y hy).1,(this.2.2.1.2 y hy).2.1⟩⟩⟩
 have hr:Rk ⟨day,text,lines⟩:=⟨ok2,ok3.1,fun y hy=>⟨(ok3.2 y hy).1,(ok3.2 y hy).2.1⟩⟩;obtain ⟨b,hb,hb2⟩:=f12_at hj;obtain ⟨b',hb',hb2'⟩:=f29_at ok3.1;unfold f8 f8n0;rw [alive_t,hb,hb'];simp only [Option.bind_some];cases b with
 | true=>rfl
 | false =>
  cases b' with
  | true=>rfl
  | false =>
   cases decide (300<(text.size:Int)) with
   | true=>rfl
   | false =>
    have hs:=hb2 rfl;have hl:=hb2' rfl;have e1:f8n1 day text lines a c true j=some (.norm j lines):=by
     unfold f8n1;rw [f14r1_eq hs];cases lines with
     | nil=>rfl
     | cons x l=>simp only [Option.bind_some,List.isEmpty_cons,cond_false,req,Qbo (show (x::l).length≤1000000 by omega) (show 40≤1000000 by omega),cond_true]
    have e2:=f30r1_eq (r:=⟨day,text,lines⟩) hj hr (show lines.length≤1000000 by omega);have e3:=f31_eq (r:=⟨day,text,lines⟩) hj hs hr (show lines.length≤1000 by omega);simp only at e2 e3;have e4:f8n4 FUEL lines true j j lines true 0=some (.exit0 true):=by
     rw [f8n4_run _ _ _ _ _ _ ok3.1];have:=f8n4L_at lines true j j lines 0 rfl;simpa using this
    have key:∀(e:Int)(l:List Qa),Jk ⟨l⟩→f8n2 lines true (e,l) (⟨l⟩,e) (untilS j day) (⟨(untilS j day).2⟩,(untilS j day).1) (balS j a c) (balS j a c) j j lines=some (.norm true):=fun e l hk=>by
     have hu:Jk ⟨(untilS j day).2⟩:=by
      unfold untilS;cases (Qap j).1 with
      | false=>exact Jk_nil
      | true =>
       have hle:=upto_le day j.Records;exact ⟨Nat.le_trans hle hj.1,fun y hy=>hj.2 y (upto_sub hy)⟩
     unfold f8n2;simp only [f19_recs hk,f19_recs hu,f28_eq hj,f35_eq hj,Option.bind_some,cond_true,decide_true]
    rw [e1];simp only [cond_false,cond_true,Option.bind_some,e2,e3,f32r1_eq hj,f33_eq hj hs,f25_all hj,f34_eq hj];have hadd:Jk ⟨j.Records++[⟨day,text,lines⟩]⟩:=by
     refine ⟨?_,fun y hy=>?_⟩
     ·show (j.Records++[_]).length≤maxLen;have:=hs.1;have h2:1001≤maxLen:=by unfold maxLen; decide
      simp only [List.length_append,List.length_cons,List.length_nil]; omega
     ·rcases List.mem_append.1 hy with hy | hy
      ·exact hj.2 y hy
      ·rw [List.mem_singleton.1 hy]; exact hr
    have fin:∀x y:List Qa,((tch22 x).bind fun _=>(tch22 y).bind fun _=>(f8n3 lines true true j j lines).bind fun o168=>match o168 with
      | .norm v170=>bif v170 then (f19 j j).bind fun x175=>some (f8n0O.ret x175) else some (.ret false))=some (.ret true):=fun x y=>by
     unfold f8n3 tch22;rw [e4,f19_self hj]; rfl
    cases hd:decide (errA j ⟨day,text,lines⟩=0) with
    | true=>simp only [cond_true,key 0 _ hadd,Option.bind_some,fin]
    | false=>simp only [cond_false,key _ _ Jk_nil,Option.bind_some,fin]
end Go.Proofs.Ytbgjlpdeoljmiaa
