/- Several texts in one. No condition. -/
import Derived.Test.YthpceddjepbamaaA2
namespace Go.Proofs.Ythpceddjepbamaa
set_option linter.unusedVariables false
set_option linter.unusedSimpArgs false
set_option maxRecDepth 100000
open Go.RowKit

inductive f12y6n0O where
 | exit2
 | norm
noncomputable def f12y6n0E(a1:Qd)(a2:Int)(a3:List Qc):f12y6n0O→Ex×Tr×Hp
 | .exit2=>((.exit 2),mkS [],[some (.lp Qo .busy none (kL 63 [(5,(.bp 1 0)),(9,(.bp 2 0)),(10,(.bp 3 0))])),some (.box [(.own 4)]),some (.box (((cInt .i64) a2).map .pl)),some (.box [(.pl .nilf)]),jR 3 Qc.cells a3])
 | .norm=>(.norm,mkS [],[some (.lp Qo .busy none (kL 63 [(5,(.bp 1 0)),(9,(.bp 2 0)),(10,(.bp 3 0))])),some (.box [(.own 5)]),some (.box (((cInt .i64) a2).map .pl)),some (.box [(.pl .nilf)]),none,some (.row false 3 ((a3++[(Qc.mk a1.index a1.units a1.bid.Price)]).map Qc.cells))])
noncomputable def f12y6n0S(a1:Qd)(a2:Int)(a3:List Qc):Tr×Hp:=(mkS [(5,(.bp 1 0)),(9,(.bp 2 0)),(10,(.bp 3 0)),(11,(.bp 5 0))],[some (.lp Qo .busy none (kL 63 [(5,(.bp 1 0)),(9,(.bp 2 0)),(10,(.bp 3 0))])),some (.box [(.own 4)]),some (.box (((cInt .i64) a2).map .pl)),some (.box [(.pl .nilf)]),jR 3 Qc.cells a3,some (.box ((Qd.cells a1).map .pl))])
noncomputable def f12y6n0(a1:Qd)(a2:Int)(a3:List Qc):Option f12y6n0O :=
 bif decide (a1.units=0) then
  some .exit2
 else
  req (fit (a3.length+1) 24) <|
  some .norm
theorem f12y6n0_ok(a1:Qd)(a2:Int)(a3:List Qc){o:f12y6n0O}(h:f12y6n0 a1 a2 a3=some o):T Try.prog Try.f12.ntmps 5 (rfB Qo) (f12y6n0S a1 a2 a3) (·=f12y6n0E a1 a2 a3 o):=by
 unfold f12y6n0 at h;refine T.block' (i:=3) (by kernel_rfl) ?_;rcases Qi h with ⟨h5,h⟩|⟨h5,h⟩
 ·obtain rfl:=Qg h;exact rK Qh 1 [j3] [some true] [] [] [] (.exit 2) ((f12y6n0E a1 a2 a3 .exit2).2) (ap h5 an) rfl
 ·obtain ⟨h7,h⟩:=Qal h;obtain rfl:=Qg h;exact rE Qh [j3,j3,j3,([],[(3,.fits)],[(3,.row 8 ((a3++[(Qc.mk a1.index a1.units a1.bid.Price)]).map Qc.cells))])] [some false,none] [] [8] [] (.norm,(f12y6n0E a1 a2 a3 .norm).2) (ap h5 (ap (fit_map (te:=ti36) (xs:=a3) (n:=1) (c:=Qc.cells) h7 rfl) (ap (app_cv (xs:=a3) (ys:=[(Qc.mk a1.index a1.units a1.bid.Price)]) (c:=Qc.cells)) an))) rfl
theorem f12y6_exit2(a1:Qd)(a2:Int)(a3:List Qc)(h:f12y6n0 a1 a2 a3=some .exit2):Qbe Try.prog [(jA Qd.cells a1)] 0 [some (.lp Qo .ready none (kL 63 [(5,(.bp 1 0)),(9,(.bp 2 0)),(10,(.bp 3 0))])),some (.box [(.own 4)]),some (.box (((cInt .i64) a2).map .pl)),some (.box [(.pl .nilf)]),jR 3 Qc.cells a3] false [some (.lp Qo .done (some (.exit 2)) (kL 63 [(5,(.bp 1 0)),(9,(.bp 2 0)),(10,(.bp 3 0))])),some (.box [(.own 4)]),some (.box (((cInt .i64) a2).map .pl)),some (.box [(.pl .nilf)]),jR 3 Qc.cells a3] :=
 Qbe.mk (c:=Qo) (n:=Try.f12.ntmps) (base:=5) (cs:=(kL 63 [(5,(.bp 1 0)),(9,(.bp 2 0)),(10,(.bp 3 0))])) (cs2:=(kL 63 [(5,(.bp 1 0)),(9,(.bp 2 0)),(10,(.bp 3 0))])) (cs3:=(kL 63 [(5,(.bp 1 0)),(9,(.bp 2 0)),(10,(.bp 3 0))])) (st2:=(mkS [(5,(.bp 1 0)),(9,(.bp 2 0)),(10,(.bp 3 0)),(11,(.bp 5 0))],[some (.lp Qo .ready none (kL 63 [(5,(.bp 1 0)),(9,(.bp 2 0)),(10,(.bp 3 0))])),some (.box [(.own 4)]),some (.box (((cInt .i64) a2).map .pl)),some (.box [(.pl .nilf)]),jR 3 Qc.cells a3,some (.box ((Qd.cells a1).map .pl))])) (e:=(f12y6n0E a1 a2 a3 .exit2)) (pend:=(some (.exit 2)))
  (run_ok (P:=Try.prog) (C:=cfg) Qh (c:=rfA Qo) (rs:=[j3]) (ps:=[]) (tds:=[]) (m:=[5]) (keep:=[5,9,10,11]) (by kernel_rfl) an)
  (f12y6n0_ok a1 a2 a3 h)
theorem f12y6_norm(a1:Qd)(a2:Int)(a3:List Qc)(h:f12y6n0 a1 a2 a3=some .norm):Qbe Try.prog [(jA Qd.cells a1)] 0 [some (.lp Qo .ready none (kL 63 [(5,(.bp 1 0)),(9,(.bp 2 0)),(10,(.bp 3 0))])),some (.box [(.own 4)]),some (.box (((cInt .i64) a2).map .pl)),some (.box [(.pl .nilf)]),jR 3 Qc.cells a3] true [some (.lp Qo .ready none (kL 63 [(5,(.bp 1 0)),(9,(.bp 2 0)),(10,(.bp 3 0))])),some (.box [(.own 5)]),some (.box (((cInt .i64) a2).map .pl)),some (.box [(.pl .nilf)]),none,some (.row false 3 ((a3++[(Qc.mk a1.index a1.units a1.bid.Price)]).map Qc.cells))] :=
 Qbe.mk (c:=Qo) (n:=Try.f12.ntmps) (base:=5) (cs:=(kL 63 [(5,(.bp 1 0)),(9,(.bp 2 0)),(10,(.bp 3 0))])) (cs2:=(kL 63 [(5,(.bp 1 0)),(9,(.bp 2 0)),(10,(.bp 3 0))])) (cs3:=(kL 63 [(5,(.bp 1 0)),(9,(.bp 2 0)),(10,(.bp 3 0))])) (st2:=(mkS [(5,(.bp 1 0)),(9,(.bp 2 0)),(10,(.bp 3 0)),(11,(.bp 5 0))],[some (.lp Qo .ready none (kL 63 [(5,(.bp 1 0)),(9,(.bp 2 0)),(10,(.bp 3 0))])),some (.box [(.own 4)]),some (.box (((cInt .i64) a2).map .pl)),some (.box [(.pl .nilf)]),jR 3 Qc.cells a3,some (.box ((Qd.cells a1).map .pl))])) (e:=(f12y6n0E a1 a2 a3 .norm)) (pend:=none)
  (run_ok (P:=Try.prog) (C:=cfg) Qh (c:=rfA Qo) (rs:=[j3]) (ps:=[]) (tds:=[]) (m:=[5]) (keep:=[5,9,10,11]) (by kernel_rfl) an)
  (f12y6n0_ok a1 a2 a3 h)


inductive f53r6n2O where
 | exit0 (v43:List Qd)
noncomputable def f53r6n2E(ba1:Qe)(be2:Qa)(bd3:Int)(bg4:List Qc):f53r6n2O→Ex×Tr×Hp
 | .exit0 v43=>((.exit 0),mkS [(0,(.yl 0)),(2,(.bp 2 0)),(4,(.own 7))],[some (.lp Qo .ready none (kL 63 [(5,(.bp 3 0)),(9,(.bp 4 0)),(10,(.bp 5 0))])),some (.box ((Qe.cells ba1).map .pl)),some (.box ((Qa.cells be2).map .pl)),some (.box [(.own 6)]),some (.box (((cInt .i64) bd3).map .pl)),some (.box [(.pl (.fn 56))]),jR 3 Qc.cells bg4,jR 6 Qd.cells v43])
noncomputable def f53r6n2S(ba1:Qe)(be2:Qa)(bd3:Int)(bg4:List Qc)(v29:Int)(v30:List Qd):Tr×Hp:=(mkS [(0,(.yl 0)),(2,(.bp 2 0)),(4,(.own 7)),(11,(jL 4 Qb.cells ba1.Bids)),(12,(jI (ba1.Bids.length:Int))),(13,(jI v29))],[some (.lp Qo .ready none (kL 63 [(5,(.bp 3 0)),(9,(.bp 4 0)),(10,(.bp 5 0))])),some (.box ((Qe.cells ba1).map .pl)),some (.box ((Qa.cells be2).map .pl)),some (.box [(.own 6)]),some (.box (((cInt .i64) bd3).map .pl)),some (.box [(.pl (.fn 56))]),jR 3 Qc.cells bg4,jR 6 Qd.cells v30])
noncomputable def f53r6n2:Nat→Qe→Qa→Int→List Qc→Int→List Qd→Option f53r6n2O
 | 0,_,_,_,_,_,_=>none
 | f+1,ba1,be2,bd3,bg4,v29,v30 =>
  bif decide (v29<(ba1.Bids.length:Int)) then
   (at? ba1.Bids v29).bind fun x38 =>
   bif (seq x38.Lot be2.Name) then
    bif decide (be2.Reserve≤x38.Price) then
     req (fit (v30.length+1) 64) <|
     (f53r6n2 f ba1 be2 bd3 bg4 (wr64 (v29+1)) (v30++[(Qd.mk v29 0 x38)]))
    else
     (f53r6n2 f ba1 be2 bd3 bg4 (wr64 (v29+1)) v30)
   else
    (f53r6n2 f ba1 be2 bd3 bg4 (wr64 (v29+1)) v30)
  else
   some (.exit0 v30)
theorem f53r6n2_ok:∀(f:Nat)(ba1:Qe)(be2:Qa)(bd3:Int)(bg4:List Qc)(v29:Int)(v30:List Qd){o:f53r6n2O},f53r6n2 f ba1 be2 bd3 bg4 v29 v30=some o→TL Try.prog Try.f53.ntmps 7 f (cL (cL (Ql 1 (cL (Ql 1 c53))))) (f53r6n2S ba1 be2 bd3 bg4 v29 v30) (·=f53r6n2E ba1 be2 bd3 bg4 o)
 | 0,_,_,_,_,_,_,o,h=>by rw [f53r6n2] at h; cases h
 | f+1,ba1,be2,bd3,bg4,v29,v30,o,h=>by
  rw [f53r6n2] at h;refine TL.body (K:=fun s=>∃v29:Int,∃v30:List Qd,s=(f53r6n2S ba1 be2 bd3 bg4 v29 v30)∧f53r6n2 f ba1 be2 bd3 bg4 v29 v30=some o) ?_ (by rintro _ ⟨v29,v30,rfl,hk⟩; exact f53r6n2_ok f _ _ _ _ _ _ hk);rcases Qi h with ⟨h32,h⟩|⟨h32,h⟩
  ·obtain ⟨x38,h39,h⟩:=Qf h;rcases Qi h with ⟨h40,h⟩|⟨h40,h⟩
   ·rcases Qi h with ⟨h41,h⟩|⟨h41,h⟩
    ·obtain ⟨h42,h⟩:=Qal h;exact rE Qh [j3,([],[(1,.idx (Int.toNat v29) (Qb.cells x38))],[]),(jT [6,7,8,9,10],[(11,.bool true)],[]),([],[(5,.fits)],[(5,.row 10 ((v30++[(Qd.mk v29 0 x38)]).map Qd.cells))]),j3] [some true,some true] [] [10] [0,2,4,11,12,13] (.norm,(f53r6n2S ba1 be2 bd3 bg4 (wr64 (v29+1)) (v30++[(Qd.mk v29 0 x38)]))) (ap h32 (ap (Qk h39).1 (ap (Qq Qb.cells (Qk h39).2) (ap2 h40 (ap4 h40 (ap h41 (ap (fit_map (te:=ti78) (xs:=v30) (n:=1) (c:=Qd.cells) h42 rfl) (ap (app_cv (xs:=v30) (ys:=[(Qd.mk v29 0 x38)]) (c:=Qd.cells)) an)))))))) (Qu.norm ⟨(wr64 (v29+1)),(v30++[(Qd.mk v29 0 x38)]),rfl,h⟩)
    ·exact rE Qh [j3,([],[(1,.idx (Int.toNat v29) (Qb.cells x38))],[]),(jT [6,7,8,9,10],[(11,.bool true)],[]),j3] [some true,some false] [] [7] [0,2,4,11,12,13] (.norm,(f53r6n2S ba1 be2 bd3 bg4 (wr64 (v29+1)) v30)) (ap h32 (ap (Qk h39).1 (ap (Qq Qb.cells (Qk h39).2) (ap2 h40 (ap4 h40 (ap h41 an)))))) (Qu.norm ⟨(wr64 (v29+1)),v30,rfl,h⟩)
   ·exact rE Qh [j3,([],[(1,.idx (Int.toNat v29) (Qb.cells x38))],[]),(jF [6,7,8,9,10],[(11,.bool false)],[]),j3] [some true,none] [] [7] [0,2,4,11,12,13] (.norm,(f53r6n2S ba1 be2 bd3 bg4 (wr64 (v29+1)) v30)) (ap h32 (ap (Qk h39).1 (ap (Qq Qb.cells (Qk h39).2) (ap2 h40 (ap4 h40 an))))) (Qu.norm ⟨(wr64 (v29+1)),v30,rfl,h⟩)
  ·obtain rfl:=Qg h;exact rK Qh 2 [j3] [some false] [] [7] [0,2,4] (.exit 0) ((f53r6n2E ba1 be2 bd3 bg4 (.exit0 v30)).2) (ap h32 an) (Qu.out rfl rfl)
noncomputable def f53r6n2L(ba1:Qe)(be2:Qa)(bd3:Int)(bg4:List Qc):List Qb→Int→(List Qd)→Option f53r6n2O
 | [],v29,v30 =>
  some (.exit0 v30)
 | x0::rest,v29,v30 =>
  bif (seq x0.Lot be2.Name) then
   bif decide (be2.Reserve≤x0.Price) then
    req (fit (v30.length+1) 64) <|
    (f53r6n2L ba1 be2 bd3 bg4 rest (v29+1) (v30++[(Qd.mk v29 0 x0)]))
   else
    (f53r6n2L ba1 be2 bd3 bg4 rest (v29+1) v30)
  else
   (f53r6n2L ba1 be2 bd3 bg4 rest (v29+1) v30)
theorem f53r6n2L_eq(ba1:Qe)(be2:Qa)(bd3:Int)(bg4:List Qc):∀(rest:List Qb)(f k:Nat)(v30:List Qd),ba1.Bids.drop k=rest→ba1.Bids.length≤maxLen→rest.length<f→f53r6n2 f ba1 be2 bd3 bg4 (k:Int) v30=f53r6n2L ba1 be2 bd3 bg4 rest (k:Int) v30
 | _,0,_,_,_,_,hf=>absurd hf (Nat.not_lt_zero _)
 | [],f+1,k,v30,hd,hm,hf=>by
  have hk:¬((k:Int)<(ba1.Bids.length:Int)):=by have:=Qay hd; omega
  rw [f53r6n2,f53r6n2L];simp only [decide_eq_false hk,cond_false]
 | x0::rest,f+1,k,v30,hd,hm,hf=>by
  obtain ⟨hx,hlt,hd'⟩:=Qcb hd;have hk:(k:Int)<(ba1.Bids.length:Int):=by omega
  have hw:wr64 ((k:Int)+1)=(k:Int)+1:=wr64_of (by omega) (by unfold maxLen at hm; omega);have ih:∀(v30:List Qd),f53r6n2 f ba1 be2 bd3 bg4 ((k:Int)+1) v30=f53r6n2L ba1 be2 bd3 bg4 rest ((k:Int)+1) v30:=fun v30=>f53r6n2L_eq ba1 be2 bd3 bg4 rest f (k+1) v30 hd' hm (by simpa using hf);rw [f53r6n2,f53r6n2L];simp only [decide_eq_true hk,cond_true,at_nat,hx,Option.bind_some,hw,ih]
theorem f53r6n2_run(ba1:Qe)(be2:Qa)(bd3:Int)(bg4:List Qc)(v30:List Qd)(hm:ba1.Bids.length≤maxLen):f53r6n2 FUEL ba1 be2 bd3 bg4 0 v30=f53r6n2L ba1 be2 bd3 bg4 ba1.Bids 0 v30:=f53r6n2L_eq ba1 be2 bd3 bg4 ba1.Bids FUEL 0 v30 List.drop_zero hm (Qba hm)
inductive f53r6n1O where
 | norm (v47:List Qd)
noncomputable def f53r6n1E(ba1:Qe)(be2:Qa)(bd3:Int)(bg4:List Qc):f53r6n1O→Ex×Tr×Hp
 | .norm v47=>(.norm,mkS [(0,(.yl 0)),(2,(.bp 2 0)),(4,(.own 7))],[some (.lp Qo .ready none (kL 63 [(5,(.bp 3 0)),(9,(.bp 4 0)),(10,(.bp 5 0))])),some (.box ((Qe.cells ba1).map .pl)),some (.box ((Qa.cells be2).map .pl)),some (.box [(.own 6)]),some (.box (((cInt .i64) bd3).map .pl)),some (.box [(.pl (.fn 56))]),jR 3 Qc.cells bg4,jR 6 Qd.cells v47])
noncomputable def f53r6n1S(ba1:Qe)(be2:Qa)(bd3:Int)(bg4:List Qc):Tr×Hp:=(mkS [(0,(.yl 0)),(1,(.bp 1 0)),(2,(.bp 2 0)),(4,(.pl (.sl .nil 0 [])))],[some (.lp Qo .ready none (kL 63 [(5,(.bp 3 0)),(9,(.bp 4 0)),(10,(.bp 5 0))])),some (.box ((Qe.cells ba1).map .pl)),some (.box ((Qa.cells be2).map .pl)),some (.box [(.own 6)]),some (.box (((cInt .i64) bd3).map .pl)),some (.box [(.pl (.fn 56))]),jR 3 Qc.cells bg4])
noncomputable def f53r6n1(ba1:Qe)(be2:Qa)(bd3:Int)(bg4:List Qc):Option f53r6n1O :=
 (f53r6n2 FUEL ba1 be2 bd3 bg4 0 []).bind fun o44=>match o44 with
 | .exit0 v46=>some (.norm v46)
theorem f53r6n1_ok(ba1:Qe)(be2:Qa)(bd3:Int)(bg4:List Qc){o:f53r6n1O}(h:f53r6n1 ba1 be2 bd3 bg4=some o):T Try.prog Try.f53.ntmps 7 (cL (Ql 1 c53)) (f53r6n1S ba1 be2 bd3 bg4) (·=f53r6n1E ba1 be2 bd3 bg4 o):=by
 unfold f53r6n1 at h;refine rN Qh 1 [([],[],[(2,.val (jI (ba1.Bids.length:Int)))])] [] [.mat 4 6] [7] [0,2,4,11,12,13] (f53r6n2S ba1 be2 bd3 bg4 0 []) (ap (Qad (xs:=ba1.Bids) (c:=Qb.cells)) an) ?_;obtain ⟨o44,h45,h⟩:=Qf h;cases o44 with
 | exit0 v46 =>
  obtain rfl:=Qg h;exact T.last' (T.bl (i:=0) (by kernel_rfl) (by kernel_rfl) (f53r6n2_ok FUEL ba1 be2 bd3 bg4 0 [] h45)) (tds:=[]) (m:=[7]) (keep:=[0,2,4]) (st2:=(f53r6n1E ba1 be2 bd3 bg4 (.norm v46)).2) (by kernel_rfl) an rfl
inductive f53r6n3O where
 | norm (v97:Int) (v98:List Qc)
 | ret
noncomputable def f53r6n3E(bd1:Int)(bf2:List Qd)(bd3:Int)(ba4:Qe)(be5:Qa)(bd6:Int)(bg7:List Qc):f53r6n3O→Ex×Tr×Hp
 | .norm v97 v98=>(.norm,mkS [(0,(.yl 0)),(7,(jI v97)),(41,(.own 8)),(42,(jI (bf2.length:Int))),(43,(jI bd3))],[some (.lp Qo .ready none (kL 63 [(5,(.bp 3 0)),(9,(.bp 4 0)),(10,(.bp 5 0))])),some (.box ((Qe.cells ba4).map .pl)),some (.box ((Qa.cells be5).map .pl)),some (.box [(.own 7)]),some (.box (((cInt .i64) bd6).map .pl)),some (.box [(.pl (.fn 56))]),none,jR 3 Qc.cells v98,jR 6 Qd.cells bf2])
 | .ret=>(.ret,mkS [],[some (.lp Qo .done (some (.exit 2)) (kL 63 [(5,(.bp 3 0)),(9,(.bp 4 0)),(10,(.bp 5 0))])),some (.box ((Qe.cells ba4).map .pl)),some (.box ((Qa.cells be5).map .pl)),some (.box [(.own 7)]),some (.box (((cInt .i64) bd6).map .pl)),some (.box [(.pl (.fn 56))]),none,jR 3 Qc.cells bg7])
noncomputable def f53r6n3S(bd1:Int)(bf2:List Qd)(bd3:Int)(ba4:Qe)(be5:Qa)(bd6:Int)(bg7:List Qc):Tr×Hp:=(mkS [(0,(.yl 0)),(7,(jI bd1)),(41,(.own 8)),(42,(jI (bf2.length:Int))),(43,(jI bd3))],[some (.lp Qo .ready none (kL 63 [(5,(.bp 3 0)),(9,(.bp 4 0)),(10,(.bp 5 0))])),some (.box ((Qe.cells ba4).map .pl)),some (.box ((Qa.cells be5).map .pl)),some (.box [(.own 7)]),some (.box (((cInt .i64) bd6).map .pl)),some (.box [(.pl (.fn 56))]),none,jR 3 Qc.cells bg7,jR 6 Qd.cells bf2])
noncomputable def f53r6n3(bd1:Int)(bf2:List Qd)(bd3:Int)(ba4:Qe)(be5:Qa)(bd6:Int)(bg7:List Qc):Option f53r6n3O :=
 (at? bf2 bd3).bind fun x93 =>
 (f12y2n0 (Qd.mk x93.index (mnI bd1 x93.bid.Units) x93.bid) bd6 bg7).bind fun o95=>match o95 with
 | .exit2=>some .ret
 | .norm=>some (.norm (wr64 (bd1-(mnI bd1 x93.bid.Units))) (bg7++[(Qc.mk x93.index (mnI bd1 x93.bid.Units) bd6)]))
theorem f53r6n3_ok(bd1:Int)(bf2:List Qd)(bd3:Int)(ba4:Qe)(be5:Qa)(bd6:Int)(bg7:List Qc){o:f53r6n3O}(h:f53r6n3 bd1 bf2 bd3 ba4 be5 bd6 bg7=some o):T Try.prog Try.f53.ntmps 7 (cL (Ql 2 (cL (cL (Ql 3 (Ql 1 (Ql 1 c53))))))) (f53r6n3S bd1 bf2 bd3 ba4 be5 bd6 bg7) (·=f53r6n3E bd1 bf2 bd3 ba4 be5 bd6 bg7 o):=by
 unfold f53r6n3 at h;refine T.block' (i:=3) (by kernel_rfl) ?_;obtain ⟨x93,h94,h⟩:=Qf h;refine rN Qh 3 [([],[(0,.at_ (Int.toNat bd3)),(1,.idx 0 (Qd.cells x93))],[]),j3,j3] [] [] [7,9,8] [0,7,9,41,42,43] (mkS [(0,(.yl 0)),(7,(jI (wr64 (bd1-(mnI bd1 x93.bid.Units))))),(9,(.bp 8 0)),(41,(.own 9)),(42,(jI (bf2.length:Int))),(43,(jI bd3))],[some (.lp Qo .ready none (kL 63 [(5,(.bp 3 0)),(9,(.bp 4 0)),(10,(.bp 5 0))])),some (.box ((Qe.cells ba4).map .pl)),some (.box ((Qa.cells be5).map .pl)),some (.box [(.own 7)]),some (.box (((cInt .i64) bd6).map .pl)),some (.box [(.pl (.fn 56))]),none,jR 3 Qc.cells bg7,some (.box ((Qd.cells (Qd.mk x93.index (mnI bd1 x93.bid.Units) x93.bid)).map .pl)),jR 6 Qd.cells bf2]) (ap (Qk h94).1 (ap (Qai Qd.cells (Qk h94).2) (ap (Qq Qd.cells (Qk h94).2) an))) ?_
 obtain ⟨o95,h96,h⟩:=Qf h;cases o95 with
 | exit2 =>
  refine T.oneN (by kernel_rfl) (yN Qh j3 2 false [some (.lp Qo .done (some (.exit 2)) (kL 63 [(5,(.bp 3 0)),(9,(.bp 4 0)),(10,(.bp 5 0))])),none,none,some (.box [(.own 7)]),some (.box (((cInt .i64) bd6).map .pl)),some (.box [(.pl (.fn 56))]),none,jR 3 Qc.cells bg7,none,none] [] [7,9] [0,7,41,42,43,60] (mkS [(0,(.yl 0)),(7,(jI (wr64 (bd1-(mnI bd1 x93.bid.Units))))),(41,(.own 8)),(42,(jI (bf2.length:Int))),(43,(jI bd3)),(60,(jB true))],[some (.lp Qo .done (some (.exit 2)) (kL 63 [(5,(.bp 3 0)),(9,(.bp 4 0)),(10,(.bp 5 0))])),some (.box ((Qe.cells ba4).map .pl)),some (.box ((Qa.cells be5).map .pl)),some (.box [(.own 7)]),some (.box (((cInt .i64) bd6).map .pl)),some (.box [(.pl (.fn 56))]),none,jR 3 Qc.cells bg7,jR 6 Qd.cells bf2]) (ap (Qbe.rn 10 [0,3,4,5,7] (f12y2_exit2 (Qd.mk x93.index (mnI bd1 x93.bid.Units) x93.bid) bd6 bg7 h96)) an)) rfl ?_
  obtain rfl:=Qg h;exact rE Qh [] [none] [] [7] [] (.ret,(f53r6n3E bd1 bf2 bd3 ba4 be5 bd6 bg7 .ret).2) an rfl
 | norm =>
  refine T.oneN (by kernel_rfl) (yN Qh j3 2 true [some (.lp Qo .ready none (kL 63 [(5,(.bp 3 0)),(9,(.bp 4 0)),(10,(.bp 5 0))])),none,none,some (.box [(.own 10)]),some (.box (((cInt .i64) bd6).map .pl)),some (.box [(.pl (.fn 56))]),none,none,none,none,some (.row false 3 ((bg7++[(Qc.mk x93.index (mnI bd1 x93.bid.Units) bd6)]).map Qc.cells))] [] [10,9] [0,7,41,42,43,60] (mkS [(0,(.yl 0)),(7,(jI (wr64 (bd1-(mnI bd1 x93.bid.Units))))),(41,(.own 8)),(42,(jI (bf2.length:Int))),(43,(jI bd3)),(60,(jB false))],[some (.lp Qo .ready none (kL 63 [(5,(.bp 3 0)),(9,(.bp 4 0)),(10,(.bp 5 0))])),some (.box ((Qe.cells ba4).map .pl)),some (.box ((Qa.cells be5).map .pl)),some (.box [(.own 7)]),some (.box (((cInt .i64) bd6).map .pl)),some (.box [(.pl (.fn 56))]),none,some (.row false 3 ((bg7++[(Qc.mk x93.index (mnI bd1 x93.bid.Units) bd6)]).map Qc.cells)),jR 6 Qd.cells bf2]) (ap (Qbe.rn 10 [0,3,4,5,7] (f12y2_norm (Qd.mk x93.index (mnI bd1 x93.bid.Units) x93.bid) bd6 bg7 h96)) an)) rfl ?_
  obtain rfl:=Qg h;exact rE Qh [] [none] [] [7,8] [0,7,41,42,43] (.norm,(f53r6n3E bd1 bf2 bd3 ba4 be5 bd6 bg7 (.norm (wr64 (bd1-(mnI bd1 x93.bid.Units))) (bg7++[(Qc.mk x93.index (mnI bd1 x93.bid.Units) bd6)]))).2) an rfl
inductive f53r6n4O where
 | exit2 (v103:List Qc)
 | ret (v104:List Qc)
noncomputable def f53r6n4E(x53:List Qd)(a1:Qe)(a2:Qa)(a3:Int):f53r6n4O→Ex×Tr×Hp
 | .exit2 v103=>((.exit 2),mkS [],[some (.lp Qo .ready none (kL 63 [(5,(.bp 3 0)),(9,(.bp 4 0)),(10,(.bp 5 0))])),some (.box ((Qe.cells a1).map .pl)),some (.box ((Qa.cells a2).map .pl)),some (.box [(.own 7)]),some (.box (((cInt .i64) a3).map .pl)),some (.box [(.pl (.fn 56))]),none,jR 3 Qc.cells v103])
 | .ret v104=>(.ret,mkS [],[some (.lp Qo .done (some (.exit 2)) (kL 63 [(5,(.bp 3 0)),(9,(.bp 4 0)),(10,(.bp 5 0))])),some (.box ((Qe.cells a1).map .pl)),some (.box ((Qa.cells a2).map .pl)),some (.box [(.own 7)]),some (.box (((cInt .i64) a3).map .pl)),some (.box [(.pl (.fn 56))]),none,jR 3 Qc.cells v104])
noncomputable def f53r6n4S(x53:List Qd)(a1:Qe)(a2:Qa)(a3 v86 v87:Int)(v88:List Qc):Tr×Hp:=(mkS [(0,(.yl 0)),(7,(jI v86)),(41,(.own 8)),(42,(jI (x53.length:Int))),(43,(jI v87))],[some (.lp Qo .ready none (kL 63 [(5,(.bp 3 0)),(9,(.bp 4 0)),(10,(.bp 5 0))])),some (.box ((Qe.cells a1).map .pl)),some (.box ((Qa.cells a2).map .pl)),some (.box [(.own 7)]),some (.box (((cInt .i64) a3).map .pl)),some (.box [(.pl (.fn 56))]),none,jR 3 Qc.cells v88,jR 6 Qd.cells x53])
noncomputable def f53r6n4:Nat→List Qd→Qe→Qa→Int→Int→Int→List Qc→Option f53r6n4O
 | 0,_,_,_,_,_,_,_=>none
 | f+1,x53,a1,a2,a3,v86,v87,v88 =>
  bif decide (v87<(x53.length:Int)) then
   (f53r6n3 v86 x53 v87 a1 a2 a3 v88).bind fun o99=>match o99 with
   | .norm v101 v102=>(f53r6n4 f x53 a1 a2 a3 v101 (wr64 (v87+1)) v102)
   | .ret=>some (.ret v88)
  else
   some (.exit2 v88)
theorem f53r6n4_ok:∀(f:Nat)(x53:List Qd)(a1:Qe)(a2:Qa)(a3 v86 v87:Int)(v88:List Qc){o:f53r6n4O},f53r6n4 f x53 a1 a2 a3 v86 v87 v88=some o→TL Try.prog Try.f53.ntmps 7 f (cL (cL (Ql 3 (Ql 1 (Ql 1 c53))))) (f53r6n4S x53 a1 a2 a3 v86 v87 v88) (·=f53r6n4E x53 a1 a2 a3 o)
 | 0,_,_,_,_,_,_,_,o,h=>by rw [f53r6n4] at h; cases h
 | f+1,x53,a1,a2,a3,v86,v87,v88,o,h=>by
  rw [f53r6n4] at h;refine TL.body (K:=fun s=>∃v86:Int,∃v87:Int,∃v88:List Qc,s=(f53r6n4S x53 a1 a2 a3 v86 v87 v88)∧f53r6n4 f x53 a1 a2 a3 v86 v87 v88=some o) ?_ (by rintro _ ⟨v86,v87,v88,rfl,hk⟩; exact f53r6n4_ok f _ _ _ _ _ _ _ hk);rcases Qi h with ⟨h90,h⟩|⟨h90,h⟩
  ·refine rN Qh 2 [j3] [some true] [] [7,8] [0,7,41,42,43] (f53r6n3S v86 x53 v87 a1 a2 a3 v88) (ap h90 an) ?_;obtain ⟨o99,h100,h⟩:=Qf h;cases o99 with
   | norm v101 v102 =>
    refine T.oneN (by kernel_rfl) (f53r6n3_ok v86 x53 v87 a1 a2 a3 v88 h100) (st2:=(f53r6n3E v86 x53 v87 a1 a2 a3 v88 (.norm v101 v102)).2) rfl ?_;exact rE Qh [j3] [] [] [7,8] [0,7,41,42,43] (.norm,(f53r6n4S x53 a1 a2 a3 v101 (wr64 (v87+1)) v102)) an (Qu.norm ⟨v101,(wr64 (v87+1)),v102,rfl,h⟩)
   | ret =>
    obtain rfl:=Qg h;exact T.oneX' (by kernel_rfl) (f53r6n3_ok v86 x53 v87 a1 a2 a3 v88 h100) (tds:=[]) (m:=[7]) (keep:=[]) (st2:=(f53r6n4E x53 a1 a2 a3 (.ret v88)).2) (by kernel_rfl) an rfl (Qu.out rfl rfl)
  ·obtain rfl:=Qg h;exact rK Qh 2 [j3] [some false] [] [7] [] (.exit 2) ((f53r6n4E x53 a1 a2 a3 (.exit2 v88)).2) (ap h90 an) (Qu.out rfl rfl)
inductive f53r6n0O where
 | norm (v109:List Qc)
 | ret (v110:List Qc)
noncomputable def f53r6n0E(a1:Qe)(a2:Qa)(a3:Int)(a4:List Qc):f53r6n0O→Ex×Tr×Hp
 | .norm v109=>(.norm,mkS [],[some (.lp Qo .ready none (kL 63 [(5,(.bp 3 0)),(9,(.bp 4 0)),(10,(.bp 5 0))])),some (.box ((Qe.cells a1).map .pl)),some (.box ((Qa.cells a2).map .pl)),some (.box [(.own 7)]),some (.box (((cInt .i64) a3).map .pl)),some (.box [(.pl (.fn 56))]),none,jR 3 Qc.cells v109])
 | .ret v110=>(.ret,mkS [],[some (.lp Qo .done (some (.exit 2)) (kL 63 [(5,(.bp 3 0)),(9,(.bp 4 0)),(10,(.bp 5 0))])),some (.box ((Qe.cells a1).map .pl)),some (.box ((Qa.cells a2).map .pl)),some (.box [(.own 7)]),some (.box (((cInt .i64) a3).map .pl)),some (.box [(.pl (.fn 56))]),none,jR 3 Qc.cells v110])
noncomputable def f53r6n0S(a1:Qe)(a2:Qa)(a3:Int)(a4:List Qc):Tr×Hp:=(Qag [(.yl 0),(.bp 1 0),(.bp 2 0)] 0 .leaf,[some (.lp Qo .ready none (kL 63 [(5,(.bp 3 0)),(9,(.bp 4 0)),(10,(.bp 5 0))])),some (.box ((Qe.cells a1).map .pl)),some (.box ((Qa.cells a2).map .pl)),some (.box [(.own 6)]),some (.box (((cInt .i64) a3).map .pl)),some (.box [(.pl (.fn 56))]),jR 3 Qc.cells a4])
noncomputable def f53r6n0(a1:Qe)(a2:Qa)(a3:Int)(a4:List Qc):Option f53r6n0O :=
 (f53r6n1 a1 a2 a3 a4).bind fun o48=>match o48 with
 | .norm v50=>(f54r1 v50).bind fun x53 =>
  (f53r6n4 FUEL x53 a1 a2 a3 a2.Units 0 a4).bind fun o105=>match o105 with
  | .exit2 v107=>some (.norm v107)
  | .ret v108=>some (.ret v108)
theorem f53r6n0_ok(a1:Qe)(a2:Qa)(a3:Int)(a4:List Qc){o:f53r6n0O}(h:f53r6n0 a1 a2 a3 a4=some o):T Try.prog Try.f53.ntmps 7 c53 (f53r6n0S a1 a2 a3 a4) (·=f53r6n0E a1 a2 a3 a4 o):=by
 unfold f53r6n0 at h;refine rN Qh 1 [j3] [] [] [] [0,1,2,4] (f53r6n1S a1 a2 a3 a4) an ?_;obtain ⟨o48,h49,h⟩:=Qf h;cases o48 with
 | norm v50 =>
  refine T.oneN (by kernel_rfl) (f53r6n1_ok a1 a2 a3 a4 h49) (st2:=(f53r6n1E a1 a2 a3 a4 (.norm v50)).2) rfl ?_;obtain ⟨x53,h54,h⟩:=Qf h;refine rN Qh 3 [([],[(1,.call (.tup []) (jN 7 [jR 6 Qd.cells x53]))],[]),j3,([],[],[(1,.val (jI (x53.length:Int)))])] [] [.movC 3 0] [8,7] [0,7,41,42,43] (f53r6n4S x53 a1 a2 a3 a2.Units 0 a4) (ap (Qn.rn 8 [7] (f54r1_ok v50 h54)) (ap (Qad (xs:=x53) (c:=Qd.cells)) an)) ?_;obtain ⟨o105,h106,h⟩:=Qf h;cases o105 with
  | exit2 v107 =>
   obtain rfl:=Qg h;exact T.last' (T.bl (i:=2) (by kernel_rfl) (by kernel_rfl) (f53r6n4_ok FUEL x53 a1 a2 a3 a2.Units 0 a4 h106)) (tds:=[]) (m:=[7]) (keep:=[]) (st2:=(f53r6n0E a1 a2 a3 a4 (.norm v107)).2) (by kernel_rfl) an rfl
  | ret v108 =>
   obtain rfl:=Qg h;exact T.last' (T.bl (i:=2) (by kernel_rfl) (by kernel_rfl) (f53r6n4_ok FUEL x53 a1 a2 a3 a2.Units 0 a4 h106)) (tds:=[]) (m:=[7]) (keep:=[]) (st2:=(f53r6n0E a1 a2 a3 a4 (.ret v108)).2) (by kernel_rfl) an rfl
noncomputable def f53r6(a1:Qe)(a2:Qa)(a3:Int)(a4:List Qc):Option (Bool×(List Qc)):=(f53r6n0 a1 a2 a3 a4).bind fun o=>match o with
 | .norm v109=>some (true,v109)
 | .ret v110=>some (false,v110)
theorem f53r6_ok(a1:Qe)(a2:Qa)(a3:Int)(a4:List Qc){r:Bool×(List Qc)}(h:f53r6 a1 a2 a3 a4=some r):Qn Try.prog true 53 [(.yl 0),(.bp 1 0),(.bp 2 0)] [some (.lp Qo .ready none (kL 63 [(5,(.bp 3 0)),(9,(.bp 4 0)),(10,(.bp 5 0))])),some (.box ((Qe.cells a1).map .pl)),some (.box ((Qa.cells a2).map .pl)),some (.box [(.own 6)]),some (.box (((cInt .i64) a3).map .pl)),some (.box [(.pl (.fn 56))]),jR 3 Qc.cells a4] (.tup []) [some (.lp Qo (lstOf r.1) (pdOf r.1 (.exit 2)) (kL 63 [(5,(.bp 3 0)),(9,(.bp 4 0)),(10,(.bp 5 0))])),some (.box ((Qe.cells a1).map .pl)),some (.box ((Qa.cells a2).map .pl)),some (.box [(.own 7)]),some (.box (((cInt .i64) a3).map .pl)),some (.box [(.pl (.fn 56))]),none,jR 3 Qc.cells r.2]:=by
 unfold f53r6 at h;obtain ⟨o,ho,h⟩:=Qf h;cases o with
 | norm v109 =>
  obtain rfl:=Qg h;exact Qn.shared Qh (f:=Try.f53) (c:=c53) (by kernel_rfl) (by kernel_rfl) (by kernel_rfl) ((f53r6n0_ok a1 a2 a3 a4 ho).mono fun r e=>by subst e; exact ⟨.inr rfl,by kernel_rfl,by kernel_rfl⟩)
 | ret v110 =>
  obtain rfl:=Qg h;exact Qn.shared Qh (f:=Try.f53) (c:=c53) (by kernel_rfl) (by kernel_rfl) (by kernel_rfl) ((f53r6n0_ok a1 a2 a3 a4 ho).mono fun r e=>by subst e; exact ⟨.inl rfl,by kernel_rfl,by kernel_rfl⟩)

inductive f53r7n2O where
 | exit0 (v43:List Qd)
noncomputable def f53r7n2E(ba1:Qe)(be2:Qa)(bd3:Int)(bg4:List Qc):f53r7n2O→Ex×Tr×Hp
 | .exit0 v43=>((.exit 0),mkS [(0,(.yl 0)),(2,(.bp 2 0)),(4,(.own 7))],[some (.lp Qo .ready none (kL 63 [(5,(.bp 3 0)),(9,(.bp 4 0)),(10,(.bp 5 0))])),some (.box ((Qe.cells ba1).map .pl)),some (.box ((Qa.cells be2).map .pl)),some (.box [(.own 6)]),some (.box (((cInt .i64) bd3).map .pl)),some (.box [(.pl (.fn 57))]),jR 3 Qc.cells bg4,jR 6 Qd.cells v43])
noncomputable def f53r7n2S(ba1:Qe)(be2:Qa)(bd3:Int)(bg4:List Qc)(v29:Int)(v30:List Qd):Tr×Hp:=(mkS [(0,(.yl 0)),(2,(.bp 2 0)),(4,(.own 7)),(11,(jL 4 Qb.cells ba1.Bids)),(12,(jI (ba1.Bids.length:Int))),(13,(jI v29))],[some (.lp Qo .ready none (kL 63 [(5,(.bp 3 0)),(9,(.bp 4 0)),(10,(.bp 5 0))])),some (.box ((Qe.cells ba1).map .pl)),some (.box ((Qa.cells be2).map .pl)),some (.box [(.own 6)]),some (.box (((cInt .i64) bd3).map .pl)),some (.box [(.pl (.fn 57))]),jR 3 Qc.cells bg4,jR 6 Qd.cells v30])
noncomputable def f53r7n2:Nat→Qe→Qa→Int→List Qc→Int→List Qd→Option f53r7n2O
 | 0,_,_,_,_,_,_=>none
 | f+1,ba1,be2,bd3,bg4,v29,v30 =>
  bif decide (v29<(ba1.Bids.length:Int)) then
   (at? ba1.Bids v29).bind fun x38 =>
   bif (seq x38.Lot be2.Name) then
    bif decide (be2.Reserve≤x38.Price) then
     req (fit (v30.length+1) 64) <|
     (f53r7n2 f ba1 be2 bd3 bg4 (wr64 (v29+1)) (v30++[(Qd.mk v29 0 x38)]))
    else
     (f53r7n2 f ba1 be2 bd3 bg4 (wr64 (v29+1)) v30)
   else
    (f53r7n2 f ba1 be2 bd3 bg4 (wr64 (v29+1)) v30)
  else
   some (.exit0 v30)
theorem f53r7n2_ok:∀(f:Nat)(ba1:Qe)(be2:Qa)(bd3:Int)(bg4:List Qc)(v29:Int)(v30:List Qd){o:f53r7n2O},f53r7n2 f ba1 be2 bd3 bg4 v29 v30=some o→TL Try.prog Try.f53.ntmps 7 f (cL (cL (Ql 1 (cL (Ql 1 c53))))) (f53r7n2S ba1 be2 bd3 bg4 v29 v30) (·=f53r7n2E ba1 be2 bd3 bg4 o)
 | 0,_,_,_,_,_,_,o,h=>by rw [f53r7n2] at h; cases h
 | f+1,ba1,be2,bd3,bg4,v29,v30,o,h=>by
  rw [f53r7n2] at h;refine TL.body (K:=fun s=>∃v29:Int,∃v30:List Qd,s=(f53r7n2S ba1 be2 bd3 bg4 v29 v30)∧f53r7n2 f ba1 be2 bd3 bg4 v29 v30=some o) ?_ (by rintro _ ⟨v29,v30,rfl,hk⟩; exact f53r7n2_ok f _ _ _ _ _ _ hk);rcases Qi h with ⟨h32,h⟩|⟨h32,h⟩
  ·obtain ⟨x38,h39,h⟩:=Qf h;rcases Qi h with ⟨h40,h⟩|⟨h40,h⟩
   ·rcases Qi h with ⟨h41,h⟩|⟨h41,h⟩
    ·obtain ⟨h42,h⟩:=Qal h;exact rE Qh [j3,([],[(1,.idx (Int.toNat v29) (Qb.cells x38))],[]),(jT [6,7,8,9,10],[(11,.bool true)],[]),([],[(5,.fits)],[(5,.row 10 ((v30++[(Qd.mk v29 0 x38)]).map Qd.cells))]),j3] [some true,some true] [] [10] [0,2,4,11,12,13] (.norm,(f53r7n2S ba1 be2 bd3 bg4 (wr64 (v29+1)) (v30++[(Qd.mk v29 0 x38)]))) (ap h32 (ap (Qk h39).1 (ap (Qq Qb.cells (Qk h39).2) (ap2 h40 (ap4 h40 (ap h41 (ap (fit_map (te:=ti78) (xs:=v30) (n:=1) (c:=Qd.cells) h42 rfl) (ap (app_cv (xs:=v30) (ys:=[(Qd.mk v29 0 x38)]) (c:=Qd.cells)) an)))))))) (Qu.norm ⟨(wr64 (v29+1)),(v30++[(Qd.mk v29 0 x38)]),rfl,h⟩)
    ·exact rE Qh [j3,([],[(1,.idx (Int.toNat v29) (Qb.cells x38))],[]),(jT [6,7,8,9,10],[(11,.bool true)],[]),j3] [some true,some false] [] [7] [0,2,4,11,12,13] (.norm,(f53r7n2S ba1 be2 bd3 bg4 (wr64 (v29+1)) v30)) (ap h32 (ap (Qk h39).1 (ap (Qq Qb.cells (Qk h39).2) (ap2 h40 (ap4 h40 (ap h41 an)))))) (Qu.norm ⟨(wr64 (v29+1)),v30,rfl,h⟩)
   ·exact rE Qh [j3,([],[(1,.idx (Int.toNat v29) (Qb.cells x38))],[]),(jF [6,7,8,9,10],[(11,.bool false)],[]),j3] [some true,none] [] [7] [0,2,4,11,12,13] (.norm,(f53r7n2S ba1 be2 bd3 bg4 (wr64 (v29+1)) v30)) (ap h32 (ap (Qk h39).1 (ap (Qq Qb.cells (Qk h39).2) (ap2 h40 (ap4 h40 an))))) (Qu.norm ⟨(wr64 (v29+1)),v30,rfl,h⟩)
  ·obtain rfl:=Qg h;exact rK Qh 2 [j3] [some false] [] [7] [0,2,4] (.exit 0) ((f53r7n2E ba1 be2 bd3 bg4 (.exit0 v30)).2) (ap h32 an) (Qu.out rfl rfl)
noncomputable def f53r7n2L(ba1:Qe)(be2:Qa)(bd3:Int)(bg4:List Qc):List Qb→Int→(List Qd)→Option f53r7n2O
 | [],v29,v30 =>
  some (.exit0 v30)
 | x0::rest,v29,v30 =>
  bif (seq x0.Lot be2.Name) then
   bif decide (be2.Reserve≤x0.Price) then
    req (fit (v30.length+1) 64) <|
    (f53r7n2L ba1 be2 bd3 bg4 rest (v29+1) (v30++[(Qd.mk v29 0 x0)]))
   else
    (f53r7n2L ba1 be2 bd3 bg4 rest (v29+1) v30)
  else
   (f53r7n2L ba1 be2 bd3 bg4 rest (v29+1) v30)
theorem f53r7n2L_eq(ba1:Qe)(be2:Qa)(bd3:Int)(bg4:List Qc):∀(rest:List Qb)(f k:Nat)(v30:List Qd),ba1.Bids.drop k=rest→ba1.Bids.length≤maxLen→rest.length<f→f53r7n2 f ba1 be2 bd3 bg4 (k:Int) v30=f53r7n2L ba1 be2 bd3 bg4 rest (k:Int) v30
 | _,0,_,_,_,_,hf=>absurd hf (Nat.not_lt_zero _)
 | [],f+1,k,v30,hd,hm,hf=>by
  have hk:¬((k:Int)<(ba1.Bids.length:Int)):=by have:=Qay hd; omega
  rw [f53r7n2,f53r7n2L];simp only [decide_eq_false hk,cond_false]
 | x0::rest,f+1,k,v30,hd,hm,hf=>by
  obtain ⟨hx,hlt,hd'⟩:=Qcb hd;have hk:(k:Int)<(ba1.Bids.length:Int):=by omega
  have hw:wr64 ((k:Int)+1)=(k:Int)+1:=wr64_of (by omega) (by unfold maxLen at hm; omega);have ih:∀(v30:List Qd),f53r7n2 f ba1 be2 bd3 bg4 ((k:Int)+1) v30=f53r7n2L ba1 be2 bd3 bg4 rest ((k:Int)+1) v30:=fun v30=>f53r7n2L_eq ba1 be2 bd3 bg4 rest f (k+1) v30 hd' hm (by simpa using hf);rw [f53r7n2,f53r7n2L];simp only [decide_eq_true hk,cond_true,at_nat,hx,Option.bind_some,hw,ih]
theorem f53r7n2_run(ba1:Qe)(be2:Qa)(bd3:Int)(bg4:List Qc)(v30:List Qd)(hm:ba1.Bids.length≤maxLen):f53r7n2 FUEL ba1 be2 bd3 bg4 0 v30=f53r7n2L ba1 be2 bd3 bg4 ba1.Bids 0 v30:=f53r7n2L_eq ba1 be2 bd3 bg4 ba1.Bids FUEL 0 v30 List.drop_zero hm (Qba hm)
inductive f53r7n1O where
 | norm (v47:List Qd)
noncomputable def f53r7n1E(ba1:Qe)(be2:Qa)(bd3:Int)(bg4:List Qc):f53r7n1O→Ex×Tr×Hp
 | .norm v47=>(.norm,mkS [(0,(.yl 0)),(2,(.bp 2 0)),(4,(.own 7))],[some (.lp Qo .ready none (kL 63 [(5,(.bp 3 0)),(9,(.bp 4 0)),(10,(.bp 5 0))])),some (.box ((Qe.cells ba1).map .pl)),some (.box ((Qa.cells be2).map .pl)),some (.box [(.own 6)]),some (.box (((cInt .i64) bd3).map .pl)),some (.box [(.pl (.fn 57))]),jR 3 Qc.cells bg4,jR 6 Qd.cells v47])
noncomputable def f53r7n1S(ba1:Qe)(be2:Qa)(bd3:Int)(bg4:List Qc):Tr×Hp:=(mkS [(0,(.yl 0)),(1,(.bp 1 0)),(2,(.bp 2 0)),(4,(.pl (.sl .nil 0 [])))],[some (.lp Qo .ready none (kL 63 [(5,(.bp 3 0)),(9,(.bp 4 0)),(10,(.bp 5 0))])),some (.box ((Qe.cells ba1).map .pl)),some (.box ((Qa.cells be2).map .pl)),some (.box [(.own 6)]),some (.box (((cInt .i64) bd3).map .pl)),some (.box [(.pl (.fn 57))]),jR 3 Qc.cells bg4])
noncomputable def f53r7n1(ba1:Qe)(be2:Qa)(bd3:Int)(bg4:List Qc):Option f53r7n1O :=
 (f53r7n2 FUEL ba1 be2 bd3 bg4 0 []).bind fun o44=>match o44 with
 | .exit0 v46=>some (.norm v46)
theorem f53r7n1_ok(ba1:Qe)(be2:Qa)(bd3:Int)(bg4:List Qc){o:f53r7n1O}(h:f53r7n1 ba1 be2 bd3 bg4=some o):T Try.prog Try.f53.ntmps 7 (cL (Ql 1 c53)) (f53r7n1S ba1 be2 bd3 bg4) (·=f53r7n1E ba1 be2 bd3 bg4 o):=by
 unfold f53r7n1 at h;refine rN Qh 1 [([],[],[(2,.val (jI (ba1.Bids.length:Int)))])] [] [.mat 4 6] [7] [0,2,4,11,12,13] (f53r7n2S ba1 be2 bd3 bg4 0 []) (ap (Qad (xs:=ba1.Bids) (c:=Qb.cells)) an) ?_;obtain ⟨o44,h45,h⟩:=Qf h;cases o44 with
 | exit0 v46 =>
  obtain rfl:=Qg h;exact T.last' (T.bl (i:=0) (by kernel_rfl) (by kernel_rfl) (f53r7n2_ok FUEL ba1 be2 bd3 bg4 0 [] h45)) (tds:=[]) (m:=[7]) (keep:=[0,2,4]) (st2:=(f53r7n1E ba1 be2 bd3 bg4 (.norm v46)).2) (by kernel_rfl) an rfl
inductive f53r7n3O where
 | norm (v97:Int) (v98:List Qc)
 | ret
noncomputable def f53r7n3E(bd1:Int)(bf2:List Qd)(bd3:Int)(ba4:Qe)(be5:Qa)(bd6:Int)(bg7:List Qc):f53r7n3O→Ex×Tr×Hp
 | .norm v97 v98=>(.norm,mkS [(0,(.yl 0)),(7,(jI v97)),(41,(.own 8)),(42,(jI (bf2.length:Int))),(43,(jI bd3))],[some (.lp Qo .ready none (kL 63 [(5,(.bp 3 0)),(9,(.bp 4 0)),(10,(.bp 5 0))])),some (.box ((Qe.cells ba4).map .pl)),some (.box ((Qa.cells be5).map .pl)),some (.box [(.own 7)]),some (.box (((cInt .i64) bd6).map .pl)),some (.box [(.pl (.fn 57))]),none,jR 3 Qc.cells v98,jR 6 Qd.cells bf2])
 | .ret=>(.ret,mkS [],[some (.lp Qo .done (some (.exit 2)) (kL 63 [(5,(.bp 3 0)),(9,(.bp 4 0)),(10,(.bp 5 0))])),some (.box ((Qe.cells ba4).map .pl)),some (.box ((Qa.cells be5).map .pl)),some (.box [(.own 7)]),some (.box (((cInt .i64) bd6).map .pl)),some (.box [(.pl (.fn 57))]),none,jR 3 Qc.cells bg7])
noncomputable def f53r7n3S(bd1:Int)(bf2:List Qd)(bd3:Int)(ba4:Qe)(be5:Qa)(bd6:Int)(bg7:List Qc):Tr×Hp:=(mkS [(0,(.yl 0)),(7,(jI bd1)),(41,(.own 8)),(42,(jI (bf2.length:Int))),(43,(jI bd3))],[some (.lp Qo .ready none (kL 63 [(5,(.bp 3 0)),(9,(.bp 4 0)),(10,(.bp 5 0))])),some (.box ((Qe.cells ba4).map .pl)),some (.box ((Qa.cells be5).map .pl)),some (.box [(.own 7)]),some (.box (((cInt .i64) bd6).map .pl)),some (.box [(.pl (.fn 57))]),none,jR 3 Qc.cells bg7,jR 6 Qd.cells bf2])
noncomputable def f53r7n3(bd1:Int)(bf2:List Qd)(bd3:Int)(ba4:Qe)(be5:Qa)(bd6:Int)(bg7:List Qc):Option f53r7n3O :=
 (at? bf2 bd3).bind fun x93 =>
 (f12y4n0 (Qd.mk x93.index (mnI bd1 x93.bid.Units) x93.bid) bd6 bg7).bind fun o95=>match o95 with
 | .exit2=>some .ret
 | .norm=>some (.norm (wr64 (bd1-(mnI bd1 x93.bid.Units))) (bg7++[(Qc.mk x93.index (mnI bd1 x93.bid.Units) bd6)]))
theorem f53r7n3_ok(bd1:Int)(bf2:List Qd)(bd3:Int)(ba4:Qe)(be5:Qa)(bd6:Int)(bg7:List Qc){o:f53r7n3O}(h:f53r7n3 bd1 bf2 bd3 ba4 be5 bd6 bg7=some o):T Try.prog Try.f53.ntmps 7 (cL (Ql 2 (cL (cL (Ql 3 (Ql 1 (Ql 1 c53))))))) (f53r7n3S bd1 bf2 bd3 ba4 be5 bd6 bg7) (·=f53r7n3E bd1 bf2 bd3 ba4 be5 bd6 bg7 o):=by
 unfold f53r7n3 at h;refine T.block' (i:=3) (by kernel_rfl) ?_;obtain ⟨x93,h94,h⟩:=Qf h;refine rN Qh 3 [([],[(0,.at_ (Int.toNat bd3)),(1,.idx 0 (Qd.cells x93))],[]),j3,j3] [] [] [7,9,8] [0,7,9,41,42,43] (mkS [(0,(.yl 0)),(7,(jI (wr64 (bd1-(mnI bd1 x93.bid.Units))))),(9,(.bp 8 0)),(41,(.own 9)),(42,(jI (bf2.length:Int))),(43,(jI bd3))],[some (.lp Qo .ready none (kL 63 [(5,(.bp 3 0)),(9,(.bp 4 0)),(10,(.bp 5 0))])),some (.box ((Qe.cells ba4).map .pl)),some (.box ((Qa.cells be5).map .pl)),some (.box [(.own 7)]),some (.box (((cInt .i64) bd6).map .pl)),some (.box [(.pl (.fn 57))]),none,jR 3 Qc.cells bg7,some (.box ((Qd.cells (Qd.mk x93.index (mnI bd1 x93.bid.Units) x93.bid)).map .pl)),jR 6 Qd.cells bf2]) (ap (Qk h94).1 (ap (Qai Qd.cells (Qk h94).2) (ap (Qq Qd.cells (Qk h94).2) an))) ?_
 obtain ⟨o95,h96,h⟩:=Qf h;cases o95 with
 | exit2 =>
  refine T.oneN (by kernel_rfl) (yN Qh j3 2 false [some (.lp Qo .done (some (.exit 2)) (kL 63 [(5,(.bp 3 0)),(9,(.bp 4 0)),(10,(.bp 5 0))])),none,none,some (.box [(.own 7)]),some (.box (((cInt .i64) bd6).map .pl)),some (.box [(.pl (.fn 57))]),none,jR 3 Qc.cells bg7,none,none] [] [7,9] [0,7,41,42,43,60] (mkS [(0,(.yl 0)),(7,(jI (wr64 (bd1-(mnI bd1 x93.bid.Units))))),(41,(.own 8)),(42,(jI (bf2.length:Int))),(43,(jI bd3)),(60,(jB true))],[some (.lp Qo .done (some (.exit 2)) (kL 63 [(5,(.bp 3 0)),(9,(.bp 4 0)),(10,(.bp 5 0))])),some (.box ((Qe.cells ba4).map .pl)),some (.box ((Qa.cells be5).map .pl)),some (.box [(.own 7)]),some (.box (((cInt .i64) bd6).map .pl)),some (.box [(.pl (.fn 57))]),none,jR 3 Qc.cells bg7,jR 6 Qd.cells bf2]) (ap (Qbe.rn 10 [0,3,4,5,7] (f12y4_exit2 (Qd.mk x93.index (mnI bd1 x93.bid.Units) x93.bid) bd6 bg7 h96)) an)) rfl ?_
  obtain rfl:=Qg h;exact rE Qh [] [none] [] [7] [] (.ret,(f53r7n3E bd1 bf2 bd3 ba4 be5 bd6 bg7 .ret).2) an rfl
 | norm =>
  refine T.oneN (by kernel_rfl) (yN Qh j3 2 true [some (.lp Qo .ready none (kL 63 [(5,(.bp 3 0)),(9,(.bp 4 0)),(10,(.bp 5 0))])),none,none,some (.box [(.own 10)]),some (.box (((cInt .i64) bd6).map .pl)),some (.box [(.pl (.fn 57))]),none,none,none,none,some (.row false 3 ((bg7++[(Qc.mk x93.index (mnI bd1 x93.bid.Units) bd6)]).map Qc.cells))] [] [10,9] [0,7,41,42,43,60] (mkS [(0,(.yl 0)),(7,(jI (wr64 (bd1-(mnI bd1 x93.bid.Units))))),(41,(.own 8)),(42,(jI (bf2.length:Int))),(43,(jI bd3)),(60,(jB false))],[some (.lp Qo .ready none (kL 63 [(5,(.bp 3 0)),(9,(.bp 4 0)),(10,(.bp 5 0))])),some (.box ((Qe.cells ba4).map .pl)),some (.box ((Qa.cells be5).map .pl)),some (.box [(.own 7)]),some (.box (((cInt .i64) bd6).map .pl)),some (.box [(.pl (.fn 57))]),none,some (.row false 3 ((bg7++[(Qc.mk x93.index (mnI bd1 x93.bid.Units) bd6)]).map Qc.cells)),jR 6 Qd.cells bf2]) (ap (Qbe.rn 10 [0,3,4,5,7] (f12y4_norm (Qd.mk x93.index (mnI bd1 x93.bid.Units) x93.bid) bd6 bg7 h96)) an)) rfl ?_
  obtain rfl:=Qg h;exact rE Qh [] [none] [] [7,8] [0,7,41,42,43] (.norm,(f53r7n3E bd1 bf2 bd3 ba4 be5 bd6 bg7 (.norm (wr64 (bd1-(mnI bd1 x93.bid.Units))) (bg7++[(Qc.mk x93.index (mnI bd1 x93.bid.Units) bd6)]))).2) an rfl
inductive f53r7n4O where
 | exit2 (v103:List Qc)
 | ret (v104:List Qc)
noncomputable def f53r7n4E(x53:List Qd)(a1:Qe)(a2:Qa)(a3:Int):f53r7n4O→Ex×Tr×Hp
 | .exit2 v103=>((.exit 2),mkS [],[some (.lp Qo .ready none (kL 63 [(5,(.bp 3 0)),(9,(.bp 4 0)),(10,(.bp 5 0))])),some (.box ((Qe.cells a1).map .pl)),some (.box ((Qa.cells a2).map .pl)),some (.box [(.own 7)]),some (.box (((cInt .i64) a3).map .pl)),some (.box [(.pl (.fn 57))]),none,jR 3 Qc.cells v103])
 | .ret v104=>(.ret,mkS [],[some (.lp Qo .done (some (.exit 2)) (kL 63 [(5,(.bp 3 0)),(9,(.bp 4 0)),(10,(.bp 5 0))])),some (.box ((Qe.cells a1).map .pl)),some (.box ((Qa.cells a2).map .pl)),some (.box [(.own 7)]),some (.box (((cInt .i64) a3).map .pl)),some (.box [(.pl (.fn 57))]),none,jR 3 Qc.cells v104])
noncomputable def f53r7n4S(x53:List Qd)(a1:Qe)(a2:Qa)(a3 v86 v87:Int)(v88:List Qc):Tr×Hp:=(mkS [(0,(.yl 0)),(7,(jI v86)),(41,(.own 8)),(42,(jI (x53.length:Int))),(43,(jI v87))],[some (.lp Qo .ready none (kL 63 [(5,(.bp 3 0)),(9,(.bp 4 0)),(10,(.bp 5 0))])),some (.box ((Qe.cells a1).map .pl)),some (.box ((Qa.cells a2).map .pl)),some (.box [(.own 7)]),some (.box (((cInt .i64) a3).map .pl)),some (.box [(.pl (.fn 57))]),none,jR 3 Qc.cells v88,jR 6 Qd.cells x53])
noncomputable def f53r7n4:Nat→List Qd→Qe→Qa→Int→Int→Int→List Qc→Option f53r7n4O
 | 0,_,_,_,_,_,_,_=>none
 | f+1,x53,a1,a2,a3,v86,v87,v88 =>
  bif decide (v87<(x53.length:Int)) then
   (f53r7n3 v86 x53 v87 a1 a2 a3 v88).bind fun o99=>match o99 with
   | .norm v101 v102=>(f53r7n4 f x53 a1 a2 a3 v101 (wr64 (v87+1)) v102)
   | .ret=>some (.ret v88)
  else
   some (.exit2 v88)
theorem f53r7n4_ok:∀(f:Nat)(x53:List Qd)(a1:Qe)(a2:Qa)(a3 v86 v87:Int)(v88:List Qc){o:f53r7n4O},f53r7n4 f x53 a1 a2 a3 v86 v87 v88=some o→TL Try.prog Try.f53.ntmps 7 f (cL (cL (Ql 3 (Ql 1 (Ql 1 c53))))) (f53r7n4S x53 a1 a2 a3 v86 v87 v88) (·=f53r7n4E x53 a1 a2 a3 o)
 | 0,_,_,_,_,_,_,_,o,h=>by rw [f53r7n4] at h; cases h
 | f+1,x53,a1,a2,a3,v86,v87,v88,o,h=>by
  rw [f53r7n4] at h;refine TL.body (K:=fun s=>∃v86:Int,∃v87:Int,∃v88:List Qc,s=(f53r7n4S x53 a1 a2 a3 v86 v87 v88)∧f53r7n4 f x53 a1 a2 a3 v86 v87 v88=some o) ?_ (by rintro _ ⟨v86,v87,v88,rfl,hk⟩; exact f53r7n4_ok f _ _ _ _ _ _ _ hk);rcases Qi h with ⟨h90,h⟩|⟨h90,h⟩
  ·refine rN Qh 2 [j3] [some true] [] [7,8] [0,7,41,42,43] (f53r7n3S v86 x53 v87 a1 a2 a3 v88) (ap h90 an) ?_;obtain ⟨o99,h100,h⟩:=Qf h;cases o99 with
   | norm v101 v102 =>
    refine T.oneN (by kernel_rfl) (f53r7n3_ok v86 x53 v87 a1 a2 a3 v88 h100) (st2:=(f53r7n3E v86 x53 v87 a1 a2 a3 v88 (.norm v101 v102)).2) rfl ?_;exact rE Qh [j3] [] [] [7,8] [0,7,41,42,43] (.norm,(f53r7n4S x53 a1 a2 a3 v101 (wr64 (v87+1)) v102)) an (Qu.norm ⟨v101,(wr64 (v87+1)),v102,rfl,h⟩)
   | ret =>
    obtain rfl:=Qg h;exact T.oneX' (by kernel_rfl) (f53r7n3_ok v86 x53 v87 a1 a2 a3 v88 h100) (tds:=[]) (m:=[7]) (keep:=[]) (st2:=(f53r7n4E x53 a1 a2 a3 (.ret v88)).2) (by kernel_rfl) an rfl (Qu.out rfl rfl)
  ·obtain rfl:=Qg h;exact rK Qh 2 [j3] [some false] [] [7] [] (.exit 2) ((f53r7n4E x53 a1 a2 a3 (.exit2 v88)).2) (ap h90 an) (Qu.out rfl rfl)
inductive f53r7n0O where
 | norm (v109:List Qc)
 | ret (v110:List Qc)
noncomputable def f53r7n0E(a1:Qe)(a2:Qa)(a3:Int)(a4:List Qc):f53r7n0O→Ex×Tr×Hp
 | .norm v109=>(.norm,mkS [],[some (.lp Qo .ready none (kL 63 [(5,(.bp 3 0)),(9,(.bp 4 0)),(10,(.bp 5 0))])),some (.box ((Qe.cells a1).map .pl)),some (.box ((Qa.cells a2).map .pl)),some (.box [(.own 7)]),some (.box (((cInt .i64) a3).map .pl)),some (.box [(.pl (.fn 57))]),none,jR 3 Qc.cells v109])
 | .ret v110=>(.ret,mkS [],[some (.lp Qo .done (some (.exit 2)) (kL 63 [(5,(.bp 3 0)),(9,(.bp 4 0)),(10,(.bp 5 0))])),some (.box ((Qe.cells a1).map .pl)),some (.box ((Qa.cells a2).map .pl)),some (.box [(.own 7)]),some (.box (((cInt .i64) a3).map .pl)),some (.box [(.pl (.fn 57))]),none,jR 3 Qc.cells v110])
noncomputable def f53r7n0S(a1:Qe)(a2:Qa)(a3:Int)(a4:List Qc):Tr×Hp:=(Qag [(.yl 0),(.bp 1 0),(.bp 2 0)] 0 .leaf,[some (.lp Qo .ready none (kL 63 [(5,(.bp 3 0)),(9,(.bp 4 0)),(10,(.bp 5 0))])),some (.box ((Qe.cells a1).map .pl)),some (.box ((Qa.cells a2).map .pl)),some (.box [(.own 6)]),some (.box (((cInt .i64) a3).map .pl)),some (.box [(.pl (.fn 57))]),jR 3 Qc.cells a4])
noncomputable def f53r7n0(a1:Qe)(a2:Qa)(a3:Int)(a4:List Qc):Option f53r7n0O :=
 (f53r7n1 a1 a2 a3 a4).bind fun o48=>match o48 with
 | .norm v50=>(f54r1 v50).bind fun x53 =>
  (f53r7n4 FUEL x53 a1 a2 a3 a2.Units 0 a4).bind fun o105=>match o105 with
  | .exit2 v107=>some (.norm v107)
  | .ret v108=>some (.ret v108)
theorem f53r7n0_ok(a1:Qe)(a2:Qa)(a3:Int)(a4:List Qc){o:f53r7n0O}(h:f53r7n0 a1 a2 a3 a4=some o):T Try.prog Try.f53.ntmps 7 c53 (f53r7n0S a1 a2 a3 a4) (·=f53r7n0E a1 a2 a3 a4 o):=by
 unfold f53r7n0 at h;refine rN Qh 1 [j3] [] [] [] [0,1,2,4] (f53r7n1S a1 a2 a3 a4) an ?_;obtain ⟨o48,h49,h⟩:=Qf h;cases o48 with
 | norm v50 =>
  refine T.oneN (by kernel_rfl) (f53r7n1_ok a1 a2 a3 a4 h49) (st2:=(f53r7n1E a1 a2 a3 a4 (.norm v50)).2) rfl ?_;obtain ⟨x53,h54,h⟩:=Qf h;refine rN Qh 3 [([],[(1,.call (.tup []) (jN 7 [jR 6 Qd.cells x53]))],[]),j3,([],[],[(1,.val (jI (x53.length:Int)))])] [] [.movC 3 0] [8,7] [0,7,41,42,43] (f53r7n4S x53 a1 a2 a3 a2.Units 0 a4) (ap (Qn.rn 8 [7] (f54r1_ok v50 h54)) (ap (Qad (xs:=x53) (c:=Qd.cells)) an)) ?_;obtain ⟨o105,h106,h⟩:=Qf h;cases o105 with
  | exit2 v107 =>
   obtain rfl:=Qg h;exact T.last' (T.bl (i:=2) (by kernel_rfl) (by kernel_rfl) (f53r7n4_ok FUEL x53 a1 a2 a3 a2.Units 0 a4 h106)) (tds:=[]) (m:=[7]) (keep:=[]) (st2:=(f53r7n0E a1 a2 a3 a4 (.norm v107)).2) (by kernel_rfl) an rfl
  | ret v108 =>
   obtain rfl:=Qg h;exact T.last' (T.bl (i:=2) (by kernel_rfl) (by kernel_rfl) (f53r7n4_ok FUEL x53 a1 a2 a3 a2.Units 0 a4 h106)) (tds:=[]) (m:=[7]) (keep:=[]) (st2:=(f53r7n0E a1 a2 a3 a4 (.ret v108)).2) (by kernel_rfl) an rfl
noncomputable def f53r7(a1:Qe)(a2:Qa)(a3:Int)(a4:List Qc):Option (Bool×(List Qc)):=(f53r7n0 a1 a2 a3 a4).bind fun o=>match o with
 | .norm v109=>some (true,v109)
 | .ret v110=>some (false,v110)
theorem f53r7_ok(a1:Qe)(a2:Qa)(a3:Int)(a4:List Qc){r:Bool×(List Qc)}(h:f53r7 a1 a2 a3 a4=some r):Qn Try.prog true 53 [(.yl 0),(.bp 1 0),(.bp 2 0)] [some (.lp Qo .ready none (kL 63 [(5,(.bp 3 0)),(9,(.bp 4 0)),(10,(.bp 5 0))])),some (.box ((Qe.cells a1).map .pl)),some (.box ((Qa.cells a2).map .pl)),some (.box [(.own 6)]),some (.box (((cInt .i64) a3).map .pl)),some (.box [(.pl (.fn 57))]),jR 3 Qc.cells a4] (.tup []) [some (.lp Qo (lstOf r.1) (pdOf r.1 (.exit 2)) (kL 63 [(5,(.bp 3 0)),(9,(.bp 4 0)),(10,(.bp 5 0))])),some (.box ((Qe.cells a1).map .pl)),some (.box ((Qa.cells a2).map .pl)),some (.box [(.own 7)]),some (.box (((cInt .i64) a3).map .pl)),some (.box [(.pl (.fn 57))]),none,jR 3 Qc.cells r.2]:=by
 unfold f53r7 at h;obtain ⟨o,ho,h⟩:=Qf h;cases o with
 | norm v109 =>
  obtain rfl:=Qg h;exact Qn.shared Qh (f:=Try.f53) (c:=c53) (by kernel_rfl) (by kernel_rfl) (by kernel_rfl) ((f53r7n0_ok a1 a2 a3 a4 ho).mono fun r e=>by subst e; exact ⟨.inr rfl,by kernel_rfl,by kernel_rfl⟩)
 | ret v110 =>
  obtain rfl:=Qg h;exact Qn.shared Qh (f:=Try.f53) (c:=c53) (by kernel_rfl) (by kernel_rfl) (by kernel_rfl) ((f53r7n0_ok a1 a2 a3 a4 ho).mono fun r e=>by subst e; exact ⟨.inl rfl,by kernel_rfl,by kernel_rfl⟩)

inductive f53r8n2O where
 | exit0 (v43:List Qd)
noncomputable def f53r8n2E(ba1:Qe)(be2:Qa)(bd3:Int)(bg4:List Qc):f53r8n2O→Ex×Tr×Hp
 | .exit0 v43=>((.exit 0),mkS [(0,(.yl 0)),(2,(.bp 2 0)),(4,(.own 7))],[some (.lp Qo .ready none (kL 63 [(5,(.bp 3 0)),(9,(.bp 4 0)),(10,(.bp 5 0))])),some (.box ((Qe.cells ba1).map .pl)),some (.box ((Qa.cells be2).map .pl)),some (.box [(.own 6)]),some (.box (((cInt .i64) bd3).map .pl)),some (.box [(.pl .nilf)]),jR 3 Qc.cells bg4,jR 6 Qd.cells v43])
noncomputable def f53r8n2S(ba1:Qe)(be2:Qa)(bd3:Int)(bg4:List Qc)(v29:Int)(v30:List Qd):Tr×Hp:=(mkS [(0,(.yl 0)),(2,(.bp 2 0)),(4,(.own 7)),(11,(jL 4 Qb.cells ba1.Bids)),(12,(jI (ba1.Bids.length:Int))),(13,(jI v29))],[some (.lp Qo .ready none (kL 63 [(5,(.bp 3 0)),(9,(.bp 4 0)),(10,(.bp 5 0))])),some (.box ((Qe.cells ba1).map .pl)),some (.box ((Qa.cells be2).map .pl)),some (.box [(.own 6)]),some (.box (((cInt .i64) bd3).map .pl)),some (.box [(.pl .nilf)]),jR 3 Qc.cells bg4,jR 6 Qd.cells v30])
noncomputable def f53r8n2:Nat→Qe→Qa→Int→List Qc→Int→List Qd→Option f53r8n2O
 | 0,_,_,_,_,_,_=>none
 | f+1,ba1,be2,bd3,bg4,v29,v30 =>
  bif decide (v29<(ba1.Bids.length:Int)) then
   (at? ba1.Bids v29).bind fun x38 =>
   bif (seq x38.Lot be2.Name) then
    bif decide (be2.Reserve≤x38.Price) then
     req (fit (v30.length+1) 64) <|
     (f53r8n2 f ba1 be2 bd3 bg4 (wr64 (v29+1)) (v30++[(Qd.mk v29 0 x38)]))
    else
     (f53r8n2 f ba1 be2 bd3 bg4 (wr64 (v29+1)) v30)
   else
    (f53r8n2 f ba1 be2 bd3 bg4 (wr64 (v29+1)) v30)
  else
   some (.exit0 v30)
theorem f53r8n2_ok:∀(f:Nat)(ba1:Qe)(be2:Qa)(bd3:Int)(bg4:List Qc)(v29:Int)(v30:List Qd){o:f53r8n2O},f53r8n2 f ba1 be2 bd3 bg4 v29 v30=some o→TL Try.prog Try.f53.ntmps 7 f (cL (cL (Ql 1 (cL (Ql 1 c53))))) (f53r8n2S ba1 be2 bd3 bg4 v29 v30) (·=f53r8n2E ba1 be2 bd3 bg4 o)
 | 0,_,_,_,_,_,_,o,h=>by rw [f53r8n2] at h; cases h
 | f+1,ba1,be2,bd3,bg4,v29,v30,o,h=>by
  rw [f53r8n2] at h;refine TL.body (K:=fun s=>∃v29:Int,∃v30:List Qd,s=(f53r8n2S ba1 be2 bd3 bg4 v29 v30)∧f53r8n2 f ba1 be2 bd3 bg4 v29 v30=some o) ?_ (by rintro _ ⟨v29,v30,rfl,hk⟩; exact f53r8n2_ok f _ _ _ _ _ _ hk);rcases Qi h with ⟨h32,h⟩|⟨h32,h⟩
  ·obtain ⟨x38,h39,h⟩:=Qf h;rcases Qi h with ⟨h40,h⟩|⟨h40,h⟩
   ·rcases Qi h with ⟨h41,h⟩|⟨h41,h⟩
    ·obtain ⟨h42,h⟩:=Qal h;exact rE Qh [j3,([],[(1,.idx (Int.toNat v29) (Qb.cells x38))],[]),(jT [6,7,8,9,10],[(11,.bool true)],[]),([],[(5,.fits)],[(5,.row 10 ((v30++[(Qd.mk v29 0 x38)]).map Qd.cells))]),j3] [some true,some true] [] [10] [0,2,4,11,12,13] (.norm,(f53r8n2S ba1 be2 bd3 bg4 (wr64 (v29+1)) (v30++[(Qd.mk v29 0 x38)]))) (ap h32 (ap (Qk h39).1 (ap (Qq Qb.cells (Qk h39).2) (ap2 h40 (ap4 h40 (ap h41 (ap (fit_map (te:=ti78) (xs:=v30) (n:=1) (c:=Qd.cells) h42 rfl) (ap (app_cv (xs:=v30) (ys:=[(Qd.mk v29 0 x38)]) (c:=Qd.cells)) an)))))))) (Qu.norm ⟨(wr64 (v29+1)),(v30++[(Qd.mk v29 0 x38)]),rfl,h⟩)
    ·exact rE Qh [j3,([],[(1,.idx (Int.toNat v29) (Qb.cells x38))],[]),(jT [6,7,8,9,10],[(11,.bool true)],[]),j3] [some true,some false] [] [7] [0,2,4,11,12,13] (.norm,(f53r8n2S ba1 be2 bd3 bg4 (wr64 (v29+1)) v30)) (ap h32 (ap (Qk h39).1 (ap (Qq Qb.cells (Qk h39).2) (ap2 h40 (ap4 h40 (ap h41 an)))))) (Qu.norm ⟨(wr64 (v29+1)),v30,rfl,h⟩)
   ·exact rE Qh [j3,([],[(1,.idx (Int.toNat v29) (Qb.cells x38))],[]),(jF [6,7,8,9,10],[(11,.bool false)],[]),j3] [some true,none] [] [7] [0,2,4,11,12,13] (.norm,(f53r8n2S ba1 be2 bd3 bg4 (wr64 (v29+1)) v30)) (ap h32 (ap (Qk h39).1 (ap (Qq Qb.cells (Qk h39).2) (ap2 h40 (ap4 h40 an))))) (Qu.norm ⟨(wr64 (v29+1)),v30,rfl,h⟩)
  ·obtain rfl:=Qg h;exact rK Qh 2 [j3] [some false] [] [7] [0,2,4] (.exit 0) ((f53r8n2E ba1 be2 bd3 bg4 (.exit0 v30)).2) (ap h32 an) (Qu.out rfl rfl)
noncomputable def f53r8n2L(ba1:Qe)(be2:Qa)(bd3:Int)(bg4:List Qc):List Qb→Int→(List Qd)→Option f53r8n2O
 | [],v29,v30 =>
  some (.exit0 v30)
 | x0::rest,v29,v30 =>
  bif (seq x0.Lot be2.Name) then
   bif decide (be2.Reserve≤x0.Price) then
    req (fit (v30.length+1) 64) <|
    (f53r8n2L ba1 be2 bd3 bg4 rest (v29+1) (v30++[(Qd.mk v29 0 x0)]))
   else
    (f53r8n2L ba1 be2 bd3 bg4 rest (v29+1) v30)
  else
   (f53r8n2L ba1 be2 bd3 bg4 rest (v29+1) v30)
theorem f53r8n2L_eq(ba1:Qe)(be2:Qa)(bd3:Int)(bg4:List Qc):∀(rest:List Qb)(f k:Nat)(v30:List Qd),ba1.Bids.drop k=rest→ba1.Bids.length≤maxLen→rest.length<f→f53r8n2 f ba1 be2 bd3 bg4 (k:Int) v30=f53r8n2L ba1 be2 bd3 bg4 rest (k:Int) v30
 | _,0,_,_,_,_,hf=>absurd hf (Nat.not_lt_zero _)
 | [],f+1,k,v30,hd,hm,hf=>by
  have hk:¬((k:Int)<(ba1.Bids.length:Int)):=by have:=Qay hd; omega
  rw [f53r8n2,f53r8n2L];simp only [decide_eq_false hk,cond_false]
 | x0::rest,f+1,k,v30,hd,hm,hf=>by
  obtain ⟨hx,hlt,hd'⟩:=Qcb hd;have hk:(k:Int)<(ba1.Bids.length:Int):=by omega
  have hw:wr64 ((k:Int)+1)=(k:Int)+1:=wr64_of (by omega) (by unfold maxLen at hm; omega);have ih:∀(v30:List Qd),f53r8n2 f ba1 be2 bd3 bg4 ((k:Int)+1) v30=f53r8n2L ba1 be2 bd3 bg4 rest ((k:Int)+1) v30:=fun v30=>f53r8n2L_eq ba1 be2 bd3 bg4 rest f (k+1) v30 hd' hm (by simpa using hf);rw [f53r8n2,f53r8n2L];simp only [decide_eq_true hk,cond_true,at_nat,hx,Option.bind_some,hw,ih]
theorem f53r8n2_run(ba1:Qe)(be2:Qa)(bd3:Int)(bg4:List Qc)(v30:List Qd)(hm:ba1.Bids.length≤maxLen):f53r8n2 FUEL ba1 be2 bd3 bg4 0 v30=f53r8n2L ba1 be2 bd3 bg4 ba1.Bids 0 v30:=f53r8n2L_eq ba1 be2 bd3 bg4 ba1.Bids FUEL 0 v30 List.drop_zero hm (Qba hm)
inductive f53r8n1O where
 | norm (v47:List Qd)
noncomputable def f53r8n1E(ba1:Qe)(be2:Qa)(bd3:Int)(bg4:List Qc):f53r8n1O→Ex×Tr×Hp
 | .norm v47=>(.norm,mkS [(0,(.yl 0)),(2,(.bp 2 0)),(4,(.own 7))],[some (.lp Qo .ready none (kL 63 [(5,(.bp 3 0)),(9,(.bp 4 0)),(10,(.bp 5 0))])),some (.box ((Qe.cells ba1).map .pl)),some (.box ((Qa.cells be2).map .pl)),some (.box [(.own 6)]),some (.box (((cInt .i64) bd3).map .pl)),some (.box [(.pl .nilf)]),jR 3 Qc.cells bg4,jR 6 Qd.cells v47])
noncomputable def f53r8n1S(ba1:Qe)(be2:Qa)(bd3:Int)(bg4:List Qc):Tr×Hp:=(mkS [(0,(.yl 0)),(1,(.bp 1 0)),(2,(.bp 2 0)),(4,(.pl (.sl .nil 0 [])))],[some (.lp Qo .ready none (kL 63 [(5,(.bp 3 0)),(9,(.bp 4 0)),(10,(.bp 5 0))])),some (.box ((Qe.cells ba1).map .pl)),some (.box ((Qa.cells be2).map .pl)),some (.box [(.own 6)]),some (.box (((cInt .i64) bd3).map .pl)),some (.box [(.pl .nilf)]),jR 3 Qc.cells bg4])
noncomputable def f53r8n1(ba1:Qe)(be2:Qa)(bd3:Int)(bg4:List Qc):Option f53r8n1O :=
 (f53r8n2 FUEL ba1 be2 bd3 bg4 0 []).bind fun o44=>match o44 with
 | .exit0 v46=>some (.norm v46)
theorem f53r8n1_ok(ba1:Qe)(be2:Qa)(bd3:Int)(bg4:List Qc){o:f53r8n1O}(h:f53r8n1 ba1 be2 bd3 bg4=some o):T Try.prog Try.f53.ntmps 7 (cL (Ql 1 c53)) (f53r8n1S ba1 be2 bd3 bg4) (·=f53r8n1E ba1 be2 bd3 bg4 o):=by
 unfold f53r8n1 at h;refine rN Qh 1 [([],[],[(2,.val (jI (ba1.Bids.length:Int)))])] [] [.mat 4 6] [7] [0,2,4,11,12,13] (f53r8n2S ba1 be2 bd3 bg4 0 []) (ap (Qad (xs:=ba1.Bids) (c:=Qb.cells)) an) ?_;obtain ⟨o44,h45,h⟩:=Qf h;cases o44 with
 | exit0 v46 =>
  obtain rfl:=Qg h;exact T.last' (T.bl (i:=0) (by kernel_rfl) (by kernel_rfl) (f53r8n2_ok FUEL ba1 be2 bd3 bg4 0 [] h45)) (tds:=[]) (m:=[7]) (keep:=[0,2,4]) (st2:=(f53r8n1E ba1 be2 bd3 bg4 (.norm v46)).2) (by kernel_rfl) an rfl
inductive f53r8n3O where
 | norm (v97:Int) (v98:List Qc)
 | ret
noncomputable def f53r8n3E(bd1:Int)(bf2:List Qd)(bd3:Int)(ba4:Qe)(be5:Qa)(bd6:Int)(bg7:List Qc):f53r8n3O→Ex×Tr×Hp
 | .norm v97 v98=>(.norm,mkS [(0,(.yl 0)),(7,(jI v97)),(41,(.own 8)),(42,(jI (bf2.length:Int))),(43,(jI bd3))],[some (.lp Qo .ready none (kL 63 [(5,(.bp 3 0)),(9,(.bp 4 0)),(10,(.bp 5 0))])),some (.box ((Qe.cells ba4).map .pl)),some (.box ((Qa.cells be5).map .pl)),some (.box [(.own 7)]),some (.box (((cInt .i64) bd6).map .pl)),some (.box [(.pl .nilf)]),none,jR 3 Qc.cells v98,jR 6 Qd.cells bf2])
 | .ret=>(.ret,mkS [],[some (.lp Qo .done (some (.exit 2)) (kL 63 [(5,(.bp 3 0)),(9,(.bp 4 0)),(10,(.bp 5 0))])),some (.box ((Qe.cells ba4).map .pl)),some (.box ((Qa.cells be5).map .pl)),some (.box [(.own 7)]),some (.box (((cInt .i64) bd6).map .pl)),some (.box [(.pl .nilf)]),none,jR 3 Qc.cells bg7])
noncomputable def f53r8n3S(bd1:Int)(bf2:List Qd)(bd3:Int)(ba4:Qe)(be5:Qa)(bd6:Int)(bg7:List Qc):Tr×Hp:=(mkS [(0,(.yl 0)),(7,(jI bd1)),(41,(.own 8)),(42,(jI (bf2.length:Int))),(43,(jI bd3))],[some (.lp Qo .ready none (kL 63 [(5,(.bp 3 0)),(9,(.bp 4 0)),(10,(.bp 5 0))])),some (.box ((Qe.cells ba4).map .pl)),some (.box ((Qa.cells be5).map .pl)),some (.box [(.own 7)]),some (.box (((cInt .i64) bd6).map .pl)),some (.box [(.pl .nilf)]),none,jR 3 Qc.cells bg7,jR 6 Qd.cells bf2])
noncomputable def f53r8n3(bd1:Int)(bf2:List Qd)(bd3:Int)(ba4:Qe)(be5:Qa)(bd6:Int)(bg7:List Qc):Option f53r8n3O :=
 (at? bf2 bd3).bind fun x93 =>
 (f12y6n0 (Qd.mk x93.index (mnI bd1 x93.bid.Units) x93.bid) bd6 bg7).bind fun o95=>match o95 with
 | .exit2=>some .ret
 | .norm=>some (.norm (wr64 (bd1-(mnI bd1 x93.bid.Units))) (bg7++[(Qc.mk x93.index (mnI bd1 x93.bid.Units) x93.bid.Price)]))
theorem f53r8n3_ok(bd1:Int)(bf2:List Qd)(bd3:Int)(ba4:Qe)(be5:Qa)(bd6:Int)(bg7:List Qc){o:f53r8n3O}(h:f53r8n3 bd1 bf2 bd3 ba4 be5 bd6 bg7=some o):T Try.prog Try.f53.ntmps 7 (cL (Ql 2 (cL (cL (Ql 3 (Ql 1 (Ql 1 c53))))))) (f53r8n3S bd1 bf2 bd3 ba4 be5 bd6 bg7) (·=f53r8n3E bd1 bf2 bd3 ba4 be5 bd6 bg7 o):=by
 unfold f53r8n3 at h;refine T.block' (i:=3) (by kernel_rfl) ?_;obtain ⟨x93,h94,h⟩:=Qf h;refine rN Qh 3 [([],[(0,.at_ (Int.toNat bd3)),(1,.idx 0 (Qd.cells x93))],[]),j3,j3] [] [] [7,9,8] [0,7,9,41,42,43] (mkS [(0,(.yl 0)),(7,(jI (wr64 (bd1-(mnI bd1 x93.bid.Units))))),(9,(.bp 8 0)),(41,(.own 9)),(42,(jI (bf2.length:Int))),(43,(jI bd3))],[some (.lp Qo .ready none (kL 63 [(5,(.bp 3 0)),(9,(.bp 4 0)),(10,(.bp 5 0))])),some (.box ((Qe.cells ba4).map .pl)),some (.box ((Qa.cells be5).map .pl)),some (.box [(.own 7)]),some (.box (((cInt .i64) bd6).map .pl)),some (.box [(.pl .nilf)]),none,jR 3 Qc.cells bg7,some (.box ((Qd.cells (Qd.mk x93.index (mnI bd1 x93.bid.Units) x93.bid)).map .pl)),jR 6 Qd.cells bf2]) (ap (Qk h94).1 (ap (Qai Qd.cells (Qk h94).2) (ap (Qq Qd.cells (Qk h94).2) an))) ?_
 obtain ⟨o95,h96,h⟩:=Qf h;cases o95 with
 | exit2 =>
  refine T.oneN (by kernel_rfl) (yN Qh j3 2 false [some (.lp Qo .done (some (.exit 2)) (kL 63 [(5,(.bp 3 0)),(9,(.bp 4 0)),(10,(.bp 5 0))])),none,none,some (.box [(.own 7)]),some (.box (((cInt .i64) bd6).map .pl)),some (.box [(.pl .nilf)]),none,jR 3 Qc.cells bg7,none,none] [] [7,9] [0,7,41,42,43,60] (mkS [(0,(.yl 0)),(7,(jI (wr64 (bd1-(mnI bd1 x93.bid.Units))))),(41,(.own 8)),(42,(jI (bf2.length:Int))),(43,(jI bd3)),(60,(jB true))],[some (.lp Qo .done (some (.exit 2)) (kL 63 [(5,(.bp 3 0)),(9,(.bp 4 0)),(10,(.bp 5 0))])),some (.box ((Qe.cells ba4).map .pl)),some (.box ((Qa.cells be5).map .pl)),some (.box [(.own 7)]),some (.box (((cInt .i64) bd6).map .pl)),some (.box [(.pl .nilf)]),none,jR 3 Qc.cells bg7,jR 6 Qd.cells bf2]) (ap (Qbe.rn 10 [0,3,4,5,7] (f12y6_exit2 (Qd.mk x93.index (mnI bd1 x93.bid.Units) x93.bid) bd6 bg7 h96)) an)) rfl ?_
  obtain rfl:=Qg h;exact rE Qh [] [none] [] [7] [] (.ret,(f53r8n3E bd1 bf2 bd3 ba4 be5 bd6 bg7 .ret).2) an rfl
 | norm =>
  refine T.oneN (by kernel_rfl) (yN Qh j3 2 true [some (.lp Qo .ready none (kL 63 [(5,(.bp 3 0)),(9,(.bp 4 0)),(10,(.bp 5 0))])),none,none,some (.box [(.own 10)]),some (.box (((cInt .i64) bd6).map .pl)),some (.box [(.pl .nilf)]),none,none,none,none,some (.row false 3 ((bg7++[(Qc.mk x93.index (mnI bd1 x93.bid.Units) x93.bid.Price)]).map Qc.cells))] [] [10,9] [0,7,41,42,43,60] (mkS [(0,(.yl 0)),(7,(jI (wr64 (bd1-(mnI bd1 x93.bid.Units))))),(41,(.own 8)),(42,(jI (bf2.length:Int))),(43,(jI bd3)),(60,(jB false))],[some (.lp Qo .ready none (kL 63 [(5,(.bp 3 0)),(9,(.bp 4 0)),(10,(.bp 5 0))])),some (.box ((Qe.cells ba4).map .pl)),some (.box ((Qa.cells be5).map .pl)),some (.box [(.own 7)]),some (.box (((cInt .i64) bd6).map .pl)),some (.box [(.pl .nilf)]),none,some (.row false 3 ((bg7++[(Qc.mk x93.index (mnI bd1 x93.bid.Units) x93.bid.Price)]).map Qc.cells)),jR 6 Qd.cells bf2]) (ap (Qbe.rn 10 [0,3,4,5,7] (f12y6_norm (Qd.mk x93.index (mnI bd1 x93.bid.Units) x93.bid) bd6 bg7 h96)) an)) rfl ?_
  obtain rfl:=Qg h;exact rE Qh [] [none] [] [7,8] [0,7,41,42,43] (.norm,(f53r8n3E bd1 bf2 bd3 ba4 be5 bd6 bg7 (.norm (wr64 (bd1-(mnI bd1 x93.bid.Units))) (bg7++[(Qc.mk x93.index (mnI bd1 x93.bid.Units) x93.bid.Price)]))).2) an rfl
inductive f53r8n4O where
 | exit2 (v103:List Qc)
 | ret (v104:List Qc)
noncomputable def f53r8n4E(x53:List Qd)(a1:Qe)(a2:Qa)(a3:Int):f53r8n4O→Ex×Tr×Hp
 | .exit2 v103=>((.exit 2),mkS [],[some (.lp Qo .ready none (kL 63 [(5,(.bp 3 0)),(9,(.bp 4 0)),(10,(.bp 5 0))])),some (.box ((Qe.cells a1).map .pl)),some (.box ((Qa.cells a2).map .pl)),some (.box [(.own 7)]),some (.box (((cInt .i64) a3).map .pl)),some (.box [(.pl .nilf)]),none,jR 3 Qc.cells v103])
 | .ret v104=>(.ret,mkS [],[some (.lp Qo .done (some (.exit 2)) (kL 63 [(5,(.bp 3 0)),(9,(.bp 4 0)),(10,(.bp 5 0))])),some (.box ((Qe.cells a1).map .pl)),some (.box ((Qa.cells a2).map .pl)),some (.box [(.own 7)]),some (.box (((cInt .i64) a3).map .pl)),some (.box [(.pl .nilf)]),none,jR 3 Qc.cells v104])
noncomputable def f53r8n4S(x53:List Qd)(a1:Qe)(a2:Qa)(a3 v86 v87:Int)(v88:List Qc):Tr×Hp:=(mkS [(0,(.yl 0)),(7,(jI v86)),(41,(.own 8)),(42,(jI (x53.length:Int))),(43,(jI v87))],[some (.lp Qo .ready none (kL 63 [(5,(.bp 3 0)),(9,(.bp 4 0)),(10,(.bp 5 0))])),some (.box ((Qe.cells a1).map .pl)),some (.box ((Qa.cells a2).map .pl)),some (.box [(.own 7)]),some (.box (((cInt .i64) a3).map .pl)),some (.box [(.pl .nilf)]),none,jR 3 Qc.cells v88,jR 6 Qd.cells x53])
noncomputable def f53r8n4:Nat→List Qd→Qe→Qa→Int→Int→Int→List Qc→Option f53r8n4O
 | 0,_,_,_,_,_,_,_=>none
 | f+1,x53,a1,a2,a3,v86,v87,v88 =>
  bif decide (v87<(x53.length:Int)) then
   (f53r8n3 v86 x53 v87 a1 a2 a3 v88).bind fun o99=>match o99 with
   | .norm v101 v102=>(f53r8n4 f x53 a1 a2 a3 v101 (wr64 (v87+1)) v102)
   | .ret=>some (.ret v88)
  else
   some (.exit2 v88)
theorem f53r8n4_ok:∀(f:Nat)(x53:List Qd)(a1:Qe)(a2:Qa)(a3 v86 v87:Int)(v88:List Qc){o:f53r8n4O},f53r8n4 f x53 a1 a2 a3 v86 v87 v88=some o→TL Try.prog Try.f53.ntmps 7 f (cL (cL (Ql 3 (Ql 1 (Ql 1 c53))))) (f53r8n4S x53 a1 a2 a3 v86 v87 v88) (·=f53r8n4E x53 a1 a2 a3 o)
 | 0,_,_,_,_,_,_,_,o,h=>by rw [f53r8n4] at h; cases h
 | f+1,x53,a1,a2,a3,v86,v87,v88,o,h=>by
  rw [f53r8n4] at h;refine TL.body (K:=fun s=>∃v86:Int,∃v87:Int,∃v88:List Qc,s=(f53r8n4S x53 a1 a2 a3 v86 v87 v88)∧f53r8n4 f x53 a1 a2 a3 v86 v87 v88=some o) ?_ (by rintro _ ⟨v86,v87,v88,rfl,hk⟩; exact f53r8n4_ok f _ _ _ _ _ _ _ hk);rcases Qi h with ⟨h90,h⟩|⟨h90,h⟩
  ·refine rN Qh 2 [j3] [some true] [] [7,8] [0,7,41,42,43] (f53r8n3S v86 x53 v87 a1 a2 a3 v88) (ap h90 an) ?_;obtain ⟨o99,h100,h⟩:=Qf h;cases o99 with
   | norm v101 v102 =>
    refine T.oneN (by kernel_rfl) (f53r8n3_ok v86 x53 v87 a1 a2 a3 v88 h100) (st2:=(f53r8n3E v86 x53 v87 a1 a2 a3 v88 (.norm v101 v102)).2) rfl ?_;exact rE Qh [j3] [] [] [7,8] [0,7,41,42,43] (.norm,(f53r8n4S x53 a1 a2 a3 v101 (wr64 (v87+1)) v102)) an (Qu.norm ⟨v101,(wr64 (v87+1)),v102,rfl,h⟩)
   | ret =>
    obtain rfl:=Qg h;exact T.oneX' (by kernel_rfl) (f53r8n3_ok v86 x53 v87 a1 a2 a3 v88 h100) (tds:=[]) (m:=[7]) (keep:=[]) (st2:=(f53r8n4E x53 a1 a2 a3 (.ret v88)).2) (by kernel_rfl) an rfl (Qu.out rfl rfl)
  ·obtain rfl:=Qg h;exact rK Qh 2 [j3] [some false] [] [7] [] (.exit 2) ((f53r8n4E x53 a1 a2 a3 (.exit2 v88)).2) (ap h90 an) (Qu.out rfl rfl)
inductive f53r8n0O where
 | norm (v109:List Qc)
 | ret (v110:List Qc)
noncomputable def f53r8n0E(a1:Qe)(a2:Qa)(a3:Int)(a4:List Qc):f53r8n0O→Ex×Tr×Hp
 | .norm v109=>(.norm,mkS [],[some (.lp Qo .ready none (kL 63 [(5,(.bp 3 0)),(9,(.bp 4 0)),(10,(.bp 5 0))])),some (.box ((Qe.cells a1).map .pl)),some (.box ((Qa.cells a2).map .pl)),some (.box [(.own 7)]),some (.box (((cInt .i64) a3).map .pl)),some (.box [(.pl .nilf)]),none,jR 3 Qc.cells v109])
 | .ret v110=>(.ret,mkS [],[some (.lp Qo .done (some (.exit 2)) (kL 63 [(5,(.bp 3 0)),(9,(.bp 4 0)),(10,(.bp 5 0))])),some (.box ((Qe.cells a1).map .pl)),some (.box ((Qa.cells a2).map .pl)),some (.box [(.own 7)]),some (.box (((cInt .i64) a3).map .pl)),some (.box [(.pl .nilf)]),none,jR 3 Qc.cells v110])
noncomputable def f53r8n0S(a1:Qe)(a2:Qa)(a3:Int)(a4:List Qc):Tr×Hp:=(Qag [(.yl 0),(.bp 1 0),(.bp 2 0)] 0 .leaf,[some (.lp Qo .ready none (kL 63 [(5,(.bp 3 0)),(9,(.bp 4 0)),(10,(.bp 5 0))])),some (.box ((Qe.cells a1).map .pl)),some (.box ((Qa.cells a2).map .pl)),some (.box [(.own 6)]),some (.box (((cInt .i64) a3).map .pl)),some (.box [(.pl .nilf)]),jR 3 Qc.cells a4])
noncomputable def f53r8n0(a1:Qe)(a2:Qa)(a3:Int)(a4:List Qc):Option f53r8n0O :=
 (f53r8n1 a1 a2 a3 a4).bind fun o48=>match o48 with
 | .norm v50=>(f54r1 v50).bind fun x53 =>
  (f53r8n4 FUEL x53 a1 a2 a3 a2.Units 0 a4).bind fun o105=>match o105 with
  | .exit2 v107=>some (.norm v107)
  | .ret v108=>some (.ret v108)
theorem f53r8n0_ok(a1:Qe)(a2:Qa)(a3:Int)(a4:List Qc){o:f53r8n0O}(h:f53r8n0 a1 a2 a3 a4=some o):T Try.prog Try.f53.ntmps 7 c53 (f53r8n0S a1 a2 a3 a4) (·=f53r8n0E a1 a2 a3 a4 o):=by
 unfold f53r8n0 at h;refine rN Qh 1 [j3] [] [] [] [0,1,2,4] (f53r8n1S a1 a2 a3 a4) an ?_;obtain ⟨o48,h49,h⟩:=Qf h;cases o48 with
 | norm v50 =>
  refine T.oneN (by kernel_rfl) (f53r8n1_ok a1 a2 a3 a4 h49) (st2:=(f53r8n1E a1 a2 a3 a4 (.norm v50)).2) rfl ?_;obtain ⟨x53,h54,h⟩:=Qf h;refine rN Qh 3 [([],[(1,.call (.tup []) (jN 7 [jR 6 Qd.cells x53]))],[]),j3,([],[],[(1,.val (jI (x53.length:Int)))])] [] [.movC 3 0] [8,7] [0,7,41,42,43] (f53r8n4S x53 a1 a2 a3 a2.Units 0 a4) (ap (Qn.rn 8 [7] (f54r1_ok v50 h54)) (ap (Qad (xs:=x53) (c:=Qd.cells)) an)) ?_;obtain ⟨o105,h106,h⟩:=Qf h;cases o105 with
  | exit2 v107 =>
   obtain rfl:=Qg h;exact T.last' (T.bl (i:=2) (by kernel_rfl) (by kernel_rfl) (f53r8n4_ok FUEL x53 a1 a2 a3 a2.Units 0 a4 h106)) (tds:=[]) (m:=[7]) (keep:=[]) (st2:=(f53r8n0E a1 a2 a3 a4 (.norm v107)).2) (by kernel_rfl) an rfl
  | ret v108 =>
   obtain rfl:=Qg h;exact T.last' (T.bl (i:=2) (by kernel_rfl) (by kernel_rfl) (f53r8n4_ok FUEL x53 a1 a2 a3 a2.Units 0 a4 h106)) (tds:=[]) (m:=[7]) (keep:=[]) (st2:=(f53r8n0E a1 a2 a3 a4 (.ret v108)).2) (by kernel_rfl) an rfl
noncomputable def f53r8(a1:Qe)(a2:Qa)(a3:Int)(a4:List Qc):Option (Bool×(List Qc)):=(f53r8n0 a1 a2 a3 a4).bind fun o=>match o with
 | .norm v109=>some (true,v109)
 | .ret v110=>some (false,v110)
theorem f53r8_ok(a1:Qe)(a2:Qa)(a3:Int)(a4:List Qc){r:Bool×(List Qc)}(h:f53r8 a1 a2 a3 a4=some r):Qn Try.prog true 53 [(.yl 0),(.bp 1 0),(.bp 2 0)] [some (.lp Qo .ready none (kL 63 [(5,(.bp 3 0)),(9,(.bp 4 0)),(10,(.bp 5 0))])),some (.box ((Qe.cells a1).map .pl)),some (.box ((Qa.cells a2).map .pl)),some (.box [(.own 6)]),some (.box (((cInt .i64) a3).map .pl)),some (.box [(.pl .nilf)]),jR 3 Qc.cells a4] (.tup []) [some (.lp Qo (lstOf r.1) (pdOf r.1 (.exit 2)) (kL 63 [(5,(.bp 3 0)),(9,(.bp 4 0)),(10,(.bp 5 0))])),some (.box ((Qe.cells a1).map .pl)),some (.box ((Qa.cells a2).map .pl)),some (.box [(.own 7)]),some (.box (((cInt .i64) a3).map .pl)),some (.box [(.pl .nilf)]),none,jR 3 Qc.cells r.2]:=by
 unfold f53r8 at h;obtain ⟨o,ho,h⟩:=Qf h;cases o with
 | norm v109 =>
  obtain rfl:=Qg h;exact Qn.shared Qh (f:=Try.f53) (c:=c53) (by kernel_rfl) (by kernel_rfl) (by kernel_rfl) ((f53r8n0_ok a1 a2 a3 a4 ho).mono fun r e=>by subst e; exact ⟨.inr rfl,by kernel_rfl,by kernel_rfl⟩)
 | ret v110 =>
  obtain rfl:=Qg h;exact Qn.shared Qh (f:=Try.f53) (c:=c53) (by kernel_rfl) (by kernel_rfl) (by kernel_rfl) ((f53r8n0_ok a1 a2 a3 a4 ho).mono fun r e=>by subst e; exact ⟨.inl rfl,by kernel_rfl,by kernel_rfl⟩)

noncomputable def c38:Code:=Try.f38.body.getD .skip
inductive f38n0O where
 | ret (v7:Int)
def f38n0E(a1 a2:Qc):f38n0O→Ex×Tr×Hp
 | .ret v7=>(.ret,mkS [(4,(jI v7))],[])
def f38n0S(a1 a2:Qc):Tr×Hp:=(Qag [(jA Qc.cells a1),(jA Qc.cells a2)] 0 .leaf,[])
noncomputable def f38n0(a1 a2:Qc):Option f38n0O :=
 (f39 a1.Bid a2.Bid).bind fun x5 =>
 some (.ret x5)
theorem f38n0_ok(a1 a2:Qc){o:f38n0O}(h:f38n0 a1 a2=some o):T Try.prog Try.f38.ntmps 0 c38 (f38n0S a1 a2) (·=f38n0E a1 a2 o):=by
 unfold f38n0 at h;obtain ⟨x5,h6,h⟩:=Qf h;obtain rfl:=Qg h;exact rE Qh [j3,([],[jH 4 (jI x5)],[])] [] [] [] [4] (.ret,(f38n0E a1 a2 (.ret x5)).2) (ap (f39_ok a1.Bid a2.Bid h6) an) rfl
noncomputable def f38(a1 a2:Qc):Option Int:=(f38n0 a1 a2).bind fun o=>match o with
 | .ret v7=>some v7
theorem f38_ok(a1 a2:Qc){r:Int}(h:f38 a1 a2=some r):Qn Try.prog false 38 [(jA Qc.cells a1),(jA Qc.cells a2)] [] (jI r) []:=by
 unfold f38 at h;obtain ⟨o,ho,h⟩:=Qf h;cases o with
 | ret v7 =>
  obtain rfl:=Qg h;exact Qn.plain Qh (f:=Try.f38) (c:=c38) (by kernel_rfl) (by kernel_rfl) (by kernel_rfl) (by kernel_rfl) ((f38n0_ok a1 a2 ho).mono fun r e=>by subst e; exact ⟨.inl rfl,(jI v7),(jI v7),by kernel_rfl,by kernel_rfl,((Wk.refl _):Wk (jI v7) (jI v7))⟩)

instance:Inhabited Qc:=⟨(Qc.mk 0 0 0)⟩
def so37_38_good(xs:List Qc):Prop:=∃c:Qc→Qc→Int,(∀x y,f38 x y=some (c x y))∧Go.Sort.SWO (ltOf c)∧xs.length<4611686018427387904
open Classical in
noncomputable def so37_38(xs:List Qc):Option (List Qc):=if h:so37_38_good xs then some (sortL h.choose xs) else none
theorem so37_38_val{xs:List Qc}{c:Qc→Qc→Int}(hc:∀x y,f38 x y=some (c x y))(o:Go.Sort.SWO (ltOf c))(hl:xs.length<4611686018427387904):so37_38 xs=some (sortL c xs):=by
 have h:so37_38_good xs:=⟨c,hc,o,hl⟩;unfold so37_38;rw [dif_pos h];have e:h.choose=c:=funext fun x=>funext fun y=>Option.some.inj ((h.choose_spec.1 x y).symm.trans (hc x y));rw [e]
theorem so37_38_ok(xs:List Qc){r:List Qc}(h:so37_38 xs=some r) :
  Qn Try.prog true 37 [.own 0,.pl (.fn 38)] [some (.row false 3 (xs.map Qc.cells))] (.tup []) [some (.row false 3 (r.map Qc.cells))]:=by
 unfold so37_38 at h
 by_cases hc:so37_38_good xs
 ·rw [dif_pos hc] at h;obtain rfl:=Qg h;have hs:=hc.choose_spec;exact sort_callS (cells:=Qc.cells) so_lays rfl so_agg so_size (enters_of Try.func37 (by kernel_rfl) rfl) (fun _=>rfl) (fun x q hq=>by
   simp only [Qc.cells,List.mem_cons,List.not_mem_nil,or_false] at hq;rcases hq with rfl | rfl | rfl<;>rfl) _ hs.2.1 (fun x y=>f38_ok _ _ (hs.1 x y)) xs hs.2.2
 ·rw [dif_neg hc] at h; cases h


inductive f12n3O where
 | norm (v162:List Qc)
def f12n3E(ba1:Qe)(bd2 bd3:Int)(be4:Qa)(bg5:List Qc):f12n3O→Ex×Tr×Hp
 | .norm v162=>(.norm,mkS [(1,(.bp 0 0)),(2,(.pl (.sl .nil 0 []))),(3,(jI 0)),(5,(.bp 1 0)),(19,(jL 3 Qa.cells ba1.Lots)),(20,(jI (ba1.Lots.length:Int))),(21,(jI bd2))],[some (.box ((Qe.cells ba1).map .pl)),some (.box [(.own 2)]),jR 3 Qc.cells v162])
def f12n3S(ba1:Qe)(bd2 bd3:Int)(be4:Qa)(bg5:List Qc):Tr×Hp:=(mkS [(1,(.bp 0 0)),(2,(.pl (.sl .nil 0 []))),(3,(jI 0)),(5,(.bp 1 0)),(9,(.bp 2 0)),(10,(.bp 3 0)),(19,(jL 3 Qa.cells ba1.Lots)),(20,(jI (ba1.Lots.length:Int))),(21,(jI bd2)),(38,(.clo 53 [(.bp 4 0),(.bp 5 0)]))],[some (.box ((Qe.cells ba1).map .pl)),some (.box [(.own 6)]),some (.box (((cInt .i64) bd3).map .pl)),some (.box [(.pl (.fn 56))]),some (.box ((Qe.cells ba1).map .pl)),some (.box ((Qa.cells be4).map .pl)),jR 3 Qc.cells bg5])
noncomputable def f12n3(ba1:Qe)(bd2 bd3:Int)(be4:Qa)(bg5:List Qc):Option f12n3O :=
 (f53r6 ba1 be4 bd3 bg5).bind fun x159 =>
 bif x159.1 then
  some (.norm x159.2)
 else
  some (.norm x159.2)
theorem f12n3_ok(ba1:Qe)(bd2 bd3:Int)(be4:Qa)(bg5:List Qc){o:f12n3O}(h:f12n3 ba1 bd2 bd3 be4 bg5=some o):T Try.prog Try.f12.ntmps 0 (Ql 1 (Ql 4 (cL (cL (Ql 2 (cL (cL (Ql 1 (cL (Ql 3 c12)))))))))) (f12n3S ba1 bd2 bd3 be4 bg5) (·=f12n3E ba1 bd2 bd3 be4 bg5 o):=by
 unfold f12n3 at h;refine T.block' (i:=2) (by kernel_rfl) ?_;refine rN Qh 0 [] [] [] [0,1,2,3,4,5,6] [1,2,3,5,9,10,19,20,21,38] (mkS [(1,(.bp 0 0)),(2,(.pl (.sl .nil 0 []))),(3,(jI 0)),(5,(.bp 1 0)),(9,(.bp 2 0)),(10,(.bp 3 0)),(19,(jL 3 Qa.cells ba1.Lots)),(20,(jI (ba1.Lots.length:Int))),(21,(jI bd2)),(38,(.clo 53 [(.bp 4 0),(.bp 5 0)]))],[some (.box ((Qe.cells ba1).map .pl)),some (.box [(.own 6)]),some (.box (((cInt .i64) bd3).map .pl)),some (.box [(.pl (.fn 56))]),some (.box ((Qe.cells ba1).map .pl)),some (.box ((Qa.cells be4).map .pl)),jR 3 Qc.cells bg5]) an ?_;obtain ⟨x159,h160,h⟩:=Qf h;rcases Qi h with ⟨h161,h⟩|⟨h161,h⟩
 ·obtain rfl:=Qg h
  exact T.last' (rgN 53 [(.bp 4 0),(.bp 5 0)] [5,9,10] (.tup []) [none,some (.box [(.own 8)]),some (.box (((cInt .i64) bd3).map .pl)),some (.box [(.pl (.fn 56))]),some (.box ((Qe.cells ba1).map .pl)),some (.box ((Qa.cells be4).map .pl)),none,some (.lp Qo .ready none (kL 63 [(5,(.bp 1 0)),(9,(.bp 2 0)),(10,(.bp 3 0))])),jR 3 Qc.cells x159.2] none .ready (kL 63 [(5,(.bp 1 0)),(9,(.bp 2 0)),(10,(.bp 3 0))]) .norm [] [0,1,8] [1,2,3,5,19,20,21] (mkS [(1,(.bp 0 0)),(2,(.pl (.sl .nil 0 []))),(3,(jI 0)),(5,(.bp 1 0)),(19,(jL 3 Qa.cells ba1.Lots)),(20,(jI (ba1.Lots.length:Int))),(21,(jI bd2))],[some (.box ((Qe.cells ba1).map .pl)),some (.box [(.own 2)]),jR 3 Qc.cells x159.2]) (by have t_:=(Qn.rn 8 [7,4,5,1,2,3,6] (f53r6_ok ba1 be4 bd3 bg5 h160)); rw [h161] at t_; exact t_) an) (tds:=[]) (m:=[0,1,2]) (keep:=[1,2,3,5,19,20,21]) (st2:=(f12n3E ba1 bd2 bd3 be4 bg5 (.norm x159.2)).2) (by kernel_rfl) an rfl
 ·obtain rfl:=Qg h
  exact T.last' (rgN 53 [(.bp 4 0),(.bp 5 0)] [5,9,10] (.tup []) [none,some (.box [(.own 8)]),some (.box (((cInt .i64) bd3).map .pl)),some (.box [(.pl (.fn 56))]),some (.box ((Qe.cells ba1).map .pl)),some (.box ((Qa.cells be4).map .pl)),none,some (.lp Qo .done (some (.exit 2)) (kL 63 [(5,(.bp 1 0)),(9,(.bp 2 0)),(10,(.bp 3 0))])),jR 3 Qc.cells x159.2] (some (.exit 2)) .done (kL 63 [(5,(.bp 1 0)),(9,(.bp 2 0)),(10,(.bp 3 0))]) (.exit 2) [] [0,1,8] [1,2,3,5,19,20,21] (mkS [(1,(.bp 0 0)),(2,(.pl (.sl .nil 0 []))),(3,(jI 0)),(5,(.bp 1 0)),(19,(jL 3 Qa.cells ba1.Lots)),(20,(jI (ba1.Lots.length:Int))),(21,(jI bd2))],[some (.box ((Qe.cells ba1).map .pl)),some (.box [(.own 2)]),jR 3 Qc.cells x159.2]) (by have t_:=(Qn.rn 8 [7,4,5,1,2,3,6] (f53r6_ok ba1 be4 bd3 bg5 h160)); rw [h161] at t_; exact t_) an) (tds:=[]) (m:=[0,1,2]) (keep:=[1,2,3,5,19,20,21]) (st2:=(f12n3E ba1 bd2 bd3 be4 bg5 (.norm x159.2)).2) (by kernel_rfl) an rfl
inductive f12n4O where
 | norm (v174:List Qc)
def f12n4E(ba1:Qe)(bd2 bd3:Int)(be4:Qa)(bg5:List Qc):f12n4O→Ex×Tr×Hp
 | .norm v174=>(.norm,mkS [(1,(.bp 0 0)),(2,(.pl (.sl .nil 0 []))),(3,(jI 0)),(5,(.bp 1 0)),(19,(jL 3 Qa.cells ba1.Lots)),(20,(jI (ba1.Lots.length:Int))),(21,(jI bd2))],[some (.box ((Qe.cells ba1).map .pl)),some (.box [(.own 2)]),jR 3 Qc.cells v174])
def f12n4S(ba1:Qe)(bd2 bd3:Int)(be4:Qa)(bg5:List Qc):Tr×Hp:=(mkS [(1,(.bp 0 0)),(2,(.pl (.sl .nil 0 []))),(3,(jI 0)),(5,(.bp 1 0)),(9,(.bp 2 0)),(10,(.bp 3 0)),(19,(jL 3 Qa.cells ba1.Lots)),(20,(jI (ba1.Lots.length:Int))),(21,(jI bd2)),(38,(.clo 53 [(.bp 4 0),(.bp 5 0)]))],[some (.box ((Qe.cells ba1).map .pl)),some (.box [(.own 6)]),some (.box (((cInt .i64) bd3).map .pl)),some (.box [(.pl (.fn 57))]),some (.box ((Qe.cells ba1).map .pl)),some (.box ((Qa.cells be4).map .pl)),jR 3 Qc.cells bg5])
noncomputable def f12n4(ba1:Qe)(bd2 bd3:Int)(be4:Qa)(bg5:List Qc):Option f12n4O :=
 (f53r7 ba1 be4 bd3 bg5).bind fun x171 =>
 bif x171.1 then
  some (.norm x171.2)
 else
  some (.norm x171.2)
theorem f12n4_ok(ba1:Qe)(bd2 bd3:Int)(be4:Qa)(bg5:List Qc){o:f12n4O}(h:f12n4 ba1 bd2 bd3 be4 bg5=some o):T Try.prog Try.f12.ntmps 0 (Ql 1 (Ql 4 (cL (cL (Ql 2 (cL (cL (Ql 1 (cL (Ql 3 c12)))))))))) (f12n4S ba1 bd2 bd3 be4 bg5) (·=f12n4E ba1 bd2 bd3 be4 bg5 o):=by
 unfold f12n4 at h;refine T.block' (i:=2) (by kernel_rfl) ?_;refine rN Qh 0 [] [] [] [0,1,2,3,4,5,6] [1,2,3,5,9,10,19,20,21,38] (mkS [(1,(.bp 0 0)),(2,(.pl (.sl .nil 0 []))),(3,(jI 0)),(5,(.bp 1 0)),(9,(.bp 2 0)),(10,(.bp 3 0)),(19,(jL 3 Qa.cells ba1.Lots)),(20,(jI (ba1.Lots.length:Int))),(21,(jI bd2)),(38,(.clo 53 [(.bp 4 0),(.bp 5 0)]))],[some (.box ((Qe.cells ba1).map .pl)),some (.box [(.own 6)]),some (.box (((cInt .i64) bd3).map .pl)),some (.box [(.pl (.fn 57))]),some (.box ((Qe.cells ba1).map .pl)),some (.box ((Qa.cells be4).map .pl)),jR 3 Qc.cells bg5]) an ?_;obtain ⟨x171,h172,h⟩:=Qf h;rcases Qi h with ⟨h173,h⟩|⟨h173,h⟩
 ·obtain rfl:=Qg h
  exact T.last' (rgN 53 [(.bp 4 0),(.bp 5 0)] [5,9,10] (.tup []) [none,some (.box [(.own 8)]),some (.box (((cInt .i64) bd3).map .pl)),some (.box [(.pl (.fn 57))]),some (.box ((Qe.cells ba1).map .pl)),some (.box ((Qa.cells be4).map .pl)),none,some (.lp Qo .ready none (kL 63 [(5,(.bp 1 0)),(9,(.bp 2 0)),(10,(.bp 3 0))])),jR 3 Qc.cells x171.2] none .ready (kL 63 [(5,(.bp 1 0)),(9,(.bp 2 0)),(10,(.bp 3 0))]) .norm [] [0,1,8] [1,2,3,5,19,20,21] (mkS [(1,(.bp 0 0)),(2,(.pl (.sl .nil 0 []))),(3,(jI 0)),(5,(.bp 1 0)),(19,(jL 3 Qa.cells ba1.Lots)),(20,(jI (ba1.Lots.length:Int))),(21,(jI bd2))],[some (.box ((Qe.cells ba1).map .pl)),some (.box [(.own 2)]),jR 3 Qc.cells x171.2]) (by have t_:=(Qn.rn 8 [7,4,5,1,2,3,6] (f53r7_ok ba1 be4 bd3 bg5 h172)); rw [h173] at t_; exact t_) an) (tds:=[]) (m:=[0,1,2]) (keep:=[1,2,3,5,19,20,21]) (st2:=(f12n4E ba1 bd2 bd3 be4 bg5 (.norm x171.2)).2) (by kernel_rfl) an rfl
 ·obtain rfl:=Qg h
  exact T.last' (rgN 53 [(.bp 4 0),(.bp 5 0)] [5,9,10] (.tup []) [none,some (.box [(.own 8)]),some (.box (((cInt .i64) bd3).map .pl)),some (.box [(.pl (.fn 57))]),some (.box ((Qe.cells ba1).map .pl)),some (.box ((Qa.cells be4).map .pl)),none,some (.lp Qo .done (some (.exit 2)) (kL 63 [(5,(.bp 1 0)),(9,(.bp 2 0)),(10,(.bp 3 0))])),jR 3 Qc.cells x171.2] (some (.exit 2)) .done (kL 63 [(5,(.bp 1 0)),(9,(.bp 2 0)),(10,(.bp 3 0))]) (.exit 2) [] [0,1,8] [1,2,3,5,19,20,21] (mkS [(1,(.bp 0 0)),(2,(.pl (.sl .nil 0 []))),(3,(jI 0)),(5,(.bp 1 0)),(19,(jL 3 Qa.cells ba1.Lots)),(20,(jI (ba1.Lots.length:Int))),(21,(jI bd2))],[some (.box ((Qe.cells ba1).map .pl)),some (.box [(.own 2)]),jR 3 Qc.cells x171.2]) (by have t_:=(Qn.rn 8 [7,4,5,1,2,3,6] (f53r7_ok ba1 be4 bd3 bg5 h172)); rw [h173] at t_; exact t_) an) (tds:=[]) (m:=[0,1,2]) (keep:=[1,2,3,5,19,20,21]) (st2:=(f12n4E ba1 bd2 bd3 be4 bg5 (.norm x171.2)).2) (by kernel_rfl) an rfl
inductive f12n5O where
 | norm (v181:List Qc)
def f12n5E(ba1:Qe)(bd2:Int)(be3:Qa)(bg4:List Qc):f12n5O→Ex×Tr×Hp
 | .norm v181=>(.norm,mkS [(1,(.bp 0 0)),(2,(.pl (.sl .nil 0 []))),(3,(jI 0)),(5,(.bp 1 0)),(19,(jL 3 Qa.cells ba1.Lots)),(20,(jI (ba1.Lots.length:Int))),(21,(jI bd2))],[some (.box ((Qe.cells ba1).map .pl)),some (.box [(.own 2)]),jR 3 Qc.cells v181])
def f12n5S(ba1:Qe)(bd2:Int)(be3:Qa)(bg4:List Qc):Tr×Hp:=(mkS [(1,(.bp 0 0)),(2,(.pl (.sl .nil 0 []))),(3,(jI 0)),(5,(.bp 1 0)),(9,(.bp 2 0)),(10,(.bp 3 0)),(19,(jL 3 Qa.cells ba1.Lots)),(20,(jI (ba1.Lots.length:Int))),(21,(jI bd2)),(38,(.clo 53 [(.bp 4 0),(.bp 5 0)]))],[some (.box ((Qe.cells ba1).map .pl)),some (.box [(.own 6)]),some (.box (((cInt .i64) 0).map .pl)),some (.box [(.pl .nilf)]),some (.box ((Qe.cells ba1).map .pl)),some (.box ((Qa.cells be3).map .pl)),jR 3 Qc.cells bg4])
noncomputable def f12n5(ba1:Qe)(bd2:Int)(be3:Qa)(bg4:List Qc):Option f12n5O :=
 (f53r8 ba1 be3 0 bg4).bind fun x178 =>
 bif x178.1 then
  some (.norm x178.2)
 else
  some (.norm x178.2)
theorem f12n5_ok(ba1:Qe)(bd2:Int)(be3:Qa)(bg4:List Qc){o:f12n5O}(h:f12n5 ba1 bd2 be3 bg4=some o):T Try.prog Try.f12.ntmps 0 (Ql 1 (Ql 4 (cL (cL (Ql 2 (cL (cL (Ql 1 (cL (Ql 3 c12)))))))))) (f12n5S ba1 bd2 be3 bg4) (·=f12n5E ba1 bd2 be3 bg4 o):=by
 unfold f12n5 at h;refine T.block' (i:=2) (by kernel_rfl) ?_;refine rN Qh 0 [] [] [] [0,1,2,3,4,5,6] [1,2,3,5,9,10,19,20,21,38] (mkS [(1,(.bp 0 0)),(2,(.pl (.sl .nil 0 []))),(3,(jI 0)),(5,(.bp 1 0)),(9,(.bp 2 0)),(10,(.bp 3 0)),(19,(jL 3 Qa.cells ba1.Lots)),(20,(jI (ba1.Lots.length:Int))),(21,(jI bd2)),(38,(.clo 53 [(.bp 4 0),(.bp 5 0)]))],[some (.box ((Qe.cells ba1).map .pl)),some (.box [(.own 6)]),some (.box (((cInt .i64) 0).map .pl)),some (.box [(.pl .nilf)]),some (.box ((Qe.cells ba1).map .pl)),some (.box ((Qa.cells be3).map .pl)),jR 3 Qc.cells bg4]) an ?_;obtain ⟨x178,h179,h⟩:=Qf h;rcases Qi h with ⟨h180,h⟩|⟨h180,h⟩
 ·obtain rfl:=Qg h
  exact T.last' (rgN 53 [(.bp 4 0),(.bp 5 0)] [5,9,10] (.tup []) [none,some (.box [(.own 8)]),some (.box (((cInt .i64) 0).map .pl)),some (.box [(.pl .nilf)]),some (.box ((Qe.cells ba1).map .pl)),some (.box ((Qa.cells be3).map .pl)),none,some (.lp Qo .ready none (kL 63 [(5,(.bp 1 0)),(9,(.bp 2 0)),(10,(.bp 3 0))])),jR 3 Qc.cells x178.2] none .ready (kL 63 [(5,(.bp 1 0)),(9,(.bp 2 0)),(10,(.bp 3 0))]) .norm [] [0,1,8] [1,2,3,5,19,20,21] (mkS [(1,(.bp 0 0)),(2,(.pl (.sl .nil 0 []))),(3,(jI 0)),(5,(.bp 1 0)),(19,(jL 3 Qa.cells ba1.Lots)),(20,(jI (ba1.Lots.length:Int))),(21,(jI bd2))],[some (.box ((Qe.cells ba1).map .pl)),some (.box [(.own 2)]),jR 3 Qc.cells x178.2]) (by have t_:=(Qn.rn 8 [7,4,5,1,2,3,6] (f53r8_ok ba1 be3 0 bg4 h179)); rw [h180] at t_; exact t_) an) (tds:=[]) (m:=[0,1,2]) (keep:=[1,2,3,5,19,20,21]) (st2:=(f12n5E ba1 bd2 be3 bg4 (.norm x178.2)).2) (by kernel_rfl) an rfl
 ·obtain rfl:=Qg h
  exact T.last' (rgN 53 [(.bp 4 0),(.bp 5 0)] [5,9,10] (.tup []) [none,some (.box [(.own 8)]),some (.box (((cInt .i64) 0).map .pl)),some (.box [(.pl .nilf)]),some (.box ((Qe.cells ba1).map .pl)),some (.box ((Qa.cells be3).map .pl)),none,some (.lp Qo .done (some (.exit 2)) (kL 63 [(5,(.bp 1 0)),(9,(.bp 2 0)),(10,(.bp 3 0))])),jR 3 Qc.cells x178.2] (some (.exit 2)) .done (kL 63 [(5,(.bp 1 0)),(9,(.bp 2 0)),(10,(.bp 3 0))]) (.exit 2) [] [0,1,8] [1,2,3,5,19,20,21] (mkS [(1,(.bp 0 0)),(2,(.pl (.sl .nil 0 []))),(3,(jI 0)),(5,(.bp 1 0)),(19,(jL 3 Qa.cells ba1.Lots)),(20,(jI (ba1.Lots.length:Int))),(21,(jI bd2))],[some (.box ((Qe.cells ba1).map .pl)),some (.box [(.own 2)]),jR 3 Qc.cells x178.2]) (by have t_:=(Qn.rn 8 [7,4,5,1,2,3,6] (f53r8_ok ba1 be3 0 bg4 h179)); rw [h180] at t_; exact t_) an) (tds:=[]) (m:=[0,1,2]) (keep:=[1,2,3,5,19,20,21]) (st2:=(f12n5E ba1 bd2 be3 bg4 (.norm x178.2)).2) (by kernel_rfl) an rfl
inductive f12n2O where
 | norm (v185:List Qc)
def f12n2E(ba1:Qe)(bd2:Int)(bg3:List Qc):f12n2O→Ex×Tr×Hp
 | .norm v185=>(.norm,mkS [(1,(.bp 0 0)),(2,(.pl (.sl .nil 0 []))),(3,(jI 0)),(5,(.bp 1 0)),(19,(jL 3 Qa.cells ba1.Lots)),(20,(jI (ba1.Lots.length:Int))),(21,(jI bd2))],[some (.box ((Qe.cells ba1).map .pl)),some (.box [(.own 2)]),jR 3 Qc.cells v185])
def f12n2S(ba1:Qe)(bd2:Int)(bg3:List Qc):Tr×Hp:=(mkS [(1,(.bp 0 0)),(2,(.pl (.sl .nil 0 []))),(3,(jI 0)),(5,(.bp 1 0)),(19,(jL 3 Qa.cells ba1.Lots)),(20,(jI (ba1.Lots.length:Int))),(21,(jI bd2))],[some (.box ((Qe.cells ba1).map .pl)),some (.box [(.own 2)]),jR 3 Qc.cells bg3])
noncomputable def f12n2(ba1:Qe)(bd2:Int)(bg3:List Qc):Option f12n2O :=
 (at? ba1.Lots bd2).bind fun x134 =>
 (f35r1 ba1 x134).bind fun x138 =>
 f36r1.bind fun x152 =>
 bif decide (ba1.Rule=1) then
  (f56r1 x134 ba1).bind fun x157 =>
  (f12n3 ba1 bd2 x157 x134 bg3).bind fun o163=>match o163 with
  | .norm v165=>some (.norm v165)
 else
  bif decide (ba1.Rule=2) then
   (f57r1 x134 ba1).bind fun x169 =>
   (f12n4 ba1 bd2 x169 x134 bg3).bind fun o175=>match o175 with
   | .norm v177=>some (.norm v177)
  else
   (f12n5 ba1 bd2 x134 bg3).bind fun o182=>match o182 with
   | .norm v184=>some (.norm v184)
theorem f12n2_ok(ba1:Qe)(bd2:Int)(bg3:List Qc){o:f12n2O}(h:f12n2 ba1 bd2 bg3=some o):T Try.prog Try.f12.ntmps 0 (cL (Ql 2 (cL (cL (Ql 1 (cL (Ql 3 c12))))))) (f12n2S ba1 bd2 bg3) (·=f12n2E ba1 bd2 bg3 o):=by
 unfold f12n2 at h;refine T.block' (i:=1) (by kernel_rfl) ?_;obtain ⟨x134,h135,h⟩:=Qf h;obtain ⟨x138,h139,h⟩:=Qf h;obtain ⟨x152,h153,h⟩:=Qf h;rcases Qi h with ⟨h154,h⟩|⟨h154,h⟩
 ·obtain ⟨x157,h158,h⟩:=Qf h
  refine rN Qh 4 [([],[(0,.idx (Int.toNat bd2) (Qa.cells x134))],[]),([],[(2,.call (.clo 53 [(.bp 4 0),(.bp 5 0)]) (jN 4 [some (.box ((Qe.cells ba1).map .pl)),some (.box ((Qa.cells x134).map .pl))]))],[]),([],[(0,.call (.mp 9) (jN 9 [some (.map [((.int .u8 1),(.fn 56)),((.int .u8 2),(.fn 57))])])),(3,.look (.fn 56) true)],[]),j3,([],[(3,.call (jI x157) (jN 4 [some (.box ((Qe.cells ba1).map .pl)),some (.box ((Qa.cells x134).map .pl)),none,none,none,none]))],[])] [none] [] [0,1,4,5,6,7,2] [1,2,3,5,8,9,10,19,20,21] (mkS [(1,(.bp 0 0)),(2,(.pl (.sl .nil 0 []))),(3,(jI 0)),(5,(.bp 1 0)),(8,(.clo 53 [(.bp 2 0),(.bp 3 0)])),(9,(.bp 4 0)),(10,(.bp 5 0)),(19,(jL 3 Qa.cells ba1.Lots)),(20,(jI (ba1.Lots.length:Int))),(21,(jI bd2))],[some (.box ((Qe.cells ba1).map .pl)),some (.box [(.own 6)]),some (.box ((Qe.cells ba1).map .pl)),some (.box ((Qa.cells x134).map .pl)),some (.box (((cInt .i64) x157).map .pl)),some (.box [(.pl (.fn 56))]),jR 3 Qc.cells bg3]) (ap (Qk h135).1 (ap (Qq Qa.cells (Qk h135).2) (ap (Qn.rn 4 [] (f35r1_ok ba1 x134 h139)) (ap (look_lit (e:=74) key_5 (z:=.nilf) (by kernel_rfl) ba1.Rule [(1,(.fn 56)),(2,(.fn 57))] (v:=(.fn 56)) (b:=true) (by simp only [mGet,mHas,h154,cond_true,cond_false,Bool.or_true,Bool.true_or,Bool.or_false,Bool.false_or]) (by simp only [mGet,mHas,h154,cond_true,cond_false,Bool.or_true,Bool.true_or,Bool.or_false,Bool.false_or])) (ap (Qn.rn 9 [] (f36r1_ok h153)) (ap (Qn.rn 10 [4,5] (f56r1_ok x134 ba1 h158)) an)))))) ?_
  refine rN Qh 1 [j3] [] [] [0,1,4,5,2,3,6] [1,2,3,5,9,10,19,20,21,38] (f12n3S ba1 bd2 x157 x134 bg3) an ?_;obtain ⟨o163,h164,h⟩:=Qf h;cases o163 with
  | norm v165 =>
   obtain rfl:=Qg h;exact T.last' (f12n3_ok ba1 bd2 x157 x134 bg3 h164) (tds:=[]) (m:=[0,1,2]) (keep:=[1,2,3,5,19,20,21]) (st2:=(f12n2E ba1 bd2 bg3 (.norm v165)).2) (by kernel_rfl) an rfl
 ·rcases Qi h with ⟨h166,h⟩|⟨h166,h⟩
  ·obtain ⟨x169,h170,h⟩:=Qf h
   refine rN Qh 4 [([],[(0,.idx (Int.toNat bd2) (Qa.cells x134))],[]),([],[(2,.call (.clo 53 [(.bp 4 0),(.bp 5 0)]) (jN 4 [some (.box ((Qe.cells ba1).map .pl)),some (.box ((Qa.cells x134).map .pl))]))],[]),([],[(0,.call (.mp 9) (jN 9 [some (.map [((.int .u8 1),(.fn 56)),((.int .u8 2),(.fn 57))])])),(3,.look (.fn 57) true)],[]),j3,([],[(3,.call (jI x169) (jN 4 [some (.box ((Qe.cells ba1).map .pl)),some (.box ((Qa.cells x134).map .pl)),none,none,none,none,some (.box (((cInt .i64) x169).map .pl))]))],[])] [none] [] [0,1,4,5,6,7,2] [1,2,3,5,8,9,10,19,20,21] (mkS [(1,(.bp 0 0)),(2,(.pl (.sl .nil 0 []))),(3,(jI 0)),(5,(.bp 1 0)),(8,(.clo 53 [(.bp 2 0),(.bp 3 0)])),(9,(.bp 4 0)),(10,(.bp 5 0)),(19,(jL 3 Qa.cells ba1.Lots)),(20,(jI (ba1.Lots.length:Int))),(21,(jI bd2))],[some (.box ((Qe.cells ba1).map .pl)),some (.box [(.own 6)]),some (.box ((Qe.cells ba1).map .pl)),some (.box ((Qa.cells x134).map .pl)),some (.box (((cInt .i64) x169).map .pl)),some (.box [(.pl (.fn 57))]),jR 3 Qc.cells bg3]) (ap (Qk h135).1 (ap (Qq Qa.cells (Qk h135).2) (ap (Qn.rn 4 [] (f35r1_ok ba1 x134 h139)) (ap (look_lit (e:=74) key_5 (z:=.nilf) (by kernel_rfl) ba1.Rule [(1,(.fn 56)),(2,(.fn 57))] (v:=(.fn 57)) (b:=true) (by simp only [mGet,mHas,h154,h166,cond_true,cond_false,Bool.or_true,Bool.true_or,Bool.or_false,Bool.false_or]) (by simp only [mGet,mHas,h154,h166,cond_true,cond_false,Bool.or_true,Bool.true_or,Bool.or_false,Bool.false_or])) (ap (Qn.rn 9 [] (f36r1_ok h153)) (ap (Qn.rn 10 [4,5] (f57r1_ok x134 ba1 h170)) an)))))) ?_
   refine rN Qh 1 [j3] [] [] [0,1,4,5,2,3,6] [1,2,3,5,9,10,19,20,21,38] (f12n4S ba1 bd2 x169 x134 bg3) an ?_;obtain ⟨o175,h176,h⟩:=Qf h;cases o175 with
   | norm v177 =>
    obtain rfl:=Qg h;exact T.last' (f12n4_ok ba1 bd2 x169 x134 bg3 h176) (tds:=[]) (m:=[0,1,2]) (keep:=[1,2,3,5,19,20,21]) (st2:=(f12n2E ba1 bd2 bg3 (.norm v177)).2) (by kernel_rfl) an rfl
  ·refine rN Qh 4 [([],[(0,.idx (Int.toNat bd2) (Qa.cells x134))],[]),([],[(2,.call (.clo 53 [(.bp 4 0),(.bp 5 0)]) (jN 4 [some (.box ((Qe.cells ba1).map .pl)),some (.box ((Qa.cells x134).map .pl))]))],[]),([],[(0,.call (.mp 9) (jN 9 [some (.map [((.int .u8 1),(.fn 56)),((.int .u8 2),(.fn 57))])])),(3,.look .nilf false)],[]),j3] [none] [] [0,1,4,5,6,7,2] [1,2,3,5,8,9,10,19,20,21] (mkS [(1,(.bp 0 0)),(2,(.pl (.sl .nil 0 []))),(3,(jI 0)),(5,(.bp 1 0)),(8,(.clo 53 [(.bp 2 0),(.bp 3 0)])),(9,(.bp 4 0)),(10,(.bp 5 0)),(19,(jL 3 Qa.cells ba1.Lots)),(20,(jI (ba1.Lots.length:Int))),(21,(jI bd2))],[some (.box ((Qe.cells ba1).map .pl)),some (.box [(.own 6)]),some (.box ((Qe.cells ba1).map .pl)),some (.box ((Qa.cells x134).map .pl)),some (.box (((cInt .i64) 0).map .pl)),some (.box [(.pl .nilf)]),jR 3 Qc.cells bg3]) (ap (Qk h135).1 (ap (Qq Qa.cells (Qk h135).2) (ap (Qn.rn 4 [] (f35r1_ok ba1 x134 h139)) (ap (look_lit (e:=74) key_5 (z:=.nilf) (by kernel_rfl) ba1.Rule [(1,(.fn 56)),(2,(.fn 57))] (v:=.nilf) (b:=false) (by simp only [mGet,mHas,h154,h166,cond_true,cond_false,Bool.or_true,Bool.true_or,Bool.or_false,Bool.false_or]) (by simp only [mGet,mHas,h154,h166,cond_true,cond_false,Bool.or_true,Bool.true_or,Bool.or_false,Bool.false_or])) (ap (Qn.rn 9 [] (f36r1_ok h153)) an))))) ?_
   refine rN Qh 1 [j3] [] [] [0,1,4,5,2,3,6] [1,2,3,5,9,10,19,20,21,38] (f12n5S ba1 bd2 x134 bg3) an ?_;obtain ⟨o182,h183,h⟩:=Qf h;cases o182 with
   | norm v184 =>
    obtain rfl:=Qg h;exact T.last' (f12n5_ok ba1 bd2 x134 bg3 h183) (tds:=[]) (m:=[0,1,2]) (keep:=[1,2,3,5,19,20,21]) (st2:=(f12n2E ba1 bd2 bg3 (.norm v184)).2) (by kernel_rfl) an rfl
inductive f12n6O where
 | exit0 (v189:List Qc)
def f12n6E(ba1:Qe):f12n6O→Ex×Tr×Hp
 | .exit0 v189=>((.exit 0),mkS [(5,(.bp 0 0))],[some (.box [(.own 1)]),jR 3 Qc.cells v189])
def f12n6S(ba1:Qe)(v128:Int)(v129:List Qc):Tr×Hp:=(mkS [(1,(.bp 0 0)),(2,(.pl (.sl .nil 0 []))),(3,(jI 0)),(5,(.bp 1 0)),(19,(jL 3 Qa.cells ba1.Lots)),(20,(jI (ba1.Lots.length:Int))),(21,(jI v128))],[some (.box ((Qe.cells ba1).map .pl)),some (.box [(.own 2)]),jR 3 Qc.cells v129])
noncomputable def f12n6:Nat→Qe→Int→List Qc→Option f12n6O
 | 0,_,_,_=>none
 | f+1,ba1,v128,v129 =>
  bif decide (v128<(ba1.Lots.length:Int)) then
   (f12n2 ba1 v128 v129).bind fun o186=>match o186 with
   | .norm v188=>(f12n6 f ba1 (wr64 (v128+1)) v188)
  else
   some (.exit0 v129)
theorem f12n6_ok:∀(f:Nat)(ba1:Qe)(v128:Int)(v129:List Qc){o:f12n6O},f12n6 f ba1 v128 v129=some o→TL Try.prog Try.f12.ntmps 0 f (cL (cL (Ql 1 (cL (Ql 3 c12))))) (f12n6S ba1 v128 v129) (·=f12n6E ba1 o)
 | 0,_,_,_,o,h=>by rw [f12n6] at h; cases h
 | f+1,ba1,v128,v129,o,h=>by
  rw [f12n6] at h;refine TL.body (K:=fun s=>∃v128:Int,∃v129:List Qc,s=(f12n6S ba1 v128 v129)∧f12n6 f ba1 v128 v129=some o) ?_ (by rintro _ ⟨v128,v129,rfl,hk⟩; exact f12n6_ok f _ _ _ hk);rcases Qi h with ⟨h131,h⟩|⟨h131,h⟩
  ·refine rN Qh 2 [j3] [some true] [] [0,1,2] [1,2,3,5,19,20,21] (f12n2S ba1 v128 v129) (ap h131 an) ?_;obtain ⟨o186,h187,h⟩:=Qf h;cases o186 with
   | norm v188 =>
    refine T.oneN (by kernel_rfl) (f12n2_ok ba1 v128 v129 h187) (st2:=(f12n2E ba1 v128 v129 (.norm v188)).2) rfl ?_;exact rE Qh [j3] [] [] [0,1,2] [1,2,3,5,19,20,21] (.norm,(f12n6S ba1 (wr64 (v128+1)) v188)) an (Qu.norm ⟨(wr64 (v128+1)),v188,rfl,h⟩)
  ·obtain rfl:=Qg h;exact rK Qh 2 [j3] [some false] [] [1,2] [5] (.exit 0) ((f12n6E ba1 (.exit0 v129)).2) (ap h131 an) (Qu.out rfl rfl)
inductive f12n1O where
 | norm (v193:List Qc)
def f12n1E(ba1:Qe):f12n1O→Ex×Tr×Hp
 | .norm v193=>(.norm,mkS [(5,(.bp 0 0))],[some (.box [(.own 1)]),jR 3 Qc.cells v193])
def f12n1S(ba1:Qe):Tr×Hp:=(mkS [(1,(.bp 0 0)),(2,(.pl (.sl .nil 0 []))),(3,(jI 0)),(5,(.bp 1 0))],[some (.box ((Qe.cells ba1).map .pl)),some (.box [(.pl (.sl .nil 0 []))])])
noncomputable def f12n1(ba1:Qe):Option f12n1O :=
 (f12n6 FUEL ba1 0 []).bind fun o190=>match o190 with
 | .exit0 v192=>some (.norm v192)
theorem f12n1_ok(ba1:Qe){o:f12n1O}(h:f12n1 ba1=some o):T Try.prog Try.f12.ntmps 0 (cL (Ql 3 c12)) (f12n1S ba1) (·=f12n1E ba1 o):=by
 unfold f12n1 at h;refine rN Qh 1 [([],[],[(2,.val (jI (ba1.Lots.length:Int)))])] [] [.matC 1 0 3] [0,1,2] [1,2,3,5,19,20,21] (f12n6S ba1 0 []) (ap (Qad (xs:=ba1.Lots) (c:=Qa.cells)) an) ?_;obtain ⟨o190,h191,h⟩:=Qf h;cases o190 with
 | exit0 v192 =>
  obtain rfl:=Qg h;exact T.last' (T.bl (i:=0) (by kernel_rfl) (by kernel_rfl) (f12n6_ok FUEL ba1 0 [] h191)) (tds:=[]) (m:=[0,1]) (keep:=[5]) (st2:=(f12n1E ba1 (.norm v192)).2) (by kernel_rfl) an rfl
inductive f12n0O where
 | ret (v201:Int) (v202:List Qc)
def f12n0E(a1:Qe):f12n0O→Ex×Tr×Hp
 | .ret v201 v202=>(.ret,mkS [(2,(.own 0)),(3,(jI v201))],[jR 3 Qc.cells v202])
def f12n0S(a1:Qe):Tr×Hp:=(Qag [(jA Qe.cells a1)] 0 .leaf,[])
noncomputable def f12n0(a1:Qe):Option f12n0O :=
 (f31 a1).bind fun x5 =>
 bif decide (x5=0) then
  (f12n1 a1).bind fun o194=>match o194 with
  | .norm v196=>(so37_38 v196).bind fun x199 =>
   some (.ret 0 x199)
 else
  some (.ret x5 [])
theorem f12n0_ok(a1:Qe){o:f12n0O}(h:f12n0 a1=some o):T Try.prog Try.f12.ntmps 0 c12 (f12n0S a1) (·=f12n0E a1 o):=by
 unfold f12n0 at h;obtain ⟨x5,h6,h⟩:=Qf h;rcases Qi h with ⟨h7,h⟩|⟨h7,h⟩
 ·refine rN Qh 3 [j3,([],[jH 1 (jI x5)],[]),j3,j3] [some false] [] [0,1] [1,2,3,5] (f12n1S a1) (ap (Qaq a1 h6) (ap (Qac h7) an)) ?_;obtain ⟨o194,h195,h⟩:=Qf h;cases o194 with
  | norm v196 =>
   refine T.oneN (by kernel_rfl) (f12n1_ok a1 h195) (st2:=(f12n1E a1 (.norm v196)).2) rfl ?_;obtain ⟨x199,h200,h⟩:=Qf h;obtain rfl:=Qg h;exact rE Qh [([],[(1,.call (.tup []) [none,jR 3 Qc.cells x199])],[]),j3] [] [] [1] [2,3] (.ret,(f12n0E a1 (.ret 0 x199)).2) (ap (Qn.rn 2 [1] (so37_38_ok v196 h200)) an) rfl
 ·obtain rfl:=Qg h;exact rK Qh 2 [j3,([],[jH 1 (jI x5)],[]),j3,j3] [some true] [.mat 2 3] [1] [2,3] .ret ((f12n0E a1 (.ret x5 [])).2) (ap (Qaq a1 h6) (ap (Qak h7) an)) rfl
noncomputable def f12(a1:Qe):Option ((List Qc)×Int):=(f12n0 a1).bind fun o=>match o with
 | .ret v201 v202=>some (v202,v201)
theorem f12_ok(a1:Qe){r:(List Qc)×Int}(h:f12 a1=some r):Qn Try.prog false 12 [(jA Qe.cells a1)] [] (.tup [(jL 3 Qc.cells r.1),(jI r.2)]) []:=by
 unfold f12 at h;obtain ⟨o,ho,h⟩:=Qf h;cases o with
 | ret v201 v202 =>
  obtain rfl:=Qg h;exact Qn.plain Qh (f:=Try.f12) (c:=c12) (by kernel_rfl) (by kernel_rfl) (by kernel_rfl) (by kernel_rfl) ((f12n0_ok a1 ho).mono fun r e=>by subst e; exact ⟨.inl rfl,(.tup [(.own 0),(jI v201)]),(.tup [(jL 3 Qc.cells v202),(jI v201)]),by kernel_rfl,by kernel_rfl,((Wk.refl _):Wk (.tup [(jL 3 Qc.cells v202),(jI v201)]) (.tup [(jL 3 Qc.cells v202),(jI v201)]))⟩)
end Go.Proofs.Ythpceddjepbamaa
namespace Go.Proofs.Ythpceddjepbamaa
set_option linter.unusedVariables false
set_option linter.unusedSimpArgs false
set_option maxRecDepth 100000
open Go.RowKit
noncomputable def c42:Code:=Try.f42.body.getD .skip
inductive f42r1n0O where
 | ret
def f42r1n0E(a1:Qb)(a2:ByteArray):f42r1n0O→Ex×Tr×Hp
 | .ret=>(.ret,mkS [(3,(.pl (.bool (seq a1.Member a2))))],[some (.box ((cStr a2).map .pl))])
def f42r1n0S(a1:Qb)(a2:ByteArray):Tr×Hp:=(Qag [(jA Qb.cells a1),(.bp 0 0)] 0 .leaf,[some (.box ((cStr a2).map .pl))])
noncomputable def f42r1n0(a1:Qb)(a2:ByteArray):Option f42r1n0O :=
 some .ret
theorem f42r1n0_ok(a1:Qb)(a2:ByteArray){o:f42r1n0O}(h:f42r1n0 a1 a2=some o):T Try.prog Try.f42.ntmps 1 c42 (f42r1n0S a1 a2) (·=f42r1n0E a1 a2 o):=by
 unfold f42r1n0 at h;obtain rfl:=Qg h;exact rE Qh [j3,j3] [] [] [] [3] (.ret,(f42r1n0E a1 a2 .ret).2) an rfl
noncomputable def f42r1(a1:Qb)(a2:ByteArray):Option Unit:=(f42r1n0 a1 a2).bind fun o=>match o with
 | .ret=>some ()
theorem f42r1_ok(a1:Qb)(a2:ByteArray){r:Unit}(h:f42r1 a1 a2=some r):Qn Try.prog true 42 [(jA Qb.cells a1),(.bp 0 0)] [some (.box ((cStr a2).map .pl))] (.pl (.bool (seq a1.Member a2))) [some (.box ((cStr a2).map .pl))]:=by
 unfold f42r1 at h;obtain ⟨o,ho,h⟩:=Qf h;cases o with
 | ret =>
  obtain rfl:=Qg h;exact Qn.shared Qh (f:=Try.f42) (c:=c42) (by kernel_rfl) (by kernel_rfl) (by kernel_rfl) ((f42r1n0_ok a1 a2 ho).mono fun r e=>by subst e; exact ⟨.inl rfl,by kernel_rfl,by kernel_rfl⟩)

noncomputable def c40:Code:=Try.f40.body.getD .skip
inductive f40r1n2O where
 | exit0 (v59:Int)
def f40r1n2E(bh1:(List Qc)×Int)(bb2:ByteArray)(ba3:Qe):f40r1n2O→Ex×Tr×Hp
 | .exit0 v59=>((.exit 0),mkS [(7,(jI bh1.2)),(8,(jI v59))],[some (.box ((cStr bb2).map .pl))])
def f40r1n2S(bh1:(List Qc)×Int)(bb2:ByteArray)(ba3:Qe)(v41 v42:Int):Tr×Hp:=(mkS [(1,(.clo 42 [(.bp 0 0)])),(2,(.bp 1 0)),(7,(jI bh1.2)),(8,(jI v41)),(16,(jL 3 Qc.cells bh1.1)),(17,(jI (bh1.1.length:Int))),(18,(jI v42))],[some (.box ((cStr bb2).map .pl)),some (.box ((Qe.cells ba3).map .pl))])
noncomputable def f40r1n2:Nat→(List Qc)×Int→ByteArray→Qe→Int→Int→Option f40r1n2O
 | 0,_,_,_,_,_=>none
 | f+1,bh1,bb2,ba3,v41,v42 =>
  bif decide (v42<(bh1.1.length:Int)) then
   (at? bh1.1 v42).bind fun x52 =>
   (at? ba3.Bids x52.Bid).bind fun x54 =>
   (f42r1 x54 bb2).bind fun x56 =>
   bif (seq x54.Member bb2) then
    (f40r1n2 f bh1 bb2 ba3 (wr64 (v41+(wr64 (x52.Units*x52.Price)))) (wr64 (v42+1)))
   else
    (f40r1n2 f bh1 bb2 ba3 v41 (wr64 (v42+1)))
  else
   some (.exit0 v41)
theorem f40r1n2_ok:∀(f:Nat)(bh1:(List Qc)×Int)(bb2:ByteArray)(ba3:Qe)(v41 v42:Int){o:f40r1n2O},f40r1n2 f bh1 bb2 ba3 v41 v42=some o→TL Try.prog Try.f40.ntmps 1 f (cL (cL (Ql 1 (cL (Ql 3 c40))))) (f40r1n2S bh1 bb2 ba3 v41 v42) (·=f40r1n2E bh1 bb2 ba3 o)
 | 0,_,_,_,_,_,o,h=>by rw [f40r1n2] at h; cases h
 | f+1,bh1,bb2,ba3,v41,v42,o,h=>by
  rw [f40r1n2] at h;refine TL.body (K:=fun s=>∃v41:Int,∃v42:Int,s=(f40r1n2S bh1 bb2 ba3 v41 v42)∧f40r1n2 f bh1 bb2 ba3 v41 v42=some o) ?_ (by rintro _ ⟨v41,v42,rfl,hk⟩; exact f40r1n2_ok f _ _ _ _ _ hk);rcases Qi h with ⟨h44,h⟩|⟨h44,h⟩
  ·obtain ⟨x52,h53,h⟩:=Qf h;obtain ⟨x54,h55,h⟩:=Qf h;obtain ⟨x56,h57,h⟩:=Qf h;rcases Qi h with ⟨h58,h⟩|⟨h58,h⟩
   ·exact rE Qh [j3,([],[(0,.idx (Int.toNat v42) (Qc.cells x52))],[]),([],[(5,.idx (Int.toNat x52.Bid) (Qb.cells x54)),(7,.call (.pl (.bool (seq x54.Member bb2))) [some (.box ((cStr bb2).map .pl)),none,none])],[]),j3,j3] [some true,some true] [] [1] [1,2,7,8,16,17,18] (.norm,(f40r1n2S bh1 bb2 ba3 (wr64 (v41+(wr64 (x52.Units*x52.Price)))) (wr64 (v42+1)))) (ap h44 (ap (Qk h53).1 (ap (Qq Qc.cells (Qk h53).2) (ap (Qk h55).1 (ap (Qq Qb.cells (Qk h55).2) (ap (Qn.rn 3 [0] (f42r1_ok x54 bb2 h57)) (ap h58 an))))))) (Qu.norm ⟨(wr64 (v41+(wr64 (x52.Units*x52.Price)))),(wr64 (v42+1)),rfl,h⟩)
   ·exact rE Qh [j3,([],[(0,.idx (Int.toNat v42) (Qc.cells x52))],[]),([],[(5,.idx (Int.toNat x52.Bid) (Qb.cells x54)),(7,.call (.pl (.bool (seq x54.Member bb2))) [some (.box ((cStr bb2).map .pl)),none,none])],[]),j3] [some true,some false] [] [1] [1,2,7,8,16,17,18] (.norm,(f40r1n2S bh1 bb2 ba3 v41 (wr64 (v42+1)))) (ap h44 (ap (Qk h53).1 (ap (Qq Qc.cells (Qk h53).2) (ap (Qk h55).1 (ap (Qq Qb.cells (Qk h55).2) (ap (Qn.rn 3 [0] (f42r1_ok x54 bb2 h57)) (ap h58 an))))))) (Qu.norm ⟨v41,(wr64 (v42+1)),rfl,h⟩)
  ·obtain rfl:=Qg h;exact rK Qh 2 [j3] [some false] [] [] [7,8] (.exit 0) ((f40r1n2E bh1 bb2 ba3 (.exit0 v41)).2) (ap h44 an) (Qu.out rfl rfl)
noncomputable def f40r1n2L(bh1:(List Qc)×Int)(bb2:ByteArray)(ba3:Qe):List Qc→Int→Int→Option f40r1n2O
 | [],v41,v42 =>
  some (.exit0 v41)
 | x0::rest,v41,v42 =>
  (at? ba3.Bids x0.Bid).bind fun x54 =>
  (f42r1 x54 bb2).bind fun x56 =>
  bif (seq x54.Member bb2) then
   (f40r1n2L bh1 bb2 ba3 rest (wr64 (v41+(wr64 (x0.Units*x0.Price)))) (v42+1))
  else
   (f40r1n2L bh1 bb2 ba3 rest v41 (v42+1))
theorem f40r1n2L_eq(bh1:(List Qc)×Int)(bb2:ByteArray)(ba3:Qe):∀(rest:List Qc)(f k:Nat)(v41:Int),bh1.1.drop k=rest→bh1.1.length≤maxLen→rest.length<f→f40r1n2 f bh1 bb2 ba3 v41 (k:Int)=f40r1n2L bh1 bb2 ba3 rest v41 (k:Int)
 | _,0,_,_,_,_,hf=>absurd hf (Nat.not_lt_zero _)
 | [],f+1,k,v41,hd,hm,hf=>by
  have hk:¬((k:Int)<(bh1.1.length:Int)):=by have:=Qay hd; omega
  rw [f40r1n2,f40r1n2L];simp only [decide_eq_false hk,cond_false]
 | x0::rest,f+1,k,v41,hd,hm,hf=>by
  obtain ⟨hx,hlt,hd'⟩:=Qcb hd;have hk:(k:Int)<(bh1.1.length:Int):=by omega
  have hw:wr64 ((k:Int)+1)=(k:Int)+1:=wr64_of (by omega) (by unfold maxLen at hm; omega);have ih:∀(v41:Int),f40r1n2 f bh1 bb2 ba3 v41 ((k:Int)+1)=f40r1n2L bh1 bb2 ba3 rest v41 ((k:Int)+1):=fun v41=>f40r1n2L_eq bh1 bb2 ba3 rest f (k+1) v41 hd' hm (by simpa using hf);rw [f40r1n2,f40r1n2L];simp only [decide_eq_true hk,cond_true,at_nat,hx,Option.bind_some,hw,ih]
theorem f40r1n2_run(bh1:(List Qc)×Int)(bb2:ByteArray)(ba3:Qe)(v41:Int)(hm:bh1.1.length≤maxLen):f40r1n2 FUEL bh1 bb2 ba3 v41 0=f40r1n2L bh1 bb2 ba3 bh1.1 v41 0:=f40r1n2L_eq bh1 bb2 ba3 bh1.1 FUEL 0 v41 List.drop_zero hm (Qba hm)
inductive f40r1n1O where
 | norm (v63:Int)
def f40r1n1E(bh1:(List Qc)×Int)(bb2:ByteArray)(ba3:Qe):f40r1n1O→Ex×Tr×Hp
 | .norm v63=>(.norm,mkS [(7,(jI bh1.2)),(8,(jI v63))],[some (.box ((cStr bb2).map .pl))])
def f40r1n1S(bh1:(List Qc)×Int)(bb2:ByteArray)(ba3:Qe):Tr×Hp:=(mkS [(1,(.clo 42 [(.bp 0 0)])),(2,(.bp 1 0)),(6,(jL 3 Qc.cells bh1.1)),(7,(jI bh1.2)),(8,(jI 0))],[some (.box ((cStr bb2).map .pl)),some (.box ((Qe.cells ba3).map .pl))])
noncomputable def f40r1n1(bh1:(List Qc)×Int)(bb2:ByteArray)(ba3:Qe):Option f40r1n1O :=
 (f40r1n2 FUEL bh1 bb2 ba3 0 0).bind fun o60=>match o60 with
 | .exit0 v62=>some (.norm v62)
theorem f40r1n1_ok(bh1:(List Qc)×Int)(bb2:ByteArray)(ba3:Qe){o:f40r1n1O}(h:f40r1n1 bh1 bb2 ba3=some o):T Try.prog Try.f40.ntmps 1 (cL (Ql 3 c40)) (f40r1n1S bh1 bb2 ba3) (·=f40r1n1E bh1 bb2 ba3 o):=by
 unfold f40r1n1 at h;refine rN Qh 1 [([],[],[(1,.val (jI (bh1.1.length:Int)))])] [] [] [1] [1,2,7,8,16,17,18] (f40r1n2S bh1 bb2 ba3 0 0) (ap (Qad (xs:=bh1.1) (c:=Qc.cells)) an) ?_;obtain ⟨o60,h61,h⟩:=Qf h;cases o60 with
 | exit0 v62 =>
  obtain rfl:=Qg h;exact T.last' (T.bl (i:=0) (by kernel_rfl) (by kernel_rfl) (f40r1n2_ok FUEL bh1 bb2 ba3 0 0 h61)) (tds:=[]) (m:=[]) (keep:=[7,8]) (st2:=(f40r1n1E bh1 bb2 ba3 (.norm v62)).2) (by kernel_rfl) an rfl
inductive f40r1n0O where
 | ret (v67:Int) (v68:Int)
def f40r1n0E(a1:Qe)(a2:ByteArray):f40r1n0O→Ex×Tr×Hp
 | .ret v67 v68=>(.ret,mkS [(4,(jI v67)),(5,(jI v68))],[some (.box ((cStr a2).map .pl))])
def f40r1n0S(a1:Qe)(a2:ByteArray):Tr×Hp:=(Qag [(jA Qe.cells a1),(.clo 42 [(.bp 0 0)])] 0 .leaf,[some (.box ((cStr a2).map .pl))])
noncomputable def f40r1n0(a1:Qe)(a2:ByteArray):Option f40r1n0O :=
 (f12 a1).bind fun x5 =>
 (f40r1n1 x5 a2 a1).bind fun o64=>match o64 with
 | .norm v66=>some (.ret v66 x5.2)
theorem f40r1n0_ok(a1:Qe)(a2:ByteArray){o:f40r1n0O}(h:f40r1n0 a1 a2=some o):T Try.prog Try.f40.ntmps 1 c40 (f40r1n0S a1 a2) (·=f40r1n0E a1 a2 o):=by
 unfold f40r1n0 at h;obtain ⟨x5,h6,h⟩:=Qf h;refine rN Qh 3 [j3,([],[jH 1 (.tup [(jL 3 Qc.cells x5.1),(jI x5.2)])],[]),j3] [] [] [1] [1,2,6,7,8] (f40r1n1S x5 a2 a1) (ap (f12_ok a1 h6) an) ?_;obtain ⟨o64,h65,h⟩:=Qf h;cases o64 with
 | norm v66 =>
  refine T.oneN (by kernel_rfl) (f40r1n1_ok x5 a2 a1 h65) (st2:=(f40r1n1E x5 a2 a1 (.norm v66)).2) rfl ?_;obtain rfl:=Qg h;exact rE Qh [j3] [] [] [] [4,5] (.ret,(f40r1n0E a1 a2 (.ret v66 x5.2)).2) an rfl
noncomputable def f40r1(a1:Qe)(a2:ByteArray):Option (Int×Int):=(f40r1n0 a1 a2).bind fun o=>match o with
 | .ret v67 v68=>some (v67,v68)
theorem f40r1_ok(a1:Qe)(a2:ByteArray){r:Int×Int}(h:f40r1 a1 a2=some r):Qn Try.prog true 40 [(jA Qe.cells a1),(.clo 42 [(.bp 0 0)])] [some (.box ((cStr a2).map .pl))] (.tup [(jI r.1),(jI r.2)]) [some (.box ((cStr a2).map .pl))]:=by
 unfold f40r1 at h;obtain ⟨o,ho,h⟩:=Qf h;cases o with
 | ret v67 v68 =>
  obtain rfl:=Qg h;exact Qn.shared Qh (f:=Try.f40) (c:=c40) (by kernel_rfl) (by kernel_rfl) (by kernel_rfl) ((f40r1n0_ok a1 a2 ho).mono fun r e=>by subst e; exact ⟨.inl rfl,by kernel_rfl,by kernel_rfl⟩)

noncomputable def c16:Code:=Try.f16.body.getD .skip
inductive f16n0O where
 | ret (v7:Int) (v8:Int)
def f16n0E(a1:Qe)(a2:ByteArray):f16n0O→Ex×Tr×Hp
 | .ret v7 v8=>(.ret,mkS [(4,(jI v7)),(5,(jI v8))],[])
def f16n0S(a1:Qe)(a2:ByteArray):Tr×Hp:=(Qag [(jA Qe.cells a1),(jS a2)] 0 .leaf,[])
noncomputable def f16n0(a1:Qe)(a2:ByteArray):Option f16n0O :=
 (f40r1 a1 a2).bind fun x5 =>
 some (.ret x5.1 x5.2)
theorem f16n0_ok(a1:Qe)(a2:ByteArray){o:f16n0O}(h:f16n0 a1 a2=some o):T Try.prog Try.f16.ntmps 0 c16 (f16n0S a1 a2) (·=f16n0E a1 a2 o):=by
 unfold f16n0 at h;obtain ⟨x5,h6,h⟩:=Qf h;obtain rfl:=Qg h;exact rE Qh [j3,([],[(2,.call (.tup [(jI x5.1),(jI x5.2)]) [none,some (.box ((cStr a2).map .pl))])],[])] [] [] [] [4,5] (.ret,(f16n0E a1 a2 (.ret x5.1 x5.2)).2) (ap (Qn.rn 2 [1] (f40r1_ok a1 a2 h6)) an) rfl
noncomputable def f16(a1:Qe)(a2:ByteArray):Option (Int×Int):=(f16n0 a1 a2).bind fun o=>match o with
 | .ret v7 v8=>some (v7,v8)
theorem f16_ok(a1:Qe)(a2:ByteArray){r:Int×Int}(h:f16 a1 a2=some r):Qn Try.prog false 16 [(jA Qe.cells a1),(jS a2)] [] (.tup [(jI r.1),(jI r.2)]) []:=by
 unfold f16 at h;obtain ⟨o,ho,h⟩:=Qf h;cases o with
 | ret v7 v8 =>
  obtain rfl:=Qg h;exact Qn.plain Qh (f:=Try.f16) (c:=c16) (by kernel_rfl) (by kernel_rfl) (by kernel_rfl) (by kernel_rfl) ((f16n0_ok a1 a2 ho).mono fun r e=>by subst e; exact ⟨.inl rfl,(.tup [(jI v7),(jI v8)]),(.tup [(jI v7),(jI v8)]),by kernel_rfl,by kernel_rfl,((Wk.refl _):Wk (.tup [(jI v7),(jI v8)]) (.tup [(jI v7),(jI v8)]))⟩)

noncomputable def c34:Code:=Try.f34.body.getD .skip
inductive f34n0O where
 | ret (v9:Int)
def f34n0E(a1:Qe)(a2:ByteArray):f34n0O→Ex×Tr×Hp
 | .ret v9=>(.ret,mkS [(4,(jI v9))],[])
def f34n0S(a1:Qe)(a2:ByteArray):Tr×Hp:=(Qag [(jA Qe.cells a1),(jS a2)] 0 .leaf,[])
noncomputable def f34n0(a1:Qe)(a2:ByteArray):Option f34n0O :=
 (f16 a1 a2).bind fun x5 =>
 bif decide (x5.2=0) then
  some (.ret x5.1)
 else
  some (.ret (-1))
theorem f34n0_ok(a1:Qe)(a2:ByteArray){o:f34n0O}(h:f34n0 a1 a2=some o):T Try.prog Try.f34.ntmps 0 c34 (f34n0S a1 a2) (·=f34n0E a1 a2 o):=by
 unfold f34n0 at h;obtain ⟨x5,h6,h⟩:=Qf h;rcases Qi h with ⟨h8,h⟩|⟨h8,h⟩
 ·obtain rfl:=Qg h;exact rE Qh [j3,([],[jH 2 (.tup [(jI x5.1),(jI x5.2)])],[]),j3,j3] [some false] [] [] [4] (.ret,(f34n0E a1 a2 (.ret x5.1)).2) (ap (f16_ok a1 a2 h6) (ap (Qac h8) an)) rfl
 ·obtain rfl:=Qg h;exact rK Qh 3 [j3,([],[jH 2 (.tup [(jI x5.1),(jI x5.2)])],[]),j3,j3] [some true] [] [] [4] .ret ((f34n0E a1 a2 (.ret (-1))).2) (ap (f16_ok a1 a2 h6) (ap (Qak h8) an)) rfl
noncomputable def f34(a1:Qe)(a2:ByteArray):Option Int:=(f34n0 a1 a2).bind fun o=>match o with
 | .ret v9=>some v9
theorem Qbq(a1:Qe)(a2:ByteArray){r:Int}(h:f34 a1 a2=some r):Qn Try.prog false 34 [(jA Qe.cells a1),(jS a2)] [] (jI r) []:=by
 unfold f34 at h;obtain ⟨o,ho,h⟩:=Qf h;cases o with
 | ret v9 =>
  obtain rfl:=Qg h;exact Qn.plain Qh (f:=Try.f34) (c:=c34) (by kernel_rfl) (by kernel_rfl) (by kernel_rfl) (by kernel_rfl) ((f34n0_ok a1 a2 ho).mono fun r e=>by subst e; exact ⟨.inl rfl,(jI v9),(jI v9),by kernel_rfl,by kernel_rfl,((Wk.refl _):Wk (jI v9) (jI v9))⟩)

inductive f33r2n0O where
 | ret
def f33r2n0E(a1 a2:Int):f33r2n0O→Ex×Tr×Hp
 | .ret=>(.ret,mkS [(6,(.bp 0 0))],[some (.box [(.pl (.int .u8 a1)),(.own 1),(.own 2)]),some (.row false 3 ([(Qa.mk Qj 10 5)].map Qa.cells)),some (.row false 4 ([(Qb.mk Qr Qj 6 9),(Qb.mk Qs Qj a2 7),(Qb.mk Qw Qj 9 4)].map Qb.cells))])
def f33r2n0S(a1 a2:Int):Tr×Hp:=(Qag [(.pl (.int .u8 a1)),(jI a2),(jB false)] 0 .leaf,[])
noncomputable def f33r2n0(a1 a2:Int):Option f33r2n0O :=
 some .ret
theorem f33r2n0_ok(a1 a2:Int){o:f33r2n0O}(h:f33r2n0 a1 a2=some o):T Try.prog Try.f33.ntmps 0 c33 (f33r2n0S a1 a2) (·=f33r2n0E a1 a2 o):=by
 unfold f33r2n0 at h;obtain rfl:=Qg h;exact rE Qh [j3,j3,j3,j3] [none] [] [0,1,2] [6] (.ret,(f33r2n0E a1 a2 .ret).2) an rfl
noncomputable def f33r2(a1 a2:Int):Option Unit:=(f33r2n0 a1 a2).bind fun o=>match o with
 | .ret=>some ()
theorem f33r2_ok(a1 a2:Int){r:Unit}(h:f33r2 a1 a2=some r):Qn Try.prog true 33 [(.pl (.int .u8 a1)),(jI a2),(jB false)] [] (.agg [(.pl (.int .u8 a1)),(.own 1),(.own 2)]) [some (.box [(.pl (.int .u8 a1)),(.own 1),(.own 2)]),some (.row false 3 ([(Qa.mk Qj 10 5)].map Qa.cells)),some (.row false 4 ([(Qb.mk Qr Qj 6 9),(Qb.mk Qs Qj a2 7),(Qb.mk Qw Qj 9 4)].map Qb.cells))]:=by
 unfold f33r2 at h;obtain ⟨o,ho,h⟩:=Qf h;cases o with
 | ret =>
  obtain rfl:=Qg h;exact Qn.shared Qh (f:=Try.f33) (c:=c33) (by kernel_rfl) (by kernel_rfl) (by kernel_rfl) ((f33r2n0_ok a1 a2 ho).mono fun r e=>by subst e; exact ⟨.inl rfl,by kernel_rfl,by kernel_rfl⟩)

noncomputable def c10:Code:=Try.f10.body.getD .skip
inductive f10n1O where
 | norm (v43:Bool)
def f10n1E:f10n1O→Ex×Tr×Hp
 | .norm v43=>(.norm,mkS [(1,(jB v43))],[])
def f10n1S:Tr×Hp:=(mkS [],[])
noncomputable def f10n1:Option f10n1O :=
 (f33r1 0 6).bind fun x29 =>
 (f34 (Qe.mk 0 [(Qa.mk Qj 10 5)] [(Qb.mk Qr Qj 6 9),(Qb.mk Qs Qj 6 7),(Qb.mk Qw Qj 9 4),(Qb.mk Qap Qj 3 7)]) Qr).bind fun x31 =>
 bif decide (x31=54) then
  (f33r1 0 6).bind fun x34 =>
  (f34 (Qe.mk 0 [(Qa.mk Qj 10 5)] [(Qb.mk Qr Qj 6 9),(Qb.mk Qs Qj 6 7),(Qb.mk Qw Qj 9 4),(Qb.mk Qap Qj 3 7)]) Qs).bind fun x36 =>
  bif decide (x36=28) then
   (f33r1 0 6).bind fun x39 =>
   (f34 (Qe.mk 0 [(Qa.mk Qj 10 5)] [(Qb.mk Qr Qj 6 9),(Qb.mk Qs Qj 6 7),(Qb.mk Qw Qj 9 4),(Qb.mk Qap Qj 3 7)]) Qap).bind fun x41 =>
   some (.norm (decide (x41=0)))
  else
   some (.norm false)
 else
  some (.norm false)
theorem f10n1_ok{o:f10n1O}(h:f10n1=some o):T Try.prog Try.f10.ntmps 0 (cL (Ql 1 c10)) f10n1S (·=f10n1E o):=by
 unfold f10n1 at h;obtain ⟨x29,h30,h⟩:=Qf h;obtain ⟨x31,h32,h⟩:=Qf h;rcases Qi h with ⟨h33,h⟩|⟨h33,h⟩
 ·obtain ⟨x34,h35,h⟩:=Qf h;obtain ⟨x36,h37,h⟩:=Qf h;rcases Qi h with ⟨h38,h⟩|⟨h38,h⟩
  ·obtain ⟨x39,h40,h⟩:=Qf h;obtain ⟨x41,h42,h⟩:=Qf h;obtain rfl:=Qg h
   exact rE Qh [(jT [4,5,6,9,10,11],[(0,.call (.agg [(.pl (.int .u8 0)),(.own 1),(.own 2)]) [some (.box [(.pl (.int .u8 0)),(.own 1),(.own 2)]),some (.row false 3 ([(Qa.mk Qj 10 5)].map Qa.cells)),some (.row false 4 ([(Qb.mk Qr Qj 6 9),(Qb.mk Qs Qj 6 7),(Qb.mk Qw Qj 9 4),(Qb.mk Qap Qj 3 7)].map Qb.cells))]),jH 1 (jI x31),(4,.call (.agg [(.pl (.int .u8 0)),(.own 4),(.own 5)]) (jN 3 [some (.box [(.pl (.int .u8 0)),(.own 4),(.own 5)]),some (.row false 3 ([(Qa.mk Qj 10 5)].map Qa.cells)),some (.row false 4 ([(Qb.mk Qr Qj 6 9),(Qb.mk Qs Qj 6 7),(Qb.mk Qw Qj 9 4),(Qb.mk Qap Qj 3 7)].map Qb.cells))])),jH 5 (jI x36),(7,.bool true),(9,.call (.agg [(.pl (.int .u8 0)),(.own 7),(.own 8)]) (jN 6 [some (.box [(.pl (.int .u8 0)),(.own 7),(.own 8)]),some (.row false 3 ([(Qa.mk Qj 10 5)].map Qa.cells)),some (.row false 4 ([(Qb.mk Qr Qj 6 9),(Qb.mk Qs Qj 6 7),(Qb.mk Qw Qj 9 4),(Qb.mk Qap Qj 3 7)].map Qb.cells))])),jH 10 (jI x41),(12,.bool true)],[])] [] [] [] [1] (.norm,(f10n1E (.norm (decide (x41=0)))).2) (ap4 h33 (ap4 h38 (ap (Qao 0 6 h30) (ap (Qbq (Qe.mk 0 [(Qa.mk Qj 10 5)] [(Qb.mk Qr Qj 6 9),(Qb.mk Qs Qj 6 7),(Qb.mk Qw Qj 9 4),(Qb.mk Qap Qj 3 7)]) Qr h32) (ap (Qn.rn 3 [] (Qao 0 6 h35)) (ap (Qbq (Qe.mk 0 [(Qa.mk Qj 10 5)] [(Qb.mk Qr Qj 6 9),(Qb.mk Qs Qj 6 7),(Qb.mk Qw Qj 9 4),(Qb.mk Qap Qj 3 7)]) Qs h37) (ap (Qn.rn 6 [] (Qao 0 6 h40)) (ap (Qbq (Qe.mk 0 [(Qa.mk Qj 10 5)] [(Qb.mk Qr Qj 6 9),(Qb.mk Qs Qj 6 7),(Qb.mk Qw Qj 9 4),(Qb.mk Qap Qj 3 7)]) Qap h42) an)))))))) rfl
  ·obtain rfl:=Qg h
   exact rE Qh [(jF [9,10,11]++jT [4,5,6],[(0,.call (.agg [(.pl (.int .u8 0)),(.own 1),(.own 2)]) [some (.box [(.pl (.int .u8 0)),(.own 1),(.own 2)]),some (.row false 3 ([(Qa.mk Qj 10 5)].map Qa.cells)),some (.row false 4 ([(Qb.mk Qr Qj 6 9),(Qb.mk Qs Qj 6 7),(Qb.mk Qw Qj 9 4),(Qb.mk Qap Qj 3 7)].map Qb.cells))]),jH 1 (jI x31),(4,.call (.agg [(.pl (.int .u8 0)),(.own 4),(.own 5)]) (jN 3 [some (.box [(.pl (.int .u8 0)),(.own 4),(.own 5)]),some (.row false 3 ([(Qa.mk Qj 10 5)].map Qa.cells)),some (.row false 4 ([(Qb.mk Qr Qj 6 9),(Qb.mk Qs Qj 6 7),(Qb.mk Qw Qj 9 4),(Qb.mk Qap Qj 3 7)].map Qb.cells))])),jH 5 (jI x36),(7,.bool true),(12,.bool false)],[])] [] [] [] [1] (.norm,(f10n1E (.norm false)).2) (ap4 h33 (ap4 h38 (ap (Qao 0 6 h30) (ap (Qbq (Qe.mk 0 [(Qa.mk Qj 10 5)] [(Qb.mk Qr Qj 6 9),(Qb.mk Qs Qj 6 7),(Qb.mk Qw Qj 9 4),(Qb.mk Qap Qj 3 7)]) Qr h32) (ap (Qn.rn 3 [] (Qao 0 6 h35)) (ap (Qbq (Qe.mk 0 [(Qa.mk Qj 10 5)] [(Qb.mk Qr Qj 6 9),(Qb.mk Qs Qj 6 7),(Qb.mk Qw Qj 9 4),(Qb.mk Qap Qj 3 7)]) Qs h37) an)))))) rfl
 ·obtain rfl:=Qg h;exact rE Qh [(jF [4,5,6],[(0,.call (.agg [(.pl (.int .u8 0)),(.own 1),(.own 2)]) [some (.box [(.pl (.int .u8 0)),(.own 1),(.own 2)]),some (.row false 3 ([(Qa.mk Qj 10 5)].map Qa.cells)),some (.row false 4 ([(Qb.mk Qr Qj 6 9),(Qb.mk Qs Qj 6 7),(Qb.mk Qw Qj 9 4),(Qb.mk Qap Qj 3 7)].map Qb.cells))]),jH 1 (jI x31),(7,.bool false)],[])] [] [] [] [1] (.norm,(f10n1E (.norm false)).2) (ap4 h33 (ap (Qao 0 6 h30) (ap (Qbq (Qe.mk 0 [(Qa.mk Qj 10 5)] [(Qb.mk Qr Qj 6 9),(Qb.mk Qs Qj 6 7),(Qb.mk Qw Qj 9 4),(Qb.mk Qap Qj 3 7)]) Qr h32) an))) rfl
inductive f10n2O where
 | norm (v74:Bool)
def f10n2E(bi1:Bool):f10n2O→Ex×Tr×Hp
 | .norm v74=>(.norm,mkS [(1,(jB bi1)),(2,(jB v74))],[])
def f10n2S(bi1:Bool):Tr×Hp:=(mkS [(1,(jB bi1))],[])
noncomputable def f10n2(bi1:Bool):Option f10n2O :=
 (f33r1 1 6).bind fun x65 =>
 (f34 (Qe.mk 1 [(Qa.mk Qj 10 5)] [(Qb.mk Qr Qj 6 9),(Qb.mk Qs Qj 6 7),(Qb.mk Qw Qj 9 4),(Qb.mk Qap Qj 3 7)]) Qr).bind fun x67 =>
 bif decide (x67=42) then
  (f33r1 1 6).bind fun x70 =>
  (f34 (Qe.mk 1 [(Qa.mk Qj 10 5)] [(Qb.mk Qr Qj 6 9),(Qb.mk Qs Qj 6 7),(Qb.mk Qw Qj 9 4),(Qb.mk Qap Qj 3 7)]) Qs).bind fun x72 =>
  some (.norm (decide (x72=28)))
 else
  some (.norm false)
theorem f10n2_ok(bi1:Bool){o:f10n2O}(h:f10n2 bi1=some o):T Try.prog Try.f10.ntmps 0 (cL (Ql 0 (Ql 1 (Ql 1 c10)))) (f10n2S bi1) (·=f10n2E bi1 o):=by
 unfold f10n2 at h;obtain ⟨x65,h66,h⟩:=Qf h;obtain ⟨x67,h68,h⟩:=Qf h;rcases Qi h with ⟨h69,h⟩|⟨h69,h⟩
 ·obtain ⟨x70,h71,h⟩:=Qf h;obtain ⟨x72,h73,h⟩:=Qf h;obtain rfl:=Qg h
  exact rE Qh [(jT [4,5,6],[(0,.call (.agg [(.pl (.int .u8 1)),(.own 1),(.own 2)]) [some (.box [(.pl (.int .u8 1)),(.own 1),(.own 2)]),some (.row false 3 ([(Qa.mk Qj 10 5)].map Qa.cells)),some (.row false 4 ([(Qb.mk Qr Qj 6 9),(Qb.mk Qs Qj 6 7),(Qb.mk Qw Qj 9 4),(Qb.mk Qap Qj 3 7)].map Qb.cells))]),jH 1 (jI x67),(4,.call (.agg [(.pl (.int .u8 1)),(.own 4),(.own 5)]) (jN 3 [some (.box [(.pl (.int .u8 1)),(.own 4),(.own 5)]),some (.row false 3 ([(Qa.mk Qj 10 5)].map Qa.cells)),some (.row false 4 ([(Qb.mk Qr Qj 6 9),(Qb.mk Qs Qj 6 7),(Qb.mk Qw Qj 9 4),(Qb.mk Qap Qj 3 7)].map Qb.cells))])),jH 5 (jI x72),(7,.bool true)],[])] [] [] [] [1,2] (.norm,(f10n2E bi1 (.norm (decide (x72=28)))).2) (ap4 h69 (ap (Qao 1 6 h66) (ap (Qbq (Qe.mk 1 [(Qa.mk Qj 10 5)] [(Qb.mk Qr Qj 6 9),(Qb.mk Qs Qj 6 7),(Qb.mk Qw Qj 9 4),(Qb.mk Qap Qj 3 7)]) Qr h68) (ap (Qn.rn 3 [] (Qao 1 6 h71)) (ap (Qbq (Qe.mk 1 [(Qa.mk Qj 10 5)] [(Qb.mk Qr Qj 6 9),(Qb.mk Qs Qj 6 7),(Qb.mk Qw Qj 9 4),(Qb.mk Qap Qj 3 7)]) Qs h73) an))))) rfl
 ·obtain rfl:=Qg h;exact rE Qh [(jF [4,5,6],[(0,.call (.agg [(.pl (.int .u8 1)),(.own 1),(.own 2)]) [some (.box [(.pl (.int .u8 1)),(.own 1),(.own 2)]),some (.row false 3 ([(Qa.mk Qj 10 5)].map Qa.cells)),some (.row false 4 ([(Qb.mk Qr Qj 6 9),(Qb.mk Qs Qj 6 7),(Qb.mk Qw Qj 9 4),(Qb.mk Qap Qj 3 7)].map Qb.cells))]),jH 1 (jI x67),(7,.bool false)],[])] [] [] [] [1,2] (.norm,(f10n2E bi1 (.norm false)).2) (ap4 h69 (ap (Qao 1 6 h66) (ap (Qbq (Qe.mk 1 [(Qa.mk Qj 10 5)] [(Qb.mk Qr Qj 6 9),(Qb.mk Qs Qj 6 7),(Qb.mk Qw Qj 9 4),(Qb.mk Qap Qj 3 7)]) Qr h68) an))) rfl
inductive f10n3O where
 | norm (v150:Bool)
def f10n3E(bi1 bi2:Bool):f10n3O→Ex×Tr×Hp
 | .norm v150=>(.norm,mkS [(1,(jB bi1)),(2,(jB bi2)),(3,(jB v150))],[])
def f10n3S(bi1 bi2:Bool):Tr×Hp:=(mkS [(1,(jB bi1)),(2,(jB bi2))],[])
noncomputable def f10n3(bi1 bi2:Bool):Option f10n3O :=
 (f33r1 2 6).bind fun x126 =>
 (f34 (Qe.mk 2 [(Qa.mk Qj 10 5)] [(Qb.mk Qr Qj 6 9),(Qb.mk Qs Qj 6 7),(Qb.mk Qw Qj 9 4),(Qb.mk Qap Qj 3 7)]) Qr).bind fun x128 =>
 bif decide (x128=42) then
  (f33r1 2 6).bind fun x131 =>
  (f34 (Qe.mk 2 [(Qa.mk Qj 10 5)] [(Qb.mk Qr Qj 6 9),(Qb.mk Qs Qj 6 7),(Qb.mk Qw Qj 9 4),(Qb.mk Qap Qj 3 7)]) Qs).bind fun x133 =>
  bif decide (x133=28) then
   (f33r1 2 4).bind fun x136 =>
   (f34 (Qe.mk 2 [(Qa.mk Qj 10 5)] [(Qb.mk Qr Qj 6 9),(Qb.mk Qs Qj 4 7),(Qb.mk Qw Qj 9 4),(Qb.mk Qap Qj 3 7)]) Qr).bind fun x138 =>
   bif decide (x138=42) then
    (f33r2 2 4).bind fun x141 =>
    (f34 (Qe.mk 2 [(Qa.mk Qj 10 5)] [(Qb.mk Qr Qj 6 9),(Qb.mk Qs Qj 4 7),(Qb.mk Qw Qj 9 4)]) Qr).bind fun x143 =>
    bif decide (x143=30) then
     (f33r2 2 4).bind fun x146 =>
     (f34 (Qe.mk 2 [(Qa.mk Qj 10 5)] [(Qb.mk Qr Qj 6 9),(Qb.mk Qs Qj 4 7),(Qb.mk Qw Qj 9 4)]) Qs).bind fun x148 =>
     some (.norm (decide (x148=20)))
    else
     some (.norm false)
   else
    some (.norm false)
  else
   some (.norm false)
 else
  some (.norm false)
theorem f10n3_ok(bi1 bi2:Bool){o:f10n3O}(h:f10n3 bi1 bi2=some o):T Try.prog Try.f10.ntmps 0 (cL (Ql 0 (Ql 1 (Ql 0 (Ql 1 (Ql 1 c10)))))) (f10n3S bi1 bi2) (·=f10n3E bi1 bi2 o):=by
 unfold f10n3 at h;obtain ⟨x126,h127,h⟩:=Qf h;obtain ⟨x128,h129,h⟩:=Qf h;rcases Qi h with ⟨h130,h⟩|⟨h130,h⟩
 ·obtain ⟨x131,h132,h⟩:=Qf h;obtain ⟨x133,h134,h⟩:=Qf h;rcases Qi h with ⟨h135,h⟩|⟨h135,h⟩
  ·obtain ⟨x136,h137,h⟩:=Qf h;obtain ⟨x138,h139,h⟩:=Qf h;rcases Qi h with ⟨h140,h⟩|⟨h140,h⟩
   ·obtain ⟨x141,h142,h⟩:=Qf h;obtain ⟨x143,h144,h⟩:=Qf h;rcases Qi h with ⟨h145,h⟩|⟨h145,h⟩
    ·obtain ⟨x146,h147,h⟩:=Qf h;obtain ⟨x148,h149,h⟩:=Qf h;obtain rfl:=Qg h
     exact rE Qh [(jT [4,5,6,9,10,11,14,15,16,19,20,21],[(0,.call (.agg [(.pl (.int .u8 2)),(.own 1),(.own 2)]) [some (.box [(.pl (.int .u8 2)),(.own 1),(.own 2)]),some (.row false 3 ([(Qa.mk Qj 10 5)].map Qa.cells)),some (.row false 4 ([(Qb.mk Qr Qj 6 9),(Qb.mk Qs Qj 6 7),(Qb.mk Qw Qj 9 4),(Qb.mk Qap Qj 3 7)].map Qb.cells))]),jH 1 (jI x128),(4,.call (.agg [(.pl (.int .u8 2)),(.own 4),(.own 5)]) (jN 3 [some (.box [(.pl (.int .u8 2)),(.own 4),(.own 5)]),some (.row false 3 ([(Qa.mk Qj 10 5)].map Qa.cells)),some (.row false 4 ([(Qb.mk Qr Qj 6 9),(Qb.mk Qs Qj 6 7),(Qb.mk Qw Qj 9 4),(Qb.mk Qap Qj 3 7)].map Qb.cells))])),jH 5 (jI x133),(7,.bool true),(9,.call (.agg [(.pl (.int .u8 2)),(.own 7),(.own 8)]) (jN 6 [some (.box [(.pl (.int .u8 2)),(.own 7),(.own 8)]),some (.row false 3 ([(Qa.mk Qj 10 5)].map Qa.cells)),some (.row false 4 ([(Qb.mk Qr Qj 6 9),(Qb.mk Qs Qj 4 7),(Qb.mk Qw Qj 9 4),(Qb.mk Qap Qj 3 7)].map Qb.cells))])),jH 10 (jI x138),(12,.bool true),(14,.call (.agg [(.pl (.int .u8 2)),(.own 10),(.own 11)]) (jN 9 [some (.box [(.pl (.int .u8 2)),(.own 10),(.own 11)]),some (.row false 3 ([(Qa.mk Qj 10 5)].map Qa.cells)),some (.row false 4 ([(Qb.mk Qr Qj 6 9),(Qb.mk Qs Qj 4 7),(Qb.mk Qw Qj 9 4)].map Qb.cells))])),jH 15 (jI x143),(17,.bool true),(19,.call (.agg [(.pl (.int .u8 2)),(.own 13),(.own 14)]) (jN 12 [some (.box [(.pl (.int .u8 2)),(.own 13),(.own 14)]),some (.row false 3 ([(Qa.mk Qj 10 5)].map Qa.cells)),some (.row false 4 ([(Qb.mk Qr Qj 6 9),(Qb.mk Qs Qj 4 7),(Qb.mk Qw Qj 9 4)].map Qb.cells))])),jH 20 (jI x148),(22,.bool true)],[])] [] [] [] [1,2,3] (.norm,(f10n3E bi1 bi2 (.norm (decide (x148=20)))).2) (ap4 h130 (ap4 h135 (ap4 h140 (ap4 h145 (ap (Qao 2 6 h127) (ap (Qbq (Qe.mk 2 [(Qa.mk Qj 10 5)] [(Qb.mk Qr Qj 6 9),(Qb.mk Qs Qj 6 7),(Qb.mk Qw Qj 9 4),(Qb.mk Qap Qj 3 7)]) Qr h129) (ap (Qn.rn 3 [] (Qao 2 6 h132)) (ap (Qbq (Qe.mk 2 [(Qa.mk Qj 10 5)] [(Qb.mk Qr Qj 6 9),(Qb.mk Qs Qj 6 7),(Qb.mk Qw Qj 9 4),(Qb.mk Qap Qj 3 7)]) Qs h134) (ap (Qn.rn 6 [] (Qao 2 4 h137)) (ap (Qbq (Qe.mk 2 [(Qa.mk Qj 10 5)] [(Qb.mk Qr Qj 6 9),(Qb.mk Qs Qj 4 7),(Qb.mk Qw Qj 9 4),(Qb.mk Qap Qj 3 7)]) Qr h139) (ap (Qn.rn 9 [] (f33r2_ok 2 4 h142)) (ap (Qbq (Qe.mk 2 [(Qa.mk Qj 10 5)] [(Qb.mk Qr Qj 6 9),(Qb.mk Qs Qj 4 7),(Qb.mk Qw Qj 9 4)]) Qr h144) (ap (Qn.rn 12 [] (f33r2_ok 2 4 h147)) (ap (Qbq (Qe.mk 2 [(Qa.mk Qj 10 5)] [(Qb.mk Qr Qj 6 9),(Qb.mk Qs Qj 4 7),(Qb.mk Qw Qj 9 4)]) Qs h149) an)))))))))))))) rfl
    ·obtain rfl:=Qg h
     exact rE Qh [(jF [19,20,21]++jT [4,5,6,9,10,11,14,15,16],[(0,.call (.agg [(.pl (.int .u8 2)),(.own 1),(.own 2)]) [some (.box [(.pl (.int .u8 2)),(.own 1),(.own 2)]),some (.row false 3 ([(Qa.mk Qj 10 5)].map Qa.cells)),some (.row false 4 ([(Qb.mk Qr Qj 6 9),(Qb.mk Qs Qj 6 7),(Qb.mk Qw Qj 9 4),(Qb.mk Qap Qj 3 7)].map Qb.cells))]),jH 1 (jI x128),(4,.call (.agg [(.pl (.int .u8 2)),(.own 4),(.own 5)]) (jN 3 [some (.box [(.pl (.int .u8 2)),(.own 4),(.own 5)]),some (.row false 3 ([(Qa.mk Qj 10 5)].map Qa.cells)),some (.row false 4 ([(Qb.mk Qr Qj 6 9),(Qb.mk Qs Qj 6 7),(Qb.mk Qw Qj 9 4),(Qb.mk Qap Qj 3 7)].map Qb.cells))])),jH 5 (jI x133),(7,.bool true),(9,.call (.agg [(.pl (.int .u8 2)),(.own 7),(.own 8)]) (jN 6 [some (.box [(.pl (.int .u8 2)),(.own 7),(.own 8)]),some (.row false 3 ([(Qa.mk Qj 10 5)].map Qa.cells)),some (.row false 4 ([(Qb.mk Qr Qj 6 9),(Qb.mk Qs Qj 4 7),(Qb.mk Qw Qj 9 4),(Qb.mk Qap Qj 3 7)].map Qb.cells))])),jH 10 (jI x138),(12,.bool true),(14,.call (.agg [(.pl (.int .u8 2)),(.own 10),(.own 11)]) (jN 9 [some (.box [(.pl (.int .u8 2)),(.own 10),(.own 11)]),some (.row false 3 ([(Qa.mk Qj 10 5)].map Qa.cells)),some (.row false 4 ([(Qb.mk Qr Qj 6 9),(Qb.mk Qs Qj 4 7),(Qb.mk Qw Qj 9 4)].map Qb.cells))])),jH 15 (jI x143),(17,.bool true),(22,.bool false)],[])] [] [] [] [1,2,3] (.norm,(f10n3E bi1 bi2 (.norm false)).2) (ap4 h130 (ap4 h135 (ap4 h140 (ap4 h145 (ap (Qao 2 6 h127) (ap (Qbq (Qe.mk 2 [(Qa.mk Qj 10 5)] [(Qb.mk Qr Qj 6 9),(Qb.mk Qs Qj 6 7),(Qb.mk Qw Qj 9 4),(Qb.mk Qap Qj 3 7)]) Qr h129) (ap (Qn.rn 3 [] (Qao 2 6 h132)) (ap (Qbq (Qe.mk 2 [(Qa.mk Qj 10 5)] [(Qb.mk Qr Qj 6 9),(Qb.mk Qs Qj 6 7),(Qb.mk Qw Qj 9 4),(Qb.mk Qap Qj 3 7)]) Qs h134) (ap (Qn.rn 6 [] (Qao 2 4 h137)) (ap (Qbq (Qe.mk 2 [(Qa.mk Qj 10 5)] [(Qb.mk Qr Qj 6 9),(Qb.mk Qs Qj 4 7),(Qb.mk Qw Qj 9 4),(Qb.mk Qap Qj 3 7)]) Qr h139) (ap (Qn.rn 9 [] (f33r2_ok 2 4 h142)) (ap (Qbq (Qe.mk 2 [(Qa.mk Qj 10 5)] [(Qb.mk Qr Qj 6 9),(Qb.mk Qs Qj 4 7),(Qb.mk Qw Qj 9 4)]) Qr h144) an)))))))))))) rfl
   ·obtain rfl:=Qg h
    exact rE Qh [(jF [14,15,16]++jT [4,5,6,9,10,11],[(0,.call (.agg [(.pl (.int .u8 2)),(.own 1),(.own 2)]) [some (.box [(.pl (.int .u8 2)),(.own 1),(.own 2)]),some (.row false 3 ([(Qa.mk Qj 10 5)].map Qa.cells)),some (.row false 4 ([(Qb.mk Qr Qj 6 9),(Qb.mk Qs Qj 6 7),(Qb.mk Qw Qj 9 4),(Qb.mk Qap Qj 3 7)].map Qb.cells))]),jH 1 (jI x128),(4,.call (.agg [(.pl (.int .u8 2)),(.own 4),(.own 5)]) (jN 3 [some (.box [(.pl (.int .u8 2)),(.own 4),(.own 5)]),some (.row false 3 ([(Qa.mk Qj 10 5)].map Qa.cells)),some (.row false 4 ([(Qb.mk Qr Qj 6 9),(Qb.mk Qs Qj 6 7),(Qb.mk Qw Qj 9 4),(Qb.mk Qap Qj 3 7)].map Qb.cells))])),jH 5 (jI x133),(7,.bool true),(9,.call (.agg [(.pl (.int .u8 2)),(.own 7),(.own 8)]) (jN 6 [some (.box [(.pl (.int .u8 2)),(.own 7),(.own 8)]),some (.row false 3 ([(Qa.mk Qj 10 5)].map Qa.cells)),some (.row false 4 ([(Qb.mk Qr Qj 6 9),(Qb.mk Qs Qj 4 7),(Qb.mk Qw Qj 9 4),(Qb.mk Qap Qj 3 7)].map Qb.cells))])),jH 10 (jI x138),(12,.bool true),(17,.bool false)],[])] [] [] [] [1,2,3] (.norm,(f10n3E bi1 bi2 (.norm false)).2) (ap4 h130 (ap4 h135 (ap4 h140 (ap (Qao 2 6 h127) (ap (Qbq (Qe.mk 2 [(Qa.mk Qj 10 5)] [(Qb.mk Qr Qj 6 9),(Qb.mk Qs Qj 6 7),(Qb.mk Qw Qj 9 4),(Qb.mk Qap Qj 3 7)]) Qr h129) (ap (Qn.rn 3 [] (Qao 2 6 h132)) (ap (Qbq (Qe.mk 2 [(Qa.mk Qj 10 5)] [(Qb.mk Qr Qj 6 9),(Qb.mk Qs Qj 6 7),(Qb.mk Qw Qj 9 4),(Qb.mk Qap Qj 3 7)]) Qs h134) (ap (Qn.rn 6 [] (Qao 2 4 h137)) (ap (Qbq (Qe.mk 2 [(Qa.mk Qj 10 5)] [(Qb.mk Qr Qj 6 9),(Qb.mk Qs Qj 4 7),(Qb.mk Qw Qj 9 4),(Qb.mk Qap Qj 3 7)]) Qr h139) an))))))))) rfl
  ·obtain rfl:=Qg h
   exact rE Qh [(jF [9,10,11]++jT [4,5,6],[(0,.call (.agg [(.pl (.int .u8 2)),(.own 1),(.own 2)]) [some (.box [(.pl (.int .u8 2)),(.own 1),(.own 2)]),some (.row false 3 ([(Qa.mk Qj 10 5)].map Qa.cells)),some (.row false 4 ([(Qb.mk Qr Qj 6 9),(Qb.mk Qs Qj 6 7),(Qb.mk Qw Qj 9 4),(Qb.mk Qap Qj 3 7)].map Qb.cells))]),jH 1 (jI x128),(4,.call (.agg [(.pl (.int .u8 2)),(.own 4),(.own 5)]) (jN 3 [some (.box [(.pl (.int .u8 2)),(.own 4),(.own 5)]),some (.row false 3 ([(Qa.mk Qj 10 5)].map Qa.cells)),some (.row false 4 ([(Qb.mk Qr Qj 6 9),(Qb.mk Qs Qj 6 7),(Qb.mk Qw Qj 9 4),(Qb.mk Qap Qj 3 7)].map Qb.cells))])),jH 5 (jI x133),(7,.bool true),(12,.bool false)],[])] [] [] [] [1,2,3] (.norm,(f10n3E bi1 bi2 (.norm false)).2) (ap4 h130 (ap4 h135 (ap (Qao 2 6 h127) (ap (Qbq (Qe.mk 2 [(Qa.mk Qj 10 5)] [(Qb.mk Qr Qj 6 9),(Qb.mk Qs Qj 6 7),(Qb.mk Qw Qj 9 4),(Qb.mk Qap Qj 3 7)]) Qr h129) (ap (Qn.rn 3 [] (Qao 2 6 h132)) (ap (Qbq (Qe.mk 2 [(Qa.mk Qj 10 5)] [(Qb.mk Qr Qj 6 9),(Qb.mk Qs Qj 6 7),(Qb.mk Qw Qj 9 4),(Qb.mk Qap Qj 3 7)]) Qs h134) an)))))) rfl
 ·obtain rfl:=Qg h;exact rE Qh [(jF [4,5,6],[(0,.call (.agg [(.pl (.int .u8 2)),(.own 1),(.own 2)]) [some (.box [(.pl (.int .u8 2)),(.own 1),(.own 2)]),some (.row false 3 ([(Qa.mk Qj 10 5)].map Qa.cells)),some (.row false 4 ([(Qb.mk Qr Qj 6 9),(Qb.mk Qs Qj 6 7),(Qb.mk Qw Qj 9 4),(Qb.mk Qap Qj 3 7)].map Qb.cells))]),jH 1 (jI x128),(7,.bool false)],[])] [] [] [] [1,2,3] (.norm,(f10n3E bi1 bi2 (.norm false)).2) (ap4 h130 (ap (Qao 2 6 h127) (ap (Qbq (Qe.mk 2 [(Qa.mk Qj 10 5)] [(Qb.mk Qr Qj 6 9),(Qb.mk Qs Qj 6 7),(Qb.mk Qw Qj 9 4),(Qb.mk Qap Qj 3 7)]) Qr h129) an))) rfl
inductive f10n0O where
 | ret (v158:Bool)
def f10n0E:f10n0O→Ex×Tr×Hp
 | .ret v158=>(.ret,mkS [(0,(jB v158))],[])
def f10n0S:Tr×Hp:=(Qag [] 0 .leaf,[])
noncomputable def f10n0:Option f10n0O :=
 f10n1.bind fun o44=>match o44 with
 | .norm v46=>(f10n2 v46).bind fun o75=>match o75 with
  | .norm v77=>(f10n3 v46 v77).bind fun o151=>match o151 with
   | .norm v153=>bif v46 then
     bif v77 then
      some (.ret v153)
     else
      some (.ret false)
    else
     some (.ret false)
theorem f10n0_ok{o:f10n0O}(h:f10n0=some o):T Try.prog Try.f10.ntmps 0 c10 f10n0S (·=f10n0E o):=by
 unfold f10n0 at h;refine rN Qh 1 [j3] [] [] [] [] f10n1S an ?_;obtain ⟨o44,h45,h⟩:=Qf h;cases o44 with
 | norm v46 =>
  refine T.oneN (by kernel_rfl) (f10n1_ok h45) (st2:=(f10n1E (.norm v46)).2) rfl ?_;refine rN Qh 0 [] [] [] [] [1] (f10n2S v46) an ?_;obtain ⟨o75,h76,h⟩:=Qf h;cases o75 with
  | norm v77 =>
   refine T.oneN (by kernel_rfl) (f10n2_ok v46 h76) (st2:=(f10n2E v46 (.norm v77)).2) rfl ?_;refine rN Qh 0 [] [] [] [] [1,2] (f10n3S v46 v77) an ?_;obtain ⟨o151,h152,h⟩:=Qf h;cases o151 with
   | norm v153 =>
    refine T.oneN (by kernel_rfl) (f10n3_ok v46 v77 h152) (st2:=(f10n3E v46 v77 (.norm v153)).2) rfl ?_;rcases Qi h with ⟨h156,h⟩|⟨h156,h⟩
    ·rcases Qi h with ⟨h157,h⟩|⟨h157,h⟩
     ·obtain rfl:=Qg h;exact rE Qh [([(2,true),(5,true)],[(3,.bool true),(6,.bool true)],[])] [] [] [] [0] (.ret,(f10n0E (.ret v153)).2) (ap2 h156 (ap2 h157 an)) rfl
     ·obtain rfl:=Qg h;exact rE Qh [([(2,true),(5,false)],[(3,.bool true),(6,.bool false)],[])] [] [] [] [0] (.ret,(f10n0E (.ret false)).2) (ap2 h156 (ap2 h157 an)) rfl
    ·obtain rfl:=Qg h;exact rE Qh [([(2,false)],[(3,.bool false)],[])] [] [] [] [0] (.ret,(f10n0E (.ret false)).2) (ap2 h156 an) rfl
noncomputable def f10:Option Bool:=f10n0.bind fun o=>match o with
 | .ret v158=>some v158
theorem f10_ok{r:Bool}(h:f10=some r):Qn Try.prog false 10 [] [] (jB r) []:=by
 unfold f10 at h;obtain ⟨o,ho,h⟩:=Qf h;cases o with
 | ret v158 =>
  obtain rfl:=Qg h;exact Qn.plain Qh (f:=Try.f10) (c:=c10) (by kernel_rfl) (by kernel_rfl) (by kernel_rfl) (by kernel_rfl) ((f10n0_ok  ho).mono fun r e=>by subst e; exact ⟨.inl rfl,(jB v158),(jB v158),by kernel_rfl,by kernel_rfl,((Wk.refl _):Wk (jB v158) (jB v158))⟩)




noncomputable def c3:Code:=Try.f3.body.getD .skip

end Go.Proofs.Ythpceddjepbamaa
namespace Go.Proofs.Ythpceddjepbamaa
set_option linter.unusedVariables false
set_option linter.unusedSimpArgs false
set_option maxRecDepth 100000
open Go.RowKit
noncomputable def c41:Code:=Try.f41.body.getD .skip
inductive f41n0O where
 | ret
def f41n0E(a1:Qb):f41n0O→Ex×Tr×Hp
 | .ret=>(.ret,mkS [(2,(jB true))],[])
def f41n0S(a1:Qb):Tr×Hp:=(Qag [(jA Qb.cells a1)] 0 .leaf,[])
noncomputable def f41n0(a1:Qb):Option f41n0O :=
 some .ret
theorem f41n0_ok(a1:Qb){o:f41n0O}(h:f41n0 a1=some o):T Try.prog Try.f41.ntmps 0 c41 (f41n0S a1) (·=f41n0E a1 o):=by
 unfold f41n0 at h;obtain rfl:=Qg h;exact rE Qh [j3,j3] [] [] [] [2] (.ret,(f41n0E a1 .ret).2) an rfl
noncomputable def f41(a1:Qb):Option Bool:=(f41n0 a1).bind fun o=>match o with
 | .ret=>some true
theorem f41_ok(a1:Qb){r:Bool}(h:f41 a1=some r):Qn Try.prog false 41 [(jA Qb.cells a1)] [] (jB r) []:=by
 unfold f41 at h;obtain ⟨o,ho,h⟩:=Qf h;cases o with
 | ret =>
  obtain rfl:=Qg h;exact Qn.plain Qh (f:=Try.f41) (c:=c41) (by kernel_rfl) (by kernel_rfl) (by kernel_rfl) (by kernel_rfl) ((f41n0_ok a1 ho).mono fun r e=>by subst e; exact ⟨.inl rfl,(jB true),(jB true),by kernel_rfl,by kernel_rfl,((Wk.refl _):Wk (jB true) (jB true))⟩)

inductive f40_41n2O where
 | exit0 (v58:Int)
def f40_41n2E(bh1:(List Qc)×Int)(ba2:Qe):f40_41n2O→Ex×Tr×Hp
 | .exit0 v58=>((.exit 0),mkS [(7,(jI bh1.2)),(8,(jI v58))],[])
def f40_41n2S(bh1:(List Qc)×Int)(ba2:Qe)(v40 v41:Int):Tr×Hp:=(mkS [(1,(.pl (.fn 41))),(2,(.bp 0 0)),(7,(jI bh1.2)),(8,(jI v40)),(16,(jL 3 Qc.cells bh1.1)),(17,(jI (bh1.1.length:Int))),(18,(jI v41))],[some (.box ((Qe.cells ba2).map .pl))])
noncomputable def Qcf:Nat→(List Qc)×Int→Qe→Int→Int→Option f40_41n2O
 | 0,_,_,_,_=>none
 | f+1,bh1,ba2,v40,v41 =>
  bif decide (v41<(bh1.1.length:Int)) then
   (at? bh1.1 v41).bind fun x51 =>
   (at? ba2.Bids x51.Bid).bind fun x53 =>
   (f41 x53).bind fun x55 =>
   bif x55 then
    (Qcf f bh1 ba2 (wr64 (v40+(wr64 (x51.Units*x51.Price)))) (wr64 (v41+1)))
   else
    (Qcf f bh1 ba2 v40 (wr64 (v41+1)))
  else
   some (.exit0 v40)
theorem f40_41n2_ok:∀(f:Nat)(bh1:(List Qc)×Int)(ba2:Qe)(v40 v41:Int){o:f40_41n2O},Qcf f bh1 ba2 v40 v41=some o→TL Try.prog Try.f40.ntmps 0 f (cL (cL (Ql 1 (cL (Ql 3 c40))))) (f40_41n2S bh1 ba2 v40 v41) (·=f40_41n2E bh1 ba2 o)
 | 0,_,_,_,_,o,h=>by rw [Qcf] at h; cases h
 | f+1,bh1,ba2,v40,v41,o,h=>by
  rw [Qcf] at h;refine TL.body (K:=fun s=>∃v40:Int,∃v41:Int,s=(f40_41n2S bh1 ba2 v40 v41)∧Qcf f bh1 ba2 v40 v41=some o) ?_ (by rintro _ ⟨v40,v41,rfl,hk⟩; exact f40_41n2_ok f _ _ _ _ hk);rcases Qi h with ⟨h43,h⟩|⟨h43,h⟩
  ·obtain ⟨x51,h52,h⟩:=Qf h;obtain ⟨x53,h54,h⟩:=Qf h;obtain ⟨x55,h56,h⟩:=Qf h;rcases Qi h with ⟨h57,h⟩|⟨h57,h⟩
   ·exact rE Qh [j3,([],[(0,.idx (Int.toNat v41) (Qc.cells x51))],[]),([],[(5,.idx (Int.toNat x51.Bid) (Qb.cells x53)),jH 7 (jB x55)],[]),j3,j3] [some true,some true] [] [0] [1,2,7,8,16,17,18] (.norm,(f40_41n2S bh1 ba2 (wr64 (v40+(wr64 (x51.Units*x51.Price)))) (wr64 (v41+1)))) (ap h43 (ap (Qk h52).1 (ap (Qq Qc.cells (Qk h52).2) (ap (Qk h54).1 (ap (Qq Qb.cells (Qk h54).2) (ap (f41_ok x53 h56) (ap h57 an))))))) (Qu.norm ⟨(wr64 (v40+(wr64 (x51.Units*x51.Price)))),(wr64 (v41+1)),rfl,h⟩)
   ·exact rE Qh [j3,([],[(0,.idx (Int.toNat v41) (Qc.cells x51))],[]),([],[(5,.idx (Int.toNat x51.Bid) (Qb.cells x53)),jH 7 (jB x55)],[]),j3] [some true,some false] [] [0] [1,2,7,8,16,17,18] (.norm,(f40_41n2S bh1 ba2 v40 (wr64 (v41+1)))) (ap h43 (ap (Qk h52).1 (ap (Qq Qc.cells (Qk h52).2) (ap (Qk h54).1 (ap (Qq Qb.cells (Qk h54).2) (ap (f41_ok x53 h56) (ap h57 an))))))) (Qu.norm ⟨v40,(wr64 (v41+1)),rfl,h⟩)
  ·obtain rfl:=Qg h;exact rK Qh 2 [j3] [some false] [] [] [7,8] (.exit 0) ((f40_41n2E bh1 ba2 (.exit0 v40)).2) (ap h43 an) (Qu.out rfl rfl)
noncomputable def Qbt(bh1:(List Qc)×Int)(ba2:Qe):List Qc→Int→Int→Option f40_41n2O
 | [],v40,v41 =>
  some (.exit0 v40)
 | x0::rest,v40,v41 =>
  (at? ba2.Bids x0.Bid).bind fun x53 =>
  (f41 x53).bind fun x55 =>
  bif x55 then
   (Qbt bh1 ba2 rest (wr64 (v40+(wr64 (x0.Units*x0.Price)))) (v41+1))
  else
   (Qbt bh1 ba2 rest v40 (v41+1))
theorem f40_41n2L_eq(bh1:(List Qc)×Int)(ba2:Qe):∀(rest:List Qc)(f k:Nat)(v40:Int),bh1.1.drop k=rest→bh1.1.length≤maxLen→rest.length<f→Qcf f bh1 ba2 v40 (k:Int)=Qbt bh1 ba2 rest v40 (k:Int)
 | _,0,_,_,_,_,hf=>absurd hf (Nat.not_lt_zero _)
 | [],f+1,k,v40,hd,hm,hf=>by
  have hk:¬((k:Int)<(bh1.1.length:Int)):=by have:=Qay hd; omega
  rw [Qcf,Qbt];simp only [decide_eq_false hk,cond_false]
 | x0::rest,f+1,k,v40,hd,hm,hf=>by
  obtain ⟨hx,hlt,hd'⟩:=Qcb hd;have hk:(k:Int)<(bh1.1.length:Int):=by omega
  have hw:wr64 ((k:Int)+1)=(k:Int)+1:=wr64_of (by omega) (by unfold maxLen at hm; omega);have ih:∀(v40:Int),Qcf f bh1 ba2 v40 ((k:Int)+1)=Qbt bh1 ba2 rest v40 ((k:Int)+1):=fun v40=>f40_41n2L_eq bh1 ba2 rest f (k+1) v40 hd' hm (by simpa using hf);rw [Qcf,Qbt];simp only [decide_eq_true hk,cond_true,at_nat,hx,Option.bind_some,hw,ih]
theorem f40_41n2_run(bh1:(List Qc)×Int)(ba2:Qe)(v40:Int)(hm:bh1.1.length≤maxLen):Qcf FUEL bh1 ba2 v40 0=Qbt bh1 ba2 bh1.1 v40 0:=f40_41n2L_eq bh1 ba2 bh1.1 FUEL 0 v40 List.drop_zero hm (Qba hm)
inductive f40_41n1O where
 | norm (v62:Int)
def f40_41n1E(bh1:(List Qc)×Int)(ba2:Qe):f40_41n1O→Ex×Tr×Hp
 | .norm v62=>(.norm,mkS [(7,(jI bh1.2)),(8,(jI v62))],[])
def f40_41n1S(bh1:(List Qc)×Int)(ba2:Qe):Tr×Hp:=(mkS [(1,(.pl (.fn 41))),(2,(.bp 0 0)),(6,(jL 3 Qc.cells bh1.1)),(7,(jI bh1.2)),(8,(jI 0))],[some (.box ((Qe.cells ba2).map .pl))])
noncomputable def f40_41n1(bh1:(List Qc)×Int)(ba2:Qe):Option f40_41n1O :=
 (Qcf FUEL bh1 ba2 0 0).bind fun o59=>match o59 with
 | .exit0 v61=>some (.norm v61)
theorem f40_41n1_ok(bh1:(List Qc)×Int)(ba2:Qe){o:f40_41n1O}(h:f40_41n1 bh1 ba2=some o):T Try.prog Try.f40.ntmps 0 (cL (Ql 3 c40)) (f40_41n1S bh1 ba2) (·=f40_41n1E bh1 ba2 o):=by
 unfold f40_41n1 at h;refine rN Qh 1 [([],[],[(1,.val (jI (bh1.1.length:Int)))])] [] [] [0] [1,2,7,8,16,17,18] (f40_41n2S bh1 ba2 0 0) (ap (Qad (xs:=bh1.1) (c:=Qc.cells)) an) ?_;obtain ⟨o59,h60,h⟩:=Qf h;cases o59 with
 | exit0 v61 =>
  obtain rfl:=Qg h;exact T.last' (T.bl (i:=0) (by kernel_rfl) (by kernel_rfl) (f40_41n2_ok FUEL bh1 ba2 0 0 h60)) (tds:=[]) (m:=[]) (keep:=[7,8]) (st2:=(f40_41n1E bh1 ba2 (.norm v61)).2) (by kernel_rfl) an rfl
inductive f40_41n0O where
 | ret (v66:Int) (v67:Int)
def f40_41n0E(a1:Qe):f40_41n0O→Ex×Tr×Hp
 | .ret v66 v67=>(.ret,mkS [(4,(jI v66)),(5,(jI v67))],[])
def f40_41n0S(a1:Qe):Tr×Hp:=(Qag [(jA Qe.cells a1),(.pl (.fn 41))] 0 .leaf,[])
noncomputable def f40_41n0(a1:Qe):Option f40_41n0O :=
 (f12 a1).bind fun x4 =>
 (f40_41n1 x4 a1).bind fun o63=>match o63 with
 | .norm v65=>some (.ret v65 x4.2)
theorem f40_41n0_ok(a1:Qe){o:f40_41n0O}(h:f40_41n0 a1=some o):T Try.prog Try.f40.ntmps 0 c40 (f40_41n0S a1) (·=f40_41n0E a1 o):=by
 unfold f40_41n0 at h;obtain ⟨x4,h5,h⟩:=Qf h;refine rN Qh 3 [j3,([],[jH 1 (.tup [(jL 3 Qc.cells x4.1),(jI x4.2)])],[]),j3] [] [] [0] [1,2,6,7,8] (f40_41n1S x4 a1) (ap (f12_ok a1 h5) an) ?_;obtain ⟨o63,h64,h⟩:=Qf h;cases o63 with
 | norm v65 =>
  refine T.oneN (by kernel_rfl) (f40_41n1_ok x4 a1 h64) (st2:=(f40_41n1E x4 a1 (.norm v65)).2) rfl ?_;obtain rfl:=Qg h;exact rE Qh [j3] [] [] [] [4,5] (.ret,(f40_41n0E a1 (.ret v65 x4.2)).2) an rfl
noncomputable def f40_41(a1:Qe):Option (Int×Int):=(f40_41n0 a1).bind fun o=>match o with
 | .ret v66 v67=>some (v66,v67)
theorem f40_41_ok(a1:Qe){r:Int×Int}(h:f40_41 a1=some r):Qn Try.prog false 40 [(jA Qe.cells a1),(.pl (.fn 41))] [] (.tup [(jI r.1),(jI r.2)]) []:=by
 unfold f40_41 at h;obtain ⟨o,ho,h⟩:=Qf h;cases o with
 | ret v66 v67 =>
  obtain rfl:=Qg h;exact Qn.plain Qh (f:=Try.f40) (c:=c40) (by kernel_rfl) (by kernel_rfl) (by kernel_rfl) (by kernel_rfl) ((f40_41n0_ok a1 ho).mono fun r e=>by subst e; exact ⟨.inl rfl,(.tup [(jI v66),(jI v67)]),(.tup [(jI v66),(jI v67)]),by kernel_rfl,by kernel_rfl,((Wk.refl _):Wk (.tup [(jI v66),(jI v67)]) (.tup [(jI v66),(jI v67)]))⟩)

noncomputable def c15:Code:=Try.f15.body.getD .skip
inductive f15n0O where
 | ret (v6:Int) (v7:Int)
def f15n0E(a1:Qe):f15n0O→Ex×Tr×Hp
 | .ret v6 v7=>(.ret,mkS [(2,(jI v6)),(3,(jI v7))],[])
def f15n0S(a1:Qe):Tr×Hp:=(Qag [(jA Qe.cells a1)] 0 .leaf,[])
noncomputable def f15n0(a1:Qe):Option f15n0O :=
 (f40_41 a1).bind fun x4 =>
 some (.ret x4.1 x4.2)
theorem f15n0_ok(a1:Qe){o:f15n0O}(h:f15n0 a1=some o):T Try.prog Try.f15.ntmps 0 c15 (f15n0S a1) (·=f15n0E a1 o):=by
 unfold f15n0 at h;obtain ⟨x4,h5,h⟩:=Qf h;obtain rfl:=Qg h;exact rE Qh [j3,([],[jH 1 (.tup [(jI x4.1),(jI x4.2)])],[])] [] [] [] [2,3] (.ret,(f15n0E a1 (.ret x4.1 x4.2)).2) (ap (f40_41_ok a1 h5) an) rfl
noncomputable def f15(a1:Qe):Option (Int×Int):=(f15n0 a1).bind fun o=>match o with
 | .ret v6 v7=>some (v6,v7)
theorem f15_ok(a1:Qe){r:Int×Int}(h:f15 a1=some r):Qn Try.prog false 15 [(jA Qe.cells a1)] [] (.tup [(jI r.1),(jI r.2)]) []:=by
 unfold f15 at h;obtain ⟨o,ho,h⟩:=Qf h;cases o with
 | ret v6 v7 =>
  obtain rfl:=Qg h;exact Qn.plain Qh (f:=Try.f15) (c:=c15) (by kernel_rfl) (by kernel_rfl) (by kernel_rfl) (by kernel_rfl) ((f15n0_ok a1 ho).mono fun r e=>by subst e; exact ⟨.inl rfl,(.tup [(jI v6),(jI v7)]),(.tup [(jI v6),(jI v7)]),by kernel_rfl,by kernel_rfl,((Wk.refl _):Wk (.tup [(jI v6),(jI v7)]) (.tup [(jI v6),(jI v7)]))⟩)



noncomputable def c6:Code:=Try.f6.body.getD .skip

noncomputable def c18:Code:=Try.f18.body.getD .skip
noncomputable def Qbo:Code:=(Ql 0 (cL (Ql 1 (cL (Ql 2 (cL (cL (Ql 2 (cL (cL (Ql 1 (cL (Ql 3 c18)))))))))))))
inductive f18y1n0O where
 | norm
noncomputable def f18y1n0E(a1:Qd)(a2:Int):f18y1n0O→Ex×Tr×Hp
 | .norm=>(.norm,mkS [],[some (.lp Qbo .busy none (kL 38 [(8,(.bp 1 0))])),some (.box (((cInt .i64) (wr64 (a2-a1.units))).map .pl))])
noncomputable def f18y1n0S(a1:Qd)(a2:Int):Tr×Hp:=(mkS [(8,(.bp 1 0)),(9,(.bp 2 0))],[some (.lp Qbo .busy none (kL 38 [(8,(.bp 1 0))])),some (.box (((cInt .i64) a2).map .pl)),some (.box ((Qd.cells a1).map .pl))])
noncomputable def f18y1n0(a1:Qd)(a2:Int):Option f18y1n0O :=
 some .norm
theorem f18y1n0_ok(a1:Qd)(a2:Int){o:f18y1n0O}(h:f18y1n0 a1 a2=some o):T Try.prog Try.f18.ntmps 2 (rfB Qbo) (f18y1n0S a1 a2) (·=f18y1n0E a1 a2 o):=by
 unfold f18y1n0 at h;refine T.block' (i:=3) (by kernel_rfl) ?_;obtain rfl:=Qg h;exact rE Qh [j3] [] [] [] [] (.norm,(f18y1n0E a1 a2 .norm).2) an rfl
theorem f18y1_norm(a1:Qd)(a2:Int)(h:f18y1n0 a1 a2=some .norm):Qbe Try.prog [(jA Qd.cells a1)] 0 [some (.lp Qbo .ready none (kL 38 [(8,(.bp 1 0))])),some (.box (((cInt .i64) a2).map .pl))] true [some (.lp Qbo .ready none (kL 38 [(8,(.bp 1 0))])),some (.box (((cInt .i64) (wr64 (a2-a1.units))).map .pl))] :=
 Qbe.mk (c:=Qbo) (n:=Try.f18.ntmps) (base:=2) (cs:=(kL 38 [(8,(.bp 1 0))])) (cs2:=(kL 38 [(8,(.bp 1 0))])) (cs3:=(kL 38 [(8,(.bp 1 0))])) (st2:=(mkS [(8,(.bp 1 0)),(9,(.bp 2 0))],[some (.lp Qbo .ready none (kL 38 [(8,(.bp 1 0))])),some (.box (((cInt .i64) a2).map .pl)),some (.box ((Qd.cells a1).map .pl))])) (e:=(f18y1n0E a1 a2 .norm)) (pend:=none)
  (run_ok (P:=Try.prog) (C:=cfg) Qh (c:=rfA Qbo) (rs:=[j3]) (ps:=[]) (tds:=[]) (m:=[2]) (keep:=[8,9]) (by kernel_rfl) an)
  (f18y1n0_ok a1 a2 h)

inductive f53r9n2O where
 | exit0 (v42:List Qd)
noncomputable def f53r9n2E(ba1:Qe)(be2:Qa)(bd3:Int):f53r9n2O→Ex×Tr×Hp
 | .exit0 v42=>((.exit 0),mkS [(0,(.yl 0)),(2,(.bp 2 0)),(4,(.own 4))],[some (.lp Qbo .ready none (kL 38 [(8,(.bp 3 0))])),some (.box ((Qe.cells ba1).map .pl)),some (.box ((Qa.cells be2).map .pl)),some (.box (((cInt .i64) bd3).map .pl)),jR 6 Qd.cells v42])
noncomputable def f53r9n2S(ba1:Qe)(be2:Qa)(bd3 v28:Int)(v29:List Qd):Tr×Hp:=(mkS [(0,(.yl 0)),(2,(.bp 2 0)),(4,(.own 4)),(11,(jL 4 Qb.cells ba1.Bids)),(12,(jI (ba1.Bids.length:Int))),(13,(jI v28))],[some (.lp Qbo .ready none (kL 38 [(8,(.bp 3 0))])),some (.box ((Qe.cells ba1).map .pl)),some (.box ((Qa.cells be2).map .pl)),some (.box (((cInt .i64) bd3).map .pl)),jR 6 Qd.cells v29])
noncomputable def f53r9n2:Nat→Qe→Qa→Int→Int→List Qd→Option f53r9n2O
 | 0,_,_,_,_,_=>none
 | f+1,ba1,be2,bd3,v28,v29 =>
  bif decide (v28<(ba1.Bids.length:Int)) then
   (at? ba1.Bids v28).bind fun x37 =>
   bif (seq x37.Lot be2.Name) then
    bif decide (be2.Reserve≤x37.Price) then
     req (fit (v29.length+1) 64) <|
     (f53r9n2 f ba1 be2 bd3 (wr64 (v28+1)) (v29++[(Qd.mk v28 0 x37)]))
    else
     (f53r9n2 f ba1 be2 bd3 (wr64 (v28+1)) v29)
   else
    (f53r9n2 f ba1 be2 bd3 (wr64 (v28+1)) v29)
  else
   some (.exit0 v29)
theorem f53r9n2_ok:∀(f:Nat)(ba1:Qe)(be2:Qa)(bd3 v28:Int)(v29:List Qd){o:f53r9n2O},f53r9n2 f ba1 be2 bd3 v28 v29=some o→TL Try.prog Try.f53.ntmps 4 f (cL (cL (Ql 1 (cL (Ql 1 c53))))) (f53r9n2S ba1 be2 bd3 v28 v29) (·=f53r9n2E ba1 be2 bd3 o)
 | 0,_,_,_,_,_,o,h=>by rw [f53r9n2] at h; cases h
 | f+1,ba1,be2,bd3,v28,v29,o,h=>by
  rw [f53r9n2] at h;refine TL.body (K:=fun s=>∃v28:Int,∃v29:List Qd,s=(f53r9n2S ba1 be2 bd3 v28 v29)∧f53r9n2 f ba1 be2 bd3 v28 v29=some o) ?_ (by rintro _ ⟨v28,v29,rfl,hk⟩; exact f53r9n2_ok f _ _ _ _ _ hk);rcases Qi h with ⟨h31,h⟩|⟨h31,h⟩
  ·obtain ⟨x37,h38,h⟩:=Qf h;rcases Qi h with ⟨h39,h⟩|⟨h39,h⟩
   ·rcases Qi h with ⟨h40,h⟩|⟨h40,h⟩
    ·obtain ⟨h41,h⟩:=Qal h;exact rE Qh [j3,([],[(1,.idx (Int.toNat v28) (Qb.cells x37))],[]),(jT [6,7,8,9,10],[(11,.bool true)],[]),([],[(5,.fits)],[(5,.row 7 ((v29++[(Qd.mk v28 0 x37)]).map Qd.cells))]),j3] [some true,some true] [] [7] [0,2,4,11,12,13] (.norm,(f53r9n2S ba1 be2 bd3 (wr64 (v28+1)) (v29++[(Qd.mk v28 0 x37)]))) (ap h31 (ap (Qk h38).1 (ap (Qq Qb.cells (Qk h38).2) (ap2 h39 (ap4 h39 (ap h40 (ap (fit_map (te:=ti78) (xs:=v29) (n:=1) (c:=Qd.cells) h41 rfl) (ap (app_cv (xs:=v29) (ys:=[(Qd.mk v28 0 x37)]) (c:=Qd.cells)) an)))))))) (Qu.norm ⟨(wr64 (v28+1)),(v29++[(Qd.mk v28 0 x37)]),rfl,h⟩)
    ·exact rE Qh [j3,([],[(1,.idx (Int.toNat v28) (Qb.cells x37))],[]),(jT [6,7,8,9,10],[(11,.bool true)],[]),j3] [some true,some false] [] [4] [0,2,4,11,12,13] (.norm,(f53r9n2S ba1 be2 bd3 (wr64 (v28+1)) v29)) (ap h31 (ap (Qk h38).1 (ap (Qq Qb.cells (Qk h38).2) (ap2 h39 (ap4 h39 (ap h40 an)))))) (Qu.norm ⟨(wr64 (v28+1)),v29,rfl,h⟩)
   ·exact rE Qh [j3,([],[(1,.idx (Int.toNat v28) (Qb.cells x37))],[]),(jF [6,7,8,9,10],[(11,.bool false)],[]),j3] [some true,none] [] [4] [0,2,4,11,12,13] (.norm,(f53r9n2S ba1 be2 bd3 (wr64 (v28+1)) v29)) (ap h31 (ap (Qk h38).1 (ap (Qq Qb.cells (Qk h38).2) (ap2 h39 (ap4 h39 an))))) (Qu.norm ⟨(wr64 (v28+1)),v29,rfl,h⟩)
  ·obtain rfl:=Qg h;exact rK Qh 2 [j3] [some false] [] [4] [0,2,4] (.exit 0) ((f53r9n2E ba1 be2 bd3 (.exit0 v29)).2) (ap h31 an) (Qu.out rfl rfl)
noncomputable def f53r9n2L(ba1:Qe)(be2:Qa)(bd3:Int):List Qb→Int→(List Qd)→Option f53r9n2O
 | [],v28,v29 =>
  some (.exit0 v29)
 | x0::rest,v28,v29 =>
  bif (seq x0.Lot be2.Name) then
   bif decide (be2.Reserve≤x0.Price) then
    req (fit (v29.length+1) 64) <|
    (f53r9n2L ba1 be2 bd3 rest (v28+1) (v29++[(Qd.mk v28 0 x0)]))
   else
    (f53r9n2L ba1 be2 bd3 rest (v28+1) v29)
  else
   (f53r9n2L ba1 be2 bd3 rest (v28+1) v29)
theorem f53r9n2L_eq(ba1:Qe)(be2:Qa)(bd3:Int):∀(rest:List Qb)(f k:Nat)(v29:List Qd),ba1.Bids.drop k=rest→ba1.Bids.length≤maxLen→rest.length<f→f53r9n2 f ba1 be2 bd3 (k:Int) v29=f53r9n2L ba1 be2 bd3 rest (k:Int) v29
 | _,0,_,_,_,_,hf=>absurd hf (Nat.not_lt_zero _)
 | [],f+1,k,v29,hd,hm,hf=>by
  have hk:¬((k:Int)<(ba1.Bids.length:Int)):=by have:=Qay hd; omega
  rw [f53r9n2,f53r9n2L];simp only [decide_eq_false hk,cond_false]
 | x0::rest,f+1,k,v29,hd,hm,hf=>by
  obtain ⟨hx,hlt,hd'⟩:=Qcb hd;have hk:(k:Int)<(ba1.Bids.length:Int):=by omega
  have hw:wr64 ((k:Int)+1)=(k:Int)+1:=wr64_of (by omega) (by unfold maxLen at hm; omega);have ih:∀(v29:List Qd),f53r9n2 f ba1 be2 bd3 ((k:Int)+1) v29=f53r9n2L ba1 be2 bd3 rest ((k:Int)+1) v29:=fun v29=>f53r9n2L_eq ba1 be2 bd3 rest f (k+1) v29 hd' hm (by simpa using hf);rw [f53r9n2,f53r9n2L];simp only [decide_eq_true hk,cond_true,at_nat,hx,Option.bind_some,hw,ih]
theorem f53r9n2_run(ba1:Qe)(be2:Qa)(bd3:Int)(v29:List Qd)(hm:ba1.Bids.length≤maxLen):f53r9n2 FUEL ba1 be2 bd3 0 v29=f53r9n2L ba1 be2 bd3 ba1.Bids 0 v29:=f53r9n2L_eq ba1 be2 bd3 ba1.Bids FUEL 0 v29 List.drop_zero hm (Qba hm)
inductive f53r9n1O where
 | norm (v46:List Qd)
noncomputable def f53r9n1E(ba1:Qe)(be2:Qa)(bd3:Int):f53r9n1O→Ex×Tr×Hp
 | .norm v46=>(.norm,mkS [(0,(.yl 0)),(2,(.bp 2 0)),(4,(.own 4))],[some (.lp Qbo .ready none (kL 38 [(8,(.bp 3 0))])),some (.box ((Qe.cells ba1).map .pl)),some (.box ((Qa.cells be2).map .pl)),some (.box (((cInt .i64) bd3).map .pl)),jR 6 Qd.cells v46])
noncomputable def f53r9n1S(ba1:Qe)(be2:Qa)(bd3:Int):Tr×Hp:=(mkS [(0,(.yl 0)),(1,(.bp 1 0)),(2,(.bp 2 0)),(4,(.pl (.sl .nil 0 [])))],[some (.lp Qbo .ready none (kL 38 [(8,(.bp 3 0))])),some (.box ((Qe.cells ba1).map .pl)),some (.box ((Qa.cells be2).map .pl)),some (.box (((cInt .i64) bd3).map .pl))])
noncomputable def f53r9n1(ba1:Qe)(be2:Qa)(bd3:Int):Option f53r9n1O :=
 (f53r9n2 FUEL ba1 be2 bd3 0 []).bind fun o43=>match o43 with
 | .exit0 v45=>some (.norm v45)
theorem f53r9n1_ok(ba1:Qe)(be2:Qa)(bd3:Int){o:f53r9n1O}(h:f53r9n1 ba1 be2 bd3=some o):T Try.prog Try.f53.ntmps 4 (cL (Ql 1 c53)) (f53r9n1S ba1 be2 bd3) (·=f53r9n1E ba1 be2 bd3 o):=by
 unfold f53r9n1 at h;refine rN Qh 1 [([],[],[(2,.val (jI (ba1.Bids.length:Int)))])] [] [.mat 4 6] [4] [0,2,4,11,12,13] (f53r9n2S ba1 be2 bd3 0 []) (ap (Qad (xs:=ba1.Bids) (c:=Qb.cells)) an) ?_;obtain ⟨o43,h44,h⟩:=Qf h;cases o43 with
 | exit0 v45 =>
  obtain rfl:=Qg h;exact T.last' (T.bl (i:=0) (by kernel_rfl) (by kernel_rfl) (f53r9n2_ok FUEL ba1 be2 bd3 0 [] h44)) (tds:=[]) (m:=[4]) (keep:=[0,2,4]) (st2:=(f53r9n1E ba1 be2 bd3 (.norm v45)).2) (by kernel_rfl) an rfl
inductive f53r9n3O where
 | norm (v96:Int) (v97:Int)
noncomputable def f53r9n3E(bd1:Int)(bf2:List Qd)(bd3:Int)(ba4:Qe)(be5:Qa)(bd6:Int):f53r9n3O→Ex×Tr×Hp
 | .norm v96 v97=>(.norm,mkS [(0,(.yl 0)),(7,(jI v96)),(41,(.own 4)),(42,(jI (bf2.length:Int))),(43,(jI bd3))],[some (.lp Qbo .ready none (kL 38 [(8,(.bp 3 0))])),some (.box ((Qe.cells ba4).map .pl)),some (.box ((Qa.cells be5).map .pl)),some (.box (((cInt .i64) v97).map .pl)),jR 6 Qd.cells bf2])
noncomputable def f53r9n3S(bd1:Int)(bf2:List Qd)(bd3:Int)(ba4:Qe)(be5:Qa)(bd6:Int):Tr×Hp:=(mkS [(0,(.yl 0)),(7,(jI bd1)),(41,(.own 4)),(42,(jI (bf2.length:Int))),(43,(jI bd3))],[some (.lp Qbo .ready none (kL 38 [(8,(.bp 3 0))])),some (.box ((Qe.cells ba4).map .pl)),some (.box ((Qa.cells be5).map .pl)),some (.box (((cInt .i64) bd6).map .pl)),jR 6 Qd.cells bf2])
noncomputable def f53r9n3(bd1:Int)(bf2:List Qd)(bd3:Int)(ba4:Qe)(be5:Qa)(bd6:Int):Option f53r9n3O :=
 (at? bf2 bd3).bind fun x92 =>
 (f18y1n0 (Qd.mk x92.index (mnI bd1 x92.bid.Units) x92.bid) bd6).bind fun o94=>match o94 with
 | .norm=>some (.norm (wr64 (bd1-(mnI bd1 x92.bid.Units))) (wr64 (bd6-(mnI bd1 x92.bid.Units))))
theorem f53r9n3_ok(bd1:Int)(bf2:List Qd)(bd3:Int)(ba4:Qe)(be5:Qa)(bd6:Int){o:f53r9n3O}(h:f53r9n3 bd1 bf2 bd3 ba4 be5 bd6=some o):T Try.prog Try.f53.ntmps 4 (cL (Ql 2 (cL (cL (Ql 3 (Ql 1 (Ql 1 c53))))))) (f53r9n3S bd1 bf2 bd3 ba4 be5 bd6) (·=f53r9n3E bd1 bf2 bd3 ba4 be5 bd6 o):=by
 unfold f53r9n3 at h;refine T.block' (i:=3) (by kernel_rfl) ?_;obtain ⟨x92,h93,h⟩:=Qf h;refine rN Qh 3 [([],[(0,.at_ (Int.toNat bd3)),(1,.idx 0 (Qd.cells x92))],[]),j3,j3] [] [] [5,4] [0,7,9,41,42,43] (mkS [(0,(.yl 0)),(7,(jI (wr64 (bd1-(mnI bd1 x92.bid.Units))))),(9,(.bp 4 0)),(41,(.own 5)),(42,(jI (bf2.length:Int))),(43,(jI bd3))],[some (.lp Qbo .ready none (kL 38 [(8,(.bp 3 0))])),some (.box ((Qe.cells ba4).map .pl)),some (.box ((Qa.cells be5).map .pl)),some (.box (((cInt .i64) bd6).map .pl)),some (.box ((Qd.cells (Qd.mk x92.index (mnI bd1 x92.bid.Units) x92.bid)).map .pl)),jR 6 Qd.cells bf2]) (ap (Qk h93).1 (ap (Qai Qd.cells (Qk h93).2) (ap (Qq Qd.cells (Qk h93).2) an))) ?_;obtain ⟨o94,h95,h⟩:=Qf h;cases o94 with
 | norm =>
  refine T.oneN (by kernel_rfl) (yN Qh j3 2 true [some (.lp Qbo .ready none (kL 38 [(8,(.bp 3 0))])),none,none,some (.box (((cInt .i64) (wr64 (bd6-(mnI bd1 x92.bid.Units)))).map .pl)),none,none] [] [5] [0,7,41,42,43,60] (mkS [(0,(.yl 0)),(7,(jI (wr64 (bd1-(mnI bd1 x92.bid.Units))))),(41,(.own 4)),(42,(jI (bf2.length:Int))),(43,(jI bd3)),(60,(jB false))],[some (.lp Qbo .ready none (kL 38 [(8,(.bp 3 0))])),some (.box ((Qe.cells ba4).map .pl)),some (.box ((Qa.cells be5).map .pl)),some (.box (((cInt .i64) (wr64 (bd6-(mnI bd1 x92.bid.Units)))).map .pl)),jR 6 Qd.cells bf2]) (ap (Qbe.rn 6 [0,3] (f18y1_norm (Qd.mk x92.index (mnI bd1 x92.bid.Units) x92.bid) bd6 h95)) an)) rfl ?_;obtain rfl:=Qg h
  exact rE Qh [] [none] [] [4] [0,7,41,42,43] (.norm,(f53r9n3E bd1 bf2 bd3 ba4 be5 bd6 (.norm (wr64 (bd1-(mnI bd1 x92.bid.Units))) (wr64 (bd6-(mnI bd1 x92.bid.Units))))).2) an rfl
inductive f53r9n4O where
 | exit2 (v102:Int)
noncomputable def f53r9n4E(x52:List Qd)(a1:Qe)(a2:Qa):f53r9n4O→Ex×Tr×Hp
 | .exit2 v102=>((.exit 2),mkS [],[some (.lp Qbo .ready none (kL 38 [(8,(.bp 3 0))])),some (.box ((Qe.cells a1).map .pl)),some (.box ((Qa.cells a2).map .pl)),some (.box (((cInt .i64) v102).map .pl))])
noncomputable def f53r9n4S(x52:List Qd)(a1:Qe)(a2:Qa)(v85 v86 v87:Int):Tr×Hp:=(mkS [(0,(.yl 0)),(7,(jI v85)),(41,(.own 4)),(42,(jI (x52.length:Int))),(43,(jI v86))],[some (.lp Qbo .ready none (kL 38 [(8,(.bp 3 0))])),some (.box ((Qe.cells a1).map .pl)),some (.box ((Qa.cells a2).map .pl)),some (.box (((cInt .i64) v87).map .pl)),jR 6 Qd.cells x52])
noncomputable def f53r9n4:Nat→List Qd→Qe→Qa→Int→Int→Int→Option f53r9n4O
 | 0,_,_,_,_,_,_=>none
 | f+1,x52,a1,a2,v85,v86,v87 =>
  bif decide (v86<(x52.length:Int)) then
   (f53r9n3 v85 x52 v86 a1 a2 v87).bind fun o98=>match o98 with
   | .norm v100 v101=>(f53r9n4 f x52 a1 a2 v100 (wr64 (v86+1)) v101)
  else
   some (.exit2 v87)
theorem f53r9n4_ok:∀(f:Nat)(x52:List Qd)(a1:Qe)(a2:Qa)(v85 v86 v87:Int){o:f53r9n4O},f53r9n4 f x52 a1 a2 v85 v86 v87=some o→TL Try.prog Try.f53.ntmps 4 f (cL (cL (Ql 3 (Ql 1 (Ql 1 c53))))) (f53r9n4S x52 a1 a2 v85 v86 v87) (·=f53r9n4E x52 a1 a2 o)
 | 0,_,_,_,_,_,_,o,h=>by rw [f53r9n4] at h; cases h
 | f+1,x52,a1,a2,v85,v86,v87,o,h=>by
  rw [f53r9n4] at h;refine TL.body (K:=fun s=>∃v85:Int,∃v86:Int,∃v87:Int,s=(f53r9n4S x52 a1 a2 v85 v86 v87)∧f53r9n4 f x52 a1 a2 v85 v86 v87=some o) ?_ (by rintro _ ⟨v85,v86,v87,rfl,hk⟩; exact f53r9n4_ok f _ _ _ _ _ _ hk);rcases Qi h with ⟨h89,h⟩|⟨h89,h⟩
  ·refine rN Qh 2 [j3] [some true] [] [4] [0,7,41,42,43] (f53r9n3S v85 x52 v86 a1 a2 v87) (ap h89 an) ?_;obtain ⟨o98,h99,h⟩:=Qf h;cases o98 with
   | norm v100 v101 =>
    refine T.oneN (by kernel_rfl) (f53r9n3_ok v85 x52 v86 a1 a2 v87 h99) (st2:=(f53r9n3E v85 x52 v86 a1 a2 v87 (.norm v100 v101)).2) rfl ?_;exact rE Qh [j3] [] [] [4] [0,7,41,42,43] (.norm,(f53r9n4S x52 a1 a2 v100 (wr64 (v86+1)) v101)) an (Qu.norm ⟨v100,(wr64 (v86+1)),v101,rfl,h⟩)
  ·obtain rfl:=Qg h;exact rK Qh 2 [j3] [some false] [] [] [] (.exit 2) ((f53r9n4E x52 a1 a2 (.exit2 v87)).2) (ap h89 an) (Qu.out rfl rfl)
inductive f53r9n0O where
 | norm (v106:Int)
noncomputable def f53r9n0E(a1:Qe)(a2:Qa)(a3:Int):f53r9n0O→Ex×Tr×Hp
 | .norm v106=>(.norm,mkS [],[some (.lp Qbo .ready none (kL 38 [(8,(.bp 3 0))])),some (.box ((Qe.cells a1).map .pl)),some (.box ((Qa.cells a2).map .pl)),some (.box (((cInt .i64) v106).map .pl))])
noncomputable def f53r9n0S(a1:Qe)(a2:Qa)(a3:Int):Tr×Hp:=(Qag [(.yl 0),(.bp 1 0),(.bp 2 0)] 0 .leaf,[some (.lp Qbo .ready none (kL 38 [(8,(.bp 3 0))])),some (.box ((Qe.cells a1).map .pl)),some (.box ((Qa.cells a2).map .pl)),some (.box (((cInt .i64) a3).map .pl))])
noncomputable def f53r9n0(a1:Qe)(a2:Qa)(a3:Int):Option f53r9n0O :=
 (f53r9n1 a1 a2 a3).bind fun o47=>match o47 with
 | .norm v49=>(f54r1 v49).bind fun x52 =>
  (f53r9n4 FUEL x52 a1 a2 a2.Units 0 a3).bind fun o103=>match o103 with
  | .exit2 v105=>some (.norm v105)
theorem f53r9n0_ok(a1:Qe)(a2:Qa)(a3:Int){o:f53r9n0O}(h:f53r9n0 a1 a2 a3=some o):T Try.prog Try.f53.ntmps 4 c53 (f53r9n0S a1 a2 a3) (·=f53r9n0E a1 a2 a3 o):=by
 unfold f53r9n0 at h;refine rN Qh 1 [j3] [] [] [] [0,1,2,4] (f53r9n1S a1 a2 a3) an ?_;obtain ⟨o47,h48,h⟩:=Qf h;cases o47 with
 | norm v49 =>
  refine T.oneN (by kernel_rfl) (f53r9n1_ok a1 a2 a3 h48) (st2:=(f53r9n1E a1 a2 a3 (.norm v49)).2) rfl ?_;obtain ⟨x52,h53,h⟩:=Qf h;refine rN Qh 3 [([],[(1,.call (.tup []) (jN 4 [jR 6 Qd.cells x52]))],[]),j3,([],[],[(1,.val (jI (x52.length:Int)))])] [] [] [4] [0,7,41,42,43] (f53r9n4S x52 a1 a2 a2.Units 0 a3) (ap (Qn.rn 5 [4] (f54r1_ok v49 h53)) (ap (Qad (xs:=x52) (c:=Qd.cells)) an)) ?_;obtain ⟨o103,h104,h⟩:=Qf h;cases o103 with
  | exit2 v105 =>
   obtain rfl:=Qg h;exact T.last' (T.bl (i:=2) (by kernel_rfl) (by kernel_rfl) (f53r9n4_ok FUEL x52 a1 a2 a2.Units 0 a3 h104)) (tds:=[]) (m:=[]) (keep:=[]) (st2:=(f53r9n0E a1 a2 a3 (.norm v105)).2) (by kernel_rfl) an rfl
noncomputable def f53r9(a1:Qe)(a2:Qa)(a3:Int):Option Int:=(f53r9n0 a1 a2 a3).bind fun o=>match o with
 | .norm v106=>some v106
theorem f53r9_ok(a1:Qe)(a2:Qa)(a3:Int){r:Int}(h:f53r9 a1 a2 a3=some r):Qn Try.prog true 53 [(.yl 0),(.bp 1 0),(.bp 2 0)] [some (.lp Qbo .ready none (kL 38 [(8,(.bp 3 0))])),some (.box ((Qe.cells a1).map .pl)),some (.box ((Qa.cells a2).map .pl)),some (.box (((cInt .i64) a3).map .pl))] (.tup []) [some (.lp Qbo .ready none (kL 38 [(8,(.bp 3 0))])),some (.box ((Qe.cells a1).map .pl)),some (.box ((Qa.cells a2).map .pl)),some (.box (((cInt .i64) r).map .pl))]:=by
 unfold f53r9 at h;obtain ⟨o,ho,h⟩:=Qf h;cases o with
 | norm v106 =>
  obtain rfl:=Qg h;exact Qn.shared Qh (f:=Try.f53) (c:=c53) (by kernel_rfl) (by kernel_rfl) (by kernel_rfl) ((f53r9n0_ok a1 a2 a3 ho).mono fun r e=>by subst e; exact ⟨.inr rfl,by kernel_rfl,by kernel_rfl⟩)
end Go.Proofs.Ythpceddjepbamaa
namespace Go.Proofs.Ythpceddjepbamaa
set_option linter.unusedVariables false
set_option linter.unusedSimpArgs false
set_option maxRecDepth 100000
open Go.RowKit
inductive f18n4O where
 | norm (v74:Int)
def f18n4E(ba1:Qe)(bd2:Int)(bl3:List Int)(be4:Qa):f18n4O→Ex×Tr×Hp
 | .norm v74=>(.norm,mkS [(1,(.bp 0 0)),(2,(.pl (.sl .nil 0 []))),(3,(jI 0)),(5,(.own 1)),(8,(.bp 2 0)),(16,(jL 3 Qa.cells ba1.Lots)),(17,(jI (ba1.Lots.length:Int))),(18,(jI bd2))],[some (.box ((Qe.cells ba1).map .pl)),some (.row false 1 (bl3.map (cInt .i64))),some (.box (((cInt .i64) v74).map .pl))])
def f18n4S(ba1:Qe)(bd2:Int)(bl3:List Int)(be4:Qa):Tr×Hp:=(mkS [(1,(.bp 0 0)),(2,(.pl (.sl .nil 0 []))),(3,(jI 0)),(5,(.own 1)),(8,(.bp 2 0)),(16,(jL 3 Qa.cells ba1.Lots)),(17,(jI (ba1.Lots.length:Int))),(18,(jI bd2)),(26,(.clo 53 [(.bp 3 0),(.bp 4 0)]))],[some (.box ((Qe.cells ba1).map .pl)),some (.row false 1 (bl3.map (cInt .i64))),some (.box (((cInt .i64) be4.Units).map .pl)),some (.box ((Qe.cells ba1).map .pl)),some (.box ((Qa.cells be4).map .pl))])
noncomputable def f18n4(ba1:Qe)(bd2:Int)(bl3:List Int)(be4:Qa):Option f18n4O :=
 (f53r9 ba1 be4 be4.Units).bind fun x72 =>
 some (.norm x72)
theorem f18n4_ok(ba1:Qe)(bd2:Int)(bl3:List Int)(be4:Qa){o:f18n4O}(h:f18n4 ba1 bd2 bl3 be4=some o):T Try.prog Try.f18.ntmps 0 (Ql 1 (cL (Ql 2 (cL (cL (Ql 2 (cL (cL (Ql 1 (cL (Ql 3 c18))))))))))) (f18n4S ba1 bd2 bl3 be4) (·=f18n4E ba1 bd2 bl3 be4 o):=by
 unfold f18n4 at h;refine T.block' (i:=2) (by kernel_rfl) ?_;refine rN Qh 0 [] [] [] [0,1,2,3,4] [1,2,3,5,8,16,17,18,26] (mkS [(1,(.bp 0 0)),(2,(.pl (.sl .nil 0 []))),(3,(jI 0)),(5,(.own 1)),(8,(.bp 2 0)),(16,(jL 3 Qa.cells ba1.Lots)),(17,(jI (ba1.Lots.length:Int))),(18,(jI bd2)),(26,(.clo 53 [(.bp 3 0),(.bp 4 0)]))],[some (.box ((Qe.cells ba1).map .pl)),some (.row false 1 (bl3.map (cInt .i64))),some (.box (((cInt .i64) be4.Units).map .pl)),some (.box ((Qe.cells ba1).map .pl)),some (.box ((Qa.cells be4).map .pl))]) an ?_;obtain ⟨x72,h73,h⟩:=Qf h;obtain rfl:=Qg h
 exact T.last' (rgN 53 [(.bp 3 0),(.bp 4 0)] [8] (.tup []) [none,none,some (.box (((cInt .i64) x72).map .pl)),some (.box ((Qe.cells ba1).map .pl)),some (.box ((Qa.cells be4).map .pl)),some (.lp Qbo .ready none (kL 38 [(8,(.bp 2 0))]))] none .ready (kL 38 [(8,(.bp 2 0))]) .norm [] [0,1,2] [1,2,3,5,8,16,17,18] (mkS [(1,(.bp 0 0)),(2,(.pl (.sl .nil 0 []))),(3,(jI 0)),(5,(.own 1)),(8,(.bp 2 0)),(16,(jL 3 Qa.cells ba1.Lots)),(17,(jI (ba1.Lots.length:Int))),(18,(jI bd2))],[some (.box ((Qe.cells ba1).map .pl)),some (.row false 1 (bl3.map (cInt .i64))),some (.box (((cInt .i64) x72).map .pl))]) (Qn.rn 6 [5,3,4,2] (f53r9_ok ba1 be4 be4.Units h73)) an) (tds:=[]) (m:=[0,1,2]) (keep:=[1,2,3,5,8,16,17,18]) (st2:=(f18n4E ba1 bd2 bl3 be4 (.norm x72)).2) (by kernel_rfl) an rfl
inductive f18n3O where
 | norm (v78:Int)
def f18n3E(ba1:Qe)(bd2:Int)(bl3:List Int)(be4:Qa):f18n3O→Ex×Tr×Hp
 | .norm v78=>(.norm,mkS [(1,(.bp 0 0)),(2,(.pl (.sl .nil 0 []))),(3,(jI 0)),(5,(.own 1)),(8,(.bp 2 0)),(16,(jL 3 Qa.cells ba1.Lots)),(17,(jI (ba1.Lots.length:Int))),(18,(jI bd2))],[some (.box ((Qe.cells ba1).map .pl)),some (.row false 1 (bl3.map (cInt .i64))),some (.box (((cInt .i64) v78).map .pl))])
def f18n3S(ba1:Qe)(bd2:Int)(bl3:List Int)(be4:Qa):Tr×Hp:=(mkS [(1,(.bp 0 0)),(2,(.pl (.sl .nil 0 []))),(3,(jI 0)),(5,(.own 1)),(7,(.bp 2 0)),(8,(.bp 3 0)),(16,(jL 3 Qa.cells ba1.Lots)),(17,(jI (ba1.Lots.length:Int))),(18,(jI bd2))],[some (.box ((Qe.cells ba1).map .pl)),some (.row false 1 (bl3.map (cInt .i64))),some (.box ((Qa.cells be4).map .pl)),some (.box (((cInt .i64) be4.Units).map .pl))])
noncomputable def f18n3(ba1:Qe)(bd2:Int)(bl3:List Int)(be4:Qa):Option f18n3O :=
 (f35r1 ba1 be4).bind fun x70 =>
 (f18n4 ba1 bd2 bl3 be4).bind fun o75=>match o75 with
 | .norm v77=>some (.norm v77)
theorem f18n3_ok(ba1:Qe)(bd2:Int)(bl3:List Int)(be4:Qa){o:f18n3O}(h:f18n3 ba1 bd2 bl3 be4=some o):T Try.prog Try.f18.ntmps 0 (cL (Ql 2 (cL (cL (Ql 2 (cL (cL (Ql 1 (cL (Ql 3 c18)))))))))) (f18n3S ba1 bd2 bl3 be4) (·=f18n3E ba1 bd2 bl3 be4 o):=by
 unfold f18n3 at h;obtain ⟨x70,h71,h⟩:=Qf h;refine rN Qh 1 [([],[(2,.call (.clo 53 [(.bp 4 0),(.bp 5 0)]) (jN 4 [some (.box ((Qe.cells ba1).map .pl)),some (.box ((Qa.cells be4).map .pl))]))],[])] [] [] [0,1,3,4,5] [1,2,3,5,8,16,17,18,26] (f18n4S ba1 bd2 bl3 be4) (ap (Qn.rn 4 [] (f35r1_ok ba1 be4 h71)) an) ?_;obtain ⟨o75,h76,h⟩:=Qf h;cases o75 with
 | norm v77 =>
  obtain rfl:=Qg h;exact T.last' (f18n4_ok ba1 bd2 bl3 be4 h76) (tds:=[]) (m:=[0,1,2]) (keep:=[1,2,3,5,8,16,17,18]) (st2:=(f18n3E ba1 bd2 bl3 be4 (.norm v77)).2) (by kernel_rfl) an rfl
inductive f18n2O where
 | norm (v84:List Int)
def f18n2E(ba1:Qe)(bd2:Int)(bl3:List Int):f18n2O→Ex×Tr×Hp
 | .norm v84=>(.norm,mkS [(1,(.bp 0 0)),(2,(.pl (.sl .nil 0 []))),(3,(jI 0)),(5,(.own 1)),(16,(jL 3 Qa.cells ba1.Lots)),(17,(jI (ba1.Lots.length:Int))),(18,(jI bd2))],[some (.box ((Qe.cells ba1).map .pl)),some (.row false 1 (v84.map (cInt .i64)))])
def f18n2S(ba1:Qe)(bd2:Int)(bl3:List Int):Tr×Hp:=(mkS [(1,(.bp 0 0)),(2,(.pl (.sl .nil 0 []))),(3,(jI 0)),(5,(.own 1)),(16,(jL 3 Qa.cells ba1.Lots)),(17,(jI (ba1.Lots.length:Int))),(18,(jI bd2))],[some (.box ((Qe.cells ba1).map .pl)),some (.row false 1 (bl3.map (cInt .i64)))])
noncomputable def f18n2(ba1:Qe)(bd2:Int)(bl3:List Int):Option f18n2O :=
 (at? ba1.Lots bd2).bind fun x66 =>
 (f18n3 ba1 bd2 bl3 x66).bind fun o79=>match o79 with
 | .norm v81=>req (fit (bl3.length+1) 8) <|
  some (.norm (bl3++[v81]))
theorem f18n2_ok(ba1:Qe)(bd2:Int)(bl3:List Int){o:f18n2O}(h:f18n2 ba1 bd2 bl3=some o):T Try.prog Try.f18.ntmps 0 (cL (Ql 2 (cL (cL (Ql 1 (cL (Ql 3 c18))))))) (f18n2S ba1 bd2 bl3) (·=f18n2E ba1 bd2 bl3 o):=by
 unfold f18n2 at h;refine T.block' (i:=1) (by kernel_rfl) ?_;obtain ⟨x66,h67,h⟩:=Qf h;refine rN Qh 2 [([],[(0,.idx (Int.toNat bd2) (Qa.cells x66))],[]),j3] [] [] [0,1,2,3] [1,2,3,5,7,8,16,17,18] (f18n3S ba1 bd2 bl3 x66) (ap (Qk h67).1 (ap (Qq Qa.cells (Qk h67).2) an)) ?_;obtain ⟨o79,h80,h⟩:=Qf h;cases o79 with
 | norm v81 =>
  refine T.oneN (by kernel_rfl) (f18n3_ok ba1 bd2 bl3 x66 h80) (st2:=(f18n3E ba1 bd2 bl3 x66 (.norm v81)).2) rfl ?_;obtain ⟨h83,h⟩:=Qal h;obtain rfl:=Qg h;exact rE Qh [([],[(3,.fits)],[(3,.row 4 ((bl3++[v81]).map (cInt .i64)))])] [] [] [0,4] [1,2,3,5,16,17,18] (.norm,(f18n2E ba1 bd2 bl3 (.norm (bl3++[v81]))).2) (ap (fit_map (te:=ti3) (xs:=bl3) (n:=1) (c:=(cInt .i64)) h83 rfl) (ap (app_cv (xs:=bl3) (ys:=[v81]) (c:=(cInt .i64))) an)) rfl
inductive f18n5O where
 | exit0 (v88:List Int)
def f18n5E(ba1:Qe):f18n5O→Ex×Tr×Hp
 | .exit0 v88=>((.exit 0),mkS [(5,(.own 0))],[some (.row false 1 (v88.map (cInt .i64)))])
def f18n5S(ba1:Qe)(v60:Int)(v61:List Int):Tr×Hp:=(mkS [(1,(.bp 0 0)),(2,(.pl (.sl .nil 0 []))),(3,(jI 0)),(5,(.own 1)),(16,(jL 3 Qa.cells ba1.Lots)),(17,(jI (ba1.Lots.length:Int))),(18,(jI v60))],[some (.box ((Qe.cells ba1).map .pl)),some (.row false 1 (v61.map (cInt .i64)))])
noncomputable def f18n5:Nat→Qe→Int→List Int→Option f18n5O
 | 0,_,_,_=>none
 | f+1,ba1,v60,v61 =>
  bif decide (v60<(ba1.Lots.length:Int)) then
   (f18n2 ba1 v60 v61).bind fun o85=>match o85 with
   | .norm v87=>(f18n5 f ba1 (wr64 (v60+1)) v87)
  else
   some (.exit0 v61)
theorem f18n5_ok:∀(f:Nat)(ba1:Qe)(v60:Int)(v61:List Int){o:f18n5O},f18n5 f ba1 v60 v61=some o→TL Try.prog Try.f18.ntmps 0 f (cL (cL (Ql 1 (cL (Ql 3 c18))))) (f18n5S ba1 v60 v61) (·=f18n5E ba1 o)
 | 0,_,_,_,o,h=>by rw [f18n5] at h; cases h
 | f+1,ba1,v60,v61,o,h=>by
  rw [f18n5] at h;refine TL.body (K:=fun s=>∃v60:Int,∃v61:List Int,s=(f18n5S ba1 v60 v61)∧f18n5 f ba1 v60 v61=some o) ?_ (by rintro _ ⟨v60,v61,rfl,hk⟩; exact f18n5_ok f _ _ _ hk);rcases Qi h with ⟨h63,h⟩|⟨h63,h⟩
  ·refine rN Qh 2 [j3] [some true] [] [0,1] [1,2,3,5,16,17,18] (f18n2S ba1 v60 v61) (ap h63 an) ?_;obtain ⟨o85,h86,h⟩:=Qf h;cases o85 with
   | norm v87 =>
    refine T.oneN (by kernel_rfl) (f18n2_ok ba1 v60 v61 h86) (st2:=(f18n2E ba1 v60 v61 (.norm v87)).2) rfl ?_;exact rE Qh [j3] [] [] [0,1] [1,2,3,5,16,17,18] (.norm,(f18n5S ba1 (wr64 (v60+1)) v87)) an (Qu.norm ⟨(wr64 (v60+1)),v87,rfl,h⟩)
  ·obtain rfl:=Qg h;exact rK Qh 2 [j3] [some false] [] [1] [5] (.exit 0) ((f18n5E ba1 (.exit0 v61)).2) (ap h63 an) (Qu.out rfl rfl)
inductive f18n1O where
 | norm (v92:List Int)
def f18n1E(ba1:Qe):f18n1O→Ex×Tr×Hp
 | .norm v92=>(.norm,mkS [(5,(.own 0))],[some (.row false 1 (v92.map (cInt .i64)))])
def f18n1S(ba1:Qe):Tr×Hp:=(mkS [(1,(.bp 0 0)),(2,(.pl (.sl .nil 0 []))),(3,(jI 0)),(5,(.pl (.sl .nil 0 [])))],[some (.box ((Qe.cells ba1).map .pl))])
noncomputable def f18n1(ba1:Qe):Option f18n1O :=
 (f18n5 FUEL ba1 0 []).bind fun o89=>match o89 with
 | .exit0 v91=>some (.norm v91)
theorem f18n1_ok(ba1:Qe){o:f18n1O}(h:f18n1 ba1=some o):T Try.prog Try.f18.ntmps 0 (cL (Ql 3 c18)) (f18n1S ba1) (·=f18n1E ba1 o):=by
 unfold f18n1 at h;refine rN Qh 1 [([],[],[(2,.val (jI (ba1.Lots.length:Int)))])] [] [.mat 5 1] [0,1] [1,2,3,5,16,17,18] (f18n5S ba1 0 []) (ap (Qad (xs:=ba1.Lots) (c:=Qa.cells)) an) ?_;obtain ⟨o89,h90,h⟩:=Qf h;cases o89 with
 | exit0 v91 =>
  obtain rfl:=Qg h;exact T.last' (T.bl (i:=0) (by kernel_rfl) (by kernel_rfl) (f18n5_ok FUEL ba1 0 [] h90)) (tds:=[]) (m:=[0]) (keep:=[5]) (st2:=(f18n1E ba1 (.norm v91)).2) (by kernel_rfl) an rfl
inductive f18n0O where
 | ret (v96:Int) (v97:List Int)
def f18n0E(a1:Qe):f18n0O→Ex×Tr×Hp
 | .ret v96 v97=>(.ret,mkS [(2,(.own 0)),(3,(jI v96))],[some (.row false 1 (v97.map (cInt .i64)))])
def f18n0S(a1:Qe):Tr×Hp:=(Qag [(jA Qe.cells a1)] 0 .leaf,[])
noncomputable def f18n0(a1:Qe):Option f18n0O :=
 (f31 a1).bind fun x5 =>
 bif decide (x5=0) then
  (f18n1 a1).bind fun o93=>match o93 with
  | .norm v95=>some (.ret 0 v95)
 else
  some (.ret x5 [])
theorem f18n0_ok(a1:Qe){o:f18n0O}(h:f18n0 a1=some o):T Try.prog Try.f18.ntmps 0 c18 (f18n0S a1) (·=f18n0E a1 o):=by
 unfold f18n0 at h;obtain ⟨x5,h6,h⟩:=Qf h;rcases Qi h with ⟨h7,h⟩|⟨h7,h⟩
 ·refine rN Qh 3 [j3,([],[jH 1 (jI x5)],[]),j3,j3] [some false] [] [0] [1,2,3,5] (f18n1S a1) (ap (Qaq a1 h6) (ap (Qac h7) an)) ?_;obtain ⟨o93,h94,h⟩:=Qf h;cases o93 with
  | norm v95 =>
   refine T.oneN (by kernel_rfl) (f18n1_ok a1 h94) (st2:=(f18n1E a1 (.norm v95)).2) rfl ?_;obtain rfl:=Qg h;exact rE Qh [j3] [] [] [0] [2,3] (.ret,(f18n0E a1 (.ret 0 v95)).2) an rfl
 ·obtain rfl:=Qg h;exact rK Qh 2 [j3,([],[jH 1 (jI x5)],[]),j3,j3] [some true] [.mat 2 1] [1] [2,3] .ret ((f18n0E a1 (.ret x5 [])).2) (ap (Qaq a1 h6) (ap (Qak h7) an)) rfl
noncomputable def f18(a1:Qe):Option ((List Int)×Int):=(f18n0 a1).bind fun o=>match o with
 | .ret v96 v97=>some (v97,v96)
theorem f18_ok(a1:Qe){r:(List Int)×Int}(h:f18 a1=some r):Qn Try.prog false 18 [(jA Qe.cells a1)] [] (.tup [(.pl (.sl .any 1 (r.1.map (cInt .i64)))),(jI r.2)]) []:=by
 unfold f18 at h;obtain ⟨o,ho,h⟩:=Qf h;cases o with
 | ret v96 v97 =>
  obtain rfl:=Qg h;exact Qn.plain Qh (f:=Try.f18) (c:=c18) (by kernel_rfl) (by kernel_rfl) (by kernel_rfl) (by kernel_rfl) ((f18n0_ok a1 ho).mono fun r e=>by subst e; exact ⟨.inl rfl,(.tup [(.own 0),(jI v96)]),(.tup [(.pl (.sl .any 1 (v97.map (cInt .i64)))),(jI v96)]),by kernel_rfl,by kernel_rfl,((Wk.refl _):Wk (.tup [(.pl (.sl .any 1 (v97.map (cInt .i64)))),(jI v96)]) (.tup [(.pl (.sl .any 1 (v97.map (cInt .i64)))),(jI v96)]))⟩)

noncomputable def c7:Code:=Try.f7.body.getD .skip

noncomputable def c43:Code:=Try.f43.body.getD .skip
inductive f43r1n0O where
 | ret (v5:List Qa)
def f43r1n0E(a1:List Qa):f43r1n0O→Ex×Tr×Hp
 | .ret v5=>(.ret,mkS [(2,(.own 1))],[jR 3 Qa.cells a1,jR 3 Qa.cells v5])
def f43r1n0S(a1:List Qa):Tr×Hp:=(Qag [(.own 0)] 0 .leaf,[jR 3 Qa.cells a1])
noncomputable def f43r1n0(a1:List Qa):Option f43r1n0O :=
 bif (a1.isEmpty) then
  some (.ret [])
 else
  req (fit a1.length 32) <|
  some (.ret a1)
theorem f43r1n0_ok(a1:List Qa){o:f43r1n0O}(h:f43r1n0 a1=some o):T Try.prog Try.f43.ntmps 1 c43 (f43r1n0S a1) (·=f43r1n0E a1 o):=by
 unfold f43r1n0 at h;refine rN Qh 1 [j3] [] [] [] [0] (mkS [(0,(.own 0))],[jR 3 Qa.cells a1]) an ?_;refine T.nest (by kernel_rfl) ?_;rcases Qi h with ⟨h2,h⟩|⟨h2,h⟩
 ·refine rN Qh 0 [] [] [] [] [0] (mkS [(0,(.own 0))],[jR 3 Qa.cells a1]) an ?_;refine T.oneNil Qh (x:=.tmp 0) (t:=22) (t3:=3) (t4:=4) (sz:=3) (es:=(a1.map Qa.cells)) (by kernel_rfl) (by kernel_rfl) (by kernel_rfl) (by kernel_rfl) (by kernel_rfl) (fun b hb=>?_);cases b
  ·refine rE Qh [] [none] [] [] [0] (.norm,(mkS [(0,(.own 0))],[jR 3 Qa.cells a1])) an (ThenQ.norm ?_);obtain rfl:=Qg h;exact rE Qh [([],[(2,.app false)],[])] [] [] [1] [2] (.ret,(f43r1n0E a1 (.ret [])).2) (ap (nil_map (c:=Qa.cells) h2) an) rfl
  ·obtain rfl:=Qg h;exact rE Qh [j3] [none] [.mat 2 3] [1] [2] (.ret,(f43r1n0E a1 (.ret [])).2) an (ThenQ.out rfl rfl)
 ·refine rN Qh 0 [] [] [] [] [0] (mkS [(0,(.own 0))],[jR 3 Qa.cells a1]) an ?_;refine T.oneNil Qh (x:=.tmp 0) (t:=22) (t3:=3) (t4:=4) (sz:=3) (es:=(a1.map Qa.cells)) (by kernel_rfl) (by kernel_rfl) (by kernel_rfl) (by kernel_rfl) (by kernel_rfl) (fun b hb=>?_);cases b
  ·refine rE Qh [] [none] [] [] [0] (.norm,(mkS [(0,(.own 0))],[jR 3 Qa.cells a1])) an (ThenQ.norm ?_);obtain ⟨h4,h⟩:=Qal h;obtain rfl:=Qg h;exact rE Qh [([],[(2,.app true)],[])] [] [] [2] [2] (.ret,(f43r1n0E a1 (.ret a1)).2) (ap (fit_map0z (te:=ti39) (xs:=a1) (c:=Qa.cells) h4 rfl) (ap (ne_map (c:=Qa.cells) h2) (ap (len_all (c:=Qa.cells) (xs:=a1) (n:=3) (fun _=>rfl)) an))) rfl
  ·exact absurd (hb rfl) (ne_map (c:=Qa.cells) h2)
noncomputable def f43r1(a1:List Qa):Option (List Qa):=(f43r1n0 a1).bind fun o=>match o with
 | .ret v5=>some v5
theorem f43r1_ok(a1:List Qa){r:List Qa}(h:f43r1 a1=some r):Qn Try.prog true 43 [(.own 0)] [jR 3 Qa.cells a1] (.own 1) [jR 3 Qa.cells a1,jR 3 Qa.cells r]:=by
 unfold f43r1 at h;obtain ⟨o,ho,h⟩:=Qf h;cases o with
 | ret v5 =>
  obtain rfl:=Qg h;exact Qn.shared Qh (f:=Try.f43) (c:=c43) (by kernel_rfl) (by kernel_rfl) (by kernel_rfl) ((f43r1n0_ok a1 ho).mono fun r e=>by subst e; exact ⟨.inl rfl,by kernel_rfl,by kernel_rfl⟩)

noncomputable def c19:Code:=Try.f19.body.getD .skip
inductive f19r1n0O where
 | ret (v13:Int) (v14:Int) (v15:List Qa)
def f19r1n0E(a1:Int)(a2:List Qa):f19r1n0O→Ex×Tr×Hp
 | .ret v13 v14 v15=>(.ret,mkS [(4,(.bp 1 0)),(5,(jI v13))],[jR 3 Qa.cells a2,some (.box [(.pl (.int .u8 v14)),(.own 2),(.pl (.sl .nil 0 []))]),jR 3 Qa.cells v15])
def f19r1n0S(a1:Int)(a2:List Qa):Tr×Hp:=(Qag [(.pl (.int .u8 a1)),(.own 0)] 0 .leaf,[jR 3 Qa.cells a2])
noncomputable def f19r1n0(a1:Int)(a2:List Qa):Option f19r1n0O :=
 (f43r1 a2).bind fun x5 =>
 (f31 (Qe.mk a1 x5 [])).bind fun x10 =>
 bif decide (x10=0) then
  some (.ret 0 a1 x5)
 else
  some (.ret 2 0 [])
theorem f19r1n0_ok(a1:Int)(a2:List Qa){o:f19r1n0O}(h:f19r1n0 a1 a2=some o):T Try.prog Try.f19.ntmps 1 c19 (f19r1n0S a1 a2) (·=f19r1n0E a1 a2 o):=by
 unfold f19r1n0 at h;obtain ⟨x5,h6,h⟩:=Qf h;obtain ⟨x10,h11,h⟩:=Qf h;rcases Qi h with ⟨h12,h⟩|⟨h12,h⟩
 ·obtain rfl:=Qg h;exact rE Qh [j3,([],[(2,.call (.own 2) [jR 3 Qa.cells a2,none,jR 3 Qa.cells x5])],[]),([],[jH 1 (jI x10)],[]),j3] [some false] [] [1,2] [4,5] (.ret,(f19r1n0E a1 a2 (.ret 0 a1 x5)).2) (ap (Qn.rn 2 [0] (f43r1_ok a2 h6)) (ap (Qn.wk (args':=[(.pl (.agg [(.int .u8 a1),(.sl .any 3 (x5.map Qa.cells)),(.sl .nil 0 [])]))]) (Qaq (Qe.mk a1 x5 []) h11) (wlc (Wk.pl (WkP.agg (wpc (WkP.refl _) (wpc (WkP.refl _) (wpc (WkP.nil (f:=.nil) (sz:=0) (sz':=4)) wpn))))) wln) (Wk.refl _) rfl) (ap (Qac h12) an))) rfl
 ·obtain rfl:=Qg h;exact rK Qh 3 [j3,([],[(2,.call (.own 2) [jR 3 Qa.cells a2,none,jR 3 Qa.cells x5])],[]),([],[jH 1 (jI x10)],[]),j3] [some true] [.matC 1 1 3] [1,4] [4,5] .ret ((f19r1n0E a1 a2 (.ret 2 0 [])).2) (ap (Qn.rn 2 [0] (f43r1_ok a2 h6)) (ap (Qn.wk (args':=[(.pl (.agg [(.int .u8 a1),(.sl .any 3 (x5.map Qa.cells)),(.sl .nil 0 [])]))]) (Qaq (Qe.mk a1 x5 []) h11) (wlc (Wk.pl (WkP.agg (wpc (WkP.refl _) (wpc (WkP.refl _) (wpc (WkP.nil (f:=.nil) (sz:=0) (sz':=4)) wpn))))) wln) (Wk.refl _) rfl) (ap (Qak h12) an))) rfl
noncomputable def f19r1(a1:Int)(a2:List Qa):Option (Int×Int×(List Qa)):=(f19r1n0 a1 a2).bind fun o=>match o with
 | .ret v13 v14 v15=>some (v13,v14,v15)
theorem f19r1_ok(a1:Int)(a2:List Qa){r:Int×Int×(List Qa)}(h:f19r1 a1 a2=some r):Qn Try.prog true 19 [(.pl (.int .u8 a1)),(.own 0)] [jR 3 Qa.cells a2] (.tup [(.agg [(.pl (.int .u8 r.2.1)),(.own 2),(.pl (.sl .nil 0 []))]),(jI r.1)]) [jR 3 Qa.cells a2,some (.box [(.pl (.int .u8 r.2.1)),(.own 2),(.pl (.sl .nil 0 []))]),jR 3 Qa.cells r.2.2]:=by
 unfold f19r1 at h;obtain ⟨o,ho,h⟩:=Qf h;cases o with
 | ret v13 v14 v15 =>
  obtain rfl:=Qg h;exact Qn.shared Qh (f:=Try.f19) (c:=c19) (by kernel_rfl) (by kernel_rfl) (by kernel_rfl) ((f19r1n0_ok a1 a2 ho).mono fun r e=>by subst e; exact ⟨.inl rfl,by kernel_rfl,by kernel_rfl⟩)





end Go.Proofs.Ythpceddjepbamaa
namespace Go.Proofs.Ythpceddjepbamaa
set_option linter.unusedVariables false
set_option linter.unusedSimpArgs false
set_option maxRecDepth 100000
open Go.RowKit



noncomputable def c46:Code:=Try.f46.body.getD .skip
inductive f46r1n0O where
 | ret (v5:List Qb)
def f46r1n0E(a1:List Qb):f46r1n0O→Ex×Tr×Hp
 | .ret v5=>(.ret,mkS [(2,(.own 1))],[jR 4 Qb.cells a1,jR 4 Qb.cells v5])
def f46r1n0S(a1:List Qb):Tr×Hp:=(Qag [(.own 0)] 0 .leaf,[jR 4 Qb.cells a1])
noncomputable def f46r1n0(a1:List Qb):Option f46r1n0O :=
 bif (a1.isEmpty) then
  some (.ret [])
 else
  req (fit a1.length 48) <|
  some (.ret a1)
theorem f46r1n0_ok(a1:List Qb){o:f46r1n0O}(h:f46r1n0 a1=some o):T Try.prog Try.f46.ntmps 1 c46 (f46r1n0S a1) (·=f46r1n0E a1 o):=by
 unfold f46r1n0 at h;refine rN Qh 1 [j3] [] [] [] [0] (mkS [(0,(.own 0))],[jR 4 Qb.cells a1]) an ?_;refine T.nest (by kernel_rfl) ?_;rcases Qi h with ⟨h2,h⟩|⟨h2,h⟩
 ·refine rN Qh 0 [] [] [] [] [0] (mkS [(0,(.own 0))],[jR 4 Qb.cells a1]) an ?_;refine T.oneNil Qh (x:=.tmp 0) (t:=23) (t3:=3) (t4:=4) (sz:=4) (es:=(a1.map Qb.cells)) (by kernel_rfl) (by kernel_rfl) (by kernel_rfl) (by kernel_rfl) (by kernel_rfl) (fun b hb=>?_);cases b
  ·refine rE Qh [] [none] [] [] [0] (.norm,(mkS [(0,(.own 0))],[jR 4 Qb.cells a1])) an (ThenQ.norm ?_);obtain rfl:=Qg h;exact rE Qh [([],[(2,.app false)],[])] [] [] [1] [2] (.ret,(f46r1n0E a1 (.ret [])).2) (ap (nil_map (c:=Qb.cells) h2) an) rfl
  ·obtain rfl:=Qg h;exact rE Qh [j3] [none] [.mat 2 4] [1] [2] (.ret,(f46r1n0E a1 (.ret [])).2) an (ThenQ.out rfl rfl)
 ·refine rN Qh 0 [] [] [] [] [0] (mkS [(0,(.own 0))],[jR 4 Qb.cells a1]) an ?_;refine T.oneNil Qh (x:=.tmp 0) (t:=23) (t3:=3) (t4:=4) (sz:=4) (es:=(a1.map Qb.cells)) (by kernel_rfl) (by kernel_rfl) (by kernel_rfl) (by kernel_rfl) (by kernel_rfl) (fun b hb=>?_);cases b
  ·refine rE Qh [] [none] [] [] [0] (.norm,(mkS [(0,(.own 0))],[jR 4 Qb.cells a1])) an (ThenQ.norm ?_);obtain ⟨h4,h⟩:=Qal h;obtain rfl:=Qg h;exact rE Qh [([],[(2,.app true)],[])] [] [] [2] [2] (.ret,(f46r1n0E a1 (.ret a1)).2) (ap (fit_map0z (te:=ti42) (xs:=a1) (c:=Qb.cells) h4 rfl) (ap (ne_map (c:=Qb.cells) h2) (ap (len_all (c:=Qb.cells) (xs:=a1) (n:=4) (fun _=>rfl)) an))) rfl
  ·exact absurd (hb rfl) (ne_map (c:=Qb.cells) h2)
noncomputable def f46r1(a1:List Qb):Option (List Qb):=(f46r1n0 a1).bind fun o=>match o with
 | .ret v5=>some v5
theorem f46r1_ok(a1:List Qb){r:List Qb}(h:f46r1 a1=some r):Qn Try.prog true 46 [(.own 0)] [jR 4 Qb.cells a1] (.own 1) [jR 4 Qb.cells a1,jR 4 Qb.cells r]:=by
 unfold f46r1 at h;obtain ⟨o,ho,h⟩:=Qf h;cases o with
 | ret v5 =>
  obtain rfl:=Qg h;exact Qn.shared Qh (f:=Try.f46) (c:=c46) (by kernel_rfl) (by kernel_rfl) (by kernel_rfl) ((f46r1n0_ok a1 ho).mono fun r e=>by subst e; exact ⟨.inl rfl,by kernel_rfl,by kernel_rfl⟩)

noncomputable def c23:Code:=Try.f23.body.getD .skip
inductive f23r1n0O where
 | ret (v41:Int) (v42:Int) (v43:List Qa) (v44:List Qb)
def f23r1n0E(a1:Int)(a2 a3:ByteArray)(a4 a5:Int)(a6:List Qa)(a7:List Qb):f23r1n0O→Ex×Tr×Hp
 | .ret v41 v42 v43 v44=>(.ret,mkS [(10,(.bp 2 0)),(11,(jI v41))],[jR 3 Qa.cells a6,jR 4 Qb.cells a7,some (.box [(.pl (.int .u8 v42)),(.own 3),(.own 4)]),jR 3 Qa.cells v43,jR 4 Qb.cells v44])
def f23r1n0S(a1:Int)(a2 a3:ByteArray)(a4 a5:Int)(a6:List Qa)(a7:List Qb):Tr×Hp:=(Qag [(.agg [(.pl (.int .u8 a1)),(.own 0),(.own 1)]),(jS a2),(jS a3),(jI a4),(jI a5)] 0 .leaf,[jR 3 Qa.cells a6,jR 4 Qb.cells a7])
noncomputable def f23r1n0(a1:Int)(a2 a3:ByteArray)(a4 a5:Int)(a6:List Qa)(a7:List Qb):Option f23r1n0O :=
 (f31 (Qe.mk a1 a6 a7)).bind fun x11 =>
 bif decide (x11=0) then
  (f44 a6 a3).bind fun x16 =>
  (f45 (Qb.mk a2 a3 a4 a5)).bind fun x23 =>
  bif x23 then
   bif x16.2 then
    bif decide ((a7.length:Int)=100) then
     some (.ret 22 0 [] [])
    else
     (f43r1 a6).bind fun x30 =>
     (f46r1 a7).bind fun x38 =>
     req (fit (x38.length+1) 48) <|
     some (.ret 0 a1 x30 (x38++[(Qb.mk a2 a3 a4 a5)]))
   else
    some (.ret 6 0 [] [])
  else
   some (.ret 2 0 [] [])
 else
  some (.ret x11 0 [] [])
theorem f23r1n0_ok(a1:Int)(a2 a3:ByteArray)(a4 a5:Int)(a6:List Qa)(a7:List Qb){o:f23r1n0O}(h:f23r1n0 a1 a2 a3 a4 a5 a6 a7=some o):T Try.prog Try.f23.ntmps 2 c23 (f23r1n0S a1 a2 a3 a4 a5 a6 a7) (·=f23r1n0E a1 a2 a3 a4 a5 a6 a7 o):=by
 unfold f23r1n0 at h;obtain ⟨x11,h12,h⟩:=Qf h;rcases Qi h with ⟨h13,h⟩|⟨h13,h⟩
 ·obtain ⟨x16,h17,h⟩:=Qf h;obtain ⟨x23,h24,h⟩:=Qf h;rcases Qi h with ⟨h25,h⟩|⟨h25,h⟩
  ·rcases Qi h with ⟨h26,h⟩|⟨h26,h⟩
   ·rcases Qi h with ⟨h27,h⟩|⟨h27,h⟩
    ·obtain rfl:=Qg h;exact rK Qh 5 [j3,j3,([],[jH 1 (jI x11)],[]),j3,([],[jH 3 (.tup [(jI x16.1),(jB x16.2)])],[]),([],[jH 1 (jB x23)],[]),j3,([],[],[(2,.val (jI (a7.length:Int)))]),j3] [some false,some false,some false,some true] [.matC 3 1 3,.matC 3 2 4] [3,5,6] [10,11] .ret ((f23r1n0E a1 a2 a3 a4 a5 a6 a7 (.ret 22 0 [] [])).2) (ap (Qaq (Qe.mk a1 a6 a7) h12) (ap (Qac h13) (ap (f44_ok a6 a3 h17) (ap (f45_ok (Qb.mk a2 a3 a4 a5) h24) (ap (Qac h25) (ap (Qac h26) (ap (Qad (xs:=a7) (c:=Qb.cells)) (ap h27 an)))))))) rfl
    ·obtain ⟨x30,h31,h⟩:=Qf h;obtain ⟨x38,h39,h⟩:=Qf h;obtain ⟨h40,h⟩:=Qal h;obtain rfl:=Qg h
     exact rE Qh [j3,j3,([],[jH 1 (jI x11)],[]),j3,([],[jH 3 (.tup [(jI x16.1),(jB x16.2)])],[]),([],[jH 1 (jB x23)],[]),j3,([],[],[(2,.val (jI (a7.length:Int)))]),([],[(2,.call (.own 5) [jR 3 Qa.cells a6,none,none,none,none,jR 3 Qa.cells x30])],[]),([],[(2,.call (.own 9) [none,jR 4 Qb.cells a7,none,none,none,none,none,none,none,jR 4 Qb.cells x38]),(5,.fits)],[(5,.row 7 ((x38++[(Qb.mk a2 a3 a4 a5)]).map Qb.cells))]),j3] [some false,some false,some false,some false] [] [3,5,7] [10,11] (.ret,(f23r1n0E a1 a2 a3 a4 a5 a6 a7 (.ret 0 a1 x30 (x38++[(Qb.mk a2 a3 a4 a5)]))).2) (ap (Qaq (Qe.mk a1 a6 a7) h12) (ap (Qac h13) (ap (f44_ok a6 a3 h17) (ap (f45_ok (Qb.mk a2 a3 a4 a5) h24) (ap (Qac h25) (ap (Qac h26) (ap (Qad (xs:=a7) (c:=Qb.cells)) (ap h27 (ap (Qn.rn 5 [0] (f43r1_ok a6 h31)) (ap (fit_map (te:=ti42) (xs:=x38) (n:=1) (c:=Qb.cells) h40 rfl) (ap (app_cv (xs:=x38) (ys:=[(Qb.mk a2 a3 a4 a5)]) (c:=Qb.cells)) (ap (Qn.rn 9 [1] (f46r1_ok a7 h39)) an)))))))))))) rfl
   ·obtain rfl:=Qg h;exact rK Qh 5 [j3,j3,([],[jH 1 (jI x11)],[]),j3,([],[jH 3 (.tup [(jI x16.1),(jB x16.2)])],[]),([],[jH 1 (jB x23)],[]),j3,j3] [some false,some false,some true] [.matC 3 1 3,.matC 3 2 4] [3,5,6] [10,11] .ret ((f23r1n0E a1 a2 a3 a4 a5 a6 a7 (.ret 6 0 [] [])).2) (ap (Qaq (Qe.mk a1 a6 a7) h12) (ap (Qac h13) (ap (f44_ok a6 a3 h17) (ap (f45_ok (Qb.mk a2 a3 a4 a5) h24) (ap (Qac h25) (ap (Qak h26) an)))))) rfl
  ·obtain rfl:=Qg h;exact rK Qh 5 [j3,j3,([],[jH 1 (jI x11)],[]),j3,([],[jH 3 (.tup [(jI x16.1),(jB x16.2)])],[]),([],[jH 1 (jB x23)],[]),j3] [some false,some true] [.matC 3 1 3,.matC 3 2 4] [3,5,6] [10,11] .ret ((f23r1n0E a1 a2 a3 a4 a5 a6 a7 (.ret 2 0 [] [])).2) (ap (Qaq (Qe.mk a1 a6 a7) h12) (ap (Qac h13) (ap (f44_ok a6 a3 h17) (ap (f45_ok (Qb.mk a2 a3 a4 a5) h24) (ap (Qak h25) an))))) rfl
 ·obtain rfl:=Qg h;exact rK Qh 3 [j3,j3,([],[jH 1 (jI x11)],[]),j3,j3] [some true] [.matC 3 1 3,.matC 3 2 4] [3,5,6] [10,11] .ret ((f23r1n0E a1 a2 a3 a4 a5 a6 a7 (.ret x11 0 [] [])).2) (ap (Qaq (Qe.mk a1 a6 a7) h12) (ap (Qak h13) an)) rfl
noncomputable def f23r1(a1:Int)(a2 a3:ByteArray)(a4 a5:Int)(a6:List Qa)(a7:List Qb):Option (Int×Int×(List Qa)×(List Qb)):=(f23r1n0 a1 a2 a3 a4 a5 a6 a7).bind fun o=>match o with
 | .ret v41 v42 v43 v44=>some (v41,v42,v43,v44)
theorem f23r1_ok(a1:Int)(a2 a3:ByteArray)(a4 a5:Int)(a6:List Qa)(a7:List Qb){r:Int×Int×(List Qa)×(List Qb)}(h:f23r1 a1 a2 a3 a4 a5 a6 a7=some r):Qn Try.prog true 23 [(.agg [(.pl (.int .u8 a1)),(.own 0),(.own 1)]),(jS a2),(jS a3),(jI a4),(jI a5)] [jR 3 Qa.cells a6,jR 4 Qb.cells a7] (.tup [(.agg [(.pl (.int .u8 r.2.1)),(.own 3),(.own 4)]),(jI r.1)]) [jR 3 Qa.cells a6,jR 4 Qb.cells a7,some (.box [(.pl (.int .u8 r.2.1)),(.own 3),(.own 4)]),jR 3 Qa.cells r.2.2.1,jR 4 Qb.cells r.2.2.2]:=by
 unfold f23r1 at h;obtain ⟨o,ho,h⟩:=Qf h;cases o with
 | ret v41 v42 v43 v44 =>
  obtain rfl:=Qg h;exact Qn.shared Qh (f:=Try.f23) (c:=c23) (by kernel_rfl) (by kernel_rfl) (by kernel_rfl) ((f23r1n0_ok a1 a2 a3 a4 a5 a6 a7 ho).mono fun r e=>by subst e; exact ⟨.inl rfl,by kernel_rfl,by kernel_rfl⟩)









end Go.Proofs.Ythpceddjepbamaa
