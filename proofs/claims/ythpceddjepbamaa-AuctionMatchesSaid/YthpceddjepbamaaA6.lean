/- Several texts in one. No condition. -/
import Derived.Test.YthpceddjepbamaaA2
namespace Go.Proofs.Ythpceddjepbamaa
set_option linter.unusedVariables false
set_option linter.unusedSimpArgs false
set_option maxRecDepth 100000
open Go.RowKit

inductive f12y6n0O where
 | exit2
 | norm
noncomputable def f12y6n0E(a1:Qf)(a2:Int)(a3:List Qb):f12y6n0O→Ex×Tr×Hp
 | .exit2=>((.exit 2),mkS [],[some (.lp Qp .busy none (kL 63 [(5,(.bp 1 0)),(9,(.bp 2 0)),(10,(.bp 3 0))])),some (.box [(.own 4)]),some (.box (((cInt .i64) a2).map .pl)),some (.box [(.pl .nilf)]),jR 3 Qb.cells a3])
 | .norm=>(.norm,mkS [],[some (.lp Qp .busy none (kL 63 [(5,(.bp 1 0)),(9,(.bp 2 0)),(10,(.bp 3 0))])),some (.box [(.own 5)]),some (.box (((cInt .i64) a2).map .pl)),some (.box [(.pl .nilf)]),none,some (.row false 3 ((a3++[(Qb.mk a1.index a1.units a1.bid.Price)]).map Qb.cells))])
noncomputable def f12y6n0S(a1:Qf)(a2:Int)(a3:List Qb):Tr×Hp:=(mkS [(5,(.bp 1 0)),(9,(.bp 2 0)),(10,(.bp 3 0)),(11,(.bp 5 0))],[some (.lp Qp .busy none (kL 63 [(5,(.bp 1 0)),(9,(.bp 2 0)),(10,(.bp 3 0))])),some (.box [(.own 4)]),some (.box (((cInt .i64) a2).map .pl)),some (.box [(.pl .nilf)]),jR 3 Qb.cells a3,some (.box ((Qf.cells a1).map .pl))])
noncomputable def f12y6n0(a1:Qf)(a2:Int)(a3:List Qb):Option f12y6n0O :=
 bif decide (a1.units=0) then
  some .exit2
 else
  req (fit (a3.length+1) 24) <|
  some .norm
theorem f12y6n0_ok(a1:Qf)(a2:Int)(a3:List Qb){o:f12y6n0O}(h:f12y6n0 a1 a2 a3=some o):T Try.prog Try.f12.ntmps 5 (rfB Qp) (f12y6n0S a1 a2 a3) (·=f12y6n0E a1 a2 a3 o):=by
 unfold f12y6n0 at h;refine T.block' (i:=3) (by kernel_rfl) ?_;rcases Qi h with ⟨h5,h⟩|⟨h5,h⟩
 ·obtain rfl:=Qg h;exact rK Qh 1 [j3] [some true] [] [] [] (.exit 2) ((f12y6n0E a1 a2 a3 .exit2).2) (ap h5 an) rfl
 ·obtain ⟨h7,h⟩:=Qak h;obtain rfl:=Qg h;exact rE Qh [j3,j3,j3,([],[(3,.fits)],[(3,.row 8 ((a3++[(Qb.mk a1.index a1.units a1.bid.Price)]).map Qb.cells))])] [some false,none] [] [8] [] (.norm,(f12y6n0E a1 a2 a3 .norm).2) (ap h5 (ap (fit_map (te:=ti36) (xs:=a3) (n:=1) (c:=Qb.cells) h7 rfl) (ap (app_cv (xs:=a3) (ys:=[(Qb.mk a1.index a1.units a1.bid.Price)]) (c:=Qb.cells)) an))) rfl
theorem f12y6_exit2(a1:Qf)(a2:Int)(a3:List Qb)(h:f12y6n0 a1 a2 a3=some .exit2):Qbk Try.prog [(jA Qf.cells a1)] 0 [some (.lp Qp .ready none (kL 63 [(5,(.bp 1 0)),(9,(.bp 2 0)),(10,(.bp 3 0))])),some (.box [(.own 4)]),some (.box (((cInt .i64) a2).map .pl)),some (.box [(.pl .nilf)]),jR 3 Qb.cells a3] false [some (.lp Qp .done (some (.exit 2)) (kL 63 [(5,(.bp 1 0)),(9,(.bp 2 0)),(10,(.bp 3 0))])),some (.box [(.own 4)]),some (.box (((cInt .i64) a2).map .pl)),some (.box [(.pl .nilf)]),jR 3 Qb.cells a3] :=
 Qbk.mk (c:=Qp) (n:=Try.f12.ntmps) (base:=5) (cs:=(kL 63 [(5,(.bp 1 0)),(9,(.bp 2 0)),(10,(.bp 3 0))])) (cs2:=(kL 63 [(5,(.bp 1 0)),(9,(.bp 2 0)),(10,(.bp 3 0))])) (cs3:=(kL 63 [(5,(.bp 1 0)),(9,(.bp 2 0)),(10,(.bp 3 0))])) (st2:=(mkS [(5,(.bp 1 0)),(9,(.bp 2 0)),(10,(.bp 3 0)),(11,(.bp 5 0))],[some (.lp Qp .ready none (kL 63 [(5,(.bp 1 0)),(9,(.bp 2 0)),(10,(.bp 3 0))])),some (.box [(.own 4)]),some (.box (((cInt .i64) a2).map .pl)),some (.box [(.pl .nilf)]),jR 3 Qb.cells a3,some (.box ((Qf.cells a1).map .pl))])) (e:=(f12y6n0E a1 a2 a3 .exit2)) (pend:=(some (.exit 2)))
  (run_ok (P:=Try.prog) (C:=cfg) Qh (c:=rfA Qp) (rs:=[j3]) (ps:=[]) (tds:=[]) (m:=[5]) (keep:=[5,9,10,11]) (by kernel_rfl) an)
  (f12y6n0_ok a1 a2 a3 h)
theorem f12y6_norm(a1:Qf)(a2:Int)(a3:List Qb)(h:f12y6n0 a1 a2 a3=some .norm):Qbk Try.prog [(jA Qf.cells a1)] 0 [some (.lp Qp .ready none (kL 63 [(5,(.bp 1 0)),(9,(.bp 2 0)),(10,(.bp 3 0))])),some (.box [(.own 4)]),some (.box (((cInt .i64) a2).map .pl)),some (.box [(.pl .nilf)]),jR 3 Qb.cells a3] true [some (.lp Qp .ready none (kL 63 [(5,(.bp 1 0)),(9,(.bp 2 0)),(10,(.bp 3 0))])),some (.box [(.own 5)]),some (.box (((cInt .i64) a2).map .pl)),some (.box [(.pl .nilf)]),none,some (.row false 3 ((a3++[(Qb.mk a1.index a1.units a1.bid.Price)]).map Qb.cells))] :=
 Qbk.mk (c:=Qp) (n:=Try.f12.ntmps) (base:=5) (cs:=(kL 63 [(5,(.bp 1 0)),(9,(.bp 2 0)),(10,(.bp 3 0))])) (cs2:=(kL 63 [(5,(.bp 1 0)),(9,(.bp 2 0)),(10,(.bp 3 0))])) (cs3:=(kL 63 [(5,(.bp 1 0)),(9,(.bp 2 0)),(10,(.bp 3 0))])) (st2:=(mkS [(5,(.bp 1 0)),(9,(.bp 2 0)),(10,(.bp 3 0)),(11,(.bp 5 0))],[some (.lp Qp .ready none (kL 63 [(5,(.bp 1 0)),(9,(.bp 2 0)),(10,(.bp 3 0))])),some (.box [(.own 4)]),some (.box (((cInt .i64) a2).map .pl)),some (.box [(.pl .nilf)]),jR 3 Qb.cells a3,some (.box ((Qf.cells a1).map .pl))])) (e:=(f12y6n0E a1 a2 a3 .norm)) (pend:=none)
  (run_ok (P:=Try.prog) (C:=cfg) Qh (c:=rfA Qp) (rs:=[j3]) (ps:=[]) (tds:=[]) (m:=[5]) (keep:=[5,9,10,11]) (by kernel_rfl) an)
  (f12y6n0_ok a1 a2 a3 h)


inductive f53r6n2O where
 | exit0 (v43:List Qf)
noncomputable def f53r6n2E(ba1:Qd)(be2:Qa)(bd3:Int)(bg4:List Qb):f53r6n2O→Ex×Tr×Hp
 | .exit0 v43=>((.exit 0),mkS [(0,(.yl 0)),(2,(.bp 2 0)),(4,(.own 7))],[some (.lp Qp .ready none (kL 63 [(5,(.bp 3 0)),(9,(.bp 4 0)),(10,(.bp 5 0))])),some (.box ((Qd.cells ba1).map .pl)),some (.box ((Qa.cells be2).map .pl)),some (.box [(.own 6)]),some (.box (((cInt .i64) bd3).map .pl)),some (.box [(.pl (.fn 56))]),jR 3 Qb.cells bg4,jR 6 Qf.cells v43])
noncomputable def f53r6n2S(ba1:Qd)(be2:Qa)(bd3:Int)(bg4:List Qb)(v29:Int)(v30:List Qf):Tr×Hp:=(mkS [(0,(.yl 0)),(2,(.bp 2 0)),(4,(.own 7)),(11,(jL 4 Qc.cells ba1.Bids)),(12,(jI (ba1.Bids.length:Int))),(13,(jI v29))],[some (.lp Qp .ready none (kL 63 [(5,(.bp 3 0)),(9,(.bp 4 0)),(10,(.bp 5 0))])),some (.box ((Qd.cells ba1).map .pl)),some (.box ((Qa.cells be2).map .pl)),some (.box [(.own 6)]),some (.box (((cInt .i64) bd3).map .pl)),some (.box [(.pl (.fn 56))]),jR 3 Qb.cells bg4,jR 6 Qf.cells v30])
noncomputable def f53r6n2:Nat→Qd→Qa→Int→List Qb→Int→List Qf→Option f53r6n2O
 | 0,_,_,_,_,_,_=>none
 | f+1,ba1,be2,bd3,bg4,v29,v30 =>
  bif decide (v29<(ba1.Bids.length:Int)) then
   (at? ba1.Bids v29).bind fun x38 =>
   bif (seq x38.Lot be2.Name) then
    bif decide (be2.Reserve≤x38.Price) then
     req (fit (v30.length+1) 64) <|
     (f53r6n2 f ba1 be2 bd3 bg4 (wr64 (v29+1)) (v30++[(Qf.mk v29 0 x38)]))
    else
     (f53r6n2 f ba1 be2 bd3 bg4 (wr64 (v29+1)) v30)
   else
    (f53r6n2 f ba1 be2 bd3 bg4 (wr64 (v29+1)) v30)
  else
   some (.exit0 v30)
theorem f53r6n2_ok:∀(f:Nat)(ba1:Qd)(be2:Qa)(bd3:Int)(bg4:List Qb)(v29:Int)(v30:List Qf){o:f53r6n2O},f53r6n2 f ba1 be2 bd3 bg4 v29 v30=some o→TL Try.prog Try.f53.ntmps 7 f (cL (cL (Qk 1 (cL (Qk 1 c53))))) (f53r6n2S ba1 be2 bd3 bg4 v29 v30) (·=f53r6n2E ba1 be2 bd3 bg4 o)
 | 0,_,_,_,_,_,_,o,h=>by rw [f53r6n2] at h; cases h
 | f+1,ba1,be2,bd3,bg4,v29,v30,o,h=>by
  rw [f53r6n2] at h;refine TL.body (K:=fun s=>∃v29:Int,∃v30:List Qf,s=(f53r6n2S ba1 be2 bd3 bg4 v29 v30)∧f53r6n2 f ba1 be2 bd3 bg4 v29 v30=some o) ?_ (by rintro _ ⟨v29,v30,rfl,hk⟩; exact f53r6n2_ok f _ _ _ _ _ _ hk);rcases Qi h with ⟨h32,h⟩|⟨h32,h⟩
  ·obtain ⟨x38,h39,h⟩:=Qe h;rcases Qi h with ⟨h40,h⟩|⟨h40,h⟩
   ·rcases Qi h with ⟨h41,h⟩|⟨h41,h⟩
    ·obtain ⟨h42,h⟩:=Qak h;exact rE Qh [j3,([],[(1,.idx (Int.toNat v29) (Qc.cells x38))],[]),(jT [6,7,8,9,10],[(11,.bool true)],[]),([],[(5,.fits)],[(5,.row 10 ((v30++[(Qf.mk v29 0 x38)]).map Qf.cells))]),j3] [some true,some true] [] [10] [0,2,4,11,12,13] (.norm,(f53r6n2S ba1 be2 bd3 bg4 (wr64 (v29+1)) (v30++[(Qf.mk v29 0 x38)]))) (ap h32 (ap (Qj h39).1 (ap (Qm Qc.cells (Qj h39).2) (ap2 h40 (ap4 h40 (ap h41 (ap (fit_map (te:=ti78) (xs:=v30) (n:=1) (c:=Qf.cells) h42 rfl) (ap (app_cv (xs:=v30) (ys:=[(Qf.mk v29 0 x38)]) (c:=Qf.cells)) an)))))))) (Qs.norm ⟨(wr64 (v29+1)),(v30++[(Qf.mk v29 0 x38)]),rfl,h⟩)
    ·exact rE Qh [j3,([],[(1,.idx (Int.toNat v29) (Qc.cells x38))],[]),(jT [6,7,8,9,10],[(11,.bool true)],[]),j3] [some true,some false] [] [7] [0,2,4,11,12,13] (.norm,(f53r6n2S ba1 be2 bd3 bg4 (wr64 (v29+1)) v30)) (ap h32 (ap (Qj h39).1 (ap (Qm Qc.cells (Qj h39).2) (ap2 h40 (ap4 h40 (ap h41 an)))))) (Qs.norm ⟨(wr64 (v29+1)),v30,rfl,h⟩)
   ·exact rE Qh [j3,([],[(1,.idx (Int.toNat v29) (Qc.cells x38))],[]),(jF [6,7,8,9,10],[(11,.bool false)],[]),j3] [some true,none] [] [7] [0,2,4,11,12,13] (.norm,(f53r6n2S ba1 be2 bd3 bg4 (wr64 (v29+1)) v30)) (ap h32 (ap (Qj h39).1 (ap (Qm Qc.cells (Qj h39).2) (ap2 h40 (ap4 h40 an))))) (Qs.norm ⟨(wr64 (v29+1)),v30,rfl,h⟩)
  ·obtain rfl:=Qg h;exact rK Qh 2 [j3] [some false] [] [7] [0,2,4] (.exit 0) ((f53r6n2E ba1 be2 bd3 bg4 (.exit0 v30)).2) (ap h32 an) (Qs.out rfl rfl)
noncomputable def f53r6n2L(ba1:Qd)(be2:Qa)(bd3:Int)(bg4:List Qb):List Qc→Int→(List Qf)→Option f53r6n2O
 | [],v29,v30 =>
  some (.exit0 v30)
 | x0::rest,v29,v30 =>
  bif (seq x0.Lot be2.Name) then
   bif decide (be2.Reserve≤x0.Price) then
    req (fit (v30.length+1) 64) <|
    (f53r6n2L ba1 be2 bd3 bg4 rest (v29+1) (v30++[(Qf.mk v29 0 x0)]))
   else
    (f53r6n2L ba1 be2 bd3 bg4 rest (v29+1) v30)
  else
   (f53r6n2L ba1 be2 bd3 bg4 rest (v29+1) v30)
theorem f53r6n2L_eq(ba1:Qd)(be2:Qa)(bd3:Int)(bg4:List Qb):∀(rest:List Qc)(f k:Nat)(v30:List Qf),ba1.Bids.drop k=rest→ba1.Bids.length≤maxLen→rest.length<f→f53r6n2 f ba1 be2 bd3 bg4 (k:Int) v30=f53r6n2L ba1 be2 bd3 bg4 rest (k:Int) v30
 | _,0,_,_,_,_,hf=>absurd hf (Nat.not_lt_zero _)
 | [],f+1,k,v30,hd,hm,hf=>by
  have hk:¬((k:Int)<(ba1.Bids.length:Int)):=by have:=Qac hd; omega
  rw [f53r6n2,f53r6n2L];simp only [decide_eq_false hk,cond_false]
 | x0::rest,f+1,k,v30,hd,hm,hf=>by
  obtain ⟨hx,hlt,hd'⟩:=Qan hd;have hk:(k:Int)<(ba1.Bids.length:Int):=by omega
  have hw:wr64 ((k:Int)+1)=(k:Int)+1:=Qbp (by omega) (by unfold maxLen at hm; omega);have ih:∀(v30:List Qf),f53r6n2 f ba1 be2 bd3 bg4 ((k:Int)+1) v30=f53r6n2L ba1 be2 bd3 bg4 rest ((k:Int)+1) v30:=fun v30=>f53r6n2L_eq ba1 be2 bd3 bg4 rest f (k+1) v30 hd' hm (by simpa using hf);rw [f53r6n2,f53r6n2L];simp only [decide_eq_true hk,cond_true,Qaq,hx,Option.bind_some,hw,ih]
theorem f53r6n2_run(ba1:Qd)(be2:Qa)(bd3:Int)(bg4:List Qb)(v30:List Qf)(hm:ba1.Bids.length≤maxLen):f53r6n2 FUEL ba1 be2 bd3 bg4 0 v30=f53r6n2L ba1 be2 bd3 bg4 ba1.Bids 0 v30:=f53r6n2L_eq ba1 be2 bd3 bg4 ba1.Bids FUEL 0 v30 List.drop_zero hm (Qai hm)
inductive f53r6n1O where
 | norm (v47:List Qf)
noncomputable def f53r6n1E(ba1:Qd)(be2:Qa)(bd3:Int)(bg4:List Qb):f53r6n1O→Ex×Tr×Hp
 | .norm v47=>(.norm,mkS [(0,(.yl 0)),(2,(.bp 2 0)),(4,(.own 7))],[some (.lp Qp .ready none (kL 63 [(5,(.bp 3 0)),(9,(.bp 4 0)),(10,(.bp 5 0))])),some (.box ((Qd.cells ba1).map .pl)),some (.box ((Qa.cells be2).map .pl)),some (.box [(.own 6)]),some (.box (((cInt .i64) bd3).map .pl)),some (.box [(.pl (.fn 56))]),jR 3 Qb.cells bg4,jR 6 Qf.cells v47])
noncomputable def f53r6n1S(ba1:Qd)(be2:Qa)(bd3:Int)(bg4:List Qb):Tr×Hp:=(mkS [(0,(.yl 0)),(1,(.bp 1 0)),(2,(.bp 2 0)),(4,(.pl (.sl .nil 0 [])))],[some (.lp Qp .ready none (kL 63 [(5,(.bp 3 0)),(9,(.bp 4 0)),(10,(.bp 5 0))])),some (.box ((Qd.cells ba1).map .pl)),some (.box ((Qa.cells be2).map .pl)),some (.box [(.own 6)]),some (.box (((cInt .i64) bd3).map .pl)),some (.box [(.pl (.fn 56))]),jR 3 Qb.cells bg4])
noncomputable def f53r6n1(ba1:Qd)(be2:Qa)(bd3:Int)(bg4:List Qb):Option f53r6n1O :=
 (f53r6n2 FUEL ba1 be2 bd3 bg4 0 []).bind fun o44=>match o44 with
 | .exit0 v46=>some (.norm v46)
theorem f53r6n1_ok(ba1:Qd)(be2:Qa)(bd3:Int)(bg4:List Qb){o:f53r6n1O}(h:f53r6n1 ba1 be2 bd3 bg4=some o):T Try.prog Try.f53.ntmps 7 (cL (Qk 1 c53)) (f53r6n1S ba1 be2 bd3 bg4) (·=f53r6n1E ba1 be2 bd3 bg4 o):=by
 unfold f53r6n1 at h;refine rN Qh 1 [([],[],[(2,.val (jI (ba1.Bids.length:Int)))])] [] [.mat 4 6] [7] [0,2,4,11,12,13] (f53r6n2S ba1 be2 bd3 bg4 0 []) (ap (Qr (xs:=ba1.Bids) (c:=Qc.cells)) an) ?_;obtain ⟨o44,h45,h⟩:=Qe h;cases o44 with
 | exit0 v46 =>
  obtain rfl:=Qg h;exact T.last' (T.bl (i:=0) (by kernel_rfl) (by kernel_rfl) (f53r6n2_ok FUEL ba1 be2 bd3 bg4 0 [] h45)) (tds:=[]) (m:=[7]) (keep:=[0,2,4]) (st2:=(f53r6n1E ba1 be2 bd3 bg4 (.norm v46)).2) (by kernel_rfl) an rfl
inductive f53r6n3O where
 | norm (v97:Int) (v98:List Qb)
 | ret
noncomputable def f53r6n3E(bd1:Int)(bf2:List Qf)(bd3:Int)(ba4:Qd)(be5:Qa)(bd6:Int)(bg7:List Qb):f53r6n3O→Ex×Tr×Hp
 | .norm v97 v98=>(.norm,mkS [(0,(.yl 0)),(7,(jI v97)),(41,(.own 8)),(42,(jI (bf2.length:Int))),(43,(jI bd3))],[some (.lp Qp .ready none (kL 63 [(5,(.bp 3 0)),(9,(.bp 4 0)),(10,(.bp 5 0))])),some (.box ((Qd.cells ba4).map .pl)),some (.box ((Qa.cells be5).map .pl)),some (.box [(.own 7)]),some (.box (((cInt .i64) bd6).map .pl)),some (.box [(.pl (.fn 56))]),none,jR 3 Qb.cells v98,jR 6 Qf.cells bf2])
 | .ret=>(.ret,mkS [],[some (.lp Qp .done (some (.exit 2)) (kL 63 [(5,(.bp 3 0)),(9,(.bp 4 0)),(10,(.bp 5 0))])),some (.box ((Qd.cells ba4).map .pl)),some (.box ((Qa.cells be5).map .pl)),some (.box [(.own 7)]),some (.box (((cInt .i64) bd6).map .pl)),some (.box [(.pl (.fn 56))]),none,jR 3 Qb.cells bg7])
noncomputable def f53r6n3S(bd1:Int)(bf2:List Qf)(bd3:Int)(ba4:Qd)(be5:Qa)(bd6:Int)(bg7:List Qb):Tr×Hp:=(mkS [(0,(.yl 0)),(7,(jI bd1)),(41,(.own 8)),(42,(jI (bf2.length:Int))),(43,(jI bd3))],[some (.lp Qp .ready none (kL 63 [(5,(.bp 3 0)),(9,(.bp 4 0)),(10,(.bp 5 0))])),some (.box ((Qd.cells ba4).map .pl)),some (.box ((Qa.cells be5).map .pl)),some (.box [(.own 7)]),some (.box (((cInt .i64) bd6).map .pl)),some (.box [(.pl (.fn 56))]),none,jR 3 Qb.cells bg7,jR 6 Qf.cells bf2])
noncomputable def f53r6n3(bd1:Int)(bf2:List Qf)(bd3:Int)(ba4:Qd)(be5:Qa)(bd6:Int)(bg7:List Qb):Option f53r6n3O :=
 (at? bf2 bd3).bind fun x93 =>
 (f12y2n0 (Qf.mk x93.index (mnI bd1 x93.bid.Units) x93.bid) bd6 bg7).bind fun o95=>match o95 with
 | .exit2=>some .ret
 | .norm=>some (.norm (wr64 (bd1-(mnI bd1 x93.bid.Units))) (bg7++[(Qb.mk x93.index (mnI bd1 x93.bid.Units) bd6)]))
theorem f53r6n3_ok(bd1:Int)(bf2:List Qf)(bd3:Int)(ba4:Qd)(be5:Qa)(bd6:Int)(bg7:List Qb){o:f53r6n3O}(h:f53r6n3 bd1 bf2 bd3 ba4 be5 bd6 bg7=some o):T Try.prog Try.f53.ntmps 7 (cL (Qk 2 (cL (cL (Qk 3 (Qk 1 (Qk 1 c53))))))) (f53r6n3S bd1 bf2 bd3 ba4 be5 bd6 bg7) (·=f53r6n3E bd1 bf2 bd3 ba4 be5 bd6 bg7 o):=by
 unfold f53r6n3 at h;refine T.block' (i:=3) (by kernel_rfl) ?_;obtain ⟨x93,h94,h⟩:=Qe h;refine rN Qh 3 [([],[(0,.at_ (Int.toNat bd3)),(1,.idx 0 (Qf.cells x93))],[]),j3,j3] [] [] [7,9,8] [0,7,9,41,42,43] (mkS [(0,(.yl 0)),(7,(jI (wr64 (bd1-(mnI bd1 x93.bid.Units))))),(9,(.bp 8 0)),(41,(.own 9)),(42,(jI (bf2.length:Int))),(43,(jI bd3))],[some (.lp Qp .ready none (kL 63 [(5,(.bp 3 0)),(9,(.bp 4 0)),(10,(.bp 5 0))])),some (.box ((Qd.cells ba4).map .pl)),some (.box ((Qa.cells be5).map .pl)),some (.box [(.own 7)]),some (.box (((cInt .i64) bd6).map .pl)),some (.box [(.pl (.fn 56))]),none,jR 3 Qb.cells bg7,some (.box ((Qf.cells (Qf.mk x93.index (mnI bd1 x93.bid.Units) x93.bid)).map .pl)),jR 6 Qf.cells bf2]) (ap (Qj h94).1 (ap (Qal Qf.cells (Qj h94).2) (ap (Qm Qf.cells (Qj h94).2) an))) ?_
 obtain ⟨o95,h96,h⟩:=Qe h;cases o95 with
 | exit2 =>
  refine T.oneN (by kernel_rfl) (yN Qh j3 2 false [some (.lp Qp .done (some (.exit 2)) (kL 63 [(5,(.bp 3 0)),(9,(.bp 4 0)),(10,(.bp 5 0))])),none,none,some (.box [(.own 7)]),some (.box (((cInt .i64) bd6).map .pl)),some (.box [(.pl (.fn 56))]),none,jR 3 Qb.cells bg7,none,none] [] [7,9] [0,7,41,42,43,60] (mkS [(0,(.yl 0)),(7,(jI (wr64 (bd1-(mnI bd1 x93.bid.Units))))),(41,(.own 8)),(42,(jI (bf2.length:Int))),(43,(jI bd3)),(60,(jB true))],[some (.lp Qp .done (some (.exit 2)) (kL 63 [(5,(.bp 3 0)),(9,(.bp 4 0)),(10,(.bp 5 0))])),some (.box ((Qd.cells ba4).map .pl)),some (.box ((Qa.cells be5).map .pl)),some (.box [(.own 7)]),some (.box (((cInt .i64) bd6).map .pl)),some (.box [(.pl (.fn 56))]),none,jR 3 Qb.cells bg7,jR 6 Qf.cells bf2]) (ap (Qbk.rn 10 [0,3,4,5,7] (f12y2_exit2 (Qf.mk x93.index (mnI bd1 x93.bid.Units) x93.bid) bd6 bg7 h96)) an)) rfl ?_
  obtain rfl:=Qg h;exact rE Qh [] [none] [] [7] [] (.ret,(f53r6n3E bd1 bf2 bd3 ba4 be5 bd6 bg7 .ret).2) an rfl
 | norm =>
  refine T.oneN (by kernel_rfl) (yN Qh j3 2 true [some (.lp Qp .ready none (kL 63 [(5,(.bp 3 0)),(9,(.bp 4 0)),(10,(.bp 5 0))])),none,none,some (.box [(.own 10)]),some (.box (((cInt .i64) bd6).map .pl)),some (.box [(.pl (.fn 56))]),none,none,none,none,some (.row false 3 ((bg7++[(Qb.mk x93.index (mnI bd1 x93.bid.Units) bd6)]).map Qb.cells))] [] [10,9] [0,7,41,42,43,60] (mkS [(0,(.yl 0)),(7,(jI (wr64 (bd1-(mnI bd1 x93.bid.Units))))),(41,(.own 8)),(42,(jI (bf2.length:Int))),(43,(jI bd3)),(60,(jB false))],[some (.lp Qp .ready none (kL 63 [(5,(.bp 3 0)),(9,(.bp 4 0)),(10,(.bp 5 0))])),some (.box ((Qd.cells ba4).map .pl)),some (.box ((Qa.cells be5).map .pl)),some (.box [(.own 7)]),some (.box (((cInt .i64) bd6).map .pl)),some (.box [(.pl (.fn 56))]),none,some (.row false 3 ((bg7++[(Qb.mk x93.index (mnI bd1 x93.bid.Units) bd6)]).map Qb.cells)),jR 6 Qf.cells bf2]) (ap (Qbk.rn 10 [0,3,4,5,7] (f12y2_norm (Qf.mk x93.index (mnI bd1 x93.bid.Units) x93.bid) bd6 bg7 h96)) an)) rfl ?_
  obtain rfl:=Qg h;exact rE Qh [] [none] [] [7,8] [0,7,41,42,43] (.norm,(f53r6n3E bd1 bf2 bd3 ba4 be5 bd6 bg7 (.norm (wr64 (bd1-(mnI bd1 x93.bid.Units))) (bg7++[(Qb.mk x93.index (mnI bd1 x93.bid.Units) bd6)]))).2) an rfl
inductive f53r6n4O where
 | exit2 (v103:List Qb)
 | ret (v104:List Qb)
noncomputable def f53r6n4E(x53:List Qf)(a1:Qd)(a2:Qa)(a3:Int):f53r6n4O→Ex×Tr×Hp
 | .exit2 v103=>((.exit 2),mkS [],[some (.lp Qp .ready none (kL 63 [(5,(.bp 3 0)),(9,(.bp 4 0)),(10,(.bp 5 0))])),some (.box ((Qd.cells a1).map .pl)),some (.box ((Qa.cells a2).map .pl)),some (.box [(.own 7)]),some (.box (((cInt .i64) a3).map .pl)),some (.box [(.pl (.fn 56))]),none,jR 3 Qb.cells v103])
 | .ret v104=>(.ret,mkS [],[some (.lp Qp .done (some (.exit 2)) (kL 63 [(5,(.bp 3 0)),(9,(.bp 4 0)),(10,(.bp 5 0))])),some (.box ((Qd.cells a1).map .pl)),some (.box ((Qa.cells a2).map .pl)),some (.box [(.own 7)]),some (.box (((cInt .i64) a3).map .pl)),some (.box [(.pl (.fn 56))]),none,jR 3 Qb.cells v104])
noncomputable def f53r6n4S(x53:List Qf)(a1:Qd)(a2:Qa)(a3 v86 v87:Int)(v88:List Qb):Tr×Hp:=(mkS [(0,(.yl 0)),(7,(jI v86)),(41,(.own 8)),(42,(jI (x53.length:Int))),(43,(jI v87))],[some (.lp Qp .ready none (kL 63 [(5,(.bp 3 0)),(9,(.bp 4 0)),(10,(.bp 5 0))])),some (.box ((Qd.cells a1).map .pl)),some (.box ((Qa.cells a2).map .pl)),some (.box [(.own 7)]),some (.box (((cInt .i64) a3).map .pl)),some (.box [(.pl (.fn 56))]),none,jR 3 Qb.cells v88,jR 6 Qf.cells x53])
noncomputable def f53r6n4:Nat→List Qf→Qd→Qa→Int→Int→Int→List Qb→Option f53r6n4O
 | 0,_,_,_,_,_,_,_=>none
 | f+1,x53,a1,a2,a3,v86,v87,v88 =>
  bif decide (v87<(x53.length:Int)) then
   (f53r6n3 v86 x53 v87 a1 a2 a3 v88).bind fun o99=>match o99 with
   | .norm v101 v102=>(f53r6n4 f x53 a1 a2 a3 v101 (wr64 (v87+1)) v102)
   | .ret=>some (.ret v88)
  else
   some (.exit2 v88)
theorem f53r6n4_ok:∀(f:Nat)(x53:List Qf)(a1:Qd)(a2:Qa)(a3 v86 v87:Int)(v88:List Qb){o:f53r6n4O},f53r6n4 f x53 a1 a2 a3 v86 v87 v88=some o→TL Try.prog Try.f53.ntmps 7 f (cL (cL (Qk 3 (Qk 1 (Qk 1 c53))))) (f53r6n4S x53 a1 a2 a3 v86 v87 v88) (·=f53r6n4E x53 a1 a2 a3 o)
 | 0,_,_,_,_,_,_,_,o,h=>by rw [f53r6n4] at h; cases h
 | f+1,x53,a1,a2,a3,v86,v87,v88,o,h=>by
  rw [f53r6n4] at h;refine TL.body (K:=fun s=>∃v86:Int,∃v87:Int,∃v88:List Qb,s=(f53r6n4S x53 a1 a2 a3 v86 v87 v88)∧f53r6n4 f x53 a1 a2 a3 v86 v87 v88=some o) ?_ (by rintro _ ⟨v86,v87,v88,rfl,hk⟩; exact f53r6n4_ok f _ _ _ _ _ _ _ hk);rcases Qi h with ⟨h90,h⟩|⟨h90,h⟩
  ·refine rN Qh 2 [j3] [some true] [] [7,8] [0,7,41,42,43] (f53r6n3S v86 x53 v87 a1 a2 a3 v88) (ap h90 an) ?_;obtain ⟨o99,h100,h⟩:=Qe h;cases o99 with
   | norm v101 v102 =>
    refine T.oneN (by kernel_rfl) (f53r6n3_ok v86 x53 v87 a1 a2 a3 v88 h100) (st2:=(f53r6n3E v86 x53 v87 a1 a2 a3 v88 (.norm v101 v102)).2) rfl ?_;exact rE Qh [j3] [] [] [7,8] [0,7,41,42,43] (.norm,(f53r6n4S x53 a1 a2 a3 v101 (wr64 (v87+1)) v102)) an (Qs.norm ⟨v101,(wr64 (v87+1)),v102,rfl,h⟩)
   | ret =>
    obtain rfl:=Qg h;exact T.oneX' (by kernel_rfl) (f53r6n3_ok v86 x53 v87 a1 a2 a3 v88 h100) (tds:=[]) (m:=[7]) (keep:=[]) (st2:=(f53r6n4E x53 a1 a2 a3 (.ret v88)).2) (by kernel_rfl) an rfl (Qs.out rfl rfl)
  ·obtain rfl:=Qg h;exact rK Qh 2 [j3] [some false] [] [7] [] (.exit 2) ((f53r6n4E x53 a1 a2 a3 (.exit2 v88)).2) (ap h90 an) (Qs.out rfl rfl)
inductive f53r6n0O where
 | norm (v109:List Qb)
 | ret (v110:List Qb)
noncomputable def f53r6n0E(a1:Qd)(a2:Qa)(a3:Int)(a4:List Qb):f53r6n0O→Ex×Tr×Hp
 | .norm v109=>(.norm,mkS [],[some (.lp Qp .ready none (kL 63 [(5,(.bp 3 0)),(9,(.bp 4 0)),(10,(.bp 5 0))])),some (.box ((Qd.cells a1).map .pl)),some (.box ((Qa.cells a2).map .pl)),some (.box [(.own 7)]),some (.box (((cInt .i64) a3).map .pl)),some (.box [(.pl (.fn 56))]),none,jR 3 Qb.cells v109])
 | .ret v110=>(.ret,mkS [],[some (.lp Qp .done (some (.exit 2)) (kL 63 [(5,(.bp 3 0)),(9,(.bp 4 0)),(10,(.bp 5 0))])),some (.box ((Qd.cells a1).map .pl)),some (.box ((Qa.cells a2).map .pl)),some (.box [(.own 7)]),some (.box (((cInt .i64) a3).map .pl)),some (.box [(.pl (.fn 56))]),none,jR 3 Qb.cells v110])
noncomputable def f53r6n0S(a1:Qd)(a2:Qa)(a3:Int)(a4:List Qb):Tr×Hp:=(Qab [(.yl 0),(.bp 1 0),(.bp 2 0)] 0 .leaf,[some (.lp Qp .ready none (kL 63 [(5,(.bp 3 0)),(9,(.bp 4 0)),(10,(.bp 5 0))])),some (.box ((Qd.cells a1).map .pl)),some (.box ((Qa.cells a2).map .pl)),some (.box [(.own 6)]),some (.box (((cInt .i64) a3).map .pl)),some (.box [(.pl (.fn 56))]),jR 3 Qb.cells a4])
noncomputable def f53r6n0(a1:Qd)(a2:Qa)(a3:Int)(a4:List Qb):Option f53r6n0O :=
 (f53r6n1 a1 a2 a3 a4).bind fun o48=>match o48 with
 | .norm v50=>(f54r1 v50).bind fun x53 =>
  (f53r6n4 FUEL x53 a1 a2 a3 a2.Units 0 a4).bind fun o105=>match o105 with
  | .exit2 v107=>some (.norm v107)
  | .ret v108=>some (.ret v108)
theorem f53r6n0_ok(a1:Qd)(a2:Qa)(a3:Int)(a4:List Qb){o:f53r6n0O}(h:f53r6n0 a1 a2 a3 a4=some o):T Try.prog Try.f53.ntmps 7 c53 (f53r6n0S a1 a2 a3 a4) (·=f53r6n0E a1 a2 a3 a4 o):=by
 unfold f53r6n0 at h;refine rN Qh 1 [j3] [] [] [] [0,1,2,4] (f53r6n1S a1 a2 a3 a4) an ?_;obtain ⟨o48,h49,h⟩:=Qe h;cases o48 with
 | norm v50 =>
  refine T.oneN (by kernel_rfl) (f53r6n1_ok a1 a2 a3 a4 h49) (st2:=(f53r6n1E a1 a2 a3 a4 (.norm v50)).2) rfl ?_;obtain ⟨x53,h54,h⟩:=Qe h;refine rN Qh 3 [([],[(1,.call (.tup []) (jN 7 [jR 6 Qf.cells x53]))],[]),j3,([],[],[(1,.val (jI (x53.length:Int)))])] [] [.movC 3 0] [8,7] [0,7,41,42,43] (f53r6n4S x53 a1 a2 a3 a2.Units 0 a4) (ap (Qn.rn 8 [7] (f54r1_ok v50 h54)) (ap (Qr (xs:=x53) (c:=Qf.cells)) an)) ?_;obtain ⟨o105,h106,h⟩:=Qe h;cases o105 with
  | exit2 v107 =>
   obtain rfl:=Qg h;exact T.last' (T.bl (i:=2) (by kernel_rfl) (by kernel_rfl) (f53r6n4_ok FUEL x53 a1 a2 a3 a2.Units 0 a4 h106)) (tds:=[]) (m:=[7]) (keep:=[]) (st2:=(f53r6n0E a1 a2 a3 a4 (.norm v107)).2) (by kernel_rfl) an rfl
  | ret v108 =>
   obtain rfl:=Qg h;exact T.last' (T.bl (i:=2) (by kernel_rfl) (by kernel_rfl) (f53r6n4_ok FUEL x53 a1 a2 a3 a2.Units 0 a4 h106)) (tds:=[]) (m:=[7]) (keep:=[]) (st2:=(f53r6n0E a1 a2 a3 a4 (.ret v108)).2) (by kernel_rfl) an rfl
noncomputable def f53r6(a1:Qd)(a2:Qa)(a3:Int)(a4:List Qb):Option (Bool×(List Qb)):=(f53r6n0 a1 a2 a3 a4).bind fun o=>match o with
 | .norm v109=>some (true,v109)
 | .ret v110=>some (false,v110)
theorem f53r6_ok(a1:Qd)(a2:Qa)(a3:Int)(a4:List Qb){r:Bool×(List Qb)}(h:f53r6 a1 a2 a3 a4=some r):Qn Try.prog true 53 [(.yl 0),(.bp 1 0),(.bp 2 0)] [some (.lp Qp .ready none (kL 63 [(5,(.bp 3 0)),(9,(.bp 4 0)),(10,(.bp 5 0))])),some (.box ((Qd.cells a1).map .pl)),some (.box ((Qa.cells a2).map .pl)),some (.box [(.own 6)]),some (.box (((cInt .i64) a3).map .pl)),some (.box [(.pl (.fn 56))]),jR 3 Qb.cells a4] (.tup []) [some (.lp Qp (lstOf r.1) (pdOf r.1 (.exit 2)) (kL 63 [(5,(.bp 3 0)),(9,(.bp 4 0)),(10,(.bp 5 0))])),some (.box ((Qd.cells a1).map .pl)),some (.box ((Qa.cells a2).map .pl)),some (.box [(.own 7)]),some (.box (((cInt .i64) a3).map .pl)),some (.box [(.pl (.fn 56))]),none,jR 3 Qb.cells r.2]:=by
 unfold f53r6 at h;obtain ⟨o,ho,h⟩:=Qe h;cases o with
 | norm v109 =>
  obtain rfl:=Qg h;exact Qn.shared Qh (f:=Try.f53) (c:=c53) (by kernel_rfl) (by kernel_rfl) (by kernel_rfl) ((f53r6n0_ok a1 a2 a3 a4 ho).mono fun r e=>by subst e; exact ⟨.inr rfl,by kernel_rfl,by kernel_rfl⟩)
 | ret v110 =>
  obtain rfl:=Qg h;exact Qn.shared Qh (f:=Try.f53) (c:=c53) (by kernel_rfl) (by kernel_rfl) (by kernel_rfl) ((f53r6n0_ok a1 a2 a3 a4 ho).mono fun r e=>by subst e; exact ⟨.inl rfl,by kernel_rfl,by kernel_rfl⟩)

inductive f53r7n2O where
 | exit0 (v43:List Qf)
noncomputable def f53r7n2E(ba1:Qd)(be2:Qa)(bd3:Int)(bg4:List Qb):f53r7n2O→Ex×Tr×Hp
 | .exit0 v43=>((.exit 0),mkS [(0,(.yl 0)),(2,(.bp 2 0)),(4,(.own 7))],[some (.lp Qp .ready none (kL 63 [(5,(.bp 3 0)),(9,(.bp 4 0)),(10,(.bp 5 0))])),some (.box ((Qd.cells ba1).map .pl)),some (.box ((Qa.cells be2).map .pl)),some (.box [(.own 6)]),some (.box (((cInt .i64) bd3).map .pl)),some (.box [(.pl (.fn 57))]),jR 3 Qb.cells bg4,jR 6 Qf.cells v43])
noncomputable def f53r7n2S(ba1:Qd)(be2:Qa)(bd3:Int)(bg4:List Qb)(v29:Int)(v30:List Qf):Tr×Hp:=(mkS [(0,(.yl 0)),(2,(.bp 2 0)),(4,(.own 7)),(11,(jL 4 Qc.cells ba1.Bids)),(12,(jI (ba1.Bids.length:Int))),(13,(jI v29))],[some (.lp Qp .ready none (kL 63 [(5,(.bp 3 0)),(9,(.bp 4 0)),(10,(.bp 5 0))])),some (.box ((Qd.cells ba1).map .pl)),some (.box ((Qa.cells be2).map .pl)),some (.box [(.own 6)]),some (.box (((cInt .i64) bd3).map .pl)),some (.box [(.pl (.fn 57))]),jR 3 Qb.cells bg4,jR 6 Qf.cells v30])
noncomputable def f53r7n2:Nat→Qd→Qa→Int→List Qb→Int→List Qf→Option f53r7n2O
 | 0,_,_,_,_,_,_=>none
 | f+1,ba1,be2,bd3,bg4,v29,v30 =>
  bif decide (v29<(ba1.Bids.length:Int)) then
   (at? ba1.Bids v29).bind fun x38 =>
   bif (seq x38.Lot be2.Name) then
    bif decide (be2.Reserve≤x38.Price) then
     req (fit (v30.length+1) 64) <|
     (f53r7n2 f ba1 be2 bd3 bg4 (wr64 (v29+1)) (v30++[(Qf.mk v29 0 x38)]))
    else
     (f53r7n2 f ba1 be2 bd3 bg4 (wr64 (v29+1)) v30)
   else
    (f53r7n2 f ba1 be2 bd3 bg4 (wr64 (v29+1)) v30)
  else
   some (.exit0 v30)
theorem f53r7n2_ok:∀(f:Nat)(ba1:Qd)(be2:Qa)(bd3:Int)(bg4:List Qb)(v29:Int)(v30:List Qf){o:f53r7n2O},f53r7n2 f ba1 be2 bd3 bg4 v29 v30=some o→TL Try.prog Try.f53.ntmps 7 f (cL (cL (Qk 1 (cL (Qk 1 c53))))) (f53r7n2S ba1 be2 bd3 bg4 v29 v30) (·=f53r7n2E ba1 be2 bd3 bg4 o)
 | 0,_,_,_,_,_,_,o,h=>by rw [f53r7n2] at h; cases h
 | f+1,ba1,be2,bd3,bg4,v29,v30,o,h=>by
  rw [f53r7n2] at h;refine TL.body (K:=fun s=>∃v29:Int,∃v30:List Qf,s=(f53r7n2S ba1 be2 bd3 bg4 v29 v30)∧f53r7n2 f ba1 be2 bd3 bg4 v29 v30=some o) ?_ (by rintro _ ⟨v29,v30,rfl,hk⟩; exact f53r7n2_ok f _ _ _ _ _ _ hk);rcases Qi h with ⟨h32,h⟩|⟨h32,h⟩
  ·obtain ⟨x38,h39,h⟩:=Qe h;rcases Qi h with ⟨h40,h⟩|⟨h40,h⟩
   ·rcases Qi h with ⟨h41,h⟩|⟨h41,h⟩
    ·obtain ⟨h42,h⟩:=Qak h;exact rE Qh [j3,([],[(1,.idx (Int.toNat v29) (Qc.cells x38))],[]),(jT [6,7,8,9,10],[(11,.bool true)],[]),([],[(5,.fits)],[(5,.row 10 ((v30++[(Qf.mk v29 0 x38)]).map Qf.cells))]),j3] [some true,some true] [] [10] [0,2,4,11,12,13] (.norm,(f53r7n2S ba1 be2 bd3 bg4 (wr64 (v29+1)) (v30++[(Qf.mk v29 0 x38)]))) (ap h32 (ap (Qj h39).1 (ap (Qm Qc.cells (Qj h39).2) (ap2 h40 (ap4 h40 (ap h41 (ap (fit_map (te:=ti78) (xs:=v30) (n:=1) (c:=Qf.cells) h42 rfl) (ap (app_cv (xs:=v30) (ys:=[(Qf.mk v29 0 x38)]) (c:=Qf.cells)) an)))))))) (Qs.norm ⟨(wr64 (v29+1)),(v30++[(Qf.mk v29 0 x38)]),rfl,h⟩)
    ·exact rE Qh [j3,([],[(1,.idx (Int.toNat v29) (Qc.cells x38))],[]),(jT [6,7,8,9,10],[(11,.bool true)],[]),j3] [some true,some false] [] [7] [0,2,4,11,12,13] (.norm,(f53r7n2S ba1 be2 bd3 bg4 (wr64 (v29+1)) v30)) (ap h32 (ap (Qj h39).1 (ap (Qm Qc.cells (Qj h39).2) (ap2 h40 (ap4 h40 (ap h41 an)))))) (Qs.norm ⟨(wr64 (v29+1)),v30,rfl,h⟩)
   ·exact rE Qh [j3,([],[(1,.idx (Int.toNat v29) (Qc.cells x38))],[]),(jF [6,7,8,9,10],[(11,.bool false)],[]),j3] [some true,none] [] [7] [0,2,4,11,12,13] (.norm,(f53r7n2S ba1 be2 bd3 bg4 (wr64 (v29+1)) v30)) (ap h32 (ap (Qj h39).1 (ap (Qm Qc.cells (Qj h39).2) (ap2 h40 (ap4 h40 an))))) (Qs.norm ⟨(wr64 (v29+1)),v30,rfl,h⟩)
  ·obtain rfl:=Qg h;exact rK Qh 2 [j3] [some false] [] [7] [0,2,4] (.exit 0) ((f53r7n2E ba1 be2 bd3 bg4 (.exit0 v30)).2) (ap h32 an) (Qs.out rfl rfl)
noncomputable def f53r7n2L(ba1:Qd)(be2:Qa)(bd3:Int)(bg4:List Qb):List Qc→Int→(List Qf)→Option f53r7n2O
 | [],v29,v30 =>
  some (.exit0 v30)
 | x0::rest,v29,v30 =>
  bif (seq x0.Lot be2.Name) then
   bif decide (be2.Reserve≤x0.Price) then
    req (fit (v30.length+1) 64) <|
    (f53r7n2L ba1 be2 bd3 bg4 rest (v29+1) (v30++[(Qf.mk v29 0 x0)]))
   else
    (f53r7n2L ba1 be2 bd3 bg4 rest (v29+1) v30)
  else
   (f53r7n2L ba1 be2 bd3 bg4 rest (v29+1) v30)
theorem f53r7n2L_eq(ba1:Qd)(be2:Qa)(bd3:Int)(bg4:List Qb):∀(rest:List Qc)(f k:Nat)(v30:List Qf),ba1.Bids.drop k=rest→ba1.Bids.length≤maxLen→rest.length<f→f53r7n2 f ba1 be2 bd3 bg4 (k:Int) v30=f53r7n2L ba1 be2 bd3 bg4 rest (k:Int) v30
 | _,0,_,_,_,_,hf=>absurd hf (Nat.not_lt_zero _)
 | [],f+1,k,v30,hd,hm,hf=>by
  have hk:¬((k:Int)<(ba1.Bids.length:Int)):=by have:=Qac hd; omega
  rw [f53r7n2,f53r7n2L];simp only [decide_eq_false hk,cond_false]
 | x0::rest,f+1,k,v30,hd,hm,hf=>by
  obtain ⟨hx,hlt,hd'⟩:=Qan hd;have hk:(k:Int)<(ba1.Bids.length:Int):=by omega
  have hw:wr64 ((k:Int)+1)=(k:Int)+1:=Qbp (by omega) (by unfold maxLen at hm; omega);have ih:∀(v30:List Qf),f53r7n2 f ba1 be2 bd3 bg4 ((k:Int)+1) v30=f53r7n2L ba1 be2 bd3 bg4 rest ((k:Int)+1) v30:=fun v30=>f53r7n2L_eq ba1 be2 bd3 bg4 rest f (k+1) v30 hd' hm (by simpa using hf);rw [f53r7n2,f53r7n2L];simp only [decide_eq_true hk,cond_true,Qaq,hx,Option.bind_some,hw,ih]
theorem f53r7n2_run(ba1:Qd)(be2:Qa)(bd3:Int)(bg4:List Qb)(v30:List Qf)(hm:ba1.Bids.length≤maxLen):f53r7n2 FUEL ba1 be2 bd3 bg4 0 v30=f53r7n2L ba1 be2 bd3 bg4 ba1.Bids 0 v30:=f53r7n2L_eq ba1 be2 bd3 bg4 ba1.Bids FUEL 0 v30 List.drop_zero hm (Qai hm)
inductive f53r7n1O where
 | norm (v47:List Qf)
noncomputable def f53r7n1E(ba1:Qd)(be2:Qa)(bd3:Int)(bg4:List Qb):f53r7n1O→Ex×Tr×Hp
 | .norm v47=>(.norm,mkS [(0,(.yl 0)),(2,(.bp 2 0)),(4,(.own 7))],[some (.lp Qp .ready none (kL 63 [(5,(.bp 3 0)),(9,(.bp 4 0)),(10,(.bp 5 0))])),some (.box ((Qd.cells ba1).map .pl)),some (.box ((Qa.cells be2).map .pl)),some (.box [(.own 6)]),some (.box (((cInt .i64) bd3).map .pl)),some (.box [(.pl (.fn 57))]),jR 3 Qb.cells bg4,jR 6 Qf.cells v47])
noncomputable def f53r7n1S(ba1:Qd)(be2:Qa)(bd3:Int)(bg4:List Qb):Tr×Hp:=(mkS [(0,(.yl 0)),(1,(.bp 1 0)),(2,(.bp 2 0)),(4,(.pl (.sl .nil 0 [])))],[some (.lp Qp .ready none (kL 63 [(5,(.bp 3 0)),(9,(.bp 4 0)),(10,(.bp 5 0))])),some (.box ((Qd.cells ba1).map .pl)),some (.box ((Qa.cells be2).map .pl)),some (.box [(.own 6)]),some (.box (((cInt .i64) bd3).map .pl)),some (.box [(.pl (.fn 57))]),jR 3 Qb.cells bg4])
noncomputable def f53r7n1(ba1:Qd)(be2:Qa)(bd3:Int)(bg4:List Qb):Option f53r7n1O :=
 (f53r7n2 FUEL ba1 be2 bd3 bg4 0 []).bind fun o44=>match o44 with
 | .exit0 v46=>some (.norm v46)
theorem f53r7n1_ok(ba1:Qd)(be2:Qa)(bd3:Int)(bg4:List Qb){o:f53r7n1O}(h:f53r7n1 ba1 be2 bd3 bg4=some o):T Try.prog Try.f53.ntmps 7 (cL (Qk 1 c53)) (f53r7n1S ba1 be2 bd3 bg4) (·=f53r7n1E ba1 be2 bd3 bg4 o):=by
 unfold f53r7n1 at h;refine rN Qh 1 [([],[],[(2,.val (jI (ba1.Bids.length:Int)))])] [] [.mat 4 6] [7] [0,2,4,11,12,13] (f53r7n2S ba1 be2 bd3 bg4 0 []) (ap (Qr (xs:=ba1.Bids) (c:=Qc.cells)) an) ?_;obtain ⟨o44,h45,h⟩:=Qe h;cases o44 with
 | exit0 v46 =>
  obtain rfl:=Qg h;exact T.last' (T.bl (i:=0) (by kernel_rfl) (by kernel_rfl) (f53r7n2_ok FUEL ba1 be2 bd3 bg4 0 [] h45)) (tds:=[]) (m:=[7]) (keep:=[0,2,4]) (st2:=(f53r7n1E ba1 be2 bd3 bg4 (.norm v46)).2) (by kernel_rfl) an rfl
inductive f53r7n3O where
 | norm (v97:Int) (v98:List Qb)
 | ret
noncomputable def f53r7n3E(bd1:Int)(bf2:List Qf)(bd3:Int)(ba4:Qd)(be5:Qa)(bd6:Int)(bg7:List Qb):f53r7n3O→Ex×Tr×Hp
 | .norm v97 v98=>(.norm,mkS [(0,(.yl 0)),(7,(jI v97)),(41,(.own 8)),(42,(jI (bf2.length:Int))),(43,(jI bd3))],[some (.lp Qp .ready none (kL 63 [(5,(.bp 3 0)),(9,(.bp 4 0)),(10,(.bp 5 0))])),some (.box ((Qd.cells ba4).map .pl)),some (.box ((Qa.cells be5).map .pl)),some (.box [(.own 7)]),some (.box (((cInt .i64) bd6).map .pl)),some (.box [(.pl (.fn 57))]),none,jR 3 Qb.cells v98,jR 6 Qf.cells bf2])
 | .ret=>(.ret,mkS [],[some (.lp Qp .done (some (.exit 2)) (kL 63 [(5,(.bp 3 0)),(9,(.bp 4 0)),(10,(.bp 5 0))])),some (.box ((Qd.cells ba4).map .pl)),some (.box ((Qa.cells be5).map .pl)),some (.box [(.own 7)]),some (.box (((cInt .i64) bd6).map .pl)),some (.box [(.pl (.fn 57))]),none,jR 3 Qb.cells bg7])
noncomputable def f53r7n3S(bd1:Int)(bf2:List Qf)(bd3:Int)(ba4:Qd)(be5:Qa)(bd6:Int)(bg7:List Qb):Tr×Hp:=(mkS [(0,(.yl 0)),(7,(jI bd1)),(41,(.own 8)),(42,(jI (bf2.length:Int))),(43,(jI bd3))],[some (.lp Qp .ready none (kL 63 [(5,(.bp 3 0)),(9,(.bp 4 0)),(10,(.bp 5 0))])),some (.box ((Qd.cells ba4).map .pl)),some (.box ((Qa.cells be5).map .pl)),some (.box [(.own 7)]),some (.box (((cInt .i64) bd6).map .pl)),some (.box [(.pl (.fn 57))]),none,jR 3 Qb.cells bg7,jR 6 Qf.cells bf2])
noncomputable def f53r7n3(bd1:Int)(bf2:List Qf)(bd3:Int)(ba4:Qd)(be5:Qa)(bd6:Int)(bg7:List Qb):Option f53r7n3O :=
 (at? bf2 bd3).bind fun x93 =>
 (f12y4n0 (Qf.mk x93.index (mnI bd1 x93.bid.Units) x93.bid) bd6 bg7).bind fun o95=>match o95 with
 | .exit2=>some .ret
 | .norm=>some (.norm (wr64 (bd1-(mnI bd1 x93.bid.Units))) (bg7++[(Qb.mk x93.index (mnI bd1 x93.bid.Units) bd6)]))
theorem f53r7n3_ok(bd1:Int)(bf2:List Qf)(bd3:Int)(ba4:Qd)(be5:Qa)(bd6:Int)(bg7:List Qb){o:f53r7n3O}(h:f53r7n3 bd1 bf2 bd3 ba4 be5 bd6 bg7=some o):T Try.prog Try.f53.ntmps 7 (cL (Qk 2 (cL (cL (Qk 3 (Qk 1 (Qk 1 c53))))))) (f53r7n3S bd1 bf2 bd3 ba4 be5 bd6 bg7) (·=f53r7n3E bd1 bf2 bd3 ba4 be5 bd6 bg7 o):=by
 unfold f53r7n3 at h;refine T.block' (i:=3) (by kernel_rfl) ?_;obtain ⟨x93,h94,h⟩:=Qe h;refine rN Qh 3 [([],[(0,.at_ (Int.toNat bd3)),(1,.idx 0 (Qf.cells x93))],[]),j3,j3] [] [] [7,9,8] [0,7,9,41,42,43] (mkS [(0,(.yl 0)),(7,(jI (wr64 (bd1-(mnI bd1 x93.bid.Units))))),(9,(.bp 8 0)),(41,(.own 9)),(42,(jI (bf2.length:Int))),(43,(jI bd3))],[some (.lp Qp .ready none (kL 63 [(5,(.bp 3 0)),(9,(.bp 4 0)),(10,(.bp 5 0))])),some (.box ((Qd.cells ba4).map .pl)),some (.box ((Qa.cells be5).map .pl)),some (.box [(.own 7)]),some (.box (((cInt .i64) bd6).map .pl)),some (.box [(.pl (.fn 57))]),none,jR 3 Qb.cells bg7,some (.box ((Qf.cells (Qf.mk x93.index (mnI bd1 x93.bid.Units) x93.bid)).map .pl)),jR 6 Qf.cells bf2]) (ap (Qj h94).1 (ap (Qal Qf.cells (Qj h94).2) (ap (Qm Qf.cells (Qj h94).2) an))) ?_
 obtain ⟨o95,h96,h⟩:=Qe h;cases o95 with
 | exit2 =>
  refine T.oneN (by kernel_rfl) (yN Qh j3 2 false [some (.lp Qp .done (some (.exit 2)) (kL 63 [(5,(.bp 3 0)),(9,(.bp 4 0)),(10,(.bp 5 0))])),none,none,some (.box [(.own 7)]),some (.box (((cInt .i64) bd6).map .pl)),some (.box [(.pl (.fn 57))]),none,jR 3 Qb.cells bg7,none,none] [] [7,9] [0,7,41,42,43,60] (mkS [(0,(.yl 0)),(7,(jI (wr64 (bd1-(mnI bd1 x93.bid.Units))))),(41,(.own 8)),(42,(jI (bf2.length:Int))),(43,(jI bd3)),(60,(jB true))],[some (.lp Qp .done (some (.exit 2)) (kL 63 [(5,(.bp 3 0)),(9,(.bp 4 0)),(10,(.bp 5 0))])),some (.box ((Qd.cells ba4).map .pl)),some (.box ((Qa.cells be5).map .pl)),some (.box [(.own 7)]),some (.box (((cInt .i64) bd6).map .pl)),some (.box [(.pl (.fn 57))]),none,jR 3 Qb.cells bg7,jR 6 Qf.cells bf2]) (ap (Qbk.rn 10 [0,3,4,5,7] (f12y4_exit2 (Qf.mk x93.index (mnI bd1 x93.bid.Units) x93.bid) bd6 bg7 h96)) an)) rfl ?_
  obtain rfl:=Qg h;exact rE Qh [] [none] [] [7] [] (.ret,(f53r7n3E bd1 bf2 bd3 ba4 be5 bd6 bg7 .ret).2) an rfl
 | norm =>
  refine T.oneN (by kernel_rfl) (yN Qh j3 2 true [some (.lp Qp .ready none (kL 63 [(5,(.bp 3 0)),(9,(.bp 4 0)),(10,(.bp 5 0))])),none,none,some (.box [(.own 10)]),some (.box (((cInt .i64) bd6).map .pl)),some (.box [(.pl (.fn 57))]),none,none,none,none,some (.row false 3 ((bg7++[(Qb.mk x93.index (mnI bd1 x93.bid.Units) bd6)]).map Qb.cells))] [] [10,9] [0,7,41,42,43,60] (mkS [(0,(.yl 0)),(7,(jI (wr64 (bd1-(mnI bd1 x93.bid.Units))))),(41,(.own 8)),(42,(jI (bf2.length:Int))),(43,(jI bd3)),(60,(jB false))],[some (.lp Qp .ready none (kL 63 [(5,(.bp 3 0)),(9,(.bp 4 0)),(10,(.bp 5 0))])),some (.box ((Qd.cells ba4).map .pl)),some (.box ((Qa.cells be5).map .pl)),some (.box [(.own 7)]),some (.box (((cInt .i64) bd6).map .pl)),some (.box [(.pl (.fn 57))]),none,some (.row false 3 ((bg7++[(Qb.mk x93.index (mnI bd1 x93.bid.Units) bd6)]).map Qb.cells)),jR 6 Qf.cells bf2]) (ap (Qbk.rn 10 [0,3,4,5,7] (f12y4_norm (Qf.mk x93.index (mnI bd1 x93.bid.Units) x93.bid) bd6 bg7 h96)) an)) rfl ?_
  obtain rfl:=Qg h;exact rE Qh [] [none] [] [7,8] [0,7,41,42,43] (.norm,(f53r7n3E bd1 bf2 bd3 ba4 be5 bd6 bg7 (.norm (wr64 (bd1-(mnI bd1 x93.bid.Units))) (bg7++[(Qb.mk x93.index (mnI bd1 x93.bid.Units) bd6)]))).2) an rfl
inductive f53r7n4O where
 | exit2 (v103:List Qb)
 | ret (v104:List Qb)
noncomputable def f53r7n4E(x53:List Qf)(a1:Qd)(a2:Qa)(a3:Int):f53r7n4O→Ex×Tr×Hp
 | .exit2 v103=>((.exit 2),mkS [],[some (.lp Qp .ready none (kL 63 [(5,(.bp 3 0)),(9,(.bp 4 0)),(10,(.bp 5 0))])),some (.box ((Qd.cells a1).map .pl)),some (.box ((Qa.cells a2).map .pl)),some (.box [(.own 7)]),some (.box (((cInt .i64) a3).map .pl)),some (.box [(.pl (.fn 57))]),none,jR 3 Qb.cells v103])
 | .ret v104=>(.ret,mkS [],[some (.lp Qp .done (some (.exit 2)) (kL 63 [(5,(.bp 3 0)),(9,(.bp 4 0)),(10,(.bp 5 0))])),some (.box ((Qd.cells a1).map .pl)),some (.box ((Qa.cells a2).map .pl)),some (.box [(.own 7)]),some (.box (((cInt .i64) a3).map .pl)),some (.box [(.pl (.fn 57))]),none,jR 3 Qb.cells v104])
noncomputable def f53r7n4S(x53:List Qf)(a1:Qd)(a2:Qa)(a3 v86 v87:Int)(v88:List Qb):Tr×Hp:=(mkS [(0,(.yl 0)),(7,(jI v86)),(41,(.own 8)),(42,(jI (x53.length:Int))),(43,(jI v87))],[some (.lp Qp .ready none (kL 63 [(5,(.bp 3 0)),(9,(.bp 4 0)),(10,(.bp 5 0))])),some (.box ((Qd.cells a1).map .pl)),some (.box ((Qa.cells a2).map .pl)),some (.box [(.own 7)]),some (.box (((cInt .i64) a3).map .pl)),some (.box [(.pl (.fn 57))]),none,jR 3 Qb.cells v88,jR 6 Qf.cells x53])
noncomputable def f53r7n4:Nat→List Qf→Qd→Qa→Int→Int→Int→List Qb→Option f53r7n4O
 | 0,_,_,_,_,_,_,_=>none
 | f+1,x53,a1,a2,a3,v86,v87,v88 =>
  bif decide (v87<(x53.length:Int)) then
   (f53r7n3 v86 x53 v87 a1 a2 a3 v88).bind fun o99=>match o99 with
   | .norm v101 v102=>(f53r7n4 f x53 a1 a2 a3 v101 (wr64 (v87+1)) v102)
   | .ret=>some (.ret v88)
  else
   some (.exit2 v88)
theorem f53r7n4_ok:∀(f:Nat)(x53:List Qf)(a1:Qd)(a2:Qa)(a3 v86 v87:Int)(v88:List Qb){o:f53r7n4O},f53r7n4 f x53 a1 a2 a3 v86 v87 v88=some o→TL Try.prog Try.f53.ntmps 7 f (cL (cL (Qk 3 (Qk 1 (Qk 1 c53))))) (f53r7n4S x53 a1 a2 a3 v86 v87 v88) (·=f53r7n4E x53 a1 a2 a3 o)
 | 0,_,_,_,_,_,_,_,o,h=>by rw [f53r7n4] at h; cases h
 | f+1,x53,a1,a2,a3,v86,v87,v88,o,h=>by
  rw [f53r7n4] at h;refine TL.body (K:=fun s=>∃v86:Int,∃v87:Int,∃v88:List Qb,s=(f53r7n4S x53 a1 a2 a3 v86 v87 v88)∧f53r7n4 f x53 a1 a2 a3 v86 v87 v88=some o) ?_ (by rintro _ ⟨v86,v87,v88,rfl,hk⟩; exact f53r7n4_ok f _ _ _ _ _ _ _ hk);rcases Qi h with ⟨h90,h⟩|⟨h90,h⟩
  ·refine rN Qh 2 [j3] [some true] [] [7,8] [0,7,41,42,43] (f53r7n3S v86 x53 v87 a1 a2 a3 v88) (ap h90 an) ?_;obtain ⟨o99,h100,h⟩:=Qe h;cases o99 with
   | norm v101 v102 =>
    refine T.oneN (by kernel_rfl) (f53r7n3_ok v86 x53 v87 a1 a2 a3 v88 h100) (st2:=(f53r7n3E v86 x53 v87 a1 a2 a3 v88 (.norm v101 v102)).2) rfl ?_;exact rE Qh [j3] [] [] [7,8] [0,7,41,42,43] (.norm,(f53r7n4S x53 a1 a2 a3 v101 (wr64 (v87+1)) v102)) an (Qs.norm ⟨v101,(wr64 (v87+1)),v102,rfl,h⟩)
   | ret =>
    obtain rfl:=Qg h;exact T.oneX' (by kernel_rfl) (f53r7n3_ok v86 x53 v87 a1 a2 a3 v88 h100) (tds:=[]) (m:=[7]) (keep:=[]) (st2:=(f53r7n4E x53 a1 a2 a3 (.ret v88)).2) (by kernel_rfl) an rfl (Qs.out rfl rfl)
  ·obtain rfl:=Qg h;exact rK Qh 2 [j3] [some false] [] [7] [] (.exit 2) ((f53r7n4E x53 a1 a2 a3 (.exit2 v88)).2) (ap h90 an) (Qs.out rfl rfl)
inductive f53r7n0O where
 | norm (v109:List Qb)
 | ret (v110:List Qb)
noncomputable def f53r7n0E(a1:Qd)(a2:Qa)(a3:Int)(a4:List Qb):f53r7n0O→Ex×Tr×Hp
 | .norm v109=>(.norm,mkS [],[some (.lp Qp .ready none (kL 63 [(5,(.bp 3 0)),(9,(.bp 4 0)),(10,(.bp 5 0))])),some (.box ((Qd.cells a1).map .pl)),some (.box ((Qa.cells a2).map .pl)),some (.box [(.own 7)]),some (.box (((cInt .i64) a3).map .pl)),some (.box [(.pl (.fn 57))]),none,jR 3 Qb.cells v109])
 | .ret v110=>(.ret,mkS [],[some (.lp Qp .done (some (.exit 2)) (kL 63 [(5,(.bp 3 0)),(9,(.bp 4 0)),(10,(.bp 5 0))])),some (.box ((Qd.cells a1).map .pl)),some (.box ((Qa.cells a2).map .pl)),some (.box [(.own 7)]),some (.box (((cInt .i64) a3).map .pl)),some (.box [(.pl (.fn 57))]),none,jR 3 Qb.cells v110])
noncomputable def f53r7n0S(a1:Qd)(a2:Qa)(a3:Int)(a4:List Qb):Tr×Hp:=(Qab [(.yl 0),(.bp 1 0),(.bp 2 0)] 0 .leaf,[some (.lp Qp .ready none (kL 63 [(5,(.bp 3 0)),(9,(.bp 4 0)),(10,(.bp 5 0))])),some (.box ((Qd.cells a1).map .pl)),some (.box ((Qa.cells a2).map .pl)),some (.box [(.own 6)]),some (.box (((cInt .i64) a3).map .pl)),some (.box [(.pl (.fn 57))]),jR 3 Qb.cells a4])
noncomputable def f53r7n0(a1:Qd)(a2:Qa)(a3:Int)(a4:List Qb):Option f53r7n0O :=
 (f53r7n1 a1 a2 a3 a4).bind fun o48=>match o48 with
 | .norm v50=>(f54r1 v50).bind fun x53 =>
  (f53r7n4 FUEL x53 a1 a2 a3 a2.Units 0 a4).bind fun o105=>match o105 with
  | .exit2 v107=>some (.norm v107)
  | .ret v108=>some (.ret v108)
theorem f53r7n0_ok(a1:Qd)(a2:Qa)(a3:Int)(a4:List Qb){o:f53r7n0O}(h:f53r7n0 a1 a2 a3 a4=some o):T Try.prog Try.f53.ntmps 7 c53 (f53r7n0S a1 a2 a3 a4) (·=f53r7n0E a1 a2 a3 a4 o):=by
 unfold f53r7n0 at h;refine rN Qh 1 [j3] [] [] [] [0,1,2,4] (f53r7n1S a1 a2 a3 a4) an ?_;obtain ⟨o48,h49,h⟩:=Qe h;cases o48 with
 | norm v50 =>
  refine T.oneN (by kernel_rfl) (f53r7n1_ok a1 a2 a3 a4 h49) (st2:=(f53r7n1E a1 a2 a3 a4 (.norm v50)).2) rfl ?_;obtain ⟨x53,h54,h⟩:=Qe h;refine rN Qh 3 [([],[(1,.call (.tup []) (jN 7 [jR 6 Qf.cells x53]))],[]),j3,([],[],[(1,.val (jI (x53.length:Int)))])] [] [.movC 3 0] [8,7] [0,7,41,42,43] (f53r7n4S x53 a1 a2 a3 a2.Units 0 a4) (ap (Qn.rn 8 [7] (f54r1_ok v50 h54)) (ap (Qr (xs:=x53) (c:=Qf.cells)) an)) ?_;obtain ⟨o105,h106,h⟩:=Qe h;cases o105 with
  | exit2 v107 =>
   obtain rfl:=Qg h;exact T.last' (T.bl (i:=2) (by kernel_rfl) (by kernel_rfl) (f53r7n4_ok FUEL x53 a1 a2 a3 a2.Units 0 a4 h106)) (tds:=[]) (m:=[7]) (keep:=[]) (st2:=(f53r7n0E a1 a2 a3 a4 (.norm v107)).2) (by kernel_rfl) an rfl
  | ret v108 =>
   obtain rfl:=Qg h;exact T.last' (T.bl (i:=2) (by kernel_rfl) (by kernel_rfl) (f53r7n4_ok FUEL x53 a1 a2 a3 a2.Units 0 a4 h106)) (tds:=[]) (m:=[7]) (keep:=[]) (st2:=(f53r7n0E a1 a2 a3 a4 (.ret v108)).2) (by kernel_rfl) an rfl
noncomputable def f53r7(a1:Qd)(a2:Qa)(a3:Int)(a4:List Qb):Option (Bool×(List Qb)):=(f53r7n0 a1 a2 a3 a4).bind fun o=>match o with
 | .norm v109=>some (true,v109)
 | .ret v110=>some (false,v110)
theorem f53r7_ok(a1:Qd)(a2:Qa)(a3:Int)(a4:List Qb){r:Bool×(List Qb)}(h:f53r7 a1 a2 a3 a4=some r):Qn Try.prog true 53 [(.yl 0),(.bp 1 0),(.bp 2 0)] [some (.lp Qp .ready none (kL 63 [(5,(.bp 3 0)),(9,(.bp 4 0)),(10,(.bp 5 0))])),some (.box ((Qd.cells a1).map .pl)),some (.box ((Qa.cells a2).map .pl)),some (.box [(.own 6)]),some (.box (((cInt .i64) a3).map .pl)),some (.box [(.pl (.fn 57))]),jR 3 Qb.cells a4] (.tup []) [some (.lp Qp (lstOf r.1) (pdOf r.1 (.exit 2)) (kL 63 [(5,(.bp 3 0)),(9,(.bp 4 0)),(10,(.bp 5 0))])),some (.box ((Qd.cells a1).map .pl)),some (.box ((Qa.cells a2).map .pl)),some (.box [(.own 7)]),some (.box (((cInt .i64) a3).map .pl)),some (.box [(.pl (.fn 57))]),none,jR 3 Qb.cells r.2]:=by
 unfold f53r7 at h;obtain ⟨o,ho,h⟩:=Qe h;cases o with
 | norm v109 =>
  obtain rfl:=Qg h;exact Qn.shared Qh (f:=Try.f53) (c:=c53) (by kernel_rfl) (by kernel_rfl) (by kernel_rfl) ((f53r7n0_ok a1 a2 a3 a4 ho).mono fun r e=>by subst e; exact ⟨.inr rfl,by kernel_rfl,by kernel_rfl⟩)
 | ret v110 =>
  obtain rfl:=Qg h;exact Qn.shared Qh (f:=Try.f53) (c:=c53) (by kernel_rfl) (by kernel_rfl) (by kernel_rfl) ((f53r7n0_ok a1 a2 a3 a4 ho).mono fun r e=>by subst e; exact ⟨.inl rfl,by kernel_rfl,by kernel_rfl⟩)

inductive f53r8n2O where
 | exit0 (v43:List Qf)
noncomputable def f53r8n2E(ba1:Qd)(be2:Qa)(bd3:Int)(bg4:List Qb):f53r8n2O→Ex×Tr×Hp
 | .exit0 v43=>((.exit 0),mkS [(0,(.yl 0)),(2,(.bp 2 0)),(4,(.own 7))],[some (.lp Qp .ready none (kL 63 [(5,(.bp 3 0)),(9,(.bp 4 0)),(10,(.bp 5 0))])),some (.box ((Qd.cells ba1).map .pl)),some (.box ((Qa.cells be2).map .pl)),some (.box [(.own 6)]),some (.box (((cInt .i64) bd3).map .pl)),some (.box [(.pl .nilf)]),jR 3 Qb.cells bg4,jR 6 Qf.cells v43])
noncomputable def f53r8n2S(ba1:Qd)(be2:Qa)(bd3:Int)(bg4:List Qb)(v29:Int)(v30:List Qf):Tr×Hp:=(mkS [(0,(.yl 0)),(2,(.bp 2 0)),(4,(.own 7)),(11,(jL 4 Qc.cells ba1.Bids)),(12,(jI (ba1.Bids.length:Int))),(13,(jI v29))],[some (.lp Qp .ready none (kL 63 [(5,(.bp 3 0)),(9,(.bp 4 0)),(10,(.bp 5 0))])),some (.box ((Qd.cells ba1).map .pl)),some (.box ((Qa.cells be2).map .pl)),some (.box [(.own 6)]),some (.box (((cInt .i64) bd3).map .pl)),some (.box [(.pl .nilf)]),jR 3 Qb.cells bg4,jR 6 Qf.cells v30])
noncomputable def f53r8n2:Nat→Qd→Qa→Int→List Qb→Int→List Qf→Option f53r8n2O
 | 0,_,_,_,_,_,_=>none
 | f+1,ba1,be2,bd3,bg4,v29,v30 =>
  bif decide (v29<(ba1.Bids.length:Int)) then
   (at? ba1.Bids v29).bind fun x38 =>
   bif (seq x38.Lot be2.Name) then
    bif decide (be2.Reserve≤x38.Price) then
     req (fit (v30.length+1) 64) <|
     (f53r8n2 f ba1 be2 bd3 bg4 (wr64 (v29+1)) (v30++[(Qf.mk v29 0 x38)]))
    else
     (f53r8n2 f ba1 be2 bd3 bg4 (wr64 (v29+1)) v30)
   else
    (f53r8n2 f ba1 be2 bd3 bg4 (wr64 (v29+1)) v30)
  else
   some (.exit0 v30)
theorem f53r8n2_ok:∀(f:Nat)(ba1:Qd)(be2:Qa)(bd3:Int)(bg4:List Qb)(v29:Int)(v30:List Qf){o:f53r8n2O},f53r8n2 f ba1 be2 bd3 bg4 v29 v30=some o→TL Try.prog Try.f53.ntmps 7 f (cL (cL (Qk 1 (cL (Qk 1 c53))))) (f53r8n2S ba1 be2 bd3 bg4 v29 v30) (·=f53r8n2E ba1 be2 bd3 bg4 o)
 | 0,_,_,_,_,_,_,o,h=>by rw [f53r8n2] at h; cases h
 | f+1,ba1,be2,bd3,bg4,v29,v30,o,h=>by
  rw [f53r8n2] at h;refine TL.body (K:=fun s=>∃v29:Int,∃v30:List Qf,s=(f53r8n2S ba1 be2 bd3 bg4 v29 v30)∧f53r8n2 f ba1 be2 bd3 bg4 v29 v30=some o) ?_ (by rintro _ ⟨v29,v30,rfl,hk⟩; exact f53r8n2_ok f _ _ _ _ _ _ hk);rcases Qi h with ⟨h32,h⟩|⟨h32,h⟩
  ·obtain ⟨x38,h39,h⟩:=Qe h;rcases Qi h with ⟨h40,h⟩|⟨h40,h⟩
   ·rcases Qi h with ⟨h41,h⟩|⟨h41,h⟩
    ·obtain ⟨h42,h⟩:=Qak h;exact rE Qh [j3,([],[(1,.idx (Int.toNat v29) (Qc.cells x38))],[]),(jT [6,7,8,9,10],[(11,.bool true)],[]),([],[(5,.fits)],[(5,.row 10 ((v30++[(Qf.mk v29 0 x38)]).map Qf.cells))]),j3] [some true,some true] [] [10] [0,2,4,11,12,13] (.norm,(f53r8n2S ba1 be2 bd3 bg4 (wr64 (v29+1)) (v30++[(Qf.mk v29 0 x38)]))) (ap h32 (ap (Qj h39).1 (ap (Qm Qc.cells (Qj h39).2) (ap2 h40 (ap4 h40 (ap h41 (ap (fit_map (te:=ti78) (xs:=v30) (n:=1) (c:=Qf.cells) h42 rfl) (ap (app_cv (xs:=v30) (ys:=[(Qf.mk v29 0 x38)]) (c:=Qf.cells)) an)))))))) (Qs.norm ⟨(wr64 (v29+1)),(v30++[(Qf.mk v29 0 x38)]),rfl,h⟩)
    ·exact rE Qh [j3,([],[(1,.idx (Int.toNat v29) (Qc.cells x38))],[]),(jT [6,7,8,9,10],[(11,.bool true)],[]),j3] [some true,some false] [] [7] [0,2,4,11,12,13] (.norm,(f53r8n2S ba1 be2 bd3 bg4 (wr64 (v29+1)) v30)) (ap h32 (ap (Qj h39).1 (ap (Qm Qc.cells (Qj h39).2) (ap2 h40 (ap4 h40 (ap h41 an)))))) (Qs.norm ⟨(wr64 (v29+1)),v30,rfl,h⟩)
   ·exact rE Qh [j3,([],[(1,.idx (Int.toNat v29) (Qc.cells x38))],[]),(jF [6,7,8,9,10],[(11,.bool false)],[]),j3] [some true,none] [] [7] [0,2,4,11,12,13] (.norm,(f53r8n2S ba1 be2 bd3 bg4 (wr64 (v29+1)) v30)) (ap h32 (ap (Qj h39).1 (ap (Qm Qc.cells (Qj h39).2) (ap2 h40 (ap4 h40 an))))) (Qs.norm ⟨(wr64 (v29+1)),v30,rfl,h⟩)
  ·obtain rfl:=Qg h;exact rK Qh 2 [j3] [some false] [] [7] [0,2,4] (.exit 0) ((f53r8n2E ba1 be2 bd3 bg4 (.exit0 v30)).2) (ap h32 an) (Qs.out rfl rfl)
noncomputable def f53r8n2L(ba1:Qd)(be2:Qa)(bd3:Int)(bg4:List Qb):List Qc→Int→(List Qf)→Option f53r8n2O
 | [],v29,v30 =>
  some (.exit0 v30)
 | x0::rest,v29,v30 =>
  bif (seq x0.Lot be2.Name) then
   bif decide (be2.Reserve≤x0.Price) then
    req (fit (v30.length+1) 64) <|
    (f53r8n2L ba1 be2 bd3 bg4 rest (v29+1) (v30++[(Qf.mk v29 0 x0)]))
   else
    (f53r8n2L ba1 be2 bd3 bg4 rest (v29+1) v30)
  else
   (f53r8n2L ba1 be2 bd3 bg4 rest (v29+1) v30)
theorem f53r8n2L_eq(ba1:Qd)(be2:Qa)(bd3:Int)(bg4:List Qb):∀(rest:List Qc)(f k:Nat)(v30:List Qf),ba1.Bids.drop k=rest→ba1.Bids.length≤maxLen→rest.length<f→f53r8n2 f ba1 be2 bd3 bg4 (k:Int) v30=f53r8n2L ba1 be2 bd3 bg4 rest (k:Int) v30
 | _,0,_,_,_,_,hf=>absurd hf (Nat.not_lt_zero _)
 | [],f+1,k,v30,hd,hm,hf=>by
  have hk:¬((k:Int)<(ba1.Bids.length:Int)):=by have:=Qac hd; omega
  rw [f53r8n2,f53r8n2L];simp only [decide_eq_false hk,cond_false]
 | x0::rest,f+1,k,v30,hd,hm,hf=>by
  obtain ⟨hx,hlt,hd'⟩:=Qan hd;have hk:(k:Int)<(ba1.Bids.length:Int):=by omega
  have hw:wr64 ((k:Int)+1)=(k:Int)+1:=Qbp (by omega) (by unfold maxLen at hm; omega);have ih:∀(v30:List Qf),f53r8n2 f ba1 be2 bd3 bg4 ((k:Int)+1) v30=f53r8n2L ba1 be2 bd3 bg4 rest ((k:Int)+1) v30:=fun v30=>f53r8n2L_eq ba1 be2 bd3 bg4 rest f (k+1) v30 hd' hm (by simpa using hf);rw [f53r8n2,f53r8n2L];simp only [decide_eq_true hk,cond_true,Qaq,hx,Option.bind_some,hw,ih]
theorem f53r8n2_run(ba1:Qd)(be2:Qa)(bd3:Int)(bg4:List Qb)(v30:List Qf)(hm:ba1.Bids.length≤maxLen):f53r8n2 FUEL ba1 be2 bd3 bg4 0 v30=f53r8n2L ba1 be2 bd3 bg4 ba1.Bids 0 v30:=f53r8n2L_eq ba1 be2 bd3 bg4 ba1.Bids FUEL 0 v30 List.drop_zero hm (Qai hm)
inductive f53r8n1O where
 | norm (v47:List Qf)
noncomputable def f53r8n1E(ba1:Qd)(be2:Qa)(bd3:Int)(bg4:List Qb):f53r8n1O→Ex×Tr×Hp
 | .norm v47=>(.norm,mkS [(0,(.yl 0)),(2,(.bp 2 0)),(4,(.own 7))],[some (.lp Qp .ready none (kL 63 [(5,(.bp 3 0)),(9,(.bp 4 0)),(10,(.bp 5 0))])),some (.box ((Qd.cells ba1).map .pl)),some (.box ((Qa.cells be2).map .pl)),some (.box [(.own 6)]),some (.box (((cInt .i64) bd3).map .pl)),some (.box [(.pl .nilf)]),jR 3 Qb.cells bg4,jR 6 Qf.cells v47])
noncomputable def f53r8n1S(ba1:Qd)(be2:Qa)(bd3:Int)(bg4:List Qb):Tr×Hp:=(mkS [(0,(.yl 0)),(1,(.bp 1 0)),(2,(.bp 2 0)),(4,(.pl (.sl .nil 0 [])))],[some (.lp Qp .ready none (kL 63 [(5,(.bp 3 0)),(9,(.bp 4 0)),(10,(.bp 5 0))])),some (.box ((Qd.cells ba1).map .pl)),some (.box ((Qa.cells be2).map .pl)),some (.box [(.own 6)]),some (.box (((cInt .i64) bd3).map .pl)),some (.box [(.pl .nilf)]),jR 3 Qb.cells bg4])
noncomputable def f53r8n1(ba1:Qd)(be2:Qa)(bd3:Int)(bg4:List Qb):Option f53r8n1O :=
 (f53r8n2 FUEL ba1 be2 bd3 bg4 0 []).bind fun o44=>match o44 with
 | .exit0 v46=>some (.norm v46)
theorem f53r8n1_ok(ba1:Qd)(be2:Qa)(bd3:Int)(bg4:List Qb){o:f53r8n1O}(h:f53r8n1 ba1 be2 bd3 bg4=some o):T Try.prog Try.f53.ntmps 7 (cL (Qk 1 c53)) (f53r8n1S ba1 be2 bd3 bg4) (·=f53r8n1E ba1 be2 bd3 bg4 o):=by
 unfold f53r8n1 at h;refine rN Qh 1 [([],[],[(2,.val (jI (ba1.Bids.length:Int)))])] [] [.mat 4 6] [7] [0,2,4,11,12,13] (f53r8n2S ba1 be2 bd3 bg4 0 []) (ap (Qr (xs:=ba1.Bids) (c:=Qc.cells)) an) ?_;obtain ⟨o44,h45,h⟩:=Qe h;cases o44 with
 | exit0 v46 =>
  obtain rfl:=Qg h;exact T.last' (T.bl (i:=0) (by kernel_rfl) (by kernel_rfl) (f53r8n2_ok FUEL ba1 be2 bd3 bg4 0 [] h45)) (tds:=[]) (m:=[7]) (keep:=[0,2,4]) (st2:=(f53r8n1E ba1 be2 bd3 bg4 (.norm v46)).2) (by kernel_rfl) an rfl
inductive f53r8n3O where
 | norm (v97:Int) (v98:List Qb)
 | ret
noncomputable def f53r8n3E(bd1:Int)(bf2:List Qf)(bd3:Int)(ba4:Qd)(be5:Qa)(bd6:Int)(bg7:List Qb):f53r8n3O→Ex×Tr×Hp
 | .norm v97 v98=>(.norm,mkS [(0,(.yl 0)),(7,(jI v97)),(41,(.own 8)),(42,(jI (bf2.length:Int))),(43,(jI bd3))],[some (.lp Qp .ready none (kL 63 [(5,(.bp 3 0)),(9,(.bp 4 0)),(10,(.bp 5 0))])),some (.box ((Qd.cells ba4).map .pl)),some (.box ((Qa.cells be5).map .pl)),some (.box [(.own 7)]),some (.box (((cInt .i64) bd6).map .pl)),some (.box [(.pl .nilf)]),none,jR 3 Qb.cells v98,jR 6 Qf.cells bf2])
 | .ret=>(.ret,mkS [],[some (.lp Qp .done (some (.exit 2)) (kL 63 [(5,(.bp 3 0)),(9,(.bp 4 0)),(10,(.bp 5 0))])),some (.box ((Qd.cells ba4).map .pl)),some (.box ((Qa.cells be5).map .pl)),some (.box [(.own 7)]),some (.box (((cInt .i64) bd6).map .pl)),some (.box [(.pl .nilf)]),none,jR 3 Qb.cells bg7])
noncomputable def f53r8n3S(bd1:Int)(bf2:List Qf)(bd3:Int)(ba4:Qd)(be5:Qa)(bd6:Int)(bg7:List Qb):Tr×Hp:=(mkS [(0,(.yl 0)),(7,(jI bd1)),(41,(.own 8)),(42,(jI (bf2.length:Int))),(43,(jI bd3))],[some (.lp Qp .ready none (kL 63 [(5,(.bp 3 0)),(9,(.bp 4 0)),(10,(.bp 5 0))])),some (.box ((Qd.cells ba4).map .pl)),some (.box ((Qa.cells be5).map .pl)),some (.box [(.own 7)]),some (.box (((cInt .i64) bd6).map .pl)),some (.box [(.pl .nilf)]),none,jR 3 Qb.cells bg7,jR 6 Qf.cells bf2])
noncomputable def f53r8n3(bd1:Int)(bf2:List Qf)(bd3:Int)(ba4:Qd)(be5:Qa)(bd6:Int)(bg7:List Qb):Option f53r8n3O :=
 (at? bf2 bd3).bind fun x93 =>
 (f12y6n0 (Qf.mk x93.index (mnI bd1 x93.bid.Units) x93.bid) bd6 bg7).bind fun o95=>match o95 with
 | .exit2=>some .ret
 | .norm=>some (.norm (wr64 (bd1-(mnI bd1 x93.bid.Units))) (bg7++[(Qb.mk x93.index (mnI bd1 x93.bid.Units) x93.bid.Price)]))
theorem f53r8n3_ok(bd1:Int)(bf2:List Qf)(bd3:Int)(ba4:Qd)(be5:Qa)(bd6:Int)(bg7:List Qb){o:f53r8n3O}(h:f53r8n3 bd1 bf2 bd3 ba4 be5 bd6 bg7=some o):T Try.prog Try.f53.ntmps 7 (cL (Qk 2 (cL (cL (Qk 3 (Qk 1 (Qk 1 c53))))))) (f53r8n3S bd1 bf2 bd3 ba4 be5 bd6 bg7) (·=f53r8n3E bd1 bf2 bd3 ba4 be5 bd6 bg7 o):=by
 unfold f53r8n3 at h;refine T.block' (i:=3) (by kernel_rfl) ?_;obtain ⟨x93,h94,h⟩:=Qe h;refine rN Qh 3 [([],[(0,.at_ (Int.toNat bd3)),(1,.idx 0 (Qf.cells x93))],[]),j3,j3] [] [] [7,9,8] [0,7,9,41,42,43] (mkS [(0,(.yl 0)),(7,(jI (wr64 (bd1-(mnI bd1 x93.bid.Units))))),(9,(.bp 8 0)),(41,(.own 9)),(42,(jI (bf2.length:Int))),(43,(jI bd3))],[some (.lp Qp .ready none (kL 63 [(5,(.bp 3 0)),(9,(.bp 4 0)),(10,(.bp 5 0))])),some (.box ((Qd.cells ba4).map .pl)),some (.box ((Qa.cells be5).map .pl)),some (.box [(.own 7)]),some (.box (((cInt .i64) bd6).map .pl)),some (.box [(.pl .nilf)]),none,jR 3 Qb.cells bg7,some (.box ((Qf.cells (Qf.mk x93.index (mnI bd1 x93.bid.Units) x93.bid)).map .pl)),jR 6 Qf.cells bf2]) (ap (Qj h94).1 (ap (Qal Qf.cells (Qj h94).2) (ap (Qm Qf.cells (Qj h94).2) an))) ?_
 obtain ⟨o95,h96,h⟩:=Qe h;cases o95 with
 | exit2 =>
  refine T.oneN (by kernel_rfl) (yN Qh j3 2 false [some (.lp Qp .done (some (.exit 2)) (kL 63 [(5,(.bp 3 0)),(9,(.bp 4 0)),(10,(.bp 5 0))])),none,none,some (.box [(.own 7)]),some (.box (((cInt .i64) bd6).map .pl)),some (.box [(.pl .nilf)]),none,jR 3 Qb.cells bg7,none,none] [] [7,9] [0,7,41,42,43,60] (mkS [(0,(.yl 0)),(7,(jI (wr64 (bd1-(mnI bd1 x93.bid.Units))))),(41,(.own 8)),(42,(jI (bf2.length:Int))),(43,(jI bd3)),(60,(jB true))],[some (.lp Qp .done (some (.exit 2)) (kL 63 [(5,(.bp 3 0)),(9,(.bp 4 0)),(10,(.bp 5 0))])),some (.box ((Qd.cells ba4).map .pl)),some (.box ((Qa.cells be5).map .pl)),some (.box [(.own 7)]),some (.box (((cInt .i64) bd6).map .pl)),some (.box [(.pl .nilf)]),none,jR 3 Qb.cells bg7,jR 6 Qf.cells bf2]) (ap (Qbk.rn 10 [0,3,4,5,7] (f12y6_exit2 (Qf.mk x93.index (mnI bd1 x93.bid.Units) x93.bid) bd6 bg7 h96)) an)) rfl ?_
  obtain rfl:=Qg h;exact rE Qh [] [none] [] [7] [] (.ret,(f53r8n3E bd1 bf2 bd3 ba4 be5 bd6 bg7 .ret).2) an rfl
 | norm =>
  refine T.oneN (by kernel_rfl) (yN Qh j3 2 true [some (.lp Qp .ready none (kL 63 [(5,(.bp 3 0)),(9,(.bp 4 0)),(10,(.bp 5 0))])),none,none,some (.box [(.own 10)]),some (.box (((cInt .i64) bd6).map .pl)),some (.box [(.pl .nilf)]),none,none,none,none,some (.row false 3 ((bg7++[(Qb.mk x93.index (mnI bd1 x93.bid.Units) x93.bid.Price)]).map Qb.cells))] [] [10,9] [0,7,41,42,43,60] (mkS [(0,(.yl 0)),(7,(jI (wr64 (bd1-(mnI bd1 x93.bid.Units))))),(41,(.own 8)),(42,(jI (bf2.length:Int))),(43,(jI bd3)),(60,(jB false))],[some (.lp Qp .ready none (kL 63 [(5,(.bp 3 0)),(9,(.bp 4 0)),(10,(.bp 5 0))])),some (.box ((Qd.cells ba4).map .pl)),some (.box ((Qa.cells be5).map .pl)),some (.box [(.own 7)]),some (.box (((cInt .i64) bd6).map .pl)),some (.box [(.pl .nilf)]),none,some (.row false 3 ((bg7++[(Qb.mk x93.index (mnI bd1 x93.bid.Units) x93.bid.Price)]).map Qb.cells)),jR 6 Qf.cells bf2]) (ap (Qbk.rn 10 [0,3,4,5,7] (f12y6_norm (Qf.mk x93.index (mnI bd1 x93.bid.Units) x93.bid) bd6 bg7 h96)) an)) rfl ?_
  obtain rfl:=Qg h;exact rE Qh [] [none] [] [7,8] [0,7,41,42,43] (.norm,(f53r8n3E bd1 bf2 bd3 ba4 be5 bd6 bg7 (.norm (wr64 (bd1-(mnI bd1 x93.bid.Units))) (bg7++[(Qb.mk x93.index (mnI bd1 x93.bid.Units) x93.bid.Price)]))).2) an rfl
inductive f53r8n4O where
 | exit2 (v103:List Qb)
 | ret (v104:List Qb)
noncomputable def f53r8n4E(x53:List Qf)(a1:Qd)(a2:Qa)(a3:Int):f53r8n4O→Ex×Tr×Hp
 | .exit2 v103=>((.exit 2),mkS [],[some (.lp Qp .ready none (kL 63 [(5,(.bp 3 0)),(9,(.bp 4 0)),(10,(.bp 5 0))])),some (.box ((Qd.cells a1).map .pl)),some (.box ((Qa.cells a2).map .pl)),some (.box [(.own 7)]),some (.box (((cInt .i64) a3).map .pl)),some (.box [(.pl .nilf)]),none,jR 3 Qb.cells v103])
 | .ret v104=>(.ret,mkS [],[some (.lp Qp .done (some (.exit 2)) (kL 63 [(5,(.bp 3 0)),(9,(.bp 4 0)),(10,(.bp 5 0))])),some (.box ((Qd.cells a1).map .pl)),some (.box ((Qa.cells a2).map .pl)),some (.box [(.own 7)]),some (.box (((cInt .i64) a3).map .pl)),some (.box [(.pl .nilf)]),none,jR 3 Qb.cells v104])
noncomputable def f53r8n4S(x53:List Qf)(a1:Qd)(a2:Qa)(a3 v86 v87:Int)(v88:List Qb):Tr×Hp:=(mkS [(0,(.yl 0)),(7,(jI v86)),(41,(.own 8)),(42,(jI (x53.length:Int))),(43,(jI v87))],[some (.lp Qp .ready none (kL 63 [(5,(.bp 3 0)),(9,(.bp 4 0)),(10,(.bp 5 0))])),some (.box ((Qd.cells a1).map .pl)),some (.box ((Qa.cells a2).map .pl)),some (.box [(.own 7)]),some (.box (((cInt .i64) a3).map .pl)),some (.box [(.pl .nilf)]),none,jR 3 Qb.cells v88,jR 6 Qf.cells x53])
noncomputable def f53r8n4:Nat→List Qf→Qd→Qa→Int→Int→Int→List Qb→Option f53r8n4O
 | 0,_,_,_,_,_,_,_=>none
 | f+1,x53,a1,a2,a3,v86,v87,v88 =>
  bif decide (v87<(x53.length:Int)) then
   (f53r8n3 v86 x53 v87 a1 a2 a3 v88).bind fun o99=>match o99 with
   | .norm v101 v102=>(f53r8n4 f x53 a1 a2 a3 v101 (wr64 (v87+1)) v102)
   | .ret=>some (.ret v88)
  else
   some (.exit2 v88)
theorem f53r8n4_ok:∀(f:Nat)(x53:List Qf)(a1:Qd)(a2:Qa)(a3 v86 v87:Int)(v88:List Qb){o:f53r8n4O},f53r8n4 f x53 a1 a2 a3 v86 v87 v88=some o→TL Try.prog Try.f53.ntmps 7 f (cL (cL (Qk 3 (Qk 1 (Qk 1 c53))))) (f53r8n4S x53 a1 a2 a3 v86 v87 v88) (·=f53r8n4E x53 a1 a2 a3 o)
 | 0,_,_,_,_,_,_,_,o,h=>by rw [f53r8n4] at h; cases h
 | f+1,x53,a1,a2,a3,v86,v87,v88,o,h=>by
  rw [f53r8n4] at h;refine TL.body (K:=fun s=>∃v86:Int,∃v87:Int,∃v88:List Qb,s=(f53r8n4S x53 a1 a2 a3 v86 v87 v88)∧f53r8n4 f x53 a1 a2 a3 v86 v87 v88=some o) ?_ (by rintro _ ⟨v86,v87,v88,rfl,hk⟩; exact f53r8n4_ok f _ _ _ _ _ _ _ hk);rcases Qi h with ⟨h90,h⟩|⟨h90,h⟩
  ·refine rN Qh 2 [j3] [some true] [] [7,8] [0,7,41,42,43] (f53r8n3S v86 x53 v87 a1 a2 a3 v88) (ap h90 an) ?_;obtain ⟨o99,h100,h⟩:=Qe h;cases o99 with
   | norm v101 v102 =>
    refine T.oneN (by kernel_rfl) (f53r8n3_ok v86 x53 v87 a1 a2 a3 v88 h100) (st2:=(f53r8n3E v86 x53 v87 a1 a2 a3 v88 (.norm v101 v102)).2) rfl ?_;exact rE Qh [j3] [] [] [7,8] [0,7,41,42,43] (.norm,(f53r8n4S x53 a1 a2 a3 v101 (wr64 (v87+1)) v102)) an (Qs.norm ⟨v101,(wr64 (v87+1)),v102,rfl,h⟩)
   | ret =>
    obtain rfl:=Qg h;exact T.oneX' (by kernel_rfl) (f53r8n3_ok v86 x53 v87 a1 a2 a3 v88 h100) (tds:=[]) (m:=[7]) (keep:=[]) (st2:=(f53r8n4E x53 a1 a2 a3 (.ret v88)).2) (by kernel_rfl) an rfl (Qs.out rfl rfl)
  ·obtain rfl:=Qg h;exact rK Qh 2 [j3] [some false] [] [7] [] (.exit 2) ((f53r8n4E x53 a1 a2 a3 (.exit2 v88)).2) (ap h90 an) (Qs.out rfl rfl)
inductive f53r8n0O where
 | norm (v109:List Qb)
 | ret (v110:List Qb)
noncomputable def f53r8n0E(a1:Qd)(a2:Qa)(a3:Int)(a4:List Qb):f53r8n0O→Ex×Tr×Hp
 | .norm v109=>(.norm,mkS [],[some (.lp Qp .ready none (kL 63 [(5,(.bp 3 0)),(9,(.bp 4 0)),(10,(.bp 5 0))])),some (.box ((Qd.cells a1).map .pl)),some (.box ((Qa.cells a2).map .pl)),some (.box [(.own 7)]),some (.box (((cInt .i64) a3).map .pl)),some (.box [(.pl .nilf)]),none,jR 3 Qb.cells v109])
 | .ret v110=>(.ret,mkS [],[some (.lp Qp .done (some (.exit 2)) (kL 63 [(5,(.bp 3 0)),(9,(.bp 4 0)),(10,(.bp 5 0))])),some (.box ((Qd.cells a1).map .pl)),some (.box ((Qa.cells a2).map .pl)),some (.box [(.own 7)]),some (.box (((cInt .i64) a3).map .pl)),some (.box [(.pl .nilf)]),none,jR 3 Qb.cells v110])
noncomputable def f53r8n0S(a1:Qd)(a2:Qa)(a3:Int)(a4:List Qb):Tr×Hp:=(Qab [(.yl 0),(.bp 1 0),(.bp 2 0)] 0 .leaf,[some (.lp Qp .ready none (kL 63 [(5,(.bp 3 0)),(9,(.bp 4 0)),(10,(.bp 5 0))])),some (.box ((Qd.cells a1).map .pl)),some (.box ((Qa.cells a2).map .pl)),some (.box [(.own 6)]),some (.box (((cInt .i64) a3).map .pl)),some (.box [(.pl .nilf)]),jR 3 Qb.cells a4])
noncomputable def f53r8n0(a1:Qd)(a2:Qa)(a3:Int)(a4:List Qb):Option f53r8n0O :=
 (f53r8n1 a1 a2 a3 a4).bind fun o48=>match o48 with
 | .norm v50=>(f54r1 v50).bind fun x53 =>
  (f53r8n4 FUEL x53 a1 a2 a3 a2.Units 0 a4).bind fun o105=>match o105 with
  | .exit2 v107=>some (.norm v107)
  | .ret v108=>some (.ret v108)
theorem f53r8n0_ok(a1:Qd)(a2:Qa)(a3:Int)(a4:List Qb){o:f53r8n0O}(h:f53r8n0 a1 a2 a3 a4=some o):T Try.prog Try.f53.ntmps 7 c53 (f53r8n0S a1 a2 a3 a4) (·=f53r8n0E a1 a2 a3 a4 o):=by
 unfold f53r8n0 at h;refine rN Qh 1 [j3] [] [] [] [0,1,2,4] (f53r8n1S a1 a2 a3 a4) an ?_;obtain ⟨o48,h49,h⟩:=Qe h;cases o48 with
 | norm v50 =>
  refine T.oneN (by kernel_rfl) (f53r8n1_ok a1 a2 a3 a4 h49) (st2:=(f53r8n1E a1 a2 a3 a4 (.norm v50)).2) rfl ?_;obtain ⟨x53,h54,h⟩:=Qe h;refine rN Qh 3 [([],[(1,.call (.tup []) (jN 7 [jR 6 Qf.cells x53]))],[]),j3,([],[],[(1,.val (jI (x53.length:Int)))])] [] [.movC 3 0] [8,7] [0,7,41,42,43] (f53r8n4S x53 a1 a2 a3 a2.Units 0 a4) (ap (Qn.rn 8 [7] (f54r1_ok v50 h54)) (ap (Qr (xs:=x53) (c:=Qf.cells)) an)) ?_;obtain ⟨o105,h106,h⟩:=Qe h;cases o105 with
  | exit2 v107 =>
   obtain rfl:=Qg h;exact T.last' (T.bl (i:=2) (by kernel_rfl) (by kernel_rfl) (f53r8n4_ok FUEL x53 a1 a2 a3 a2.Units 0 a4 h106)) (tds:=[]) (m:=[7]) (keep:=[]) (st2:=(f53r8n0E a1 a2 a3 a4 (.norm v107)).2) (by kernel_rfl) an rfl
  | ret v108 =>
   obtain rfl:=Qg h;exact T.last' (T.bl (i:=2) (by kernel_rfl) (by kernel_rfl) (f53r8n4_ok FUEL x53 a1 a2 a3 a2.Units 0 a4 h106)) (tds:=[]) (m:=[7]) (keep:=[]) (st2:=(f53r8n0E a1 a2 a3 a4 (.ret v108)).2) (by kernel_rfl) an rfl
noncomputable def f53r8(a1:Qd)(a2:Qa)(a3:Int)(a4:List Qb):Option (Bool×(List Qb)):=(f53r8n0 a1 a2 a3 a4).bind fun o=>match o with
 | .norm v109=>some (true,v109)
 | .ret v110=>some (false,v110)
theorem f53r8_ok(a1:Qd)(a2:Qa)(a3:Int)(a4:List Qb){r:Bool×(List Qb)}(h:f53r8 a1 a2 a3 a4=some r):Qn Try.prog true 53 [(.yl 0),(.bp 1 0),(.bp 2 0)] [some (.lp Qp .ready none (kL 63 [(5,(.bp 3 0)),(9,(.bp 4 0)),(10,(.bp 5 0))])),some (.box ((Qd.cells a1).map .pl)),some (.box ((Qa.cells a2).map .pl)),some (.box [(.own 6)]),some (.box (((cInt .i64) a3).map .pl)),some (.box [(.pl .nilf)]),jR 3 Qb.cells a4] (.tup []) [some (.lp Qp (lstOf r.1) (pdOf r.1 (.exit 2)) (kL 63 [(5,(.bp 3 0)),(9,(.bp 4 0)),(10,(.bp 5 0))])),some (.box ((Qd.cells a1).map .pl)),some (.box ((Qa.cells a2).map .pl)),some (.box [(.own 7)]),some (.box (((cInt .i64) a3).map .pl)),some (.box [(.pl .nilf)]),none,jR 3 Qb.cells r.2]:=by
 unfold f53r8 at h;obtain ⟨o,ho,h⟩:=Qe h;cases o with
 | norm v109 =>
  obtain rfl:=Qg h;exact Qn.shared Qh (f:=Try.f53) (c:=c53) (by kernel_rfl) (by kernel_rfl) (by kernel_rfl) ((f53r8n0_ok a1 a2 a3 a4 ho).mono fun r e=>by subst e; exact ⟨.inr rfl,by kernel_rfl,by kernel_rfl⟩)
 | ret v110 =>
  obtain rfl:=Qg h;exact Qn.shared Qh (f:=Try.f53) (c:=c53) (by kernel_rfl) (by kernel_rfl) (by kernel_rfl) ((f53r8n0_ok a1 a2 a3 a4 ho).mono fun r e=>by subst e; exact ⟨.inl rfl,by kernel_rfl,by kernel_rfl⟩)

noncomputable def c38:Code:=Try.f38.body.getD .skip
inductive f38n0O where
 | ret (v7:Int)
def f38n0E(a1 a2:Qb):f38n0O→Ex×Tr×Hp
 | .ret v7=>(.ret,mkS [(4,(jI v7))],[])
def f38n0S(a1 a2:Qb):Tr×Hp:=(Qab [(jA Qb.cells a1),(jA Qb.cells a2)] 0 .leaf,[])
noncomputable def f38n0(a1 a2:Qb):Option f38n0O :=
 (f39 a1.Bid a2.Bid).bind fun x5 =>
 some (.ret x5)
theorem f38n0_ok(a1 a2:Qb){o:f38n0O}(h:f38n0 a1 a2=some o):T Try.prog Try.f38.ntmps 0 c38 (f38n0S a1 a2) (·=f38n0E a1 a2 o):=by
 unfold f38n0 at h;obtain ⟨x5,h6,h⟩:=Qe h;obtain rfl:=Qg h;exact rE Qh [j3,([],[jH 4 (jI x5)],[])] [] [] [] [4] (.ret,(f38n0E a1 a2 (.ret x5)).2) (ap (f39_ok a1.Bid a2.Bid h6) an) rfl
noncomputable def f38(a1 a2:Qb):Option Int:=(f38n0 a1 a2).bind fun o=>match o with
 | .ret v7=>some v7
theorem f38_ok(a1 a2:Qb){r:Int}(h:f38 a1 a2=some r):Qn Try.prog false 38 [(jA Qb.cells a1),(jA Qb.cells a2)] [] (jI r) []:=by
 unfold f38 at h;obtain ⟨o,ho,h⟩:=Qe h;cases o with
 | ret v7 =>
  obtain rfl:=Qg h;exact Qn.plain Qh (f:=Try.f38) (c:=c38) (by kernel_rfl) (by kernel_rfl) (by kernel_rfl) (by kernel_rfl) ((f38n0_ok a1 a2 ho).mono fun r e=>by subst e; exact ⟨.inl rfl,(jI v7),(jI v7),by kernel_rfl,by kernel_rfl,((Wk.refl _):Wk (jI v7) (jI v7))⟩)

instance:Inhabited Qb:=⟨(Qb.mk 0 0 0)⟩
def so37_38_good(xs:List Qb):Prop:=∃c:Qb→Qb→Int,(∀x y,f38 x y=some (c x y))∧Go.Sort.SWO (ltOf c)∧xs.length<4611686018427387904
open Classical in
noncomputable def so37_38(xs:List Qb):Option (List Qb):=if h:so37_38_good xs then some (sortL h.choose xs) else none
theorem so37_38_val{xs:List Qb}{c:Qb→Qb→Int}(hc:∀x y,f38 x y=some (c x y))(o:Go.Sort.SWO (ltOf c))(hl:xs.length<4611686018427387904):so37_38 xs=some (sortL c xs):=by
 have h:so37_38_good xs:=⟨c,hc,o,hl⟩;unfold so37_38;rw [dif_pos h];have e:h.choose=c:=funext fun x=>funext fun y=>Option.some.inj ((h.choose_spec.1 x y).symm.trans (hc x y));rw [e]
theorem so37_38_ok(xs:List Qb){r:List Qb}(h:so37_38 xs=some r) :
  Qn Try.prog true 37 [.own 0,.pl (.fn 38)] [some (.row false 3 (xs.map Qb.cells))] (.tup []) [some (.row false 3 (r.map Qb.cells))]:=by
 unfold so37_38 at h
 by_cases hc:so37_38_good xs
 ·rw [dif_pos hc] at h;obtain rfl:=Qg h;have hs:=hc.choose_spec;exact sort_callS (cells:=Qb.cells) so_lays rfl so_agg so_size (enters_of Try.func37 (by kernel_rfl) rfl) (fun _=>rfl) (fun x q hq=>by
   simp only [Qb.cells,List.mem_cons,List.not_mem_nil,or_false] at hq;rcases hq with rfl | rfl | rfl<;>rfl) _ hs.2.1 (fun x y=>f38_ok _ _ (hs.1 x y)) xs hs.2.2
 ·rw [dif_neg hc] at h; cases h


inductive f12n3O where
 | norm (v162:List Qb)
def f12n3E(ba1:Qd)(bd2 bd3:Int)(be4:Qa)(bg5:List Qb):f12n3O→Ex×Tr×Hp
 | .norm v162=>(.norm,mkS [(1,(.bp 0 0)),(2,(.pl (.sl .nil 0 []))),(3,(jI 0)),(5,(.bp 1 0)),(19,(jL 3 Qa.cells ba1.Lots)),(20,(jI (ba1.Lots.length:Int))),(21,(jI bd2))],[some (.box ((Qd.cells ba1).map .pl)),some (.box [(.own 2)]),jR 3 Qb.cells v162])
def f12n3S(ba1:Qd)(bd2 bd3:Int)(be4:Qa)(bg5:List Qb):Tr×Hp:=(mkS [(1,(.bp 0 0)),(2,(.pl (.sl .nil 0 []))),(3,(jI 0)),(5,(.bp 1 0)),(9,(.bp 2 0)),(10,(.bp 3 0)),(19,(jL 3 Qa.cells ba1.Lots)),(20,(jI (ba1.Lots.length:Int))),(21,(jI bd2)),(38,(.clo 53 [(.bp 4 0),(.bp 5 0)]))],[some (.box ((Qd.cells ba1).map .pl)),some (.box [(.own 6)]),some (.box (((cInt .i64) bd3).map .pl)),some (.box [(.pl (.fn 56))]),some (.box ((Qd.cells ba1).map .pl)),some (.box ((Qa.cells be4).map .pl)),jR 3 Qb.cells bg5])
noncomputable def f12n3(ba1:Qd)(bd2 bd3:Int)(be4:Qa)(bg5:List Qb):Option f12n3O :=
 (f53r6 ba1 be4 bd3 bg5).bind fun x159 =>
 bif x159.1 then
  some (.norm x159.2)
 else
  some (.norm x159.2)
theorem f12n3_ok(ba1:Qd)(bd2 bd3:Int)(be4:Qa)(bg5:List Qb){o:f12n3O}(h:f12n3 ba1 bd2 bd3 be4 bg5=some o):T Try.prog Try.f12.ntmps 0 (Qk 1 (Qk 4 (cL (cL (Qk 2 (cL (cL (Qk 1 (cL (Qk 3 c12)))))))))) (f12n3S ba1 bd2 bd3 be4 bg5) (·=f12n3E ba1 bd2 bd3 be4 bg5 o):=by
 unfold f12n3 at h;refine T.block' (i:=2) (by kernel_rfl) ?_;refine rN Qh 0 [] [] [] [0,1,2,3,4,5,6] [1,2,3,5,9,10,19,20,21,38] (mkS [(1,(.bp 0 0)),(2,(.pl (.sl .nil 0 []))),(3,(jI 0)),(5,(.bp 1 0)),(9,(.bp 2 0)),(10,(.bp 3 0)),(19,(jL 3 Qa.cells ba1.Lots)),(20,(jI (ba1.Lots.length:Int))),(21,(jI bd2)),(38,(.clo 53 [(.bp 4 0),(.bp 5 0)]))],[some (.box ((Qd.cells ba1).map .pl)),some (.box [(.own 6)]),some (.box (((cInt .i64) bd3).map .pl)),some (.box [(.pl (.fn 56))]),some (.box ((Qd.cells ba1).map .pl)),some (.box ((Qa.cells be4).map .pl)),jR 3 Qb.cells bg5]) an ?_;obtain ⟨x159,h160,h⟩:=Qe h;rcases Qi h with ⟨h161,h⟩|⟨h161,h⟩
 ·obtain rfl:=Qg h
  exact T.last' (rgN 53 [(.bp 4 0),(.bp 5 0)] [5,9,10] (.tup []) [none,some (.box [(.own 8)]),some (.box (((cInt .i64) bd3).map .pl)),some (.box [(.pl (.fn 56))]),some (.box ((Qd.cells ba1).map .pl)),some (.box ((Qa.cells be4).map .pl)),none,some (.lp Qp .ready none (kL 63 [(5,(.bp 1 0)),(9,(.bp 2 0)),(10,(.bp 3 0))])),jR 3 Qb.cells x159.2] none .ready (kL 63 [(5,(.bp 1 0)),(9,(.bp 2 0)),(10,(.bp 3 0))]) .norm [] [0,1,8] [1,2,3,5,19,20,21] (mkS [(1,(.bp 0 0)),(2,(.pl (.sl .nil 0 []))),(3,(jI 0)),(5,(.bp 1 0)),(19,(jL 3 Qa.cells ba1.Lots)),(20,(jI (ba1.Lots.length:Int))),(21,(jI bd2))],[some (.box ((Qd.cells ba1).map .pl)),some (.box [(.own 2)]),jR 3 Qb.cells x159.2]) (by have t_:=(Qn.rn 8 [7,4,5,1,2,3,6] (f53r6_ok ba1 be4 bd3 bg5 h160)); rw [h161] at t_; exact t_) an) (tds:=[]) (m:=[0,1,2]) (keep:=[1,2,3,5,19,20,21]) (st2:=(f12n3E ba1 bd2 bd3 be4 bg5 (.norm x159.2)).2) (by kernel_rfl) an rfl
 ·obtain rfl:=Qg h
  exact T.last' (rgN 53 [(.bp 4 0),(.bp 5 0)] [5,9,10] (.tup []) [none,some (.box [(.own 8)]),some (.box (((cInt .i64) bd3).map .pl)),some (.box [(.pl (.fn 56))]),some (.box ((Qd.cells ba1).map .pl)),some (.box ((Qa.cells be4).map .pl)),none,some (.lp Qp .done (some (.exit 2)) (kL 63 [(5,(.bp 1 0)),(9,(.bp 2 0)),(10,(.bp 3 0))])),jR 3 Qb.cells x159.2] (some (.exit 2)) .done (kL 63 [(5,(.bp 1 0)),(9,(.bp 2 0)),(10,(.bp 3 0))]) (.exit 2) [] [0,1,8] [1,2,3,5,19,20,21] (mkS [(1,(.bp 0 0)),(2,(.pl (.sl .nil 0 []))),(3,(jI 0)),(5,(.bp 1 0)),(19,(jL 3 Qa.cells ba1.Lots)),(20,(jI (ba1.Lots.length:Int))),(21,(jI bd2))],[some (.box ((Qd.cells ba1).map .pl)),some (.box [(.own 2)]),jR 3 Qb.cells x159.2]) (by have t_:=(Qn.rn 8 [7,4,5,1,2,3,6] (f53r6_ok ba1 be4 bd3 bg5 h160)); rw [h161] at t_; exact t_) an) (tds:=[]) (m:=[0,1,2]) (keep:=[1,2,3,5,19,20,21]) (st2:=(f12n3E ba1 bd2 bd3 be4 bg5 (.norm x159.2)).2) (by kernel_rfl) an rfl
inductive f12n4O where
 | norm (v174:List Qb)
def f12n4E(ba1:Qd)(bd2 bd3:Int)(be4:Qa)(bg5:List Qb):f12n4O→Ex×Tr×Hp
 | .norm v174=>(.norm,mkS [(1,(.bp 0 0)),(2,(.pl (.sl .nil 0 []))),(3,(jI 0)),(5,(.bp 1 0)),(19,(jL 3 Qa.cells ba1.Lots)),(20,(jI (ba1.Lots.length:Int))),(21,(jI bd2))],[some (.box ((Qd.cells ba1).map .pl)),some (.box [(.own 2)]),jR 3 Qb.cells v174])
def f12n4S(ba1:Qd)(bd2 bd3:Int)(be4:Qa)(bg5:List Qb):Tr×Hp:=(mkS [(1,(.bp 0 0)),(2,(.pl (.sl .nil 0 []))),(3,(jI 0)),(5,(.bp 1 0)),(9,(.bp 2 0)),(10,(.bp 3 0)),(19,(jL 3 Qa.cells ba1.Lots)),(20,(jI (ba1.Lots.length:Int))),(21,(jI bd2)),(38,(.clo 53 [(.bp 4 0),(.bp 5 0)]))],[some (.box ((Qd.cells ba1).map .pl)),some (.box [(.own 6)]),some (.box (((cInt .i64) bd3).map .pl)),some (.box [(.pl (.fn 57))]),some (.box ((Qd.cells ba1).map .pl)),some (.box ((Qa.cells be4).map .pl)),jR 3 Qb.cells bg5])
noncomputable def f12n4(ba1:Qd)(bd2 bd3:Int)(be4:Qa)(bg5:List Qb):Option f12n4O :=
 (f53r7 ba1 be4 bd3 bg5).bind fun x171 =>
 bif x171.1 then
  some (.norm x171.2)
 else
  some (.norm x171.2)
theorem f12n4_ok(ba1:Qd)(bd2 bd3:Int)(be4:Qa)(bg5:List Qb){o:f12n4O}(h:f12n4 ba1 bd2 bd3 be4 bg5=some o):T Try.prog Try.f12.ntmps 0 (Qk 1 (Qk 4 (cL (cL (Qk 2 (cL (cL (Qk 1 (cL (Qk 3 c12)))))))))) (f12n4S ba1 bd2 bd3 be4 bg5) (·=f12n4E ba1 bd2 bd3 be4 bg5 o):=by
 unfold f12n4 at h;refine T.block' (i:=2) (by kernel_rfl) ?_;refine rN Qh 0 [] [] [] [0,1,2,3,4,5,6] [1,2,3,5,9,10,19,20,21,38] (mkS [(1,(.bp 0 0)),(2,(.pl (.sl .nil 0 []))),(3,(jI 0)),(5,(.bp 1 0)),(9,(.bp 2 0)),(10,(.bp 3 0)),(19,(jL 3 Qa.cells ba1.Lots)),(20,(jI (ba1.Lots.length:Int))),(21,(jI bd2)),(38,(.clo 53 [(.bp 4 0),(.bp 5 0)]))],[some (.box ((Qd.cells ba1).map .pl)),some (.box [(.own 6)]),some (.box (((cInt .i64) bd3).map .pl)),some (.box [(.pl (.fn 57))]),some (.box ((Qd.cells ba1).map .pl)),some (.box ((Qa.cells be4).map .pl)),jR 3 Qb.cells bg5]) an ?_;obtain ⟨x171,h172,h⟩:=Qe h;rcases Qi h with ⟨h173,h⟩|⟨h173,h⟩
 ·obtain rfl:=Qg h
  exact T.last' (rgN 53 [(.bp 4 0),(.bp 5 0)] [5,9,10] (.tup []) [none,some (.box [(.own 8)]),some (.box (((cInt .i64) bd3).map .pl)),some (.box [(.pl (.fn 57))]),some (.box ((Qd.cells ba1).map .pl)),some (.box ((Qa.cells be4).map .pl)),none,some (.lp Qp .ready none (kL 63 [(5,(.bp 1 0)),(9,(.bp 2 0)),(10,(.bp 3 0))])),jR 3 Qb.cells x171.2] none .ready (kL 63 [(5,(.bp 1 0)),(9,(.bp 2 0)),(10,(.bp 3 0))]) .norm [] [0,1,8] [1,2,3,5,19,20,21] (mkS [(1,(.bp 0 0)),(2,(.pl (.sl .nil 0 []))),(3,(jI 0)),(5,(.bp 1 0)),(19,(jL 3 Qa.cells ba1.Lots)),(20,(jI (ba1.Lots.length:Int))),(21,(jI bd2))],[some (.box ((Qd.cells ba1).map .pl)),some (.box [(.own 2)]),jR 3 Qb.cells x171.2]) (by have t_:=(Qn.rn 8 [7,4,5,1,2,3,6] (f53r7_ok ba1 be4 bd3 bg5 h172)); rw [h173] at t_; exact t_) an) (tds:=[]) (m:=[0,1,2]) (keep:=[1,2,3,5,19,20,21]) (st2:=(f12n4E ba1 bd2 bd3 be4 bg5 (.norm x171.2)).2) (by kernel_rfl) an rfl
 ·obtain rfl:=Qg h
  exact T.last' (rgN 53 [(.bp 4 0),(.bp 5 0)] [5,9,10] (.tup []) [none,some (.box [(.own 8)]),some (.box (((cInt .i64) bd3).map .pl)),some (.box [(.pl (.fn 57))]),some (.box ((Qd.cells ba1).map .pl)),some (.box ((Qa.cells be4).map .pl)),none,some (.lp Qp .done (some (.exit 2)) (kL 63 [(5,(.bp 1 0)),(9,(.bp 2 0)),(10,(.bp 3 0))])),jR 3 Qb.cells x171.2] (some (.exit 2)) .done (kL 63 [(5,(.bp 1 0)),(9,(.bp 2 0)),(10,(.bp 3 0))]) (.exit 2) [] [0,1,8] [1,2,3,5,19,20,21] (mkS [(1,(.bp 0 0)),(2,(.pl (.sl .nil 0 []))),(3,(jI 0)),(5,(.bp 1 0)),(19,(jL 3 Qa.cells ba1.Lots)),(20,(jI (ba1.Lots.length:Int))),(21,(jI bd2))],[some (.box ((Qd.cells ba1).map .pl)),some (.box [(.own 2)]),jR 3 Qb.cells x171.2]) (by have t_:=(Qn.rn 8 [7,4,5,1,2,3,6] (f53r7_ok ba1 be4 bd3 bg5 h172)); rw [h173] at t_; exact t_) an) (tds:=[]) (m:=[0,1,2]) (keep:=[1,2,3,5,19,20,21]) (st2:=(f12n4E ba1 bd2 bd3 be4 bg5 (.norm x171.2)).2) (by kernel_rfl) an rfl
inductive f12n5O where
 | norm (v181:List Qb)
def f12n5E(ba1:Qd)(bd2:Int)(be3:Qa)(bg4:List Qb):f12n5O→Ex×Tr×Hp
 | .norm v181=>(.norm,mkS [(1,(.bp 0 0)),(2,(.pl (.sl .nil 0 []))),(3,(jI 0)),(5,(.bp 1 0)),(19,(jL 3 Qa.cells ba1.Lots)),(20,(jI (ba1.Lots.length:Int))),(21,(jI bd2))],[some (.box ((Qd.cells ba1).map .pl)),some (.box [(.own 2)]),jR 3 Qb.cells v181])
def f12n5S(ba1:Qd)(bd2:Int)(be3:Qa)(bg4:List Qb):Tr×Hp:=(mkS [(1,(.bp 0 0)),(2,(.pl (.sl .nil 0 []))),(3,(jI 0)),(5,(.bp 1 0)),(9,(.bp 2 0)),(10,(.bp 3 0)),(19,(jL 3 Qa.cells ba1.Lots)),(20,(jI (ba1.Lots.length:Int))),(21,(jI bd2)),(38,(.clo 53 [(.bp 4 0),(.bp 5 0)]))],[some (.box ((Qd.cells ba1).map .pl)),some (.box [(.own 6)]),some (.box (((cInt .i64) 0).map .pl)),some (.box [(.pl .nilf)]),some (.box ((Qd.cells ba1).map .pl)),some (.box ((Qa.cells be3).map .pl)),jR 3 Qb.cells bg4])
noncomputable def f12n5(ba1:Qd)(bd2:Int)(be3:Qa)(bg4:List Qb):Option f12n5O :=
 (f53r8 ba1 be3 0 bg4).bind fun x178 =>
 bif x178.1 then
  some (.norm x178.2)
 else
  some (.norm x178.2)
theorem f12n5_ok(ba1:Qd)(bd2:Int)(be3:Qa)(bg4:List Qb){o:f12n5O}(h:f12n5 ba1 bd2 be3 bg4=some o):T Try.prog Try.f12.ntmps 0 (Qk 1 (Qk 4 (cL (cL (Qk 2 (cL (cL (Qk 1 (cL (Qk 3 c12)))))))))) (f12n5S ba1 bd2 be3 bg4) (·=f12n5E ba1 bd2 be3 bg4 o):=by
 unfold f12n5 at h;refine T.block' (i:=2) (by kernel_rfl) ?_;refine rN Qh 0 [] [] [] [0,1,2,3,4,5,6] [1,2,3,5,9,10,19,20,21,38] (mkS [(1,(.bp 0 0)),(2,(.pl (.sl .nil 0 []))),(3,(jI 0)),(5,(.bp 1 0)),(9,(.bp 2 0)),(10,(.bp 3 0)),(19,(jL 3 Qa.cells ba1.Lots)),(20,(jI (ba1.Lots.length:Int))),(21,(jI bd2)),(38,(.clo 53 [(.bp 4 0),(.bp 5 0)]))],[some (.box ((Qd.cells ba1).map .pl)),some (.box [(.own 6)]),some (.box (((cInt .i64) 0).map .pl)),some (.box [(.pl .nilf)]),some (.box ((Qd.cells ba1).map .pl)),some (.box ((Qa.cells be3).map .pl)),jR 3 Qb.cells bg4]) an ?_;obtain ⟨x178,h179,h⟩:=Qe h;rcases Qi h with ⟨h180,h⟩|⟨h180,h⟩
 ·obtain rfl:=Qg h
  exact T.last' (rgN 53 [(.bp 4 0),(.bp 5 0)] [5,9,10] (.tup []) [none,some (.box [(.own 8)]),some (.box (((cInt .i64) 0).map .pl)),some (.box [(.pl .nilf)]),some (.box ((Qd.cells ba1).map .pl)),some (.box ((Qa.cells be3).map .pl)),none,some (.lp Qp .ready none (kL 63 [(5,(.bp 1 0)),(9,(.bp 2 0)),(10,(.bp 3 0))])),jR 3 Qb.cells x178.2] none .ready (kL 63 [(5,(.bp 1 0)),(9,(.bp 2 0)),(10,(.bp 3 0))]) .norm [] [0,1,8] [1,2,3,5,19,20,21] (mkS [(1,(.bp 0 0)),(2,(.pl (.sl .nil 0 []))),(3,(jI 0)),(5,(.bp 1 0)),(19,(jL 3 Qa.cells ba1.Lots)),(20,(jI (ba1.Lots.length:Int))),(21,(jI bd2))],[some (.box ((Qd.cells ba1).map .pl)),some (.box [(.own 2)]),jR 3 Qb.cells x178.2]) (by have t_:=(Qn.rn 8 [7,4,5,1,2,3,6] (f53r8_ok ba1 be3 0 bg4 h179)); rw [h180] at t_; exact t_) an) (tds:=[]) (m:=[0,1,2]) (keep:=[1,2,3,5,19,20,21]) (st2:=(f12n5E ba1 bd2 be3 bg4 (.norm x178.2)).2) (by kernel_rfl) an rfl
 ·obtain rfl:=Qg h
  exact T.last' (rgN 53 [(.bp 4 0),(.bp 5 0)] [5,9,10] (.tup []) [none,some (.box [(.own 8)]),some (.box (((cInt .i64) 0).map .pl)),some (.box [(.pl .nilf)]),some (.box ((Qd.cells ba1).map .pl)),some (.box ((Qa.cells be3).map .pl)),none,some (.lp Qp .done (some (.exit 2)) (kL 63 [(5,(.bp 1 0)),(9,(.bp 2 0)),(10,(.bp 3 0))])),jR 3 Qb.cells x178.2] (some (.exit 2)) .done (kL 63 [(5,(.bp 1 0)),(9,(.bp 2 0)),(10,(.bp 3 0))]) (.exit 2) [] [0,1,8] [1,2,3,5,19,20,21] (mkS [(1,(.bp 0 0)),(2,(.pl (.sl .nil 0 []))),(3,(jI 0)),(5,(.bp 1 0)),(19,(jL 3 Qa.cells ba1.Lots)),(20,(jI (ba1.Lots.length:Int))),(21,(jI bd2))],[some (.box ((Qd.cells ba1).map .pl)),some (.box [(.own 2)]),jR 3 Qb.cells x178.2]) (by have t_:=(Qn.rn 8 [7,4,5,1,2,3,6] (f53r8_ok ba1 be3 0 bg4 h179)); rw [h180] at t_; exact t_) an) (tds:=[]) (m:=[0,1,2]) (keep:=[1,2,3,5,19,20,21]) (st2:=(f12n5E ba1 bd2 be3 bg4 (.norm x178.2)).2) (by kernel_rfl) an rfl
inductive f12n2O where
 | norm (v185:List Qb)
def f12n2E(ba1:Qd)(bd2:Int)(bg3:List Qb):f12n2O→Ex×Tr×Hp
 | .norm v185=>(.norm,mkS [(1,(.bp 0 0)),(2,(.pl (.sl .nil 0 []))),(3,(jI 0)),(5,(.bp 1 0)),(19,(jL 3 Qa.cells ba1.Lots)),(20,(jI (ba1.Lots.length:Int))),(21,(jI bd2))],[some (.box ((Qd.cells ba1).map .pl)),some (.box [(.own 2)]),jR 3 Qb.cells v185])
def f12n2S(ba1:Qd)(bd2:Int)(bg3:List Qb):Tr×Hp:=(mkS [(1,(.bp 0 0)),(2,(.pl (.sl .nil 0 []))),(3,(jI 0)),(5,(.bp 1 0)),(19,(jL 3 Qa.cells ba1.Lots)),(20,(jI (ba1.Lots.length:Int))),(21,(jI bd2))],[some (.box ((Qd.cells ba1).map .pl)),some (.box [(.own 2)]),jR 3 Qb.cells bg3])
noncomputable def f12n2(ba1:Qd)(bd2:Int)(bg3:List Qb):Option f12n2O :=
 (at? ba1.Lots bd2).bind fun x134 =>
 (f35r1 ba1 x134).bind fun x138 =>
 f36r1.bind fun x152 =>
 bif decide (ba1.Rule=1) then
  (f56r1 x134 ba1).bind fun x157 =>
  (f12n3 ba1 bd2 x157 x134 bg3).bind fun o163=>match o163 with
  | .norm v165=>some (.norm v165)
 else
  bif decide (ba1.Rule=2) then
   (f57r1 x134 ba1).bind fun x169 =>
   (f12n4 ba1 bd2 x169 x134 bg3).bind fun o175=>match o175 with
   | .norm v177=>some (.norm v177)
  else
   (f12n5 ba1 bd2 x134 bg3).bind fun o182=>match o182 with
   | .norm v184=>some (.norm v184)
theorem f12n2_ok(ba1:Qd)(bd2:Int)(bg3:List Qb){o:f12n2O}(h:f12n2 ba1 bd2 bg3=some o):T Try.prog Try.f12.ntmps 0 (cL (Qk 2 (cL (cL (Qk 1 (cL (Qk 3 c12))))))) (f12n2S ba1 bd2 bg3) (·=f12n2E ba1 bd2 bg3 o):=by
 unfold f12n2 at h;refine T.block' (i:=1) (by kernel_rfl) ?_;obtain ⟨x134,h135,h⟩:=Qe h;obtain ⟨x138,h139,h⟩:=Qe h;obtain ⟨x152,h153,h⟩:=Qe h;rcases Qi h with ⟨h154,h⟩|⟨h154,h⟩
 ·obtain ⟨x157,h158,h⟩:=Qe h
  refine rN Qh 4 [([],[(0,.idx (Int.toNat bd2) (Qa.cells x134))],[]),([],[(2,.call (.clo 53 [(.bp 4 0),(.bp 5 0)]) (jN 4 [some (.box ((Qd.cells ba1).map .pl)),some (.box ((Qa.cells x134).map .pl))]))],[]),([],[(0,.call (.mp 9) (jN 9 [some (.map [((.int .u8 1),(.fn 56)),((.int .u8 2),(.fn 57))])])),(3,.look (.fn 56) true)],[]),j3,([],[(3,.call (jI x157) (jN 4 [some (.box ((Qd.cells ba1).map .pl)),some (.box ((Qa.cells x134).map .pl)),none,none,none,none]))],[])] [none] [] [0,1,4,5,6,7,2] [1,2,3,5,8,9,10,19,20,21] (mkS [(1,(.bp 0 0)),(2,(.pl (.sl .nil 0 []))),(3,(jI 0)),(5,(.bp 1 0)),(8,(.clo 53 [(.bp 2 0),(.bp 3 0)])),(9,(.bp 4 0)),(10,(.bp 5 0)),(19,(jL 3 Qa.cells ba1.Lots)),(20,(jI (ba1.Lots.length:Int))),(21,(jI bd2))],[some (.box ((Qd.cells ba1).map .pl)),some (.box [(.own 6)]),some (.box ((Qd.cells ba1).map .pl)),some (.box ((Qa.cells x134).map .pl)),some (.box (((cInt .i64) x157).map .pl)),some (.box [(.pl (.fn 56))]),jR 3 Qb.cells bg3]) (ap (Qj h135).1 (ap (Qm Qa.cells (Qj h135).2) (ap (Qn.rn 4 [] (f35r1_ok ba1 x134 h139)) (ap (look_lit (e:=74) key_5 (z:=.nilf) (by kernel_rfl) ba1.Rule [(1,(.fn 56)),(2,(.fn 57))] (v:=(.fn 56)) (b:=true) (by simp only [mGet,mHas,h154,cond_true,cond_false,Bool.or_true,Bool.true_or,Bool.or_false,Bool.false_or]) (by simp only [mGet,mHas,h154,cond_true,cond_false,Bool.or_true,Bool.true_or,Bool.or_false,Bool.false_or])) (ap (Qn.rn 9 [] (f36r1_ok h153)) (ap (Qn.rn 10 [4,5] (f56r1_ok x134 ba1 h158)) an)))))) ?_
  refine rN Qh 1 [j3] [] [] [0,1,4,5,2,3,6] [1,2,3,5,9,10,19,20,21,38] (f12n3S ba1 bd2 x157 x134 bg3) an ?_;obtain ⟨o163,h164,h⟩:=Qe h;cases o163 with
  | norm v165 =>
   obtain rfl:=Qg h;exact T.last' (f12n3_ok ba1 bd2 x157 x134 bg3 h164) (tds:=[]) (m:=[0,1,2]) (keep:=[1,2,3,5,19,20,21]) (st2:=(f12n2E ba1 bd2 bg3 (.norm v165)).2) (by kernel_rfl) an rfl
 ·rcases Qi h with ⟨h166,h⟩|⟨h166,h⟩
  ·obtain ⟨x169,h170,h⟩:=Qe h
   refine rN Qh 4 [([],[(0,.idx (Int.toNat bd2) (Qa.cells x134))],[]),([],[(2,.call (.clo 53 [(.bp 4 0),(.bp 5 0)]) (jN 4 [some (.box ((Qd.cells ba1).map .pl)),some (.box ((Qa.cells x134).map .pl))]))],[]),([],[(0,.call (.mp 9) (jN 9 [some (.map [((.int .u8 1),(.fn 56)),((.int .u8 2),(.fn 57))])])),(3,.look (.fn 57) true)],[]),j3,([],[(3,.call (jI x169) (jN 4 [some (.box ((Qd.cells ba1).map .pl)),some (.box ((Qa.cells x134).map .pl)),none,none,none,none,some (.box (((cInt .i64) x169).map .pl))]))],[])] [none] [] [0,1,4,5,6,7,2] [1,2,3,5,8,9,10,19,20,21] (mkS [(1,(.bp 0 0)),(2,(.pl (.sl .nil 0 []))),(3,(jI 0)),(5,(.bp 1 0)),(8,(.clo 53 [(.bp 2 0),(.bp 3 0)])),(9,(.bp 4 0)),(10,(.bp 5 0)),(19,(jL 3 Qa.cells ba1.Lots)),(20,(jI (ba1.Lots.length:Int))),(21,(jI bd2))],[some (.box ((Qd.cells ba1).map .pl)),some (.box [(.own 6)]),some (.box ((Qd.cells ba1).map .pl)),some (.box ((Qa.cells x134).map .pl)),some (.box (((cInt .i64) x169).map .pl)),some (.box [(.pl (.fn 57))]),jR 3 Qb.cells bg3]) (ap (Qj h135).1 (ap (Qm Qa.cells (Qj h135).2) (ap (Qn.rn 4 [] (f35r1_ok ba1 x134 h139)) (ap (look_lit (e:=74) key_5 (z:=.nilf) (by kernel_rfl) ba1.Rule [(1,(.fn 56)),(2,(.fn 57))] (v:=(.fn 57)) (b:=true) (by simp only [mGet,mHas,h154,h166,cond_true,cond_false,Bool.or_true,Bool.true_or,Bool.or_false,Bool.false_or]) (by simp only [mGet,mHas,h154,h166,cond_true,cond_false,Bool.or_true,Bool.true_or,Bool.or_false,Bool.false_or])) (ap (Qn.rn 9 [] (f36r1_ok h153)) (ap (Qn.rn 10 [4,5] (f57r1_ok x134 ba1 h170)) an)))))) ?_
   refine rN Qh 1 [j3] [] [] [0,1,4,5,2,3,6] [1,2,3,5,9,10,19,20,21,38] (f12n4S ba1 bd2 x169 x134 bg3) an ?_;obtain ⟨o175,h176,h⟩:=Qe h;cases o175 with
   | norm v177 =>
    obtain rfl:=Qg h;exact T.last' (f12n4_ok ba1 bd2 x169 x134 bg3 h176) (tds:=[]) (m:=[0,1,2]) (keep:=[1,2,3,5,19,20,21]) (st2:=(f12n2E ba1 bd2 bg3 (.norm v177)).2) (by kernel_rfl) an rfl
  ·refine rN Qh 4 [([],[(0,.idx (Int.toNat bd2) (Qa.cells x134))],[]),([],[(2,.call (.clo 53 [(.bp 4 0),(.bp 5 0)]) (jN 4 [some (.box ((Qd.cells ba1).map .pl)),some (.box ((Qa.cells x134).map .pl))]))],[]),([],[(0,.call (.mp 9) (jN 9 [some (.map [((.int .u8 1),(.fn 56)),((.int .u8 2),(.fn 57))])])),(3,.look .nilf false)],[]),j3] [none] [] [0,1,4,5,6,7,2] [1,2,3,5,8,9,10,19,20,21] (mkS [(1,(.bp 0 0)),(2,(.pl (.sl .nil 0 []))),(3,(jI 0)),(5,(.bp 1 0)),(8,(.clo 53 [(.bp 2 0),(.bp 3 0)])),(9,(.bp 4 0)),(10,(.bp 5 0)),(19,(jL 3 Qa.cells ba1.Lots)),(20,(jI (ba1.Lots.length:Int))),(21,(jI bd2))],[some (.box ((Qd.cells ba1).map .pl)),some (.box [(.own 6)]),some (.box ((Qd.cells ba1).map .pl)),some (.box ((Qa.cells x134).map .pl)),some (.box (((cInt .i64) 0).map .pl)),some (.box [(.pl .nilf)]),jR 3 Qb.cells bg3]) (ap (Qj h135).1 (ap (Qm Qa.cells (Qj h135).2) (ap (Qn.rn 4 [] (f35r1_ok ba1 x134 h139)) (ap (look_lit (e:=74) key_5 (z:=.nilf) (by kernel_rfl) ba1.Rule [(1,(.fn 56)),(2,(.fn 57))] (v:=.nilf) (b:=false) (by simp only [mGet,mHas,h154,h166,cond_true,cond_false,Bool.or_true,Bool.true_or,Bool.or_false,Bool.false_or]) (by simp only [mGet,mHas,h154,h166,cond_true,cond_false,Bool.or_true,Bool.true_or,Bool.or_false,Bool.false_or])) (ap (Qn.rn 9 [] (f36r1_ok h153)) an))))) ?_
   refine rN Qh 1 [j3] [] [] [0,1,4,5,2,3,6] [1,2,3,5,9,10,19,20,21,38] (f12n5S ba1 bd2 x134 bg3) an ?_;obtain ⟨o182,h183,h⟩:=Qe h;cases o182 with
   | norm v184 =>
    obtain rfl:=Qg h;exact T.last' (f12n5_ok ba1 bd2 x134 bg3 h183) (tds:=[]) (m:=[0,1,2]) (keep:=[1,2,3,5,19,20,21]) (st2:=(f12n2E ba1 bd2 bg3 (.norm v184)).2) (by kernel_rfl) an rfl
inductive f12n6O where
 | exit0 (v189:List Qb)
def f12n6E(ba1:Qd):f12n6O→Ex×Tr×Hp
 | .exit0 v189=>((.exit 0),mkS [(5,(.bp 0 0))],[some (.box [(.own 1)]),jR 3 Qb.cells v189])
def f12n6S(ba1:Qd)(v128:Int)(v129:List Qb):Tr×Hp:=(mkS [(1,(.bp 0 0)),(2,(.pl (.sl .nil 0 []))),(3,(jI 0)),(5,(.bp 1 0)),(19,(jL 3 Qa.cells ba1.Lots)),(20,(jI (ba1.Lots.length:Int))),(21,(jI v128))],[some (.box ((Qd.cells ba1).map .pl)),some (.box [(.own 2)]),jR 3 Qb.cells v129])
noncomputable def f12n6:Nat→Qd→Int→List Qb→Option f12n6O
 | 0,_,_,_=>none
 | f+1,ba1,v128,v129 =>
  bif decide (v128<(ba1.Lots.length:Int)) then
   (f12n2 ba1 v128 v129).bind fun o186=>match o186 with
   | .norm v188=>(f12n6 f ba1 (wr64 (v128+1)) v188)
  else
   some (.exit0 v129)
theorem f12n6_ok:∀(f:Nat)(ba1:Qd)(v128:Int)(v129:List Qb){o:f12n6O},f12n6 f ba1 v128 v129=some o→TL Try.prog Try.f12.ntmps 0 f (cL (cL (Qk 1 (cL (Qk 3 c12))))) (f12n6S ba1 v128 v129) (·=f12n6E ba1 o)
 | 0,_,_,_,o,h=>by rw [f12n6] at h; cases h
 | f+1,ba1,v128,v129,o,h=>by
  rw [f12n6] at h;refine TL.body (K:=fun s=>∃v128:Int,∃v129:List Qb,s=(f12n6S ba1 v128 v129)∧f12n6 f ba1 v128 v129=some o) ?_ (by rintro _ ⟨v128,v129,rfl,hk⟩; exact f12n6_ok f _ _ _ hk);rcases Qi h with ⟨h131,h⟩|⟨h131,h⟩
  ·refine rN Qh 2 [j3] [some true] [] [0,1,2] [1,2,3,5,19,20,21] (f12n2S ba1 v128 v129) (ap h131 an) ?_;obtain ⟨o186,h187,h⟩:=Qe h;cases o186 with
   | norm v188 =>
    refine T.oneN (by kernel_rfl) (f12n2_ok ba1 v128 v129 h187) (st2:=(f12n2E ba1 v128 v129 (.norm v188)).2) rfl ?_;exact rE Qh [j3] [] [] [0,1,2] [1,2,3,5,19,20,21] (.norm,(f12n6S ba1 (wr64 (v128+1)) v188)) an (Qs.norm ⟨(wr64 (v128+1)),v188,rfl,h⟩)
  ·obtain rfl:=Qg h;exact rK Qh 2 [j3] [some false] [] [1,2] [5] (.exit 0) ((f12n6E ba1 (.exit0 v129)).2) (ap h131 an) (Qs.out rfl rfl)
inductive f12n1O where
 | norm (v193:List Qb)
def f12n1E(ba1:Qd):f12n1O→Ex×Tr×Hp
 | .norm v193=>(.norm,mkS [(5,(.bp 0 0))],[some (.box [(.own 1)]),jR 3 Qb.cells v193])
def f12n1S(ba1:Qd):Tr×Hp:=(mkS [(1,(.bp 0 0)),(2,(.pl (.sl .nil 0 []))),(3,(jI 0)),(5,(.bp 1 0))],[some (.box ((Qd.cells ba1).map .pl)),some (.box [(.pl (.sl .nil 0 []))])])
noncomputable def f12n1(ba1:Qd):Option f12n1O :=
 (f12n6 FUEL ba1 0 []).bind fun o190=>match o190 with
 | .exit0 v192=>some (.norm v192)
theorem f12n1_ok(ba1:Qd){o:f12n1O}(h:f12n1 ba1=some o):T Try.prog Try.f12.ntmps 0 (cL (Qk 3 c12)) (f12n1S ba1) (·=f12n1E ba1 o):=by
 unfold f12n1 at h;refine rN Qh 1 [([],[],[(2,.val (jI (ba1.Lots.length:Int)))])] [] [.matC 1 0 3] [0,1,2] [1,2,3,5,19,20,21] (f12n6S ba1 0 []) (ap (Qr (xs:=ba1.Lots) (c:=Qa.cells)) an) ?_;obtain ⟨o190,h191,h⟩:=Qe h;cases o190 with
 | exit0 v192 =>
  obtain rfl:=Qg h;exact T.last' (T.bl (i:=0) (by kernel_rfl) (by kernel_rfl) (f12n6_ok FUEL ba1 0 [] h191)) (tds:=[]) (m:=[0,1]) (keep:=[5]) (st2:=(f12n1E ba1 (.norm v192)).2) (by kernel_rfl) an rfl
inductive f12n0O where
 | ret (v201:Int) (v202:List Qb)
def f12n0E(a1:Qd):f12n0O→Ex×Tr×Hp
 | .ret v201 v202=>(.ret,mkS [(2,(.own 0)),(3,(jI v201))],[jR 3 Qb.cells v202])
def f12n0S(a1:Qd):Tr×Hp:=(Qab [(jA Qd.cells a1)] 0 .leaf,[])
noncomputable def f12n0(a1:Qd):Option f12n0O :=
 (f31 a1).bind fun x5 =>
 bif decide (x5=0) then
  (f12n1 a1).bind fun o194=>match o194 with
  | .norm v196=>(so37_38 v196).bind fun x199 =>
   some (.ret 0 x199)
 else
  some (.ret x5 [])
theorem f12n0_ok(a1:Qd){o:f12n0O}(h:f12n0 a1=some o):T Try.prog Try.f12.ntmps 0 c12 (f12n0S a1) (·=f12n0E a1 o):=by
 unfold f12n0 at h;obtain ⟨x5,h6,h⟩:=Qe h;rcases Qi h with ⟨h7,h⟩|⟨h7,h⟩
 ·refine rN Qh 3 [j3,([],[jH 1 (jI x5)],[]),j3,j3] [some false] [] [0,1] [1,2,3,5] (f12n1S a1) (ap (f31_ok a1 h6) (ap (Qt h7) an)) ?_;obtain ⟨o194,h195,h⟩:=Qe h;cases o194 with
  | norm v196 =>
   refine T.oneN (by kernel_rfl) (f12n1_ok a1 h195) (st2:=(f12n1E a1 (.norm v196)).2) rfl ?_;obtain ⟨x199,h200,h⟩:=Qe h;obtain rfl:=Qg h;exact rE Qh [([],[(1,.call (.tup []) [none,jR 3 Qb.cells x199])],[]),j3] [] [] [1] [2,3] (.ret,(f12n0E a1 (.ret 0 x199)).2) (ap (Qn.rn 2 [1] (so37_38_ok v196 h200)) an) rfl
 ·obtain rfl:=Qg h;exact rK Qh 2 [j3,([],[jH 1 (jI x5)],[]),j3,j3] [some true] [.mat 2 3] [1] [2,3] .ret ((f12n0E a1 (.ret x5 [])).2) (ap (f31_ok a1 h6) (ap (Qad h7) an)) rfl
noncomputable def f12(a1:Qd):Option ((List Qb)×Int):=(f12n0 a1).bind fun o=>match o with
 | .ret v201 v202=>some (v202,v201)
theorem f12_ok(a1:Qd){r:(List Qb)×Int}(h:f12 a1=some r):Qn Try.prog false 12 [(jA Qd.cells a1)] [] (.tup [(jL 3 Qb.cells r.1),(jI r.2)]) []:=by
 unfold f12 at h;obtain ⟨o,ho,h⟩:=Qe h;cases o with
 | ret v201 v202 =>
  obtain rfl:=Qg h;exact Qn.plain Qh (f:=Try.f12) (c:=c12) (by kernel_rfl) (by kernel_rfl) (by kernel_rfl) (by kernel_rfl) ((f12n0_ok a1 ho).mono fun r e=>by subst e; exact ⟨.inl rfl,(.tup [(.own 0),(jI v201)]),(.tup [(jL 3 Qb.cells v202),(jI v201)]),by kernel_rfl,by kernel_rfl,((Wk.refl _):Wk (.tup [(jL 3 Qb.cells v202),(jI v201)]) (.tup [(jL 3 Qb.cells v202),(jI v201)]))⟩)
end Go.Proofs.Ythpceddjepbamaa
namespace Go.Proofs.Ythpceddjepbamaa
set_option linter.unusedVariables false
set_option linter.unusedSimpArgs false
set_option maxRecDepth 100000
open Go.RowKit
noncomputable def c42:Code:=Try.f42.body.getD .skip
inductive f42r1n0O where
 | ret
def f42r1n0E(a1:Qc)(a2:ByteArray):f42r1n0O→Ex×Tr×Hp
 | .ret=>(.ret,mkS [(3,(.pl (.bool (seq a1.Member a2))))],[some (.box ((cStr a2).map .pl))])
def f42r1n0S(a1:Qc)(a2:ByteArray):Tr×Hp:=(Qab [(jA Qc.cells a1),(.bp 0 0)] 0 .leaf,[some (.box ((cStr a2).map .pl))])
noncomputable def f42r1n0(a1:Qc)(a2:ByteArray):Option f42r1n0O :=
 some .ret
theorem f42r1n0_ok(a1:Qc)(a2:ByteArray){o:f42r1n0O}(h:f42r1n0 a1 a2=some o):T Try.prog Try.f42.ntmps 1 c42 (f42r1n0S a1 a2) (·=f42r1n0E a1 a2 o):=by
 unfold f42r1n0 at h;obtain rfl:=Qg h;exact rE Qh [j3,j3] [] [] [] [3] (.ret,(f42r1n0E a1 a2 .ret).2) an rfl
noncomputable def f42r1(a1:Qc)(a2:ByteArray):Option Unit:=(f42r1n0 a1 a2).bind fun o=>match o with
 | .ret=>some ()
theorem f42r1_ok(a1:Qc)(a2:ByteArray){r:Unit}(h:f42r1 a1 a2=some r):Qn Try.prog true 42 [(jA Qc.cells a1),(.bp 0 0)] [some (.box ((cStr a2).map .pl))] (.pl (.bool (seq a1.Member a2))) [some (.box ((cStr a2).map .pl))]:=by
 unfold f42r1 at h;obtain ⟨o,ho,h⟩:=Qe h;cases o with
 | ret =>
  obtain rfl:=Qg h;exact Qn.shared Qh (f:=Try.f42) (c:=c42) (by kernel_rfl) (by kernel_rfl) (by kernel_rfl) ((f42r1n0_ok a1 a2 ho).mono fun r e=>by subst e; exact ⟨.inl rfl,by kernel_rfl,by kernel_rfl⟩)

noncomputable def c40:Code:=Try.f40.body.getD .skip
inductive f40r1n2O where
 | exit0 (v59:Int)
def f40r1n2E(bh1:(List Qb)×Int)(bb2:ByteArray)(ba3:Qd):f40r1n2O→Ex×Tr×Hp
 | .exit0 v59=>((.exit 0),mkS [(7,(jI bh1.2)),(8,(jI v59))],[some (.box ((cStr bb2).map .pl))])
def f40r1n2S(bh1:(List Qb)×Int)(bb2:ByteArray)(ba3:Qd)(v41 v42:Int):Tr×Hp:=(mkS [(1,(.clo 42 [(.bp 0 0)])),(2,(.bp 1 0)),(7,(jI bh1.2)),(8,(jI v41)),(16,(jL 3 Qb.cells bh1.1)),(17,(jI (bh1.1.length:Int))),(18,(jI v42))],[some (.box ((cStr bb2).map .pl)),some (.box ((Qd.cells ba3).map .pl))])
noncomputable def f40r1n2:Nat→(List Qb)×Int→ByteArray→Qd→Int→Int→Option f40r1n2O
 | 0,_,_,_,_,_=>none
 | f+1,bh1,bb2,ba3,v41,v42 =>
  bif decide (v42<(bh1.1.length:Int)) then
   (at? bh1.1 v42).bind fun x52 =>
   (at? ba3.Bids x52.Bid).bind fun x54 =>
   (f42r1 x54 bb2).bind fun x56 =>
   bif (seq x54.Member bb2) then
    (f40r1n2 f bh1 bb2 ba3 (wr64 (v41+(wr64 (x52.Units*x52.Price)))) (wr64 (v42+1)))
   else
    (f40r1n2 f bh1 bb2 ba3 v41 (wr64 (v42+1)))
  else
   some (.exit0 v41)
theorem f40r1n2_ok:∀(f:Nat)(bh1:(List Qb)×Int)(bb2:ByteArray)(ba3:Qd)(v41 v42:Int){o:f40r1n2O},f40r1n2 f bh1 bb2 ba3 v41 v42=some o→TL Try.prog Try.f40.ntmps 1 f (cL (cL (Qk 1 (cL (Qk 3 c40))))) (f40r1n2S bh1 bb2 ba3 v41 v42) (·=f40r1n2E bh1 bb2 ba3 o)
 | 0,_,_,_,_,_,o,h=>by rw [f40r1n2] at h; cases h
 | f+1,bh1,bb2,ba3,v41,v42,o,h=>by
  rw [f40r1n2] at h;refine TL.body (K:=fun s=>∃v41:Int,∃v42:Int,s=(f40r1n2S bh1 bb2 ba3 v41 v42)∧f40r1n2 f bh1 bb2 ba3 v41 v42=some o) ?_ (by rintro _ ⟨v41,v42,rfl,hk⟩; exact f40r1n2_ok f _ _ _ _ _ hk);rcases Qi h with ⟨h44,h⟩|⟨h44,h⟩
  ·obtain ⟨x52,h53,h⟩:=Qe h;obtain ⟨x54,h55,h⟩:=Qe h;obtain ⟨x56,h57,h⟩:=Qe h;rcases Qi h with ⟨h58,h⟩|⟨h58,h⟩
   ·exact rE Qh [j3,([],[(0,.idx (Int.toNat v42) (Qb.cells x52))],[]),([],[(5,.idx (Int.toNat x52.Bid) (Qc.cells x54)),(7,.call (.pl (.bool (seq x54.Member bb2))) [some (.box ((cStr bb2).map .pl)),none,none])],[]),j3,j3] [some true,some true] [] [1] [1,2,7,8,16,17,18] (.norm,(f40r1n2S bh1 bb2 ba3 (wr64 (v41+(wr64 (x52.Units*x52.Price)))) (wr64 (v42+1)))) (ap h44 (ap (Qj h53).1 (ap (Qm Qb.cells (Qj h53).2) (ap (Qj h55).1 (ap (Qm Qc.cells (Qj h55).2) (ap (Qn.rn 3 [0] (f42r1_ok x54 bb2 h57)) (ap h58 an))))))) (Qs.norm ⟨(wr64 (v41+(wr64 (x52.Units*x52.Price)))),(wr64 (v42+1)),rfl,h⟩)
   ·exact rE Qh [j3,([],[(0,.idx (Int.toNat v42) (Qb.cells x52))],[]),([],[(5,.idx (Int.toNat x52.Bid) (Qc.cells x54)),(7,.call (.pl (.bool (seq x54.Member bb2))) [some (.box ((cStr bb2).map .pl)),none,none])],[]),j3] [some true,some false] [] [1] [1,2,7,8,16,17,18] (.norm,(f40r1n2S bh1 bb2 ba3 v41 (wr64 (v42+1)))) (ap h44 (ap (Qj h53).1 (ap (Qm Qb.cells (Qj h53).2) (ap (Qj h55).1 (ap (Qm Qc.cells (Qj h55).2) (ap (Qn.rn 3 [0] (f42r1_ok x54 bb2 h57)) (ap h58 an))))))) (Qs.norm ⟨v41,(wr64 (v42+1)),rfl,h⟩)
  ·obtain rfl:=Qg h;exact rK Qh 2 [j3] [some false] [] [] [7,8] (.exit 0) ((f40r1n2E bh1 bb2 ba3 (.exit0 v41)).2) (ap h44 an) (Qs.out rfl rfl)
noncomputable def f40r1n2L(bh1:(List Qb)×Int)(bb2:ByteArray)(ba3:Qd):List Qb→Int→Int→Option f40r1n2O
 | [],v41,v42 =>
  some (.exit0 v41)
 | x0::rest,v41,v42 =>
  (at? ba3.Bids x0.Bid).bind fun x54 =>
  (f42r1 x54 bb2).bind fun x56 =>
  bif (seq x54.Member bb2) then
   (f40r1n2L bh1 bb2 ba3 rest (wr64 (v41+(wr64 (x0.Units*x0.Price)))) (v42+1))
  else
   (f40r1n2L bh1 bb2 ba3 rest v41 (v42+1))
theorem f40r1n2L_eq(bh1:(List Qb)×Int)(bb2:ByteArray)(ba3:Qd):∀(rest:List Qb)(f k:Nat)(v41:Int),bh1.1.drop k=rest→bh1.1.length≤maxLen→rest.length<f→f40r1n2 f bh1 bb2 ba3 v41 (k:Int)=f40r1n2L bh1 bb2 ba3 rest v41 (k:Int)
 | _,0,_,_,_,_,hf=>absurd hf (Nat.not_lt_zero _)
 | [],f+1,k,v41,hd,hm,hf=>by
  have hk:¬((k:Int)<(bh1.1.length:Int)):=by have:=Qac hd; omega
  rw [f40r1n2,f40r1n2L];simp only [decide_eq_false hk,cond_false]
 | x0::rest,f+1,k,v41,hd,hm,hf=>by
  obtain ⟨hx,hlt,hd'⟩:=Qan hd;have hk:(k:Int)<(bh1.1.length:Int):=by omega
  have hw:wr64 ((k:Int)+1)=(k:Int)+1:=Qbp (by omega) (by unfold maxLen at hm; omega);have ih:∀(v41:Int),f40r1n2 f bh1 bb2 ba3 v41 ((k:Int)+1)=f40r1n2L bh1 bb2 ba3 rest v41 ((k:Int)+1):=fun v41=>f40r1n2L_eq bh1 bb2 ba3 rest f (k+1) v41 hd' hm (by simpa using hf);rw [f40r1n2,f40r1n2L];simp only [decide_eq_true hk,cond_true,Qaq,hx,Option.bind_some,hw,ih]
theorem f40r1n2_run(bh1:(List Qb)×Int)(bb2:ByteArray)(ba3:Qd)(v41:Int)(hm:bh1.1.length≤maxLen):f40r1n2 FUEL bh1 bb2 ba3 v41 0=f40r1n2L bh1 bb2 ba3 bh1.1 v41 0:=f40r1n2L_eq bh1 bb2 ba3 bh1.1 FUEL 0 v41 List.drop_zero hm (Qai hm)
inductive f40r1n1O where
 | norm (v63:Int)
def f40r1n1E(bh1:(List Qb)×Int)(bb2:ByteArray)(ba3:Qd):f40r1n1O→Ex×Tr×Hp
 | .norm v63=>(.norm,mkS [(7,(jI bh1.2)),(8,(jI v63))],[some (.box ((cStr bb2).map .pl))])
def f40r1n1S(bh1:(List Qb)×Int)(bb2:ByteArray)(ba3:Qd):Tr×Hp:=(mkS [(1,(.clo 42 [(.bp 0 0)])),(2,(.bp 1 0)),(6,(jL 3 Qb.cells bh1.1)),(7,(jI bh1.2)),(8,(jI 0))],[some (.box ((cStr bb2).map .pl)),some (.box ((Qd.cells ba3).map .pl))])
noncomputable def f40r1n1(bh1:(List Qb)×Int)(bb2:ByteArray)(ba3:Qd):Option f40r1n1O :=
 (f40r1n2 FUEL bh1 bb2 ba3 0 0).bind fun o60=>match o60 with
 | .exit0 v62=>some (.norm v62)
theorem f40r1n1_ok(bh1:(List Qb)×Int)(bb2:ByteArray)(ba3:Qd){o:f40r1n1O}(h:f40r1n1 bh1 bb2 ba3=some o):T Try.prog Try.f40.ntmps 1 (cL (Qk 3 c40)) (f40r1n1S bh1 bb2 ba3) (·=f40r1n1E bh1 bb2 ba3 o):=by
 unfold f40r1n1 at h;refine rN Qh 1 [([],[],[(1,.val (jI (bh1.1.length:Int)))])] [] [] [1] [1,2,7,8,16,17,18] (f40r1n2S bh1 bb2 ba3 0 0) (ap (Qr (xs:=bh1.1) (c:=Qb.cells)) an) ?_;obtain ⟨o60,h61,h⟩:=Qe h;cases o60 with
 | exit0 v62 =>
  obtain rfl:=Qg h;exact T.last' (T.bl (i:=0) (by kernel_rfl) (by kernel_rfl) (f40r1n2_ok FUEL bh1 bb2 ba3 0 0 h61)) (tds:=[]) (m:=[]) (keep:=[7,8]) (st2:=(f40r1n1E bh1 bb2 ba3 (.norm v62)).2) (by kernel_rfl) an rfl
inductive f40r1n0O where
 | ret (v67:Int) (v68:Int)
def f40r1n0E(a1:Qd)(a2:ByteArray):f40r1n0O→Ex×Tr×Hp
 | .ret v67 v68=>(.ret,mkS [(4,(jI v67)),(5,(jI v68))],[some (.box ((cStr a2).map .pl))])
def f40r1n0S(a1:Qd)(a2:ByteArray):Tr×Hp:=(Qab [(jA Qd.cells a1),(.clo 42 [(.bp 0 0)])] 0 .leaf,[some (.box ((cStr a2).map .pl))])
noncomputable def f40r1n0(a1:Qd)(a2:ByteArray):Option f40r1n0O :=
 (f12 a1).bind fun x5 =>
 (f40r1n1 x5 a2 a1).bind fun o64=>match o64 with
 | .norm v66=>some (.ret v66 x5.2)
theorem f40r1n0_ok(a1:Qd)(a2:ByteArray){o:f40r1n0O}(h:f40r1n0 a1 a2=some o):T Try.prog Try.f40.ntmps 1 c40 (f40r1n0S a1 a2) (·=f40r1n0E a1 a2 o):=by
 unfold f40r1n0 at h;obtain ⟨x5,h6,h⟩:=Qe h;refine rN Qh 3 [j3,([],[jH 1 (.tup [(jL 3 Qb.cells x5.1),(jI x5.2)])],[]),j3] [] [] [1] [1,2,6,7,8] (f40r1n1S x5 a2 a1) (ap (f12_ok a1 h6) an) ?_;obtain ⟨o64,h65,h⟩:=Qe h;cases o64 with
 | norm v66 =>
  refine T.oneN (by kernel_rfl) (f40r1n1_ok x5 a2 a1 h65) (st2:=(f40r1n1E x5 a2 a1 (.norm v66)).2) rfl ?_;obtain rfl:=Qg h;exact rE Qh [j3] [] [] [] [4,5] (.ret,(f40r1n0E a1 a2 (.ret v66 x5.2)).2) an rfl
noncomputable def f40r1(a1:Qd)(a2:ByteArray):Option (Int×Int):=(f40r1n0 a1 a2).bind fun o=>match o with
 | .ret v67 v68=>some (v67,v68)
theorem f40r1_ok(a1:Qd)(a2:ByteArray){r:Int×Int}(h:f40r1 a1 a2=some r):Qn Try.prog true 40 [(jA Qd.cells a1),(.clo 42 [(.bp 0 0)])] [some (.box ((cStr a2).map .pl))] (.tup [(jI r.1),(jI r.2)]) [some (.box ((cStr a2).map .pl))]:=by
 unfold f40r1 at h;obtain ⟨o,ho,h⟩:=Qe h;cases o with
 | ret v67 v68 =>
  obtain rfl:=Qg h;exact Qn.shared Qh (f:=Try.f40) (c:=c40) (by kernel_rfl) (by kernel_rfl) (by kernel_rfl) ((f40r1n0_ok a1 a2 ho).mono fun r e=>by subst e; exact ⟨.inl rfl,by kernel_rfl,by kernel_rfl⟩)

noncomputable def c16:Code:=Try.f16.body.getD .skip
inductive f16n0O where
 | ret (v7:Int) (v8:Int)
def f16n0E(a1:Qd)(a2:ByteArray):f16n0O→Ex×Tr×Hp
 | .ret v7 v8=>(.ret,mkS [(4,(jI v7)),(5,(jI v8))],[])
def f16n0S(a1:Qd)(a2:ByteArray):Tr×Hp:=(Qab [(jA Qd.cells a1),(jS a2)] 0 .leaf,[])
noncomputable def f16n0(a1:Qd)(a2:ByteArray):Option f16n0O :=
 (f40r1 a1 a2).bind fun x5 =>
 some (.ret x5.1 x5.2)
theorem f16n0_ok(a1:Qd)(a2:ByteArray){o:f16n0O}(h:f16n0 a1 a2=some o):T Try.prog Try.f16.ntmps 0 c16 (f16n0S a1 a2) (·=f16n0E a1 a2 o):=by
 unfold f16n0 at h;obtain ⟨x5,h6,h⟩:=Qe h;obtain rfl:=Qg h;exact rE Qh [j3,([],[(2,.call (.tup [(jI x5.1),(jI x5.2)]) [none,some (.box ((cStr a2).map .pl))])],[])] [] [] [] [4,5] (.ret,(f16n0E a1 a2 (.ret x5.1 x5.2)).2) (ap (Qn.rn 2 [1] (f40r1_ok a1 a2 h6)) an) rfl
noncomputable def f16(a1:Qd)(a2:ByteArray):Option (Int×Int):=(f16n0 a1 a2).bind fun o=>match o with
 | .ret v7 v8=>some (v7,v8)
theorem f16_ok(a1:Qd)(a2:ByteArray){r:Int×Int}(h:f16 a1 a2=some r):Qn Try.prog false 16 [(jA Qd.cells a1),(jS a2)] [] (.tup [(jI r.1),(jI r.2)]) []:=by
 unfold f16 at h;obtain ⟨o,ho,h⟩:=Qe h;cases o with
 | ret v7 v8 =>
  obtain rfl:=Qg h;exact Qn.plain Qh (f:=Try.f16) (c:=c16) (by kernel_rfl) (by kernel_rfl) (by kernel_rfl) (by kernel_rfl) ((f16n0_ok a1 a2 ho).mono fun r e=>by subst e; exact ⟨.inl rfl,(.tup [(jI v7),(jI v8)]),(.tup [(jI v7),(jI v8)]),by kernel_rfl,by kernel_rfl,((Wk.refl _):Wk (.tup [(jI v7),(jI v8)]) (.tup [(jI v7),(jI v8)]))⟩)

noncomputable def c34:Code:=Try.f34.body.getD .skip
inductive f34n0O where
 | ret (v9:Int)
def f34n0E(a1:Qd)(a2:ByteArray):f34n0O→Ex×Tr×Hp
 | .ret v9=>(.ret,mkS [(4,(jI v9))],[])
def f34n0S(a1:Qd)(a2:ByteArray):Tr×Hp:=(Qab [(jA Qd.cells a1),(jS a2)] 0 .leaf,[])
noncomputable def f34n0(a1:Qd)(a2:ByteArray):Option f34n0O :=
 (f16 a1 a2).bind fun x5 =>
 bif decide (x5.2=0) then
  some (.ret x5.1)
 else
  some (.ret (-1))
theorem f34n0_ok(a1:Qd)(a2:ByteArray){o:f34n0O}(h:f34n0 a1 a2=some o):T Try.prog Try.f34.ntmps 0 c34 (f34n0S a1 a2) (·=f34n0E a1 a2 o):=by
 unfold f34n0 at h;obtain ⟨x5,h6,h⟩:=Qe h;rcases Qi h with ⟨h8,h⟩|⟨h8,h⟩
 ·obtain rfl:=Qg h;exact rE Qh [j3,([],[jH 2 (.tup [(jI x5.1),(jI x5.2)])],[]),j3,j3] [some false] [] [] [4] (.ret,(f34n0E a1 a2 (.ret x5.1)).2) (ap (f16_ok a1 a2 h6) (ap (Qt h8) an)) rfl
 ·obtain rfl:=Qg h;exact rK Qh 3 [j3,([],[jH 2 (.tup [(jI x5.1),(jI x5.2)])],[]),j3,j3] [some true] [] [] [4] .ret ((f34n0E a1 a2 (.ret (-1))).2) (ap (f16_ok a1 a2 h6) (ap (Qad h8) an)) rfl
noncomputable def f34(a1:Qd)(a2:ByteArray):Option Int:=(f34n0 a1 a2).bind fun o=>match o with
 | .ret v9=>some v9
theorem Qbs(a1:Qd)(a2:ByteArray){r:Int}(h:f34 a1 a2=some r):Qn Try.prog false 34 [(jA Qd.cells a1),(jS a2)] [] (jI r) []:=by
 unfold f34 at h;obtain ⟨o,ho,h⟩:=Qe h;cases o with
 | ret v9 =>
  obtain rfl:=Qg h;exact Qn.plain Qh (f:=Try.f34) (c:=c34) (by kernel_rfl) (by kernel_rfl) (by kernel_rfl) (by kernel_rfl) ((f34n0_ok a1 a2 ho).mono fun r e=>by subst e; exact ⟨.inl rfl,(jI v9),(jI v9),by kernel_rfl,by kernel_rfl,((Wk.refl _):Wk (jI v9) (jI v9))⟩)

inductive f33r2n0O where
 | ret
def f33r2n0E(a1 a2:Int):f33r2n0O→Ex×Tr×Hp
 | .ret=>(.ret,mkS [(6,(.bp 0 0))],[some (.box [(.pl (.int .u8 a1)),(.own 1),(.own 2)]),some (.row false 3 ([(Qa.mk Ql 10 5)].map Qa.cells)),some (.row false 4 ([(Qc.mk Qz Ql 6 9),(Qc.mk Qae Ql a2 7),(Qc.mk Qam Ql 9 4)].map Qc.cells))])
def f33r2n0S(a1 a2:Int):Tr×Hp:=(Qab [(.pl (.int .u8 a1)),(jI a2),(jB false)] 0 .leaf,[])
noncomputable def f33r2n0(a1 a2:Int):Option f33r2n0O :=
 some .ret
theorem f33r2n0_ok(a1 a2:Int){o:f33r2n0O}(h:f33r2n0 a1 a2=some o):T Try.prog Try.f33.ntmps 0 c33 (f33r2n0S a1 a2) (·=f33r2n0E a1 a2 o):=by
 unfold f33r2n0 at h;obtain rfl:=Qg h;exact rE Qh [j3,j3,j3,j3] [none] [] [0,1,2] [6] (.ret,(f33r2n0E a1 a2 .ret).2) an rfl
noncomputable def f33r2(a1 a2:Int):Option Unit:=(f33r2n0 a1 a2).bind fun o=>match o with
 | .ret=>some ()
theorem f33r2_ok(a1 a2:Int){r:Unit}(h:f33r2 a1 a2=some r):Qn Try.prog true 33 [(.pl (.int .u8 a1)),(jI a2),(jB false)] [] (.agg [(.pl (.int .u8 a1)),(.own 1),(.own 2)]) [some (.box [(.pl (.int .u8 a1)),(.own 1),(.own 2)]),some (.row false 3 ([(Qa.mk Ql 10 5)].map Qa.cells)),some (.row false 4 ([(Qc.mk Qz Ql 6 9),(Qc.mk Qae Ql a2 7),(Qc.mk Qam Ql 9 4)].map Qc.cells))]:=by
 unfold f33r2 at h;obtain ⟨o,ho,h⟩:=Qe h;cases o with
 | ret =>
  obtain rfl:=Qg h;exact Qn.shared Qh (f:=Try.f33) (c:=c33) (by kernel_rfl) (by kernel_rfl) (by kernel_rfl) ((f33r2n0_ok a1 a2 ho).mono fun r e=>by subst e; exact ⟨.inl rfl,by kernel_rfl,by kernel_rfl⟩)

noncomputable def c10:Code:=Try.f10.body.getD .skip
inductive f10n1O where
 | norm (v43:Bool)
def f10n1E:f10n1O→Ex×Tr×Hp
 | .norm v43=>(.norm,mkS [(1,(jB v43))],[])
def f10n1S:Tr×Hp:=(mkS [],[])
noncomputable def f10n1:Option f10n1O :=
 (f33r1 0 6).bind fun x29 =>
 (f34 (Qd.mk 0 [(Qa.mk Ql 10 5)] [(Qc.mk Qz Ql 6 9),(Qc.mk Qae Ql 6 7),(Qc.mk Qam Ql 9 4),(Qc.mk Qat Ql 3 7)]) Qz).bind fun x31 =>
 bif decide (x31=54) then
  (f33r1 0 6).bind fun x34 =>
  (f34 (Qd.mk 0 [(Qa.mk Ql 10 5)] [(Qc.mk Qz Ql 6 9),(Qc.mk Qae Ql 6 7),(Qc.mk Qam Ql 9 4),(Qc.mk Qat Ql 3 7)]) Qae).bind fun x36 =>
  bif decide (x36=28) then
   (f33r1 0 6).bind fun x39 =>
   (f34 (Qd.mk 0 [(Qa.mk Ql 10 5)] [(Qc.mk Qz Ql 6 9),(Qc.mk Qae Ql 6 7),(Qc.mk Qam Ql 9 4),(Qc.mk Qat Ql 3 7)]) Qat).bind fun x41 =>
   some (.norm (decide (x41=0)))
  else
   some (.norm false)
 else
  some (.norm false)
theorem f10n1_ok{o:f10n1O}(h:f10n1=some o):T Try.prog Try.f10.ntmps 0 (cL (Qk 1 c10)) f10n1S (·=f10n1E o):=by
 unfold f10n1 at h;obtain ⟨x29,h30,h⟩:=Qe h;obtain ⟨x31,h32,h⟩:=Qe h;rcases Qi h with ⟨h33,h⟩|⟨h33,h⟩
 ·obtain ⟨x34,h35,h⟩:=Qe h;obtain ⟨x36,h37,h⟩:=Qe h;rcases Qi h with ⟨h38,h⟩|⟨h38,h⟩
  ·obtain ⟨x39,h40,h⟩:=Qe h;obtain ⟨x41,h42,h⟩:=Qe h;obtain rfl:=Qg h
   exact rE Qh [(jT [4,5,6,9,10,11],[(0,.call (.agg [(.pl (.int .u8 0)),(.own 1),(.own 2)]) [some (.box [(.pl (.int .u8 0)),(.own 1),(.own 2)]),some (.row false 3 ([(Qa.mk Ql 10 5)].map Qa.cells)),some (.row false 4 ([(Qc.mk Qz Ql 6 9),(Qc.mk Qae Ql 6 7),(Qc.mk Qam Ql 9 4),(Qc.mk Qat Ql 3 7)].map Qc.cells))]),jH 1 (jI x31),(4,.call (.agg [(.pl (.int .u8 0)),(.own 4),(.own 5)]) (jN 3 [some (.box [(.pl (.int .u8 0)),(.own 4),(.own 5)]),some (.row false 3 ([(Qa.mk Ql 10 5)].map Qa.cells)),some (.row false 4 ([(Qc.mk Qz Ql 6 9),(Qc.mk Qae Ql 6 7),(Qc.mk Qam Ql 9 4),(Qc.mk Qat Ql 3 7)].map Qc.cells))])),jH 5 (jI x36),(7,.bool true),(9,.call (.agg [(.pl (.int .u8 0)),(.own 7),(.own 8)]) (jN 6 [some (.box [(.pl (.int .u8 0)),(.own 7),(.own 8)]),some (.row false 3 ([(Qa.mk Ql 10 5)].map Qa.cells)),some (.row false 4 ([(Qc.mk Qz Ql 6 9),(Qc.mk Qae Ql 6 7),(Qc.mk Qam Ql 9 4),(Qc.mk Qat Ql 3 7)].map Qc.cells))])),jH 10 (jI x41),(12,.bool true)],[])] [] [] [] [1] (.norm,(f10n1E (.norm (decide (x41=0)))).2) (ap4 h33 (ap4 h38 (ap (Qas 0 6 h30) (ap (Qbs (Qd.mk 0 [(Qa.mk Ql 10 5)] [(Qc.mk Qz Ql 6 9),(Qc.mk Qae Ql 6 7),(Qc.mk Qam Ql 9 4),(Qc.mk Qat Ql 3 7)]) Qz h32) (ap (Qn.rn 3 [] (Qas 0 6 h35)) (ap (Qbs (Qd.mk 0 [(Qa.mk Ql 10 5)] [(Qc.mk Qz Ql 6 9),(Qc.mk Qae Ql 6 7),(Qc.mk Qam Ql 9 4),(Qc.mk Qat Ql 3 7)]) Qae h37) (ap (Qn.rn 6 [] (Qas 0 6 h40)) (ap (Qbs (Qd.mk 0 [(Qa.mk Ql 10 5)] [(Qc.mk Qz Ql 6 9),(Qc.mk Qae Ql 6 7),(Qc.mk Qam Ql 9 4),(Qc.mk Qat Ql 3 7)]) Qat h42) an)))))))) rfl
  ·obtain rfl:=Qg h
   exact rE Qh [(jF [9,10,11]++jT [4,5,6],[(0,.call (.agg [(.pl (.int .u8 0)),(.own 1),(.own 2)]) [some (.box [(.pl (.int .u8 0)),(.own 1),(.own 2)]),some (.row false 3 ([(Qa.mk Ql 10 5)].map Qa.cells)),some (.row false 4 ([(Qc.mk Qz Ql 6 9),(Qc.mk Qae Ql 6 7),(Qc.mk Qam Ql 9 4),(Qc.mk Qat Ql 3 7)].map Qc.cells))]),jH 1 (jI x31),(4,.call (.agg [(.pl (.int .u8 0)),(.own 4),(.own 5)]) (jN 3 [some (.box [(.pl (.int .u8 0)),(.own 4),(.own 5)]),some (.row false 3 ([(Qa.mk Ql 10 5)].map Qa.cells)),some (.row false 4 ([(Qc.mk Qz Ql 6 9),(Qc.mk Qae Ql 6 7),(Qc.mk Qam Ql 9 4),(Qc.mk Qat Ql 3 7)].map Qc.cells))])),jH 5 (jI x36),(7,.bool true),(12,.bool false)],[])] [] [] [] [1] (.norm,(f10n1E (.norm false)).2) (ap4 h33 (ap4 h38 (ap (Qas 0 6 h30) (ap (Qbs (Qd.mk 0 [(Qa.mk Ql 10 5)] [(Qc.mk Qz Ql 6 9),(Qc.mk Qae Ql 6 7),(Qc.mk Qam Ql 9 4),(Qc.mk Qat Ql 3 7)]) Qz h32) (ap (Qn.rn 3 [] (Qas 0 6 h35)) (ap (Qbs (Qd.mk 0 [(Qa.mk Ql 10 5)] [(Qc.mk Qz Ql 6 9),(Qc.mk Qae Ql 6 7),(Qc.mk Qam Ql 9 4),(Qc.mk Qat Ql 3 7)]) Qae h37) an)))))) rfl
 ·obtain rfl:=Qg h;exact rE Qh [(jF [4,5,6],[(0,.call (.agg [(.pl (.int .u8 0)),(.own 1),(.own 2)]) [some (.box [(.pl (.int .u8 0)),(.own 1),(.own 2)]),some (.row false 3 ([(Qa.mk Ql 10 5)].map Qa.cells)),some (.row false 4 ([(Qc.mk Qz Ql 6 9),(Qc.mk Qae Ql 6 7),(Qc.mk Qam Ql 9 4),(Qc.mk Qat Ql 3 7)].map Qc.cells))]),jH 1 (jI x31),(7,.bool false)],[])] [] [] [] [1] (.norm,(f10n1E (.norm false)).2) (ap4 h33 (ap (Qas 0 6 h30) (ap (Qbs (Qd.mk 0 [(Qa.mk Ql 10 5)] [(Qc.mk Qz Ql 6 9),(Qc.mk Qae Ql 6 7),(Qc.mk Qam Ql 9 4),(Qc.mk Qat Ql 3 7)]) Qz h32) an))) rfl
inductive f10n2O where
 | norm (v74:Bool)
def f10n2E(bi1:Bool):f10n2O→Ex×Tr×Hp
 | .norm v74=>(.norm,mkS [(1,(jB bi1)),(2,(jB v74))],[])
def f10n2S(bi1:Bool):Tr×Hp:=(mkS [(1,(jB bi1))],[])
noncomputable def f10n2(bi1:Bool):Option f10n2O :=
 (f33r1 1 6).bind fun x65 =>
 (f34 (Qd.mk 1 [(Qa.mk Ql 10 5)] [(Qc.mk Qz Ql 6 9),(Qc.mk Qae Ql 6 7),(Qc.mk Qam Ql 9 4),(Qc.mk Qat Ql 3 7)]) Qz).bind fun x67 =>
 bif decide (x67=42) then
  (f33r1 1 6).bind fun x70 =>
  (f34 (Qd.mk 1 [(Qa.mk Ql 10 5)] [(Qc.mk Qz Ql 6 9),(Qc.mk Qae Ql 6 7),(Qc.mk Qam Ql 9 4),(Qc.mk Qat Ql 3 7)]) Qae).bind fun x72 =>
  some (.norm (decide (x72=28)))
 else
  some (.norm false)
theorem f10n2_ok(bi1:Bool){o:f10n2O}(h:f10n2 bi1=some o):T Try.prog Try.f10.ntmps 0 (cL (Qk 0 (Qk 1 (Qk 1 c10)))) (f10n2S bi1) (·=f10n2E bi1 o):=by
 unfold f10n2 at h;obtain ⟨x65,h66,h⟩:=Qe h;obtain ⟨x67,h68,h⟩:=Qe h;rcases Qi h with ⟨h69,h⟩|⟨h69,h⟩
 ·obtain ⟨x70,h71,h⟩:=Qe h;obtain ⟨x72,h73,h⟩:=Qe h;obtain rfl:=Qg h
  exact rE Qh [(jT [4,5,6],[(0,.call (.agg [(.pl (.int .u8 1)),(.own 1),(.own 2)]) [some (.box [(.pl (.int .u8 1)),(.own 1),(.own 2)]),some (.row false 3 ([(Qa.mk Ql 10 5)].map Qa.cells)),some (.row false 4 ([(Qc.mk Qz Ql 6 9),(Qc.mk Qae Ql 6 7),(Qc.mk Qam Ql 9 4),(Qc.mk Qat Ql 3 7)].map Qc.cells))]),jH 1 (jI x67),(4,.call (.agg [(.pl (.int .u8 1)),(.own 4),(.own 5)]) (jN 3 [some (.box [(.pl (.int .u8 1)),(.own 4),(.own 5)]),some (.row false 3 ([(Qa.mk Ql 10 5)].map Qa.cells)),some (.row false 4 ([(Qc.mk Qz Ql 6 9),(Qc.mk Qae Ql 6 7),(Qc.mk Qam Ql 9 4),(Qc.mk Qat Ql 3 7)].map Qc.cells))])),jH 5 (jI x72),(7,.bool true)],[])] [] [] [] [1,2] (.norm,(f10n2E bi1 (.norm (decide (x72=28)))).2) (ap4 h69 (ap (Qas 1 6 h66) (ap (Qbs (Qd.mk 1 [(Qa.mk Ql 10 5)] [(Qc.mk Qz Ql 6 9),(Qc.mk Qae Ql 6 7),(Qc.mk Qam Ql 9 4),(Qc.mk Qat Ql 3 7)]) Qz h68) (ap (Qn.rn 3 [] (Qas 1 6 h71)) (ap (Qbs (Qd.mk 1 [(Qa.mk Ql 10 5)] [(Qc.mk Qz Ql 6 9),(Qc.mk Qae Ql 6 7),(Qc.mk Qam Ql 9 4),(Qc.mk Qat Ql 3 7)]) Qae h73) an))))) rfl
 ·obtain rfl:=Qg h;exact rE Qh [(jF [4,5,6],[(0,.call (.agg [(.pl (.int .u8 1)),(.own 1),(.own 2)]) [some (.box [(.pl (.int .u8 1)),(.own 1),(.own 2)]),some (.row false 3 ([(Qa.mk Ql 10 5)].map Qa.cells)),some (.row false 4 ([(Qc.mk Qz Ql 6 9),(Qc.mk Qae Ql 6 7),(Qc.mk Qam Ql 9 4),(Qc.mk Qat Ql 3 7)].map Qc.cells))]),jH 1 (jI x67),(7,.bool false)],[])] [] [] [] [1,2] (.norm,(f10n2E bi1 (.norm false)).2) (ap4 h69 (ap (Qas 1 6 h66) (ap (Qbs (Qd.mk 1 [(Qa.mk Ql 10 5)] [(Qc.mk Qz Ql 6 9),(Qc.mk Qae Ql 6 7),(Qc.mk Qam Ql 9 4),(Qc.mk Qat Ql 3 7)]) Qz h68) an))) rfl
inductive f10n3O where
 | norm (v150:Bool)
def f10n3E(bi1 bi2:Bool):f10n3O→Ex×Tr×Hp
 | .norm v150=>(.norm,mkS [(1,(jB bi1)),(2,(jB bi2)),(3,(jB v150))],[])
def f10n3S(bi1 bi2:Bool):Tr×Hp:=(mkS [(1,(jB bi1)),(2,(jB bi2))],[])
noncomputable def f10n3(bi1 bi2:Bool):Option f10n3O :=
 (f33r1 2 6).bind fun x126 =>
 (f34 (Qd.mk 2 [(Qa.mk Ql 10 5)] [(Qc.mk Qz Ql 6 9),(Qc.mk Qae Ql 6 7),(Qc.mk Qam Ql 9 4),(Qc.mk Qat Ql 3 7)]) Qz).bind fun x128 =>
 bif decide (x128=42) then
  (f33r1 2 6).bind fun x131 =>
  (f34 (Qd.mk 2 [(Qa.mk Ql 10 5)] [(Qc.mk Qz Ql 6 9),(Qc.mk Qae Ql 6 7),(Qc.mk Qam Ql 9 4),(Qc.mk Qat Ql 3 7)]) Qae).bind fun x133 =>
  bif decide (x133=28) then
   (f33r1 2 4).bind fun x136 =>
   (f34 (Qd.mk 2 [(Qa.mk Ql 10 5)] [(Qc.mk Qz Ql 6 9),(Qc.mk Qae Ql 4 7),(Qc.mk Qam Ql 9 4),(Qc.mk Qat Ql 3 7)]) Qz).bind fun x138 =>
   bif decide (x138=42) then
    (f33r2 2 4).bind fun x141 =>
    (f34 (Qd.mk 2 [(Qa.mk Ql 10 5)] [(Qc.mk Qz Ql 6 9),(Qc.mk Qae Ql 4 7),(Qc.mk Qam Ql 9 4)]) Qz).bind fun x143 =>
    bif decide (x143=30) then
     (f33r2 2 4).bind fun x146 =>
     (f34 (Qd.mk 2 [(Qa.mk Ql 10 5)] [(Qc.mk Qz Ql 6 9),(Qc.mk Qae Ql 4 7),(Qc.mk Qam Ql 9 4)]) Qae).bind fun x148 =>
     some (.norm (decide (x148=20)))
    else
     some (.norm false)
   else
    some (.norm false)
  else
   some (.norm false)
 else
  some (.norm false)
theorem f10n3_ok(bi1 bi2:Bool){o:f10n3O}(h:f10n3 bi1 bi2=some o):T Try.prog Try.f10.ntmps 0 (cL (Qk 0 (Qk 1 (Qk 0 (Qk 1 (Qk 1 c10)))))) (f10n3S bi1 bi2) (·=f10n3E bi1 bi2 o):=by
 unfold f10n3 at h;obtain ⟨x126,h127,h⟩:=Qe h;obtain ⟨x128,h129,h⟩:=Qe h;rcases Qi h with ⟨h130,h⟩|⟨h130,h⟩
 ·obtain ⟨x131,h132,h⟩:=Qe h;obtain ⟨x133,h134,h⟩:=Qe h;rcases Qi h with ⟨h135,h⟩|⟨h135,h⟩
  ·obtain ⟨x136,h137,h⟩:=Qe h;obtain ⟨x138,h139,h⟩:=Qe h;rcases Qi h with ⟨h140,h⟩|⟨h140,h⟩
   ·obtain ⟨x141,h142,h⟩:=Qe h;obtain ⟨x143,h144,h⟩:=Qe h;rcases Qi h with ⟨h145,h⟩|⟨h145,h⟩
    ·obtain ⟨x146,h147,h⟩:=Qe h;obtain ⟨x148,h149,h⟩:=Qe h;obtain rfl:=Qg h
     exact rE Qh [(jT [4,5,6,9,10,11,14,15,16,19,20,21],[(0,.call (.agg [(.pl (.int .u8 2)),(.own 1),(.own 2)]) [some (.box [(.pl (.int .u8 2)),(.own 1),(.own 2)]),some (.row false 3 ([(Qa.mk Ql 10 5)].map Qa.cells)),some (.row false 4 ([(Qc.mk Qz Ql 6 9),(Qc.mk Qae Ql 6 7),(Qc.mk Qam Ql 9 4),(Qc.mk Qat Ql 3 7)].map Qc.cells))]),jH 1 (jI x128),(4,.call (.agg [(.pl (.int .u8 2)),(.own 4),(.own 5)]) (jN 3 [some (.box [(.pl (.int .u8 2)),(.own 4),(.own 5)]),some (.row false 3 ([(Qa.mk Ql 10 5)].map Qa.cells)),some (.row false 4 ([(Qc.mk Qz Ql 6 9),(Qc.mk Qae Ql 6 7),(Qc.mk Qam Ql 9 4),(Qc.mk Qat Ql 3 7)].map Qc.cells))])),jH 5 (jI x133),(7,.bool true),(9,.call (.agg [(.pl (.int .u8 2)),(.own 7),(.own 8)]) (jN 6 [some (.box [(.pl (.int .u8 2)),(.own 7),(.own 8)]),some (.row false 3 ([(Qa.mk Ql 10 5)].map Qa.cells)),some (.row false 4 ([(Qc.mk Qz Ql 6 9),(Qc.mk Qae Ql 4 7),(Qc.mk Qam Ql 9 4),(Qc.mk Qat Ql 3 7)].map Qc.cells))])),jH 10 (jI x138),(12,.bool true),(14,.call (.agg [(.pl (.int .u8 2)),(.own 10),(.own 11)]) (jN 9 [some (.box [(.pl (.int .u8 2)),(.own 10),(.own 11)]),some (.row false 3 ([(Qa.mk Ql 10 5)].map Qa.cells)),some (.row false 4 ([(Qc.mk Qz Ql 6 9),(Qc.mk Qae Ql 4 7),(Qc.mk Qam Ql 9 4)].map Qc.cells))])),jH 15 (jI x143),(17,.bool true),(19,.call (.agg [(.pl (.int .u8 2)),(.own 13),(.own 14)]) (jN 12 [some (.box [(.pl (.int .u8 2)),(.own 13),(.own 14)]),some (.row false 3 ([(Qa.mk Ql 10 5)].map Qa.cells)),some (.row false 4 ([(Qc.mk Qz Ql 6 9),(Qc.mk Qae Ql 4 7),(Qc.mk Qam Ql 9 4)].map Qc.cells))])),jH 20 (jI x148),(22,.bool true)],[])] [] [] [] [1,2,3] (.norm,(f10n3E bi1 bi2 (.norm (decide (x148=20)))).2) (ap4 h130 (ap4 h135 (ap4 h140 (ap4 h145 (ap (Qas 2 6 h127) (ap (Qbs (Qd.mk 2 [(Qa.mk Ql 10 5)] [(Qc.mk Qz Ql 6 9),(Qc.mk Qae Ql 6 7),(Qc.mk Qam Ql 9 4),(Qc.mk Qat Ql 3 7)]) Qz h129) (ap (Qn.rn 3 [] (Qas 2 6 h132)) (ap (Qbs (Qd.mk 2 [(Qa.mk Ql 10 5)] [(Qc.mk Qz Ql 6 9),(Qc.mk Qae Ql 6 7),(Qc.mk Qam Ql 9 4),(Qc.mk Qat Ql 3 7)]) Qae h134) (ap (Qn.rn 6 [] (Qas 2 4 h137)) (ap (Qbs (Qd.mk 2 [(Qa.mk Ql 10 5)] [(Qc.mk Qz Ql 6 9),(Qc.mk Qae Ql 4 7),(Qc.mk Qam Ql 9 4),(Qc.mk Qat Ql 3 7)]) Qz h139) (ap (Qn.rn 9 [] (f33r2_ok 2 4 h142)) (ap (Qbs (Qd.mk 2 [(Qa.mk Ql 10 5)] [(Qc.mk Qz Ql 6 9),(Qc.mk Qae Ql 4 7),(Qc.mk Qam Ql 9 4)]) Qz h144) (ap (Qn.rn 12 [] (f33r2_ok 2 4 h147)) (ap (Qbs (Qd.mk 2 [(Qa.mk Ql 10 5)] [(Qc.mk Qz Ql 6 9),(Qc.mk Qae Ql 4 7),(Qc.mk Qam Ql 9 4)]) Qae h149) an)))))))))))))) rfl
    ·obtain rfl:=Qg h
     exact rE Qh [(jF [19,20,21]++jT [4,5,6,9,10,11,14,15,16],[(0,.call (.agg [(.pl (.int .u8 2)),(.own 1),(.own 2)]) [some (.box [(.pl (.int .u8 2)),(.own 1),(.own 2)]),some (.row false 3 ([(Qa.mk Ql 10 5)].map Qa.cells)),some (.row false 4 ([(Qc.mk Qz Ql 6 9),(Qc.mk Qae Ql 6 7),(Qc.mk Qam Ql 9 4),(Qc.mk Qat Ql 3 7)].map Qc.cells))]),jH 1 (jI x128),(4,.call (.agg [(.pl (.int .u8 2)),(.own 4),(.own 5)]) (jN 3 [some (.box [(.pl (.int .u8 2)),(.own 4),(.own 5)]),some (.row false 3 ([(Qa.mk Ql 10 5)].map Qa.cells)),some (.row false 4 ([(Qc.mk Qz Ql 6 9),(Qc.mk Qae Ql 6 7),(Qc.mk Qam Ql 9 4),(Qc.mk Qat Ql 3 7)].map Qc.cells))])),jH 5 (jI x133),(7,.bool true),(9,.call (.agg [(.pl (.int .u8 2)),(.own 7),(.own 8)]) (jN 6 [some (.box [(.pl (.int .u8 2)),(.own 7),(.own 8)]),some (.row false 3 ([(Qa.mk Ql 10 5)].map Qa.cells)),some (.row false 4 ([(Qc.mk Qz Ql 6 9),(Qc.mk Qae Ql 4 7),(Qc.mk Qam Ql 9 4),(Qc.mk Qat Ql 3 7)].map Qc.cells))])),jH 10 (jI x138),(12,.bool true),(14,.call (.agg [(.pl (.int .u8 2)),(.own 10),(.own 11)]) (jN 9 [some (.box [(.pl (.int .u8 2)),(.own 10),(.own 11)]),some (.row false 3 ([(Qa.mk Ql 10 5)].map Qa.cells)),some (.row false 4 ([(Qc.mk Qz Ql 6 9),(Qc.mk Qae Ql 4 7),(Qc.mk Qam Ql 9 4)].map Qc.cells))])),jH 15 (jI x143),(17,.bool true),(22,.bool false)],[])] [] [] [] [1,2,3] (.norm,(f10n3E bi1 bi2 (.norm false)).2) (ap4 h130 (ap4 h135 (ap4 h140 (ap4 h145 (ap (Qas 2 6 h127) (ap (Qbs (Qd.mk 2 [(Qa.mk Ql 10 5)] [(Qc.mk Qz Ql 6 9),(Qc.mk Qae Ql 6 7),(Qc.mk Qam Ql 9 4),(Qc.mk Qat Ql 3 7)]) Qz h129) (ap (Qn.rn 3 [] (Qas 2 6 h132)) (ap (Qbs (Qd.mk 2 [(Qa.mk Ql 10 5)] [(Qc.mk Qz Ql 6 9),(Qc.mk Qae Ql 6 7),(Qc.mk Qam Ql 9 4),(Qc.mk Qat Ql 3 7)]) Qae h134) (ap (Qn.rn 6 [] (Qas 2 4 h137)) (ap (Qbs (Qd.mk 2 [(Qa.mk Ql 10 5)] [(Qc.mk Qz Ql 6 9),(Qc.mk Qae Ql 4 7),(Qc.mk Qam Ql 9 4),(Qc.mk Qat Ql 3 7)]) Qz h139) (ap (Qn.rn 9 [] (f33r2_ok 2 4 h142)) (ap (Qbs (Qd.mk 2 [(Qa.mk Ql 10 5)] [(Qc.mk Qz Ql 6 9),(Qc.mk Qae Ql 4 7),(Qc.mk Qam Ql 9 4)]) Qz h144) an)))))))))))) rfl
   ·obtain rfl:=Qg h
    exact rE Qh [(jF [14,15,16]++jT [4,5,6,9,10,11],[(0,.call (.agg [(.pl (.int .u8 2)),(.own 1),(.own 2)]) [some (.box [(.pl (.int .u8 2)),(.own 1),(.own 2)]),some (.row false 3 ([(Qa.mk Ql 10 5)].map Qa.cells)),some (.row false 4 ([(Qc.mk Qz Ql 6 9),(Qc.mk Qae Ql 6 7),(Qc.mk Qam Ql 9 4),(Qc.mk Qat Ql 3 7)].map Qc.cells))]),jH 1 (jI x128),(4,.call (.agg [(.pl (.int .u8 2)),(.own 4),(.own 5)]) (jN 3 [some (.box [(.pl (.int .u8 2)),(.own 4),(.own 5)]),some (.row false 3 ([(Qa.mk Ql 10 5)].map Qa.cells)),some (.row false 4 ([(Qc.mk Qz Ql 6 9),(Qc.mk Qae Ql 6 7),(Qc.mk Qam Ql 9 4),(Qc.mk Qat Ql 3 7)].map Qc.cells))])),jH 5 (jI x133),(7,.bool true),(9,.call (.agg [(.pl (.int .u8 2)),(.own 7),(.own 8)]) (jN 6 [some (.box [(.pl (.int .u8 2)),(.own 7),(.own 8)]),some (.row false 3 ([(Qa.mk Ql 10 5)].map Qa.cells)),some (.row false 4 ([(Qc.mk Qz Ql 6 9),(Qc.mk Qae Ql 4 7),(Qc.mk Qam Ql 9 4),(Qc.mk Qat Ql 3 7)].map Qc.cells))])),jH 10 (jI x138),(12,.bool true),(17,.bool false)],[])] [] [] [] [1,2,3] (.norm,(f10n3E bi1 bi2 (.norm false)).2) (ap4 h130 (ap4 h135 (ap4 h140 (ap (Qas 2 6 h127) (ap (Qbs (Qd.mk 2 [(Qa.mk Ql 10 5)] [(Qc.mk Qz Ql 6 9),(Qc.mk Qae Ql 6 7),(Qc.mk Qam Ql 9 4),(Qc.mk Qat Ql 3 7)]) Qz h129) (ap (Qn.rn 3 [] (Qas 2 6 h132)) (ap (Qbs (Qd.mk 2 [(Qa.mk Ql 10 5)] [(Qc.mk Qz Ql 6 9),(Qc.mk Qae Ql 6 7),(Qc.mk Qam Ql 9 4),(Qc.mk Qat Ql 3 7)]) Qae h134) (ap (Qn.rn 6 [] (Qas 2 4 h137)) (ap (Qbs (Qd.mk 2 [(Qa.mk Ql 10 5)] [(Qc.mk Qz Ql 6 9),(Qc.mk Qae Ql 4 7),(Qc.mk Qam Ql 9 4),(Qc.mk Qat Ql 3 7)]) Qz h139) an))))))))) rfl
  ·obtain rfl:=Qg h
   exact rE Qh [(jF [9,10,11]++jT [4,5,6],[(0,.call (.agg [(.pl (.int .u8 2)),(.own 1),(.own 2)]) [some (.box [(.pl (.int .u8 2)),(.own 1),(.own 2)]),some (.row false 3 ([(Qa.mk Ql 10 5)].map Qa.cells)),some (.row false 4 ([(Qc.mk Qz Ql 6 9),(Qc.mk Qae Ql 6 7),(Qc.mk Qam Ql 9 4),(Qc.mk Qat Ql 3 7)].map Qc.cells))]),jH 1 (jI x128),(4,.call (.agg [(.pl (.int .u8 2)),(.own 4),(.own 5)]) (jN 3 [some (.box [(.pl (.int .u8 2)),(.own 4),(.own 5)]),some (.row false 3 ([(Qa.mk Ql 10 5)].map Qa.cells)),some (.row false 4 ([(Qc.mk Qz Ql 6 9),(Qc.mk Qae Ql 6 7),(Qc.mk Qam Ql 9 4),(Qc.mk Qat Ql 3 7)].map Qc.cells))])),jH 5 (jI x133),(7,.bool true),(12,.bool false)],[])] [] [] [] [1,2,3] (.norm,(f10n3E bi1 bi2 (.norm false)).2) (ap4 h130 (ap4 h135 (ap (Qas 2 6 h127) (ap (Qbs (Qd.mk 2 [(Qa.mk Ql 10 5)] [(Qc.mk Qz Ql 6 9),(Qc.mk Qae Ql 6 7),(Qc.mk Qam Ql 9 4),(Qc.mk Qat Ql 3 7)]) Qz h129) (ap (Qn.rn 3 [] (Qas 2 6 h132)) (ap (Qbs (Qd.mk 2 [(Qa.mk Ql 10 5)] [(Qc.mk Qz Ql 6 9),(Qc.mk Qae Ql 6 7),(Qc.mk Qam Ql 9 4),(Qc.mk Qat Ql 3 7)]) Qae h134) an)))))) rfl
 ·obtain rfl:=Qg h;exact rE Qh [(jF [4,5,6],[(0,.call (.agg [(.pl (.int .u8 2)),(.own 1),(.own 2)]) [some (.box [(.pl (.int .u8 2)),(.own 1),(.own 2)]),some (.row false 3 ([(Qa.mk Ql 10 5)].map Qa.cells)),some (.row false 4 ([(Qc.mk Qz Ql 6 9),(Qc.mk Qae Ql 6 7),(Qc.mk Qam Ql 9 4),(Qc.mk Qat Ql 3 7)].map Qc.cells))]),jH 1 (jI x128),(7,.bool false)],[])] [] [] [] [1,2,3] (.norm,(f10n3E bi1 bi2 (.norm false)).2) (ap4 h130 (ap (Qas 2 6 h127) (ap (Qbs (Qd.mk 2 [(Qa.mk Ql 10 5)] [(Qc.mk Qz Ql 6 9),(Qc.mk Qae Ql 6 7),(Qc.mk Qam Ql 9 4),(Qc.mk Qat Ql 3 7)]) Qz h129) an))) rfl
inductive f10n0O where
 | ret (v158:Bool)
def f10n0E:f10n0O→Ex×Tr×Hp
 | .ret v158=>(.ret,mkS [(0,(jB v158))],[])
def f10n0S:Tr×Hp:=(Qab [] 0 .leaf,[])
noncomputable def f10n0:Option f10n0O :=
 f10n1.bind fun o44=>match o44 with
 | .norm v46=>(f10n2 v46).bind fun o75=>match o75 with
  | .norm v77=>(f10n3 v46 v77).bind fun o151=>match o151 with
   | .norm v153=>bif v46 then
     bif v77 then
      some (.ret v153)
     else
      some (.ret false)
    else
     some (.ret false)
theorem f10n0_ok{o:f10n0O}(h:f10n0=some o):T Try.prog Try.f10.ntmps 0 c10 f10n0S (·=f10n0E o):=by
 unfold f10n0 at h;refine rN Qh 1 [j3] [] [] [] [] f10n1S an ?_;obtain ⟨o44,h45,h⟩:=Qe h;cases o44 with
 | norm v46 =>
  refine T.oneN (by kernel_rfl) (f10n1_ok h45) (st2:=(f10n1E (.norm v46)).2) rfl ?_;refine rN Qh 0 [] [] [] [] [1] (f10n2S v46) an ?_;obtain ⟨o75,h76,h⟩:=Qe h;cases o75 with
  | norm v77 =>
   refine T.oneN (by kernel_rfl) (f10n2_ok v46 h76) (st2:=(f10n2E v46 (.norm v77)).2) rfl ?_;refine rN Qh 0 [] [] [] [] [1,2] (f10n3S v46 v77) an ?_;obtain ⟨o151,h152,h⟩:=Qe h;cases o151 with
   | norm v153 =>
    refine T.oneN (by kernel_rfl) (f10n3_ok v46 v77 h152) (st2:=(f10n3E v46 v77 (.norm v153)).2) rfl ?_;rcases Qi h with ⟨h156,h⟩|⟨h156,h⟩
    ·rcases Qi h with ⟨h157,h⟩|⟨h157,h⟩
     ·obtain rfl:=Qg h;exact rE Qh [([(2,true),(5,true)],[(3,.bool true),(6,.bool true)],[])] [] [] [] [0] (.ret,(f10n0E (.ret v153)).2) (ap2 h156 (ap2 h157 an)) rfl
     ·obtain rfl:=Qg h;exact rE Qh [([(2,true),(5,false)],[(3,.bool true),(6,.bool false)],[])] [] [] [] [0] (.ret,(f10n0E (.ret false)).2) (ap2 h156 (ap2 h157 an)) rfl
    ·obtain rfl:=Qg h;exact rE Qh [([(2,false)],[(3,.bool false)],[])] [] [] [] [0] (.ret,(f10n0E (.ret false)).2) (ap2 h156 an) rfl
noncomputable def f10:Option Bool:=f10n0.bind fun o=>match o with
 | .ret v158=>some v158
theorem f10_ok{r:Bool}(h:f10=some r):Qn Try.prog false 10 [] [] (jB r) []:=by
 unfold f10 at h;obtain ⟨o,ho,h⟩:=Qe h;cases o with
 | ret v158 =>
  obtain rfl:=Qg h;exact Qn.plain Qh (f:=Try.f10) (c:=c10) (by kernel_rfl) (by kernel_rfl) (by kernel_rfl) (by kernel_rfl) ((f10n0_ok  ho).mono fun r e=>by subst e; exact ⟨.inl rfl,(jB v158),(jB v158),by kernel_rfl,by kernel_rfl,((Wk.refl _):Wk (jB v158) (jB v158))⟩)

noncomputable def c11:Code:=Try.f11.body.getD .skip
inductive f11n0O where
 | ret (v4:Bool)
def f11n0E(a1:Qd):f11n0O→Ex×Tr×Hp
 | .ret v4=>(.ret,mkS [(2,(jB v4))],[])
def f11n0S(a1:Qd):Tr×Hp:=(Qab [(jA Qd.cells a1)] 0 .leaf,[])
noncomputable def f11n0(a1:Qd):Option f11n0O :=
 bif decide (20<(a1.Lots.length:Int)) then
  some (.ret true)
 else
  some (.ret (decide (110<(a1.Bids.length:Int))))
theorem f11n0_ok(a1:Qd){o:f11n0O}(h:f11n0 a1=some o):T Try.prog Try.f11.ntmps 0 c11 (f11n0S a1) (·=f11n0E a1 o):=by
 unfold f11n0 at h;rcases Qi h with ⟨h3,h⟩|⟨h3,h⟩
 ·obtain rfl:=Qg h;exact rE Qh [j3,(jT [5,6,7,8],[(9,.bool true)],[(2,.val (jI (a1.Lots.length:Int)))])] [] [] [] [2] (.ret,(f11n0E a1 (.ret true)).2) (ap (Qr (xs:=a1.Lots) (c:=Qa.cells)) (ap h3 (ap4 h3 an))) rfl
 ·obtain rfl:=Qg h;exact rE Qh [j3,(jF [5,6,7,8],[(9,.bool false)],[(2,.val (jI (a1.Lots.length:Int))),(7,.val (jI (a1.Bids.length:Int)))])] [] [] [] [2] (.ret,(f11n0E a1 (.ret (decide (110<(a1.Bids.length:Int))))).2) (ap (Qr (xs:=a1.Lots) (c:=Qa.cells)) (ap3 h3 (ap (Qr (xs:=a1.Bids) (c:=Qc.cells)) (ap2 h3 an)))) rfl
noncomputable def f11(a1:Qd):Option Bool:=(f11n0 a1).bind fun o=>match o with
 | .ret v4=>some v4
theorem f11_ok(a1:Qd){r:Bool}(h:f11 a1=some r):Qn Try.prog false 11 [(jA Qd.cells a1)] [] (jB r) []:=by
 unfold f11 at h;obtain ⟨o,ho,h⟩:=Qe h;cases o with
 | ret v4 =>
  obtain rfl:=Qg h;exact Qn.plain Qh (f:=Try.f11) (c:=c11) (by kernel_rfl) (by kernel_rfl) (by kernel_rfl) (by kernel_rfl) ((f11n0_ok a1 ho).mono fun r e=>by subst e; exact ⟨.inl rfl,(jB v4),(jB v4),by kernel_rfl,by kernel_rfl,((Wk.refl _):Wk (jB v4) (jB v4))⟩)


noncomputable def c14:Code:=Try.f14.body.getD .skip
inductive f14r1n0O where
 | ret (v14:List Qa) (v15:List Qc)
def f14r1n0E(a1:Qd):f14r1n0O→Ex×Tr×Hp
 | .ret v14 v15=>(.ret,mkS [(2,(.bp 0 0))],[some (.box [(.pl (.int .u8 a1.Rule)),(.own 1),(.own 2)]),jR 3 Qa.cells v14,jR 4 Qc.cells v15])
def f14r1n0S(a1:Qd):Tr×Hp:=(Qab [(jA Qd.cells a1)] 0 .leaf,[])
noncomputable def f14r1n0(a1:Qd):Option f14r1n0O :=
 bif (a1.Lots.isEmpty) then
  bif (a1.Bids.isEmpty) then
   some (.ret [] [])
  else
   req (fit a1.Bids.length 48) <|
   some (.ret [] a1.Bids)
 else
  req (fit a1.Lots.length 32) <|
  bif (a1.Bids.isEmpty) then
   some (.ret a1.Lots [])
  else
   req (fit a1.Bids.length 48) <|
   some (.ret a1.Lots a1.Bids)
theorem f14r1n0_ok(a1:Qd){o:f14r1n0O}(h:f14r1n0 a1=some o):T Try.prog Try.f14.ntmps 0 c14 (f14r1n0S a1) (·=f14r1n0E a1 o):=by
 unfold f14r1n0 at h;rcases Qi h with ⟨h4,h⟩|⟨h4,h⟩
 ·rcases Qi h with ⟨h7,h⟩|⟨h7,h⟩
  ·obtain rfl:=Qg h;exact rE Qh [j3,([],[(3,.app false)],[]),([],[(3,.app false)],[]),j3] [] [] [1,2,3] [2] (.ret,(f14r1n0E a1 (.ret [] [])).2) (ap (nil_map (c:=Qa.cells) h4) (ap (nil_map (c:=Qc.cells) h7) an)) rfl
  ·obtain ⟨h8,h⟩:=Qak h;obtain rfl:=Qg h;exact rE Qh [j3,([],[(3,.app false)],[]),([],[(3,.app true)],[]),j3] [] [] [1,2,4] [2] (.ret,(f14r1n0E a1 (.ret [] a1.Bids)).2) (ap (nil_map (c:=Qa.cells) h4) (ap (fit_map0z (te:=ti42) (xs:=a1.Bids) (c:=Qc.cells) h8 rfl) (ap (ne_map (c:=Qc.cells) h7) (ap (len_all (c:=Qc.cells) (xs:=a1.Bids) (n:=4) (fun _=>rfl)) an)))) rfl
 ·obtain ⟨h9,h⟩:=Qak h;rcases Qi h with ⟨h12,h⟩|⟨h12,h⟩
  ·obtain rfl:=Qg h;exact rE Qh [j3,([],[(3,.app true)],[]),([],[(3,.app false)],[]),j3] [] [] [1,3,4] [2] (.ret,(f14r1n0E a1 (.ret a1.Lots [])).2) (ap (fit_map0z (te:=ti39) (xs:=a1.Lots) (c:=Qa.cells) h9 rfl) (ap (ne_map (c:=Qa.cells) h4) (ap (len_all (c:=Qa.cells) (xs:=a1.Lots) (n:=3) (fun _=>rfl)) (ap (nil_map (c:=Qc.cells) h12) an)))) rfl
  ·obtain ⟨h13,h⟩:=Qak h;obtain rfl:=Qg h;exact rE Qh [j3,([],[(3,.app true)],[]),([],[(3,.app true)],[]),j3] [] [] [1,3,5] [2] (.ret,(f14r1n0E a1 (.ret a1.Lots a1.Bids)).2) (ap (fit_map0z (te:=ti39) (xs:=a1.Lots) (c:=Qa.cells) h9 rfl) (ap (ne_map (c:=Qa.cells) h4) (ap (len_all (c:=Qa.cells) (xs:=a1.Lots) (n:=3) (fun _=>rfl)) (ap (fit_map0z (te:=ti42) (xs:=a1.Bids) (c:=Qc.cells) h13 rfl) (ap (ne_map (c:=Qc.cells) h12) (ap (len_all (c:=Qc.cells) (xs:=a1.Bids) (n:=4) (fun _=>rfl)) an)))))) rfl
noncomputable def f14r1(a1:Qd):Option ((List Qa)×(List Qc)):=(f14r1n0 a1).bind fun o=>match o with
 | .ret v14 v15=>some (v14,v15)
theorem f14r1_ok(a1:Qd){r:(List Qa)×(List Qc)}(h:f14r1 a1=some r):Qn Try.prog true 14 [(jA Qd.cells a1)] [] (.agg [(.pl (.int .u8 a1.Rule)),(.own 1),(.own 2)]) [some (.box [(.pl (.int .u8 a1.Rule)),(.own 1),(.own 2)]),jR 3 Qa.cells r.1,jR 4 Qc.cells r.2]:=by
 unfold f14r1 at h;obtain ⟨o,ho,h⟩:=Qe h;cases o with
 | ret v14 v15 =>
  obtain rfl:=Qg h;exact Qn.shared Qh (f:=Try.f14) (c:=c14) (by kernel_rfl) (by kernel_rfl) (by kernel_rfl) ((f14r1n0_ok a1 ho).mono fun r e=>by subst e; exact ⟨.inl rfl,by kernel_rfl,by kernel_rfl⟩)

noncomputable def c3:Code:=Try.f3.body.getD .skip

end Go.Proofs.Ythpceddjepbamaa
namespace Go.Proofs.Ythpceddjepbamaa
set_option linter.unusedVariables false
set_option linter.unusedSimpArgs false
set_option maxRecDepth 100000
open Go.RowKit
noncomputable def c41:Code:=Try.f41.body.getD .skip
inductive f41n0O where
 | ret
def f41n0E(a1:Qc):f41n0O→Ex×Tr×Hp
 | .ret=>(.ret,mkS [(2,(jB true))],[])
def f41n0S(a1:Qc):Tr×Hp:=(Qab [(jA Qc.cells a1)] 0 .leaf,[])
noncomputable def f41n0(a1:Qc):Option f41n0O :=
 some .ret
theorem f41n0_ok(a1:Qc){o:f41n0O}(h:f41n0 a1=some o):T Try.prog Try.f41.ntmps 0 c41 (f41n0S a1) (·=f41n0E a1 o):=by
 unfold f41n0 at h;obtain rfl:=Qg h;exact rE Qh [j3,j3] [] [] [] [2] (.ret,(f41n0E a1 .ret).2) an rfl
noncomputable def f41(a1:Qc):Option Bool:=(f41n0 a1).bind fun o=>match o with
 | .ret=>some true
theorem f41_ok(a1:Qc){r:Bool}(h:f41 a1=some r):Qn Try.prog false 41 [(jA Qc.cells a1)] [] (jB r) []:=by
 unfold f41 at h;obtain ⟨o,ho,h⟩:=Qe h;cases o with
 | ret =>
  obtain rfl:=Qg h;exact Qn.plain Qh (f:=Try.f41) (c:=c41) (by kernel_rfl) (by kernel_rfl) (by kernel_rfl) (by kernel_rfl) ((f41n0_ok a1 ho).mono fun r e=>by subst e; exact ⟨.inl rfl,(jB true),(jB true),by kernel_rfl,by kernel_rfl,((Wk.refl _):Wk (jB true) (jB true))⟩)

inductive f40_41n2O where
 | exit0 (v58:Int)
def f40_41n2E(bh1:(List Qb)×Int)(ba2:Qd):f40_41n2O→Ex×Tr×Hp
 | .exit0 v58=>((.exit 0),mkS [(7,(jI bh1.2)),(8,(jI v58))],[])
def f40_41n2S(bh1:(List Qb)×Int)(ba2:Qd)(v40 v41:Int):Tr×Hp:=(mkS [(1,(.pl (.fn 41))),(2,(.bp 0 0)),(7,(jI bh1.2)),(8,(jI v40)),(16,(jL 3 Qb.cells bh1.1)),(17,(jI (bh1.1.length:Int))),(18,(jI v41))],[some (.box ((Qd.cells ba2).map .pl))])
noncomputable def Qcj:Nat→(List Qb)×Int→Qd→Int→Int→Option f40_41n2O
 | 0,_,_,_,_=>none
 | f+1,bh1,ba2,v40,v41 =>
  bif decide (v41<(bh1.1.length:Int)) then
   (at? bh1.1 v41).bind fun x51 =>
   (at? ba2.Bids x51.Bid).bind fun x53 =>
   (f41 x53).bind fun x55 =>
   bif x55 then
    (Qcj f bh1 ba2 (wr64 (v40+(wr64 (x51.Units*x51.Price)))) (wr64 (v41+1)))
   else
    (Qcj f bh1 ba2 v40 (wr64 (v41+1)))
  else
   some (.exit0 v40)
theorem f40_41n2_ok:∀(f:Nat)(bh1:(List Qb)×Int)(ba2:Qd)(v40 v41:Int){o:f40_41n2O},Qcj f bh1 ba2 v40 v41=some o→TL Try.prog Try.f40.ntmps 0 f (cL (cL (Qk 1 (cL (Qk 3 c40))))) (f40_41n2S bh1 ba2 v40 v41) (·=f40_41n2E bh1 ba2 o)
 | 0,_,_,_,_,o,h=>by rw [Qcj] at h; cases h
 | f+1,bh1,ba2,v40,v41,o,h=>by
  rw [Qcj] at h;refine TL.body (K:=fun s=>∃v40:Int,∃v41:Int,s=(f40_41n2S bh1 ba2 v40 v41)∧Qcj f bh1 ba2 v40 v41=some o) ?_ (by rintro _ ⟨v40,v41,rfl,hk⟩; exact f40_41n2_ok f _ _ _ _ hk);rcases Qi h with ⟨h43,h⟩|⟨h43,h⟩
  ·obtain ⟨x51,h52,h⟩:=Qe h;obtain ⟨x53,h54,h⟩:=Qe h;obtain ⟨x55,h56,h⟩:=Qe h;rcases Qi h with ⟨h57,h⟩|⟨h57,h⟩
   ·exact rE Qh [j3,([],[(0,.idx (Int.toNat v41) (Qb.cells x51))],[]),([],[(5,.idx (Int.toNat x51.Bid) (Qc.cells x53)),jH 7 (jB x55)],[]),j3,j3] [some true,some true] [] [0] [1,2,7,8,16,17,18] (.norm,(f40_41n2S bh1 ba2 (wr64 (v40+(wr64 (x51.Units*x51.Price)))) (wr64 (v41+1)))) (ap h43 (ap (Qj h52).1 (ap (Qm Qb.cells (Qj h52).2) (ap (Qj h54).1 (ap (Qm Qc.cells (Qj h54).2) (ap (f41_ok x53 h56) (ap h57 an))))))) (Qs.norm ⟨(wr64 (v40+(wr64 (x51.Units*x51.Price)))),(wr64 (v41+1)),rfl,h⟩)
   ·exact rE Qh [j3,([],[(0,.idx (Int.toNat v41) (Qb.cells x51))],[]),([],[(5,.idx (Int.toNat x51.Bid) (Qc.cells x53)),jH 7 (jB x55)],[]),j3] [some true,some false] [] [0] [1,2,7,8,16,17,18] (.norm,(f40_41n2S bh1 ba2 v40 (wr64 (v41+1)))) (ap h43 (ap (Qj h52).1 (ap (Qm Qb.cells (Qj h52).2) (ap (Qj h54).1 (ap (Qm Qc.cells (Qj h54).2) (ap (f41_ok x53 h56) (ap h57 an))))))) (Qs.norm ⟨v40,(wr64 (v41+1)),rfl,h⟩)
  ·obtain rfl:=Qg h;exact rK Qh 2 [j3] [some false] [] [] [7,8] (.exit 0) ((f40_41n2E bh1 ba2 (.exit0 v40)).2) (ap h43 an) (Qs.out rfl rfl)
noncomputable def Qca(bh1:(List Qb)×Int)(ba2:Qd):List Qb→Int→Int→Option f40_41n2O
 | [],v40,v41 =>
  some (.exit0 v40)
 | x0::rest,v40,v41 =>
  (at? ba2.Bids x0.Bid).bind fun x53 =>
  (f41 x53).bind fun x55 =>
  bif x55 then
   (Qca bh1 ba2 rest (wr64 (v40+(wr64 (x0.Units*x0.Price)))) (v41+1))
  else
   (Qca bh1 ba2 rest v40 (v41+1))
theorem f40_41n2L_eq(bh1:(List Qb)×Int)(ba2:Qd):∀(rest:List Qb)(f k:Nat)(v40:Int),bh1.1.drop k=rest→bh1.1.length≤maxLen→rest.length<f→Qcj f bh1 ba2 v40 (k:Int)=Qca bh1 ba2 rest v40 (k:Int)
 | _,0,_,_,_,_,hf=>absurd hf (Nat.not_lt_zero _)
 | [],f+1,k,v40,hd,hm,hf=>by
  have hk:¬((k:Int)<(bh1.1.length:Int)):=by have:=Qac hd; omega
  rw [Qcj,Qca];simp only [decide_eq_false hk,cond_false]
 | x0::rest,f+1,k,v40,hd,hm,hf=>by
  obtain ⟨hx,hlt,hd'⟩:=Qan hd;have hk:(k:Int)<(bh1.1.length:Int):=by omega
  have hw:wr64 ((k:Int)+1)=(k:Int)+1:=Qbp (by omega) (by unfold maxLen at hm; omega);have ih:∀(v40:Int),Qcj f bh1 ba2 v40 ((k:Int)+1)=Qca bh1 ba2 rest v40 ((k:Int)+1):=fun v40=>f40_41n2L_eq bh1 ba2 rest f (k+1) v40 hd' hm (by simpa using hf);rw [Qcj,Qca];simp only [decide_eq_true hk,cond_true,Qaq,hx,Option.bind_some,hw,ih]
theorem f40_41n2_run(bh1:(List Qb)×Int)(ba2:Qd)(v40:Int)(hm:bh1.1.length≤maxLen):Qcj FUEL bh1 ba2 v40 0=Qca bh1 ba2 bh1.1 v40 0:=f40_41n2L_eq bh1 ba2 bh1.1 FUEL 0 v40 List.drop_zero hm (Qai hm)
inductive f40_41n1O where
 | norm (v62:Int)
def f40_41n1E(bh1:(List Qb)×Int)(ba2:Qd):f40_41n1O→Ex×Tr×Hp
 | .norm v62=>(.norm,mkS [(7,(jI bh1.2)),(8,(jI v62))],[])
def f40_41n1S(bh1:(List Qb)×Int)(ba2:Qd):Tr×Hp:=(mkS [(1,(.pl (.fn 41))),(2,(.bp 0 0)),(6,(jL 3 Qb.cells bh1.1)),(7,(jI bh1.2)),(8,(jI 0))],[some (.box ((Qd.cells ba2).map .pl))])
noncomputable def f40_41n1(bh1:(List Qb)×Int)(ba2:Qd):Option f40_41n1O :=
 (Qcj FUEL bh1 ba2 0 0).bind fun o59=>match o59 with
 | .exit0 v61=>some (.norm v61)
theorem f40_41n1_ok(bh1:(List Qb)×Int)(ba2:Qd){o:f40_41n1O}(h:f40_41n1 bh1 ba2=some o):T Try.prog Try.f40.ntmps 0 (cL (Qk 3 c40)) (f40_41n1S bh1 ba2) (·=f40_41n1E bh1 ba2 o):=by
 unfold f40_41n1 at h;refine rN Qh 1 [([],[],[(1,.val (jI (bh1.1.length:Int)))])] [] [] [0] [1,2,7,8,16,17,18] (f40_41n2S bh1 ba2 0 0) (ap (Qr (xs:=bh1.1) (c:=Qb.cells)) an) ?_;obtain ⟨o59,h60,h⟩:=Qe h;cases o59 with
 | exit0 v61 =>
  obtain rfl:=Qg h;exact T.last' (T.bl (i:=0) (by kernel_rfl) (by kernel_rfl) (f40_41n2_ok FUEL bh1 ba2 0 0 h60)) (tds:=[]) (m:=[]) (keep:=[7,8]) (st2:=(f40_41n1E bh1 ba2 (.norm v61)).2) (by kernel_rfl) an rfl
inductive f40_41n0O where
 | ret (v66:Int) (v67:Int)
def f40_41n0E(a1:Qd):f40_41n0O→Ex×Tr×Hp
 | .ret v66 v67=>(.ret,mkS [(4,(jI v66)),(5,(jI v67))],[])
def f40_41n0S(a1:Qd):Tr×Hp:=(Qab [(jA Qd.cells a1),(.pl (.fn 41))] 0 .leaf,[])
noncomputable def f40_41n0(a1:Qd):Option f40_41n0O :=
 (f12 a1).bind fun x4 =>
 (f40_41n1 x4 a1).bind fun o63=>match o63 with
 | .norm v65=>some (.ret v65 x4.2)
theorem f40_41n0_ok(a1:Qd){o:f40_41n0O}(h:f40_41n0 a1=some o):T Try.prog Try.f40.ntmps 0 c40 (f40_41n0S a1) (·=f40_41n0E a1 o):=by
 unfold f40_41n0 at h;obtain ⟨x4,h5,h⟩:=Qe h;refine rN Qh 3 [j3,([],[jH 1 (.tup [(jL 3 Qb.cells x4.1),(jI x4.2)])],[]),j3] [] [] [0] [1,2,6,7,8] (f40_41n1S x4 a1) (ap (f12_ok a1 h5) an) ?_;obtain ⟨o63,h64,h⟩:=Qe h;cases o63 with
 | norm v65 =>
  refine T.oneN (by kernel_rfl) (f40_41n1_ok x4 a1 h64) (st2:=(f40_41n1E x4 a1 (.norm v65)).2) rfl ?_;obtain rfl:=Qg h;exact rE Qh [j3] [] [] [] [4,5] (.ret,(f40_41n0E a1 (.ret v65 x4.2)).2) an rfl
noncomputable def f40_41(a1:Qd):Option (Int×Int):=(f40_41n0 a1).bind fun o=>match o with
 | .ret v66 v67=>some (v66,v67)
theorem f40_41_ok(a1:Qd){r:Int×Int}(h:f40_41 a1=some r):Qn Try.prog false 40 [(jA Qd.cells a1),(.pl (.fn 41))] [] (.tup [(jI r.1),(jI r.2)]) []:=by
 unfold f40_41 at h;obtain ⟨o,ho,h⟩:=Qe h;cases o with
 | ret v66 v67 =>
  obtain rfl:=Qg h;exact Qn.plain Qh (f:=Try.f40) (c:=c40) (by kernel_rfl) (by kernel_rfl) (by kernel_rfl) (by kernel_rfl) ((f40_41n0_ok a1 ho).mono fun r e=>by subst e; exact ⟨.inl rfl,(.tup [(jI v66),(jI v67)]),(.tup [(jI v66),(jI v67)]),by kernel_rfl,by kernel_rfl,((Wk.refl _):Wk (.tup [(jI v66),(jI v67)]) (.tup [(jI v66),(jI v67)]))⟩)

noncomputable def c15:Code:=Try.f15.body.getD .skip
inductive f15n0O where
 | ret (v6:Int) (v7:Int)
def f15n0E(a1:Qd):f15n0O→Ex×Tr×Hp
 | .ret v6 v7=>(.ret,mkS [(2,(jI v6)),(3,(jI v7))],[])
def f15n0S(a1:Qd):Tr×Hp:=(Qab [(jA Qd.cells a1)] 0 .leaf,[])
noncomputable def f15n0(a1:Qd):Option f15n0O :=
 (f40_41 a1).bind fun x4 =>
 some (.ret x4.1 x4.2)
theorem f15n0_ok(a1:Qd){o:f15n0O}(h:f15n0 a1=some o):T Try.prog Try.f15.ntmps 0 c15 (f15n0S a1) (·=f15n0E a1 o):=by
 unfold f15n0 at h;obtain ⟨x4,h5,h⟩:=Qe h;obtain rfl:=Qg h;exact rE Qh [j3,([],[jH 1 (.tup [(jI x4.1),(jI x4.2)])],[])] [] [] [] [2,3] (.ret,(f15n0E a1 (.ret x4.1 x4.2)).2) (ap (f40_41_ok a1 h5) an) rfl
noncomputable def f15(a1:Qd):Option (Int×Int):=(f15n0 a1).bind fun o=>match o with
 | .ret v6 v7=>some (v6,v7)
theorem f15_ok(a1:Qd){r:Int×Int}(h:f15 a1=some r):Qn Try.prog false 15 [(jA Qd.cells a1)] [] (.tup [(jI r.1),(jI r.2)]) []:=by
 unfold f15 at h;obtain ⟨o,ho,h⟩:=Qe h;cases o with
 | ret v6 v7 =>
  obtain rfl:=Qg h;exact Qn.plain Qh (f:=Try.f15) (c:=c15) (by kernel_rfl) (by kernel_rfl) (by kernel_rfl) (by kernel_rfl) ((f15n0_ok a1 ho).mono fun r e=>by subst e; exact ⟨.inl rfl,(.tup [(jI v6),(jI v7)]),(.tup [(jI v6),(jI v7)]),by kernel_rfl,by kernel_rfl,((Wk.refl _):Wk (.tup [(jI v6),(jI v7)]) (.tup [(jI v6),(jI v7)]))⟩)

noncomputable def c17:Code:=Try.f17.body.getD .skip
inductive f17n2O where
 | exit0
 | ret (v29:Int)
def f17n2E(bn1:List Qa)(bb2:ByteArray):f17n2O→Ex×Tr×Hp
 | .exit0=>((.exit 0),mkS [],[])
 | .ret v29=>(.ret,mkS [(4,(jI v29))],[])
def f17n2S(bn1:List Qa)(bb2:ByteArray)(v20:Int):Tr×Hp:=(mkS [(0,(jL 3 Qa.cells bn1)),(1,(jS bb2)),(5,(jI v20))],[])
noncomputable def f17n2:Nat→List Qa→ByteArray→Int→Option f17n2O
 | 0,_,_,_=>none
 | f+1,bn1,bb2,v20 =>
  bif decide (v20<(bn1.length:Int)) then
   (at? bn1 v20).bind fun x26 =>
   bif (seq x26.Name bb2) then
    some (.ret v20)
   else
    (f17n2 f bn1 bb2 (wr64 (v20+1)))
  else
   some .exit0
theorem f17n2_ok:∀(f:Nat)(bn1:List Qa)(bb2:ByteArray)(v20:Int){o:f17n2O},f17n2 f bn1 bb2 v20=some o→TL Try.prog Try.f17.ntmps 0 f (cL (cL (Qk 1 (cL (Qk 1 c17))))) (f17n2S bn1 bb2 v20) (·=f17n2E bn1 bb2 o)
 | 0,_,_,_,o,h=>by rw [f17n2] at h; cases h
 | f+1,bn1,bb2,v20,o,h=>by
  rw [f17n2] at h;refine TL.body (K:=fun s=>∃v20:Int,s=(f17n2S bn1 bb2 v20)∧f17n2 f bn1 bb2 v20=some o) ?_ (by rintro _ ⟨v20,rfl,hk⟩; exact f17n2_ok f _ _ _ hk);rcases Qi h with ⟨h22,h⟩|⟨h22,h⟩
  ·obtain ⟨x26,h27,h⟩:=Qe h;rcases Qi h with ⟨h28,h⟩|⟨h28,h⟩
   ·obtain rfl:=Qg h;exact rK Qh 2 [([],[],[(2,.val (jI (bn1.length:Int)))]),([],[(2,.idx (Int.toNat v20) (Qa.cells x26))],[]),j3] [some true,some true] [] [] [4] .ret ((f17n2E bn1 bb2 (.ret v20)).2) (ap (Qr (xs:=bn1) (c:=Qa.cells)) (ap h22 (ap (Qj h27).1 (ap (Qm Qa.cells (Qj h27).2) (ap h28 an))))) (Qs.out rfl rfl)
   ·exact rE Qh [([],[],[(2,.val (jI (bn1.length:Int)))]),([],[(2,.idx (Int.toNat v20) (Qa.cells x26))],[]),j3] [some true,some false] [] [] [0,1,5] (.norm,(f17n2S bn1 bb2 (wr64 (v20+1)))) (ap (Qr (xs:=bn1) (c:=Qa.cells)) (ap h22 (ap (Qj h27).1 (ap (Qm Qa.cells (Qj h27).2) (ap h28 an))))) (Qs.norm ⟨(wr64 (v20+1)),rfl,h⟩)
  ·obtain rfl:=Qg h;exact rK Qh 1 [([],[],[(2,.val (jI (bn1.length:Int)))])] [some false] [] [] [] (.exit 0) ((f17n2E bn1 bb2 .exit0).2) (ap (Qr (xs:=bn1) (c:=Qa.cells)) (ap h22 an)) (Qs.out rfl rfl)
noncomputable def f17n2L(bn1:List Qa)(bb2:ByteArray):List Qa→Int→Option f17n2O
 | [],v20 =>
  some .exit0
 | x0::rest,v20 =>
  bif (seq x0.Name bb2) then
   some (.ret v20)
  else
   (f17n2L bn1 bb2 rest (v20+1))
theorem f17n2L_eq(bn1:List Qa)(bb2:ByteArray):∀(rest:List Qa)(f k:Nat),bn1.drop k=rest→bn1.length≤maxLen→rest.length<f→f17n2 f bn1 bb2 (k:Int)=f17n2L bn1 bb2 rest (k:Int)
 | _,0,_,_,_,hf=>absurd hf (Nat.not_lt_zero _)
 | [],f+1,k,hd,hm,hf=>by
  have hk:¬((k:Int)<(bn1.length:Int)):=by have:=Qac hd; omega
  rw [f17n2,f17n2L];simp only [decide_eq_false hk,cond_false]
 | x0::rest,f+1,k,hd,hm,hf=>by
  obtain ⟨hx,hlt,hd'⟩:=Qan hd;have hk:(k:Int)<(bn1.length:Int):=by omega
  have hw:wr64 ((k:Int)+1)=(k:Int)+1:=Qbp (by omega) (by unfold maxLen at hm; omega);have ih:f17n2 f bn1 bb2 ((k:Int)+1)=f17n2L bn1 bb2 rest ((k:Int)+1):=f17n2L_eq bn1 bb2 rest f (k+1) hd' hm (by simpa using hf);rw [f17n2,f17n2L];simp only [decide_eq_true hk,cond_true,Qaq,hx,Option.bind_some,hw,ih]
theorem f17n2_run(bn1:List Qa)(bb2:ByteArray)(hm:bn1.length≤maxLen):f17n2 FUEL bn1 bb2 0=f17n2L bn1 bb2 bn1 0:=f17n2L_eq bn1 bb2 bn1 FUEL 0 List.drop_zero hm (Qai hm)
inductive f17n1O where
 | norm
 | ret (v33:Int)
def f17n1E(bn1:List Qa)(bb2:ByteArray):f17n1O→Ex×Tr×Hp
 | .norm=>(.norm,mkS [],[])
 | .ret v33=>(.ret,mkS [(4,(jI v33))],[])
def f17n1S(bn1:List Qa)(bb2:ByteArray):Tr×Hp:=(mkS [(0,(jL 3 Qa.cells bn1)),(1,(jS bb2))],[])
noncomputable def f17n1(bn1:List Qa)(bb2:ByteArray):Option f17n1O :=
 (f17n2 FUEL bn1 bb2 0).bind fun o30=>match o30 with
 | .exit0=>some .norm
 | .ret v32=>some (.ret v32)
theorem f17n1_ok(bn1:List Qa)(bb2:ByteArray){o:f17n1O}(h:f17n1 bn1 bb2=some o):T Try.prog Try.f17.ntmps 0 (cL (Qk 1 c17)) (f17n1S bn1 bb2) (·=f17n1E bn1 bb2 o):=by
 unfold f17n1 at h;refine rN Qh 1 [j3] [] [] [] [0,1,5] (f17n2S bn1 bb2 0) an ?_;obtain ⟨o30,h31,h⟩:=Qe h;cases o30 with
 | exit0 =>
  obtain rfl:=Qg h;exact T.last' (T.bl (i:=0) (by kernel_rfl) (by kernel_rfl) (f17n2_ok FUEL bn1 bb2 0 h31)) (tds:=[]) (m:=[]) (keep:=[]) (st2:=(f17n1E bn1 bb2 .norm).2) (by kernel_rfl) an rfl
 | ret v32 =>
  obtain rfl:=Qg h;exact T.last' (T.bl (i:=0) (by kernel_rfl) (by kernel_rfl) (f17n2_ok FUEL bn1 bb2 0 h31)) (tds:=[]) (m:=[]) (keep:=[4]) (st2:=(f17n1E bn1 bb2 (.ret v32)).2) (by kernel_rfl) an rfl
inductive f17n0O where
 | ret (v37:Int)
def f17n0E(a1:List Qa)(a2:ByteArray):f17n0O→Ex×Tr×Hp
 | .ret v37=>(.ret,mkS [(4,(jI v37))],[])
def f17n0S(a1:List Qa)(a2:ByteArray):Tr×Hp:=(Qab [(jL 3 Qa.cells a1),(jS a2)] 0 .leaf,[])
noncomputable def f17n0(a1:List Qa)(a2:ByteArray):Option f17n0O :=
 (f17n1 a1 a2).bind fun o34=>match o34 with
 | .norm=>some (.ret (-1))
 | .ret v36=>some (.ret v36)
theorem f17n0_ok(a1:List Qa)(a2:ByteArray){o:f17n0O}(h:f17n0 a1 a2=some o):T Try.prog Try.f17.ntmps 0 c17 (f17n0S a1 a2) (·=f17n0E a1 a2 o):=by
 unfold f17n0 at h;refine rN Qh 1 [j3] [] [] [] [0,1] (f17n1S a1 a2) an ?_;obtain ⟨o34,h35,h⟩:=Qe h;cases o34 with
 | norm =>
  refine T.oneN (by kernel_rfl) (f17n1_ok a1 a2 h35) (st2:=(f17n1E a1 a2 .norm).2) rfl ?_;obtain rfl:=Qg h;exact rE Qh [j3] [] [] [] [4] (.ret,(f17n0E a1 a2 (.ret (-1))).2) an rfl
 | ret v36 =>
  obtain rfl:=Qg h;exact T.oneX' (by kernel_rfl) (f17n1_ok a1 a2 h35) (tds:=[]) (m:=[]) (keep:=[4]) (st2:=(f17n0E a1 a2 (.ret v36)).2) (by kernel_rfl) an rfl rfl
noncomputable def f17(a1:List Qa)(a2:ByteArray):Option Int:=(f17n0 a1 a2).bind fun o=>match o with
 | .ret v37=>some v37
theorem f17_ok(a1:List Qa)(a2:ByteArray){r:Int}(h:f17 a1 a2=some r):Qn Try.prog false 17 [(jL 3 Qa.cells a1),(jS a2)] [] (jI r) []:=by
 unfold f17 at h;obtain ⟨o,ho,h⟩:=Qe h;cases o with
 | ret v37 =>
  obtain rfl:=Qg h;exact Qn.plain Qh (f:=Try.f17) (c:=c17) (by kernel_rfl) (by kernel_rfl) (by kernel_rfl) (by kernel_rfl) ((f17n0_ok a1 a2 ho).mono fun r e=>by subst e; exact ⟨.inl rfl,(jI v37),(jI v37),by kernel_rfl,by kernel_rfl,((Wk.refl _):Wk (jI v37) (jI v37))⟩)


noncomputable def c6:Code:=Try.f6.body.getD .skip

noncomputable def c18:Code:=Try.f18.body.getD .skip
noncomputable def Qbw:Code:=(Qk 0 (cL (Qk 1 (cL (Qk 2 (cL (cL (Qk 2 (cL (cL (Qk 1 (cL (Qk 3 c18)))))))))))))
inductive f18y1n0O where
 | norm
noncomputable def f18y1n0E(a1:Qf)(a2:Int):f18y1n0O→Ex×Tr×Hp
 | .norm=>(.norm,mkS [],[some (.lp Qbw .busy none (kL 38 [(8,(.bp 1 0))])),some (.box (((cInt .i64) (wr64 (a2-a1.units))).map .pl))])
noncomputable def f18y1n0S(a1:Qf)(a2:Int):Tr×Hp:=(mkS [(8,(.bp 1 0)),(9,(.bp 2 0))],[some (.lp Qbw .busy none (kL 38 [(8,(.bp 1 0))])),some (.box (((cInt .i64) a2).map .pl)),some (.box ((Qf.cells a1).map .pl))])
noncomputable def f18y1n0(a1:Qf)(a2:Int):Option f18y1n0O :=
 some .norm
theorem f18y1n0_ok(a1:Qf)(a2:Int){o:f18y1n0O}(h:f18y1n0 a1 a2=some o):T Try.prog Try.f18.ntmps 2 (rfB Qbw) (f18y1n0S a1 a2) (·=f18y1n0E a1 a2 o):=by
 unfold f18y1n0 at h;refine T.block' (i:=3) (by kernel_rfl) ?_;obtain rfl:=Qg h;exact rE Qh [j3] [] [] [] [] (.norm,(f18y1n0E a1 a2 .norm).2) an rfl
theorem f18y1_norm(a1:Qf)(a2:Int)(h:f18y1n0 a1 a2=some .norm):Qbk Try.prog [(jA Qf.cells a1)] 0 [some (.lp Qbw .ready none (kL 38 [(8,(.bp 1 0))])),some (.box (((cInt .i64) a2).map .pl))] true [some (.lp Qbw .ready none (kL 38 [(8,(.bp 1 0))])),some (.box (((cInt .i64) (wr64 (a2-a1.units))).map .pl))] :=
 Qbk.mk (c:=Qbw) (n:=Try.f18.ntmps) (base:=2) (cs:=(kL 38 [(8,(.bp 1 0))])) (cs2:=(kL 38 [(8,(.bp 1 0))])) (cs3:=(kL 38 [(8,(.bp 1 0))])) (st2:=(mkS [(8,(.bp 1 0)),(9,(.bp 2 0))],[some (.lp Qbw .ready none (kL 38 [(8,(.bp 1 0))])),some (.box (((cInt .i64) a2).map .pl)),some (.box ((Qf.cells a1).map .pl))])) (e:=(f18y1n0E a1 a2 .norm)) (pend:=none)
  (run_ok (P:=Try.prog) (C:=cfg) Qh (c:=rfA Qbw) (rs:=[j3]) (ps:=[]) (tds:=[]) (m:=[2]) (keep:=[8,9]) (by kernel_rfl) an)
  (f18y1n0_ok a1 a2 h)

inductive f53r9n2O where
 | exit0 (v42:List Qf)
noncomputable def f53r9n2E(ba1:Qd)(be2:Qa)(bd3:Int):f53r9n2O→Ex×Tr×Hp
 | .exit0 v42=>((.exit 0),mkS [(0,(.yl 0)),(2,(.bp 2 0)),(4,(.own 4))],[some (.lp Qbw .ready none (kL 38 [(8,(.bp 3 0))])),some (.box ((Qd.cells ba1).map .pl)),some (.box ((Qa.cells be2).map .pl)),some (.box (((cInt .i64) bd3).map .pl)),jR 6 Qf.cells v42])
noncomputable def f53r9n2S(ba1:Qd)(be2:Qa)(bd3 v28:Int)(v29:List Qf):Tr×Hp:=(mkS [(0,(.yl 0)),(2,(.bp 2 0)),(4,(.own 4)),(11,(jL 4 Qc.cells ba1.Bids)),(12,(jI (ba1.Bids.length:Int))),(13,(jI v28))],[some (.lp Qbw .ready none (kL 38 [(8,(.bp 3 0))])),some (.box ((Qd.cells ba1).map .pl)),some (.box ((Qa.cells be2).map .pl)),some (.box (((cInt .i64) bd3).map .pl)),jR 6 Qf.cells v29])
noncomputable def f53r9n2:Nat→Qd→Qa→Int→Int→List Qf→Option f53r9n2O
 | 0,_,_,_,_,_=>none
 | f+1,ba1,be2,bd3,v28,v29 =>
  bif decide (v28<(ba1.Bids.length:Int)) then
   (at? ba1.Bids v28).bind fun x37 =>
   bif (seq x37.Lot be2.Name) then
    bif decide (be2.Reserve≤x37.Price) then
     req (fit (v29.length+1) 64) <|
     (f53r9n2 f ba1 be2 bd3 (wr64 (v28+1)) (v29++[(Qf.mk v28 0 x37)]))
    else
     (f53r9n2 f ba1 be2 bd3 (wr64 (v28+1)) v29)
   else
    (f53r9n2 f ba1 be2 bd3 (wr64 (v28+1)) v29)
  else
   some (.exit0 v29)
theorem f53r9n2_ok:∀(f:Nat)(ba1:Qd)(be2:Qa)(bd3 v28:Int)(v29:List Qf){o:f53r9n2O},f53r9n2 f ba1 be2 bd3 v28 v29=some o→TL Try.prog Try.f53.ntmps 4 f (cL (cL (Qk 1 (cL (Qk 1 c53))))) (f53r9n2S ba1 be2 bd3 v28 v29) (·=f53r9n2E ba1 be2 bd3 o)
 | 0,_,_,_,_,_,o,h=>by rw [f53r9n2] at h; cases h
 | f+1,ba1,be2,bd3,v28,v29,o,h=>by
  rw [f53r9n2] at h;refine TL.body (K:=fun s=>∃v28:Int,∃v29:List Qf,s=(f53r9n2S ba1 be2 bd3 v28 v29)∧f53r9n2 f ba1 be2 bd3 v28 v29=some o) ?_ (by rintro _ ⟨v28,v29,rfl,hk⟩; exact f53r9n2_ok f _ _ _ _ _ hk);rcases Qi h with ⟨h31,h⟩|⟨h31,h⟩
  ·obtain ⟨x37,h38,h⟩:=Qe h;rcases Qi h with ⟨h39,h⟩|⟨h39,h⟩
   ·rcases Qi h with ⟨h40,h⟩|⟨h40,h⟩
    ·obtain ⟨h41,h⟩:=Qak h;exact rE Qh [j3,([],[(1,.idx (Int.toNat v28) (Qc.cells x37))],[]),(jT [6,7,8,9,10],[(11,.bool true)],[]),([],[(5,.fits)],[(5,.row 7 ((v29++[(Qf.mk v28 0 x37)]).map Qf.cells))]),j3] [some true,some true] [] [7] [0,2,4,11,12,13] (.norm,(f53r9n2S ba1 be2 bd3 (wr64 (v28+1)) (v29++[(Qf.mk v28 0 x37)]))) (ap h31 (ap (Qj h38).1 (ap (Qm Qc.cells (Qj h38).2) (ap2 h39 (ap4 h39 (ap h40 (ap (fit_map (te:=ti78) (xs:=v29) (n:=1) (c:=Qf.cells) h41 rfl) (ap (app_cv (xs:=v29) (ys:=[(Qf.mk v28 0 x37)]) (c:=Qf.cells)) an)))))))) (Qs.norm ⟨(wr64 (v28+1)),(v29++[(Qf.mk v28 0 x37)]),rfl,h⟩)
    ·exact rE Qh [j3,([],[(1,.idx (Int.toNat v28) (Qc.cells x37))],[]),(jT [6,7,8,9,10],[(11,.bool true)],[]),j3] [some true,some false] [] [4] [0,2,4,11,12,13] (.norm,(f53r9n2S ba1 be2 bd3 (wr64 (v28+1)) v29)) (ap h31 (ap (Qj h38).1 (ap (Qm Qc.cells (Qj h38).2) (ap2 h39 (ap4 h39 (ap h40 an)))))) (Qs.norm ⟨(wr64 (v28+1)),v29,rfl,h⟩)
   ·exact rE Qh [j3,([],[(1,.idx (Int.toNat v28) (Qc.cells x37))],[]),(jF [6,7,8,9,10],[(11,.bool false)],[]),j3] [some true,none] [] [4] [0,2,4,11,12,13] (.norm,(f53r9n2S ba1 be2 bd3 (wr64 (v28+1)) v29)) (ap h31 (ap (Qj h38).1 (ap (Qm Qc.cells (Qj h38).2) (ap2 h39 (ap4 h39 an))))) (Qs.norm ⟨(wr64 (v28+1)),v29,rfl,h⟩)
  ·obtain rfl:=Qg h;exact rK Qh 2 [j3] [some false] [] [4] [0,2,4] (.exit 0) ((f53r9n2E ba1 be2 bd3 (.exit0 v29)).2) (ap h31 an) (Qs.out rfl rfl)
noncomputable def f53r9n2L(ba1:Qd)(be2:Qa)(bd3:Int):List Qc→Int→(List Qf)→Option f53r9n2O
 | [],v28,v29 =>
  some (.exit0 v29)
 | x0::rest,v28,v29 =>
  bif (seq x0.Lot be2.Name) then
   bif decide (be2.Reserve≤x0.Price) then
    req (fit (v29.length+1) 64) <|
    (f53r9n2L ba1 be2 bd3 rest (v28+1) (v29++[(Qf.mk v28 0 x0)]))
   else
    (f53r9n2L ba1 be2 bd3 rest (v28+1) v29)
  else
   (f53r9n2L ba1 be2 bd3 rest (v28+1) v29)
theorem f53r9n2L_eq(ba1:Qd)(be2:Qa)(bd3:Int):∀(rest:List Qc)(f k:Nat)(v29:List Qf),ba1.Bids.drop k=rest→ba1.Bids.length≤maxLen→rest.length<f→f53r9n2 f ba1 be2 bd3 (k:Int) v29=f53r9n2L ba1 be2 bd3 rest (k:Int) v29
 | _,0,_,_,_,_,hf=>absurd hf (Nat.not_lt_zero _)
 | [],f+1,k,v29,hd,hm,hf=>by
  have hk:¬((k:Int)<(ba1.Bids.length:Int)):=by have:=Qac hd; omega
  rw [f53r9n2,f53r9n2L];simp only [decide_eq_false hk,cond_false]
 | x0::rest,f+1,k,v29,hd,hm,hf=>by
  obtain ⟨hx,hlt,hd'⟩:=Qan hd;have hk:(k:Int)<(ba1.Bids.length:Int):=by omega
  have hw:wr64 ((k:Int)+1)=(k:Int)+1:=Qbp (by omega) (by unfold maxLen at hm; omega);have ih:∀(v29:List Qf),f53r9n2 f ba1 be2 bd3 ((k:Int)+1) v29=f53r9n2L ba1 be2 bd3 rest ((k:Int)+1) v29:=fun v29=>f53r9n2L_eq ba1 be2 bd3 rest f (k+1) v29 hd' hm (by simpa using hf);rw [f53r9n2,f53r9n2L];simp only [decide_eq_true hk,cond_true,Qaq,hx,Option.bind_some,hw,ih]
theorem f53r9n2_run(ba1:Qd)(be2:Qa)(bd3:Int)(v29:List Qf)(hm:ba1.Bids.length≤maxLen):f53r9n2 FUEL ba1 be2 bd3 0 v29=f53r9n2L ba1 be2 bd3 ba1.Bids 0 v29:=f53r9n2L_eq ba1 be2 bd3 ba1.Bids FUEL 0 v29 List.drop_zero hm (Qai hm)
inductive f53r9n1O where
 | norm (v46:List Qf)
noncomputable def f53r9n1E(ba1:Qd)(be2:Qa)(bd3:Int):f53r9n1O→Ex×Tr×Hp
 | .norm v46=>(.norm,mkS [(0,(.yl 0)),(2,(.bp 2 0)),(4,(.own 4))],[some (.lp Qbw .ready none (kL 38 [(8,(.bp 3 0))])),some (.box ((Qd.cells ba1).map .pl)),some (.box ((Qa.cells be2).map .pl)),some (.box (((cInt .i64) bd3).map .pl)),jR 6 Qf.cells v46])
noncomputable def f53r9n1S(ba1:Qd)(be2:Qa)(bd3:Int):Tr×Hp:=(mkS [(0,(.yl 0)),(1,(.bp 1 0)),(2,(.bp 2 0)),(4,(.pl (.sl .nil 0 [])))],[some (.lp Qbw .ready none (kL 38 [(8,(.bp 3 0))])),some (.box ((Qd.cells ba1).map .pl)),some (.box ((Qa.cells be2).map .pl)),some (.box (((cInt .i64) bd3).map .pl))])
noncomputable def f53r9n1(ba1:Qd)(be2:Qa)(bd3:Int):Option f53r9n1O :=
 (f53r9n2 FUEL ba1 be2 bd3 0 []).bind fun o43=>match o43 with
 | .exit0 v45=>some (.norm v45)
theorem f53r9n1_ok(ba1:Qd)(be2:Qa)(bd3:Int){o:f53r9n1O}(h:f53r9n1 ba1 be2 bd3=some o):T Try.prog Try.f53.ntmps 4 (cL (Qk 1 c53)) (f53r9n1S ba1 be2 bd3) (·=f53r9n1E ba1 be2 bd3 o):=by
 unfold f53r9n1 at h;refine rN Qh 1 [([],[],[(2,.val (jI (ba1.Bids.length:Int)))])] [] [.mat 4 6] [4] [0,2,4,11,12,13] (f53r9n2S ba1 be2 bd3 0 []) (ap (Qr (xs:=ba1.Bids) (c:=Qc.cells)) an) ?_;obtain ⟨o43,h44,h⟩:=Qe h;cases o43 with
 | exit0 v45 =>
  obtain rfl:=Qg h;exact T.last' (T.bl (i:=0) (by kernel_rfl) (by kernel_rfl) (f53r9n2_ok FUEL ba1 be2 bd3 0 [] h44)) (tds:=[]) (m:=[4]) (keep:=[0,2,4]) (st2:=(f53r9n1E ba1 be2 bd3 (.norm v45)).2) (by kernel_rfl) an rfl
inductive f53r9n3O where
 | norm (v96:Int) (v97:Int)
noncomputable def f53r9n3E(bd1:Int)(bf2:List Qf)(bd3:Int)(ba4:Qd)(be5:Qa)(bd6:Int):f53r9n3O→Ex×Tr×Hp
 | .norm v96 v97=>(.norm,mkS [(0,(.yl 0)),(7,(jI v96)),(41,(.own 4)),(42,(jI (bf2.length:Int))),(43,(jI bd3))],[some (.lp Qbw .ready none (kL 38 [(8,(.bp 3 0))])),some (.box ((Qd.cells ba4).map .pl)),some (.box ((Qa.cells be5).map .pl)),some (.box (((cInt .i64) v97).map .pl)),jR 6 Qf.cells bf2])
noncomputable def f53r9n3S(bd1:Int)(bf2:List Qf)(bd3:Int)(ba4:Qd)(be5:Qa)(bd6:Int):Tr×Hp:=(mkS [(0,(.yl 0)),(7,(jI bd1)),(41,(.own 4)),(42,(jI (bf2.length:Int))),(43,(jI bd3))],[some (.lp Qbw .ready none (kL 38 [(8,(.bp 3 0))])),some (.box ((Qd.cells ba4).map .pl)),some (.box ((Qa.cells be5).map .pl)),some (.box (((cInt .i64) bd6).map .pl)),jR 6 Qf.cells bf2])
noncomputable def f53r9n3(bd1:Int)(bf2:List Qf)(bd3:Int)(ba4:Qd)(be5:Qa)(bd6:Int):Option f53r9n3O :=
 (at? bf2 bd3).bind fun x92 =>
 (f18y1n0 (Qf.mk x92.index (mnI bd1 x92.bid.Units) x92.bid) bd6).bind fun o94=>match o94 with
 | .norm=>some (.norm (wr64 (bd1-(mnI bd1 x92.bid.Units))) (wr64 (bd6-(mnI bd1 x92.bid.Units))))
theorem f53r9n3_ok(bd1:Int)(bf2:List Qf)(bd3:Int)(ba4:Qd)(be5:Qa)(bd6:Int){o:f53r9n3O}(h:f53r9n3 bd1 bf2 bd3 ba4 be5 bd6=some o):T Try.prog Try.f53.ntmps 4 (cL (Qk 2 (cL (cL (Qk 3 (Qk 1 (Qk 1 c53))))))) (f53r9n3S bd1 bf2 bd3 ba4 be5 bd6) (·=f53r9n3E bd1 bf2 bd3 ba4 be5 bd6 o):=by
 unfold f53r9n3 at h;refine T.block' (i:=3) (by kernel_rfl) ?_;obtain ⟨x92,h93,h⟩:=Qe h;refine rN Qh 3 [([],[(0,.at_ (Int.toNat bd3)),(1,.idx 0 (Qf.cells x92))],[]),j3,j3] [] [] [5,4] [0,7,9,41,42,43] (mkS [(0,(.yl 0)),(7,(jI (wr64 (bd1-(mnI bd1 x92.bid.Units))))),(9,(.bp 4 0)),(41,(.own 5)),(42,(jI (bf2.length:Int))),(43,(jI bd3))],[some (.lp Qbw .ready none (kL 38 [(8,(.bp 3 0))])),some (.box ((Qd.cells ba4).map .pl)),some (.box ((Qa.cells be5).map .pl)),some (.box (((cInt .i64) bd6).map .pl)),some (.box ((Qf.cells (Qf.mk x92.index (mnI bd1 x92.bid.Units) x92.bid)).map .pl)),jR 6 Qf.cells bf2]) (ap (Qj h93).1 (ap (Qal Qf.cells (Qj h93).2) (ap (Qm Qf.cells (Qj h93).2) an))) ?_;obtain ⟨o94,h95,h⟩:=Qe h;cases o94 with
 | norm =>
  refine T.oneN (by kernel_rfl) (yN Qh j3 2 true [some (.lp Qbw .ready none (kL 38 [(8,(.bp 3 0))])),none,none,some (.box (((cInt .i64) (wr64 (bd6-(mnI bd1 x92.bid.Units)))).map .pl)),none,none] [] [5] [0,7,41,42,43,60] (mkS [(0,(.yl 0)),(7,(jI (wr64 (bd1-(mnI bd1 x92.bid.Units))))),(41,(.own 4)),(42,(jI (bf2.length:Int))),(43,(jI bd3)),(60,(jB false))],[some (.lp Qbw .ready none (kL 38 [(8,(.bp 3 0))])),some (.box ((Qd.cells ba4).map .pl)),some (.box ((Qa.cells be5).map .pl)),some (.box (((cInt .i64) (wr64 (bd6-(mnI bd1 x92.bid.Units)))).map .pl)),jR 6 Qf.cells bf2]) (ap (Qbk.rn 6 [0,3] (f18y1_norm (Qf.mk x92.index (mnI bd1 x92.bid.Units) x92.bid) bd6 h95)) an)) rfl ?_;obtain rfl:=Qg h
  exact rE Qh [] [none] [] [4] [0,7,41,42,43] (.norm,(f53r9n3E bd1 bf2 bd3 ba4 be5 bd6 (.norm (wr64 (bd1-(mnI bd1 x92.bid.Units))) (wr64 (bd6-(mnI bd1 x92.bid.Units))))).2) an rfl
inductive f53r9n4O where
 | exit2 (v102:Int)
noncomputable def f53r9n4E(x52:List Qf)(a1:Qd)(a2:Qa):f53r9n4O→Ex×Tr×Hp
 | .exit2 v102=>((.exit 2),mkS [],[some (.lp Qbw .ready none (kL 38 [(8,(.bp 3 0))])),some (.box ((Qd.cells a1).map .pl)),some (.box ((Qa.cells a2).map .pl)),some (.box (((cInt .i64) v102).map .pl))])
noncomputable def f53r9n4S(x52:List Qf)(a1:Qd)(a2:Qa)(v85 v86 v87:Int):Tr×Hp:=(mkS [(0,(.yl 0)),(7,(jI v85)),(41,(.own 4)),(42,(jI (x52.length:Int))),(43,(jI v86))],[some (.lp Qbw .ready none (kL 38 [(8,(.bp 3 0))])),some (.box ((Qd.cells a1).map .pl)),some (.box ((Qa.cells a2).map .pl)),some (.box (((cInt .i64) v87).map .pl)),jR 6 Qf.cells x52])
noncomputable def f53r9n4:Nat→List Qf→Qd→Qa→Int→Int→Int→Option f53r9n4O
 | 0,_,_,_,_,_,_=>none
 | f+1,x52,a1,a2,v85,v86,v87 =>
  bif decide (v86<(x52.length:Int)) then
   (f53r9n3 v85 x52 v86 a1 a2 v87).bind fun o98=>match o98 with
   | .norm v100 v101=>(f53r9n4 f x52 a1 a2 v100 (wr64 (v86+1)) v101)
  else
   some (.exit2 v87)
theorem f53r9n4_ok:∀(f:Nat)(x52:List Qf)(a1:Qd)(a2:Qa)(v85 v86 v87:Int){o:f53r9n4O},f53r9n4 f x52 a1 a2 v85 v86 v87=some o→TL Try.prog Try.f53.ntmps 4 f (cL (cL (Qk 3 (Qk 1 (Qk 1 c53))))) (f53r9n4S x52 a1 a2 v85 v86 v87) (·=f53r9n4E x52 a1 a2 o)
 | 0,_,_,_,_,_,_,o,h=>by rw [f53r9n4] at h; cases h
 | f+1,x52,a1,a2,v85,v86,v87,o,h=>by
  rw [f53r9n4] at h;refine TL.body (K:=fun s=>∃v85:Int,∃v86:Int,∃v87:Int,s=(f53r9n4S x52 a1 a2 v85 v86 v87)∧f53r9n4 f x52 a1 a2 v85 v86 v87=some o) ?_ (by rintro _ ⟨v85,v86,v87,rfl,hk⟩; exact f53r9n4_ok f _ _ _ _ _ _ hk);rcases Qi h with ⟨h89,h⟩|⟨h89,h⟩
  ·refine rN Qh 2 [j3] [some true] [] [4] [0,7,41,42,43] (f53r9n3S v85 x52 v86 a1 a2 v87) (ap h89 an) ?_;obtain ⟨o98,h99,h⟩:=Qe h;cases o98 with
   | norm v100 v101 =>
    refine T.oneN (by kernel_rfl) (f53r9n3_ok v85 x52 v86 a1 a2 v87 h99) (st2:=(f53r9n3E v85 x52 v86 a1 a2 v87 (.norm v100 v101)).2) rfl ?_;exact rE Qh [j3] [] [] [4] [0,7,41,42,43] (.norm,(f53r9n4S x52 a1 a2 v100 (wr64 (v86+1)) v101)) an (Qs.norm ⟨v100,(wr64 (v86+1)),v101,rfl,h⟩)
  ·obtain rfl:=Qg h;exact rK Qh 2 [j3] [some false] [] [] [] (.exit 2) ((f53r9n4E x52 a1 a2 (.exit2 v87)).2) (ap h89 an) (Qs.out rfl rfl)
inductive f53r9n0O where
 | norm (v106:Int)
noncomputable def f53r9n0E(a1:Qd)(a2:Qa)(a3:Int):f53r9n0O→Ex×Tr×Hp
 | .norm v106=>(.norm,mkS [],[some (.lp Qbw .ready none (kL 38 [(8,(.bp 3 0))])),some (.box ((Qd.cells a1).map .pl)),some (.box ((Qa.cells a2).map .pl)),some (.box (((cInt .i64) v106).map .pl))])
noncomputable def f53r9n0S(a1:Qd)(a2:Qa)(a3:Int):Tr×Hp:=(Qab [(.yl 0),(.bp 1 0),(.bp 2 0)] 0 .leaf,[some (.lp Qbw .ready none (kL 38 [(8,(.bp 3 0))])),some (.box ((Qd.cells a1).map .pl)),some (.box ((Qa.cells a2).map .pl)),some (.box (((cInt .i64) a3).map .pl))])
noncomputable def f53r9n0(a1:Qd)(a2:Qa)(a3:Int):Option f53r9n0O :=
 (f53r9n1 a1 a2 a3).bind fun o47=>match o47 with
 | .norm v49=>(f54r1 v49).bind fun x52 =>
  (f53r9n4 FUEL x52 a1 a2 a2.Units 0 a3).bind fun o103=>match o103 with
  | .exit2 v105=>some (.norm v105)
theorem f53r9n0_ok(a1:Qd)(a2:Qa)(a3:Int){o:f53r9n0O}(h:f53r9n0 a1 a2 a3=some o):T Try.prog Try.f53.ntmps 4 c53 (f53r9n0S a1 a2 a3) (·=f53r9n0E a1 a2 a3 o):=by
 unfold f53r9n0 at h;refine rN Qh 1 [j3] [] [] [] [0,1,2,4] (f53r9n1S a1 a2 a3) an ?_;obtain ⟨o47,h48,h⟩:=Qe h;cases o47 with
 | norm v49 =>
  refine T.oneN (by kernel_rfl) (f53r9n1_ok a1 a2 a3 h48) (st2:=(f53r9n1E a1 a2 a3 (.norm v49)).2) rfl ?_;obtain ⟨x52,h53,h⟩:=Qe h;refine rN Qh 3 [([],[(1,.call (.tup []) (jN 4 [jR 6 Qf.cells x52]))],[]),j3,([],[],[(1,.val (jI (x52.length:Int)))])] [] [] [4] [0,7,41,42,43] (f53r9n4S x52 a1 a2 a2.Units 0 a3) (ap (Qn.rn 5 [4] (f54r1_ok v49 h53)) (ap (Qr (xs:=x52) (c:=Qf.cells)) an)) ?_;obtain ⟨o103,h104,h⟩:=Qe h;cases o103 with
  | exit2 v105 =>
   obtain rfl:=Qg h;exact T.last' (T.bl (i:=2) (by kernel_rfl) (by kernel_rfl) (f53r9n4_ok FUEL x52 a1 a2 a2.Units 0 a3 h104)) (tds:=[]) (m:=[]) (keep:=[]) (st2:=(f53r9n0E a1 a2 a3 (.norm v105)).2) (by kernel_rfl) an rfl
noncomputable def f53r9(a1:Qd)(a2:Qa)(a3:Int):Option Int:=(f53r9n0 a1 a2 a3).bind fun o=>match o with
 | .norm v106=>some v106
theorem f53r9_ok(a1:Qd)(a2:Qa)(a3:Int){r:Int}(h:f53r9 a1 a2 a3=some r):Qn Try.prog true 53 [(.yl 0),(.bp 1 0),(.bp 2 0)] [some (.lp Qbw .ready none (kL 38 [(8,(.bp 3 0))])),some (.box ((Qd.cells a1).map .pl)),some (.box ((Qa.cells a2).map .pl)),some (.box (((cInt .i64) a3).map .pl))] (.tup []) [some (.lp Qbw .ready none (kL 38 [(8,(.bp 3 0))])),some (.box ((Qd.cells a1).map .pl)),some (.box ((Qa.cells a2).map .pl)),some (.box (((cInt .i64) r).map .pl))]:=by
 unfold f53r9 at h;obtain ⟨o,ho,h⟩:=Qe h;cases o with
 | norm v106 =>
  obtain rfl:=Qg h;exact Qn.shared Qh (f:=Try.f53) (c:=c53) (by kernel_rfl) (by kernel_rfl) (by kernel_rfl) ((f53r9n0_ok a1 a2 a3 ho).mono fun r e=>by subst e; exact ⟨.inr rfl,by kernel_rfl,by kernel_rfl⟩)
end Go.Proofs.Ythpceddjepbamaa
namespace Go.Proofs.Ythpceddjepbamaa
set_option linter.unusedVariables false
set_option linter.unusedSimpArgs false
set_option maxRecDepth 100000
open Go.RowKit
inductive f18n4O where
 | norm (v74:Int)
def f18n4E(ba1:Qd)(bd2:Int)(bl3:List Int)(be4:Qa):f18n4O→Ex×Tr×Hp
 | .norm v74=>(.norm,mkS [(1,(.bp 0 0)),(2,(.pl (.sl .nil 0 []))),(3,(jI 0)),(5,(.own 1)),(8,(.bp 2 0)),(16,(jL 3 Qa.cells ba1.Lots)),(17,(jI (ba1.Lots.length:Int))),(18,(jI bd2))],[some (.box ((Qd.cells ba1).map .pl)),some (.row false 1 (bl3.map (cInt .i64))),some (.box (((cInt .i64) v74).map .pl))])
def f18n4S(ba1:Qd)(bd2:Int)(bl3:List Int)(be4:Qa):Tr×Hp:=(mkS [(1,(.bp 0 0)),(2,(.pl (.sl .nil 0 []))),(3,(jI 0)),(5,(.own 1)),(8,(.bp 2 0)),(16,(jL 3 Qa.cells ba1.Lots)),(17,(jI (ba1.Lots.length:Int))),(18,(jI bd2)),(26,(.clo 53 [(.bp 3 0),(.bp 4 0)]))],[some (.box ((Qd.cells ba1).map .pl)),some (.row false 1 (bl3.map (cInt .i64))),some (.box (((cInt .i64) be4.Units).map .pl)),some (.box ((Qd.cells ba1).map .pl)),some (.box ((Qa.cells be4).map .pl))])
noncomputable def f18n4(ba1:Qd)(bd2:Int)(bl3:List Int)(be4:Qa):Option f18n4O :=
 (f53r9 ba1 be4 be4.Units).bind fun x72 =>
 some (.norm x72)
theorem f18n4_ok(ba1:Qd)(bd2:Int)(bl3:List Int)(be4:Qa){o:f18n4O}(h:f18n4 ba1 bd2 bl3 be4=some o):T Try.prog Try.f18.ntmps 0 (Qk 1 (cL (Qk 2 (cL (cL (Qk 2 (cL (cL (Qk 1 (cL (Qk 3 c18))))))))))) (f18n4S ba1 bd2 bl3 be4) (·=f18n4E ba1 bd2 bl3 be4 o):=by
 unfold f18n4 at h;refine T.block' (i:=2) (by kernel_rfl) ?_;refine rN Qh 0 [] [] [] [0,1,2,3,4] [1,2,3,5,8,16,17,18,26] (mkS [(1,(.bp 0 0)),(2,(.pl (.sl .nil 0 []))),(3,(jI 0)),(5,(.own 1)),(8,(.bp 2 0)),(16,(jL 3 Qa.cells ba1.Lots)),(17,(jI (ba1.Lots.length:Int))),(18,(jI bd2)),(26,(.clo 53 [(.bp 3 0),(.bp 4 0)]))],[some (.box ((Qd.cells ba1).map .pl)),some (.row false 1 (bl3.map (cInt .i64))),some (.box (((cInt .i64) be4.Units).map .pl)),some (.box ((Qd.cells ba1).map .pl)),some (.box ((Qa.cells be4).map .pl))]) an ?_;obtain ⟨x72,h73,h⟩:=Qe h;obtain rfl:=Qg h
 exact T.last' (rgN 53 [(.bp 3 0),(.bp 4 0)] [8] (.tup []) [none,none,some (.box (((cInt .i64) x72).map .pl)),some (.box ((Qd.cells ba1).map .pl)),some (.box ((Qa.cells be4).map .pl)),some (.lp Qbw .ready none (kL 38 [(8,(.bp 2 0))]))] none .ready (kL 38 [(8,(.bp 2 0))]) .norm [] [0,1,2] [1,2,3,5,8,16,17,18] (mkS [(1,(.bp 0 0)),(2,(.pl (.sl .nil 0 []))),(3,(jI 0)),(5,(.own 1)),(8,(.bp 2 0)),(16,(jL 3 Qa.cells ba1.Lots)),(17,(jI (ba1.Lots.length:Int))),(18,(jI bd2))],[some (.box ((Qd.cells ba1).map .pl)),some (.row false 1 (bl3.map (cInt .i64))),some (.box (((cInt .i64) x72).map .pl))]) (Qn.rn 6 [5,3,4,2] (f53r9_ok ba1 be4 be4.Units h73)) an) (tds:=[]) (m:=[0,1,2]) (keep:=[1,2,3,5,8,16,17,18]) (st2:=(f18n4E ba1 bd2 bl3 be4 (.norm x72)).2) (by kernel_rfl) an rfl
inductive f18n3O where
 | norm (v78:Int)
def f18n3E(ba1:Qd)(bd2:Int)(bl3:List Int)(be4:Qa):f18n3O→Ex×Tr×Hp
 | .norm v78=>(.norm,mkS [(1,(.bp 0 0)),(2,(.pl (.sl .nil 0 []))),(3,(jI 0)),(5,(.own 1)),(8,(.bp 2 0)),(16,(jL 3 Qa.cells ba1.Lots)),(17,(jI (ba1.Lots.length:Int))),(18,(jI bd2))],[some (.box ((Qd.cells ba1).map .pl)),some (.row false 1 (bl3.map (cInt .i64))),some (.box (((cInt .i64) v78).map .pl))])
def f18n3S(ba1:Qd)(bd2:Int)(bl3:List Int)(be4:Qa):Tr×Hp:=(mkS [(1,(.bp 0 0)),(2,(.pl (.sl .nil 0 []))),(3,(jI 0)),(5,(.own 1)),(7,(.bp 2 0)),(8,(.bp 3 0)),(16,(jL 3 Qa.cells ba1.Lots)),(17,(jI (ba1.Lots.length:Int))),(18,(jI bd2))],[some (.box ((Qd.cells ba1).map .pl)),some (.row false 1 (bl3.map (cInt .i64))),some (.box ((Qa.cells be4).map .pl)),some (.box (((cInt .i64) be4.Units).map .pl))])
noncomputable def f18n3(ba1:Qd)(bd2:Int)(bl3:List Int)(be4:Qa):Option f18n3O :=
 (f35r1 ba1 be4).bind fun x70 =>
 (f18n4 ba1 bd2 bl3 be4).bind fun o75=>match o75 with
 | .norm v77=>some (.norm v77)
theorem f18n3_ok(ba1:Qd)(bd2:Int)(bl3:List Int)(be4:Qa){o:f18n3O}(h:f18n3 ba1 bd2 bl3 be4=some o):T Try.prog Try.f18.ntmps 0 (cL (Qk 2 (cL (cL (Qk 2 (cL (cL (Qk 1 (cL (Qk 3 c18)))))))))) (f18n3S ba1 bd2 bl3 be4) (·=f18n3E ba1 bd2 bl3 be4 o):=by
 unfold f18n3 at h;obtain ⟨x70,h71,h⟩:=Qe h;refine rN Qh 1 [([],[(2,.call (.clo 53 [(.bp 4 0),(.bp 5 0)]) (jN 4 [some (.box ((Qd.cells ba1).map .pl)),some (.box ((Qa.cells be4).map .pl))]))],[])] [] [] [0,1,3,4,5] [1,2,3,5,8,16,17,18,26] (f18n4S ba1 bd2 bl3 be4) (ap (Qn.rn 4 [] (f35r1_ok ba1 be4 h71)) an) ?_;obtain ⟨o75,h76,h⟩:=Qe h;cases o75 with
 | norm v77 =>
  obtain rfl:=Qg h;exact T.last' (f18n4_ok ba1 bd2 bl3 be4 h76) (tds:=[]) (m:=[0,1,2]) (keep:=[1,2,3,5,8,16,17,18]) (st2:=(f18n3E ba1 bd2 bl3 be4 (.norm v77)).2) (by kernel_rfl) an rfl
inductive f18n2O where
 | norm (v84:List Int)
def f18n2E(ba1:Qd)(bd2:Int)(bl3:List Int):f18n2O→Ex×Tr×Hp
 | .norm v84=>(.norm,mkS [(1,(.bp 0 0)),(2,(.pl (.sl .nil 0 []))),(3,(jI 0)),(5,(.own 1)),(16,(jL 3 Qa.cells ba1.Lots)),(17,(jI (ba1.Lots.length:Int))),(18,(jI bd2))],[some (.box ((Qd.cells ba1).map .pl)),some (.row false 1 (v84.map (cInt .i64)))])
def f18n2S(ba1:Qd)(bd2:Int)(bl3:List Int):Tr×Hp:=(mkS [(1,(.bp 0 0)),(2,(.pl (.sl .nil 0 []))),(3,(jI 0)),(5,(.own 1)),(16,(jL 3 Qa.cells ba1.Lots)),(17,(jI (ba1.Lots.length:Int))),(18,(jI bd2))],[some (.box ((Qd.cells ba1).map .pl)),some (.row false 1 (bl3.map (cInt .i64)))])
noncomputable def f18n2(ba1:Qd)(bd2:Int)(bl3:List Int):Option f18n2O :=
 (at? ba1.Lots bd2).bind fun x66 =>
 (f18n3 ba1 bd2 bl3 x66).bind fun o79=>match o79 with
 | .norm v81=>req (fit (bl3.length+1) 8) <|
  some (.norm (bl3++[v81]))
theorem f18n2_ok(ba1:Qd)(bd2:Int)(bl3:List Int){o:f18n2O}(h:f18n2 ba1 bd2 bl3=some o):T Try.prog Try.f18.ntmps 0 (cL (Qk 2 (cL (cL (Qk 1 (cL (Qk 3 c18))))))) (f18n2S ba1 bd2 bl3) (·=f18n2E ba1 bd2 bl3 o):=by
 unfold f18n2 at h;refine T.block' (i:=1) (by kernel_rfl) ?_;obtain ⟨x66,h67,h⟩:=Qe h;refine rN Qh 2 [([],[(0,.idx (Int.toNat bd2) (Qa.cells x66))],[]),j3] [] [] [0,1,2,3] [1,2,3,5,7,8,16,17,18] (f18n3S ba1 bd2 bl3 x66) (ap (Qj h67).1 (ap (Qm Qa.cells (Qj h67).2) an)) ?_;obtain ⟨o79,h80,h⟩:=Qe h;cases o79 with
 | norm v81 =>
  refine T.oneN (by kernel_rfl) (f18n3_ok ba1 bd2 bl3 x66 h80) (st2:=(f18n3E ba1 bd2 bl3 x66 (.norm v81)).2) rfl ?_;obtain ⟨h83,h⟩:=Qak h;obtain rfl:=Qg h;exact rE Qh [([],[(3,.fits)],[(3,.row 4 ((bl3++[v81]).map (cInt .i64)))])] [] [] [0,4] [1,2,3,5,16,17,18] (.norm,(f18n2E ba1 bd2 bl3 (.norm (bl3++[v81]))).2) (ap (fit_map (te:=ti3) (xs:=bl3) (n:=1) (c:=(cInt .i64)) h83 rfl) (ap (app_cv (xs:=bl3) (ys:=[v81]) (c:=(cInt .i64))) an)) rfl
inductive f18n5O where
 | exit0 (v88:List Int)
def f18n5E(ba1:Qd):f18n5O→Ex×Tr×Hp
 | .exit0 v88=>((.exit 0),mkS [(5,(.own 0))],[some (.row false 1 (v88.map (cInt .i64)))])
def f18n5S(ba1:Qd)(v60:Int)(v61:List Int):Tr×Hp:=(mkS [(1,(.bp 0 0)),(2,(.pl (.sl .nil 0 []))),(3,(jI 0)),(5,(.own 1)),(16,(jL 3 Qa.cells ba1.Lots)),(17,(jI (ba1.Lots.length:Int))),(18,(jI v60))],[some (.box ((Qd.cells ba1).map .pl)),some (.row false 1 (v61.map (cInt .i64)))])
noncomputable def f18n5:Nat→Qd→Int→List Int→Option f18n5O
 | 0,_,_,_=>none
 | f+1,ba1,v60,v61 =>
  bif decide (v60<(ba1.Lots.length:Int)) then
   (f18n2 ba1 v60 v61).bind fun o85=>match o85 with
   | .norm v87=>(f18n5 f ba1 (wr64 (v60+1)) v87)
  else
   some (.exit0 v61)
theorem f18n5_ok:∀(f:Nat)(ba1:Qd)(v60:Int)(v61:List Int){o:f18n5O},f18n5 f ba1 v60 v61=some o→TL Try.prog Try.f18.ntmps 0 f (cL (cL (Qk 1 (cL (Qk 3 c18))))) (f18n5S ba1 v60 v61) (·=f18n5E ba1 o)
 | 0,_,_,_,o,h=>by rw [f18n5] at h; cases h
 | f+1,ba1,v60,v61,o,h=>by
  rw [f18n5] at h;refine TL.body (K:=fun s=>∃v60:Int,∃v61:List Int,s=(f18n5S ba1 v60 v61)∧f18n5 f ba1 v60 v61=some o) ?_ (by rintro _ ⟨v60,v61,rfl,hk⟩; exact f18n5_ok f _ _ _ hk);rcases Qi h with ⟨h63,h⟩|⟨h63,h⟩
  ·refine rN Qh 2 [j3] [some true] [] [0,1] [1,2,3,5,16,17,18] (f18n2S ba1 v60 v61) (ap h63 an) ?_;obtain ⟨o85,h86,h⟩:=Qe h;cases o85 with
   | norm v87 =>
    refine T.oneN (by kernel_rfl) (f18n2_ok ba1 v60 v61 h86) (st2:=(f18n2E ba1 v60 v61 (.norm v87)).2) rfl ?_;exact rE Qh [j3] [] [] [0,1] [1,2,3,5,16,17,18] (.norm,(f18n5S ba1 (wr64 (v60+1)) v87)) an (Qs.norm ⟨(wr64 (v60+1)),v87,rfl,h⟩)
  ·obtain rfl:=Qg h;exact rK Qh 2 [j3] [some false] [] [1] [5] (.exit 0) ((f18n5E ba1 (.exit0 v61)).2) (ap h63 an) (Qs.out rfl rfl)
inductive f18n1O where
 | norm (v92:List Int)
def f18n1E(ba1:Qd):f18n1O→Ex×Tr×Hp
 | .norm v92=>(.norm,mkS [(5,(.own 0))],[some (.row false 1 (v92.map (cInt .i64)))])
def f18n1S(ba1:Qd):Tr×Hp:=(mkS [(1,(.bp 0 0)),(2,(.pl (.sl .nil 0 []))),(3,(jI 0)),(5,(.pl (.sl .nil 0 [])))],[some (.box ((Qd.cells ba1).map .pl))])
noncomputable def f18n1(ba1:Qd):Option f18n1O :=
 (f18n5 FUEL ba1 0 []).bind fun o89=>match o89 with
 | .exit0 v91=>some (.norm v91)
theorem f18n1_ok(ba1:Qd){o:f18n1O}(h:f18n1 ba1=some o):T Try.prog Try.f18.ntmps 0 (cL (Qk 3 c18)) (f18n1S ba1) (·=f18n1E ba1 o):=by
 unfold f18n1 at h;refine rN Qh 1 [([],[],[(2,.val (jI (ba1.Lots.length:Int)))])] [] [.mat 5 1] [0,1] [1,2,3,5,16,17,18] (f18n5S ba1 0 []) (ap (Qr (xs:=ba1.Lots) (c:=Qa.cells)) an) ?_;obtain ⟨o89,h90,h⟩:=Qe h;cases o89 with
 | exit0 v91 =>
  obtain rfl:=Qg h;exact T.last' (T.bl (i:=0) (by kernel_rfl) (by kernel_rfl) (f18n5_ok FUEL ba1 0 [] h90)) (tds:=[]) (m:=[0]) (keep:=[5]) (st2:=(f18n1E ba1 (.norm v91)).2) (by kernel_rfl) an rfl
inductive f18n0O where
 | ret (v96:Int) (v97:List Int)
def f18n0E(a1:Qd):f18n0O→Ex×Tr×Hp
 | .ret v96 v97=>(.ret,mkS [(2,(.own 0)),(3,(jI v96))],[some (.row false 1 (v97.map (cInt .i64)))])
def f18n0S(a1:Qd):Tr×Hp:=(Qab [(jA Qd.cells a1)] 0 .leaf,[])
noncomputable def f18n0(a1:Qd):Option f18n0O :=
 (f31 a1).bind fun x5 =>
 bif decide (x5=0) then
  (f18n1 a1).bind fun o93=>match o93 with
  | .norm v95=>some (.ret 0 v95)
 else
  some (.ret x5 [])
theorem f18n0_ok(a1:Qd){o:f18n0O}(h:f18n0 a1=some o):T Try.prog Try.f18.ntmps 0 c18 (f18n0S a1) (·=f18n0E a1 o):=by
 unfold f18n0 at h;obtain ⟨x5,h6,h⟩:=Qe h;rcases Qi h with ⟨h7,h⟩|⟨h7,h⟩
 ·refine rN Qh 3 [j3,([],[jH 1 (jI x5)],[]),j3,j3] [some false] [] [0] [1,2,3,5] (f18n1S a1) (ap (f31_ok a1 h6) (ap (Qt h7) an)) ?_;obtain ⟨o93,h94,h⟩:=Qe h;cases o93 with
  | norm v95 =>
   refine T.oneN (by kernel_rfl) (f18n1_ok a1 h94) (st2:=(f18n1E a1 (.norm v95)).2) rfl ?_;obtain rfl:=Qg h;exact rE Qh [j3] [] [] [0] [2,3] (.ret,(f18n0E a1 (.ret 0 v95)).2) an rfl
 ·obtain rfl:=Qg h;exact rK Qh 2 [j3,([],[jH 1 (jI x5)],[]),j3,j3] [some true] [.mat 2 1] [1] [2,3] .ret ((f18n0E a1 (.ret x5 [])).2) (ap (f31_ok a1 h6) (ap (Qad h7) an)) rfl
noncomputable def f18(a1:Qd):Option ((List Int)×Int):=(f18n0 a1).bind fun o=>match o with
 | .ret v96 v97=>some (v97,v96)
theorem f18_ok(a1:Qd){r:(List Int)×Int}(h:f18 a1=some r):Qn Try.prog false 18 [(jA Qd.cells a1)] [] (.tup [(.pl (.sl .any 1 (r.1.map (cInt .i64)))),(jI r.2)]) []:=by
 unfold f18 at h;obtain ⟨o,ho,h⟩:=Qe h;cases o with
 | ret v96 v97 =>
  obtain rfl:=Qg h;exact Qn.plain Qh (f:=Try.f18) (c:=c18) (by kernel_rfl) (by kernel_rfl) (by kernel_rfl) (by kernel_rfl) ((f18n0_ok a1 ho).mono fun r e=>by subst e; exact ⟨.inl rfl,(.tup [(.own 0),(jI v96)]),(.tup [(.pl (.sl .any 1 (v97.map (cInt .i64)))),(jI v96)]),by kernel_rfl,by kernel_rfl,((Wk.refl _):Wk (.tup [(.pl (.sl .any 1 (v97.map (cInt .i64)))),(jI v96)]) (.tup [(.pl (.sl .any 1 (v97.map (cInt .i64)))),(jI v96)]))⟩)

noncomputable def c7:Code:=Try.f7.body.getD .skip

noncomputable def c43:Code:=Try.f43.body.getD .skip
inductive f43r1n0O where
 | ret (v5:List Qa)
def f43r1n0E(a1:List Qa):f43r1n0O→Ex×Tr×Hp
 | .ret v5=>(.ret,mkS [(2,(.own 1))],[jR 3 Qa.cells a1,jR 3 Qa.cells v5])
def f43r1n0S(a1:List Qa):Tr×Hp:=(Qab [(.own 0)] 0 .leaf,[jR 3 Qa.cells a1])
noncomputable def f43r1n0(a1:List Qa):Option f43r1n0O :=
 bif (a1.isEmpty) then
  some (.ret [])
 else
  req (fit a1.length 32) <|
  some (.ret a1)
theorem f43r1n0_ok(a1:List Qa){o:f43r1n0O}(h:f43r1n0 a1=some o):T Try.prog Try.f43.ntmps 1 c43 (f43r1n0S a1) (·=f43r1n0E a1 o):=by
 unfold f43r1n0 at h;refine rN Qh 1 [j3] [] [] [] [0] (mkS [(0,(.own 0))],[jR 3 Qa.cells a1]) an ?_;refine T.nest (by kernel_rfl) ?_;rcases Qi h with ⟨h2,h⟩|⟨h2,h⟩
 ·refine rN Qh 0 [] [] [] [] [0] (mkS [(0,(.own 0))],[jR 3 Qa.cells a1]) an ?_;refine T.oneNil Qh (x:=.tmp 0) (t:=22) (t3:=3) (t4:=4) (sz:=3) (es:=(a1.map Qa.cells)) (by kernel_rfl) (by kernel_rfl) (by kernel_rfl) (by kernel_rfl) (by kernel_rfl) (fun b hb=>?_);cases b
  ·refine rE Qh [] [none] [] [] [0] (.norm,(mkS [(0,(.own 0))],[jR 3 Qa.cells a1])) an (ThenQ.norm ?_);obtain rfl:=Qg h;exact rE Qh [([],[(2,.app false)],[])] [] [] [1] [2] (.ret,(f43r1n0E a1 (.ret [])).2) (ap (nil_map (c:=Qa.cells) h2) an) rfl
  ·obtain rfl:=Qg h;exact rE Qh [j3] [none] [.mat 2 3] [1] [2] (.ret,(f43r1n0E a1 (.ret [])).2) an (ThenQ.out rfl rfl)
 ·refine rN Qh 0 [] [] [] [] [0] (mkS [(0,(.own 0))],[jR 3 Qa.cells a1]) an ?_;refine T.oneNil Qh (x:=.tmp 0) (t:=22) (t3:=3) (t4:=4) (sz:=3) (es:=(a1.map Qa.cells)) (by kernel_rfl) (by kernel_rfl) (by kernel_rfl) (by kernel_rfl) (by kernel_rfl) (fun b hb=>?_);cases b
  ·refine rE Qh [] [none] [] [] [0] (.norm,(mkS [(0,(.own 0))],[jR 3 Qa.cells a1])) an (ThenQ.norm ?_);obtain ⟨h4,h⟩:=Qak h;obtain rfl:=Qg h;exact rE Qh [([],[(2,.app true)],[])] [] [] [2] [2] (.ret,(f43r1n0E a1 (.ret a1)).2) (ap (fit_map0z (te:=ti39) (xs:=a1) (c:=Qa.cells) h4 rfl) (ap (ne_map (c:=Qa.cells) h2) (ap (len_all (c:=Qa.cells) (xs:=a1) (n:=3) (fun _=>rfl)) an))) rfl
  ·exact absurd (hb rfl) (ne_map (c:=Qa.cells) h2)
noncomputable def f43r1(a1:List Qa):Option (List Qa):=(f43r1n0 a1).bind fun o=>match o with
 | .ret v5=>some v5
theorem f43r1_ok(a1:List Qa){r:List Qa}(h:f43r1 a1=some r):Qn Try.prog true 43 [(.own 0)] [jR 3 Qa.cells a1] (.own 1) [jR 3 Qa.cells a1,jR 3 Qa.cells r]:=by
 unfold f43r1 at h;obtain ⟨o,ho,h⟩:=Qe h;cases o with
 | ret v5 =>
  obtain rfl:=Qg h;exact Qn.shared Qh (f:=Try.f43) (c:=c43) (by kernel_rfl) (by kernel_rfl) (by kernel_rfl) ((f43r1n0_ok a1 ho).mono fun r e=>by subst e; exact ⟨.inl rfl,by kernel_rfl,by kernel_rfl⟩)

noncomputable def c19:Code:=Try.f19.body.getD .skip
inductive f19r1n0O where
 | ret (v13:Int) (v14:Int) (v15:List Qa)
def f19r1n0E(a1:Int)(a2:List Qa):f19r1n0O→Ex×Tr×Hp
 | .ret v13 v14 v15=>(.ret,mkS [(4,(.bp 1 0)),(5,(jI v13))],[jR 3 Qa.cells a2,some (.box [(.pl (.int .u8 v14)),(.own 2),(.pl (.sl .nil 0 []))]),jR 3 Qa.cells v15])
def f19r1n0S(a1:Int)(a2:List Qa):Tr×Hp:=(Qab [(.pl (.int .u8 a1)),(.own 0)] 0 .leaf,[jR 3 Qa.cells a2])
noncomputable def f19r1n0(a1:Int)(a2:List Qa):Option f19r1n0O :=
 (f43r1 a2).bind fun x5 =>
 (f31 (Qd.mk a1 x5 [])).bind fun x10 =>
 bif decide (x10=0) then
  some (.ret 0 a1 x5)
 else
  some (.ret 2 0 [])
theorem f19r1n0_ok(a1:Int)(a2:List Qa){o:f19r1n0O}(h:f19r1n0 a1 a2=some o):T Try.prog Try.f19.ntmps 1 c19 (f19r1n0S a1 a2) (·=f19r1n0E a1 a2 o):=by
 unfold f19r1n0 at h;obtain ⟨x5,h6,h⟩:=Qe h;obtain ⟨x10,h11,h⟩:=Qe h;rcases Qi h with ⟨h12,h⟩|⟨h12,h⟩
 ·obtain rfl:=Qg h;exact rE Qh [j3,([],[(2,.call (.own 2) [jR 3 Qa.cells a2,none,jR 3 Qa.cells x5])],[]),([],[jH 1 (jI x10)],[]),j3] [some false] [] [1,2] [4,5] (.ret,(f19r1n0E a1 a2 (.ret 0 a1 x5)).2) (ap (Qn.rn 2 [0] (f43r1_ok a2 h6)) (ap (Qn.wk (args':=[(.pl (.agg [(.int .u8 a1),(.sl .any 3 (x5.map Qa.cells)),(.sl .nil 0 [])]))]) (f31_ok (Qd.mk a1 x5 []) h11) (wlc (Wk.pl (WkP.agg (wpc (WkP.refl _) (wpc (WkP.refl _) (wpc (WkP.nil (f:=.nil) (sz:=0) (sz':=4)) wpn))))) wln) (Wk.refl _) rfl) (ap (Qt h12) an))) rfl
 ·obtain rfl:=Qg h;exact rK Qh 3 [j3,([],[(2,.call (.own 2) [jR 3 Qa.cells a2,none,jR 3 Qa.cells x5])],[]),([],[jH 1 (jI x10)],[]),j3] [some true] [.matC 1 1 3] [1,4] [4,5] .ret ((f19r1n0E a1 a2 (.ret 2 0 [])).2) (ap (Qn.rn 2 [0] (f43r1_ok a2 h6)) (ap (Qn.wk (args':=[(.pl (.agg [(.int .u8 a1),(.sl .any 3 (x5.map Qa.cells)),(.sl .nil 0 [])]))]) (f31_ok (Qd.mk a1 x5 []) h11) (wlc (Wk.pl (WkP.agg (wpc (WkP.refl _) (wpc (WkP.refl _) (wpc (WkP.nil (f:=.nil) (sz:=0) (sz':=4)) wpn))))) wln) (Wk.refl _) rfl) (ap (Qad h12) an))) rfl
noncomputable def f19r1(a1:Int)(a2:List Qa):Option (Int×Int×(List Qa)):=(f19r1n0 a1 a2).bind fun o=>match o with
 | .ret v13 v14 v15=>some (v13,v14,v15)
theorem f19r1_ok(a1:Int)(a2:List Qa){r:Int×Int×(List Qa)}(h:f19r1 a1 a2=some r):Qn Try.prog true 19 [(.pl (.int .u8 a1)),(.own 0)] [jR 3 Qa.cells a2] (.tup [(.agg [(.pl (.int .u8 r.2.1)),(.own 2),(.pl (.sl .nil 0 []))]),(jI r.1)]) [jR 3 Qa.cells a2,some (.box [(.pl (.int .u8 r.2.1)),(.own 2),(.pl (.sl .nil 0 []))]),jR 3 Qa.cells r.2.2]:=by
 unfold f19r1 at h;obtain ⟨o,ho,h⟩:=Qe h;cases o with
 | ret v13 v14 v15 =>
  obtain rfl:=Qg h;exact Qn.shared Qh (f:=Try.f19) (c:=c19) (by kernel_rfl) (by kernel_rfl) (by kernel_rfl) ((f19r1n0_ok a1 a2 ho).mono fun r e=>by subst e; exact ⟨.inl rfl,by kernel_rfl,by kernel_rfl⟩)

inductive f14r2n0O where
 | ret (v7:List Qa)
def f14r2n0E(a1:Int)(a2:List Qa):f14r2n0O→Ex×Tr×Hp
 | .ret v7=>(.ret,mkS [(2,(.bp 0 0))],[some (.box [(.pl (.int .u8 a1)),(.own 1),(.own 2)]),jR 3 Qa.cells v7,some (.row false 4 ([].map Qc.cells))])
def f14r2n0S(a1:Int)(a2:List Qa):Tr×Hp:=(Qab [(.pl (.agg [(.int .u8 a1),(.sl .any 3 (a2.map Qa.cells)),(.sl .nil 0 [])]))] 0 .leaf,[])
noncomputable def f14r2n0(a1:Int)(a2:List Qa):Option f14r2n0O :=
 bif (a2.isEmpty) then
  some (.ret [])
 else
  req (fit a2.length 32) <|
  some (.ret a2)
theorem f14r2n0_ok(a1:Int)(a2:List Qa){o:f14r2n0O}(h:f14r2n0 a1 a2=some o):T Try.prog Try.f14.ntmps 0 c14 (f14r2n0S a1 a2) (·=f14r2n0E a1 a2 o):=by
 unfold f14r2n0 at h;rcases Qi h with ⟨h5,h⟩|⟨h5,h⟩
 ·obtain rfl:=Qg h;exact rE Qh [j3,([],[(3,.app false)],[]),j3,j3] [] [] [1,2,3] [2] (.ret,(f14r2n0E a1 a2 (.ret [])).2) (ap (nil_map (c:=Qa.cells) h5) an) rfl
 ·obtain ⟨h6,h⟩:=Qak h;obtain rfl:=Qg h;exact rE Qh [j3,([],[(3,.app true)],[]),j3,j3] [] [] [1,3,4] [2] (.ret,(f14r2n0E a1 a2 (.ret a2)).2) (ap (fit_map0z (te:=ti39) (xs:=a2) (c:=Qa.cells) h6 rfl) (ap (ne_map (c:=Qa.cells) h5) (ap (len_all (c:=Qa.cells) (xs:=a2) (n:=3) (fun _=>rfl)) an))) rfl
noncomputable def f14r2(a1:Int)(a2:List Qa):Option (List Qa):=(f14r2n0 a1 a2).bind fun o=>match o with
 | .ret v7=>some v7
theorem f14r2_ok(a1:Int)(a2:List Qa){r:List Qa}(h:f14r2 a1 a2=some r):Qn Try.prog true 14 [(.pl (.agg [(.int .u8 a1),(.sl .any 3 (a2.map Qa.cells)),(.sl .nil 0 [])]))] [] (.agg [(.pl (.int .u8 a1)),(.own 1),(.own 2)]) [some (.box [(.pl (.int .u8 a1)),(.own 1),(.own 2)]),jR 3 Qa.cells r,some (.row false 4 ([].map Qc.cells))]:=by
 unfold f14r2 at h;obtain ⟨o,ho,h⟩:=Qe h;cases o with
 | ret v7 =>
  obtain rfl:=Qg h;exact Qn.shared Qh (f:=Try.f14) (c:=c14) (by kernel_rfl) (by kernel_rfl) (by kernel_rfl) ((f14r2n0_ok a1 a2 ho).mono fun r e=>by subst e; exact ⟨.inl rfl,by kernel_rfl,by kernel_rfl⟩)

noncomputable def c52:Code:=Try.f52.body.getD .skip
inductive f52n3O where
 | norm (v302:Bool)
def f52n3E(bb1:ByteArray)(bd2:Int)(bc3:UInt8):f52n3O→Ex×Tr×Hp
 | .norm v302=>(.norm,mkS [(0,(jS bb1)),(3,(jI bd2)),(4,(.pl (.int .u8 (bc3.toNat:Int)))),(5,(jB v302))],[])
def f52n3S(bb1:ByteArray)(bd2:Int)(bc3:UInt8):Tr×Hp:=(mkS [(0,(jS bb1)),(3,(jI bd2)),(4,(.pl (.int .u8 (bc3.toNat:Int))))],[])
noncomputable def f52n3(bb1:ByteArray)(bd2:Int)(bc3:UInt8):Option f52n3O :=
 bif decide (97≤(bc3.toNat:Int)) then
  bif decide ((bc3.toNat:Int)≤122) then
   some (.norm true)
  else
   bif decide (65≤(bc3.toNat:Int)) then
    some (.norm (decide ((bc3.toNat:Int)≤90)))
   else
    some (.norm false)
 else
  bif decide (65≤(bc3.toNat:Int)) then
   some (.norm (decide ((bc3.toNat:Int)≤90)))
  else
   some (.norm false)
theorem f52n3_ok(bb1:ByteArray)(bd2:Int)(bc3:UInt8){o:f52n3O}(h:f52n3 bb1 bd2 bc3=some o):T Try.prog Try.f52.ntmps 0 (cL (Qk 1 (cL (cL (Qk 1 (cL (cL (Qk 1 (cL (Qk 2 c52)))))))))) (f52n3S bb1 bd2 bc3) (·=f52n3E bb1 bd2 bc3 o):=by
 unfold f52n3 at h;rcases Qi h with ⟨h298,h⟩|⟨h298,h⟩
 ·rcases Qi h with ⟨h299,h⟩|⟨h299,h⟩
  ·obtain rfl:=Qg h;exact rE Qh [(jT [3,4,7,8,9,12],[(5,.bool true),(13,.bool true)],[])] [] [] [] [0,3,4,5] (.norm,(f52n3E bb1 bd2 bc3 (.norm true)).2) (ap3 h298 (ap h299 (ap4 h299 an))) rfl
  ·rcases Qi h with ⟨h300,h⟩|⟨h300,h⟩
   ·obtain rfl:=Qg h;exact rE Qh [(jF [7,8,9,12]++jT [3,4,10,11],[(5,.bool true),(12,.bool true),(13,.bool false)],[])] [] [] [] [0,3,4,5] (.norm,(f52n3E bb1 bd2 bc3 (.norm (decide ((bc3.toNat:Int)≤90)))).2) (ap3 h298 (ap3 h299 (ap2 h300 (ap h299 (ap h300 (ap h299 an)))))) rfl
   ·obtain rfl:=Qg h;exact rE Qh [(jF [7,8,9,10,11,12]++jT [3,4],[(5,.bool true),(12,.bool false),(13,.bool false)],[])] [] [] [] [0,3,4,5] (.norm,(f52n3E bb1 bd2 bc3 (.norm false)).2) (ap3 h298 (ap3 h299 (ap2 h300 (ap h299 (ap h300 (ap h299 an)))))) rfl
 ·rcases Qi h with ⟨h301,h⟩|⟨h301,h⟩
  ·obtain rfl:=Qg h;exact rE Qh [(jF [3,4]++jT [10,11],[(5,.bool false),(12,.bool true)],[])] [] [] [] [0,3,4,5] (.norm,(f52n3E bb1 bd2 bc3 (.norm (decide ((bc3.toNat:Int)≤90)))).2) (ap3 h298 (ap3 h301 an)) rfl
  ·obtain rfl:=Qg h;exact rE Qh [(jF [3,4,10,11],[(5,.bool false),(12,.bool false)],[])] [] [] [] [0,3,4,5] (.norm,(f52n3E bb1 bd2 bc3 (.norm false)).2) (ap3 h298 (ap3 h301 an)) rfl
inductive f52n4O where
 | norm (v318:Bool)
def f52n4E(bb1:ByteArray)(bd2:Int)(bc3:UInt8)(bi4:Bool):f52n4O→Ex×Tr×Hp
 | .norm v318=>(.norm,mkS [(0,(jS bb1)),(3,(jI bd2)),(5,(jB bi4)),(6,(jB v318))],[])
def f52n4S(bb1:ByteArray)(bd2:Int)(bc3:UInt8)(bi4:Bool):Tr×Hp:=(mkS [(0,(jS bb1)),(3,(jI bd2)),(4,(.pl (.int .u8 (bc3.toNat:Int)))),(5,(jB bi4))],[])
noncomputable def f52n4(bb1:ByteArray)(bd2:Int)(bc3:UInt8)(bi4:Bool):Option f52n4O :=
 bif decide (48≤(bc3.toNat:Int)) then
  bif decide ((bc3.toNat:Int)≤57) then
   some (.norm true)
  else
   bif decide ((bc3.toNat:Int)=95) then
    some (.norm true)
   else
    some (.norm (decide ((bc3.toNat:Int)=45)))
 else
  bif decide ((bc3.toNat:Int)=95) then
   some (.norm true)
  else
   some (.norm (decide ((bc3.toNat:Int)=45)))
theorem f52n4_ok(bb1:ByteArray)(bd2:Int)(bc3:UInt8)(bi4:Bool){o:f52n4O}(h:f52n4 bb1 bd2 bc3 bi4=some o):T Try.prog Try.f52.ntmps 0 (cL (Qk 0 (Qk 1 (Qk 1 (cL (cL (Qk 1 (cL (cL (Qk 1 (cL (Qk 2 c52)))))))))))) (f52n4S bb1 bd2 bc3 bi4) (·=f52n4E bb1 bd2 bc3 bi4 o):=by
 unfold f52n4 at h;rcases Qi h with ⟨h314,h⟩|⟨h314,h⟩
 ·rcases Qi h with ⟨h315,h⟩|⟨h315,h⟩
  ·obtain rfl:=Qg h;exact rE Qh [(jT [3,4,7,8],[(5,.bool true),(9,.bool true)],[])] [] [] [] [0,3,5,6] (.norm,(f52n4E bb1 bd2 bc3 bi4 (.norm true)).2) (ap3 h314 (ap3 h315 an)) rfl
  ·rcases Qi h with ⟨h316,h⟩|⟨h316,h⟩
   ·obtain rfl:=Qg h;exact rE Qh [(jF [7,8]++jT [3,4,11,12],[(5,.bool true),(9,.bool false),(13,.bool true)],[])] [] [] [] [0,3,5,6] (.norm,(f52n4E bb1 bd2 bc3 bi4 (.norm true)).2) (ap3 h314 (ap3 h315 (ap3 h316 an))) rfl
   ·obtain rfl:=Qg h;exact rE Qh [(jF [7,8,11,12]++jT [3,4],[(5,.bool true),(9,.bool false),(13,.bool false)],[])] [] [] [] [0,3,5,6] (.norm,(f52n4E bb1 bd2 bc3 bi4 (.norm (decide ((bc3.toNat:Int)=45)))).2) (ap3 h314 (ap3 h315 (ap3 h316 an))) rfl
 ·rcases Qi h with ⟨h317,h⟩|⟨h317,h⟩
  ·obtain rfl:=Qg h;exact rE Qh [(jF [3,4]++jT [11,12],[(5,.bool false),(13,.bool true)],[])] [] [] [] [0,3,5,6] (.norm,(f52n4E bb1 bd2 bc3 bi4 (.norm true)).2) (ap3 h314 (ap3 h317 an)) rfl
  ·obtain rfl:=Qg h;exact rE Qh [(jF [3,4,11,12],[(5,.bool false),(13,.bool false)],[])] [] [] [] [0,3,5,6] (.norm,(f52n4E bb1 bd2 bc3 bi4 (.norm (decide ((bc3.toNat:Int)=45)))).2) (ap3 h314 (ap3 h317 an)) rfl
inductive f52n5O where
 | norm (v328:Bool)
def f52n5E(bb1:ByteArray)(bd2:Int)(bi3 bi4:Bool):f52n5O→Ex×Tr×Hp
 | .norm v328=>(.norm,mkS [(0,(jS bb1)),(3,(jI bd2)),(61,(jB v328))],[])
def f52n5S(bb1:ByteArray)(bd2:Int)(bi3 bi4:Bool):Tr×Hp:=(mkS [(0,(jS bb1)),(3,(jI bd2)),(5,(jB bi3)),(6,(jB bi4))],[])
noncomputable def f52n5(bb1:ByteArray)(bd2:Int)(bi3 bi4:Bool):Option f52n5O :=
 bif bi3 then
  some (.norm false)
 else
  bif bi4 then
   some (.norm (decide (bd2=0)))
  else
   some (.norm true)
theorem f52n5_ok(bb1:ByteArray)(bd2:Int)(bi3 bi4:Bool){o:f52n5O}(h:f52n5 bb1 bd2 bi3 bi4=some o):T Try.prog Try.f52.ntmps 0 (cL (Qk 0 (Qk 1 (Qk 0 (Qk 1 (Qk 1 (cL (cL (Qk 1 (cL (cL (Qk 1 (cL (Qk 2 c52)))))))))))))) (f52n5S bb1 bd2 bi3 bi4) (·=f52n5E bb1 bd2 bi3 bi4 o):=by
 unfold f52n5 at h;rcases Qi h with ⟨h326,h⟩|⟨h326,h⟩
 ·obtain rfl:=Qg h;exact rE Qh [(jF [3,4,5,8],[(9,.bool false)],[])] [] [] [] [0,3,61] (.norm,(f52n5E bb1 bd2 bi3 bi4 (.norm false)).2) (ap (Qt h326) (ap4 (Qt h326) an)) rfl
 ·rcases Qi h with ⟨h327,h⟩|⟨h327,h⟩
  ·obtain rfl:=Qg h;exact rE Qh [(jF [6,7]++jT [3,4,5,8],[(8,.bool false),(9,.bool true)],[])] [] [] [] [0,3,61] (.norm,(f52n5E bb1 bd2 bi3 bi4 (.norm (decide (bd2=0)))).2) (ap3 (Qad h326) (ap2 (Qt h327) (ap (Qad h326) (ap (Qt h327) (ap (Qad h326) an))))) rfl
  ·obtain rfl:=Qg h;exact rE Qh [(jT [3,4,5,6,7,8],[(8,.bool true),(9,.bool true)],[])] [] [] [] [0,3,61] (.norm,(f52n5E bb1 bd2 bi3 bi4 (.norm true)).2) (ap3 (Qad h326) (ap2 (Qad h327) (ap (Qad h326) (ap (Qad h327) (ap (Qad h326) an))))) rfl
inductive f52n2O where
 | norm
 | ret
def f52n2E(bb1:ByteArray)(bd2:Int):f52n2O→Ex×Tr×Hp
 | .norm=>(.norm,mkS [(0,(jS bb1)),(3,(jI bd2))],[])
 | .ret=>(.ret,mkS [(2,(jB false))],[])
def f52n2S(bb1:ByteArray)(bd2:Int):Tr×Hp:=(mkS [(0,(jS bb1)),(3,(jI bd2))],[])
noncomputable def f52n2(bb1:ByteArray)(bd2:Int):Option f52n2O :=
 (at? bb1.data.toList bd2).bind fun x288 =>
 (f52n3 bb1 bd2 x288).bind fun o303=>match o303 with
 | .norm v305=>(f52n4 bb1 bd2 x288 v305).bind fun o319=>match o319 with
  | .norm v321=>(f52n5 bb1 bd2 v305 v321).bind fun o329=>match o329 with
   | .norm v331=>bif v331 then
     some .ret
    else
     some .norm
theorem f52n2_ok(bb1:ByteArray)(bd2:Int){o:f52n2O}(h:f52n2 bb1 bd2=some o):T Try.prog Try.f52.ntmps 0 (cL (Qk 1 (cL (cL (Qk 1 (cL (Qk 2 c52))))))) (f52n2S bb1 bd2) (·=f52n2E bb1 bd2 o):=by
 unfold f52n2 at h;refine T.block' (i:=1) (by kernel_rfl) ?_;obtain ⟨x288,h289,h⟩:=Qe h;refine rN Qh 1 [([],[(2,.byte (Int.toNat bd2) x288)],[])] [] [] [] [0,3,4] (f52n3S bb1 bd2 x288) (ap (Qj h289).1 (ap (Qj h289).2 an)) ?_;obtain ⟨o303,h304,h⟩:=Qe h;cases o303 with
 | norm v305 =>
  refine T.oneN (by kernel_rfl) (f52n3_ok bb1 bd2 x288 h304) (st2:=(f52n3E bb1 bd2 x288 (.norm v305)).2) rfl ?_;refine rN Qh 0 [] [] [] [] [0,3,4,5] (f52n4S bb1 bd2 x288 v305) an ?_;obtain ⟨o319,h320,h⟩:=Qe h;cases o319 with
  | norm v321 =>
   refine T.oneN (by kernel_rfl) (f52n4_ok bb1 bd2 x288 v305 h320) (st2:=(f52n4E bb1 bd2 x288 v305 (.norm v321)).2) rfl ?_;refine rN Qh 0 [] [] [] [] [0,3,5,6] (f52n5S bb1 bd2 v305 v321) an ?_;obtain ⟨o329,h330,h⟩:=Qe h;cases o329 with
   | norm v331 =>
    refine T.oneN (by kernel_rfl) (f52n5_ok bb1 bd2 v305 v321 h330) (st2:=(f52n5E bb1 bd2 v305 v321 (.norm v331)).2) rfl ?_;rcases Qi h with ⟨h333,h⟩|⟨h333,h⟩
    ·obtain rfl:=Qg h;exact rE Qh [j3] [some true] [] [] [2] (.ret,(f52n2E bb1 bd2 .ret).2) (ap h333 an) rfl
    ·obtain rfl:=Qg h;exact rE Qh [] [some false] [] [] [0,3] (.norm,(f52n2E bb1 bd2 .norm).2) (ap h333 an) rfl
inductive f52n6O where
 | exit0
 | ret
def f52n6E(bb1:ByteArray):f52n6O→Ex×Tr×Hp
 | .exit0=>((.exit 0),mkS [],[])
 | .ret=>(.ret,mkS [(2,(jB false))],[])
def f52n6S(bb1:ByteArray)(v219:Int):Tr×Hp:=(mkS [(0,(jS bb1)),(3,(jI v219))],[])
noncomputable def f52n6:Nat→ByteArray→Int→Option f52n6O
 | 0,_,_=>none
 | f+1,bb1,v219 =>
  bif decide (v219<(bb1.size:Int)) then
   (f52n2 bb1 v219).bind fun o334=>match o334 with
   | .norm=>(f52n6 f bb1 (wr64 (v219+1)))
   | .ret=>some .ret
  else
   some .exit0
theorem f52n6_ok:∀(f:Nat)(bb1:ByteArray)(v219:Int){o:f52n6O},f52n6 f bb1 v219=some o→TL Try.prog Try.f52.ntmps 0 f (cL (cL (Qk 1 (cL (Qk 2 c52))))) (f52n6S bb1 v219) (·=f52n6E bb1 o)
 | 0,_,_,o,h=>by rw [f52n6] at h; cases h
 | f+1,bb1,v219,o,h=>by
  rw [f52n6] at h;refine TL.body (K:=fun s=>∃v219:Int,s=(f52n6S bb1 v219)∧f52n6 f bb1 v219=some o) ?_ (by rintro _ ⟨v219,rfl,hk⟩; exact f52n6_ok f _ _ hk);rcases Qi h with ⟨h221,h⟩|⟨h221,h⟩
  ·refine rN Qh 1 [j3] [some true] [] [] [0,3] (f52n2S bb1 v219) (ap h221 an) ?_;obtain ⟨o334,h335,h⟩:=Qe h;cases o334 with
   | norm =>
    refine T.oneN (by kernel_rfl) (f52n2_ok bb1 v219 h335) (st2:=(f52n2E bb1 v219 .norm).2) rfl ?_;exact rE Qh [j3] [] [] [] [0,3] (.norm,(f52n6S bb1 (wr64 (v219+1)))) an (Qs.norm ⟨(wr64 (v219+1)),rfl,h⟩)
   | ret =>
    obtain rfl:=Qg h;exact T.oneX' (by kernel_rfl) (f52n2_ok bb1 v219 h335) (tds:=[]) (m:=[]) (keep:=[2]) (st2:=(f52n6E bb1 .ret).2) (by kernel_rfl) an rfl (Qs.out rfl rfl)
  ·obtain rfl:=Qg h;exact rK Qh 1 [j3] [some false] [] [] [] (.exit 0) ((f52n6E bb1 .exit0).2) (ap h221 an) (Qs.out rfl rfl)
inductive f52n1O where
 | norm
 | ret
def f52n1E(bb1:ByteArray):f52n1O→Ex×Tr×Hp
 | .norm=>(.norm,mkS [],[])
 | .ret=>(.ret,mkS [(2,(jB false))],[])
def f52n1S(bb1:ByteArray):Tr×Hp:=(mkS [(0,(jS bb1))],[])
noncomputable def f52n1(bb1:ByteArray):Option f52n1O :=
 (f52n6 FUEL bb1 0).bind fun o336=>match o336 with
 | .exit0=>some .norm
 | .ret=>some .ret
theorem f52n1_ok(bb1:ByteArray){o:f52n1O}(h:f52n1 bb1=some o):T Try.prog Try.f52.ntmps 0 (cL (Qk 2 c52)) (f52n1S bb1) (·=f52n1E bb1 o):=by
 unfold f52n1 at h;refine rN Qh 1 [j3] [] [] [] [0,3] (f52n6S bb1 0) an ?_;obtain ⟨o336,h337,h⟩:=Qe h;cases o336 with
 | exit0 =>
  obtain rfl:=Qg h;exact T.last' (T.bl (i:=0) (by kernel_rfl) (by kernel_rfl) (f52n6_ok FUEL bb1 0 h337)) (tds:=[]) (m:=[]) (keep:=[]) (st2:=(f52n1E bb1 .norm).2) (by kernel_rfl) an rfl
 | ret =>
  obtain rfl:=Qg h;exact T.last' (T.bl (i:=0) (by kernel_rfl) (by kernel_rfl) (f52n6_ok FUEL bb1 0 h337)) (tds:=[]) (m:=[]) (keep:=[2]) (st2:=(f52n1E bb1 .ret).2) (by kernel_rfl) an rfl
inductive f52n0O where
 | ret (v340:Bool)
def f52n0E(a1:ByteArray):f52n0O→Ex×Tr×Hp
 | .ret v340=>(.ret,mkS [(2,(jB v340))],[])
def f52n0S(a1:ByteArray):Tr×Hp:=(Qab [(jS a1)] 0 .leaf,[])
noncomputable def f52n0(a1:ByteArray):Option f52n0O :=
 bif decide ((a1.size:Int)<1) then
  some (.ret false)
 else
  bif decide (40<(a1.size:Int)) then
   some (.ret false)
  else
   (f52n1 a1).bind fun o338=>match o338 with
   | .norm=>some (.ret true)
   | .ret=>some (.ret false)
theorem f52n0_ok(a1:ByteArray){o:f52n0O}(h:f52n0 a1=some o):T Try.prog Try.f52.ntmps 0 c52 (f52n0S a1) (·=f52n0E a1 o):=by
 unfold f52n0 at h;rcases Qi h with ⟨h4,h⟩|⟨h4,h⟩
 ·obtain rfl:=Qg h;exact rK Qh 2 [j3,(jT [4,5,6],[(7,.bool true)],[]),j3] [none] [] [] [2] .ret ((f52n0E a1 (.ret false)).2) (ap4 h4 an) rfl
 ·rcases Qi h with ⟨h5,h⟩|⟨h5,h⟩
  ·obtain rfl:=Qg h;exact rK Qh 2 [j3,(jF [4,5,6],[(7,.bool false)],[]),j3] [some true] [] [] [2] .ret ((f52n0E a1 (.ret false)).2) (ap4 h4 (ap h5 an)) rfl
  ·refine rN Qh 2 [j3,(jF [4,5,6],[(7,.bool false)],[])] [some false] [] [] [0] (f52n1S a1) (ap4 h4 (ap h5 an)) ?_;obtain ⟨o338,h339,h⟩:=Qe h;cases o338 with
   | norm =>
    refine T.oneN (by kernel_rfl) (f52n1_ok a1 h339) (st2:=(f52n1E a1 .norm).2) rfl ?_;obtain rfl:=Qg h;exact rE Qh [j3] [] [] [] [2] (.ret,(f52n0E a1 (.ret true)).2) an rfl
   | ret =>
    obtain rfl:=Qg h;exact T.oneX' (by kernel_rfl) (f52n1_ok a1 h339) (tds:=[]) (m:=[]) (keep:=[2]) (st2:=(f52n0E a1 (.ret false)).2) (by kernel_rfl) an rfl rfl
noncomputable def f52(a1:ByteArray):Option Bool:=(f52n0 a1).bind fun o=>match o with
 | .ret v340=>some v340
theorem f52_ok(a1:ByteArray){r:Bool}(h:f52 a1=some r):Qn Try.prog false 52 [(jS a1)] [] (jB r) []:=by
 unfold f52 at h;obtain ⟨o,ho,h⟩:=Qe h;cases o with
 | ret v340 =>
  obtain rfl:=Qg h;exact Qn.plain Qh (f:=Try.f52) (c:=c52) (by kernel_rfl) (by kernel_rfl) (by kernel_rfl) (by kernel_rfl) ((f52n0_ok a1 ho).mono fun r e=>by subst e; exact ⟨.inl rfl,(jB v340),(jB v340),by kernel_rfl,by kernel_rfl,((Wk.refl _):Wk (jB v340) (jB v340))⟩)

noncomputable def c64:Code:=Try.f64.body.getD .skip
inductive f64n0O where
 | ret (v8:Bool)
def f64n0E(a1:ByteArray):f64n0O→Ex×Tr×Hp
 | .ret v8=>(.ret,mkS [(2,(jB v8))],[])
def f64n0S(a1:ByteArray):Tr×Hp:=(Qab [(jS a1)] 0 .leaf,[])
noncomputable def f64n0(a1:ByteArray):Option f64n0O :=
 (f52 a1).bind fun x5 =>
 bif x5 then
  some (.ret (!(seq a1 str_house)))
 else
  some (.ret false)
theorem f64n0_ok(a1:ByteArray){o:f64n0O}(h:f64n0 a1=some o):T Try.prog Try.f64.ntmps 0 c64 (f64n0S a1) (·=f64n0E a1 o):=by
 unfold f64n0 at h;obtain ⟨x5,h6,h⟩:=Qe h;rcases Qi h with ⟨h7,h⟩|⟨h7,h⟩
 ·obtain rfl:=Qg h;exact rE Qh [j3,([(3,true),(4,true)],[jH 1 (jB x5),(5,.bool true)],[])] [] [] [] [2] (.ret,(f64n0E a1 (.ret (!(seq a1 str_house)))).2) (ap3 h7 (ap (f52_ok a1 h6) an)) rfl
 ·obtain rfl:=Qg h;exact rE Qh [j3,([(3,false),(4,false)],[jH 1 (jB x5),(5,.bool false)],[])] [] [] [] [2] (.ret,(f64n0E a1 (.ret false)).2) (ap3 h7 (ap (f52_ok a1 h6) an)) rfl
noncomputable def f64(a1:ByteArray):Option Bool:=(f64n0 a1).bind fun o=>match o with
 | .ret v8=>some v8
theorem f64_ok(a1:ByteArray){r:Bool}(h:f64 a1=some r):Qn Try.prog false 64 [(jS a1)] [] (jB r) []:=by
 unfold f64 at h;obtain ⟨o,ho,h⟩:=Qe h;cases o with
 | ret v8 =>
  obtain rfl:=Qg h;exact Qn.plain Qh (f:=Try.f64) (c:=c64) (by kernel_rfl) (by kernel_rfl) (by kernel_rfl) (by kernel_rfl) ((f64n0_ok a1 ho).mono fun r e=>by subst e; exact ⟨.inl rfl,(jB v8),(jB v8),by kernel_rfl,by kernel_rfl,((Wk.refl _):Wk (jB v8) (jB v8))⟩)

noncomputable def c47:Code:=Try.f47.body.getD .skip
inductive f47n0O where
 | ret (v14:Bool)
def f47n0E(a1:Qc):f47n0O→Ex×Tr×Hp
 | .ret v14=>(.ret,mkS [(2,(jB v14))],[])
def f47n0S(a1:Qc):Tr×Hp:=(Qab [(jA Qc.cells a1)] 0 .leaf,[])
noncomputable def f47n0(a1:Qc):Option f47n0O :=
 (f64 a1.Member).bind fun x8 =>
 bif x8 then
  bif decide (1≤a1.Units) then
   bif decide (a1.Units≤1048576) then
    bif decide (0≤a1.Price) then
     some (.ret (decide (a1.Price≤33554432)))
    else
     some (.ret false)
   else
    some (.ret false)
  else
   some (.ret false)
 else
  some (.ret false)
theorem f47n0_ok(a1:Qc){o:f47n0O}(h:f47n0 a1=some o):T Try.prog Try.f47.ntmps 0 c47 (f47n0S a1) (·=f47n0E a1 o):=by
 unfold f47n0 at h;obtain ⟨x8,h9,h⟩:=Qe h;rcases Qi h with ⟨h10,h⟩|⟨h10,h⟩
 ·rcases Qi h with ⟨h11,h⟩|⟨h11,h⟩
  ·rcases Qi h with ⟨h12,h⟩|⟨h12,h⟩
   ·rcases Qi h with ⟨h13,h⟩|⟨h13,h⟩
    ·obtain rfl:=Qg h;exact rE Qh [j3,(jT [4,5,6,9,10,11,14,15,16,19,20,21],[jH 2 (jB x8),(7,.bool true),(12,.bool true),(17,.bool true),(22,.bool true)],[])] [] [] [] [2] (.ret,(f47n0E a1 (.ret (decide (a1.Price≤33554432)))).2) (ap4 h10 (ap4 h11 (ap4 h12 (ap4 h13 (ap (f64_ok a1.Member h9) an))))) rfl
    ·obtain rfl:=Qg h;exact rE Qh [j3,(jF [19,20,21]++jT [4,5,6,9,10,11,14,15,16],[jH 2 (jB x8),(7,.bool true),(12,.bool true),(17,.bool true),(22,.bool false)],[])] [] [] [] [2] (.ret,(f47n0E a1 (.ret false)).2) (ap4 h10 (ap4 h11 (ap4 h12 (ap4 h13 (ap (f64_ok a1.Member h9) an))))) rfl
   ·obtain rfl:=Qg h;exact rE Qh [j3,(jF [14,15,16]++jT [4,5,6,9,10,11],[jH 2 (jB x8),(7,.bool true),(12,.bool true),(17,.bool false)],[])] [] [] [] [2] (.ret,(f47n0E a1 (.ret false)).2) (ap4 h10 (ap4 h11 (ap4 h12 (ap (f64_ok a1.Member h9) an)))) rfl
  ·obtain rfl:=Qg h;exact rE Qh [j3,(jF [9,10,11]++jT [4,5,6],[jH 2 (jB x8),(7,.bool true),(12,.bool false)],[])] [] [] [] [2] (.ret,(f47n0E a1 (.ret false)).2) (ap4 h10 (ap4 h11 (ap (f64_ok a1.Member h9) an))) rfl
 ·obtain rfl:=Qg h;exact rE Qh [j3,(jF [4,5,6],[jH 2 (jB x8),(7,.bool false)],[])] [] [] [] [2] (.ret,(f47n0E a1 (.ret false)).2) (ap4 h10 (ap (f64_ok a1.Member h9) an)) rfl
noncomputable def f47(a1:Qc):Option Bool:=(f47n0 a1).bind fun o=>match o with
 | .ret v14=>some v14
theorem f47_ok(a1:Qc){r:Bool}(h:f47 a1=some r):Qn Try.prog false 47 [(jA Qc.cells a1)] [] (jB r) []:=by
 unfold f47 at h;obtain ⟨o,ho,h⟩:=Qe h;cases o with
 | ret v14 =>
  obtain rfl:=Qg h;exact Qn.plain Qh (f:=Try.f47) (c:=c47) (by kernel_rfl) (by kernel_rfl) (by kernel_rfl) (by kernel_rfl) ((f47n0_ok a1 ho).mono fun r e=>by subst e; exact ⟨.inl rfl,(jB v14),(jB v14),by kernel_rfl,by kernel_rfl,((Wk.refl _):Wk (jB v14) (jB v14))⟩)

noncomputable def c32:Code:=Try.f32.body.getD .skip
inductive f32n3O where
 | norm (v162:Bool)
def f32n3E(bd1:Int)(ba2:Qd)(be3:Qa):f32n3O→Ex×Tr×Hp
 | .norm v162=>(.norm,mkS [(1,(.bp 0 0)),(3,(jI bd1)),(72,(jB v162))],[some (.box ((Qd.cells ba2).map .pl))])
def f32n3S(bd1:Int)(ba2:Qd)(be3:Qa):Tr×Hp:=(mkS [(1,(.bp 0 0)),(3,(jI bd1)),(4,(.bp 1 0))],[some (.box ((Qd.cells ba2).map .pl)),some (.box ((Qa.cells be3).map .pl))])
noncomputable def f32n3(bd1:Int)(ba2:Qd)(be3:Qa):Option f32n3O :=
 (f52 be3.Name).bind fun x149 =>
 bif x149 then
  bif decide (0<bd1) then
   (at? ba2.Lots (wr64 (bd1-1))).bind fun x153 =>
   bif (slt x153.Name be3.Name) then
    bif decide (be3.Units<1) then
     some (.norm true)
    else
     bif decide (1048576<be3.Units) then
      some (.norm true)
     else
      bif decide (be3.Reserve<0) then
       some (.norm true)
      else
       some (.norm (decide (33554432<be3.Reserve)))
   else
    some (.norm true)
  else
   bif decide (be3.Units<1) then
    some (.norm true)
   else
    bif decide (1048576<be3.Units) then
     some (.norm true)
    else
     bif decide (be3.Reserve<0) then
      some (.norm true)
     else
      some (.norm (decide (33554432<be3.Reserve)))
 else
  some (.norm true)
theorem f32n3_ok(bd1:Int)(ba2:Qd)(be3:Qa){o:f32n3O}(h:f32n3 bd1 ba2 be3=some o):T Try.prog Try.f32.ntmps 0 (cL (Qk 1 (cL (cL (Qk 1 (cL (cL (Qk 1 (cL (Qk 2 c32)))))))))) (f32n3S bd1 ba2 be3) (·=f32n3E bd1 ba2 be3 o):=by
 unfold f32n3 at h;obtain ⟨x149,h150,h⟩:=Qe h;rcases Qi h with ⟨h151,h⟩|⟨h151,h⟩
 ·rcases Qi h with ⟨h152,h⟩|⟨h152,h⟩
  ·obtain ⟨x153,h154,h⟩:=Qe h;rcases Qi h with ⟨h155,h⟩|⟨h155,h⟩
   ·rcases Qi h with ⟨h156,h⟩|⟨h156,h⟩
    ·obtain rfl:=Qg h;exact rE Qh [(jF [5,6,7,18,21,22,23]++jT [8,9,10,11,12,13,14,15,16,17,26,27,28],[jH 2 (jB x149),(12,.idx (Int.toNat (wr64 (bd1-1))) (Qa.cells x153)),(18,.bool true),(19,.bool false),(24,.bool false),(29,.bool true)],[])] [] [] [0] [1,3,72] (.norm,(f32n3E bd1 ba2 be3 (.norm true)).2) (ap3 (Qt h151) (ap h152 (ap4 h152 (ap (Qj h154).1 (ap (Qm Qa.cells (Qj h154).2) (ap h152 (ap4 h152 (ap (Qt h151) (ap h152 (ap (Qt h151) (ap4 (Qt h155) (ap4 h156 (ap (f52_ok be3.Name h150) an))))))))))))) rfl
    ·rcases Qi h with ⟨h157,h⟩|⟨h157,h⟩
     ·obtain rfl:=Qg h;exact rE Qh [(jF [5,6,7,18,21,22,23,26,27,28]++jT [8,9,10,11,12,13,14,15,16,17,31,32,33],[jH 2 (jB x149),(12,.idx (Int.toNat (wr64 (bd1-1))) (Qa.cells x153)),(18,.bool true),(19,.bool false),(24,.bool false),(29,.bool false),(34,.bool true)],[])] [] [] [0] [1,3,72] (.norm,(f32n3E bd1 ba2 be3 (.norm true)).2) (ap3 (Qt h151) (ap h152 (ap4 h152 (ap (Qj h154).1 (ap (Qm Qa.cells (Qj h154).2) (ap h152 (ap4 h152 (ap (Qt h151) (ap h152 (ap (Qt h151) (ap4 (Qt h155) (ap4 h156 (ap4 h157 (ap (f52_ok be3.Name h150) an)))))))))))))) rfl
     ·rcases Qi h with ⟨h158,h⟩|⟨h158,h⟩
      ·obtain rfl:=Qg h;exact rE Qh [(jF [5,6,7,18,21,22,23,26,27,28,31,32,33]++jT [8,9,10,11,12,13,14,15,16,17,36,37,38],[jH 2 (jB x149),(12,.idx (Int.toNat (wr64 (bd1-1))) (Qa.cells x153)),(18,.bool true),(19,.bool false),(24,.bool false),(29,.bool false),(34,.bool false),(39,.bool true)],[])] [] [] [0] [1,3,72] (.norm,(f32n3E bd1 ba2 be3 (.norm true)).2) (ap3 (Qt h151) (ap h152 (ap4 h152 (ap (Qj h154).1 (ap (Qm Qa.cells (Qj h154).2) (ap h152 (ap4 h152 (ap (Qt h151) (ap h152 (ap (Qt h151) (ap4 (Qt h155) (ap4 h156 (ap4 h157 (ap4 h158 (ap (f52_ok be3.Name h150) an))))))))))))))) rfl
      ·obtain rfl:=Qg h;exact rE Qh [(jF [5,6,7,18,21,22,23,26,27,28,31,32,33,36,37,38]++jT [8,9,10,11,12,13,14,15,16,17],[jH 2 (jB x149),(12,.idx (Int.toNat (wr64 (bd1-1))) (Qa.cells x153)),(18,.bool true),(19,.bool false),(24,.bool false),(29,.bool false),(34,.bool false),(39,.bool false)],[])] [] [] [0] [1,3,72] (.norm,(f32n3E bd1 ba2 be3 (.norm (decide (33554432<be3.Reserve)))).2) (ap3 (Qt h151) (ap h152 (ap4 h152 (ap (Qj h154).1 (ap (Qm Qa.cells (Qj h154).2) (ap h152 (ap4 h152 (ap (Qt h151) (ap h152 (ap (Qt h151) (ap4 (Qt h155) (ap4 h156 (ap4 h157 (ap4 h158 (ap (f52_ok be3.Name h150) an))))))))))))))) rfl
   ·obtain rfl:=Qg h;exact rE Qh [(jF [5,6,7,18]++jT [8,9,10,11,12,13,14,15,16,17,21,22,23],[jH 2 (jB x149),(12,.idx (Int.toNat (wr64 (bd1-1))) (Qa.cells x153)),(18,.bool true),(19,.bool false),(24,.bool true)],[])] [] [] [0] [1,3,72] (.norm,(f32n3E bd1 ba2 be3 (.norm true)).2) (ap3 (Qt h151) (ap h152 (ap4 h152 (ap (Qj h154).1 (ap (Qm Qa.cells (Qj h154).2) (ap h152 (ap4 h152 (ap (Qt h151) (ap h152 (ap (Qt h151) (ap4 (Qad h155) (ap (f52_ok be3.Name h150) an)))))))))))) rfl
  ·rcases Qi h with ⟨h159,h⟩|⟨h159,h⟩
   ·obtain rfl:=Qg h;exact rE Qh [(jF [5,6,7,8,9,10,11,12,13,14,15,16,17,18]++jT [26,27,28],[jH 2 (jB x149),(18,.bool false),(19,.bool false),(29,.bool true)],[])] [] [] [0] [1,3,72] (.norm,(f32n3E bd1 ba2 be3 (.norm true)).2) (ap3 (Qt h151) (ap2 h152 (ap4 h152 (ap4 h152 (ap (Qt h151) (ap h152 (ap (Qt h151) (ap4 h159 (ap (f52_ok be3.Name h150) an))))))))) rfl
   ·rcases Qi h with ⟨h160,h⟩|⟨h160,h⟩
    ·obtain rfl:=Qg h;exact rE Qh [(jF [5,6,7,8,9,10,11,12,13,14,15,16,17,18,26,27,28]++jT [31,32,33],[jH 2 (jB x149),(18,.bool false),(19,.bool false),(29,.bool false),(34,.bool true)],[])] [] [] [0] [1,3,72] (.norm,(f32n3E bd1 ba2 be3 (.norm true)).2) (ap3 (Qt h151) (ap2 h152 (ap4 h152 (ap4 h152 (ap (Qt h151) (ap h152 (ap (Qt h151) (ap4 h159 (ap4 h160 (ap (f52_ok be3.Name h150) an)))))))))) rfl
    ·rcases Qi h with ⟨h161,h⟩|⟨h161,h⟩
     ·obtain rfl:=Qg h;exact rE Qh [(jF [5,6,7,8,9,10,11,12,13,14,15,16,17,18,26,27,28,31,32,33]++jT [36,37,38],[jH 2 (jB x149),(18,.bool false),(19,.bool false),(29,.bool false),(34,.bool false),(39,.bool true)],[])] [] [] [0] [1,3,72] (.norm,(f32n3E bd1 ba2 be3 (.norm true)).2) (ap3 (Qt h151) (ap2 h152 (ap4 h152 (ap4 h152 (ap (Qt h151) (ap h152 (ap (Qt h151) (ap4 h159 (ap4 h160 (ap4 h161 (ap (f52_ok be3.Name h150) an))))))))))) rfl
     ·obtain rfl:=Qg h;exact rE Qh [(jF [5,6,7,8,9,10,11,12,13,14,15,16,17,18,26,27,28,31,32,33,36,37,38],[jH 2 (jB x149),(18,.bool false),(19,.bool false),(29,.bool false),(34,.bool false),(39,.bool false)],[])] [] [] [0] [1,3,72] (.norm,(f32n3E bd1 ba2 be3 (.norm (decide (33554432<be3.Reserve)))).2) (ap3 (Qt h151) (ap2 h152 (ap4 h152 (ap4 h152 (ap (Qt h151) (ap h152 (ap (Qt h151) (ap4 h159 (ap4 h160 (ap4 h161 (ap (f52_ok be3.Name h150) an))))))))))) rfl
 ·obtain rfl:=Qg h;exact rE Qh [(jT [5,6,7,18],[jH 2 (jB x149),(19,.bool true)],[])] [] [] [0] [1,3,72] (.norm,(f32n3E bd1 ba2 be3 (.norm true)).2) (ap (Qad h151) (ap4 (Qad h151) (ap (f52_ok be3.Name h150) an))) rfl
inductive f32n2O where
 | norm
 | ret
def f32n2E(bd1:Int)(ba2:Qd):f32n2O→Ex×Tr×Hp
 | .norm=>(.norm,mkS [(1,(.bp 0 0)),(3,(jI bd1))],[some (.box ((Qd.cells ba2).map .pl))])
 | .ret=>(.ret,mkS [(2,(jI 8))],[])
def f32n2S(bd1:Int)(ba2:Qd):Tr×Hp:=(mkS [(1,(.bp 0 0)),(3,(jI bd1))],[some (.box ((Qd.cells ba2).map .pl))])
noncomputable def f32n2(bd1:Int)(ba2:Qd):Option f32n2O :=
 (at? ba2.Lots bd1).bind fun x121 =>
 (f32n3 bd1 ba2 x121).bind fun o163=>match o163 with
 | .norm v165=>bif v165 then
   some .ret
  else
   some .norm
theorem f32n2_ok(bd1:Int)(ba2:Qd){o:f32n2O}(h:f32n2 bd1 ba2=some o):T Try.prog Try.f32.ntmps 0 (cL (Qk 1 (cL (cL (Qk 1 (cL (Qk 2 c32))))))) (f32n2S bd1 ba2) (·=f32n2E bd1 ba2 o):=by
 unfold f32n2 at h;refine T.block' (i:=1) (by kernel_rfl) ?_;obtain ⟨x121,h122,h⟩:=Qe h;refine rN Qh 1 [([],[(3,.idx (Int.toNat bd1) (Qa.cells x121))],[])] [] [] [0,1] [1,3,4] (f32n3S bd1 ba2 x121) (ap (Qj h122).1 (ap (Qm Qa.cells (Qj h122).2) an)) ?_;obtain ⟨o163,h164,h⟩:=Qe h;cases o163 with
 | norm v165 =>
  refine T.oneN (by kernel_rfl) (f32n3_ok bd1 ba2 x121 h164) (st2:=(f32n3E bd1 ba2 x121 (.norm v165)).2) rfl ?_;rcases Qi h with ⟨h167,h⟩|⟨h167,h⟩
  ·obtain rfl:=Qg h;exact rE Qh [j3] [some true] [] [] [2] (.ret,(f32n2E bd1 ba2 .ret).2) (ap h167 an) rfl
  ·obtain rfl:=Qg h;exact rE Qh [] [some false] [] [0] [1,3] (.norm,(f32n2E bd1 ba2 .norm).2) (ap h167 an) rfl
inductive f32n4O where
 | exit0
 | ret
def f32n4E(ba1:Qd):f32n4O→Ex×Tr×Hp
 | .exit0=>((.exit 0),mkS [(1,(.bp 0 0))],[some (.box ((Qd.cells ba1).map .pl))])
 | .ret=>(.ret,mkS [(2,(jI 8))],[])
def f32n4S(ba1:Qd)(v99:Int):Tr×Hp:=(mkS [(1,(.bp 0 0)),(3,(jI v99))],[some (.box ((Qd.cells ba1).map .pl))])
noncomputable def f32n4:Nat→Qd→Int→Option f32n4O
 | 0,_,_=>none
 | f+1,ba1,v99 =>
  bif decide (v99<(ba1.Lots.length:Int)) then
   (f32n2 v99 ba1).bind fun o168=>match o168 with
   | .norm=>(f32n4 f ba1 (wr64 (v99+1)))
   | .ret=>some .ret
  else
   some .exit0
theorem f32n4_ok:∀(f:Nat)(ba1:Qd)(v99:Int){o:f32n4O},f32n4 f ba1 v99=some o→TL Try.prog Try.f32.ntmps 0 f (cL (cL (Qk 1 (cL (Qk 2 c32))))) (f32n4S ba1 v99) (·=f32n4E ba1 o)
 | 0,_,_,o,h=>by rw [f32n4] at h; cases h
 | f+1,ba1,v99,o,h=>by
  rw [f32n4] at h;refine TL.body (K:=fun s=>∃v99:Int,s=(f32n4S ba1 v99)∧f32n4 f ba1 v99=some o) ?_ (by rintro _ ⟨v99,rfl,hk⟩; exact f32n4_ok f _ _ hk);rcases Qi h with ⟨h101,h⟩|⟨h101,h⟩
  ·refine rN Qh 1 [([],[],[(3,.val (jI (ba1.Lots.length:Int)))])] [some true] [] [0] [1,3] (f32n2S v99 ba1) (ap (Qr (xs:=ba1.Lots) (c:=Qa.cells)) (ap h101 an)) ?_;obtain ⟨o168,h169,h⟩:=Qe h;cases o168 with
   | norm =>
    refine T.oneN (by kernel_rfl) (f32n2_ok v99 ba1 h169) (st2:=(f32n2E v99 ba1 .norm).2) rfl ?_;exact rE Qh [j3] [] [] [0] [1,3] (.norm,(f32n4S ba1 (wr64 (v99+1)))) an (Qs.norm ⟨(wr64 (v99+1)),rfl,h⟩)
   | ret =>
    obtain rfl:=Qg h;exact T.oneX' (by kernel_rfl) (f32n2_ok v99 ba1 h169) (tds:=[]) (m:=[]) (keep:=[2]) (st2:=(f32n4E ba1 .ret).2) (by kernel_rfl) an rfl (Qs.out rfl rfl)
  ·obtain rfl:=Qg h;exact rK Qh 1 [([],[],[(3,.val (jI (ba1.Lots.length:Int)))])] [some false] [] [0] [1] (.exit 0) ((f32n4E ba1 .exit0).2) (ap (Qr (xs:=ba1.Lots) (c:=Qa.cells)) (ap h101 an)) (Qs.out rfl rfl)
inductive f32n1O where
 | norm
 | ret
def f32n1E(ba1:Qd):f32n1O→Ex×Tr×Hp
 | .norm=>(.norm,mkS [(1,(.bp 0 0))],[some (.box ((Qd.cells ba1).map .pl))])
 | .ret=>(.ret,mkS [(2,(jI 8))],[])
def f32n1S(ba1:Qd):Tr×Hp:=(mkS [(1,(.bp 0 0))],[some (.box ((Qd.cells ba1).map .pl))])
noncomputable def f32n1(ba1:Qd):Option f32n1O :=
 (f32n4 FUEL ba1 0).bind fun o170=>match o170 with
 | .exit0=>some .norm
 | .ret=>some .ret
theorem f32n1_ok(ba1:Qd){o:f32n1O}(h:f32n1 ba1=some o):T Try.prog Try.f32.ntmps 0 (cL (Qk 2 c32)) (f32n1S ba1) (·=f32n1E ba1 o):=by
 unfold f32n1 at h;refine rN Qh 1 [j3] [] [] [0] [1,3] (f32n4S ba1 0) an ?_;obtain ⟨o170,h171,h⟩:=Qe h;cases o170 with
 | exit0 =>
  obtain rfl:=Qg h;exact T.last' (T.bl (i:=0) (by kernel_rfl) (by kernel_rfl) (f32n4_ok FUEL ba1 0 h171)) (tds:=[]) (m:=[0]) (keep:=[1]) (st2:=(f32n1E ba1 .norm).2) (by kernel_rfl) an rfl
 | ret =>
  obtain rfl:=Qg h;exact T.last' (T.bl (i:=0) (by kernel_rfl) (by kernel_rfl) (f32n4_ok FUEL ba1 0 h171)) (tds:=[]) (m:=[]) (keep:=[2]) (st2:=(f32n1E ba1 .ret).2) (by kernel_rfl) an rfl
inductive f32n6O where
 | exit2
 | ret
def f32n6E(ba1:Qd):f32n6O→Ex×Tr×Hp
 | .exit2=>((.exit 2),mkS [],[])
 | .ret=>(.ret,mkS [(2,(jI 8))],[])
def f32n6S(ba1:Qd)(v211:Int):Tr×Hp:=(mkS [(1,(.bp 0 0)),(5,(jI v211))],[some (.box ((Qd.cells ba1).map .pl))])
noncomputable def f32n6:Nat→Qd→Int→Option f32n6O
 | 0,_,_=>none
 | f+1,ba1,v211 =>
  bif decide (v211<(ba1.Bids.length:Int)) then
   (at? ba1.Bids v211).bind fun x222 =>
   (f47 x222).bind fun x224 =>
   bif x224 then
    (f17 ba1.Lots x222.Lot).bind fun x227 =>
    bif decide (x227<0) then
     some .ret
    else
     (f32n6 f ba1 (wr64 (v211+1)))
   else
    some .ret
  else
   some .exit2
theorem f32n6_ok:∀(f:Nat)(ba1:Qd)(v211:Int){o:f32n6O},f32n6 f ba1 v211=some o→TL Try.prog Try.f32.ntmps 0 f (cL (cL (Qk 1 (cL (Qk 0 (Qk 1 (Qk 2 c32))))))) (f32n6S ba1 v211) (·=f32n6E ba1 o)
 | 0,_,_,o,h=>by rw [f32n6] at h; cases h
 | f+1,ba1,v211,o,h=>by
  rw [f32n6] at h;refine TL.body (K:=fun s=>∃v211:Int,s=(f32n6S ba1 v211)∧f32n6 f ba1 v211=some o) ?_ (by rintro _ ⟨v211,rfl,hk⟩; exact f32n6_ok f _ _ hk);rcases Qi h with ⟨h213,h⟩|⟨h213,h⟩
  ·obtain ⟨x222,h223,h⟩:=Qe h;obtain ⟨x224,h225,h⟩:=Qe h;rcases Qi h with ⟨h226,h⟩|⟨h226,h⟩
   ·obtain ⟨x227,h228,h⟩:=Qe h;rcases Qi h with ⟨h229,h⟩|⟨h229,h⟩
    ·obtain rfl:=Qg h;exact rK Qh 2 [([],[],[(3,.val (jI (ba1.Bids.length:Int)))]),(jF [8,9,10,11,12,13,14,15,16,17],[(3,.idx (Int.toNat v211) (Qc.cells x222)),jH 5 (jB x224),(13,.idx (Int.toNat v211) (Qc.cells x222)),jH 16 (jI x227),(18,.bool false)],[]),j3] [some true,some true] [] [] [2] .ret ((f32n6E ba1 .ret).2) (ap (Qr (xs:=ba1.Bids) (c:=Qc.cells)) (ap h213 (ap (Qj h223).1 (ap (Qm Qc.cells (Qj h223).2) (ap2 (Qt h226) (ap4 (Qt h226) (ap (Qj h223).1 (ap (Qm Qc.cells (Qj h223).2) (ap (Qt h226) (ap4 (Qt h226) (ap (f47_ok x222 h225) (ap (f17_ok ba1.Lots x222.Lot h228) (ap h229 an))))))))))))) (Qs.out rfl rfl)
    ·exact rE Qh [([],[],[(3,.val (jI (ba1.Bids.length:Int)))]),(jF [8,9,10,11,12,13,14,15,16,17],[(3,.idx (Int.toNat v211) (Qc.cells x222)),jH 5 (jB x224),(13,.idx (Int.toNat v211) (Qc.cells x222)),jH 16 (jI x227),(18,.bool false)],[]),j3] [some true,some false] [] [0] [1,5] (.norm,(f32n6S ba1 (wr64 (v211+1)))) (ap (Qr (xs:=ba1.Bids) (c:=Qc.cells)) (ap h213 (ap (Qj h223).1 (ap (Qm Qc.cells (Qj h223).2) (ap2 (Qt h226) (ap4 (Qt h226) (ap (Qj h223).1 (ap (Qm Qc.cells (Qj h223).2) (ap (Qt h226) (ap4 (Qt h226) (ap (f47_ok x222 h225) (ap (f17_ok ba1.Lots x222.Lot h228) (ap h229 an))))))))))))) (Qs.norm ⟨(wr64 (v211+1)),rfl,h⟩)
   ·obtain rfl:=Qg h;exact rK Qh 2 [([],[],[(3,.val (jI (ba1.Bids.length:Int)))]),(jT [8,9,10,11,12,13,14,15,16,17],[(3,.idx (Int.toNat v211) (Qc.cells x222)),jH 5 (jB x224),(18,.bool true)],[]),j3] [some true,none] [] [] [2] .ret ((f32n6E ba1 .ret).2) (ap (Qr (xs:=ba1.Bids) (c:=Qc.cells)) (ap h213 (ap (Qj h223).1 (ap (Qm Qc.cells (Qj h223).2) (ap3 (Qad h226) (ap4 (Qad h226) (ap4 (Qad h226) (ap (f47_ok x222 h225) an)))))))) (Qs.out rfl rfl)
  ·obtain rfl:=Qg h;exact rK Qh 1 [([],[],[(3,.val (jI (ba1.Bids.length:Int)))])] [some false] [] [] [] (.exit 2) ((f32n6E ba1 .exit2).2) (ap (Qr (xs:=ba1.Bids) (c:=Qc.cells)) (ap h213 an)) (Qs.out rfl rfl)
noncomputable def f32n6L(ba1:Qd):List Qc→Int→Option f32n6O
 | [],v211 =>
  some .exit2
 | x0::rest,v211 =>
  (f47 x0).bind fun x224 =>
  bif x224 then
   (f17 ba1.Lots x0.Lot).bind fun x227 =>
   bif decide (x227<0) then
    some .ret
   else
    (f32n6L ba1 rest (v211+1))
  else
   some .ret
theorem f32n6L_eq(ba1:Qd):∀(rest:List Qc)(f k:Nat),ba1.Bids.drop k=rest→ba1.Bids.length≤maxLen→rest.length<f→f32n6 f ba1 (k:Int)=f32n6L ba1 rest (k:Int)
 | _,0,_,_,_,hf=>absurd hf (Nat.not_lt_zero _)
 | [],f+1,k,hd,hm,hf=>by
  have hk:¬((k:Int)<(ba1.Bids.length:Int)):=by have:=Qac hd; omega
  rw [f32n6,f32n6L];simp only [decide_eq_false hk,cond_false]
 | x0::rest,f+1,k,hd,hm,hf=>by
  obtain ⟨hx,hlt,hd'⟩:=Qan hd;have hk:(k:Int)<(ba1.Bids.length:Int):=by omega
  have hw:wr64 ((k:Int)+1)=(k:Int)+1:=Qbp (by omega) (by unfold maxLen at hm; omega);have ih:f32n6 f ba1 ((k:Int)+1)=f32n6L ba1 rest ((k:Int)+1):=f32n6L_eq ba1 rest f (k+1) hd' hm (by simpa using hf);rw [f32n6,f32n6L];simp only [decide_eq_true hk,cond_true,Qaq,hx,Option.bind_some,hw,ih]
theorem f32n6_run(ba1:Qd)(hm:ba1.Bids.length≤maxLen):f32n6 FUEL ba1 0=f32n6L ba1 ba1.Bids 0:=f32n6L_eq ba1 ba1.Bids FUEL 0 List.drop_zero hm (Qai hm)
inductive f32n5O where
 | norm
 | ret
def f32n5E(ba1:Qd):f32n5O→Ex×Tr×Hp
 | .norm=>(.norm,mkS [],[])
 | .ret=>(.ret,mkS [(2,(jI 8))],[])
def f32n5S(ba1:Qd):Tr×Hp:=(mkS [(1,(.bp 0 0))],[some (.box ((Qd.cells ba1).map .pl))])
noncomputable def f32n5(ba1:Qd):Option f32n5O :=
 (f32n6 FUEL ba1 0).bind fun o230=>match o230 with
 | .exit2=>some .norm
 | .ret=>some .ret
theorem f32n5_ok(ba1:Qd){o:f32n5O}(h:f32n5 ba1=some o):T Try.prog Try.f32.ntmps 0 (cL (Qk 0 (Qk 1 (Qk 2 c32)))) (f32n5S ba1) (·=f32n5E ba1 o):=by
 unfold f32n5 at h;refine rN Qh 1 [j3] [] [] [0] [1,5] (f32n6S ba1 0) an ?_;obtain ⟨o230,h231,h⟩:=Qe h;cases o230 with
 | exit2 =>
  obtain rfl:=Qg h;exact T.last' (T.bl (i:=2) (by kernel_rfl) (by kernel_rfl) (f32n6_ok FUEL ba1 0 h231)) (tds:=[]) (m:=[]) (keep:=[]) (st2:=(f32n5E ba1 .norm).2) (by kernel_rfl) an rfl
 | ret =>
  obtain rfl:=Qg h;exact T.last' (T.bl (i:=2) (by kernel_rfl) (by kernel_rfl) (f32n6_ok FUEL ba1 0 h231)) (tds:=[]) (m:=[]) (keep:=[2]) (st2:=(f32n5E ba1 .ret).2) (by kernel_rfl) an rfl
inductive f32n0O where
 | ret (v234:Int)
def f32n0E(a1:Qd):f32n0O→Ex×Tr×Hp
 | .ret v234=>(.ret,mkS [(2,(jI v234))],[])
def f32n0S(a1:Qd):Tr×Hp:=(Qab [(jA Qd.cells a1)] 0 .leaf,[])
noncomputable def f32n0(a1:Qd):Option f32n0O :=
 bif decide (2<a1.Rule) then
  some (.ret 8)
 else
  bif decide (16<(a1.Lots.length:Int)) then
   some (.ret 8)
  else
   bif decide (100<(a1.Bids.length:Int)) then
    some (.ret 8)
   else
    (f32n1 a1).bind fun o172=>match o172 with
    | .norm=>(f32n5 a1).bind fun o232=>match o232 with
     | .norm=>some (.ret 0)
     | .ret=>some (.ret 8)
    | .ret=>some (.ret 8)
theorem f32n0_ok(a1:Qd){o:f32n0O}(h:f32n0 a1=some o):T Try.prog Try.f32.ntmps 0 c32 (f32n0S a1) (·=f32n0E a1 o):=by
 unfold f32n0 at h;rcases Qi h with ⟨h5,h⟩|⟨h5,h⟩
 ·obtain rfl:=Qg h;exact rK Qh 2 [j3,(jT [4,5,6,7],[(8,.bool true)],[]),j3] [none] [] [] [2] .ret ((f32n0E a1 (.ret 8)).2) (ap h5 (ap4 h5 an)) rfl
 ·rcases Qi h with ⟨h6,h⟩|⟨h6,h⟩
  ·obtain rfl:=Qg h;exact rK Qh 2 [j3,(jF [4,5,6,7]++jT [10,11,12,13],[(8,.bool false),(14,.bool true)],[(6,.val (jI (a1.Lots.length:Int)))]),j3] [none] [] [] [2] .ret ((f32n0E a1 (.ret 8)).2) (ap3 h5 (ap (Qr (xs:=a1.Lots) (c:=Qa.cells)) (ap2 h5 (ap h6 (ap4 h6 an))))) rfl
  ·rcases Qi h with ⟨h7,h⟩|⟨h7,h⟩
   ·obtain rfl:=Qg h;exact rK Qh 2 [j3,(jF [4,5,6,7,10,11,12,13],[(8,.bool false),(14,.bool false)],[(6,.val (jI (a1.Lots.length:Int))),(12,.val (jI (a1.Bids.length:Int)))]),j3] [some true] [] [] [2] .ret ((f32n0E a1 (.ret 8)).2) (ap3 h5 (ap (Qr (xs:=a1.Lots) (c:=Qa.cells)) (ap2 h5 (ap3 h6 (ap (Qr (xs:=a1.Bids) (c:=Qc.cells)) (ap2 h6 (ap h7 an))))))) rfl
   ·refine rN Qh 2 [j3,(jF [4,5,6,7,10,11,12,13],[(8,.bool false),(14,.bool false)],[(6,.val (jI (a1.Lots.length:Int))),(12,.val (jI (a1.Bids.length:Int)))])] [some false] [] [0] [1] (f32n1S a1) (ap3 h5 (ap (Qr (xs:=a1.Lots) (c:=Qa.cells)) (ap2 h5 (ap3 h6 (ap (Qr (xs:=a1.Bids) (c:=Qc.cells)) (ap2 h6 (ap h7 an))))))) ?_;obtain ⟨o172,h173,h⟩:=Qe h;cases o172 with
    | norm =>
     refine T.oneN (by kernel_rfl) (f32n1_ok a1 h173) (st2:=(f32n1E a1 .norm).2) rfl ?_;refine rN Qh 0 [] [] [] [0] [1] (f32n5S a1) an ?_;obtain ⟨o232,h233,h⟩:=Qe h;cases o232 with
     | norm =>
      refine T.oneN (by kernel_rfl) (f32n5_ok a1 h233) (st2:=(f32n5E a1 .norm).2) rfl ?_;obtain rfl:=Qg h;exact rE Qh [j3] [] [] [] [2] (.ret,(f32n0E a1 (.ret 0)).2) an rfl
     | ret =>
      obtain rfl:=Qg h;exact T.oneX' (by kernel_rfl) (f32n5_ok a1 h233) (tds:=[]) (m:=[]) (keep:=[2]) (st2:=(f32n0E a1 (.ret 8)).2) (by kernel_rfl) an rfl rfl
    | ret =>
     obtain rfl:=Qg h;exact T.oneX' (by kernel_rfl) (f32n1_ok a1 h173) (tds:=[]) (m:=[]) (keep:=[2]) (st2:=(f32n0E a1 (.ret 8)).2) (by kernel_rfl) an rfl rfl
noncomputable def f32(a1:Qd):Option Int:=(f32n0 a1).bind fun o=>match o with
 | .ret v234=>some v234
theorem f32_ok(a1:Qd){r:Int}(h:f32 a1=some r):Qn Try.prog false 32 [(jA Qd.cells a1)] [] (jI r) []:=by
 unfold f32 at h;obtain ⟨o,ho,h⟩:=Qe h;cases o with
 | ret v234 =>
  obtain rfl:=Qg h;exact Qn.plain Qh (f:=Try.f32) (c:=c32) (by kernel_rfl) (by kernel_rfl) (by kernel_rfl) (by kernel_rfl) ((f32n0_ok a1 ho).mono fun r e=>by subst e; exact ⟨.inl rfl,(jI v234),(jI v234),by kernel_rfl,by kernel_rfl,((Wk.refl _):Wk (jI v234) (jI v234))⟩)
end Go.Proofs.Ythpceddjepbamaa
