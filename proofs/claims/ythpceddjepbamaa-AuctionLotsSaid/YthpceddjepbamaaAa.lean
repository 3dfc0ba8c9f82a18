/- Several texts in one. No condition. -/
import Derived.Test.YthpceddjepbamaaA2
import Derived.Test.YthpceddjepbamaaTU
namespace Go.Proofs.Ythpceddjepbamaa
set_option linter.unusedVariables false
set_option linter.unusedSimpArgs false
set_option maxRecDepth 100000
open Go.RowKit

inductive f12y6n0O where
 | exit2
 | norm
noncomputable def f12y6n0E(a1:Qd)(a2:Int)(a3:List Qa):f12y6n0O→Ex×Tr×Hp
 | .exit2=>((.exit 2),mkS [],[some (.lp Qo .busy none (kL 63 [(5,(.bp 1 0)),(9,(.bp 2 0)),(10,(.bp 3 0))])),some (.box [(.own 4)]),some (.box (((cInt .i64) a2).map .pl)),some (.box [(.pl .nilf)]),jR 3 Qa.cells a3])
 | .norm=>(.norm,mkS [],[some (.lp Qo .busy none (kL 63 [(5,(.bp 1 0)),(9,(.bp 2 0)),(10,(.bp 3 0))])),some (.box [(.own 5)]),some (.box (((cInt .i64) a2).map .pl)),some (.box [(.pl .nilf)]),none,some (.row false 3 ((a3++[(Qa.mk a1.index a1.units a1.bid.Price)]).map Qa.cells))])
noncomputable def f12y6n0S(a1:Qd)(a2:Int)(a3:List Qa):Tr×Hp:=(mkS [(5,(.bp 1 0)),(9,(.bp 2 0)),(10,(.bp 3 0)),(11,(.bp 5 0))],[some (.lp Qo .busy none (kL 63 [(5,(.bp 1 0)),(9,(.bp 2 0)),(10,(.bp 3 0))])),some (.box [(.own 4)]),some (.box (((cInt .i64) a2).map .pl)),some (.box [(.pl .nilf)]),jR 3 Qa.cells a3,some (.box ((Qd.cells a1).map .pl))])
noncomputable def f12y6n0(a1:Qd)(a2:Int)(a3:List Qa):Option f12y6n0O :=
 bif decide (a1.units=0) then
  some .exit2
 else
  req (fit (a3.length+1) 24) <|
  some .norm
theorem f12y6n0_ok(a1:Qd)(a2:Int)(a3:List Qa){o:f12y6n0O}(h:f12y6n0 a1 a2 a3=some o):T Try.prog Try.f12.ntmps 5 (rfB Qo) (f12y6n0S a1 a2 a3) (·=f12y6n0E a1 a2 a3 o):=by
 unfold f12y6n0 at h;refine T.block' (i:=3) (by kernel_rfl) ?_;rcases Qj h with ⟨h5,h⟩|⟨h5,h⟩
 ·obtain rfl:=Qg h;exact rK Qh 1 [j3] [some true] [] [] [] (.exit 2) ((f12y6n0E a1 a2 a3 .exit2).2) (ap h5 an) rfl
 ·obtain ⟨h7,h⟩:=Qcc h;obtain rfl:=Qg h;exact rE Qh [j3,j3,j3,([],[(3,.fits)],[(3,.row 8 ((a3++[(Qa.mk a1.index a1.units a1.bid.Price)]).map Qa.cells))])] [some false,none] [] [8] [] (.norm,(f12y6n0E a1 a2 a3 .norm).2) (ap h5 (ap (fit_map (te:=ti36) (xs:=a3) (n:=1) (c:=Qa.cells) h7 rfl) (ap (app_cv (xs:=a3) (ys:=[(Qa.mk a1.index a1.units a1.bid.Price)]) (c:=Qa.cells)) an))) rfl
theorem f12y6_exit2(a1:Qd)(a2:Int)(a3:List Qa)(h:f12y6n0 a1 a2 a3=some .exit2):Qbi Try.prog [(jA Qd.cells a1)] 0 [some (.lp Qo .ready none (kL 63 [(5,(.bp 1 0)),(9,(.bp 2 0)),(10,(.bp 3 0))])),some (.box [(.own 4)]),some (.box (((cInt .i64) a2).map .pl)),some (.box [(.pl .nilf)]),jR 3 Qa.cells a3] false [some (.lp Qo .done (some (.exit 2)) (kL 63 [(5,(.bp 1 0)),(9,(.bp 2 0)),(10,(.bp 3 0))])),some (.box [(.own 4)]),some (.box (((cInt .i64) a2).map .pl)),some (.box [(.pl .nilf)]),jR 3 Qa.cells a3] :=
 Qbi.mk (c:=Qo) (n:=Try.f12.ntmps) (base:=5) (cs:=(kL 63 [(5,(.bp 1 0)),(9,(.bp 2 0)),(10,(.bp 3 0))])) (cs2:=(kL 63 [(5,(.bp 1 0)),(9,(.bp 2 0)),(10,(.bp 3 0))])) (cs3:=(kL 63 [(5,(.bp 1 0)),(9,(.bp 2 0)),(10,(.bp 3 0))])) (st2:=(mkS [(5,(.bp 1 0)),(9,(.bp 2 0)),(10,(.bp 3 0)),(11,(.bp 5 0))],[some (.lp Qo .ready none (kL 63 [(5,(.bp 1 0)),(9,(.bp 2 0)),(10,(.bp 3 0))])),some (.box [(.own 4)]),some (.box (((cInt .i64) a2).map .pl)),some (.box [(.pl .nilf)]),jR 3 Qa.cells a3,some (.box ((Qd.cells a1).map .pl))])) (e:=(f12y6n0E a1 a2 a3 .exit2)) (pend:=(some (.exit 2)))
  (run_ok (P:=Try.prog) (C:=cfg) Qh (c:=rfA Qo) (rs:=[j3]) (ps:=[]) (tds:=[]) (m:=[5]) (keep:=[5,9,10,11]) (by kernel_rfl) an)
  (f12y6n0_ok a1 a2 a3 h)
theorem f12y6_norm(a1:Qd)(a2:Int)(a3:List Qa)(h:f12y6n0 a1 a2 a3=some .norm):Qbi Try.prog [(jA Qd.cells a1)] 0 [some (.lp Qo .ready none (kL 63 [(5,(.bp 1 0)),(9,(.bp 2 0)),(10,(.bp 3 0))])),some (.box [(.own 4)]),some (.box (((cInt .i64) a2).map .pl)),some (.box [(.pl .nilf)]),jR 3 Qa.cells a3] true [some (.lp Qo .ready none (kL 63 [(5,(.bp 1 0)),(9,(.bp 2 0)),(10,(.bp 3 0))])),some (.box [(.own 5)]),some (.box (((cInt .i64) a2).map .pl)),some (.box [(.pl .nilf)]),none,some (.row false 3 ((a3++[(Qa.mk a1.index a1.units a1.bid.Price)]).map Qa.cells))] :=
 Qbi.mk (c:=Qo) (n:=Try.f12.ntmps) (base:=5) (cs:=(kL 63 [(5,(.bp 1 0)),(9,(.bp 2 0)),(10,(.bp 3 0))])) (cs2:=(kL 63 [(5,(.bp 1 0)),(9,(.bp 2 0)),(10,(.bp 3 0))])) (cs3:=(kL 63 [(5,(.bp 1 0)),(9,(.bp 2 0)),(10,(.bp 3 0))])) (st2:=(mkS [(5,(.bp 1 0)),(9,(.bp 2 0)),(10,(.bp 3 0)),(11,(.bp 5 0))],[some (.lp Qo .ready none (kL 63 [(5,(.bp 1 0)),(9,(.bp 2 0)),(10,(.bp 3 0))])),some (.box [(.own 4)]),some (.box (((cInt .i64) a2).map .pl)),some (.box [(.pl .nilf)]),jR 3 Qa.cells a3,some (.box ((Qd.cells a1).map .pl))])) (e:=(f12y6n0E a1 a2 a3 .norm)) (pend:=none)
  (run_ok (P:=Try.prog) (C:=cfg) Qh (c:=rfA Qo) (rs:=[j3]) (ps:=[]) (tds:=[]) (m:=[5]) (keep:=[5,9,10,11]) (by kernel_rfl) an)
  (f12y6n0_ok a1 a2 a3 h)


inductive f53r6n2O where
 | exit0 (v43:List Qd)
noncomputable def f53r6n2E(ba1:Qe)(be2:Qb)(bd3:Int)(bg4:List Qa):f53r6n2O→Ex×Tr×Hp
 | .exit0 v43=>((.exit 0),mkS [(0,(.yl 0)),(2,(.bp 2 0)),(4,(.own 7))],[some (.lp Qo .ready none (kL 63 [(5,(.bp 3 0)),(9,(.bp 4 0)),(10,(.bp 5 0))])),some (.box ((Qe.cells ba1).map .pl)),some (.box ((Qb.cells be2).map .pl)),some (.box [(.own 6)]),some (.box (((cInt .i64) bd3).map .pl)),some (.box [(.pl (.fn 56))]),jR 3 Qa.cells bg4,jR 6 Qd.cells v43])
noncomputable def f53r6n2S(ba1:Qe)(be2:Qb)(bd3:Int)(bg4:List Qa)(v29:Int)(v30:List Qd):Tr×Hp:=(mkS [(0,(.yl 0)),(2,(.bp 2 0)),(4,(.own 7)),(11,(jL 4 Qc.cells ba1.Bids)),(12,(jI (ba1.Bids.length:Int))),(13,(jI v29))],[some (.lp Qo .ready none (kL 63 [(5,(.bp 3 0)),(9,(.bp 4 0)),(10,(.bp 5 0))])),some (.box ((Qe.cells ba1).map .pl)),some (.box ((Qb.cells be2).map .pl)),some (.box [(.own 6)]),some (.box (((cInt .i64) bd3).map .pl)),some (.box [(.pl (.fn 56))]),jR 3 Qa.cells bg4,jR 6 Qd.cells v30])
noncomputable def f53r6n2:Nat→Qe→Qb→Int→List Qa→Int→List Qd→Option f53r6n2O
 | 0,_,_,_,_,_,_=>none
 | f+1,ba1,be2,bd3,bg4,v29,v30 =>
  bif decide (v29<(ba1.Bids.length:Int)) then
   (at? ba1.Bids v29).bind fun x38 =>
   bif (seq x38.Lot be2.Name) then
    bif decide (be2.Reserve≤x38.Price) then
     req (fit (v30.length+1) 64) <|
     (f53r6n2 f ba1 be2 bd3 bg4 (wr64 (v29+1)) (v30++[(Qd.mk v29 0 x38)]))
    else
     (f53r6n2 f ba1 be2 bd3 bg4 (wr64 (v29+1)) v30)
   else
    (f53r6n2 f ba1 be2 bd3 bg4 (wr64 (v29+1)) v30)
  else
   some (.exit0 v30)
theorem f53r6n2_ok:∀(f:Nat)(ba1:Qe)(be2:Qb)(bd3:Int)(bg4:List Qa)(v29:Int)(v30:List Qd){o:f53r6n2O},f53r6n2 f ba1 be2 bd3 bg4 v29 v30=some o→TL Try.prog Try.f53.ntmps 7 f (cL (cL (Qk 1 (cL (Qk 1 c53))))) (f53r6n2S ba1 be2 bd3 bg4 v29 v30) (·=f53r6n2E ba1 be2 bd3 bg4 o)
 | 0,_,_,_,_,_,_,o,h=>by rw [f53r6n2] at h; cases h
 | f+1,ba1,be2,bd3,bg4,v29,v30,o,h=>by
  rw [f53r6n2] at h;refine TL.body (K:=fun s=>∃v29:Int,∃v30:List Qd,s=(f53r6n2S ba1 be2 bd3 bg4 v29 v30)∧f53r6n2 f ba1 be2 bd3 bg4 v29 v30=some o) ?_ (by rintro _ ⟨v29,v30,rfl,hk⟩; exact f53r6n2_ok f _ _ _ _ _ _ hk);rcases Qj h with ⟨h32,h⟩|⟨h32,h⟩
  ·obtain ⟨x38,h39,h⟩:=Qf h;rcases Qj h with ⟨h40,h⟩|⟨h40,h⟩
   ·rcases Qj h with ⟨h41,h⟩|⟨h41,h⟩
    ·obtain ⟨h42,h⟩:=Qcc h;exact rE Qh [j3,([],[(1,.idx (Int.toNat v29) (Qc.cells x38))],[]),(jT [6,7,8,9,10],[(11,.bool true)],[]),([],[(5,.fits)],[(5,.row 10 ((v30++[(Qd.mk v29 0 x38)]).map Qd.cells))]),j3] [some true,some true] [] [10] [0,2,4,11,12,13] (.norm,(f53r6n2S ba1 be2 bd3 bg4 (wr64 (v29+1)) (v30++[(Qd.mk v29 0 x38)]))) (ap h32 (ap (Qi h39).1 (ap (Qn Qc.cells (Qi h39).2) (ap2 h40 (ap4 h40 (ap h41 (ap (fit_map (te:=ti78) (xs:=v30) (n:=1) (c:=Qd.cells) h42 rfl) (ap (app_cv (xs:=v30) (ys:=[(Qd.mk v29 0 x38)]) (c:=Qd.cells)) an)))))))) (Qt.norm ⟨(wr64 (v29+1)),(v30++[(Qd.mk v29 0 x38)]),rfl,h⟩)
    ·exact rE Qh [j3,([],[(1,.idx (Int.toNat v29) (Qc.cells x38))],[]),(jT [6,7,8,9,10],[(11,.bool true)],[]),j3] [some true,some false] [] [7] [0,2,4,11,12,13] (.norm,(f53r6n2S ba1 be2 bd3 bg4 (wr64 (v29+1)) v30)) (ap h32 (ap (Qi h39).1 (ap (Qn Qc.cells (Qi h39).2) (ap2 h40 (ap4 h40 (ap h41 an)))))) (Qt.norm ⟨(wr64 (v29+1)),v30,rfl,h⟩)
   ·exact rE Qh [j3,([],[(1,.idx (Int.toNat v29) (Qc.cells x38))],[]),(jF [6,7,8,9,10],[(11,.bool false)],[]),j3] [some true,none] [] [7] [0,2,4,11,12,13] (.norm,(f53r6n2S ba1 be2 bd3 bg4 (wr64 (v29+1)) v30)) (ap h32 (ap (Qi h39).1 (ap (Qn Qc.cells (Qi h39).2) (ap2 h40 (ap4 h40 an))))) (Qt.norm ⟨(wr64 (v29+1)),v30,rfl,h⟩)
  ·obtain rfl:=Qg h;exact rK Qh 2 [j3] [some false] [] [7] [0,2,4] (.exit 0) ((f53r6n2E ba1 be2 bd3 bg4 (.exit0 v30)).2) (ap h32 an) (Qt.out rfl rfl)
noncomputable def f53r6n2L(ba1:Qe)(be2:Qb)(bd3:Int)(bg4:List Qa):List Qc→Int→(List Qd)→Option f53r6n2O
 | [],v29,v30 =>
  some (.exit0 v30)
 | x0::rest,v29,v30 =>
  bif (seq x0.Lot be2.Name) then
   bif decide (be2.Reserve≤x0.Price) then
    req (fit (v30.length+1) 64) <|
    (f53r6n2L ba1 be2 bd3 bg4 rest (v29+1) (v30++[(Qd.mk v29 0 x0)]))
   else
    (f53r6n2L ba1 be2 bd3 bg4 rest (v29+1) v30)
  else
   (f53r6n2L ba1 be2 bd3 bg4 rest (v29+1) v30)
theorem f53r6n2L_eq(ba1:Qe)(be2:Qb)(bd3:Int)(bg4:List Qa):∀(rest:List Qc)(f k:Nat)(v30:List Qd),ba1.Bids.drop k=rest→ba1.Bids.length≤maxLen→rest.length<f→f53r6n2 f ba1 be2 bd3 bg4 (k:Int) v30=f53r6n2L ba1 be2 bd3 bg4 rest (k:Int) v30
 | _,0,_,_,_,_,hf=>absurd hf (Nat.not_lt_zero _)
 | [],f+1,k,v30,hd,hm,hf=>by
  have hk:¬((k:Int)<(ba1.Bids.length:Int)):=by have:=Qbb hd; omega
  rw [f53r6n2,f53r6n2L];simp only [decide_eq_false hk,cond_false]
 | x0::rest,f+1,k,v30,hd,hm,hf=>by
  obtain ⟨hx,hlt,hd'⟩:=drop_cons hd;have hk:(k:Int)<(ba1.Bids.length:Int):=by omega
  have hw:wr64 ((k:Int)+1)=(k:Int)+1:=wr64_of (by omega) (by unfold maxLen at hm; omega);have ih:∀(v30:List Qd),f53r6n2 f ba1 be2 bd3 bg4 ((k:Int)+1) v30=f53r6n2L ba1 be2 bd3 bg4 rest ((k:Int)+1) v30:=fun v30=>f53r6n2L_eq ba1 be2 bd3 bg4 rest f (k+1) v30 hd' hm (by simpa using hf);rw [f53r6n2,f53r6n2L];simp only [decide_eq_true hk,cond_true,at_nat,hx,Option.bind_some,hw,ih]
theorem f53r6n2_run(ba1:Qe)(be2:Qb)(bd3:Int)(bg4:List Qa)(v30:List Qd)(hm:ba1.Bids.length≤maxLen):f53r6n2 FUEL ba1 be2 bd3 bg4 0 v30=f53r6n2L ba1 be2 bd3 bg4 ba1.Bids 0 v30:=f53r6n2L_eq ba1 be2 bd3 bg4 ba1.Bids FUEL 0 v30 List.drop_zero hm (Qba hm)
inductive f53r6n1O where
 | norm (v47:List Qd)
noncomputable def f53r6n1E(ba1:Qe)(be2:Qb)(bd3:Int)(bg4:List Qa):f53r6n1O→Ex×Tr×Hp
 | .norm v47=>(.norm,mkS [(0,(.yl 0)),(2,(.bp 2 0)),(4,(.own 7))],[some (.lp Qo .ready none (kL 63 [(5,(.bp 3 0)),(9,(.bp 4 0)),(10,(.bp 5 0))])),some (.box ((Qe.cells ba1).map .pl)),some (.box ((Qb.cells be2).map .pl)),some (.box [(.own 6)]),some (.box (((cInt .i64) bd3).map .pl)),some (.box [(.pl (.fn 56))]),jR 3 Qa.cells bg4,jR 6 Qd.cells v47])
noncomputable def f53r6n1S(ba1:Qe)(be2:Qb)(bd3:Int)(bg4:List Qa):Tr×Hp:=(mkS [(0,(.yl 0)),(1,(.bp 1 0)),(2,(.bp 2 0)),(4,(.pl (.sl .nil 0 [])))],[some (.lp Qo .ready none (kL 63 [(5,(.bp 3 0)),(9,(.bp 4 0)),(10,(.bp 5 0))])),some (.box ((Qe.cells ba1).map .pl)),some (.box ((Qb.cells be2).map .pl)),some (.box [(.own 6)]),some (.box (((cInt .i64) bd3).map .pl)),some (.box [(.pl (.fn 56))]),jR 3 Qa.cells bg4])
noncomputable def f53r6n1(ba1:Qe)(be2:Qb)(bd3:Int)(bg4:List Qa):Option f53r6n1O :=
 (f53r6n2 FUEL ba1 be2 bd3 bg4 0 []).bind fun o44=>match o44 with
 | .exit0 v46=>some (.norm v46)
theorem f53r6n1_ok(ba1:Qe)(be2:Qb)(bd3:Int)(bg4:List Qa){o:f53r6n1O}(h:f53r6n1 ba1 be2 bd3 bg4=some o):T Try.prog Try.f53.ntmps 7 (cL (Qk 1 c53)) (f53r6n1S ba1 be2 bd3 bg4) (·=f53r6n1E ba1 be2 bd3 bg4 o):=by
 unfold f53r6n1 at h;refine rN Qh 1 [([],[],[(2,.val (jI (ba1.Bids.length:Int)))])] [] [.mat 4 6] [7] [0,2,4,11,12,13] (f53r6n2S ba1 be2 bd3 bg4 0 []) (ap (Qac (xs:=ba1.Bids) (c:=Qc.cells)) an) ?_;obtain ⟨o44,h45,h⟩:=Qf h;cases o44 with
 | exit0 v46 =>
  obtain rfl:=Qg h;exact T.last' (T.bl (i:=0) (by kernel_rfl) (by kernel_rfl) (f53r6n2_ok FUEL ba1 be2 bd3 bg4 0 [] h45)) (tds:=[]) (m:=[7]) (keep:=[0,2,4]) (st2:=(f53r6n1E ba1 be2 bd3 bg4 (.norm v46)).2) (by kernel_rfl) an rfl
inductive f53r6n3O where
 | norm (v97:Int) (v98:List Qa)
 | ret
noncomputable def f53r6n3E(bd1:Int)(bf2:List Qd)(bd3:Int)(ba4:Qe)(be5:Qb)(bd6:Int)(bg7:List Qa):f53r6n3O→Ex×Tr×Hp
 | .norm v97 v98=>(.norm,mkS [(0,(.yl 0)),(7,(jI v97)),(41,(.own 8)),(42,(jI (bf2.length:Int))),(43,(jI bd3))],[some (.lp Qo .ready none (kL 63 [(5,(.bp 3 0)),(9,(.bp 4 0)),(10,(.bp 5 0))])),some (.box ((Qe.cells ba4).map .pl)),some (.box ((Qb.cells be5).map .pl)),some (.box [(.own 7)]),some (.box (((cInt .i64) bd6).map .pl)),some (.box [(.pl (.fn 56))]),none,jR 3 Qa.cells v98,jR 6 Qd.cells bf2])
 | .ret=>(.ret,mkS [],[some (.lp Qo .done (some (.exit 2)) (kL 63 [(5,(.bp 3 0)),(9,(.bp 4 0)),(10,(.bp 5 0))])),some (.box ((Qe.cells ba4).map .pl)),some (.box ((Qb.cells be5).map .pl)),some (.box [(.own 7)]),some (.box (((cInt .i64) bd6).map .pl)),some (.box [(.pl (.fn 56))]),none,jR 3 Qa.cells bg7])
noncomputable def f53r6n3S(bd1:Int)(bf2:List Qd)(bd3:Int)(ba4:Qe)(be5:Qb)(bd6:Int)(bg7:List Qa):Tr×Hp:=(mkS [(0,(.yl 0)),(7,(jI bd1)),(41,(.own 8)),(42,(jI (bf2.length:Int))),(43,(jI bd3))],[some (.lp Qo .ready none (kL 63 [(5,(.bp 3 0)),(9,(.bp 4 0)),(10,(.bp 5 0))])),some (.box ((Qe.cells ba4).map .pl)),some (.box ((Qb.cells be5).map .pl)),some (.box [(.own 7)]),some (.box (((cInt .i64) bd6).map .pl)),some (.box [(.pl (.fn 56))]),none,jR 3 Qa.cells bg7,jR 6 Qd.cells bf2])
noncomputable def f53r6n3(bd1:Int)(bf2:List Qd)(bd3:Int)(ba4:Qe)(be5:Qb)(bd6:Int)(bg7:List Qa):Option f53r6n3O :=
 (at? bf2 bd3).bind fun x93 =>
 (f12y2n0 (Qd.mk x93.index (mnI bd1 x93.bid.Units) x93.bid) bd6 bg7).bind fun o95=>match o95 with
 | .exit2=>some .ret
 | .norm=>some (.norm (wr64 (bd1-(mnI bd1 x93.bid.Units))) (bg7++[(Qa.mk x93.index (mnI bd1 x93.bid.Units) bd6)]))
theorem f53r6n3_ok(bd1:Int)(bf2:List Qd)(bd3:Int)(ba4:Qe)(be5:Qb)(bd6:Int)(bg7:List Qa){o:f53r6n3O}(h:f53r6n3 bd1 bf2 bd3 ba4 be5 bd6 bg7=some o):T Try.prog Try.f53.ntmps 7 (cL (Qk 2 (cL (cL (Qk 3 (Qk 1 (Qk 1 c53))))))) (f53r6n3S bd1 bf2 bd3 ba4 be5 bd6 bg7) (·=f53r6n3E bd1 bf2 bd3 ba4 be5 bd6 bg7 o):=by
 unfold f53r6n3 at h;refine T.block' (i:=3) (by kernel_rfl) ?_;obtain ⟨x93,h94,h⟩:=Qf h;refine rN Qh 3 [([],[(0,.at_ (Int.toNat bd3)),(1,.idx 0 (Qd.cells x93))],[]),j3,j3] [] [] [7,9,8] [0,7,9,41,42,43] (mkS [(0,(.yl 0)),(7,(jI (wr64 (bd1-(mnI bd1 x93.bid.Units))))),(9,(.bp 8 0)),(41,(.own 9)),(42,(jI (bf2.length:Int))),(43,(jI bd3))],[some (.lp Qo .ready none (kL 63 [(5,(.bp 3 0)),(9,(.bp 4 0)),(10,(.bp 5 0))])),some (.box ((Qe.cells ba4).map .pl)),some (.box ((Qb.cells be5).map .pl)),some (.box [(.own 7)]),some (.box (((cInt .i64) bd6).map .pl)),some (.box [(.pl (.fn 56))]),none,jR 3 Qa.cells bg7,some (.box ((Qd.cells (Qd.mk x93.index (mnI bd1 x93.bid.Units) x93.bid)).map .pl)),jR 6 Qd.cells bf2]) (ap (Qi h94).1 (ap (Qag Qd.cells (Qi h94).2) (ap (Qn Qd.cells (Qi h94).2) an))) ?_
 obtain ⟨o95,h96,h⟩:=Qf h;cases o95 with
 | exit2 =>
  refine T.oneN (by kernel_rfl) (yN Qh j3 2 false [some (.lp Qo .done (some (.exit 2)) (kL 63 [(5,(.bp 3 0)),(9,(.bp 4 0)),(10,(.bp 5 0))])),none,none,some (.box [(.own 7)]),some (.box (((cInt .i64) bd6).map .pl)),some (.box [(.pl (.fn 56))]),none,jR 3 Qa.cells bg7,none,none] [] [7,9] [0,7,41,42,43,60] (mkS [(0,(.yl 0)),(7,(jI (wr64 (bd1-(mnI bd1 x93.bid.Units))))),(41,(.own 8)),(42,(jI (bf2.length:Int))),(43,(jI bd3)),(60,(jB true))],[some (.lp Qo .done (some (.exit 2)) (kL 63 [(5,(.bp 3 0)),(9,(.bp 4 0)),(10,(.bp 5 0))])),some (.box ((Qe.cells ba4).map .pl)),some (.box ((Qb.cells be5).map .pl)),some (.box [(.own 7)]),some (.box (((cInt .i64) bd6).map .pl)),some (.box [(.pl (.fn 56))]),none,jR 3 Qa.cells bg7,jR 6 Qd.cells bf2]) (ap (Qbi.rn 10 [0,3,4,5,7] (f12y2_exit2 (Qd.mk x93.index (mnI bd1 x93.bid.Units) x93.bid) bd6 bg7 h96)) an)) rfl ?_
  obtain rfl:=Qg h;exact rE Qh [] [none] [] [7] [] (.ret,(f53r6n3E bd1 bf2 bd3 ba4 be5 bd6 bg7 .ret).2) an rfl
 | norm =>
  refine T.oneN (by kernel_rfl) (yN Qh j3 2 true [some (.lp Qo .ready none (kL 63 [(5,(.bp 3 0)),(9,(.bp 4 0)),(10,(.bp 5 0))])),none,none,some (.box [(.own 10)]),some (.box (((cInt .i64) bd6).map .pl)),some (.box [(.pl (.fn 56))]),none,none,none,none,some (.row false 3 ((bg7++[(Qa.mk x93.index (mnI bd1 x93.bid.Units) bd6)]).map Qa.cells))] [] [10,9] [0,7,41,42,43,60] (mkS [(0,(.yl 0)),(7,(jI (wr64 (bd1-(mnI bd1 x93.bid.Units))))),(41,(.own 8)),(42,(jI (bf2.length:Int))),(43,(jI bd3)),(60,(jB false))],[some (.lp Qo .ready none (kL 63 [(5,(.bp 3 0)),(9,(.bp 4 0)),(10,(.bp 5 0))])),some (.box ((Qe.cells ba4).map .pl)),some (.box ((Qb.cells be5).map .pl)),some (.box [(.own 7)]),some (.box (((cInt .i64) bd6).map .pl)),some (.box [(.pl (.fn 56))]),none,some (.row false 3 ((bg7++[(Qa.mk x93.index (mnI bd1 x93.bid.Units) bd6)]).map Qa.cells)),jR 6 Qd.cells bf2]) (ap (Qbi.rn 10 [0,3,4,5,7] (f12y2_norm (Qd.mk x93.index (mnI bd1 x93.bid.Units) x93.bid) bd6 bg7 h96)) an)) rfl ?_
  obtain rfl:=Qg h;exact rE Qh [] [none] [] [7,8] [0,7,41,42,43] (.norm,(f53r6n3E bd1 bf2 bd3 ba4 be5 bd6 bg7 (.norm (wr64 (bd1-(mnI bd1 x93.bid.Units))) (bg7++[(Qa.mk x93.index (mnI bd1 x93.bid.Units) bd6)]))).2) an rfl
inductive f53r6n4O where
 | exit2 (v103:List Qa)
 | ret (v104:List Qa)
noncomputable def f53r6n4E(x53:List Qd)(a1:Qe)(a2:Qb)(a3:Int):f53r6n4O→Ex×Tr×Hp
 | .exit2 v103=>((.exit 2),mkS [],[some (.lp Qo .ready none (kL 63 [(5,(.bp 3 0)),(9,(.bp 4 0)),(10,(.bp 5 0))])),some (.box ((Qe.cells a1).map .pl)),some (.box ((Qb.cells a2).map .pl)),some (.box [(.own 7)]),some (.box (((cInt .i64) a3).map .pl)),some (.box [(.pl (.fn 56))]),none,jR 3 Qa.cells v103])
 | .ret v104=>(.ret,mkS [],[some (.lp Qo .done (some (.exit 2)) (kL 63 [(5,(.bp 3 0)),(9,(.bp 4 0)),(10,(.bp 5 0))])),some (.box ((Qe.cells a1).map .pl)),some (.box ((Qb.cells a2).map .pl)),some (.box [(.own 7)]),some (.box (((cInt .i64) a3).map .pl)),some (.box [(.pl (.fn 56))]),none,jR 3 Qa.cells v104])
noncomputable def f53r6n4S(x53:List Qd)(a1:Qe)(a2:Qb)(a3 v86 v87:Int)(v88:List Qa):Tr×Hp:=(mkS [(0,(.yl 0)),(7,(jI v86)),(41,(.own 8)),(42,(jI (x53.length:Int))),(43,(jI v87))],[some (.lp Qo .ready none (kL 63 [(5,(.bp 3 0)),(9,(.bp 4 0)),(10,(.bp 5 0))])),some (.box ((Qe.cells a1).map .pl)),some (.box ((Qb.cells a2).map .pl)),some (.box [(.own 7)]),some (.box (((cInt .i64) a3).map .pl)),some (.box [(.pl (.fn 56))]),none,jR 3 Qa.cells v88,jR 6 Qd.cells x53])
noncomputable def f53r6n4:Nat→List Qd→Qe→Qb→Int→Int→Int→List Qa→Option f53r6n4O
 | 0,_,_,_,_,_,_,_=>none
 | f+1,x53,a1,a2,a3,v86,v87,v88 =>
  bif decide (v87<(x53.length:Int)) then
   (f53r6n3 v86 x53 v87 a1 a2 a3 v88).bind fun o99=>match o99 with
   | .norm v101 v102=>(f53r6n4 f x53 a1 a2 a3 v101 (wr64 (v87+1)) v102)
   | .ret=>some (.ret v88)
  else
   some (.exit2 v88)
theorem f53r6n4_ok:∀(f:Nat)(x53:List Qd)(a1:Qe)(a2:Qb)(a3 v86 v87:Int)(v88:List Qa){o:f53r6n4O},f53r6n4 f x53 a1 a2 a3 v86 v87 v88=some o→TL Try.prog Try.f53.ntmps 7 f (cL (cL (Qk 3 (Qk 1 (Qk 1 c53))))) (f53r6n4S x53 a1 a2 a3 v86 v87 v88) (·=f53r6n4E x53 a1 a2 a3 o)
 | 0,_,_,_,_,_,_,_,o,h=>by rw [f53r6n4] at h; cases h
 | f+1,x53,a1,a2,a3,v86,v87,v88,o,h=>by
  rw [f53r6n4] at h;refine TL.body (K:=fun s=>∃v86:Int,∃v87:Int,∃v88:List Qa,s=(f53r6n4S x53 a1 a2 a3 v86 v87 v88)∧f53r6n4 f x53 a1 a2 a3 v86 v87 v88=some o) ?_ (by rintro _ ⟨v86,v87,v88,rfl,hk⟩; exact f53r6n4_ok f _ _ _ _ _ _ _ hk);rcases Qj h with ⟨h90,h⟩|⟨h90,h⟩
  ·refine rN Qh 2 [j3] [some true] [] [7,8] [0,7,41,42,43] (f53r6n3S v86 x53 v87 a1 a2 a3 v88) (ap h90 an) ?_;obtain ⟨o99,h100,h⟩:=Qf h;cases o99 with
   | norm v101 v102 =>
    refine T.oneN (by kernel_rfl) (f53r6n3_ok v86 x53 v87 a1 a2 a3 v88 h100) (st2:=(f53r6n3E v86 x53 v87 a1 a2 a3 v88 (.norm v101 v102)).2) rfl ?_;exact rE Qh [j3] [] [] [7,8] [0,7,41,42,43] (.norm,(f53r6n4S x53 a1 a2 a3 v101 (wr64 (v87+1)) v102)) an (Qt.norm ⟨v101,(wr64 (v87+1)),v102,rfl,h⟩)
   | ret =>
    obtain rfl:=Qg h;exact T.oneX' (by kernel_rfl) (f53r6n3_ok v86 x53 v87 a1 a2 a3 v88 h100) (tds:=[]) (m:=[7]) (keep:=[]) (st2:=(f53r6n4E x53 a1 a2 a3 (.ret v88)).2) (by kernel_rfl) an rfl (Qt.out rfl rfl)
  ·obtain rfl:=Qg h;exact rK Qh 2 [j3] [some false] [] [7] [] (.exit 2) ((f53r6n4E x53 a1 a2 a3 (.exit2 v88)).2) (ap h90 an) (Qt.out rfl rfl)
inductive f53r6n0O where
 | norm (v109:List Qa)
 | ret (v110:List Qa)
noncomputable def f53r6n0E(a1:Qe)(a2:Qb)(a3:Int)(a4:List Qa):f53r6n0O→Ex×Tr×Hp
 | .norm v109=>(.norm,mkS [],[some (.lp Qo .ready none (kL 63 [(5,(.bp 3 0)),(9,(.bp 4 0)),(10,(.bp 5 0))])),some (.box ((Qe.cells a1).map .pl)),some (.box ((Qb.cells a2).map .pl)),some (.box [(.own 7)]),some (.box (((cInt .i64) a3).map .pl)),some (.box [(.pl (.fn 56))]),none,jR 3 Qa.cells v109])
 | .ret v110=>(.ret,mkS [],[some (.lp Qo .done (some (.exit 2)) (kL 63 [(5,(.bp 3 0)),(9,(.bp 4 0)),(10,(.bp 5 0))])),some (.box ((Qe.cells a1).map .pl)),some (.box ((Qb.cells a2).map .pl)),some (.box [(.own 7)]),some (.box (((cInt .i64) a3).map .pl)),some (.box [(.pl (.fn 56))]),none,jR 3 Qa.cells v110])
noncomputable def f53r6n0S(a1:Qe)(a2:Qb)(a3:Int)(a4:List Qa):Tr×Hp:=(Qan [(.yl 0),(.bp 1 0),(.bp 2 0)] 0 .leaf,[some (.lp Qo .ready none (kL 63 [(5,(.bp 3 0)),(9,(.bp 4 0)),(10,(.bp 5 0))])),some (.box ((Qe.cells a1).map .pl)),some (.box ((Qb.cells a2).map .pl)),some (.box [(.own 6)]),some (.box (((cInt .i64) a3).map .pl)),some (.box [(.pl (.fn 56))]),jR 3 Qa.cells a4])
noncomputable def f53r6n0(a1:Qe)(a2:Qb)(a3:Int)(a4:List Qa):Option f53r6n0O :=
 (f53r6n1 a1 a2 a3 a4).bind fun o48=>match o48 with
 | .norm v50=>(f54r1 v50).bind fun x53 =>
  (f53r6n4 FUEL x53 a1 a2 a3 a2.Units 0 a4).bind fun o105=>match o105 with
  | .exit2 v107=>some (.norm v107)
  | .ret v108=>some (.ret v108)
theorem f53r6n0_ok(a1:Qe)(a2:Qb)(a3:Int)(a4:List Qa){o:f53r6n0O}(h:f53r6n0 a1 a2 a3 a4=some o):T Try.prog Try.f53.ntmps 7 c53 (f53r6n0S a1 a2 a3 a4) (·=f53r6n0E a1 a2 a3 a4 o):=by
 unfold f53r6n0 at h;refine rN Qh 1 [j3] [] [] [] [0,1,2,4] (f53r6n1S a1 a2 a3 a4) an ?_;obtain ⟨o48,h49,h⟩:=Qf h;cases o48 with
 | norm v50 =>
  refine T.oneN (by kernel_rfl) (f53r6n1_ok a1 a2 a3 a4 h49) (st2:=(f53r6n1E a1 a2 a3 a4 (.norm v50)).2) rfl ?_;obtain ⟨x53,h54,h⟩:=Qf h;refine rN Qh 3 [([],[(1,.call (.tup []) (jN 7 [jR 6 Qd.cells x53]))],[]),j3,([],[],[(1,.val (jI (x53.length:Int)))])] [] [.movC 3 0] [8,7] [0,7,41,42,43] (f53r6n4S x53 a1 a2 a3 a2.Units 0 a4) (ap (Qp.rn 8 [7] (f54r1_ok v50 h54)) (ap (Qac (xs:=x53) (c:=Qd.cells)) an)) ?_;obtain ⟨o105,h106,h⟩:=Qf h;cases o105 with
  | exit2 v107 =>
   obtain rfl:=Qg h;exact T.last' (T.bl (i:=2) (by kernel_rfl) (by kernel_rfl) (f53r6n4_ok FUEL x53 a1 a2 a3 a2.Units 0 a4 h106)) (tds:=[]) (m:=[7]) (keep:=[]) (st2:=(f53r6n0E a1 a2 a3 a4 (.norm v107)).2) (by kernel_rfl) an rfl
  | ret v108 =>
   obtain rfl:=Qg h;exact T.last' (T.bl (i:=2) (by kernel_rfl) (by kernel_rfl) (f53r6n4_ok FUEL x53 a1 a2 a3 a2.Units 0 a4 h106)) (tds:=[]) (m:=[7]) (keep:=[]) (st2:=(f53r6n0E a1 a2 a3 a4 (.ret v108)).2) (by kernel_rfl) an rfl
noncomputable def f53r6(a1:Qe)(a2:Qb)(a3:Int)(a4:List Qa):Option (Bool×(List Qa)):=(f53r6n0 a1 a2 a3 a4).bind fun o=>match o with
 | .norm v109=>some (true,v109)
 | .ret v110=>some (false,v110)
theorem f53r6_ok(a1:Qe)(a2:Qb)(a3:Int)(a4:List Qa){r:Bool×(List Qa)}(h:f53r6 a1 a2 a3 a4=some r):Qp Try.prog true 53 [(.yl 0),(.bp 1 0),(.bp 2 0)] [some (.lp Qo .ready none (kL 63 [(5,(.bp 3 0)),(9,(.bp 4 0)),(10,(.bp 5 0))])),some (.box ((Qe.cells a1).map .pl)),some (.box ((Qb.cells a2).map .pl)),some (.box [(.own 6)]),some (.box (((cInt .i64) a3).map .pl)),some (.box [(.pl (.fn 56))]),jR 3 Qa.cells a4] (.tup []) [some (.lp Qo (lstOf r.1) (pdOf r.1 (.exit 2)) (kL 63 [(5,(.bp 3 0)),(9,(.bp 4 0)),(10,(.bp 5 0))])),some (.box ((Qe.cells a1).map .pl)),some (.box ((Qb.cells a2).map .pl)),some (.box [(.own 7)]),some (.box (((cInt .i64) a3).map .pl)),some (.box [(.pl (.fn 56))]),none,jR 3 Qa.cells r.2]:=by
 unfold f53r6 at h;obtain ⟨o,ho,h⟩:=Qf h;cases o with
 | norm v109 =>
  obtain rfl:=Qg h;exact Qp.shared Qh (f:=Try.f53) (c:=c53) (by kernel_rfl) (by kernel_rfl) (by kernel_rfl) ((f53r6n0_ok a1 a2 a3 a4 ho).mono fun r e=>by subst e; exact ⟨.inr rfl,by kernel_rfl,by kernel_rfl⟩)
 | ret v110 =>
  obtain rfl:=Qg h;exact Qp.shared Qh (f:=Try.f53) (c:=c53) (by kernel_rfl) (by kernel_rfl) (by kernel_rfl) ((f53r6n0_ok a1 a2 a3 a4 ho).mono fun r e=>by subst e; exact ⟨.inl rfl,by kernel_rfl,by kernel_rfl⟩)

inductive f53r7n2O where
 | exit0 (v43:List Qd)
noncomputable def f53r7n2E(ba1:Qe)(be2:Qb)(bd3:Int)(bg4:List Qa):f53r7n2O→Ex×Tr×Hp
 | .exit0 v43=>((.exit 0),mkS [(0,(.yl 0)),(2,(.bp 2 0)),(4,(.own 7))],[some (.lp Qo .ready none (kL 63 [(5,(.bp 3 0)),(9,(.bp 4 0)),(10,(.bp 5 0))])),some (.box ((Qe.cells ba1).map .pl)),some (.box ((Qb.cells be2).map .pl)),some (.box [(.own 6)]),some (.box (((cInt .i64) bd3).map .pl)),some (.box [(.pl (.fn 57))]),jR 3 Qa.cells bg4,jR 6 Qd.cells v43])
noncomputable def f53r7n2S(ba1:Qe)(be2:Qb)(bd3:Int)(bg4:List Qa)(v29:Int)(v30:List Qd):Tr×Hp:=(mkS [(0,(.yl 0)),(2,(.bp 2 0)),(4,(.own 7)),(11,(jL 4 Qc.cells ba1.Bids)),(12,(jI (ba1.Bids.length:Int))),(13,(jI v29))],[some (.lp Qo .ready none (kL 63 [(5,(.bp 3 0)),(9,(.bp 4 0)),(10,(.bp 5 0))])),some (.box ((Qe.cells ba1).map .pl)),some (.box ((Qb.cells be2).map .pl)),some (.box [(.own 6)]),some (.box (((cInt .i64) bd3).map .pl)),some (.box [(.pl (.fn 57))]),jR 3 Qa.cells bg4,jR 6 Qd.cells v30])
noncomputable def f53r7n2:Nat→Qe→Qb→Int→List Qa→Int→List Qd→Option f53r7n2O
 | 0,_,_,_,_,_,_=>none
 | f+1,ba1,be2,bd3,bg4,v29,v30 =>
  bif decide (v29<(ba1.Bids.length:Int)) then
   (at? ba1.Bids v29).bind fun x38 =>
   bif (seq x38.Lot be2.Name) then
    bif decide (be2.Reserve≤x38.Price) then
     req (fit (v30.length+1) 64) <|
     (f53r7n2 f ba1 be2 bd3 bg4 (wr64 (v29+1)) (v30++[(Qd.mk v29 0 x38)]))
    else
     (f53r7n2 f ba1 be2 bd3 bg4 (wr64 (v29+1)) v30)
   else
    (f53r7n2 f ba1 be2 bd3 bg4 (wr64 (v29+1)) v30)
  else
   some (.exit0 v30)
theorem f53r7n2_ok:∀(f:Nat)(ba1:Qe)(be2:Qb)(bd3:Int)(bg4:List Qa)(v29:Int)(v30:List Qd){o:f53r7n2O},f53r7n2 f ba1 be2 bd3 bg4 v29 v30=some o→TL Try.prog Try.f53.ntmps 7 f (cL (cL (Qk 1 (cL (Qk 1 c53))))) (f53r7n2S ba1 be2 bd3 bg4 v29 v30) (·=f53r7n2E ba1 be2 bd3 bg4 o)
 | 0,_,_,_,_,_,_,o,h=>by rw [f53r7n2] at h; cases h
 | f+1,ba1,be2,bd3,bg4,v29,v30,o,h=>by
  rw [f53r7n2] at h;refine TL.body (K:=fun s=>∃v29:Int,∃v30:List Qd,s=(f53r7n2S ba1 be2 bd3 bg4 v29 v30)∧f53r7n2 f ba1 be2 bd3 bg4 v29 v30=some o) ?_ (by rintro _ ⟨v29,v30,rfl,hk⟩; exact f53r7n2_ok f _ _ _ _ _ _ hk);rcases Qj h with ⟨h32,h⟩|⟨h32,h⟩
  ·obtain ⟨x38,h39,h⟩:=Qf h;rcases Qj h with ⟨h40,h⟩|⟨h40,h⟩
   ·rcases Qj h with ⟨h41,h⟩|⟨h41,h⟩
    ·obtain ⟨h42,h⟩:=Qcc h;exact rE Qh [j3,([],[(1,.idx (Int.toNat v29) (Qc.cells x38))],[]),(jT [6,7,8,9,10],[(11,.bool true)],[]),([],[(5,.fits)],[(5,.row 10 ((v30++[(Qd.mk v29 0 x38)]).map Qd.cells))]),j3] [some true,some true] [] [10] [0,2,4,11,12,13] (.norm,(f53r7n2S ba1 be2 bd3 bg4 (wr64 (v29+1)) (v30++[(Qd.mk v29 0 x38)]))) (ap h32 (ap (Qi h39).1 (ap (Qn Qc.cells (Qi h39).2) (ap2 h40 (ap4 h40 (ap h41 (ap (fit_map (te:=ti78) (xs:=v30) (n:=1) (c:=Qd.cells) h42 rfl) (ap (app_cv (xs:=v30) (ys:=[(Qd.mk v29 0 x38)]) (c:=Qd.cells)) an)))))))) (Qt.norm ⟨(wr64 (v29+1)),(v30++[(Qd.mk v29 0 x38)]),rfl,h⟩)
    ·exact rE Qh [j3,([],[(1,.idx (Int.toNat v29) (Qc.cells x38))],[]),(jT [6,7,8,9,10],[(11,.bool true)],[]),j3] [some true,some false] [] [7] [0,2,4,11,12,13] (.norm,(f53r7n2S ba1 be2 bd3 bg4 (wr64 (v29+1)) v30)) (ap h32 (ap (Qi h39).1 (ap (Qn Qc.cells (Qi h39).2) (ap2 h40 (ap4 h40 (ap h41 an)))))) (Qt.norm ⟨(wr64 (v29+1)),v30,rfl,h⟩)
   ·exact rE Qh [j3,([],[(1,.idx (Int.toNat v29) (Qc.cells x38))],[]),(jF [6,7,8,9,10],[(11,.bool false)],[]),j3] [some true,none] [] [7] [0,2,4,11,12,13] (.norm,(f53r7n2S ba1 be2 bd3 bg4 (wr64 (v29+1)) v30)) (ap h32 (ap (Qi h39).1 (ap (Qn Qc.cells (Qi h39).2) (ap2 h40 (ap4 h40 an))))) (Qt.norm ⟨(wr64 (v29+1)),v30,rfl,h⟩)
  ·obtain rfl:=Qg h;exact rK Qh 2 [j3] [some false] [] [7] [0,2,4] (.exit 0) ((f53r7n2E ba1 be2 bd3 bg4 (.exit0 v30)).2) (ap h32 an) (Qt.out rfl rfl)
noncomputable def f53r7n2L(ba1:Qe)(be2:Qb)(bd3:Int)(bg4:List Qa):List Qc→Int→(List Qd)→Option f53r7n2O
 | [],v29,v30 =>
  some (.exit0 v30)
 | x0::rest,v29,v30 =>
  bif (seq x0.Lot be2.Name) then
   bif decide (be2.Reserve≤x0.Price) then
    req (fit (v30.length+1) 64) <|
    (f53r7n2L ba1 be2 bd3 bg4 rest (v29+1) (v30++[(Qd.mk v29 0 x0)]))
   else
    (f53r7n2L ba1 be2 bd3 bg4 rest (v29+1) v30)
  else
   (f53r7n2L ba1 be2 bd3 bg4 rest (v29+1) v30)
theorem f53r7n2L_eq(ba1:Qe)(be2:Qb)(bd3:Int)(bg4:List Qa):∀(rest:List Qc)(f k:Nat)(v30:List Qd),ba1.Bids.drop k=rest→ba1.Bids.length≤maxLen→rest.length<f→f53r7n2 f ba1 be2 bd3 bg4 (k:Int) v30=f53r7n2L ba1 be2 bd3 bg4 rest (k:Int) v30
 | _,0,_,_,_,_,hf=>absurd hf (Nat.not_lt_zero _)
 | [],f+1,k,v30,hd,hm,hf=>by
  have hk:¬((k:Int)<(ba1.Bids.length:Int)):=by have:=Qbb hd; omega
  rw [f53r7n2,f53r7n2L];simp only [decide_eq_false hk,cond_false]
 | x0::rest,f+1,k,v30,hd,hm,hf=>by
  obtain ⟨hx,hlt,hd'⟩:=drop_cons hd;have hk:(k:Int)<(ba1.Bids.length:Int):=by omega
  have hw:wr64 ((k:Int)+1)=(k:Int)+1:=wr64_of (by omega) (by unfold maxLen at hm; omega);have ih:∀(v30:List Qd),f53r7n2 f ba1 be2 bd3 bg4 ((k:Int)+1) v30=f53r7n2L ba1 be2 bd3 bg4 rest ((k:Int)+1) v30:=fun v30=>f53r7n2L_eq ba1 be2 bd3 bg4 rest f (k+1) v30 hd' hm (by simpa using hf);rw [f53r7n2,f53r7n2L];simp only [decide_eq_true hk,cond_true,at_nat,hx,Option.bind_some,hw,ih]
theorem f53r7n2_run(ba1:Qe)(be2:Qb)(bd3:Int)(bg4:List Qa)(v30:List Qd)(hm:ba1.Bids.length≤maxLen):f53r7n2 FUEL ba1 be2 bd3 bg4 0 v30=f53r7n2L ba1 be2 bd3 bg4 ba1.Bids 0 v30:=f53r7n2L_eq ba1 be2 bd3 bg4 ba1.Bids FUEL 0 v30 List.drop_zero hm (Qba hm)
inductive f53r7n1O where
 | norm (v47:List Qd)
noncomputable def f53r7n1E(ba1:Qe)(be2:Qb)(bd3:Int)(bg4:List Qa):f53r7n1O→Ex×Tr×Hp
 | .norm v47=>(.norm,mkS [(0,(.yl 0)),(2,(.bp 2 0)),(4,(.own 7))],[some (.lp Qo .ready none (kL 63 [(5,(.bp 3 0)),(9,(.bp 4 0)),(10,(.bp 5 0))])),some (.box ((Qe.cells ba1).map .pl)),some (.box ((Qb.cells be2).map .pl)),some (.box [(.own 6)]),some (.box (((cInt .i64) bd3).map .pl)),some (.box [(.pl (.fn 57))]),jR 3 Qa.cells bg4,jR 6 Qd.cells v47])
noncomputable def f53r7n1S(ba1:Qe)(be2:Qb)(bd3:Int)(bg4:List Qa):Tr×Hp:=(mkS [(0,(.yl 0)),(1,(.bp 1 0)),(2,(.bp 2 0)),(4,(.pl (.sl .nil 0 [])))],[some (.lp Qo .ready none (kL 63 [(5,(.bp 3 0)),(9,(.bp 4 0)),(10,(.bp 5 0))])),some (.box ((Qe.cells ba1).map .pl)),some (.box ((Qb.cells be2).map .pl)),some (.box [(.own 6)]),some (.box (((cInt .i64) bd3).map .pl)),some (.box [(.pl (.fn 57))]),jR 3 Qa.cells bg4])
noncomputable def f53r7n1(ba1:Qe)(be2:Qb)(bd3:Int)(bg4:List Qa):Option f53r7n1O :=
 (f53r7n2 FUEL ba1 be2 bd3 bg4 0 []).bind fun o44=>match o44 with
 | .exit0 v46=>some (.norm v46)
theorem f53r7n1_ok(ba1:Qe)(be2:Qb)(bd3:Int)(bg4:List Qa){o:f53r7n1O}(h:f53r7n1 ba1 be2 bd3 bg4=some o):T Try.prog Try.f53.ntmps 7 (cL (Qk 1 c53)) (f53r7n1S ba1 be2 bd3 bg4) (·=f53r7n1E ba1 be2 bd3 bg4 o):=by
 unfold f53r7n1 at h;refine rN Qh 1 [([],[],[(2,.val (jI (ba1.Bids.length:Int)))])] [] [.mat 4 6] [7] [0,2,4,11,12,13] (f53r7n2S ba1 be2 bd3 bg4 0 []) (ap (Qac (xs:=ba1.Bids) (c:=Qc.cells)) an) ?_;obtain ⟨o44,h45,h⟩:=Qf h;cases o44 with
 | exit0 v46 =>
  obtain rfl:=Qg h;exact T.last' (T.bl (i:=0) (by kernel_rfl) (by kernel_rfl) (f53r7n2_ok FUEL ba1 be2 bd3 bg4 0 [] h45)) (tds:=[]) (m:=[7]) (keep:=[0,2,4]) (st2:=(f53r7n1E ba1 be2 bd3 bg4 (.norm v46)).2) (by kernel_rfl) an rfl
inductive f53r7n3O where
 | norm (v97:Int) (v98:List Qa)
 | ret
noncomputable def f53r7n3E(bd1:Int)(bf2:List Qd)(bd3:Int)(ba4:Qe)(be5:Qb)(bd6:Int)(bg7:List Qa):f53r7n3O→Ex×Tr×Hp
 | .norm v97 v98=>(.norm,mkS [(0,(.yl 0)),(7,(jI v97)),(41,(.own 8)),(42,(jI (bf2.length:Int))),(43,(jI bd3))],[some (.lp Qo .ready none (kL 63 [(5,(.bp 3 0)),(9,(.bp 4 0)),(10,(.bp 5 0))])),some (.box ((Qe.cells ba4).map .pl)),some (.box ((Qb.cells be5).map .pl)),some (.box [(.own 7)]),some (.box (((cInt .i64) bd6).map .pl)),some (.box [(.pl (.fn 57))]),none,jR 3 Qa.cells v98,jR 6 Qd.cells bf2])
 | .ret=>(.ret,mkS [],[some (.lp Qo .done (some (.exit 2)) (kL 63 [(5,(.bp 3 0)),(9,(.bp 4 0)),(10,(.bp 5 0))])),some (.box ((Qe.cells ba4).map .pl)),some (.box ((Qb.cells be5).map .pl)),some (.box [(.own 7)]),some (.box (((cInt .i64) bd6).map .pl)),some (.box [(.pl (.fn 57))]),none,jR 3 Qa.cells bg7])
noncomputable def f53r7n3S(bd1:Int)(bf2:List Qd)(bd3:Int)(ba4:Qe)(be5:Qb)(bd6:Int)(bg7:List Qa):Tr×Hp:=(mkS [(0,(.yl 0)),(7,(jI bd1)),(41,(.own 8)),(42,(jI (bf2.length:Int))),(43,(jI bd3))],[some (.lp Qo .ready none (kL 63 [(5,(.bp 3 0)),(9,(.bp 4 0)),(10,(.bp 5 0))])),some (.box ((Qe.cells ba4).map .pl)),some (.box ((Qb.cells be5).map .pl)),some (.box [(.own 7)]),some (.box (((cInt .i64) bd6).map .pl)),some (.box [(.pl (.fn 57))]),none,jR 3 Qa.cells bg7,jR 6 Qd.cells bf2])
noncomputable def f53r7n3(bd1:Int)(bf2:List Qd)(bd3:Int)(ba4:Qe)(be5:Qb)(bd6:Int)(bg7:List Qa):Option f53r7n3O :=
 (at? bf2 bd3).bind fun x93 =>
 (f12y4n0 (Qd.mk x93.index (mnI bd1 x93.bid.Units) x93.bid) bd6 bg7).bind fun o95=>match o95 with
 | .exit2=>some .ret
 | .norm=>some (.norm (wr64 (bd1-(mnI bd1 x93.bid.Units))) (bg7++[(Qa.mk x93.index (mnI bd1 x93.bid.Units) bd6)]))
theorem f53r7n3_ok(bd1:Int)(bf2:List Qd)(bd3:Int)(ba4:Qe)(be5:Qb)(bd6:Int)(bg7:List Qa){o:f53r7n3O}(h:f53r7n3 bd1 bf2 bd3 ba4 be5 bd6 bg7=some o):T Try.prog Try.f53.ntmps 7 (cL (Qk 2 (cL (cL (Qk 3 (Qk 1 (Qk 1 c53))))))) (f53r7n3S bd1 bf2 bd3 ba4 be5 bd6 bg7) (·=f53r7n3E bd1 bf2 bd3 ba4 be5 bd6 bg7 o):=by
 unfold f53r7n3 at h;refine T.block' (i:=3) (by kernel_rfl) ?_;obtain ⟨x93,h94,h⟩:=Qf h;refine rN Qh 3 [([],[(0,.at_ (Int.toNat bd3)),(1,.idx 0 (Qd.cells x93))],[]),j3,j3] [] [] [7,9,8] [0,7,9,41,42,43] (mkS [(0,(.yl 0)),(7,(jI (wr64 (bd1-(mnI bd1 x93.bid.Units))))),(9,(.bp 8 0)),(41,(.own 9)),(42,(jI (bf2.length:Int))),(43,(jI bd3))],[some (.lp Qo .ready none (kL 63 [(5,(.bp 3 0)),(9,(.bp 4 0)),(10,(.bp 5 0))])),some (.box ((Qe.cells ba4).map .pl)),some (.box ((Qb.cells be5).map .pl)),some (.box [(.own 7)]),some (.box (((cInt .i64) bd6).map .pl)),some (.box [(.pl (.fn 57))]),none,jR 3 Qa.cells bg7,some (.box ((Qd.cells (Qd.mk x93.index (mnI bd1 x93.bid.Units) x93.bid)).map .pl)),jR 6 Qd.cells bf2]) (ap (Qi h94).1 (ap (Qag Qd.cells (Qi h94).2) (ap (Qn Qd.cells (Qi h94).2) an))) ?_
 obtain ⟨o95,h96,h⟩:=Qf h;cases o95 with
 | exit2 =>
  refine T.oneN (by kernel_rfl) (yN Qh j3 2 false [some (.lp Qo .done (some (.exit 2)) (kL 63 [(5,(.bp 3 0)),(9,(.bp 4 0)),(10,(.bp 5 0))])),none,none,some (.box [(.own 7)]),some (.box (((cInt .i64) bd6).map .pl)),some (.box [(.pl (.fn 57))]),none,jR 3 Qa.cells bg7,none,none] [] [7,9] [0,7,41,42,43,60] (mkS [(0,(.yl 0)),(7,(jI (wr64 (bd1-(mnI bd1 x93.bid.Units))))),(41,(.own 8)),(42,(jI (bf2.length:Int))),(43,(jI bd3)),(60,(jB true))],[some (.lp Qo .done (some (.exit 2)) (kL 63 [(5,(.bp 3 0)),(9,(.bp 4 0)),(10,(.bp 5 0))])),some (.box ((Qe.cells ba4).map .pl)),some (.box ((Qb.cells be5).map .pl)),some (.box [(.own 7)]),some (.box (((cInt .i64) bd6).map .pl)),some (.box [(.pl (.fn 57))]),none,jR 3 Qa.cells bg7,jR 6 Qd.cells bf2]) (ap (Qbi.rn 10 [0,3,4,5,7] (f12y4_exit2 (Qd.mk x93.index (mnI bd1 x93.bid.Units) x93.bid) bd6 bg7 h96)) an)) rfl ?_
  obtain rfl:=Qg h;exact rE Qh [] [none] [] [7] [] (.ret,(f53r7n3E bd1 bf2 bd3 ba4 be5 bd6 bg7 .ret).2) an rfl
 | norm =>
  refine T.oneN (by kernel_rfl) (yN Qh j3 2 true [some (.lp Qo .ready none (kL 63 [(5,(.bp 3 0)),(9,(.bp 4 0)),(10,(.bp 5 0))])),none,none,some (.box [(.own 10)]),some (.box (((cInt .i64) bd6).map .pl)),some (.box [(.pl (.fn 57))]),none,none,none,none,some (.row false 3 ((bg7++[(Qa.mk x93.index (mnI bd1 x93.bid.Units) bd6)]).map Qa.cells))] [] [10,9] [0,7,41,42,43,60] (mkS [(0,(.yl 0)),(7,(jI (wr64 (bd1-(mnI bd1 x93.bid.Units))))),(41,(.own 8)),(42,(jI (bf2.length:Int))),(43,(jI bd3)),(60,(jB false))],[some (.lp Qo .ready none (kL 63 [(5,(.bp 3 0)),(9,(.bp 4 0)),(10,(.bp 5 0))])),some (.box ((Qe.cells ba4).map .pl)),some (.box ((Qb.cells be5).map .pl)),some (.box [(.own 7)]),some (.box (((cInt .i64) bd6).map .pl)),some (.box [(.pl (.fn 57))]),none,some (.row false 3 ((bg7++[(Qa.mk x93.index (mnI bd1 x93.bid.Units) bd6)]).map Qa.cells)),jR 6 Qd.cells bf2]) (ap (Qbi.rn 10 [0,3,4,5,7] (f12y4_norm (Qd.mk x93.index (mnI bd1 x93.bid.Units) x93.bid) bd6 bg7 h96)) an)) rfl ?_
  obtain rfl:=Qg h;exact rE Qh [] [none] [] [7,8] [0,7,41,42,43] (.norm,(f53r7n3E bd1 bf2 bd3 ba4 be5 bd6 bg7 (.norm (wr64 (bd1-(mnI bd1 x93.bid.Units))) (bg7++[(Qa.mk x93.index (mnI bd1 x93.bid.Units) bd6)]))).2) an rfl
inductive f53r7n4O where
 | exit2 (v103:List Qa)
 | ret (v104:List Qa)
noncomputable def f53r7n4E(x53:List Qd)(a1:Qe)(a2:Qb)(a3:Int):f53r7n4O→Ex×Tr×Hp
 | .exit2 v103=>((.exit 2),mkS [],[some (.lp Qo .ready none (kL 63 [(5,(.bp 3 0)),(9,(.bp 4 0)),(10,(.bp 5 0))])),some (.box ((Qe.cells a1).map .pl)),some (.box ((Qb.cells a2).map .pl)),some (.box [(.own 7)]),some (.box (((cInt .i64) a3).map .pl)),some (.box [(.pl (.fn 57))]),none,jR 3 Qa.cells v103])
 | .ret v104=>(.ret,mkS [],[some (.lp Qo .done (some (.exit 2)) (kL 63 [(5,(.bp 3 0)),(9,(.bp 4 0)),(10,(.bp 5 0))])),some (.box ((Qe.cells a1).map .pl)),some (.box ((Qb.cells a2).map .pl)),some (.box [(.own 7)]),some (.box (((cInt .i64) a3).map .pl)),some (.box [(.pl (.fn 57))]),none,jR 3 Qa.cells v104])
noncomputable def f53r7n4S(x53:List Qd)(a1:Qe)(a2:Qb)(a3 v86 v87:Int)(v88:List Qa):Tr×Hp:=(mkS [(0,(.yl 0)),(7,(jI v86)),(41,(.own 8)),(42,(jI (x53.length:Int))),(43,(jI v87))],[some (.lp Qo .ready none (kL 63 [(5,(.bp 3 0)),(9,(.bp 4 0)),(10,(.bp 5 0))])),some (.box ((Qe.cells a1).map .pl)),some (.box ((Qb.cells a2).map .pl)),some (.box [(.own 7)]),some (.box (((cInt .i64) a3).map .pl)),some (.box [(.pl (.fn 57))]),none,jR 3 Qa.cells v88,jR 6 Qd.cells x53])
noncomputable def f53r7n4:Nat→List Qd→Qe→Qb→Int→Int→Int→List Qa→Option f53r7n4O
 | 0,_,_,_,_,_,_,_=>none
 | f+1,x53,a1,a2,a3,v86,v87,v88 =>
  bif decide (v87<(x53.length:Int)) then
   (f53r7n3 v86 x53 v87 a1 a2 a3 v88).bind fun o99=>match o99 with
   | .norm v101 v102=>(f53r7n4 f x53 a1 a2 a3 v101 (wr64 (v87+1)) v102)
   | .ret=>some (.ret v88)
  else
   some (.exit2 v88)
theorem f53r7n4_ok:∀(f:Nat)(x53:List Qd)(a1:Qe)(a2:Qb)(a3 v86 v87:Int)(v88:List Qa){o:f53r7n4O},f53r7n4 f x53 a1 a2 a3 v86 v87 v88=some o→TL Try.prog Try.f53.ntmps 7 f (cL (cL (Qk 3 (Qk 1 (Qk 1 c53))))) (f53r7n4S x53 a1 a2 a3 v86 v87 v88) (·=f53r7n4E x53 a1 a2 a3 o)
 | 0,_,_,_,_,_,_,_,o,h=>by rw [f53r7n4] at h; cases h
 | f+1,x53,a1,a2,a3,v86,v87,v88,o,h=>by
  rw [f53r7n4] at h;refine TL.body (K:=fun s=>∃v86:Int,∃v87:Int,∃v88:List Qa,s=(f53r7n4S x53 a1 a2 a3 v86 v87 v88)∧f53r7n4 f x53 a1 a2 a3 v86 v87 v88=some o) ?_ (by rintro _ ⟨v86,v87,v88,rfl,hk⟩; exact f53r7n4_ok f _ _ _ _ _ _ _ hk);rcases Qj h with ⟨h90,h⟩|⟨h90,h⟩
  ·refine rN Qh 2 [j3] [some true] [] [7,8] [0,7,41,42,43] (f53r7n3S v86 x53 v87 a1 a2 a3 v88) (ap h90 an) ?_;obtain ⟨o99,h100,h⟩:=Qf h;cases o99 with
   | norm v101 v102 =>
    refine T.oneN (by kernel_rfl) (f53r7n3_ok v86 x53 v87 a1 a2 a3 v88 h100) (st2:=(f53r7n3E v86 x53 v87 a1 a2 a3 v88 (.norm v101 v102)).2) rfl ?_;exact rE Qh [j3] [] [] [7,8] [0,7,41,42,43] (.norm,(f53r7n4S x53 a1 a2 a3 v101 (wr64 (v87+1)) v102)) an (Qt.norm ⟨v101,(wr64 (v87+1)),v102,rfl,h⟩)
   | ret =>
    obtain rfl:=Qg h;exact T.oneX' (by kernel_rfl) (f53r7n3_ok v86 x53 v87 a1 a2 a3 v88 h100) (tds:=[]) (m:=[7]) (keep:=[]) (st2:=(f53r7n4E x53 a1 a2 a3 (.ret v88)).2) (by kernel_rfl) an rfl (Qt.out rfl rfl)
  ·obtain rfl:=Qg h;exact rK Qh 2 [j3] [some false] [] [7] [] (.exit 2) ((f53r7n4E x53 a1 a2 a3 (.exit2 v88)).2) (ap h90 an) (Qt.out rfl rfl)
inductive f53r7n0O where
 | norm (v109:List Qa)
 | ret (v110:List Qa)
noncomputable def f53r7n0E(a1:Qe)(a2:Qb)(a3:Int)(a4:List Qa):f53r7n0O→Ex×Tr×Hp
 | .norm v109=>(.norm,mkS [],[some (.lp Qo .ready none (kL 63 [(5,(.bp 3 0)),(9,(.bp 4 0)),(10,(.bp 5 0))])),some (.box ((Qe.cells a1).map .pl)),some (.box ((Qb.cells a2).map .pl)),some (.box [(.own 7)]),some (.box (((cInt .i64) a3).map .pl)),some (.box [(.pl (.fn 57))]),none,jR 3 Qa.cells v109])
 | .ret v110=>(.ret,mkS [],[some (.lp Qo .done (some (.exit 2)) (kL 63 [(5,(.bp 3 0)),(9,(.bp 4 0)),(10,(.bp 5 0))])),some (.box ((Qe.cells a1).map .pl)),some (.box ((Qb.cells a2).map .pl)),some (.box [(.own 7)]),some (.box (((cInt .i64) a3).map .pl)),some (.box [(.pl (.fn 57))]),none,jR 3 Qa.cells v110])
noncomputable def f53r7n0S(a1:Qe)(a2:Qb)(a3:Int)(a4:List Qa):Tr×Hp:=(Qan [(.yl 0),(.bp 1 0),(.bp 2 0)] 0 .leaf,[some (.lp Qo .ready none (kL 63 [(5,(.bp 3 0)),(9,(.bp 4 0)),(10,(.bp 5 0))])),some (.box ((Qe.cells a1).map .pl)),some (.box ((Qb.cells a2).map .pl)),some (.box [(.own 6)]),some (.box (((cInt .i64) a3).map .pl)),some (.box [(.pl (.fn 57))]),jR 3 Qa.cells a4])
noncomputable def f53r7n0(a1:Qe)(a2:Qb)(a3:Int)(a4:List Qa):Option f53r7n0O :=
 (f53r7n1 a1 a2 a3 a4).bind fun o48=>match o48 with
 | .norm v50=>(f54r1 v50).bind fun x53 =>
  (f53r7n4 FUEL x53 a1 a2 a3 a2.Units 0 a4).bind fun o105=>match o105 with
  | .exit2 v107=>some (.norm v107)
  | .ret v108=>some (.ret v108)
theorem f53r7n0_ok(a1:Qe)(a2:Qb)(a3:Int)(a4:List Qa){o:f53r7n0O}(h:f53r7n0 a1 a2 a3 a4=some o):T Try.prog Try.f53.ntmps 7 c53 (f53r7n0S a1 a2 a3 a4) (·=f53r7n0E a1 a2 a3 a4 o):=by
 unfold f53r7n0 at h;refine rN Qh 1 [j3] [] [] [] [0,1,2,4] (f53r7n1S a1 a2 a3 a4) an ?_;obtain ⟨o48,h49,h⟩:=Qf h;cases o48 with
 | norm v50 =>
  refine T.oneN (by kernel_rfl) (f53r7n1_ok a1 a2 a3 a4 h49) (st2:=(f53r7n1E a1 a2 a3 a4 (.norm v50)).2) rfl ?_;obtain ⟨x53,h54,h⟩:=Qf h;refine rN Qh 3 [([],[(1,.call (.tup []) (jN 7 [jR 6 Qd.cells x53]))],[]),j3,([],[],[(1,.val (jI (x53.length:Int)))])] [] [.movC 3 0] [8,7] [0,7,41,42,43] (f53r7n4S x53 a1 a2 a3 a2.Units 0 a4) (ap (Qp.rn 8 [7] (f54r1_ok v50 h54)) (ap (Qac (xs:=x53) (c:=Qd.cells)) an)) ?_;obtain ⟨o105,h106,h⟩:=Qf h;cases o105 with
  | exit2 v107 =>
   obtain rfl:=Qg h;exact T.last' (T.bl (i:=2) (by kernel_rfl) (by kernel_rfl) (f53r7n4_ok FUEL x53 a1 a2 a3 a2.Units 0 a4 h106)) (tds:=[]) (m:=[7]) (keep:=[]) (st2:=(f53r7n0E a1 a2 a3 a4 (.norm v107)).2) (by kernel_rfl) an rfl
  | ret v108 =>
   obtain rfl:=Qg h;exact T.last' (T.bl (i:=2) (by kernel_rfl) (by kernel_rfl) (f53r7n4_ok FUEL x53 a1 a2 a3 a2.Units 0 a4 h106)) (tds:=[]) (m:=[7]) (keep:=[]) (st2:=(f53r7n0E a1 a2 a3 a4 (.ret v108)).2) (by kernel_rfl) an rfl
noncomputable def f53r7(a1:Qe)(a2:Qb)(a3:Int)(a4:List Qa):Option (Bool×(List Qa)):=(f53r7n0 a1 a2 a3 a4).bind fun o=>match o with
 | .norm v109=>some (true,v109)
 | .ret v110=>some (false,v110)
theorem f53r7_ok(a1:Qe)(a2:Qb)(a3:Int)(a4:List Qa){r:Bool×(List Qa)}(h:f53r7 a1 a2 a3 a4=some r):Qp Try.prog true 53 [(.yl 0),(.bp 1 0),(.bp 2 0)] [some (.lp Qo .ready none (kL 63 [(5,(.bp 3 0)),(9,(.bp 4 0)),(10,(.bp 5 0))])),some (.box ((Qe.cells a1).map .pl)),some (.box ((Qb.cells a2).map .pl)),some (.box [(.own 6)]),some (.box (((cInt .i64) a3).map .pl)),some (.box [(.pl (.fn 57))]),jR 3 Qa.cells a4] (.tup []) [some (.lp Qo (lstOf r.1) (pdOf r.1 (.exit 2)) (kL 63 [(5,(.bp 3 0)),(9,(.bp 4 0)),(10,(.bp 5 0))])),some (.box ((Qe.cells a1).map .pl)),some (.box ((Qb.cells a2).map .pl)),some (.box [(.own 7)]),some (.box (((cInt .i64) a3).map .pl)),some (.box [(.pl (.fn 57))]),none,jR 3 Qa.cells r.2]:=by
 unfold f53r7 at h;obtain ⟨o,ho,h⟩:=Qf h;cases o with
 | norm v109 =>
  obtain rfl:=Qg h;exact Qp.shared Qh (f:=Try.f53) (c:=c53) (by kernel_rfl) (by kernel_rfl) (by kernel_rfl) ((f53r7n0_ok a1 a2 a3 a4 ho).mono fun r e=>by subst e; exact ⟨.inr rfl,by kernel_rfl,by kernel_rfl⟩)
 | ret v110 =>
  obtain rfl:=Qg h;exact Qp.shared Qh (f:=Try.f53) (c:=c53) (by kernel_rfl) (by kernel_rfl) (by kernel_rfl) ((f53r7n0_ok a1 a2 a3 a4 ho).mono fun r e=>by subst e; exact ⟨.inl rfl,by kernel_rfl,by kernel_rfl⟩)

inductive f53r8n2O where
 | exit0 (v43:List Qd)
noncomputable def f53r8n2E(ba1:Qe)(be2:Qb)(bd3:Int)(bg4:List Qa):f53r8n2O→Ex×Tr×Hp
 | .exit0 v43=>((.exit 0),mkS [(0,(.yl 0)),(2,(.bp 2 0)),(4,(.own 7))],[some (.lp Qo .ready none (kL 63 [(5,(.bp 3 0)),(9,(.bp 4 0)),(10,(.bp 5 0))])),some (.box ((Qe.cells ba1).map .pl)),some (.box ((Qb.cells be2).map .pl)),some (.box [(.own 6)]),some (.box (((cInt .i64) bd3).map .pl)),some (.box [(.pl .nilf)]),jR 3 Qa.cells bg4,jR 6 Qd.cells v43])
noncomputable def f53r8n2S(ba1:Qe)(be2:Qb)(bd3:Int)(bg4:List Qa)(v29:Int)(v30:List Qd):Tr×Hp:=(mkS [(0,(.yl 0)),(2,(.bp 2 0)),(4,(.own 7)),(11,(jL 4 Qc.cells ba1.Bids)),(12,(jI (ba1.Bids.length:Int))),(13,(jI v29))],[some (.lp Qo .ready none (kL 63 [(5,(.bp 3 0)),(9,(.bp 4 0)),(10,(.bp 5 0))])),some (.box ((Qe.cells ba1).map .pl)),some (.box ((Qb.cells be2).map .pl)),some (.box [(.own 6)]),some (.box (((cInt .i64) bd3).map .pl)),some (.box [(.pl .nilf)]),jR 3 Qa.cells bg4,jR 6 Qd.cells v30])
noncomputable def f53r8n2:Nat→Qe→Qb→Int→List Qa→Int→List Qd→Option f53r8n2O
 | 0,_,_,_,_,_,_=>none
 | f+1,ba1,be2,bd3,bg4,v29,v30 =>
  bif decide (v29<(ba1.Bids.length:Int)) then
   (at? ba1.Bids v29).bind fun x38 =>
   bif (seq x38.Lot be2.Name) then
    bif decide (be2.Reserve≤x38.Price) then
     req (fit (v30.length+1) 64) <|
     (f53r8n2 f ba1 be2 bd3 bg4 (wr64 (v29+1)) (v30++[(Qd.mk v29 0 x38)]))
    else
     (f53r8n2 f ba1 be2 bd3 bg4 (wr64 (v29+1)) v30)
   else
    (f53r8n2 f ba1 be2 bd3 bg4 (wr64 (v29+1)) v30)
  else
   some (.exit0 v30)
theorem f53r8n2_ok:∀(f:Nat)(ba1:Qe)(be2:Qb)(bd3:Int)(bg4:List Qa)(v29:Int)(v30:List Qd){o:f53r8n2O},f53r8n2 f ba1 be2 bd3 bg4 v29 v30=some o→TL Try.prog Try.f53.ntmps 7 f (cL (cL (Qk 1 (cL (Qk 1 c53))))) (f53r8n2S ba1 be2 bd3 bg4 v29 v30) (·=f53r8n2E ba1 be2 bd3 bg4 o)
 | 0,_,_,_,_,_,_,o,h=>by rw [f53r8n2] at h; cases h
 | f+1,ba1,be2,bd3,bg4,v29,v30,o,h=>by
  rw [f53r8n2] at h;refine TL.body (K:=fun s=>∃v29:Int,∃v30:List Qd,s=(f53r8n2S ba1 be2 bd3 bg4 v29 v30)∧f53r8n2 f ba1 be2 bd3 bg4 v29 v30=some o) ?_ (by rintro _ ⟨v29,v30,rfl,hk⟩; exact f53r8n2_ok f _ _ _ _ _ _ hk);rcases Qj h with ⟨h32,h⟩|⟨h32,h⟩
  ·obtain ⟨x38,h39,h⟩:=Qf h;rcases Qj h with ⟨h40,h⟩|⟨h40,h⟩
   ·rcases Qj h with ⟨h41,h⟩|⟨h41,h⟩
    ·obtain ⟨h42,h⟩:=Qcc h;exact rE Qh [j3,([],[(1,.idx (Int.toNat v29) (Qc.cells x38))],[]),(jT [6,7,8,9,10],[(11,.bool true)],[]),([],[(5,.fits)],[(5,.row 10 ((v30++[(Qd.mk v29 0 x38)]).map Qd.cells))]),j3] [some true,some true] [] [10] [0,2,4,11,12,13] (.norm,(f53r8n2S ba1 be2 bd3 bg4 (wr64 (v29+1)) (v30++[(Qd.mk v29 0 x38)]))) (ap h32 (ap (Qi h39).1 (ap (Qn Qc.cells (Qi h39).2) (ap2 h40 (ap4 h40 (ap h41 (ap (fit_map (te:=ti78) (xs:=v30) (n:=1) (c:=Qd.cells) h42 rfl) (ap (app_cv (xs:=v30) (ys:=[(Qd.mk v29 0 x38)]) (c:=Qd.cells)) an)))))))) (Qt.norm ⟨(wr64 (v29+1)),(v30++[(Qd.mk v29 0 x38)]),rfl,h⟩)
    ·exact rE Qh [j3,([],[(1,.idx (Int.toNat v29) (Qc.cells x38))],[]),(jT [6,7,8,9,10],[(11,.bool true)],[]),j3] [some true,some false] [] [7] [0,2,4,11,12,13] (.norm,(f53r8n2S ba1 be2 bd3 bg4 (wr64 (v29+1)) v30)) (ap h32 (ap (Qi h39).1 (ap (Qn Qc.cells (Qi h39).2) (ap2 h40 (ap4 h40 (ap h41 an)))))) (Qt.norm ⟨(wr64 (v29+1)),v30,rfl,h⟩)
   ·exact rE Qh [j3,([],[(1,.idx (Int.toNat v29) (Qc.cells x38))],[]),(jF [6,7,8,9,10],[(11,.bool false)],[]),j3] [some true,none] [] [7] [0,2,4,11,12,13] (.norm,(f53r8n2S ba1 be2 bd3 bg4 (wr64 (v29+1)) v30)) (ap h32 (ap (Qi h39).1 (ap (Qn Qc.cells (Qi h39).2) (ap2 h40 (ap4 h40 an))))) (Qt.norm ⟨(wr64 (v29+1)),v30,rfl,h⟩)
  ·obtain rfl:=Qg h;exact rK Qh 2 [j3] [some false] [] [7] [0,2,4] (.exit 0) ((f53r8n2E ba1 be2 bd3 bg4 (.exit0 v30)).2) (ap h32 an) (Qt.out rfl rfl)
noncomputable def f53r8n2L(ba1:Qe)(be2:Qb)(bd3:Int)(bg4:List Qa):List Qc→Int→(List Qd)→Option f53r8n2O
 | [],v29,v30 =>
  some (.exit0 v30)
 | x0::rest,v29,v30 =>
  bif (seq x0.Lot be2.Name) then
   bif decide (be2.Reserve≤x0.Price) then
    req (fit (v30.length+1) 64) <|
    (f53r8n2L ba1 be2 bd3 bg4 rest (v29+1) (v30++[(Qd.mk v29 0 x0)]))
   else
    (f53r8n2L ba1 be2 bd3 bg4 rest (v29+1) v30)
  else
   (f53r8n2L ba1 be2 bd3 bg4 rest (v29+1) v30)
theorem f53r8n2L_eq(ba1:Qe)(be2:Qb)(bd3:Int)(bg4:List Qa):∀(rest:List Qc)(f k:Nat)(v30:List Qd),ba1.Bids.drop k=rest→ba1.Bids.length≤maxLen→rest.length<f→f53r8n2 f ba1 be2 bd3 bg4 (k:Int) v30=f53r8n2L ba1 be2 bd3 bg4 rest (k:Int) v30
 | _,0,_,_,_,_,hf=>absurd hf (Nat.not_lt_zero _)
 | [],f+1,k,v30,hd,hm,hf=>by
  have hk:¬((k:Int)<(ba1.Bids.length:Int)):=by have:=Qbb hd; omega
  rw [f53r8n2,f53r8n2L];simp only [decide_eq_false hk,cond_false]
 | x0::rest,f+1,k,v30,hd,hm,hf=>by
  obtain ⟨hx,hlt,hd'⟩:=drop_cons hd;have hk:(k:Int)<(ba1.Bids.length:Int):=by omega
  have hw:wr64 ((k:Int)+1)=(k:Int)+1:=wr64_of (by omega) (by unfold maxLen at hm; omega);have ih:∀(v30:List Qd),f53r8n2 f ba1 be2 bd3 bg4 ((k:Int)+1) v30=f53r8n2L ba1 be2 bd3 bg4 rest ((k:Int)+1) v30:=fun v30=>f53r8n2L_eq ba1 be2 bd3 bg4 rest f (k+1) v30 hd' hm (by simpa using hf);rw [f53r8n2,f53r8n2L];simp only [decide_eq_true hk,cond_true,at_nat,hx,Option.bind_some,hw,ih]
theorem f53r8n2_run(ba1:Qe)(be2:Qb)(bd3:Int)(bg4:List Qa)(v30:List Qd)(hm:ba1.Bids.length≤maxLen):f53r8n2 FUEL ba1 be2 bd3 bg4 0 v30=f53r8n2L ba1 be2 bd3 bg4 ba1.Bids 0 v30:=f53r8n2L_eq ba1 be2 bd3 bg4 ba1.Bids FUEL 0 v30 List.drop_zero hm (Qba hm)
inductive f53r8n1O where
 | norm (v47:List Qd)
noncomputable def f53r8n1E(ba1:Qe)(be2:Qb)(bd3:Int)(bg4:List Qa):f53r8n1O→Ex×Tr×Hp
 | .norm v47=>(.norm,mkS [(0,(.yl 0)),(2,(.bp 2 0)),(4,(.own 7))],[some (.lp Qo .ready none (kL 63 [(5,(.bp 3 0)),(9,(.bp 4 0)),(10,(.bp 5 0))])),some (.box ((Qe.cells ba1).map .pl)),some (.box ((Qb.cells be2).map .pl)),some (.box [(.own 6)]),some (.box (((cInt .i64) bd3).map .pl)),some (.box [(.pl .nilf)]),jR 3 Qa.cells bg4,jR 6 Qd.cells v47])
noncomputable def f53r8n1S(ba1:Qe)(be2:Qb)(bd3:Int)(bg4:List Qa):Tr×Hp:=(mkS [(0,(.yl 0)),(1,(.bp 1 0)),(2,(.bp 2 0)),(4,(.pl (.sl .nil 0 [])))],[some (.lp Qo .ready none (kL 63 [(5,(.bp 3 0)),(9,(.bp 4 0)),(10,(.bp 5 0))])),some (.box ((Qe.cells ba1).map .pl)),some (.box ((Qb.cells be2).map .pl)),some (.box [(.own 6)]),some (.box (((cInt .i64) bd3).map .pl)),some (.box [(.pl .nilf)]),jR 3 Qa.cells bg4])
noncomputable def f53r8n1(ba1:Qe)(be2:Qb)(bd3:Int)(bg4:List Qa):Option f53r8n1O :=
 (f53r8n2 FUEL ba1 be2 bd3 bg4 0 []).bind fun o44=>match o44 with
 | .exit0 v46=>some (.norm v46)
theorem f53r8n1_ok(ba1:Qe)(be2:Qb)(bd3:Int)(bg4:List Qa){o:f53r8n1O}(h:f53r8n1 ba1 be2 bd3 bg4=some o):T Try.prog Try.f53.ntmps 7 (cL (Qk 1 c53)) (f53r8n1S ba1 be2 bd3 bg4) (·=f53r8n1E ba1 be2 bd3 bg4 o):=by
 unfold f53r8n1 at h;refine rN Qh 1 [([],[],[(2,.val (jI (ba1.Bids.length:Int)))])] [] [.mat 4 6] [7] [0,2,4,11,12,13] (f53r8n2S ba1 be2 bd3 bg4 0 []) (ap (Qac (xs:=ba1.Bids) (c:=Qc.cells)) an) ?_;obtain ⟨o44,h45,h⟩:=Qf h;cases o44 with
 | exit0 v46 =>
  obtain rfl:=Qg h;exact T.last' (T.bl (i:=0) (by kernel_rfl) (by kernel_rfl) (f53r8n2_ok FUEL ba1 be2 bd3 bg4 0 [] h45)) (tds:=[]) (m:=[7]) (keep:=[0,2,4]) (st2:=(f53r8n1E ba1 be2 bd3 bg4 (.norm v46)).2) (by kernel_rfl) an rfl
inductive f53r8n3O where
 | norm (v97:Int) (v98:List Qa)
 | ret
noncomputable def f53r8n3E(bd1:Int)(bf2:List Qd)(bd3:Int)(ba4:Qe)(be5:Qb)(bd6:Int)(bg7:List Qa):f53r8n3O→Ex×Tr×Hp
 | .norm v97 v98=>(.norm,mkS [(0,(.yl 0)),(7,(jI v97)),(41,(.own 8)),(42,(jI (bf2.length:Int))),(43,(jI bd3))],[some (.lp Qo .ready none (kL 63 [(5,(.bp 3 0)),(9,(.bp 4 0)),(10,(.bp 5 0))])),some (.box ((Qe.cells ba4).map .pl)),some (.box ((Qb.cells be5).map .pl)),some (.box [(.own 7)]),some (.box (((cInt .i64) bd6).map .pl)),some (.box [(.pl .nilf)]),none,jR 3 Qa.cells v98,jR 6 Qd.cells bf2])
 | .ret=>(.ret,mkS [],[some (.lp Qo .done (some (.exit 2)) (kL 63 [(5,(.bp 3 0)),(9,(.bp 4 0)),(10,(.bp 5 0))])),some (.box ((Qe.cells ba4).map .pl)),some (.box ((Qb.cells be5).map .pl)),some (.box [(.own 7)]),some (.box (((cInt .i64) bd6).map .pl)),some (.box [(.pl .nilf)]),none,jR 3 Qa.cells bg7])
noncomputable def f53r8n3S(bd1:Int)(bf2:List Qd)(bd3:Int)(ba4:Qe)(be5:Qb)(bd6:Int)(bg7:List Qa):Tr×Hp:=(mkS [(0,(.yl 0)),(7,(jI bd1)),(41,(.own 8)),(42,(jI (bf2.length:Int))),(43,(jI bd3))],[some (.lp Qo .ready none (kL 63 [(5,(.bp 3 0)),(9,(.bp 4 0)),(10,(.bp 5 0))])),some (.box ((Qe.cells ba4).map .pl)),some (.box ((Qb.cells be5).map .pl)),some (.box [(.own 7)]),some (.box (((cInt .i64) bd6).map .pl)),some (.box [(.pl .nilf)]),none,jR 3 Qa.cells bg7,jR 6 Qd.cells bf2])
noncomputable def f53r8n3(bd1:Int)(bf2:List Qd)(bd3:Int)(ba4:Qe)(be5:Qb)(bd6:Int)(bg7:List Qa):Option f53r8n3O :=
 (at? bf2 bd3).bind fun x93 =>
 (f12y6n0 (Qd.mk x93.index (mnI bd1 x93.bid.Units) x93.bid) bd6 bg7).bind fun o95=>match o95 with
 | .exit2=>some .ret
 | .norm=>some (.norm (wr64 (bd1-(mnI bd1 x93.bid.Units))) (bg7++[(Qa.mk x93.index (mnI bd1 x93.bid.Units) x93.bid.Price)]))
theorem f53r8n3_ok(bd1:Int)(bf2:List Qd)(bd3:Int)(ba4:Qe)(be5:Qb)(bd6:Int)(bg7:List Qa){o:f53r8n3O}(h:f53r8n3 bd1 bf2 bd3 ba4 be5 bd6 bg7=some o):T Try.prog Try.f53.ntmps 7 (cL (Qk 2 (cL (cL (Qk 3 (Qk 1 (Qk 1 c53))))))) (f53r8n3S bd1 bf2 bd3 ba4 be5 bd6 bg7) (·=f53r8n3E bd1 bf2 bd3 ba4 be5 bd6 bg7 o):=by
 unfold f53r8n3 at h;refine T.block' (i:=3) (by kernel_rfl) ?_;obtain ⟨x93,h94,h⟩:=Qf h;refine rN Qh 3 [([],[(0,.at_ (Int.toNat bd3)),(1,.idx 0 (Qd.cells x93))],[]),j3,j3] [] [] [7,9,8] [0,7,9,41,42,43] (mkS [(0,(.yl 0)),(7,(jI (wr64 (bd1-(mnI bd1 x93.bid.Units))))),(9,(.bp 8 0)),(41,(.own 9)),(42,(jI (bf2.length:Int))),(43,(jI bd3))],[some (.lp Qo .ready none (kL 63 [(5,(.bp 3 0)),(9,(.bp 4 0)),(10,(.bp 5 0))])),some (.box ((Qe.cells ba4).map .pl)),some (.box ((Qb.cells be5).map .pl)),some (.box [(.own 7)]),some (.box (((cInt .i64) bd6).map .pl)),some (.box [(.pl .nilf)]),none,jR 3 Qa.cells bg7,some (.box ((Qd.cells (Qd.mk x93.index (mnI bd1 x93.bid.Units) x93.bid)).map .pl)),jR 6 Qd.cells bf2]) (ap (Qi h94).1 (ap (Qag Qd.cells (Qi h94).2) (ap (Qn Qd.cells (Qi h94).2) an))) ?_
 obtain ⟨o95,h96,h⟩:=Qf h;cases o95 with
 | exit2 =>
  refine T.oneN (by kernel_rfl) (yN Qh j3 2 false [some (.lp Qo .done (some (.exit 2)) (kL 63 [(5,(.bp 3 0)),(9,(.bp 4 0)),(10,(.bp 5 0))])),none,none,some (.box [(.own 7)]),some (.box (((cInt .i64) bd6).map .pl)),some (.box [(.pl .nilf)]),none,jR 3 Qa.cells bg7,none,none] [] [7,9] [0,7,41,42,43,60] (mkS [(0,(.yl 0)),(7,(jI (wr64 (bd1-(mnI bd1 x93.bid.Units))))),(41,(.own 8)),(42,(jI (bf2.length:Int))),(43,(jI bd3)),(60,(jB true))],[some (.lp Qo .done (some (.exit 2)) (kL 63 [(5,(.bp 3 0)),(9,(.bp 4 0)),(10,(.bp 5 0))])),some (.box ((Qe.cells ba4).map .pl)),some (.box ((Qb.cells be5).map .pl)),some (.box [(.own 7)]),some (.box (((cInt .i64) bd6).map .pl)),some (.box [(.pl .nilf)]),none,jR 3 Qa.cells bg7,jR 6 Qd.cells bf2]) (ap (Qbi.rn 10 [0,3,4,5,7] (f12y6_exit2 (Qd.mk x93.index (mnI bd1 x93.bid.Units) x93.bid) bd6 bg7 h96)) an)) rfl ?_
  obtain rfl:=Qg h;exact rE Qh [] [none] [] [7] [] (.ret,(f53r8n3E bd1 bf2 bd3 ba4 be5 bd6 bg7 .ret).2) an rfl
 | norm =>
  refine T.oneN (by kernel_rfl) (yN Qh j3 2 true [some (.lp Qo .ready none (kL 63 [(5,(.bp 3 0)),(9,(.bp 4 0)),(10,(.bp 5 0))])),none,none,some (.box [(.own 10)]),some (.box (((cInt .i64) bd6).map .pl)),some (.box [(.pl .nilf)]),none,none,none,none,some (.row false 3 ((bg7++[(Qa.mk x93.index (mnI bd1 x93.bid.Units) x93.bid.Price)]).map Qa.cells))] [] [10,9] [0,7,41,42,43,60] (mkS [(0,(.yl 0)),(7,(jI (wr64 (bd1-(mnI bd1 x93.bid.Units))))),(41,(.own 8)),(42,(jI (bf2.length:Int))),(43,(jI bd3)),(60,(jB false))],[some (.lp Qo .ready none (kL 63 [(5,(.bp 3 0)),(9,(.bp 4 0)),(10,(.bp 5 0))])),some (.box ((Qe.cells ba4).map .pl)),some (.box ((Qb.cells be5).map .pl)),some (.box [(.own 7)]),some (.box (((cInt .i64) bd6).map .pl)),some (.box [(.pl .nilf)]),none,some (.row false 3 ((bg7++[(Qa.mk x93.index (mnI bd1 x93.bid.Units) x93.bid.Price)]).map Qa.cells)),jR 6 Qd.cells bf2]) (ap (Qbi.rn 10 [0,3,4,5,7] (f12y6_norm (Qd.mk x93.index (mnI bd1 x93.bid.Units) x93.bid) bd6 bg7 h96)) an)) rfl ?_
  obtain rfl:=Qg h;exact rE Qh [] [none] [] [7,8] [0,7,41,42,43] (.norm,(f53r8n3E bd1 bf2 bd3 ba4 be5 bd6 bg7 (.norm (wr64 (bd1-(mnI bd1 x93.bid.Units))) (bg7++[(Qa.mk x93.index (mnI bd1 x93.bid.Units) x93.bid.Price)]))).2) an rfl
inductive f53r8n4O where
 | exit2 (v103:List Qa)
 | ret (v104:List Qa)
noncomputable def f53r8n4E(x53:List Qd)(a1:Qe)(a2:Qb)(a3:Int):f53r8n4O→Ex×Tr×Hp
 | .exit2 v103=>((.exit 2),mkS [],[some (.lp Qo .ready none (kL 63 [(5,(.bp 3 0)),(9,(.bp 4 0)),(10,(.bp 5 0))])),some (.box ((Qe.cells a1).map .pl)),some (.box ((Qb.cells a2).map .pl)),some (.box [(.own 7)]),some (.box (((cInt .i64) a3).map .pl)),some (.box [(.pl .nilf)]),none,jR 3 Qa.cells v103])
 | .ret v104=>(.ret,mkS [],[some (.lp Qo .done (some (.exit 2)) (kL 63 [(5,(.bp 3 0)),(9,(.bp 4 0)),(10,(.bp 5 0))])),some (.box ((Qe.cells a1).map .pl)),some (.box ((Qb.cells a2).map .pl)),some (.box [(.own 7)]),some (.box (((cInt .i64) a3).map .pl)),some (.box [(.pl .nilf)]),none,jR 3 Qa.cells v104])
noncomputable def f53r8n4S(x53:List Qd)(a1:Qe)(a2:Qb)(a3 v86 v87:Int)(v88:List Qa):Tr×Hp:=(mkS [(0,(.yl 0)),(7,(jI v86)),(41,(.own 8)),(42,(jI (x53.length:Int))),(43,(jI v87))],[some (.lp Qo .ready none (kL 63 [(5,(.bp 3 0)),(9,(.bp 4 0)),(10,(.bp 5 0))])),some (.box ((Qe.cells a1).map .pl)),some (.box ((Qb.cells a2).map .pl)),some (.box [(.own 7)]),some (.box (((cInt .i64) a3).map .pl)),some (.box [(.pl .nilf)]),none,jR 3 Qa.cells v88,jR 6 Qd.cells x53])
noncomputable def f53r8n4:Nat→List Qd→Qe→Qb→Int→Int→Int→List Qa→Option f53r8n4O
 | 0,_,_,_,_,_,_,_=>none
 | f+1,x53,a1,a2,a3,v86,v87,v88 =>
  bif decide (v87<(x53.length:Int)) then
   (f53r8n3 v86 x53 v87 a1 a2 a3 v88).bind fun o99=>match o99 with
   | .norm v101 v102=>(f53r8n4 f x53 a1 a2 a3 v101 (wr64 (v87+1)) v102)
   | .ret=>some (.ret v88)
  else
   some (.exit2 v88)
theorem f53r8n4_ok:∀(f:Nat)(x53:List Qd)(a1:Qe)(a2:Qb)(a3 v86 v87:Int)(v88:List Qa){o:f53r8n4O},f53r8n4 f x53 a1 a2 a3 v86 v87 v88=some o→TL Try.prog Try.f53.ntmps 7 f (cL (cL (Qk 3 (Qk 1 (Qk 1 c53))))) (f53r8n4S x53 a1 a2 a3 v86 v87 v88) (·=f53r8n4E x53 a1 a2 a3 o)
 | 0,_,_,_,_,_,_,_,o,h=>by rw [f53r8n4] at h; cases h
 | f+1,x53,a1,a2,a3,v86,v87,v88,o,h=>by
  rw [f53r8n4] at h;refine TL.body (K:=fun s=>∃v86:Int,∃v87:Int,∃v88:List Qa,s=(f53r8n4S x53 a1 a2 a3 v86 v87 v88)∧f53r8n4 f x53 a1 a2 a3 v86 v87 v88=some o) ?_ (by rintro _ ⟨v86,v87,v88,rfl,hk⟩; exact f53r8n4_ok f _ _ _ _ _ _ _ hk);rcases Qj h with ⟨h90,h⟩|⟨h90,h⟩
  ·refine rN Qh 2 [j3] [some true] [] [7,8] [0,7,41,42,43] (f53r8n3S v86 x53 v87 a1 a2 a3 v88) (ap h90 an) ?_;obtain ⟨o99,h100,h⟩:=Qf h;cases o99 with
   | norm v101 v102 =>
    refine T.oneN (by kernel_rfl) (f53r8n3_ok v86 x53 v87 a1 a2 a3 v88 h100) (st2:=(f53r8n3E v86 x53 v87 a1 a2 a3 v88 (.norm v101 v102)).2) rfl ?_;exact rE Qh [j3] [] [] [7,8] [0,7,41,42,43] (.norm,(f53r8n4S x53 a1 a2 a3 v101 (wr64 (v87+1)) v102)) an (Qt.norm ⟨v101,(wr64 (v87+1)),v102,rfl,h⟩)
   | ret =>
    obtain rfl:=Qg h;exact T.oneX' (by kernel_rfl) (f53r8n3_ok v86 x53 v87 a1 a2 a3 v88 h100) (tds:=[]) (m:=[7]) (keep:=[]) (st2:=(f53r8n4E x53 a1 a2 a3 (.ret v88)).2) (by kernel_rfl) an rfl (Qt.out rfl rfl)
  ·obtain rfl:=Qg h;exact rK Qh 2 [j3] [some false] [] [7] [] (.exit 2) ((f53r8n4E x53 a1 a2 a3 (.exit2 v88)).2) (ap h90 an) (Qt.out rfl rfl)
inductive f53r8n0O where
 | norm (v109:List Qa)
 | ret (v110:List Qa)
noncomputable def f53r8n0E(a1:Qe)(a2:Qb)(a3:Int)(a4:List Qa):f53r8n0O→Ex×Tr×Hp
 | .norm v109=>(.norm,mkS [],[some (.lp Qo .ready none (kL 63 [(5,(.bp 3 0)),(9,(.bp 4 0)),(10,(.bp 5 0))])),some (.box ((Qe.cells a1).map .pl)),some (.box ((Qb.cells a2).map .pl)),some (.box [(.own 7)]),some (.box (((cInt .i64) a3).map .pl)),some (.box [(.pl .nilf)]),none,jR 3 Qa.cells v109])
 | .ret v110=>(.ret,mkS [],[some (.lp Qo .done (some (.exit 2)) (kL 63 [(5,(.bp 3 0)),(9,(.bp 4 0)),(10,(.bp 5 0))])),some (.box ((Qe.cells a1).map .pl)),some (.box ((Qb.cells a2).map .pl)),some (.box [(.own 7)]),some (.box (((cInt .i64) a3).map .pl)),some (.box [(.pl .nilf)]),none,jR 3 Qa.cells v110])
noncomputable def f53r8n0S(a1:Qe)(a2:Qb)(a3:Int)(a4:List Qa):Tr×Hp:=(Qan [(.yl 0),(.bp 1 0),(.bp 2 0)] 0 .leaf,[some (.lp Qo .ready none (kL 63 [(5,(.bp 3 0)),(9,(.bp 4 0)),(10,(.bp 5 0))])),some (.box ((Qe.cells a1).map .pl)),some (.box ((Qb.cells a2).map .pl)),some (.box [(.own 6)]),some (.box (((cInt .i64) a3).map .pl)),some (.box [(.pl .nilf)]),jR 3 Qa.cells a4])
noncomputable def f53r8n0(a1:Qe)(a2:Qb)(a3:Int)(a4:List Qa):Option f53r8n0O :=
 (f53r8n1 a1 a2 a3 a4).bind fun o48=>match o48 with
 | .norm v50=>(f54r1 v50).bind fun x53 =>
  (f53r8n4 FUEL x53 a1 a2 a3 a2.Units 0 a4).bind fun o105=>match o105 with
  | .exit2 v107=>some (.norm v107)
  | .ret v108=>some (.ret v108)
theorem f53r8n0_ok(a1:Qe)(a2:Qb)(a3:Int)(a4:List Qa){o:f53r8n0O}(h:f53r8n0 a1 a2 a3 a4=some o):T Try.prog Try.f53.ntmps 7 c53 (f53r8n0S a1 a2 a3 a4) (·=f53r8n0E a1 a2 a3 a4 o):=by
 unfold f53r8n0 at h;refine rN Qh 1 [j3] [] [] [] [0,1,2,4] (f53r8n1S a1 a2 a3 a4) an ?_;obtain ⟨o48,h49,h⟩:=Qf h;cases o48 with
 | norm v50 =>
  refine T.oneN (by kernel_rfl) (f53r8n1_ok a1 a2 a3 a4 h49) (st2:=(f53r8n1E a1 a2 a3 a4 (.norm v50)).2) rfl ?_;obtain ⟨x53,h54,h⟩:=Qf h;refine rN Qh 3 [([],[(1,.call (.tup []) (jN 7 [jR 6 Qd.cells x53]))],[]),j3,([],[],[(1,.val (jI (x53.length:Int)))])] [] [.movC 3 0] [8,7] [0,7,41,42,43] (f53r8n4S x53 a1 a2 a3 a2.Units 0 a4) (ap (Qp.rn 8 [7] (f54r1_ok v50 h54)) (ap (Qac (xs:=x53) (c:=Qd.cells)) an)) ?_;obtain ⟨o105,h106,h⟩:=Qf h;cases o105 with
  | exit2 v107 =>
   obtain rfl:=Qg h;exact T.last' (T.bl (i:=2) (by kernel_rfl) (by kernel_rfl) (f53r8n4_ok FUEL x53 a1 a2 a3 a2.Units 0 a4 h106)) (tds:=[]) (m:=[7]) (keep:=[]) (st2:=(f53r8n0E a1 a2 a3 a4 (.norm v107)).2) (by kernel_rfl) an rfl
  | ret v108 =>
   obtain rfl:=Qg h;exact T.last' (T.bl (i:=2) (by kernel_rfl) (by kernel_rfl) (f53r8n4_ok FUEL x53 a1 a2 a3 a2.Units 0 a4 h106)) (tds:=[]) (m:=[7]) (keep:=[]) (st2:=(f53r8n0E a1 a2 a3 a4 (.ret v108)).2) (by kernel_rfl) an rfl
noncomputable def f53r8(a1:Qe)(a2:Qb)(a3:Int)(a4:List Qa):Option (Bool×(List Qa)):=(f53r8n0 a1 a2 a3 a4).bind fun o=>match o with
 | .norm v109=>some (true,v109)
 | .ret v110=>some (false,v110)
theorem f53r8_ok(a1:Qe)(a2:Qb)(a3:Int)(a4:List Qa){r:Bool×(List Qa)}(h:f53r8 a1 a2 a3 a4=some r):Qp Try.prog true 53 [(.yl 0),(.bp 1 0),(.bp 2 0)] [some (.lp Qo .ready none (kL 63 [(5,(.bp 3 0)),(9,(.bp 4 0)),(10,(.bp 5 0))])),some (.box ((Qe.cells a1).map .pl)),some (.box ((Qb.cells a2).map .pl)),some (.box [(.own 6)]),some (.box (((cInt .i64) a3).map .pl)),some (.box [(.pl .nilf)]),jR 3 Qa.cells a4] (.tup []) [some (.lp Qo (lstOf r.1) (pdOf r.1 (.exit 2)) (kL 63 [(5,(.bp 3 0)),(9,(.bp 4 0)),(10,(.bp 5 0))])),some (.box ((Qe.cells a1).map .pl)),some (.box ((Qb.cells a2).map .pl)),some (.box [(.own 7)]),some (.box (((cInt .i64) a3).map .pl)),some (.box [(.pl .nilf)]),none,jR 3 Qa.cells r.2]:=by
 unfold f53r8 at h;obtain ⟨o,ho,h⟩:=Qf h;cases o with
 | norm v109 =>
  obtain rfl:=Qg h;exact Qp.shared Qh (f:=Try.f53) (c:=c53) (by kernel_rfl) (by kernel_rfl) (by kernel_rfl) ((f53r8n0_ok a1 a2 a3 a4 ho).mono fun r e=>by subst e; exact ⟨.inr rfl,by kernel_rfl,by kernel_rfl⟩)
 | ret v110 =>
  obtain rfl:=Qg h;exact Qp.shared Qh (f:=Try.f53) (c:=c53) (by kernel_rfl) (by kernel_rfl) (by kernel_rfl) ((f53r8n0_ok a1 a2 a3 a4 ho).mono fun r e=>by subst e; exact ⟨.inl rfl,by kernel_rfl,by kernel_rfl⟩)

noncomputable def c38:Code:=Try.f38.body.getD .skip
inductive f38n0O where
 | ret (v7:Int)
def f38n0E(a1 a2:Qa):f38n0O→Ex×Tr×Hp
 | .ret v7=>(.ret,mkS [(4,(jI v7))],[])
def f38n0S(a1 a2:Qa):Tr×Hp:=(Qan [(jA Qa.cells a1),(jA Qa.cells a2)] 0 .leaf,[])
noncomputable def f38n0(a1 a2:Qa):Option f38n0O :=
 (f39 a1.Bid a2.Bid).bind fun x5 =>
 some (.ret x5)
theorem f38n0_ok(a1 a2:Qa){o:f38n0O}(h:f38n0 a1 a2=some o):T Try.prog Try.f38.ntmps 0 c38 (f38n0S a1 a2) (·=f38n0E a1 a2 o):=by
 unfold f38n0 at h;obtain ⟨x5,h6,h⟩:=Qf h;obtain rfl:=Qg h;exact rE Qh [j3,([],[jH 4 (jI x5)],[])] [] [] [] [4] (.ret,(f38n0E a1 a2 (.ret x5)).2) (ap (f39_ok a1.Bid a2.Bid h6) an) rfl
noncomputable def f38(a1 a2:Qa):Option Int:=(f38n0 a1 a2).bind fun o=>match o with
 | .ret v7=>some v7
theorem f38_ok(a1 a2:Qa){r:Int}(h:f38 a1 a2=some r):Qp Try.prog false 38 [(jA Qa.cells a1),(jA Qa.cells a2)] [] (jI r) []:=by
 unfold f38 at h;obtain ⟨o,ho,h⟩:=Qf h;cases o with
 | ret v7 =>
  obtain rfl:=Qg h;exact Qp.plain Qh (f:=Try.f38) (c:=c38) (by kernel_rfl) (by kernel_rfl) (by kernel_rfl) (by kernel_rfl) ((f38n0_ok a1 a2 ho).mono fun r e=>by subst e; exact ⟨.inl rfl,(jI v7),(jI v7),by kernel_rfl,by kernel_rfl,((Wk.refl _):Wk (jI v7) (jI v7))⟩)

instance:Inhabited Qa:=⟨(Qa.mk 0 0 0)⟩
def so37_38_good(xs:List Qa):Prop:=∃c:Qa→Qa→Int,(∀x y,f38 x y=some (c x y))∧Go.Sort.SWO (ltOf c)∧xs.length<4611686018427387904
open Classical in
noncomputable def so37_38(xs:List Qa):Option (List Qa):=if h:so37_38_good xs then some (sortL h.choose xs) else none
theorem so37_38_val{xs:List Qa}{c:Qa→Qa→Int}(hc:∀x y,f38 x y=some (c x y))(o:Go.Sort.SWO (ltOf c))(hl:xs.length<4611686018427387904):so37_38 xs=some (sortL c xs):=by
 have h:so37_38_good xs:=⟨c,hc,o,hl⟩;unfold so37_38;rw [dif_pos h];have e:h.choose=c:=funext fun x=>funext fun y=>Option.some.inj ((h.choose_spec.1 x y).symm.trans (hc x y));rw [e]
theorem so37_38_ok(xs:List Qa){r:List Qa}(h:so37_38 xs=some r) :
  Qp Try.prog true 37 [.own 0,.pl (.fn 38)] [some (.row false 3 (xs.map Qa.cells))] (.tup []) [some (.row false 3 (r.map Qa.cells))]:=by
 unfold so37_38 at h
 by_cases hc:so37_38_good xs
 ·rw [dif_pos hc] at h;obtain rfl:=Qg h;have hs:=hc.choose_spec;exact sort_callS (cells:=Qa.cells) so_lays rfl so_agg so_size (enters_of Try.func37 (by kernel_rfl) rfl) (fun _=>rfl) (fun x q hq=>by
   simp only [Qa.cells,List.mem_cons,List.not_mem_nil,or_false] at hq;rcases hq with rfl | rfl | rfl<;>rfl) _ hs.2.1 (fun x y=>f38_ok _ _ (hs.1 x y)) xs hs.2.2
 ·rw [dif_neg hc] at h; cases h


inductive f12n3O where
 | norm (v162:List Qa)
def f12n3E(ba1:Qe)(bd2 bd3:Int)(be4:Qb)(bg5:List Qa):f12n3O→Ex×Tr×Hp
 | .norm v162=>(.norm,mkS [(1,(.bp 0 0)),(2,(.pl (.sl .nil 0 []))),(3,(jI 0)),(5,(.bp 1 0)),(19,(jL 3 Qb.cells ba1.Lots)),(20,(jI (ba1.Lots.length:Int))),(21,(jI bd2))],[some (.box ((Qe.cells ba1).map .pl)),some (.box [(.own 2)]),jR 3 Qa.cells v162])
def f12n3S(ba1:Qe)(bd2 bd3:Int)(be4:Qb)(bg5:List Qa):Tr×Hp:=(mkS [(1,(.bp 0 0)),(2,(.pl (.sl .nil 0 []))),(3,(jI 0)),(5,(.bp 1 0)),(9,(.bp 2 0)),(10,(.bp 3 0)),(19,(jL 3 Qb.cells ba1.Lots)),(20,(jI (ba1.Lots.length:Int))),(21,(jI bd2)),(38,(.clo 53 [(.bp 4 0),(.bp 5 0)]))],[some (.box ((Qe.cells ba1).map .pl)),some (.box [(.own 6)]),some (.box (((cInt .i64) bd3).map .pl)),some (.box [(.pl (.fn 56))]),some (.box ((Qe.cells ba1).map .pl)),some (.box ((Qb.cells be4).map .pl)),jR 3 Qa.cells bg5])
noncomputable def f12n3(ba1:Qe)(bd2 bd3:Int)(be4:Qb)(bg5:List Qa):Option f12n3O :=
 (f53r6 ba1 be4 bd3 bg5).bind fun x159 =>
 bif x159.1 then
  some (.norm x159.2)
 else
  some (.norm x159.2)
theorem f12n3_ok(ba1:Qe)(bd2 bd3:Int)(be4:Qb)(bg5:List Qa){o:f12n3O}(h:f12n3 ba1 bd2 bd3 be4 bg5=some o):T Try.prog Try.f12.ntmps 0 (Qk 1 (Qk 4 (cL (cL (Qk 2 (cL (cL (Qk 1 (cL (Qk 3 c12)))))))))) (f12n3S ba1 bd2 bd3 be4 bg5) (·=f12n3E ba1 bd2 bd3 be4 bg5 o):=by
 unfold f12n3 at h;refine T.block' (i:=2) (by kernel_rfl) ?_;refine rN Qh 0 [] [] [] [0,1,2,3,4,5,6] [1,2,3,5,9,10,19,20,21,38] (mkS [(1,(.bp 0 0)),(2,(.pl (.sl .nil 0 []))),(3,(jI 0)),(5,(.bp 1 0)),(9,(.bp 2 0)),(10,(.bp 3 0)),(19,(jL 3 Qb.cells ba1.Lots)),(20,(jI (ba1.Lots.length:Int))),(21,(jI bd2)),(38,(.clo 53 [(.bp 4 0),(.bp 5 0)]))],[some (.box ((Qe.cells ba1).map .pl)),some (.box [(.own 6)]),some (.box (((cInt .i64) bd3).map .pl)),some (.box [(.pl (.fn 56))]),some (.box ((Qe.cells ba1).map .pl)),some (.box ((Qb.cells be4).map .pl)),jR 3 Qa.cells bg5]) an ?_;obtain ⟨x159,h160,h⟩:=Qf h;rcases Qj h with ⟨h161,h⟩|⟨h161,h⟩
 ·obtain rfl:=Qg h
  exact T.last' (rgN 53 [(.bp 4 0),(.bp 5 0)] [5,9,10] (.tup []) [none,some (.box [(.own 8)]),some (.box (((cInt .i64) bd3).map .pl)),some (.box [(.pl (.fn 56))]),some (.box ((Qe.cells ba1).map .pl)),some (.box ((Qb.cells be4).map .pl)),none,some (.lp Qo .ready none (kL 63 [(5,(.bp 1 0)),(9,(.bp 2 0)),(10,(.bp 3 0))])),jR 3 Qa.cells x159.2] none .ready (kL 63 [(5,(.bp 1 0)),(9,(.bp 2 0)),(10,(.bp 3 0))]) .norm [] [0,1,8] [1,2,3,5,19,20,21] (mkS [(1,(.bp 0 0)),(2,(.pl (.sl .nil 0 []))),(3,(jI 0)),(5,(.bp 1 0)),(19,(jL 3 Qb.cells ba1.Lots)),(20,(jI (ba1.Lots.length:Int))),(21,(jI bd2))],[some (.box ((Qe.cells ba1).map .pl)),some (.box [(.own 2)]),jR 3 Qa.cells x159.2]) (by have t_:=(Qp.rn 8 [7,4,5,1,2,3,6] (f53r6_ok ba1 be4 bd3 bg5 h160)); rw [h161] at t_; exact t_) an) (tds:=[]) (m:=[0,1,2]) (keep:=[1,2,3,5,19,20,21]) (st2:=(f12n3E ba1 bd2 bd3 be4 bg5 (.norm x159.2)).2) (by kernel_rfl) an rfl
 ·obtain rfl:=Qg h
  exact T.last' (rgN 53 [(.bp 4 0),(.bp 5 0)] [5,9,10] (.tup []) [none,some (.box [(.own 8)]),some (.box (((cInt .i64) bd3).map .pl)),some (.box [(.pl (.fn 56))]),some (.box ((Qe.cells ba1).map .pl)),some (.box ((Qb.cells be4).map .pl)),none,some (.lp Qo .done (some (.exit 2)) (kL 63 [(5,(.bp 1 0)),(9,(.bp 2 0)),(10,(.bp 3 0))])),jR 3 Qa.cells x159.2] (some (.exit 2)) .done (kL 63 [(5,(.bp 1 0)),(9,(.bp 2 0)),(10,(.bp 3 0))]) (.exit 2) [] [0,1,8] [1,2,3,5,19,20,21] (mkS [(1,(.bp 0 0)),(2,(.pl (.sl .nil 0 []))),(3,(jI 0)),(5,(.bp 1 0)),(19,(jL 3 Qb.cells ba1.Lots)),(20,(jI (ba1.Lots.length:Int))),(21,(jI bd2))],[some (.box ((Qe.cells ba1).map .pl)),some (.box [(.own 2)]),jR 3 Qa.cells x159.2]) (by have t_:=(Qp.rn 8 [7,4,5,1,2,3,6] (f53r6_ok ba1 be4 bd3 bg5 h160)); rw [h161] at t_; exact t_) an) (tds:=[]) (m:=[0,1,2]) (keep:=[1,2,3,5,19,20,21]) (st2:=(f12n3E ba1 bd2 bd3 be4 bg5 (.norm x159.2)).2) (by kernel_rfl) an rfl
inductive f12n4O where
 | norm (v174:List Qa)
def f12n4E(ba1:Qe)(bd2 bd3:Int)(be4:Qb)(bg5:List Qa):f12n4O→Ex×Tr×Hp
 | .norm v174=>(.norm,mkS [(1,(.bp 0 0)),(2,(.pl (.sl .nil 0 []))),(3,(jI 0)),(5,(.bp 1 0)),(19,(jL 3 Qb.cells ba1.Lots)),(20,(jI (ba1.Lots.length:Int))),(21,(jI bd2))],[some (.box ((Qe.cells ba1).map .pl)),some (.box [(.own 2)]),jR 3 Qa.cells v174])
def f12n4S(ba1:Qe)(bd2 bd3:Int)(be4:Qb)(bg5:List Qa):Tr×Hp:=(mkS [(1,(.bp 0 0)),(2,(.pl (.sl .nil 0 []))),(3,(jI 0)),(5,(.bp 1 0)),(9,(.bp 2 0)),(10,(.bp 3 0)),(19,(jL 3 Qb.cells ba1.Lots)),(20,(jI (ba1.Lots.length:Int))),(21,(jI bd2)),(38,(.clo 53 [(.bp 4 0),(.bp 5 0)]))],[some (.box ((Qe.cells ba1).map .pl)),some (.box [(.own 6)]),some (.box (((cInt .i64) bd3).map .pl)),some (.box [(.pl (.fn 57))]),some (.box ((Qe.cells ba1).map .pl)),some (.box ((Qb.cells be4).map .pl)),jR 3 Qa.cells bg5])
noncomputable def f12n4(ba1:Qe)(bd2 bd3:Int)(be4:Qb)(bg5:List Qa):Option f12n4O :=
 (f53r7 ba1 be4 bd3 bg5).bind fun x171 =>
 bif x171.1 then
  some (.norm x171.2)
 else
  some (.norm x171.2)
theorem f12n4_ok(ba1:Qe)(bd2 bd3:Int)(be4:Qb)(bg5:List Qa){o:f12n4O}(h:f12n4 ba1 bd2 bd3 be4 bg5=some o):T Try.prog Try.f12.ntmps 0 (Qk 1 (Qk 4 (cL (cL (Qk 2 (cL (cL (Qk 1 (cL (Qk 3 c12)))))))))) (f12n4S ba1 bd2 bd3 be4 bg5) (·=f12n4E ba1 bd2 bd3 be4 bg5 o):=by
 unfold f12n4 at h;refine T.block' (i:=2) (by kernel_rfl) ?_;refine rN Qh 0 [] [] [] [0,1,2,3,4,5,6] [1,2,3,5,9,10,19,20,21,38] (mkS [(1,(.bp 0 0)),(2,(.pl (.sl .nil 0 []))),(3,(jI 0)),(5,(.bp 1 0)),(9,(.bp 2 0)),(10,(.bp 3 0)),(19,(jL 3 Qb.cells ba1.Lots)),(20,(jI (ba1.Lots.length:Int))),(21,(jI bd2)),(38,(.clo 53 [(.bp 4 0),(.bp 5 0)]))],[some (.box ((Qe.cells ba1).map .pl)),some (.box [(.own 6)]),some (.box (((cInt .i64) bd3).map .pl)),some (.box [(.pl (.fn 57))]),some (.box ((Qe.cells ba1).map .pl)),some (.box ((Qb.cells be4).map .pl)),jR 3 Qa.cells bg5]) an ?_;obtain ⟨x171,h172,h⟩:=Qf h;rcases Qj h with ⟨h173,h⟩|⟨h173,h⟩
 ·obtain rfl:=Qg h
  exact T.last' (rgN 53 [(.bp 4 0),(.bp 5 0)] [5,9,10] (.tup []) [none,some (.box [(.own 8)]),some (.box (((cInt .i64) bd3).map .pl)),some (.box [(.pl (.fn 57))]),some (.box ((Qe.cells ba1).map .pl)),some (.box ((Qb.cells be4).map .pl)),none,some (.lp Qo .ready none (kL 63 [(5,(.bp 1 0)),(9,(.bp 2 0)),(10,(.bp 3 0))])),jR 3 Qa.cells x171.2] none .ready (kL 63 [(5,(.bp 1 0)),(9,(.bp 2 0)),(10,(.bp 3 0))]) .norm [] [0,1,8] [1,2,3,5,19,20,21] (mkS [(1,(.bp 0 0)),(2,(.pl (.sl .nil 0 []))),(3,(jI 0)),(5,(.bp 1 0)),(19,(jL 3 Qb.cells ba1.Lots)),(20,(jI (ba1.Lots.length:Int))),(21,(jI bd2))],[some (.box ((Qe.cells ba1).map .pl)),some (.box [(.own 2)]),jR 3 Qa.cells x171.2]) (by have t_:=(Qp.rn 8 [7,4,5,1,2,3,6] (f53r7_ok ba1 be4 bd3 bg5 h172)); rw [h173] at t_; exact t_) an) (tds:=[]) (m:=[0,1,2]) (keep:=[1,2,3,5,19,20,21]) (st2:=(f12n4E ba1 bd2 bd3 be4 bg5 (.norm x171.2)).2) (by kernel_rfl) an rfl
 ·obtain rfl:=Qg h
  exact T.last' (rgN 53 [(.bp 4 0),(.bp 5 0)] [5,9,10] (.tup []) [none,some (.box [(.own 8)]),some (.box (((cInt .i64) bd3).map .pl)),some (.box [(.pl (.fn 57))]),some (.box ((Qe.cells ba1).map .pl)),some (.box ((Qb.cells be4).map .pl)),none,some (.lp Qo .done (some (.exit 2)) (kL 63 [(5,(.bp 1 0)),(9,(.bp 2 0)),(10,(.bp 3 0))])),jR 3 Qa.cells x171.2] (some (.exit 2)) .done (kL 63 [(5,(.bp 1 0)),(9,(.bp 2 0)),(10,(.bp 3 0))]) (.exit 2) [] [0,1,8] [1,2,3,5,19,20,21] (mkS [(1,(.bp 0 0)),(2,(.pl (.sl .nil 0 []))),(3,(jI 0)),(5,(.bp 1 0)),(19,(jL 3 Qb.cells ba1.Lots)),(20,(jI (ba1.Lots.length:Int))),(21,(jI bd2))],[some (.box ((Qe.cells ba1).map .pl)),some (.box [(.own 2)]),jR 3 Qa.cells x171.2]) (by have t_:=(Qp.rn 8 [7,4,5,1,2,3,6] (f53r7_ok ba1 be4 bd3 bg5 h172)); rw [h173] at t_; exact t_) an) (tds:=[]) (m:=[0,1,2]) (keep:=[1,2,3,5,19,20,21]) (st2:=(f12n4E ba1 bd2 bd3 be4 bg5 (.norm x171.2)).2) (by kernel_rfl) an rfl
inductive f12n5O where
 | norm (v181:List Qa)
def f12n5E(ba1:Qe)(bd2:Int)(be3:Qb)(bg4:List Qa):f12n5O→Ex×Tr×Hp
 | .norm v181=>(.norm,mkS [(1,(.bp 0 0)),(2,(.pl (.sl .nil 0 []))),(3,(jI 0)),(5,(.bp 1 0)),(19,(jL 3 Qb.cells ba1.Lots)),(20,(jI (ba1.Lots.length:Int))),(21,(jI bd2))],[some (.box ((Qe.cells ba1).map .pl)),some (.box [(.own 2)]),jR 3 Qa.cells v181])
def f12n5S(ba1:Qe)(bd2:Int)(be3:Qb)(bg4:List Qa):Tr×Hp:=(mkS [(1,(.bp 0 0)),(2,(.pl (.sl .nil 0 []))),(3,(jI 0)),(5,(.bp 1 0)),(9,(.bp 2 0)),(10,(.bp 3 0)),(19,(jL 3 Qb.cells ba1.Lots)),(20,(jI (ba1.Lots.length:Int))),(21,(jI bd2)),(38,(.clo 53 [(.bp 4 0),(.bp 5 0)]))],[some (.box ((Qe.cells ba1).map .pl)),some (.box [(.own 6)]),some (.box (((cInt .i64) 0).map .pl)),some (.box [(.pl .nilf)]),some (.box ((Qe.cells ba1).map .pl)),some (.box ((Qb.cells be3).map .pl)),jR 3 Qa.cells bg4])
noncomputable def f12n5(ba1:Qe)(bd2:Int)(be3:Qb)(bg4:List Qa):Option f12n5O :=
 (f53r8 ba1 be3 0 bg4).bind fun x178 =>
 bif x178.1 then
  some (.norm x178.2)
 else
  some (.norm x178.2)
theorem f12n5_ok(ba1:Qe)(bd2:Int)(be3:Qb)(bg4:List Qa){o:f12n5O}(h:f12n5 ba1 bd2 be3 bg4=some o):T Try.prog Try.f12.ntmps 0 (Qk 1 (Qk 4 (cL (cL (Qk 2 (cL (cL (Qk 1 (cL (Qk 3 c12)))))))))) (f12n5S ba1 bd2 be3 bg4) (·=f12n5E ba1 bd2 be3 bg4 o):=by
 unfold f12n5 at h;refine T.block' (i:=2) (by kernel_rfl) ?_;refine rN Qh 0 [] [] [] [0,1,2,3,4,5,6] [1,2,3,5,9,10,19,20,21,38] (mkS [(1,(.bp 0 0)),(2,(.pl (.sl .nil 0 []))),(3,(jI 0)),(5,(.bp 1 0)),(9,(.bp 2 0)),(10,(.bp 3 0)),(19,(jL 3 Qb.cells ba1.Lots)),(20,(jI (ba1.Lots.length:Int))),(21,(jI bd2)),(38,(.clo 53 [(.bp 4 0),(.bp 5 0)]))],[some (.box ((Qe.cells ba1).map .pl)),some (.box [(.own 6)]),some (.box (((cInt .i64) 0).map .pl)),some (.box [(.pl .nilf)]),some (.box ((Qe.cells ba1).map .pl)),some (.box ((Qb.cells be3).map .pl)),jR 3 Qa.cells bg4]) an ?_;obtain ⟨x178,h179,h⟩:=Qf h;rcases Qj h with ⟨h180,h⟩|⟨h180,h⟩
 ·obtain rfl:=Qg h
  exact T.last' (rgN 53 [(.bp 4 0),(.bp 5 0)] [5,9,10] (.tup []) [none,some (.box [(.own 8)]),some (.box (((cInt .i64) 0).map .pl)),some (.box [(.pl .nilf)]),some (.box ((Qe.cells ba1).map .pl)),some (.box ((Qb.cells be3).map .pl)),none,some (.lp Qo .ready none (kL 63 [(5,(.bp 1 0)),(9,(.bp 2 0)),(10,(.bp 3 0))])),jR 3 Qa.cells x178.2] none .ready (kL 63 [(5,(.bp 1 0)),(9,(.bp 2 0)),(10,(.bp 3 0))]) .norm [] [0,1,8] [1,2,3,5,19,20,21] (mkS [(1,(.bp 0 0)),(2,(.pl (.sl .nil 0 []))),(3,(jI 0)),(5,(.bp 1 0)),(19,(jL 3 Qb.cells ba1.Lots)),(20,(jI (ba1.Lots.length:Int))),(21,(jI bd2))],[some (.box ((Qe.cells ba1).map .pl)),some (.box [(.own 2)]),jR 3 Qa.cells x178.2]) (by have t_:=(Qp.rn 8 [7,4,5,1,2,3,6] (f53r8_ok ba1 be3 0 bg4 h179)); rw [h180] at t_; exact t_) an) (tds:=[]) (m:=[0,1,2]) (keep:=[1,2,3,5,19,20,21]) (st2:=(f12n5E ba1 bd2 be3 bg4 (.norm x178.2)).2) (by kernel_rfl) an rfl
 ·obtain rfl:=Qg h
  exact T.last' (rgN 53 [(.bp 4 0),(.bp 5 0)] [5,9,10] (.tup []) [none,some (.box [(.own 8)]),some (.box (((cInt .i64) 0).map .pl)),some (.box [(.pl .nilf)]),some (.box ((Qe.cells ba1).map .pl)),some (.box ((Qb.cells be3).map .pl)),none,some (.lp Qo .done (some (.exit 2)) (kL 63 [(5,(.bp 1 0)),(9,(.bp 2 0)),(10,(.bp 3 0))])),jR 3 Qa.cells x178.2] (some (.exit 2)) .done (kL 63 [(5,(.bp 1 0)),(9,(.bp 2 0)),(10,(.bp 3 0))]) (.exit 2) [] [0,1,8] [1,2,3,5,19,20,21] (mkS [(1,(.bp 0 0)),(2,(.pl (.sl .nil 0 []))),(3,(jI 0)),(5,(.bp 1 0)),(19,(jL 3 Qb.cells ba1.Lots)),(20,(jI (ba1.Lots.length:Int))),(21,(jI bd2))],[some (.box ((Qe.cells ba1).map .pl)),some (.box [(.own 2)]),jR 3 Qa.cells x178.2]) (by have t_:=(Qp.rn 8 [7,4,5,1,2,3,6] (f53r8_ok ba1 be3 0 bg4 h179)); rw [h180] at t_; exact t_) an) (tds:=[]) (m:=[0,1,2]) (keep:=[1,2,3,5,19,20,21]) (st2:=(f12n5E ba1 bd2 be3 bg4 (.norm x178.2)).2) (by kernel_rfl) an rfl
inductive f12n2O where
 | norm (v185:List Qa)
def f12n2E(ba1:Qe)(bd2:Int)(bg3:List Qa):f12n2O→Ex×Tr×Hp
 | .norm v185=>(.norm,mkS [(1,(.bp 0 0)),(2,(.pl (.sl .nil 0 []))),(3,(jI 0)),(5,(.bp 1 0)),(19,(jL 3 Qb.cells ba1.Lots)),(20,(jI (ba1.Lots.length:Int))),(21,(jI bd2))],[some (.box ((Qe.cells ba1).map .pl)),some (.box [(.own 2)]),jR 3 Qa.cells v185])
def f12n2S(ba1:Qe)(bd2:Int)(bg3:List Qa):Tr×Hp:=(mkS [(1,(.bp 0 0)),(2,(.pl (.sl .nil 0 []))),(3,(jI 0)),(5,(.bp 1 0)),(19,(jL 3 Qb.cells ba1.Lots)),(20,(jI (ba1.Lots.length:Int))),(21,(jI bd2))],[some (.box ((Qe.cells ba1).map .pl)),some (.box [(.own 2)]),jR 3 Qa.cells bg3])
noncomputable def f12n2(ba1:Qe)(bd2:Int)(bg3:List Qa):Option f12n2O :=
 (at? ba1.Lots bd2).bind fun x134 =>
 (f35r1 ba1 x134).bind fun x138 =>
 f36r1.bind fun x152 =>
 bif decide (ba1.Rule=1) then
  (f56r1 x134 ba1).bind fun x157 =>
  (f12n3 ba1 bd2 x157 x134 bg3).bind fun o163=>match o163 with
  | .norm v165=>some (.norm v165)
 else
  bif decide (ba1.Rule=2) then
   (f57r1 x134 ba1).bind fun x169 =>
   (f12n4 ba1 bd2 x169 x134 bg3).bind fun o175=>match o175 with
   | .norm v177=>some (.norm v177)
  else
   (f12n5 ba1 bd2 x134 bg3).bind fun o182=>match o182 with
   | .norm v184=>some (.norm v184)
theorem f12n2_ok(ba1:Qe)(bd2:Int)(bg3:List Qa){o:f12n2O}(h:f12n2 ba1 bd2 bg3=some o):T Try.prog Try.f12.ntmps 0 (cL (Qk 2 (cL (cL (Qk 1 (cL (Qk 3 c12))))))) (f12n2S ba1 bd2 bg3) (·=f12n2E ba1 bd2 bg3 o):=by
 unfold f12n2 at h;refine T.block' (i:=1) (by kernel_rfl) ?_;obtain ⟨x134,h135,h⟩:=Qf h;obtain ⟨x138,h139,h⟩:=Qf h;obtain ⟨x152,h153,h⟩:=Qf h;rcases Qj h with ⟨h154,h⟩|⟨h154,h⟩
 ·obtain ⟨x157,h158,h⟩:=Qf h
  refine rN Qh 4 [([],[(0,.idx (Int.toNat bd2) (Qb.cells x134))],[]),([],[(2,.call (.clo 53 [(.bp 4 0),(.bp 5 0)]) (jN 4 [some (.box ((Qe.cells ba1).map .pl)),some (.box ((Qb.cells x134).map .pl))]))],[]),([],[(0,.call (.mp 9) (jN 9 [some (.map [((.int .u8 1),(.fn 56)),((.int .u8 2),(.fn 57))])])),(3,.look (.fn 56) true)],[]),j3,([],[(3,.call (jI x157) (jN 4 [some (.box ((Qe.cells ba1).map .pl)),some (.box ((Qb.cells x134).map .pl)),none,none,none,none]))],[])] [none] [] [0,1,4,5,6,7,2] [1,2,3,5,8,9,10,19,20,21] (mkS [(1,(.bp 0 0)),(2,(.pl (.sl .nil 0 []))),(3,(jI 0)),(5,(.bp 1 0)),(8,(.clo 53 [(.bp 2 0),(.bp 3 0)])),(9,(.bp 4 0)),(10,(.bp 5 0)),(19,(jL 3 Qb.cells ba1.Lots)),(20,(jI (ba1.Lots.length:Int))),(21,(jI bd2))],[some (.box ((Qe.cells ba1).map .pl)),some (.box [(.own 6)]),some (.box ((Qe.cells ba1).map .pl)),some (.box ((Qb.cells x134).map .pl)),some (.box (((cInt .i64) x157).map .pl)),some (.box [(.pl (.fn 56))]),jR 3 Qa.cells bg3]) (ap (Qi h135).1 (ap (Qn Qb.cells (Qi h135).2) (ap (Qp.rn 4 [] (f35r1_ok ba1 x134 h139)) (ap (look_lit (e:=74) key_5 (z:=.nilf) (by kernel_rfl) ba1.Rule [(1,(.fn 56)),(2,(.fn 57))] (v:=(.fn 56)) (b:=true) (by simp only [mGet,mHas,h154,cond_true,cond_false,Bool.or_true,Bool.true_or,Bool.or_false,Bool.false_or]) (by simp only [mGet,mHas,h154,cond_true,cond_false,Bool.or_true,Bool.true_or,Bool.or_false,Bool.false_or])) (ap (Qp.rn 9 [] (f36r1_ok h153)) (ap (Qp.rn 10 [4,5] (f56r1_ok x134 ba1 h158)) an)))))) ?_
  refine rN Qh 1 [j3] [] [] [0,1,4,5,2,3,6] [1,2,3,5,9,10,19,20,21,38] (f12n3S ba1 bd2 x157 x134 bg3) an ?_;obtain ⟨o163,h164,h⟩:=Qf h;cases o163 with
  | norm v165 =>
   obtain rfl:=Qg h;exact T.last' (f12n3_ok ba1 bd2 x157 x134 bg3 h164) (tds:=[]) (m:=[0,1,2]) (keep:=[1,2,3,5,19,20,21]) (st2:=(f12n2E ba1 bd2 bg3 (.norm v165)).2) (by kernel_rfl) an rfl
 ·rcases Qj h with ⟨h166,h⟩|⟨h166,h⟩
  ·obtain ⟨x169,h170,h⟩:=Qf h
   refine rN Qh 4 [([],[(0,.idx (Int.toNat bd2) (Qb.cells x134))],[]),([],[(2,.call (.clo 53 [(.bp 4 0),(.bp 5 0)]) (jN 4 [some (.box ((Qe.cells ba1).map .pl)),some (.box ((Qb.cells x134).map .pl))]))],[]),([],[(0,.call (.mp 9) (jN 9 [some (.map [((.int .u8 1),(.fn 56)),((.int .u8 2),(.fn 57))])])),(3,.look (.fn 57) true)],[]),j3,([],[(3,.call (jI x169) (jN 4 [some (.box ((Qe.cells ba1).map .pl)),some (.box ((Qb.cells x134).map .pl)),none,none,none,none,some (.box (((cInt .i64) x169).map .pl))]))],[])] [none] [] [0,1,4,5,6,7,2] [1,2,3,5,8,9,10,19,20,21] (mkS [(1,(.bp 0 0)),(2,(.pl (.sl .nil 0 []))),(3,(jI 0)),(5,(.bp 1 0)),(8,(.clo 53 [(.bp 2 0),(.bp 3 0)])),(9,(.bp 4 0)),(10,(.bp 5 0)),(19,(jL 3 Qb.cells ba1.Lots)),(20,(jI (ba1.Lots.length:Int))),(21,(jI bd2))],[some (.box ((Qe.cells ba1).map .pl)),some (.box [(.own 6)]),some (.box ((Qe.cells ba1).map .pl)),some (.box ((Qb.cells x134).map .pl)),some (.box (((cInt .i64) x169).map .pl)),some (.box [(.pl (.fn 57))]),jR 3 Qa.cells bg3]) (ap (Qi h135).1 (ap (Qn Qb.cells (Qi h135).2) (ap (Qp.rn 4 [] (f35r1_ok ba1 x134 h139)) (ap (look_lit (e:=74) key_5 (z:=.nilf) (by kernel_rfl) ba1.Rule [(1,(.fn 56)),(2,(.fn 57))] (v:=(.fn 57)) (b:=true) (by simp only [mGet,mHas,h154,h166,cond_true,cond_false,Bool.or_true,Bool.true_or,Bool.or_false,Bool.false_or]) (by simp only [mGet,mHas,h154,h166,cond_true,cond_false,Bool.or_true,Bool.true_or,Bool.or_false,Bool.false_or])) (ap (Qp.rn 9 [] (f36r1_ok h153)) (ap (Qp.rn 10 [4,5] (f57r1_ok x134 ba1 h170)) an)))))) ?_
   refine rN Qh 1 [j3] [] [] [0,1,4,5,2,3,6] [1,2,3,5,9,10,19,20,21,38] (f12n4S ba1 bd2 x169 x134 bg3) an ?_;obtain ⟨o175,h176,h⟩:=Qf h;cases o175 with
   | norm v177 =>
    obtain rfl:=Qg h;exact T.last' (f12n4_ok ba1 bd2 x169 x134 bg3 h176) (tds:=[]) (m:=[0,1,2]) (keep:=[1,2,3,5,19,20,21]) (st2:=(f12n2E ba1 bd2 bg3 (.norm v177)).2) (by kernel_rfl) an rfl
  ·refine rN Qh 4 [([],[(0,.idx (Int.toNat bd2) (Qb.cells x134))],[]),([],[(2,.call (.clo 53 [(.bp 4 0),(.bp 5 0)]) (jN 4 [some (.box ((Qe.cells ba1).map .pl)),some (.box ((Qb.cells x134).map .pl))]))],[]),([],[(0,.call (.mp 9) (jN 9 [some (.map [((.int .u8 1),(.fn 56)),((.int .u8 2),(.fn 57))])])),(3,.look .nilf false)],[]),j3] [none] [] [0,1,4,5,6,7,2] [1,2,3,5,8,9,10,19,20,21] (mkS [(1,(.bp 0 0)),(2,(.pl (.sl .nil 0 []))),(3,(jI 0)),(5,(.bp 1 0)),(8,(.clo 53 [(.bp 2 0),(.bp 3 0)])),(9,(.bp 4 0)),(10,(.bp 5 0)),(19,(jL 3 Qb.cells ba1.Lots)),(20,(jI (ba1.Lots.length:Int))),(21,(jI bd2))],[some (.box ((Qe.cells ba1).map .pl)),some (.box [(.own 6)]),some (.box ((Qe.cells ba1).map .pl)),some (.box ((Qb.cells x134).map .pl)),some (.box (((cInt .i64) 0).map .pl)),some (.box [(.pl .nilf)]),jR 3 Qa.cells bg3]) (ap (Qi h135).1 (ap (Qn Qb.cells (Qi h135).2) (ap (Qp.rn 4 [] (f35r1_ok ba1 x134 h139)) (ap (look_lit (e:=74) key_5 (z:=.nilf) (by kernel_rfl) ba1.Rule [(1,(.fn 56)),(2,(.fn 57))] (v:=.nilf) (b:=false) (by simp only [mGet,mHas,h154,h166,cond_true,cond_false,Bool.or_true,Bool.true_or,Bool.or_false,Bool.false_or]) (by simp only [mGet,mHas,h154,h166,cond_true,cond_false,Bool.or_true,Bool.true_or,Bool.or_false,Bool.false_or])) (ap (Qp.rn 9 [] (f36r1_ok h153)) an))))) ?_
   refine rN Qh 1 [j3] [] [] [0,1,4,5,2,3,6] [1,2,3,5,9,10,19,20,21,38] (f12n5S ba1 bd2 x134 bg3) an ?_;obtain ⟨o182,h183,h⟩:=Qf h;cases o182 with
   | norm v184 =>
    obtain rfl:=Qg h;exact T.last' (f12n5_ok ba1 bd2 x134 bg3 h183) (tds:=[]) (m:=[0,1,2]) (keep:=[1,2,3,5,19,20,21]) (st2:=(f12n2E ba1 bd2 bg3 (.norm v184)).2) (by kernel_rfl) an rfl
inductive f12n6O where
 | exit0 (v189:List Qa)
def f12n6E(ba1:Qe):f12n6O→Ex×Tr×Hp
 | .exit0 v189=>((.exit 0),mkS [(5,(.bp 0 0))],[some (.box [(.own 1)]),jR 3 Qa.cells v189])
def f12n6S(ba1:Qe)(v128:Int)(v129:List Qa):Tr×Hp:=(mkS [(1,(.bp 0 0)),(2,(.pl (.sl .nil 0 []))),(3,(jI 0)),(5,(.bp 1 0)),(19,(jL 3 Qb.cells ba1.Lots)),(20,(jI (ba1.Lots.length:Int))),(21,(jI v128))],[some (.box ((Qe.cells ba1).map .pl)),some (.box [(.own 2)]),jR 3 Qa.cells v129])
noncomputable def f12n6:Nat→Qe→Int→List Qa→Option f12n6O
 | 0,_,_,_=>none
 | f+1,ba1,v128,v129 =>
  bif decide (v128<(ba1.Lots.length:Int)) then
   (f12n2 ba1 v128 v129).bind fun o186=>match o186 with
   | .norm v188=>(f12n6 f ba1 (wr64 (v128+1)) v188)
  else
   some (.exit0 v129)
theorem f12n6_ok:∀(f:Nat)(ba1:Qe)(v128:Int)(v129:List Qa){o:f12n6O},f12n6 f ba1 v128 v129=some o→TL Try.prog Try.f12.ntmps 0 f (cL (cL (Qk 1 (cL (Qk 3 c12))))) (f12n6S ba1 v128 v129) (·=f12n6E ba1 o)
 | 0,_,_,_,o,h=>by rw [f12n6] at h; cases h
 | f+1,ba1,v128,v129,o,h=>by
  rw [f12n6] at h;refine TL.body (K:=fun s=>∃v128:Int,∃v129:List Qa,s=(f12n6S ba1 v128 v129)∧f12n6 f ba1 v128 v129=some o) ?_ (by rintro _ ⟨v128,v129,rfl,hk⟩; exact f12n6_ok f _ _ _ hk);rcases Qj h with ⟨h131,h⟩|⟨h131,h⟩
  ·refine rN Qh 2 [j3] [some true] [] [0,1,2] [1,2,3,5,19,20,21] (f12n2S ba1 v128 v129) (ap h131 an) ?_;obtain ⟨o186,h187,h⟩:=Qf h;cases o186 with
   | norm v188 =>
    refine T.oneN (by kernel_rfl) (f12n2_ok ba1 v128 v129 h187) (st2:=(f12n2E ba1 v128 v129 (.norm v188)).2) rfl ?_;exact rE Qh [j3] [] [] [0,1,2] [1,2,3,5,19,20,21] (.norm,(f12n6S ba1 (wr64 (v128+1)) v188)) an (Qt.norm ⟨(wr64 (v128+1)),v188,rfl,h⟩)
  ·obtain rfl:=Qg h;exact rK Qh 2 [j3] [some false] [] [1,2] [5] (.exit 0) ((f12n6E ba1 (.exit0 v129)).2) (ap h131 an) (Qt.out rfl rfl)
inductive f12n1O where
 | norm (v193:List Qa)
def f12n1E(ba1:Qe):f12n1O→Ex×Tr×Hp
 | .norm v193=>(.norm,mkS [(5,(.bp 0 0))],[some (.box [(.own 1)]),jR 3 Qa.cells v193])
def f12n1S(ba1:Qe):Tr×Hp:=(mkS [(1,(.bp 0 0)),(2,(.pl (.sl .nil 0 []))),(3,(jI 0)),(5,(.bp 1 0))],[some (.box ((Qe.cells ba1).map .pl)),some (.box [(.pl (.sl .nil 0 []))])])
noncomputable def f12n1(ba1:Qe):Option f12n1O :=
 (f12n6 FUEL ba1 0 []).bind fun o190=>match o190 with
 | .exit0 v192=>some (.norm v192)
theorem f12n1_ok(ba1:Qe){o:f12n1O}(h:f12n1 ba1=some o):T Try.prog Try.f12.ntmps 0 (cL (Qk 3 c12)) (f12n1S ba1) (·=f12n1E ba1 o):=by
 unfold f12n1 at h;refine rN Qh 1 [([],[],[(2,.val (jI (ba1.Lots.length:Int)))])] [] [.matC 1 0 3] [0,1,2] [1,2,3,5,19,20,21] (f12n6S ba1 0 []) (ap (Qac (xs:=ba1.Lots) (c:=Qb.cells)) an) ?_;obtain ⟨o190,h191,h⟩:=Qf h;cases o190 with
 | exit0 v192 =>
  obtain rfl:=Qg h;exact T.last' (T.bl (i:=0) (by kernel_rfl) (by kernel_rfl) (f12n6_ok FUEL ba1 0 [] h191)) (tds:=[]) (m:=[0,1]) (keep:=[5]) (st2:=(f12n1E ba1 (.norm v192)).2) (by kernel_rfl) an rfl
inductive f12n0O where
 | ret (v201:Int) (v202:List Qa)
def f12n0E(a1:Qe):f12n0O→Ex×Tr×Hp
 | .ret v201 v202=>(.ret,mkS [(2,(.own 0)),(3,(jI v201))],[jR 3 Qa.cells v202])
def f12n0S(a1:Qe):Tr×Hp:=(Qan [(jA Qe.cells a1)] 0 .leaf,[])
noncomputable def f12n0(a1:Qe):Option f12n0O :=
 (f31 a1).bind fun x5 =>
 bif decide (x5=0) then
  (f12n1 a1).bind fun o194=>match o194 with
  | .norm v196=>(so37_38 v196).bind fun x199 =>
   some (.ret 0 x199)
 else
  some (.ret x5 [])
theorem f12n0_ok(a1:Qe){o:f12n0O}(h:f12n0 a1=some o):T Try.prog Try.f12.ntmps 0 c12 (f12n0S a1) (·=f12n0E a1 o):=by
 unfold f12n0 at h;obtain ⟨x5,h6,h⟩:=Qf h;rcases Qj h with ⟨h7,h⟩|⟨h7,h⟩
 ·refine rN Qh 3 [j3,([],[jH 1 (jI x5)],[]),j3,j3] [some false] [] [0,1] [1,2,3,5] (f12n1S a1) (ap (f31_ok a1 h6) (ap (Qal h7) an)) ?_;obtain ⟨o194,h195,h⟩:=Qf h;cases o194 with
  | norm v196 =>
   refine T.oneN (by kernel_rfl) (f12n1_ok a1 h195) (st2:=(f12n1E a1 (.norm v196)).2) rfl ?_;obtain ⟨x199,h200,h⟩:=Qf h;obtain rfl:=Qg h;exact rE Qh [([],[(1,.call (.tup []) [none,jR 3 Qa.cells x199])],[]),j3] [] [] [1] [2,3] (.ret,(f12n0E a1 (.ret 0 x199)).2) (ap (Qp.rn 2 [1] (so37_38_ok v196 h200)) an) rfl
 ·obtain rfl:=Qg h;exact rK Qh 2 [j3,([],[jH 1 (jI x5)],[]),j3,j3] [some true] [.mat 2 3] [1] [2,3] .ret ((f12n0E a1 (.ret x5 [])).2) (ap (f31_ok a1 h6) (ap (Qau h7) an)) rfl
noncomputable def f12(a1:Qe):Option ((List Qa)×Int):=(f12n0 a1).bind fun o=>match o with
 | .ret v201 v202=>some (v202,v201)
theorem f12_ok(a1:Qe){r:(List Qa)×Int}(h:f12 a1=some r):Qp Try.prog false 12 [(jA Qe.cells a1)] [] (.tup [(jL 3 Qa.cells r.1),(jI r.2)]) []:=by
 unfold f12 at h;obtain ⟨o,ho,h⟩:=Qf h;cases o with
 | ret v201 v202 =>
  obtain rfl:=Qg h;exact Qp.plain Qh (f:=Try.f12) (c:=c12) (by kernel_rfl) (by kernel_rfl) (by kernel_rfl) (by kernel_rfl) ((f12n0_ok a1 ho).mono fun r e=>by subst e; exact ⟨.inl rfl,(.tup [(.own 0),(jI v201)]),(.tup [(jL 3 Qa.cells v202),(jI v201)]),by kernel_rfl,by kernel_rfl,((Wk.refl _):Wk (.tup [(jL 3 Qa.cells v202),(jI v201)]) (.tup [(jL 3 Qa.cells v202),(jI v201)]))⟩)
end Go.Proofs.Ythpceddjepbamaa
namespace Go.Proofs.Ythpceddjepbamaa
set_option linter.unusedVariables false
set_option linter.unusedSimpArgs false
set_option maxRecDepth 100000
open Go.RowKit
noncomputable def c42:Code:=Try.f42.body.getD .skip
inductive f42r1n0O where
 | ret
def f42r1n0E(a1:Qc)(a2:ByteArray):f42r1n0O→Ex×Tr×Hp
 | .ret=>(.ret,mkS [(3,(.pl (.bool (seq a1.Member a2))))],[some (.box ((cStr a2).map .pl))])
def f42r1n0S(a1:Qc)(a2:ByteArray):Tr×Hp:=(Qan [(jA Qc.cells a1),(.bp 0 0)] 0 .leaf,[some (.box ((cStr a2).map .pl))])
noncomputable def f42r1n0(a1:Qc)(a2:ByteArray):Option f42r1n0O :=
 some .ret
theorem f42r1n0_ok(a1:Qc)(a2:ByteArray){o:f42r1n0O}(h:f42r1n0 a1 a2=some o):T Try.prog Try.f42.ntmps 1 c42 (f42r1n0S a1 a2) (·=f42r1n0E a1 a2 o):=by
 unfold f42r1n0 at h;obtain rfl:=Qg h;exact rE Qh [j3,j3] [] [] [] [3] (.ret,(f42r1n0E a1 a2 .ret).2) an rfl
noncomputable def f42r1(a1:Qc)(a2:ByteArray):Option Unit:=(f42r1n0 a1 a2).bind fun o=>match o with
 | .ret=>some ()
theorem f42r1_ok(a1:Qc)(a2:ByteArray){r:Unit}(h:f42r1 a1 a2=some r):Qp Try.prog true 42 [(jA Qc.cells a1),(.bp 0 0)] [some (.box ((cStr a2).map .pl))] (.pl (.bool (seq a1.Member a2))) [some (.box ((cStr a2).map .pl))]:=by
 unfold f42r1 at h;obtain ⟨o,ho,h⟩:=Qf h;cases o with
 | ret =>
  obtain rfl:=Qg h;exact Qp.shared Qh (f:=Try.f42) (c:=c42) (by kernel_rfl) (by kernel_rfl) (by kernel_rfl) ((f42r1n0_ok a1 a2 ho).mono fun r e=>by subst e; exact ⟨.inl rfl,by kernel_rfl,by kernel_rfl⟩)

noncomputable def c40:Code:=Try.f40.body.getD .skip
inductive f40r1n2O where
 | exit0 (v59:Int)
def f40r1n2E(bh1:(List Qa)×Int)(bb2:ByteArray)(ba3:Qe):f40r1n2O→Ex×Tr×Hp
 | .exit0 v59=>((.exit 0),mkS [(7,(jI bh1.2)),(8,(jI v59))],[some (.box ((cStr bb2).map .pl))])
def f40r1n2S(bh1:(List Qa)×Int)(bb2:ByteArray)(ba3:Qe)(v41 v42:Int):Tr×Hp:=(mkS [(1,(.clo 42 [(.bp 0 0)])),(2,(.bp 1 0)),(7,(jI bh1.2)),(8,(jI v41)),(16,(jL 3 Qa.cells bh1.1)),(17,(jI (bh1.1.length:Int))),(18,(jI v42))],[some (.box ((cStr bb2).map .pl)),some (.box ((Qe.cells ba3).map .pl))])
noncomputable def f40r1n2:Nat→(List Qa)×Int→ByteArray→Qe→Int→Int→Option f40r1n2O
 | 0,_,_,_,_,_=>none
 | f+1,bh1,bb2,ba3,v41,v42 =>
  bif decide (v42<(bh1.1.length:Int)) then
   (at? bh1.1 v42).bind fun x52 =>
   (at? ba3.Bids x52.Bid).bind fun x54 =>
   (f42r1 x54 bb2).bind fun x56 =>
   bif (seq x54.Member bb2) then
    (f40r1n2 f bh1 bb2 ba3 (wr64 (v41+(wr64 (x52.Units*x52.Price)))) (wr64 (v42+1)))
   else
    (f40r1n2 f bh1 bb2 ba3 v41 (wr64 (v42+1)))
  else
   some (.exit0 v41)
theorem f40r1n2_ok:∀(f:Nat)(bh1:(List Qa)×Int)(bb2:ByteArray)(ba3:Qe)(v41 v42:Int){o:f40r1n2O},f40r1n2 f bh1 bb2 ba3 v41 v42=some o→TL Try.prog Try.f40.ntmps 1 f (cL (cL (Qk 1 (cL (Qk 3 c40))))) (f40r1n2S bh1 bb2 ba3 v41 v42) (·=f40r1n2E bh1 bb2 ba3 o)
 | 0,_,_,_,_,_,o,h=>by rw [f40r1n2] at h; cases h
 | f+1,bh1,bb2,ba3,v41,v42,o,h=>by
  rw [f40r1n2] at h;refine TL.body (K:=fun s=>∃v41:Int,∃v42:Int,s=(f40r1n2S bh1 bb2 ba3 v41 v42)∧f40r1n2 f bh1 bb2 ba3 v41 v42=some o) ?_ (by rintro _ ⟨v41,v42,rfl,hk⟩; exact f40r1n2_ok f _ _ _ _ _ hk);rcases Qj h with ⟨h44,h⟩|⟨h44,h⟩
  ·obtain ⟨x52,h53,h⟩:=Qf h;obtain ⟨x54,h55,h⟩:=Qf h;obtain ⟨x56,h57,h⟩:=Qf h;rcases Qj h with ⟨h58,h⟩|⟨h58,h⟩
   ·exact rE Qh [j3,([],[(0,.idx (Int.toNat v42) (Qa.cells x52))],[]),([],[(5,.idx (Int.toNat x52.Bid) (Qc.cells x54)),(7,.call (.pl (.bool (seq x54.Member bb2))) [some (.box ((cStr bb2).map .pl)),none,none])],[]),j3,j3] [some true,some true] [] [1] [1,2,7,8,16,17,18] (.norm,(f40r1n2S bh1 bb2 ba3 (wr64 (v41+(wr64 (x52.Units*x52.Price)))) (wr64 (v42+1)))) (ap h44 (ap (Qi h53).1 (ap (Qn Qa.cells (Qi h53).2) (ap (Qi h55).1 (ap (Qn Qc.cells (Qi h55).2) (ap (Qp.rn 3 [0] (f42r1_ok x54 bb2 h57)) (ap h58 an))))))) (Qt.norm ⟨(wr64 (v41+(wr64 (x52.Units*x52.Price)))),(wr64 (v42+1)),rfl,h⟩)
   ·exact rE Qh [j3,([],[(0,.idx (Int.toNat v42) (Qa.cells x52))],[]),([],[(5,.idx (Int.toNat x52.Bid) (Qc.cells x54)),(7,.call (.pl (.bool (seq x54.Member bb2))) [some (.box ((cStr bb2).map .pl)),none,none])],[]),j3] [some true,some false] [] [1] [1,2,7,8,16,17,18] (.norm,(f40r1n2S bh1 bb2 ba3 v41 (wr64 (v42+1)))) (ap h44 (ap (Qi h53).1 (ap (Qn Qa.cells (Qi h53).2) (ap (Qi h55).1 (ap (Qn Qc.cells (Qi h55).2) (ap (Qp.rn 3 [0] (f42r1_ok x54 bb2 h57)) (ap h58 an))))))) (Qt.norm ⟨v41,(wr64 (v42+1)),rfl,h⟩)
  ·obtain rfl:=Qg h;exact rK Qh 2 [j3] [some false] [] [] [7,8] (.exit 0) ((f40r1n2E bh1 bb2 ba3 (.exit0 v41)).2) (ap h44 an) (Qt.out rfl rfl)
noncomputable def f40r1n2L(bh1:(List Qa)×Int)(bb2:ByteArray)(ba3:Qe):List Qa→Int→Int→Option f40r1n2O
 | [],v41,v42 =>
  some (.exit0 v41)
 | x0::rest,v41,v42 =>
  (at? ba3.Bids x0.Bid).bind fun x54 =>
  (f42r1 x54 bb2).bind fun x56 =>
  bif (seq x54.Member bb2) then
   (f40r1n2L bh1 bb2 ba3 rest (wr64 (v41+(wr64 (x0.Units*x0.Price)))) (v42+1))
  else
   (f40r1n2L bh1 bb2 ba3 rest v41 (v42+1))
theorem f40r1n2L_eq(bh1:(List Qa)×Int)(bb2:ByteArray)(ba3:Qe):∀(rest:List Qa)(f k:Nat)(v41:Int),bh1.1.drop k=rest→bh1.1.length≤maxLen→rest.length<f→f40r1n2 f bh1 bb2 ba3 v41 (k:Int)=f40r1n2L bh1 bb2 ba3 rest v41 (k:Int)
 | _,0,_,_,_,_,hf=>absurd hf (Nat.not_lt_zero _)
 | [],f+1,k,v41,hd,hm,hf=>by
  have hk:¬((k:Int)<(bh1.1.length:Int)):=by have:=Qbb hd; omega
  rw [f40r1n2,f40r1n2L];simp only [decide_eq_false hk,cond_false]
 | x0::rest,f+1,k,v41,hd,hm,hf=>by
  obtain ⟨hx,hlt,hd'⟩:=drop_cons hd;have hk:(k:Int)<(bh1.1.length:Int):=by omega
  have hw:wr64 ((k:Int)+1)=(k:Int)+1:=wr64_of (by omega) (by unfold maxLen at hm; omega);have ih:∀(v41:Int),f40r1n2 f bh1 bb2 ba3 v41 ((k:Int)+1)=f40r1n2L bh1 bb2 ba3 rest v41 ((k:Int)+1):=fun v41=>f40r1n2L_eq bh1 bb2 ba3 rest f (k+1) v41 hd' hm (by simpa using hf);rw [f40r1n2,f40r1n2L];simp only [decide_eq_true hk,cond_true,at_nat,hx,Option.bind_some,hw,ih]
theorem f40r1n2_run(bh1:(List Qa)×Int)(bb2:ByteArray)(ba3:Qe)(v41:Int)(hm:bh1.1.length≤maxLen):f40r1n2 FUEL bh1 bb2 ba3 v41 0=f40r1n2L bh1 bb2 ba3 bh1.1 v41 0:=f40r1n2L_eq bh1 bb2 ba3 bh1.1 FUEL 0 v41 List.drop_zero hm (Qba hm)
inductive f40r1n1O where
 | norm (v63:Int)
def f40r1n1E(bh1:(List Qa)×Int)(bb2:ByteArray)(ba3:Qe):f40r1n1O→Ex×Tr×Hp
 | .norm v63=>(.norm,mkS [(7,(jI bh1.2)),(8,(jI v63))],[some (.box ((cStr bb2).map .pl))])
def f40r1n1S(bh1:(List Qa)×Int)(bb2:ByteArray)(ba3:Qe):Tr×Hp:=(mkS [(1,(.clo 42 [(.bp 0 0)])),(2,(.bp 1 0)),(6,(jL 3 Qa.cells bh1.1)),(7,(jI bh1.2)),(8,(jI 0))],[some (.box ((cStr bb2).map .pl)),some (.box ((Qe.cells ba3).map .pl))])
noncomputable def f40r1n1(bh1:(List Qa)×Int)(bb2:ByteArray)(ba3:Qe):Option f40r1n1O :=
 (f40r1n2 FUEL bh1 bb2 ba3 0 0).bind fun o60=>match o60 with
 | .exit0 v62=>some (.norm v62)
theorem f40r1n1_ok(bh1:(List Qa)×Int)(bb2:ByteArray)(ba3:Qe){o:f40r1n1O}(h:f40r1n1 bh1 bb2 ba3=some o):T Try.prog Try.f40.ntmps 1 (cL (Qk 3 c40)) (f40r1n1S bh1 bb2 ba3) (·=f40r1n1E bh1 bb2 ba3 o):=by
 unfold f40r1n1 at h;refine rN Qh 1 [([],[],[(1,.val (jI (bh1.1.length:Int)))])] [] [] [1] [1,2,7,8,16,17,18] (f40r1n2S bh1 bb2 ba3 0 0) (ap (Qac (xs:=bh1.1) (c:=Qa.cells)) an) ?_;obtain ⟨o60,h61,h⟩:=Qf h;cases o60 with
 | exit0 v62 =>
  obtain rfl:=Qg h;exact T.last' (T.bl (i:=0) (by kernel_rfl) (by kernel_rfl) (f40r1n2_ok FUEL bh1 bb2 ba3 0 0 h61)) (tds:=[]) (m:=[]) (keep:=[7,8]) (st2:=(f40r1n1E bh1 bb2 ba3 (.norm v62)).2) (by kernel_rfl) an rfl
inductive f40r1n0O where
 | ret (v67:Int) (v68:Int)
def f40r1n0E(a1:Qe)(a2:ByteArray):f40r1n0O→Ex×Tr×Hp
 | .ret v67 v68=>(.ret,mkS [(4,(jI v67)),(5,(jI v68))],[some (.box ((cStr a2).map .pl))])
def f40r1n0S(a1:Qe)(a2:ByteArray):Tr×Hp:=(Qan [(jA Qe.cells a1),(.clo 42 [(.bp 0 0)])] 0 .leaf,[some (.box ((cStr a2).map .pl))])
noncomputable def f40r1n0(a1:Qe)(a2:ByteArray):Option f40r1n0O :=
 (f12 a1).bind fun x5 =>
 (f40r1n1 x5 a2 a1).bind fun o64=>match o64 with
 | .norm v66=>some (.ret v66 x5.2)
theorem f40r1n0_ok(a1:Qe)(a2:ByteArray){o:f40r1n0O}(h:f40r1n0 a1 a2=some o):T Try.prog Try.f40.ntmps 1 c40 (f40r1n0S a1 a2) (·=f40r1n0E a1 a2 o):=by
 unfold f40r1n0 at h;obtain ⟨x5,h6,h⟩:=Qf h;refine rN Qh 3 [j3,([],[jH 1 (.tup [(jL 3 Qa.cells x5.1),(jI x5.2)])],[]),j3] [] [] [1] [1,2,6,7,8] (f40r1n1S x5 a2 a1) (ap (f12_ok a1 h6) an) ?_;obtain ⟨o64,h65,h⟩:=Qf h;cases o64 with
 | norm v66 =>
  refine T.oneN (by kernel_rfl) (f40r1n1_ok x5 a2 a1 h65) (st2:=(f40r1n1E x5 a2 a1 (.norm v66)).2) rfl ?_;obtain rfl:=Qg h;exact rE Qh [j3] [] [] [] [4,5] (.ret,(f40r1n0E a1 a2 (.ret v66 x5.2)).2) an rfl
noncomputable def f40r1(a1:Qe)(a2:ByteArray):Option (Int×Int):=(f40r1n0 a1 a2).bind fun o=>match o with
 | .ret v67 v68=>some (v67,v68)
theorem f40r1_ok(a1:Qe)(a2:ByteArray){r:Int×Int}(h:f40r1 a1 a2=some r):Qp Try.prog true 40 [(jA Qe.cells a1),(.clo 42 [(.bp 0 0)])] [some (.box ((cStr a2).map .pl))] (.tup [(jI r.1),(jI r.2)]) [some (.box ((cStr a2).map .pl))]:=by
 unfold f40r1 at h;obtain ⟨o,ho,h⟩:=Qf h;cases o with
 | ret v67 v68 =>
  obtain rfl:=Qg h;exact Qp.shared Qh (f:=Try.f40) (c:=c40) (by kernel_rfl) (by kernel_rfl) (by kernel_rfl) ((f40r1n0_ok a1 a2 ho).mono fun r e=>by subst e; exact ⟨.inl rfl,by kernel_rfl,by kernel_rfl⟩)

noncomputable def c16:Code:=Try.f16.body.getD .skip
inductive f16n0O where
 | ret (v7:Int) (v8:Int)
def f16n0E(a1:Qe)(a2:ByteArray):f16n0O→Ex×Tr×Hp
 | .ret v7 v8=>(.ret,mkS [(4,(jI v7)),(5,(jI v8))],[])
def f16n0S(a1:Qe)(a2:ByteArray):Tr×Hp:=(Qan [(jA Qe.cells a1),(jS a2)] 0 .leaf,[])
noncomputable def f16n0(a1:Qe)(a2:ByteArray):Option f16n0O :=
 (f40r1 a1 a2).bind fun x5 =>
 some (.ret x5.1 x5.2)
theorem f16n0_ok(a1:Qe)(a2:ByteArray){o:f16n0O}(h:f16n0 a1 a2=some o):T Try.prog Try.f16.ntmps 0 c16 (f16n0S a1 a2) (·=f16n0E a1 a2 o):=by
 unfold f16n0 at h;obtain ⟨x5,h6,h⟩:=Qf h;obtain rfl:=Qg h;exact rE Qh [j3,([],[(2,.call (.tup [(jI x5.1),(jI x5.2)]) [none,some (.box ((cStr a2).map .pl))])],[])] [] [] [] [4,5] (.ret,(f16n0E a1 a2 (.ret x5.1 x5.2)).2) (ap (Qp.rn 2 [1] (f40r1_ok a1 a2 h6)) an) rfl
noncomputable def f16(a1:Qe)(a2:ByteArray):Option (Int×Int):=(f16n0 a1 a2).bind fun o=>match o with
 | .ret v7 v8=>some (v7,v8)
theorem f16_ok(a1:Qe)(a2:ByteArray){r:Int×Int}(h:f16 a1 a2=some r):Qp Try.prog false 16 [(jA Qe.cells a1),(jS a2)] [] (.tup [(jI r.1),(jI r.2)]) []:=by
 unfold f16 at h;obtain ⟨o,ho,h⟩:=Qf h;cases o with
 | ret v7 v8 =>
  obtain rfl:=Qg h;exact Qp.plain Qh (f:=Try.f16) (c:=c16) (by kernel_rfl) (by kernel_rfl) (by kernel_rfl) (by kernel_rfl) ((f16n0_ok a1 a2 ho).mono fun r e=>by subst e; exact ⟨.inl rfl,(.tup [(jI v7),(jI v8)]),(.tup [(jI v7),(jI v8)]),by kernel_rfl,by kernel_rfl,((Wk.refl _):Wk (.tup [(jI v7),(jI v8)]) (.tup [(jI v7),(jI v8)]))⟩)

noncomputable def c34:Code:=Try.f34.body.getD .skip
inductive f34n0O where
 | ret (v9:Int)
def f34n0E(a1:Qe)(a2:ByteArray):f34n0O→Ex×Tr×Hp
 | .ret v9=>(.ret,mkS [(4,(jI v9))],[])
def f34n0S(a1:Qe)(a2:ByteArray):Tr×Hp:=(Qan [(jA Qe.cells a1),(jS a2)] 0 .leaf,[])
noncomputable def f34n0(a1:Qe)(a2:ByteArray):Option f34n0O :=
 (f16 a1 a2).bind fun x5 =>
 bif decide (x5.2=0) then
  some (.ret x5.1)
 else
  some (.ret (-1))
theorem f34n0_ok(a1:Qe)(a2:ByteArray){o:f34n0O}(h:f34n0 a1 a2=some o):T Try.prog Try.f34.ntmps 0 c34 (f34n0S a1 a2) (·=f34n0E a1 a2 o):=by
 unfold f34n0 at h;obtain ⟨x5,h6,h⟩:=Qf h;rcases Qj h with ⟨h8,h⟩|⟨h8,h⟩
 ·obtain rfl:=Qg h;exact rE Qh [j3,([],[jH 2 (.tup [(jI x5.1),(jI x5.2)])],[]),j3,j3] [some false] [] [] [4] (.ret,(f34n0E a1 a2 (.ret x5.1)).2) (ap (f16_ok a1 a2 h6) (ap (Qal h8) an)) rfl
 ·obtain rfl:=Qg h;exact rK Qh 3 [j3,([],[jH 2 (.tup [(jI x5.1),(jI x5.2)])],[]),j3,j3] [some true] [] [] [4] .ret ((f34n0E a1 a2 (.ret (-1))).2) (ap (f16_ok a1 a2 h6) (ap (Qau h8) an)) rfl
noncomputable def f34(a1:Qe)(a2:ByteArray):Option Int:=(f34n0 a1 a2).bind fun o=>match o with
 | .ret v9=>some v9
theorem Qbm(a1:Qe)(a2:ByteArray){r:Int}(h:f34 a1 a2=some r):Qp Try.prog false 34 [(jA Qe.cells a1),(jS a2)] [] (jI r) []:=by
 unfold f34 at h;obtain ⟨o,ho,h⟩:=Qf h;cases o with
 | ret v9 =>
  obtain rfl:=Qg h;exact Qp.plain Qh (f:=Try.f34) (c:=c34) (by kernel_rfl) (by kernel_rfl) (by kernel_rfl) (by kernel_rfl) ((f34n0_ok a1 a2 ho).mono fun r e=>by subst e; exact ⟨.inl rfl,(jI v9),(jI v9),by kernel_rfl,by kernel_rfl,((Wk.refl _):Wk (jI v9) (jI v9))⟩)

inductive f33r2n0O where
 | ret
def f33r2n0E(a1 a2:Int):f33r2n0O→Ex×Tr×Hp
 | .ret=>(.ret,mkS [(6,(.bp 0 0))],[some (.box [(.pl (.int .u8 a1)),(.own 1),(.own 2)]),some (.row false 3 ([(Qb.mk Ql 10 5)].map Qb.cells)),some (.row false 4 ([(Qc.mk Qx Ql 6 9),(Qc.mk Qaa Ql a2 7),(Qc.mk Qaf Ql 9 4)].map Qc.cells))])
def f33r2n0S(a1 a2:Int):Tr×Hp:=(Qan [(.pl (.int .u8 a1)),(jI a2),(jB false)] 0 .leaf,[])
noncomputable def f33r2n0(a1 a2:Int):Option f33r2n0O :=
 some .ret
theorem f33r2n0_ok(a1 a2:Int){o:f33r2n0O}(h:f33r2n0 a1 a2=some o):T Try.prog Try.f33.ntmps 0 c33 (f33r2n0S a1 a2) (·=f33r2n0E a1 a2 o):=by
 unfold f33r2n0 at h;obtain rfl:=Qg h;exact rE Qh [j3,j3,j3,j3] [none] [] [0,1,2] [6] (.ret,(f33r2n0E a1 a2 .ret).2) an rfl
noncomputable def f33r2(a1 a2:Int):Option Unit:=(f33r2n0 a1 a2).bind fun o=>match o with
 | .ret=>some ()
theorem f33r2_ok(a1 a2:Int){r:Unit}(h:f33r2 a1 a2=some r):Qp Try.prog true 33 [(.pl (.int .u8 a1)),(jI a2),(jB false)] [] (.agg [(.pl (.int .u8 a1)),(.own 1),(.own 2)]) [some (.box [(.pl (.int .u8 a1)),(.own 1),(.own 2)]),some (.row false 3 ([(Qb.mk Ql 10 5)].map Qb.cells)),some (.row false 4 ([(Qc.mk Qx Ql 6 9),(Qc.mk Qaa Ql a2 7),(Qc.mk Qaf Ql 9 4)].map Qc.cells))]:=by
 unfold f33r2 at h;obtain ⟨o,ho,h⟩:=Qf h;cases o with
 | ret =>
  obtain rfl:=Qg h;exact Qp.shared Qh (f:=Try.f33) (c:=c33) (by kernel_rfl) (by kernel_rfl) (by kernel_rfl) ((f33r2n0_ok a1 a2 ho).mono fun r e=>by subst e; exact ⟨.inl rfl,by kernel_rfl,by kernel_rfl⟩)

noncomputable def c10:Code:=Try.f10.body.getD .skip
inductive f10n1O where
 | norm (v43:Bool)
def f10n1E:f10n1O→Ex×Tr×Hp
 | .norm v43=>(.norm,mkS [(1,(jB v43))],[])
def f10n1S:Tr×Hp:=(mkS [],[])
noncomputable def f10n1:Option f10n1O :=
 (f33r1 0 6).bind fun x29 =>
 (f34 (Qe.mk 0 [(Qb.mk Ql 10 5)] [(Qc.mk Qx Ql 6 9),(Qc.mk Qaa Ql 6 7),(Qc.mk Qaf Ql 9 4),(Qc.mk Qaj Ql 3 7)]) Qx).bind fun x31 =>
 bif decide (x31=54) then
  (f33r1 0 6).bind fun x34 =>
  (f34 (Qe.mk 0 [(Qb.mk Ql 10 5)] [(Qc.mk Qx Ql 6 9),(Qc.mk Qaa Ql 6 7),(Qc.mk Qaf Ql 9 4),(Qc.mk Qaj Ql 3 7)]) Qaa).bind fun x36 =>
  bif decide (x36=28) then
   (f33r1 0 6).bind fun x39 =>
   (f34 (Qe.mk 0 [(Qb.mk Ql 10 5)] [(Qc.mk Qx Ql 6 9),(Qc.mk Qaa Ql 6 7),(Qc.mk Qaf Ql 9 4),(Qc.mk Qaj Ql 3 7)]) Qaj).bind fun x41 =>
   some (.norm (decide (x41=0)))
  else
   some (.norm false)
 else
  some (.norm false)
theorem f10n1_ok{o:f10n1O}(h:f10n1=some o):T Try.prog Try.f10.ntmps 0 (cL (Qk 1 c10)) f10n1S (·=f10n1E o):=by
 unfold f10n1 at h;obtain ⟨x29,h30,h⟩:=Qf h;obtain ⟨x31,h32,h⟩:=Qf h;rcases Qj h with ⟨h33,h⟩|⟨h33,h⟩
 ·obtain ⟨x34,h35,h⟩:=Qf h;obtain ⟨x36,h37,h⟩:=Qf h;rcases Qj h with ⟨h38,h⟩|⟨h38,h⟩
  ·obtain ⟨x39,h40,h⟩:=Qf h;obtain ⟨x41,h42,h⟩:=Qf h;obtain rfl:=Qg h
   exact rE Qh [(jT [4,5,6,9,10,11],[(0,.call (.agg [(.pl (.int .u8 0)),(.own 1),(.own 2)]) [some (.box [(.pl (.int .u8 0)),(.own 1),(.own 2)]),some (.row false 3 ([(Qb.mk Ql 10 5)].map Qb.cells)),some (.row false 4 ([(Qc.mk Qx Ql 6 9),(Qc.mk Qaa Ql 6 7),(Qc.mk Qaf Ql 9 4),(Qc.mk Qaj Ql 3 7)].map Qc.cells))]),jH 1 (jI x31),(4,.call (.agg [(.pl (.int .u8 0)),(.own 4),(.own 5)]) (jN 3 [some (.box [(.pl (.int .u8 0)),(.own 4),(.own 5)]),some (.row false 3 ([(Qb.mk Ql 10 5)].map Qb.cells)),some (.row false 4 ([(Qc.mk Qx Ql 6 9),(Qc.mk Qaa Ql 6 7),(Qc.mk Qaf Ql 9 4),(Qc.mk Qaj Ql 3 7)].map Qc.cells))])),jH 5 (jI x36),(7,.bool true),(9,.call (.agg [(.pl (.int .u8 0)),(.own 7),(.own 8)]) (jN 6 [some (.box [(.pl (.int .u8 0)),(.own 7),(.own 8)]),some (.row false 3 ([(Qb.mk Ql 10 5)].map Qb.cells)),some (.row false 4 ([(Qc.mk Qx Ql 6 9),(Qc.mk Qaa Ql 6 7),(Qc.mk Qaf Ql 9 4),(Qc.mk Qaj Ql 3 7)].map Qc.cells))])),jH 10 (jI x41),(12,.bool true)],[])] [] [] [] [1] (.norm,(f10n1E (.norm (decide (x41=0)))).2) (ap4 h33 (ap4 h38 (ap (Qak 0 6 h30) (ap (Qbm (Qe.mk 0 [(Qb.mk Ql 10 5)] [(Qc.mk Qx Ql 6 9),(Qc.mk Qaa Ql 6 7),(Qc.mk Qaf Ql 9 4),(Qc.mk Qaj Ql 3 7)]) Qx h32) (ap (Qp.rn 3 [] (Qak 0 6 h35)) (ap (Qbm (Qe.mk 0 [(Qb.mk Ql 10 5)] [(Qc.mk Qx Ql 6 9),(Qc.mk Qaa Ql 6 7),(Qc.mk Qaf Ql 9 4),(Qc.mk Qaj Ql 3 7)]) Qaa h37) (ap (Qp.rn 6 [] (Qak 0 6 h40)) (ap (Qbm (Qe.mk 0 [(Qb.mk Ql 10 5)] [(Qc.mk Qx Ql 6 9),(Qc.mk Qaa Ql 6 7),(Qc.mk Qaf Ql 9 4),(Qc.mk Qaj Ql 3 7)]) Qaj h42) an)))))))) rfl
  ·obtain rfl:=Qg h
   exact rE Qh [(jF [9,10,11]++jT [4,5,6],[(0,.call (.agg [(.pl (.int .u8 0)),(.own 1),(.own 2)]) [some (.box [(.pl (.int .u8 0)),(.own 1),(.own 2)]),some (.row false 3 ([(Qb.mk Ql 10 5)].map Qb.cells)),some (.row false 4 ([(Qc.mk Qx Ql 6 9),(Qc.mk Qaa Ql 6 7),(Qc.mk Qaf Ql 9 4),(Qc.mk Qaj Ql 3 7)].map Qc.cells))]),jH 1 (jI x31),(4,.call (.agg [(.pl (.int .u8 0)),(.own 4),(.own 5)]) (jN 3 [some (.box [(.pl (.int .u8 0)),(.own 4),(.own 5)]),some (.row false 3 ([(Qb.mk Ql 10 5)].map Qb.cells)),some (.row false 4 ([(Qc.mk Qx Ql 6 9),(Qc.mk Qaa Ql 6 7),(Qc.mk Qaf Ql 9 4),(Qc.mk Qaj Ql 3 7)].map Qc.cells))])),jH 5 (jI x36),(7,.bool true),(12,.bool false)],[])] [] [] [] [1] (.norm,(f10n1E (.norm false)).2) (ap4 h33 (ap4 h38 (ap (Qak 0 6 h30) (ap (Qbm (Qe.mk 0 [(Qb.mk Ql 10 5)] [(Qc.mk Qx Ql 6 9),(Qc.mk Qaa Ql 6 7),(Qc.mk Qaf Ql 9 4),(Qc.mk Qaj Ql 3 7)]) Qx h32) (ap (Qp.rn 3 [] (Qak 0 6 h35)) (ap (Qbm (Qe.mk 0 [(Qb.mk Ql 10 5)] [(Qc.mk Qx Ql 6 9),(Qc.mk Qaa Ql 6 7),(Qc.mk Qaf Ql 9 4),(Qc.mk Qaj Ql 3 7)]) Qaa h37) an)))))) rfl
 ·obtain rfl:=Qg h;exact rE Qh [(jF [4,5,6],[(0,.call (.agg [(.pl (.int .u8 0)),(.own 1),(.own 2)]) [some (.box [(.pl (.int .u8 0)),(.own 1),(.own 2)]),some (.row false 3 ([(Qb.mk Ql 10 5)].map Qb.cells)),some (.row false 4 ([(Qc.mk Qx Ql 6 9),(Qc.mk Qaa Ql 6 7),(Qc.mk Qaf Ql 9 4),(Qc.mk Qaj Ql 3 7)].map Qc.cells))]),jH 1 (jI x31),(7,.bool false)],[])] [] [] [] [1] (.norm,(f10n1E (.norm false)).2) (ap4 h33 (ap (Qak 0 6 h30) (ap (Qbm (Qe.mk 0 [(Qb.mk Ql 10 5)] [(Qc.mk Qx Ql 6 9),(Qc.mk Qaa Ql 6 7),(Qc.mk Qaf Ql 9 4),(Qc.mk Qaj Ql 3 7)]) Qx h32) an))) rfl
inductive f10n2O where
 | norm (v74:Bool)
def f10n2E(bi1:Bool):f10n2O→Ex×Tr×Hp
 | .norm v74=>(.norm,mkS [(1,(jB bi1)),(2,(jB v74))],[])
def f10n2S(bi1:Bool):Tr×Hp:=(mkS [(1,(jB bi1))],[])
noncomputable def f10n2(bi1:Bool):Option f10n2O :=
 (f33r1 1 6).bind fun x65 =>
 (f34 (Qe.mk 1 [(Qb.mk Ql 10 5)] [(Qc.mk Qx Ql 6 9),(Qc.mk Qaa Ql 6 7),(Qc.mk Qaf Ql 9 4),(Qc.mk Qaj Ql 3 7)]) Qx).bind fun x67 =>
 bif decide (x67=42) then
  (f33r1 1 6).bind fun x70 =>
  (f34 (Qe.mk 1 [(Qb.mk Ql 10 5)] [(Qc.mk Qx Ql 6 9),(Qc.mk Qaa Ql 6 7),(Qc.mk Qaf Ql 9 4),(Qc.mk Qaj Ql 3 7)]) Qaa).bind fun x72 =>
  some (.norm (decide (x72=28)))
 else
  some (.norm false)
theorem f10n2_ok(bi1:Bool){o:f10n2O}(h:f10n2 bi1=some o):T Try.prog Try.f10.ntmps 0 (cL (Qk 0 (Qk 1 (Qk 1 c10)))) (f10n2S bi1) (·=f10n2E bi1 o):=by
 unfold f10n2 at h;obtain ⟨x65,h66,h⟩:=Qf h;obtain ⟨x67,h68,h⟩:=Qf h;rcases Qj h with ⟨h69,h⟩|⟨h69,h⟩
 ·obtain ⟨x70,h71,h⟩:=Qf h;obtain ⟨x72,h73,h⟩:=Qf h;obtain rfl:=Qg h
  exact rE Qh [(jT [4,5,6],[(0,.call (.agg [(.pl (.int .u8 1)),(.own 1),(.own 2)]) [some (.box [(.pl (.int .u8 1)),(.own 1),(.own 2)]),some (.row false 3 ([(Qb.mk Ql 10 5)].map Qb.cells)),some (.row false 4 ([(Qc.mk Qx Ql 6 9),(Qc.mk Qaa Ql 6 7),(Qc.mk Qaf Ql 9 4),(Qc.mk Qaj Ql 3 7)].map Qc.cells))]),jH 1 (jI x67),(4,.call (.agg [(.pl (.int .u8 1)),(.own 4),(.own 5)]) (jN 3 [some (.box [(.pl (.int .u8 1)),(.own 4),(.own 5)]),some (.row false 3 ([(Qb.mk Ql 10 5)].map Qb.cells)),some (.row false 4 ([(Qc.mk Qx Ql 6 9),(Qc.mk Qaa Ql 6 7),(Qc.mk Qaf Ql 9 4),(Qc.mk Qaj Ql 3 7)].map Qc.cells))])),jH 5 (jI x72),(7,.bool true)],[])] [] [] [] [1,2] (.norm,(f10n2E bi1 (.norm (decide (x72=28)))).2) (ap4 h69 (ap (Qak 1 6 h66) (ap (Qbm (Qe.mk 1 [(Qb.mk Ql 10 5)] [(Qc.mk Qx Ql 6 9),(Qc.mk Qaa Ql 6 7),(Qc.mk Qaf Ql 9 4),(Qc.mk Qaj Ql 3 7)]) Qx h68) (ap (Qp.rn 3 [] (Qak 1 6 h71)) (ap (Qbm (Qe.mk 1 [(Qb.mk Ql 10 5)] [(Qc.mk Qx Ql 6 9),(Qc.mk Qaa Ql 6 7),(Qc.mk Qaf Ql 9 4),(Qc.mk Qaj Ql 3 7)]) Qaa h73) an))))) rfl
 ·obtain rfl:=Qg h;exact rE Qh [(jF [4,5,6],[(0,.call (.agg [(.pl (.int .u8 1)),(.own 1),(.own 2)]) [some (.box [(.pl (.int .u8 1)),(.own 1),(.own 2)]),some (.row false 3 ([(Qb.mk Ql 10 5)].map Qb.cells)),some (.row false 4 ([(Qc.mk Qx Ql 6 9),(Qc.mk Qaa Ql 6 7),(Qc.mk Qaf Ql 9 4),(Qc.mk Qaj Ql 3 7)].map Qc.cells))]),jH 1 (jI x67),(7,.bool false)],[])] [] [] [] [1,2] (.norm,(f10n2E bi1 (.norm false)).2) (ap4 h69 (ap (Qak 1 6 h66) (ap (Qbm (Qe.mk 1 [(Qb.mk Ql 10 5)] [(Qc.mk Qx Ql 6 9),(Qc.mk Qaa Ql 6 7),(Qc.mk Qaf Ql 9 4),(Qc.mk Qaj Ql 3 7)]) Qx h68) an))) rfl
inductive f10n3O where
 | norm (v150:Bool)
def f10n3E(bi1 bi2:Bool):f10n3O→Ex×Tr×Hp
 | .norm v150=>(.norm,mkS [(1,(jB bi1)),(2,(jB bi2)),(3,(jB v150))],[])
def f10n3S(bi1 bi2:Bool):Tr×Hp:=(mkS [(1,(jB bi1)),(2,(jB bi2))],[])
noncomputable def f10n3(bi1 bi2:Bool):Option f10n3O :=
 (f33r1 2 6).bind fun x126 =>
 (f34 (Qe.mk 2 [(Qb.mk Ql 10 5)] [(Qc.mk Qx Ql 6 9),(Qc.mk Qaa Ql 6 7),(Qc.mk Qaf Ql 9 4),(Qc.mk Qaj Ql 3 7)]) Qx).bind fun x128 =>
 bif decide (x128=42) then
  (f33r1 2 6).bind fun x131 =>
  (f34 (Qe.mk 2 [(Qb.mk Ql 10 5)] [(Qc.mk Qx Ql 6 9),(Qc.mk Qaa Ql 6 7),(Qc.mk Qaf Ql 9 4),(Qc.mk Qaj Ql 3 7)]) Qaa).bind fun x133 =>
  bif decide (x133=28) then
   (f33r1 2 4).bind fun x136 =>
   (f34 (Qe.mk 2 [(Qb.mk Ql 10 5)] [(Qc.mk Qx Ql 6 9),(Qc.mk Qaa Ql 4 7),(Qc.mk Qaf Ql 9 4),(Qc.mk Qaj Ql 3 7)]) Qx).bind fun x138 =>
   bif decide (x138=42) then
    (f33r2 2 4).bind fun x141 =>
    (f34 (Qe.mk 2 [(Qb.mk Ql 10 5)] [(Qc.mk Qx Ql 6 9),(Qc.mk Qaa Ql 4 7),(Qc.mk Qaf Ql 9 4)]) Qx).bind fun x143 =>
    bif decide (x143=30) then
     (f33r2 2 4).bind fun x146 =>
     (f34 (Qe.mk 2 [(Qb.mk Ql 10 5)] [(Qc.mk Qx Ql 6 9),(Qc.mk Qaa Ql 4 7),(Qc.mk Qaf Ql 9 4)]) Qaa).bind fun x148 =>
     some (.norm (decide (x148=20)))
    else
     some (.norm false)
   else
    some (.norm false)
  else
   some (.norm false)
 else
  some (.norm false)
theorem f10n3_ok(bi1 bi2:Bool){o:f10n3O}(h:f10n3 bi1 bi2=some o):T Try.prog Try.f10.ntmps 0 (cL (Qk 0 (Qk 1 (Qk 0 (Qk 1 (Qk 1 c10)))))) (f10n3S bi1 bi2) (·=f10n3E bi1 bi2 o):=by
 unfold f10n3 at h;obtain ⟨x126,h127,h⟩:=Qf h;obtain ⟨x128,h129,h⟩:=Qf h;rcases Qj h with ⟨h130,h⟩|⟨h130,h⟩
 ·obtain ⟨x131,h132,h⟩:=Qf h;obtain ⟨x133,h134,h⟩:=Qf h;rcases Qj h with ⟨h135,h⟩|⟨h135,h⟩
  ·obtain ⟨x136,h137,h⟩:=Qf h;obtain ⟨x138,h139,h⟩:=Qf h;rcases Qj h with ⟨h140,h⟩|⟨h140,h⟩
   ·obtain ⟨x141,h142,h⟩:=Qf h;obtain ⟨x143,h144,h⟩:=Qf h;rcases Qj h with ⟨h145,h⟩|⟨h145,h⟩
    ·obtain ⟨x146,h147,h⟩:=Qf h;obtain ⟨x148,h149,h⟩:=Qf h;obtain rfl:=Qg h
     exact rE Qh [(jT [4,5,6,9,10,11,14,15,16,19,20,21],[(0,.call (.agg [(.pl (.int .u8 2)),(.own 1),(.own 2)]) [some (.box [(.pl (.int .u8 2)),(.own 1),(.own 2)]),some (.row false 3 ([(Qb.mk Ql 10 5)].map Qb.cells)),some (.row false 4 ([(Qc.mk Qx Ql 6 9),(Qc.mk Qaa Ql 6 7),(Qc.mk Qaf Ql 9 4),(Qc.mk Qaj Ql 3 7)].map Qc.cells))]),jH 1 (jI x128),(4,.call (.agg [(.pl (.int .u8 2)),(.own 4),(.own 5)]) (jN 3 [some (.box [(.pl (.int .u8 2)),(.own 4),(.own 5)]),some (.row false 3 ([(Qb.mk Ql 10 5)].map Qb.cells)),some (.row false 4 ([(Qc.mk Qx Ql 6 9),(Qc.mk Qaa Ql 6 7),(Qc.mk Qaf Ql 9 4),(Qc.mk Qaj Ql 3 7)].map Qc.cells))])),jH 5 (jI x133),(7,.bool true),(9,.call (.agg [(.pl (.int .u8 2)),(.own 7),(.own 8)]) (jN 6 [some (.box [(.pl (.int .u8 2)),(.own 7),(.own 8)]),some (.row false 3 ([(Qb.mk Ql 10 5)].map Qb.cells)),some (.row false 4 ([(Qc.mk Qx Ql 6 9),(Qc.mk Qaa Ql 4 7),(Qc.mk Qaf Ql 9 4),(Qc.mk Qaj Ql 3 7)].map Qc.cells))])),jH 10 (jI x138),(12,.bool true),(14,.call (.agg [(.pl (.int .u8 2)),(.own 10),(.own 11)]) (jN 9 [some (.box [(.pl (.int .u8 2)),(.own 10),(.own 11)]),some (.row false 3 ([(Qb.mk Ql 10 5)].map Qb.cells)),some (.row false 4 ([(Qc.mk Qx Ql 6 9),(Qc.mk Qaa Ql 4 7),(Qc.mk Qaf Ql 9 4)].map Qc.cells))])),jH 15 (jI x143),(17,.bool true),(19,.call (.agg [(.pl (.int .u8 2)),(.own 13),(.own 14)]) (jN 12 [some (.box [(.pl (.int .u8 2)),(.own 13),(.own 14)]),some (.row false 3 ([(Qb.mk Ql 10 5)].map Qb.cells)),some (.row false 4 ([(Qc.mk Qx Ql 6 9),(Qc.mk Qaa Ql 4 7),(Qc.mk Qaf Ql 9 4)].map Qc.cells))])),jH 20 (jI x148),(22,.bool true)],[])] [] [] [] [1,2,3] (.norm,(f10n3E bi1 bi2 (.norm (decide (x148=20)))).2) (ap4 h130 (ap4 h135 (ap4 h140 (ap4 h145 (ap (Qak 2 6 h127) (ap (Qbm (Qe.mk 2 [(Qb.mk Ql 10 5)] [(Qc.mk Qx Ql 6 9),(Qc.mk Qaa Ql 6 7),(Qc.mk Qaf Ql 9 4),(Qc.mk Qaj Ql 3 7)]) Qx h129) (ap (Qp.rn 3 [] (Qak 2 6 h132)) (ap (Qbm (Qe.mk 2 [(Qb.mk Ql 10 5)] [(Qc.mk Qx Ql 6 9),(Qc.mk Qaa Ql 6 7),(Qc.mk Qaf Ql 9 4),(Qc.mk Qaj Ql 3 7)]) Qaa h134) (ap (Qp.rn 6 [] (Qak 2 4 h137)) (ap (Qbm (Qe.mk 2 [(Qb.mk Ql 10 5)] [(Qc.mk Qx Ql 6 9),(Qc.mk Qaa Ql 4 7),(Qc.mk Qaf Ql 9 4),(Qc.mk Qaj Ql 3 7)]) Qx h139) (ap (Qp.rn 9 [] (f33r2_ok 2 4 h142)) (ap (Qbm (Qe.mk 2 [(Qb.mk Ql 10 5)] [(Qc.mk Qx Ql 6 9),(Qc.mk Qaa Ql 4 7),(Qc.mk Qaf Ql 9 4)]) Qx h144) (ap (Qp.rn 12 [] (f33r2_ok 2 4 h147)) (ap (Qbm (Qe.mk 2 [(Qb.mk Ql 10 5)] [(Qc.mk Qx Ql 6 9),(Qc.mk Qaa Ql 4 7),(Qc.mk Qaf Ql 9 4)]) Qaa h149) an)))))))))))))) rfl
    ·obtain rfl:=Qg h
     exact rE Qh [(jF [19,20,21]++jT [4,5,6,9,10,11,14,15,16],[(0,.call (.agg [(.pl (.int .u8 2)),(.own 1),(.own 2)]) [some (.box [(.pl (.int .u8 2)),(.own 1),(.own 2)]),some (.row false 3 ([(Qb.mk Ql 10 5)].map Qb.cells)),some (.row false 4 ([(Qc.mk Qx Ql 6 9),(Qc.mk Qaa Ql 6 7),(Qc.mk Qaf Ql 9 4),(Qc.mk Qaj Ql 3 7)].map Qc.cells))]),jH 1 (jI x128),(4,.call (.agg [(.pl (.int .u8 2)),(.own 4),(.own 5)]) (jN 3 [some (.box [(.pl (.int .u8 2)),(.own 4),(.own 5)]),some (.row false 3 ([(Qb.mk Ql 10 5)].map Qb.cells)),some (.row false 4 ([(Qc.mk Qx Ql 6 9),(Qc.mk Qaa Ql 6 7),(Qc.mk Qaf Ql 9 4),(Qc.mk Qaj Ql 3 7)].map Qc.cells))])),jH 5 (jI x133),(7,.bool true),(9,.call (.agg [(.pl (.int .u8 2)),(.own 7),(.own 8)]) (jN 6 [some (.box [(.pl (.int .u8 2)),(.own 7),(.own 8)]),some (.row false 3 ([(Qb.mk Ql 10 5)].map Qb.cells)),some (.row false 4 ([(Qc.mk Qx Ql 6 9),(Qc.mk Qaa Ql 4 7),(Qc.mk Qaf Ql 9 4),(Qc.mk Qaj Ql 3 7)].map Qc.cells))])),jH 10 (jI x138),(12,.bool true),(14,.call (.agg [(.pl (.int .u8 2)),(.own 10),(.own 11)]) (jN 9 [some (.box [(.pl (.int .u8 2)),(.own 10),(.own 11)]),some (.row false 3 ([(Qb.mk Ql 10 5)].map Qb.cells)),some (.row false 4 ([(Qc.mk Qx Ql 6 9),(Qc.mk Qaa Ql 4 7),(Qc.mk Qaf Ql 9 4)].map Qc.cells))])),jH 15 (jI x143),(17,.bool true),(22,.bool false)],[])] [] [] [] [1,2,3] (.norm,(f10n3E bi1 bi2 (.norm false)).2) (ap4 h130 (ap4 h135 (ap4 h140 (ap4 h145 (ap (Qak 2 6 h127) (ap (Qbm (Qe.mk 2 [(Qb.mk Ql 10 5)] [(Qc.mk Qx Ql 6 9),(Qc.mk Qaa Ql 6 7),(Qc.mk Qaf Ql 9 4),(Qc.mk Qaj Ql 3 7)]) Qx h129) (ap (Qp.rn 3 [] (Qak 2 6 h132)) (ap (Qbm (Qe.mk 2 [(Qb.mk Ql 10 5)] [(Qc.mk Qx Ql 6 9),(Qc.mk Qaa Ql 6 7),(Qc.mk Qaf Ql 9 4),(Qc.mk Qaj Ql 3 7)]) Qaa h134) (ap (Qp.rn 6 [] (Qak 2 4 h137)) (ap (Qbm (Qe.mk 2 [(Qb.mk Ql 10 5)] [(Qc.mk Qx Ql 6 9),(Qc.mk Qaa Ql 4 7),(Qc.mk Qaf Ql 9 4),(Qc.mk Qaj Ql 3 7)]) Qx h139) (ap (Qp.rn 9 [] (f33r2_ok 2 4 h142)) (ap (Qbm (Qe.mk 2 [(Qb.mk Ql 10 5)] [(Qc.mk Qx Ql 6 9),(Qc.mk Qaa Ql 4 7),(Qc.mk Qaf Ql 9 4)]) Qx h144) an)))))))))))) rfl
   ·obtain rfl:=Qg h
    exact rE Qh [(jF [14,15,16]++jT [4,5,6,9,10,11],[(0,.call (.agg [(.pl (.int .u8 2)),(.own 1),(.own 2)]) [some (.box [(.pl (.int .u8 2)),(.own 1),(.own 2)]),some (.row false 3 ([(Qb.mk Ql 10 5)].map Qb.cells)),some (.row false 4 ([(Qc.mk Qx Ql 6 9),(Qc.mk Qaa Ql 6 7),(Qc.mk Qaf Ql 9 4),(Qc.mk Qaj Ql 3 7)].map Qc.cells))]),jH 1 (jI x128),(4,.call (.agg [(.pl (.int .u8 2)),(.own 4),(.own 5)]) (jN 3 [some (.box [(.pl (.int .u8 2)),(.own 4),(.own 5)]),some (.row false 3 ([(Qb.mk Ql 10 5)].map Qb.cells)),some (.row false 4 ([(Qc.mk Qx Ql 6 9),(Qc.mk Qaa Ql 6 7),(Qc.mk Qaf Ql 9 4),(Qc.mk Qaj Ql 3 7)].map Qc.cells))])),jH 5 (jI x133),(7,.bool true),(9,.call (.agg [(.pl (.int .u8 2)),(.own 7),(.own 8)]) (jN 6 [some (.box [(.pl (.int .u8 2)),(.own 7),(.own 8)]),some (.row false 3 ([(Qb.mk Ql 10 5)].map Qb.cells)),some (.row false 4 ([(Qc.mk Qx Ql 6 9),(Qc.mk Qaa Ql 4 7),(Qc.mk Qaf Ql 9 4),(Qc.mk Qaj Ql 3 7)].map Qc.cells))])),jH 10 (jI x138),(12,.bool true),(17,.bool false)],[])] [] [] [] [1,2,3] (.norm,(f10n3E bi1 bi2 (.norm false)).2) (ap4 h130 (ap4 h135 (ap4 h140 (ap (Qak 2 6 h127) (ap (Qbm (Qe.mk 2 [(Qb.mk Ql 10 5)] [(Qc.mk Qx Ql 6 9),(Qc.mk Qaa Ql 6 7),(Qc.mk Qaf Ql 9 4),(Qc.mk Qaj Ql 3 7)]) Qx h129) (ap (Qp.rn 3 [] (Qak 2 6 h132)) (ap (Qbm (Qe.mk 2 [(Qb.mk Ql 10 5)] [(Qc.mk Qx Ql 6 9),(Qc.mk Qaa Ql 6 7),(Qc.mk Qaf Ql 9 4),(Qc.mk Qaj Ql 3 7)]) Qaa h134) (ap (Qp.rn 6 [] (Qak 2 4 h137)) (ap (Qbm (Qe.mk 2 [(Qb.mk Ql 10 5)] [(Qc.mk Qx Ql 6 9),(Qc.mk Qaa Ql 4 7),(Qc.mk Qaf Ql 9 4),(Qc.mk Qaj Ql 3 7)]) Qx h139) an))))))))) rfl
  ·obtain rfl:=Qg h
   exact rE Qh [(jF [9,10,11]++jT [4,5,6],[(0,.call (.agg [(.pl (.int .u8 2)),(.own 1),(.own 2)]) [some (.box [(.pl (.int .u8 2)),(.own 1),(.own 2)]),some (.row false 3 ([(Qb.mk Ql 10 5)].map Qb.cells)),some (.row false 4 ([(Qc.mk Qx Ql 6 9),(Qc.mk Qaa Ql 6 7),(Qc.mk Qaf Ql 9 4),(Qc.mk Qaj Ql 3 7)].map Qc.cells))]),jH 1 (jI x128),(4,.call (.agg [(.pl (.int .u8 2)),(.own 4),(.own 5)]) (jN 3 [some (.box [(.pl (.int .u8 2)),(.own 4),(.own 5)]),some (.row false 3 ([(Qb.mk Ql 10 5)].map Qb.cells)),some (.row false 4 ([(Qc.mk Qx Ql 6 9),(Qc.mk Qaa Ql 6 7),(Qc.mk Qaf Ql 9 4),(Qc.mk Qaj Ql 3 7)].map Qc.cells))])),jH 5 (jI x133),(7,.bool true),(12,.bool false)],[])] [] [] [] [1,2,3] (.norm,(f10n3E bi1 bi2 (.norm false)).2) (ap4 h130 (ap4 h135 (ap (Qak 2 6 h127) (ap (Qbm (Qe.mk 2 [(Qb.mk Ql 10 5)] [(Qc.mk Qx Ql 6 9),(Qc.mk Qaa Ql 6 7),(Qc.mk Qaf Ql 9 4),(Qc.mk Qaj Ql 3 7)]) Qx h129) (ap (Qp.rn 3 [] (Qak 2 6 h132)) (ap (Qbm (Qe.mk 2 [(Qb.mk Ql 10 5)] [(Qc.mk Qx Ql 6 9),(Qc.mk Qaa Ql 6 7),(Qc.mk Qaf Ql 9 4),(Qc.mk Qaj Ql 3 7)]) Qaa h134) an)))))) rfl
 ·obtain rfl:=Qg h;exact rE Qh [(jF [4,5,6],[(0,.call (.agg [(.pl (.int .u8 2)),(.own 1),(.own 2)]) [some (.box [(.pl (.int .u8 2)),(.own 1),(.own 2)]),some (.row false 3 ([(Qb.mk Ql 10 5)].map Qb.cells)),some (.row false 4 ([(Qc.mk Qx Ql 6 9),(Qc.mk Qaa Ql 6 7),(Qc.mk Qaf Ql 9 4),(Qc.mk Qaj Ql 3 7)].map Qc.cells))]),jH 1 (jI x128),(7,.bool false)],[])] [] [] [] [1,2,3] (.norm,(f10n3E bi1 bi2 (.norm false)).2) (ap4 h130 (ap (Qak 2 6 h127) (ap (Qbm (Qe.mk 2 [(Qb.mk Ql 10 5)] [(Qc.mk Qx Ql 6 9),(Qc.mk Qaa Ql 6 7),(Qc.mk Qaf Ql 9 4),(Qc.mk Qaj Ql 3 7)]) Qx h129) an))) rfl
inductive f10n0O where
 | ret (v158:Bool)
def f10n0E:f10n0O→Ex×Tr×Hp
 | .ret v158=>(.ret,mkS [(0,(jB v158))],[])
def f10n0S:Tr×Hp:=(Qan [] 0 .leaf,[])
noncomputable def f10n0:Option f10n0O :=
 f10n1.bind fun o44=>match o44 with
 | .norm v46=>(f10n2 v46).bind fun o75=>match o75 with
  | .norm v77=>(f10n3 v46 v77).bind fun o151=>match o151 with
   | .norm v153=>bif v46 then
     bif v77 then
      some (.ret v153)
     else
      some (.ret false)
    else
     some (.ret false)
theorem f10n0_ok{o:f10n0O}(h:f10n0=some o):T Try.prog Try.f10.ntmps 0 c10 f10n0S (·=f10n0E o):=by
 unfold f10n0 at h;refine rN Qh 1 [j3] [] [] [] [] f10n1S an ?_;obtain ⟨o44,h45,h⟩:=Qf h;cases o44 with
 | norm v46 =>
  refine T.oneN (by kernel_rfl) (f10n1_ok h45) (st2:=(f10n1E (.norm v46)).2) rfl ?_;refine rN Qh 0 [] [] [] [] [1] (f10n2S v46) an ?_;obtain ⟨o75,h76,h⟩:=Qf h;cases o75 with
  | norm v77 =>
   refine T.oneN (by kernel_rfl) (f10n2_ok v46 h76) (st2:=(f10n2E v46 (.norm v77)).2) rfl ?_;refine rN Qh 0 [] [] [] [] [1,2] (f10n3S v46 v77) an ?_;obtain ⟨o151,h152,h⟩:=Qf h;cases o151 with
   | norm v153 =>
    refine T.oneN (by kernel_rfl) (f10n3_ok v46 v77 h152) (st2:=(f10n3E v46 v77 (.norm v153)).2) rfl ?_;rcases Qj h with ⟨h156,h⟩|⟨h156,h⟩
    ·rcases Qj h with ⟨h157,h⟩|⟨h157,h⟩
     ·obtain rfl:=Qg h;exact rE Qh [([(2,true),(5,true)],[(3,.bool true),(6,.bool true)],[])] [] [] [] [0] (.ret,(f10n0E (.ret v153)).2) (ap2 h156 (ap2 h157 an)) rfl
     ·obtain rfl:=Qg h;exact rE Qh [([(2,true),(5,false)],[(3,.bool true),(6,.bool false)],[])] [] [] [] [0] (.ret,(f10n0E (.ret false)).2) (ap2 h156 (ap2 h157 an)) rfl
    ·obtain rfl:=Qg h;exact rE Qh [([(2,false)],[(3,.bool false)],[])] [] [] [] [0] (.ret,(f10n0E (.ret false)).2) (ap2 h156 an) rfl
noncomputable def f10:Option Bool:=f10n0.bind fun o=>match o with
 | .ret v158=>some v158
theorem f10_ok{r:Bool}(h:f10=some r):Qp Try.prog false 10 [] [] (jB r) []:=by
 unfold f10 at h;obtain ⟨o,ho,h⟩:=Qf h;cases o with
 | ret v158 =>
  obtain rfl:=Qg h;exact Qp.plain Qh (f:=Try.f10) (c:=c10) (by kernel_rfl) (by kernel_rfl) (by kernel_rfl) (by kernel_rfl) ((f10n0_ok  ho).mono fun r e=>by subst e; exact ⟨.inl rfl,(jB v158),(jB v158),by kernel_rfl,by kernel_rfl,((Wk.refl _):Wk (jB v158) (jB v158))⟩)

noncomputable def c11:Code:=Try.f11.body.getD .skip
inductive f11n0O where
 | ret (v4:Bool)
def f11n0E(a1:Qe):f11n0O→Ex×Tr×Hp
 | .ret v4=>(.ret,mkS [(2,(jB v4))],[])
def f11n0S(a1:Qe):Tr×Hp:=(Qan [(jA Qe.cells a1)] 0 .leaf,[])
noncomputable def f11n0(a1:Qe):Option f11n0O :=
 bif decide (20<(a1.Lots.length:Int)) then
  some (.ret true)
 else
  some (.ret (decide (110<(a1.Bids.length:Int))))
theorem f11n0_ok(a1:Qe){o:f11n0O}(h:f11n0 a1=some o):T Try.prog Try.f11.ntmps 0 c11 (f11n0S a1) (·=f11n0E a1 o):=by
 unfold f11n0 at h;rcases Qj h with ⟨h3,h⟩|⟨h3,h⟩
 ·obtain rfl:=Qg h;exact rE Qh [j3,(jT [5,6,7,8],[(9,.bool true)],[(2,.val (jI (a1.Lots.length:Int)))])] [] [] [] [2] (.ret,(f11n0E a1 (.ret true)).2) (ap (Qac (xs:=a1.Lots) (c:=Qb.cells)) (ap h3 (ap4 h3 an))) rfl
 ·obtain rfl:=Qg h;exact rE Qh [j3,(jF [5,6,7,8],[(9,.bool false)],[(2,.val (jI (a1.Lots.length:Int))),(7,.val (jI (a1.Bids.length:Int)))])] [] [] [] [2] (.ret,(f11n0E a1 (.ret (decide (110<(a1.Bids.length:Int))))).2) (ap (Qac (xs:=a1.Lots) (c:=Qb.cells)) (ap3 h3 (ap (Qac (xs:=a1.Bids) (c:=Qc.cells)) (ap2 h3 an)))) rfl
noncomputable def f11(a1:Qe):Option Bool:=(f11n0 a1).bind fun o=>match o with
 | .ret v4=>some v4
theorem f11_ok(a1:Qe){r:Bool}(h:f11 a1=some r):Qp Try.prog false 11 [(jA Qe.cells a1)] [] (jB r) []:=by
 unfold f11 at h;obtain ⟨o,ho,h⟩:=Qf h;cases o with
 | ret v4 =>
  obtain rfl:=Qg h;exact Qp.plain Qh (f:=Try.f11) (c:=c11) (by kernel_rfl) (by kernel_rfl) (by kernel_rfl) (by kernel_rfl) ((f11n0_ok a1 ho).mono fun r e=>by subst e; exact ⟨.inl rfl,(jB v4),(jB v4),by kernel_rfl,by kernel_rfl,((Wk.refl _):Wk (jB v4) (jB v4))⟩)



noncomputable def c3:Code:=Try.f3.body.getD .skip

noncomputable def c4:Code:=Try.f4.body.getD .skip
inductive f4n2O where
 | exit0 (v79:List Int) (v80:List Qc)
def f4n2E(bd1:Int)(bi2:Bool)(bh3:(List Qa)×Int)(ba4:Qe)(be5:Qb):f4n2O→Ex×Tr×Hp
 | .exit0 v79 v80=>((.exit 0),mkS [(1,(jI bd1)),(2,(.bp 0 0)),(5,(jB bi2)),(6,(jL 3 Qa.cells bh3.1)),(8,(.bp 1 0)),(9,(.own 2))],[some (.box ((Qe.cells ba4).map .pl)),some (.box [(.pl (.int .u8 ba4.Rule)),(.own 3),(.own 4)]),some (.row false 1 (v79.map (cInt .i64))),some (.row false 3 ([be5].map Qb.cells)),jR 4 Qc.cells v80])
def f4n2S(bd1:Int)(bi2:Bool)(bh3:(List Qa)×Int)(ba4:Qe)(be5:Qb)(v60:Int)(v61:List Int)(v62:List Qc):Tr×Hp:=(mkS [(1,(jI bd1)),(2,(.bp 0 0)),(5,(jB bi2)),(6,(jL 3 Qa.cells bh3.1)),(8,(.bp 1 0)),(9,(.own 2)),(10,(jI v60))],[some (.box ((Qe.cells ba4).map .pl)),some (.box [(.pl (.int .u8 ba4.Rule)),(.own 3),(.own 4)]),some (.row false 1 (v61.map (cInt .i64))),some (.row false 3 ([be5].map Qb.cells)),jR 4 Qc.cells v62])
noncomputable def f4n2:Nat→Int→Bool→(List Qa)×Int→Qe→Qb→Int→List Int→List Qc→Option f4n2O
 | 0,_,_,_,_,_,_,_,_=>none
 | f+1,bd1,bi2,bh3,ba4,be5,v60,v61,v62 =>
  bif decide (v60<(ba4.Bids.length:Int)) then
   (at? ba4.Bids v60).bind fun x72 =>
   (at? ba4.Lots bd1).bind fun x74 =>
   bif (seq x72.Lot x74.Name) then
    req (fit (v62.length+1) 48) <|
    req (fit (v61.length+1) 8) <|
    (f4n2 f bd1 bi2 bh3 ba4 be5 (wr64 (v60+1)) (v61++[v60]) (v62++[x72]))
   else
    (f4n2 f bd1 bi2 bh3 ba4 be5 (wr64 (v60+1)) v61 v62)
  else
   some (.exit0 v61 v62)
theorem f4n2_ok:∀(f:Nat)(bd1:Int)(bi2:Bool)(bh3:(List Qa)×Int)(ba4:Qe)(be5:Qb)(v60:Int)(v61:List Int)(v62:List Qc){o:f4n2O},f4n2 f bd1 bi2 bh3 ba4 be5 v60 v61 v62=some o→TL Try.prog Try.f4.ntmps 0 f (cL (cL (Qk 1 (cL (Qk 3 (Qk 4 c4)))))) (f4n2S bd1 bi2 bh3 ba4 be5 v60 v61 v62) (·=f4n2E bd1 bi2 bh3 ba4 be5 o)
 | 0,_,_,_,_,_,_,_,_,o,h=>by rw [f4n2] at h; cases h
 | f+1,bd1,bi2,bh3,ba4,be5,v60,v61,v62,o,h=>by
  rw [f4n2] at h;refine TL.body (K:=fun s=>∃v60:Int,∃v61:List Int,∃v62:List Qc,s=(f4n2S bd1 bi2 bh3 ba4 be5 v60 v61 v62)∧f4n2 f bd1 bi2 bh3 ba4 be5 v60 v61 v62=some o) ?_ (by rintro _ ⟨v60,v61,v62,rfl,hk⟩; exact f4n2_ok f _ _ _ _ _ _ _ _ hk);rcases Qj h with ⟨h64,h⟩|⟨h64,h⟩
  ·obtain ⟨x72,h73,h⟩:=Qf h;obtain ⟨x74,h75,h⟩:=Qf h;rcases Qj h with ⟨h76,h⟩|⟨h76,h⟩
   ·obtain ⟨h77,h⟩:=Qcc h;obtain ⟨h78,h⟩:=Qcc h
    exact rE Qh [([],[],[(3,.val (jI (ba4.Bids.length:Int)))]),([],[(3,.idx (Int.toNat v60) (Qc.cells x72)),(9,.idx (Int.toNat bd1) (Qb.cells x74))],[]),([],[(5,.idx (Int.toNat v60) (Qc.cells x72)),(8,.fits)],[(8,.row 7 ((v62++[x72]).map Qc.cells))]),([],[(3,.fits)],[(3,.row 10 ((v61++[v60]).map (cInt .i64)))]),j3] [some true,some true] [] [0,1,10,3,7] [1,2,5,6,8,9,10] (.norm,(f4n2S bd1 bi2 bh3 ba4 be5 (wr64 (v60+1)) (v61++[v60]) (v62++[x72]))) (ap (Qac (xs:=ba4.Bids) (c:=Qc.cells)) (ap h64 (ap (Qi h73).1 (ap (Qn Qc.cells (Qi h73).2) (ap (Qi h75).1 (ap (Qn Qb.cells (Qi h75).2) (ap h76 (ap (Qi h73).1 (ap (Qn Qc.cells (Qi h73).2) (ap (fit_map (te:=ti42) (xs:=v62) (n:=1) (c:=Qc.cells) h77 rfl) (ap (app_cv (xs:=v62) (ys:=[x72]) (c:=Qc.cells)) (ap (fit_map (te:=ti3) (xs:=v61) (n:=1) (c:=(cInt .i64)) h78 rfl) (ap (app_cv (xs:=v61) (ys:=[v60]) (c:=(cInt .i64))) an))))))))))))) (Qt.norm ⟨(wr64 (v60+1)),(v61++[v60]),(v62++[x72]),rfl,h⟩)
   ·exact rE Qh [([],[],[(3,.val (jI (ba4.Bids.length:Int)))]),([],[(3,.idx (Int.toNat v60) (Qc.cells x72)),(9,.idx (Int.toNat bd1) (Qb.cells x74))],[]),j3] [some true,some false] [] [0,1,2,3,4] [1,2,5,6,8,9,10] (.norm,(f4n2S bd1 bi2 bh3 ba4 be5 (wr64 (v60+1)) v61 v62)) (ap (Qac (xs:=ba4.Bids) (c:=Qc.cells)) (ap h64 (ap (Qi h73).1 (ap (Qn Qc.cells (Qi h73).2) (ap (Qi h75).1 (ap (Qn Qb.cells (Qi h75).2) (ap h76 an))))))) (Qt.norm ⟨(wr64 (v60+1)),v61,v62,rfl,h⟩)
  ·obtain rfl:=Qg h;exact rK Qh 1 [([],[],[(3,.val (jI (ba4.Bids.length:Int)))])] [some false] [] [0,1,2,3,4] [1,2,5,6,8,9] (.exit 0) ((f4n2E bd1 bi2 bh3 ba4 be5 (.exit0 v61 v62)).2) (ap (Qac (xs:=ba4.Bids) (c:=Qc.cells)) (ap h64 an)) (Qt.out rfl rfl)
noncomputable def f4n2L(bd1:Int)(bi2:Bool)(bh3:(List Qa)×Int)(ba4:Qe)(be5:Qb):List Qc→Int→(List Int)→(List Qc)→Option f4n2O
 | [],v60,v61,v62 =>
  some (.exit0 v61 v62)
 | x0::rest,v60,v61,v62 =>
  (at? ba4.Lots bd1).bind fun x74 =>
  bif (seq x0.Lot x74.Name) then
   req (fit (v62.length+1) 48) <|
   req (fit (v61.length+1) 8) <|
   (f4n2L bd1 bi2 bh3 ba4 be5 rest (v60+1) (v61++[v60]) (v62++[x0]))
  else
   (f4n2L bd1 bi2 bh3 ba4 be5 rest (v60+1) v61 v62)
theorem f4n2L_eq(bd1:Int)(bi2:Bool)(bh3:(List Qa)×Int)(ba4:Qe)(be5:Qb):∀(rest:List Qc)(f k:Nat)(v61:List Int)(v62:List Qc),ba4.Bids.drop k=rest→ba4.Bids.length≤maxLen→rest.length<f→f4n2 f bd1 bi2 bh3 ba4 be5 (k:Int) v61 v62=f4n2L bd1 bi2 bh3 ba4 be5 rest (k:Int) v61 v62
 | _,0,_,_,_,_,_,hf=>absurd hf (Nat.not_lt_zero _)
 | [],f+1,k,v61,v62,hd,hm,hf=>by
  have hk:¬((k:Int)<(ba4.Bids.length:Int)):=by have:=Qbb hd; omega
  rw [f4n2,f4n2L];simp only [decide_eq_false hk,cond_false]
 | x0::rest,f+1,k,v61,v62,hd,hm,hf=>by
  obtain ⟨hx,hlt,hd'⟩:=drop_cons hd;have hk:(k:Int)<(ba4.Bids.length:Int):=by omega
  have hw:wr64 ((k:Int)+1)=(k:Int)+1:=wr64_of (by omega) (by unfold maxLen at hm; omega);have ih:∀(v61:List Int)(v62:List Qc),f4n2 f bd1 bi2 bh3 ba4 be5 ((k:Int)+1) v61 v62=f4n2L bd1 bi2 bh3 ba4 be5 rest ((k:Int)+1) v61 v62:=fun v61 v62=>f4n2L_eq bd1 bi2 bh3 ba4 be5 rest f (k+1) v61 v62 hd' hm (by simpa using hf);rw [f4n2,f4n2L];simp only [decide_eq_true hk,cond_true,at_nat,hx,Option.bind_some,hw,ih]
theorem f4n2_run(bd1:Int)(bi2:Bool)(bh3:(List Qa)×Int)(ba4:Qe)(be5:Qb)(v61:List Int)(v62:List Qc)(hm:ba4.Bids.length≤maxLen):f4n2 FUEL bd1 bi2 bh3 ba4 be5 0 v61 v62=f4n2L bd1 bi2 bh3 ba4 be5 ba4.Bids 0 v61 v62:=f4n2L_eq bd1 bi2 bh3 ba4 be5 ba4.Bids FUEL 0 v61 v62 List.drop_zero hm (Qba hm)
inductive f4n1O where
 | norm (v85:List Int) (v86:List Qc)
def f4n1E(bd1:Int)(bi2:Bool)(bh3:(List Qa)×Int)(ba4:Qe)(be5:Qb):f4n1O→Ex×Tr×Hp
 | .norm v85 v86=>(.norm,mkS [(1,(jI bd1)),(2,(.bp 0 0)),(5,(jB bi2)),(6,(jL 3 Qa.cells bh3.1)),(8,(.bp 1 0)),(9,(.own 2))],[some (.box ((Qe.cells ba4).map .pl)),some (.box [(.pl (.int .u8 ba4.Rule)),(.own 3),(.own 4)]),some (.row false 1 (v85.map (cInt .i64))),some (.row false 3 ([be5].map Qb.cells)),jR 4 Qc.cells v86])
def f4n1S(bd1:Int)(bi2:Bool)(bh3:(List Qa)×Int)(ba4:Qe)(be5:Qb):Tr×Hp:=(mkS [(1,(jI bd1)),(2,(.bp 0 0)),(5,(jB bi2)),(6,(jL 3 Qa.cells bh3.1)),(8,(.bp 1 0)),(9,(.pl (.sl .nil 0 [])))],[some (.box ((Qe.cells ba4).map .pl)),some (.box [(.pl (.int .u8 ba4.Rule)),(.own 2),(.pl (.sl .nil 0 []))]),some (.row false 3 ([be5].map Qb.cells))])
noncomputable def f4n1(bd1:Int)(bi2:Bool)(bh3:(List Qa)×Int)(ba4:Qe)(be5:Qb):Option f4n1O :=
 (f4n2 FUEL bd1 bi2 bh3 ba4 be5 0 [] []).bind fun o81=>match o81 with
 | .exit0 v83 v84=>some (.norm v83 v84)
theorem f4n1_ok(bd1:Int)(bi2:Bool)(bh3:(List Qa)×Int)(ba4:Qe)(be5:Qb){o:f4n1O}(h:f4n1 bd1 bi2 bh3 ba4 be5=some o):T Try.prog Try.f4.ntmps 0 (cL (Qk 3 (Qk 4 c4))) (f4n1S bd1 bi2 bh3 ba4 be5) (·=f4n1E bd1 bi2 bh3 ba4 be5 o):=by
 unfold f4n1 at h;refine rN Qh 1 [j3] [] [.mat 9 1,.matC 1 2 4] [0,1,3,2,4] [1,2,5,6,8,9,10] (f4n2S bd1 bi2 bh3 ba4 be5 0 [] []) an ?_;obtain ⟨o81,h82,h⟩:=Qf h;cases o81 with
 | exit0 v83 v84 =>
  obtain rfl:=Qg h;exact T.last' (T.bl (i:=0) (by kernel_rfl) (by kernel_rfl) (f4n2_ok FUEL bd1 bi2 bh3 ba4 be5 0 [] [] h82)) (tds:=[]) (m:=[0,1,2,3,4]) (keep:=[1,2,5,6,8,9]) (st2:=(f4n1E bd1 bi2 bh3 ba4 be5 (.norm v83 v84)).2) (by kernel_rfl) an rfl
inductive f4n6O where
 | norm (v401:Bool)
def f4n6E(bd1:Int)(bi2:Bool)(bh3 bh4:(List Qa)×Int)(bd5 bd6:Int)(ba7:Qe)(bl8:List Int):f4n6O→Ex×Tr×Hp
 | .norm v401=>(.norm,mkS [(1,(jI bd1)),(2,(.bp 0 0)),(5,(jB bi2)),(6,(jL 3 Qa.cells bh3.1)),(9,(.own 1)),(11,(jL 3 Qa.cells bh4.1)),(13,(jI bd5)),(14,(jI bd6)),(195,(jB v401))],[some (.box ((Qe.cells ba7).map .pl)),some (.row false 1 (bl8.map (cInt .i64)))])
def f4n6S(bd1:Int)(bi2:Bool)(bh3 bh4:(List Qa)×Int)(bd5 bd6:Int)(ba7:Qe)(bl8:List Int):Tr×Hp:=(mkS [(1,(jI bd1)),(2,(.bp 0 0)),(5,(jB bi2)),(6,(jL 3 Qa.cells bh3.1)),(9,(.own 1)),(11,(jL 3 Qa.cells bh4.1)),(13,(jI bd5)),(14,(jI bd6))],[some (.box ((Qe.cells ba7).map .pl)),some (.row false 1 (bl8.map (cInt .i64)))])
noncomputable def f4n6(bd1:Int)(bi2:Bool)(bh3 bh4:(List Qa)×Int)(bd5 bd6:Int)(ba7:Qe)(bl8:List Int):Option f4n6O :=
 bif decide ((bh4.1.length:Int)≤bd5) then
  some (.norm true)
 else
  (at? bh4.1 bd5).bind fun x391 =>
  bif decide (x391.Bid<0) then
   some (.norm true)
  else
   bif decide ((bl8.length:Int)≤x391.Bid) then
    some (.norm true)
   else
    (at? bl8 x391.Bid).bind fun x395 =>
    (at? bh3.1 bd6).bind fun x397 =>
    bif decide (x395=x397.Bid) then
     bif decide (x391.Units=x397.Units) then
      some (.norm (!(decide (x391.Price=x397.Price))))
     else
      some (.norm true)
    else
     some (.norm true)
theorem f4n6_ok(bd1:Int)(bi2:Bool)(bh3 bh4:(List Qa)×Int)(bd5 bd6:Int)(ba7:Qe)(bl8:List Int){o:f4n6O}(h:f4n6 bd1 bi2 bh3 bh4 bd5 bd6 ba7 bl8=some o):T Try.prog Try.f4.ntmps 0 (cL (Qk 0 (cL (Qk 0 (Qk 2 (cL (cL (Qk 1 (cL (cL (Qk 1 (cL (Qk 3 (Qk 1 (Qk 3 (Qk 4 c4)))))))))))))))) (f4n6S bd1 bi2 bh3 bh4 bd5 bd6 ba7 bl8) (·=f4n6E bd1 bi2 bh3 bh4 bd5 bd6 ba7 bl8 o):=by
 unfold f4n6 at h;rcases Qj h with ⟨h390,h⟩|⟨h390,h⟩
 ·obtain rfl:=Qg h;exact rE Qh [(jT [5,6,7,8,9,10],[(11,.bool true)],[(2,.val (jI (bh4.1.length:Int)))])] [] [] [0,1] [1,2,5,6,9,11,13,14,195] (.norm,(f4n6E bd1 bi2 bh3 bh4 bd5 bd6 ba7 bl8 (.norm true)).2) (ap (Qac (xs:=bh4.1) (c:=Qa.cells)) (ap3 h390 (ap4 h390 an))) rfl
 ·obtain ⟨x391,h392,h⟩:=Qf h;rcases Qj h with ⟨h393,h⟩|⟨h393,h⟩
  ·obtain rfl:=Qg h;exact rE Qh [(jF [5,6,7,8,9,10]++jT [13,14,15,16,17,18,19,20],[(7,.idx (Int.toNat bd5) (Qa.cells x391)),(11,.bool false),(21,.bool true)],[(2,.val (jI (bh4.1.length:Int)))])] [] [] [0,1] [1,2,5,6,9,11,13,14,195] (.norm,(f4n6E bd1 bi2 bh3 bh4 bd5 bd6 ba7 bl8 (.norm true)).2) (ap (Qac (xs:=bh4.1) (c:=Qa.cells)) (ap3 h390 (ap (Qi h392).1 (ap (Qn Qa.cells (Qi h392).2) (ap4 h390 (ap h393 (ap4 h393 (ap4 h393 an)))))))) rfl
  ·rcases Qj h with ⟨h394,h⟩|⟨h394,h⟩
   ·obtain rfl:=Qg h;exact rE Qh [(jF [5,6,7,8,9,10,13,14,15,16,17,18,19,20]++jT [23,24,25,26,27,28,29,30,31,32,33,34,35,36],[(7,.idx (Int.toNat bd5) (Qa.cells x391)),(11,.bool false),(15,.idx (Int.toNat bd5) (Qa.cells x391)),(21,.bool false),(37,.bool true)],[(2,.val (jI (bh4.1.length:Int))),(19,.val (jI (bl8.length:Int)))])] [] [] [0,1] [1,2,5,6,9,11,13,14,195] (.norm,(f4n6E bd1 bi2 bh3 bh4 bd5 bd6 ba7 bl8 (.norm true)).2) (ap (Qac (xs:=bh4.1) (c:=Qa.cells)) (ap3 h390 (ap (Qi h392).1 (ap (Qn Qa.cells (Qi h392).2) (ap4 h390 (ap3 h393 (ap (Qi h392).1 (ap (Qn Qa.cells (Qi h392).2) (ap4 h393 (ap (Qac (xs:=bl8) (c:=(cInt .i64))) (ap2 h393 (ap3 h394 (ap4 h394 (ap4 h394 (ap4 h394 an))))))))))))))) rfl
   ·obtain ⟨x395,h396,h⟩:=Qf h;obtain ⟨x397,h398,h⟩:=Qf h;rcases Qj h with ⟨h399,h⟩|⟨h399,h⟩
    ·rcases Qj h with ⟨h400,h⟩|⟨h400,h⟩
     ·obtain rfl:=Qg h
      exact rE Qh [(jF [5,6,7,8,9,10,13,14,15,16,17,18,19,20,23,24,25,26,27,28,29,30,31,32,33,34,35,36,39,40,41,42,43,44,45,46,47,48,49,52,53,54,55,56,57,58,59,60,61,62],[(7,.idx (Int.toNat bd5) (Qa.cells x391)),(11,.bool false),(15,.idx (Int.toNat bd5) (Qa.cells x391)),(21,.bool false),(26,.idx (Int.toNat bd5) (Qa.cells x391)),(29,.at_ (Int.toNat x391.Bid)),(30,.idx 0 ((cInt .i64) x395)),(33,.idx (Int.toNat bd6) (Qa.cells x397)),(37,.bool false),(41,.idx (Int.toNat bd5) (Qa.cells x391)),(46,.idx (Int.toNat bd6) (Qa.cells x397)),(50,.bool false),(54,.idx (Int.toNat bd5) (Qa.cells x391)),(59,.idx (Int.toNat bd6) (Qa.cells x397)),(63,.bool false)],[(2,.val (jI (bh4.1.length:Int))),(19,.val (jI (bl8.length:Int)))])] [] [] [0,1] [1,2,5,6,9,11,13,14,195] (.norm,(f4n6E bd1 bi2 bh3 bh4 bd5 bd6 ba7 bl8 (.norm (!(decide (x391.Price=x397.Price))))).2) (ap (Qac (xs:=bh4.1) (c:=Qa.cells)) (ap3 h390 (ap (Qi h392).1 (ap (Qn Qa.cells (Qi h392).2) (ap4 h390 (ap3 h393 (ap (Qi h392).1 (ap (Qn Qa.cells (Qi h392).2) (ap4 h393 (ap (Qac (xs:=bl8) (c:=(cInt .i64))) (ap2 h393 (ap4 h394 (ap (Qi h392).1 (ap (Qn Qa.cells (Qi h392).2) (ap3 h394 (ap (Qi h396).1 (ap (Qag (cInt .i64) (Qi h396).2) (ap h394 (ap (Qn (cInt .i64) (Qi h396).2) (ap3 h394 (ap (Qi h398).1 (ap (Qn Qa.cells (Qi h398).2) (ap4 h394 (ap3 (Qal h399) (ap (Qi h392).1 (ap (Qn Qa.cells (Qi h392).2) (ap (Qal h399) (ap4 (Qal h399) (ap (Qi h398).1 (ap (Qn Qa.cells (Qi h398).2) (ap4 (Qal h399) (ap3 (Qal h400) (ap (Qi h392).1 (ap (Qn Qa.cells (Qi h392).2) (ap (Qal h400) (ap4 (Qal h400) (ap (Qi h398).1 (ap (Qn Qa.cells (Qi h398).2) (ap4 (Qal h400) an))))))))))))))))))))))))))))))))))))))) rfl
     ·obtain rfl:=Qg h
      exact rE Qh [(jF [5,6,7,8,9,10,13,14,15,16,17,18,19,20,23,24,25,26,27,28,29,30,31,32,33,34,35,36,39,40,41,42,43,44,45,46,47,48,49]++jT [52,53,54,55,56,57,58,59,60,61,62],[(7,.idx (Int.toNat bd5) (Qa.cells x391)),(11,.bool false),(15,.idx (Int.toNat bd5) (Qa.cells x391)),(21,.bool false),(26,.idx (Int.toNat bd5) (Qa.cells x391)),(29,.at_ (Int.toNat x391.Bid)),(30,.idx 0 ((cInt .i64) x395)),(33,.idx (Int.toNat bd6) (Qa.cells x397)),(37,.bool false),(41,.idx (Int.toNat bd5) (Qa.cells x391)),(46,.idx (Int.toNat bd6) (Qa.cells x397)),(50,.bool false),(63,.bool true)],[(2,.val (jI (bh4.1.length:Int))),(19,.val (jI (bl8.length:Int)))])] [] [] [0,1] [1,2,5,6,9,11,13,14,195] (.norm,(f4n6E bd1 bi2 bh3 bh4 bd5 bd6 ba7 bl8 (.norm true)).2) (ap (Qac (xs:=bh4.1) (c:=Qa.cells)) (ap3 h390 (ap (Qi h392).1 (ap (Qn Qa.cells (Qi h392).2) (ap4 h390 (ap3 h393 (ap (Qi h392).1 (ap (Qn Qa.cells (Qi h392).2) (ap4 h393 (ap (Qac (xs:=bl8) (c:=(cInt .i64))) (ap2 h393 (ap4 h394 (ap (Qi h392).1 (ap (Qn Qa.cells (Qi h392).2) (ap3 h394 (ap (Qi h396).1 (ap (Qag (cInt .i64) (Qi h396).2) (ap h394 (ap (Qn (cInt .i64) (Qi h396).2) (ap3 h394 (ap (Qi h398).1 (ap (Qn Qa.cells (Qi h398).2) (ap4 h394 (ap3 (Qal h399) (ap (Qi h392).1 (ap (Qn Qa.cells (Qi h392).2) (ap (Qal h399) (ap4 (Qal h399) (ap (Qi h398).1 (ap (Qn Qa.cells (Qi h398).2) (ap4 (Qal h399) (ap4 (Qau h400) (ap4 (Qau h400) (ap4 (Qau h400) an)))))))))))))))))))))))))))))))))) rfl
    ·obtain rfl:=Qg h
     exact rE Qh [(jF [5,6,7,8,9,10,13,14,15,16,17,18,19,20,23,24,25,26,27,28,29,30,31,32,33,34,35,36]++jT [39,40,41,42,43,44,45,46,47,48,49],[(7,.idx (Int.toNat bd5) (Qa.cells x391)),(11,.bool false),(15,.idx (Int.toNat bd5) (Qa.cells x391)),(21,.bool false),(26,.idx (Int.toNat bd5) (Qa.cells x391)),(29,.at_ (Int.toNat x391.Bid)),(30,.idx 0 ((cInt .i64) x395)),(33,.idx (Int.toNat bd6) (Qa.cells x397)),(37,.bool false),(50,.bool true)],[(2,.val (jI (bh4.1.length:Int))),(19,.val (jI (bl8.length:Int)))])] [] [] [0,1] [1,2,5,6,9,11,13,14,195] (.norm,(f4n6E bd1 bi2 bh3 bh4 bd5 bd6 ba7 bl8 (.norm true)).2) (ap (Qac (xs:=bh4.1) (c:=Qa.cells)) (ap3 h390 (ap (Qi h392).1 (ap (Qn Qa.cells (Qi h392).2) (ap4 h390 (ap3 h393 (ap (Qi h392).1 (ap (Qn Qa.cells (Qi h392).2) (ap4 h393 (ap (Qac (xs:=bl8) (c:=(cInt .i64))) (ap2 h393 (ap4 h394 (ap (Qi h392).1 (ap (Qn Qa.cells (Qi h392).2) (ap3 h394 (ap (Qi h396).1 (ap (Qag (cInt .i64) (Qi h396).2) (ap h394 (ap (Qn (cInt .i64) (Qi h396).2) (ap3 h394 (ap (Qi h398).1 (ap (Qn Qa.cells (Qi h398).2) (ap4 h394 (ap4 (Qau h399) (ap4 (Qau h399) (ap4 (Qau h399) an)))))))))))))))))))))))))) rfl
inductive f4n5O where
 | norm
 | ret
def f4n5E(bd1:Int)(bi2:Bool)(bh3 bh4:(List Qa)×Int)(bd5 bd6:Int)(ba7:Qe)(bl8:List Int):f4n5O→Ex×Tr×Hp
 | .norm=>(.norm,mkS [(1,(jI bd1)),(2,(.bp 0 0)),(5,(jB bi2)),(6,(jL 3 Qa.cells bh3.1)),(9,(.own 1)),(11,(jL 3 Qa.cells bh4.1)),(13,(jI bd5)),(14,(jI bd6))],[some (.box ((Qe.cells ba7).map .pl)),some (.row false 1 (bl8.map (cInt .i64)))])
 | .ret=>(.ret,mkS [(4,(jB false))],[])
def f4n5S(bd1:Int)(bi2:Bool)(bh3 bh4:(List Qa)×Int)(bd5 bd6:Int)(ba7:Qe)(bl8:List Int):Tr×Hp:=(mkS [(1,(jI bd1)),(2,(.bp 0 0)),(5,(jB bi2)),(6,(jL 3 Qa.cells bh3.1)),(9,(.own 1)),(11,(jL 3 Qa.cells bh4.1)),(13,(jI bd5)),(14,(jI bd6))],[some (.box ((Qe.cells ba7).map .pl)),some (.row false 1 (bl8.map (cInt .i64)))])
noncomputable def f4n5(bd1:Int)(bi2:Bool)(bh3 bh4:(List Qa)×Int)(bd5 bd6:Int)(ba7:Qe)(bl8:List Int):Option f4n5O :=
 (f4n6 bd1 bi2 bh3 bh4 bd5 bd6 ba7 bl8).bind fun o402=>match o402 with
 | .norm v404=>bif v404 then
   some .ret
  else
   some .norm
theorem f4n5_ok(bd1:Int)(bi2:Bool)(bh3 bh4:(List Qa)×Int)(bd5 bd6:Int)(ba7:Qe)(bl8:List Int){o:f4n5O}(h:f4n5 bd1 bi2 bh3 bh4 bd5 bd6 ba7 bl8=some o):T Try.prog Try.f4.ntmps 0 (cL (Qk 0 (Qk 2 (cL (cL (Qk 1 (cL (cL (Qk 1 (cL (Qk 3 (Qk 1 (Qk 3 (Qk 4 c4)))))))))))))) (f4n5S bd1 bi2 bh3 bh4 bd5 bd6 ba7 bl8) (·=f4n5E bd1 bi2 bh3 bh4 bd5 bd6 ba7 bl8 o):=by
 unfold f4n5 at h;refine rN Qh 0 [] [] [] [0,1] [1,2,5,6,9,11,13,14] (f4n6S bd1 bi2 bh3 bh4 bd5 bd6 ba7 bl8) an ?_;obtain ⟨o402,h403,h⟩:=Qf h;cases o402 with
 | norm v404 =>
  refine T.oneN (by kernel_rfl) (f4n6_ok bd1 bi2 bh3 bh4 bd5 bd6 ba7 bl8 h403) (st2:=(f4n6E bd1 bi2 bh3 bh4 bd5 bd6 ba7 bl8 (.norm v404)).2) rfl ?_;rcases Qj h with ⟨h406,h⟩|⟨h406,h⟩
  ·obtain rfl:=Qg h;exact rE Qh [j3] [some true] [] [] [4] (.ret,(f4n5E bd1 bi2 bh3 bh4 bd5 bd6 ba7 bl8 .ret).2) (ap h406 an) rfl
  ·obtain rfl:=Qg h;exact rE Qh [] [some false] [] [0,1] [1,2,5,6,9,11,13,14] (.norm,(f4n5E bd1 bi2 bh3 bh4 bd5 bd6 ba7 bl8 .norm).2) (ap h406 an) rfl
inductive f4n4O where
 | norm (v409:Int)
 | ret
def f4n4E(bd1:Int)(bi2:Bool)(bh3 bh4:(List Qa)×Int)(bd5 bd6:Int)(ba7:Qe)(bl8:List Int):f4n4O→Ex×Tr×Hp
 | .norm v409=>(.norm,mkS [(1,(jI bd1)),(2,(.bp 0 0)),(5,(jB bi2)),(6,(jL 3 Qa.cells bh3.1)),(9,(.own 1)),(11,(jL 3 Qa.cells bh4.1)),(13,(jI v409)),(14,(jI bd6))],[some (.box ((Qe.cells ba7).map .pl)),some (.row false 1 (bl8.map (cInt .i64)))])
 | .ret=>(.ret,mkS [(4,(jB false))],[])
def f4n4S(bd1:Int)(bi2:Bool)(bh3 bh4:(List Qa)×Int)(bd5 bd6:Int)(ba7:Qe)(bl8:List Int):Tr×Hp:=(mkS [(1,(jI bd1)),(2,(.bp 0 0)),(5,(jB bi2)),(6,(jL 3 Qa.cells bh3.1)),(9,(.own 1)),(11,(jL 3 Qa.cells bh4.1)),(13,(jI bd5)),(14,(jI bd6))],[some (.box ((Qe.cells ba7).map .pl)),some (.row false 1 (bl8.map (cInt .i64)))])
noncomputable def f4n4(bd1:Int)(bi2:Bool)(bh3 bh4:(List Qa)×Int)(bd5 bd6:Int)(ba7:Qe)(bl8:List Int):Option f4n4O :=
 (at? bh3.1 bd6).bind fun x334 =>
 bif decide (x334.Bid<0) then
  some .ret
 else
  bif decide ((ba7.Bids.length:Int)≤x334.Bid) then
   some .ret
  else
   (at? ba7.Bids x334.Bid).bind fun x343 =>
   (at? ba7.Lots bd1).bind fun x345 =>
   bif (seq x343.Lot x345.Name) then
    (f4n5 bd1 bi2 bh3 bh4 bd5 bd6 ba7 bl8).bind fun o407=>match o407 with
    | .norm=>some (.norm (wr64 (bd5+1)))
    | .ret=>some .ret
   else
    some (.norm bd5)
theorem f4n4_ok(bd1:Int)(bi2:Bool)(bh3 bh4:(List Qa)×Int)(bd5 bd6:Int)(ba7:Qe)(bl8:List Int){o:f4n4O}(h:f4n4 bd1 bi2 bh3 bh4 bd5 bd6 ba7 bl8=some o):T Try.prog Try.f4.ntmps 0 (cL (Qk 1 (cL (cL (Qk 1 (cL (Qk 3 (Qk 1 (Qk 3 (Qk 4 c4)))))))))) (f4n4S bd1 bi2 bh3 bh4 bd5 bd6 ba7 bl8) (·=f4n4E bd1 bi2 bh3 bh4 bd5 bd6 ba7 bl8 o):=by
 unfold f4n4 at h;refine T.block' (i:=3) (by kernel_rfl) ?_;obtain ⟨x334,h335,h⟩:=Qf h;rcases Qj h with ⟨h336,h⟩|⟨h336,h⟩
 ·obtain rfl:=Qg h;exact rK Qh 1 [(jT [7,8,9,10,11,12,13,14,15],[(2,.idx (Int.toNat bd6) (Qa.cells x334)),(16,.bool true)],[]),j3] [none] [] [] [4] .ret ((f4n4E bd1 bi2 bh3 bh4 bd5 bd6 ba7 bl8 .ret).2) (ap (Qi h335).1 (ap (Qn Qa.cells (Qi h335).2) (ap2 h336 (ap4 h336 (ap4 h336 an))))) rfl
 ·rcases Qj h with ⟨h337,h⟩|⟨h337,h⟩
  ·obtain rfl:=Qg h;exact rK Qh 1 [(jF [7,8,9,10,11,12,13,14,15],[(2,.idx (Int.toNat bd6) (Qa.cells x334)),(9,.idx (Int.toNat bd6) (Qa.cells x334)),(16,.bool false)],[(14,.val (jI (ba7.Bids.length:Int)))]),j3] [some true] [] [] [4] .ret ((f4n4E bd1 bi2 bh3 bh4 bd5 bd6 ba7 bl8 .ret).2) (ap (Qi h335).1 (ap (Qn Qa.cells (Qi h335).2) (ap3 h336 (ap (Qi h335).1 (ap (Qn Qa.cells (Qi h335).2) (ap h336 (ap4 h336 (ap (Qac (xs:=ba7.Bids) (c:=Qc.cells)) (ap2 h336 (ap h337 an)))))))))) rfl
  ·obtain ⟨x343,h344,h⟩:=Qf h;obtain ⟨x345,h346,h⟩:=Qf h;rcases Qj h with ⟨h347,h⟩|⟨h347,h⟩
   ·refine rN Qh 2 [(jF [7,8,9,10,11,12,13,14,15],[(2,.idx (Int.toNat bd6) (Qa.cells x334)),(9,.idx (Int.toNat bd6) (Qa.cells x334)),(16,.bool false)],[(14,.val (jI (ba7.Bids.length:Int)))]),([],[(4,.idx (Int.toNat bd6) (Qa.cells x334)),(7,.idx (Int.toNat x334.Bid) (Qc.cells x343)),(13,.idx (Int.toNat bd1) (Qb.cells x345))],[])] [some false,some false] [] [0,1] [1,2,5,6,9,11,13,14] (mkS [(1,(jI bd1)),(2,(.bp 0 0)),(5,(jB bi2)),(6,(jL 3 Qa.cells bh3.1)),(9,(.own 1)),(11,(jL 3 Qa.cells bh4.1)),(13,(jI bd5)),(14,(jI bd6))],[some (.box ((Qe.cells ba7).map .pl)),some (.row false 1 (bl8.map (cInt .i64)))]) (ap (Qi h335).1 (ap (Qn Qa.cells (Qi h335).2) (ap3 h336 (ap (Qi h335).1 (ap (Qn Qa.cells (Qi h335).2) (ap h336 (ap4 h336 (ap (Qac (xs:=ba7.Bids) (c:=Qc.cells)) (ap2 h336 (ap h337 (ap (Qi h335).1 (ap (Qn Qa.cells (Qi h335).2) (ap (Qi h344).1 (ap (Qn Qc.cells (Qi h344).2) (ap (Qi h346).1 (ap (Qn Qb.cells (Qi h346).2) (ap (Qal h347) an))))))))))))))))) ?_
    refine rN Qh 0 [] [] [] [0,1] [1,2,5,6,9,11,13,14] (f4n5S bd1 bi2 bh3 bh4 bd5 bd6 ba7 bl8) an ?_;obtain ⟨o407,h408,h⟩:=Qf h;cases o407 with
    | norm =>
     refine T.oneN (by kernel_rfl) (f4n5_ok bd1 bi2 bh3 bh4 bd5 bd6 ba7 bl8 h408) (st2:=(f4n5E bd1 bi2 bh3 bh4 bd5 bd6 ba7 bl8 .norm).2) rfl ?_;obtain rfl:=Qg h;exact rE Qh [j3] [] [] [0,1] [1,2,5,6,9,11,13,14] (.norm,(f4n4E bd1 bi2 bh3 bh4 bd5 bd6 ba7 bl8 (.norm (wr64 (bd5+1)))).2) an rfl
    | ret =>
     obtain rfl:=Qg h;exact T.oneX' (by kernel_rfl) (f4n5_ok bd1 bi2 bh3 bh4 bd5 bd6 ba7 bl8 h408) (tds:=[]) (m:=[]) (keep:=[4]) (st2:=(f4n4E bd1 bi2 bh3 bh4 bd5 bd6 ba7 bl8 .ret).2) (by kernel_rfl) an rfl rfl
   ·obtain rfl:=Qg h
    exact rK Qh 2 [(jF [7,8,9,10,11,12,13,14,15],[(2,.idx (Int.toNat bd6) (Qa.cells x334)),(9,.idx (Int.toNat bd6) (Qa.cells x334)),(16,.bool false)],[(14,.val (jI (ba7.Bids.length:Int)))]),([],[(4,.idx (Int.toNat bd6) (Qa.cells x334)),(7,.idx (Int.toNat x334.Bid) (Qc.cells x343)),(13,.idx (Int.toNat bd1) (Qb.cells x345))],[])] [some false,some true] [] [0,1] [1,2,5,6,9,11,13,14] (.exit 3) ((f4n4E bd1 bi2 bh3 bh4 bd5 bd6 ba7 bl8 (.norm bd5)).2) (ap (Qi h335).1 (ap (Qn Qa.cells (Qi h335).2) (ap3 h336 (ap (Qi h335).1 (ap (Qn Qa.cells (Qi h335).2) (ap h336 (ap4 h336 (ap (Qac (xs:=ba7.Bids) (c:=Qc.cells)) (ap2 h336 (ap h337 (ap (Qi h335).1 (ap (Qn Qa.cells (Qi h335).2) (ap (Qi h344).1 (ap (Qn Qc.cells (Qi h344).2) (ap (Qi h346).1 (ap (Qn Qb.cells (Qi h346).2) (ap (Qau h347) an))))))))))))))))) rfl
inductive f4n7O where
 | exit2 (v413:Int)
 | ret
def f4n7E(bd1:Int)(bi2:Bool)(bh3 bh4:(List Qa)×Int)(ba5:Qe)(bl6:List Int):f4n7O→Ex×Tr×Hp
 | .exit2 v413=>((.exit 2),mkS [(5,(jB bi2)),(11,(jL 3 Qa.cells bh4.1)),(13,(jI v413))],[])
 | .ret=>(.ret,mkS [(4,(jB false))],[])
def f4n7S(bd1:Int)(bi2:Bool)(bh3 bh4:(List Qa)×Int)(ba5:Qe)(bl6:List Int)(v307 v308:Int):Tr×Hp:=(mkS [(1,(jI bd1)),(2,(.bp 0 0)),(5,(jB bi2)),(6,(jL 3 Qa.cells bh3.1)),(9,(.own 1)),(11,(jL 3 Qa.cells bh4.1)),(13,(jI v307)),(14,(jI v308))],[some (.box ((Qe.cells ba5).map .pl)),some (.row false 1 (bl6.map (cInt .i64)))])
noncomputable def f4n7:Nat→Int→Bool→(List Qa)×Int→(List Qa)×Int→Qe→List Int→Int→Int→Option f4n7O
 | 0,_,_,_,_,_,_,_,_=>none
 | f+1,bd1,bi2,bh3,bh4,ba5,bl6,v307,v308 =>
  bif decide (v308<(bh3.1.length:Int)) then
   (f4n4 bd1 bi2 bh3 bh4 v307 v308 ba5 bl6).bind fun o410=>match o410 with
   | .norm v412=>(f4n7 f bd1 bi2 bh3 bh4 ba5 bl6 v412 (wr64 (v308+1)))
   | .ret=>some .ret
  else
   some (.exit2 v307)
theorem f4n7_ok:∀(f:Nat)(bd1:Int)(bi2:Bool)(bh3 bh4:(List Qa)×Int)(ba5:Qe)(bl6:List Int)(v307 v308:Int){o:f4n7O},f4n7 f bd1 bi2 bh3 bh4 ba5 bl6 v307 v308=some o→TL Try.prog Try.f4.ntmps 0 f (cL (cL (Qk 1 (cL (Qk 3 (Qk 1 (Qk 3 (Qk 4 c4)))))))) (f4n7S bd1 bi2 bh3 bh4 ba5 bl6 v307 v308) (·=f4n7E bd1 bi2 bh3 bh4 ba5 bl6 o)
 | 0,_,_,_,_,_,_,_,_,o,h=>by rw [f4n7] at h; cases h
 | f+1,bd1,bi2,bh3,bh4,ba5,bl6,v307,v308,o,h=>by
  rw [f4n7] at h;refine TL.body (K:=fun s=>∃v307:Int,∃v308:Int,s=(f4n7S bd1 bi2 bh3 bh4 ba5 bl6 v307 v308)∧f4n7 f bd1 bi2 bh3 bh4 ba5 bl6 v307 v308=some o) ?_ (by rintro _ ⟨v307,v308,rfl,hk⟩; exact f4n7_ok f _ _ _ _ _ _ _ _ hk);rcases Qj h with ⟨h310,h⟩|⟨h310,h⟩
  ·refine rN Qh 1 [([],[],[(2,.val (jI (bh3.1.length:Int)))])] [some true] [] [0,1] [1,2,5,6,9,11,13,14] (f4n4S bd1 bi2 bh3 bh4 v307 v308 ba5 bl6) (ap (Qac (xs:=bh3.1) (c:=Qa.cells)) (ap h310 an)) ?_;obtain ⟨o410,h411,h⟩:=Qf h;cases o410 with
   | norm v412 =>
    refine T.oneN (by kernel_rfl) (f4n4_ok bd1 bi2 bh3 bh4 v307 v308 ba5 bl6 h411) (st2:=(f4n4E bd1 bi2 bh3 bh4 v307 v308 ba5 bl6 (.norm v412)).2) rfl ?_;exact rE Qh [j3] [] [] [0,1] [1,2,5,6,9,11,13,14] (.norm,(f4n7S bd1 bi2 bh3 bh4 ba5 bl6 v412 (wr64 (v308+1)))) an (Qt.norm ⟨v412,(wr64 (v308+1)),rfl,h⟩)
   | ret =>
    obtain rfl:=Qg h;exact T.oneX' (by kernel_rfl) (f4n4_ok bd1 bi2 bh3 bh4 v307 v308 ba5 bl6 h411) (tds:=[]) (m:=[]) (keep:=[4]) (st2:=(f4n7E bd1 bi2 bh3 bh4 ba5 bl6 .ret).2) (by kernel_rfl) an rfl (Qt.out rfl rfl)
  ·obtain rfl:=Qg h;exact rK Qh 1 [([],[],[(2,.val (jI (bh3.1.length:Int)))])] [some false] [] [] [5,11,13] (.exit 2) ((f4n7E bd1 bi2 bh3 bh4 ba5 bl6 (.exit2 v307)).2) (ap (Qac (xs:=bh3.1) (c:=Qa.cells)) (ap h310 an)) (Qt.out rfl rfl)
inductive f4n3O where
 | norm (v417:Int)
 | ret
def f4n3E(bd1:Int)(bi2:Bool)(bh3 bh4:(List Qa)×Int)(ba5:Qe)(bl6:List Int):f4n3O→Ex×Tr×Hp
 | .norm v417=>(.norm,mkS [(5,(jB bi2)),(11,(jL 3 Qa.cells bh4.1)),(13,(jI v417))],[])
 | .ret=>(.ret,mkS [(4,(jB false))],[])
def f4n3S(bd1:Int)(bi2:Bool)(bh3 bh4:(List Qa)×Int)(ba5:Qe)(bl6:List Int):Tr×Hp:=(mkS [(1,(jI bd1)),(2,(.bp 0 0)),(5,(jB bi2)),(6,(jL 3 Qa.cells bh3.1)),(9,(.own 1)),(11,(jL 3 Qa.cells bh4.1)),(13,(jI 0))],[some (.box ((Qe.cells ba5).map .pl)),some (.row false 1 (bl6.map (cInt .i64)))])
noncomputable def f4n3(bd1:Int)(bi2:Bool)(bh3 bh4:(List Qa)×Int)(ba5:Qe)(bl6:List Int):Option f4n3O :=
 (f4n7 FUEL bd1 bi2 bh3 bh4 ba5 bl6 0 0).bind fun o414=>match o414 with
 | .exit2 v416=>some (.norm v416)
 | .ret=>some .ret
theorem f4n3_ok(bd1:Int)(bi2:Bool)(bh3 bh4:(List Qa)×Int)(ba5:Qe)(bl6:List Int){o:f4n3O}(h:f4n3 bd1 bi2 bh3 bh4 ba5 bl6=some o):T Try.prog Try.f4.ntmps 0 (cL (Qk 3 (Qk 1 (Qk 3 (Qk 4 c4))))) (f4n3S bd1 bi2 bh3 bh4 ba5 bl6) (·=f4n3E bd1 bi2 bh3 bh4 ba5 bl6 o):=by
 unfold f4n3 at h;refine rN Qh 1 [j3] [] [] [0,1] [1,2,5,6,9,11,13,14] (f4n7S bd1 bi2 bh3 bh4 ba5 bl6 0 0) an ?_;obtain ⟨o414,h415,h⟩:=Qf h;cases o414 with
 | exit2 v416 =>
  obtain rfl:=Qg h;exact T.last' (T.bl (i:=2) (by kernel_rfl) (by kernel_rfl) (f4n7_ok FUEL bd1 bi2 bh3 bh4 ba5 bl6 0 0 h415)) (tds:=[]) (m:=[]) (keep:=[5,11,13]) (st2:=(f4n3E bd1 bi2 bh3 bh4 ba5 bl6 (.norm v416)).2) (by kernel_rfl) an rfl
 | ret =>
  obtain rfl:=Qg h;exact T.last' (T.bl (i:=2) (by kernel_rfl) (by kernel_rfl) (f4n7_ok FUEL bd1 bi2 bh3 bh4 ba5 bl6 0 0 h415)) (tds:=[]) (m:=[]) (keep:=[4]) (st2:=(f4n3E bd1 bi2 bh3 bh4 ba5 bl6 .ret).2) (by kernel_rfl) an rfl
inductive f4n0O where
 | ret (v421:Bool)
def f4n0E(a1:Qe)(a2:Int):f4n0O→Ex×Tr×Hp
 | .ret v421=>(.ret,mkS [(4,(jB v421))],[])
def f4n0S(a1:Qe)(a2:Int):Tr×Hp:=(Qan [(jA Qe.cells a1),(jI a2)] 0 .leaf,[])
noncomputable def f4n0(a1:Qe)(a2:Int):Option f4n0O :=
 f10.bind fun x5 =>
 (f11 a1).bind fun x13 =>
 bif x13 then
  some (.ret x5)
 else
  bif decide (a2<0) then
   some (.ret x5)
  else
   bif decide ((a1.Lots.length:Int)≤a2) then
    some (.ret x5)
   else
    bif x5 then
     (f12 a1).bind fun x21 =>
     bif decide (x21.2=0) then
      (at? a1.Lots a2).bind fun x27 =>
      (f4n1 a2 x5 x21 a1 x27).bind fun o87=>match o87 with
      | .norm v89 v90=>(f12 (Qe.mk a1.Rule [x27] v90)).bind fun x93 =>
       bif decide (x93.2=0) then
        (f4n3 a2 x5 x21 x93 a1 v89).bind fun o418=>match o418 with
        | .norm v420=>some (.ret (decide (v420=(x93.1.length:Int))))
        | .ret=>some (.ret false)
       else
        some (.ret false)
     else
      some (.ret x5)
    else
     some (.ret x5)
theorem f4n0_ok(a1:Qe)(a2:Int){o:f4n0O}(h:f4n0 a1 a2=some o):T Try.prog Try.f4.ntmps 0 c4 (f4n0S a1 a2) (·=f4n0E a1 a2 o):=by
 unfold f4n0 at h;obtain ⟨x5,h6,h⟩:=Qf h;obtain ⟨x13,h14,h⟩:=Qf h;rcases Qj h with ⟨h15,h⟩|⟨h15,h⟩
 ·obtain rfl:=Qg h;exact rK Qh 3 [j3,([],[jH 0 (jB x5)],[]),([(3,true),(4,true)],[jH 1 (jB x13),(5,.bool true)],[]),j3] [none] [] [] [4] .ret ((f4n0E a1 a2 (.ret x5)).2) (ap (f10_ok h6) (ap3 h15 (ap (f11_ok a1 h14) an))) rfl
 ·rcases Qj h with ⟨h16,h⟩|⟨h16,h⟩
  ·obtain rfl:=Qg h;exact rK Qh 3 [j3,([],[jH 0 (jB x5)],[]),(jF [3,4]++jT [7,8,9,10,11],[jH 1 (jB x13),(5,.bool false),(12,.bool true)],[]),j3] [none] [] [] [4] .ret ((f4n0E a1 a2 (.ret x5)).2) (ap (f10_ok h6) (ap3 h15 (ap2 h16 (ap4 h16 (ap (f11_ok a1 h14) an))))) rfl
  ·rcases Qj h with ⟨h17,h⟩|⟨h17,h⟩
   ·obtain rfl:=Qg h;exact rK Qh 3 [j3,([],[jH 0 (jB x5)],[]),(jF [3,4,7,8,9,10,11]++jT [14,15],[jH 1 (jB x13),(5,.bool false),(12,.bool false),(16,.bool true)],[(10,.val (jI (a1.Lots.length:Int)))]),j3] [none] [] [] [4] .ret ((f4n0E a1 a2 (.ret x5)).2) (ap (f10_ok h6) (ap3 h15 (ap4 h16 (ap (Qac (xs:=a1.Lots) (c:=Qb.cells)) (ap2 h16 (ap3 h17 (ap (f11_ok a1 h14) an))))))) rfl
   ·rcases Qj h with ⟨h18,h⟩|⟨h18,h⟩
    ·obtain ⟨x21,h22,h⟩:=Qf h;refine rN Qh 4 [j3,([],[jH 0 (jB x5)],[]),(jF [3,4,7,8,9,10,11,14,15],[jH 1 (jB x13),(5,.bool false),(12,.bool false),(16,.bool false)],[(10,.val (jI (a1.Lots.length:Int)))]),([],[jH 1 (.tup [(jL 3 Qa.cells x21.1),(jI x21.2)])],[])] [some false] [] [0] [1,2,5,6,7] (mkS [(1,(jI a2)),(2,(.bp 0 0)),(5,(jB x5)),(6,(jL 3 Qa.cells x21.1)),(7,(jI x21.2))],[some (.box ((Qe.cells a1).map .pl))]) (ap (f10_ok h6) (ap3 h15 (ap4 h16 (ap (Qac (xs:=a1.Lots) (c:=Qb.cells)) (ap2 h16 (ap3 h17 (ap (f11_ok a1 h14) (ap (Qal h18) (ap (f12_ok a1 h22) an))))))))) ?_;rcases Qj h with ⟨h24,h⟩|⟨h24,h⟩
     ·obtain ⟨x27,h28,h⟩:=Qf h;refine rN Qh 3 [j3,([],[(5,.idx (Int.toNat a2) (Qb.cells x27))],[]),j3] [some false] [] [0,2,1] [1,2,5,6,8,9] (f4n1S a2 x5 x21 a1 x27) (ap (Qal h24) (ap (Qi h28).1 (ap (Qn Qb.cells (Qi h28).2) an))) ?_;obtain ⟨o87,h88,h⟩:=Qf h;cases o87 with
      | norm v89 v90 =>
       refine T.oneN (by kernel_rfl) (f4n1_ok a2 x5 x21 a1 x27 h88) (st2:=(f4n1E a2 x5 x21 a1 x27 (.norm v89 v90)).2) rfl ?_;obtain ⟨x93,h94,h⟩:=Qf h;rcases Qj h with ⟨h96,h⟩|⟨h96,h⟩
       ·refine rN Qh 3 [([],[jH 1 (.tup [(jL 3 Qa.cells x93.1),(jI x93.2)])],[]),j3,j3] [some false] [] [0,2] [1,2,5,6,9,11,13] (f4n3S a2 x5 x21 x93 a1 v89) (ap (f12_ok (Qe.mk a1.Rule [x27] v90) h94) (ap (Qal h96) an)) ?_;obtain ⟨o418,h419,h⟩:=Qf h;cases o418 with
        | norm v420 =>
         refine T.oneN (by kernel_rfl) (f4n3_ok a2 x5 x21 x93 a1 v89 h419) (st2:=(f4n3E a2 x5 x21 x93 a1 v89 (.norm v420)).2) rfl ?_;obtain rfl:=Qg h;exact rE Qh [(jT [2,3,4,5],[(6,.bool true)],[(4,.val (jI (x93.1.length:Int)))])] [] [] [] [4] (.ret,(f4n0E a1 a2 (.ret (decide (v420=(x93.1.length:Int))))).2) (ap3 h18 (ap (Qac (xs:=x93.1) (c:=Qa.cells)) (ap2 h18 an))) rfl
        | ret =>
         obtain rfl:=Qg h;exact T.oneX' (by kernel_rfl) (f4n3_ok a2 x5 x21 x93 a1 v89 h419) (tds:=[]) (m:=[]) (keep:=[4]) (st2:=(f4n0E a1 a2 (.ret false)).2) (by kernel_rfl) an rfl rfl
       ·obtain rfl:=Qg h;exact rK Qh 2 [([],[jH 1 (.tup [(jL 3 Qa.cells x93.1),(jI x93.2)])],[]),j3,j3] [some true] [] [] [4] .ret ((f4n0E a1 a2 (.ret false)).2) (ap (f12_ok (Qe.mk a1.Rule [x27] v90) h94) (ap (Qau h96) an)) rfl
     ·obtain rfl:=Qg h;exact rK Qh 1 [j3,j3] [some true] [] [] [4] .ret ((f4n0E a1 a2 (.ret x5)).2) (ap (Qau h24) an) rfl
    ·obtain rfl:=Qg h;exact rK Qh 3 [j3,([],[jH 0 (jB x5)],[]),(jF [3,4,7,8,9,10,11,14,15],[jH 1 (jB x13),(5,.bool false),(12,.bool false),(16,.bool false)],[(10,.val (jI (a1.Lots.length:Int)))]),j3] [some true] [] [] [4] .ret ((f4n0E a1 a2 (.ret x5)).2) (ap (f10_ok h6) (ap3 h15 (ap4 h16 (ap (Qac (xs:=a1.Lots) (c:=Qb.cells)) (ap2 h16 (ap3 h17 (ap (f11_ok a1 h14) (ap (Qau h18) an)))))))) rfl
noncomputable def f4(a1:Qe)(a2:Int):Option Bool:=(f4n0 a1 a2).bind fun o=>match o with
 | .ret v421=>some v421
theorem f4_ok(a1:Qe)(a2:Int){r:Bool}(h:f4 a1 a2=some r):Qp Try.prog false 4 [(jA Qe.cells a1),(jI a2)] [] (jB r) []:=by
 unfold f4 at h;obtain ⟨o,ho,h⟩:=Qf h;cases o with
 | ret v421 =>
  obtain rfl:=Qg h;exact Qp.plain Qh (f:=Try.f4) (c:=c4) (by kernel_rfl) (by kernel_rfl) (by kernel_rfl) (by kernel_rfl) ((f4n0_ok a1 a2 ho).mono fun r e=>by subst e; exact ⟨.inl rfl,(jB v421),(jB v421),by kernel_rfl,by kernel_rfl,((Wk.refl _):Wk (jB v421) (jB v421))⟩)
end Go.Proofs.Ythpceddjepbamaa
namespace Go.Proofs.Ythpceddjepbamaa
set_option linter.unusedVariables false
set_option linter.unusedSimpArgs false
set_option maxRecDepth 100000
open Go.RowKit





noncomputable def c6:Code:=Try.f6.body.getD .skip


end Go.Proofs.Ythpceddjepbamaa
namespace Go.Proofs.Ythpceddjepbamaa
set_option linter.unusedVariables false
set_option linter.unusedSimpArgs false
set_option maxRecDepth 100000
open Go.RowKit

noncomputable def c7:Code:=Try.f7.body.getD .skip







end Go.Proofs.Ythpceddjepbamaa
namespace Go.Proofs.Ythpceddjepbamaa
set_option linter.unusedVariables false
set_option linter.unusedSimpArgs false
set_option maxRecDepth 100000
open Go.RowKit













end Go.Proofs.Ythpceddjepbamaa
namespace Go.Proofs.Ythpceddjepbamaa
set_option linter.unusedVariables false
set_option linter.unusedSimpArgs false
set_option maxRecDepth 100000
open Go.RowKit











end Go.Proofs.Ythpceddjepbamaa
namespace Go.Proofs.Ythpceddjepbamaa
set_option linter.unusedVariables false
set_option linter.unusedSimpArgs false
open Go.RowKit
section
variable {c:Qd→Qd→Int} (hc:∀x y,f55 x y=some (c x y)) (o:SWo fun x y=>decide (c x y<0))
abbrev Qu(c:Qd→Qd→Int):Qd→Qd→Bool:=fun x y=>decide (c x y<0)

include hc o in
theorem st_ins_in(a b i:Int):∀(n:Nat)(S P R:List Qd)(x:Qd)(f:Nat),S.length=n→n<f→P.length+n≤1000000→Sd (Qu c) S →
  ∃S',f80r1n2 f a b i ((P.length+n:Nat):Int) (P++(S++x::R))=some (.exit2 (P++(S'++R)))∧Sd (Qu c) S'∧Cl (Qu c) (S++[x]) S'∨a≠(P.length:Int)
 | _,S,P,R,x,0,_,h,_,_=>absurd h (Nat.not_lt_zero _)
 | n,S,P,R,x,f+1,hn,hf,hb,hs=>by
  by_cases ha:a=(P.length:Int)
  ·subst ha;rcases List.eq_nil_or_concat S with rfl | ⟨S0,y,rfl⟩
   ·refine ⟨[x],.inl ⟨?_,by simp,Cl.refl _⟩⟩;have:n=0:=by simpa using hn.symm
    subst this;rw [f80r1n2,decide_eq_false (by omega),cond_false]; simp
   ·rw [List.concat_eq_append] at hn hs ⊢;have hn':n=S0.length+1:=by simpa using hn.symm
    subst hn';have e1:P++((S0++[y])++x::R)=(P++S0)++y::x::R:=by simp
    have e2:P++((S0++[y])++x::R)=((P++S0)++[y])++x::R:=by simp
    have k1:wr64 (((P.length+(S0.length+1):Nat):Int)-1)=((P.length+S0.length:Nat):Int):=by rw [wrIn (by omega) (by omega)]; omega
    rw [f80r1n2,decide_eq_true (by omega),cond_true,k1,at_len (k:=P.length+(S0.length+1)) e2 (by simp<;>omega),at_len (k:=P.length+S0.length) e1 (by simp)];simp only [Option.bind_some,hc];rw [show (Int.toNat ((P.length+(S0.length+1):Nat):Int))=P.length+(S0.length+1) from rfl,show (Int.toNat ((P.length+S0.length:Nat):Int))=P.length+S0.length from rfl,set_len (k:=P.length+(S0.length+1)) (y:=y) e2 (by simp<;>omega)];have e3:((P++S0)++[y])++y::R=(P++S0)++y::y::R:=by simp
    rw [at_len (k:=P.length+S0.length) e3 (by simp),set_len (k:=P.length+S0.length) (y:=x) e3 (by simp)];cases hlt:decide (c x y<0) with
    | true =>
     have hs':=List.pairwise_append.1 hs;rcases st_ins_in (P.length:Int) b i S0.length S0 P (y::R) x f rfl (by omega) (by omega) hs'.1 with ⟨S',h | h⟩
     ·obtain ⟨h1,h2,h3⟩:=h;simp only [cond_true,Option.bind_some];rw [show (P++S0)++x::y::R=P++(S0++x::(y::R)) by simp,h1];refine ⟨S'++[y],.inl ⟨by simp,h2.app (by simp) fun z hz w hw=>?_,?_⟩⟩
      ·rw [List.mem_singleton.1 hw];rcases List.mem_append.1 (h3.mem.1 hz) with hz | hz
       ·exact hs'.2.2 z hz y (by simp)
       ·rw [List.mem_singleton.1 hz]; exact o.asym hlt
      ·have e:=(Cl.refl (lt:=Qu c) S0).app (Cl.swap (lt:=Qu c) (u:=[y]) (v:=[x]) o (fun a ha b hb=>by rw [List.mem_singleton.1 ha,List.mem_singleton.1 hb]; exact hlt));have e':=e.trans (by simpa using h3.app (Cl.refl (lt:=Qu c) [y]):Cl (Qu c) (S0++([x]++[y])) (S'++[y]));simpa using e'
     ·exact absurd rfl h
    | false =>
     refine ⟨(S0++[y])++[x],.inl ⟨by simp,hs.app (by simp) fun z hz w hw=>?_,Cl.refl _⟩⟩;rw [List.mem_singleton.1 hw];rcases List.mem_append.1 hz with hz | hz
     ·exact o.nt hlt ((List.pairwise_append.1 hs).2.2 z hz y (by simp))
     ·rw [List.mem_singleton.1 hz]; exact hlt
  ·exact ⟨[],.inr ha⟩
include hc o in
theorem st_ins_out:∀(X S P R:List Qd)(f:Nat),X.length<f→P.length+S.length+X.length≤1000000→Sd (Qu c) S →
  ∃S',f80r1n3 f (P.length:Int) ((P.length+S.length+X.length:Nat):Int) ((P.length+S.length:Nat):Int) (P++(S++(X++R)))=some (.exit0 (P++(S'++R)))∧Sd (Qu c) S'∧Cl (Qu c) (S++X) S'
 | _,S,P,R,0,h,_,_=>absurd h (Nat.not_lt_zero _)
 | [],S,P,R,f+1,_,_,hs=>⟨S,by rw [f80r1n3,decide_eq_false (by simp),cond_false]; simp,hs,by simpa using Cl.refl _⟩
 | x::X,S,P,R,f+1,hf,hb,hs=>by
  simp only [List.length_cons] at hf hb;rcases st_ins_in hc o (P.length:Int) ((P.length+S.length+(x::X).length:Nat):Int) ((P.length+S.length:Nat):Int) S.length S P (X++R) x FUEL rfl (Qba (Nat.le_trans (by omega:S.length≤1000000) (by unfold maxLen; decide))) (by omega) hs with ⟨S1,h | h⟩
  ·obtain ⟨h1,h2,h3⟩:=h;have hl:=h3.len;simp only [List.length_append,List.length_cons,List.length_nil] at hl;obtain ⟨S',k1,k2,k3⟩:=st_ins_out X S1 P R f (by omega) (by omega) h2;refine ⟨S',?_,k2,?_⟩
   ·rw [f80r1n3,decide_eq_true (by simp only [List.length_cons]; omega),cond_true];unfold f80r1n1;rw [show P++(S++(x::X++R))=P++(S++x::(X++R)) by simp,h1];simp only [Option.bind_some];rw [show wr64 (((P.length+S.length:Nat):Int)+1)=((P.length+S1.length:Nat):Int) by rw [wrIn (by omega) (by omega)]; omega];rw [show ((P.length+S.length+(x::X).length:Nat):Int)=((P.length+S1.length+X.length:Nat):Int) by simp only [List.length_cons]; omega];exact k1
   ·have:=(h3.app (Cl.refl (lt:=Qu c) X)).trans k3;simpa using this
  ·exact absurd rfl h
include hc o in
theorem st_ins_ok(P X R:List Qd)(hb:P.length+X.length≤1000000):f80r1 (P.length:Int) ((P.length+X.length:Nat):Int) (P++(X++R))=some (P++(Qax (Qu c) X++R)):=by
 have main:f80r1n3 FUEL (P.length:Int) ((P.length+X.length:Nat):Int) (wr64 ((P.length:Int)+1)) (P++(X++R))=some (.exit0 (P++(Qax (Qu c) X++R))):=by
  rw [show wr64 ((P.length:Int)+1)=((P.length+1:Nat):Int) by rw [wrIn (by omega) (by omega)]; omega];have hF:∀n:Nat,n≤1000000→n<FUEL:=fun n hn=>Qba (Nat.le_trans hn (by unfold maxLen; decide));cases X with
  | nil =>
   have:FUEL=(FUEL-1)+1:=by decide
   rw [this,f80r1n3,decide_eq_false (by simp<;>omega),cond_false]; rfl
  | cons x X =>
   simp only [List.length_cons] at hb;obtain ⟨S',k1,k2,k3⟩:=st_ins_out hc o X [x] P R FUEL (hF _ (by omega)) (by simp<;>omega) (by simp);rw [sortS_of o k2 k3] at k1;simp only [List.length_cons,List.length_nil,List.cons_append,List.nil_append] at k1 ⊢;rw [show P.length+(X.length+1)=P.length+(0+1)+X.length by omega,show P.length+1=P.length+(0+1) by omega];exact k1
 unfold f80r1 f80r1n0;rw [main]; rfl
end
theorem st_swp_at:∀(X Y A M S:List Qd)(a b i n f:Nat),X.length=Y.length→X.length<f→a+i=A.length→b+i=A.length+X.length+M.length→n=i+X.length→A.length+X.length+M.length+Y.length≤1000000 →
  f89r1n1 f (a:Int) (b:Int) (n:Int) (i:Int) (A++(X++(M++(Y++S))))=some (.exit0 (A++(Y++(M++(X++S)))))
 | _,_,_,_,_,_,_,_,_,0,_,h,_,_,_,_=>absurd h (Nat.not_lt_zero _)
 | [],[],A,M,S,a,b,i,n,f+1,_,_,_,_,hn,_=>by rw [f89r1n1,decide_eq_false (by simp at hn; omega),cond_false]
 | [],y::Y,_,_,_,_,_,_,_,_+1,h,_,_,_,_,_=>absurd h (by simp)
 | x::X,[],_,_,_,_,_,_,_,_+1,h,_,_,_,_,_=>absurd h (by simp)
 | x::X,y::Y,A,M,S,a,b,i,n,f+1,h,hf,ha,hb,hn,hl=>by
  simp only [List.length_cons] at h hf hb hn hl;have e1:A++(x::X++(M++(y::Y++S)))=A++x::(X++(M++(y::Y++S))):=by simp
  have e2:A++(x::X++(M++(y::Y++S)))=(A++(x::X++M))++y::(Y++S):=by simp
  have e3:A++y::(X++(M++(y::Y++S)))=(A++(y::X++M))++y::(Y++S):=by simp
  have k1:wr64 ((a:Int)+(i:Int))=((a+i:Nat):Int):=by rw [wrIn (by omega) (by omega)]; omega
  have k2:wr64 ((b:Int)+(i:Int))=((b+i:Nat):Int):=by rw [wrIn (by omega) (by omega)]; omega
  have k3:wr64 ((i:Int)+1)=((i+1:Nat):Int):=by rw [wrIn (by omega) (by omega)]; omega
  rw [f89r1n1,decide_eq_true (by omega),cond_true,k1,k2,k3,at_len e2 (by simp<;>omega),at_len e1 ha];simp only [Option.bind_some];rw [show (Int.toNat ((a+i:Nat):Int))=a+i from rfl,show (Int.toNat ((b+i:Nat):Int))=b+i from rfl,set_len (y:=y) e1 ha,at_len e3 (by simp<;>omega),set_len (y:=x) e3 (by simp<;>omega)];simp only [Option.bind_some];have ih:=st_swp_at X Y (A++[y]) (M++[x]) S a b (i+1) n f (by omega) (by omega) (by simp<;>omega) (by simp<;>omega) (by omega) (by simp<;>omega);rw [show (A++(y::X++M))++x::(Y++S)=(A++[y])++(X++((M++[x])++(Y++S))) by simp,ih]
  simp
theorem st_swp_ok(P X M Y S:List Qd){a b n:Nat}(h:X.length=Y.length)(ha:a=P.length)(hb:b=P.length+X.length+M.length)(hn:n=X.length)(hl:P.length+X.length+M.length+Y.length≤1000000) :
  f89r1 (a:Int) (b:Int) (n:Int) (P++(X++(M++(Y++S))))=some (P++(Y++(M++(X++S)))):=by
 have k:=st_swp_at X Y P M S a b 0 n FUEL h (Qba (Nat.le_trans (by omega:X.length≤1000000) (by unfold maxLen; decide))) (by omega) (by omega) (by omega) hl;unfold f89r1 f89r1n0;rw [show (0:Int)=((0:Nat):Int) from rfl,k]; rfl

theorem st_rot_at:∀(n:Nat)(P U V S:List Qd)(f m:Nat),U.length+V.length≤n→n<f→0<U.length→0<V.length→m=P.length+U.length→P.length+U.length+V.length≤1000000 →
  ∃i l,f87r1n1 f (m:Int) (U.length:Int) (V.length:Int) (P++(U++(V++S)))=some (.exit0 i l)∧f89r1 (wr64 ((m:Int)-i)) (m:Int) i l=some (P++(V++(U++S)))
 | _,_,_,_,_,0,_,_,h,_,_,_,_=>absurd h (Nat.not_lt_zero _)
 | 0,_,_,_,_,_+1,_,h,_,hu,_,_,_=>by omega
 | n+1,P,U,V,S,f+1,m,h,hf,hu,hv,hm,hl=>by
  rw [f87r1n1]
  by_cases he:U.length=V.length
  ·rw [decide_eq_true (by omega),cond_true];refine ⟨_,_,rfl,?_⟩;rw [show wr64 ((m:Int)-(U.length:Int))=((P.length:Nat):Int) by rw [wrIn (by omega) (by omega)]; omega];have:=st_swp_ok P U [] V S (a:=P.length) (b:=m) (n:=U.length) he rfl (by simp<;>omega) rfl (by simp<;>omega);simpa using this
  ·rw [decide_eq_false (by omega),cond_false]
   by_cases hlt:V.length<U.length
   ·rw [decide_eq_true (by omega),cond_true];obtain ⟨U1,U2,rfl,hU1⟩:=cutL_ (l:=U) (n:=V.length) (by omega);simp only [List.length_append] at *;rw [show wr64 ((m:Int)-((U1.length+U2.length:Nat):Int))=((P.length:Nat):Int) by rw [wrIn (by omega) (by omega)]; omega];have k:=st_swp_ok P U1 U2 V S (a:=P.length) (b:=m) (n:=V.length) hU1 rfl (by omega) hU1.symm (by omega);rw [show P++((U1++U2)++(V++S))=P++(U1++(U2++(V++S))) by simp,k];simp only [Option.bind_some];obtain ⟨i,l,q1,q2⟩:=st_rot_at n (P++V) U2 U1 S f m (by omega) (by omega) (by omega) (by omega) (by simp<;>omega) (by simp<;>omega);refine ⟨i,l,?_,by rw [q2]; simp⟩;rw [show wr64 (((U1.length+U2.length:Nat):Int)-(V.length:Int))=((U2.length:Nat):Int) by rw [wrIn (by omega) (by omega)]; omega,←hU1];rw [show P++(V++(U2++(U1++S)))=(P++V)++(U2++(U1++S)) by simp];exact q1
   ·rw [decide_eq_false (by omega),cond_false];obtain ⟨V1,V2,rfl,hV2⟩:=cutR_ (l:=V) (n:=U.length) (by omega);simp only [List.length_append] at *;rw [show wr64 ((m:Int)-(U.length:Int))=((P.length:Nat):Int) by rw [wrIn (by omega) (by omega)]; omega];rw [show wr64 (wr64 ((m:Int)+((V1.length+V2.length:Nat):Int))-(U.length:Int))=((m+V1.length:Nat):Int) by rw [wrIn (n:=(m:Int)+((V1.length+V2.length:Nat):Int)) (by omega) (by omega),wrIn (by omega) (by omega)]; omega];have k:=st_swp_ok P U V1 V2 S (a:=P.length) (b:=m+V1.length) (n:=U.length) hV2.symm rfl (by omega) rfl (by omega);rw [show P++(U++((V1++V2)++S))=P++(U++(V1++(V2++S))) by simp,k];simp only [Option.bind_some];obtain ⟨i,l,q1,q2⟩:=st_rot_at n P V2 V1 (U++S) f m (by omega) (by omega) (by omega) (by omega) (by omega) (by omega);refine ⟨i,l,?_,by rw [q2]; simp⟩
    rw [show wr64 (((V1.length+V2.length:Nat):Int)-(U.length:Int))=((V1.length:Nat):Int) by rw [wrIn (by omega) (by omega)]; omega,←hV2];exact q1
theorem st_rot_ok(P U V S:List Qd){a m b:Nat}(ha:a=P.length)(hm:m=P.length+U.length)(hb:b=P.length+U.length+V.length)(hu:0<U.length)(hv:0<V.length)(hl:P.length+U.length+V.length≤1000000) :
  f87r1 (a:Int) (m:Int) (b:Int) (P++(U++(V++S)))=some (P++(V++(U++S))):=by
 obtain ⟨i,l,q1,q2⟩:=st_rot_at (U.length+V.length) P U V S FUEL m (Nat.le_refl _) (Qba (Nat.le_trans (by omega:U.length+V.length≤1000000) (by unfold maxLen; decide))) hu hv hm hl;unfold f87r1 f87r1n0;rw [show wr64 ((m:Int)-(a:Int))=((U.length:Nat):Int) by rw [wrIn (by omega) (by omega)]; omega,show wr64 ((b:Int)-(m:Int))=((V.length:Nat):Int) by rw [wrIn (by omega) (by omega)]; omega,q1];simp only [Option.bind_some,q2]
end Go.Proofs.Ythpceddjepbamaa
namespace Go.Proofs.Ythpceddjepbamaa
set_option linter.unusedVariables false
set_option linter.unusedSimpArgs false
open Go.RowKit
abbrev st_self:=Int→Int→Int→List Qd→Option (List Qd)
theorem st_half{a b:Nat}(h:a+b≤1000000000):wr64 (shrK .u64 (Qs (wr64 ((a:Int)+(b:Int)))) 1)=(((a+b) / 2:Nat):Int):=by
 rw [show (a:Int)+(b:Int)=((a+b:Nat):Int) by omega]; exact half_eq h
section
variable {c:Qd→Qd→Int} (hc:∀x y,f55 x y=some (c x y)) (self:st_self)
include hc
theorem st_n3{l:List Qd}{x:Qd}{a:Int}(hx:at? l a=some x)(hl:l.length≤1000000):∀(f lo hi:Nat),hi≤l.length→lo≤1000000→f81r1n3 self f a l (lo:Int) (hi:Int)=(bsN (pq (fun y=>decide (c y x<0)) l) f lo hi).map fun r=>.exit0 (r:Int)
 | 0,lo,hi,_,_=>rfl
 | f+1,lo,hi,h,h0=>by
  rw [f81r1n3,bsN]
  by_cases hlt:lo<hi
  ·have hk:(lo+hi) / 2<l.length:=by omega
   rw [decide_eq_true hlt,decide_eq_true (by omega:(lo:Int)<(hi:Int)),st_half (by omega),at_in hk,hx];simp only [cond_true,Option.bind_some,hc];have ep:pq (fun y=>decide (c y x<0)) l ((lo+hi) / 2)=decide (c l[(lo+hi) / 2] x<0):=by unfold pq; rw [List.getElem?_eq_getElem hk]
   rw [ep];cases decide (c l[(lo+hi) / 2] x<0) with
   | true=>rw [cond_true,cond_true,show wr64 ((((lo+hi) / 2:Nat):Int)+1)=(((lo+hi) / 2+1:Nat):Int) by rw [wrIn (by omega) (by omega)]; omega]; exact st_n3 hx hl f _ _ h (by omega)
   | false=>rw [cond_false,cond_false]; exact st_n3 hx hl f _ _ (by omega) h0
  ·rw [decide_eq_false hlt,decide_eq_false (by omega:¬(lo:Int)<(hi:Int))]; rfl
theorem st_n8{l:List Qd}{x:Qd}{a:Int}(hx:at? l a=some x)(hl:l.length≤1000000):∀(f lo hi:Nat),hi≤l.length→lo≤1000000→f81r1n8 self f a l (lo:Int) (hi:Int)=(bsN (pq (fun y=>!decide (c x y<0)) l) f lo hi).map fun r=>.exit4 (r:Int)
 | 0,lo,hi,_,_=>rfl
 | f+1,lo,hi,h,h0=>by
  rw [f81r1n8,bsN]
  by_cases hlt:lo<hi
  ·have hk:(lo+hi) / 2<l.length:=by omega
   rw [decide_eq_true hlt,decide_eq_true (by omega:(lo:Int)<(hi:Int)),st_half (by omega),at_in hk,hx];simp only [cond_true,Option.bind_some,hc];have ep:pq (fun y=>!decide (c x y<0)) l ((lo+hi) / 2) = !decide (c x l[(lo+hi) / 2]<0):=by unfold pq; rw [List.getElem?_eq_getElem hk]
   rw [ep];cases decide (c x l[(lo+hi) / 2]<0) with
   | true=>simp only [cond_true,Bool.not_true,cond_false]; exact st_n8 hx hl f _ _ (by omega) h0
   | false=>simp only [cond_true,Bool.not_false,cond_false]; rw [show wr64 ((((lo+hi) / 2:Nat):Int)+1)=(((lo+hi) / 2+1:Nat):Int) by rw [wrIn (by omega) (by omega)]; omega]; exact st_n8 hx hl f _ _ h (by omega)
  ·rw [decide_eq_false hlt,decide_eq_false (by omega:¬(lo:Int)<(hi:Int))]; rfl
def st_pr(c:Qd→Qd→Int)(l:List Qd)(n h:Nat):Bool:=match l[n-1-h]?,l[h]? with | some y,some x=>!decide (c y x<0) | _,_=>false
theorem st_n12{l:List Qd}{a m b:Nat}(hl:l.length≤1000000)(hb:b≤l.length)(ham:a≤m)(hmb:m≤b):∀(f lo hi:Nat),(∀h,lo≤h→h<hi→h+1≤(a+b) / 2+m∧(a+b) / 2+m-1-h<l.length∧h<l.length)→lo≤1000000→hi≤1000000 →
  f81r1n12 self f (a:Int) (m:Int) (b:Int) l (lo:Int) (hi:Int)=(bsN (st_pr c l ((a+b) / 2+m)) f lo hi).map fun r=>.exit8 (r:Int)
 | 0,lo,hi,_,_,_=>rfl
 | f+1,lo,hi,h,h0,h00=>by
  rw [f81r1n12,bsN]
  by_cases hlt:lo<hi
  ·obtain ⟨k1,k2,k3⟩:=h ((lo+hi) / 2) (by omega) (by omega);rw [decide_eq_true hlt,decide_eq_true (by omega:(lo:Int)<(hi:Int)),st_half (a:=lo) (b:=hi) (by omega),st_half (a:=a) (b:=b) (by omega),at_in k3];rw [wrIn (n:=(((a+b) / 2:Nat):Int)+(m:Int)) (by omega) (by omega),wrIn (n:=(((a+b) / 2:Nat):Int)+(m:Int)-1) (by omega) (by omega),wrIn (by omega) (by omega)];rw [show (((a+b) / 2:Nat):Int)+(m:Int)-1-(((lo+hi) / 2:Nat):Int)=(((a+b) / 2+m-1-(lo+hi) / 2:Nat):Int) by omega,at_in k2];simp only [cond_true,Option.bind_some,hc];have ep:st_pr c l ((a+b) / 2+m) ((lo+hi) / 2) = !decide (c l[(a+b) / 2+m-1-(lo+hi) / 2] l[(lo+hi) / 2]<0):=by unfold st_pr; rw [List.getElem?_eq_getElem k3,List.getElem?_eq_getElem k2]
   rw [ep];cases decide (c l[(a+b) / 2+m-1-(lo+hi) / 2] l[(lo+hi) / 2]<0) with
   | true=>simp only [cond_true,Bool.not_true,cond_false]; exact st_n12 hl hb ham hmb f _ _ (fun i hi1 hi2=>h i hi1 (by omega)) h0 (by omega)
   | false =>
    simp only [cond_true,Bool.not_false,cond_false];rw [show wr64 ((((lo+hi) / 2:Nat):Int)+1)=(((lo+hi) / 2+1:Nat):Int) by rw [wrIn (by omega) (by omega)]; omega];exact st_n12 hl hb ham hmb f _ _ (fun i hi1 hi2=>h i (by omega) hi2) (by omega) h00
  ·rw [decide_eq_false hlt,decide_eq_false (by omega:¬(lo:Int)<(hi:Int))]; rfl
omit hc
theorem st_n5:∀(Z A R:List Qd)(x:Qd)(f i:Nat),Z.length<f→i=A.length+Z.length+1→i≤1000000→f81r1n5 self f (i:Int) (A.length:Int) (A++x::(Z++R))=some (.exit2 (A++(Z++x::R)))
 | _,_,_,_,0,_,h,_,_=>absurd h (Nat.not_lt_zero _)
 | [],A,R,x,f+1,i,_,hi,hl=>by
  simp only [List.length_nil] at hi;rw [f81r1n5,wrIn (by omega) (by omega),decide_eq_false (by omega),cond_false]; rfl
 | z::Z,A,R,x,f+1,i,hf,hi,hl=>by
  simp only [List.length_cons] at hf hi;have e1:A++x::(z::Z++R)=(A++[x])++z::(Z++R):=by simp
  have e2:A++x::(z::Z++R)=A++x::(z::Z++R):=rfl;have e3:A++z::(z::Z++R)=(A++[z])++z::(Z++R):=by simp
  rw [f81r1n5,wrIn (n:=(i:Int)-1) (by omega) (by omega),decide_eq_true (by omega),cond_true,show wr64 ((A.length:Int)+1)=((A.length+1:Nat):Int) by rw [wrIn (by omega) (by omega)]; omega];rw [at_len e1 (by simp),at_len e2 rfl];simp only [Option.bind_some];rw [show (Int.toNat (A.length:Int))=A.length from rfl,show (Int.toNat ((A.length+1:Nat):Int))=A.length+1 from rfl,set_len (y:=z) e2 rfl,at_len e3 (by simp),set_len (y:=x) e3 (by simp)];simp only [Option.bind_some];have ih:=st_n5 Z (A++[z]) R x f i (by omega) (by simp<;>omega) hl;rw [List.length_append] at ih;simp only [List.length_cons,List.length_nil] at ih;rw [show A.length+1=A.length+(0+1) by omega,ih]
  simp
theorem st_n10:∀(n:Nat)(Z A R:List Qd)(x:Qd)(f:Nat),Z.length=n→n<f→A.length+n≤1000000→f81r1n10 self f (A.length:Int) ((A.length+n:Nat):Int) (A++(Z++x::R))=some (.exit6 (A++x::(Z++R)))
 | _,_,_,_,_,0,_,h,_=>absurd h (Nat.not_lt_zero _)
 | n,Z,A,R,x,f+1,hz,hf,hl=>by
  rcases List.eq_nil_or_concat Z with rfl | ⟨Z0,z,rfl⟩
  ·have:n=0:=by simpa using hz.symm
   subst this;rw [f81r1n10,decide_eq_false (by omega),cond_false]; rfl
  ·rw [List.concat_eq_append] at hz ⊢;have hz':n=Z0.length+1:=by simpa using hz.symm
   subst hz';have e1:A++((Z0++[z])++x::R)=(A++Z0)++z::(x::R):=by simp
   have e2:A++((Z0++[z])++x::R)=((A++Z0)++[z])++x::R:=by simp
   have e3:((A++Z0)++[z])++z::R=(A++Z0)++z::(z::R):=by simp
   rw [f81r1n10,decide_eq_true (by omega),cond_true,show wr64 (((A.length+(Z0.length+1):Nat):Int)-1)=((A.length+Z0.length:Nat):Int) by rw [wrIn (by omega) (by omega)]; omega];rw [at_len e1 (by simp),at_len e2 (by simp<;>omega)];simp only [Option.bind_some];rw [show (Int.toNat ((A.length+Z0.length:Nat):Int))=A.length+Z0.length from rfl,show (Int.toNat ((A.length+(Z0.length+1):Nat):Int))=A.length+(Z0.length+1) from rfl,set_len (y:=z) e2 (by simp<;>omega),at_len e3 (by simp),set_len (y:=x) e3 (by simp)];simp only [Option.bind_some];rw [show (A++Z0)++x::(z::R)=A++(Z0++x::(z::R)) by simp,st_n10 Z0.length Z0 A (z::R) x f rfl (by omega) (by omega)]
   simp
end
section
variable {c:Qd→Qd→Int} (hc:∀x y,f55 x y=some (c x y)) (o:SWo (Qu c)) (self:st_self)
include hc o
theorem st_one(P B S:List Qd)(x:Qd)(hb:Sd (Qu c) B)(hl:P.length+1+B.length+S.length≤500000) :
  f81r1n2 self (P.length:Int) ((P.length+1:Nat):Int) ((P.length+1+B.length:Nat):Int) (P++x::(B++S))=some (.ret (P++(Qax (Qu c) (x::B)++S))):=by
 have e0:P++x::(B++S)=(P++[x])++(B++S):=by simp
 have hlen:(P++x::(B++S)).length=P.length+1+B.length+S.length:=by simp<;>omega
 have h3:=st_n3 hc self (l:=P++x::(B++S)) (a:=(P.length:Int)) (at_len rfl rfl) (by omega) FUEL (P.length+1) (P.length+1+B.length) (by omega) (by omega);obtain ⟨r,q1,q2,q3,q4,q5⟩:=bsN_ok (p:=pq (fun y=>decide (c y x<0)) (P++x::(B++S))) FUEL (P.length+1) (P.length+1+B.length) (by omega) (Qba (Nat.le_trans (by omega:P.length+1+B.length-(P.length+1)≤1000000) (by unfold maxLen; decide))) fun i j a1 a2 a3 a4=>by
  rw [e0] at a4 ⊢;exact pq_mono (X:=P++[x]) (B:=B) (R:=S) (hb.imp fun {u w} huw hq=>o.le_lt huw hq) i j (by simp<;>omega) a2 (by simp<;>omega) a4
 obtain ⟨B1,B2,rfl,hB1⟩:=cutL_ (l:=B) (n:=r-(P.length+1)) (by omega);simp only [List.length_append] at *;have hb':=List.pairwise_append.1 hb;have f1:∀y∈B1,decide (c y x<0)=true:=pq_seg (X:=P++[x]) (R:=B2++S) fun i a1 a2=>by
  have:=q4 i (by simp at a1; omega) (by simp at a2; omega);simpa using this
 have f2:∀y∈B2,decide (c y x<0)=false:=pq_seg (X:=P++[x]++B1) (R:=S) fun i a1 a2=>by
  have:=q5 i (by simp at a1; omega) (by simp at a2; omega);simpa using this
 unfold f81r1n2 f81r1n4;rw [show wr64 (((P.length+1:Nat):Int)-(P.length:Int))=1 by rw [wrIn (by omega) (by omega)]; omega,h3,q1];simp only [decide_true,cond_true,Option.map_some,Option.bind_some];have h5:=st_n5 self B1 P (B2++S) x FUEL r (Qba (Nat.le_trans (by omega:B1.length≤1000000) (by unfold maxLen; decide))) (by omega) (by omega);rw [show P++x::(B1++B2++S)=P++x::(B1++(B2++S)) by simp,h5];simp only [Option.bind_some];have hS:B1++x::B2=Qax (Qu c) (x::(B1++B2)):=by
  refine sortS_of o ?_ ?_
  ·refine Sd.app hb'.1 (List.pairwise_cons.2 ⟨fun y hy=>f2 y hy,hb'.2.1⟩) fun u hu w hw=>?_;rcases List.mem_cons.1 hw with rfl | hw
   ·exact o.asym (f1 u hu)
   ·exact hb'.2.2 u hu w hw
  ·have:=(Cl.swap (lt:=Qu c) (u:=[x]) (v:=B1) o (fun a ha b hb=>by rw [List.mem_singleton.1 ha]; exact f1 b hb)).app (Cl.refl (lt:=Qu c) B2);simpa using this
 rw [←hS]; simp
theorem st_last(P A S:List Qd)(y:Qd)(ha:Sd (Qu c) A)(hl:P.length+A.length+1+S.length≤500000) :
  f81r1n7 self (P.length:Int) ((P.length+A.length:Nat):Int) ((P.length+A.length+1:Nat):Int) (P++(A++y::S))=some (.ret (P++(Qax (Qu c) (A++[y])++S))):=by
 have hlen:(P++(A++y::S)).length=P.length+A.length+1+S.length:=by simp<;>omega
 have h3:=st_n8 hc self (l:=P++(A++y::S)) (x:=y) (a:=((P.length+A.length:Nat):Int)) (at_len (a:=P++A) (b:=S) (by simp) (by simp)) (by omega) FUEL P.length (P.length+A.length) (by omega) (by omega);obtain ⟨r,q1,q2,q3,q4,q5⟩:=bsN_ok (p:=pq (fun z=>!decide (c y z<0)) (P++(A++y::S))) FUEL P.length (P.length+A.length) (by omega) (Qba (Nat.le_trans (by omega:P.length+A.length-P.length≤1000000) (by unfold maxLen; decide))) fun i j a1 a2 a3 a4=>by
  refine pq_mono (X:=P) (B:=A) (R:=y::S) (ha.imp fun {u w} huw hq=>?_) i j a1 a2 a3 a4;simp only [Bool.not_eq_true'] at hq ⊢;exact o.nt hq huw
 obtain ⟨A1,A2,rfl,hA1⟩:=cutL_ (l:=A) (n:=r-P.length) (by omega);simp only [List.length_append] at *;have ha':=List.pairwise_append.1 ha;have f1:∀z∈A1,(!decide (c y z<0))=true:=pq_seg (X:=P) (R:=A2++y::S) fun i a1 a2=>by
  have:=q4 i a1 (by omega);simpa using this
 have f2:∀z∈A2,(!decide (c y z<0))=false:=pq_seg (X:=P++A1) (R:=y::S) fun i a1 a2=>by
  have:=q5 i (by simp at a1; omega) (by simp at a2; omega);simpa using this
 unfold f81r1n7 f81r1n9;rw [show wr64 (((P.length+(A1.length+A2.length)+1:Nat):Int)-((P.length+(A1.length+A2.length):Nat):Int))=1 by rw [wrIn (by omega) (by omega)]; omega,h3,q1];simp only [decide_true,cond_true,Option.map_some,Option.bind_some];have h5:=st_n10 self A2.length A2 (P++A1) S y FUEL rfl (Qba (Nat.le_trans (by omega:A2.length≤1000000) (by unfold maxLen; decide))) (by simp<;>omega);rw [List.length_append] at h5;rw [show P++(A1++A2++y::S)=(P++A1)++(A2++y::S) by simp,show P.length+(A1.length+A2.length)=P.length+A1.length+A2.length by omega,show r=P.length+A1.length by omega,h5];simp only [Option.bind_some];have hS:A1++y::A2=Qax (Qu c) ((A1++A2)++[y]):=by
  refine sortS_of o ?_ ?_
  ·refine Sd.app ha'.1 (List.pairwise_cons.2 ⟨fun z hz=>?_,ha'.2.1⟩) fun u hu w hw=>?_
   ·have:=f2 z hz;simp only [Bool.not_eq_false'] at this;exact o.asym this
   ·rcases List.mem_cons.1 hw with rfl | hw
    ·have:=f1 u hu;simpa using this
    ·exact ha'.2.2 u hu w hw
  ·have:=(Cl.refl (lt:=Qu c) A1).app (Cl.swap (lt:=Qu c) (u:=A2) (v:=[y]) o (fun a ha b hb=>by
    rw [List.mem_singleton.1 hb];have:=f2 a ha;simpa using this))
   simpa using this
 rw [←hS]; simp
end
end Go.Proofs.Ythpceddjepbamaa
namespace Go.Proofs.Ythpceddjepbamaa
set_option linter.unusedVariables false
set_option linter.unusedSimpArgs false
open Go.RowKit
section
variable {c:Qd→Qd→Int} (hc:∀x y,f55 x y=some (c x y)) (o:SWo (Qu c))
theorem st_sdg{l:List Qd}(h:Sd (Qu c) l){i j:Nat}{x y:Qd}(hij:i≤j)(hx:l[i]?=some x)(hy:l[j]?=some y)(o:SWo (Qu c)):decide (c y x<0)=false:=by
 rcases Nat.lt_or_ge i j with hlt | hge
 ·obtain ⟨h1,rfl⟩:=List.getElem?_eq_some_iff.1 hx;obtain ⟨h2,rfl⟩:=List.getElem?_eq_some_iff.1 hy;exact List.pairwise_iff_getElem.1 h i j h1 h2 hlt
 ·have:i=j:=by omega
  subst this;rw [hx] at hy; obtain rfl:=Option.some.inj hy;exact o.irr x
include hc o in
theorem st_round(self:st_self)(K:Nat) (hs:∀(P A B S:List Qd),0<A.length→0<B.length→A.length+B.length≤K→Sd (Qu c) A→Sd (Qu c) B→P.length+A.length+B.length+S.length≤500000 →
   self (P.length:Int) ((P.length+A.length:Nat):Int) ((P.length+A.length+B.length:Nat):Int) (P++(A++(B++S)))=some (P++(Qax (Qu c) (A++B)++S)))
  (P A B S:List Qd) (ha0:1<A.length) (hb0:1<B.length) (hK:A.length+B.length≤2*K) (ha:Sd (Qu c) A) (hb:Sd (Qu c) B) (hl:P.length+A.length+B.length+S.length≤500000) :
  f81r1n0 self (P.length:Int) ((P.length+A.length:Nat):Int) ((P.length+A.length+B.length:Nat):Int) (P++(A++(B++S)))=some (.norm (P++(Qax (Qu c) (A++B)++S))):=by
 have hlen:(P++(A++(B++S))).length=P.length+A.length+B.length+S.length:=by simp<;>omega
 -- the numbers
 obtain ⟨a,ea⟩:∃a,a=P.length:=⟨_,rfl⟩;obtain ⟨m,em⟩:∃m,m=P.length+A.length:=⟨_,rfl⟩;obtain ⟨b,eb⟩:∃b,b=P.length+A.length+B.length:=⟨_,rfl⟩;obtain ⟨mid,emid⟩:∃mid,mid=(a+b) / 2:=⟨_,rfl⟩;obtain ⟨s0,r0,e11,hs0,hr0,hrm,hrmid,hsb,hsa,hse,hre⟩:∃s0 r0:Nat,f81r1n11 self (a:Int) (m:Int) (b:Int) (P++(A++(B++S)))=some (.norm (s0:Int) (r0:Int))∧a≤s0∧s0≤r0∧r0≤m∧r0≤mid∧mid+m≤b+s0∧s0≤m∧(s0=a∨mid+m=b+s0)∧(r0=m∨r0=mid):=by
  unfold f81r1n11;rw [st_half (by omega),←emid]
  by_cases h:mid<m
  ·rw [decide_eq_true (by omega),cond_true];refine ⟨mid+m-b,mid,?_,by omega,by omega,by omega,by omega,by omega,by omega,by omega,by omega⟩;rw [wrIn (n:=(mid:Int)+(m:Int)) (by omega) (by omega),wrIn (by omega) (by omega)]
   congr 2; omega
  ·rw [decide_eq_false (by omega),cond_false];exact ⟨a,m,rfl,by omega,by omega,by omega,by omega,by omega,by omega,by omega,by omega⟩
 -- where to cut
 have gA:∀i,a≤i→i<m→(P++(A++(B++S)))[i]?=A[i-a]?:=fun i h1 h2=>by rw [get_seg (by omega) (by omega),ea]
 have gB:∀i,m≤i→i<b→(P++(A++(B++S)))[i]?=B[i-m]?:=fun i h1 h2=>by
  rw [show P++(A++(B++S))=(P++A)++(B++S) by simp,get_seg (by simp<;>omega) (by simp<;>omega),List.length_append,em]
 have h12:=st_n12 hc self (l:=P++(A++(B++S))) (a:=a) (m:=m) (b:=b) (by omega) (by omega) (by omega) (by omega) FUEL s0 r0 (fun h h1 h2=>⟨by omega,by omega,by omega⟩) (by omega) (by omega);rw [←emid] at h12;obtain ⟨s,q1,q2,q3,q4,q5⟩:=bsN_ok (p:=st_pr c (P++(A++(B++S))) (mid+m)) FUEL s0 r0 hr0 (Qba (Nat.le_trans (by omega:r0-s0≤1000000) (by unfold maxLen; decide))) fun i j a1 a2 a3 a4=>by
  unfold st_pr at a4 ⊢;have iA:i-a<A.length:=by omega
  have jA:j-a<A.length:=by omega
  have iB:mid+m-1-i-m<B.length:=by omega
  have jB:mid+m-1-j-m<B.length:=by omega
  rw [gA j (by omega) (by omega),gB (mid+m-1-j) (by omega) (by omega),List.getElem?_eq_getElem jA,List.getElem?_eq_getElem jB] at a4;rw [gA i (by omega) (by omega),gB (mid+m-1-i) (by omega) (by omega),List.getElem?_eq_getElem iA,List.getElem?_eq_getElem iB];simp only [Bool.not_eq_true'] at a4 ⊢;have k1:=st_sdg ha (i:=i-a) (j:=j-a) (by omega) (List.getElem?_eq_getElem iA) (List.getElem?_eq_getElem jA) o;have k2:=st_sdg hb (i:=mid+m-1-j-m) (j:=mid+m-1-i-m) (by omega) (List.getElem?_eq_getElem jB) (List.getElem?_eq_getElem iB) o;exact o.nt (o.nt k2 a4) k1
 obtain ⟨A1,A2,eA,hA1⟩:=cutL_ (l:=A) (n:=s-a) (by omega);obtain ⟨B1,B2,eB,hB1⟩:=cutL_ (l:=B) (n:=mid-s) (by omega);have lA:A.length=A1.length+A2.length:=by rw [eA]; simp
 have lB:B.length=B1.length+B2.length:=by rw [eB]; simp
 have h1:∀x∈A1,∀y∈B2,decide (c y x<0)=false:=by
  rcases List.eq_nil_or_concat A1 with e | ⟨A0,u,e⟩
  ·rw [e]; simp
  ·cases hB2:B2 with
   | nil=>simp
   | cons v B3 =>
    rw [List.concat_eq_append] at e;have l1:A1.length=A0.length+1:=by rw [e]; simp
    have l2:B2.length=B3.length+1:=by rw [hB2]; simp
    have hp:=q4 (s-1) (by omega) (by omega);unfold st_pr at hp;rw [gA (s-1) (by omega) (by omega),gB (mid+m-1-(s-1)) (by omega) (by omega)] at hp;rw [get_len (l:=A) (k:=s-1-a) (x:=u) (a:=A0) (b:=A2) (by rw [eA,e]; simp) (by omega),get_len (l:=B) (k:=mid+m-1-(s-1)-m) (x:=v) (a:=B1) (b:=B3) (by rw [eB,hB2]) (by omega)] at hp;simp only [Bool.not_eq_true'] at hp;intro x hx y hy;have hx':decide (c u x<0)=false:=by
     rw [e] at hx;have hsA:=List.pairwise_append.1 (by rw [eA,e] at ha; exact (List.pairwise_append.1 ha).1:Sd (Qu c) (A0++[u]));rcases List.mem_append.1 hx with hx | hx
     ·exact hsA.2.2 x hx u (by simp)
     ·rw [List.mem_singleton.1 hx]; exact o.irr u
    have hy':decide (c y v<0)=false:=by
     have hsB:=List.pairwise_cons.1 (by rw [eB,hB2] at hb; exact (List.pairwise_append.1 hb).2.1:Sd (Qu c) (v::B3));rcases List.mem_cons.1 hy with rfl | hy
     ·exact o.irr _
     ·exact hsB.1 y hy
    exact o.nt (o.nt hy' hp) hx'
 have h2:∀x∈A2,∀y∈B1,decide (c y x<0)=true:=by
  rcases List.eq_nil_or_concat B1 with e | ⟨B0,v,e⟩
  ·rw [e]; simp
  ·cases hA2:A2 with
   | nil=>simp
   | cons u A3 =>
    rw [List.concat_eq_append] at e;have l1:B1.length=B0.length+1:=by rw [e]; simp
    have l2:A2.length=A3.length+1:=by rw [hA2]; simp
    have hp:=q5 s (by omega) (by omega);unfold st_pr at hp;rw [gA s (by omega) (by omega),gB (mid+m-1-s) (by omega) (by omega)] at hp;rw [get_len (l:=A) (k:=s-a) (x:=u) (a:=A1) (b:=A3) (by rw [eA,hA2]) (by omega),get_len (l:=B) (k:=mid+m-1-s-m) (x:=v) (a:=B0) (b:=B2) (by rw [eB,e]; simp) (by omega)] at hp;simp only [Bool.not_eq_false'] at hp;intro x hx y hy;have hx':decide (c x u<0)=false:=by
     have hsA:=List.pairwise_cons.1 (by rw [eA,hA2] at ha; exact (List.pairwise_append.1 ha).2.1:Sd (Qu c) (u::A3));rcases List.mem_cons.1 hx with rfl | hx
     ·exact o.irr _
     ·exact hsA.1 x hx
    have hy':decide (c v y<0)=false:=by
     rw [e] at hy;have hsB:=List.pairwise_append.1 (by rw [eB,e] at hb; exact (List.pairwise_append.1 hb).1:Sd (Qu c) (B0++[v]));rcases List.mem_append.1 hy with hy | hy
     ·exact hsB.2.2 y hy v (by simp)
     ·rw [List.mem_singleton.1 hy]; exact o.irr v
    exact o.lt_le (o.le_lt hy' hp) hx'
 have hcut:=merge_cut o (a1:=A1) (a2:=A2) (b1:=B1) (b2:=B2) (by rw [←eA]; exact ha) (by rw [←eB]; exact hb) h1 h2;rw [←eA,←eB] at hcut;have sA:=List.pairwise_append.1 (by rw [←eA]; exact ha:Sd (Qu c) (A1++A2));have sB:=List.pairwise_append.1 (by rw [←eB]; exact hb:Sd (Qu c) (B1++B2))
 -- the rotation
 have e_end:wr64 (wr64 ((mid:Int)+(m:Int))-(s:Int))=((mid+m-s:Nat):Int):=by rw [wrIn (n:=(mid:Int)+(m:Int)) (by omega) (by omega),wrIn (by omega) (by omega)]; omega
 have h13:f81r1n13 self (a:Int) (m:Int) (b:Int) (s:Int) (P++(A++(B++S)))=some (.norm (P++((A1++B1)++((A2++B2)++S)))):=by
  unfold f81r1n13 f81r1n14;rw [st_half (by omega),←emid,e_end]
  by_cases c1:s<m
  ·by_cases c2:m<mid+m-s
   ·rw [decide_eq_true (by omega:(s:Int)<(m:Int)),decide_eq_true (by omega:(m:Int)<((mid+m-s:Nat):Int))];simp only [cond_true,Option.bind_some];have k:=st_rot_ok (P++A1) A2 B1 (B2++S) (a:=s) (m:=m) (b:=mid+m-s) (by simp<;>omega) (by simp<;>omega) (by simp<;>omega) (by omega) (by omega) (by simp<;>omega);rw [show P++(A++(B++S))=(P++A1)++(A2++(B1++(B2++S))) by rw [eA,eB]; simp,k]
    simp
   ·rw [decide_eq_true (by omega:(s:Int)<(m:Int)),decide_eq_false (by omega:¬(m:Int)<((mid+m-s:Nat):Int))];have:B1=[]:=List.eq_nil_of_length_eq_zero (by omega);simp only [cond_true,cond_false,Option.bind_some];rw [eA,eB,this]; simp
  ·rw [decide_eq_false (by omega:¬(s:Int)<(m:Int))];have:A2=[]:=List.eq_nil_of_length_eq_zero (by omega);simp only [cond_false,Option.bind_some];rw [eA,eB,this]; simp
 -- the left half
 have h15:f81r1n15 self (a:Int) (b:Int) (s:Int) (m:Int) (P++((A1++B1)++((A2++B2)++S)))=some (.norm (P++(Qax (Qu c) (A1++B1)++((A2++B2)++S)))):=by
  unfold f81r1n15 f81r1n16;rw [st_half (by omega),←emid]
  by_cases c1:a<s
  ·by_cases c2:s<mid
   ·rw [decide_eq_true (by omega:(a:Int)<(s:Int)),decide_eq_true (by omega:(s:Int)<(mid:Int))];simp only [cond_true,Option.bind_some];have k:=hs P A1 B1 ((A2++B2)++S) (by omega) (by omega) (by omega) sA.1 sB.1 (by simp<;>omega);rw [show P.length=a by omega,show a+A1.length=s by omega,show s+B1.length=mid by omega] at k;rw [show P++((A1++B1)++((A2++B2)++S))=P++(A1++(B1++((A2++B2)++S))) by simp,k];rfl
   ·rw [decide_eq_true (by omega:(a:Int)<(s:Int)),decide_eq_false (by omega:¬(s:Int)<(mid:Int))];have:B1=[]:=List.eq_nil_of_length_eq_zero (by omega);simp only [cond_true,cond_false,Option.bind_some];rw [this,List.append_nil,←sortS_of o sA.1 (Cl.refl _)]
  ·rw [decide_eq_false (by omega:¬(a:Int)<(s:Int))];have:A1=[]:=List.eq_nil_of_length_eq_zero (by omega);simp only [cond_false,Option.bind_some];rw [this,List.nil_append,←sortS_of o sB.1 (Cl.refl _)]
 have lS1:(Qax (Qu c) (A1++B1)).length=A1.length+B1.length:=by rw [sortS_len o]; simp
 -- the right half
 have hfin:f81r1n17 self (b:Int) (a:Int) (m:Int) (s:Int) (P++(Qax (Qu c) (A1++B1)++((A2++B2)++S)))=some (.norm (decide (mid<mid+m-s)&&decide (mid+m-s<b))):=by
  unfold f81r1n17;rw [st_half (by omega),←emid,e_end]
  by_cases c1:mid<mid+m-s
  ·rw [decide_eq_true (by omega:(mid:Int)<((mid+m-s:Nat):Int)),decide_eq_true c1];simp only [cond_true,Bool.true_and]
   congr 2
   exact decide_eq_decide.2 (by omega)
  ·rw [decide_eq_false (by omega:¬(mid:Int)<((mid+m-s:Nat):Int)),decide_eq_false c1]; rfl
 have n1:f81r1n1 self (a:Int) (m:Int) (b:Int) (P++(A++(B++S)))=some .norm:=by
  unfold f81r1n1 f81r1n2;rw [wrIn (n:=(m:Int)-(a:Int)) (by omega) (by omega),decide_eq_false (by omega)]; rfl
 have n6:f81r1n6 self (a:Int) (m:Int) (b:Int) (P++(A++(B++S)))=some .norm:=by
  unfold f81r1n6 f81r1n7;rw [wrIn (n:=(b:Int)-(m:Int)) (by omega) (by omega),decide_eq_false (by omega)]; rfl
 unfold f81r1n0;rw [←ea,show a+A.length=m by omega,show m+B.length=b by omega,n1];simp only [Option.bind_some,n6,e11,h12,q1,Option.map_some,h13,h15,hfin];rw [st_half (by omega),←emid,e_end,hcut]
 by_cases c3:mid<mid+m-s∧mid+m-s<b
 ·rw [decide_eq_true c3.1,decide_eq_true c3.2];simp only [Bool.and_self,cond_true];have k:=hs (P++Qax (Qu c) (A1++B1)) A2 B2 S (by omega) (by omega) (by omega) sA.2.1 sB.2.1 (by simp [lS1]<;>omega);rw [List.length_append,lS1,show P.length+(A1.length+B1.length)=mid by omega,show mid+A2.length=mid+m-s by omega,show mid+m-s+B2.length=b by omega] at k;rw [show P++(Qax (Qu c) (A1++B1)++((A2++B2)++S))=(P++Qax (Qu c) (A1++B1))++(A2++(B2++S)) by simp,k]
  simp
 ·have e1:(decide (mid<mid+m-s)&&decide (mid+m-s<b))=false:=by
   rw [Bool.and_eq_false_iff,decide_eq_false_iff_not,decide_eq_false_iff_not];omega
  rw [e1];have:Qax (Qu c) (A2++B2)=A2++B2:=by
   rcases (by omega:A2.length=0∨B2.length=0) with h | h
   ·rw [List.eq_nil_of_length_eq_zero h,List.nil_append,←sortS_of o sB.2.1 (Cl.refl _)]
   ·rw [List.eq_nil_of_length_eq_zero h,List.append_nil,←sortS_of o sA.2.1 (Cl.refl _)]
  rw [this]
  simp
include hc o in
theorem st_sym_ok:∀(k:Nat)(P A B S:List Qd),0<A.length→0<B.length→A.length+B.length≤2 ^ k→Sd (Qu c) A→Sd (Qu c) B→P.length+A.length+B.length+S.length≤500000 →
  f81r1F k (P.length:Int) ((P.length+A.length:Nat):Int) ((P.length+A.length+B.length:Nat):Int) (P++(A++(B++S)))=some (P++(Qax (Qu c) (A++B)++S))
 | 0,P,A,B,S,h1,h2,h3,_,_,_=>by simp at h3; omega
 | k+1,P,A,B,S,h1,h2,h3,ha,hb,hl=>by
  rw [f81r1F]
  by_cases hA:A.length=1
  ·obtain ⟨x,rfl⟩:=List.length_eq_one_iff.1 hA;have:=st_one hc o (f81r1F k) P B S x hb (by simp at hl; omega);unfold f81r1n0 f81r1n1;simp only [List.length_cons,List.length_nil,List.cons_append,List.nil_append] at this ⊢;rw [this]; rfl
  ·by_cases hB:B.length=1
   ·obtain ⟨y,rfl⟩:=List.length_eq_one_iff.1 hB;have:=st_last hc o (f81r1F k) P A S y ha (by simp at hl; omega);have n1:f81r1n1 (f81r1F k) (P.length:Int) ((P.length+A.length:Nat):Int) ((P.length+A.length+1:Nat):Int) (P++(A++y::S))=some .norm:=by
     unfold f81r1n1 f81r1n2;rw [wrIn (n:=((P.length+A.length:Nat):Int)-(P.length:Int)) (by omega) (by simp at hl; omega),decide_eq_false (by omega)]; rfl
    unfold f81r1n0 f81r1n6;simp only [List.length_cons,List.length_nil,List.cons_append,List.nil_append] at this ⊢;rw [n1];simp only [Option.bind_some];rw [this]; rfl
   ·rw [st_round hc o (f81r1F k) (2 ^ k) (fun P A B S a1 a2 a3 a4 a5 a6=>st_sym_ok k P A B S a1 a2 a3 a4 a5 a6) P A B S (by omega) (by omega) (by rw [Nat.pow_succ] at h3; omega) ha hb hl];rfl
include hc o in
theorem st_mrg(P A B S:List Qd)(h1:0<A.length)(h2:0<B.length)(ha:Sd (Qu c) A)(hb:Sd (Qu c) B)(hl:P.length+A.length+B.length+S.length≤500000) :
  f81r1 (P.length:Int) ((P.length+A.length:Nat):Int) ((P.length+A.length+B.length:Nat):Int) (P++(A++(B++S)))=some (P++(Qax (Qu c) (A++B)++S)) :=
 st_sym_ok hc o 200 P A B S h1 h2 (Nat.le_trans (by omega:A.length+B.length≤500000) (by decide)) ha hb hl
end
end Go.Proofs.Ythpceddjepbamaa
namespace Go.Proofs.Ythpceddjepbamaa
set_option linter.unusedVariables false
set_option linter.unusedSimpArgs false
open Go.RowKit
section
variable {c:Qd→Qd→Int} (hc:∀x y,f55 x y=some (c x y)) (o:SWo (Qu c))
include hc o
theorem st_blocks:∀(f:Nat)(D R:List Qd),R.length<f→D.length+R.length≤500000→D.length % 20=0→Bl (Qu c) 20 D →
  ∃D' R',f68r1n1 f ((D.length+R.length:Nat):Int) (D.length:Int) ((D.length+20:Nat):Int) (D++R)=some (.exit0 (D'.length:Int) (D'++R'))∧D'.length % 20=0∧Bl (Qu c) 20 D'∧R'.length<20∧Cl (Qu c) (D++R) (D'++R')∧D'.length+R'.length=D.length+R.length
 | 0,_,_,h,_,_,_=>absurd h (Nat.not_lt_zero _)
 | f+1,D,R,hf,hl,hm,hD=>by
  rw [f68r1n1]
  by_cases h:20≤R.length
  ·obtain ⟨X,R1,rfl,hX⟩:=cutL_ (l:=R) (n:=20) h;simp only [List.length_append] at *;have k:=st_ins_ok hc o D X R1 (by omega);rw [hX] at k;have lS:(Qax (Qu c) X).length=20:=by rw [sortS_len o,hX]
   rw [decide_eq_true (by omega:((D.length+20:Nat):Int)≤((D.length+(X.length+R1.length):Nat):Int)),cond_true,show D++(X++R1)=D++(X++R1) from rfl,k];simp only [Option.bind_some];obtain ⟨D',R',q1,q2,q3,q4,q5,q6⟩:=st_blocks f (D++Qax (Qu c) X) R1 (by omega) (by simp<;>omega) (by simp<;>omega) (hD.snoc hm (by decide) (sortS_sd o X) (by omega));rw [List.length_append,lS] at q1 q6;refine ⟨D',R',?_,q2,q3,q4,?_,by omega⟩
   ·rw [show wr64 (((D.length+20:Nat):Int)+20)=((D.length+20+20:Nat):Int) by rw [wrIn (by omega) (by omega)]; omega,show D++(Qax (Qu c) X++R1)=(D++Qax (Qu c) X)++R1 by simp,show D.length+(X.length+R1.length)=D.length+20+R1.length by omega];exact q1
   ·have:=(((Cl.refl (lt:=Qu c) D).app (Qbl o X)).app (Cl.refl (lt:=Qu c) R1)).trans q5;simpa using this
  ·rw [decide_eq_false (by omega:¬((D.length+20:Nat):Int)≤((D.length+R.length:Nat):Int)),cond_false];exact ⟨D,R,rfl,hm,hD,by omega,Cl.refl _,rfl⟩
theorem st_pairs(s:Nat)(hs:0<s)(hs1:s≤1000000):∀(f:Nat)(D R:List Qd),R.length<f→D.length+R.length≤500000→D.length % (2*s)=0→Bl (Qu c) (2*s) D→Bl (Qu c) s R →
  ∃D' R',f68r1n3 f ((D.length+R.length:Nat):Int) (s:Int) (D.length:Int) ((D.length+2*s:Nat):Int) (D++R)=some (.exit4 (D'.length:Int) (D'++R'))∧D'.length % (2*s)=0∧Bl (Qu c) (2*s) D'∧Bl (Qu c) s R'∧R'.length<2*s∧Cl (Qu c) (D++R) (D'++R')∧D'.length+R'.length=D.length+R.length
 | 0,_,_,h,_,_,_,_=>absurd h (Nat.not_lt_zero _)
 | f+1,D,R,hf,hl,hm,hD,hR=>by
  rw [f68r1n3]
  by_cases h:2*s≤R.length
  ·obtain ⟨X,R1,rfl,hX,sX,hR1⟩:=hR.uncons (by omega);simp only [List.length_append] at *;obtain ⟨Y,R2,rfl,hY,sY,hR2⟩:=hR1.uncons (by omega);simp only [List.length_append] at *;have k:=st_mrg hc o D X Y R2 (by omega) (by omega) sX sY (by omega);rw [hX,hY] at k;have lS:(Qax (Qu c) (X++Y)).length=2*s:=by rw [sortS_len o,List.length_append]; omega
   rw [decide_eq_true (by omega:((D.length+2*s:Nat):Int)≤((D.length+(X.length+(Y.length+R2.length)):Nat):Int)),cond_true,show wr64 ((D.length:Int)+(s:Int))=((D.length+s:Nat):Int) by rw [wrIn (by omega) (by omega)]; omega,show D.length+2*s=D.length+s+s by omega,k];simp only [Option.bind_some];obtain ⟨D',R',q1,q2,q3,q4,q5,q6,q7⟩:=st_pairs s hs hs1 f (D++Qax (Qu c) (X++Y)) R2 (by omega) (by simp [lS]<;>omega) (by rw [List.length_append,lS,Nat.add_mod_right]; exact hm) (hD.snoc hm (by omega) (sortS_sd o _) (by omega)) hR2;rw [List.length_append,lS] at q1 q7;refine ⟨D',R',?_,q2,q3,q4,q5,?_,by omega⟩
   ·rw [show wr64 ((2:Int)*(s:Int))=((2*s:Nat):Int) by rw [wrIn (by omega) (by omega)]; omega,show wr64 (((D.length+s+s:Nat):Int)+((2*s:Nat):Int))=((D.length+2*s+2*s:Nat):Int) by rw [wrIn (by omega) (by omega)]; omega,show D.length+s+s=D.length+2*s by omega,show D++(Qax (Qu c) (X++Y)++R2)=(D++Qax (Qu c) (X++Y))++R2 by simp,show D.length+(X.length+(Y.length+R2.length))=D.length+2*s+R2.length by omega];exact q1
   ·have:=(((Cl.refl (lt:=Qu c) D).app (Qbl o (X++Y))).app (Cl.refl (lt:=Qu c) R2)).trans q6;simpa using this
  ·rw [decide_eq_false (by omega:¬((D.length+2*s:Nat):Int)≤((D.length+R.length:Nat):Int)),cond_false];exact ⟨D,R,rfl,hm,hD,hR,by omega,Cl.refl _,rfl⟩
theorem st_pass(s:Nat)(hs:0<s)(hs1:s≤1000000)(l:List Qd)(hl:l.length≤500000)(hb:Bl (Qu c) s l):∃l',f68r1n2 (l.length:Int) (s:Int) l=some (.norm l')∧Bl (Qu c) (2*s) l'∧Cl (Qu c) l l':=by
 obtain ⟨D,R,q1,q2,q3,q4,q5,q6,q7⟩:=st_pairs hc o s hs hs1 FUEL [] l (Qba (Nat.le_trans (by omega:l.length≤1000000) (by unfold maxLen; decide))) (by simpa using hl) (by simp) (.last List.Pairwise.nil (by simp)) hb;simp only [List.length_nil,Nat.zero_add,List.nil_append] at q1 q6 q7;unfold f68r1n2;rw [show wr64 ((2:Int)*(s:Int))=((2*s:Nat):Int) by rw [wrIn (by omega) (by omega)]; omega,show (0:Int)=((0:Nat):Int) from rfl,q1];simp only [Option.bind_some];rw [show wr64 ((D.length:Int)+(s:Int))=((D.length+s:Nat):Int) by rw [wrIn (by omega) (by omega)]; omega]
 by_cases h:D.length+s<l.length
 ·obtain ⟨X,Y,rfl,hX,sX,hY⟩:=q4.uncons (by omega);simp only [List.length_append] at *;have sY:=hY.whole (by omega) hs;have k:=st_mrg hc o D X Y [] (by omega) (by omega) sX sY (by simp<;>omega);rw [hX] at k;rw [decide_eq_true (by omega),cond_true,show l.length=D.length+s+Y.length by omega,show D++(X++Y)=D++(X++(Y++[])) by simp,k];refine ⟨_,rfl,?_,?_⟩
  ·rw [List.append_nil];exact q3.snoc q2 (by omega) (sortS_sd o _) (by rw [sortS_len o,List.length_append]; omega)
  ·rw [List.append_nil];exact q6.trans ((Cl.refl _).app (Qbl o _))
 ·rw [decide_eq_false (by omega),cond_false];exact ⟨_,rfl,q3.snoc q2 (by omega) (q4.whole (by omega) hs) (by omega),q6⟩
theorem st_passes:∀(n f s:Nat)(l:List Qd),l.length-s≤n→n<f→0<s→s≤1000000→l.length≤500000→Bl (Qu c) s l→∃l',f68r1n4 f (l.length:Int) (s:Int) l=some (.exit2 l')∧Sd (Qu c) l'∧Cl (Qu c) l l'
 | _,0,_,_,_,h,_,_,_,_=>absurd h (Nat.not_lt_zero _)
 | n,f+1,s,l,hn,hf,hs,hs1,hl,hb=>by
  rw [f68r1n4]
  by_cases h:s<l.length
  ·obtain ⟨l1,k1,k2,k3⟩:=st_pass hc o s hs hs1 l hl hb;have hlen:=k3.len;obtain ⟨l',q1,q2,q3⟩:=st_passes (n-1) f (2*s) l1 (by omega) (by omega) (by omega) (by omega) (by omega) k2;rw [decide_eq_true (by omega),cond_true,k1];simp only [Option.bind_some];rw [show wr64 ((s:Int)*2)=((2*s:Nat):Int) by rw [wrIn (by omega) (by omega)]; omega,←hlen,q1];exact ⟨l',rfl,q2,k3.trans q3⟩
  ·rw [decide_eq_false (by omega),cond_false];exact ⟨l,rfl,hb.whole (by omega) hs,Cl.refl _⟩
theorem st_sorted(l:List Qd)(hl:l.length≤500000):f54r1 l=some (Qax (Qu c) l):=by
 obtain ⟨D,R,q1,q2,q3,q4,q5,q6⟩:=st_blocks hc o FUEL [] l (Qba (Nat.le_trans (by omega:l.length≤1000000) (by unfold maxLen; decide))) (by simpa using hl) (by simp) (.last List.Pairwise.nil (by simp));simp only [List.length_nil,Nat.zero_add,List.nil_append] at q1 q5 q6;have k:=st_ins_ok hc o D R [] (by omega);simp only [List.append_nil] at k;rw [q6] at k;have hb:Bl (Qu c) 20 (D++Qax (Qu c) R):=q3.snoc q2 (by decide) (sortS_sd o R) (by rw [sortS_len o]; omega);have hcl:Cl (Qu c) l (D++Qax (Qu c) R):=q5.trans ((Cl.refl _).app (Qbl o R));have hlen:=hcl.len;obtain ⟨l',k1,k2,k3⟩:=st_passes hc o (D++Qax (Qu c) R).length FUEL 20 (D++Qax (Qu c) R) (by omega) (Qba (Nat.le_trans (by omega:(D++Qax (Qu c) R).length≤1000000) (by unfold maxLen; decide))) (by decide) (by decide) (by omega) hb;have e:f68r1 (l.length:Int) l=some l':=by
  unfold f68r1 f68r1n0;rw [show (0:Int)=((0:Nat):Int) from rfl,show (20:Int)=((20:Nat):Int) from rfl,q1];simp only [Option.bind_some,k];rw [←hlen,k1]; rfl
 unfold f54r1 f54r1n0;rw [e];simp only [Option.bind_some];rw [sortS_of o k2 (hcl.trans k3)]
end
end Go.Proofs.Ythpceddjepbamaa
namespace Go.Proofs.Ythpceddjepbamaa
set_option linter.unusedVariables false
set_option linter.unusedSimpArgs false
open Go.RowKit
abbrev AA:=Qe
abbrev AL:=Qb
abbrev AB:=Qc
abbrev AW:=Qa
abbrev SH:=Qd

theorem f67_eq(c:Int):f67 c=some (ltrI c):=by
 unfold f67 f67n0 ltrI;cases decide (97≤c)<;>cases decide (c≤122)<;>cases decide (65≤c)<;>cases decide (c≤90)<;>rfl
theorem f50n2_eq{s:ByteArray}{k:Int}{b:UInt8}(h:at? s.data.toList k=some b):f50n2 s k=some (bif chB b then .norm else .ret):=by
 have h3:f50n3 s b k=some (.norm (!(chB b))):=by
  unfold f50n3 chB othI;rw [f67_eq,ltNot,ltNot];simp only [Option.bind_some];cases ltrI b.toNat<;>cases decide ((48:Int)≤(b.toNat:Int))<;>cases decide ((b.toNat:Int)≤57)<;>cases decide ((b.toNat:Int)=95)<;>cases decide ((b.toNat:Int)=45)<;>rfl
 unfold f50n2;rw [h];simp only [Option.bind_some,h3];cases chB b<;>rfl
theorem f50n4_at(s:ByteArray)(hs:s.data.toList.length≤1000):∀(r:List UInt8)(f k:Nat),s.data.toList.drop k=r→r.length<f→f50n4 f s (k:Int)=some (bif r.all chB then .exit0 else .ret)
 | _,0,_,_,h=>absurd h (Nat.not_lt_zero _)
 | [],f+1,k,hd,_=>by
  have:=Qbb hd;rw [f50n4,sizeList,decide_eq_false (by omega),cond_false]; rfl
 | b::r,f+1,k,hd,hf=>by
  obtain ⟨h1,h2,h3⟩:=dropAt hd;rw [f50n4,sizeList,decide_eq_true (by omega),cond_true,f50n2_eq h1,List.all_cons];cases chB b with
  | false=>rfl
  | true =>
   simp only [cond_true,Option.bind_some,Bool.true_and];rw [wrSucc (by omega)];exact f50n4_at s hs r f (k+1) h3 (by simpa using hf)
theorem f50_eq(s:ByteArray):f50 s=some (nmB s):=by
 unfold f50 f50n0 nmB;rw [sizeList]
 by_cases hs:s.data.toList.length≤40
 ·have h1:f50n1 s=some (bif s.data.toList.all chB then .norm else .ret):=by
   unfold f50n1;have:=f50n4_at s (by omega) s.data.toList FUEL 0 List.drop_zero (Qby (by omega));rw [show ((0:Nat):Int)=0 from rfl] at this;rw [this];cases s.data.toList.all chB<;>rfl
  rw [h1];generalize s.data.toList=l at hs;rw [decide_eq_false (by omega:¬(40:Int)<(l.length:Int))];cases l with
  | nil=>rfl
  | cons b r =>
   have h0:at? (b::r) 0=some b:=rfl;rw [decide_eq_false (by simp; omega:¬(((b::r).length:Nat):Int)<1),h0];simp only [cond_false,Option.bind_some,f67_eq,isNm,decide_eq_true hs,Bool.true_and,List.all_cons,chB];cases ltrI b.toNat<;>cases othI b.toNat<;>cases r.all chB<;>rfl
 ·rw [decide_eq_false (by omega:¬((s.data.toList.length:Nat):Int)<1),decide_eq_true (by omega:(40:Int)<((s.data.toList.length:Nat):Int))];have:isNm s.data.toList=false:=by
   generalize s.data.toList=l at hs;cases l with
   | nil=>rfl
   | cons b r=>simp only [isNm,decide_eq_false hs,Bool.false_and]
  rw [this]; rfl

theorem f60_eq(a:Int):f60 a=some false:=by unfold f60 f60n0; simp
theorem f79_eq(a:ByteArray):f79 a=some false:=by unfold f79 f79n0; simp [seq_refl]
theorem f39_eq(a b:Int):f39 a b=some (cmpI a b):=by
 unfold f39 f39n0 cmpI;rw [f60_eq,f60_eq];simp only [Option.bind_some,cond_false];cases decide (a<b)<;>cases decide (b<a)<;>rfl
theorem f63_eq(a b:ByteArray):f63 a b=some (cmpB a b):=by
 unfold f63 f63n0 cmpB;rw [f79_eq,f79_eq];simp only [Option.bind_some,cond_false];cases slt a b<;>cases seq a b<;>rfl
theorem f62_eq(x:AL)(n:ByteArray):f62 x n=some (cmpB x.Name n):=by unfold f62 f62n0; rw [f63_eq]; rfl
theorem f51_eq(a b c:Int):f51 a b c=some (decide (b≤a)&&decide (a≤c)):=by
 unfold f51 f51n0;cases decide (b≤a)<;>rfl

def lotN(n:ByteArray):List AL→Option AL
 | []=>none
 | x::r=>bif seq x.Name n then some x else lotN n r
theorem lotN_none{n:ByteArray} : ∀{l:List AL},(∀x∈l,x.Name≠n)→lotN n l=none
 | [],_=>rfl
 | x::r,h=>by rw [lotN,seqF (h x List.mem_cons_self),cond_false,lotN_none fun y hy=>h y (List.mem_cons_of_mem _ hy)]
theorem lotN_app{n:ByteArray} : ∀{pre post:List AL},(∀x∈pre,x.Name≠n)→lotN n (pre++post)=lotN n post
 | [],_,_=>rfl
 | x::r,post,h=>by rw [List.cons_append,lotN,seqF (h x List.mem_cons_self),cond_false,lotN_app fun y hy=>h y (List.mem_cons_of_mem _ hy)]
theorem lotN_mem{n:ByteArray}{x:AL} : ∀{l:List AL},lotN n l=some x→x∈l∧x.Name=n
 | y::r,h=>by
  rw [lotN] at h;cases k:seq y.Name n with
  | true=>rw [k] at h; obtain rfl:=Option.some.inj h; exact ⟨List.mem_cons_self,seq_iff.1 k⟩
  | false =>
   rw [k] at h;obtain ⟨h1,h2⟩:=lotN_mem h;exact ⟨List.mem_cons_of_mem _ h1,h2⟩
abbrev SSrt(l:List AL):Prop:=l.Pairwise fun a b=>slt a.Name b.Name=true
theorem lotN_of:∀{l:List AL},SSrt l→∀x∈l,lotN x.Name l=some x
 | y::r,h,x,hx=>by
  rw [lotN];have h':=List.pairwise_cons.1 h;rcases List.mem_cons.1 hx with rfl | hx
  ·rw [seq_refl,cond_true]
  ·rw [seqF (sltNe (h'.1 x hx)),cond_false,lotN_of h'.2 x hx]
theorem f61n1_eq{l:List AL}(n:ByteArray)(hl:l.length≤1000000):∀(f lo hi:Nat),hi≤l.length→lo≤1000000→f61_62n1 f l n (lo:Int) (hi:Int)=(bsN (pq (fun y=>decide (cmpB y.Name n<0)) l) f lo hi).map fun r=>.exit0 (r:Int)
 | 0,lo,hi,_,_=>rfl
 | f+1,lo,hi,h,h0=>by
  rw [f61_62n1,bsN]
  by_cases hlt:lo<hi
  ·have hk:(lo+hi) / 2<l.length:=by omega
   rw [decide_eq_true hlt,decide_eq_true (by omega:(lo:Int)<(hi:Int)),st_half (by omega),at_in hk];simp only [cond_true,Option.bind_some,f62_eq];have ep:pq (fun y=>decide (cmpB y.Name n<0)) l ((lo+hi) / 2)=decide (cmpB l[(lo+hi) / 2].Name n<0):=by unfold pq; rw [List.getElem?_eq_getElem hk]
   rw [ep];cases decide (cmpB l[(lo+hi) / 2].Name n<0) with
   | true=>rw [cond_true,cond_true,show wr64 ((((lo+hi) / 2:Nat):Int)+1)=(((lo+hi) / 2+1:Nat):Int) by rw [wrIn (by omega) (by omega)]; omega]; exact f61n1_eq n hl f _ _ h (by omega)
   | false=>rw [cond_false,cond_false]; exact f61n1_eq n hl f _ _ (by omega) h0
  ·rw [decide_eq_false hlt,decide_eq_false (by omega:¬(lo:Int)<(hi:Int))]; rfl
theorem f44_eq{s:List AL}(hs:SSrt s)(hl:s.length≤1000)(n:ByteArray):∃i,f44 s n=some (i,(lotN n s).isSome):=by
 obtain ⟨r,q1,q2,q3,q4,q5⟩:=bsN_ok (p:=pq (fun y=>decide (cmpB y.Name n<0)) s) FUEL 0 s.length (by omega) (Qby (by omega)) fun i j a1 a2 a3 a4=>by
  have:=pq_mono (X:=[]) (B:=s) (R:=[]) (q:=fun y=>decide (cmpB y.Name n<0)) (hs.imp fun {u w} huw hq=>by
   rw [decide_eq_true_eq,cmpB_neg] at *;exact slt_trans huw hq) i j (by simp) a2 (by simpa using a3) (by simpa using a4)
  simpa using this
 have h1:f61_62n1 FUEL s n 0 (s.length:Int)=some (.exit0 (r:Int)):=by
  have:=f61n1_eq (l:=s) n (by omega) FUEL 0 s.length (Nat.le_refl _) (by omega);rw [q1] at this;exact this
 obtain ⟨s1,s2,rfl,hs1⟩:=cutL_ (l:=s) (n:=r) q3;rw [List.length_append] at q5;have f1:∀y∈s1,decide (cmpB y.Name n<0)=true:=pq_seg (X:=[]) (R:=s2) fun i a1 a2=>by
  have:=q4 i (by omega) (by simpa [hs1] using a2);simpa using this
 have f2:∀y∈s2,decide (cmpB y.Name n<0)=false:=pq_seg (X:=s1) (R:=[]) fun i a1 a2=>by
  have:=q5 i (by omega) a2;simpa using this
 have hn1:∀y∈s1,y.Name≠n:=fun y hy=>sltNe (cmpB_neg.1 (of_decide_eq_true (f1 y hy)));have h61:f61_62 (s1++s2) n=some ((r:Int),match s2 with | []=>false | y::_=>decide (cmpB y.Name n=0)):=by
  unfold f61_62 f61_62n0;rw [h1];simp only [Option.bind_some];cases s2 with
  | nil=>rw [decide_eq_false (by rw [List.append_nil]; omega)]; rfl
  | cons y t =>
   rw [decide_eq_true (by simp; omega),at_len (k:=r) (a:=s1) (x:=y) (b:=t) rfl hs1.symm];simp only [cond_true,Option.bind_some,f62_eq]
 refine ⟨(r:Int),?_⟩;unfold f44 f44n0;rw [h61,lotN_app hn1];simp only [Option.bind_some];cases s2 with
 | nil=>rfl
 | cons y t =>
  by_cases hk:cmpB y.Name n=0
  ·simp only [decide_eq_true hk];rw [lotN,seq_iff.2 (cmpB_zero.1 hk)]; rfl
  ·simp only [decide_eq_false hk];have hs':=List.pairwise_cons.1 (List.pairwise_append.1 hs).2.1;have hy:slt n y.Name=true:=cmpB_pos.1 (by have:=of_decide_eq_false (f2 y List.mem_cons_self); omega);rw [lotN_none fun z hz=>?_]
   ·rfl
   ·rcases List.mem_cons.1 hz with rfl | hz
    ·exact (sltNe hy).symm
    ·exact (sltNe (slt_trans hy (hs'.1 z hz))).symm

def gdB(b:AB):Bool:=nmB b.Member&&(!(seq b.Member str_house)&&((decide (1≤b.Units)&&decide (b.Units≤1048576))&&(decide (0≤b.Price)&&decide (b.Price≤33554432))))
theorem f45_eq(b:AB):f45 b=some (gdB b):=by
 unfold f45 f45n0 gdB;rw [f50_eq,f51_eq,f51_eq];cases nmB b.Member<;>cases seq b.Member str_house<;>cases decide (1≤b.Units)<;>cases decide (b.Units≤1048576)<;>rfl
def inL(x:AL):Bool:=nmB x.Name&&((decide (1≤x.Units)&&decide (x.Units≤1048576))&&(decide (0≤x.Reserve)&&decide (x.Reserve≤33554432)))
def ordL:Option AL→AL→Bool
 | none,_=>true
 | some y,x=>slt y.Name x.Name
def okL:Option AL→List AL→Bool
 | _,[]=>true
 | p,x::r=>(inL x&&ordL p x)&&okL (some x) r
theorem f31n2_eq{a:AA}{pre r:List AL}{x:AL}(h:a.Lots=pre++x::r)(hl:a.Lots.length≤1000):f31n2 a ((pre.length:Nat):Int)=some (bif inL x&&ordL pre.getLast? x then .norm else .ret):=by
 have h3:f31n3 ((pre.length:Nat):Int) a x=some (.norm (!(inL x&&ordL pre.getLast? x))):=by
  unfold f31n3 inL;rw [f50_eq,f51_eq,f51_eq];rcases List.eq_nil_or_concat pre with rfl | ⟨q,y,rfl⟩
  ·simp only [List.length_nil,Int.natCast_zero,List.getLast?_nil,ordL];rw [decide_eq_false (by omega:¬(0:Int)<0)];cases nmB x.Name<;>cases decide (1≤x.Units)&&decide (x.Units≤1048576)<;>cases decide (0≤x.Reserve)&&decide (x.Reserve≤33554432)<;>rfl
  ·rw [List.concat_eq_append] at h ⊢;have hq:q.length+1≤1000:=by rw [h] at hl; simp at hl; omega
   rw [decide_eq_true (by simp:(0:Int)<(((q++[y]).length:Nat):Int)),show wr64 ((((q++[y]).length:Nat):Int)-1)=((q.length:Nat):Int) by rw [wrIn (by simp<;>omega) (by simp<;>omega)]; simp,at_len (k:=q.length) (a:=q) (x:=y) (b:=x::r) (by rw [h]; simp) rfl,List.getLast?_concat];simp only [cond_true,Option.bind_some,ordL];cases nmB x.Name<;>cases slt y.Name x.Name<;>cases decide (1≤x.Units)&&decide (x.Units≤1048576)<;>cases decide (0≤x.Reserve)&&decide (x.Reserve≤33554432)<;>rfl
 unfold f31n2;rw [at_len h rfl];simp only [Option.bind_some,h3];cases inL x&&ordL pre.getLast? x<;>rfl
theorem f31n4_at{a:AA}(hl:a.Lots.length≤1000):∀(r pre:List AL)(f:Nat),a.Lots=pre++r→r.length<f→f31n4 f a ((pre.length:Nat):Int)=some (bif okL pre.getLast? r then .exit0 else .ret)
 | _,_,0,_,h=>absurd h (Nat.not_lt_zero _)
 | [],pre,f+1,h,_=>by rw [f31n4,decide_eq_false (by rw [h]; simp),cond_false]; rfl
 | x::r,pre,f+1,h,hf=>by
  have hp:pre.length<a.Lots.length:=by rw [h]; simp
  have ih:=f31n4_at hl r (pre++[x]) f (by rw [h]; simp) (by simpa using hf);rw [List.length_append,List.getLast?_concat] at ih;rw [f31n4,decide_eq_true (by omega),cond_true,f31n2_eq h hl,okL];cases inL x&&ordL pre.getLast? x with
  | false=>rfl
  | true =>
   simp only [cond_true,Option.bind_some,Bool.true_and];rw [wrSucc (by omega)];exact ih
theorem okL_some:∀{l:List AL} {p:AL},okL (some p) l=true→(p::l).Pairwise (fun a b=>slt a.Name b.Name=true)∧∀x∈l,inL x=true
 | [],p,_=>by simp
 | y::r,p,h=>by
  rw [okL,ordL,Bool.and_eq_true,Bool.and_eq_true] at h;obtain ⟨⟨h1,h2⟩,h3⟩:=h;obtain ⟨h4,h5⟩:=okL_some h3;refine ⟨List.pairwise_cons.2 ⟨fun z hz=>?_,h4⟩,fun z hz=>?_⟩
  ·rcases List.mem_cons.1 hz with rfl | hz
   ·exact h2
   ·exact slt_trans h2 ((List.pairwise_cons.1 h4).1 z hz)
  ·rcases List.mem_cons.1 hz with rfl | hz
   ·exact h1
   ·exact h5 z hz
theorem okL_none{l:List AL}(h:okL none l=true):SSrt l∧∀x∈l,inL x=true:=by
 cases l with
 | nil=>simp
 | cons y r =>
  rw [okL,Bool.and_eq_true,Bool.and_eq_true] at h;obtain ⟨⟨h1,_⟩,h3⟩:=h;obtain ⟨h4,h5⟩:=okL_some h3;exact ⟨h4,fun z hz=>by
   rcases List.mem_cons.1 hz with rfl | hz
   ·exact h1
   ·exact h5 z hz⟩
def bidB(ls:List AL)(b:AB):Bool:=(lotN b.Lot ls).isSome&&gdB b
theorem f31w_eq{a:AA}(hs:SSrt a.Lots)(hl:a.Lots.length≤1000):∀(l:List AB)(v:Int),f31n6L a l v=some (bif l.all (bidB a.Lots) then .exit2 else .ret)
 | [],_=>rfl
 | b::r,v=>by
  obtain ⟨i,hi⟩:=f44_eq hs hl b.Lot;rw [f31n6L,hi,List.all_cons,f31w_eq hs hl r,bidB,f45_eq];simp only [Option.bind_some];cases (lotN b.Lot a.Lots).isSome<;>cases gdB b<;>rfl
def okA(a:AA):Bool:=decide (a.Rule≤2)&&(decide (a.Lots.length≤16)&&(decide (a.Bids.length≤100)&&(okL none a.Lots&&a.Bids.all (bidB a.Lots))))
theorem lenD(n k:Nat):decide ((k:Int)<(n:Int)) = !(decide (n≤k)):=by
 rw [ltNot]; congr 1
 by_cases h:n≤k
 ·rw [decide_eq_true h,decide_eq_true (by omega:(n:Int)≤(k:Int))]
 ·rw [decide_eq_false h,decide_eq_false (by omega:¬(n:Int)≤(k:Int))]
theorem f31_eq(a:AA):f31 a=some (bif okA a then 0 else 8):=by
 unfold f31 f31n0 okA;rw [ltNot,show decide ((16:Int)<(a.Lots.length:Int))=_ from lenD a.Lots.length 16,show decide ((100:Int)<(a.Bids.length:Int))=_ from lenD a.Bids.length 100];cases decide (a.Rule≤2) with
 | false=>rfl
 | true =>
  by_cases hl:a.Lots.length≤16
  ·rw [decide_eq_true hl]
   by_cases hb:a.Bids.length≤100
   ·rw [decide_eq_true hb];have h1:f31n1 a=some (bif okL none a.Lots then .norm else .ret):=by
     unfold f31n1;have:=f31n4_at (a:=a) (by omega) a.Lots [] FUEL rfl (Qby (by omega));rw [show (((([]:List AL).length:Nat)):Int)=0 from rfl,List.getLast?_nil] at this;rw [this];cases okL none a.Lots<;>rfl
    rw [h1];cases ho:okL none a.Lots with
    | false=>rfl
    | true =>
     have h2:f31n5 a=some (bif a.Bids.all (bidB a.Lots) then .norm else .ret):=by
      unfold f31n5;rw [f31n6_run a (maxSmall (by omega)),f31w_eq (okL_none ho).1 (by omega)];cases a.Bids.all (bidB a.Lots)<;>rfl
     simp only [cond_true,cond_false,Bool.not_true,Option.bind_some,h2,Bool.true_and];cases a.Bids.all (bidB a.Lots)<;>rfl
   ·rw [decide_eq_false hb]; rfl
  ·rw [decide_eq_false hl]; rfl
structure Vl (a:AA):Prop where
 rule:a.Rule≤2
 nl:a.Lots.length≤16
 nb:a.Bids.length≤100
 srt:SSrt a.Lots
 lots:∀x∈a.Lots,nmB x.Name=true∧1≤x.Units∧x.Units≤1048576∧0≤x.Reserve∧x.Reserve≤33554432
 bids:∀b∈a.Bids,(∃x∈a.Lots,x.Name=b.Lot)∧1≤b.Units∧b.Units≤1048576∧0≤b.Price∧b.Price≤33554432
theorem okA_vl{a:AA}(h:okA a=true):Vl a:=by
 unfold okA at h;simp only [Bool.and_eq_true,decide_eq_true_eq] at h;obtain ⟨h1,h2,h3,h4,h5⟩:=h;obtain ⟨h6,h7⟩:=okL_none h4;refine ⟨h1,h2,h3,h6,fun x hx=>?_,fun b hb=>?_⟩
 ·have:=h7 x hx;unfold inL at this;simp only [Bool.and_eq_true,decide_eq_true_eq] at this;exact ⟨this.1,this.2.1.1,this.2.1.2,this.2.2.1,this.2.2.2⟩
 ·have:=List.all_eq_true.1 h5 b hb;unfold bidB gdB at this;simp only [Bool.and_eq_true,decide_eq_true_eq] at this;obtain ⟨k1,_,_,k2,k3⟩:=this;obtain ⟨x,hx⟩:=Option.isSome_iff_exists.1 k1;have:=lotN_mem hx;exact ⟨⟨x,this.1,this.2⟩,k2.1,k2.2,k3.1,k3.2⟩
end Go.Proofs.Ythpceddjepbamaa
