/- Several texts in one. No condition. -/
import Derived.Test.YthpceddjepbamaaA2
import Derived.Test.YthpceddjepbamaaTU
namespace Go.Proofs.Ythpceddjepbamaa
set_option linter.unusedVariables false
set_option linter.unusedSimpArgs false
set_option maxRecDepth 100000
open Go.RowKit

inductive f12y6n0O where
 | exit2
 | norm
noncomputable def f12y6n0E(a1:Qd)(a2:Int)(a3:List Qb):f12y6n0O→Ex×Tr×Hp
 | .exit2=>((.exit 2),mkS [],[some (.lp Qp .busy none (kL 63 [(5,(.bp 1 0)),(9,(.bp 2 0)),(10,(.bp 3 0))])),some (.box [(.own 4)]),some (.box (((cInt .i64) a2).map .pl)),some (.box [(.pl .nilf)]),jR 3 Qb.cells a3])
 | .norm=>(.norm,mkS [],[some (.lp Qp .busy none (kL 63 [(5,(.bp 1 0)),(9,(.bp 2 0)),(10,(.bp 3 0))])),some (.box [(.own 5)]),some (.box (((cInt .i64) a2).map .pl)),some (.box [(.pl .nilf)]),none,some (.row false 3 ((a3++[(Qb.mk a1.index a1.units a1.bid.Price)]).map Qb.cells))])
noncomputable def f12y6n0S(a1:Qd)(a2:Int)(a3:List Qb):Tr×Hp:=(mkS [(5,(.bp 1 0)),(9,(.bp 2 0)),(10,(.bp 3 0)),(11,(.bp 5 0))],[some (.lp Qp .busy none (kL 63 [(5,(.bp 1 0)),(9,(.bp 2 0)),(10,(.bp 3 0))])),some (.box [(.own 4)]),some (.box (((cInt .i64) a2).map .pl)),some (.box [(.pl .nilf)]),jR 3 Qb.cells a3,some (.box ((Qd.cells a1).map .pl))])
noncomputable def f12y6n0(a1:Qd)(a2:Int)(a3:List Qb):Option f12y6n0O :=
 bif decide (a1.units=0) then
  some .exit2
 else
  req (fit (a3.length+1) 24) <|
  some .norm
theorem f12y6n0_ok(a1:Qd)(a2:Int)(a3:List Qb){o:f12y6n0O}(h:f12y6n0 a1 a2 a3=some o):T Try.prog Try.f12.ntmps 5 (rfB Qp) (f12y6n0S a1 a2 a3) (·=f12y6n0E a1 a2 a3 o):=by
 unfold f12y6n0 at h;refine T.block' (i:=3) (by kernel_rfl) ?_;rcases Qj h with ⟨h5,h⟩|⟨h5,h⟩
 ·obtain rfl:=Qg h;exact rK Qh 1 [j3] [some true] [] [] [] (.exit 2) ((f12y6n0E a1 a2 a3 .exit2).2) (ap h5 an) rfl
 ·obtain ⟨h7,h⟩:=Qbt h;obtain rfl:=Qg h;exact rE Qh [j3,j3,j3,([],[(3,.fits)],[(3,.row 8 ((a3++[(Qb.mk a1.index a1.units a1.bid.Price)]).map Qb.cells))])] [some false,none] [] [8] [] (.norm,(f12y6n0E a1 a2 a3 .norm).2) (ap h5 (ap (fit_map (te:=ti36) (xs:=a3) (n:=1) (c:=Qb.cells) h7 rfl) (ap (app_cv (xs:=a3) (ys:=[(Qb.mk a1.index a1.units a1.bid.Price)]) (c:=Qb.cells)) an))) rfl
theorem f12y6_exit2(a1:Qd)(a2:Int)(a3:List Qb)(h:f12y6n0 a1 a2 a3=some .exit2):Qbd Try.prog [(jA Qd.cells a1)] 0 [some (.lp Qp .ready none (kL 63 [(5,(.bp 1 0)),(9,(.bp 2 0)),(10,(.bp 3 0))])),some (.box [(.own 4)]),some (.box (((cInt .i64) a2).map .pl)),some (.box [(.pl .nilf)]),jR 3 Qb.cells a3] false [some (.lp Qp .done (some (.exit 2)) (kL 63 [(5,(.bp 1 0)),(9,(.bp 2 0)),(10,(.bp 3 0))])),some (.box [(.own 4)]),some (.box (((cInt .i64) a2).map .pl)),some (.box [(.pl .nilf)]),jR 3 Qb.cells a3] :=
 Qbd.mk (c:=Qp) (n:=Try.f12.ntmps) (base:=5) (cs:=(kL 63 [(5,(.bp 1 0)),(9,(.bp 2 0)),(10,(.bp 3 0))])) (cs2:=(kL 63 [(5,(.bp 1 0)),(9,(.bp 2 0)),(10,(.bp 3 0))])) (cs3:=(kL 63 [(5,(.bp 1 0)),(9,(.bp 2 0)),(10,(.bp 3 0))])) (st2:=(mkS [(5,(.bp 1 0)),(9,(.bp 2 0)),(10,(.bp 3 0)),(11,(.bp 5 0))],[some (.lp Qp .ready none (kL 63 [(5,(.bp 1 0)),(9,(.bp 2 0)),(10,(.bp 3 0))])),some (.box [(.own 4)]),some (.box (((cInt .i64) a2).map .pl)),some (.box [(.pl .nilf)]),jR 3 Qb.cells a3,some (.box ((Qd.cells a1).map .pl))])) (e:=(f12y6n0E a1 a2 a3 .exit2)) (pend:=(some (.exit 2)))
  (run_ok (P:=Try.prog) (C:=cfg) Qh (c:=rfA Qp) (rs:=[j3]) (ps:=[]) (tds:=[]) (m:=[5]) (keep:=[5,9,10,11]) (by kernel_rfl) an)
  (f12y6n0_ok a1 a2 a3 h)
theorem f12y6_norm(a1:Qd)(a2:Int)(a3:List Qb)(h:f12y6n0 a1 a2 a3=some .norm):Qbd Try.prog [(jA Qd.cells a1)] 0 [some (.lp Qp .ready none (kL 63 [(5,(.bp 1 0)),(9,(.bp 2 0)),(10,(.bp 3 0))])),some (.box [(.own 4)]),some (.box (((cInt .i64) a2).map .pl)),some (.box [(.pl .nilf)]),jR 3 Qb.cells a3] true [some (.lp Qp .ready none (kL 63 [(5,(.bp 1 0)),(9,(.bp 2 0)),(10,(.bp 3 0))])),some (.box [(.own 5)]),some (.box (((cInt .i64) a2).map .pl)),some (.box [(.pl .nilf)]),none,some (.row false 3 ((a3++[(Qb.mk a1.index a1.units a1.bid.Price)]).map Qb.cells))] :=
 Qbd.mk (c:=Qp) (n:=Try.f12.ntmps) (base:=5) (cs:=(kL 63 [(5,(.bp 1 0)),(9,(.bp 2 0)),(10,(.bp 3 0))])) (cs2:=(kL 63 [(5,(.bp 1 0)),(9,(.bp 2 0)),(10,(.bp 3 0))])) (cs3:=(kL 63 [(5,(.bp 1 0)),(9,(.bp 2 0)),(10,(.bp 3 0))])) (st2:=(mkS [(5,(.bp 1 0)),(9,(.bp 2 0)),(10,(.bp 3 0)),(11,(.bp 5 0))],[some (.lp Qp .ready none (kL 63 [(5,(.bp 1 0)),(9,(.bp 2 0)),(10,(.bp 3 0))])),some (.box [(.own 4)]),some (.box (((cInt .i64) a2).map .pl)),some (.box [(.pl .nilf)]),jR 3 Qb.cells a3,some (.box ((Qd.cells a1).map .pl))])) (e:=(f12y6n0E a1 a2 a3 .norm)) (pend:=none)
  (run_ok (P:=Try.prog) (C:=cfg) Qh (c:=rfA Qp) (rs:=[j3]) (ps:=[]) (tds:=[]) (m:=[5]) (keep:=[5,9,10,11]) (by kernel_rfl) an)
  (f12y6n0_ok a1 a2 a3 h)


inductive f53r6n2O where
 | exit0 (v43:List Qd)
noncomputable def f53r6n2E(ba1:Qe)(be2:Qa)(bd3:Int)(bg4:List Qb):f53r6n2O→Ex×Tr×Hp
 | .exit0 v43=>((.exit 0),mkS [(0,(.yl 0)),(2,(.bp 2 0)),(4,(.own 7))],[some (.lp Qp .ready none (kL 63 [(5,(.bp 3 0)),(9,(.bp 4 0)),(10,(.bp 5 0))])),some (.box ((Qe.cells ba1).map .pl)),some (.box ((Qa.cells be2).map .pl)),some (.box [(.own 6)]),some (.box (((cInt .i64) bd3).map .pl)),some (.box [(.pl (.fn 56))]),jR 3 Qb.cells bg4,jR 6 Qd.cells v43])
noncomputable def f53r6n2S(ba1:Qe)(be2:Qa)(bd3:Int)(bg4:List Qb)(v29:Int)(v30:List Qd):Tr×Hp:=(mkS [(0,(.yl 0)),(2,(.bp 2 0)),(4,(.own 7)),(11,(jL 4 Qc.cells ba1.Bids)),(12,(jI (ba1.Bids.length:Int))),(13,(jI v29))],[some (.lp Qp .ready none (kL 63 [(5,(.bp 3 0)),(9,(.bp 4 0)),(10,(.bp 5 0))])),some (.box ((Qe.cells ba1).map .pl)),some (.box ((Qa.cells be2).map .pl)),some (.box [(.own 6)]),some (.box (((cInt .i64) bd3).map .pl)),some (.box [(.pl (.fn 56))]),jR 3 Qb.cells bg4,jR 6 Qd.cells v30])
noncomputable def f53r6n2:Nat→Qe→Qa→Int→List Qb→Int→List Qd→Option f53r6n2O
 | 0,_,_,_,_,_,_=>none
 | f+1,ba1,be2,bd3,bg4,v29,v30 =>
  bif decide (v29<(ba1.Bids.length:Int)) then
   (at? ba1.Bids v29).bind fun x38 =>
   bif (seq x38.Lot be2.Name) then
    bif decide (be2.Reserve≤x38.Price) then
     req (fit (v30.length+1) 64) <|
     (f53r6n2 f ba1 be2 bd3 bg4 (wr64 (v29+1)) (v30++[(Qd.mk v29 0 x38)]))
    else
     (f53r6n2 f ba1 be2 bd3 bg4 (wr64 (v29+1)) v30)
   else
    (f53r6n2 f ba1 be2 bd3 bg4 (wr64 (v29+1)) v30)
  else
   some (.exit0 v30)
theorem f53r6n2_ok:∀(f:Nat)(ba1:Qe)(be2:Qa)(bd3:Int)(bg4:List Qb)(v29:Int)(v30:List Qd){o:f53r6n2O},f53r6n2 f ba1 be2 bd3 bg4 v29 v30=some o→TL Try.prog Try.f53.ntmps 7 f (cL (cL (Qk 1 (cL (Qk 1 c53))))) (f53r6n2S ba1 be2 bd3 bg4 v29 v30) (·=f53r6n2E ba1 be2 bd3 bg4 o)
 | 0,_,_,_,_,_,_,o,h=>by rw [f53r6n2] at h; cases h
 | f+1,ba1,be2,bd3,bg4,v29,v30,o,h=>by
  rw [f53r6n2] at h;refine TL.body (K:=fun s=>∃v29:Int,∃v30:List Qd,s=(f53r6n2S ba1 be2 bd3 bg4 v29 v30)∧f53r6n2 f ba1 be2 bd3 bg4 v29 v30=some o) ?_ (by rintro _ ⟨v29,v30,rfl,hk⟩; exact f53r6n2_ok f _ _ _ _ _ _ hk);rcases Qj h with ⟨h32,h⟩|⟨h32,h⟩
  ·obtain ⟨x38,h39,h⟩:=Qf h;rcases Qj h with ⟨h40,h⟩|⟨h40,h⟩
   ·rcases Qj h with ⟨h41,h⟩|⟨h41,h⟩
    ·obtain ⟨h42,h⟩:=Qbt h;exact rE Qh [j3,([],[(1,.idx (Int.toNat v29) (Qc.cells x38))],[]),(jT [6,7,8,9,10],[(11,.bool true)],[]),([],[(5,.fits)],[(5,.row 10 ((v30++[(Qd.mk v29 0 x38)]).map Qd.cells))]),j3] [some true,some true] [] [10] [0,2,4,11,12,13] (.norm,(f53r6n2S ba1 be2 bd3 bg4 (wr64 (v29+1)) (v30++[(Qd.mk v29 0 x38)]))) (ap h32 (ap (Qi h39).1 (ap (Qn Qc.cells (Qi h39).2) (ap2 h40 (ap4 h40 (ap h41 (ap (fit_map (te:=ti78) (xs:=v30) (n:=1) (c:=Qd.cells) h42 rfl) (ap (app_cv (xs:=v30) (ys:=[(Qd.mk v29 0 x38)]) (c:=Qd.cells)) an)))))))) (Qr.norm ⟨(wr64 (v29+1)),(v30++[(Qd.mk v29 0 x38)]),rfl,h⟩)
    ·exact rE Qh [j3,([],[(1,.idx (Int.toNat v29) (Qc.cells x38))],[]),(jT [6,7,8,9,10],[(11,.bool true)],[]),j3] [some true,some false] [] [7] [0,2,4,11,12,13] (.norm,(f53r6n2S ba1 be2 bd3 bg4 (wr64 (v29+1)) v30)) (ap h32 (ap (Qi h39).1 (ap (Qn Qc.cells (Qi h39).2) (ap2 h40 (ap4 h40 (ap h41 an)))))) (Qr.norm ⟨(wr64 (v29+1)),v30,rfl,h⟩)
   ·exact rE Qh [j3,([],[(1,.idx (Int.toNat v29) (Qc.cells x38))],[]),(jF [6,7,8,9,10],[(11,.bool false)],[]),j3] [some true,none] [] [7] [0,2,4,11,12,13] (.norm,(f53r6n2S ba1 be2 bd3 bg4 (wr64 (v29+1)) v30)) (ap h32 (ap (Qi h39).1 (ap (Qn Qc.cells (Qi h39).2) (ap2 h40 (ap4 h40 an))))) (Qr.norm ⟨(wr64 (v29+1)),v30,rfl,h⟩)
  ·obtain rfl:=Qg h;exact rK Qh 2 [j3] [some false] [] [7] [0,2,4] (.exit 0) ((f53r6n2E ba1 be2 bd3 bg4 (.exit0 v30)).2) (ap h32 an) (Qr.out rfl rfl)
noncomputable def f53r6n2L(ba1:Qe)(be2:Qa)(bd3:Int)(bg4:List Qb):List Qc→Int→(List Qd)→Option f53r6n2O
 | [],v29,v30 =>
  some (.exit0 v30)
 | x0::rest,v29,v30 =>
  bif (seq x0.Lot be2.Name) then
   bif decide (be2.Reserve≤x0.Price) then
    req (fit (v30.length+1) 64) <|
    (f53r6n2L ba1 be2 bd3 bg4 rest (v29+1) (v30++[(Qd.mk v29 0 x0)]))
   else
    (f53r6n2L ba1 be2 bd3 bg4 rest (v29+1) v30)
  else
   (f53r6n2L ba1 be2 bd3 bg4 rest (v29+1) v30)
theorem f53r6n2L_eq(ba1:Qe)(be2:Qa)(bd3:Int)(bg4:List Qb):∀(rest:List Qc)(f k:Nat)(v30:List Qd),ba1.Bids.drop k=rest→ba1.Bids.length≤maxLen→rest.length<f→f53r6n2 f ba1 be2 bd3 bg4 (k:Int) v30=f53r6n2L ba1 be2 bd3 bg4 rest (k:Int) v30
 | _,0,_,_,_,_,hf=>absurd hf (Nat.not_lt_zero _)
 | [],f+1,k,v30,hd,hm,hf=>by
  have hk:¬((k:Int)<(ba1.Bids.length:Int)):=by have:=Qah hd; omega
  rw [f53r6n2,f53r6n2L];simp only [decide_eq_false hk,cond_false]
 | x0::rest,f+1,k,v30,hd,hm,hf=>by
  obtain ⟨hx,hlt,hd'⟩:=Qbr hd;have hk:(k:Int)<(ba1.Bids.length:Int):=by omega
  have hw:wr64 ((k:Int)+1)=(k:Int)+1:=wr64_of (by omega) (by unfold maxLen at hm; omega);have ih:∀(v30:List Qd),f53r6n2 f ba1 be2 bd3 bg4 ((k:Int)+1) v30=f53r6n2L ba1 be2 bd3 bg4 rest ((k:Int)+1) v30:=fun v30=>f53r6n2L_eq ba1 be2 bd3 bg4 rest f (k+1) v30 hd' hm (by simpa using hf);rw [f53r6n2,f53r6n2L];simp only [decide_eq_true hk,cond_true,Qce,hx,Option.bind_some,hw,ih]
theorem f53r6n2_run(ba1:Qe)(be2:Qa)(bd3:Int)(bg4:List Qb)(v30:List Qd)(hm:ba1.Bids.length≤maxLen):f53r6n2 FUEL ba1 be2 bd3 bg4 0 v30=f53r6n2L ba1 be2 bd3 bg4 ba1.Bids 0 v30:=f53r6n2L_eq ba1 be2 bd3 bg4 ba1.Bids FUEL 0 v30 List.drop_zero hm (Qav hm)
inductive f53r6n1O where
 | norm (v47:List Qd)
noncomputable def f53r6n1E(ba1:Qe)(be2:Qa)(bd3:Int)(bg4:List Qb):f53r6n1O→Ex×Tr×Hp
 | .norm v47=>(.norm,mkS [(0,(.yl 0)),(2,(.bp 2 0)),(4,(.own 7))],[some (.lp Qp .ready none (kL 63 [(5,(.bp 3 0)),(9,(.bp 4 0)),(10,(.bp 5 0))])),some (.box ((Qe.cells ba1).map .pl)),some (.box ((Qa.cells be2).map .pl)),some (.box [(.own 6)]),some (.box (((cInt .i64) bd3).map .pl)),some (.box [(.pl (.fn 56))]),jR 3 Qb.cells bg4,jR 6 Qd.cells v47])
noncomputable def f53r6n1S(ba1:Qe)(be2:Qa)(bd3:Int)(bg4:List Qb):Tr×Hp:=(mkS [(0,(.yl 0)),(1,(.bp 1 0)),(2,(.bp 2 0)),(4,(.pl (.sl .nil 0 [])))],[some (.lp Qp .ready none (kL 63 [(5,(.bp 3 0)),(9,(.bp 4 0)),(10,(.bp 5 0))])),some (.box ((Qe.cells ba1).map .pl)),some (.box ((Qa.cells be2).map .pl)),some (.box [(.own 6)]),some (.box (((cInt .i64) bd3).map .pl)),some (.box [(.pl (.fn 56))]),jR 3 Qb.cells bg4])
noncomputable def f53r6n1(ba1:Qe)(be2:Qa)(bd3:Int)(bg4:List Qb):Option f53r6n1O :=
 (f53r6n2 FUEL ba1 be2 bd3 bg4 0 []).bind fun o44=>match o44 with
 | .exit0 v46=>some (.norm v46)
theorem f53r6n1_ok(ba1:Qe)(be2:Qa)(bd3:Int)(bg4:List Qb){o:f53r6n1O}(h:f53r6n1 ba1 be2 bd3 bg4=some o):T Try.prog Try.f53.ntmps 7 (cL (Qk 1 c53)) (f53r6n1S ba1 be2 bd3 bg4) (·=f53r6n1E ba1 be2 bd3 bg4 o):=by
 unfold f53r6n1 at h;refine rN Qh 1 [([],[],[(2,.val (jI (ba1.Bids.length:Int)))])] [] [.mat 4 6] [7] [0,2,4,11,12,13] (f53r6n2S ba1 be2 bd3 bg4 0 []) (ap (Qaa (xs:=ba1.Bids) (c:=Qc.cells)) an) ?_;obtain ⟨o44,h45,h⟩:=Qf h;cases o44 with
 | exit0 v46 =>
  obtain rfl:=Qg h;exact T.last' (T.bl (i:=0) (by kernel_rfl) (by kernel_rfl) (f53r6n2_ok FUEL ba1 be2 bd3 bg4 0 [] h45)) (tds:=[]) (m:=[7]) (keep:=[0,2,4]) (st2:=(f53r6n1E ba1 be2 bd3 bg4 (.norm v46)).2) (by kernel_rfl) an rfl
inductive f53r6n3O where
 | norm (v97:Int) (v98:List Qb)
 | ret
noncomputable def f53r6n3E(bd1:Int)(bf2:List Qd)(bd3:Int)(ba4:Qe)(be5:Qa)(bd6:Int)(bg7:List Qb):f53r6n3O→Ex×Tr×Hp
 | .norm v97 v98=>(.norm,mkS [(0,(.yl 0)),(7,(jI v97)),(41,(.own 8)),(42,(jI (bf2.length:Int))),(43,(jI bd3))],[some (.lp Qp .ready none (kL 63 [(5,(.bp 3 0)),(9,(.bp 4 0)),(10,(.bp 5 0))])),some (.box ((Qe.cells ba4).map .pl)),some (.box ((Qa.cells be5).map .pl)),some (.box [(.own 7)]),some (.box (((cInt .i64) bd6).map .pl)),some (.box [(.pl (.fn 56))]),none,jR 3 Qb.cells v98,jR 6 Qd.cells bf2])
 | .ret=>(.ret,mkS [],[some (.lp Qp .done (some (.exit 2)) (kL 63 [(5,(.bp 3 0)),(9,(.bp 4 0)),(10,(.bp 5 0))])),some (.box ((Qe.cells ba4).map .pl)),some (.box ((Qa.cells be5).map .pl)),some (.box [(.own 7)]),some (.box (((cInt .i64) bd6).map .pl)),some (.box [(.pl (.fn 56))]),none,jR 3 Qb.cells bg7])
noncomputable def f53r6n3S(bd1:Int)(bf2:List Qd)(bd3:Int)(ba4:Qe)(be5:Qa)(bd6:Int)(bg7:List Qb):Tr×Hp:=(mkS [(0,(.yl 0)),(7,(jI bd1)),(41,(.own 8)),(42,(jI (bf2.length:Int))),(43,(jI bd3))],[some (.lp Qp .ready none (kL 63 [(5,(.bp 3 0)),(9,(.bp 4 0)),(10,(.bp 5 0))])),some (.box ((Qe.cells ba4).map .pl)),some (.box ((Qa.cells be5).map .pl)),some (.box [(.own 7)]),some (.box (((cInt .i64) bd6).map .pl)),some (.box [(.pl (.fn 56))]),none,jR 3 Qb.cells bg7,jR 6 Qd.cells bf2])
noncomputable def f53r6n3(bd1:Int)(bf2:List Qd)(bd3:Int)(ba4:Qe)(be5:Qa)(bd6:Int)(bg7:List Qb):Option f53r6n3O :=
 (at? bf2 bd3).bind fun x93 =>
 (f12y2n0 (Qd.mk x93.index (mnI bd1 x93.bid.Units) x93.bid) bd6 bg7).bind fun o95=>match o95 with
 | .exit2=>some .ret
 | .norm=>some (.norm (wr64 (bd1-(mnI bd1 x93.bid.Units))) (bg7++[(Qb.mk x93.index (mnI bd1 x93.bid.Units) bd6)]))
theorem f53r6n3_ok(bd1:Int)(bf2:List Qd)(bd3:Int)(ba4:Qe)(be5:Qa)(bd6:Int)(bg7:List Qb){o:f53r6n3O}(h:f53r6n3 bd1 bf2 bd3 ba4 be5 bd6 bg7=some o):T Try.prog Try.f53.ntmps 7 (cL (Qk 2 (cL (cL (Qk 3 (Qk 1 (Qk 1 c53))))))) (f53r6n3S bd1 bf2 bd3 ba4 be5 bd6 bg7) (·=f53r6n3E bd1 bf2 bd3 ba4 be5 bd6 bg7 o):=by
 unfold f53r6n3 at h;refine T.block' (i:=3) (by kernel_rfl) ?_;obtain ⟨x93,h94,h⟩:=Qf h;refine rN Qh 3 [([],[(0,.at_ (Int.toNat bd3)),(1,.idx 0 (Qd.cells x93))],[]),j3,j3] [] [] [7,9,8] [0,7,9,41,42,43] (mkS [(0,(.yl 0)),(7,(jI (wr64 (bd1-(mnI bd1 x93.bid.Units))))),(9,(.bp 8 0)),(41,(.own 9)),(42,(jI (bf2.length:Int))),(43,(jI bd3))],[some (.lp Qp .ready none (kL 63 [(5,(.bp 3 0)),(9,(.bp 4 0)),(10,(.bp 5 0))])),some (.box ((Qe.cells ba4).map .pl)),some (.box ((Qa.cells be5).map .pl)),some (.box [(.own 7)]),some (.box (((cInt .i64) bd6).map .pl)),some (.box [(.pl (.fn 56))]),none,jR 3 Qb.cells bg7,some (.box ((Qd.cells (Qd.mk x93.index (mnI bd1 x93.bid.Units) x93.bid)).map .pl)),jR 6 Qd.cells bf2]) (ap (Qi h94).1 (ap (Qad Qd.cells (Qi h94).2) (ap (Qn Qd.cells (Qi h94).2) an))) ?_
 obtain ⟨o95,h96,h⟩:=Qf h;cases o95 with
 | exit2 =>
  refine T.oneN (by kernel_rfl) (yN Qh j3 2 false [some (.lp Qp .done (some (.exit 2)) (kL 63 [(5,(.bp 3 0)),(9,(.bp 4 0)),(10,(.bp 5 0))])),none,none,some (.box [(.own 7)]),some (.box (((cInt .i64) bd6).map .pl)),some (.box [(.pl (.fn 56))]),none,jR 3 Qb.cells bg7,none,none] [] [7,9] [0,7,41,42,43,60] (mkS [(0,(.yl 0)),(7,(jI (wr64 (bd1-(mnI bd1 x93.bid.Units))))),(41,(.own 8)),(42,(jI (bf2.length:Int))),(43,(jI bd3)),(60,(jB true))],[some (.lp Qp .done (some (.exit 2)) (kL 63 [(5,(.bp 3 0)),(9,(.bp 4 0)),(10,(.bp 5 0))])),some (.box ((Qe.cells ba4).map .pl)),some (.box ((Qa.cells be5).map .pl)),some (.box [(.own 7)]),some (.box (((cInt .i64) bd6).map .pl)),some (.box [(.pl (.fn 56))]),none,jR 3 Qb.cells bg7,jR 6 Qd.cells bf2]) (ap (Qbd.rn 10 [0,3,4,5,7] (f12y2_exit2 (Qd.mk x93.index (mnI bd1 x93.bid.Units) x93.bid) bd6 bg7 h96)) an)) rfl ?_
  obtain rfl:=Qg h;exact rE Qh [] [none] [] [7] [] (.ret,(f53r6n3E bd1 bf2 bd3 ba4 be5 bd6 bg7 .ret).2) an rfl
 | norm =>
  refine T.oneN (by kernel_rfl) (yN Qh j3 2 true [some (.lp Qp .ready none (kL 63 [(5,(.bp 3 0)),(9,(.bp 4 0)),(10,(.bp 5 0))])),none,none,some (.box [(.own 10)]),some (.box (((cInt .i64) bd6).map .pl)),some (.box [(.pl (.fn 56))]),none,none,none,none,some (.row false 3 ((bg7++[(Qb.mk x93.index (mnI bd1 x93.bid.Units) bd6)]).map Qb.cells))] [] [10,9] [0,7,41,42,43,60] (mkS [(0,(.yl 0)),(7,(jI (wr64 (bd1-(mnI bd1 x93.bid.Units))))),(41,(.own 8)),(42,(jI (bf2.length:Int))),(43,(jI bd3)),(60,(jB false))],[some (.lp Qp .ready none (kL 63 [(5,(.bp 3 0)),(9,(.bp 4 0)),(10,(.bp 5 0))])),some (.box ((Qe.cells ba4).map .pl)),some (.box ((Qa.cells be5).map .pl)),some (.box [(.own 7)]),some (.box (((cInt .i64) bd6).map .pl)),some (.box [(.pl (.fn 56))]),none,some (.row false 3 ((bg7++[(Qb.mk x93.index (mnI bd1 x93.bid.Units) bd6)]).map Qb.cells)),jR 6 Qd.cells bf2]) (ap (Qbd.rn 10 [0,3,4,5,7] (f12y2_norm (Qd.mk x93.index (mnI bd1 x93.bid.Units) x93.bid) bd6 bg7 h96)) an)) rfl ?_
  obtain rfl:=Qg h;exact rE Qh [] [none] [] [7,8] [0,7,41,42,43] (.norm,(f53r6n3E bd1 bf2 bd3 ba4 be5 bd6 bg7 (.norm (wr64 (bd1-(mnI bd1 x93.bid.Units))) (bg7++[(Qb.mk x93.index (mnI bd1 x93.bid.Units) bd6)]))).2) an rfl
inductive f53r6n4O where
 | exit2 (v103:List Qb)
 | ret (v104:List Qb)
noncomputable def f53r6n4E(x53:List Qd)(a1:Qe)(a2:Qa)(a3:Int):f53r6n4O→Ex×Tr×Hp
 | .exit2 v103=>((.exit 2),mkS [],[some (.lp Qp .ready none (kL 63 [(5,(.bp 3 0)),(9,(.bp 4 0)),(10,(.bp 5 0))])),some (.box ((Qe.cells a1).map .pl)),some (.box ((Qa.cells a2).map .pl)),some (.box [(.own 7)]),some (.box (((cInt .i64) a3).map .pl)),some (.box [(.pl (.fn 56))]),none,jR 3 Qb.cells v103])
 | .ret v104=>(.ret,mkS [],[some (.lp Qp .done (some (.exit 2)) (kL 63 [(5,(.bp 3 0)),(9,(.bp 4 0)),(10,(.bp 5 0))])),some (.box ((Qe.cells a1).map .pl)),some (.box ((Qa.cells a2).map .pl)),some (.box [(.own 7)]),some (.box (((cInt .i64) a3).map .pl)),some (.box [(.pl (.fn 56))]),none,jR 3 Qb.cells v104])
noncomputable def f53r6n4S(x53:List Qd)(a1:Qe)(a2:Qa)(a3 v86 v87:Int)(v88:List Qb):Tr×Hp:=(mkS [(0,(.yl 0)),(7,(jI v86)),(41,(.own 8)),(42,(jI (x53.length:Int))),(43,(jI v87))],[some (.lp Qp .ready none (kL 63 [(5,(.bp 3 0)),(9,(.bp 4 0)),(10,(.bp 5 0))])),some (.box ((Qe.cells a1).map .pl)),some (.box ((Qa.cells a2).map .pl)),some (.box [(.own 7)]),some (.box (((cInt .i64) a3).map .pl)),some (.box [(.pl (.fn 56))]),none,jR 3 Qb.cells v88,jR 6 Qd.cells x53])
noncomputable def f53r6n4:Nat→List Qd→Qe→Qa→Int→Int→Int→List Qb→Option f53r6n4O
 | 0,_,_,_,_,_,_,_=>none
 | f+1,x53,a1,a2,a3,v86,v87,v88 =>
  bif decide (v87<(x53.length:Int)) then
   (f53r6n3 v86 x53 v87 a1 a2 a3 v88).bind fun o99=>match o99 with
   | .norm v101 v102=>(f53r6n4 f x53 a1 a2 a3 v101 (wr64 (v87+1)) v102)
   | .ret=>some (.ret v88)
  else
   some (.exit2 v88)
theorem f53r6n4_ok:∀(f:Nat)(x53:List Qd)(a1:Qe)(a2:Qa)(a3 v86 v87:Int)(v88:List Qb){o:f53r6n4O},f53r6n4 f x53 a1 a2 a3 v86 v87 v88=some o→TL Try.prog Try.f53.ntmps 7 f (cL (cL (Qk 3 (Qk 1 (Qk 1 c53))))) (f53r6n4S x53 a1 a2 a3 v86 v87 v88) (·=f53r6n4E x53 a1 a2 a3 o)
 | 0,_,_,_,_,_,_,_,o,h=>by rw [f53r6n4] at h; cases h
 | f+1,x53,a1,a2,a3,v86,v87,v88,o,h=>by
  rw [f53r6n4] at h;refine TL.body (K:=fun s=>∃v86:Int,∃v87:Int,∃v88:List Qb,s=(f53r6n4S x53 a1 a2 a3 v86 v87 v88)∧f53r6n4 f x53 a1 a2 a3 v86 v87 v88=some o) ?_ (by rintro _ ⟨v86,v87,v88,rfl,hk⟩; exact f53r6n4_ok f _ _ _ _ _ _ _ hk);rcases Qj h with ⟨h90,h⟩|⟨h90,h⟩
  ·refine rN Qh 2 [j3] [some true] [] [7,8] [0,7,41,42,43] (f53r6n3S v86 x53 v87 a1 a2 a3 v88) (ap h90 an) ?_;obtain ⟨o99,h100,h⟩:=Qf h;cases o99 with
   | norm v101 v102 =>
    refine T.oneN (by kernel_rfl) (f53r6n3_ok v86 x53 v87 a1 a2 a3 v88 h100) (st2:=(f53r6n3E v86 x53 v87 a1 a2 a3 v88 (.norm v101 v102)).2) rfl ?_;exact rE Qh [j3] [] [] [7,8] [0,7,41,42,43] (.norm,(f53r6n4S x53 a1 a2 a3 v101 (wr64 (v87+1)) v102)) an (Qr.norm ⟨v101,(wr64 (v87+1)),v102,rfl,h⟩)
   | ret =>
    obtain rfl:=Qg h;exact T.oneX' (by kernel_rfl) (f53r6n3_ok v86 x53 v87 a1 a2 a3 v88 h100) (tds:=[]) (m:=[7]) (keep:=[]) (st2:=(f53r6n4E x53 a1 a2 a3 (.ret v88)).2) (by kernel_rfl) an rfl (Qr.out rfl rfl)
  ·obtain rfl:=Qg h;exact rK Qh 2 [j3] [some false] [] [7] [] (.exit 2) ((f53r6n4E x53 a1 a2 a3 (.exit2 v88)).2) (ap h90 an) (Qr.out rfl rfl)
inductive f53r6n0O where
 | norm (v109:List Qb)
 | ret (v110:List Qb)
noncomputable def f53r6n0E(a1:Qe)(a2:Qa)(a3:Int)(a4:List Qb):f53r6n0O→Ex×Tr×Hp
 | .norm v109=>(.norm,mkS [],[some (.lp Qp .ready none (kL 63 [(5,(.bp 3 0)),(9,(.bp 4 0)),(10,(.bp 5 0))])),some (.box ((Qe.cells a1).map .pl)),some (.box ((Qa.cells a2).map .pl)),some (.box [(.own 7)]),some (.box (((cInt .i64) a3).map .pl)),some (.box [(.pl (.fn 56))]),none,jR 3 Qb.cells v109])
 | .ret v110=>(.ret,mkS [],[some (.lp Qp .done (some (.exit 2)) (kL 63 [(5,(.bp 3 0)),(9,(.bp 4 0)),(10,(.bp 5 0))])),some (.box ((Qe.cells a1).map .pl)),some (.box ((Qa.cells a2).map .pl)),some (.box [(.own 7)]),some (.box (((cInt .i64) a3).map .pl)),some (.box [(.pl (.fn 56))]),none,jR 3 Qb.cells v110])
noncomputable def f53r6n0S(a1:Qe)(a2:Qa)(a3:Int)(a4:List Qb):Tr×Hp:=(Qak [(.yl 0),(.bp 1 0),(.bp 2 0)] 0 .leaf,[some (.lp Qp .ready none (kL 63 [(5,(.bp 3 0)),(9,(.bp 4 0)),(10,(.bp 5 0))])),some (.box ((Qe.cells a1).map .pl)),some (.box ((Qa.cells a2).map .pl)),some (.box [(.own 6)]),some (.box (((cInt .i64) a3).map .pl)),some (.box [(.pl (.fn 56))]),jR 3 Qb.cells a4])
noncomputable def f53r6n0(a1:Qe)(a2:Qa)(a3:Int)(a4:List Qb):Option f53r6n0O :=
 (f53r6n1 a1 a2 a3 a4).bind fun o48=>match o48 with
 | .norm v50=>(f54r1 v50).bind fun x53 =>
  (f53r6n4 FUEL x53 a1 a2 a3 a2.Units 0 a4).bind fun o105=>match o105 with
  | .exit2 v107=>some (.norm v107)
  | .ret v108=>some (.ret v108)
theorem f53r6n0_ok(a1:Qe)(a2:Qa)(a3:Int)(a4:List Qb){o:f53r6n0O}(h:f53r6n0 a1 a2 a3 a4=some o):T Try.prog Try.f53.ntmps 7 c53 (f53r6n0S a1 a2 a3 a4) (·=f53r6n0E a1 a2 a3 a4 o):=by
 unfold f53r6n0 at h;refine rN Qh 1 [j3] [] [] [] [0,1,2,4] (f53r6n1S a1 a2 a3 a4) an ?_;obtain ⟨o48,h49,h⟩:=Qf h;cases o48 with
 | norm v50 =>
  refine T.oneN (by kernel_rfl) (f53r6n1_ok a1 a2 a3 a4 h49) (st2:=(f53r6n1E a1 a2 a3 a4 (.norm v50)).2) rfl ?_;obtain ⟨x53,h54,h⟩:=Qf h;refine rN Qh 3 [([],[(1,.call (.tup []) (jN 7 [jR 6 Qd.cells x53]))],[]),j3,([],[],[(1,.val (jI (x53.length:Int)))])] [] [.movC 3 0] [8,7] [0,7,41,42,43] (f53r6n4S x53 a1 a2 a3 a2.Units 0 a4) (ap (Qo.rn 8 [7] (f54r1_ok v50 h54)) (ap (Qaa (xs:=x53) (c:=Qd.cells)) an)) ?_;obtain ⟨o105,h106,h⟩:=Qf h;cases o105 with
  | exit2 v107 =>
   obtain rfl:=Qg h;exact T.last' (T.bl (i:=2) (by kernel_rfl) (by kernel_rfl) (f53r6n4_ok FUEL x53 a1 a2 a3 a2.Units 0 a4 h106)) (tds:=[]) (m:=[7]) (keep:=[]) (st2:=(f53r6n0E a1 a2 a3 a4 (.norm v107)).2) (by kernel_rfl) an rfl
  | ret v108 =>
   obtain rfl:=Qg h;exact T.last' (T.bl (i:=2) (by kernel_rfl) (by kernel_rfl) (f53r6n4_ok FUEL x53 a1 a2 a3 a2.Units 0 a4 h106)) (tds:=[]) (m:=[7]) (keep:=[]) (st2:=(f53r6n0E a1 a2 a3 a4 (.ret v108)).2) (by kernel_rfl) an rfl
noncomputable def f53r6(a1:Qe)(a2:Qa)(a3:Int)(a4:List Qb):Option (Bool×(List Qb)):=(f53r6n0 a1 a2 a3 a4).bind fun o=>match o with
 | .norm v109=>some (true,v109)
 | .ret v110=>some (false,v110)
theorem f53r6_ok(a1:Qe)(a2:Qa)(a3:Int)(a4:List Qb){r:Bool×(List Qb)}(h:f53r6 a1 a2 a3 a4=some r):Qo Try.prog true 53 [(.yl 0),(.bp 1 0),(.bp 2 0)] [some (.lp Qp .ready none (kL 63 [(5,(.bp 3 0)),(9,(.bp 4 0)),(10,(.bp 5 0))])),some (.box ((Qe.cells a1).map .pl)),some (.box ((Qa.cells a2).map .pl)),some (.box [(.own 6)]),some (.box (((cInt .i64) a3).map .pl)),some (.box [(.pl (.fn 56))]),jR 3 Qb.cells a4] (.tup []) [some (.lp Qp (lstOf r.1) (pdOf r.1 (.exit 2)) (kL 63 [(5,(.bp 3 0)),(9,(.bp 4 0)),(10,(.bp 5 0))])),some (.box ((Qe.cells a1).map .pl)),some (.box ((Qa.cells a2).map .pl)),some (.box [(.own 7)]),some (.box (((cInt .i64) a3).map .pl)),some (.box [(.pl (.fn 56))]),none,jR 3 Qb.cells r.2]:=by
 unfold f53r6 at h;obtain ⟨o,ho,h⟩:=Qf h;cases o with
 | norm v109 =>
  obtain rfl:=Qg h;exact Qo.shared Qh (f:=Try.f53) (c:=c53) (by kernel_rfl) (by kernel_rfl) (by kernel_rfl) ((f53r6n0_ok a1 a2 a3 a4 ho).mono fun r e=>by subst e; exact ⟨.inr rfl,by kernel_rfl,by kernel_rfl⟩)
 | ret v110 =>
  obtain rfl:=Qg h;exact Qo.shared Qh (f:=Try.f53) (c:=c53) (by kernel_rfl) (by kernel_rfl) (by kernel_rfl) ((f53r6n0_ok a1 a2 a3 a4 ho).mono fun r e=>by subst e; exact ⟨.inl rfl,by kernel_rfl,by kernel_rfl⟩)

inductive f53r7n2O where
 | exit0 (v43:List Qd)
noncomputable def f53r7n2E(ba1:Qe)(be2:Qa)(bd3:Int)(bg4:List Qb):f53r7n2O→Ex×Tr×Hp
 | .exit0 v43=>((.exit 0),mkS [(0,(.yl 0)),(2,(.bp 2 0)),(4,(.own 7))],[some (.lp Qp .ready none (kL 63 [(5,(.bp 3 0)),(9,(.bp 4 0)),(10,(.bp 5 0))])),some (.box ((Qe.cells ba1).map .pl)),some (.box ((Qa.cells be2).map .pl)),some (.box [(.own 6)]),some (.box (((cInt .i64) bd3).map .pl)),some (.box [(.pl (.fn 57))]),jR 3 Qb.cells bg4,jR 6 Qd.cells v43])
noncomputable def f53r7n2S(ba1:Qe)(be2:Qa)(bd3:Int)(bg4:List Qb)(v29:Int)(v30:List Qd):Tr×Hp:=(mkS [(0,(.yl 0)),(2,(.bp 2 0)),(4,(.own 7)),(11,(jL 4 Qc.cells ba1.Bids)),(12,(jI (ba1.Bids.length:Int))),(13,(jI v29))],[some (.lp Qp .ready none (kL 63 [(5,(.bp 3 0)),(9,(.bp 4 0)),(10,(.bp 5 0))])),some (.box ((Qe.cells ba1).map .pl)),some (.box ((Qa.cells be2).map .pl)),some (.box [(.own 6)]),some (.box (((cInt .i64) bd3).map .pl)),some (.box [(.pl (.fn 57))]),jR 3 Qb.cells bg4,jR 6 Qd.cells v30])
noncomputable def f53r7n2:Nat→Qe→Qa→Int→List Qb→Int→List Qd→Option f53r7n2O
 | 0,_,_,_,_,_,_=>none
 | f+1,ba1,be2,bd3,bg4,v29,v30 =>
  bif decide (v29<(ba1.Bids.length:Int)) then
   (at? ba1.Bids v29).bind fun x38 =>
   bif (seq x38.Lot be2.Name) then
    bif decide (be2.Reserve≤x38.Price) then
     req (fit (v30.length+1) 64) <|
     (f53r7n2 f ba1 be2 bd3 bg4 (wr64 (v29+1)) (v30++[(Qd.mk v29 0 x38)]))
    else
     (f53r7n2 f ba1 be2 bd3 bg4 (wr64 (v29+1)) v30)
   else
    (f53r7n2 f ba1 be2 bd3 bg4 (wr64 (v29+1)) v30)
  else
   some (.exit0 v30)
theorem f53r7n2_ok:∀(f:Nat)(ba1:Qe)(be2:Qa)(bd3:Int)(bg4:List Qb)(v29:Int)(v30:List Qd){o:f53r7n2O},f53r7n2 f ba1 be2 bd3 bg4 v29 v30=some o→TL Try.prog Try.f53.ntmps 7 f (cL (cL (Qk 1 (cL (Qk 1 c53))))) (f53r7n2S ba1 be2 bd3 bg4 v29 v30) (·=f53r7n2E ba1 be2 bd3 bg4 o)
 | 0,_,_,_,_,_,_,o,h=>by rw [f53r7n2] at h; cases h
 | f+1,ba1,be2,bd3,bg4,v29,v30,o,h=>by
  rw [f53r7n2] at h;refine TL.body (K:=fun s=>∃v29:Int,∃v30:List Qd,s=(f53r7n2S ba1 be2 bd3 bg4 v29 v30)∧f53r7n2 f ba1 be2 bd3 bg4 v29 v30=some o) ?_ (by rintro _ ⟨v29,v30,rfl,hk⟩; exact f53r7n2_ok f _ _ _ _ _ _ hk);rcases Qj h with ⟨h32,h⟩|⟨h32,h⟩
  ·obtain ⟨x38,h39,h⟩:=Qf h;rcases Qj h with ⟨h40,h⟩|⟨h40,h⟩
   ·rcases Qj h with ⟨h41,h⟩|⟨h41,h⟩
    ·obtain ⟨h42,h⟩:=Qbt h;exact rE Qh [j3,([],[(1,.idx (Int.toNat v29) (Qc.cells x38))],[]),(jT [6,7,8,9,10],[(11,.bool true)],[]),([],[(5,.fits)],[(5,.row 10 ((v30++[(Qd.mk v29 0 x38)]).map Qd.cells))]),j3] [some true,some true] [] [10] [0,2,4,11,12,13] (.norm,(f53r7n2S ba1 be2 bd3 bg4 (wr64 (v29+1)) (v30++[(Qd.mk v29 0 x38)]))) (ap h32 (ap (Qi h39).1 (ap (Qn Qc.cells (Qi h39).2) (ap2 h40 (ap4 h40 (ap h41 (ap (fit_map (te:=ti78) (xs:=v30) (n:=1) (c:=Qd.cells) h42 rfl) (ap (app_cv (xs:=v30) (ys:=[(Qd.mk v29 0 x38)]) (c:=Qd.cells)) an)))))))) (Qr.norm ⟨(wr64 (v29+1)),(v30++[(Qd.mk v29 0 x38)]),rfl,h⟩)
    ·exact rE Qh [j3,([],[(1,.idx (Int.toNat v29) (Qc.cells x38))],[]),(jT [6,7,8,9,10],[(11,.bool true)],[]),j3] [some true,some false] [] [7] [0,2,4,11,12,13] (.norm,(f53r7n2S ba1 be2 bd3 bg4 (wr64 (v29+1)) v30)) (ap h32 (ap (Qi h39).1 (ap (Qn Qc.cells (Qi h39).2) (ap2 h40 (ap4 h40 (ap h41 an)))))) (Qr.norm ⟨(wr64 (v29+1)),v30,rfl,h⟩)
   ·exact rE Qh [j3,([],[(1,.idx (Int.toNat v29) (Qc.cells x38))],[]),(jF [6,7,8,9,10],[(11,.bool false)],[]),j3] [some true,none] [] [7] [0,2,4,11,12,13] (.norm,(f53r7n2S ba1 be2 bd3 bg4 (wr64 (v29+1)) v30)) (ap h32 (ap (Qi h39).1 (ap (Qn Qc.cells (Qi h39).2) (ap2 h40 (ap4 h40 an))))) (Qr.norm ⟨(wr64 (v29+1)),v30,rfl,h⟩)
  ·obtain rfl:=Qg h;exact rK Qh 2 [j3] [some false] [] [7] [0,2,4] (.exit 0) ((f53r7n2E ba1 be2 bd3 bg4 (.exit0 v30)).2) (ap h32 an) (Qr.out rfl rfl)
noncomputable def f53r7n2L(ba1:Qe)(be2:Qa)(bd3:Int)(bg4:List Qb):List Qc→Int→(List Qd)→Option f53r7n2O
 | [],v29,v30 =>
  some (.exit0 v30)
 | x0::rest,v29,v30 =>
  bif (seq x0.Lot be2.Name) then
   bif decide (be2.Reserve≤x0.Price) then
    req (fit (v30.length+1) 64) <|
    (f53r7n2L ba1 be2 bd3 bg4 rest (v29+1) (v30++[(Qd.mk v29 0 x0)]))
   else
    (f53r7n2L ba1 be2 bd3 bg4 rest (v29+1) v30)
  else
   (f53r7n2L ba1 be2 bd3 bg4 rest (v29+1) v30)
theorem f53r7n2L_eq(ba1:Qe)(be2:Qa)(bd3:Int)(bg4:List Qb):∀(rest:List Qc)(f k:Nat)(v30:List Qd),ba1.Bids.drop k=rest→ba1.Bids.length≤maxLen→rest.length<f→f53r7n2 f ba1 be2 bd3 bg4 (k:Int) v30=f53r7n2L ba1 be2 bd3 bg4 rest (k:Int) v30
 | _,0,_,_,_,_,hf=>absurd hf (Nat.not_lt_zero _)
 | [],f+1,k,v30,hd,hm,hf=>by
  have hk:¬((k:Int)<(ba1.Bids.length:Int)):=by have:=Qah hd; omega
  rw [f53r7n2,f53r7n2L];simp only [decide_eq_false hk,cond_false]
 | x0::rest,f+1,k,v30,hd,hm,hf=>by
  obtain ⟨hx,hlt,hd'⟩:=Qbr hd;have hk:(k:Int)<(ba1.Bids.length:Int):=by omega
  have hw:wr64 ((k:Int)+1)=(k:Int)+1:=wr64_of (by omega) (by unfold maxLen at hm; omega);have ih:∀(v30:List Qd),f53r7n2 f ba1 be2 bd3 bg4 ((k:Int)+1) v30=f53r7n2L ba1 be2 bd3 bg4 rest ((k:Int)+1) v30:=fun v30=>f53r7n2L_eq ba1 be2 bd3 bg4 rest f (k+1) v30 hd' hm (by simpa using hf);rw [f53r7n2,f53r7n2L];simp only [decide_eq_true hk,cond_true,Qce,hx,Option.bind_some,hw,ih]
theorem f53r7n2_run(ba1:Qe)(be2:Qa)(bd3:Int)(bg4:List Qb)(v30:List Qd)(hm:ba1.Bids.length≤maxLen):f53r7n2 FUEL ba1 be2 bd3 bg4 0 v30=f53r7n2L ba1 be2 bd3 bg4 ba1.Bids 0 v30:=f53r7n2L_eq ba1 be2 bd3 bg4 ba1.Bids FUEL 0 v30 List.drop_zero hm (Qav hm)
inductive f53r7n1O where
 | norm (v47:List Qd)
noncomputable def f53r7n1E(ba1:Qe)(be2:Qa)(bd3:Int)(bg4:List Qb):f53r7n1O→Ex×Tr×Hp
 | .norm v47=>(.norm,mkS [(0,(.yl 0)),(2,(.bp 2 0)),(4,(.own 7))],[some (.lp Qp .ready none (kL 63 [(5,(.bp 3 0)),(9,(.bp 4 0)),(10,(.bp 5 0))])),some (.box ((Qe.cells ba1).map .pl)),some (.box ((Qa.cells be2).map .pl)),some (.box [(.own 6)]),some (.box (((cInt .i64) bd3).map .pl)),some (.box [(.pl (.fn 57))]),jR 3 Qb.cells bg4,jR 6 Qd.cells v47])
noncomputable def f53r7n1S(ba1:Qe)(be2:Qa)(bd3:Int)(bg4:List Qb):Tr×Hp:=(mkS [(0,(.yl 0)),(1,(.bp 1 0)),(2,(.bp 2 0)),(4,(.pl (.sl .nil 0 [])))],[some (.lp Qp .ready none (kL 63 [(5,(.bp 3 0)),(9,(.bp 4 0)),(10,(.bp 5 0))])),some (.box ((Qe.cells ba1).map .pl)),some (.box ((Qa.cells be2).map .pl)),some (.box [(.own 6)]),some (.box (((cInt .i64) bd3).map .pl)),some (.box [(.pl (.fn 57))]),jR 3 Qb.cells bg4])
noncomputable def f53r7n1(ba1:Qe)(be2:Qa)(bd3:Int)(bg4:List Qb):Option f53r7n1O :=
 (f53r7n2 FUEL ba1 be2 bd3 bg4 0 []).bind fun o44=>match o44 with
 | .exit0 v46=>some (.norm v46)
theorem f53r7n1_ok(ba1:Qe)(be2:Qa)(bd3:Int)(bg4:List Qb){o:f53r7n1O}(h:f53r7n1 ba1 be2 bd3 bg4=some o):T Try.prog Try.f53.ntmps 7 (cL (Qk 1 c53)) (f53r7n1S ba1 be2 bd3 bg4) (·=f53r7n1E ba1 be2 bd3 bg4 o):=by
 unfold f53r7n1 at h;refine rN Qh 1 [([],[],[(2,.val (jI (ba1.Bids.length:Int)))])] [] [.mat 4 6] [7] [0,2,4,11,12,13] (f53r7n2S ba1 be2 bd3 bg4 0 []) (ap (Qaa (xs:=ba1.Bids) (c:=Qc.cells)) an) ?_;obtain ⟨o44,h45,h⟩:=Qf h;cases o44 with
 | exit0 v46 =>
  obtain rfl:=Qg h;exact T.last' (T.bl (i:=0) (by kernel_rfl) (by kernel_rfl) (f53r7n2_ok FUEL ba1 be2 bd3 bg4 0 [] h45)) (tds:=[]) (m:=[7]) (keep:=[0,2,4]) (st2:=(f53r7n1E ba1 be2 bd3 bg4 (.norm v46)).2) (by kernel_rfl) an rfl
inductive f53r7n3O where
 | norm (v97:Int) (v98:List Qb)
 | ret
noncomputable def f53r7n3E(bd1:Int)(bf2:List Qd)(bd3:Int)(ba4:Qe)(be5:Qa)(bd6:Int)(bg7:List Qb):f53r7n3O→Ex×Tr×Hp
 | .norm v97 v98=>(.norm,mkS [(0,(.yl 0)),(7,(jI v97)),(41,(.own 8)),(42,(jI (bf2.length:Int))),(43,(jI bd3))],[some (.lp Qp .ready none (kL 63 [(5,(.bp 3 0)),(9,(.bp 4 0)),(10,(.bp 5 0))])),some (.box ((Qe.cells ba4).map .pl)),some (.box ((Qa.cells be5).map .pl)),some (.box [(.own 7)]),some (.box (((cInt .i64) bd6).map .pl)),some (.box [(.pl (.fn 57))]),none,jR 3 Qb.cells v98,jR 6 Qd.cells bf2])
 | .ret=>(.ret,mkS [],[some (.lp Qp .done (some (.exit 2)) (kL 63 [(5,(.bp 3 0)),(9,(.bp 4 0)),(10,(.bp 5 0))])),some (.box ((Qe.cells ba4).map .pl)),some (.box ((Qa.cells be5).map .pl)),some (.box [(.own 7)]),some (.box (((cInt .i64) bd6).map .pl)),some (.box [(.pl (.fn 57))]),none,jR 3 Qb.cells bg7])
noncomputable def f53r7n3S(bd1:Int)(bf2:List Qd)(bd3:Int)(ba4:Qe)(be5:Qa)(bd6:Int)(bg7:List Qb):Tr×Hp:=(mkS [(0,(.yl 0)),(7,(jI bd1)),(41,(.own 8)),(42,(jI (bf2.length:Int))),(43,(jI bd3))],[some (.lp Qp .ready none (kL 63 [(5,(.bp 3 0)),(9,(.bp 4 0)),(10,(.bp 5 0))])),some (.box ((Qe.cells ba4).map .pl)),some (.box ((Qa.cells be5).map .pl)),some (.box [(.own 7)]),some (.box (((cInt .i64) bd6).map .pl)),some (.box [(.pl (.fn 57))]),none,jR 3 Qb.cells bg7,jR 6 Qd.cells bf2])
noncomputable def f53r7n3(bd1:Int)(bf2:List Qd)(bd3:Int)(ba4:Qe)(be5:Qa)(bd6:Int)(bg7:List Qb):Option f53r7n3O :=
 (at? bf2 bd3).bind fun x93 =>
 (f12y4n0 (Qd.mk x93.index (mnI bd1 x93.bid.Units) x93.bid) bd6 bg7).bind fun o95=>match o95 with
 | .exit2=>some .ret
 | .norm=>some (.norm (wr64 (bd1-(mnI bd1 x93.bid.Units))) (bg7++[(Qb.mk x93.index (mnI bd1 x93.bid.Units) bd6)]))
theorem f53r7n3_ok(bd1:Int)(bf2:List Qd)(bd3:Int)(ba4:Qe)(be5:Qa)(bd6:Int)(bg7:List Qb){o:f53r7n3O}(h:f53r7n3 bd1 bf2 bd3 ba4 be5 bd6 bg7=some o):T Try.prog Try.f53.ntmps 7 (cL (Qk 2 (cL (cL (Qk 3 (Qk 1 (Qk 1 c53))))))) (f53r7n3S bd1 bf2 bd3 ba4 be5 bd6 bg7) (·=f53r7n3E bd1 bf2 bd3 ba4 be5 bd6 bg7 o):=by
 unfold f53r7n3 at h;refine T.block' (i:=3) (by kernel_rfl) ?_;obtain ⟨x93,h94,h⟩:=Qf h;refine rN Qh 3 [([],[(0,.at_ (Int.toNat bd3)),(1,.idx 0 (Qd.cells x93))],[]),j3,j3] [] [] [7,9,8] [0,7,9,41,42,43] (mkS [(0,(.yl 0)),(7,(jI (wr64 (bd1-(mnI bd1 x93.bid.Units))))),(9,(.bp 8 0)),(41,(.own 9)),(42,(jI (bf2.length:Int))),(43,(jI bd3))],[some (.lp Qp .ready none (kL 63 [(5,(.bp 3 0)),(9,(.bp 4 0)),(10,(.bp 5 0))])),some (.box ((Qe.cells ba4).map .pl)),some (.box ((Qa.cells be5).map .pl)),some (.box [(.own 7)]),some (.box (((cInt .i64) bd6).map .pl)),some (.box [(.pl (.fn 57))]),none,jR 3 Qb.cells bg7,some (.box ((Qd.cells (Qd.mk x93.index (mnI bd1 x93.bid.Units) x93.bid)).map .pl)),jR 6 Qd.cells bf2]) (ap (Qi h94).1 (ap (Qad Qd.cells (Qi h94).2) (ap (Qn Qd.cells (Qi h94).2) an))) ?_
 obtain ⟨o95,h96,h⟩:=Qf h;cases o95 with
 | exit2 =>
  refine T.oneN (by kernel_rfl) (yN Qh j3 2 false [some (.lp Qp .done (some (.exit 2)) (kL 63 [(5,(.bp 3 0)),(9,(.bp 4 0)),(10,(.bp 5 0))])),none,none,some (.box [(.own 7)]),some (.box (((cInt .i64) bd6).map .pl)),some (.box [(.pl (.fn 57))]),none,jR 3 Qb.cells bg7,none,none] [] [7,9] [0,7,41,42,43,60] (mkS [(0,(.yl 0)),(7,(jI (wr64 (bd1-(mnI bd1 x93.bid.Units))))),(41,(.own 8)),(42,(jI (bf2.length:Int))),(43,(jI bd3)),(60,(jB true))],[some (.lp Qp .done (some (.exit 2)) (kL 63 [(5,(.bp 3 0)),(9,(.bp 4 0)),(10,(.bp 5 0))])),some (.box ((Qe.cells ba4).map .pl)),some (.box ((Qa.cells be5).map .pl)),some (.box [(.own 7)]),some (.box (((cInt .i64) bd6).map .pl)),some (.box [(.pl (.fn 57))]),none,jR 3 Qb.cells bg7,jR 6 Qd.cells bf2]) (ap (Qbd.rn 10 [0,3,4,5,7] (f12y4_exit2 (Qd.mk x93.index (mnI bd1 x93.bid.Units) x93.bid) bd6 bg7 h96)) an)) rfl ?_
  obtain rfl:=Qg h;exact rE Qh [] [none] [] [7] [] (.ret,(f53r7n3E bd1 bf2 bd3 ba4 be5 bd6 bg7 .ret).2) an rfl
 | norm =>
  refine T.oneN (by kernel_rfl) (yN Qh j3 2 true [some (.lp Qp .ready none (kL 63 [(5,(.bp 3 0)),(9,(.bp 4 0)),(10,(.bp 5 0))])),none,none,some (.box [(.own 10)]),some (.box (((cInt .i64) bd6).map .pl)),some (.box [(.pl (.fn 57))]),none,none,none,none,some (.row false 3 ((bg7++[(Qb.mk x93.index (mnI bd1 x93.bid.Units) bd6)]).map Qb.cells))] [] [10,9] [0,7,41,42,43,60] (mkS [(0,(.yl 0)),(7,(jI (wr64 (bd1-(mnI bd1 x93.bid.Units))))),(41,(.own 8)),(42,(jI (bf2.length:Int))),(43,(jI bd3)),(60,(jB false))],[some (.lp Qp .ready none (kL 63 [(5,(.bp 3 0)),(9,(.bp 4 0)),(10,(.bp 5 0))])),some (.box ((Qe.cells ba4).map .pl)),some (.box ((Qa.cells be5).map .pl)),some (.box [(.own 7)]),some (.box (((cInt .i64) bd6).map .pl)),some (.box [(.pl (.fn 57))]),none,some (.row false 3 ((bg7++[(Qb.mk x93.index (mnI bd1 x93.bid.Units) bd6)]).map Qb.cells)),jR 6 Qd.cells bf2]) (ap (Qbd.rn 10 [0,3,4,5,7] (f12y4_norm (Qd.mk x93.index (mnI bd1 x93.bid.Units) x93.bid) bd6 bg7 h96)) an)) rfl ?_
  obtain rfl:=Qg h;exact rE Qh [] [none] [] [7,8] [0,7,41,42,43] (.norm,(f53r7n3E bd1 bf2 bd3 ba4 be5 bd6 bg7 (.norm (wr64 (bd1-(mnI bd1 x93.bid.Units))) (bg7++[(Qb.mk x93.index (mnI bd1 x93.bid.Units) bd6)]))).2) an rfl
inductive f53r7n4O where
 | exit2 (v103:List Qb)
 | ret (v104:List Qb)
noncomputable def f53r7n4E(x53:List Qd)(a1:Qe)(a2:Qa)(a3:Int):f53r7n4O→Ex×Tr×Hp
 | .exit2 v103=>((.exit 2),mkS [],[some (.lp Qp .ready none (kL 63 [(5,(.bp 3 0)),(9,(.bp 4 0)),(10,(.bp 5 0))])),some (.box ((Qe.cells a1).map .pl)),some (.box ((Qa.cells a2).map .pl)),some (.box [(.own 7)]),some (.box (((cInt .i64) a3).map .pl)),some (.box [(.pl (.fn 57))]),none,jR 3 Qb.cells v103])
 | .ret v104=>(.ret,mkS [],[some (.lp Qp .done (some (.exit 2)) (kL 63 [(5,(.bp 3 0)),(9,(.bp 4 0)),(10,(.bp 5 0))])),some (.box ((Qe.cells a1).map .pl)),some (.box ((Qa.cells a2).map .pl)),some (.box [(.own 7)]),some (.box (((cInt .i64) a3).map .pl)),some (.box [(.pl (.fn 57))]),none,jR 3 Qb.cells v104])
noncomputable def f53r7n4S(x53:List Qd)(a1:Qe)(a2:Qa)(a3 v86 v87:Int)(v88:List Qb):Tr×Hp:=(mkS [(0,(.yl 0)),(7,(jI v86)),(41,(.own 8)),(42,(jI (x53.length:Int))),(43,(jI v87))],[some (.lp Qp .ready none (kL 63 [(5,(.bp 3 0)),(9,(.bp 4 0)),(10,(.bp 5 0))])),some (.box ((Qe.cells a1).map .pl)),some (.box ((Qa.cells a2).map .pl)),some (.box [(.own 7)]),some (.box (((cInt .i64) a3).map .pl)),some (.box [(.pl (.fn 57))]),none,jR 3 Qb.cells v88,jR 6 Qd.cells x53])
noncomputable def f53r7n4:Nat→List Qd→Qe→Qa→Int→Int→Int→List Qb→Option f53r7n4O
 | 0,_,_,_,_,_,_,_=>none
 | f+1,x53,a1,a2,a3,v86,v87,v88 =>
  bif decide (v87<(x53.length:Int)) then
   (f53r7n3 v86 x53 v87 a1 a2 a3 v88).bind fun o99=>match o99 with
   | .norm v101 v102=>(f53r7n4 f x53 a1 a2 a3 v101 (wr64 (v87+1)) v102)
   | .ret=>some (.ret v88)
  else
   some (.exit2 v88)
theorem f53r7n4_ok:∀(f:Nat)(x53:List Qd)(a1:Qe)(a2:Qa)(a3 v86 v87:Int)(v88:List Qb){o:f53r7n4O},f53r7n4 f x53 a1 a2 a3 v86 v87 v88=some o→TL Try.prog Try.f53.ntmps 7 f (cL (cL (Qk 3 (Qk 1 (Qk 1 c53))))) (f53r7n4S x53 a1 a2 a3 v86 v87 v88) (·=f53r7n4E x53 a1 a2 a3 o)
 | 0,_,_,_,_,_,_,_,o,h=>by rw [f53r7n4] at h; cases h
 | f+1,x53,a1,a2,a3,v86,v87,v88,o,h=>by
  rw [f53r7n4] at h;refine TL.body (K:=fun s=>∃v86:Int,∃v87:Int,∃v88:List Qb,s=(f53r7n4S x53 a1 a2 a3 v86 v87 v88)∧f53r7n4 f x53 a1 a2 a3 v86 v87 v88=some o) ?_ (by rintro _ ⟨v86,v87,v88,rfl,hk⟩; exact f53r7n4_ok f _ _ _ _ _ _ _ hk);rcases Qj h with ⟨h90,h⟩|⟨h90,h⟩
  ·refine rN Qh 2 [j3] [some true] [] [7,8] [0,7,41,42,43] (f53r7n3S v86 x53 v87 a1 a2 a3 v88) (ap h90 an) ?_;obtain ⟨o99,h100,h⟩:=Qf h;cases o99 with
   | norm v101 v102 =>
    refine T.oneN (by kernel_rfl) (f53r7n3_ok v86 x53 v87 a1 a2 a3 v88 h100) (st2:=(f53r7n3E v86 x53 v87 a1 a2 a3 v88 (.norm v101 v102)).2) rfl ?_;exact rE Qh [j3] [] [] [7,8] [0,7,41,42,43] (.norm,(f53r7n4S x53 a1 a2 a3 v101 (wr64 (v87+1)) v102)) an (Qr.norm ⟨v101,(wr64 (v87+1)),v102,rfl,h⟩)
   | ret =>
    obtain rfl:=Qg h;exact T.oneX' (by kernel_rfl) (f53r7n3_ok v86 x53 v87 a1 a2 a3 v88 h100) (tds:=[]) (m:=[7]) (keep:=[]) (st2:=(f53r7n4E x53 a1 a2 a3 (.ret v88)).2) (by kernel_rfl) an rfl (Qr.out rfl rfl)
  ·obtain rfl:=Qg h;exact rK Qh 2 [j3] [some false] [] [7] [] (.exit 2) ((f53r7n4E x53 a1 a2 a3 (.exit2 v88)).2) (ap h90 an) (Qr.out rfl rfl)
inductive f53r7n0O where
 | norm (v109:List Qb)
 | ret (v110:List Qb)
noncomputable def f53r7n0E(a1:Qe)(a2:Qa)(a3:Int)(a4:List Qb):f53r7n0O→Ex×Tr×Hp
 | .norm v109=>(.norm,mkS [],[some (.lp Qp .ready none (kL 63 [(5,(.bp 3 0)),(9,(.bp 4 0)),(10,(.bp 5 0))])),some (.box ((Qe.cells a1).map .pl)),some (.box ((Qa.cells a2).map .pl)),some (.box [(.own 7)]),some (.box (((cInt .i64) a3).map .pl)),some (.box [(.pl (.fn 57))]),none,jR 3 Qb.cells v109])
 | .ret v110=>(.ret,mkS [],[some (.lp Qp .done (some (.exit 2)) (kL 63 [(5,(.bp 3 0)),(9,(.bp 4 0)),(10,(.bp 5 0))])),some (.box ((Qe.cells a1).map .pl)),some (.box ((Qa.cells a2).map .pl)),some (.box [(.own 7)]),some (.box (((cInt .i64) a3).map .pl)),some (.box [(.pl (.fn 57))]),none,jR 3 Qb.cells v110])
noncomputable def f53r7n0S(a1:Qe)(a2:Qa)(a3:Int)(a4:List Qb):Tr×Hp:=(Qak [(.yl 0),(.bp 1 0),(.bp 2 0)] 0 .leaf,[some (.lp Qp .ready none (kL 63 [(5,(.bp 3 0)),(9,(.bp 4 0)),(10,(.bp 5 0))])),some (.box ((Qe.cells a1).map .pl)),some (.box ((Qa.cells a2).map .pl)),some (.box [(.own 6)]),some (.box (((cInt .i64) a3).map .pl)),some (.box [(.pl (.fn 57))]),jR 3 Qb.cells a4])
noncomputable def f53r7n0(a1:Qe)(a2:Qa)(a3:Int)(a4:List Qb):Option f53r7n0O :=
 (f53r7n1 a1 a2 a3 a4).bind fun o48=>match o48 with
 | .norm v50=>(f54r1 v50).bind fun x53 =>
  (f53r7n4 FUEL x53 a1 a2 a3 a2.Units 0 a4).bind fun o105=>match o105 with
  | .exit2 v107=>some (.norm v107)
  | .ret v108=>some (.ret v108)
theorem f53r7n0_ok(a1:Qe)(a2:Qa)(a3:Int)(a4:List Qb){o:f53r7n0O}(h:f53r7n0 a1 a2 a3 a4=some o):T Try.prog Try.f53.ntmps 7 c53 (f53r7n0S a1 a2 a3 a4) (·=f53r7n0E a1 a2 a3 a4 o):=by
 unfold f53r7n0 at h;refine rN Qh 1 [j3] [] [] [] [0,1,2,4] (f53r7n1S a1 a2 a3 a4) an ?_;obtain ⟨o48,h49,h⟩:=Qf h;cases o48 with
 | norm v50 =>
  refine T.oneN (by kernel_rfl) (f53r7n1_ok a1 a2 a3 a4 h49) (st2:=(f53r7n1E a1 a2 a3 a4 (.norm v50)).2) rfl ?_;obtain ⟨x53,h54,h⟩:=Qf h;refine rN Qh 3 [([],[(1,.call (.tup []) (jN 7 [jR 6 Qd.cells x53]))],[]),j3,([],[],[(1,.val (jI (x53.length:Int)))])] [] [.movC 3 0] [8,7] [0,7,41,42,43] (f53r7n4S x53 a1 a2 a3 a2.Units 0 a4) (ap (Qo.rn 8 [7] (f54r1_ok v50 h54)) (ap (Qaa (xs:=x53) (c:=Qd.cells)) an)) ?_;obtain ⟨o105,h106,h⟩:=Qf h;cases o105 with
  | exit2 v107 =>
   obtain rfl:=Qg h;exact T.last' (T.bl (i:=2) (by kernel_rfl) (by kernel_rfl) (f53r7n4_ok FUEL x53 a1 a2 a3 a2.Units 0 a4 h106)) (tds:=[]) (m:=[7]) (keep:=[]) (st2:=(f53r7n0E a1 a2 a3 a4 (.norm v107)).2) (by kernel_rfl) an rfl
  | ret v108 =>
   obtain rfl:=Qg h;exact T.last' (T.bl (i:=2) (by kernel_rfl) (by kernel_rfl) (f53r7n4_ok FUEL x53 a1 a2 a3 a2.Units 0 a4 h106)) (tds:=[]) (m:=[7]) (keep:=[]) (st2:=(f53r7n0E a1 a2 a3 a4 (.ret v108)).2) (by kernel_rfl) an rfl
noncomputable def f53r7(a1:Qe)(a2:Qa)(a3:Int)(a4:List Qb):Option (Bool×(List Qb)):=(f53r7n0 a1 a2 a3 a4).bind fun o=>match o with
 | .norm v109=>some (true,v109)
 | .ret v110=>some (false,v110)
theorem f53r7_ok(a1:Qe)(a2:Qa)(a3:Int)(a4:List Qb){r:Bool×(List Qb)}(h:f53r7 a1 a2 a3 a4=some r):Qo Try.prog true 53 [(.yl 0),(.bp 1 0),(.bp 2 0)] [some (.lp Qp .ready none (kL 63 [(5,(.bp 3 0)),(9,(.bp 4 0)),(10,(.bp 5 0))])),some (.box ((Qe.cells a1).map .pl)),some (.box ((Qa.cells a2).map .pl)),some (.box [(.own 6)]),some (.box (((cInt .i64) a3).map .pl)),some (.box [(.pl (.fn 57))]),jR 3 Qb.cells a4] (.tup []) [some (.lp Qp (lstOf r.1) (pdOf r.1 (.exit 2)) (kL 63 [(5,(.bp 3 0)),(9,(.bp 4 0)),(10,(.bp 5 0))])),some (.box ((Qe.cells a1).map .pl)),some (.box ((Qa.cells a2).map .pl)),some (.box [(.own 7)]),some (.box (((cInt .i64) a3).map .pl)),some (.box [(.pl (.fn 57))]),none,jR 3 Qb.cells r.2]:=by
 unfold f53r7 at h;obtain ⟨o,ho,h⟩:=Qf h;cases o with
 | norm v109 =>
  obtain rfl:=Qg h;exact Qo.shared Qh (f:=Try.f53) (c:=c53) (by kernel_rfl) (by kernel_rfl) (by kernel_rfl) ((f53r7n0_ok a1 a2 a3 a4 ho).mono fun r e=>by subst e; exact ⟨.inr rfl,by kernel_rfl,by kernel_rfl⟩)
 | ret v110 =>
  obtain rfl:=Qg h;exact Qo.shared Qh (f:=Try.f53) (c:=c53) (by kernel_rfl) (by kernel_rfl) (by kernel_rfl) ((f53r7n0_ok a1 a2 a3 a4 ho).mono fun r e=>by subst e; exact ⟨.inl rfl,by kernel_rfl,by kernel_rfl⟩)

inductive f53r8n2O where
 | exit0 (v43:List Qd)
noncomputable def f53r8n2E(ba1:Qe)(be2:Qa)(bd3:Int)(bg4:List Qb):f53r8n2O→Ex×Tr×Hp
 | .exit0 v43=>((.exit 0),mkS [(0,(.yl 0)),(2,(.bp 2 0)),(4,(.own 7))],[some (.lp Qp .ready none (kL 63 [(5,(.bp 3 0)),(9,(.bp 4 0)),(10,(.bp 5 0))])),some (.box ((Qe.cells ba1).map .pl)),some (.box ((Qa.cells be2).map .pl)),some (.box [(.own 6)]),some (.box (((cInt .i64) bd3).map .pl)),some (.box [(.pl .nilf)]),jR 3 Qb.cells bg4,jR 6 Qd.cells v43])
noncomputable def f53r8n2S(ba1:Qe)(be2:Qa)(bd3:Int)(bg4:List Qb)(v29:Int)(v30:List Qd):Tr×Hp:=(mkS [(0,(.yl 0)),(2,(.bp 2 0)),(4,(.own 7)),(11,(jL 4 Qc.cells ba1.Bids)),(12,(jI (ba1.Bids.length:Int))),(13,(jI v29))],[some (.lp Qp .ready none (kL 63 [(5,(.bp 3 0)),(9,(.bp 4 0)),(10,(.bp 5 0))])),some (.box ((Qe.cells ba1).map .pl)),some (.box ((Qa.cells be2).map .pl)),some (.box [(.own 6)]),some (.box (((cInt .i64) bd3).map .pl)),some (.box [(.pl .nilf)]),jR 3 Qb.cells bg4,jR 6 Qd.cells v30])
noncomputable def f53r8n2:Nat→Qe→Qa→Int→List Qb→Int→List Qd→Option f53r8n2O
 | 0,_,_,_,_,_,_=>none
 | f+1,ba1,be2,bd3,bg4,v29,v30 =>
  bif decide (v29<(ba1.Bids.length:Int)) then
   (at? ba1.Bids v29).bind fun x38 =>
   bif (seq x38.Lot be2.Name) then
    bif decide (be2.Reserve≤x38.Price) then
     req (fit (v30.length+1) 64) <|
     (f53r8n2 f ba1 be2 bd3 bg4 (wr64 (v29+1)) (v30++[(Qd.mk v29 0 x38)]))
    else
     (f53r8n2 f ba1 be2 bd3 bg4 (wr64 (v29+1)) v30)
   else
    (f53r8n2 f ba1 be2 bd3 bg4 (wr64 (v29+1)) v30)
  else
   some (.exit0 v30)
theorem f53r8n2_ok:∀(f:Nat)(ba1:Qe)(be2:Qa)(bd3:Int)(bg4:List Qb)(v29:Int)(v30:List Qd){o:f53r8n2O},f53r8n2 f ba1 be2 bd3 bg4 v29 v30=some o→TL Try.prog Try.f53.ntmps 7 f (cL (cL (Qk 1 (cL (Qk 1 c53))))) (f53r8n2S ba1 be2 bd3 bg4 v29 v30) (·=f53r8n2E ba1 be2 bd3 bg4 o)
 | 0,_,_,_,_,_,_,o,h=>by rw [f53r8n2] at h; cases h
 | f+1,ba1,be2,bd3,bg4,v29,v30,o,h=>by
  rw [f53r8n2] at h;refine TL.body (K:=fun s=>∃v29:Int,∃v30:List Qd,s=(f53r8n2S ba1 be2 bd3 bg4 v29 v30)∧f53r8n2 f ba1 be2 bd3 bg4 v29 v30=some o) ?_ (by rintro _ ⟨v29,v30,rfl,hk⟩; exact f53r8n2_ok f _ _ _ _ _ _ hk);rcases Qj h with ⟨h32,h⟩|⟨h32,h⟩
  ·obtain ⟨x38,h39,h⟩:=Qf h;rcases Qj h with ⟨h40,h⟩|⟨h40,h⟩
   ·rcases Qj h with ⟨h41,h⟩|⟨h41,h⟩
    ·obtain ⟨h42,h⟩:=Qbt h;exact rE Qh [j3,([],[(1,.idx (Int.toNat v29) (Qc.cells x38))],[]),(jT [6,7,8,9,10],[(11,.bool true)],[]),([],[(5,.fits)],[(5,.row 10 ((v30++[(Qd.mk v29 0 x38)]).map Qd.cells))]),j3] [some true,some true] [] [10] [0,2,4,11,12,13] (.norm,(f53r8n2S ba1 be2 bd3 bg4 (wr64 (v29+1)) (v30++[(Qd.mk v29 0 x38)]))) (ap h32 (ap (Qi h39).1 (ap (Qn Qc.cells (Qi h39).2) (ap2 h40 (ap4 h40 (ap h41 (ap (fit_map (te:=ti78) (xs:=v30) (n:=1) (c:=Qd.cells) h42 rfl) (ap (app_cv (xs:=v30) (ys:=[(Qd.mk v29 0 x38)]) (c:=Qd.cells)) an)))))))) (Qr.norm ⟨(wr64 (v29+1)),(v30++[(Qd.mk v29 0 x38)]),rfl,h⟩)
    ·exact rE Qh [j3,([],[(1,.idx (Int.toNat v29) (Qc.cells x38))],[]),(jT [6,7,8,9,10],[(11,.bool true)],[]),j3] [some true,some false] [] [7] [0,2,4,11,12,13] (.norm,(f53r8n2S ba1 be2 bd3 bg4 (wr64 (v29+1)) v30)) (ap h32 (ap (Qi h39).1 (ap (Qn Qc.cells (Qi h39).2) (ap2 h40 (ap4 h40 (ap h41 an)))))) (Qr.norm ⟨(wr64 (v29+1)),v30,rfl,h⟩)
   ·exact rE Qh [j3,([],[(1,.idx (Int.toNat v29) (Qc.cells x38))],[]),(jF [6,7,8,9,10],[(11,.bool false)],[]),j3] [some true,none] [] [7] [0,2,4,11,12,13] (.norm,(f53r8n2S ba1 be2 bd3 bg4 (wr64 (v29+1)) v30)) (ap h32 (ap (Qi h39).1 (ap (Qn Qc.cells (Qi h39).2) (ap2 h40 (ap4 h40 an))))) (Qr.norm ⟨(wr64 (v29+1)),v30,rfl,h⟩)
  ·obtain rfl:=Qg h;exact rK Qh 2 [j3] [some false] [] [7] [0,2,4] (.exit 0) ((f53r8n2E ba1 be2 bd3 bg4 (.exit0 v30)).2) (ap h32 an) (Qr.out rfl rfl)
noncomputable def f53r8n2L(ba1:Qe)(be2:Qa)(bd3:Int)(bg4:List Qb):List Qc→Int→(List Qd)→Option f53r8n2O
 | [],v29,v30 =>
  some (.exit0 v30)
 | x0::rest,v29,v30 =>
  bif (seq x0.Lot be2.Name) then
   bif decide (be2.Reserve≤x0.Price) then
    req (fit (v30.length+1) 64) <|
    (f53r8n2L ba1 be2 bd3 bg4 rest (v29+1) (v30++[(Qd.mk v29 0 x0)]))
   else
    (f53r8n2L ba1 be2 bd3 bg4 rest (v29+1) v30)
  else
   (f53r8n2L ba1 be2 bd3 bg4 rest (v29+1) v30)
theorem f53r8n2L_eq(ba1:Qe)(be2:Qa)(bd3:Int)(bg4:List Qb):∀(rest:List Qc)(f k:Nat)(v30:List Qd),ba1.Bids.drop k=rest→ba1.Bids.length≤maxLen→rest.length<f→f53r8n2 f ba1 be2 bd3 bg4 (k:Int) v30=f53r8n2L ba1 be2 bd3 bg4 rest (k:Int) v30
 | _,0,_,_,_,_,hf=>absurd hf (Nat.not_lt_zero _)
 | [],f+1,k,v30,hd,hm,hf=>by
  have hk:¬((k:Int)<(ba1.Bids.length:Int)):=by have:=Qah hd; omega
  rw [f53r8n2,f53r8n2L];simp only [decide_eq_false hk,cond_false]
 | x0::rest,f+1,k,v30,hd,hm,hf=>by
  obtain ⟨hx,hlt,hd'⟩:=Qbr hd;have hk:(k:Int)<(ba1.Bids.length:Int):=by omega
  have hw:wr64 ((k:Int)+1)=(k:Int)+1:=wr64_of (by omega) (by unfold maxLen at hm; omega);have ih:∀(v30:List Qd),f53r8n2 f ba1 be2 bd3 bg4 ((k:Int)+1) v30=f53r8n2L ba1 be2 bd3 bg4 rest ((k:Int)+1) v30:=fun v30=>f53r8n2L_eq ba1 be2 bd3 bg4 rest f (k+1) v30 hd' hm (by simpa using hf);rw [f53r8n2,f53r8n2L];simp only [decide_eq_true hk,cond_true,Qce,hx,Option.bind_some,hw,ih]
theorem f53r8n2_run(ba1:Qe)(be2:Qa)(bd3:Int)(bg4:List Qb)(v30:List Qd)(hm:ba1.Bids.length≤maxLen):f53r8n2 FUEL ba1 be2 bd3 bg4 0 v30=f53r8n2L ba1 be2 bd3 bg4 ba1.Bids 0 v30:=f53r8n2L_eq ba1 be2 bd3 bg4 ba1.Bids FUEL 0 v30 List.drop_zero hm (Qav hm)
inductive f53r8n1O where
 | norm (v47:List Qd)
noncomputable def f53r8n1E(ba1:Qe)(be2:Qa)(bd3:Int)(bg4:List Qb):f53r8n1O→Ex×Tr×Hp
 | .norm v47=>(.norm,mkS [(0,(.yl 0)),(2,(.bp 2 0)),(4,(.own 7))],[some (.lp Qp .ready none (kL 63 [(5,(.bp 3 0)),(9,(.bp 4 0)),(10,(.bp 5 0))])),some (.box ((Qe.cells ba1).map .pl)),some (.box ((Qa.cells be2).map .pl)),some (.box [(.own 6)]),some (.box (((cInt .i64) bd3).map .pl)),some (.box [(.pl .nilf)]),jR 3 Qb.cells bg4,jR 6 Qd.cells v47])
noncomputable def f53r8n1S(ba1:Qe)(be2:Qa)(bd3:Int)(bg4:List Qb):Tr×Hp:=(mkS [(0,(.yl 0)),(1,(.bp 1 0)),(2,(.bp 2 0)),(4,(.pl (.sl .nil 0 [])))],[some (.lp Qp .ready none (kL 63 [(5,(.bp 3 0)),(9,(.bp 4 0)),(10,(.bp 5 0))])),some (.box ((Qe.cells ba1).map .pl)),some (.box ((Qa.cells be2).map .pl)),some (.box [(.own 6)]),some (.box (((cInt .i64) bd3).map .pl)),some (.box [(.pl .nilf)]),jR 3 Qb.cells bg4])
noncomputable def f53r8n1(ba1:Qe)(be2:Qa)(bd3:Int)(bg4:List Qb):Option f53r8n1O :=
 (f53r8n2 FUEL ba1 be2 bd3 bg4 0 []).bind fun o44=>match o44 with
 | .exit0 v46=>some (.norm v46)
theorem f53r8n1_ok(ba1:Qe)(be2:Qa)(bd3:Int)(bg4:List Qb){o:f53r8n1O}(h:f53r8n1 ba1 be2 bd3 bg4=some o):T Try.prog Try.f53.ntmps 7 (cL (Qk 1 c53)) (f53r8n1S ba1 be2 bd3 bg4) (·=f53r8n1E ba1 be2 bd3 bg4 o):=by
 unfold f53r8n1 at h;refine rN Qh 1 [([],[],[(2,.val (jI (ba1.Bids.length:Int)))])] [] [.mat 4 6] [7] [0,2,4,11,12,13] (f53r8n2S ba1 be2 bd3 bg4 0 []) (ap (Qaa (xs:=ba1.Bids) (c:=Qc.cells)) an) ?_;obtain ⟨o44,h45,h⟩:=Qf h;cases o44 with
 | exit0 v46 =>
  obtain rfl:=Qg h;exact T.last' (T.bl (i:=0) (by kernel_rfl) (by kernel_rfl) (f53r8n2_ok FUEL ba1 be2 bd3 bg4 0 [] h45)) (tds:=[]) (m:=[7]) (keep:=[0,2,4]) (st2:=(f53r8n1E ba1 be2 bd3 bg4 (.norm v46)).2) (by kernel_rfl) an rfl
inductive f53r8n3O where
 | norm (v97:Int) (v98:List Qb)
 | ret
noncomputable def f53r8n3E(bd1:Int)(bf2:List Qd)(bd3:Int)(ba4:Qe)(be5:Qa)(bd6:Int)(bg7:List Qb):f53r8n3O→Ex×Tr×Hp
 | .norm v97 v98=>(.norm,mkS [(0,(.yl 0)),(7,(jI v97)),(41,(.own 8)),(42,(jI (bf2.length:Int))),(43,(jI bd3))],[some (.lp Qp .ready none (kL 63 [(5,(.bp 3 0)),(9,(.bp 4 0)),(10,(.bp 5 0))])),some (.box ((Qe.cells ba4).map .pl)),some (.box ((Qa.cells be5).map .pl)),some (.box [(.own 7)]),some (.box (((cInt .i64) bd6).map .pl)),some (.box [(.pl .nilf)]),none,jR 3 Qb.cells v98,jR 6 Qd.cells bf2])
 | .ret=>(.ret,mkS [],[some (.lp Qp .done (some (.exit 2)) (kL 63 [(5,(.bp 3 0)),(9,(.bp 4 0)),(10,(.bp 5 0))])),some (.box ((Qe.cells ba4).map .pl)),some (.box ((Qa.cells be5).map .pl)),some (.box [(.own 7)]),some (.box (((cInt .i64) bd6).map .pl)),some (.box [(.pl .nilf)]),none,jR 3 Qb.cells bg7])
noncomputable def f53r8n3S(bd1:Int)(bf2:List Qd)(bd3:Int)(ba4:Qe)(be5:Qa)(bd6:Int)(bg7:List Qb):Tr×Hp:=(mkS [(0,(.yl 0)),(7,(jI bd1)),(41,(.own 8)),(42,(jI (bf2.length:Int))),(43,(jI bd3))],[some (.lp Qp .ready none (kL 63 [(5,(.bp 3 0)),(9,(.bp 4 0)),(10,(.bp 5 0))])),some (.box ((Qe.cells ba4).map .pl)),some (.box ((Qa.cells be5).map .pl)),some (.box [(.own 7)]),some (.box (((cInt .i64) bd6).map .pl)),some (.box [(.pl .nilf)]),none,jR 3 Qb.cells bg7,jR 6 Qd.cells bf2])
noncomputable def f53r8n3(bd1:Int)(bf2:List Qd)(bd3:Int)(ba4:Qe)(be5:Qa)(bd6:Int)(bg7:List Qb):Option f53r8n3O :=
 (at? bf2 bd3).bind fun x93 =>
 (f12y6n0 (Qd.mk x93.index (mnI bd1 x93.bid.Units) x93.bid) bd6 bg7).bind fun o95=>match o95 with
 | .exit2=>some .ret
 | .norm=>some (.norm (wr64 (bd1-(mnI bd1 x93.bid.Units))) (bg7++[(Qb.mk x93.index (mnI bd1 x93.bid.Units) x93.bid.Price)]))
theorem f53r8n3_ok(bd1:Int)(bf2:List Qd)(bd3:Int)(ba4:Qe)(be5:Qa)(bd6:Int)(bg7:List Qb){o:f53r8n3O}(h:f53r8n3 bd1 bf2 bd3 ba4 be5 bd6 bg7=some o):T Try.prog Try.f53.ntmps 7 (cL (Qk 2 (cL (cL (Qk 3 (Qk 1 (Qk 1 c53))))))) (f53r8n3S bd1 bf2 bd3 ba4 be5 bd6 bg7) (·=f53r8n3E bd1 bf2 bd3 ba4 be5 bd6 bg7 o):=by
 unfold f53r8n3 at h;refine T.block' (i:=3) (by kernel_rfl) ?_;obtain ⟨x93,h94,h⟩:=Qf h;refine rN Qh 3 [([],[(0,.at_ (Int.toNat bd3)),(1,.idx 0 (Qd.cells x93))],[]),j3,j3] [] [] [7,9,8] [0,7,9,41,42,43] (mkS [(0,(.yl 0)),(7,(jI (wr64 (bd1-(mnI bd1 x93.bid.Units))))),(9,(.bp 8 0)),(41,(.own 9)),(42,(jI (bf2.length:Int))),(43,(jI bd3))],[some (.lp Qp .ready none (kL 63 [(5,(.bp 3 0)),(9,(.bp 4 0)),(10,(.bp 5 0))])),some (.box ((Qe.cells ba4).map .pl)),some (.box ((Qa.cells be5).map .pl)),some (.box [(.own 7)]),some (.box (((cInt .i64) bd6).map .pl)),some (.box [(.pl .nilf)]),none,jR 3 Qb.cells bg7,some (.box ((Qd.cells (Qd.mk x93.index (mnI bd1 x93.bid.Units) x93.bid)).map .pl)),jR 6 Qd.cells bf2]) (ap (Qi h94).1 (ap (Qad Qd.cells (Qi h94).2) (ap (Qn Qd.cells (Qi h94).2) an))) ?_
 obtain ⟨o95,h96,h⟩:=Qf h;cases o95 with
 | exit2 =>
  refine T.oneN (by kernel_rfl) (yN Qh j3 2 false [some (.lp Qp .done (some (.exit 2)) (kL 63 [(5,(.bp 3 0)),(9,(.bp 4 0)),(10,(.bp 5 0))])),none,none,some (.box [(.own 7)]),some (.box (((cInt .i64) bd6).map .pl)),some (.box [(.pl .nilf)]),none,jR 3 Qb.cells bg7,none,none] [] [7,9] [0,7,41,42,43,60] (mkS [(0,(.yl 0)),(7,(jI (wr64 (bd1-(mnI bd1 x93.bid.Units))))),(41,(.own 8)),(42,(jI (bf2.length:Int))),(43,(jI bd3)),(60,(jB true))],[some (.lp Qp .done (some (.exit 2)) (kL 63 [(5,(.bp 3 0)),(9,(.bp 4 0)),(10,(.bp 5 0))])),some (.box ((Qe.cells ba4).map .pl)),some (.box ((Qa.cells be5).map .pl)),some (.box [(.own 7)]),some (.box (((cInt .i64) bd6).map .pl)),some (.box [(.pl .nilf)]),none,jR 3 Qb.cells bg7,jR 6 Qd.cells bf2]) (ap (Qbd.rn 10 [0,3,4,5,7] (f12y6_exit2 (Qd.mk x93.index (mnI bd1 x93.bid.Units) x93.bid) bd6 bg7 h96)) an)) rfl ?_
  obtain rfl:=Qg h;exact rE Qh [] [none] [] [7] [] (.ret,(f53r8n3E bd1 bf2 bd3 ba4 be5 bd6 bg7 .ret).2) an rfl
 | norm =>
  refine T.oneN (by kernel_rfl) (yN Qh j3 2 true [some (.lp Qp .ready none (kL 63 [(5,(.bp 3 0)),(9,(.bp 4 0)),(10,(.bp 5 0))])),none,none,some (.box [(.own 10)]),some (.box (((cInt .i64) bd6).map .pl)),some (.box [(.pl .nilf)]),none,none,none,none,some (.row false 3 ((bg7++[(Qb.mk x93.index (mnI bd1 x93.bid.Units) x93.bid.Price)]).map Qb.cells))] [] [10,9] [0,7,41,42,43,60] (mkS [(0,(.yl 0)),(7,(jI (wr64 (bd1-(mnI bd1 x93.bid.Units))))),(41,(.own 8)),(42,(jI (bf2.length:Int))),(43,(jI bd3)),(60,(jB false))],[some (.lp Qp .ready none (kL 63 [(5,(.bp 3 0)),(9,(.bp 4 0)),(10,(.bp 5 0))])),some (.box ((Qe.cells ba4).map .pl)),some (.box ((Qa.cells be5).map .pl)),some (.box [(.own 7)]),some (.box (((cInt .i64) bd6).map .pl)),some (.box [(.pl .nilf)]),none,some (.row false 3 ((bg7++[(Qb.mk x93.index (mnI bd1 x93.bid.Units) x93.bid.Price)]).map Qb.cells)),jR 6 Qd.cells bf2]) (ap (Qbd.rn 10 [0,3,4,5,7] (f12y6_norm (Qd.mk x93.index (mnI bd1 x93.bid.Units) x93.bid) bd6 bg7 h96)) an)) rfl ?_
  obtain rfl:=Qg h;exact rE Qh [] [none] [] [7,8] [0,7,41,42,43] (.norm,(f53r8n3E bd1 bf2 bd3 ba4 be5 bd6 bg7 (.norm (wr64 (bd1-(mnI bd1 x93.bid.Units))) (bg7++[(Qb.mk x93.index (mnI bd1 x93.bid.Units) x93.bid.Price)]))).2) an rfl
inductive f53r8n4O where
 | exit2 (v103:List Qb)
 | ret (v104:List Qb)
noncomputable def f53r8n4E(x53:List Qd)(a1:Qe)(a2:Qa)(a3:Int):f53r8n4O→Ex×Tr×Hp
 | .exit2 v103=>((.exit 2),mkS [],[some (.lp Qp .ready none (kL 63 [(5,(.bp 3 0)),(9,(.bp 4 0)),(10,(.bp 5 0))])),some (.box ((Qe.cells a1).map .pl)),some (.box ((Qa.cells a2).map .pl)),some (.box [(.own 7)]),some (.box (((cInt .i64) a3).map .pl)),some (.box [(.pl .nilf)]),none,jR 3 Qb.cells v103])
 | .ret v104=>(.ret,mkS [],[some (.lp Qp .done (some (.exit 2)) (kL 63 [(5,(.bp 3 0)),(9,(.bp 4 0)),(10,(.bp 5 0))])),some (.box ((Qe.cells a1).map .pl)),some (.box ((Qa.cells a2).map .pl)),some (.box [(.own 7)]),some (.box (((cInt .i64) a3).map .pl)),some (.box [(.pl .nilf)]),none,jR 3 Qb.cells v104])
noncomputable def f53r8n4S(x53:List Qd)(a1:Qe)(a2:Qa)(a3 v86 v87:Int)(v88:List Qb):Tr×Hp:=(mkS [(0,(.yl 0)),(7,(jI v86)),(41,(.own 8)),(42,(jI (x53.length:Int))),(43,(jI v87))],[some (.lp Qp .ready none (kL 63 [(5,(.bp 3 0)),(9,(.bp 4 0)),(10,(.bp 5 0))])),some (.box ((Qe.cells a1).map .pl)),some (.box ((Qa.cells a2).map .pl)),some (.box [(.own 7)]),some (.box (((cInt .i64) a3).map .pl)),some (.box [(.pl .nilf)]),none,jR 3 Qb.cells v88,jR 6 Qd.cells x53])
noncomputable def f53r8n4:Nat→List Qd→Qe→Qa→Int→Int→Int→List Qb→Option f53r8n4O
 | 0,_,_,_,_,_,_,_=>none
 | f+1,x53,a1,a2,a3,v86,v87,v88 =>
  bif decide (v87<(x53.length:Int)) then
   (f53r8n3 v86 x53 v87 a1 a2 a3 v88).bind fun o99=>match o99 with
   | .norm v101 v102=>(f53r8n4 f x53 a1 a2 a3 v101 (wr64 (v87+1)) v102)
   | .ret=>some (.ret v88)
  else
   some (.exit2 v88)
theorem f53r8n4_ok:∀(f:Nat)(x53:List Qd)(a1:Qe)(a2:Qa)(a3 v86 v87:Int)(v88:List Qb){o:f53r8n4O},f53r8n4 f x53 a1 a2 a3 v86 v87 v88=some o→TL Try.prog Try.f53.ntmps 7 f (cL (cL (Qk 3 (Qk 1 (Qk 1 c53))))) (f53r8n4S x53 a1 a2 a3 v86 v87 v88) (·=f53r8n4E x53 a1 a2 a3 o)
 | 0,_,_,_,_,_,_,_,o,h=>by rw [f53r8n4] at h; cases h
 | f+1,x53,a1,a2,a3,v86,v87,v88,o,h=>by
  rw [f53r8n4] at h;refine TL.body (K:=fun s=>∃v86:Int,∃v87:Int,∃v88:List Qb,s=(f53r8n4S x53 a1 a2 a3 v86 v87 v88)∧f53r8n4 f x53 a1 a2 a3 v86 v87 v88=some o) ?_ (by rintro _ ⟨v86,v87,v88,rfl,hk⟩; exact f53r8n4_ok f _ _ _ _ _ _ _ hk);rcases Qj h with ⟨h90,h⟩|⟨h90,h⟩
  ·refine rN Qh 2 [j3] [some true] [] [7,8] [0,7,41,42,43] (f53r8n3S v86 x53 v87 a1 a2 a3 v88) (ap h90 an) ?_;obtain ⟨o99,h100,h⟩:=Qf h;cases o99 with
   | norm v101 v102 =>
    refine T.oneN (by kernel_rfl) (f53r8n3_ok v86 x53 v87 a1 a2 a3 v88 h100) (st2:=(f53r8n3E v86 x53 v87 a1 a2 a3 v88 (.norm v101 v102)).2) rfl ?_;exact rE Qh [j3] [] [] [7,8] [0,7,41,42,43] (.norm,(f53r8n4S x53 a1 a2 a3 v101 (wr64 (v87+1)) v102)) an (Qr.norm ⟨v101,(wr64 (v87+1)),v102,rfl,h⟩)
   | ret =>
    obtain rfl:=Qg h;exact T.oneX' (by kernel_rfl) (f53r8n3_ok v86 x53 v87 a1 a2 a3 v88 h100) (tds:=[]) (m:=[7]) (keep:=[]) (st2:=(f53r8n4E x53 a1 a2 a3 (.ret v88)).2) (by kernel_rfl) an rfl (Qr.out rfl rfl)
  ·obtain rfl:=Qg h;exact rK Qh 2 [j3] [some false] [] [7] [] (.exit 2) ((f53r8n4E x53 a1 a2 a3 (.exit2 v88)).2) (ap h90 an) (Qr.out rfl rfl)
inductive f53r8n0O where
 | norm (v109:List Qb)
 | ret (v110:List Qb)
noncomputable def f53r8n0E(a1:Qe)(a2:Qa)(a3:Int)(a4:List Qb):f53r8n0O→Ex×Tr×Hp
 | .norm v109=>(.norm,mkS [],[some (.lp Qp .ready none (kL 63 [(5,(.bp 3 0)),(9,(.bp 4 0)),(10,(.bp 5 0))])),some (.box ((Qe.cells a1).map .pl)),some (.box ((Qa.cells a2).map .pl)),some (.box [(.own 7)]),some (.box (((cInt .i64) a3).map .pl)),some (.box [(.pl .nilf)]),none,jR 3 Qb.cells v109])
 | .ret v110=>(.ret,mkS [],[some (.lp Qp .done (some (.exit 2)) (kL 63 [(5,(.bp 3 0)),(9,(.bp 4 0)),(10,(.bp 5 0))])),some (.box ((Qe.cells a1).map .pl)),some (.box ((Qa.cells a2).map .pl)),some (.box [(.own 7)]),some (.box (((cInt .i64) a3).map .pl)),some (.box [(.pl .nilf)]),none,jR 3 Qb.cells v110])
noncomputable def f53r8n0S(a1:Qe)(a2:Qa)(a3:Int)(a4:List Qb):Tr×Hp:=(Qak [(.yl 0),(.bp 1 0),(.bp 2 0)] 0 .leaf,[some (.lp Qp .ready none (kL 63 [(5,(.bp 3 0)),(9,(.bp 4 0)),(10,(.bp 5 0))])),some (.box ((Qe.cells a1).map .pl)),some (.box ((Qa.cells a2).map .pl)),some (.box [(.own 6)]),some (.box (((cInt .i64) a3).map .pl)),some (.box [(.pl .nilf)]),jR 3 Qb.cells a4])
noncomputable def f53r8n0(a1:Qe)(a2:Qa)(a3:Int)(a4:List Qb):Option f53r8n0O :=
 (f53r8n1 a1 a2 a3 a4).bind fun o48=>match o48 with
 | .norm v50=>(f54r1 v50).bind fun x53 =>
  (f53r8n4 FUEL x53 a1 a2 a3 a2.Units 0 a4).bind fun o105=>match o105 with
  | .exit2 v107=>some (.norm v107)
  | .ret v108=>some (.ret v108)
theorem f53r8n0_ok(a1:Qe)(a2:Qa)(a3:Int)(a4:List Qb){o:f53r8n0O}(h:f53r8n0 a1 a2 a3 a4=some o):T Try.prog Try.f53.ntmps 7 c53 (f53r8n0S a1 a2 a3 a4) (·=f53r8n0E a1 a2 a3 a4 o):=by
 unfold f53r8n0 at h;refine rN Qh 1 [j3] [] [] [] [0,1,2,4] (f53r8n1S a1 a2 a3 a4) an ?_;obtain ⟨o48,h49,h⟩:=Qf h;cases o48 with
 | norm v50 =>
  refine T.oneN (by kernel_rfl) (f53r8n1_ok a1 a2 a3 a4 h49) (st2:=(f53r8n1E a1 a2 a3 a4 (.norm v50)).2) rfl ?_;obtain ⟨x53,h54,h⟩:=Qf h;refine rN Qh 3 [([],[(1,.call (.tup []) (jN 7 [jR 6 Qd.cells x53]))],[]),j3,([],[],[(1,.val (jI (x53.length:Int)))])] [] [.movC 3 0] [8,7] [0,7,41,42,43] (f53r8n4S x53 a1 a2 a3 a2.Units 0 a4) (ap (Qo.rn 8 [7] (f54r1_ok v50 h54)) (ap (Qaa (xs:=x53) (c:=Qd.cells)) an)) ?_;obtain ⟨o105,h106,h⟩:=Qf h;cases o105 with
  | exit2 v107 =>
   obtain rfl:=Qg h;exact T.last' (T.bl (i:=2) (by kernel_rfl) (by kernel_rfl) (f53r8n4_ok FUEL x53 a1 a2 a3 a2.Units 0 a4 h106)) (tds:=[]) (m:=[7]) (keep:=[]) (st2:=(f53r8n0E a1 a2 a3 a4 (.norm v107)).2) (by kernel_rfl) an rfl
  | ret v108 =>
   obtain rfl:=Qg h;exact T.last' (T.bl (i:=2) (by kernel_rfl) (by kernel_rfl) (f53r8n4_ok FUEL x53 a1 a2 a3 a2.Units 0 a4 h106)) (tds:=[]) (m:=[7]) (keep:=[]) (st2:=(f53r8n0E a1 a2 a3 a4 (.ret v108)).2) (by kernel_rfl) an rfl
noncomputable def f53r8(a1:Qe)(a2:Qa)(a3:Int)(a4:List Qb):Option (Bool×(List Qb)):=(f53r8n0 a1 a2 a3 a4).bind fun o=>match o with
 | .norm v109=>some (true,v109)
 | .ret v110=>some (false,v110)
theorem f53r8_ok(a1:Qe)(a2:Qa)(a3:Int)(a4:List Qb){r:Bool×(List Qb)}(h:f53r8 a1 a2 a3 a4=some r):Qo Try.prog true 53 [(.yl 0),(.bp 1 0),(.bp 2 0)] [some (.lp Qp .ready none (kL 63 [(5,(.bp 3 0)),(9,(.bp 4 0)),(10,(.bp 5 0))])),some (.box ((Qe.cells a1).map .pl)),some (.box ((Qa.cells a2).map .pl)),some (.box [(.own 6)]),some (.box (((cInt .i64) a3).map .pl)),some (.box [(.pl .nilf)]),jR 3 Qb.cells a4] (.tup []) [some (.lp Qp (lstOf r.1) (pdOf r.1 (.exit 2)) (kL 63 [(5,(.bp 3 0)),(9,(.bp 4 0)),(10,(.bp 5 0))])),some (.box ((Qe.cells a1).map .pl)),some (.box ((Qa.cells a2).map .pl)),some (.box [(.own 7)]),some (.box (((cInt .i64) a3).map .pl)),some (.box [(.pl .nilf)]),none,jR 3 Qb.cells r.2]:=by
 unfold f53r8 at h;obtain ⟨o,ho,h⟩:=Qf h;cases o with
 | norm v109 =>
  obtain rfl:=Qg h;exact Qo.shared Qh (f:=Try.f53) (c:=c53) (by kernel_rfl) (by kernel_rfl) (by kernel_rfl) ((f53r8n0_ok a1 a2 a3 a4 ho).mono fun r e=>by subst e; exact ⟨.inr rfl,by kernel_rfl,by kernel_rfl⟩)
 | ret v110 =>
  obtain rfl:=Qg h;exact Qo.shared Qh (f:=Try.f53) (c:=c53) (by kernel_rfl) (by kernel_rfl) (by kernel_rfl) ((f53r8n0_ok a1 a2 a3 a4 ho).mono fun r e=>by subst e; exact ⟨.inl rfl,by kernel_rfl,by kernel_rfl⟩)

noncomputable def c38:Code:=Try.f38.body.getD .skip
inductive f38n0O where
 | ret (v7:Int)
def f38n0E(a1 a2:Qb):f38n0O→Ex×Tr×Hp
 | .ret v7=>(.ret,mkS [(4,(jI v7))],[])
def f38n0S(a1 a2:Qb):Tr×Hp:=(Qak [(jA Qb.cells a1),(jA Qb.cells a2)] 0 .leaf,[])
noncomputable def f38n0(a1 a2:Qb):Option f38n0O :=
 (f39 a1.Bid a2.Bid).bind fun x5 =>
 some (.ret x5)
theorem f38n0_ok(a1 a2:Qb){o:f38n0O}(h:f38n0 a1 a2=some o):T Try.prog Try.f38.ntmps 0 c38 (f38n0S a1 a2) (·=f38n0E a1 a2 o):=by
 unfold f38n0 at h;obtain ⟨x5,h6,h⟩:=Qf h;obtain rfl:=Qg h;exact rE Qh [j3,([],[jH 4 (jI x5)],[])] [] [] [] [4] (.ret,(f38n0E a1 a2 (.ret x5)).2) (ap (f39_ok a1.Bid a2.Bid h6) an) rfl
noncomputable def f38(a1 a2:Qb):Option Int:=(f38n0 a1 a2).bind fun o=>match o with
 | .ret v7=>some v7
theorem f38_ok(a1 a2:Qb){r:Int}(h:f38 a1 a2=some r):Qo Try.prog false 38 [(jA Qb.cells a1),(jA Qb.cells a2)] [] (jI r) []:=by
 unfold f38 at h;obtain ⟨o,ho,h⟩:=Qf h;cases o with
 | ret v7 =>
  obtain rfl:=Qg h;exact Qo.plain Qh (f:=Try.f38) (c:=c38) (by kernel_rfl) (by kernel_rfl) (by kernel_rfl) (by kernel_rfl) ((f38n0_ok a1 a2 ho).mono fun r e=>by subst e; exact ⟨.inl rfl,(jI v7),(jI v7),by kernel_rfl,by kernel_rfl,((Wk.refl _):Wk (jI v7) (jI v7))⟩)

instance:Inhabited Qb:=⟨(Qb.mk 0 0 0)⟩
def so37_38_good(xs:List Qb):Prop:=∃c:Qb→Qb→Int,(∀x y,f38 x y=some (c x y))∧Go.Sort.SWO (ltOf c)∧xs.length<4611686018427387904
open Classical in
noncomputable def so37_38(xs:List Qb):Option (List Qb):=if h:so37_38_good xs then some (sortL h.choose xs) else none
theorem so37_38_val{xs:List Qb}{c:Qb→Qb→Int}(hc:∀x y,f38 x y=some (c x y))(o:Go.Sort.SWO (ltOf c))(hl:xs.length<4611686018427387904):so37_38 xs=some (sortL c xs):=by
 have h:so37_38_good xs:=⟨c,hc,o,hl⟩;unfold so37_38;rw [dif_pos h];have e:h.choose=c:=funext fun x=>funext fun y=>Option.some.inj ((h.choose_spec.1 x y).symm.trans (hc x y));rw [e]
theorem so37_38_ok(xs:List Qb){r:List Qb}(h:so37_38 xs=some r) :
  Qo Try.prog true 37 [.own 0,.pl (.fn 38)] [some (.row false 3 (xs.map Qb.cells))] (.tup []) [some (.row false 3 (r.map Qb.cells))]:=by
 unfold so37_38 at h
 by_cases hc:so37_38_good xs
 ·rw [dif_pos hc] at h;obtain rfl:=Qg h;have hs:=hc.choose_spec;exact sort_callS (cells:=Qb.cells) so_lays rfl so_agg so_size (enters_of Try.func37 (by kernel_rfl) rfl) (fun _=>rfl) (fun x q hq=>by
   simp only [Qb.cells,List.mem_cons,List.not_mem_nil,or_false] at hq;rcases hq with rfl | rfl | rfl<;>rfl) _ hs.2.1 (fun x y=>f38_ok _ _ (hs.1 x y)) xs hs.2.2
 ·rw [dif_neg hc] at h; cases h


inductive f12n3O where
 | norm (v162:List Qb)
def f12n3E(ba1:Qe)(bd2 bd3:Int)(be4:Qa)(bg5:List Qb):f12n3O→Ex×Tr×Hp
 | .norm v162=>(.norm,mkS [(1,(.bp 0 0)),(2,(.pl (.sl .nil 0 []))),(3,(jI 0)),(5,(.bp 1 0)),(19,(jL 3 Qa.cells ba1.Lots)),(20,(jI (ba1.Lots.length:Int))),(21,(jI bd2))],[some (.box ((Qe.cells ba1).map .pl)),some (.box [(.own 2)]),jR 3 Qb.cells v162])
def f12n3S(ba1:Qe)(bd2 bd3:Int)(be4:Qa)(bg5:List Qb):Tr×Hp:=(mkS [(1,(.bp 0 0)),(2,(.pl (.sl .nil 0 []))),(3,(jI 0)),(5,(.bp 1 0)),(9,(.bp 2 0)),(10,(.bp 3 0)),(19,(jL 3 Qa.cells ba1.Lots)),(20,(jI (ba1.Lots.length:Int))),(21,(jI bd2)),(38,(.clo 53 [(.bp 4 0),(.bp 5 0)]))],[some (.box ((Qe.cells ba1).map .pl)),some (.box [(.own 6)]),some (.box (((cInt .i64) bd3).map .pl)),some (.box [(.pl (.fn 56))]),some (.box ((Qe.cells ba1).map .pl)),some (.box ((Qa.cells be4).map .pl)),jR 3 Qb.cells bg5])
noncomputable def f12n3(ba1:Qe)(bd2 bd3:Int)(be4:Qa)(bg5:List Qb):Option f12n3O :=
 (f53r6 ba1 be4 bd3 bg5).bind fun x159 =>
 bif x159.1 then
  some (.norm x159.2)
 else
  some (.norm x159.2)
theorem f12n3_ok(ba1:Qe)(bd2 bd3:Int)(be4:Qa)(bg5:List Qb){o:f12n3O}(h:f12n3 ba1 bd2 bd3 be4 bg5=some o):T Try.prog Try.f12.ntmps 0 (Qk 1 (Qk 4 (cL (cL (Qk 2 (cL (cL (Qk 1 (cL (Qk 3 c12)))))))))) (f12n3S ba1 bd2 bd3 be4 bg5) (·=f12n3E ba1 bd2 bd3 be4 bg5 o):=by
 unfold f12n3 at h;refine T.block' (i:=2) (by kernel_rfl) ?_;refine rN Qh 0 [] [] [] [0,1,2,3,4,5,6] [1,2,3,5,9,10,19,20,21,38] (mkS [(1,(.bp 0 0)),(2,(.pl (.sl .nil 0 []))),(3,(jI 0)),(5,(.bp 1 0)),(9,(.bp 2 0)),(10,(.bp 3 0)),(19,(jL 3 Qa.cells ba1.Lots)),(20,(jI (ba1.Lots.length:Int))),(21,(jI bd2)),(38,(.clo 53 [(.bp 4 0),(.bp 5 0)]))],[some (.box ((Qe.cells ba1).map .pl)),some (.box [(.own 6)]),some (.box (((cInt .i64) bd3).map .pl)),some (.box [(.pl (.fn 56))]),some (.box ((Qe.cells ba1).map .pl)),some (.box ((Qa.cells be4).map .pl)),jR 3 Qb.cells bg5]) an ?_;obtain ⟨x159,h160,h⟩:=Qf h;rcases Qj h with ⟨h161,h⟩|⟨h161,h⟩
 ·obtain rfl:=Qg h
  exact T.last' (rgN 53 [(.bp 4 0),(.bp 5 0)] [5,9,10] (.tup []) [none,some (.box [(.own 8)]),some (.box (((cInt .i64) bd3).map .pl)),some (.box [(.pl (.fn 56))]),some (.box ((Qe.cells ba1).map .pl)),some (.box ((Qa.cells be4).map .pl)),none,some (.lp Qp .ready none (kL 63 [(5,(.bp 1 0)),(9,(.bp 2 0)),(10,(.bp 3 0))])),jR 3 Qb.cells x159.2] none .ready (kL 63 [(5,(.bp 1 0)),(9,(.bp 2 0)),(10,(.bp 3 0))]) .norm [] [0,1,8] [1,2,3,5,19,20,21] (mkS [(1,(.bp 0 0)),(2,(.pl (.sl .nil 0 []))),(3,(jI 0)),(5,(.bp 1 0)),(19,(jL 3 Qa.cells ba1.Lots)),(20,(jI (ba1.Lots.length:Int))),(21,(jI bd2))],[some (.box ((Qe.cells ba1).map .pl)),some (.box [(.own 2)]),jR 3 Qb.cells x159.2]) (by have t_:=(Qo.rn 8 [7,4,5,1,2,3,6] (f53r6_ok ba1 be4 bd3 bg5 h160)); rw [h161] at t_; exact t_) an) (tds:=[]) (m:=[0,1,2]) (keep:=[1,2,3,5,19,20,21]) (st2:=(f12n3E ba1 bd2 bd3 be4 bg5 (.norm x159.2)).2) (by kernel_rfl) an rfl
 ·obtain rfl:=Qg h
  exact T.last' (rgN 53 [(.bp 4 0),(.bp 5 0)] [5,9,10] (.tup []) [none,some (.box [(.own 8)]),some (.box (((cInt .i64) bd3).map .pl)),some (.box [(.pl (.fn 56))]),some (.box ((Qe.cells ba1).map .pl)),some (.box ((Qa.cells be4).map .pl)),none,some (.lp Qp .done (some (.exit 2)) (kL 63 [(5,(.bp 1 0)),(9,(.bp 2 0)),(10,(.bp 3 0))])),jR 3 Qb.cells x159.2] (some (.exit 2)) .done (kL 63 [(5,(.bp 1 0)),(9,(.bp 2 0)),(10,(.bp 3 0))]) (.exit 2) [] [0,1,8] [1,2,3,5,19,20,21] (mkS [(1,(.bp 0 0)),(2,(.pl (.sl .nil 0 []))),(3,(jI 0)),(5,(.bp 1 0)),(19,(jL 3 Qa.cells ba1.Lots)),(20,(jI (ba1.Lots.length:Int))),(21,(jI bd2))],[some (.box ((Qe.cells ba1).map .pl)),some (.box [(.own 2)]),jR 3 Qb.cells x159.2]) (by have t_:=(Qo.rn 8 [7,4,5,1,2,3,6] (f53r6_ok ba1 be4 bd3 bg5 h160)); rw [h161] at t_; exact t_) an) (tds:=[]) (m:=[0,1,2]) (keep:=[1,2,3,5,19,20,21]) (st2:=(f12n3E ba1 bd2 bd3 be4 bg5 (.norm x159.2)).2) (by kernel_rfl) an rfl
inductive f12n4O where
 | norm (v174:List Qb)
def f12n4E(ba1:Qe)(bd2 bd3:Int)(be4:Qa)(bg5:List Qb):f12n4O→Ex×Tr×Hp
 | .norm v174=>(.norm,mkS [(1,(.bp 0 0)),(2,(.pl (.sl .nil 0 []))),(3,(jI 0)),(5,(.bp 1 0)),(19,(jL 3 Qa.cells ba1.Lots)),(20,(jI (ba1.Lots.length:Int))),(21,(jI bd2))],[some (.box ((Qe.cells ba1).map .pl)),some (.box [(.own 2)]),jR 3 Qb.cells v174])
def f12n4S(ba1:Qe)(bd2 bd3:Int)(be4:Qa)(bg5:List Qb):Tr×Hp:=(mkS [(1,(.bp 0 0)),(2,(.pl (.sl .nil 0 []))),(3,(jI 0)),(5,(.bp 1 0)),(9,(.bp 2 0)),(10,(.bp 3 0)),(19,(jL 3 Qa.cells ba1.Lots)),(20,(jI (ba1.Lots.length:Int))),(21,(jI bd2)),(38,(.clo 53 [(.bp 4 0),(.bp 5 0)]))],[some (.box ((Qe.cells ba1).map .pl)),some (.box [(.own 6)]),some (.box (((cInt .i64) bd3).map .pl)),some (.box [(.pl (.fn 57))]),some (.box ((Qe.cells ba1).map .pl)),some (.box ((Qa.cells be4).map .pl)),jR 3 Qb.cells bg5])
noncomputable def f12n4(ba1:Qe)(bd2 bd3:Int)(be4:Qa)(bg5:List Qb):Option f12n4O :=
 (f53r7 ba1 be4 bd3 bg5).bind fun x171 =>
 bif x171.1 then
  some (.norm x171.2)
 else
  some (.norm x171.2)
theorem f12n4_ok(ba1:Qe)(bd2 bd3:Int)(be4:Qa)(bg5:List Qb){o:f12n4O}(h:f12n4 ba1 bd2 bd3 be4 bg5=some o):T Try.prog Try.f12.ntmps 0 (Qk 1 (Qk 4 (cL (cL (Qk 2 (cL (cL (Qk 1 (cL (Qk 3 c12)))))))))) (f12n4S ba1 bd2 bd3 be4 bg5) (·=f12n4E ba1 bd2 bd3 be4 bg5 o):=by
 unfold f12n4 at h;refine T.block' (i:=2) (by kernel_rfl) ?_;refine rN Qh 0 [] [] [] [0,1,2,3,4,5,6] [1,2,3,5,9,10,19,20,21,38] (mkS [(1,(.bp 0 0)),(2,(.pl (.sl .nil 0 []))),(3,(jI 0)),(5,(.bp 1 0)),(9,(.bp 2 0)),(10,(.bp 3 0)),(19,(jL 3 Qa.cells ba1.Lots)),(20,(jI (ba1.Lots.length:Int))),(21,(jI bd2)),(38,(.clo 53 [(.bp 4 0),(.bp 5 0)]))],[some (.box ((Qe.cells ba1).map .pl)),some (.box [(.own 6)]),some (.box (((cInt .i64) bd3).map .pl)),some (.box [(.pl (.fn 57))]),some (.box ((Qe.cells ba1).map .pl)),some (.box ((Qa.cells be4).map .pl)),jR 3 Qb.cells bg5]) an ?_;obtain ⟨x171,h172,h⟩:=Qf h;rcases Qj h with ⟨h173,h⟩|⟨h173,h⟩
 ·obtain rfl:=Qg h
  exact T.last' (rgN 53 [(.bp 4 0),(.bp 5 0)] [5,9,10] (.tup []) [none,some (.box [(.own 8)]),some (.box (((cInt .i64) bd3).map .pl)),some (.box [(.pl (.fn 57))]),some (.box ((Qe.cells ba1).map .pl)),some (.box ((Qa.cells be4).map .pl)),none,some (.lp Qp .ready none (kL 63 [(5,(.bp 1 0)),(9,(.bp 2 0)),(10,(.bp 3 0))])),jR 3 Qb.cells x171.2] none .ready (kL 63 [(5,(.bp 1 0)),(9,(.bp 2 0)),(10,(.bp 3 0))]) .norm [] [0,1,8] [1,2,3,5,19,20,21] (mkS [(1,(.bp 0 0)),(2,(.pl (.sl .nil 0 []))),(3,(jI 0)),(5,(.bp 1 0)),(19,(jL 3 Qa.cells ba1.Lots)),(20,(jI (ba1.Lots.length:Int))),(21,(jI bd2))],[some (.box ((Qe.cells ba1).map .pl)),some (.box [(.own 2)]),jR 3 Qb.cells x171.2]) (by have t_:=(Qo.rn 8 [7,4,5,1,2,3,6] (f53r7_ok ba1 be4 bd3 bg5 h172)); rw [h173] at t_; exact t_) an) (tds:=[]) (m:=[0,1,2]) (keep:=[1,2,3,5,19,20,21]) (st2:=(f12n4E ba1 bd2 bd3 be4 bg5 (.norm x171.2)).2) (by kernel_rfl) an rfl
 ·obtain rfl:=Qg h
  exact T.last' (rgN 53 [(.bp 4 0),(.bp 5 0)] [5,9,10] (.tup []) [none,some (.box [(.own 8)]),some (.box (((cInt .i64) bd3).map .pl)),some (.box [(.pl (.fn 57))]),some (.box ((Qe.cells ba1).map .pl)),some (.box ((Qa.cells be4).map .pl)),none,some (.lp Qp .done (some (.exit 2)) (kL 63 [(5,(.bp 1 0)),(9,(.bp 2 0)),(10,(.bp 3 0))])),jR 3 Qb.cells x171.2] (some (.exit 2)) .done (kL 63 [(5,(.bp 1 0)),(9,(.bp 2 0)),(10,(.bp 3 0))]) (.exit 2) [] [0,1,8] [1,2,3,5,19,20,21] (mkS [(1,(.bp 0 0)),(2,(.pl (.sl .nil 0 []))),(3,(jI 0)),(5,(.bp 1 0)),(19,(jL 3 Qa.cells ba1.Lots)),(20,(jI (ba1.Lots.length:Int))),(21,(jI bd2))],[some (.box ((Qe.cells ba1).map .pl)),some (.box [(.own 2)]),jR 3 Qb.cells x171.2]) (by have t_:=(Qo.rn 8 [7,4,5,1,2,3,6] (f53r7_ok ba1 be4 bd3 bg5 h172)); rw [h173] at t_; exact t_) an) (tds:=[]) (m:=[0,1,2]) (keep:=[1,2,3,5,19,20,21]) (st2:=(f12n4E ba1 bd2 bd3 be4 bg5 (.norm x171.2)).2) (by kernel_rfl) an rfl
inductive f12n5O where
 | norm (v181:List Qb)
def f12n5E(ba1:Qe)(bd2:Int)(be3:Qa)(bg4:List Qb):f12n5O→Ex×Tr×Hp
 | .norm v181=>(.norm,mkS [(1,(.bp 0 0)),(2,(.pl (.sl .nil 0 []))),(3,(jI 0)),(5,(.bp 1 0)),(19,(jL 3 Qa.cells ba1.Lots)),(20,(jI (ba1.Lots.length:Int))),(21,(jI bd2))],[some (.box ((Qe.cells ba1).map .pl)),some (.box [(.own 2)]),jR 3 Qb.cells v181])
def f12n5S(ba1:Qe)(bd2:Int)(be3:Qa)(bg4:List Qb):Tr×Hp:=(mkS [(1,(.bp 0 0)),(2,(.pl (.sl .nil 0 []))),(3,(jI 0)),(5,(.bp 1 0)),(9,(.bp 2 0)),(10,(.bp 3 0)),(19,(jL 3 Qa.cells ba1.Lots)),(20,(jI (ba1.Lots.length:Int))),(21,(jI bd2)),(38,(.clo 53 [(.bp 4 0),(.bp 5 0)]))],[some (.box ((Qe.cells ba1).map .pl)),some (.box [(.own 6)]),some (.box (((cInt .i64) 0).map .pl)),some (.box [(.pl .nilf)]),some (.box ((Qe.cells ba1).map .pl)),some (.box ((Qa.cells be3).map .pl)),jR 3 Qb.cells bg4])
noncomputable def f12n5(ba1:Qe)(bd2:Int)(be3:Qa)(bg4:List Qb):Option f12n5O :=
 (f53r8 ba1 be3 0 bg4).bind fun x178 =>
 bif x178.1 then
  some (.norm x178.2)
 else
  some (.norm x178.2)
theorem f12n5_ok(ba1:Qe)(bd2:Int)(be3:Qa)(bg4:List Qb){o:f12n5O}(h:f12n5 ba1 bd2 be3 bg4=some o):T Try.prog Try.f12.ntmps 0 (Qk 1 (Qk 4 (cL (cL (Qk 2 (cL (cL (Qk 1 (cL (Qk 3 c12)))))))))) (f12n5S ba1 bd2 be3 bg4) (·=f12n5E ba1 bd2 be3 bg4 o):=by
 unfold f12n5 at h;refine T.block' (i:=2) (by kernel_rfl) ?_;refine rN Qh 0 [] [] [] [0,1,2,3,4,5,6] [1,2,3,5,9,10,19,20,21,38] (mkS [(1,(.bp 0 0)),(2,(.pl (.sl .nil 0 []))),(3,(jI 0)),(5,(.bp 1 0)),(9,(.bp 2 0)),(10,(.bp 3 0)),(19,(jL 3 Qa.cells ba1.Lots)),(20,(jI (ba1.Lots.length:Int))),(21,(jI bd2)),(38,(.clo 53 [(.bp 4 0),(.bp 5 0)]))],[some (.box ((Qe.cells ba1).map .pl)),some (.box [(.own 6)]),some (.box (((cInt .i64) 0).map .pl)),some (.box [(.pl .nilf)]),some (.box ((Qe.cells ba1).map .pl)),some (.box ((Qa.cells be3).map .pl)),jR 3 Qb.cells bg4]) an ?_;obtain ⟨x178,h179,h⟩:=Qf h;rcases Qj h with ⟨h180,h⟩|⟨h180,h⟩
 ·obtain rfl:=Qg h
  exact T.last' (rgN 53 [(.bp 4 0),(.bp 5 0)] [5,9,10] (.tup []) [none,some (.box [(.own 8)]),some (.box (((cInt .i64) 0).map .pl)),some (.box [(.pl .nilf)]),some (.box ((Qe.cells ba1).map .pl)),some (.box ((Qa.cells be3).map .pl)),none,some (.lp Qp .ready none (kL 63 [(5,(.bp 1 0)),(9,(.bp 2 0)),(10,(.bp 3 0))])),jR 3 Qb.cells x178.2] none .ready (kL 63 [(5,(.bp 1 0)),(9,(.bp 2 0)),(10,(.bp 3 0))]) .norm [] [0,1,8] [1,2,3,5,19,20,21] (mkS [(1,(.bp 0 0)),(2,(.pl (.sl .nil 0 []))),(3,(jI 0)),(5,(.bp 1 0)),(19,(jL 3 Qa.cells ba1.Lots)),(20,(jI (ba1.Lots.length:Int))),(21,(jI bd2))],[some (.box ((Qe.cells ba1).map .pl)),some (.box [(.own 2)]),jR 3 Qb.cells x178.2]) (by have t_:=(Qo.rn 8 [7,4,5,1,2,3,6] (f53r8_ok ba1 be3 0 bg4 h179)); rw [h180] at t_; exact t_) an) (tds:=[]) (m:=[0,1,2]) (keep:=[1,2,3,5,19,20,21]) (st2:=(f12n5E ba1 bd2 be3 bg4 (.norm x178.2)).2) (by kernel_rfl) an rfl
 ·obtain rfl:=Qg h
  exact T.last' (rgN 53 [(.bp 4 0),(.bp 5 0)] [5,9,10] (.tup []) [none,some (.box [(.own 8)]),some (.box (((cInt .i64) 0).map .pl)),some (.box [(.pl .nilf)]),some (.box ((Qe.cells ba1).map .pl)),some (.box ((Qa.cells be3).map .pl)),none,some (.lp Qp .done (some (.exit 2)) (kL 63 [(5,(.bp 1 0)),(9,(.bp 2 0)),(10,(.bp 3 0))])),jR 3 Qb.cells x178.2] (some (.exit 2)) .done (kL 63 [(5,(.bp 1 0)),(9,(.bp 2 0)),(10,(.bp 3 0))]) (.exit 2) [] [0,1,8] [1,2,3,5,19,20,21] (mkS [(1,(.bp 0 0)),(2,(.pl (.sl .nil 0 []))),(3,(jI 0)),(5,(.bp 1 0)),(19,(jL 3 Qa.cells ba1.Lots)),(20,(jI (ba1.Lots.length:Int))),(21,(jI bd2))],[some (.box ((Qe.cells ba1).map .pl)),some (.box [(.own 2)]),jR 3 Qb.cells x178.2]) (by have t_:=(Qo.rn 8 [7,4,5,1,2,3,6] (f53r8_ok ba1 be3 0 bg4 h179)); rw [h180] at t_; exact t_) an) (tds:=[]) (m:=[0,1,2]) (keep:=[1,2,3,5,19,20,21]) (st2:=(f12n5E ba1 bd2 be3 bg4 (.norm x178.2)).2) (by kernel_rfl) an rfl
inductive f12n2O where
 | norm (v185:List Qb)
def f12n2E(ba1:Qe)(bd2:Int)(bg3:List Qb):f12n2O→Ex×Tr×Hp
 | .norm v185=>(.norm,mkS [(1,(.bp 0 0)),(2,(.pl (.sl .nil 0 []))),(3,(jI 0)),(5,(.bp 1 0)),(19,(jL 3 Qa.cells ba1.Lots)),(20,(jI (ba1.Lots.length:Int))),(21,(jI bd2))],[some (.box ((Qe.cells ba1).map .pl)),some (.box [(.own 2)]),jR 3 Qb.cells v185])
def f12n2S(ba1:Qe)(bd2:Int)(bg3:List Qb):Tr×Hp:=(mkS [(1,(.bp 0 0)),(2,(.pl (.sl .nil 0 []))),(3,(jI 0)),(5,(.bp 1 0)),(19,(jL 3 Qa.cells ba1.Lots)),(20,(jI (ba1.Lots.length:Int))),(21,(jI bd2))],[some (.box ((Qe.cells ba1).map .pl)),some (.box [(.own 2)]),jR 3 Qb.cells bg3])
noncomputable def f12n2(ba1:Qe)(bd2:Int)(bg3:List Qb):Option f12n2O :=
 (at? ba1.Lots bd2).bind fun x134 =>
 (f35r1 ba1 x134).bind fun x138 =>
 f36r1.bind fun x152 =>
 bif decide (ba1.Rule=1) then
  (f56r1 x134 ba1).bind fun x157 =>
  (f12n3 ba1 bd2 x157 x134 bg3).bind fun o163=>match o163 with
  | .norm v165=>some (.norm v165)
 else
  bif decide (ba1.Rule=2) then
   (f57r1 x134 ba1).bind fun x169 =>
   (f12n4 ba1 bd2 x169 x134 bg3).bind fun o175=>match o175 with
   | .norm v177=>some (.norm v177)
  else
   (f12n5 ba1 bd2 x134 bg3).bind fun o182=>match o182 with
   | .norm v184=>some (.norm v184)
theorem f12n2_ok(ba1:Qe)(bd2:Int)(bg3:List Qb){o:f12n2O}(h:f12n2 ba1 bd2 bg3=some o):T Try.prog Try.f12.ntmps 0 (cL (Qk 2 (cL (cL (Qk 1 (cL (Qk 3 c12))))))) (f12n2S ba1 bd2 bg3) (·=f12n2E ba1 bd2 bg3 o):=by
 unfold f12n2 at h;refine T.block' (i:=1) (by kernel_rfl) ?_;obtain ⟨x134,h135,h⟩:=Qf h;obtain ⟨x138,h139,h⟩:=Qf h;obtain ⟨x152,h153,h⟩:=Qf h;rcases Qj h with ⟨h154,h⟩|⟨h154,h⟩
 ·obtain ⟨x157,h158,h⟩:=Qf h
  refine rN Qh 4 [([],[(0,.idx (Int.toNat bd2) (Qa.cells x134))],[]),([],[(2,.call (.clo 53 [(.bp 4 0),(.bp 5 0)]) (jN 4 [some (.box ((Qe.cells ba1).map .pl)),some (.box ((Qa.cells x134).map .pl))]))],[]),([],[(0,.call (.mp 9) (jN 9 [some (.map [((.int .u8 1),(.fn 56)),((.int .u8 2),(.fn 57))])])),(3,.look (.fn 56) true)],[]),j3,([],[(3,.call (jI x157) (jN 4 [some (.box ((Qe.cells ba1).map .pl)),some (.box ((Qa.cells x134).map .pl)),none,none,none,none]))],[])] [none] [] [0,1,4,5,6,7,2] [1,2,3,5,8,9,10,19,20,21] (mkS [(1,(.bp 0 0)),(2,(.pl (.sl .nil 0 []))),(3,(jI 0)),(5,(.bp 1 0)),(8,(.clo 53 [(.bp 2 0),(.bp 3 0)])),(9,(.bp 4 0)),(10,(.bp 5 0)),(19,(jL 3 Qa.cells ba1.Lots)),(20,(jI (ba1.Lots.length:Int))),(21,(jI bd2))],[some (.box ((Qe.cells ba1).map .pl)),some (.box [(.own 6)]),some (.box ((Qe.cells ba1).map .pl)),some (.box ((Qa.cells x134).map .pl)),some (.box (((cInt .i64) x157).map .pl)),some (.box [(.pl (.fn 56))]),jR 3 Qb.cells bg3]) (ap (Qi h135).1 (ap (Qn Qa.cells (Qi h135).2) (ap (Qo.rn 4 [] (f35r1_ok ba1 x134 h139)) (ap (look_lit (e:=74) key_5 (z:=.nilf) (by kernel_rfl) ba1.Rule [(1,(.fn 56)),(2,(.fn 57))] (v:=(.fn 56)) (b:=true) (by simp only [mGet,mHas,h154,cond_true,cond_false,Bool.or_true,Bool.true_or,Bool.or_false,Bool.false_or]) (by simp only [mGet,mHas,h154,cond_true,cond_false,Bool.or_true,Bool.true_or,Bool.or_false,Bool.false_or])) (ap (Qo.rn 9 [] (f36r1_ok h153)) (ap (Qo.rn 10 [4,5] (f56r1_ok x134 ba1 h158)) an)))))) ?_
  refine rN Qh 1 [j3] [] [] [0,1,4,5,2,3,6] [1,2,3,5,9,10,19,20,21,38] (f12n3S ba1 bd2 x157 x134 bg3) an ?_;obtain ⟨o163,h164,h⟩:=Qf h;cases o163 with
  | norm v165 =>
   obtain rfl:=Qg h;exact T.last' (f12n3_ok ba1 bd2 x157 x134 bg3 h164) (tds:=[]) (m:=[0,1,2]) (keep:=[1,2,3,5,19,20,21]) (st2:=(f12n2E ba1 bd2 bg3 (.norm v165)).2) (by kernel_rfl) an rfl
 ·rcases Qj h with ⟨h166,h⟩|⟨h166,h⟩
  ·obtain ⟨x169,h170,h⟩:=Qf h
   refine rN Qh 4 [([],[(0,.idx (Int.toNat bd2) (Qa.cells x134))],[]),([],[(2,.call (.clo 53 [(.bp 4 0),(.bp 5 0)]) (jN 4 [some (.box ((Qe.cells ba1).map .pl)),some (.box ((Qa.cells x134).map .pl))]))],[]),([],[(0,.call (.mp 9) (jN 9 [some (.map [((.int .u8 1),(.fn 56)),((.int .u8 2),(.fn 57))])])),(3,.look (.fn 57) true)],[]),j3,([],[(3,.call (jI x169) (jN 4 [some (.box ((Qe.cells ba1).map .pl)),some (.box ((Qa.cells x134).map .pl)),none,none,none,none,some (.box (((cInt .i64) x169).map .pl))]))],[])] [none] [] [0,1,4,5,6,7,2] [1,2,3,5,8,9,10,19,20,21] (mkS [(1,(.bp 0 0)),(2,(.pl (.sl .nil 0 []))),(3,(jI 0)),(5,(.bp 1 0)),(8,(.clo 53 [(.bp 2 0),(.bp 3 0)])),(9,(.bp 4 0)),(10,(.bp 5 0)),(19,(jL 3 Qa.cells ba1.Lots)),(20,(jI (ba1.Lots.length:Int))),(21,(jI bd2))],[some (.box ((Qe.cells ba1).map .pl)),some (.box [(.own 6)]),some (.box ((Qe.cells ba1).map .pl)),some (.box ((Qa.cells x134).map .pl)),some (.box (((cInt .i64) x169).map .pl)),some (.box [(.pl (.fn 57))]),jR 3 Qb.cells bg3]) (ap (Qi h135).1 (ap (Qn Qa.cells (Qi h135).2) (ap (Qo.rn 4 [] (f35r1_ok ba1 x134 h139)) (ap (look_lit (e:=74) key_5 (z:=.nilf) (by kernel_rfl) ba1.Rule [(1,(.fn 56)),(2,(.fn 57))] (v:=(.fn 57)) (b:=true) (by simp only [mGet,mHas,h154,h166,cond_true,cond_false,Bool.or_true,Bool.true_or,Bool.or_false,Bool.false_or]) (by simp only [mGet,mHas,h154,h166,cond_true,cond_false,Bool.or_true,Bool.true_or,Bool.or_false,Bool.false_or])) (ap (Qo.rn 9 [] (f36r1_ok h153)) (ap (Qo.rn 10 [4,5] (f57r1_ok x134 ba1 h170)) an)))))) ?_
   refine rN Qh 1 [j3] [] [] [0,1,4,5,2,3,6] [1,2,3,5,9,10,19,20,21,38] (f12n4S ba1 bd2 x169 x134 bg3) an ?_;obtain ⟨o175,h176,h⟩:=Qf h;cases o175 with
   | norm v177 =>
    obtain rfl:=Qg h;exact T.last' (f12n4_ok ba1 bd2 x169 x134 bg3 h176) (tds:=[]) (m:=[0,1,2]) (keep:=[1,2,3,5,19,20,21]) (st2:=(f12n2E ba1 bd2 bg3 (.norm v177)).2) (by kernel_rfl) an rfl
  ·refine rN Qh 4 [([],[(0,.idx (Int.toNat bd2) (Qa.cells x134))],[]),([],[(2,.call (.clo 53 [(.bp 4 0),(.bp 5 0)]) (jN 4 [some (.box ((Qe.cells ba1).map .pl)),some (.box ((Qa.cells x134).map .pl))]))],[]),([],[(0,.call (.mp 9) (jN 9 [some (.map [((.int .u8 1),(.fn 56)),((.int .u8 2),(.fn 57))])])),(3,.look .nilf false)],[]),j3] [none] [] [0,1,4,5,6,7,2] [1,2,3,5,8,9,10,19,20,21] (mkS [(1,(.bp 0 0)),(2,(.pl (.sl .nil 0 []))),(3,(jI 0)),(5,(.bp 1 0)),(8,(.clo 53 [(.bp 2 0),(.bp 3 0)])),(9,(.bp 4 0)),(10,(.bp 5 0)),(19,(jL 3 Qa.cells ba1.Lots)),(20,(jI (ba1.Lots.length:Int))),(21,(jI bd2))],[some (.box ((Qe.cells ba1).map .pl)),some (.box [(.own 6)]),some (.box ((Qe.cells ba1).map .pl)),some (.box ((Qa.cells x134).map .pl)),some (.box (((cInt .i64) 0).map .pl)),some (.box [(.pl .nilf)]),jR 3 Qb.cells bg3]) (ap (Qi h135).1 (ap (Qn Qa.cells (Qi h135).2) (ap (Qo.rn 4 [] (f35r1_ok ba1 x134 h139)) (ap (look_lit (e:=74) key_5 (z:=.nilf) (by kernel_rfl) ba1.Rule [(1,(.fn 56)),(2,(.fn 57))] (v:=.nilf) (b:=false) (by simp only [mGet,mHas,h154,h166,cond_true,cond_false,Bool.or_true,Bool.true_or,Bool.or_false,Bool.false_or]) (by simp only [mGet,mHas,h154,h166,cond_true,cond_false,Bool.or_true,Bool.true_or,Bool.or_false,Bool.false_or])) (ap (Qo.rn 9 [] (f36r1_ok h153)) an))))) ?_
   refine rN Qh 1 [j3] [] [] [0,1,4,5,2,3,6] [1,2,3,5,9,10,19,20,21,38] (f12n5S ba1 bd2 x134 bg3) an ?_;obtain ⟨o182,h183,h⟩:=Qf h;cases o182 with
   | norm v184 =>
    obtain rfl:=Qg h;exact T.last' (f12n5_ok ba1 bd2 x134 bg3 h183) (tds:=[]) (m:=[0,1,2]) (keep:=[1,2,3,5,19,20,21]) (st2:=(f12n2E ba1 bd2 bg3 (.norm v184)).2) (by kernel_rfl) an rfl
inductive f12n6O where
 | exit0 (v189:List Qb)
def f12n6E(ba1:Qe):f12n6O→Ex×Tr×Hp
 | .exit0 v189=>((.exit 0),mkS [(5,(.bp 0 0))],[some (.box [(.own 1)]),jR 3 Qb.cells v189])
def f12n6S(ba1:Qe)(v128:Int)(v129:List Qb):Tr×Hp:=(mkS [(1,(.bp 0 0)),(2,(.pl (.sl .nil 0 []))),(3,(jI 0)),(5,(.bp 1 0)),(19,(jL 3 Qa.cells ba1.Lots)),(20,(jI (ba1.Lots.length:Int))),(21,(jI v128))],[some (.box ((Qe.cells ba1).map .pl)),some (.box [(.own 2)]),jR 3 Qb.cells v129])
noncomputable def f12n6:Nat→Qe→Int→List Qb→Option f12n6O
 | 0,_,_,_=>none
 | f+1,ba1,v128,v129 =>
  bif decide (v128<(ba1.Lots.length:Int)) then
   (f12n2 ba1 v128 v129).bind fun o186=>match o186 with
   | .norm v188=>(f12n6 f ba1 (wr64 (v128+1)) v188)
  else
   some (.exit0 v129)
theorem f12n6_ok:∀(f:Nat)(ba1:Qe)(v128:Int)(v129:List Qb){o:f12n6O},f12n6 f ba1 v128 v129=some o→TL Try.prog Try.f12.ntmps 0 f (cL (cL (Qk 1 (cL (Qk 3 c12))))) (f12n6S ba1 v128 v129) (·=f12n6E ba1 o)
 | 0,_,_,_,o,h=>by rw [f12n6] at h; cases h
 | f+1,ba1,v128,v129,o,h=>by
  rw [f12n6] at h;refine TL.body (K:=fun s=>∃v128:Int,∃v129:List Qb,s=(f12n6S ba1 v128 v129)∧f12n6 f ba1 v128 v129=some o) ?_ (by rintro _ ⟨v128,v129,rfl,hk⟩; exact f12n6_ok f _ _ _ hk);rcases Qj h with ⟨h131,h⟩|⟨h131,h⟩
  ·refine rN Qh 2 [j3] [some true] [] [0,1,2] [1,2,3,5,19,20,21] (f12n2S ba1 v128 v129) (ap h131 an) ?_;obtain ⟨o186,h187,h⟩:=Qf h;cases o186 with
   | norm v188 =>
    refine T.oneN (by kernel_rfl) (f12n2_ok ba1 v128 v129 h187) (st2:=(f12n2E ba1 v128 v129 (.norm v188)).2) rfl ?_;exact rE Qh [j3] [] [] [0,1,2] [1,2,3,5,19,20,21] (.norm,(f12n6S ba1 (wr64 (v128+1)) v188)) an (Qr.norm ⟨(wr64 (v128+1)),v188,rfl,h⟩)
  ·obtain rfl:=Qg h;exact rK Qh 2 [j3] [some false] [] [1,2] [5] (.exit 0) ((f12n6E ba1 (.exit0 v129)).2) (ap h131 an) (Qr.out rfl rfl)
inductive f12n1O where
 | norm (v193:List Qb)
def f12n1E(ba1:Qe):f12n1O→Ex×Tr×Hp
 | .norm v193=>(.norm,mkS [(5,(.bp 0 0))],[some (.box [(.own 1)]),jR 3 Qb.cells v193])
def f12n1S(ba1:Qe):Tr×Hp:=(mkS [(1,(.bp 0 0)),(2,(.pl (.sl .nil 0 []))),(3,(jI 0)),(5,(.bp 1 0))],[some (.box ((Qe.cells ba1).map .pl)),some (.box [(.pl (.sl .nil 0 []))])])
noncomputable def f12n1(ba1:Qe):Option f12n1O :=
 (f12n6 FUEL ba1 0 []).bind fun o190=>match o190 with
 | .exit0 v192=>some (.norm v192)
theorem f12n1_ok(ba1:Qe){o:f12n1O}(h:f12n1 ba1=some o):T Try.prog Try.f12.ntmps 0 (cL (Qk 3 c12)) (f12n1S ba1) (·=f12n1E ba1 o):=by
 unfold f12n1 at h;refine rN Qh 1 [([],[],[(2,.val (jI (ba1.Lots.length:Int)))])] [] [.matC 1 0 3] [0,1,2] [1,2,3,5,19,20,21] (f12n6S ba1 0 []) (ap (Qaa (xs:=ba1.Lots) (c:=Qa.cells)) an) ?_;obtain ⟨o190,h191,h⟩:=Qf h;cases o190 with
 | exit0 v192 =>
  obtain rfl:=Qg h;exact T.last' (T.bl (i:=0) (by kernel_rfl) (by kernel_rfl) (f12n6_ok FUEL ba1 0 [] h191)) (tds:=[]) (m:=[0,1]) (keep:=[5]) (st2:=(f12n1E ba1 (.norm v192)).2) (by kernel_rfl) an rfl
inductive f12n0O where
 | ret (v201:Int) (v202:List Qb)
def f12n0E(a1:Qe):f12n0O→Ex×Tr×Hp
 | .ret v201 v202=>(.ret,mkS [(2,(.own 0)),(3,(jI v201))],[jR 3 Qb.cells v202])
def f12n0S(a1:Qe):Tr×Hp:=(Qak [(jA Qe.cells a1)] 0 .leaf,[])
noncomputable def f12n0(a1:Qe):Option f12n0O :=
 (f31 a1).bind fun x5 =>
 bif decide (x5=0) then
  (f12n1 a1).bind fun o194=>match o194 with
  | .norm v196=>(so37_38 v196).bind fun x199 =>
   some (.ret 0 x199)
 else
  some (.ret x5 [])
theorem f12n0_ok(a1:Qe){o:f12n0O}(h:f12n0 a1=some o):T Try.prog Try.f12.ntmps 0 c12 (f12n0S a1) (·=f12n0E a1 o):=by
 unfold f12n0 at h;obtain ⟨x5,h6,h⟩:=Qf h;rcases Qj h with ⟨h7,h⟩|⟨h7,h⟩
 ·refine rN Qh 3 [j3,([],[jH 1 (jI x5)],[]),j3,j3] [some false] [] [0,1] [1,2,3,5] (f12n1S a1) (ap (f31_ok a1 h6) (ap (Qao h7) an)) ?_;obtain ⟨o194,h195,h⟩:=Qf h;cases o194 with
  | norm v196 =>
   refine T.oneN (by kernel_rfl) (f12n1_ok a1 h195) (st2:=(f12n1E a1 (.norm v196)).2) rfl ?_;obtain ⟨x199,h200,h⟩:=Qf h;obtain rfl:=Qg h;exact rE Qh [([],[(1,.call (.tup []) [none,jR 3 Qb.cells x199])],[]),j3] [] [] [1] [2,3] (.ret,(f12n0E a1 (.ret 0 x199)).2) (ap (Qo.rn 2 [1] (so37_38_ok v196 h200)) an) rfl
 ·obtain rfl:=Qg h;exact rK Qh 2 [j3,([],[jH 1 (jI x5)],[]),j3,j3] [some true] [.mat 2 3] [1] [2,3] .ret ((f12n0E a1 (.ret x5 [])).2) (ap (f31_ok a1 h6) (ap (Qaw h7) an)) rfl
noncomputable def f12(a1:Qe):Option ((List Qb)×Int):=(f12n0 a1).bind fun o=>match o with
 | .ret v201 v202=>some (v202,v201)
theorem f12_ok(a1:Qe){r:(List Qb)×Int}(h:f12 a1=some r):Qo Try.prog false 12 [(jA Qe.cells a1)] [] (.tup [(jL 3 Qb.cells r.1),(jI r.2)]) []:=by
 unfold f12 at h;obtain ⟨o,ho,h⟩:=Qf h;cases o with
 | ret v201 v202 =>
  obtain rfl:=Qg h;exact Qo.plain Qh (f:=Try.f12) (c:=c12) (by kernel_rfl) (by kernel_rfl) (by kernel_rfl) (by kernel_rfl) ((f12n0_ok a1 ho).mono fun r e=>by subst e; exact ⟨.inl rfl,(.tup [(.own 0),(jI v201)]),(.tup [(jL 3 Qb.cells v202),(jI v201)]),by kernel_rfl,by kernel_rfl,((Wk.refl _):Wk (.tup [(jL 3 Qb.cells v202),(jI v201)]) (.tup [(jL 3 Qb.cells v202),(jI v201)]))⟩)
end Go.Proofs.Ythpceddjepbamaa
namespace Go.Proofs.Ythpceddjepbamaa
set_option linter.unusedVariables false
set_option linter.unusedSimpArgs false
set_option maxRecDepth 100000
open Go.RowKit
noncomputable def c42:Code:=Try.f42.body.getD .skip
inductive f42r1n0O where
 | ret
def f42r1n0E(a1:Qc)(a2:ByteArray):f42r1n0O→Ex×Tr×Hp
 | .ret=>(.ret,mkS [(3,(.pl (.bool (seq a1.Member a2))))],[some (.box ((cStr a2).map .pl))])
def f42r1n0S(a1:Qc)(a2:ByteArray):Tr×Hp:=(Qak [(jA Qc.cells a1),(.bp 0 0)] 0 .leaf,[some (.box ((cStr a2).map .pl))])
noncomputable def f42r1n0(a1:Qc)(a2:ByteArray):Option f42r1n0O :=
 some .ret
theorem f42r1n0_ok(a1:Qc)(a2:ByteArray){o:f42r1n0O}(h:f42r1n0 a1 a2=some o):T Try.prog Try.f42.ntmps 1 c42 (f42r1n0S a1 a2) (·=f42r1n0E a1 a2 o):=by
 unfold f42r1n0 at h;obtain rfl:=Qg h;exact rE Qh [j3,j3] [] [] [] [3] (.ret,(f42r1n0E a1 a2 .ret).2) an rfl
noncomputable def f42r1(a1:Qc)(a2:ByteArray):Option Unit:=(f42r1n0 a1 a2).bind fun o=>match o with
 | .ret=>some ()
theorem f42r1_ok(a1:Qc)(a2:ByteArray){r:Unit}(h:f42r1 a1 a2=some r):Qo Try.prog true 42 [(jA Qc.cells a1),(.bp 0 0)] [some (.box ((cStr a2).map .pl))] (.pl (.bool (seq a1.Member a2))) [some (.box ((cStr a2).map .pl))]:=by
 unfold f42r1 at h;obtain ⟨o,ho,h⟩:=Qf h;cases o with
 | ret =>
  obtain rfl:=Qg h;exact Qo.shared Qh (f:=Try.f42) (c:=c42) (by kernel_rfl) (by kernel_rfl) (by kernel_rfl) ((f42r1n0_ok a1 a2 ho).mono fun r e=>by subst e; exact ⟨.inl rfl,by kernel_rfl,by kernel_rfl⟩)

noncomputable def c40:Code:=Try.f40.body.getD .skip
inductive f40r1n2O where
 | exit0 (v59:Int)
def f40r1n2E(bh1:(List Qb)×Int)(bb2:ByteArray)(ba3:Qe):f40r1n2O→Ex×Tr×Hp
 | .exit0 v59=>((.exit 0),mkS [(7,(jI bh1.2)),(8,(jI v59))],[some (.box ((cStr bb2).map .pl))])
def f40r1n2S(bh1:(List Qb)×Int)(bb2:ByteArray)(ba3:Qe)(v41 v42:Int):Tr×Hp:=(mkS [(1,(.clo 42 [(.bp 0 0)])),(2,(.bp 1 0)),(7,(jI bh1.2)),(8,(jI v41)),(16,(jL 3 Qb.cells bh1.1)),(17,(jI (bh1.1.length:Int))),(18,(jI v42))],[some (.box ((cStr bb2).map .pl)),some (.box ((Qe.cells ba3).map .pl))])
noncomputable def f40r1n2:Nat→(List Qb)×Int→ByteArray→Qe→Int→Int→Option f40r1n2O
 | 0,_,_,_,_,_=>none
 | f+1,bh1,bb2,ba3,v41,v42 =>
  bif decide (v42<(bh1.1.length:Int)) then
   (at? bh1.1 v42).bind fun x52 =>
   (at? ba3.Bids x52.Bid).bind fun x54 =>
   (f42r1 x54 bb2).bind fun x56 =>
   bif (seq x54.Member bb2) then
    (f40r1n2 f bh1 bb2 ba3 (wr64 (v41+(wr64 (x52.Units*x52.Price)))) (wr64 (v42+1)))
   else
    (f40r1n2 f bh1 bb2 ba3 v41 (wr64 (v42+1)))
  else
   some (.exit0 v41)
theorem f40r1n2_ok:∀(f:Nat)(bh1:(List Qb)×Int)(bb2:ByteArray)(ba3:Qe)(v41 v42:Int){o:f40r1n2O},f40r1n2 f bh1 bb2 ba3 v41 v42=some o→TL Try.prog Try.f40.ntmps 1 f (cL (cL (Qk 1 (cL (Qk 3 c40))))) (f40r1n2S bh1 bb2 ba3 v41 v42) (·=f40r1n2E bh1 bb2 ba3 o)
 | 0,_,_,_,_,_,o,h=>by rw [f40r1n2] at h; cases h
 | f+1,bh1,bb2,ba3,v41,v42,o,h=>by
  rw [f40r1n2] at h;refine TL.body (K:=fun s=>∃v41:Int,∃v42:Int,s=(f40r1n2S bh1 bb2 ba3 v41 v42)∧f40r1n2 f bh1 bb2 ba3 v41 v42=some o) ?_ (by rintro _ ⟨v41,v42,rfl,hk⟩; exact f40r1n2_ok f _ _ _ _ _ hk);rcases Qj h with ⟨h44,h⟩|⟨h44,h⟩
  ·obtain ⟨x52,h53,h⟩:=Qf h;obtain ⟨x54,h55,h⟩:=Qf h;obtain ⟨x56,h57,h⟩:=Qf h;rcases Qj h with ⟨h58,h⟩|⟨h58,h⟩
   ·exact rE Qh [j3,([],[(0,.idx (Int.toNat v42) (Qb.cells x52))],[]),([],[(5,.idx (Int.toNat x52.Bid) (Qc.cells x54)),(7,.call (.pl (.bool (seq x54.Member bb2))) [some (.box ((cStr bb2).map .pl)),none,none])],[]),j3,j3] [some true,some true] [] [1] [1,2,7,8,16,17,18] (.norm,(f40r1n2S bh1 bb2 ba3 (wr64 (v41+(wr64 (x52.Units*x52.Price)))) (wr64 (v42+1)))) (ap h44 (ap (Qi h53).1 (ap (Qn Qb.cells (Qi h53).2) (ap (Qi h55).1 (ap (Qn Qc.cells (Qi h55).2) (ap (Qo.rn 3 [0] (f42r1_ok x54 bb2 h57)) (ap h58 an))))))) (Qr.norm ⟨(wr64 (v41+(wr64 (x52.Units*x52.Price)))),(wr64 (v42+1)),rfl,h⟩)
   ·exact rE Qh [j3,([],[(0,.idx (Int.toNat v42) (Qb.cells x52))],[]),([],[(5,.idx (Int.toNat x52.Bid) (Qc.cells x54)),(7,.call (.pl (.bool (seq x54.Member bb2))) [some (.box ((cStr bb2).map .pl)),none,none])],[]),j3] [some true,some false] [] [1] [1,2,7,8,16,17,18] (.norm,(f40r1n2S bh1 bb2 ba3 v41 (wr64 (v42+1)))) (ap h44 (ap (Qi h53).1 (ap (Qn Qb.cells (Qi h53).2) (ap (Qi h55).1 (ap (Qn Qc.cells (Qi h55).2) (ap (Qo.rn 3 [0] (f42r1_ok x54 bb2 h57)) (ap h58 an))))))) (Qr.norm ⟨v41,(wr64 (v42+1)),rfl,h⟩)
  ·obtain rfl:=Qg h;exact rK Qh 2 [j3] [some false] [] [] [7,8] (.exit 0) ((f40r1n2E bh1 bb2 ba3 (.exit0 v41)).2) (ap h44 an) (Qr.out rfl rfl)
noncomputable def f40r1n2L(bh1:(List Qb)×Int)(bb2:ByteArray)(ba3:Qe):List Qb→Int→Int→Option f40r1n2O
 | [],v41,v42 =>
  some (.exit0 v41)
 | x0::rest,v41,v42 =>
  (at? ba3.Bids x0.Bid).bind fun x54 =>
  (f42r1 x54 bb2).bind fun x56 =>
  bif (seq x54.Member bb2) then
   (f40r1n2L bh1 bb2 ba3 rest (wr64 (v41+(wr64 (x0.Units*x0.Price)))) (v42+1))
  else
   (f40r1n2L bh1 bb2 ba3 rest v41 (v42+1))
theorem f40r1n2L_eq(bh1:(List Qb)×Int)(bb2:ByteArray)(ba3:Qe):∀(rest:List Qb)(f k:Nat)(v41:Int),bh1.1.drop k=rest→bh1.1.length≤maxLen→rest.length<f→f40r1n2 f bh1 bb2 ba3 v41 (k:Int)=f40r1n2L bh1 bb2 ba3 rest v41 (k:Int)
 | _,0,_,_,_,_,hf=>absurd hf (Nat.not_lt_zero _)
 | [],f+1,k,v41,hd,hm,hf=>by
  have hk:¬((k:Int)<(bh1.1.length:Int)):=by have:=Qah hd; omega
  rw [f40r1n2,f40r1n2L];simp only [decide_eq_false hk,cond_false]
 | x0::rest,f+1,k,v41,hd,hm,hf=>by
  obtain ⟨hx,hlt,hd'⟩:=Qbr hd;have hk:(k:Int)<(bh1.1.length:Int):=by omega
  have hw:wr64 ((k:Int)+1)=(k:Int)+1:=wr64_of (by omega) (by unfold maxLen at hm; omega);have ih:∀(v41:Int),f40r1n2 f bh1 bb2 ba3 v41 ((k:Int)+1)=f40r1n2L bh1 bb2 ba3 rest v41 ((k:Int)+1):=fun v41=>f40r1n2L_eq bh1 bb2 ba3 rest f (k+1) v41 hd' hm (by simpa using hf);rw [f40r1n2,f40r1n2L];simp only [decide_eq_true hk,cond_true,Qce,hx,Option.bind_some,hw,ih]
theorem f40r1n2_run(bh1:(List Qb)×Int)(bb2:ByteArray)(ba3:Qe)(v41:Int)(hm:bh1.1.length≤maxLen):f40r1n2 FUEL bh1 bb2 ba3 v41 0=f40r1n2L bh1 bb2 ba3 bh1.1 v41 0:=f40r1n2L_eq bh1 bb2 ba3 bh1.1 FUEL 0 v41 List.drop_zero hm (Qav hm)
inductive f40r1n1O where
 | norm (v63:Int)
def f40r1n1E(bh1:(List Qb)×Int)(bb2:ByteArray)(ba3:Qe):f40r1n1O→Ex×Tr×Hp
 | .norm v63=>(.norm,mkS [(7,(jI bh1.2)),(8,(jI v63))],[some (.box ((cStr bb2).map .pl))])
def f40r1n1S(bh1:(List Qb)×Int)(bb2:ByteArray)(ba3:Qe):Tr×Hp:=(mkS [(1,(.clo 42 [(.bp 0 0)])),(2,(.bp 1 0)),(6,(jL 3 Qb.cells bh1.1)),(7,(jI bh1.2)),(8,(jI 0))],[some (.box ((cStr bb2).map .pl)),some (.box ((Qe.cells ba3).map .pl))])
noncomputable def f40r1n1(bh1:(List Qb)×Int)(bb2:ByteArray)(ba3:Qe):Option f40r1n1O :=
 (f40r1n2 FUEL bh1 bb2 ba3 0 0).bind fun o60=>match o60 with
 | .exit0 v62=>some (.norm v62)
theorem f40r1n1_ok(bh1:(List Qb)×Int)(bb2:ByteArray)(ba3:Qe){o:f40r1n1O}(h:f40r1n1 bh1 bb2 ba3=some o):T Try.prog Try.f40.ntmps 1 (cL (Qk 3 c40)) (f40r1n1S bh1 bb2 ba3) (·=f40r1n1E bh1 bb2 ba3 o):=by
 unfold f40r1n1 at h;refine rN Qh 1 [([],[],[(1,.val (jI (bh1.1.length:Int)))])] [] [] [1] [1,2,7,8,16,17,18] (f40r1n2S bh1 bb2 ba3 0 0) (ap (Qaa (xs:=bh1.1) (c:=Qb.cells)) an) ?_;obtain ⟨o60,h61,h⟩:=Qf h;cases o60 with
 | exit0 v62 =>
  obtain rfl:=Qg h;exact T.last' (T.bl (i:=0) (by kernel_rfl) (by kernel_rfl) (f40r1n2_ok FUEL bh1 bb2 ba3 0 0 h61)) (tds:=[]) (m:=[]) (keep:=[7,8]) (st2:=(f40r1n1E bh1 bb2 ba3 (.norm v62)).2) (by kernel_rfl) an rfl
inductive f40r1n0O where
 | ret (v67:Int) (v68:Int)
def f40r1n0E(a1:Qe)(a2:ByteArray):f40r1n0O→Ex×Tr×Hp
 | .ret v67 v68=>(.ret,mkS [(4,(jI v67)),(5,(jI v68))],[some (.box ((cStr a2).map .pl))])
def f40r1n0S(a1:Qe)(a2:ByteArray):Tr×Hp:=(Qak [(jA Qe.cells a1),(.clo 42 [(.bp 0 0)])] 0 .leaf,[some (.box ((cStr a2).map .pl))])
noncomputable def f40r1n0(a1:Qe)(a2:ByteArray):Option f40r1n0O :=
 (f12 a1).bind fun x5 =>
 (f40r1n1 x5 a2 a1).bind fun o64=>match o64 with
 | .norm v66=>some (.ret v66 x5.2)
theorem f40r1n0_ok(a1:Qe)(a2:ByteArray){o:f40r1n0O}(h:f40r1n0 a1 a2=some o):T Try.prog Try.f40.ntmps 1 c40 (f40r1n0S a1 a2) (·=f40r1n0E a1 a2 o):=by
 unfold f40r1n0 at h;obtain ⟨x5,h6,h⟩:=Qf h;refine rN Qh 3 [j3,([],[jH 1 (.tup [(jL 3 Qb.cells x5.1),(jI x5.2)])],[]),j3] [] [] [1] [1,2,6,7,8] (f40r1n1S x5 a2 a1) (ap (f12_ok a1 h6) an) ?_;obtain ⟨o64,h65,h⟩:=Qf h;cases o64 with
 | norm v66 =>
  refine T.oneN (by kernel_rfl) (f40r1n1_ok x5 a2 a1 h65) (st2:=(f40r1n1E x5 a2 a1 (.norm v66)).2) rfl ?_;obtain rfl:=Qg h;exact rE Qh [j3] [] [] [] [4,5] (.ret,(f40r1n0E a1 a2 (.ret v66 x5.2)).2) an rfl
noncomputable def f40r1(a1:Qe)(a2:ByteArray):Option (Int×Int):=(f40r1n0 a1 a2).bind fun o=>match o with
 | .ret v67 v68=>some (v67,v68)
theorem f40r1_ok(a1:Qe)(a2:ByteArray){r:Int×Int}(h:f40r1 a1 a2=some r):Qo Try.prog true 40 [(jA Qe.cells a1),(.clo 42 [(.bp 0 0)])] [some (.box ((cStr a2).map .pl))] (.tup [(jI r.1),(jI r.2)]) [some (.box ((cStr a2).map .pl))]:=by
 unfold f40r1 at h;obtain ⟨o,ho,h⟩:=Qf h;cases o with
 | ret v67 v68 =>
  obtain rfl:=Qg h;exact Qo.shared Qh (f:=Try.f40) (c:=c40) (by kernel_rfl) (by kernel_rfl) (by kernel_rfl) ((f40r1n0_ok a1 a2 ho).mono fun r e=>by subst e; exact ⟨.inl rfl,by kernel_rfl,by kernel_rfl⟩)

noncomputable def c16:Code:=Try.f16.body.getD .skip
inductive f16n0O where
 | ret (v7:Int) (v8:Int)
def f16n0E(a1:Qe)(a2:ByteArray):f16n0O→Ex×Tr×Hp
 | .ret v7 v8=>(.ret,mkS [(4,(jI v7)),(5,(jI v8))],[])
def f16n0S(a1:Qe)(a2:ByteArray):Tr×Hp:=(Qak [(jA Qe.cells a1),(jS a2)] 0 .leaf,[])
noncomputable def f16n0(a1:Qe)(a2:ByteArray):Option f16n0O :=
 (f40r1 a1 a2).bind fun x5 =>
 some (.ret x5.1 x5.2)
theorem f16n0_ok(a1:Qe)(a2:ByteArray){o:f16n0O}(h:f16n0 a1 a2=some o):T Try.prog Try.f16.ntmps 0 c16 (f16n0S a1 a2) (·=f16n0E a1 a2 o):=by
 unfold f16n0 at h;obtain ⟨x5,h6,h⟩:=Qf h;obtain rfl:=Qg h;exact rE Qh [j3,([],[(2,.call (.tup [(jI x5.1),(jI x5.2)]) [none,some (.box ((cStr a2).map .pl))])],[])] [] [] [] [4,5] (.ret,(f16n0E a1 a2 (.ret x5.1 x5.2)).2) (ap (Qo.rn 2 [1] (f40r1_ok a1 a2 h6)) an) rfl
noncomputable def f16(a1:Qe)(a2:ByteArray):Option (Int×Int):=(f16n0 a1 a2).bind fun o=>match o with
 | .ret v7 v8=>some (v7,v8)
theorem f16_ok(a1:Qe)(a2:ByteArray){r:Int×Int}(h:f16 a1 a2=some r):Qo Try.prog false 16 [(jA Qe.cells a1),(jS a2)] [] (.tup [(jI r.1),(jI r.2)]) []:=by
 unfold f16 at h;obtain ⟨o,ho,h⟩:=Qf h;cases o with
 | ret v7 v8 =>
  obtain rfl:=Qg h;exact Qo.plain Qh (f:=Try.f16) (c:=c16) (by kernel_rfl) (by kernel_rfl) (by kernel_rfl) (by kernel_rfl) ((f16n0_ok a1 a2 ho).mono fun r e=>by subst e; exact ⟨.inl rfl,(.tup [(jI v7),(jI v8)]),(.tup [(jI v7),(jI v8)]),by kernel_rfl,by kernel_rfl,((Wk.refl _):Wk (.tup [(jI v7),(jI v8)]) (.tup [(jI v7),(jI v8)]))⟩)

noncomputable def c34:Code:=Try.f34.body.getD .skip
inductive f34n0O where
 | ret (v9:Int)
def f34n0E(a1:Qe)(a2:ByteArray):f34n0O→Ex×Tr×Hp
 | .ret v9=>(.ret,mkS [(4,(jI v9))],[])
def f34n0S(a1:Qe)(a2:ByteArray):Tr×Hp:=(Qak [(jA Qe.cells a1),(jS a2)] 0 .leaf,[])
noncomputable def f34n0(a1:Qe)(a2:ByteArray):Option f34n0O :=
 (f16 a1 a2).bind fun x5 =>
 bif decide (x5.2=0) then
  some (.ret x5.1)
 else
  some (.ret (-1))
theorem f34n0_ok(a1:Qe)(a2:ByteArray){o:f34n0O}(h:f34n0 a1 a2=some o):T Try.prog Try.f34.ntmps 0 c34 (f34n0S a1 a2) (·=f34n0E a1 a2 o):=by
 unfold f34n0 at h;obtain ⟨x5,h6,h⟩:=Qf h;rcases Qj h with ⟨h8,h⟩|⟨h8,h⟩
 ·obtain rfl:=Qg h;exact rE Qh [j3,([],[jH 2 (.tup [(jI x5.1),(jI x5.2)])],[]),j3,j3] [some false] [] [] [4] (.ret,(f34n0E a1 a2 (.ret x5.1)).2) (ap (f16_ok a1 a2 h6) (ap (Qao h8) an)) rfl
 ·obtain rfl:=Qg h;exact rK Qh 3 [j3,([],[jH 2 (.tup [(jI x5.1),(jI x5.2)])],[]),j3,j3] [some true] [] [] [4] .ret ((f34n0E a1 a2 (.ret (-1))).2) (ap (f16_ok a1 a2 h6) (ap (Qaw h8) an)) rfl
noncomputable def f34(a1:Qe)(a2:ByteArray):Option Int:=(f34n0 a1 a2).bind fun o=>match o with
 | .ret v9=>some v9
theorem Qbn(a1:Qe)(a2:ByteArray){r:Int}(h:f34 a1 a2=some r):Qo Try.prog false 34 [(jA Qe.cells a1),(jS a2)] [] (jI r) []:=by
 unfold f34 at h;obtain ⟨o,ho,h⟩:=Qf h;cases o with
 | ret v9 =>
  obtain rfl:=Qg h;exact Qo.plain Qh (f:=Try.f34) (c:=c34) (by kernel_rfl) (by kernel_rfl) (by kernel_rfl) (by kernel_rfl) ((f34n0_ok a1 a2 ho).mono fun r e=>by subst e; exact ⟨.inl rfl,(jI v9),(jI v9),by kernel_rfl,by kernel_rfl,((Wk.refl _):Wk (jI v9) (jI v9))⟩)

inductive f33r2n0O where
 | ret
def f33r2n0E(a1 a2:Int):f33r2n0O→Ex×Tr×Hp
 | .ret=>(.ret,mkS [(6,(.bp 0 0))],[some (.box [(.pl (.int .u8 a1)),(.own 1),(.own 2)]),some (.row false 3 ([(Qa.mk Ql 10 5)].map Qa.cells)),some (.row false 4 ([(Qc.mk Qx Ql 6 9),(Qc.mk Qab Ql a2 7),(Qc.mk Qag Ql 9 4)].map Qc.cells))])
def f33r2n0S(a1 a2:Int):Tr×Hp:=(Qak [(.pl (.int .u8 a1)),(jI a2),(jB false)] 0 .leaf,[])
noncomputable def f33r2n0(a1 a2:Int):Option f33r2n0O :=
 some .ret
theorem f33r2n0_ok(a1 a2:Int){o:f33r2n0O}(h:f33r2n0 a1 a2=some o):T Try.prog Try.f33.ntmps 0 c33 (f33r2n0S a1 a2) (·=f33r2n0E a1 a2 o):=by
 unfold f33r2n0 at h;obtain rfl:=Qg h;exact rE Qh [j3,j3,j3,j3] [none] [] [0,1,2] [6] (.ret,(f33r2n0E a1 a2 .ret).2) an rfl
noncomputable def f33r2(a1 a2:Int):Option Unit:=(f33r2n0 a1 a2).bind fun o=>match o with
 | .ret=>some ()
theorem f33r2_ok(a1 a2:Int){r:Unit}(h:f33r2 a1 a2=some r):Qo Try.prog true 33 [(.pl (.int .u8 a1)),(jI a2),(jB false)] [] (.agg [(.pl (.int .u8 a1)),(.own 1),(.own 2)]) [some (.box [(.pl (.int .u8 a1)),(.own 1),(.own 2)]),some (.row false 3 ([(Qa.mk Ql 10 5)].map Qa.cells)),some (.row false 4 ([(Qc.mk Qx Ql 6 9),(Qc.mk Qab Ql a2 7),(Qc.mk Qag Ql 9 4)].map Qc.cells))]:=by
 unfold f33r2 at h;obtain ⟨o,ho,h⟩:=Qf h;cases o with
 | ret =>
  obtain rfl:=Qg h;exact Qo.shared Qh (f:=Try.f33) (c:=c33) (by kernel_rfl) (by kernel_rfl) (by kernel_rfl) ((f33r2n0_ok a1 a2 ho).mono fun r e=>by subst e; exact ⟨.inl rfl,by kernel_rfl,by kernel_rfl⟩)

noncomputable def c10:Code:=Try.f10.body.getD .skip
inductive f10n1O where
 | norm (v43:Bool)
def f10n1E:f10n1O→Ex×Tr×Hp
 | .norm v43=>(.norm,mkS [(1,(jB v43))],[])
def f10n1S:Tr×Hp:=(mkS [],[])
noncomputable def f10n1:Option f10n1O :=
 (f33r1 0 6).bind fun x29 =>
 (f34 (Qe.mk 0 [(Qa.mk Ql 10 5)] [(Qc.mk Qx Ql 6 9),(Qc.mk Qab Ql 6 7),(Qc.mk Qag Ql 9 4),(Qc.mk Qan Ql 3 7)]) Qx).bind fun x31 =>
 bif decide (x31=54) then
  (f33r1 0 6).bind fun x34 =>
  (f34 (Qe.mk 0 [(Qa.mk Ql 10 5)] [(Qc.mk Qx Ql 6 9),(Qc.mk Qab Ql 6 7),(Qc.mk Qag Ql 9 4),(Qc.mk Qan Ql 3 7)]) Qab).bind fun x36 =>
  bif decide (x36=28) then
   (f33r1 0 6).bind fun x39 =>
   (f34 (Qe.mk 0 [(Qa.mk Ql 10 5)] [(Qc.mk Qx Ql 6 9),(Qc.mk Qab Ql 6 7),(Qc.mk Qag Ql 9 4),(Qc.mk Qan Ql 3 7)]) Qan).bind fun x41 =>
   some (.norm (decide (x41=0)))
  else
   some (.norm false)
 else
  some (.norm false)
theorem f10n1_ok{o:f10n1O}(h:f10n1=some o):T Try.prog Try.f10.ntmps 0 (cL (Qk 1 c10)) f10n1S (·=f10n1E o):=by
 unfold f10n1 at h;obtain ⟨x29,h30,h⟩:=Qf h;obtain ⟨x31,h32,h⟩:=Qf h;rcases Qj h with ⟨h33,h⟩|⟨h33,h⟩
 ·obtain ⟨x34,h35,h⟩:=Qf h;obtain ⟨x36,h37,h⟩:=Qf h;rcases Qj h with ⟨h38,h⟩|⟨h38,h⟩
  ·obtain ⟨x39,h40,h⟩:=Qf h;obtain ⟨x41,h42,h⟩:=Qf h;obtain rfl:=Qg h
   exact rE Qh [(jT [4,5,6,9,10,11],[(0,.call (.agg [(.pl (.int .u8 0)),(.own 1),(.own 2)]) [some (.box [(.pl (.int .u8 0)),(.own 1),(.own 2)]),some (.row false 3 ([(Qa.mk Ql 10 5)].map Qa.cells)),some (.row false 4 ([(Qc.mk Qx Ql 6 9),(Qc.mk Qab Ql 6 7),(Qc.mk Qag Ql 9 4),(Qc.mk Qan Ql 3 7)].map Qc.cells))]),jH 1 (jI x31),(4,.call (.agg [(.pl (.int .u8 0)),(.own 4),(.own 5)]) (jN 3 [some (.box [(.pl (.int .u8 0)),(.own 4),(.own 5)]),some (.row false 3 ([(Qa.mk Ql 10 5)].map Qa.cells)),some (.row false 4 ([(Qc.mk Qx Ql 6 9),(Qc.mk Qab Ql 6 7),(Qc.mk Qag Ql 9 4),(Qc.mk Qan Ql 3 7)].map Qc.cells))])),jH 5 (jI x36),(7,.bool true),(9,.call (.agg [(.pl (.int .u8 0)),(.own 7),(.own 8)]) (jN 6 [some (.box [(.pl (.int .u8 0)),(.own 7),(.own 8)]),some (.row false 3 ([(Qa.mk Ql 10 5)].map Qa.cells)),some (.row false 4 ([(Qc.mk Qx Ql 6 9),(Qc.mk Qab Ql 6 7),(Qc.mk Qag Ql 9 4),(Qc.mk Qan Ql 3 7)].map Qc.cells))])),jH 10 (jI x41),(12,.bool true)],[])] [] [] [] [1] (.norm,(f10n1E (.norm (decide (x41=0)))).2) (ap4 h33 (ap4 h38 (ap (Qal 0 6 h30) (ap (Qbn (Qe.mk 0 [(Qa.mk Ql 10 5)] [(Qc.mk Qx Ql 6 9),(Qc.mk Qab Ql 6 7),(Qc.mk Qag Ql 9 4),(Qc.mk Qan Ql 3 7)]) Qx h32) (ap (Qo.rn 3 [] (Qal 0 6 h35)) (ap (Qbn (Qe.mk 0 [(Qa.mk Ql 10 5)] [(Qc.mk Qx Ql 6 9),(Qc.mk Qab Ql 6 7),(Qc.mk Qag Ql 9 4),(Qc.mk Qan Ql 3 7)]) Qab h37) (ap (Qo.rn 6 [] (Qal 0 6 h40)) (ap (Qbn (Qe.mk 0 [(Qa.mk Ql 10 5)] [(Qc.mk Qx Ql 6 9),(Qc.mk Qab Ql 6 7),(Qc.mk Qag Ql 9 4),(Qc.mk Qan Ql 3 7)]) Qan h42) an)))))))) rfl
  ·obtain rfl:=Qg h
   exact rE Qh [(jF [9,10,11]++jT [4,5,6],[(0,.call (.agg [(.pl (.int .u8 0)),(.own 1),(.own 2)]) [some (.box [(.pl (.int .u8 0)),(.own 1),(.own 2)]),some (.row false 3 ([(Qa.mk Ql 10 5)].map Qa.cells)),some (.row false 4 ([(Qc.mk Qx Ql 6 9),(Qc.mk Qab Ql 6 7),(Qc.mk Qag Ql 9 4),(Qc.mk Qan Ql 3 7)].map Qc.cells))]),jH 1 (jI x31),(4,.call (.agg [(.pl (.int .u8 0)),(.own 4),(.own 5)]) (jN 3 [some (.box [(.pl (.int .u8 0)),(.own 4),(.own 5)]),some (.row false 3 ([(Qa.mk Ql 10 5)].map Qa.cells)),some (.row false 4 ([(Qc.mk Qx Ql 6 9),(Qc.mk Qab Ql 6 7),(Qc.mk Qag Ql 9 4),(Qc.mk Qan Ql 3 7)].map Qc.cells))])),jH 5 (jI x36),(7,.bool true),(12,.bool false)],[])] [] [] [] [1] (.norm,(f10n1E (.norm false)).2) (ap4 h33 (ap4 h38 (ap (Qal 0 6 h30) (ap (Qbn (Qe.mk 0 [(Qa.mk Ql 10 5)] [(Qc.mk Qx Ql 6 9),(Qc.mk Qab Ql 6 7),(Qc.mk Qag Ql 9 4),(Qc.mk Qan Ql 3 7)]) Qx h32) (ap (Qo.rn 3 [] (Qal 0 6 h35)) (ap (Qbn (Qe.mk 0 [(Qa.mk Ql 10 5)] [(Qc.mk Qx Ql 6 9),(Qc.mk Qab Ql 6 7),(Qc.mk Qag Ql 9 4),(Qc.mk Qan Ql 3 7)]) Qab h37) an)))))) rfl
 ·obtain rfl:=Qg h;exact rE Qh [(jF [4,5,6],[(0,.call (.agg [(.pl (.int .u8 0)),(.own 1),(.own 2)]) [some (.box [(.pl (.int .u8 0)),(.own 1),(.own 2)]),some (.row false 3 ([(Qa.mk Ql 10 5)].map Qa.cells)),some (.row false 4 ([(Qc.mk Qx Ql 6 9),(Qc.mk Qab Ql 6 7),(Qc.mk Qag Ql 9 4),(Qc.mk Qan Ql 3 7)].map Qc.cells))]),jH 1 (jI x31),(7,.bool false)],[])] [] [] [] [1] (.norm,(f10n1E (.norm false)).2) (ap4 h33 (ap (Qal 0 6 h30) (ap (Qbn (Qe.mk 0 [(Qa.mk Ql 10 5)] [(Qc.mk Qx Ql 6 9),(Qc.mk Qab Ql 6 7),(Qc.mk Qag Ql 9 4),(Qc.mk Qan Ql 3 7)]) Qx h32) an))) rfl
inductive f10n2O where
 | norm (v74:Bool)
def f10n2E(bi1:Bool):f10n2O→Ex×Tr×Hp
 | .norm v74=>(.norm,mkS [(1,(jB bi1)),(2,(jB v74))],[])
def f10n2S(bi1:Bool):Tr×Hp:=(mkS [(1,(jB bi1))],[])
noncomputable def f10n2(bi1:Bool):Option f10n2O :=
 (f33r1 1 6).bind fun x65 =>
 (f34 (Qe.mk 1 [(Qa.mk Ql 10 5)] [(Qc.mk Qx Ql 6 9),(Qc.mk Qab Ql 6 7),(Qc.mk Qag Ql 9 4),(Qc.mk Qan Ql 3 7)]) Qx).bind fun x67 =>
 bif decide (x67=42) then
  (f33r1 1 6).bind fun x70 =>
  (f34 (Qe.mk 1 [(Qa.mk Ql 10 5)] [(Qc.mk Qx Ql 6 9),(Qc.mk Qab Ql 6 7),(Qc.mk Qag Ql 9 4),(Qc.mk Qan Ql 3 7)]) Qab).bind fun x72 =>
  some (.norm (decide (x72=28)))
 else
  some (.norm false)
theorem f10n2_ok(bi1:Bool){o:f10n2O}(h:f10n2 bi1=some o):T Try.prog Try.f10.ntmps 0 (cL (Qk 0 (Qk 1 (Qk 1 c10)))) (f10n2S bi1) (·=f10n2E bi1 o):=by
 unfold f10n2 at h;obtain ⟨x65,h66,h⟩:=Qf h;obtain ⟨x67,h68,h⟩:=Qf h;rcases Qj h with ⟨h69,h⟩|⟨h69,h⟩
 ·obtain ⟨x70,h71,h⟩:=Qf h;obtain ⟨x72,h73,h⟩:=Qf h;obtain rfl:=Qg h
  exact rE Qh [(jT [4,5,6],[(0,.call (.agg [(.pl (.int .u8 1)),(.own 1),(.own 2)]) [some (.box [(.pl (.int .u8 1)),(.own 1),(.own 2)]),some (.row false 3 ([(Qa.mk Ql 10 5)].map Qa.cells)),some (.row false 4 ([(Qc.mk Qx Ql 6 9),(Qc.mk Qab Ql 6 7),(Qc.mk Qag Ql 9 4),(Qc.mk Qan Ql 3 7)].map Qc.cells))]),jH 1 (jI x67),(4,.call (.agg [(.pl (.int .u8 1)),(.own 4),(.own 5)]) (jN 3 [some (.box [(.pl (.int .u8 1)),(.own 4),(.own 5)]),some (.row false 3 ([(Qa.mk Ql 10 5)].map Qa.cells)),some (.row false 4 ([(Qc.mk Qx Ql 6 9),(Qc.mk Qab Ql 6 7),(Qc.mk Qag Ql 9 4),(Qc.mk Qan Ql 3 7)].map Qc.cells))])),jH 5 (jI x72),(7,.bool true)],[])] [] [] [] [1,2] (.norm,(f10n2E bi1 (.norm (decide (x72=28)))).2) (ap4 h69 (ap (Qal 1 6 h66) (ap (Qbn (Qe.mk 1 [(Qa.mk Ql 10 5)] [(Qc.mk Qx Ql 6 9),(Qc.mk Qab Ql 6 7),(Qc.mk Qag Ql 9 4),(Qc.mk Qan Ql 3 7)]) Qx h68) (ap (Qo.rn 3 [] (Qal 1 6 h71)) (ap (Qbn (Qe.mk 1 [(Qa.mk Ql 10 5)] [(Qc.mk Qx Ql 6 9),(Qc.mk Qab Ql 6 7),(Qc.mk Qag Ql 9 4),(Qc.mk Qan Ql 3 7)]) Qab h73) an))))) rfl
 ·obtain rfl:=Qg h;exact rE Qh [(jF [4,5,6],[(0,.call (.agg [(.pl (.int .u8 1)),(.own 1),(.own 2)]) [some (.box [(.pl (.int .u8 1)),(.own 1),(.own 2)]),some (.row false 3 ([(Qa.mk Ql 10 5)].map Qa.cells)),some (.row false 4 ([(Qc.mk Qx Ql 6 9),(Qc.mk Qab Ql 6 7),(Qc.mk Qag Ql 9 4),(Qc.mk Qan Ql 3 7)].map Qc.cells))]),jH 1 (jI x67),(7,.bool false)],[])] [] [] [] [1,2] (.norm,(f10n2E bi1 (.norm false)).2) (ap4 h69 (ap (Qal 1 6 h66) (ap (Qbn (Qe.mk 1 [(Qa.mk Ql 10 5)] [(Qc.mk Qx Ql 6 9),(Qc.mk Qab Ql 6 7),(Qc.mk Qag Ql 9 4),(Qc.mk Qan Ql 3 7)]) Qx h68) an))) rfl
inductive f10n3O where
 | norm (v150:Bool)
def f10n3E(bi1 bi2:Bool):f10n3O→Ex×Tr×Hp
 | .norm v150=>(.norm,mkS [(1,(jB bi1)),(2,(jB bi2)),(3,(jB v150))],[])
def f10n3S(bi1 bi2:Bool):Tr×Hp:=(mkS [(1,(jB bi1)),(2,(jB bi2))],[])
noncomputable def f10n3(bi1 bi2:Bool):Option f10n3O :=
 (f33r1 2 6).bind fun x126 =>
 (f34 (Qe.mk 2 [(Qa.mk Ql 10 5)] [(Qc.mk Qx Ql 6 9),(Qc.mk Qab Ql 6 7),(Qc.mk Qag Ql 9 4),(Qc.mk Qan Ql 3 7)]) Qx).bind fun x128 =>
 bif decide (x128=42) then
  (f33r1 2 6).bind fun x131 =>
  (f34 (Qe.mk 2 [(Qa.mk Ql 10 5)] [(Qc.mk Qx Ql 6 9),(Qc.mk Qab Ql 6 7),(Qc.mk Qag Ql 9 4),(Qc.mk Qan Ql 3 7)]) Qab).bind fun x133 =>
  bif decide (x133=28) then
   (f33r1 2 4).bind fun x136 =>
   (f34 (Qe.mk 2 [(Qa.mk Ql 10 5)] [(Qc.mk Qx Ql 6 9),(Qc.mk Qab Ql 4 7),(Qc.mk Qag Ql 9 4),(Qc.mk Qan Ql 3 7)]) Qx).bind fun x138 =>
   bif decide (x138=42) then
    (f33r2 2 4).bind fun x141 =>
    (f34 (Qe.mk 2 [(Qa.mk Ql 10 5)] [(Qc.mk Qx Ql 6 9),(Qc.mk Qab Ql 4 7),(Qc.mk Qag Ql 9 4)]) Qx).bind fun x143 =>
    bif decide (x143=30) then
     (f33r2 2 4).bind fun x146 =>
     (f34 (Qe.mk 2 [(Qa.mk Ql 10 5)] [(Qc.mk Qx Ql 6 9),(Qc.mk Qab Ql 4 7),(Qc.mk Qag Ql 9 4)]) Qab).bind fun x148 =>
     some (.norm (decide (x148=20)))
    else
     some (.norm false)
   else
    some (.norm false)
  else
   some (.norm false)
 else
  some (.norm false)
theorem f10n3_ok(bi1 bi2:Bool){o:f10n3O}(h:f10n3 bi1 bi2=some o):T Try.prog Try.f10.ntmps 0 (cL (Qk 0 (Qk 1 (Qk 0 (Qk 1 (Qk 1 c10)))))) (f10n3S bi1 bi2) (·=f10n3E bi1 bi2 o):=by
 unfold f10n3 at h;obtain ⟨x126,h127,h⟩:=Qf h;obtain ⟨x128,h129,h⟩:=Qf h;rcases Qj h with ⟨h130,h⟩|⟨h130,h⟩
 ·obtain ⟨x131,h132,h⟩:=Qf h;obtain ⟨x133,h134,h⟩:=Qf h;rcases Qj h with ⟨h135,h⟩|⟨h135,h⟩
  ·obtain ⟨x136,h137,h⟩:=Qf h;obtain ⟨x138,h139,h⟩:=Qf h;rcases Qj h with ⟨h140,h⟩|⟨h140,h⟩
   ·obtain ⟨x141,h142,h⟩:=Qf h;obtain ⟨x143,h144,h⟩:=Qf h;rcases Qj h with ⟨h145,h⟩|⟨h145,h⟩
    ·obtain ⟨x146,h147,h⟩:=Qf h;obtain ⟨x148,h149,h⟩:=Qf h;obtain rfl:=Qg h
     exact rE Qh [(jT [4,5,6,9,10,11,14,15,16,19,20,21],[(0,.call (.agg [(.pl (.int .u8 2)),(.own 1),(.own 2)]) [some (.box [(.pl (.int .u8 2)),(.own 1),(.own 2)]),some (.row false 3 ([(Qa.mk Ql 10 5)].map Qa.cells)),some (.row false 4 ([(Qc.mk Qx Ql 6 9),(Qc.mk Qab Ql 6 7),(Qc.mk Qag Ql 9 4),(Qc.mk Qan Ql 3 7)].map Qc.cells))]),jH 1 (jI x128),(4,.call (.agg [(.pl (.int .u8 2)),(.own 4),(.own 5)]) (jN 3 [some (.box [(.pl (.int .u8 2)),(.own 4),(.own 5)]),some (.row false 3 ([(Qa.mk Ql 10 5)].map Qa.cells)),some (.row false 4 ([(Qc.mk Qx Ql 6 9),(Qc.mk Qab Ql 6 7),(Qc.mk Qag Ql 9 4),(Qc.mk Qan Ql 3 7)].map Qc.cells))])),jH 5 (jI x133),(7,.bool true),(9,.call (.agg [(.pl (.int .u8 2)),(.own 7),(.own 8)]) (jN 6 [some (.box [(.pl (.int .u8 2)),(.own 7),(.own 8)]),some (.row false 3 ([(Qa.mk Ql 10 5)].map Qa.cells)),some (.row false 4 ([(Qc.mk Qx Ql 6 9),(Qc.mk Qab Ql 4 7),(Qc.mk Qag Ql 9 4),(Qc.mk Qan Ql 3 7)].map Qc.cells))])),jH 10 (jI x138),(12,.bool true),(14,.call (.agg [(.pl (.int .u8 2)),(.own 10),(.own 11)]) (jN 9 [some (.box [(.pl (.int .u8 2)),(.own 10),(.own 11)]),some (.row false 3 ([(Qa.mk Ql 10 5)].map Qa.cells)),some (.row false 4 ([(Qc.mk Qx Ql 6 9),(Qc.mk Qab Ql 4 7),(Qc.mk Qag Ql 9 4)].map Qc.cells))])),jH 15 (jI x143),(17,.bool true),(19,.call (.agg [(.pl (.int .u8 2)),(.own 13),(.own 14)]) (jN 12 [some (.box [(.pl (.int .u8 2)),(.own 13),(.own 14)]),some (.row false 3 ([(Qa.mk Ql 10 5)].map Qa.cells)),some (.row false 4 ([(Qc.mk Qx Ql 6 9),(Qc.mk Qab Ql 4 7),(Qc.mk Qag Ql 9 4)].map Qc.cells))])),jH 20 (jI x148),(22,.bool true)],[])] [] [] [] [1,2,3] (.norm,(f10n3E bi1 bi2 (.norm (decide (x148=20)))).2) (ap4 h130 (ap4 h135 (ap4 h140 (ap4 h145 (ap (Qal 2 6 h127) (ap (Qbn (Qe.mk 2 [(Qa.mk Ql 10 5)] [(Qc.mk Qx Ql 6 9),(Qc.mk Qab Ql 6 7),(Qc.mk Qag Ql 9 4),(Qc.mk Qan Ql 3 7)]) Qx h129) (ap (Qo.rn 3 [] (Qal 2 6 h132)) (ap (Qbn (Qe.mk 2 [(Qa.mk Ql 10 5)] [(Qc.mk Qx Ql 6 9),(Qc.mk Qab Ql 6 7),(Qc.mk Qag Ql 9 4),(Qc.mk Qan Ql 3 7)]) Qab h134) (ap (Qo.rn 6 [] (Qal 2 4 h137)) (ap (Qbn (Qe.mk 2 [(Qa.mk Ql 10 5)] [(Qc.mk Qx Ql 6 9),(Qc.mk Qab Ql 4 7),(Qc.mk Qag Ql 9 4),(Qc.mk Qan Ql 3 7)]) Qx h139) (ap (Qo.rn 9 [] (f33r2_ok 2 4 h142)) (ap (Qbn (Qe.mk 2 [(Qa.mk Ql 10 5)] [(Qc.mk Qx Ql 6 9),(Qc.mk Qab Ql 4 7),(Qc.mk Qag Ql 9 4)]) Qx h144) (ap (Qo.rn 12 [] (f33r2_ok 2 4 h147)) (ap (Qbn (Qe.mk 2 [(Qa.mk Ql 10 5)] [(Qc.mk Qx Ql 6 9),(Qc.mk Qab Ql 4 7),(Qc.mk Qag Ql 9 4)]) Qab h149) an)))))))))))))) rfl
    ·obtain rfl:=Qg h
     exact rE Qh [(jF [19,20,21]++jT [4,5,6,9,10,11,14,15,16],[(0,.call (.agg [(.pl (.int .u8 2)),(.own 1),(.own 2)]) [some (.box [(.pl (.int .u8 2)),(.own 1),(.own 2)]),some (.row false 3 ([(Qa.mk Ql 10 5)].map Qa.cells)),some (.row false 4 ([(Qc.mk Qx Ql 6 9),(Qc.mk Qab Ql 6 7),(Qc.mk Qag Ql 9 4),(Qc.mk Qan Ql 3 7)].map Qc.cells))]),jH 1 (jI x128),(4,.call (.agg [(.pl (.int .u8 2)),(.own 4),(.own 5)]) (jN 3 [some (.box [(.pl (.int .u8 2)),(.own 4),(.own 5)]),some (.row false 3 ([(Qa.mk Ql 10 5)].map Qa.cells)),some (.row false 4 ([(Qc.mk Qx Ql 6 9),(Qc.mk Qab Ql 6 7),(Qc.mk Qag Ql 9 4),(Qc.mk Qan Ql 3 7)].map Qc.cells))])),jH 5 (jI x133),(7,.bool true),(9,.call (.agg [(.pl (.int .u8 2)),(.own 7),(.own 8)]) (jN 6 [some (.box [(.pl (.int .u8 2)),(.own 7),(.own 8)]),some (.row false 3 ([(Qa.mk Ql 10 5)].map Qa.cells)),some (.row false 4 ([(Qc.mk Qx Ql 6 9),(Qc.mk Qab Ql 4 7),(Qc.mk Qag Ql 9 4),(Qc.mk Qan Ql 3 7)].map Qc.cells))])),jH 10 (jI x138),(12,.bool true),(14,.call (.agg [(.pl (.int .u8 2)),(.own 10),(.own 11)]) (jN 9 [some (.box [(.pl (.int .u8 2)),(.own 10),(.own 11)]),some (.row false 3 ([(Qa.mk Ql 10 5)].map Qa.cells)),some (.row false 4 ([(Qc.mk Qx Ql 6 9),(Qc.mk Qab Ql 4 7),(Qc.mk Qag Ql 9 4)].map Qc.cells))])),jH 15 (jI x143),(17,.bool true),(22,.bool false)],[])] [] [] [] [1,2,3] (.norm,(f10n3E bi1 bi2 (.norm false)).2) (ap4 h130 (ap4 h135 (ap4 h140 (ap4 h145 (ap (Qal 2 6 h127) (ap (Qbn (Qe.mk 2 [(Qa.mk Ql 10 5)] [(Qc.mk Qx Ql 6 9),(Qc.mk Qab Ql 6 7),(Qc.mk Qag Ql 9 4),(Qc.mk Qan Ql 3 7)]) Qx h129) (ap (Qo.rn 3 [] (Qal 2 6 h132)) (ap (Qbn (Qe.mk 2 [(Qa.mk Ql 10 5)] [(Qc.mk Qx Ql 6 9),(Qc.mk Qab Ql 6 7),(Qc.mk Qag Ql 9 4),(Qc.mk Qan Ql 3 7)]) Qab h134) (ap (Qo.rn 6 [] (Qal 2 4 h137)) (ap (Qbn (Qe.mk 2 [(Qa.mk Ql 10 5)] [(Qc.mk Qx Ql 6 9),(Qc.mk Qab Ql 4 7),(Qc.mk Qag Ql 9 4),(Qc.mk Qan Ql 3 7)]) Qx h139) (ap (Qo.rn 9 [] (f33r2_ok 2 4 h142)) (ap (Qbn (Qe.mk 2 [(Qa.mk Ql 10 5)] [(Qc.mk Qx Ql 6 9),(Qc.mk Qab Ql 4 7),(Qc.mk Qag Ql 9 4)]) Qx h144) an)))))))))))) rfl
   ·obtain rfl:=Qg h
    exact rE Qh [(jF [14,15,16]++jT [4,5,6,9,10,11],[(0,.call (.agg [(.pl (.int .u8 2)),(.own 1),(.own 2)]) [some (.box [(.pl (.int .u8 2)),(.own 1),(.own 2)]),some (.row false 3 ([(Qa.mk Ql 10 5)].map Qa.cells)),some (.row false 4 ([(Qc.mk Qx Ql 6 9),(Qc.mk Qab Ql 6 7),(Qc.mk Qag Ql 9 4),(Qc.mk Qan Ql 3 7)].map Qc.cells))]),jH 1 (jI x128),(4,.call (.agg [(.pl (.int .u8 2)),(.own 4),(.own 5)]) (jN 3 [some (.box [(.pl (.int .u8 2)),(.own 4),(.own 5)]),some (.row false 3 ([(Qa.mk Ql 10 5)].map Qa.cells)),some (.row false 4 ([(Qc.mk Qx Ql 6 9),(Qc.mk Qab Ql 6 7),(Qc.mk Qag Ql 9 4),(Qc.mk Qan Ql 3 7)].map Qc.cells))])),jH 5 (jI x133),(7,.bool true),(9,.call (.agg [(.pl (.int .u8 2)),(.own 7),(.own 8)]) (jN 6 [some (.box [(.pl (.int .u8 2)),(.own 7),(.own 8)]),some (.row false 3 ([(Qa.mk Ql 10 5)].map Qa.cells)),some (.row false 4 ([(Qc.mk Qx Ql 6 9),(Qc.mk Qab Ql 4 7),(Qc.mk Qag Ql 9 4),(Qc.mk Qan Ql 3 7)].map Qc.cells))])),jH 10 (jI x138),(12,.bool true),(17,.bool false)],[])] [] [] [] [1,2,3] (.norm,(f10n3E bi1 bi2 (.norm false)).2) (ap4 h130 (ap4 h135 (ap4 h140 (ap (Qal 2 6 h127) (ap (Qbn (Qe.mk 2 [(Qa.mk Ql 10 5)] [(Qc.mk Qx Ql 6 9),(Qc.mk Qab Ql 6 7),(Qc.mk Qag Ql 9 4),(Qc.mk Qan Ql 3 7)]) Qx h129) (ap (Qo.rn 3 [] (Qal 2 6 h132)) (ap (Qbn (Qe.mk 2 [(Qa.mk Ql 10 5)] [(Qc.mk Qx Ql 6 9),(Qc.mk Qab Ql 6 7),(Qc.mk Qag Ql 9 4),(Qc.mk Qan Ql 3 7)]) Qab h134) (ap (Qo.rn 6 [] (Qal 2 4 h137)) (ap (Qbn (Qe.mk 2 [(Qa.mk Ql 10 5)] [(Qc.mk Qx Ql 6 9),(Qc.mk Qab Ql 4 7),(Qc.mk Qag Ql 9 4),(Qc.mk Qan Ql 3 7)]) Qx h139) an))))))))) rfl
  ·obtain rfl:=Qg h
   exact rE Qh [(jF [9,10,11]++jT [4,5,6],[(0,.call (.agg [(.pl (.int .u8 2)),(.own 1),(.own 2)]) [some (.box [(.pl (.int .u8 2)),(.own 1),(.own 2)]),some (.row false 3 ([(Qa.mk Ql 10 5)].map Qa.cells)),some (.row false 4 ([(Qc.mk Qx Ql 6 9),(Qc.mk Qab Ql 6 7),(Qc.mk Qag Ql 9 4),(Qc.mk Qan Ql 3 7)].map Qc.cells))]),jH 1 (jI x128),(4,.call (.agg [(.pl (.int .u8 2)),(.own 4),(.own 5)]) (jN 3 [some (.box [(.pl (.int .u8 2)),(.own 4),(.own 5)]),some (.row false 3 ([(Qa.mk Ql 10 5)].map Qa.cells)),some (.row false 4 ([(Qc.mk Qx Ql 6 9),(Qc.mk Qab Ql 6 7),(Qc.mk Qag Ql 9 4),(Qc.mk Qan Ql 3 7)].map Qc.cells))])),jH 5 (jI x133),(7,.bool true),(12,.bool false)],[])] [] [] [] [1,2,3] (.norm,(f10n3E bi1 bi2 (.norm false)).2) (ap4 h130 (ap4 h135 (ap (Qal 2 6 h127) (ap (Qbn (Qe.mk 2 [(Qa.mk Ql 10 5)] [(Qc.mk Qx Ql 6 9),(Qc.mk Qab Ql 6 7),(Qc.mk Qag Ql 9 4),(Qc.mk Qan Ql 3 7)]) Qx h129) (ap (Qo.rn 3 [] (Qal 2 6 h132)) (ap (Qbn (Qe.mk 2 [(Qa.mk Ql 10 5)] [(Qc.mk Qx Ql 6 9),(Qc.mk Qab Ql 6 7),(Qc.mk Qag Ql 9 4),(Qc.mk Qan Ql 3 7)]) Qab h134) an)))))) rfl
 ·obtain rfl:=Qg h;exact rE Qh [(jF [4,5,6],[(0,.call (.agg [(.pl (.int .u8 2)),(.own 1),(.own 2)]) [some (.box [(.pl (.int .u8 2)),(.own 1),(.own 2)]),some (.row false 3 ([(Qa.mk Ql 10 5)].map Qa.cells)),some (.row false 4 ([(Qc.mk Qx Ql 6 9),(Qc.mk Qab Ql 6 7),(Qc.mk Qag Ql 9 4),(Qc.mk Qan Ql 3 7)].map Qc.cells))]),jH 1 (jI x128),(7,.bool false)],[])] [] [] [] [1,2,3] (.norm,(f10n3E bi1 bi2 (.norm false)).2) (ap4 h130 (ap (Qal 2 6 h127) (ap (Qbn (Qe.mk 2 [(Qa.mk Ql 10 5)] [(Qc.mk Qx Ql 6 9),(Qc.mk Qab Ql 6 7),(Qc.mk Qag Ql 9 4),(Qc.mk Qan Ql 3 7)]) Qx h129) an))) rfl
inductive f10n0O where
 | ret (v158:Bool)
def f10n0E:f10n0O→Ex×Tr×Hp
 | .ret v158=>(.ret,mkS [(0,(jB v158))],[])
def f10n0S:Tr×Hp:=(Qak [] 0 .leaf,[])
noncomputable def f10n0:Option f10n0O :=
 f10n1.bind fun o44=>match o44 with
 | .norm v46=>(f10n2 v46).bind fun o75=>match o75 with
  | .norm v77=>(f10n3 v46 v77).bind fun o151=>match o151 with
   | .norm v153=>bif v46 then
     bif v77 then
      some (.ret v153)
     else
      some (.ret false)
    else
     some (.ret false)
theorem f10n0_ok{o:f10n0O}(h:f10n0=some o):T Try.prog Try.f10.ntmps 0 c10 f10n0S (·=f10n0E o):=by
 unfold f10n0 at h;refine rN Qh 1 [j3] [] [] [] [] f10n1S an ?_;obtain ⟨o44,h45,h⟩:=Qf h;cases o44 with
 | norm v46 =>
  refine T.oneN (by kernel_rfl) (f10n1_ok h45) (st2:=(f10n1E (.norm v46)).2) rfl ?_;refine rN Qh 0 [] [] [] [] [1] (f10n2S v46) an ?_;obtain ⟨o75,h76,h⟩:=Qf h;cases o75 with
  | norm v77 =>
   refine T.oneN (by kernel_rfl) (f10n2_ok v46 h76) (st2:=(f10n2E v46 (.norm v77)).2) rfl ?_;refine rN Qh 0 [] [] [] [] [1,2] (f10n3S v46 v77) an ?_;obtain ⟨o151,h152,h⟩:=Qf h;cases o151 with
   | norm v153 =>
    refine T.oneN (by kernel_rfl) (f10n3_ok v46 v77 h152) (st2:=(f10n3E v46 v77 (.norm v153)).2) rfl ?_;rcases Qj h with ⟨h156,h⟩|⟨h156,h⟩
    ·rcases Qj h with ⟨h157,h⟩|⟨h157,h⟩
     ·obtain rfl:=Qg h;exact rE Qh [([(2,true),(5,true)],[(3,.bool true),(6,.bool true)],[])] [] [] [] [0] (.ret,(f10n0E (.ret v153)).2) (ap2 h156 (ap2 h157 an)) rfl
     ·obtain rfl:=Qg h;exact rE Qh [([(2,true),(5,false)],[(3,.bool true),(6,.bool false)],[])] [] [] [] [0] (.ret,(f10n0E (.ret false)).2) (ap2 h156 (ap2 h157 an)) rfl
    ·obtain rfl:=Qg h;exact rE Qh [([(2,false)],[(3,.bool false)],[])] [] [] [] [0] (.ret,(f10n0E (.ret false)).2) (ap2 h156 an) rfl
noncomputable def f10:Option Bool:=f10n0.bind fun o=>match o with
 | .ret v158=>some v158
theorem f10_ok{r:Bool}(h:f10=some r):Qo Try.prog false 10 [] [] (jB r) []:=by
 unfold f10 at h;obtain ⟨o,ho,h⟩:=Qf h;cases o with
 | ret v158 =>
  obtain rfl:=Qg h;exact Qo.plain Qh (f:=Try.f10) (c:=c10) (by kernel_rfl) (by kernel_rfl) (by kernel_rfl) (by kernel_rfl) ((f10n0_ok  ho).mono fun r e=>by subst e; exact ⟨.inl rfl,(jB v158),(jB v158),by kernel_rfl,by kernel_rfl,((Wk.refl _):Wk (jB v158) (jB v158))⟩)

noncomputable def c11:Code:=Try.f11.body.getD .skip
inductive f11n0O where
 | ret (v4:Bool)
def f11n0E(a1:Qe):f11n0O→Ex×Tr×Hp
 | .ret v4=>(.ret,mkS [(2,(jB v4))],[])
def f11n0S(a1:Qe):Tr×Hp:=(Qak [(jA Qe.cells a1)] 0 .leaf,[])
noncomputable def f11n0(a1:Qe):Option f11n0O :=
 bif decide (20<(a1.Lots.length:Int)) then
  some (.ret true)
 else
  some (.ret (decide (110<(a1.Bids.length:Int))))
theorem f11n0_ok(a1:Qe){o:f11n0O}(h:f11n0 a1=some o):T Try.prog Try.f11.ntmps 0 c11 (f11n0S a1) (·=f11n0E a1 o):=by
 unfold f11n0 at h;rcases Qj h with ⟨h3,h⟩|⟨h3,h⟩
 ·obtain rfl:=Qg h;exact rE Qh [j3,(jT [5,6,7,8],[(9,.bool true)],[(2,.val (jI (a1.Lots.length:Int)))])] [] [] [] [2] (.ret,(f11n0E a1 (.ret true)).2) (ap (Qaa (xs:=a1.Lots) (c:=Qa.cells)) (ap h3 (ap4 h3 an))) rfl
 ·obtain rfl:=Qg h;exact rE Qh [j3,(jF [5,6,7,8],[(9,.bool false)],[(2,.val (jI (a1.Lots.length:Int))),(7,.val (jI (a1.Bids.length:Int)))])] [] [] [] [2] (.ret,(f11n0E a1 (.ret (decide (110<(a1.Bids.length:Int))))).2) (ap (Qaa (xs:=a1.Lots) (c:=Qa.cells)) (ap3 h3 (ap (Qaa (xs:=a1.Bids) (c:=Qc.cells)) (ap2 h3 an)))) rfl
noncomputable def f11(a1:Qe):Option Bool:=(f11n0 a1).bind fun o=>match o with
 | .ret v4=>some v4
theorem f11_ok(a1:Qe){r:Bool}(h:f11 a1=some r):Qo Try.prog false 11 [(jA Qe.cells a1)] [] (jB r) []:=by
 unfold f11 at h;obtain ⟨o,ho,h⟩:=Qf h;cases o with
 | ret v4 =>
  obtain rfl:=Qg h;exact Qo.plain Qh (f:=Try.f11) (c:=c11) (by kernel_rfl) (by kernel_rfl) (by kernel_rfl) (by kernel_rfl) ((f11n0_ok a1 ho).mono fun r e=>by subst e; exact ⟨.inl rfl,(jB v4),(jB v4),by kernel_rfl,by kernel_rfl,((Wk.refl _):Wk (jB v4) (jB v4))⟩)

noncomputable def c13:Code:=Try.f13.body.getD .skip
inductive f13n2O where
 | exit0 (v52:Int) (v53:Int)
 | ret
def f13n2E(bg1:List Qb)(bd2 bd3:Int):f13n2O→Ex×Tr×Hp
 | .exit0 v52 v53=>((.exit 0),mkS [(8,(jI v52)),(9,(jI v53))],[])
 | .ret=>(.ret,mkS [(6,(jI 0)),(7,(jB false))],[])
def f13n2S(bg1:List Qb)(bd2 bd3 v35 v36 v37:Int):Tr×Hp:=(mkS [(0,(jL 3 Qb.cells bg1)),(1,(jI bd2)),(2,(jI bd3)),(8,(jI v35)),(9,(jI v36)),(10,(jI v37))],[])
noncomputable def f13n2:Nat→List Qb→Int→Int→Int→Int→Int→Option f13n2O
 | 0,_,_,_,_,_,_=>none
 | f+1,bg1,bd2,bd3,v35,v36,v37 =>
  bif decide (v37<(bg1.length:Int)) then
   (at? bg1 v37).bind fun x46 =>
   bif decide (x46.Bid<0) then
    some .ret
   else
    bif decide (bd3≤x46.Bid) then
     some .ret
    else
     bif decide (x46.Units<1) then
      some .ret
     else
      bif decide (x46.Bid=bd2) then
       (f13n2 f bg1 bd2 bd3 x46.Units (wr64 (v36+1)) (wr64 (v37+1)))
      else
       (f13n2 f bg1 bd2 bd3 v35 v36 (wr64 (v37+1)))
  else
   some (.exit0 v35 v36)
theorem f13n2_ok:∀(f:Nat)(bg1:List Qb)(bd2 bd3 v35 v36 v37:Int){o:f13n2O},f13n2 f bg1 bd2 bd3 v35 v36 v37=some o→TL Try.prog Try.f13.ntmps 0 f (cL (cL (Qk 1 (cL (Qk 2 c13))))) (f13n2S bg1 bd2 bd3 v35 v36 v37) (·=f13n2E bg1 bd2 bd3 o)
 | 0,_,_,_,_,_,_,o,h=>by rw [f13n2] at h; cases h
 | f+1,bg1,bd2,bd3,v35,v36,v37,o,h=>by
  rw [f13n2] at h;refine TL.body (K:=fun s=>∃v35:Int,∃v36:Int,∃v37:Int,s=(f13n2S bg1 bd2 bd3 v35 v36 v37)∧f13n2 f bg1 bd2 bd3 v35 v36 v37=some o) ?_ (by rintro _ ⟨v35,v36,v37,rfl,hk⟩; exact f13n2_ok f _ _ _ _ _ _ hk);rcases Qj h with ⟨h39,h⟩|⟨h39,h⟩
  ·obtain ⟨x46,h47,h⟩:=Qf h;rcases Qj h with ⟨h48,h⟩|⟨h48,h⟩
   ·obtain rfl:=Qg h;exact rK Qh 2 [([],[],[(2,.val (jI (bg1.length:Int)))]),(jT [7,8,9,10,11,12,13],[(2,.idx (Int.toNat v37) (Qb.cells x46)),(14,.bool true)],[]),j3] [some true,none] [] [] [6,7] .ret ((f13n2E bg1 bd2 bd3 .ret).2) (ap (Qaa (xs:=bg1) (c:=Qb.cells)) (ap h39 (ap (Qi h47).1 (ap (Qn Qb.cells (Qi h47).2) (ap4 h48 (ap4 h48 an)))))) (Qr.out rfl rfl)
   ·rcases Qj h with ⟨h49,h⟩|⟨h49,h⟩
    ·obtain rfl:=Qg h;exact rK Qh 2 [([],[],[(2,.val (jI (bg1.length:Int)))]),(jF [7,8,9,10,11,12,13]++jT [16,17,18,19,20,21],[(2,.idx (Int.toNat v37) (Qb.cells x46)),(9,.idx (Int.toNat v37) (Qb.cells x46)),(14,.bool false),(22,.bool true)],[]),j3] [some true,none] [] [] [6,7] .ret ((f13n2E bg1 bd2 bd3 .ret).2) (ap (Qaa (xs:=bg1) (c:=Qb.cells)) (ap h39 (ap (Qi h47).1 (ap (Qn Qb.cells (Qi h47).2) (ap3 h48 (ap (Qi h47).1 (ap (Qn Qb.cells (Qi h47).2) (ap h48 (ap4 h48 (ap3 h49 (ap4 h49 an))))))))))) (Qr.out rfl rfl)
    ·rcases Qj h with ⟨h50,h⟩|⟨h50,h⟩
     ·obtain rfl:=Qg h;exact rK Qh 2 [([],[],[(2,.val (jI (bg1.length:Int)))]),(jF [7,8,9,10,11,12,13,16,17,18,19,20,21],[(2,.idx (Int.toNat v37) (Qb.cells x46)),(9,.idx (Int.toNat v37) (Qb.cells x46)),(14,.bool false),(18,.idx (Int.toNat v37) (Qb.cells x46)),(22,.bool false)],[]),j3] [some true,some true] [] [] [6,7] .ret ((f13n2E bg1 bd2 bd3 .ret).2) (ap (Qaa (xs:=bg1) (c:=Qb.cells)) (ap h39 (ap (Qi h47).1 (ap (Qn Qb.cells (Qi h47).2) (ap3 h48 (ap (Qi h47).1 (ap (Qn Qb.cells (Qi h47).2) (ap h48 (ap4 h48 (ap3 h49 (ap (Qi h47).1 (ap (Qn Qb.cells (Qi h47).2) (ap4 h49 (ap h50 an)))))))))))))) (Qr.out rfl rfl)
     ·rcases Qj h with ⟨h51,h⟩|⟨h51,h⟩
      ·exact rE Qh [([],[],[(2,.val (jI (bg1.length:Int)))]),(jF [7,8,9,10,11,12,13,16,17,18,19,20,21],[(2,.idx (Int.toNat v37) (Qb.cells x46)),(9,.idx (Int.toNat v37) (Qb.cells x46)),(14,.bool false),(18,.idx (Int.toNat v37) (Qb.cells x46)),(22,.bool false)],[]),([],[(2,.idx (Int.toNat v37) (Qb.cells x46))],[]),([],[(2,.idx (Int.toNat v37) (Qb.cells x46))],[]),j3,j3] [some true,some false,some true] [] [] [0,1,2,8,9,10] (.norm,(f13n2S bg1 bd2 bd3 x46.Units (wr64 (v36+1)) (wr64 (v37+1)))) (ap (Qaa (xs:=bg1) (c:=Qb.cells)) (ap h39 (ap (Qi h47).1 (ap (Qn Qb.cells (Qi h47).2) (ap3 h48 (ap (Qi h47).1 (ap (Qn Qb.cells (Qi h47).2) (ap h48 (ap4 h48 (ap3 h49 (ap (Qi h47).1 (ap (Qn Qb.cells (Qi h47).2) (ap4 h49 (ap h50 (ap (Qi h47).1 (ap (Qn Qb.cells (Qi h47).2) (ap h51 (ap (Qi h47).1 (ap (Qn Qb.cells (Qi h47).2) an))))))))))))))))))) (Qr.norm ⟨x46.Units,(wr64 (v36+1)),(wr64 (v37+1)),rfl,h⟩)
      ·exact rE Qh [([],[],[(2,.val (jI (bg1.length:Int)))]),(jF [7,8,9,10,11,12,13,16,17,18,19,20,21],[(2,.idx (Int.toNat v37) (Qb.cells x46)),(9,.idx (Int.toNat v37) (Qb.cells x46)),(14,.bool false),(18,.idx (Int.toNat v37) (Qb.cells x46)),(22,.bool false)],[]),([],[(2,.idx (Int.toNat v37) (Qb.cells x46))],[]),j3] [some true,some false,some false] [] [] [0,1,2,8,9,10] (.norm,(f13n2S bg1 bd2 bd3 v35 v36 (wr64 (v37+1)))) (ap (Qaa (xs:=bg1) (c:=Qb.cells)) (ap h39 (ap (Qi h47).1 (ap (Qn Qb.cells (Qi h47).2) (ap3 h48 (ap (Qi h47).1 (ap (Qn Qb.cells (Qi h47).2) (ap h48 (ap4 h48 (ap3 h49 (ap (Qi h47).1 (ap (Qn Qb.cells (Qi h47).2) (ap4 h49 (ap h50 (ap (Qi h47).1 (ap (Qn Qb.cells (Qi h47).2) (ap h51 an))))))))))))))))) (Qr.norm ⟨v35,v36,(wr64 (v37+1)),rfl,h⟩)
  ·obtain rfl:=Qg h;exact rK Qh 1 [([],[],[(2,.val (jI (bg1.length:Int)))])] [some false] [] [] [8,9] (.exit 0) ((f13n2E bg1 bd2 bd3 (.exit0 v35 v36)).2) (ap (Qaa (xs:=bg1) (c:=Qb.cells)) (ap h39 an)) (Qr.out rfl rfl)
noncomputable def f13n2L(bg1:List Qb)(bd2 bd3:Int):List Qb→Int→Int→Int→Option f13n2O
 | [],v35,v36,v37 =>
  some (.exit0 v35 v36)
 | x0::rest,v35,v36,v37 =>
  bif decide (x0.Bid<0) then
   some .ret
  else
   bif decide (bd3≤x0.Bid) then
    some .ret
   else
    bif decide (x0.Units<1) then
     some .ret
    else
     bif decide (x0.Bid=bd2) then
      (f13n2L bg1 bd2 bd3 rest x0.Units (wr64 (v36+1)) (v37+1))
     else
      (f13n2L bg1 bd2 bd3 rest v35 v36 (v37+1))
theorem f13n2L_eq(bg1:List Qb)(bd2 bd3:Int):∀(rest:List Qb)(f k:Nat)(v35 v36:Int),bg1.drop k=rest→bg1.length≤maxLen→rest.length<f→f13n2 f bg1 bd2 bd3 v35 v36 (k:Int)=f13n2L bg1 bd2 bd3 rest v35 v36 (k:Int)
 | _,0,_,_,_,_,_,hf=>absurd hf (Nat.not_lt_zero _)
 | [],f+1,k,v35,v36,hd,hm,hf=>by
  have hk:¬((k:Int)<(bg1.length:Int)):=by have:=Qah hd; omega
  rw [f13n2,f13n2L];simp only [decide_eq_false hk,cond_false]
 | x0::rest,f+1,k,v35,v36,hd,hm,hf=>by
  obtain ⟨hx,hlt,hd'⟩:=Qbr hd;have hk:(k:Int)<(bg1.length:Int):=by omega
  have hw:wr64 ((k:Int)+1)=(k:Int)+1:=wr64_of (by omega) (by unfold maxLen at hm; omega);have ih:∀(v35 v36:Int),f13n2 f bg1 bd2 bd3 v35 v36 ((k:Int)+1)=f13n2L bg1 bd2 bd3 rest v35 v36 ((k:Int)+1):=fun v35 v36=>f13n2L_eq bg1 bd2 bd3 rest f (k+1) v35 v36 hd' hm (by simpa using hf);rw [f13n2,f13n2L];simp only [decide_eq_true hk,cond_true,Qce,hx,Option.bind_some,hw,ih]
theorem f13n2_run(bg1:List Qb)(bd2 bd3 v35 v36:Int)(hm:bg1.length≤maxLen):f13n2 FUEL bg1 bd2 bd3 v35 v36 0=f13n2L bg1 bd2 bd3 bg1 v35 v36 0:=f13n2L_eq bg1 bd2 bd3 bg1 FUEL 0 v35 v36 List.drop_zero hm (Qav hm)
inductive f13n1O where
 | norm (v58:Int) (v59:Int)
 | ret
def f13n1E(bg1:List Qb)(bd2 bd3:Int):f13n1O→Ex×Tr×Hp
 | .norm v58 v59=>(.norm,mkS [(8,(jI v58)),(9,(jI v59))],[])
 | .ret=>(.ret,mkS [(6,(jI 0)),(7,(jB false))],[])
def f13n1S(bg1:List Qb)(bd2 bd3:Int):Tr×Hp:=(mkS [(0,(jL 3 Qb.cells bg1)),(1,(jI bd2)),(2,(jI bd3)),(8,(jI 0)),(9,(jI 0))],[])
noncomputable def f13n1(bg1:List Qb)(bd2 bd3:Int):Option f13n1O :=
 (f13n2 FUEL bg1 bd2 bd3 0 0 0).bind fun o54=>match o54 with
 | .exit0 v56 v57=>some (.norm v56 v57)
 | .ret=>some .ret
theorem f13n1_ok(bg1:List Qb)(bd2 bd3:Int){o:f13n1O}(h:f13n1 bg1 bd2 bd3=some o):T Try.prog Try.f13.ntmps 0 (cL (Qk 2 c13)) (f13n1S bg1 bd2 bd3) (·=f13n1E bg1 bd2 bd3 o):=by
 unfold f13n1 at h;refine rN Qh 1 [j3] [] [] [] [0,1,2,8,9,10] (f13n2S bg1 bd2 bd3 0 0 0) an ?_;obtain ⟨o54,h55,h⟩:=Qf h;cases o54 with
 | exit0 v56 v57 =>
  obtain rfl:=Qg h;exact T.last' (T.bl (i:=0) (by kernel_rfl) (by kernel_rfl) (f13n2_ok FUEL bg1 bd2 bd3 0 0 0 h55)) (tds:=[]) (m:=[]) (keep:=[8,9]) (st2:=(f13n1E bg1 bd2 bd3 (.norm v56 v57)).2) (by kernel_rfl) an rfl
 | ret =>
  obtain rfl:=Qg h;exact T.last' (T.bl (i:=0) (by kernel_rfl) (by kernel_rfl) (f13n2_ok FUEL bg1 bd2 bd3 0 0 0 h55)) (tds:=[]) (m:=[]) (keep:=[6,7]) (st2:=(f13n1E bg1 bd2 bd3 .ret).2) (by kernel_rfl) an rfl
inductive f13n0O where
 | ret (v64:Int) (v65:Bool)
def f13n0E(a1:List Qb)(a2 a3:Int):f13n0O→Ex×Tr×Hp
 | .ret v64 v65=>(.ret,mkS [(6,(jI v64)),(7,(jB v65))],[])
def f13n0S(a1:List Qb)(a2 a3:Int):Tr×Hp:=(Qak [(jL 3 Qb.cells a1),(jI a2),(jI a3)] 0 .leaf,[])
noncomputable def f13n0(a1:List Qb)(a2 a3:Int):Option f13n0O :=
 (f13n1 a1 a2 a3).bind fun o60=>match o60 with
 | .norm v62 v63=>some (.ret v62 (decide (v63≤1)))
 | .ret=>some (.ret 0 false)
theorem f13n0_ok(a1:List Qb)(a2 a3:Int){o:f13n0O}(h:f13n0 a1 a2 a3=some o):T Try.prog Try.f13.ntmps 0 c13 (f13n0S a1 a2 a3) (·=f13n0E a1 a2 a3 o):=by
 unfold f13n0 at h;refine rN Qh 2 [j3,j3] [] [] [] [0,1,2,8,9] (f13n1S a1 a2 a3) an ?_;obtain ⟨o60,h61,h⟩:=Qf h;cases o60 with
 | norm v62 v63 =>
  refine T.oneN (by kernel_rfl) (f13n1_ok a1 a2 a3 h61) (st2:=(f13n1E a1 a2 a3 (.norm v62 v63)).2) rfl ?_;obtain rfl:=Qg h;exact rE Qh [j3] [] [] [] [6,7] (.ret,(f13n0E a1 a2 a3 (.ret v62 (decide (v63≤1)))).2) an rfl
 | ret =>
  obtain rfl:=Qg h;exact T.oneX' (by kernel_rfl) (f13n1_ok a1 a2 a3 h61) (tds:=[]) (m:=[]) (keep:=[6,7]) (st2:=(f13n0E a1 a2 a3 (.ret 0 false)).2) (by kernel_rfl) an rfl rfl
noncomputable def f13(a1:List Qb)(a2 a3:Int):Option (Int×Bool):=(f13n0 a1 a2 a3).bind fun o=>match o with
 | .ret v64 v65=>some (v64,v65)
theorem f13_ok(a1:List Qb)(a2 a3:Int){r:Int×Bool}(h:f13 a1 a2 a3=some r):Qo Try.prog false 13 [(jL 3 Qb.cells a1),(jI a2),(jI a3)] [] (.tup [(jI r.1),(jB r.2)]) []:=by
 unfold f13 at h;obtain ⟨o,ho,h⟩:=Qf h;cases o with
 | ret v64 v65 =>
  obtain rfl:=Qg h;exact Qo.plain Qh (f:=Try.f13) (c:=c13) (by kernel_rfl) (by kernel_rfl) (by kernel_rfl) (by kernel_rfl) ((f13n0_ok a1 a2 a3 ho).mono fun r e=>by subst e; exact ⟨.inl rfl,(.tup [(jI v64),(jB v65)]),(.tup [(jI v64),(jB v65)]),by kernel_rfl,by kernel_rfl,((Wk.refl _):Wk (.tup [(jI v64),(jB v65)]) (.tup [(jI v64),(jB v65)]))⟩)


noncomputable def c3:Code:=Try.f3.body.getD .skip

end Go.Proofs.Ythpceddjepbamaa
namespace Go.Proofs.Ythpceddjepbamaa
set_option linter.unusedVariables false
set_option linter.unusedSimpArgs false
set_option maxRecDepth 100000
open Go.RowKit





noncomputable def c6:Code:=Try.f6.body.getD .skip

noncomputable def c18:Code:=Try.f18.body.getD .skip
noncomputable def Qbk:Code:=(Qk 0 (cL (Qk 1 (cL (Qk 2 (cL (cL (Qk 2 (cL (cL (Qk 1 (cL (Qk 3 c18)))))))))))))
inductive f18y1n0O where
 | norm
noncomputable def f18y1n0E(a1:Qd)(a2:Int):f18y1n0O→Ex×Tr×Hp
 | .norm=>(.norm,mkS [],[some (.lp Qbk .busy none (kL 38 [(8,(.bp 1 0))])),some (.box (((cInt .i64) (wr64 (a2-a1.units))).map .pl))])
noncomputable def f18y1n0S(a1:Qd)(a2:Int):Tr×Hp:=(mkS [(8,(.bp 1 0)),(9,(.bp 2 0))],[some (.lp Qbk .busy none (kL 38 [(8,(.bp 1 0))])),some (.box (((cInt .i64) a2).map .pl)),some (.box ((Qd.cells a1).map .pl))])
noncomputable def f18y1n0(a1:Qd)(a2:Int):Option f18y1n0O :=
 some .norm
theorem f18y1n0_ok(a1:Qd)(a2:Int){o:f18y1n0O}(h:f18y1n0 a1 a2=some o):T Try.prog Try.f18.ntmps 2 (rfB Qbk) (f18y1n0S a1 a2) (·=f18y1n0E a1 a2 o):=by
 unfold f18y1n0 at h;refine T.block' (i:=3) (by kernel_rfl) ?_;obtain rfl:=Qg h;exact rE Qh [j3] [] [] [] [] (.norm,(f18y1n0E a1 a2 .norm).2) an rfl
theorem f18y1_norm(a1:Qd)(a2:Int)(h:f18y1n0 a1 a2=some .norm):Qbd Try.prog [(jA Qd.cells a1)] 0 [some (.lp Qbk .ready none (kL 38 [(8,(.bp 1 0))])),some (.box (((cInt .i64) a2).map .pl))] true [some (.lp Qbk .ready none (kL 38 [(8,(.bp 1 0))])),some (.box (((cInt .i64) (wr64 (a2-a1.units))).map .pl))] :=
 Qbd.mk (c:=Qbk) (n:=Try.f18.ntmps) (base:=2) (cs:=(kL 38 [(8,(.bp 1 0))])) (cs2:=(kL 38 [(8,(.bp 1 0))])) (cs3:=(kL 38 [(8,(.bp 1 0))])) (st2:=(mkS [(8,(.bp 1 0)),(9,(.bp 2 0))],[some (.lp Qbk .ready none (kL 38 [(8,(.bp 1 0))])),some (.box (((cInt .i64) a2).map .pl)),some (.box ((Qd.cells a1).map .pl))])) (e:=(f18y1n0E a1 a2 .norm)) (pend:=none)
  (run_ok (P:=Try.prog) (C:=cfg) Qh (c:=rfA Qbk) (rs:=[j3]) (ps:=[]) (tds:=[]) (m:=[2]) (keep:=[8,9]) (by kernel_rfl) an)
  (f18y1n0_ok a1 a2 h)

inductive f53r9n2O where
 | exit0 (v42:List Qd)
noncomputable def f53r9n2E(ba1:Qe)(be2:Qa)(bd3:Int):f53r9n2O→Ex×Tr×Hp
 | .exit0 v42=>((.exit 0),mkS [(0,(.yl 0)),(2,(.bp 2 0)),(4,(.own 4))],[some (.lp Qbk .ready none (kL 38 [(8,(.bp 3 0))])),some (.box ((Qe.cells ba1).map .pl)),some (.box ((Qa.cells be2).map .pl)),some (.box (((cInt .i64) bd3).map .pl)),jR 6 Qd.cells v42])
noncomputable def f53r9n2S(ba1:Qe)(be2:Qa)(bd3 v28:Int)(v29:List Qd):Tr×Hp:=(mkS [(0,(.yl 0)),(2,(.bp 2 0)),(4,(.own 4)),(11,(jL 4 Qc.cells ba1.Bids)),(12,(jI (ba1.Bids.length:Int))),(13,(jI v28))],[some (.lp Qbk .ready none (kL 38 [(8,(.bp 3 0))])),some (.box ((Qe.cells ba1).map .pl)),some (.box ((Qa.cells be2).map .pl)),some (.box (((cInt .i64) bd3).map .pl)),jR 6 Qd.cells v29])
noncomputable def f53r9n2:Nat→Qe→Qa→Int→Int→List Qd→Option f53r9n2O
 | 0,_,_,_,_,_=>none
 | f+1,ba1,be2,bd3,v28,v29 =>
  bif decide (v28<(ba1.Bids.length:Int)) then
   (at? ba1.Bids v28).bind fun x37 =>
   bif (seq x37.Lot be2.Name) then
    bif decide (be2.Reserve≤x37.Price) then
     req (fit (v29.length+1) 64) <|
     (f53r9n2 f ba1 be2 bd3 (wr64 (v28+1)) (v29++[(Qd.mk v28 0 x37)]))
    else
     (f53r9n2 f ba1 be2 bd3 (wr64 (v28+1)) v29)
   else
    (f53r9n2 f ba1 be2 bd3 (wr64 (v28+1)) v29)
  else
   some (.exit0 v29)
theorem f53r9n2_ok:∀(f:Nat)(ba1:Qe)(be2:Qa)(bd3 v28:Int)(v29:List Qd){o:f53r9n2O},f53r9n2 f ba1 be2 bd3 v28 v29=some o→TL Try.prog Try.f53.ntmps 4 f (cL (cL (Qk 1 (cL (Qk 1 c53))))) (f53r9n2S ba1 be2 bd3 v28 v29) (·=f53r9n2E ba1 be2 bd3 o)
 | 0,_,_,_,_,_,o,h=>by rw [f53r9n2] at h; cases h
 | f+1,ba1,be2,bd3,v28,v29,o,h=>by
  rw [f53r9n2] at h;refine TL.body (K:=fun s=>∃v28:Int,∃v29:List Qd,s=(f53r9n2S ba1 be2 bd3 v28 v29)∧f53r9n2 f ba1 be2 bd3 v28 v29=some o) ?_ (by rintro _ ⟨v28,v29,rfl,hk⟩; exact f53r9n2_ok f _ _ _ _ _ hk);rcases Qj h with ⟨h31,h⟩|⟨h31,h⟩
  ·obtain ⟨x37,h38,h⟩:=Qf h;rcases Qj h with ⟨h39,h⟩|⟨h39,h⟩
   ·rcases Qj h with ⟨h40,h⟩|⟨h40,h⟩
    ·obtain ⟨h41,h⟩:=Qbt h;exact rE Qh [j3,([],[(1,.idx (Int.toNat v28) (Qc.cells x37))],[]),(jT [6,7,8,9,10],[(11,.bool true)],[]),([],[(5,.fits)],[(5,.row 7 ((v29++[(Qd.mk v28 0 x37)]).map Qd.cells))]),j3] [some true,some true] [] [7] [0,2,4,11,12,13] (.norm,(f53r9n2S ba1 be2 bd3 (wr64 (v28+1)) (v29++[(Qd.mk v28 0 x37)]))) (ap h31 (ap (Qi h38).1 (ap (Qn Qc.cells (Qi h38).2) (ap2 h39 (ap4 h39 (ap h40 (ap (fit_map (te:=ti78) (xs:=v29) (n:=1) (c:=Qd.cells) h41 rfl) (ap (app_cv (xs:=v29) (ys:=[(Qd.mk v28 0 x37)]) (c:=Qd.cells)) an)))))))) (Qr.norm ⟨(wr64 (v28+1)),(v29++[(Qd.mk v28 0 x37)]),rfl,h⟩)
    ·exact rE Qh [j3,([],[(1,.idx (Int.toNat v28) (Qc.cells x37))],[]),(jT [6,7,8,9,10],[(11,.bool true)],[]),j3] [some true,some false] [] [4] [0,2,4,11,12,13] (.norm,(f53r9n2S ba1 be2 bd3 (wr64 (v28+1)) v29)) (ap h31 (ap (Qi h38).1 (ap (Qn Qc.cells (Qi h38).2) (ap2 h39 (ap4 h39 (ap h40 an)))))) (Qr.norm ⟨(wr64 (v28+1)),v29,rfl,h⟩)
   ·exact rE Qh [j3,([],[(1,.idx (Int.toNat v28) (Qc.cells x37))],[]),(jF [6,7,8,9,10],[(11,.bool false)],[]),j3] [some true,none] [] [4] [0,2,4,11,12,13] (.norm,(f53r9n2S ba1 be2 bd3 (wr64 (v28+1)) v29)) (ap h31 (ap (Qi h38).1 (ap (Qn Qc.cells (Qi h38).2) (ap2 h39 (ap4 h39 an))))) (Qr.norm ⟨(wr64 (v28+1)),v29,rfl,h⟩)
  ·obtain rfl:=Qg h;exact rK Qh 2 [j3] [some false] [] [4] [0,2,4] (.exit 0) ((f53r9n2E ba1 be2 bd3 (.exit0 v29)).2) (ap h31 an) (Qr.out rfl rfl)
noncomputable def f53r9n2L(ba1:Qe)(be2:Qa)(bd3:Int):List Qc→Int→(List Qd)→Option f53r9n2O
 | [],v28,v29 =>
  some (.exit0 v29)
 | x0::rest,v28,v29 =>
  bif (seq x0.Lot be2.Name) then
   bif decide (be2.Reserve≤x0.Price) then
    req (fit (v29.length+1) 64) <|
    (f53r9n2L ba1 be2 bd3 rest (v28+1) (v29++[(Qd.mk v28 0 x0)]))
   else
    (f53r9n2L ba1 be2 bd3 rest (v28+1) v29)
  else
   (f53r9n2L ba1 be2 bd3 rest (v28+1) v29)
theorem f53r9n2L_eq(ba1:Qe)(be2:Qa)(bd3:Int):∀(rest:List Qc)(f k:Nat)(v29:List Qd),ba1.Bids.drop k=rest→ba1.Bids.length≤maxLen→rest.length<f→f53r9n2 f ba1 be2 bd3 (k:Int) v29=f53r9n2L ba1 be2 bd3 rest (k:Int) v29
 | _,0,_,_,_,_,hf=>absurd hf (Nat.not_lt_zero _)
 | [],f+1,k,v29,hd,hm,hf=>by
  have hk:¬((k:Int)<(ba1.Bids.length:Int)):=by have:=Qah hd; omega
  rw [f53r9n2,f53r9n2L];simp only [decide_eq_false hk,cond_false]
 | x0::rest,f+1,k,v29,hd,hm,hf=>by
  obtain ⟨hx,hlt,hd'⟩:=Qbr hd;have hk:(k:Int)<(ba1.Bids.length:Int):=by omega
  have hw:wr64 ((k:Int)+1)=(k:Int)+1:=wr64_of (by omega) (by unfold maxLen at hm; omega);have ih:∀(v29:List Qd),f53r9n2 f ba1 be2 bd3 ((k:Int)+1) v29=f53r9n2L ba1 be2 bd3 rest ((k:Int)+1) v29:=fun v29=>f53r9n2L_eq ba1 be2 bd3 rest f (k+1) v29 hd' hm (by simpa using hf);rw [f53r9n2,f53r9n2L];simp only [decide_eq_true hk,cond_true,Qce,hx,Option.bind_some,hw,ih]
theorem f53r9n2_run(ba1:Qe)(be2:Qa)(bd3:Int)(v29:List Qd)(hm:ba1.Bids.length≤maxLen):f53r9n2 FUEL ba1 be2 bd3 0 v29=f53r9n2L ba1 be2 bd3 ba1.Bids 0 v29:=f53r9n2L_eq ba1 be2 bd3 ba1.Bids FUEL 0 v29 List.drop_zero hm (Qav hm)
inductive f53r9n1O where
 | norm (v46:List Qd)
noncomputable def f53r9n1E(ba1:Qe)(be2:Qa)(bd3:Int):f53r9n1O→Ex×Tr×Hp
 | .norm v46=>(.norm,mkS [(0,(.yl 0)),(2,(.bp 2 0)),(4,(.own 4))],[some (.lp Qbk .ready none (kL 38 [(8,(.bp 3 0))])),some (.box ((Qe.cells ba1).map .pl)),some (.box ((Qa.cells be2).map .pl)),some (.box (((cInt .i64) bd3).map .pl)),jR 6 Qd.cells v46])
noncomputable def f53r9n1S(ba1:Qe)(be2:Qa)(bd3:Int):Tr×Hp:=(mkS [(0,(.yl 0)),(1,(.bp 1 0)),(2,(.bp 2 0)),(4,(.pl (.sl .nil 0 [])))],[some (.lp Qbk .ready none (kL 38 [(8,(.bp 3 0))])),some (.box ((Qe.cells ba1).map .pl)),some (.box ((Qa.cells be2).map .pl)),some (.box (((cInt .i64) bd3).map .pl))])
noncomputable def f53r9n1(ba1:Qe)(be2:Qa)(bd3:Int):Option f53r9n1O :=
 (f53r9n2 FUEL ba1 be2 bd3 0 []).bind fun o43=>match o43 with
 | .exit0 v45=>some (.norm v45)
theorem f53r9n1_ok(ba1:Qe)(be2:Qa)(bd3:Int){o:f53r9n1O}(h:f53r9n1 ba1 be2 bd3=some o):T Try.prog Try.f53.ntmps 4 (cL (Qk 1 c53)) (f53r9n1S ba1 be2 bd3) (·=f53r9n1E ba1 be2 bd3 o):=by
 unfold f53r9n1 at h;refine rN Qh 1 [([],[],[(2,.val (jI (ba1.Bids.length:Int)))])] [] [.mat 4 6] [4] [0,2,4,11,12,13] (f53r9n2S ba1 be2 bd3 0 []) (ap (Qaa (xs:=ba1.Bids) (c:=Qc.cells)) an) ?_;obtain ⟨o43,h44,h⟩:=Qf h;cases o43 with
 | exit0 v45 =>
  obtain rfl:=Qg h;exact T.last' (T.bl (i:=0) (by kernel_rfl) (by kernel_rfl) (f53r9n2_ok FUEL ba1 be2 bd3 0 [] h44)) (tds:=[]) (m:=[4]) (keep:=[0,2,4]) (st2:=(f53r9n1E ba1 be2 bd3 (.norm v45)).2) (by kernel_rfl) an rfl
inductive f53r9n3O where
 | norm (v96:Int) (v97:Int)
noncomputable def f53r9n3E(bd1:Int)(bf2:List Qd)(bd3:Int)(ba4:Qe)(be5:Qa)(bd6:Int):f53r9n3O→Ex×Tr×Hp
 | .norm v96 v97=>(.norm,mkS [(0,(.yl 0)),(7,(jI v96)),(41,(.own 4)),(42,(jI (bf2.length:Int))),(43,(jI bd3))],[some (.lp Qbk .ready none (kL 38 [(8,(.bp 3 0))])),some (.box ((Qe.cells ba4).map .pl)),some (.box ((Qa.cells be5).map .pl)),some (.box (((cInt .i64) v97).map .pl)),jR 6 Qd.cells bf2])
noncomputable def f53r9n3S(bd1:Int)(bf2:List Qd)(bd3:Int)(ba4:Qe)(be5:Qa)(bd6:Int):Tr×Hp:=(mkS [(0,(.yl 0)),(7,(jI bd1)),(41,(.own 4)),(42,(jI (bf2.length:Int))),(43,(jI bd3))],[some (.lp Qbk .ready none (kL 38 [(8,(.bp 3 0))])),some (.box ((Qe.cells ba4).map .pl)),some (.box ((Qa.cells be5).map .pl)),some (.box (((cInt .i64) bd6).map .pl)),jR 6 Qd.cells bf2])
noncomputable def f53r9n3(bd1:Int)(bf2:List Qd)(bd3:Int)(ba4:Qe)(be5:Qa)(bd6:Int):Option f53r9n3O :=
 (at? bf2 bd3).bind fun x92 =>
 (f18y1n0 (Qd.mk x92.index (mnI bd1 x92.bid.Units) x92.bid) bd6).bind fun o94=>match o94 with
 | .norm=>some (.norm (wr64 (bd1-(mnI bd1 x92.bid.Units))) (wr64 (bd6-(mnI bd1 x92.bid.Units))))
theorem f53r9n3_ok(bd1:Int)(bf2:List Qd)(bd3:Int)(ba4:Qe)(be5:Qa)(bd6:Int){o:f53r9n3O}(h:f53r9n3 bd1 bf2 bd3 ba4 be5 bd6=some o):T Try.prog Try.f53.ntmps 4 (cL (Qk 2 (cL (cL (Qk 3 (Qk 1 (Qk 1 c53))))))) (f53r9n3S bd1 bf2 bd3 ba4 be5 bd6) (·=f53r9n3E bd1 bf2 bd3 ba4 be5 bd6 o):=by
 unfold f53r9n3 at h;refine T.block' (i:=3) (by kernel_rfl) ?_;obtain ⟨x92,h93,h⟩:=Qf h;refine rN Qh 3 [([],[(0,.at_ (Int.toNat bd3)),(1,.idx 0 (Qd.cells x92))],[]),j3,j3] [] [] [5,4] [0,7,9,41,42,43] (mkS [(0,(.yl 0)),(7,(jI (wr64 (bd1-(mnI bd1 x92.bid.Units))))),(9,(.bp 4 0)),(41,(.own 5)),(42,(jI (bf2.length:Int))),(43,(jI bd3))],[some (.lp Qbk .ready none (kL 38 [(8,(.bp 3 0))])),some (.box ((Qe.cells ba4).map .pl)),some (.box ((Qa.cells be5).map .pl)),some (.box (((cInt .i64) bd6).map .pl)),some (.box ((Qd.cells (Qd.mk x92.index (mnI bd1 x92.bid.Units) x92.bid)).map .pl)),jR 6 Qd.cells bf2]) (ap (Qi h93).1 (ap (Qad Qd.cells (Qi h93).2) (ap (Qn Qd.cells (Qi h93).2) an))) ?_;obtain ⟨o94,h95,h⟩:=Qf h;cases o94 with
 | norm =>
  refine T.oneN (by kernel_rfl) (yN Qh j3 2 true [some (.lp Qbk .ready none (kL 38 [(8,(.bp 3 0))])),none,none,some (.box (((cInt .i64) (wr64 (bd6-(mnI bd1 x92.bid.Units)))).map .pl)),none,none] [] [5] [0,7,41,42,43,60] (mkS [(0,(.yl 0)),(7,(jI (wr64 (bd1-(mnI bd1 x92.bid.Units))))),(41,(.own 4)),(42,(jI (bf2.length:Int))),(43,(jI bd3)),(60,(jB false))],[some (.lp Qbk .ready none (kL 38 [(8,(.bp 3 0))])),some (.box ((Qe.cells ba4).map .pl)),some (.box ((Qa.cells be5).map .pl)),some (.box (((cInt .i64) (wr64 (bd6-(mnI bd1 x92.bid.Units)))).map .pl)),jR 6 Qd.cells bf2]) (ap (Qbd.rn 6 [0,3] (f18y1_norm (Qd.mk x92.index (mnI bd1 x92.bid.Units) x92.bid) bd6 h95)) an)) rfl ?_;obtain rfl:=Qg h
  exact rE Qh [] [none] [] [4] [0,7,41,42,43] (.norm,(f53r9n3E bd1 bf2 bd3 ba4 be5 bd6 (.norm (wr64 (bd1-(mnI bd1 x92.bid.Units))) (wr64 (bd6-(mnI bd1 x92.bid.Units))))).2) an rfl
inductive f53r9n4O where
 | exit2 (v102:Int)
noncomputable def f53r9n4E(x52:List Qd)(a1:Qe)(a2:Qa):f53r9n4O→Ex×Tr×Hp
 | .exit2 v102=>((.exit 2),mkS [],[some (.lp Qbk .ready none (kL 38 [(8,(.bp 3 0))])),some (.box ((Qe.cells a1).map .pl)),some (.box ((Qa.cells a2).map .pl)),some (.box (((cInt .i64) v102).map .pl))])
noncomputable def f53r9n4S(x52:List Qd)(a1:Qe)(a2:Qa)(v85 v86 v87:Int):Tr×Hp:=(mkS [(0,(.yl 0)),(7,(jI v85)),(41,(.own 4)),(42,(jI (x52.length:Int))),(43,(jI v86))],[some (.lp Qbk .ready none (kL 38 [(8,(.bp 3 0))])),some (.box ((Qe.cells a1).map .pl)),some (.box ((Qa.cells a2).map .pl)),some (.box (((cInt .i64) v87).map .pl)),jR 6 Qd.cells x52])
noncomputable def f53r9n4:Nat→List Qd→Qe→Qa→Int→Int→Int→Option f53r9n4O
 | 0,_,_,_,_,_,_=>none
 | f+1,x52,a1,a2,v85,v86,v87 =>
  bif decide (v86<(x52.length:Int)) then
   (f53r9n3 v85 x52 v86 a1 a2 v87).bind fun o98=>match o98 with
   | .norm v100 v101=>(f53r9n4 f x52 a1 a2 v100 (wr64 (v86+1)) v101)
  else
   some (.exit2 v87)
theorem f53r9n4_ok:∀(f:Nat)(x52:List Qd)(a1:Qe)(a2:Qa)(v85 v86 v87:Int){o:f53r9n4O},f53r9n4 f x52 a1 a2 v85 v86 v87=some o→TL Try.prog Try.f53.ntmps 4 f (cL (cL (Qk 3 (Qk 1 (Qk 1 c53))))) (f53r9n4S x52 a1 a2 v85 v86 v87) (·=f53r9n4E x52 a1 a2 o)
 | 0,_,_,_,_,_,_,o,h=>by rw [f53r9n4] at h; cases h
 | f+1,x52,a1,a2,v85,v86,v87,o,h=>by
  rw [f53r9n4] at h;refine TL.body (K:=fun s=>∃v85:Int,∃v86:Int,∃v87:Int,s=(f53r9n4S x52 a1 a2 v85 v86 v87)∧f53r9n4 f x52 a1 a2 v85 v86 v87=some o) ?_ (by rintro _ ⟨v85,v86,v87,rfl,hk⟩; exact f53r9n4_ok f _ _ _ _ _ _ hk);rcases Qj h with ⟨h89,h⟩|⟨h89,h⟩
  ·refine rN Qh 2 [j3] [some true] [] [4] [0,7,41,42,43] (f53r9n3S v85 x52 v86 a1 a2 v87) (ap h89 an) ?_;obtain ⟨o98,h99,h⟩:=Qf h;cases o98 with
   | norm v100 v101 =>
    refine T.oneN (by kernel_rfl) (f53r9n3_ok v85 x52 v86 a1 a2 v87 h99) (st2:=(f53r9n3E v85 x52 v86 a1 a2 v87 (.norm v100 v101)).2) rfl ?_;exact rE Qh [j3] [] [] [4] [0,7,41,42,43] (.norm,(f53r9n4S x52 a1 a2 v100 (wr64 (v86+1)) v101)) an (Qr.norm ⟨v100,(wr64 (v86+1)),v101,rfl,h⟩)
  ·obtain rfl:=Qg h;exact rK Qh 2 [j3] [some false] [] [] [] (.exit 2) ((f53r9n4E x52 a1 a2 (.exit2 v87)).2) (ap h89 an) (Qr.out rfl rfl)
inductive f53r9n0O where
 | norm (v106:Int)
noncomputable def f53r9n0E(a1:Qe)(a2:Qa)(a3:Int):f53r9n0O→Ex×Tr×Hp
 | .norm v106=>(.norm,mkS [],[some (.lp Qbk .ready none (kL 38 [(8,(.bp 3 0))])),some (.box ((Qe.cells a1).map .pl)),some (.box ((Qa.cells a2).map .pl)),some (.box (((cInt .i64) v106).map .pl))])
noncomputable def f53r9n0S(a1:Qe)(a2:Qa)(a3:Int):Tr×Hp:=(Qak [(.yl 0),(.bp 1 0),(.bp 2 0)] 0 .leaf,[some (.lp Qbk .ready none (kL 38 [(8,(.bp 3 0))])),some (.box ((Qe.cells a1).map .pl)),some (.box ((Qa.cells a2).map .pl)),some (.box (((cInt .i64) a3).map .pl))])
noncomputable def f53r9n0(a1:Qe)(a2:Qa)(a3:Int):Option f53r9n0O :=
 (f53r9n1 a1 a2 a3).bind fun o47=>match o47 with
 | .norm v49=>(f54r1 v49).bind fun x52 =>
  (f53r9n4 FUEL x52 a1 a2 a2.Units 0 a3).bind fun o103=>match o103 with
  | .exit2 v105=>some (.norm v105)
theorem f53r9n0_ok(a1:Qe)(a2:Qa)(a3:Int){o:f53r9n0O}(h:f53r9n0 a1 a2 a3=some o):T Try.prog Try.f53.ntmps 4 c53 (f53r9n0S a1 a2 a3) (·=f53r9n0E a1 a2 a3 o):=by
 unfold f53r9n0 at h;refine rN Qh 1 [j3] [] [] [] [0,1,2,4] (f53r9n1S a1 a2 a3) an ?_;obtain ⟨o47,h48,h⟩:=Qf h;cases o47 with
 | norm v49 =>
  refine T.oneN (by kernel_rfl) (f53r9n1_ok a1 a2 a3 h48) (st2:=(f53r9n1E a1 a2 a3 (.norm v49)).2) rfl ?_;obtain ⟨x52,h53,h⟩:=Qf h;refine rN Qh 3 [([],[(1,.call (.tup []) (jN 4 [jR 6 Qd.cells x52]))],[]),j3,([],[],[(1,.val (jI (x52.length:Int)))])] [] [] [4] [0,7,41,42,43] (f53r9n4S x52 a1 a2 a2.Units 0 a3) (ap (Qo.rn 5 [4] (f54r1_ok v49 h53)) (ap (Qaa (xs:=x52) (c:=Qd.cells)) an)) ?_;obtain ⟨o103,h104,h⟩:=Qf h;cases o103 with
  | exit2 v105 =>
   obtain rfl:=Qg h;exact T.last' (T.bl (i:=2) (by kernel_rfl) (by kernel_rfl) (f53r9n4_ok FUEL x52 a1 a2 a2.Units 0 a3 h104)) (tds:=[]) (m:=[]) (keep:=[]) (st2:=(f53r9n0E a1 a2 a3 (.norm v105)).2) (by kernel_rfl) an rfl
noncomputable def f53r9(a1:Qe)(a2:Qa)(a3:Int):Option Int:=(f53r9n0 a1 a2 a3).bind fun o=>match o with
 | .norm v106=>some v106
theorem f53r9_ok(a1:Qe)(a2:Qa)(a3:Int){r:Int}(h:f53r9 a1 a2 a3=some r):Qo Try.prog true 53 [(.yl 0),(.bp 1 0),(.bp 2 0)] [some (.lp Qbk .ready none (kL 38 [(8,(.bp 3 0))])),some (.box ((Qe.cells a1).map .pl)),some (.box ((Qa.cells a2).map .pl)),some (.box (((cInt .i64) a3).map .pl))] (.tup []) [some (.lp Qbk .ready none (kL 38 [(8,(.bp 3 0))])),some (.box ((Qe.cells a1).map .pl)),some (.box ((Qa.cells a2).map .pl)),some (.box (((cInt .i64) r).map .pl))]:=by
 unfold f53r9 at h;obtain ⟨o,ho,h⟩:=Qf h;cases o with
 | norm v106 =>
  obtain rfl:=Qg h;exact Qo.shared Qh (f:=Try.f53) (c:=c53) (by kernel_rfl) (by kernel_rfl) (by kernel_rfl) ((f53r9n0_ok a1 a2 a3 ho).mono fun r e=>by subst e; exact ⟨.inr rfl,by kernel_rfl,by kernel_rfl⟩)
end Go.Proofs.Ythpceddjepbamaa
namespace Go.Proofs.Ythpceddjepbamaa
set_option linter.unusedVariables false
set_option linter.unusedSimpArgs false
set_option maxRecDepth 100000
open Go.RowKit
inductive f18n4O where
 | norm (v74:Int)
def f18n4E(ba1:Qe)(bd2:Int)(bl3:List Int)(be4:Qa):f18n4O→Ex×Tr×Hp
 | .norm v74=>(.norm,mkS [(1,(.bp 0 0)),(2,(.pl (.sl .nil 0 []))),(3,(jI 0)),(5,(.own 1)),(8,(.bp 2 0)),(16,(jL 3 Qa.cells ba1.Lots)),(17,(jI (ba1.Lots.length:Int))),(18,(jI bd2))],[some (.box ((Qe.cells ba1).map .pl)),some (.row false 1 (bl3.map (cInt .i64))),some (.box (((cInt .i64) v74).map .pl))])
def f18n4S(ba1:Qe)(bd2:Int)(bl3:List Int)(be4:Qa):Tr×Hp:=(mkS [(1,(.bp 0 0)),(2,(.pl (.sl .nil 0 []))),(3,(jI 0)),(5,(.own 1)),(8,(.bp 2 0)),(16,(jL 3 Qa.cells ba1.Lots)),(17,(jI (ba1.Lots.length:Int))),(18,(jI bd2)),(26,(.clo 53 [(.bp 3 0),(.bp 4 0)]))],[some (.box ((Qe.cells ba1).map .pl)),some (.row false 1 (bl3.map (cInt .i64))),some (.box (((cInt .i64) be4.Units).map .pl)),some (.box ((Qe.cells ba1).map .pl)),some (.box ((Qa.cells be4).map .pl))])
noncomputable def f18n4(ba1:Qe)(bd2:Int)(bl3:List Int)(be4:Qa):Option f18n4O :=
 (f53r9 ba1 be4 be4.Units).bind fun x72 =>
 some (.norm x72)
theorem f18n4_ok(ba1:Qe)(bd2:Int)(bl3:List Int)(be4:Qa){o:f18n4O}(h:f18n4 ba1 bd2 bl3 be4=some o):T Try.prog Try.f18.ntmps 0 (Qk 1 (cL (Qk 2 (cL (cL (Qk 2 (cL (cL (Qk 1 (cL (Qk 3 c18))))))))))) (f18n4S ba1 bd2 bl3 be4) (·=f18n4E ba1 bd2 bl3 be4 o):=by
 unfold f18n4 at h;refine T.block' (i:=2) (by kernel_rfl) ?_;refine rN Qh 0 [] [] [] [0,1,2,3,4] [1,2,3,5,8,16,17,18,26] (mkS [(1,(.bp 0 0)),(2,(.pl (.sl .nil 0 []))),(3,(jI 0)),(5,(.own 1)),(8,(.bp 2 0)),(16,(jL 3 Qa.cells ba1.Lots)),(17,(jI (ba1.Lots.length:Int))),(18,(jI bd2)),(26,(.clo 53 [(.bp 3 0),(.bp 4 0)]))],[some (.box ((Qe.cells ba1).map .pl)),some (.row false 1 (bl3.map (cInt .i64))),some (.box (((cInt .i64) be4.Units).map .pl)),some (.box ((Qe.cells ba1).map .pl)),some (.box ((Qa.cells be4).map .pl))]) an ?_;obtain ⟨x72,h73,h⟩:=Qf h;obtain rfl:=Qg h
 exact T.last' (rgN 53 [(.bp 3 0),(.bp 4 0)] [8] (.tup []) [none,none,some (.box (((cInt .i64) x72).map .pl)),some (.box ((Qe.cells ba1).map .pl)),some (.box ((Qa.cells be4).map .pl)),some (.lp Qbk .ready none (kL 38 [(8,(.bp 2 0))]))] none .ready (kL 38 [(8,(.bp 2 0))]) .norm [] [0,1,2] [1,2,3,5,8,16,17,18] (mkS [(1,(.bp 0 0)),(2,(.pl (.sl .nil 0 []))),(3,(jI 0)),(5,(.own 1)),(8,(.bp 2 0)),(16,(jL 3 Qa.cells ba1.Lots)),(17,(jI (ba1.Lots.length:Int))),(18,(jI bd2))],[some (.box ((Qe.cells ba1).map .pl)),some (.row false 1 (bl3.map (cInt .i64))),some (.box (((cInt .i64) x72).map .pl))]) (Qo.rn 6 [5,3,4,2] (f53r9_ok ba1 be4 be4.Units h73)) an) (tds:=[]) (m:=[0,1,2]) (keep:=[1,2,3,5,8,16,17,18]) (st2:=(f18n4E ba1 bd2 bl3 be4 (.norm x72)).2) (by kernel_rfl) an rfl
inductive f18n3O where
 | norm (v78:Int)
def f18n3E(ba1:Qe)(bd2:Int)(bl3:List Int)(be4:Qa):f18n3O→Ex×Tr×Hp
 | .norm v78=>(.norm,mkS [(1,(.bp 0 0)),(2,(.pl (.sl .nil 0 []))),(3,(jI 0)),(5,(.own 1)),(8,(.bp 2 0)),(16,(jL 3 Qa.cells ba1.Lots)),(17,(jI (ba1.Lots.length:Int))),(18,(jI bd2))],[some (.box ((Qe.cells ba1).map .pl)),some (.row false 1 (bl3.map (cInt .i64))),some (.box (((cInt .i64) v78).map .pl))])
def f18n3S(ba1:Qe)(bd2:Int)(bl3:List Int)(be4:Qa):Tr×Hp:=(mkS [(1,(.bp 0 0)),(2,(.pl (.sl .nil 0 []))),(3,(jI 0)),(5,(.own 1)),(7,(.bp 2 0)),(8,(.bp 3 0)),(16,(jL 3 Qa.cells ba1.Lots)),(17,(jI (ba1.Lots.length:Int))),(18,(jI bd2))],[some (.box ((Qe.cells ba1).map .pl)),some (.row false 1 (bl3.map (cInt .i64))),some (.box ((Qa.cells be4).map .pl)),some (.box (((cInt .i64) be4.Units).map .pl))])
noncomputable def f18n3(ba1:Qe)(bd2:Int)(bl3:List Int)(be4:Qa):Option f18n3O :=
 (f35r1 ba1 be4).bind fun x70 =>
 (f18n4 ba1 bd2 bl3 be4).bind fun o75=>match o75 with
 | .norm v77=>some (.norm v77)
theorem f18n3_ok(ba1:Qe)(bd2:Int)(bl3:List Int)(be4:Qa){o:f18n3O}(h:f18n3 ba1 bd2 bl3 be4=some o):T Try.prog Try.f18.ntmps 0 (cL (Qk 2 (cL (cL (Qk 2 (cL (cL (Qk 1 (cL (Qk 3 c18)))))))))) (f18n3S ba1 bd2 bl3 be4) (·=f18n3E ba1 bd2 bl3 be4 o):=by
 unfold f18n3 at h;obtain ⟨x70,h71,h⟩:=Qf h;refine rN Qh 1 [([],[(2,.call (.clo 53 [(.bp 4 0),(.bp 5 0)]) (jN 4 [some (.box ((Qe.cells ba1).map .pl)),some (.box ((Qa.cells be4).map .pl))]))],[])] [] [] [0,1,3,4,5] [1,2,3,5,8,16,17,18,26] (f18n4S ba1 bd2 bl3 be4) (ap (Qo.rn 4 [] (f35r1_ok ba1 be4 h71)) an) ?_;obtain ⟨o75,h76,h⟩:=Qf h;cases o75 with
 | norm v77 =>
  obtain rfl:=Qg h;exact T.last' (f18n4_ok ba1 bd2 bl3 be4 h76) (tds:=[]) (m:=[0,1,2]) (keep:=[1,2,3,5,8,16,17,18]) (st2:=(f18n3E ba1 bd2 bl3 be4 (.norm v77)).2) (by kernel_rfl) an rfl
inductive f18n2O where
 | norm (v84:List Int)
def f18n2E(ba1:Qe)(bd2:Int)(bl3:List Int):f18n2O→Ex×Tr×Hp
 | .norm v84=>(.norm,mkS [(1,(.bp 0 0)),(2,(.pl (.sl .nil 0 []))),(3,(jI 0)),(5,(.own 1)),(16,(jL 3 Qa.cells ba1.Lots)),(17,(jI (ba1.Lots.length:Int))),(18,(jI bd2))],[some (.box ((Qe.cells ba1).map .pl)),some (.row false 1 (v84.map (cInt .i64)))])
def f18n2S(ba1:Qe)(bd2:Int)(bl3:List Int):Tr×Hp:=(mkS [(1,(.bp 0 0)),(2,(.pl (.sl .nil 0 []))),(3,(jI 0)),(5,(.own 1)),(16,(jL 3 Qa.cells ba1.Lots)),(17,(jI (ba1.Lots.length:Int))),(18,(jI bd2))],[some (.box ((Qe.cells ba1).map .pl)),some (.row false 1 (bl3.map (cInt .i64)))])
noncomputable def f18n2(ba1:Qe)(bd2:Int)(bl3:List Int):Option f18n2O :=
 (at? ba1.Lots bd2).bind fun x66 =>
 (f18n3 ba1 bd2 bl3 x66).bind fun o79=>match o79 with
 | .norm v81=>req (fit (bl3.length+1) 8) <|
  some (.norm (bl3++[v81]))
theorem f18n2_ok(ba1:Qe)(bd2:Int)(bl3:List Int){o:f18n2O}(h:f18n2 ba1 bd2 bl3=some o):T Try.prog Try.f18.ntmps 0 (cL (Qk 2 (cL (cL (Qk 1 (cL (Qk 3 c18))))))) (f18n2S ba1 bd2 bl3) (·=f18n2E ba1 bd2 bl3 o):=by
 unfold f18n2 at h;refine T.block' (i:=1) (by kernel_rfl) ?_;obtain ⟨x66,h67,h⟩:=Qf h;refine rN Qh 2 [([],[(0,.idx (Int.toNat bd2) (Qa.cells x66))],[]),j3] [] [] [0,1,2,3] [1,2,3,5,7,8,16,17,18] (f18n3S ba1 bd2 bl3 x66) (ap (Qi h67).1 (ap (Qn Qa.cells (Qi h67).2) an)) ?_;obtain ⟨o79,h80,h⟩:=Qf h;cases o79 with
 | norm v81 =>
  refine T.oneN (by kernel_rfl) (f18n3_ok ba1 bd2 bl3 x66 h80) (st2:=(f18n3E ba1 bd2 bl3 x66 (.norm v81)).2) rfl ?_;obtain ⟨h83,h⟩:=Qbt h;obtain rfl:=Qg h;exact rE Qh [([],[(3,.fits)],[(3,.row 4 ((bl3++[v81]).map (cInt .i64)))])] [] [] [0,4] [1,2,3,5,16,17,18] (.norm,(f18n2E ba1 bd2 bl3 (.norm (bl3++[v81]))).2) (ap (fit_map (te:=ti3) (xs:=bl3) (n:=1) (c:=(cInt .i64)) h83 rfl) (ap (app_cv (xs:=bl3) (ys:=[v81]) (c:=(cInt .i64))) an)) rfl
inductive f18n5O where
 | exit0 (v88:List Int)
def f18n5E(ba1:Qe):f18n5O→Ex×Tr×Hp
 | .exit0 v88=>((.exit 0),mkS [(5,(.own 0))],[some (.row false 1 (v88.map (cInt .i64)))])
def f18n5S(ba1:Qe)(v60:Int)(v61:List Int):Tr×Hp:=(mkS [(1,(.bp 0 0)),(2,(.pl (.sl .nil 0 []))),(3,(jI 0)),(5,(.own 1)),(16,(jL 3 Qa.cells ba1.Lots)),(17,(jI (ba1.Lots.length:Int))),(18,(jI v60))],[some (.box ((Qe.cells ba1).map .pl)),some (.row false 1 (v61.map (cInt .i64)))])
noncomputable def f18n5:Nat→Qe→Int→List Int→Option f18n5O
 | 0,_,_,_=>none
 | f+1,ba1,v60,v61 =>
  bif decide (v60<(ba1.Lots.length:Int)) then
   (f18n2 ba1 v60 v61).bind fun o85=>match o85 with
   | .norm v87=>(f18n5 f ba1 (wr64 (v60+1)) v87)
  else
   some (.exit0 v61)
theorem f18n5_ok:∀(f:Nat)(ba1:Qe)(v60:Int)(v61:List Int){o:f18n5O},f18n5 f ba1 v60 v61=some o→TL Try.prog Try.f18.ntmps 0 f (cL (cL (Qk 1 (cL (Qk 3 c18))))) (f18n5S ba1 v60 v61) (·=f18n5E ba1 o)
 | 0,_,_,_,o,h=>by rw [f18n5] at h; cases h
 | f+1,ba1,v60,v61,o,h=>by
  rw [f18n5] at h;refine TL.body (K:=fun s=>∃v60:Int,∃v61:List Int,s=(f18n5S ba1 v60 v61)∧f18n5 f ba1 v60 v61=some o) ?_ (by rintro _ ⟨v60,v61,rfl,hk⟩; exact f18n5_ok f _ _ _ hk);rcases Qj h with ⟨h63,h⟩|⟨h63,h⟩
  ·refine rN Qh 2 [j3] [some true] [] [0,1] [1,2,3,5,16,17,18] (f18n2S ba1 v60 v61) (ap h63 an) ?_;obtain ⟨o85,h86,h⟩:=Qf h;cases o85 with
   | norm v87 =>
    refine T.oneN (by kernel_rfl) (f18n2_ok ba1 v60 v61 h86) (st2:=(f18n2E ba1 v60 v61 (.norm v87)).2) rfl ?_;exact rE Qh [j3] [] [] [0,1] [1,2,3,5,16,17,18] (.norm,(f18n5S ba1 (wr64 (v60+1)) v87)) an (Qr.norm ⟨(wr64 (v60+1)),v87,rfl,h⟩)
  ·obtain rfl:=Qg h;exact rK Qh 2 [j3] [some false] [] [1] [5] (.exit 0) ((f18n5E ba1 (.exit0 v61)).2) (ap h63 an) (Qr.out rfl rfl)
inductive f18n1O where
 | norm (v92:List Int)
def f18n1E(ba1:Qe):f18n1O→Ex×Tr×Hp
 | .norm v92=>(.norm,mkS [(5,(.own 0))],[some (.row false 1 (v92.map (cInt .i64)))])
def f18n1S(ba1:Qe):Tr×Hp:=(mkS [(1,(.bp 0 0)),(2,(.pl (.sl .nil 0 []))),(3,(jI 0)),(5,(.pl (.sl .nil 0 [])))],[some (.box ((Qe.cells ba1).map .pl))])
noncomputable def f18n1(ba1:Qe):Option f18n1O :=
 (f18n5 FUEL ba1 0 []).bind fun o89=>match o89 with
 | .exit0 v91=>some (.norm v91)
theorem f18n1_ok(ba1:Qe){o:f18n1O}(h:f18n1 ba1=some o):T Try.prog Try.f18.ntmps 0 (cL (Qk 3 c18)) (f18n1S ba1) (·=f18n1E ba1 o):=by
 unfold f18n1 at h;refine rN Qh 1 [([],[],[(2,.val (jI (ba1.Lots.length:Int)))])] [] [.mat 5 1] [0,1] [1,2,3,5,16,17,18] (f18n5S ba1 0 []) (ap (Qaa (xs:=ba1.Lots) (c:=Qa.cells)) an) ?_;obtain ⟨o89,h90,h⟩:=Qf h;cases o89 with
 | exit0 v91 =>
  obtain rfl:=Qg h;exact T.last' (T.bl (i:=0) (by kernel_rfl) (by kernel_rfl) (f18n5_ok FUEL ba1 0 [] h90)) (tds:=[]) (m:=[0]) (keep:=[5]) (st2:=(f18n1E ba1 (.norm v91)).2) (by kernel_rfl) an rfl
inductive f18n0O where
 | ret (v96:Int) (v97:List Int)
def f18n0E(a1:Qe):f18n0O→Ex×Tr×Hp
 | .ret v96 v97=>(.ret,mkS [(2,(.own 0)),(3,(jI v96))],[some (.row false 1 (v97.map (cInt .i64)))])
def f18n0S(a1:Qe):Tr×Hp:=(Qak [(jA Qe.cells a1)] 0 .leaf,[])
noncomputable def f18n0(a1:Qe):Option f18n0O :=
 (f31 a1).bind fun x5 =>
 bif decide (x5=0) then
  (f18n1 a1).bind fun o93=>match o93 with
  | .norm v95=>some (.ret 0 v95)
 else
  some (.ret x5 [])
theorem f18n0_ok(a1:Qe){o:f18n0O}(h:f18n0 a1=some o):T Try.prog Try.f18.ntmps 0 c18 (f18n0S a1) (·=f18n0E a1 o):=by
 unfold f18n0 at h;obtain ⟨x5,h6,h⟩:=Qf h;rcases Qj h with ⟨h7,h⟩|⟨h7,h⟩
 ·refine rN Qh 3 [j3,([],[jH 1 (jI x5)],[]),j3,j3] [some false] [] [0] [1,2,3,5] (f18n1S a1) (ap (f31_ok a1 h6) (ap (Qao h7) an)) ?_;obtain ⟨o93,h94,h⟩:=Qf h;cases o93 with
  | norm v95 =>
   refine T.oneN (by kernel_rfl) (f18n1_ok a1 h94) (st2:=(f18n1E a1 (.norm v95)).2) rfl ?_;obtain rfl:=Qg h;exact rE Qh [j3] [] [] [0] [2,3] (.ret,(f18n0E a1 (.ret 0 v95)).2) an rfl
 ·obtain rfl:=Qg h;exact rK Qh 2 [j3,([],[jH 1 (jI x5)],[]),j3,j3] [some true] [.mat 2 1] [1] [2,3] .ret ((f18n0E a1 (.ret x5 [])).2) (ap (f31_ok a1 h6) (ap (Qaw h7) an)) rfl
noncomputable def f18(a1:Qe):Option ((List Int)×Int):=(f18n0 a1).bind fun o=>match o with
 | .ret v96 v97=>some (v97,v96)
theorem f18_ok(a1:Qe){r:(List Int)×Int}(h:f18 a1=some r):Qo Try.prog false 18 [(jA Qe.cells a1)] [] (.tup [(.pl (.sl .any 1 (r.1.map (cInt .i64)))),(jI r.2)]) []:=by
 unfold f18 at h;obtain ⟨o,ho,h⟩:=Qf h;cases o with
 | ret v96 v97 =>
  obtain rfl:=Qg h;exact Qo.plain Qh (f:=Try.f18) (c:=c18) (by kernel_rfl) (by kernel_rfl) (by kernel_rfl) (by kernel_rfl) ((f18n0_ok a1 ho).mono fun r e=>by subst e; exact ⟨.inl rfl,(.tup [(.own 0),(jI v96)]),(.tup [(.pl (.sl .any 1 (v97.map (cInt .i64)))),(jI v96)]),by kernel_rfl,by kernel_rfl,((Wk.refl _):Wk (.tup [(.pl (.sl .any 1 (v97.map (cInt .i64)))),(jI v96)]) (.tup [(.pl (.sl .any 1 (v97.map (cInt .i64)))),(jI v96)]))⟩)

noncomputable def c7:Code:=Try.f7.body.getD .skip
inductive f7n2O where
 | norm (v31:Bool)
def f7n2E(bi1:Bool)(bh2:(List Qb)×Int)(bp3:(List Int)×Int)(ba4:Qe):f7n2O→Ex×Tr×Hp
 | .norm v31=>(.norm,mkS [(1,(.bp 0 0)),(3,(jB bi1)),(4,(jL 3 Qb.cells bh2.1)),(5,(jI bh2.2)),(6,(.pl (.sl .any 1 (bp3.1.map (cInt .i64))))),(7,(jI bp3.2)),(41,(jB v31))],[some (.box ((Qe.cells ba4).map .pl))])
def f7n2S(bi1:Bool)(bh2:(List Qb)×Int)(bp3:(List Int)×Int)(ba4:Qe):Tr×Hp:=(mkS [(1,(.bp 0 0)),(3,(jB bi1)),(4,(jL 3 Qb.cells bh2.1)),(5,(jI bh2.2)),(6,(.pl (.sl .any 1 (bp3.1.map (cInt .i64))))),(7,(jI bp3.2))],[some (.box ((Qe.cells ba4).map .pl))])
noncomputable def f7n2(bi1:Bool)(bh2:(List Qb)×Int)(bp3:(List Int)×Int)(ba4:Qe):Option f7n2O :=
 bif decide (bh2.2=0) then
  some (.norm (!(decide (bp3.2=0))))
 else
  some (.norm true)
theorem f7n2_ok(bi1:Bool)(bh2:(List Qb)×Int)(bp3:(List Int)×Int)(ba4:Qe){o:f7n2O}(h:f7n2 bi1 bh2 bp3 ba4=some o):T Try.prog Try.f7.ntmps 0 (cL (Qk 0 (cL (Qk 5 c7)))) (f7n2S bi1 bh2 bp3 ba4) (·=f7n2E bi1 bh2 bp3 ba4 o):=by
 unfold f7n2 at h;rcases Qj h with ⟨h30,h⟩|⟨h30,h⟩
 ·obtain rfl:=Qg h;exact rE Qh [([(3,false),(4,false)],[(5,.bool false)],[])] [] [] [0] [1,3,4,5,6,7,41] (.norm,(f7n2E bi1 bh2 bp3 ba4 (.norm (!(decide (bp3.2=0))))).2) (ap3 (Qao h30) an) rfl
 ·obtain rfl:=Qg h;exact rE Qh [([(3,true),(4,true)],[(5,.bool true)],[])] [] [] [0] [1,3,4,5,6,7,41] (.norm,(f7n2E bi1 bh2 bp3 ba4 (.norm true)).2) (ap3 (Qaw h30) an) rfl
inductive f7n1O where
 | norm
 | ret (v43:Bool)
def f7n1E(bi1:Bool)(bh2:(List Qb)×Int)(bp3:(List Int)×Int)(ba4:Qe):f7n1O→Ex×Tr×Hp
 | .norm=>(.norm,mkS [(1,(.bp 0 0)),(3,(jB bi1)),(4,(jL 3 Qb.cells bh2.1)),(6,(.pl (.sl .any 1 (bp3.1.map (cInt .i64)))))],[some (.box ((Qe.cells ba4).map .pl))])
 | .ret v43=>(.ret,mkS [(2,(jB v43))],[])
def f7n1S(bi1:Bool)(bh2:(List Qb)×Int)(bp3:(List Int)×Int)(ba4:Qe):Tr×Hp:=(mkS [(1,(.bp 0 0)),(3,(jB bi1)),(4,(jL 3 Qb.cells bh2.1)),(5,(jI bh2.2)),(6,(.pl (.sl .any 1 (bp3.1.map (cInt .i64))))),(7,(jI bp3.2))],[some (.box ((Qe.cells ba4).map .pl))])
noncomputable def f7n1(bi1:Bool)(bh2:(List Qb)×Int)(bp3:(List Int)×Int)(ba4:Qe):Option f7n1O :=
 (f7n2 bi1 bh2 bp3 ba4).bind fun o32=>match o32 with
 | .norm v34=>bif v34 then
   bif bi1 then
    bif decide (bh2.2=bp3.2) then
     bif decide ((bh2.1.length:Int)=0) then
      some (.ret (decide ((bp3.1.length:Int)=0)))
     else
      some (.ret false)
    else
     some (.ret false)
   else
    some (.ret false)
  else
   some .norm
theorem f7n1_ok(bi1:Bool)(bh2:(List Qb)×Int)(bp3:(List Int)×Int)(ba4:Qe){o:f7n1O}(h:f7n1 bi1 bh2 bp3 ba4=some o):T Try.prog Try.f7.ntmps 0 (cL (Qk 5 c7)) (f7n1S bi1 bh2 bp3 ba4) (·=f7n1E bi1 bh2 bp3 ba4 o):=by
 unfold f7n1 at h;refine rN Qh 0 [] [] [] [0] [1,3,4,5,6,7] (f7n2S bi1 bh2 bp3 ba4) an ?_;obtain ⟨o32,h33,h⟩:=Qf h;cases o32 with
 | norm v34 =>
  refine T.oneN (by kernel_rfl) (f7n2_ok bi1 bh2 bp3 ba4 h33) (st2:=(f7n2E bi1 bh2 bp3 ba4 (.norm v34)).2) rfl ?_;rcases Qj h with ⟨h39,h⟩|⟨h39,h⟩
  ·rcases Qj h with ⟨h40,h⟩|⟨h40,h⟩
   ·rcases Qj h with ⟨h41,h⟩|⟨h41,h⟩
    ·rcases Qj h with ⟨h42,h⟩|⟨h42,h⟩
     ·obtain rfl:=Qg h;exact rE Qh [(jT [2,3,4,7,8,9,12,13,14],[(5,.bool true),(10,.bool true),(15,.bool true)],[(8,.val (jI (bh2.1.length:Int))),(13,.val (jI (bp3.1.length:Int)))])] [some true] [] [] [2] (.ret,(f7n1E bi1 bh2 bp3 ba4 (.ret (decide ((bp3.1.length:Int)=0)))).2) (ap h39 (ap4 h40 (ap2 h41 (ap (Qaa (xs:=bh2.1) (c:=Qb.cells)) (ap2 h41 (ap2 h42 (ap (Qaa (xs:=bp3.1) (c:=(cInt .i64))) (ap2 h42 an)))))))) rfl
     ·obtain rfl:=Qg h;exact rE Qh [(jF [12,13,14]++jT [2,3,4,7,8,9],[(5,.bool true),(10,.bool true),(15,.bool false)],[(8,.val (jI (bh2.1.length:Int)))])] [some true] [] [] [2] (.ret,(f7n1E bi1 bh2 bp3 ba4 (.ret false)).2) (ap h39 (ap4 h40 (ap2 h41 (ap (Qaa (xs:=bh2.1) (c:=Qb.cells)) (ap2 h41 (ap4 h42 an)))))) rfl
    ·obtain rfl:=Qg h;exact rE Qh [(jF [7,8,9]++jT [2,3,4],[(5,.bool true),(10,.bool false)],[])] [some true] [] [] [2] (.ret,(f7n1E bi1 bh2 bp3 ba4 (.ret false)).2) (ap h39 (ap4 h40 (ap4 h41 an))) rfl
   ·obtain rfl:=Qg h;exact rE Qh [(jF [2,3,4],[(5,.bool false)],[])] [some true] [] [] [2] (.ret,(f7n1E bi1 bh2 bp3 ba4 (.ret false)).2) (ap h39 (ap4 h40 an)) rfl
  ·obtain rfl:=Qg h;exact rE Qh [] [some false] [] [0] [1,3,4,6] (.norm,(f7n1E bi1 bh2 bp3 ba4 .norm).2) (ap h39 an) rfl
inductive f7n4O where
 | exit0 (v98:List Int)
 | ret
def f7n4E(bi1:Bool)(bh2:(List Qb)×Int)(bp3:(List Int)×Int)(ba4:Qe):f7n4O→Ex×Tr×Hp
 | .exit0 v98=>((.exit 0),mkS [(1,(.bp 0 0)),(3,(jB bi1)),(6,(.pl (.sl .any 1 (bp3.1.map (cInt .i64))))),(8,(.own 1))],[some (.box ((Qe.cells ba4).map .pl)),some (.row false 1 (v98.map (cInt .i64)))])
 | .ret=>(.ret,mkS [(2,(jB false))],[])
def f7n4S(bi1:Bool)(bh2:(List Qb)×Int)(bp3:(List Int)×Int)(ba4:Qe)(v80:Int)(v81:List Int):Tr×Hp:=(mkS [(1,(.bp 0 0)),(3,(jB bi1)),(4,(jL 3 Qb.cells bh2.1)),(6,(.pl (.sl .any 1 (bp3.1.map (cInt .i64))))),(8,(.own 1)),(9,(jI v80))],[some (.box ((Qe.cells ba4).map .pl)),some (.row false 1 (v81.map (cInt .i64)))])
noncomputable def f7n4:Nat→Bool→(List Qb)×Int→(List Int)×Int→Qe→Int→List Int→Option f7n4O
 | 0,_,_,_,_,_,_=>none
 | f+1,bi1,bh2,bp3,ba4,v80,v81 =>
  bif decide (v80<(ba4.Bids.length:Int)) then
   (f13 bh2.1 v80 (ba4.Bids.length:Int)).bind fun x91 =>
   bif x91.2 then
    (at? ba4.Bids v80).bind fun x94 =>
    bif decide (x94.Units<x91.1) then
     some .ret
    else
     req (fit (v81.length+1) 8) <|
     (f7n4 f bi1 bh2 bp3 ba4 (wr64 (v80+1)) (v81++[x91.1]))
   else
    some .ret
  else
   some (.exit0 v81)
theorem f7n4_ok:∀(f:Nat)(bi1:Bool)(bh2:(List Qb)×Int)(bp3:(List Int)×Int)(ba4:Qe)(v80:Int)(v81:List Int){o:f7n4O},f7n4 f bi1 bh2 bp3 ba4 v80 v81=some o→TL Try.prog Try.f7.ntmps 0 f (cL (cL (Qk 1 (cL (Qk 2 (Qk 1 (Qk 5 c7))))))) (f7n4S bi1 bh2 bp3 ba4 v80 v81) (·=f7n4E bi1 bh2 bp3 ba4 o)
 | 0,_,_,_,_,_,_,o,h=>by rw [f7n4] at h; cases h
 | f+1,bi1,bh2,bp3,ba4,v80,v81,o,h=>by
  rw [f7n4] at h;refine TL.body (K:=fun s=>∃v80:Int,∃v81:List Int,s=(f7n4S bi1 bh2 bp3 ba4 v80 v81)∧f7n4 f bi1 bh2 bp3 ba4 v80 v81=some o) ?_ (by rintro _ ⟨v80,v81,rfl,hk⟩; exact f7n4_ok f _ _ _ _ _ _ hk);rcases Qj h with ⟨h83,h⟩|⟨h83,h⟩
  ·obtain ⟨x91,h92,h⟩:=Qf h;rcases Qj h with ⟨h93,h⟩|⟨h93,h⟩
   ·obtain ⟨x94,h95,h⟩:=Qf h;rcases Qj h with ⟨h96,h⟩|⟨h96,h⟩
    ·obtain rfl:=Qg h;exact rK Qh 2 [([],[],[(3,.val (jI (ba4.Bids.length:Int)))]),([],[jH 5 (.tup [(jI x91.1),(jB x91.2)])],[(4,.val (jI (ba4.Bids.length:Int)))]),(jF [3,4,5,6,7,8,9,10],[(7,.idx (Int.toNat v80) (Qc.cells x94)),(11,.bool false)],[]),j3] [some true,some true] [] [] [2] .ret ((f7n4E bi1 bh2 bp3 ba4 .ret).2) (ap (Qaa (xs:=ba4.Bids) (c:=Qc.cells)) (ap h83 (ap (Qaa (xs:=ba4.Bids) (c:=Qc.cells)) (ap (f13_ok bh2.1 v80 (ba4.Bids.length:Int) h92) (ap (Qao h93) (ap4 (Qao h93) (ap (Qi h95).1 (ap (Qn Qc.cells (Qi h95).2) (ap4 (Qao h93) (ap h96 an)))))))))) (Qr.out rfl rfl)
    ·obtain ⟨h97,h⟩:=Qbt h
     exact rE Qh [([],[],[(3,.val (jI (ba4.Bids.length:Int)))]),([],[jH 5 (.tup [(jI x91.1),(jB x91.2)])],[(4,.val (jI (ba4.Bids.length:Int)))]),(jF [3,4,5,6,7,8,9,10],[(7,.idx (Int.toNat v80) (Qc.cells x94)),(11,.bool false)],[]),([],[(3,.fits)],[(3,.row 3 ((v81++[x91.1]).map (cInt .i64)))]),j3] [some true,some false] [] [0,3] [1,3,4,6,8,9] (.norm,(f7n4S bi1 bh2 bp3 ba4 (wr64 (v80+1)) (v81++[x91.1]))) (ap (Qaa (xs:=ba4.Bids) (c:=Qc.cells)) (ap h83 (ap (Qaa (xs:=ba4.Bids) (c:=Qc.cells)) (ap (f13_ok bh2.1 v80 (ba4.Bids.length:Int) h92) (ap (Qao h93) (ap4 (Qao h93) (ap (Qi h95).1 (ap (Qn Qc.cells (Qi h95).2) (ap4 (Qao h93) (ap h96 (ap (fit_map (te:=ti3) (xs:=v81) (n:=1) (c:=(cInt .i64)) h97 rfl) (ap (app_cv (xs:=v81) (ys:=[x91.1]) (c:=(cInt .i64))) an)))))))))))) (Qr.norm ⟨(wr64 (v80+1)),(v81++[x91.1]),rfl,h⟩)
   ·obtain rfl:=Qg h;exact rK Qh 2 [([],[],[(3,.val (jI (ba4.Bids.length:Int)))]),([],[jH 5 (.tup [(jI x91.1),(jB x91.2)])],[(4,.val (jI (ba4.Bids.length:Int)))]),(jT [3,4,5,6,7,8,9,10],[(11,.bool true)],[]),j3] [some true,none] [] [] [2] .ret ((f7n4E bi1 bh2 bp3 ba4 .ret).2) (ap (Qaa (xs:=ba4.Bids) (c:=Qc.cells)) (ap h83 (ap (Qaa (xs:=ba4.Bids) (c:=Qc.cells)) (ap (f13_ok bh2.1 v80 (ba4.Bids.length:Int) h92) (ap (Qaw h93) (ap4 (Qaw h93) (ap4 (Qaw h93) an))))))) (Qr.out rfl rfl)
  ·obtain rfl:=Qg h;exact rK Qh 1 [([],[],[(3,.val (jI (ba4.Bids.length:Int)))])] [some false] [] [0,1] [1,3,6,8] (.exit 0) ((f7n4E bi1 bh2 bp3 ba4 (.exit0 v81)).2) (ap (Qaa (xs:=ba4.Bids) (c:=Qc.cells)) (ap h83 an)) (Qr.out rfl rfl)
noncomputable def f7n4L(bi1:Bool)(bh2:(List Qb)×Int)(bp3:(List Int)×Int)(ba4:Qe):List Qc→Int→(List Int)→Option f7n4O
 | [],v80,v81 =>
  some (.exit0 v81)
 | x0::rest,v80,v81 =>
  (f13 bh2.1 v80 (ba4.Bids.length:Int)).bind fun x91 =>
  bif x91.2 then
   bif decide (x0.Units<x91.1) then
    some .ret
   else
    req (fit (v81.length+1) 8) <|
    (f7n4L bi1 bh2 bp3 ba4 rest (v80+1) (v81++[x91.1]))
  else
   some .ret
theorem f7n4L_eq(bi1:Bool)(bh2:(List Qb)×Int)(bp3:(List Int)×Int)(ba4:Qe):∀(rest:List Qc)(f k:Nat)(v81:List Int),ba4.Bids.drop k=rest→ba4.Bids.length≤maxLen→rest.length<f→f7n4 f bi1 bh2 bp3 ba4 (k:Int) v81=f7n4L bi1 bh2 bp3 ba4 rest (k:Int) v81
 | _,0,_,_,_,_,hf=>absurd hf (Nat.not_lt_zero _)
 | [],f+1,k,v81,hd,hm,hf=>by
  have hk:¬((k:Int)<(ba4.Bids.length:Int)):=by have:=Qah hd; omega
  rw [f7n4,f7n4L];simp only [decide_eq_false hk,cond_false]
 | x0::rest,f+1,k,v81,hd,hm,hf=>by
  obtain ⟨hx,hlt,hd'⟩:=Qbr hd;have hk:(k:Int)<(ba4.Bids.length:Int):=by omega
  have hw:wr64 ((k:Int)+1)=(k:Int)+1:=wr64_of (by omega) (by unfold maxLen at hm; omega);have ih:∀(v81:List Int),f7n4 f bi1 bh2 bp3 ba4 ((k:Int)+1) v81=f7n4L bi1 bh2 bp3 ba4 rest ((k:Int)+1) v81:=fun v81=>f7n4L_eq bi1 bh2 bp3 ba4 rest f (k+1) v81 hd' hm (by simpa using hf);rw [f7n4,f7n4L];simp only [decide_eq_true hk,cond_true,Qce,hx,Option.bind_some,hw,ih]
theorem f7n4_run(bi1:Bool)(bh2:(List Qb)×Int)(bp3:(List Int)×Int)(ba4:Qe)(v81:List Int)(hm:ba4.Bids.length≤maxLen):f7n4 FUEL bi1 bh2 bp3 ba4 0 v81=f7n4L bi1 bh2 bp3 ba4 ba4.Bids 0 v81:=f7n4L_eq bi1 bh2 bp3 ba4 ba4.Bids FUEL 0 v81 List.drop_zero hm (Qav hm)
inductive f7n3O where
 | norm (v102:List Int)
 | ret
def f7n3E(bi1:Bool)(bh2:(List Qb)×Int)(bp3:(List Int)×Int)(ba4:Qe):f7n3O→Ex×Tr×Hp
 | .norm v102=>(.norm,mkS [(1,(.bp 0 0)),(3,(jB bi1)),(6,(.pl (.sl .any 1 (bp3.1.map (cInt .i64))))),(8,(.own 1))],[some (.box ((Qe.cells ba4).map .pl)),some (.row false 1 (v102.map (cInt .i64)))])
 | .ret=>(.ret,mkS [(2,(jB false))],[])
def f7n3S(bi1:Bool)(bh2:(List Qb)×Int)(bp3:(List Int)×Int)(ba4:Qe):Tr×Hp:=(mkS [(1,(.bp 0 0)),(3,(jB bi1)),(4,(jL 3 Qb.cells bh2.1)),(6,(.pl (.sl .any 1 (bp3.1.map (cInt .i64))))),(8,(.own 1))],[some (.box ((Qe.cells ba4).map .pl)),some (.row false 1 ([].map (cInt .i64)))])
noncomputable def f7n3(bi1:Bool)(bh2:(List Qb)×Int)(bp3:(List Int)×Int)(ba4:Qe):Option f7n3O :=
 (f7n4 FUEL bi1 bh2 bp3 ba4 0 []).bind fun o99=>match o99 with
 | .exit0 v101=>some (.norm v101)
 | .ret=>some .ret
theorem f7n3_ok(bi1:Bool)(bh2:(List Qb)×Int)(bp3:(List Int)×Int)(ba4:Qe){o:f7n3O}(h:f7n3 bi1 bh2 bp3 ba4=some o):T Try.prog Try.f7.ntmps 0 (cL (Qk 2 (Qk 1 (Qk 5 c7)))) (f7n3S bi1 bh2 bp3 ba4) (·=f7n3E bi1 bh2 bp3 ba4 o):=by
 unfold f7n3 at h;refine rN Qh 1 [j3] [] [] [0,1] [1,3,4,6,8,9] (f7n4S bi1 bh2 bp3 ba4 0 []) an ?_;obtain ⟨o99,h100,h⟩:=Qf h;cases o99 with
 | exit0 v101 =>
  obtain rfl:=Qg h;exact T.last' (T.bl (i:=0) (by kernel_rfl) (by kernel_rfl) (f7n4_ok FUEL bi1 bh2 bp3 ba4 0 [] h100)) (tds:=[]) (m:=[0,1]) (keep:=[1,3,6,8]) (st2:=(f7n3E bi1 bh2 bp3 ba4 (.norm v101)).2) (by kernel_rfl) an rfl
 | ret =>
  obtain rfl:=Qg h;exact T.last' (T.bl (i:=0) (by kernel_rfl) (by kernel_rfl) (f7n4_ok FUEL bi1 bh2 bp3 ba4 0 [] h100)) (tds:=[]) (m:=[]) (keep:=[2]) (st2:=(f7n3E bi1 bh2 bp3 ba4 .ret).2) (by kernel_rfl) an rfl
inductive f7n11O where
 | norm (v2040:Bool)
def f7n11E(bi1:Bool)(bp2:(List Int)×Int)(bd3 bd4 bd5 bd6 bd7:Int)(ba8:Qe)(bl9:List Int)(bo10:Qc):f7n11O→Ex×Tr×Hp
 | .norm v2040=>(.norm,mkS [(1,(.bp 0 0)),(3,(jB bi1)),(6,(.pl (.sl .any 1 (bp2.1.map (cInt .i64))))),(8,(.own 1)),(12,(jI bd3)),(13,(jI (wr64 (bd4+bd5)))),(14,(jI bd6)),(15,(.bp 2 0)),(16,(jI bd7)),(17,(jB v2040))],[some (.box ((Qe.cells ba8).map .pl)),some (.row false 1 (bl9.map (cInt .i64))),some (.box ((Qc.cells bo10).map .pl))])
def f7n11S(bi1:Bool)(bp2:(List Int)×Int)(bd3 bd4 bd5 bd6 bd7:Int)(ba8:Qe)(bl9:List Int)(bo10:Qc):Tr×Hp:=(mkS [(1,(.bp 0 0)),(3,(jB bi1)),(6,(.pl (.sl .any 1 (bp2.1.map (cInt .i64))))),(8,(.own 1)),(12,(jI bd3)),(13,(jI (wr64 (bd4+bd5)))),(14,(jI bd6)),(15,(.bp 2 0)),(16,(jI bd7))],[some (.box ((Qe.cells ba8).map .pl)),some (.row false 1 (bl9.map (cInt .i64))),some (.box ((Qc.cells bo10).map .pl))])
noncomputable def f7n11(bi1:Bool)(bp2:(List Int)×Int)(bd3 bd4 bd5 bd6 bd7:Int)(ba8:Qe)(bl9:List Int)(bo10:Qc):Option f7n11O :=
 (at? ba8.Bids bd7).bind fun x2036 =>
 bif decide (x2036.Price<bo10.Price) then
  some (.norm true)
 else
  bif decide (x2036.Price=bo10.Price) then
   some (.norm (decide (bd6<bd7)))
  else
   some (.norm false)
theorem f7n11_ok(bi1:Bool)(bp2:(List Int)×Int)(bd3 bd4 bd5 bd6 bd7:Int)(ba8:Qe)(bl9:List Int)(bo10:Qc){o:f7n11O}(h:f7n11 bi1 bp2 bd3 bd4 bd5 bd6 bd7 ba8 bl9 bo10=some o):T Try.prog Try.f7.ntmps 0 (cL (Qk 0 (cL (cL (Qk 1 (cL (cL (Qk 1 (cL (Qk 1 (Qk 4 (cL (cL (Qk 1 (cL (cL (Qk 1 (cL (Qk 1 (cL (cL (Qk 1 (cL (cL (Qk 1 (cL (Qk 0 (Qk 1 (Qk 2 (Qk 1 (Qk 5 c7))))))))))))))))))))))))))))))) (f7n11S bi1 bp2 bd3 bd4 bd5 bd6 bd7 ba8 bl9 bo10) (·=f7n11E bi1 bp2 bd3 bd4 bd5 bd6 bd7 ba8 bl9 bo10 o):=by
 unfold f7n11 at h;obtain ⟨x2036,h2037,h⟩:=Qf h;rcases Qj h with ⟨h2038,h⟩|⟨h2038,h⟩
 ·obtain rfl:=Qg h;exact rE Qh [(jT [10,11,12,13,14,15,16,17,18,19,23],[(3,.idx (Int.toNat bd7) (Qc.cells x2036)),(24,.bool true)],[])] [] [] [0,1,2] [1,3,6,8,12,13,14,15,16,17] (.norm,(f7n11E bi1 bp2 bd3 bd4 bd5 bd6 bd7 ba8 bl9 bo10 (.norm true)).2) (ap (Qi h2037).1 (ap (Qn Qc.cells (Qi h2037).2) (ap4 h2038 (ap4 h2038 (ap4 h2038 an))))) rfl
 ·rcases Qj h with ⟨h2039,h⟩|⟨h2039,h⟩
  ·obtain rfl:=Qg h;exact rE Qh [(jF [10,11,12,13,14,15,16,17,18,19,23]++jT [20,21,22],[(3,.idx (Int.toNat bd7) (Qc.cells x2036)),(13,.idx (Int.toNat bd7) (Qc.cells x2036)),(23,.bool true),(24,.bool false)],[])] [] [] [0,1,2] [1,3,6,8,12,13,14,15,16,17] (.norm,(f7n11E bi1 bp2 bd3 bd4 bd5 bd6 bd7 ba8 bl9 bo10 (.norm (decide (bd6<bd7)))).2) (ap (Qi h2037).1 (ap (Qn Qc.cells (Qi h2037).2) (ap4 h2038 (ap (Qi h2037).1 (ap (Qn Qc.cells (Qi h2037).2) (ap2 h2038 (ap4 h2038 (ap3 h2039 (ap h2038 (ap h2039 (ap h2038 an))))))))))) rfl
  ·obtain rfl:=Qg h;exact rE Qh [(jF [10,11,12,13,14,15,16,17,18,19,20,21,22,23],[(3,.idx (Int.toNat bd7) (Qc.cells x2036)),(13,.idx (Int.toNat bd7) (Qc.cells x2036)),(23,.bool false),(24,.bool false)],[])] [] [] [0,1,2] [1,3,6,8,12,13,14,15,16,17] (.norm,(f7n11E bi1 bp2 bd3 bd4 bd5 bd6 bd7 ba8 bl9 bo10 (.norm false)).2) (ap (Qi h2037).1 (ap (Qn Qc.cells (Qi h2037).2) (ap4 h2038 (ap (Qi h2037).1 (ap (Qn Qc.cells (Qi h2037).2) (ap2 h2038 (ap4 h2038 (ap3 h2039 (ap h2038 (ap h2039 (ap h2038 an))))))))))) rfl
inductive f7n12O where
 | norm (v2062:Bool)
def f7n12E(bi1:Bool)(bp2:(List Int)×Int)(bd3 bd4 bd5 bd6 bd7:Int)(bi8:Bool)(ba9:Qe)(bl10:List Int)(bo11:Qc):f7n12O→Ex×Tr×Hp
 | .norm v2062=>(.norm,mkS [(1,(.bp 0 0)),(3,(jB bi1)),(6,(.pl (.sl .any 1 (bp2.1.map (cInt .i64))))),(8,(.own 1)),(12,(jI bd3)),(13,(jI (wr64 (bd4+bd5)))),(14,(jI bd6)),(15,(.bp 2 0)),(16,(jI bd7)),(202,(jB v2062))],[some (.box ((Qe.cells ba9).map .pl)),some (.row false 1 (bl10.map (cInt .i64))),some (.box ((Qc.cells bo11).map .pl))])
def f7n12S(bi1:Bool)(bp2:(List Int)×Int)(bd3 bd4 bd5 bd6 bd7:Int)(bi8:Bool)(ba9:Qe)(bl10:List Int)(bo11:Qc):Tr×Hp:=(mkS [(1,(.bp 0 0)),(3,(jB bi1)),(6,(.pl (.sl .any 1 (bp2.1.map (cInt .i64))))),(8,(.own 1)),(12,(jI bd3)),(13,(jI (wr64 (bd4+bd5)))),(14,(jI bd6)),(15,(.bp 2 0)),(16,(jI bd7)),(17,(jB bi8))],[some (.box ((Qe.cells ba9).map .pl)),some (.row false 1 (bl10.map (cInt .i64))),some (.box ((Qc.cells bo11).map .pl))])
noncomputable def f7n12(bi1:Bool)(bp2:(List Int)×Int)(bd3 bd4 bd5 bd6 bd7:Int)(bi8:Bool)(ba9:Qe)(bl10:List Int)(bo11:Qc):Option f7n12O :=
 (at? ba9.Bids bd7).bind fun x2056 =>
 bif (seq x2056.Lot bo11.Lot) then
  bif bi8 then
   (at? bl10 bd7).bind fun x2060 =>
   some (.norm (decide (0<x2060)))
  else
   some (.norm false)
 else
  some (.norm false)
theorem f7n12_ok(bi1:Bool)(bp2:(List Int)×Int)(bd3 bd4 bd5 bd6 bd7:Int)(bi8:Bool)(ba9:Qe)(bl10:List Int)(bo11:Qc){o:f7n12O}(h:f7n12 bi1 bp2 bd3 bd4 bd5 bd6 bd7 bi8 ba9 bl10 bo11=some o):T Try.prog Try.f7.ntmps 0 (cL (Qk 0 (Qk 1 (Qk 0 (cL (cL (Qk 1 (cL (cL (Qk 1 (cL (Qk 1 (Qk 4 (cL (cL (Qk 1 (cL (cL (Qk 1 (cL (Qk 1 (cL (cL (Qk 1 (cL (cL (Qk 1 (cL (Qk 0 (Qk 1 (Qk 2 (Qk 1 (Qk 5 c7))))))))))))))))))))))))))))))))) (f7n12S bi1 bp2 bd3 bd4 bd5 bd6 bd7 bi8 ba9 bl10 bo11) (·=f7n12E bi1 bp2 bd3 bd4 bd5 bd6 bd7 bi8 ba9 bl10 bo11 o):=by
 unfold f7n12 at h;obtain ⟨x2056,h2057,h⟩:=Qf h;rcases Qj h with ⟨h2058,h⟩|⟨h2058,h⟩
 ·rcases Qj h with ⟨h2059,h⟩|⟨h2059,h⟩
  ·obtain ⟨x2060,h2061,h⟩:=Qf h;obtain rfl:=Qg h;exact rE Qh [(jT [10,13,14,15,16,17],[(3,.idx (Int.toNat bd7) (Qc.cells x2056)),(11,.bool true),(15,.at_ (Int.toNat bd7)),(16,.idx 0 ((cInt .i64) x2060)),(18,.bool true)],[])] [] [] [0,1,2] [1,3,6,8,12,13,14,15,16,202] (.norm,(f7n12E bi1 bp2 bd3 bd4 bd5 bd6 bd7 bi8 ba9 bl10 bo11 (.norm (decide (0<x2060)))).2) (ap (Qi h2057).1 (ap (Qn Qc.cells (Qi h2057).2) (ap2 h2058 (ap3 h2059 (ap (Qi h2061).1 (ap (Qad (cInt .i64) (Qi h2061).2) (ap h2059 (ap (Qn (cInt .i64) (Qi h2061).2) (ap2 h2059 an))))))))) rfl
  ·obtain rfl:=Qg h;exact rE Qh [(jF [13,14,15,16,17]++jT [10],[(3,.idx (Int.toNat bd7) (Qc.cells x2056)),(11,.bool true),(18,.bool false)],[])] [] [] [0,1,2] [1,3,6,8,12,13,14,15,16,202] (.norm,(f7n12E bi1 bp2 bd3 bd4 bd5 bd6 bd7 bi8 ba9 bl10 bo11 (.norm false)).2) (ap (Qi h2057).1 (ap (Qn Qc.cells (Qi h2057).2) (ap2 h2058 (ap2 h2059 (ap4 h2059 an))))) rfl
 ·obtain rfl:=Qg h;exact rE Qh [([(10,false)],[(3,.idx (Int.toNat bd7) (Qc.cells x2056)),(11,.bool false)],[])] [] [] [0,1,2] [1,3,6,8,12,13,14,15,16,202] (.norm,(f7n12E bi1 bp2 bd3 bd4 bd5 bd6 bd7 bi8 ba9 bl10 bo11 (.norm false)).2) (ap (Qi h2057).1 (ap (Qn Qc.cells (Qi h2057).2) (ap2 h2058 an))) rfl
inductive f7n10O where
 | norm
 | ret
def f7n10E(bi1:Bool)(bp2:(List Int)×Int)(bd3 bd4 bd5 bd6 bd7:Int)(ba8:Qe)(bl9:List Int)(bo10:Qc):f7n10O→Ex×Tr×Hp
 | .norm=>(.norm,mkS [(1,(.bp 0 0)),(3,(jB bi1)),(6,(.pl (.sl .any 1 (bp2.1.map (cInt .i64))))),(8,(.own 1)),(12,(jI bd3)),(13,(jI (wr64 (bd4+bd5)))),(14,(jI bd6)),(15,(.bp 2 0)),(16,(jI bd7))],[some (.box ((Qe.cells ba8).map .pl)),some (.row false 1 (bl9.map (cInt .i64))),some (.box ((Qc.cells bo10).map .pl))])
 | .ret=>(.ret,mkS [(2,(jB false))],[])
def f7n10S(bi1:Bool)(bp2:(List Int)×Int)(bd3 bd4 bd5 bd6 bd7:Int)(ba8:Qe)(bl9:List Int)(bo10:Qc):Tr×Hp:=(mkS [(1,(.bp 0 0)),(3,(jB bi1)),(6,(.pl (.sl .any 1 (bp2.1.map (cInt .i64))))),(8,(.own 1)),(12,(jI bd3)),(13,(jI (wr64 (bd4+bd5)))),(14,(jI bd6)),(15,(.bp 2 0)),(16,(jI bd7))],[some (.box ((Qe.cells ba8).map .pl)),some (.row false 1 (bl9.map (cInt .i64))),some (.box ((Qc.cells bo10).map .pl))])
noncomputable def f7n10(bi1:Bool)(bp2:(List Int)×Int)(bd3 bd4 bd5 bd6 bd7:Int)(ba8:Qe)(bl9:List Int)(bo10:Qc):Option f7n10O :=
 (f7n11 bi1 bp2 bd3 bd4 bd5 bd6 bd7 ba8 bl9 bo10).bind fun o2041=>match o2041 with
 | .norm v2043=>(f7n12 bi1 bp2 bd3 bd4 bd5 bd6 bd7 v2043 ba8 bl9 bo10).bind fun o2063=>match o2063 with
  | .norm v2065=>bif v2065 then
    some .ret
   else
    some .norm
theorem f7n10_ok(bi1:Bool)(bp2:(List Int)×Int)(bd3 bd4 bd5 bd6 bd7:Int)(ba8:Qe)(bl9:List Int)(bo10:Qc){o:f7n10O}(h:f7n10 bi1 bp2 bd3 bd4 bd5 bd6 bd7 ba8 bl9 bo10=some o):T Try.prog Try.f7.ntmps 0 (cL (Qk 1 (cL (cL (Qk 1 (cL (Qk 1 (Qk 4 (cL (cL (Qk 1 (cL (cL (Qk 1 (cL (Qk 1 (cL (cL (Qk 1 (cL (cL (Qk 1 (cL (Qk 0 (Qk 1 (Qk 2 (Qk 1 (Qk 5 c7)))))))))))))))))))))))))))) (f7n10S bi1 bp2 bd3 bd4 bd5 bd6 bd7 ba8 bl9 bo10) (·=f7n10E bi1 bp2 bd3 bd4 bd5 bd6 bd7 ba8 bl9 bo10 o):=by
 unfold f7n10 at h;refine T.block' (i:=7) (by kernel_rfl) ?_;refine rN Qh 0 [] [] [] [0,1,2] [1,3,6,8,12,13,14,15,16] (f7n11S bi1 bp2 bd3 bd4 bd5 bd6 bd7 ba8 bl9 bo10) an ?_;obtain ⟨o2041,h2042,h⟩:=Qf h;cases o2041 with
 | norm v2043 =>
  refine T.oneN (by kernel_rfl) (f7n11_ok bi1 bp2 bd3 bd4 bd5 bd6 bd7 ba8 bl9 bo10 h2042) (st2:=(f7n11E bi1 bp2 bd3 bd4 bd5 bd6 bd7 ba8 bl9 bo10 (.norm v2043)).2) rfl ?_;refine rN Qh 0 [] [] [] [0,1,2] [1,3,6,8,12,13,14,15,16,17] (f7n12S bi1 bp2 bd3 bd4 bd5 bd6 bd7 v2043 ba8 bl9 bo10) an ?_;obtain ⟨o2063,h2064,h⟩:=Qf h;cases o2063 with
  | norm v2065 =>
   refine T.oneN (by kernel_rfl) (f7n12_ok bi1 bp2 bd3 bd4 bd5 bd6 bd7 v2043 ba8 bl9 bo10 h2064) (st2:=(f7n12E bi1 bp2 bd3 bd4 bd5 bd6 bd7 v2043 ba8 bl9 bo10 (.norm v2065)).2) rfl ?_;rcases Qj h with ⟨h2067,h⟩|⟨h2067,h⟩
   ·obtain rfl:=Qg h;exact rE Qh [j3] [some true] [] [] [2] (.ret,(f7n10E bi1 bp2 bd3 bd4 bd5 bd6 bd7 ba8 bl9 bo10 .ret).2) (ap h2067 an) rfl
   ·obtain rfl:=Qg h;exact rE Qh [] [some false] [] [0,1,2] [1,3,6,8,12,13,14,15,16] (.norm,(f7n10E bi1 bp2 bd3 bd4 bd5 bd6 bd7 ba8 bl9 bo10 .norm).2) (ap h2067 an) rfl
inductive f7n13O where
 | exit6
 | ret
def f7n13E(bi1:Bool)(bp2:(List Int)×Int)(bd3 bd4 bd5 bd6:Int)(ba7:Qe)(bl8:List Int)(bo9:Qc):f7n13O→Ex×Tr×Hp
 | .exit6=>((.exit 6),mkS [(1,(.bp 0 0)),(3,(jB bi1)),(6,(.pl (.sl .any 1 (bp2.1.map (cInt .i64))))),(8,(.own 1)),(12,(jI bd3)),(13,(jI (wr64 (bd4+bd5)))),(14,(jI bd6))],[some (.box ((Qe.cells ba7).map .pl)),some (.row false 1 (bl8.map (cInt .i64)))])
 | .ret=>(.ret,mkS [(2,(jB false))],[])
def f7n13S(bi1:Bool)(bp2:(List Int)×Int)(bd3 bd4 bd5 bd6:Int)(ba7:Qe)(bl8:List Int)(bo9:Qc)(v2011:Int):Tr×Hp:=(mkS [(1,(.bp 0 0)),(3,(jB bi1)),(6,(.pl (.sl .any 1 (bp2.1.map (cInt .i64))))),(8,(.own 1)),(12,(jI bd3)),(13,(jI (wr64 (bd4+bd5)))),(14,(jI bd6)),(15,(.bp 2 0)),(16,(jI v2011))],[some (.box ((Qe.cells ba7).map .pl)),some (.row false 1 (bl8.map (cInt .i64))),some (.box ((Qc.cells bo9).map .pl))])
noncomputable def f7n13:Nat→Bool→(List Int)×Int→Int→Int→Int→Int→Qe→List Int→Qc→Int→Option f7n13O
 | 0,_,_,_,_,_,_,_,_,_,_=>none
 | f+1,bi1,bp2,bd3,bd4,bd5,bd6,ba7,bl8,bo9,v2011 =>
  bif decide (v2011<(ba7.Bids.length:Int)) then
   (f7n10 bi1 bp2 bd3 bd4 bd5 bd6 v2011 ba7 bl8 bo9).bind fun o2068=>match o2068 with
   | .norm=>(f7n13 f bi1 bp2 bd3 bd4 bd5 bd6 ba7 bl8 bo9 (wr64 (v2011+1)))
   | .ret=>some .ret
  else
   some .exit6
theorem f7n13_ok:∀(f:Nat)(bi1:Bool)(bp2:(List Int)×Int)(bd3 bd4 bd5 bd6:Int)(ba7:Qe)(bl8:List Int)(bo9:Qc)(v2011:Int){o:f7n13O},f7n13 f bi1 bp2 bd3 bd4 bd5 bd6 ba7 bl8 bo9 v2011=some o→TL Try.prog Try.f7.ntmps 0 f (cL (cL (Qk 1 (cL (Qk 1 (Qk 4 (cL (cL (Qk 1 (cL (cL (Qk 1 (cL (Qk 1 (cL (cL (Qk 1 (cL (cL (Qk 1 (cL (Qk 0 (Qk 1 (Qk 2 (Qk 1 (Qk 5 c7)))))))))))))))))))))))))) (f7n13S bi1 bp2 bd3 bd4 bd5 bd6 ba7 bl8 bo9 v2011) (·=f7n13E bi1 bp2 bd3 bd4 bd5 bd6 ba7 bl8 bo9 o)
 | 0,_,_,_,_,_,_,_,_,_,_,o,h=>by rw [f7n13] at h; cases h
 | f+1,bi1,bp2,bd3,bd4,bd5,bd6,ba7,bl8,bo9,v2011,o,h=>by
  rw [f7n13] at h;refine TL.body (K:=fun s=>∃v2011:Int,s=(f7n13S bi1 bp2 bd3 bd4 bd5 bd6 ba7 bl8 bo9 v2011)∧f7n13 f bi1 bp2 bd3 bd4 bd5 bd6 ba7 bl8 bo9 v2011=some o) ?_ (by rintro _ ⟨v2011,rfl,hk⟩; exact f7n13_ok f _ _ _ _ _ _ _ _ _ _ hk);rcases Qj h with ⟨h2013,h⟩|⟨h2013,h⟩
  ·refine rN Qh 1 [([],[],[(3,.val (jI (ba7.Bids.length:Int)))])] [some true] [] [0,1,2] [1,3,6,8,12,13,14,15,16] (f7n10S bi1 bp2 bd3 bd4 bd5 bd6 v2011 ba7 bl8 bo9) (ap (Qaa (xs:=ba7.Bids) (c:=Qc.cells)) (ap h2013 an)) ?_;obtain ⟨o2068,h2069,h⟩:=Qf h;cases o2068 with
   | norm =>
    refine T.oneN (by kernel_rfl) (f7n10_ok bi1 bp2 bd3 bd4 bd5 bd6 v2011 ba7 bl8 bo9 h2069) (st2:=(f7n10E bi1 bp2 bd3 bd4 bd5 bd6 v2011 ba7 bl8 bo9 .norm).2) rfl ?_;exact rE Qh [j3] [] [] [0,1,2] [1,3,6,8,12,13,14,15,16] (.norm,(f7n13S bi1 bp2 bd3 bd4 bd5 bd6 ba7 bl8 bo9 (wr64 (v2011+1)))) an (Qr.norm ⟨(wr64 (v2011+1)),rfl,h⟩)
   | ret =>
    obtain rfl:=Qg h;exact T.oneX' (by kernel_rfl) (f7n10_ok bi1 bp2 bd3 bd4 bd5 bd6 v2011 ba7 bl8 bo9 h2069) (tds:=[]) (m:=[]) (keep:=[2]) (st2:=(f7n13E bi1 bp2 bd3 bd4 bd5 bd6 ba7 bl8 bo9 .ret).2) (by kernel_rfl) an rfl (Qr.out rfl rfl)
  ·obtain rfl:=Qg h;exact rK Qh 1 [([],[],[(3,.val (jI (ba7.Bids.length:Int)))])] [some false] [] [0,1] [1,3,6,8,12,13,14] (.exit 6) ((f7n13E bi1 bp2 bd3 bd4 bd5 bd6 ba7 bl8 bo9 .exit6).2) (ap (Qaa (xs:=ba7.Bids) (c:=Qc.cells)) (ap h2013 an)) (Qr.out rfl rfl)
inductive f7n9O where
 | norm
 | ret
def f7n9E(bi1:Bool)(bp2:(List Int)×Int)(bd3 bd4 bd5 bd6:Int)(ba7:Qe)(bl8:List Int)(bo9:Qc):f7n9O→Ex×Tr×Hp
 | .norm=>(.norm,mkS [(1,(.bp 0 0)),(3,(jB bi1)),(6,(.pl (.sl .any 1 (bp2.1.map (cInt .i64))))),(8,(.own 1)),(12,(jI bd3)),(13,(jI (wr64 (bd4+bd5)))),(14,(jI bd6))],[some (.box ((Qe.cells ba7).map .pl)),some (.row false 1 (bl8.map (cInt .i64)))])
 | .ret=>(.ret,mkS [(2,(jB false))],[])
def f7n9S(bi1:Bool)(bp2:(List Int)×Int)(bd3 bd4 bd5 bd6:Int)(ba7:Qe)(bl8:List Int)(bo9:Qc):Tr×Hp:=(mkS [(1,(.bp 0 0)),(3,(jB bi1)),(6,(.pl (.sl .any 1 (bp2.1.map (cInt .i64))))),(8,(.own 1)),(12,(jI bd3)),(13,(jI (wr64 (bd4+bd5)))),(14,(jI bd6)),(15,(.bp 2 0))],[some (.box ((Qe.cells ba7).map .pl)),some (.row false 1 (bl8.map (cInt .i64))),some (.box ((Qc.cells bo9).map .pl))])
noncomputable def f7n9(bi1:Bool)(bp2:(List Int)×Int)(bd3 bd4 bd5 bd6:Int)(ba7:Qe)(bl8:List Int)(bo9:Qc):Option f7n9O :=
 (f7n13 FUEL bi1 bp2 bd3 bd4 bd5 bd6 ba7 bl8 bo9 0).bind fun o2070=>match o2070 with
 | .exit6=>some .norm
 | .ret=>some .ret
theorem f7n9_ok(bi1:Bool)(bp2:(List Int)×Int)(bd3 bd4 bd5 bd6:Int)(ba7:Qe)(bl8:List Int)(bo9:Qc){o:f7n9O}(h:f7n9 bi1 bp2 bd3 bd4 bd5 bd6 ba7 bl8 bo9=some o):T Try.prog Try.f7.ntmps 0 (cL (Qk 1 (Qk 4 (cL (cL (Qk 1 (cL (cL (Qk 1 (cL (Qk 1 (cL (cL (Qk 1 (cL (cL (Qk 1 (cL (Qk 0 (Qk 1 (Qk 2 (Qk 1 (Qk 5 c7))))))))))))))))))))))) (f7n9S bi1 bp2 bd3 bd4 bd5 bd6 ba7 bl8 bo9) (·=f7n9E bi1 bp2 bd3 bd4 bd5 bd6 ba7 bl8 bo9 o):=by
 unfold f7n9 at h;refine rN Qh 1 [j3] [] [] [0,1,2] [1,3,6,8,12,13,14,15,16] (f7n13S bi1 bp2 bd3 bd4 bd5 bd6 ba7 bl8 bo9 0) an ?_;obtain ⟨o2070,h2071,h⟩:=Qf h;cases o2070 with
 | exit6 =>
  obtain rfl:=Qg h;exact T.last' (T.bl (i:=6) (by kernel_rfl) (by kernel_rfl) (f7n13_ok FUEL bi1 bp2 bd3 bd4 bd5 bd6 ba7 bl8 bo9 0 h2071)) (tds:=[]) (m:=[0,1]) (keep:=[1,3,6,8,12,13,14]) (st2:=(f7n9E bi1 bp2 bd3 bd4 bd5 bd6 ba7 bl8 bo9 .norm).2) (by kernel_rfl) an rfl
 | ret =>
  obtain rfl:=Qg h;exact T.last' (T.bl (i:=6) (by kernel_rfl) (by kernel_rfl) (f7n13_ok FUEL bi1 bp2 bd3 bd4 bd5 bd6 ba7 bl8 bo9 0 h2071)) (tds:=[]) (m:=[]) (keep:=[2]) (st2:=(f7n9E bi1 bp2 bd3 bd4 bd5 bd6 ba7 bl8 bo9 .ret).2) (by kernel_rfl) an rfl
inductive f7n8O where
 | norm (v2080:Int)
 | ret
def f7n8E(bi1:Bool)(bp2:(List Int)×Int)(bd3 bd4 bd5:Int)(ba6:Qe)(bl7:List Int):f7n8O→Ex×Tr×Hp
 | .norm v2080=>(.norm,mkS [(1,(.bp 0 0)),(3,(jB bi1)),(6,(.pl (.sl .any 1 (bp2.1.map (cInt .i64))))),(8,(.own 1)),(12,(jI bd3)),(13,(jI v2080)),(14,(jI bd5))],[some (.box ((Qe.cells ba6).map .pl)),some (.row false 1 (bl7.map (cInt .i64)))])
 | .ret=>(.ret,mkS [(2,(jB false))],[])
def f7n8S(bi1:Bool)(bp2:(List Int)×Int)(bd3 bd4 bd5:Int)(ba6:Qe)(bl7:List Int):Tr×Hp:=(mkS [(1,(.bp 0 0)),(3,(jB bi1)),(6,(.pl (.sl .any 1 (bp2.1.map (cInt .i64))))),(8,(.own 1)),(12,(jI bd3)),(13,(jI bd4)),(14,(jI bd5))],[some (.box ((Qe.cells ba6).map .pl)),some (.row false 1 (bl7.map (cInt .i64)))])
noncomputable def f7n8(bi1:Bool)(bp2:(List Int)×Int)(bd3 bd4 bd5:Int)(ba6:Qe)(bl7:List Int):Option f7n8O :=
 (at? ba6.Bids bd5).bind fun x1876 =>
 (at? ba6.Lots bd3).bind fun x1881 =>
 bif (seq x1876.Lot x1881.Name) then
  (at? bl7 bd5).bind fun x1886 =>
  bif decide (x1876.Price<x1881.Reserve) then
   bif decide (x1886=0) then
    some (.norm (wr64 (bd4+x1886)))
   else
    some .ret
  else
   bif decide (x1886=x1876.Units) then
    some (.norm (wr64 (bd4+x1886)))
   else
    (f7n9 bi1 bp2 bd3 bd4 x1886 bd5 ba6 bl7 x1876).bind fun o2072=>match o2072 with
    | .norm=>(at? bp2.1 bd3).bind fun x2076 =>
     bif decide (x2076=0) then
      some (.norm (wr64 (bd4+x1886)))
     else
      some .ret
    | .ret=>some .ret
 else
  some (.norm bd4)
theorem f7n8_ok(bi1:Bool)(bp2:(List Int)×Int)(bd3 bd4 bd5:Int)(ba6:Qe)(bl7:List Int){o:f7n8O}(h:f7n8 bi1 bp2 bd3 bd4 bd5 ba6 bl7=some o):T Try.prog Try.f7.ntmps 0 (cL (Qk 1 (cL (cL (Qk 1 (cL (Qk 1 (cL (cL (Qk 1 (cL (cL (Qk 1 (cL (Qk 0 (Qk 1 (Qk 2 (Qk 1 (Qk 5 c7))))))))))))))))))) (f7n8S bi1 bp2 bd3 bd4 bd5 ba6 bl7) (·=f7n8E bi1 bp2 bd3 bd4 bd5 ba6 bl7 o):=by
 unfold f7n8 at h;refine T.block' (i:=5) (by kernel_rfl) ?_;obtain ⟨x1876,h1877,h⟩:=Qf h;obtain ⟨x1881,h1882,h⟩:=Qf h;rcases Qj h with ⟨h1883,h⟩|⟨h1883,h⟩
 ·obtain ⟨x1886,h1887,h⟩:=Qf h;rcases Qj h with ⟨h1890,h⟩|⟨h1890,h⟩
  ·rcases Qj h with ⟨h1891,h⟩|⟨h1891,h⟩
   ·obtain rfl:=Qg h
    exact rK Qh 4 [([],[(3,.idx (Int.toNat bd5) (Qc.cells x1876))],[]),([],[(5,.idx (Int.toNat bd3) (Qa.cells x1881))],[]),([],[(3,.at_ (Int.toNat bd5)),(4,.idx 0 ((cInt .i64) x1886))],[]),([],[(5,.idx (Int.toNat bd3) (Qa.cells x1881))],[]),([],[(2,.at_ (Int.toNat bd5)),(3,.idx 0 ((cInt .i64) x1886))],[])] [some false,some true,some false] [] [0,1] [1,3,6,8,12,13,14] (.exit 5) ((f7n8E bi1 bp2 bd3 bd4 bd5 ba6 bl7 (.norm (wr64 (bd4+x1886)))).2) (ap (Qi h1877).1 (ap (Qn Qc.cells (Qi h1877).2) (ap (Qi h1882).1 (ap (Qn Qa.cells (Qi h1882).2) (ap (Qao h1883) (ap (Qi h1887).1 (ap (Qad (cInt .i64) (Qi h1887).2) (ap (Qn (cInt .i64) (Qi h1887).2) (ap (Qi h1882).1 (ap (Qn Qa.cells (Qi h1882).2) (ap h1890 (ap (Qi h1887).1 (ap (Qad (cInt .i64) (Qi h1887).2) (ap (Qn (cInt .i64) (Qi h1887).2) (ap (Qao h1891) an))))))))))))))) rfl
   ·obtain rfl:=Qg h
    exact rK Qh 4 [([],[(3,.idx (Int.toNat bd5) (Qc.cells x1876))],[]),([],[(5,.idx (Int.toNat bd3) (Qa.cells x1881))],[]),([],[(3,.at_ (Int.toNat bd5)),(4,.idx 0 ((cInt .i64) x1886))],[]),([],[(5,.idx (Int.toNat bd3) (Qa.cells x1881))],[]),([],[(2,.at_ (Int.toNat bd5)),(3,.idx 0 ((cInt .i64) x1886))],[]),j3] [some false,some true,some true] [] [] [2] .ret ((f7n8E bi1 bp2 bd3 bd4 bd5 ba6 bl7 .ret).2) (ap (Qi h1877).1 (ap (Qn Qc.cells (Qi h1877).2) (ap (Qi h1882).1 (ap (Qn Qa.cells (Qi h1882).2) (ap (Qao h1883) (ap (Qi h1887).1 (ap (Qad (cInt .i64) (Qi h1887).2) (ap (Qn (cInt .i64) (Qi h1887).2) (ap (Qi h1882).1 (ap (Qn Qa.cells (Qi h1882).2) (ap h1890 (ap (Qi h1887).1 (ap (Qad (cInt .i64) (Qi h1887).2) (ap (Qn (cInt .i64) (Qi h1887).2) (ap (Qaw h1891) an))))))))))))))) rfl
  ·refine rN Qh 4 [([],[(3,.idx (Int.toNat bd5) (Qc.cells x1876))],[]),([],[(5,.idx (Int.toNat bd3) (Qa.cells x1881))],[]),([],[(3,.at_ (Int.toNat bd5)),(4,.idx 0 ((cInt .i64) x1886))],[]),([],[(5,.idx (Int.toNat bd3) (Qa.cells x1881))],[])] [some false,some false] [] [0,1,2] [1,3,6,8,12,13,14,15] (mkS [(1,(.bp 0 0)),(3,(jB bi1)),(6,(.pl (.sl .any 1 (bp2.1.map (cInt .i64))))),(8,(.own 1)),(12,(jI bd3)),(13,(jI (wr64 (bd4+x1886)))),(14,(jI bd5)),(15,(.bp 2 0))],[some (.box ((Qe.cells ba6).map .pl)),some (.row false 1 (bl7.map (cInt .i64))),some (.box ((Qc.cells x1876).map .pl))]) (ap (Qi h1877).1 (ap (Qn Qc.cells (Qi h1877).2) (ap (Qi h1882).1 (ap (Qn Qa.cells (Qi h1882).2) (ap (Qao h1883) (ap (Qi h1887).1 (ap (Qad (cInt .i64) (Qi h1887).2) (ap (Qn (cInt .i64) (Qi h1887).2) (ap (Qi h1882).1 (ap (Qn Qa.cells (Qi h1882).2) (ap h1890 an))))))))))) ?_
   rcases Qj h with ⟨h1893,h⟩|⟨h1893,h⟩
   ·obtain rfl:=Qg h;exact rK Qh 1 [([],[(2,.at_ (Int.toNat bd5)),(3,.idx 0 ((cInt .i64) x1886))],[])] [some true] [] [0,1] [1,3,6,8,12,13,14] (.exit 5) ((f7n8E bi1 bp2 bd3 bd4 bd5 ba6 bl7 (.norm (wr64 (bd4+x1886)))).2) (ap (Qi h1887).1 (ap (Qad (cInt .i64) (Qi h1887).2) (ap (Qn (cInt .i64) (Qi h1887).2) (ap h1893 an)))) rfl
   ·refine rN Qh 1 [([],[(2,.at_ (Int.toNat bd5)),(3,.idx 0 ((cInt .i64) x1886))],[])] [some false] [] [0,1,2] [1,3,6,8,12,13,14,15] (f7n9S bi1 bp2 bd3 bd4 x1886 bd5 ba6 bl7 x1876) (ap (Qi h1887).1 (ap (Qad (cInt .i64) (Qi h1887).2) (ap (Qn (cInt .i64) (Qi h1887).2) (ap h1893 an)))) ?_;obtain ⟨o2072,h2073,h⟩:=Qf h;cases o2072 with
    | norm =>
     refine T.oneN (by kernel_rfl) (f7n9_ok bi1 bp2 bd3 bd4 x1886 bd5 ba6 bl7 x1876 h2073) (st2:=(f7n9E bi1 bp2 bd3 bd4 x1886 bd5 ba6 bl7 x1876 .norm).2) rfl ?_;obtain ⟨x2076,h2077,h⟩:=Qf h;rcases Qj h with ⟨h2079,h⟩|⟨h2079,h⟩
     ·obtain rfl:=Qg h;exact rE Qh [([],[(2,.idx (Int.toNat bd3) ((cInt .i64) x2076))],[])] [some false] [] [0,1] [1,3,6,8,12,13,14] (.norm,(f7n8E bi1 bp2 bd3 bd4 bd5 ba6 bl7 (.norm (wr64 (bd4+x1886)))).2) (ap (Qi h2077).1 (ap (Qn (cInt .i64) (Qi h2077).2) (ap (Qao h2079) an))) rfl
     ·obtain rfl:=Qg h;exact rE Qh [([],[(2,.idx (Int.toNat bd3) ((cInt .i64) x2076))],[]),j3] [some true] [] [] [2] (.ret,(f7n8E bi1 bp2 bd3 bd4 bd5 ba6 bl7 .ret).2) (ap (Qi h2077).1 (ap (Qn (cInt .i64) (Qi h2077).2) (ap (Qaw h2079) an))) rfl
    | ret =>
     obtain rfl:=Qg h;exact T.oneX' (by kernel_rfl) (f7n9_ok bi1 bp2 bd3 bd4 x1886 bd5 ba6 bl7 x1876 h2073) (tds:=[]) (m:=[]) (keep:=[2]) (st2:=(f7n8E bi1 bp2 bd3 bd4 bd5 ba6 bl7 .ret).2) (by kernel_rfl) an rfl rfl
 ·obtain rfl:=Qg h;exact rK Qh 2 [([],[(3,.idx (Int.toNat bd5) (Qc.cells x1876))],[]),([],[(5,.idx (Int.toNat bd3) (Qa.cells x1881))],[])] [some true] [] [0,1] [1,3,6,8,12,13,14] (.exit 5) ((f7n8E bi1 bp2 bd3 bd4 bd5 ba6 bl7 (.norm bd4)).2) (ap (Qi h1877).1 (ap (Qn Qc.cells (Qi h1877).2) (ap (Qi h1882).1 (ap (Qn Qa.cells (Qi h1882).2) (ap (Qaw h1883) an))))) rfl
inductive f7n14O where
 | exit4 (v2084:Int)
 | ret
def f7n14E(bi1:Bool)(bp2:(List Int)×Int)(bd3:Int)(ba4:Qe)(bl5:List Int):f7n14O→Ex×Tr×Hp
 | .exit4 v2084=>((.exit 4),mkS [(1,(.bp 0 0)),(3,(jB bi1)),(6,(.pl (.sl .any 1 (bp2.1.map (cInt .i64))))),(8,(.own 1)),(12,(jI bd3)),(13,(jI v2084))],[some (.box ((Qe.cells ba4).map .pl)),some (.row false 1 (bl5.map (cInt .i64)))])
 | .ret=>(.ret,mkS [(2,(jB false))],[])
def f7n14S(bi1:Bool)(bp2:(List Int)×Int)(bd3:Int)(ba4:Qe)(bl5:List Int)(v1870 v1871:Int):Tr×Hp:=(mkS [(1,(.bp 0 0)),(3,(jB bi1)),(6,(.pl (.sl .any 1 (bp2.1.map (cInt .i64))))),(8,(.own 1)),(12,(jI bd3)),(13,(jI v1870)),(14,(jI v1871))],[some (.box ((Qe.cells ba4).map .pl)),some (.row false 1 (bl5.map (cInt .i64)))])
noncomputable def f7n14:Nat→Bool→(List Int)×Int→Int→Qe→List Int→Int→Int→Option f7n14O
 | 0,_,_,_,_,_,_,_=>none
 | f+1,bi1,bp2,bd3,ba4,bl5,v1870,v1871 =>
  bif decide (v1871<(ba4.Bids.length:Int)) then
   (f7n8 bi1 bp2 bd3 v1870 v1871 ba4 bl5).bind fun o2081=>match o2081 with
   | .norm v2083=>(f7n14 f bi1 bp2 bd3 ba4 bl5 v2083 (wr64 (v1871+1)))
   | .ret=>some .ret
  else
   some (.exit4 v1870)
theorem f7n14_ok:∀(f:Nat)(bi1:Bool)(bp2:(List Int)×Int)(bd3:Int)(ba4:Qe)(bl5:List Int)(v1870 v1871:Int){o:f7n14O},f7n14 f bi1 bp2 bd3 ba4 bl5 v1870 v1871=some o→TL Try.prog Try.f7.ntmps 0 f (cL (cL (Qk 1 (cL (Qk 1 (cL (cL (Qk 1 (cL (cL (Qk 1 (cL (Qk 0 (Qk 1 (Qk 2 (Qk 1 (Qk 5 c7))))))))))))))))) (f7n14S bi1 bp2 bd3 ba4 bl5 v1870 v1871) (·=f7n14E bi1 bp2 bd3 ba4 bl5 o)
 | 0,_,_,_,_,_,_,_,o,h=>by rw [f7n14] at h; cases h
 | f+1,bi1,bp2,bd3,ba4,bl5,v1870,v1871,o,h=>by
  rw [f7n14] at h;refine TL.body (K:=fun s=>∃v1870:Int,∃v1871:Int,s=(f7n14S bi1 bp2 bd3 ba4 bl5 v1870 v1871)∧f7n14 f bi1 bp2 bd3 ba4 bl5 v1870 v1871=some o) ?_ (by rintro _ ⟨v1870,v1871,rfl,hk⟩; exact f7n14_ok f _ _ _ _ _ _ _ hk);rcases Qj h with ⟨h1873,h⟩|⟨h1873,h⟩
  ·refine rN Qh 1 [([],[],[(3,.val (jI (ba4.Bids.length:Int)))])] [some true] [] [0,1] [1,3,6,8,12,13,14] (f7n8S bi1 bp2 bd3 v1870 v1871 ba4 bl5) (ap (Qaa (xs:=ba4.Bids) (c:=Qc.cells)) (ap h1873 an)) ?_;obtain ⟨o2081,h2082,h⟩:=Qf h;cases o2081 with
   | norm v2083 =>
    refine T.oneN (by kernel_rfl) (f7n8_ok bi1 bp2 bd3 v1870 v1871 ba4 bl5 h2082) (st2:=(f7n8E bi1 bp2 bd3 v1870 v1871 ba4 bl5 (.norm v2083)).2) rfl ?_;exact rE Qh [j3] [] [] [0,1] [1,3,6,8,12,13,14] (.norm,(f7n14S bi1 bp2 bd3 ba4 bl5 v2083 (wr64 (v1871+1)))) an (Qr.norm ⟨v2083,(wr64 (v1871+1)),rfl,h⟩)
   | ret =>
    obtain rfl:=Qg h;exact T.oneX' (by kernel_rfl) (f7n8_ok bi1 bp2 bd3 v1870 v1871 ba4 bl5 h2082) (tds:=[]) (m:=[]) (keep:=[2]) (st2:=(f7n14E bi1 bp2 bd3 ba4 bl5 .ret).2) (by kernel_rfl) an rfl (Qr.out rfl rfl)
  ·obtain rfl:=Qg h;exact rK Qh 1 [([],[],[(3,.val (jI (ba4.Bids.length:Int)))])] [some false] [] [0,1] [1,3,6,8,12,13] (.exit 4) ((f7n14E bi1 bp2 bd3 ba4 bl5 (.exit4 v1870)).2) (ap (Qaa (xs:=ba4.Bids) (c:=Qc.cells)) (ap h1873 an)) (Qr.out rfl rfl)
inductive f7n7O where
 | norm (v2088:Int)
 | ret
def f7n7E(bi1:Bool)(bp2:(List Int)×Int)(bd3:Int)(ba4:Qe)(bl5:List Int):f7n7O→Ex×Tr×Hp
 | .norm v2088=>(.norm,mkS [(1,(.bp 0 0)),(3,(jB bi1)),(6,(.pl (.sl .any 1 (bp2.1.map (cInt .i64))))),(8,(.own 1)),(12,(jI bd3)),(13,(jI v2088))],[some (.box ((Qe.cells ba4).map .pl)),some (.row false 1 (bl5.map (cInt .i64)))])
 | .ret=>(.ret,mkS [(2,(jB false))],[])
def f7n7S(bi1:Bool)(bp2:(List Int)×Int)(bd3:Int)(ba4:Qe)(bl5:List Int):Tr×Hp:=(mkS [(1,(.bp 0 0)),(3,(jB bi1)),(6,(.pl (.sl .any 1 (bp2.1.map (cInt .i64))))),(8,(.own 1)),(12,(jI bd3)),(13,(jI 0))],[some (.box ((Qe.cells ba4).map .pl)),some (.row false 1 (bl5.map (cInt .i64)))])
noncomputable def f7n7(bi1:Bool)(bp2:(List Int)×Int)(bd3:Int)(ba4:Qe)(bl5:List Int):Option f7n7O :=
 (f7n14 FUEL bi1 bp2 bd3 ba4 bl5 0 0).bind fun o2085=>match o2085 with
 | .exit4 v2087=>some (.norm v2087)
 | .ret=>some .ret
theorem f7n7_ok(bi1:Bool)(bp2:(List Int)×Int)(bd3:Int)(ba4:Qe)(bl5:List Int){o:f7n7O}(h:f7n7 bi1 bp2 bd3 ba4 bl5=some o):T Try.prog Try.f7.ntmps 0 (cL (Qk 1 (cL (cL (Qk 1 (cL (cL (Qk 1 (cL (Qk 0 (Qk 1 (Qk 2 (Qk 1 (Qk 5 c7)))))))))))))) (f7n7S bi1 bp2 bd3 ba4 bl5) (·=f7n7E bi1 bp2 bd3 ba4 bl5 o):=by
 unfold f7n7 at h;refine rN Qh 1 [j3] [] [] [0,1] [1,3,6,8,12,13,14] (f7n14S bi1 bp2 bd3 ba4 bl5 0 0) an ?_;obtain ⟨o2085,h2086,h⟩:=Qf h;cases o2085 with
 | exit4 v2087 =>
  obtain rfl:=Qg h;exact T.last' (T.bl (i:=4) (by kernel_rfl) (by kernel_rfl) (f7n14_ok FUEL bi1 bp2 bd3 ba4 bl5 0 0 h2086)) (tds:=[]) (m:=[0,1]) (keep:=[1,3,6,8,12,13]) (st2:=(f7n7E bi1 bp2 bd3 ba4 bl5 (.norm v2087)).2) (by kernel_rfl) an rfl
 | ret =>
  obtain rfl:=Qg h;exact T.last' (T.bl (i:=4) (by kernel_rfl) (by kernel_rfl) (f7n14_ok FUEL bi1 bp2 bd3 ba4 bl5 0 0 h2086)) (tds:=[]) (m:=[]) (keep:=[2]) (st2:=(f7n7E bi1 bp2 bd3 ba4 bl5 .ret).2) (by kernel_rfl) an rfl
inductive f7n15O where
 | norm (v2107:Bool)
def f7n15E(bi1:Bool)(bp2:(List Int)×Int)(bd3 bd4:Int)(ba5:Qe)(bl6:List Int):f7n15O→Ex×Tr×Hp
 | .norm v2107=>(.norm,mkS [(1,(.bp 0 0)),(3,(jB bi1)),(6,(.pl (.sl .any 1 (bp2.1.map (cInt .i64))))),(8,(.own 1)),(12,(jI bd3)),(227,(jB v2107))],[some (.box ((Qe.cells ba5).map .pl)),some (.row false 1 (bl6.map (cInt .i64)))])
def f7n15S(bi1:Bool)(bp2:(List Int)×Int)(bd3 bd4:Int)(ba5:Qe)(bl6:List Int):Tr×Hp:=(mkS [(1,(.bp 0 0)),(3,(jB bi1)),(6,(.pl (.sl .any 1 (bp2.1.map (cInt .i64))))),(8,(.own 1)),(12,(jI bd3)),(13,(jI bd4))],[some (.box ((Qe.cells ba5).map .pl)),some (.row false 1 (bl6.map (cInt .i64)))])
noncomputable def f7n15(bi1:Bool)(bp2:(List Int)×Int)(bd3 bd4:Int)(ba5:Qe)(bl6:List Int):Option f7n15O :=
 (at? bp2.1 bd3).bind fun x2102 =>
 bif decide (x2102<0) then
  some (.norm true)
 else
  (at? ba5.Lots bd3).bind fun x2105 =>
  some (.norm (!(decide ((wr64 (bd4+x2102))=x2105.Units))))
theorem f7n15_ok(bi1:Bool)(bp2:(List Int)×Int)(bd3 bd4:Int)(ba5:Qe)(bl6:List Int){o:f7n15O}(h:f7n15 bi1 bp2 bd3 bd4 ba5 bl6=some o):T Try.prog Try.f7.ntmps 0 (cL (Qk 0 (Qk 1 (Qk 1 (cL (cL (Qk 1 (cL (cL (Qk 1 (cL (Qk 0 (Qk 1 (Qk 2 (Qk 1 (Qk 5 c7)))))))))))))))) (f7n15S bi1 bp2 bd3 bd4 ba5 bl6) (·=f7n15E bi1 bp2 bd3 bd4 ba5 bl6 o):=by
 unfold f7n15 at h;obtain ⟨x2102,h2103,h⟩:=Qf h;rcases Qj h with ⟨h2104,h⟩|⟨h2104,h⟩
 ·obtain rfl:=Qg h;exact rE Qh [(jT [6,7,8,9,10,11,12,13,14,15,16,17,18],[(2,.idx (Int.toNat bd3) ((cInt .i64) x2102)),(19,.bool true)],[])] [] [] [0,1] [1,3,6,8,12,227] (.norm,(f7n15E bi1 bp2 bd3 bd4 ba5 bl6 (.norm true)).2) (ap (Qi h2103).1 (ap (Qn (cInt .i64) (Qi h2103).2) (ap2 h2104 (ap4 h2104 (ap4 h2104 (ap4 h2104 an)))))) rfl
 ·obtain ⟨x2105,h2106,h⟩:=Qf h;obtain rfl:=Qg h;exact rE Qh [(jF [6,7,8,9,10,11,12,13,14,15,16,17,18],[(2,.idx (Int.toNat bd3) ((cInt .i64) x2102)),(9,.idx (Int.toNat bd3) ((cInt .i64) x2102)),(15,.idx (Int.toNat bd3) (Qa.cells x2105)),(19,.bool false)],[])] [] [] [0,1] [1,3,6,8,12,227] (.norm,(f7n15E bi1 bp2 bd3 bd4 ba5 bl6 (.norm (!(decide ((wr64 (bd4+x2102))=x2105.Units))))).2) (ap (Qi h2103).1 (ap (Qn (cInt .i64) (Qi h2103).2) (ap4 h2104 (ap (Qi h2103).1 (ap (Qn (cInt .i64) (Qi h2103).2) (ap2 h2104 (ap4 h2104 (ap (Qi h2106).1 (ap (Qn Qa.cells (Qi h2106).2) (ap4 h2104 an)))))))))) rfl
inductive f7n6O where
 | norm
 | ret
def f7n6E(bi1:Bool)(bp2:(List Int)×Int)(bd3:Int)(ba4:Qe)(bl5:List Int):f7n6O→Ex×Tr×Hp
 | .norm=>(.norm,mkS [(1,(.bp 0 0)),(3,(jB bi1)),(6,(.pl (.sl .any 1 (bp2.1.map (cInt .i64))))),(8,(.own 1)),(12,(jI bd3))],[some (.box ((Qe.cells ba4).map .pl)),some (.row false 1 (bl5.map (cInt .i64)))])
 | .ret=>(.ret,mkS [(2,(jB false))],[])
def f7n6S(bi1:Bool)(bp2:(List Int)×Int)(bd3:Int)(ba4:Qe)(bl5:List Int):Tr×Hp:=(mkS [(1,(.bp 0 0)),(3,(jB bi1)),(6,(.pl (.sl .any 1 (bp2.1.map (cInt .i64))))),(8,(.own 1)),(12,(jI bd3))],[some (.box ((Qe.cells ba4).map .pl)),some (.row false 1 (bl5.map (cInt .i64)))])
noncomputable def f7n6(bi1:Bool)(bp2:(List Int)×Int)(bd3:Int)(ba4:Qe)(bl5:List Int):Option f7n6O :=
 (f7n7 bi1 bp2 bd3 ba4 bl5).bind fun o2089=>match o2089 with
 | .norm v2091=>(f7n15 bi1 bp2 bd3 v2091 ba4 bl5).bind fun o2108=>match o2108 with
  | .norm v2110=>bif v2110 then
    some .ret
   else
    some .norm
 | .ret=>some .ret
theorem f7n6_ok(bi1:Bool)(bp2:(List Int)×Int)(bd3:Int)(ba4:Qe)(bl5:List Int){o:f7n6O}(h:f7n6 bi1 bp2 bd3 ba4 bl5=some o):T Try.prog Try.f7.ntmps 0 (cL (Qk 1 (cL (cL (Qk 1 (cL (Qk 0 (Qk 1 (Qk 2 (Qk 1 (Qk 5 c7))))))))))) (f7n6S bi1 bp2 bd3 ba4 bl5) (·=f7n6E bi1 bp2 bd3 ba4 bl5 o):=by
 unfold f7n6 at h;refine T.block' (i:=3) (by kernel_rfl) ?_;refine rN Qh 1 [j3] [] [] [0,1] [1,3,6,8,12,13] (f7n7S bi1 bp2 bd3 ba4 bl5) an ?_;obtain ⟨o2089,h2090,h⟩:=Qf h;cases o2089 with
 | norm v2091 =>
  refine T.oneN (by kernel_rfl) (f7n7_ok bi1 bp2 bd3 ba4 bl5 h2090) (st2:=(f7n7E bi1 bp2 bd3 ba4 bl5 (.norm v2091)).2) rfl ?_;refine rN Qh 0 [] [] [] [0,1] [1,3,6,8,12,13] (f7n15S bi1 bp2 bd3 v2091 ba4 bl5) an ?_;obtain ⟨o2108,h2109,h⟩:=Qf h;cases o2108 with
  | norm v2110 =>
   refine T.oneN (by kernel_rfl) (f7n15_ok bi1 bp2 bd3 v2091 ba4 bl5 h2109) (st2:=(f7n15E bi1 bp2 bd3 v2091 ba4 bl5 (.norm v2110)).2) rfl ?_;rcases Qj h with ⟨h2112,h⟩|⟨h2112,h⟩
   ·obtain rfl:=Qg h;exact rE Qh [j3] [some true] [] [] [2] (.ret,(f7n6E bi1 bp2 bd3 ba4 bl5 .ret).2) (ap h2112 an) rfl
   ·obtain rfl:=Qg h;exact rE Qh [] [some false] [] [0,1] [1,3,6,8,12] (.norm,(f7n6E bi1 bp2 bd3 ba4 bl5 .norm).2) (ap h2112 an) rfl
 | ret =>
  obtain rfl:=Qg h;exact T.oneX' (by kernel_rfl) (f7n7_ok bi1 bp2 bd3 ba4 bl5 h2090) (tds:=[]) (m:=[]) (keep:=[2]) (st2:=(f7n6E bi1 bp2 bd3 ba4 bl5 .ret).2) (by kernel_rfl) an rfl rfl
inductive f7n16O where
 | exit2
 | ret
def f7n16E(bi1:Bool)(bp2:(List Int)×Int)(ba3:Qe)(bl4:List Int):f7n16O→Ex×Tr×Hp
 | .exit2=>((.exit 2),mkS [(3,(jB bi1))],[])
 | .ret=>(.ret,mkS [(2,(jB false))],[])
def f7n16S(bi1:Bool)(bp2:(List Int)×Int)(ba3:Qe)(bl4:List Int)(v1445:Int):Tr×Hp:=(mkS [(1,(.bp 0 0)),(3,(jB bi1)),(6,(.pl (.sl .any 1 (bp2.1.map (cInt .i64))))),(8,(.own 1)),(12,(jI v1445))],[some (.box ((Qe.cells ba3).map .pl)),some (.row false 1 (bl4.map (cInt .i64)))])
noncomputable def f7n16:Nat→Bool→(List Int)×Int→Qe→List Int→Int→Option f7n16O
 | 0,_,_,_,_,_=>none
 | f+1,bi1,bp2,ba3,bl4,v1445 =>
  bif decide (v1445<(ba3.Lots.length:Int)) then
   (f7n6 bi1 bp2 v1445 ba3 bl4).bind fun o2113=>match o2113 with
   | .norm=>(f7n16 f bi1 bp2 ba3 bl4 (wr64 (v1445+1)))
   | .ret=>some .ret
  else
   some .exit2
theorem f7n16_ok:∀(f:Nat)(bi1:Bool)(bp2:(List Int)×Int)(ba3:Qe)(bl4:List Int)(v1445:Int){o:f7n16O},f7n16 f bi1 bp2 ba3 bl4 v1445=some o→TL Try.prog Try.f7.ntmps 0 f (cL (cL (Qk 1 (cL (Qk 0 (Qk 1 (Qk 2 (Qk 1 (Qk 5 c7))))))))) (f7n16S bi1 bp2 ba3 bl4 v1445) (·=f7n16E bi1 bp2 ba3 bl4 o)
 | 0,_,_,_,_,_,o,h=>by rw [f7n16] at h; cases h
 | f+1,bi1,bp2,ba3,bl4,v1445,o,h=>by
  rw [f7n16] at h;refine TL.body (K:=fun s=>∃v1445:Int,s=(f7n16S bi1 bp2 ba3 bl4 v1445)∧f7n16 f bi1 bp2 ba3 bl4 v1445=some o) ?_ (by rintro _ ⟨v1445,rfl,hk⟩; exact f7n16_ok f _ _ _ _ _ hk);rcases Qj h with ⟨h1447,h⟩|⟨h1447,h⟩
  ·refine rN Qh 1 [([],[],[(3,.val (jI (ba3.Lots.length:Int)))])] [some true] [] [0,1] [1,3,6,8,12] (f7n6S bi1 bp2 v1445 ba3 bl4) (ap (Qaa (xs:=ba3.Lots) (c:=Qa.cells)) (ap h1447 an)) ?_;obtain ⟨o2113,h2114,h⟩:=Qf h;cases o2113 with
   | norm =>
    refine T.oneN (by kernel_rfl) (f7n6_ok bi1 bp2 v1445 ba3 bl4 h2114) (st2:=(f7n6E bi1 bp2 v1445 ba3 bl4 .norm).2) rfl ?_;exact rE Qh [j3] [] [] [0,1] [1,3,6,8,12] (.norm,(f7n16S bi1 bp2 ba3 bl4 (wr64 (v1445+1)))) an (Qr.norm ⟨(wr64 (v1445+1)),rfl,h⟩)
   | ret =>
    obtain rfl:=Qg h;exact T.oneX' (by kernel_rfl) (f7n6_ok bi1 bp2 v1445 ba3 bl4 h2114) (tds:=[]) (m:=[]) (keep:=[2]) (st2:=(f7n16E bi1 bp2 ba3 bl4 .ret).2) (by kernel_rfl) an rfl (Qr.out rfl rfl)
  ·obtain rfl:=Qg h;exact rK Qh 1 [([],[],[(3,.val (jI (ba3.Lots.length:Int)))])] [some false] [] [] [3] (.exit 2) ((f7n16E bi1 bp2 ba3 bl4 .exit2).2) (ap (Qaa (xs:=ba3.Lots) (c:=Qa.cells)) (ap h1447 an)) (Qr.out rfl rfl)
inductive f7n5O where
 | norm
 | ret
def f7n5E(bi1:Bool)(bp2:(List Int)×Int)(ba3:Qe)(bl4:List Int):f7n5O→Ex×Tr×Hp
 | .norm=>(.norm,mkS [(3,(jB bi1))],[])
 | .ret=>(.ret,mkS [(2,(jB false))],[])
def f7n5S(bi1:Bool)(bp2:(List Int)×Int)(ba3:Qe)(bl4:List Int):Tr×Hp:=(mkS [(1,(.bp 0 0)),(3,(jB bi1)),(6,(.pl (.sl .any 1 (bp2.1.map (cInt .i64))))),(8,(.own 1))],[some (.box ((Qe.cells ba3).map .pl)),some (.row false 1 (bl4.map (cInt .i64)))])
noncomputable def f7n5(bi1:Bool)(bp2:(List Int)×Int)(ba3:Qe)(bl4:List Int):Option f7n5O :=
 (f7n16 FUEL bi1 bp2 ba3 bl4 0).bind fun o2115=>match o2115 with
 | .exit2=>some .norm
 | .ret=>some .ret
theorem f7n5_ok(bi1:Bool)(bp2:(List Int)×Int)(ba3:Qe)(bl4:List Int){o:f7n5O}(h:f7n5 bi1 bp2 ba3 bl4=some o):T Try.prog Try.f7.ntmps 0 (cL (Qk 0 (Qk 1 (Qk 2 (Qk 1 (Qk 5 c7)))))) (f7n5S bi1 bp2 ba3 bl4) (·=f7n5E bi1 bp2 ba3 bl4 o):=by
 unfold f7n5 at h;refine rN Qh 1 [j3] [] [] [0,1] [1,3,6,8,12] (f7n16S bi1 bp2 ba3 bl4 0) an ?_;obtain ⟨o2115,h2116,h⟩:=Qf h;cases o2115 with
 | exit2 =>
  obtain rfl:=Qg h;exact T.last' (T.bl (i:=2) (by kernel_rfl) (by kernel_rfl) (f7n16_ok FUEL bi1 bp2 ba3 bl4 0 h2116)) (tds:=[]) (m:=[]) (keep:=[3]) (st2:=(f7n5E bi1 bp2 ba3 bl4 .norm).2) (by kernel_rfl) an rfl
 | ret =>
  obtain rfl:=Qg h;exact T.last' (T.bl (i:=2) (by kernel_rfl) (by kernel_rfl) (f7n16_ok FUEL bi1 bp2 ba3 bl4 0 h2116)) (tds:=[]) (m:=[]) (keep:=[2]) (st2:=(f7n5E bi1 bp2 ba3 bl4 .ret).2) (by kernel_rfl) an rfl
inductive f7n0O where
 | ret (v2120:Bool)
def f7n0E(a1:Qe):f7n0O→Ex×Tr×Hp
 | .ret v2120=>(.ret,mkS [(2,(jB v2120))],[])
def f7n0S(a1:Qe):Tr×Hp:=(Qak [(jA Qe.cells a1)] 0 .leaf,[])
noncomputable def f7n0(a1:Qe):Option f7n0O :=
 f10.bind fun x4 =>
 (f11 a1).bind fun x10 =>
 bif x10 then
  some (.ret x4)
 else
  bif x4 then
   (f12 a1).bind fun x16 =>
   (f18 a1).bind fun x20 =>
   (f7n1 x4 x16 x20 a1).bind fun o44=>match o44 with
   | .norm=>bif decide ((x20.1.length:Int)=(a1.Lots.length:Int)) then
     (f7n3 x4 x16 x20 a1).bind fun o103=>match o103 with
     | .norm v105=>(f7n5 x4 x20 a1 v105).bind fun o2117=>match o2117 with
      | .norm=>some (.ret x4)
      | .ret=>some (.ret false)
     | .ret=>some (.ret false)
    else
     some (.ret false)
   | .ret v2119=>some (.ret v2119)
  else
   some (.ret x4)
theorem f7n0_ok(a1:Qe){o:f7n0O}(h:f7n0 a1=some o):T Try.prog Try.f7.ntmps 0 c7 (f7n0S a1) (·=f7n0E a1 o):=by
 unfold f7n0 at h;obtain ⟨x4,h5,h⟩:=Qf h;obtain ⟨x10,h11,h⟩:=Qf h;rcases Qj h with ⟨h12,h⟩|⟨h12,h⟩
 ·obtain rfl:=Qg h;exact rK Qh 3 [j3,([],[jH 0 (jB x4)],[]),([(3,true),(4,true)],[jH 1 (jB x10),(5,.bool true)],[]),j3] [none] [] [] [2] .ret ((f7n0E a1 (.ret x4)).2) (ap (f10_ok h5) (ap3 h12 (ap (f11_ok a1 h11) an))) rfl
 ·rcases Qj h with ⟨h13,h⟩|⟨h13,h⟩
  ·obtain ⟨x16,h17,h⟩:=Qf h;obtain ⟨x20,h21,h⟩:=Qf h;refine rN Qh 5 [j3,([],[jH 0 (jB x4)],[]),([(3,false),(4,false)],[jH 1 (jB x10),(5,.bool false)],[]),([],[jH 1 (.tup [(jL 3 Qb.cells x16.1),(jI x16.2)])],[]),([],[jH 1 (.tup [(.pl (.sl .any 1 (x20.1.map (cInt .i64)))),(jI x20.2)])],[])] [some false] [] [0] [1,3,4,5,6,7] (f7n1S x4 x16 x20 a1) (ap (f10_ok h5) (ap3 h12 (ap (f11_ok a1 h11) (ap (Qao h13) (ap (f12_ok a1 h17) (ap (f18_ok a1 h21) an)))))) ?_;obtain ⟨o44,h45,h⟩:=Qf h;cases o44 with
   | norm =>
    refine T.oneN (by kernel_rfl) (f7n1_ok x4 x16 x20 a1 h45) (st2:=(f7n1E x4 x16 x20 a1 .norm).2) rfl ?_;rcases Qj h with ⟨h47,h⟩|⟨h47,h⟩
    ·refine rN Qh 2 [([],[],[(1,.val (jI (x20.1.length:Int))),(4,.val (jI (a1.Lots.length:Int)))]),j3] [some false] [] [0,1] [1,3,4,6,8] (f7n3S x4 x16 x20 a1) (ap (Qaa (xs:=x20.1) (c:=(cInt .i64))) (ap (Qaa (xs:=a1.Lots) (c:=Qa.cells)) (ap (Qao h47) an))) ?_;obtain ⟨o103,h104,h⟩:=Qf h;cases o103 with
     | norm v105 =>
      refine T.oneN (by kernel_rfl) (f7n3_ok x4 x16 x20 a1 h104) (st2:=(f7n3E x4 x16 x20 a1 (.norm v105)).2) rfl ?_;refine rN Qh 0 [] [] [] [0,1] [1,3,6,8] (f7n5S x4 x20 a1 v105) an ?_;obtain ⟨o2117,h2118,h⟩:=Qf h;cases o2117 with
      | norm =>
       refine T.oneN (by kernel_rfl) (f7n5_ok x4 x20 a1 v105 h2118) (st2:=(f7n5E x4 x20 a1 v105 .norm).2) rfl ?_;obtain rfl:=Qg h;exact rE Qh [j3] [] [] [] [2] (.ret,(f7n0E a1 (.ret x4)).2) an rfl
      | ret =>
       obtain rfl:=Qg h;exact T.oneX' (by kernel_rfl) (f7n5_ok x4 x20 a1 v105 h2118) (tds:=[]) (m:=[]) (keep:=[2]) (st2:=(f7n0E a1 (.ret false)).2) (by kernel_rfl) an rfl rfl
     | ret =>
      obtain rfl:=Qg h;exact T.oneX' (by kernel_rfl) (f7n3_ok x4 x16 x20 a1 h104) (tds:=[]) (m:=[]) (keep:=[2]) (st2:=(f7n0E a1 (.ret false)).2) (by kernel_rfl) an rfl rfl
    ·obtain rfl:=Qg h;exact rK Qh 1 [([],[],[(1,.val (jI (x20.1.length:Int))),(4,.val (jI (a1.Lots.length:Int)))]),j3] [some true] [] [] [2] .ret ((f7n0E a1 (.ret false)).2) (ap (Qaa (xs:=x20.1) (c:=(cInt .i64))) (ap (Qaa (xs:=a1.Lots) (c:=Qa.cells)) (ap (Qaw h47) an))) rfl
   | ret v2119 =>
    obtain rfl:=Qg h;exact T.oneX' (by kernel_rfl) (f7n1_ok x4 x16 x20 a1 h45) (tds:=[]) (m:=[]) (keep:=[2]) (st2:=(f7n0E a1 (.ret v2119)).2) (by kernel_rfl) an rfl rfl
  ·obtain rfl:=Qg h;exact rK Qh 3 [j3,([],[jH 0 (jB x4)],[]),([(3,false),(4,false)],[jH 1 (jB x10),(5,.bool false)],[]),j3] [some true] [] [] [2] .ret ((f7n0E a1 (.ret x4)).2) (ap (f10_ok h5) (ap3 h12 (ap (f11_ok a1 h11) (ap (Qaw h13) an)))) rfl
noncomputable def f7(a1:Qe):Option Bool:=(f7n0 a1).bind fun o=>match o with
 | .ret v2120=>some v2120
theorem f7_ok(a1:Qe){r:Bool}(h:f7 a1=some r):Qo Try.prog false 7 [(jA Qe.cells a1)] [] (jB r) []:=by
 unfold f7 at h;obtain ⟨o,ho,h⟩:=Qf h;cases o with
 | ret v2120 =>
  obtain rfl:=Qg h;exact Qo.plain Qh (f:=Try.f7) (c:=c7) (by kernel_rfl) (by kernel_rfl) (by kernel_rfl) (by kernel_rfl) ((f7n0_ok a1 ho).mono fun r e=>by subst e; exact ⟨.inl rfl,(jB v2120),(jB v2120),by kernel_rfl,by kernel_rfl,((Wk.refl _):Wk (jB v2120) (jB v2120))⟩)







end Go.Proofs.Ythpceddjepbamaa
namespace Go.Proofs.Ythpceddjepbamaa
set_option linter.unusedVariables false
set_option linter.unusedSimpArgs false
set_option maxRecDepth 100000
open Go.RowKit













end Go.Proofs.Ythpceddjepbamaa
namespace Go.Proofs.Ythpceddjepbamaa
set_option linter.unusedVariables false
set_option linter.unusedSimpArgs false
set_option maxRecDepth 100000
open Go.RowKit











end Go.Proofs.Ythpceddjepbamaa
namespace Go.Proofs.Ythpceddjepbamaa
set_option linter.unusedVariables false
set_option linter.unusedSimpArgs false
open Go.RowKit
section
variable {c:Qd→Qd→Int} (hc:∀x y,f55 x y=some (c x y)) (o:SWo fun x y=>decide (c x y<0))
abbrev Qu(c:Qd→Qd→Int):Qd→Qd→Bool:=fun x y=>decide (c x y<0)

include hc o in
theorem st_ins_in(a b i:Int):∀(n:Nat)(S P R:List Qd)(x:Qd)(f:Nat),S.length=n→n<f→P.length+n≤1000000→Sd (Qu c) S →
  ∃S',f80r1n2 f a b i ((P.length+n:Nat):Int) (P++(S++x::R))=some (.exit2 (P++(S'++R)))∧Sd (Qu c) S'∧Cl (Qu c) (S++[x]) S'∨a≠(P.length:Int)
 | _,S,P,R,x,0,_,h,_,_=>absurd h (Nat.not_lt_zero _)
 | n,S,P,R,x,f+1,hn,hf,hb,hs=>by
  by_cases ha:a=(P.length:Int)
  ·subst ha;rcases List.eq_nil_or_concat S with rfl | ⟨S0,y,rfl⟩
   ·refine ⟨[x],.inl ⟨?_,by simp,Cl.refl _⟩⟩;have:n=0:=by simpa using hn.symm
    subst this;rw [f80r1n2,decide_eq_false (by omega),cond_false]; simp
   ·rw [List.concat_eq_append] at hn hs ⊢;have hn':n=S0.length+1:=by simpa using hn.symm
    subst hn';have e1:P++((S0++[y])++x::R)=(P++S0)++y::x::R:=by simp
    have e2:P++((S0++[y])++x::R)=((P++S0)++[y])++x::R:=by simp
    have k1:wr64 (((P.length+(S0.length+1):Nat):Int)-1)=((P.length+S0.length:Nat):Int):=by rw [wrIn (by omega) (by omega)]; omega
    rw [f80r1n2,decide_eq_true (by omega),cond_true,k1,at_len (k:=P.length+(S0.length+1)) e2 (by simp<;>omega),at_len (k:=P.length+S0.length) e1 (by simp)];simp only [Option.bind_some,hc];rw [show (Int.toNat ((P.length+(S0.length+1):Nat):Int))=P.length+(S0.length+1) from rfl,show (Int.toNat ((P.length+S0.length:Nat):Int))=P.length+S0.length from rfl,set_len (k:=P.length+(S0.length+1)) (y:=y) e2 (by simp<;>omega)];have e3:((P++S0)++[y])++y::R=(P++S0)++y::y::R:=by simp
    rw [at_len (k:=P.length+S0.length) e3 (by simp),set_len (k:=P.length+S0.length) (y:=x) e3 (by simp)];cases hlt:decide (c x y<0) with
    | true =>
     have hs':=List.pairwise_append.1 hs;rcases st_ins_in (P.length:Int) b i S0.length S0 P (y::R) x f rfl (by omega) (by omega) hs'.1 with ⟨S',h | h⟩
     ·obtain ⟨h1,h2,h3⟩:=h;simp only [cond_true,Option.bind_some];rw [show (P++S0)++x::y::R=P++(S0++x::(y::R)) by simp,h1];refine ⟨S'++[y],.inl ⟨by simp,h2.app (by simp) fun z hz w hw=>?_,?_⟩⟩
      ·rw [List.mem_singleton.1 hw];rcases List.mem_append.1 (h3.mem.1 hz) with hz | hz
       ·exact hs'.2.2 z hz y (by simp)
       ·rw [List.mem_singleton.1 hz]; exact o.asym hlt
      ·have e:=(Cl.refl (lt:=Qu c) S0).app (Cl.swap (lt:=Qu c) (u:=[y]) (v:=[x]) o (fun a ha b hb=>by rw [List.mem_singleton.1 ha,List.mem_singleton.1 hb]; exact hlt));have e':=e.trans (by simpa using h3.app (Cl.refl (lt:=Qu c) [y]):Cl (Qu c) (S0++([x]++[y])) (S'++[y]));simpa using e'
     ·exact absurd rfl h
    | false =>
     refine ⟨(S0++[y])++[x],.inl ⟨by simp,hs.app (by simp) fun z hz w hw=>?_,Cl.refl _⟩⟩;rw [List.mem_singleton.1 hw];rcases List.mem_append.1 hz with hz | hz
     ·exact o.nt hlt ((List.pairwise_append.1 hs).2.2 z hz y (by simp))
     ·rw [List.mem_singleton.1 hz]; exact hlt
  ·exact ⟨[],.inr ha⟩
include hc o in
theorem st_ins_out:∀(X S P R:List Qd)(f:Nat),X.length<f→P.length+S.length+X.length≤1000000→Sd (Qu c) S →
  ∃S',f80r1n3 f (P.length:Int) ((P.length+S.length+X.length:Nat):Int) ((P.length+S.length:Nat):Int) (P++(S++(X++R)))=some (.exit0 (P++(S'++R)))∧Sd (Qu c) S'∧Cl (Qu c) (S++X) S'
 | _,S,P,R,0,h,_,_=>absurd h (Nat.not_lt_zero _)
 | [],S,P,R,f+1,_,_,hs=>⟨S,by rw [f80r1n3,decide_eq_false (by simp),cond_false]; simp,hs,by simpa using Cl.refl _⟩
 | x::X,S,P,R,f+1,hf,hb,hs=>by
  simp only [List.length_cons] at hf hb;rcases st_ins_in hc o (P.length:Int) ((P.length+S.length+(x::X).length:Nat):Int) ((P.length+S.length:Nat):Int) S.length S P (X++R) x FUEL rfl (Qav (Nat.le_trans (by omega:S.length≤1000000) (by unfold maxLen; decide))) (by omega) hs with ⟨S1,h | h⟩
  ·obtain ⟨h1,h2,h3⟩:=h;have hl:=h3.len;simp only [List.length_append,List.length_cons,List.length_nil] at hl;obtain ⟨S',k1,k2,k3⟩:=st_ins_out X S1 P R f (by omega) (by omega) h2;refine ⟨S',?_,k2,?_⟩
   ·rw [f80r1n3,decide_eq_true (by simp only [List.length_cons]; omega),cond_true];unfold f80r1n1;rw [show P++(S++(x::X++R))=P++(S++x::(X++R)) by simp,h1];simp only [Option.bind_some];rw [show wr64 (((P.length+S.length:Nat):Int)+1)=((P.length+S1.length:Nat):Int) by rw [wrIn (by omega) (by omega)]; omega];rw [show ((P.length+S.length+(x::X).length:Nat):Int)=((P.length+S1.length+X.length:Nat):Int) by simp only [List.length_cons]; omega];exact k1
   ·have:=(h3.app (Cl.refl (lt:=Qu c) X)).trans k3;simpa using this
  ·exact absurd rfl h
include hc o in
theorem st_ins_ok(P X R:List Qd)(hb:P.length+X.length≤1000000):f80r1 (P.length:Int) ((P.length+X.length:Nat):Int) (P++(X++R))=some (P++(Qba (Qu c) X++R)):=by
 have main:f80r1n3 FUEL (P.length:Int) ((P.length+X.length:Nat):Int) (wr64 ((P.length:Int)+1)) (P++(X++R))=some (.exit0 (P++(Qba (Qu c) X++R))):=by
  rw [show wr64 ((P.length:Int)+1)=((P.length+1:Nat):Int) by rw [wrIn (by omega) (by omega)]; omega];have hF:∀n:Nat,n≤1000000→n<FUEL:=fun n hn=>Qav (Nat.le_trans hn (by unfold maxLen; decide));cases X with
  | nil =>
   have:FUEL=(FUEL-1)+1:=by decide
   rw [this,f80r1n3,decide_eq_false (by simp<;>omega),cond_false]; rfl
  | cons x X =>
   simp only [List.length_cons] at hb;obtain ⟨S',k1,k2,k3⟩:=st_ins_out hc o X [x] P R FUEL (hF _ (by omega)) (by simp<;>omega) (by simp);rw [sortS_of o k2 k3] at k1;simp only [List.length_cons,List.length_nil,List.cons_append,List.nil_append] at k1 ⊢;rw [show P.length+(X.length+1)=P.length+(0+1)+X.length by omega,show P.length+1=P.length+(0+1) by omega];exact k1
 unfold f80r1 f80r1n0;rw [main]; rfl
end
theorem st_swp_at:∀(X Y A M S:List Qd)(a b i n f:Nat),X.length=Y.length→X.length<f→a+i=A.length→b+i=A.length+X.length+M.length→n=i+X.length→A.length+X.length+M.length+Y.length≤1000000 →
  f89r1n1 f (a:Int) (b:Int) (n:Int) (i:Int) (A++(X++(M++(Y++S))))=some (.exit0 (A++(Y++(M++(X++S)))))
 | _,_,_,_,_,_,_,_,_,0,_,h,_,_,_,_=>absurd h (Nat.not_lt_zero _)
 | [],[],A,M,S,a,b,i,n,f+1,_,_,_,_,hn,_=>by rw [f89r1n1,decide_eq_false (by simp at hn; omega),cond_false]
 | [],y::Y,_,_,_,_,_,_,_,_+1,h,_,_,_,_,_=>absurd h (by simp)
 | x::X,[],_,_,_,_,_,_,_,_+1,h,_,_,_,_,_=>absurd h (by simp)
 | x::X,y::Y,A,M,S,a,b,i,n,f+1,h,hf,ha,hb,hn,hl=>by
  simp only [List.length_cons] at h hf hb hn hl;have e1:A++(x::X++(M++(y::Y++S)))=A++x::(X++(M++(y::Y++S))):=by simp
  have e2:A++(x::X++(M++(y::Y++S)))=(A++(x::X++M))++y::(Y++S):=by simp
  have e3:A++y::(X++(M++(y::Y++S)))=(A++(y::X++M))++y::(Y++S):=by simp
  have k1:wr64 ((a:Int)+(i:Int))=((a+i:Nat):Int):=by rw [wrIn (by omega) (by omega)]; omega
  have k2:wr64 ((b:Int)+(i:Int))=((b+i:Nat):Int):=by rw [wrIn (by omega) (by omega)]; omega
  have k3:wr64 ((i:Int)+1)=((i+1:Nat):Int):=by rw [wrIn (by omega) (by omega)]; omega
  rw [f89r1n1,decide_eq_true (by omega),cond_true,k1,k2,k3,at_len e2 (by simp<;>omega),at_len e1 ha];simp only [Option.bind_some];rw [show (Int.toNat ((a+i:Nat):Int))=a+i from rfl,show (Int.toNat ((b+i:Nat):Int))=b+i from rfl,set_len (y:=y) e1 ha,at_len e3 (by simp<;>omega),set_len (y:=x) e3 (by simp<;>omega)];simp only [Option.bind_some];have ih:=st_swp_at X Y (A++[y]) (M++[x]) S a b (i+1) n f (by omega) (by omega) (by simp<;>omega) (by simp<;>omega) (by omega) (by simp<;>omega);rw [show (A++(y::X++M))++x::(Y++S)=(A++[y])++(X++((M++[x])++(Y++S))) by simp,ih]
  simp
theorem st_swp_ok(P X M Y S:List Qd){a b n:Nat}(h:X.length=Y.length)(ha:a=P.length)(hb:b=P.length+X.length+M.length)(hn:n=X.length)(hl:P.length+X.length+M.length+Y.length≤1000000) :
  f89r1 (a:Int) (b:Int) (n:Int) (P++(X++(M++(Y++S))))=some (P++(Y++(M++(X++S)))):=by
 have k:=st_swp_at X Y P M S a b 0 n FUEL h (Qav (Nat.le_trans (by omega:X.length≤1000000) (by unfold maxLen; decide))) (by omega) (by omega) (by omega) hl;unfold f89r1 f89r1n0;rw [show (0:Int)=((0:Nat):Int) from rfl,k]; rfl

theorem st_rot_at:∀(n:Nat)(P U V S:List Qd)(f m:Nat),U.length+V.length≤n→n<f→0<U.length→0<V.length→m=P.length+U.length→P.length+U.length+V.length≤1000000 →
  ∃i l,f87r1n1 f (m:Int) (U.length:Int) (V.length:Int) (P++(U++(V++S)))=some (.exit0 i l)∧f89r1 (wr64 ((m:Int)-i)) (m:Int) i l=some (P++(V++(U++S)))
 | _,_,_,_,_,0,_,_,h,_,_,_,_=>absurd h (Nat.not_lt_zero _)
 | 0,_,_,_,_,_+1,_,h,_,hu,_,_,_=>by omega
 | n+1,P,U,V,S,f+1,m,h,hf,hu,hv,hm,hl=>by
  rw [f87r1n1]
  by_cases he:U.length=V.length
  ·rw [decide_eq_true (by omega),cond_true];refine ⟨_,_,rfl,?_⟩;rw [show wr64 ((m:Int)-(U.length:Int))=((P.length:Nat):Int) by rw [wrIn (by omega) (by omega)]; omega];have:=st_swp_ok P U [] V S (a:=P.length) (b:=m) (n:=U.length) he rfl (by simp<;>omega) rfl (by simp<;>omega);simpa using this
  ·rw [decide_eq_false (by omega),cond_false]
   by_cases hlt:V.length<U.length
   ·rw [decide_eq_true (by omega),cond_true];obtain ⟨U1,U2,rfl,hU1⟩:=cutL_ (l:=U) (n:=V.length) (by omega);simp only [List.length_append] at *;rw [show wr64 ((m:Int)-((U1.length+U2.length:Nat):Int))=((P.length:Nat):Int) by rw [wrIn (by omega) (by omega)]; omega];have k:=st_swp_ok P U1 U2 V S (a:=P.length) (b:=m) (n:=V.length) hU1 rfl (by omega) hU1.symm (by omega);rw [show P++((U1++U2)++(V++S))=P++(U1++(U2++(V++S))) by simp,k];simp only [Option.bind_some];obtain ⟨i,l,q1,q2⟩:=st_rot_at n (P++V) U2 U1 S f m (by omega) (by omega) (by omega) (by omega) (by simp<;>omega) (by simp<;>omega);refine ⟨i,l,?_,by rw [q2]; simp⟩;rw [show wr64 (((U1.length+U2.length:Nat):Int)-(V.length:Int))=((U2.length:Nat):Int) by rw [wrIn (by omega) (by omega)]; omega,←hU1];rw [show P++(V++(U2++(U1++S)))=(P++V)++(U2++(U1++S)) by simp];exact q1
   ·rw [decide_eq_false (by omega),cond_false];obtain ⟨V1,V2,rfl,hV2⟩:=cutR_ (l:=V) (n:=U.length) (by omega);simp only [List.length_append] at *;rw [show wr64 ((m:Int)-(U.length:Int))=((P.length:Nat):Int) by rw [wrIn (by omega) (by omega)]; omega];rw [show wr64 (wr64 ((m:Int)+((V1.length+V2.length:Nat):Int))-(U.length:Int))=((m+V1.length:Nat):Int) by rw [wrIn (n:=(m:Int)+((V1.length+V2.length:Nat):Int)) (by omega) (by omega),wrIn (by omega) (by omega)]; omega];have k:=st_swp_ok P U V1 V2 S (a:=P.length) (b:=m+V1.length) (n:=U.length) hV2.symm rfl (by omega) rfl (by omega);rw [show P++(U++((V1++V2)++S))=P++(U++(V1++(V2++S))) by simp,k];simp only [Option.bind_some];obtain ⟨i,l,q1,q2⟩:=st_rot_at n P V2 V1 (U++S) f m (by omega) (by omega) (by omega) (by omega) (by omega) (by omega);refine ⟨i,l,?_,by rw [q2]; simp⟩
    rw [show wr64 (((V1.length+V2.length:Nat):Int)-(U.length:Int))=((V1.length:Nat):Int) by rw [wrIn (by omega) (by omega)]; omega,←hV2];exact q1
theorem st_rot_ok(P U V S:List Qd){a m b:Nat}(ha:a=P.length)(hm:m=P.length+U.length)(hb:b=P.length+U.length+V.length)(hu:0<U.length)(hv:0<V.length)(hl:P.length+U.length+V.length≤1000000) :
  f87r1 (a:Int) (m:Int) (b:Int) (P++(U++(V++S)))=some (P++(V++(U++S))):=by
 obtain ⟨i,l,q1,q2⟩:=st_rot_at (U.length+V.length) P U V S FUEL m (Nat.le_refl _) (Qav (Nat.le_trans (by omega:U.length+V.length≤1000000) (by unfold maxLen; decide))) hu hv hm hl;unfold f87r1 f87r1n0;rw [show wr64 ((m:Int)-(a:Int))=((U.length:Nat):Int) by rw [wrIn (by omega) (by omega)]; omega,show wr64 ((b:Int)-(m:Int))=((V.length:Nat):Int) by rw [wrIn (by omega) (by omega)]; omega,q1];simp only [Option.bind_some,q2]
end Go.Proofs.Ythpceddjepbamaa
