/- Several texts in one. No condition. -/
import Derived.Test.YtglmageljnlhcaaC3
import Derived.Test.YtglmageljnlhcaaTU
namespace Go.Proofs.Ytglmageljnlhcaa
set_option linter.unusedVariables false
set_option linter.unusedSimpArgs false
set_option maxRecDepth 100000
open Go.RowKit
inductive f50r6n1O where
 | norm (v99:Nat) (v100:Nat) (v101:List ByteArray) (v102:List Way_)
 | ret (v103:List Int)
noncomputable def f50r6n1E(bh1 bh2:Nat)(bd3:Int)(bb4 bb5:ByteArray)(bd6:Int)(bk7:Bool)(bf8:List Int)(bh9 bh10:Nat)(bg11:Way_)(ba12:List Qa)(bi13:List ByteArray)(bj14:List Way_):f50r6n1O→Ex×Tr×Hp
 | .norm v99 v100 v101 v102=>(.norm,mkS [(0,(.yl 0)),(2,(.bp 2 0)),(3,(.bp 3 0)),(7,(.vw 10 bh1 bh2)),(8,(jI ((bh2:Nat):Int))),(9,(jI bd3))],[some (.lp Qp .ready none (kL 73 [(2,(.bp 4 0)),(3,(.bp 5 0)),(4,(.bp 6 0)),(6,(.bp 7 0)),(7,(.bp 8 0)),(8,(.bp 9 0))])),some (.box 22 [(.vw 10 bh1 bh2)]),some (.box 9 ((cStr bb4).map .pl)),some (.box 9 ((cStr bb5).map .pl)),some (.box 22 [(.vw 10 bh1 bh2)]),some (.box 3 (((cInt .i64) bd6).map .pl)),some (.box 38 [(.pl (.sl (bif bk7 then Fl.nil else Fl.any) 1 (bf8.map (cInt .i64))))]),some (.box 69 [(.own 13)]),some (.box 71 [(.vw 14 v99 v100)]),some (.box 74 ((Way_.cells bg11).map .pl)),jR 4 Qa.cells ba12,none,none,jR 1 cStr v101,jR 2 Way_.cells v102])
 | .ret v103=>(.ret,mkS [],[some (.lp Qp .done (some (.ret)) (kL 73 [(2,(.bp 4 0)),(3,(.bp 5 0)),(4,(.bp 6 0)),(6,(.bp 7 0)),(7,(.bp 8 0)),(8,(.bp 9 0))])),some (.box 22 [(.vw 10 bh1 bh2)]),some (.box 9 ((cStr bb4).map .pl)),some (.box 9 ((cStr bb5).map .pl)),some (.box 22 [(.vw 10 bh1 bh2)]),some (.box 3 (((cInt .i64) bd6).map .pl)),some (.box 38 [(.own 13)]),some (.box 69 [(.own 14)]),some (.box 71 [(.vw 15 bh9 bh10)]),some (.box 74 ((Way_.cells bg11).map .pl)),jR 4 Qa.cells ba12,none,none,some (.row false 1 (v103.map (cInt .i64))),jR 1 cStr bi13,jR 2 Way_.cells bj14])
noncomputable def f50r6n1S(bh1 bh2:Nat)(bd3:Int)(bb4 bb5:ByteArray)(bd6:Int)(bk7:Bool)(bf8:List Int)(bh9 bh10:Nat)(bg11:Way_)(ba12:List Qa)(bi13:List ByteArray)(bj14:List Way_):Tr×Hp:=(mkS [(0,(.yl 0)),(2,(.bp 2 0)),(3,(.bp 3 0)),(7,(.vw 10 bh1 bh2)),(8,(jI ((bh2:Nat):Int))),(9,(jI bd3))],[some (.lp Qp .ready none (kL 73 [(2,(.bp 4 0)),(3,(.bp 5 0)),(4,(.bp 6 0)),(6,(.bp 7 0)),(7,(.bp 8 0)),(8,(.bp 9 0))])),some (.box 22 [(.vw 10 bh1 bh2)]),some (.box 9 ((cStr bb4).map .pl)),some (.box 9 ((cStr bb5).map .pl)),some (.box 22 [(.vw 10 bh1 bh2)]),some (.box 3 (((cInt .i64) bd6).map .pl)),some (.box 38 [(.pl (.sl (bif bk7 then Fl.nil else Fl.any) 1 (bf8.map (cInt .i64))))]),some (.box 69 [(.own 13)]),some (.box 71 [(.vw 14 bh9 bh10)]),some (.box 74 ((Way_.cells bg11).map .pl)),jR 4 Qa.cells ba12,none,none,jR 1 cStr bi13,jR 2 Way_.cells bj14])
noncomputable def f50r6n1(bh1 bh2:Nat)(bd3:Int)(bb4 bb5:ByteArray)(bd6:Int)(bk7:Bool)(bf8:List Int)(bh9 bh10:Nat)(bg11:Way_)(ba12:List Qa)(bi13:List ByteArray)(bj14:List Way_):Option f50r6n1O :=
 req (decide (bh1+bh2≤ba12.length)) <|
 (at? ((ba12.drop bh1).take bh2) bd3).bind fun x88 =>
 bif (seq x88.Contract bb4) then
  bif (seq x88.From bb5) then
   (f24y6n0 bd3 x88 bh1 bh2 bd6 bk7 bf8 bh9 bh10 bg11 ba12 bi13 bj14).bind fun o92=>match o92 with
   | .norm v94 v95 v96 v97=>some (.norm v94 v95 v96 v97)
   | .ret v98=>some (.ret v98)
  else
   some (.norm bh9 bh10 bi13 bj14)
 else
  some (.norm bh9 bh10 bi13 bj14)
theorem f50r6n1_ok(bh1 bh2:Nat)(bd3:Int)(bb4 bb5:ByteArray)(bd6:Int)(bk7:Bool)(bf8:List Int)(bh9 bh10:Nat)(bg11:Way_)(ba12:List Qa)(bi13:List ByteArray)(bj14:List Way_){o:f50r6n1O}(h:f50r6n1 bh1 bh2 bd3 bb4 bb5 bd6 bk7 bf8 bh9 bh10 bg11 ba12 bi13 bj14=some o):T Try.prog Try.f50.ntmps 13 (cL (Qi 2 (cL (cL (Qi 1 c50))))) (f50r6n1S bh1 bh2 bd3 bb4 bb5 bd6 bk7 bf8 bh9 bh10 bg11 ba12 bi13 bj14) (·=f50r6n1E bh1 bh2 bd3 bb4 bb5 bd6 bk7 bf8 bh9 bh10 bg11 ba12 bi13 bj14 o):=by
 unfold f50r6n1 at h;refine T.block' (i:=1) (by kernel_rfl) ?_;obtain ⟨h87,h⟩:=Qm h;obtain ⟨x88,h89,h⟩:=Qc h
 refine rN Qe 1 [([],[(1,.at_ (Int.toNat bd3)),(2,.idx 0 (Qa.cells x88))],[])] [] [] [13,14,15] [0,2,3,5,6,7,8,9] (mkS [(0,(.yl 0)),(2,(.bp 2 0)),(3,(.bp 3 0)),(5,(jI bd3)),(6,(.bp 15 0)),(7,(.vw 10 bh1 bh2)),(8,(jI ((bh2:Nat):Int))),(9,(jI bd3))],[some (.lp Qp .ready none (kL 73 [(2,(.bp 4 0)),(3,(.bp 5 0)),(4,(.bp 6 0)),(6,(.bp 7 0)),(7,(.bp 8 0)),(8,(.bp 9 0))])),some (.box 22 [(.vw 10 bh1 bh2)]),some (.box 9 ((cStr bb4).map .pl)),some (.box 9 ((cStr bb5).map .pl)),some (.box 22 [(.vw 10 bh1 bh2)]),some (.box 3 (((cInt .i64) bd6).map .pl)),some (.box 38 [(.pl (.sl (bif bk7 then Fl.nil else Fl.any) 1 (bf8.map (cInt .i64))))]),some (.box 69 [(.own 13)]),some (.box 71 [(.vw 14 bh9 bh10)]),some (.box 74 ((Way_.cells bg11).map .pl)),jR 4 Qa.cells ba12,none,none,jR 1 cStr bi13,jR 2 Way_.cells bj14,some (.box 26 ((Qa.cells x88).map .pl))]) (ap (Qg h89).1 (ap (vw_lt h89) (ap (Qae (c:=Qa.cells) h87) (ap (Qo Qa.cells (vw_at h89)) an)))) ?_
 rcases Qf h with ⟨h90,h⟩|⟨h90,h⟩
 ·rcases Qf h with ⟨h91,h⟩|⟨h91,h⟩
  ·obtain ⟨o92,h93,h⟩:=Qc h;cases o92 with
   | norm v94 v95 v96 v97 =>
    refine T.oneN (by kernel_rfl) (yN Qe (jT [5,6,7,8,11,12,13,14,15],[(9,.bool true),(16,.bool true)],[]) 14 true [some (.lp Qp .ready none (kL 73 [(2,(.bp 4 0)),(3,(.bp 5 0)),(4,(.bp 6 0)),(6,(.bp 7 0)),(7,(.bp 8 0)),(8,(.bp 9 0))])),none,none,none,some (.box 22 [(.vw 10 bh1 bh2)]),some (.box 3 (((cInt .i64) bd6).map .pl)),some (.box 38 [(.pl (.sl (bif bk7 then Fl.nil else Fl.any) 1 (bf8.map (cInt .i64))))]),some (.box 69 [(.own 16)]),some (.box 71 [(.vw 17 v94 v95)]),some (.box 74 ((Way_.cells bg11).map .pl)),jR 4 Qa.cells ba12,none,none,none,none,none,jR 1 cStr v96,jR 2 Way_.cells v97] [] [16,17] [0,2,3,7,8,9,30] (mkS [(0,(.yl 0)),(2,(.bp 2 0)),(3,(.bp 3 0)),(7,(.vw 10 bh1 bh2)),(8,(jI ((bh2:Nat):Int))),(9,(jI bd3)),(30,(jB false))],[some (.lp Qp .ready none (kL 73 [(2,(.bp 4 0)),(3,(.bp 5 0)),(4,(.bp 6 0)),(6,(.bp 7 0)),(7,(.bp 8 0)),(8,(.bp 9 0))])),some (.box 22 [(.vw 10 bh1 bh2)]),some (.box 9 ((cStr bb4).map .pl)),some (.box 9 ((cStr bb5).map .pl)),some (.box 22 [(.vw 10 bh1 bh2)]),some (.box 3 (((cInt .i64) bd6).map .pl)),some (.box 38 [(.pl (.sl (bif bk7 then Fl.nil else Fl.any) 1 (bf8.map (cInt .i64))))]),some (.box 69 [(.own 13)]),some (.box 71 [(.vw 14 v94 v95)]),some (.box 74 ((Way_.cells bg11).map .pl)),jR 4 Qa.cells ba12,none,none,jR 1 cStr v96,jR 2 Way_.cells v97]) (ap h90 (ap4 h90 (ap4 h91 (ap (CallY.rn 16 [0,4,5,6,7,8,9,10,13,14] (f24y6_norm bd3 x88 bh1 bh2 bd6 bk7 bf8 bh9 bh10 bg11 ba12 bi13 bj14 h93)) (ap2 h91 an)))))) rfl ?_
    obtain rfl:=Qd h;exact rE Qe [] [none] [] [13,14] [0,2,3,7,8,9] (.norm,(f50r6n1E bh1 bh2 bd3 bb4 bb5 bd6 bk7 bf8 bh9 bh10 bg11 ba12 bi13 bj14 (.norm v94 v95 v96 v97)).2) an rfl
   | ret v98 =>
    refine T.oneN (by kernel_rfl) (yN Qe (jT [5,6,7,8,11,12,13,14,15],[(9,.bool true),(16,.bool true)],[]) 14 false [some (.lp Qp .done (some (.ret)) (kL 73 [(2,(.bp 4 0)),(3,(.bp 5 0)),(4,(.bp 6 0)),(6,(.bp 7 0)),(7,(.bp 8 0)),(8,(.bp 9 0))])),none,none,none,some (.box 22 [(.vw 10 bh1 bh2)]),some (.box 3 (((cInt .i64) bd6).map .pl)),some (.box 38 [(.own 16)]),some (.box 69 [(.own 13)]),some (.box 71 [(.vw 14 bh9 bh10)]),some (.box 74 ((Way_.cells bg11).map .pl)),jR 4 Qa.cells ba12,none,none,jR 1 cStr bi13,jR 2 Way_.cells bj14,none,some (.row false 1 (v98.map (cInt .i64)))] [] [16,13,14] [0,2,3,7,8,9,30] (mkS [(0,(.yl 0)),(2,(.bp 2 0)),(3,(.bp 3 0)),(7,(.vw 10 bh1 bh2)),(8,(jI ((bh2:Nat):Int))),(9,(jI bd3)),(30,(jB true))],[some (.lp Qp .done (some (.ret)) (kL 73 [(2,(.bp 4 0)),(3,(.bp 5 0)),(4,(.bp 6 0)),(6,(.bp 7 0)),(7,(.bp 8 0)),(8,(.bp 9 0))])),some (.box 22 [(.vw 10 bh1 bh2)]),some (.box 9 ((cStr bb4).map .pl)),some (.box 9 ((cStr bb5).map .pl)),some (.box 22 [(.vw 10 bh1 bh2)]),some (.box 3 (((cInt .i64) bd6).map .pl)),some (.box 38 [(.own 13)]),some (.box 69 [(.own 14)]),some (.box 71 [(.vw 15 bh9 bh10)]),some (.box 74 ((Way_.cells bg11).map .pl)),jR 4 Qa.cells ba12,none,none,some (.row false 1 (v98.map (cInt .i64))),jR 1 cStr bi13,jR 2 Way_.cells bj14]) (ap h90 (ap4 h90 (ap4 h91 (ap (CallY.rn 16 [0,4,5,6,7,8,9,10,13,14] (f24y6_ret bd3 x88 bh1 bh2 bd6 bk7 bf8 bh9 bh10 bg11 ba12 bi13 bj14 h93)) (ap2 h91 an)))))) rfl ?_
    obtain rfl:=Qd h;exact rE Qe [] [none] [] [13,14,15] [] (.ret,(f50r6n1E bh1 bh2 bd3 bb4 bb5 bd6 bk7 bf8 bh9 bh10 bg11 ba12 bi13 bj14 (.ret v98)).2) an rfl
  ·obtain rfl:=Qd h;exact rE Qe [(jF [11,12,13,14,15]++jT [5,6,7,8],[(9,.bool true),(16,.bool false)],[])] [none] [] [13,14] [0,2,3,7,8,9] (.norm,(f50r6n1E bh1 bh2 bd3 bb4 bb5 bd6 bk7 bf8 bh9 bh10 bg11 ba12 bi13 bj14 (.norm bh9 bh10 bi13 bj14)).2) (ap h90 (ap4 h90 (ap2 h91 (ap4 h91 an)))) rfl
 ·obtain rfl:=Qd h;exact rE Qe [(jF [5,6,7,8],[(9,.bool false)],[])] [none] [] [13,14] [0,2,3,7,8,9] (.norm,(f50r6n1E bh1 bh2 bd3 bb4 bb5 bd6 bk7 bf8 bh9 bh10 bg11 ba12 bi13 bj14 (.norm bh9 bh10 bi13 bj14)).2) (ap h90 (ap4 h90 an)) rfl
inductive f50r6n2O where
 | exit0 (v111:Nat) (v112:Nat) (v113:List ByteArray) (v114:List Way_)
 | ret (v115:Nat) (v116:Nat) (v117:List Int) (v118:List ByteArray) (v119:List Way_)
noncomputable def f50r6n2E(a1 a2:Nat)(a3 a4:ByteArray)(a5:Int)(a6:Bool)(a7:List Int)(a10:Way_)(a11:List Qa):f50r6n2O→Ex×Tr×Hp
 | .exit0 v111 v112 v113 v114=>((.exit 0),mkS [],[some (.lp Qp .ready none (kL 73 [(2,(.bp 4 0)),(3,(.bp 5 0)),(4,(.bp 6 0)),(6,(.bp 7 0)),(7,(.bp 8 0)),(8,(.bp 9 0))])),some (.box 22 [(.vw 10 a1 a2)]),some (.box 9 ((cStr a3).map .pl)),some (.box 9 ((cStr a4).map .pl)),some (.box 22 [(.vw 10 a1 a2)]),some (.box 3 (((cInt .i64) a5).map .pl)),some (.box 38 [(.pl (.sl (bif a6 then Fl.nil else Fl.any) 1 (a7.map (cInt .i64))))]),some (.box 69 [(.own 13)]),some (.box 71 [(.vw 14 v111 v112)]),some (.box 74 ((Way_.cells a10).map .pl)),jR 4 Qa.cells a11,none,none,jR 1 cStr v113,jR 2 Way_.cells v114])
 | .ret v115 v116 v117 v118 v119=>(.ret,mkS [],[some (.lp Qp .done (some (.ret)) (kL 73 [(2,(.bp 4 0)),(3,(.bp 5 0)),(4,(.bp 6 0)),(6,(.bp 7 0)),(7,(.bp 8 0)),(8,(.bp 9 0))])),some (.box 22 [(.vw 10 a1 a2)]),some (.box 9 ((cStr a3).map .pl)),some (.box 9 ((cStr a4).map .pl)),some (.box 22 [(.vw 10 a1 a2)]),some (.box 3 (((cInt .i64) a5).map .pl)),some (.box 38 [(.own 13)]),some (.box 69 [(.own 14)]),some (.box 71 [(.vw 15 v115 v116)]),some (.box 74 ((Way_.cells a10).map .pl)),jR 4 Qa.cells a11,none,none,some (.row false 1 (v117.map (cInt .i64))),jR 1 cStr v118,jR 2 Way_.cells v119])
noncomputable def f50r6n2S(a1 a2:Nat)(a3 a4:ByteArray)(a5:Int)(a6:Bool)(a7:List Int)(a10:Way_)(a11:List Qa)(v77:Int)(v78 v79:Nat)(v80:List ByteArray)(v81:List Way_):Tr×Hp:=(mkS [(0,(.yl 0)),(2,(.bp 2 0)),(3,(.bp 3 0)),(7,(.vw 10 a1 a2)),(8,(jI ((a2:Nat):Int))),(9,(jI v77))],[some (.lp Qp .ready none (kL 73 [(2,(.bp 4 0)),(3,(.bp 5 0)),(4,(.bp 6 0)),(6,(.bp 7 0)),(7,(.bp 8 0)),(8,(.bp 9 0))])),some (.box 22 [(.vw 10 a1 a2)]),some (.box 9 ((cStr a3).map .pl)),some (.box 9 ((cStr a4).map .pl)),some (.box 22 [(.vw 10 a1 a2)]),some (.box 3 (((cInt .i64) a5).map .pl)),some (.box 38 [(.pl (.sl (bif a6 then Fl.nil else Fl.any) 1 (a7.map (cInt .i64))))]),some (.box 69 [(.own 13)]),some (.box 71 [(.vw 14 v78 v79)]),some (.box 74 ((Way_.cells a10).map .pl)),jR 4 Qa.cells a11,none,none,jR 1 cStr v80,jR 2 Way_.cells v81])
noncomputable def f50r6n2:Nat→Nat→Nat→ByteArray→ByteArray→Int→Bool→List Int→Way_→List Qa→Int→Nat→Nat→List ByteArray→List Way_→Option f50r6n2O
 | 0,_,_,_,_,_,_,_,_,_,_,_,_,_,_=>none
 | f+1,a1,a2,a3,a4,a5,a6,a7,a10,a11,v77,v78,v79,v80,v81 =>
  bif (decide (v77<((a2:Nat):Int))) then
   (f50r6n1 a1 a2 v77 a3 a4 a5 a6 a7 v78 v79 a10 a11 v80 v81).bind fun o104=>match o104 with
   | .norm v106 v107 v108 v109=>(f50r6n2 f a1 a2 a3 a4 a5 a6 a7 a10 a11 (wr64 (v77+1)) v106 v107 v108 v109)
   | .ret v110=>some (.ret v78 v79 v110 v80 v81)
  else
   some (.exit0 v78 v79 v80 v81)
theorem f50r6n2_ok:∀(f a1 a2:Nat)(a3 a4:ByteArray)(a5:Int)(a6:Bool)(a7:List Int)(a10:Way_)(a11:List Qa)(v77:Int)(v78 v79:Nat)(v80:List ByteArray)(v81:List Way_){o:f50r6n2O},f50r6n2 f a1 a2 a3 a4 a5 a6 a7 a10 a11 v77 v78 v79 v80 v81=some o→TL Try.prog Try.f50.ntmps 13 f (cL (cL (Qi 1 c50))) (f50r6n2S a1 a2 a3 a4 a5 a6 a7 a10 a11 v77 v78 v79 v80 v81) (·=f50r6n2E a1 a2 a3 a4 a5 a6 a7 a10 a11 o)
 | 0,_,_,_,_,_,_,_,_,_,_,_,_,_,_,o,h=>by rw [f50r6n2] at h; cases h
 | f+1,a1,a2,a3,a4,a5,a6,a7,a10,a11,v77,v78,v79,v80,v81,o,h=>by
  rw [f50r6n2] at h;refine TL.body (K:=fun s=>∃v77:Int,∃v78:Nat,∃v79:Nat,∃v80:List ByteArray,∃v81:List Way_,s=(f50r6n2S a1 a2 a3 a4 a5 a6 a7 a10 a11 v77 v78 v79 v80 v81)∧f50r6n2 f a1 a2 a3 a4 a5 a6 a7 a10 a11 v77 v78 v79 v80 v81=some o) ?_ (by rintro _ ⟨v77,v78,v79,v80,v81,rfl,hk⟩; exact f50r6n2_ok f _ _ _ _ _ _ _ _ _ _ _ _ _ _ hk);rcases Qf h with ⟨h83,h⟩|⟨h83,h⟩
  ·refine rN Qe 2 [j3] [some true] [] [13,14] [0,2,3,7,8,9] (f50r6n1S a1 a2 v77 a3 a4 a5 a6 a7 v78 v79 a10 a11 v80 v81) (ap h83 an) ?_;obtain ⟨o104,h105,h⟩:=Qc h;cases o104 with
   | norm v106 v107 v108 v109 =>
    refine T.oneN (by kernel_rfl) (f50r6n1_ok a1 a2 v77 a3 a4 a5 a6 a7 v78 v79 a10 a11 v80 v81 h105) (st2:=(f50r6n1E a1 a2 v77 a3 a4 a5 a6 a7 v78 v79 a10 a11 v80 v81 (.norm v106 v107 v108 v109)).2) rfl ?_;exact rE Qe [j3] [] [] [13,14] [0,2,3,7,8,9] (.norm,(f50r6n2S a1 a2 a3 a4 a5 a6 a7 a10 a11 (wr64 (v77+1)) v106 v107 v108 v109)) an (Qv.norm ⟨(wr64 (v77+1)),v106,v107,v108,v109,rfl,h⟩)
   | ret v110 =>
    obtain rfl:=Qd h;exact T.oneX' (by kernel_rfl) (f50r6n1_ok a1 a2 v77 a3 a4 a5 a6 a7 v78 v79 a10 a11 v80 v81 h105) (tds:=[]) (m:=[13,14,15]) (keep:=[]) (st2:=(f50r6n2E a1 a2 a3 a4 a5 a6 a7 a10 a11 (.ret v78 v79 v110 v80 v81)).2) (by kernel_rfl) an rfl (Qv.out rfl rfl)
  ·obtain rfl:=Qd h;exact rK Qe 2 [j3] [some false] [] [13,14] [] (.exit 0) ((f50r6n2E a1 a2 a3 a4 a5 a6 a7 a10 a11 (.exit0 v78 v79 v80 v81)).2) (ap h83 an) (Qv.out rfl rfl)
inductive f50r6n0O where
 | norm (v131:Nat) (v132:Nat) (v133:List ByteArray) (v134:List Way_)
 | ret (v135:List Int) (v136:Nat) (v137:Nat) (v138:List ByteArray) (v139:List Way_)
noncomputable def f50r6n0E(a1 a2:Nat)(a3 a4:ByteArray)(a5:Int)(a6:Bool)(a7:List Int)(a8 a9:Nat)(a10:Way_)(a11:List Qa)(a12:List ByteArray)(a13:List Way_):f50r6n0O→Ex×Tr×Hp
 | .norm v131 v132 v133 v134=>(.norm,mkS [],[some (.lp Qp .ready none (kL 73 [(2,(.bp 4 0)),(3,(.bp 5 0)),(4,(.bp 6 0)),(6,(.bp 7 0)),(7,(.bp 8 0)),(8,(.bp 9 0))])),some (.box 22 [(.vw 10 a1 a2)]),some (.box 9 ((cStr a3).map .pl)),some (.box 9 ((cStr a4).map .pl)),some (.box 22 [(.vw 10 a1 a2)]),some (.box 3 (((cInt .i64) a5).map .pl)),some (.box 38 [(.pl (.sl (bif a6 then Fl.nil else Fl.any) 1 (a7.map (cInt .i64))))]),some (.box 69 [(.own 13)]),some (.box 71 [(.vw 14 v131 v132)]),some (.box 74 ((Way_.cells a10).map .pl)),jR 4 Qa.cells a11,none,none,jR 1 cStr v133,jR 2 Way_.cells v134])
 | .ret v135 v136 v137 v138 v139=>(.ret,mkS [],[some (.lp Qp .done (some (.ret)) (kL 73 [(2,(.bp 4 0)),(3,(.bp 5 0)),(4,(.bp 6 0)),(6,(.bp 7 0)),(7,(.bp 8 0)),(8,(.bp 9 0))])),some (.box 22 [(.vw 10 a1 a2)]),some (.box 9 ((cStr a3).map .pl)),some (.box 9 ((cStr a4).map .pl)),some (.box 22 [(.vw 10 a1 a2)]),some (.box 3 (((cInt .i64) a5).map .pl)),some (.box 38 (((cLst 1 (cInt .i64)) v135).map .pl)),some (.box 69 [(.own 13)]),some (.box 71 [(.vw 14 v136 v137)]),some (.box 74 ((Way_.cells a10).map .pl)),jR 4 Qa.cells a11,none,none,jR 1 cStr v138,jR 2 Way_.cells v139])
noncomputable def f50r6n0S(a1 a2:Nat)(a3 a4:ByteArray)(a5:Int)(a6:Bool)(a7:List Int)(a8 a9:Nat)(a10:Way_)(a11:List Qa)(a12:List ByteArray)(a13:List Way_):Tr×Hp:=(Qad [(.yl 0),(.bp 1 0),(.bp 2 0),(.bp 3 0)] 0 .leaf,[some (.lp Qp .ready none (kL 73 [(2,(.bp 4 0)),(3,(.bp 5 0)),(4,(.bp 6 0)),(6,(.bp 7 0)),(7,(.bp 8 0)),(8,(.bp 9 0))])),some (.box 22 [(.vw 10 a1 a2)]),some (.box 9 ((cStr a3).map .pl)),some (.box 9 ((cStr a4).map .pl)),some (.box 22 [(.vw 10 a1 a2)]),some (.box 3 (((cInt .i64) a5).map .pl)),some (.box 38 [(.pl (.sl (bif a6 then Fl.nil else Fl.any) 1 (a7.map (cInt .i64))))]),some (.box 69 [(.own 11)]),some (.box 71 [(.vw 12 a8 a9)]),some (.box 74 ((Way_.cells a10).map .pl)),jR 4 Qa.cells a11,jR 1 cStr a12,jR 2 Way_.cells a13])
noncomputable def f50r6n0(a1 a2:Nat)(a3 a4:ByteArray)(a5:Int)(a6:Bool)(a7:List Int)(a8 a9:Nat)(a10:Way_)(a11:List Qa)(a12:List ByteArray)(a13:List Way_):Option f50r6n0O :=
 (f50r6n2 FUEL a1 a2 a3 a4 a5 a6 a7 a10 a11 0 a8 a9 a12 a13).bind fun o120=>match o120 with
 | .exit0 v122 v123 v124 v125=>some (.norm v122 v123 v124 v125)
 | .ret v126 v127 v128 v129 v130=>some (.ret v128 v126 v127 v129 v130)
theorem f50r6n0_ok(a1 a2:Nat)(a3 a4:ByteArray)(a5:Int)(a6:Bool)(a7:List Int)(a8 a9:Nat)(a10:Way_)(a11:List Qa)(a12:List ByteArray)(a13:List Way_){o:f50r6n0O}(h:f50r6n0 a1 a2 a3 a4 a5 a6 a7 a8 a9 a10 a11 a12 a13=some o):T Try.prog Try.f50.ntmps 13 c50 (f50r6n0S a1 a2 a3 a4 a5 a6 a7 a8 a9 a10 a11 a12 a13) (·=f50r6n0E a1 a2 a3 a4 a5 a6 a7 a8 a9 a10 a11 a12 a13 o):=by
 unfold f50r6n0 at h;refine rN Qe 1 [j3] [] [.movC 7 0,.movCv 8 0] [13,14] [0,2,3,7,8,9] (f50r6n2S a1 a2 a3 a4 a5 a6 a7 a10 a11 0 a8 a9 a12 a13) an ?_;obtain ⟨o120,h121,h⟩:=Qc h;cases o120 with
 | exit0 v122 v123 v124 v125 =>
  obtain rfl:=Qd h;exact T.last' (T.bl (i:=0) (by kernel_rfl) (by kernel_rfl) (f50r6n2_ok FUEL a1 a2 a3 a4 a5 a6 a7 a10 a11 0 a8 a9 a12 a13 h121)) (tds:=[]) (m:=[13,14]) (keep:=[]) (st2:=(f50r6n0E a1 a2 a3 a4 a5 a6 a7 a8 a9 a10 a11 a12 a13 (.norm v122 v123 v124 v125)).2) (by kernel_rfl) an rfl
 | ret v126 v127 v128 v129 v130 =>
  obtain rfl:=Qd h;exact T.last' (T.bl (i:=0) (by kernel_rfl) (by kernel_rfl) (f50r6n2_ok FUEL a1 a2 a3 a4 a5 a6 a7 a10 a11 0 a8 a9 a12 a13 h121)) (tds:=[.frzC 6 0]) (m:=[14,15]) (keep:=[]) (st2:=(f50r6n0E a1 a2 a3 a4 a5 a6 a7 a8 a9 a10 a11 a12 a13 (.ret v128 v126 v127 v129 v130)).2) (by kernel_rfl) an rfl
noncomputable def f50r6(a1 a2:Nat)(a3 a4:ByteArray)(a5:Int)(a6:Bool)(a7:List Int)(a8 a9:Nat)(a10:Way_)(a11:List Qa)(a12:List ByteArray)(a13:List Way_):Option (Bool×Bool×(List Int)×Nat×Nat×(List ByteArray)×(List Way_)):=(f50r6n0 a1 a2 a3 a4 a5 a6 a7 a8 a9 a10 a11 a12 a13).bind fun o=>match o with
 | .norm v131 v132 v133 v134=>some (true,a6,a7,v131,v132,v133,v134)
 | .ret v135 v136 v137 v138 v139=>some (false,false,v135,v136,v137,v138,v139)
theorem f50r6_ok(a1 a2:Nat)(a3 a4:ByteArray)(a5:Int)(a6:Bool)(a7:List Int)(a8 a9:Nat)(a10:Way_)(a11:List Qa)(a12:List ByteArray)(a13:List Way_){r:Bool×Bool×(List Int)×Nat×Nat×(List ByteArray)×(List Way_)}(h:f50r6 a1 a2 a3 a4 a5 a6 a7 a8 a9 a10 a11 a12 a13=some r):Qk Try.prog true 50 [(.yl 0),(.bp 1 0),(.bp 2 0),(.bp 3 0)] [some (.lp Qp .ready none (kL 73 [(2,(.bp 4 0)),(3,(.bp 5 0)),(4,(.bp 6 0)),(6,(.bp 7 0)),(7,(.bp 8 0)),(8,(.bp 9 0))])),some (.box 22 [(.vw 10 a1 a2)]),some (.box 9 ((cStr a3).map .pl)),some (.box 9 ((cStr a4).map .pl)),some (.box 22 [(.vw 10 a1 a2)]),some (.box 3 (((cInt .i64) a5).map .pl)),some (.box 38 [(.pl (.sl (bif a6 then Fl.nil else Fl.any) 1 (a7.map (cInt .i64))))]),some (.box 69 [(.own 11)]),some (.box 71 [(.vw 12 a8 a9)]),some (.box 74 ((Way_.cells a10).map .pl)),jR 4 Qa.cells a11,jR 1 cStr a12,jR 2 Way_.cells a13] (.tup []) [some (.lp Qp (lstOf r.1) (pdOf r.1 (.ret)) (kL 73 [(2,(.bp 4 0)),(3,(.bp 5 0)),(4,(.bp 6 0)),(6,(.bp 7 0)),(7,(.bp 8 0)),(8,(.bp 9 0))])),some (.box 22 [(.vw 10 a1 a2)]),some (.box 9 ((cStr a3).map .pl)),some (.box 9 ((cStr a4).map .pl)),some (.box 22 [(.vw 10 a1 a2)]),some (.box 3 (((cInt .i64) a5).map .pl)),some (.box 38 [(.pl (.sl (bif r.2.1 then Fl.nil else Fl.any) 1 (r.2.2.1.map (cInt .i64))))]),some (.box 69 [(.own 13)]),some (.box 71 [(.vw 14 r.2.2.2.1 r.2.2.2.2.1)]),some (.box 74 ((Way_.cells a10).map .pl)),jR 4 Qa.cells a11,none,none,jR 1 cStr r.2.2.2.2.2.1,jR 2 Way_.cells r.2.2.2.2.2.2]:=by
 unfold f50r6 at h;obtain ⟨o,ho,h⟩:=Qc h;cases o with
 | norm v131 v132 v133 v134 =>
  obtain rfl:=Qd h;exact Qk.shared Qe (f:=Try.f50) (c:=c50) (by kernel_rfl) (by kernel_rfl) (by kernel_rfl) ((f50r6n0_ok a1 a2 a3 a4 a5 a6 a7 a8 a9 a10 a11 a12 a13 ho).mono fun r e=>by subst e; exact ⟨.inr rfl,by kernel_rfl,by kernel_rfl⟩)
 | ret v135 v136 v137 v138 v139 =>
  obtain rfl:=Qd h;exact Qk.shared Qe (f:=Try.f50) (c:=c50) (by kernel_rfl) (by kernel_rfl) (by kernel_rfl) ((f50r6n0_ok a1 a2 a3 a4 a5 a6 a7 a8 a9 a10 a11 a12 a13 ho).mono fun r e=>by subst e; exact ⟨.inl rfl,by kernel_rfl,by kernel_rfl⟩)

inductive f24r3n2O where
 | norm (v136:Bool) (v137:List Int) (v138:Nat) (v139:Nat) (v140:List ByteArray) (v141:List Way_)
 | ret (v142:Bool) (v143:List Int)
def f24r3n2E(be1:Qa)(ba2:List Qa)(bh3 bh4:Nat)(bd5:Int)(bk6:Bool)(bf7:List Int)(bh8 bh9:Nat)(bg10:Way_)(bi11:List ByteArray)(bj12:List Way_):f24r3n2O→Ex×Tr×Hp
 | .norm v136 v137 v138 v139 v140 v141=>(.norm,mkS [(2,(.bp 1 0)),(3,(.bp 2 0)),(4,(.bp 3 0)),(5,(jS be1.Contract)),(6,(.bp 4 0)),(7,(.bp 5 0))],[jR 4 Qa.cells ba2,some (.box 22 [(.vw 0 bh3 bh4)]),some (.box 3 (((cInt .i64) bd5).map .pl)),some (.box 38 [(.pl (.sl (bif v136 then Fl.nil else Fl.any) 1 (v137.map (cInt .i64))))]),some (.box 69 [(.own 6)]),some (.box 71 [(.vw 7 v138 v139)]),jR 1 cStr v140,jR 2 Way_.cells v141])
 | .ret v142 v143=>(.ret,mkS [(4,(.bp 1 0))],[jR 4 Qa.cells ba2,some (.box 38 [(.pl (.sl (bif v142 then Fl.nil else Fl.any) 1 (v143.map (cInt .i64))))])])
def f24r3n2S(be1:Qa)(ba2:List Qa)(bh3 bh4:Nat)(bd5:Int)(bk6:Bool)(bf7:List Int)(bh8 bh9:Nat)(bg10:Way_)(bi11:List ByteArray)(bj12:List Way_):Tr×Hp:=(mkS [(2,(.bp 1 0)),(3,(.bp 2 0)),(4,(.bp 3 0)),(5,(jS be1.Contract)),(6,(.bp 4 0)),(7,(.bp 5 0)),(8,(.bp 6 0)),(40,(.clo 50 [(.bp 7 0),(.bp 8 0),(.bp 9 0)]))],[jR 4 Qa.cells ba2,some (.box 22 [(.vw 0 bh3 bh4)]),some (.box 3 (((cInt .i64) bd5).map .pl)),some (.box 38 [(.pl (.sl (bif bk6 then Fl.nil else Fl.any) 1 (bf7.map (cInt .i64))))]),some (.box 69 [(.own 10)]),some (.box 71 [(.vw 11 (bh8+(Int.toNat 1)) (bh9-(Int.toNat 1)))]),some (.box 74 ((Way_.cells bg10).map .pl)),some (.box 22 [(.vw 0 bh3 bh4)]),some (.box 9 ((cStr be1.Contract).map .pl)),some (.box 9 ((cStr bg10.party).map .pl)),jR 1 cStr bi11,jR 2 Way_.cells bj12])
noncomputable def f24r3n2(be1:Qa)(ba2:List Qa)(bh3 bh4:Nat)(bd5:Int)(bk6:Bool)(bf7:List Int)(bh8 bh9:Nat)(bg10:Way_)(bi11:List ByteArray)(bj12:List Way_):Option f24r3n2O :=
 (f50r6 bh3 bh4 be1.Contract bg10.party bd5 bk6 bf7 (bh8+(Int.toNat 1)) (bh9-(Int.toNat 1)) bg10 ba2 bi11 bj12).bind fun x133 =>
 bif x133.1 then
  some (.norm x133.2.1 x133.2.2.1 x133.2.2.2.1 x133.2.2.2.2.1 x133.2.2.2.2.2.1 x133.2.2.2.2.2.2)
 else
  some (.ret x133.2.1 x133.2.2.1)
theorem f24r3n2_ok(be1:Qa)(ba2:List Qa)(bh3 bh4:Nat)(bd5:Int)(bk6:Bool)(bf7:List Int)(bh8 bh9:Nat)(bg10:Way_)(bi11:List ByteArray)(bj12:List Way_){o:f24r3n2O}(h:f24r3n2 be1 ba2 bh3 bh4 bd5 bk6 bf7 bh8 bh9 bg10 bi11 bj12=some o):T Try.prog Try.f24.ntmps 1 (Qi 2 (cL (Qi 1 (cL (cL (cL (Qi 0 (Qi 5 c24)))))))) (f24r3n2S be1 ba2 bh3 bh4 bd5 bk6 bf7 bh8 bh9 bg10 bi11 bj12) (·=f24r3n2E be1 ba2 bh3 bh4 bd5 bk6 bf7 bh8 bh9 bg10 bi11 bj12 o):=by
 unfold f24r3n2 at h;refine T.block' (i:=2) (by kernel_rfl) ?_;refine rN Qe 0 [] [] [] [1,2,3,4,5,6,7,8,9,10,11] [2,3,4,5,6,7,8,40] (mkS [(2,(.bp 1 0)),(3,(.bp 2 0)),(4,(.bp 3 0)),(5,(jS be1.Contract)),(6,(.bp 4 0)),(7,(.bp 5 0)),(8,(.bp 6 0)),(40,(.clo 50 [(.bp 7 0),(.bp 8 0),(.bp 9 0)]))],[jR 4 Qa.cells ba2,some (.box 22 [(.vw 0 bh3 bh4)]),some (.box 3 (((cInt .i64) bd5).map .pl)),some (.box 38 [(.pl (.sl (bif bk6 then Fl.nil else Fl.any) 1 (bf7.map (cInt .i64))))]),some (.box 69 [(.own 10)]),some (.box 71 [(.vw 11 (bh8+(Int.toNat 1)) (bh9-(Int.toNat 1)))]),some (.box 74 ((Way_.cells bg10).map .pl)),some (.box 22 [(.vw 0 bh3 bh4)]),some (.box 9 ((cStr be1.Contract).map .pl)),some (.box 9 ((cStr bg10.party).map .pl)),jR 1 cStr bi11,jR 2 Way_.cells bj12]) an ?_;obtain ⟨x133,h134,h⟩:=Qc h;rcases Qf h with ⟨h135,h⟩|⟨h135,h⟩
 ·obtain rfl:=Qd h
  exact T.last' (rgN 50 [(.bp 7 0),(.bp 8 0),(.bp 9 0)] [2,3,4,6,7,8] (.tup []) [jR 4 Qa.cells ba2,some (.box 22 [(.vw 0 bh3 bh4)]),some (.box 3 (((cInt .i64) bd5).map .pl)),some (.box 38 [(.pl (.sl (bif x133.2.1 then Fl.nil else Fl.any) 1 (x133.2.2.1.map (cInt .i64))))]),some (.box 69 [(.own 13)]),some (.box 71 [(.vw 14 x133.2.2.2.1 x133.2.2.2.2.1)]),some (.box 74 ((Way_.cells bg10).map .pl)),some (.box 22 [(.vw 0 bh3 bh4)]),some (.box 9 ((cStr be1.Contract).map .pl)),some (.box 9 ((cStr bg10.party).map .pl)),none,none,some (.lp Qp .ready none (kL 73 [(2,(.bp 1 0)),(3,(.bp 2 0)),(4,(.bp 3 0)),(6,(.bp 4 0)),(7,(.bp 5 0)),(8,(.bp 6 0))])),jR 1 cStr x133.2.2.2.2.2.1,jR 2 Way_.cells x133.2.2.2.2.2.2] none .ready (kL 73 [(2,(.bp 1 0)),(3,(.bp 2 0)),(4,(.bp 3 0)),(6,(.bp 4 0)),(7,(.bp 5 0)),(8,(.bp 6 0))]) .norm [] [1,2,3,4,5,13,14] [2,3,4,5,6,7] (mkS [(2,(.bp 1 0)),(3,(.bp 2 0)),(4,(.bp 3 0)),(5,(jS be1.Contract)),(6,(.bp 4 0)),(7,(.bp 5 0))],[jR 4 Qa.cells ba2,some (.box 22 [(.vw 0 bh3 bh4)]),some (.box 3 (((cInt .i64) bd5).map .pl)),some (.box 38 [(.pl (.sl (bif x133.2.1 then Fl.nil else Fl.any) 1 (x133.2.2.1.map (cInt .i64))))]),some (.box 69 [(.own 6)]),some (.box 71 [(.vw 7 x133.2.2.2.1 x133.2.2.2.2.1)]),jR 1 cStr x133.2.2.2.2.2.1,jR 2 Way_.cells x133.2.2.2.2.2.2]) (by have t_:=(Qk.rn 13 [12,7,8,9,1,2,3,4,5,6,0,10,11] (f50r6_ok bh3 bh4 be1.Contract bg10.party bd5 bk6 bf7 (bh8+(Int.toNat 1)) (bh9-(Int.toNat 1)) bg10 ba2 bi11 bj12 h134)); rw [h135] at t_; exact t_) an) (tds:=[]) (m:=[1,2,3,4,5,6,7]) (keep:=[2,3,4,5,6,7]) (st2:=(f24r3n2E be1 ba2 bh3 bh4 bd5 bk6 bf7 bh8 bh9 bg10 bi11 bj12 (.norm x133.2.1 x133.2.2.1 x133.2.2.2.1 x133.2.2.2.2.1 x133.2.2.2.2.2.1 x133.2.2.2.2.2.2)).2) (by kernel_rfl) an rfl
 ·obtain rfl:=Qd h
  exact T.last' (rgN 50 [(.bp 7 0),(.bp 8 0),(.bp 9 0)] [2,3,4,6,7,8] (.tup []) [jR 4 Qa.cells ba2,some (.box 22 [(.vw 0 bh3 bh4)]),some (.box 3 (((cInt .i64) bd5).map .pl)),some (.box 38 [(.pl (.sl (bif x133.2.1 then Fl.nil else Fl.any) 1 (x133.2.2.1.map (cInt .i64))))]),some (.box 69 [(.own 13)]),some (.box 71 [(.vw 14 x133.2.2.2.1 x133.2.2.2.2.1)]),some (.box 74 ((Way_.cells bg10).map .pl)),some (.box 22 [(.vw 0 bh3 bh4)]),some (.box 9 ((cStr be1.Contract).map .pl)),some (.box 9 ((cStr bg10.party).map .pl)),none,none,some (.lp Qp .done (some (.ret)) (kL 73 [(2,(.bp 1 0)),(3,(.bp 2 0)),(4,(.bp 3 0)),(6,(.bp 4 0)),(7,(.bp 5 0)),(8,(.bp 6 0))])),jR 1 cStr x133.2.2.2.2.2.1,jR 2 Way_.cells x133.2.2.2.2.2.2] (some (.ret)) .done (kL 73 [(2,(.bp 1 0)),(3,(.bp 2 0)),(4,(.bp 3 0)),(6,(.bp 4 0)),(7,(.bp 5 0)),(8,(.bp 6 0))]) .ret [] [3] [4] (mkS [(4,(.bp 1 0))],[jR 4 Qa.cells ba2,some (.box 38 [(.pl (.sl (bif x133.2.1 then Fl.nil else Fl.any) 1 (x133.2.2.1.map (cInt .i64))))])]) (by have t_:=(Qk.rn 13 [12,7,8,9,1,2,3,4,5,6,0,10,11] (f50r6_ok bh3 bh4 be1.Contract bg10.party bd5 bk6 bf7 (bh8+(Int.toNat 1)) (bh9-(Int.toNat 1)) bg10 ba2 bi11 bj12 h134)); rw [h135] at t_; exact t_) an) (tds:=[]) (m:=[1]) (keep:=[4]) (st2:=(f24r3n2E be1 ba2 bh3 bh4 bd5 bk6 bf7 bh8 bh9 bg10 bi11 bj12 (.ret x133.2.1 x133.2.2.1)).2) (by kernel_rfl) an rfl
inductive f24r3n1O where
 | norm (v154:Bool) (v155:List Int) (v156:Nat) (v157:Nat) (v158:List ByteArray) (v159:List Way_)
 | ret (v160:Bool) (v161:List Int)
def f24r3n1E(be1:Qa)(ba2:List Qa)(bh3 bh4:Nat)(bd5:Int)(bk6:Bool)(bf7:List Int)(bh8 bh9:Nat)(bi10:List ByteArray)(bj11:List Way_):f24r3n1O→Ex×Tr×Hp
 | .norm v154 v155 v156 v157 v158 v159=>(.norm,mkS [(2,(.bp 1 0)),(3,(.bp 2 0)),(4,(.bp 3 0)),(5,(jS be1.Contract)),(6,(.bp 4 0)),(7,(.bp 5 0))],[jR 4 Qa.cells ba2,some (.box 22 [(.vw 0 bh3 bh4)]),some (.box 3 (((cInt .i64) bd5).map .pl)),some (.box 38 [(.pl (.sl (bif v154 then Fl.nil else Fl.any) 1 (v155.map (cInt .i64))))]),some (.box 69 [(.own 6)]),some (.box 71 [(.vw 7 v156 v157)]),jR 1 cStr v158,jR 2 Way_.cells v159])
 | .ret v160 v161=>(.ret,mkS [(4,(.bp 1 0))],[jR 4 Qa.cells ba2,some (.box 38 [(.pl (.sl (bif v160 then Fl.nil else Fl.any) 1 (v161.map (cInt .i64))))])])
def f24r3n1S(be1:Qa)(ba2:List Qa)(bh3 bh4:Nat)(bd5:Int)(bk6:Bool)(bf7:List Int)(bh8 bh9:Nat)(bi10:List ByteArray)(bj11:List Way_):Tr×Hp:=(mkS [(2,(.bp 1 0)),(3,(.bp 2 0)),(4,(.bp 3 0)),(5,(jS be1.Contract)),(6,(.bp 4 0)),(7,(.bp 5 0))],[jR 4 Qa.cells ba2,some (.box 22 [(.vw 0 bh3 bh4)]),some (.box 3 (((cInt .i64) bd5).map .pl)),some (.box 38 [(.pl (.sl (bif bk6 then Fl.nil else Fl.any) 1 (bf7.map (cInt .i64))))]),some (.box 69 [(.own 6)]),some (.box 71 [(.vw 7 bh8 bh9)]),jR 1 cStr bi10,jR 2 Way_.cells bj11])
noncomputable def f24r3n1(be1:Qa)(ba2:List Qa)(bh3 bh4:Nat)(bd5:Int)(bk6:Bool)(bf7:List Int)(bh8 bh9:Nat)(bi10:List ByteArray)(bj11:List Way_):Option f24r3n1O :=
 (f35r2 bh8 bh9 bj11).bind fun x127 =>
 (f36r3 bh3 bh4 be1.Contract x127.party ba2).bind fun x131 =>
 (f24r3n2 be1 ba2 bh3 bh4 bd5 bk6 bf7 bh8 bh9 x127 bi10 bj11).bind fun o144=>match o144 with
 | .norm v146 v147 v148 v149 v150 v151=>some (.norm v146 v147 v148 v149 v150 v151)
 | .ret v152 v153=>some (.ret v152 v153)
theorem f24r3n1_ok(be1:Qa)(ba2:List Qa)(bh3 bh4:Nat)(bd5:Int)(bk6:Bool)(bf7:List Int)(bh8 bh9:Nat)(bi10:List ByteArray)(bj11:List Way_){o:f24r3n1O}(h:f24r3n1 be1 ba2 bh3 bh4 bd5 bk6 bf7 bh8 bh9 bi10 bj11=some o):T Try.prog Try.f24.ntmps 1 (Qi 1 (cL (cL (cL (Qi 0 (Qi 5 c24)))))) (f24r3n1S be1 ba2 bh3 bh4 bd5 bk6 bf7 bh8 bh9 bi10 bj11) (·=f24r3n1E be1 ba2 bh3 bh4 bd5 bk6 bf7 bh8 bh9 bi10 bj11 o):=by
 unfold f24r3n1 at h;refine T.block' (i:=1) (by kernel_rfl) ?_;obtain ⟨x127,h128,h⟩:=Qc h;obtain ⟨x131,h132,h⟩:=Qc h;refine rN Qe 2 [([],[(0,.call (jA Way_.cells x127) (jN 5 [some (.box 71 [(.vw 7 (bh8+(Int.toNat 1)) (bh9-(Int.toNat 1)))]),none,jR 2 Way_.cells bj11,some (.box 74 ((Way_.cells x127).map .pl))]))],[]),([],[(4,.call (.clo 50 [(.bp 10 0),(.bp 11 0),(.bp 12 0)]) [jR 4 Qa.cells ba2,none,none,none,none,none,none,none,none,none,some (.box 22 [(.vw 0 bh3 bh4)]),some (.box 9 ((cStr be1.Contract).map .pl)),some (.box 9 ((cStr x127.party).map .pl))])],[])] [] [] [1,2,3,4,5,9,10,11,12,6,7] [2,3,4,5,6,7,8,40] (f24r3n2S be1 ba2 bh3 bh4 bd5 bk6 bf7 bh8 bh9 x127 bi10 bj11) (ap (Qk.rn 8 [5,7] (f35r2_ok bh8 bh9 bj11 h128)) (ap (Qk.rn 10 [0] (f36r3_ok bh3 bh4 be1.Contract x127.party ba2 h132)) an)) ?_;obtain ⟨o144,h145,h⟩:=Qc h;cases o144 with
 | norm v146 v147 v148 v149 v150 v151 =>
  obtain rfl:=Qd h;exact T.last' (f24r3n2_ok be1 ba2 bh3 bh4 bd5 bk6 bf7 bh8 bh9 x127 bi10 bj11 h145) (tds:=[]) (m:=[1,2,3,4,5,6,7]) (keep:=[2,3,4,5,6,7]) (st2:=(f24r3n1E be1 ba2 bh3 bh4 bd5 bk6 bf7 bh8 bh9 bi10 bj11 (.norm v146 v147 v148 v149 v150 v151)).2) (by kernel_rfl) an rfl
 | ret v152 v153 =>
  obtain rfl:=Qd h;exact T.last' (f24r3n2_ok be1 ba2 bh3 bh4 bd5 bk6 bf7 bh8 bh9 x127 bi10 bj11 h145) (tds:=[]) (m:=[1]) (keep:=[4]) (st2:=(f24r3n1E be1 ba2 bh3 bh4 bd5 bk6 bf7 bh8 bh9 bi10 bj11 (.ret v152 v153)).2) (by kernel_rfl) an rfl
inductive f24r3n3O where
 | exit0 (v172:Bool) (v173:List Int)
 | ret (v174:Bool) (v175:List Int)
def f24r3n3E(x9:Qa)(a4:List Qa)(a1 a2:Nat)(a3:Int):f24r3n3O→Ex×Tr×Hp
 | .exit0 v172 v173=>((.exit 0),mkS [(4,(.bp 1 0))],[jR 4 Qa.cells a4,some (.box 38 [(.pl (.sl (bif v172 then Fl.nil else Fl.any) 1 (v173.map (cInt .i64))))])])
 | .ret v174 v175=>(.ret,mkS [(4,(.bp 1 0))],[jR 4 Qa.cells a4,some (.box 38 [(.pl (.sl (bif v174 then Fl.nil else Fl.any) 1 (v175.map (cInt .i64))))])])
def f24r3n3S(x9:Qa)(a4:List Qa)(a1 a2:Nat)(a3:Int)(v117:Bool)(v118:List Int)(v119 v120:Nat)(v121:List ByteArray)(v122:List Way_):Tr×Hp:=(mkS [(2,(.bp 1 0)),(3,(.bp 2 0)),(4,(.bp 3 0)),(5,(jS x9.Contract)),(6,(.bp 4 0)),(7,(.bp 5 0))],[jR 4 Qa.cells a4,some (.box 22 [(.vw 0 a1 a2)]),some (.box 3 (((cInt .i64) a3).map .pl)),some (.box 38 [(.pl (.sl (bif v117 then Fl.nil else Fl.any) 1 (v118.map (cInt .i64))))]),some (.box 69 [(.own 6)]),some (.box 71 [(.vw 7 v119 v120)]),jR 1 cStr v121,jR 2 Way_.cells v122])
noncomputable def f24r3n3:Nat→Qa→List Qa→Nat→Nat→Int→Bool→List Int→Nat→Nat→List ByteArray→List Way_→Option f24r3n3O
 | 0,_,_,_,_,_,_,_,_,_,_,_=>none
 | f+1,x9,a4,a1,a2,a3,v117,v118,v119,v120,v121,v122 =>
  bif (decide (0<((v120:Nat):Int))) then
   (f24r3n1 x9 a4 a1 a2 a3 v117 v118 v119 v120 v121 v122).bind fun o162=>match o162 with
   | .norm v164 v165 v166 v167 v168 v169=>(f24r3n3 f x9 a4 a1 a2 a3 v164 v165 v166 v167 v168 v169)
   | .ret v170 v171=>some (.ret v170 v171)
  else
   some (.exit0 v117 v118)
theorem f24r3n3_ok:∀(f:Nat)(x9:Qa)(a4:List Qa)(a1 a2:Nat)(a3:Int)(v117:Bool)(v118:List Int)(v119 v120:Nat)(v121:List ByteArray)(v122:List Way_){o:f24r3n3O},f24r3n3 f x9 a4 a1 a2 a3 v117 v118 v119 v120 v121 v122=some o→TL Try.prog Try.f24.ntmps 1 f (cL (cL (cL (Qi 0 (Qi 5 c24))))) (f24r3n3S x9 a4 a1 a2 a3 v117 v118 v119 v120 v121 v122) (·=f24r3n3E x9 a4 a1 a2 a3 o)
 | 0,_,_,_,_,_,_,_,_,_,_,_,o,h=>by rw [f24r3n3] at h; cases h
 | f+1,x9,a4,a1,a2,a3,v117,v118,v119,v120,v121,v122,o,h=>by
  rw [f24r3n3] at h;refine TL.body (K:=fun s=>∃v117:Bool,∃v118:List Int,∃v119:Nat,∃v120:Nat,∃v121:List ByteArray,∃v122:List Way_,s=(f24r3n3S x9 a4 a1 a2 a3 v117 v118 v119 v120 v121 v122)∧f24r3n3 f x9 a4 a1 a2 a3 v117 v118 v119 v120 v121 v122=some o) ?_ (by rintro _ ⟨v117,v118,v119,v120,v121,v122,rfl,hk⟩; exact f24r3n3_ok f _ _ _ _ _ _ _ _ _ _ _ hk);rcases Qf h with ⟨h124,h⟩|⟨h124,h⟩
  ·refine rN Qe 1 [j3] [some true] [] [1,2,3,4,5,6,7] [2,3,4,5,6,7] (f24r3n1S x9 a4 a1 a2 a3 v117 v118 v119 v120 v121 v122) (ap h124 an) ?_;obtain ⟨o162,h163,h⟩:=Qc h;cases o162 with
   | norm v164 v165 v166 v167 v168 v169 =>
    exact T.last' (f24r3n1_ok x9 a4 a1 a2 a3 v117 v118 v119 v120 v121 v122 h163) (tds:=[]) (m:=[1,2,3,4,5,6,7]) (keep:=[2,3,4,5,6,7]) (st2:=(f24r3n3S x9 a4 a1 a2 a3 v164 v165 v166 v167 v168 v169)) (by kernel_rfl) an (Qv.norm ⟨v164,v165,v166,v167,v168,v169,rfl,h⟩)
   | ret v170 v171 =>
    obtain rfl:=Qd h;exact T.last' (f24r3n1_ok x9 a4 a1 a2 a3 v117 v118 v119 v120 v121 v122 h163) (tds:=[]) (m:=[1]) (keep:=[4]) (st2:=(f24r3n3E x9 a4 a1 a2 a3 (.ret v170 v171)).2) (by kernel_rfl) an (Qv.out rfl rfl)
  ·obtain rfl:=Qd h;exact rK Qe 1 [j3] [some false] [] [3] [4] (.exit 0) ((f24r3n3E x9 a4 a1 a2 a3 (.exit0 v117 v118)).2) (ap h124 an) (Qv.out rfl rfl)
inductive f24r3n0O where
 | ret (v182:Bool) (v183:List Int)
def f24r3n0E(a1 a2:Nat)(a3:Int)(a4:List Qa):f24r3n0O→Ex×Tr×Hp
 | .ret v182 v183=>(.ret,mkS [(4,(.bp 1 0))],[jR 4 Qa.cells a4,some (.box 38 [(.pl (.sl (bif v182 then Fl.nil else Fl.any) 1 (v183.map (cInt .i64))))])])
def f24r3n0S(a1 a2:Nat)(a3:Int)(a4:List Qa):Tr×Hp:=(Qad [(.vw 0 a1 a2),(jI a3)] 0 .leaf,[jR 4 Qa.cells a4])
noncomputable def f24r3n0(a1 a2:Nat)(a3:Int)(a4:List Qa):Option f24r3n0O :=
 req (decide (a1+a2≤a4.length)) <|
 (at? ((a4.drop a1).take a2) a3).bind fun x9 =>
 (f34r1 x9.To [a3]).bind fun x13 =>
 (f24r3n3 FUEL x9 a4 a1 a2 a3 true [] 0 1 [x9.To] [(Way_.mk x9.To [a3])]).bind fun o176=>match o176 with
 | .exit0 v178 v179=>some (.ret true [])
 | .ret v180 v181=>some (.ret v180 v181)
theorem f24r3n0_ok(a1 a2:Nat)(a3:Int)(a4:List Qa){o:f24r3n0O}(h:f24r3n0 a1 a2 a3 a4=some o):T Try.prog Try.f24.ntmps 1 c24 (f24r3n0S a1 a2 a3 a4) (·=f24r3n0E a1 a2 a3 a4 o):=by
 unfold f24r3n0 at h;obtain ⟨h8,h⟩:=Qm h;obtain ⟨x9,h10,h⟩:=Qc h;obtain ⟨x13,h14,h⟩:=Qc h
 refine rN Qe 5 [j3,([],[(2,.at_ (Int.toNat a3)),(4,.idx 0 (Qa.cells x9))],[]),([],[(2,.at_ (Int.toNat a3)),(4,.idx 0 (Qa.cells x9))],[]),j3,([],[(2,.at_ (Int.toNat a3)),(4,.idx 0 (Qa.cells x9)),(8,.call (.tup []) (jN 6 [some (.box 71 [(.own 9)]),some (.row true 1 ([a3].map (cInt .i64))),none,some (.row false 2 ([(Way_.mk x9.To [a3])].map Way_.cells))]))],[])] [] [] [1,2,3,5,6,4,9] [2,3,4,5,6,7] (mkS [(2,(.bp 1 0)),(3,(.bp 2 0)),(4,(.bp 3 0)),(5,(jS x9.Contract)),(6,(.bp 4 0)),(7,(.bp 5 0))],[jR 4 Qa.cells a4,some (.box 22 [(.vw 0 a1 a2)]),some (.box 3 (((cInt .i64) a3).map .pl)),some (.box 38 [(.pl (.sl .nil 0 []))]),some (.box 69 [(.own 6)]),some (.box 71 [(.own 7)]),some (.row false 1 ([x9.To].map cStr)),some (.row false 2 ([(Way_.mk x9.To [a3])].map Way_.cells))]) (ap (Qg h10).1 (ap (vw_lt h10) (ap (Qae (c:=Qa.cells) h8) (ap (Qo Qa.cells (vw_at h10)) (ap (Qg h10).1 (ap (vw_lt h10) (ap (Qae (c:=Qa.cells) h8) (ap (Qo Qa.cells (vw_at h10)) (ap (Qg h10).1 (ap (vw_lt h10) (ap (Qae (c:=Qa.cells) h8) (ap (Qo Qa.cells (vw_at h10)) (ap (Qk.rn 9 [6,7] (f34r1_ok x9.To [a3] h14)) an))))))))))))) ?_
 refine rN Qe 0 [] [] [.wkC 3 0 (.pl (.sl .nil 1 ([].map (cInt .i64)))),.ovwC 5 0 1] [1,2,3,4,5,6,7] [2,3,4,5,6,7] (f24r3n3S x9 a4 a1 a2 a3 true [] 0 1 [x9.To] [(Way_.mk x9.To [a3])]) (ap ((Wk.pl (WkP.nilz (sz:=0) (sz':=1))):Wk (.pl (.sl .nil 0 [])) (.pl (.sl .nil 1 ([].map (cInt .i64))))) (ap (len_ov (xs:=[(Way_.mk x9.To [a3])]) (c:=Way_.cells)) an)) ?_;obtain ⟨o176,h177,h⟩:=Qc h;cases o176 with
 | exit0 v178 v179 =>
  refine T.oneN (by kernel_rfl) (T.bl (i:=0) (by kernel_rfl) (by kernel_rfl) (f24r3n3_ok FUEL x9 a4 a1 a2 a3 true [] 0 1 [x9.To] [(Way_.mk x9.To [a3])] h177)) (st2:=(f24r3n3E x9 a4 a1 a2 a3 (.exit0 v178 v179)).2) rfl ?_;obtain rfl:=Qd h;exact rE Qe [j3] [] [.wkC 1 0 (.pl (.sl .nil 1 ([].map (cInt .i64))))] [1] [4] (.ret,(f24r3n0E a1 a2 a3 a4 (.ret true [])).2) (ap ((Wk.pl (WkP.nilz (sz:=0) (sz':=1))):Wk (.pl (.sl .nil 0 [])) (.pl (.sl .nil 1 ([].map (cInt .i64))))) an) rfl
 | ret v180 v181 =>
  obtain rfl:=Qd h;exact T.oneX' (by kernel_rfl) (T.bl (i:=0) (by kernel_rfl) (by kernel_rfl) (f24r3n3_ok FUEL x9 a4 a1 a2 a3 true [] 0 1 [x9.To] [(Way_.mk x9.To [a3])] h177)) (tds:=[]) (m:=[1]) (keep:=[4]) (st2:=(f24r3n0E a1 a2 a3 a4 (.ret v180 v181)).2) (by kernel_rfl) an rfl rfl
noncomputable def f24r3(a1 a2:Nat)(a3:Int)(a4:List Qa):Option (Bool×(List Int)):=(f24r3n0 a1 a2 a3 a4).bind fun o=>match o with
 | .ret v182 v183=>some (v182,v183)
theorem f24r3_ok(a1 a2:Nat)(a3:Int)(a4:List Qa){r:Bool×(List Int)}(h:f24r3 a1 a2 a3 a4=some r):Qk Try.prog true 24 [(.vw 0 a1 a2),(jI a3)] [jR 4 Qa.cells a4] (.pl (.sl (bif r.1 then Fl.nil else Fl.any) 1 (r.2.map (cInt .i64)))) [jR 4 Qa.cells a4,some (.box 38 [(.pl (.sl (bif r.1 then Fl.nil else Fl.any) 1 (r.2.map (cInt .i64))))])]:=by
 unfold f24r3 at h;obtain ⟨o,ho,h⟩:=Qc h;cases o with
 | ret v182 v183 =>
  obtain rfl:=Qd h;exact Qk.shared Qe (f:=Try.f24) (c:=c24) (by kernel_rfl) (by kernel_rfl) (by kernel_rfl) ((f24r3n0_ok a1 a2 a3 a4 ho).mono fun r e=>by subst e; exact ⟨.inl rfl,by kernel_rfl,by kernel_rfl⟩)

inductive f12r3n2O where
 | exit0
 | ret (v36:Bool) (v37:List Int)
def f12r3n2E(bh1 bh2:Nat)(ba3:List Qa):f12r3n2O→Ex×Tr×Hp
 | .exit0=>((.exit 0),mkS [],[jR 4 Qa.cells ba3])
 | .ret v36 v37=>(.ret,mkS [(2,(.pl (.sl (bif v36 then Fl.nil else Fl.any) 1 (v37.map (cInt .i64)))))],[jR 4 Qa.cells ba3])
def f12r3n2S(bh1 bh2:Nat)(ba3:List Qa)(v25:Int):Tr×Hp:=(mkS [(0,(.vw 0 bh1 bh2)),(6,(jI ((bh2:Nat):Int))),(7,(jI v25))],[jR 4 Qa.cells ba3])
noncomputable def f12r3n2:Nat→Nat→Nat→List Qa→Int→Option f12r3n2O
 | 0,_,_,_,_=>none
 | f+1,bh1,bh2,ba3,v25 =>
  bif (decide (v25<((bh2:Nat):Int))) then
   (f24r3 bh1 bh2 v25 ba3).bind fun x32 =>
   bif x32.1 then
    (f12r3n2 f bh1 bh2 ba3 (wr64 (v25+1)))
   else
    req (!(x32.2.isEmpty)) <|
    some (.ret x32.1 x32.2)
  else
   some .exit0
theorem f12r3n2_ok:∀(f bh1 bh2:Nat)(ba3:List Qa)(v25:Int){o:f12r3n2O},f12r3n2 f bh1 bh2 ba3 v25=some o→TL Try.prog Try.f12.ntmps 1 f (cL (cL (Qi 1 (cL (Qi 1 c12))))) (f12r3n2S bh1 bh2 ba3 v25) (·=f12r3n2E bh1 bh2 ba3 o)
 | 0,_,_,_,_,o,h=>by rw [f12r3n2] at h; cases h
 | f+1,bh1,bh2,ba3,v25,o,h=>by
  rw [f12r3n2] at h;refine TL.body (K:=fun s=>∃v25:Int,s=(f12r3n2S bh1 bh2 ba3 v25)∧f12r3n2 f bh1 bh2 ba3 v25=some o) ?_ (by rintro _ ⟨v25,rfl,hk⟩; exact f12r3n2_ok f _ _ _ _ hk);rcases Qf h with ⟨h27,h⟩|⟨h27,h⟩
  ·obtain ⟨x32,h33,h⟩:=Qc h;rcases Qf h with ⟨h34,h⟩|⟨h34,h⟩
   ·exact rE Qe [j3,j3,([],[(2,.call (.pl (.sl (bif x32.1 then Fl.nil else Fl.any) 1 (x32.2.map (cInt .i64)))) [jR 4 Qa.cells ba3,some (.box 38 [(.pl (.sl (bif x32.1 then Fl.nil else Fl.any) 1 (x32.2.map (cInt .i64))))])])],[]),([],[(1,.app true)],[]),j3] [some true,none] [] [] [0,6,7] (.norm,(f12r3n2S bh1 bh2 ba3 (wr64 (v25+1)))) (ap h27 (ap (f24r3_ok bh1 bh2 v25 ba3 h33) (ap (fl_t h34) an))) (Qv.norm ⟨(wr64 (v25+1)),rfl,h⟩)
   ·obtain ⟨h35,h⟩:=Qm h;obtain rfl:=Qd h;exact rK Qe 3 [j3,j3,([],[(2,.call (.pl (.sl (bif x32.1 then Fl.nil else Fl.any) 1 (x32.2.map (cInt .i64)))) [jR 4 Qa.cells ba3,some (.box 38 [(.pl (.sl (bif x32.1 then Fl.nil else Fl.any) 1 (x32.2.map (cInt .i64))))])])],[]),([],[(1,.app false)],[]),j3] [some true,none] [] [] [2] .ret ((f12r3n2E bh1 bh2 ba3 (.ret x32.1 x32.2)).2) (ap h27 (ap (f24r3_ok bh1 bh2 v25 ba3 h33) (ap (fl_f h34) (ap (ne_map (c:=(cInt .i64)) (by simpa using h35)) an)))) (Qv.out rfl rfl)
  ·obtain rfl:=Qd h;exact rK Qe 2 [j3] [some false] [] [] [] (.exit 0) ((f12r3n2E bh1 bh2 ba3 .exit0).2) (ap h27 an) (Qv.out rfl rfl)
inductive f12r3n1O where
 | norm
 | ret (v42:Bool) (v43:List Int)
def f12r3n1E(bh1 bh2:Nat)(ba3:List Qa):f12r3n1O→Ex×Tr×Hp
 | .norm=>(.norm,mkS [],[jR 4 Qa.cells ba3])
 | .ret v42 v43=>(.ret,mkS [(2,(.pl (.sl (bif v42 then Fl.nil else Fl.any) 1 (v43.map (cInt .i64)))))],[jR 4 Qa.cells ba3])
def f12r3n1S(bh1 bh2:Nat)(ba3:List Qa):Tr×Hp:=(mkS [(0,(.vw 0 bh1 bh2))],[jR 4 Qa.cells ba3])
noncomputable def f12r3n1(bh1 bh2:Nat)(ba3:List Qa):Option f12r3n1O :=
 (f12r3n2 FUEL bh1 bh2 ba3 0).bind fun o38=>match o38 with
 | .exit0=>some .norm
 | .ret v40 v41=>some (.ret v40 v41)
theorem f12r3n1_ok(bh1 bh2:Nat)(ba3:List Qa){o:f12r3n1O}(h:f12r3n1 bh1 bh2 ba3=some o):T Try.prog Try.f12.ntmps 1 (cL (Qi 1 c12)) (f12r3n1S bh1 bh2 ba3) (·=f12r3n1E bh1 bh2 ba3 o):=by
 unfold f12r3n1 at h;refine rN Qe 1 [j3] [] [] [] [0,6,7] (f12r3n2S bh1 bh2 ba3 0) an ?_;obtain ⟨o38,h39,h⟩:=Qc h;cases o38 with
 | exit0 =>
  obtain rfl:=Qd h;exact T.last' (T.bl (i:=0) (by kernel_rfl) (by kernel_rfl) (f12r3n2_ok FUEL bh1 bh2 ba3 0 h39)) (tds:=[]) (m:=[]) (keep:=[]) (st2:=(f12r3n1E bh1 bh2 ba3 .norm).2) (by kernel_rfl) an rfl
 | ret v40 v41 =>
  obtain rfl:=Qd h;exact T.last' (T.bl (i:=0) (by kernel_rfl) (by kernel_rfl) (f12r3n2_ok FUEL bh1 bh2 ba3 0 h39)) (tds:=[]) (m:=[]) (keep:=[2]) (st2:=(f12r3n1E bh1 bh2 ba3 (.ret v40 v41)).2) (by kernel_rfl) an rfl
inductive f12r3n0O where
 | ret (v48:Bool) (v49:List Int)
def f12r3n0E(a1 a2:Nat)(a3:List Qa):f12r3n0O→Ex×Tr×Hp
 | .ret v48 v49=>(.ret,mkS [(2,(.pl (.sl (bif v48 then Fl.nil else Fl.any) 1 (v49.map (cInt .i64)))))],[jR 4 Qa.cells a3])
def f12r3n0S(a1 a2:Nat)(a3:List Qa):Tr×Hp:=(Qad [(.vw 0 a1 a2)] 0 .leaf,[jR 4 Qa.cells a3])
noncomputable def f12r3n0(a1 a2:Nat)(a3:List Qa):Option f12r3n0O :=
 (f12r3n1 a1 a2 a3).bind fun o44=>match o44 with
 | .norm=>some (.ret true [])
 | .ret v46 v47=>some (.ret v46 v47)
theorem f12r3n0_ok(a1 a2:Nat)(a3:List Qa){o:f12r3n0O}(h:f12r3n0 a1 a2 a3=some o):T Try.prog Try.f12.ntmps 1 c12 (f12r3n0S a1 a2 a3) (·=f12r3n0E a1 a2 a3 o):=by
 unfold f12r3n0 at h;refine rN Qe 1 [j3] [] [] [] [0] (f12r3n1S a1 a2 a3) an ?_;obtain ⟨o44,h45,h⟩:=Qc h;cases o44 with
 | norm =>
  refine T.oneN (by kernel_rfl) (f12r3n1_ok a1 a2 a3 h45) (st2:=(f12r3n1E a1 a2 a3 .norm).2) rfl ?_;obtain rfl:=Qd h;exact rE Qe [j3] [] [.wk 2 (.pl (.sl .nil 1 ([].map (cInt .i64))))] [] [2] (.ret,(f12r3n0E a1 a2 a3 (.ret true [])).2) (ap ((Wk.pl (WkP.nilz (sz:=0) (sz':=1))):Wk (.pl (.sl .nil 0 [])) (.pl (.sl .nil 1 ([].map (cInt .i64))))) an) rfl
 | ret v46 v47 =>
  obtain rfl:=Qd h;exact T.oneX' (by kernel_rfl) (f12r3n1_ok a1 a2 a3 h45) (tds:=[]) (m:=[]) (keep:=[2]) (st2:=(f12r3n0E a1 a2 a3 (.ret v46 v47)).2) (by kernel_rfl) an rfl rfl
noncomputable def f12r3(a1 a2:Nat)(a3:List Qa):Option (Bool×(List Int)):=(f12r3n0 a1 a2 a3).bind fun o=>match o with
 | .ret v48 v49=>some (v48,v49)
theorem f12r3_ok(a1 a2:Nat)(a3:List Qa){r:Bool×(List Int)}(h:f12r3 a1 a2 a3=some r):Qk Try.prog true 12 [(.vw 0 a1 a2)] [jR 4 Qa.cells a3] (.pl (.sl (bif r.1 then Fl.nil else Fl.any) 1 (r.2.map (cInt .i64)))) [jR 4 Qa.cells a3]:=by
 unfold f12r3 at h;obtain ⟨o,ho,h⟩:=Qc h;cases o with
 | ret v48 v49 =>
  obtain rfl:=Qd h;exact Qk.shared Qe (f:=Try.f12) (c:=c12) (by kernel_rfl) (by kernel_rfl) (by kernel_rfl) ((f12r3n0_ok a1 a2 a3 ho).mono fun r e=>by subst e; exact ⟨.inl rfl,by kernel_rfl,by kernel_rfl⟩)

inductive f13r3n2O where
 | exit0 (v72:Int) (v73:List Qa)
def f13r3n2E(bh1 bh2:Nat):f13r3n2O→Ex×Tr×Hp
 | .exit0 v72 v73=>((.exit 0),mkS [(0,(.vw 0 bh1 bh2)),(5,(jI v72))],[jR 4 Qa.cells v73])
def f13r3n2S(bh1 bh2:Nat)(v51 v52:Int)(v53:List Qa):Tr×Hp:=(mkS [(0,(.vw 0 bh1 bh2)),(1,(.pl (.fn 14))),(5,(jI v51)),(6,(jI v52))],[jR 4 Qa.cells v53])
noncomputable def f13r3n2:Nat→Nat→Nat→Int→Int→List Qa→Option f13r3n2O
 | 0,_,_,_,_,_=>none
 | f+1,bh1,bh2,v51,v52,v53 =>
  bif (decide (v52<((bh2:Nat):Int))) then
   req (decide (bh1+bh2≤v53.length)) <|
   (at? ((v53.drop bh1).take bh2) v52).bind fun x65 =>
   (f14 x65).bind fun x67 =>
   bif x67 then
    (f13r3n2 f bh1 bh2 v51 (wr64 (v52+1)) v53)
   else
    (at? ((v53.drop bh1).take bh2) v51).bind fun x70 =>
    (f13r3n2 f bh1 bh2 (wr64 (v51+1)) (wr64 (v52+1)) (v53.set (bh1+(Int.toNat v51)) x65))
  else
   some (.exit0 v51 v53)
theorem f13r3n2_ok:∀(f bh1 bh2:Nat)(v51 v52:Int)(v53:List Qa){o:f13r3n2O},f13r3n2 f bh1 bh2 v51 v52 v53=some o→TL Try.prog Try.f13.ntmps 1 f (cL (cL (Qi 1 (cL (Qi 3 c13))))) (f13r3n2S bh1 bh2 v51 v52 v53) (·=f13r3n2E bh1 bh2 o)
 | 0,_,_,_,_,_,o,h=>by rw [f13r3n2] at h; cases h
 | f+1,bh1,bh2,v51,v52,v53,o,h=>by
  rw [f13r3n2] at h;refine TL.body (K:=fun s=>∃v51:Int,∃v52:Int,∃v53:List Qa,s=(f13r3n2S bh1 bh2 v51 v52 v53)∧f13r3n2 f bh1 bh2 v51 v52 v53=some o) ?_ (by rintro _ ⟨v51,v52,v53,rfl,hk⟩; exact f13r3n2_ok f _ _ _ _ _ hk);rcases Qf h with ⟨h55,h⟩|⟨h55,h⟩
  ·obtain ⟨h64,h⟩:=Qm h;obtain ⟨x65,h66,h⟩:=Qc h;obtain ⟨x67,h68,h⟩:=Qc h;rcases Qf h with ⟨h69,h⟩|⟨h69,h⟩
   ·exact rE Qe [j3,([],[(2,.at_ (Int.toNat v52)),(3,.idx 0 (Qa.cells x65))],[]),([],[jH 2 (jB x67)],[]),j3] [some true,some false] [] [] [0,1,5,6] (.norm,(f13r3n2S bh1 bh2 v51 (wr64 (v52+1)) v53)) (ap h55 (ap (Qg h66).1 (ap (vw_lt h66) (ap (Qae (c:=Qa.cells) h64) (ap (Qo Qa.cells (vw_at h66)) (ap (f14_ok x65 h68) (ap (Qab h69) an))))))) (Qv.norm ⟨v51,(wr64 (v52+1)),v53,rfl,h⟩)
   ·obtain ⟨x70,h71,h⟩:=Qc h
    exact rE Qe [j3,([],[(2,.at_ (Int.toNat v52)),(3,.idx 0 (Qa.cells x65))],[]),([],[jH 2 (jB x67)],[]),([],[(3,.at_ (Int.toNat v51)),(4,.idx 0 (Qa.cells x70))],[(4,.row 0 ((v53.set (bh1+(Int.toNat v51)) x65).map Qa.cells))]),j3,j3] [some true,some true] [] [] [0,1,5,6] (.norm,(f13r3n2S bh1 bh2 (wr64 (v51+1)) (wr64 (v52+1)) (v53.set (bh1+(Int.toNat v51)) x65))) (ap h55 (ap (Qg h66).1 (ap (vw_lt h66) (ap (Qae (c:=Qa.cells) h64) (ap (Qo Qa.cells (vw_at h66)) (ap (f14_ok x65 h68) (ap (Qbc h69) (ap (Qg h71).1 (ap (vw_lt h71) (ap (Qae (c:=Qa.cells) h64) (ap (Qo Qa.cells (vw_at h71)) (ap (set_cv (xs:=v53) (c:=Qa.cells) (k:=(bh1+(Int.toNat v51))) (x:=x65)) an)))))))))))) (Qv.norm ⟨(wr64 (v51+1)),(wr64 (v52+1)),(v53.set (bh1+(Int.toNat v51)) x65),rfl,h⟩)
  ·obtain rfl:=Qd h;exact rK Qe 1 [j3] [some false] [] [] [0,5] (.exit 0) ((f13r3n2E bh1 bh2 (.exit0 v51 v53)).2) (ap h55 an) (Qv.out rfl rfl)
inductive f13r3n1O where
 | norm (v78:Int) (v79:List Qa)
def f13r3n1E(bh1 bh2:Nat)(bd3:Int)(ba4:List Qa):f13r3n1O→Ex×Tr×Hp
 | .norm v78 v79=>(.norm,mkS [(0,(.vw 0 bh1 bh2)),(5,(jI v78))],[jR 4 Qa.cells v79])
def f13r3n1S(bh1 bh2:Nat)(bd3:Int)(ba4:List Qa):Tr×Hp:=(mkS [(0,(.vw 0 bh1 bh2)),(1,(.pl (.fn 14))),(5,(jI bd3))],[jR 4 Qa.cells ba4])
noncomputable def f13r3n1(bh1 bh2:Nat)(bd3:Int)(ba4:List Qa):Option f13r3n1O :=
 (f13r3n2 FUEL bh1 bh2 bd3 (wr64 (bd3+1)) ba4).bind fun o74=>match o74 with
 | .exit0 v76 v77=>some (.norm v76 v77)
theorem f13r3n1_ok(bh1 bh2:Nat)(bd3:Int)(ba4:List Qa){o:f13r3n1O}(h:f13r3n1 bh1 bh2 bd3 ba4=some o):T Try.prog Try.f13.ntmps 1 (cL (Qi 3 c13)) (f13r3n1S bh1 bh2 bd3 ba4) (·=f13r3n1E bh1 bh2 bd3 ba4 o):=by
 unfold f13r3n1 at h;refine rN Qe 1 [j3] [] [] [] [0,1,5,6] (f13r3n2S bh1 bh2 bd3 (wr64 (bd3+1)) ba4) an ?_;obtain ⟨o74,h75,h⟩:=Qc h;cases o74 with
 | exit0 v76 v77 =>
  obtain rfl:=Qd h;exact T.last' (T.bl (i:=0) (by kernel_rfl) (by kernel_rfl) (f13r3n2_ok FUEL bh1 bh2 bd3 (wr64 (bd3+1)) ba4 h75)) (tds:=[]) (m:=[]) (keep:=[0,5]) (st2:=(f13r3n1E bh1 bh2 bd3 ba4 (.norm v76 v77)).2) (by kernel_rfl) an rfl
inductive f13r3n0O where
 | ret (v94:Nat) (v95:Nat) (v96:List Qa)
def f13r3n0E(a1 a2:Nat)(a3:List Qa):f13r3n0O→Ex×Tr×Hp
 | .ret v94 v95 v96=>(.ret,mkS [(4,(.vw 0 v94 v95))],[jR 4 Qa.cells v96])
def f13r3n0S(a1 a2:Nat)(a3:List Qa):Tr×Hp:=(Qad [(.vw 0 a1 a2),(.pl (.fn 14))] 0 .leaf,[jR 4 Qa.cells a3])
noncomputable def f13r3n0(a1 a2:Nat)(a3:List Qa):Option f13r3n0O :=
 req (decide (a1+a2≤a3.length)) <|
 (f25_14 ((a3.drop a1).take a2)).bind fun x8 =>
 bif decide (x8=(-1)) then
  some (.ret a1 a2 a3)
 else
  (f13r3n1 a1 a2 x8 a3).bind fun o80=>match o80 with
  | .norm v82 v83=>req (cutB v82 (a2:Int) a2) <|
   req (decide (a1+a2≤v83.length)) <|
   req (decide ((a1+(Int.toNat v82))+(a2-(Int.toNat v82))≤v83.length)) <|
   req (cutB 0 v82 a2) <|
   req (decide (a1+a2≤(putL v83 (a1+(Int.toNat v82)) (List.replicate (a2-(Int.toNat v82)) (Qa.mk Qau Qau Qau 0))).length)) <|
   some (.ret (a1+0) ((Int.toNat v82)-0) (putL v83 (a1+(Int.toNat v82)) (List.replicate (a2-(Int.toNat v82)) (Qa.mk Qau Qau Qau 0))))
theorem f13r3n0_ok(a1 a2:Nat)(a3:List Qa){o:f13r3n0O}(h:f13r3n0 a1 a2 a3=some o):T Try.prog Try.f13.ntmps 1 c13 (f13r3n0S a1 a2 a3) (·=f13r3n0E a1 a2 a3 o):=by
 unfold f13r3n0 at h;obtain ⟨h7,h⟩:=Qm h;obtain ⟨x8,h9,h⟩:=Qc h;rcases Qf h with ⟨h11,h⟩|⟨h11,h⟩
 ·obtain rfl:=Qd h;exact rK Qe 3 [j3,([],[jH 2 (jI x8)],[]),j3,j3] [some true] [] [] [4] .ret ((f13r3n0E a1 a2 a3 (.ret a1 a2 a3)).2) (ap (Qae (c:=Qa.cells) h7) (ap (show Qk Try.prog false 25 [(.pl (.sl .any 4 (((a3.map Qa.cells).drop a1).take a2))),(.pl (.fn 14))] [] (jI x8) [] from (by have h:=(f25_14_ok ((a3.drop a1).take a2) h9); simpa only [jL,List.map_take,List.map_drop] using h)) (ap h11 an))) rfl
 ·refine rN Qe 3 [j3,([],[jH 2 (jI x8)],[]),j3] [some false] [] [] [0,1,5] (f13r3n1S a1 a2 x8 a3) (ap (Qae (c:=Qa.cells) h7) (ap (show Qk Try.prog false 25 [(.pl (.sl .any 4 (((a3.map Qa.cells).drop a1).take a2))),(.pl (.fn 14))] [] (jI x8) [] from (by have h:=(f25_14_ok ((a3.drop a1).take a2) h9); simpa only [jL,List.map_take,List.map_drop] using h)) (ap h11 an))) ?_;obtain ⟨o80,h81,h⟩:=Qc h;cases o80 with
  | norm v82 v83 =>
   refine T.oneN (by kernel_rfl) (f13r3n1_ok a1 a2 x8 a3 h81) (st2:=(f13r3n1E a1 a2 x8 a3 (.norm v82 v83)).2) rfl ?_;obtain ⟨h87,h⟩:=Qm h;obtain ⟨h88,h⟩:=Qm h;obtain ⟨h89,h⟩:=Qm h;obtain ⟨h92,h⟩:=Qm h;obtain ⟨h93,h⟩:=Qm h;obtain rfl:=Qd h
   exact rE Qe [([],[(2,.cut (Int.toNat v82) a2),(3,.nz)],[(3,.row 0 ((putL v83 (a1+(Int.toNat v82)) (List.replicate (a2-(Int.toNat v82)) (Qa.mk Qau Qau Qau 0))).map Qa.cells))]),([],[(2,.cut 0 (Int.toNat v82))],[])] [] [] [] [4] (.ret,(f13r3n0E a1 a2 a3 (.ret (a1+0) ((Int.toNat v82)-0) (putL v83 (a1+(Int.toNat v82)) (List.replicate (a2-(Int.toNat v82)) (Qa.mk Qau Qau Qau 0))))).2) (ap (rfl:a2=a2) (ap (cut_nl_2 h87) (ap (cut_nl_3 h87) (ap (vw_cut (cut_nl_4 h87) (Qae (c:=Qa.cells) h88)) (ap (Qae (c:=Qa.cells) h89) (ap (clr_cv (xs:=v83) (c:=Qa.cells) (a:=(a1+(Int.toNat v82))) (n:=(a2-(Int.toNat v82))) (z:=(Qa.mk Qau Qau Qau 0))) (ap (cut_hn_1 h92) (ap (cut_hn_2 h92) (ap (cut_hn_3 h92) (ap (vw_cut (cut_hn_4 h92) (Qae (c:=Qa.cells) h93)) an)))))))))) rfl
noncomputable def f13r3(a1 a2:Nat)(a3:List Qa):Option (Nat×Nat×(List Qa)):=(f13r3n0 a1 a2 a3).bind fun o=>match o with
 | .ret v94 v95 v96=>some (v94,v95,v96)
theorem f13r3_ok(a1 a2:Nat)(a3:List Qa){r:Nat×Nat×(List Qa)}(h:f13r3 a1 a2 a3=some r):Qk Try.prog true 13 [(.vw 0 a1 a2),(.pl (.fn 14))] [jR 4 Qa.cells a3] (.vw 0 r.1 r.2.1) [jR 4 Qa.cells r.2.2]:=by
 unfold f13r3 at h;obtain ⟨o,ho,h⟩:=Qc h;cases o with
 | ret v94 v95 v96 =>
  obtain rfl:=Qd h;exact Qk.shared Qe (f:=Try.f13) (c:=c13) (by kernel_rfl) (by kernel_rfl) (by kernel_rfl) ((f13r3n0_ok a1 a2 a3 ho).mono fun r e=>by subst e; exact ⟨.inl rfl,by kernel_rfl,by kernel_rfl⟩)

noncomputable def c6:Code:=Try.f6.body.getD .skip
inductive f6r1n4O where
 | exit2 (v446:Int)
def f6r1n4E(bh1 bh2:Nat)(bk3:Bool)(bf4:List Int)(ba6 ba7:List Qa):f6r1n4O→Ex×Tr×Hp
 | .exit2 v446=>((.exit 2),mkS [(5,(.vw 1 bh1 bh2)),(6,(.pl (.sl (bif bk3 then Fl.nil else Fl.any) 1 (bf4.map (cInt .i64))))),(7,(jI v446))],[jR 4 Qa.cells ba6,jR 4 Qa.cells ba7])
def f6r1n4S(bh1 bh2:Nat)(bk3:Bool)(bf4:List Int)(ba6 ba7:List Qa)(v432 v433:Int):Tr×Hp:=(mkS [(5,(.vw 1 bh1 bh2)),(6,(.pl (.sl (bif bk3 then Fl.nil else Fl.any) 1 (bf4.map (cInt .i64))))),(7,(jI v432)),(32,(.pl (.sl (bif bk3 then Fl.nil else Fl.any) 1 (bf4.map (cInt .i64))))),(33,(jI (bf4.length:Int))),(34,(jI v433))],[jR 4 Qa.cells ba6,jR 4 Qa.cells ba7])
noncomputable def f6r1n4:Nat→Nat→Nat→Bool→List Int→List Qa→List Qa→Int→Int→Option f6r1n4O
 | 0,_,_,_,_,_,_,_,_=>none
 | f+1,bh1,bh2,bk3,bf4,ba6,ba7,v432,v433 =>
  bif decide (v433<(bf4.length:Int)) then
   (at? bf4 v433).bind fun x441 =>
   req (decide (bh1+bh2≤ba7.length)) <|
   (at? ((ba7.drop bh1).take bh2) x441).bind fun x444 =>
   (f6r1n4 f bh1 bh2 bk3 bf4 ba6 ba7 (mnI v432 x444.Amount) (wr64 (v433+1)))
  else
   some (.exit2 v432)
theorem f6r1n4_ok:∀(f bh1 bh2:Nat)(bk3:Bool)(bf4:List Int)(ba6 ba7:List Qa)(v432 v433:Int){o:f6r1n4O},f6r1n4 f bh1 bh2 bk3 bf4 ba6 ba7 v432 v433=some o→TL Try.prog Try.f6.ntmps 1 f (cL (cL (Qi 1 (cL (Qi 1 (cL (cL (Qi 1 (cL (cL (Qi 1 (cL (Qi 3 c6))))))))))))) (f6r1n4S bh1 bh2 bk3 bf4 ba6 ba7 v432 v433) (·=f6r1n4E bh1 bh2 bk3 bf4 ba6 ba7 o)
 | 0,_,_,_,_,_,_,_,_,o,h=>by rw [f6r1n4] at h; cases h
 | f+1,bh1,bh2,bk3,bf4,ba6,ba7,v432,v433,o,h=>by
  rw [f6r1n4] at h;refine TL.body (K:=fun s=>∃v432:Int,∃v433:Int,s=(f6r1n4S bh1 bh2 bk3 bf4 ba6 ba7 v432 v433)∧f6r1n4 f bh1 bh2 bk3 bf4 ba6 ba7 v432 v433=some o) ?_ (by rintro _ ⟨v432,v433,rfl,hk⟩; exact f6r1n4_ok f _ _ _ _ _ _ _ _ hk);rcases Qf h with ⟨h435,h⟩|⟨h435,h⟩
  ·obtain ⟨x441,h442,h⟩:=Qc h;obtain ⟨h443,h⟩:=Qm h;obtain ⟨x444,h445,h⟩:=Qc h;exact rE Qe [j3,([],[(0,.idx (Int.toNat v433) ((cInt .i64) x441))],[]),([],[(3,.at_ (Int.toNat x441)),(5,.idx 0 (Qa.cells x444))],[]),j3] [some true] [] [1] [5,6,7,32,33,34] (.norm,(f6r1n4S bh1 bh2 bk3 bf4 ba6 ba7 (mnI v432 x444.Amount) (wr64 (v433+1)))) (ap h435 (ap (Qg h442).1 (ap (Qo (cInt .i64) (Qg h442).2) (ap (Qg h445).1 (ap (vw_lt h445) (ap (Qae (c:=Qa.cells) h443) (ap (Qo Qa.cells (vw_at h445)) an))))))) (Qv.norm ⟨(mnI v432 x444.Amount),(wr64 (v433+1)),rfl,h⟩)
  ·obtain rfl:=Qd h;exact rK Qe 2 [j3] [some false] [] [1] [5,6,7] (.exit 2) ((f6r1n4E bh1 bh2 bk3 bf4 ba6 ba7 (.exit2 v432)).2) (ap h435 an) (Qv.out rfl rfl)
inductive f6r1n3O where
 | norm (v450:Int)
def f6r1n3E(bh1 bh2:Nat)(bk3:Bool)(bf4:List Int)(be5:Qa)(ba6 ba7:List Qa):f6r1n3O→Ex×Tr×Hp
 | .norm v450=>(.norm,mkS [(5,(.vw 1 bh1 bh2)),(6,(.pl (.sl (bif bk3 then Fl.nil else Fl.any) 1 (bf4.map (cInt .i64))))),(7,(jI v450))],[jR 4 Qa.cells ba6,jR 4 Qa.cells ba7])
def f6r1n3S(bh1 bh2:Nat)(bk3:Bool)(bf4:List Int)(be5:Qa)(ba6 ba7:List Qa):Tr×Hp:=(mkS [(5,(.vw 1 bh1 bh2)),(6,(.pl (.sl (bif bk3 then Fl.nil else Fl.any) 1 (bf4.map (cInt .i64))))),(7,(jI be5.Amount))],[jR 4 Qa.cells ba6,jR 4 Qa.cells ba7])
noncomputable def f6r1n3(bh1 bh2:Nat)(bk3:Bool)(bf4:List Int)(be5:Qa)(ba6 ba7:List Qa):Option f6r1n3O :=
 (f6r1n4 FUEL bh1 bh2 bk3 bf4 ba6 ba7 be5.Amount 0).bind fun o447=>match o447 with
 | .exit2 v449=>some (.norm v449)
theorem f6r1n3_ok(bh1 bh2:Nat)(bk3:Bool)(bf4:List Int)(be5:Qa)(ba6 ba7:List Qa){o:f6r1n3O}(h:f6r1n3 bh1 bh2 bk3 bf4 be5 ba6 ba7=some o):T Try.prog Try.f6.ntmps 1 (cL (Qi 1 (cL (cL (Qi 1 (cL (cL (Qi 1 (cL (Qi 3 c6)))))))))) (f6r1n3S bh1 bh2 bk3 bf4 be5 ba6 ba7) (·=f6r1n3E bh1 bh2 bk3 bf4 be5 ba6 ba7 o):=by
 unfold f6r1n3 at h;refine rN Qe 1 [([],[],[(1,.val (jI (bf4.length:Int)))])] [] [] [1] [5,6,7,32,33,34] (f6r1n4S bh1 bh2 bk3 bf4 ba6 ba7 be5.Amount 0) (ap (Qu (xs:=bf4) (c:=(cInt .i64))) an) ?_;obtain ⟨o447,h448,h⟩:=Qc h;cases o447 with
 | exit2 v449 =>
  obtain rfl:=Qd h;exact T.last' (T.bl (i:=2) (by kernel_rfl) (by kernel_rfl) (f6r1n4_ok FUEL bh1 bh2 bk3 bf4 ba6 ba7 be5.Amount 0 h448)) (tds:=[]) (m:=[1]) (keep:=[5,6,7]) (st2:=(f6r1n3E bh1 bh2 bk3 bf4 be5 ba6 ba7 (.norm v449)).2) (by kernel_rfl) an rfl
inductive f6r1n6O where
 | exit4 (v494:List Qa)
def f6r1n6E(bh1 bh2:Nat)(bd5:Int)(bk3:Bool)(bf4:List Int)(ba6:List Qa):f6r1n6O→Ex×Tr×Hp
 | .exit4 v494=>((.exit 4),mkS [(5,(.vw 1 bh1 bh2))],[jR 4 Qa.cells ba6,jR 4 Qa.cells v494])
def f6r1n6S(bh1 bh2:Nat)(bd5:Int)(bk3:Bool)(bf4:List Int)(ba6:List Qa)(v480:Int)(v481:List Qa):Tr×Hp:=(mkS [(5,(.vw 1 bh1 bh2)),(7,(jI bd5)),(46,(.pl (.sl (bif bk3 then Fl.nil else Fl.any) 1 (bf4.map (cInt .i64))))),(47,(jI (bf4.length:Int))),(48,(jI v480))],[jR 4 Qa.cells ba6,jR 4 Qa.cells v481])
noncomputable def f6r1n6:Nat→Nat→Nat→Int→Bool→List Int→List Qa→Int→List Qa→Option f6r1n6O
 | 0,_,_,_,_,_,_,_,_=>none
 | f+1,bh1,bh2,bd5,bk3,bf4,ba6,v480,v481 =>
  bif decide (v480<(bf4.length:Int)) then
   (at? bf4 v480).bind fun x489 =>
   req (decide (bh1+bh2≤v481.length)) <|
   (at? ((v481.drop bh1).take bh2) x489).bind fun x492 =>
   (f6r1n6 f bh1 bh2 bd5 bk3 bf4 ba6 (wr64 (v480+1)) (v481.set (bh1+(Int.toNat x489)) (Qa.mk x492.From x492.To x492.Contract (wr64 (x492.Amount-bd5)))))
  else
   some (.exit4 v481)
theorem f6r1n6_ok:∀(f bh1 bh2:Nat)(bd5:Int)(bk3:Bool)(bf4:List Int)(ba6:List Qa)(v480:Int)(v481:List Qa){o:f6r1n6O},f6r1n6 f bh1 bh2 bd5 bk3 bf4 ba6 v480 v481=some o→TL Try.prog Try.f6.ntmps 1 f (cL (cL (Qi 1 (cL (Qi 0 (Qi 1 (Qi 1 (cL (cL (Qi 1 (cL (cL (Qi 1 (cL (Qi 3 c6))))))))))))))) (f6r1n6S bh1 bh2 bd5 bk3 bf4 ba6 v480 v481) (·=f6r1n6E bh1 bh2 bd5 bk3 bf4 ba6 o)
 | 0,_,_,_,_,_,_,_,_,o,h=>by rw [f6r1n6] at h; cases h
 | f+1,bh1,bh2,bd5,bk3,bf4,ba6,v480,v481,o,h=>by
  rw [f6r1n6] at h;refine TL.body (K:=fun s=>∃v480:Int,∃v481:List Qa,s=(f6r1n6S bh1 bh2 bd5 bk3 bf4 ba6 v480 v481)∧f6r1n6 f bh1 bh2 bd5 bk3 bf4 ba6 v480 v481=some o) ?_ (by rintro _ ⟨v480,v481,rfl,hk⟩; exact f6r1n6_ok f _ _ _ _ _ _ _ _ hk);rcases Qf h with ⟨h483,h⟩|⟨h483,h⟩
  ·obtain ⟨x489,h490,h⟩:=Qc h;obtain ⟨h491,h⟩:=Qm h;obtain ⟨x492,h493,h⟩:=Qc h
   exact rE Qe [j3,([],[(0,.idx (Int.toNat v480) ((cInt .i64) x489))],[]),([],[(2,.at_ (Int.toNat x489)),(4,.idx 0 (Qa.cells x492)),(7,.at_ (Int.toNat x489)),(9,.idx 0 (Qa.cells x492))],[(9,.row 1 ((v481.set (bh1+(Int.toNat x489)) (Qa.mk x492.From x492.To x492.Contract (wr64 (x492.Amount-bd5)))).map Qa.cells))]),j3] [some true] [] [1] [5,7,46,47,48] (.norm,(f6r1n6S bh1 bh2 bd5 bk3 bf4 ba6 (wr64 (v480+1)) (v481.set (bh1+(Int.toNat x489)) (Qa.mk x492.From x492.To x492.Contract (wr64 (x492.Amount-bd5)))))) (ap h483 (ap (Qg h490).1 (ap (Qo (cInt .i64) (Qg h490).2) (ap (Qg h493).1 (ap (vw_lt h493) (ap (Qae (c:=Qa.cells) h491) (ap (Qo Qa.cells (vw_at h493)) (ap (Qg h493).1 (ap (vw_lt h493) (ap (Qae (c:=Qa.cells) h491) (ap (Qo Qa.cells (vw_at h493)) (ap (set_cv (xs:=v481) (c:=Qa.cells) (k:=(bh1+(Int.toNat x489))) (x:=(Qa.mk x492.From x492.To x492.Contract (wr64 (x492.Amount-bd5))))) an)))))))))))) (Qv.norm ⟨(wr64 (v480+1)),(v481.set (bh1+(Int.toNat x489)) (Qa.mk x492.From x492.To x492.Contract (wr64 (x492.Amount-bd5)))),rfl,h⟩)
  ·obtain rfl:=Qd h;exact rK Qe 2 [j3] [some false] [] [1] [5] (.exit 4) ((f6r1n6E bh1 bh2 bd5 bk3 bf4 ba6 (.exit4 v481)).2) (ap h483 an) (Qv.out rfl rfl)
inductive f6r1n5O where
 | norm (v498:List Qa)
def f6r1n5E(bh1 bh2:Nat)(bk3:Bool)(bf4:List Int)(bd5:Int)(ba6 ba7:List Qa):f6r1n5O→Ex×Tr×Hp
 | .norm v498=>(.norm,mkS [(5,(.vw 1 bh1 bh2))],[jR 4 Qa.cells ba6,jR 4 Qa.cells v498])
def f6r1n5S(bh1 bh2:Nat)(bk3:Bool)(bf4:List Int)(bd5:Int)(ba6 ba7:List Qa):Tr×Hp:=(mkS [(5,(.vw 1 bh1 bh2)),(6,(.pl (.sl (bif bk3 then Fl.nil else Fl.any) 1 (bf4.map (cInt .i64))))),(7,(jI bd5))],[jR 4 Qa.cells ba6,jR 4 Qa.cells ba7])
noncomputable def f6r1n5(bh1 bh2:Nat)(bk3:Bool)(bf4:List Int)(bd5:Int)(ba6 ba7:List Qa):Option f6r1n5O :=
 (f6r1n6 FUEL bh1 bh2 bd5 bk3 bf4 ba6 0 ba7).bind fun o495=>match o495 with
 | .exit4 v497=>some (.norm v497)
theorem f6r1n5_ok(bh1 bh2:Nat)(bk3:Bool)(bf4:List Int)(bd5:Int)(ba6 ba7:List Qa){o:f6r1n5O}(h:f6r1n5 bh1 bh2 bk3 bf4 bd5 ba6 ba7=some o):T Try.prog Try.f6.ntmps 1 (cL (Qi 0 (Qi 1 (Qi 1 (cL (cL (Qi 1 (cL (cL (Qi 1 (cL (Qi 3 c6)))))))))))) (f6r1n5S bh1 bh2 bk3 bf4 bd5 ba6 ba7) (·=f6r1n5E bh1 bh2 bk3 bf4 bd5 ba6 ba7 o):=by
 unfold f6r1n5 at h;refine rN Qe 1 [([],[],[(1,.val (jI (bf4.length:Int)))])] [] [] [1] [5,7,46,47,48] (f6r1n6S bh1 bh2 bd5 bk3 bf4 ba6 0 ba7) (ap (Qu (xs:=bf4) (c:=(cInt .i64))) an) ?_;obtain ⟨o495,h496,h⟩:=Qc h;cases o495 with
 | exit4 v497 =>
  obtain rfl:=Qd h;exact T.last' (T.bl (i:=4) (by kernel_rfl) (by kernel_rfl) (f6r1n6_ok FUEL bh1 bh2 bd5 bk3 bf4 ba6 0 ba7 h496)) (tds:=[]) (m:=[1]) (keep:=[5]) (st2:=(f6r1n5E bh1 bh2 bk3 bf4 bd5 ba6 ba7 (.norm v497)).2) (by kernel_rfl) an rfl
inductive f6r1n2O where
 | norm (v506:Nat) (v507:Nat) (v508:List Qa)
def f6r1n2E(bh1 bh2:Nat)(bk3:Bool)(bf4:List Int)(ba5 ba6:List Qa):f6r1n2O→Ex×Tr×Hp
 | .norm v506 v507 v508=>(.norm,mkS [(5,(.vw 1 v506 v507))],[jR 4 Qa.cells ba5,jR 4 Qa.cells v508])
def f6r1n2S(bh1 bh2:Nat)(bk3:Bool)(bf4:List Int)(ba5 ba6:List Qa):Tr×Hp:=(mkS [(5,(.vw 1 bh1 bh2)),(6,(.pl (.sl (bif bk3 then Fl.nil else Fl.any) 1 (bf4.map (cInt .i64)))))],[jR 4 Qa.cells ba5,jR 4 Qa.cells ba6])
noncomputable def f6r1n2(bh1 bh2:Nat)(bk3:Bool)(bf4:List Int)(ba5 ba6:List Qa):Option f6r1n2O :=
 (at? bf4 0).bind fun x401 =>
 req (decide (bh1+bh2≤ba6.length)) <|
 (at? ((ba6.drop bh1).take bh2) x401).bind fun x404 =>
 (f6r1n3 bh1 bh2 bk3 bf4 x404 ba5 ba6).bind fun o451=>match o451 with
 | .norm v453=>(f6r1n5 bh1 bh2 bk3 bf4 v453 ba5 ba6).bind fun o499=>match o499 with
  | .norm v501=>(f13r3 bh1 bh2 v501).bind fun x504 =>
   some (.norm x504.1 x504.2.1 x504.2.2)
theorem f6r1n2_ok(bh1 bh2:Nat)(bk3:Bool)(bf4:List Int)(ba5 ba6:List Qa){o:f6r1n2O}(h:f6r1n2 bh1 bh2 bk3 bf4 ba5 ba6=some o):T Try.prog Try.f6.ntmps 1 (cL (Qi 1 (cL (cL (Qi 1 (cL (Qi 3 c6))))))) (f6r1n2S bh1 bh2 bk3 bf4 ba5 ba6) (·=f6r1n2E bh1 bh2 bk3 bf4 ba5 ba6 o):=by
 unfold f6r1n2 at h;refine T.block' (i:=1) (by kernel_rfl) ?_;obtain ⟨x401,h402,h⟩:=Qc h;obtain ⟨h403,h⟩:=Qm h;obtain ⟨x404,h405,h⟩:=Qc h;refine rN Qe 1 [([],[(2,.idx (Int.toNat 0) ((cInt .i64) x401)),(4,.at_ (Int.toNat x401)),(6,.idx 0 (Qa.cells x404))],[])] [] [] [1] [5,6,7] (f6r1n3S bh1 bh2 bk3 bf4 x404 ba5 ba6) (ap (Qg h402).1 (ap (Qo (cInt .i64) (Qg h402).2) (ap (Qg h405).1 (ap (vw_lt h405) (ap (Qae (c:=Qa.cells) h403) (ap (Qo Qa.cells (vw_at h405)) an)))))) ?_;obtain ⟨o451,h452,h⟩:=Qc h;cases o451 with
 | norm v453 =>
  refine T.oneN (by kernel_rfl) (f6r1n3_ok bh1 bh2 bk3 bf4 x404 ba5 ba6 h452) (st2:=(f6r1n3E bh1 bh2 bk3 bf4 x404 ba5 ba6 (.norm v453)).2) rfl ?_;refine rN Qe 0 [] [] [] [1] [5,6,7] (f6r1n5S bh1 bh2 bk3 bf4 v453 ba5 ba6) an ?_;obtain ⟨o499,h500,h⟩:=Qc h;cases o499 with
  | norm v501 =>
   refine T.oneN (by kernel_rfl) (f6r1n5_ok bh1 bh2 bk3 bf4 v453 ba5 ba6 h500) (st2:=(f6r1n5E bh1 bh2 bk3 bf4 v453 ba5 ba6 (.norm v501)).2) rfl ?_;obtain ⟨x504,h505,h⟩:=Qc h;obtain rfl:=Qd h;exact rE Qe [([],[(1,.call (.vw 1 x504.1 x504.2.1) [none,jR 4 Qa.cells x504.2.2])],[])] [] [] [1] [5] (.norm,(f6r1n2E bh1 bh2 bk3 bf4 ba5 ba6 (.norm x504.1 x504.2.1 x504.2.2)).2) (ap (Qk.rn 2 [1] (f13r3_ok bh1 bh2 v501 h505)) an) rfl
inductive f6r1n7O where
 | exit0 (v518:Nat) (v519:Nat) (v520:List Qa)
def f6r1n7E(ba1:List Qa):f6r1n7O→Ex×Tr×Hp
 | .exit0 v518 v519 v520=>((.exit 0),mkS [(5,(.vw 1 v518 v519))],[jR 4 Qa.cells ba1,jR 4 Qa.cells v520])
def f6r1n7S(ba1:List Qa)(v387 v388:Nat)(v389:Bool)(v390:List Int)(v391:List Qa):Tr×Hp:=(mkS [(5,(.vw 1 v387 v388)),(6,(.pl (.sl (bif v389 then Fl.nil else Fl.any) 1 (v390.map (cInt .i64)))))],[jR 4 Qa.cells ba1,jR 4 Qa.cells v391])
noncomputable def f6r1n7:Nat→List Qa→Nat→Nat→Bool→List Int→List Qa→Option f6r1n7O
 | 0,_,_,_,_,_,_=>none
 | f+1,ba1,v387,v388,v389,v390,v391 =>
  bif v389 then
   some (.exit0 v387 v388 v391)
  else
   req (!(v390.isEmpty)) <|
   (f6r1n2 v387 v388 v389 v390 ba1 v391).bind fun o509=>match o509 with
   | .norm v511 v512 v513=>(f12r3 v511 v512 v513).bind fun x516 =>
    (f6r1n7 f ba1 v511 v512 x516.1 x516.2 v513)
theorem f6r1n7_ok:∀(f:Nat)(ba1:List Qa)(v387 v388:Nat)(v389:Bool)(v390:List Int)(v391:List Qa){o:f6r1n7O},f6r1n7 f ba1 v387 v388 v389 v390 v391=some o→TL Try.prog Try.f6.ntmps 1 f (cL (cL (Qi 1 (cL (Qi 3 c6))))) (f6r1n7S ba1 v387 v388 v389 v390 v391) (·=f6r1n7E ba1 o)
 | 0,_,_,_,_,_,_,o,h=>by rw [f6r1n7] at h; cases h
 | f+1,ba1,v387,v388,v389,v390,v391,o,h=>by
  rw [f6r1n7] at h;refine TL.body (K:=fun s=>∃v387:Nat,∃v388:Nat,∃v389:Bool,∃v390:List Int,∃v391:List Qa,s=(f6r1n7S ba1 v387 v388 v389 v390 v391)∧f6r1n7 f ba1 v387 v388 v389 v390 v391=some o) ?_ (by rintro _ ⟨v387,v388,v389,v390,v391,rfl,hk⟩; exact f6r1n7_ok f _ _ _ _ _ _ hk);rcases Qf h with ⟨h394,h⟩|⟨h394,h⟩
  ·obtain rfl:=Qd h;exact rK Qe 1 [([],[(1,.app true)],[])] [none] [] [1] [5] (.exit 0) ((f6r1n7E ba1 (.exit0 v387 v388 v391)).2) (ap (fl_t h394) an) (Qv.out rfl rfl)
  ·obtain ⟨h395,h⟩:=Qm h;refine rN Qe 1 [([],[(1,.app false)],[])] [none] [] [1] [5,6] (f6r1n2S v387 v388 v389 v390 ba1 v391) (ap (fl_f h394) (ap (ne_map (c:=(cInt .i64)) (by simpa using h395)) an)) ?_;obtain ⟨o509,h510,h⟩:=Qc h;cases o509 with
   | norm v511 v512 v513 =>
    refine T.oneN (by kernel_rfl) (f6r1n2_ok v387 v388 v389 v390 ba1 v391 h510) (st2:=(f6r1n2E v387 v388 v389 v390 ba1 v391 (.norm v511 v512 v513)).2) rfl ?_;obtain ⟨x516,h517,h⟩:=Qc h;exact rE Qe [([],[(1,.call (.pl (.sl (bif x516.1 then Fl.nil else Fl.any) 1 (x516.2.map (cInt .i64)))) [none,jR 4 Qa.cells v513])],[])] [] [] [1] [5,6] (.norm,(f6r1n7S ba1 v511 v512 x516.1 x516.2 v513)) (ap (Qk.rn 2 [1] (f12r3_ok v511 v512 v513 h517)) an) (Qv.norm ⟨v511,v512,x516.1,x516.2,v513,rfl,h⟩)
inductive f6r1n1O where
 | norm (v526:Nat) (v527:Nat) (v528:List Qa)
def f6r1n1E(ba1 ba2:List Qa):f6r1n1O→Ex×Tr×Hp
 | .norm v526 v527 v528=>(.norm,mkS [(5,(.vw 1 v526 v527))],[jR 4 Qa.cells ba1,jR 4 Qa.cells v528])
def f6r1n1S(ba1 ba2:List Qa):Tr×Hp:=(mkS [(5,(.own 1))],[jR 4 Qa.cells ba1,jR 4 Qa.cells ba2])
noncomputable def f6r1n1(ba1 ba2:List Qa):Option f6r1n1O :=
 (f12r1 ba2).bind fun x14 =>
 (f6r1n7 FUEL ba1 0 ba2.length x14.1 x14.2 ba2).bind fun o521=>match o521 with
 | .exit0 v523 v524 v525=>some (.norm v523 v524 v525)
theorem f6r1n1_ok(ba1 ba2:List Qa){o:f6r1n1O}(h:f6r1n1 ba1 ba2=some o):T Try.prog Try.f6.ntmps 1 (cL (Qi 3 c6)) (f6r1n1S ba1 ba2) (·=f6r1n1E ba1 ba2 o):=by
 unfold f6r1n1 at h;obtain ⟨x14,h15,h⟩:=Qc h;refine rN Qe 1 [([],[(1,.call (.pl (.sl (bif x14.1 then Fl.nil else Fl.any) 1 (x14.2.map (cInt .i64)))) [none,jR 4 Qa.cells ba2])],[])] [] [.ovw 5 ba2.length] [1] [5,6] (f6r1n7S ba1 0 ba2.length x14.1 x14.2 ba2) (ap (Qk.rn 2 [1] (f12r1_ok ba2 h15)) (ap (len_ov (xs:=ba2) (c:=Qa.cells)) an)) ?_;obtain ⟨o521,h522,h⟩:=Qc h;cases o521 with
 | exit0 v523 v524 v525 =>
  obtain rfl:=Qd h;exact T.last' (T.bl (i:=0) (by kernel_rfl) (by kernel_rfl) (f6r1n7_ok FUEL ba1 0 ba2.length x14.1 x14.2 ba2 h522)) (tds:=[]) (m:=[1]) (keep:=[5]) (st2:=(f6r1n1E ba1 ba2 (.norm v523 v524 v525)).2) (by kernel_rfl) an rfl
inductive f6r1n0O where
 | ret (v534:Nat) (v535:Nat) (v536:Int) (v537:List Qa)
def f6r1n0E(a1:List Qa):f6r1n0O→Ex×Tr×Hp
 | .ret v534 v535 v536 v537=>(.ret,mkS [(2,(.vw 1 v534 v535)),(3,(jI v536))],[jR 4 Qa.cells a1,jR 4 Qa.cells v537])
def f6r1n0S(a1:List Qa):Tr×Hp:=(Qad [(.own 0)] 0 .leaf,[jR 4 Qa.cells a1])
noncomputable def f6r1n0(a1:List Qa):Option f6r1n0O :=
 (f10 a1).bind fun x5 =>
 bif decide (x5=0) then
  (f11r1 a1).bind fun x10 =>
  (f6r1n1 a1 x10).bind fun o529=>match o529 with
  | .norm v531 v532 v533=>some (.ret v531 v532 0 v533)
 else
  some (.ret 0 0 x5 [])
theorem f6r1n0_ok(a1:List Qa){o:f6r1n0O}(h:f6r1n0 a1=some o):T Try.prog Try.f6.ntmps 1 c6 (f6r1n0S a1) (·=f6r1n0E a1 o):=by
 unfold f6r1n0 at h;obtain ⟨x5,h6,h⟩:=Qc h;rcases Qf h with ⟨h7,h⟩|⟨h7,h⟩
 ·obtain ⟨x10,h11,h⟩:=Qc h;refine rN Qe 3 [j3,([],[jH 1 (jI x5)],[]),j3,([],[(1,.call (.own 1) [jR 4 Qa.cells a1,jR 4 Qa.cells x10])],[])] [some false] [] [1] [5] (f6r1n1S a1 x10) (ap (f10_ok a1 h6) (ap (Qab h7) (ap (f11r1_ok a1 h11) an))) ?_;obtain ⟨o529,h530,h⟩:=Qc h;cases o529 with
  | norm v531 v532 v533 =>
   refine T.oneN (by kernel_rfl) (f6r1n1_ok a1 x10 h530) (st2:=(f6r1n1E a1 x10 (.norm v531 v532 v533)).2) rfl ?_;obtain rfl:=Qd h;exact rE Qe [j3] [] [] [1] [2,3] (.ret,(f6r1n0E a1 (.ret v531 v532 0 v533)).2) an rfl
 ·obtain rfl:=Qd h;exact rK Qe 2 [j3,([],[jH 1 (jI x5)],[]),j3,j3] [some true] [.mat 2 4,.ovw 2 0] [1] [2,3] .ret ((f6r1n0E a1 (.ret 0 0 x5 [])).2) (ap (f10_ok a1 h6) (ap (Qbc h7) (ap (len_ov (xs:=[]) (c:=Qa.cells)) an))) rfl
noncomputable def f6r1(a1:List Qa):Option (Nat×Nat×Int×(List Qa)):=(f6r1n0 a1).bind fun o=>match o with
 | .ret v534 v535 v536 v537=>some (v534,v535,v536,v537)
theorem f6r1_ok(a1:List Qa){r:Nat×Nat×Int×(List Qa)}(h:f6r1 a1=some r):Qk Try.prog true 6 [(.own 0)] [jR 4 Qa.cells a1] (.tup [(.vw 1 r.1 r.2.1),(jI r.2.2.1)]) [jR 4 Qa.cells a1,jR 4 Qa.cells r.2.2.2]:=by
 unfold f6r1 at h;obtain ⟨o,ho,h⟩:=Qc h;cases o with
 | ret v534 v535 v536 v537 =>
  obtain rfl:=Qd h;exact Qk.shared Qe (f:=Try.f6) (c:=c6) (by kernel_rfl) (by kernel_rfl) (by kernel_rfl) ((f6r1n0_ok a1 ho).mono fun r e=>by subst e; exact ⟨.inl rfl,by kernel_rfl,by kernel_rfl⟩)

noncomputable def c8:Code:=Try.f8.body.getD .skip
inductive f8n4O where
 | exit2 (v153:Int)
def f8n4E(ba1:List Qa)(bd2 bd3:Int)(bm4:List Qb):f8n4O→Ex×Tr×Hp
 | .exit2 v153=>((.exit 2),mkS [(0,(jL 4 Qa.cells ba1)),(1,(.pl (.int .u8 bd2))),(5,(.own 0)),(6,(jI bd3)),(7,(jI v153))],[jR 6 Qb.cells bm4])
def f8n4S(ba1:List Qa)(bd2 bd3:Int)(bm4:List Qb)(v141 v142:Int):Tr×Hp:=(mkS [(0,(jL 4 Qa.cells ba1)),(1,(.pl (.int .u8 bd2))),(5,(.own 0)),(6,(jI bd3)),(7,(jI v141)),(8,(jI v142))],[jR 6 Qb.cells bm4])
noncomputable def f8n4:Nat→List Qa→Int→Int→List Qb→Int→Int→Option f8n4O
 | 0,_,_,_,_,_,_=>none
 | f+1,ba1,bd2,bd3,bm4,v141,v142 =>
  (at? ba1 bd3).bind fun x146 =>
  bif decide (v142<(x146.Contract.size:Int)) then
   (at? x146.Contract.data.toList v142).bind fun x151 =>
   (f8n4 f ba1 bd2 bd3 bm4 (wr64 (v141+(wr64 (x151.toNat:Int)))) (wr64 (v142+1)))
  else
   some (.exit2 v141)
theorem f8n4_ok:∀(f:Nat)(ba1:List Qa)(bd2 bd3:Int)(bm4:List Qb)(v141 v142:Int){o:f8n4O},f8n4 f ba1 bd2 bd3 bm4 v141 v142=some o→TL Try.prog Try.f8.ntmps 0 f (cL (cL (Qi 1 (cL (Qi 1 (cL (cL (Qi 1 (cL (cL (Qi 1 (cL (Qi 2 c8))))))))))))) (f8n4S ba1 bd2 bd3 bm4 v141 v142) (·=f8n4E ba1 bd2 bd3 bm4 o)
 | 0,_,_,_,_,_,_,o,h=>by rw [f8n4] at h; cases h
 | f+1,ba1,bd2,bd3,bm4,v141,v142,o,h=>by
  rw [f8n4] at h;refine TL.body (K:=fun s=>∃v141:Int,∃v142:Int,s=(f8n4S ba1 bd2 bd3 bm4 v141 v142)∧f8n4 f ba1 bd2 bd3 bm4 v141 v142=some o) ?_ (by rintro _ ⟨v141,v142,rfl,hk⟩; exact f8n4_ok f _ _ _ _ _ _ hk);obtain ⟨x146,h147,h⟩:=Qc h;rcases Qf h with ⟨h148,h⟩|⟨h148,h⟩
  ·obtain ⟨x151,h152,h⟩:=Qc h;exact rE Qe [([],[(3,.idx (Int.toNat bd3) (Qa.cells x146))],[]),([],[(3,.idx (Int.toNat bd3) (Qa.cells x146)),(7,.byte (Int.toNat v142) x151)],[]),j3] [some true] [] [0] [0,1,5,6,7,8] (.norm,(f8n4S ba1 bd2 bd3 bm4 (wr64 (v141+(wr64 (x151.toNat:Int)))) (wr64 (v142+1)))) (ap (Qg h147).1 (ap (Qo Qa.cells (Qg h147).2) (ap h148 (ap (Qg h147).1 (ap (Qo Qa.cells (Qg h147).2) (ap (Qg h152).1 (ap (Qg h152).2 an))))))) (Qv.norm ⟨(wr64 (v141+(wr64 (x151.toNat:Int)))),(wr64 (v142+1)),rfl,h⟩)
  ·obtain rfl:=Qd h;exact rK Qe 1 [([],[(3,.idx (Int.toNat bd3) (Qa.cells x146))],[])] [some false] [] [0] [0,1,5,6,7] (.exit 2) ((f8n4E ba1 bd2 bd3 bm4 (.exit2 v141)).2) (ap (Qg h147).1 (ap (Qo Qa.cells (Qg h147).2) (ap h148 an))) (Qv.out rfl rfl)
inductive f8n3O where
 | norm (v157:Int)
def f8n3E(ba1:List Qa)(bd2 bd3:Int)(bm4:List Qb):f8n3O→Ex×Tr×Hp
 | .norm v157=>(.norm,mkS [(0,(jL 4 Qa.cells ba1)),(1,(.pl (.int .u8 bd2))),(5,(.own 0)),(6,(jI bd3)),(7,(jI v157))],[jR 6 Qb.cells bm4])
def f8n3S(ba1:List Qa)(bd2 bd3:Int)(bm4:List Qb):Tr×Hp:=(mkS [(0,(jL 4 Qa.cells ba1)),(1,(.pl (.int .u8 bd2))),(5,(.own 0)),(6,(jI bd3)),(7,(jI (wr64 bd2)))],[jR 6 Qb.cells bm4])
noncomputable def f8n3(ba1:List Qa)(bd2 bd3:Int)(bm4:List Qb):Option f8n3O :=
 (f8n4 FUEL ba1 bd2 bd3 bm4 (wr64 bd2) 0).bind fun o154=>match o154 with
 | .exit2 v156=>some (.norm v156)
theorem f8n3_ok(ba1:List Qa)(bd2 bd3:Int)(bm4:List Qb){o:f8n3O}(h:f8n3 ba1 bd2 bd3 bm4=some o):T Try.prog Try.f8.ntmps 0 (cL (Qi 1 (cL (cL (Qi 1 (cL (cL (Qi 1 (cL (Qi 2 c8)))))))))) (f8n3S ba1 bd2 bd3 bm4) (·=f8n3E ba1 bd2 bd3 bm4 o):=by
 unfold f8n3 at h;refine rN Qe 1 [j3] [] [] [0] [0,1,5,6,7,8] (f8n4S ba1 bd2 bd3 bm4 (wr64 bd2) 0) an ?_;obtain ⟨o154,h155,h⟩:=Qc h;cases o154 with
 | exit2 v156 =>
  obtain rfl:=Qd h;exact T.last' (T.bl (i:=2) (by kernel_rfl) (by kernel_rfl) (f8n4_ok FUEL ba1 bd2 bd3 bm4 (wr64 bd2) 0 h155)) (tds:=[]) (m:=[0]) (keep:=[0,1,5,6,7]) (st2:=(f8n3E ba1 bd2 bd3 bm4 (.norm v156)).2) (by kernel_rfl) an rfl
inductive f8n2O where
 | norm (v169:List Qb)
def f8n2E(ba1:List Qa)(bd2 bd3:Int)(bm4:List Qb):f8n2O→Ex×Tr×Hp
 | .norm v169=>(.norm,mkS [(0,(jL 4 Qa.cells ba1)),(1,(.pl (.int .u8 bd2))),(5,(.own 0)),(6,(jI bd3))],[jR 6 Qb.cells v169])
def f8n2S(ba1:List Qa)(bd2 bd3:Int)(bm4:List Qb):Tr×Hp:=(mkS [(0,(jL 4 Qa.cells ba1)),(1,(.pl (.int .u8 bd2))),(5,(.own 0)),(6,(jI bd3))],[jR 6 Qb.cells bm4])
noncomputable def f8n2(ba1:List Qa)(bd2 bd3:Int)(bm4:List Qb):Option f8n2O :=
 (f8n3 ba1 bd2 bd3 bm4).bind fun o158=>match o158 with
 | .norm v160=>bif decide (0<(Int.tmod v160 9)) then
   (at? ba1 bd3).bind fun x166 =>
   req (fit (bm4.length+1) 80) <|
   some (.norm (bm4++[(Qb.mk 5 Qau str_USD x166.From x166.To (wr64 (x166.Amount*(Int.tmod v160 9))))]))
  else
   some (.norm bm4)
theorem f8n2_ok(ba1:List Qa)(bd2 bd3:Int)(bm4:List Qb){o:f8n2O}(h:f8n2 ba1 bd2 bd3 bm4=some o):T Try.prog Try.f8.ntmps 0 (cL (Qi 1 (cL (cL (Qi 1 (cL (Qi 2 c8))))))) (f8n2S ba1 bd2 bd3 bm4) (·=f8n2E ba1 bd2 bd3 bm4 o):=by
 unfold f8n2 at h;refine T.block' (i:=1) (by kernel_rfl) ?_;refine rN Qe 1 [j3] [] [] [0] [0,1,5,6,7] (f8n3S ba1 bd2 bd3 bm4) an ?_;obtain ⟨o158,h159,h⟩:=Qc h;cases o158 with
 | norm v160 =>
  refine T.oneN (by kernel_rfl) (f8n3_ok ba1 bd2 bd3 bm4 h159) (st2:=(f8n3E ba1 bd2 bd3 bm4 (.norm v160)).2) rfl ?_;rcases Qf h with ⟨h165,h⟩|⟨h165,h⟩
  ·obtain ⟨x166,h167,h⟩:=Qc h;obtain ⟨h168,h⟩:=Qm h;obtain rfl:=Qd h
   exact rE Qe [j3,([],[(3,.idx (Int.toNat bd3) (Qa.cells x166)),(8,.idx (Int.toNat bd3) (Qa.cells x166)),(13,.idx (Int.toNat bd3) (Qa.cells x166)),(21,.fits)],[(21,.row 2 ((bm4++[(Qb.mk 5 Qau str_USD x166.From x166.To (wr64 (x166.Amount*(Int.tmod v160 9))))]).map Qb.cells))])] [some true] [] [2] [0,1,5,6] (.norm,(f8n2E ba1 bd2 bd3 bm4 (.norm (bm4++[(Qb.mk 5 Qau str_USD x166.From x166.To (wr64 (x166.Amount*(Int.tmod v160 9))))]))).2) (ap h165 (ap (Qg h167).1 (ap (Qo Qa.cells (Qg h167).2) (ap (Qg h167).1 (ap (Qo Qa.cells (Qg h167).2) (ap (Qg h167).1 (ap (Qo Qa.cells (Qg h167).2) (ap (fit_map (te:=ti46) (xs:=bm4) (n:=1) (c:=Qb.cells) h168 rfl) (ap (app_cv (xs:=bm4) (ys:=[(Qb.mk 5 Qau str_USD x166.From x166.To (wr64 (x166.Amount*(Int.tmod v160 9))))]) (c:=Qb.cells)) an))))))))) rfl
  ·obtain rfl:=Qd h;exact rE Qe [j3] [some false] [] [0] [0,1,5,6] (.norm,(f8n2E ba1 bd2 bd3 bm4 (.norm bm4)).2) (ap h165 an) rfl
inductive f8n5O where
 | exit0 (v173:List Qb)
def f8n5E(ba1:List Qa)(bd2:Int):f8n5O→Ex×Tr×Hp
 | .exit0 v173=>((.exit 0),mkS [(5,(.own 0))],[jR 6 Qb.cells v173])
def f8n5S(ba1:List Qa)(bd2 v115:Int)(v116:List Qb):Tr×Hp:=(mkS [(0,(jL 4 Qa.cells ba1)),(1,(.pl (.int .u8 bd2))),(5,(.own 0)),(6,(jI v115))],[jR 6 Qb.cells v116])
noncomputable def f8n5:Nat→List Qa→Int→Int→List Qb→Option f8n5O
 | 0,_,_,_,_=>none
 | f+1,ba1,bd2,v115,v116 =>
  bif decide (v115<(ba1.length:Int)) then
   (f8n2 ba1 bd2 v115 v116).bind fun o170=>match o170 with
   | .norm v172=>(f8n5 f ba1 bd2 (wr64 (v115+1)) v172)
  else
   some (.exit0 v116)
theorem f8n5_ok:∀(f:Nat)(ba1:List Qa)(bd2 v115:Int)(v116:List Qb){o:f8n5O},f8n5 f ba1 bd2 v115 v116=some o→TL Try.prog Try.f8.ntmps 0 f (cL (cL (Qi 1 (cL (Qi 2 c8))))) (f8n5S ba1 bd2 v115 v116) (·=f8n5E ba1 bd2 o)
 | 0,_,_,_,_,o,h=>by rw [f8n5] at h; cases h
 | f+1,ba1,bd2,v115,v116,o,h=>by
  rw [f8n5] at h;refine TL.body (K:=fun s=>∃v115:Int,∃v116:List Qb,s=(f8n5S ba1 bd2 v115 v116)∧f8n5 f ba1 bd2 v115 v116=some o) ?_ (by rintro _ ⟨v115,v116,rfl,hk⟩; exact f8n5_ok f _ _ _ _ hk);rcases Qf h with ⟨h118,h⟩|⟨h118,h⟩
  ·refine rN Qe 1 [([],[],[(2,.val (jI (ba1.length:Int)))])] [some true] [] [0] [0,1,5,6] (f8n2S ba1 bd2 v115 v116) (ap (Qu (xs:=ba1) (c:=Qa.cells)) (ap h118 an)) ?_;obtain ⟨o170,h171,h⟩:=Qc h;cases o170 with
   | norm v172 =>
    refine T.oneN (by kernel_rfl) (f8n2_ok ba1 bd2 v115 v116 h171) (st2:=(f8n2E ba1 bd2 v115 v116 (.norm v172)).2) rfl ?_;exact rE Qe [j3] [] [] [0] [0,1,5,6] (.norm,(f8n5S ba1 bd2 (wr64 (v115+1)) v172)) an (Qv.norm ⟨(wr64 (v115+1)),v172,rfl,h⟩)
  ·obtain rfl:=Qd h;exact rK Qe 1 [([],[],[(2,.val (jI (ba1.length:Int)))])] [some false] [] [0] [5] (.exit 0) ((f8n5E ba1 bd2 (.exit0 v116)).2) (ap (Qu (xs:=ba1) (c:=Qa.cells)) (ap h118 an)) (Qv.out rfl rfl)
inductive f8n1O where
 | norm (v177:List Qb)
def f8n1E(ba1:List Qa)(bd2:Int):f8n1O→Ex×Tr×Hp
 | .norm v177=>(.norm,mkS [(5,(.own 0))],[jR 6 Qb.cells v177])
def f8n1S(ba1:List Qa)(bd2:Int):Tr×Hp:=(mkS [(0,(jL 4 Qa.cells ba1)),(1,(.pl (.int .u8 bd2))),(5,(.pl (.sl .nil 0 [])))],[])
noncomputable def f8n1(ba1:List Qa)(bd2:Int):Option f8n1O :=
 (f8n5 FUEL ba1 bd2 0 []).bind fun o174=>match o174 with
 | .exit0 v176=>some (.norm v176)
theorem f8n1_ok(ba1:List Qa)(bd2:Int){o:f8n1O}(h:f8n1 ba1 bd2=some o):T Try.prog Try.f8.ntmps 0 (cL (Qi 2 c8)) (f8n1S ba1 bd2) (·=f8n1E ba1 bd2 o):=by
 unfold f8n1 at h;refine rN Qe 1 [j3] [] [.mat 5 6] [0] [0,1,5,6] (f8n5S ba1 bd2 0 []) an ?_;obtain ⟨o174,h175,h⟩:=Qc h;cases o174 with
 | exit0 v176 =>
  obtain rfl:=Qd h;exact T.last' (T.bl (i:=0) (by kernel_rfl) (by kernel_rfl) (f8n5_ok FUEL ba1 bd2 0 [] h175)) (tds:=[]) (m:=[0]) (keep:=[5]) (st2:=(f8n1E ba1 bd2 (.norm v176)).2) (by kernel_rfl) an rfl
inductive f8n0O where
 | ret (v181:List Qb)
def f8n0E(a1:List Qa)(a2:Int):f8n0O→Ex×Tr×Hp
 | .ret v181=>(.ret,mkS [(4,(.own 0))],[jR 6 Qb.cells v181])
def f8n0S(a1:List Qa)(a2:Int):Tr×Hp:=(Qad [(jL 4 Qa.cells a1),(.pl (.int .u8 a2))] 0 .leaf,[])
noncomputable def f8n0(a1:List Qa)(a2:Int):Option f8n0O :=
 (f8n1 a1 a2).bind fun o178=>match o178 with
 | .norm v180=>some (.ret v180)
theorem f8n0_ok(a1:List Qa)(a2:Int){o:f8n0O}(h:f8n0 a1 a2=some o):T Try.prog Try.f8.ntmps 0 c8 (f8n0S a1 a2) (·=f8n0E a1 a2 o):=by
 unfold f8n0 at h;refine rN Qe 2 [j3,j3] [] [] [] [0,1,5] (f8n1S a1 a2) an ?_;obtain ⟨o178,h179,h⟩:=Qc h;cases o178 with
 | norm v180 =>
  refine T.oneN (by kernel_rfl) (f8n1_ok a1 a2 h179) (st2:=(f8n1E a1 a2 (.norm v180)).2) rfl ?_;obtain rfl:=Qd h;exact rE Qe [j3] [] [] [0] [4] (.ret,(f8n0E a1 a2 (.ret v180)).2) an rfl
noncomputable def f8(a1:List Qa)(a2:Int):Option (List Qb):=(f8n0 a1 a2).bind fun o=>match o with
 | .ret v181=>some v181
theorem f8_ok(a1:List Qa)(a2:Int){r:List Qb}(h:f8 a1 a2=some r):Qk Try.prog false 8 [(jL 4 Qa.cells a1),(.pl (.int .u8 a2))] [] (jL 6 Qb.cells r) []:=by
 unfold f8 at h;obtain ⟨o,ho,h⟩:=Qc h;cases o with
 | ret v181 =>
  obtain rfl:=Qd h;exact Qk.plain Qe (f:=Try.f8) (c:=c8) (by kernel_rfl) (by kernel_rfl) (by kernel_rfl) (by kernel_rfl) ((f8n0_ok a1 a2 ho).mono fun r e=>by subst e; exact ⟨.inl rfl,(.own 0),(jL 6 Qb.cells v181),by kernel_rfl,by kernel_rfl,((Wk.refl _):Wk (jL 6 Qb.cells v181) (jL 6 Qb.cells v181))⟩)

noncomputable def c27:Code:=Try.f27.body.getD .skip
inductive f27n1O where
 | norm (v68:Bool)
def f27n1E(bn1:Qb):f27n1O→Ex×Tr×Hp
 | .norm v68=>(.norm,mkS [(1,(.bp 0 0)),(3,(jB v68))],[some (.box 46 ((Qb.cells bn1).map .pl))])
def f27n1S(bn1:Qb):Tr×Hp:=(mkS [(1,(.bp 0 0))],[some (.box 46 ((Qb.cells bn1).map .pl))])
noncomputable def f27n1(bn1:Qb):Option f27n1O :=
 bif (seq bn1.Set Qau) then
  (f16 bn1.Ccy).bind fun x47 =>
  bif x47 then
   (f16 bn1.From).bind fun x50 =>
   bif x50 then
    (f16 bn1.To).bind fun x53 =>
    bif x53 then
     some (.norm (!(seq bn1.From bn1.To)))
    else
     some (.norm false)
   else
    some (.norm false)
  else
   some (.norm false)
 else
  (f16 bn1.Set).bind fun x56 =>
  bif x56 then
   (f16 bn1.Ccy).bind fun x59 =>
   bif x59 then
    (f16 bn1.From).bind fun x62 =>
    bif x62 then
     (f16 bn1.To).bind fun x65 =>
     bif x65 then
      some (.norm (!(seq bn1.From bn1.To)))
     else
      some (.norm false)
    else
     some (.norm false)
   else
    some (.norm false)
  else
   some (.norm false)
theorem f27n1_ok(bn1:Qb){o:f27n1O}(h:f27n1 bn1=some o):T Try.prog Try.f27.ntmps 0 (cL (Qi 1 c27)) (f27n1S bn1) (·=f27n1E bn1 o):=by
 unfold f27n1 at h;rcases Qf h with ⟨h46,h⟩|⟨h46,h⟩
 ·obtain ⟨x47,h48,h⟩:=Qc h;rcases Qf h with ⟨h49,h⟩|⟨h49,h⟩
  ·obtain ⟨x50,h51,h⟩:=Qc h;rcases Qf h with ⟨h52,h⟩|⟨h52,h⟩
   ·obtain ⟨x53,h54,h⟩:=Qc h;rcases Qf h with ⟨h55,h⟩|⟨h55,h⟩
    ·obtain rfl:=Qd h;exact rE Qe [(jT [4,5,6,14,15,16,19,20,21,24,25,26,27,28],[(7,.bool true),jH 11 (jB x47),jH 16 (jB x50),(17,.bool true),jH 21 (jB x53),(22,.bool true),(29,.bool true)],[])] [] [] [0] [1,3] (.norm,(f27n1E bn1 (.norm (!(seq bn1.From bn1.To)))).2) (ap4 h46 (ap4 h49 (ap4 h52 (ap2 h55 (ap4 h55 (ap (Qy bn1.Ccy h48) (ap (Qy bn1.From h51) (ap (Qy bn1.To h54) an)))))))) rfl
    ·obtain rfl:=Qd h;exact rE Qe [(jF [24,25,26,27,28]++jT [4,5,6,14,15,16,19,20,21],[(7,.bool true),jH 11 (jB x47),jH 16 (jB x50),(17,.bool true),jH 21 (jB x53),(22,.bool true),(29,.bool false)],[])] [] [] [0] [1,3] (.norm,(f27n1E bn1 (.norm false)).2) (ap4 h46 (ap4 h49 (ap4 h52 (ap2 h55 (ap4 h55 (ap (Qy bn1.Ccy h48) (ap (Qy bn1.From h51) (ap (Qy bn1.To h54) an)))))))) rfl
   ·obtain rfl:=Qd h;exact rE Qe [(jF [19,20,21]++jT [4,5,6,14,15,16],[(7,.bool true),jH 11 (jB x47),jH 16 (jB x50),(17,.bool true),(22,.bool false)],[])] [] [] [0] [1,3] (.norm,(f27n1E bn1 (.norm false)).2) (ap4 h46 (ap4 h49 (ap4 h52 (ap (Qy bn1.Ccy h48) (ap (Qy bn1.From h51) an))))) rfl
  ·obtain rfl:=Qd h;exact rE Qe [(jF [14,15,16]++jT [4,5,6],[(7,.bool true),jH 11 (jB x47),(17,.bool false)],[])] [] [] [0] [1,3] (.norm,(f27n1E bn1 (.norm false)).2) (ap4 h46 (ap4 h49 (ap (Qy bn1.Ccy h48) an))) rfl
 ·obtain ⟨x56,h57,h⟩:=Qc h;rcases Qf h with ⟨h58,h⟩|⟨h58,h⟩
  ·obtain ⟨x59,h60,h⟩:=Qc h;rcases Qf h with ⟨h61,h⟩|⟨h61,h⟩
   ·obtain ⟨x62,h63,h⟩:=Qc h;rcases Qf h with ⟨h64,h⟩|⟨h64,h⟩
    ·obtain ⟨x65,h66,h⟩:=Qc h;rcases Qf h with ⟨h67,h⟩|⟨h67,h⟩
     ·obtain rfl:=Qd h;exact rE Qe [(jF [4,5,6]++jT [9,10,11,14,15,16,19,20,21,24,25,26,27,28],[jH 6 (jB x56),(7,.bool false),jH 11 (jB x59),(12,.bool true),jH 16 (jB x62),(17,.bool true),jH 21 (jB x65),(22,.bool true),(29,.bool true)],[])] [] [] [0] [1,3] (.norm,(f27n1E bn1 (.norm (!(seq bn1.From bn1.To)))).2) (ap4 h46 (ap4 h58 (ap4 h61 (ap4 h64 (ap2 h67 (ap4 h67 (ap (Qy bn1.Set h57) (ap (Qy bn1.Ccy h60) (ap (Qy bn1.From h63) (ap (Qy bn1.To h66) an)))))))))) rfl
     ·obtain rfl:=Qd h;exact rE Qe [(jF [4,5,6,24,25,26,27,28]++jT [9,10,11,14,15,16,19,20,21],[jH 6 (jB x56),(7,.bool false),jH 11 (jB x59),(12,.bool true),jH 16 (jB x62),(17,.bool true),jH 21 (jB x65),(22,.bool true),(29,.bool false)],[])] [] [] [0] [1,3] (.norm,(f27n1E bn1 (.norm false)).2) (ap4 h46 (ap4 h58 (ap4 h61 (ap4 h64 (ap2 h67 (ap4 h67 (ap (Qy bn1.Set h57) (ap (Qy bn1.Ccy h60) (ap (Qy bn1.From h63) (ap (Qy bn1.To h66) an)))))))))) rfl
    ·obtain rfl:=Qd h;exact rE Qe [(jF [4,5,6,19,20,21]++jT [9,10,11,14,15,16],[jH 6 (jB x56),(7,.bool false),jH 11 (jB x59),(12,.bool true),jH 16 (jB x62),(17,.bool true),(22,.bool false)],[])] [] [] [0] [1,3] (.norm,(f27n1E bn1 (.norm false)).2) (ap4 h46 (ap4 h58 (ap4 h61 (ap4 h64 (ap (Qy bn1.Set h57) (ap (Qy bn1.Ccy h60) (ap (Qy bn1.From h63) an))))))) rfl
   ·obtain rfl:=Qd h;exact rE Qe [(jF [4,5,6,14,15,16]++jT [9,10,11],[jH 6 (jB x56),(7,.bool false),jH 11 (jB x59),(12,.bool true),(17,.bool false)],[])] [] [] [0] [1,3] (.norm,(f27n1E bn1 (.norm false)).2) (ap4 h46 (ap4 h58 (ap4 h61 (ap (Qy bn1.Set h57) (ap (Qy bn1.Ccy h60) an))))) rfl
  ·obtain rfl:=Qd h;exact rE Qe [(jF [4,5,6,9,10,11],[jH 6 (jB x56),(7,.bool false),(12,.bool false)],[])] [] [] [0] [1,3] (.norm,(f27n1E bn1 (.norm false)).2) (ap4 h46 (ap4 h58 (ap (Qy bn1.Set h57) an))) rfl
inductive f27n0O where
 | ret (v80:Bool)
def f27n0E(a1:Qb):f27n0O→Ex×Tr×Hp
 | .ret v80=>(.ret,mkS [(2,(jB v80))],[])
def f27n0S(a1:Qb):Tr×Hp:=(Qad [(jA Qb.cells a1)] 0 .leaf,[])
noncomputable def f27n0(a1:Qb):Option f27n0O :=
 (f27n1 a1).bind fun o69=>match o69 with
 | .norm v71=>bif v71 then
   bif decide (0≤a1.Date) then
    bif decide (a1.Date≤99999) then
     bif decide (1≤a1.Amount) then
      some (.ret (decide (a1.Amount≤1125899906842624)))
     else
      some (.ret false)
    else
     some (.ret false)
   else
    some (.ret false)
  else
   some (.ret false)
theorem f27n0_ok(a1:Qb){o:f27n0O}(h:f27n0 a1=some o):T Try.prog Try.f27.ntmps 0 c27 (f27n0S a1) (·=f27n0E a1 o):=by
 unfold f27n0 at h;refine rN Qe 1 [j3] [] [] [0] [1] (f27n1S a1) an ?_;obtain ⟨o69,h70,h⟩:=Qc h;cases o69 with
 | norm v71 =>
  refine T.oneN (by kernel_rfl) (f27n1_ok a1 h70) (st2:=(f27n1E a1 (.norm v71)).2) rfl ?_;rcases Qf h with ⟨h76,h⟩|⟨h76,h⟩
  ·rcases Qf h with ⟨h77,h⟩|⟨h77,h⟩
   ·rcases Qf h with ⟨h78,h⟩|⟨h78,h⟩
    ·rcases Qf h with ⟨h79,h⟩|⟨h79,h⟩
     ·obtain rfl:=Qd h;exact rE Qe [(jT [2,3,4,7,8,9,12,13,14,17,18,19],[(5,.bool true),(10,.bool true),(15,.bool true),(20,.bool true)],[])] [] [] [] [2] (.ret,(f27n0E a1 (.ret (decide (a1.Amount≤1125899906842624)))).2) (ap4 h76 (ap4 h77 (ap4 h78 (ap4 h79 an)))) rfl
     ·obtain rfl:=Qd h;exact rE Qe [(jF [17,18,19]++jT [2,3,4,7,8,9,12,13,14],[(5,.bool true),(10,.bool true),(15,.bool true),(20,.bool false)],[])] [] [] [] [2] (.ret,(f27n0E a1 (.ret false)).2) (ap4 h76 (ap4 h77 (ap4 h78 (ap4 h79 an)))) rfl
    ·obtain rfl:=Qd h;exact rE Qe [(jF [12,13,14]++jT [2,3,4,7,8,9],[(5,.bool true),(10,.bool true),(15,.bool false)],[])] [] [] [] [2] (.ret,(f27n0E a1 (.ret false)).2) (ap4 h76 (ap4 h77 (ap4 h78 an))) rfl
   ·obtain rfl:=Qd h;exact rE Qe [(jF [7,8,9]++jT [2,3,4],[(5,.bool true),(10,.bool false)],[])] [] [] [] [2] (.ret,(f27n0E a1 (.ret false)).2) (ap4 h76 (ap4 h77 an)) rfl
  ·obtain rfl:=Qd h;exact rE Qe [(jF [2,3,4],[(5,.bool false)],[])] [] [] [] [2] (.ret,(f27n0E a1 (.ret false)).2) (ap4 h76 an) rfl
noncomputable def f27(a1:Qb):Option Bool:=(f27n0 a1).bind fun o=>match o with
 | .ret v80=>some v80
theorem f27_ok(a1:Qb){r:Bool}(h:f27 a1=some r):Qk Try.prog false 27 [(jA Qb.cells a1)] [] (jB r) []:=by
 unfold f27 at h;obtain ⟨o,ho,h⟩:=Qc h;cases o with
 | ret v80 =>
  obtain rfl:=Qd h;exact Qk.plain Qe (f:=Try.f27) (c:=c27) (by kernel_rfl) (by kernel_rfl) (by kernel_rfl) (by kernel_rfl) ((f27n0_ok a1 ho).mono fun r e=>by subst e; exact ⟨.inl rfl,(jB v80),(jB v80),by kernel_rfl,by kernel_rfl,((Wk.refl _):Wk (jB v80) (jB v80))⟩)

noncomputable def c26:Code:=Try.f26.body.getD .skip
inductive f26n0O where
 | ret (v6:Bool)
def f26n0E(a1:Qb):f26n0O→Ex×Tr×Hp
 | .ret v6=>(.ret,mkS [(2,(jB v6))],[])
def f26n0S(a1:Qb):Tr×Hp:=(Qad [(jA Qb.cells a1)] 0 .leaf,[])
noncomputable def f26n0(a1:Qb):Option f26n0O :=
 (f27 a1).bind fun x4 =>
 some (.ret (!x4))
theorem f26n0_ok(a1:Qb){o:f26n0O}(h:f26n0 a1=some o):T Try.prog Try.f26.ntmps 0 c26 (f26n0S a1) (·=f26n0E a1 o):=by
 unfold f26n0 at h;obtain ⟨x4,h5,h⟩:=Qc h;obtain rfl:=Qd h;exact rE Qe [j3,([],[jH 1 (jB x4)],[])] [] [] [] [2] (.ret,(f26n0E a1 (.ret (!x4))).2) (ap (f27_ok a1 h5) an) rfl
noncomputable def f26(a1:Qb):Option Bool:=(f26n0 a1).bind fun o=>match o with
 | .ret v6=>some v6
theorem f26_ok(a1:Qb){r:Bool}(h:f26 a1=some r):Qk Try.prog false 26 [(jA Qb.cells a1)] [] (jB r) []:=by
 unfold f26 at h;obtain ⟨o,ho,h⟩:=Qc h;cases o with
 | ret v6 =>
  obtain rfl:=Qd h;exact Qk.plain Qe (f:=Try.f26) (c:=c26) (by kernel_rfl) (by kernel_rfl) (by kernel_rfl) (by kernel_rfl) ((f26n0_ok a1 ho).mono fun r e=>by subst e; exact ⟨.inl rfl,(jB v6),(jB v6),by kernel_rfl,by kernel_rfl,((Wk.refl _):Wk (jB v6) (jB v6))⟩)

noncomputable def c39:Code:=Try.f39.body.getD .skip
inductive f39_26n2O where
 | exit0
 | ret (v40:Int)
def f39_26n2E(bm1:List Qb):f39_26n2O→Ex×Tr×Hp
 | .exit0=>((.exit 0),mkS [],[])
 | .ret v40=>(.ret,mkS [(4,(jI v40))],[])
def f39_26n2S(bm1:List Qb)(v27:Int):Tr×Hp:=(mkS [(0,(jL 6 Qb.cells bm1)),(1,(.pl (.fn 26))),(7,(jI (bm1.length:Int))),(8,(jI v27))],[])
noncomputable def f39_26n2:Nat→List Qb→Int→Option f39_26n2O
 | 0,_,_=>none
 | f+1,bm1,v27 =>
  bif decide (v27<(bm1.length:Int)) then
   (at? bm1 v27).bind fun x35 =>
   (f26 x35).bind fun x37 =>
   bif x37 then
    some (.ret v27)
   else
    (f39_26n2 f bm1 (wr64 (v27+1)))
  else
   some .exit0
theorem f39_26n2_ok:∀(f:Nat)(bm1:List Qb)(v27:Int){o:f39_26n2O},f39_26n2 f bm1 v27=some o→TL Try.prog Try.f39.ntmps 0 f (cL (cL (Qi 1 (cL (Qi 1 c39))))) (f39_26n2S bm1 v27) (·=f39_26n2E bm1 o)
 | 0,_,_,o,h=>by rw [f39_26n2] at h; cases h
 | f+1,bm1,v27,o,h=>by
  rw [f39_26n2] at h;refine TL.body (K:=fun s=>∃v27:Int,s=(f39_26n2S bm1 v27)∧f39_26n2 f bm1 v27=some o) ?_ (by rintro _ ⟨v27,rfl,hk⟩; exact f39_26n2_ok f _ _ hk);rcases Qf h with ⟨h29,h⟩|⟨h29,h⟩
  ·obtain ⟨x35,h36,h⟩:=Qc h;obtain ⟨x37,h38,h⟩:=Qc h;rcases Qf h with ⟨h39,h⟩|⟨h39,h⟩
   ·obtain rfl:=Qd h;exact rK Qe 3 [j3,j3,([],[(3,.idx (Int.toNat v27) (Qb.cells x35)),jH 5 (jB x37)],[]),j3] [some true,some true] [] [] [4] .ret ((f39_26n2E bm1 (.ret v27)).2) (ap h29 (ap (Qg h36).1 (ap (Qo Qb.cells (Qg h36).2) (ap (f26_ok x35 h38) (ap h39 an))))) (Qv.out rfl rfl)
   ·exact rE Qe [j3,j3,([],[(3,.idx (Int.toNat v27) (Qb.cells x35)),jH 5 (jB x37)],[]),j3] [some true,some false] [] [] [0,1,7,8] (.norm,(f39_26n2S bm1 (wr64 (v27+1)))) (ap h29 (ap (Qg h36).1 (ap (Qo Qb.cells (Qg h36).2) (ap (f26_ok x35 h38) (ap h39 an))))) (Qv.norm ⟨(wr64 (v27+1)),rfl,h⟩)
  ·obtain rfl:=Qd h;exact rK Qe 2 [j3] [some false] [] [] [] (.exit 0) ((f39_26n2E bm1 .exit0).2) (ap h29 an) (Qv.out rfl rfl)
noncomputable def f39_26n2L(bm1:List Qb):List Qb→Int→Option f39_26n2O
 | [],v27 =>
  some .exit0
 | x0::rest,v27 =>
  (f26 x0).bind fun x37 =>
  bif x37 then
   some (.ret v27)
  else
   (f39_26n2L bm1 rest (v27+1))
theorem f39_26n2L_eq(bm1:List Qb):∀(rest:List Qb)(f k:Nat),bm1.drop k=rest→bm1.length≤maxLen→rest.length<f→f39_26n2 f bm1 (k:Int)=f39_26n2L bm1 rest (k:Int)
 | _,0,_,_,_,hf=>absurd hf (Nat.not_lt_zero _)
 | [],f+1,k,hd,hm,hf=>by
  have hk:¬((k:Int)<(bm1.length:Int)):=by have:=Qbp hd; omega
  rw [f39_26n2,f39_26n2L];simp only [decide_eq_false hk,cond_false]
 | x0::rest,f+1,k,hd,hm,hf=>by
  obtain ⟨hx,hlt,hd'⟩:=Qba hd;have hk:(k:Int)<(bm1.length:Int):=by omega
  have hw:wr64 ((k:Int)+1)=(k:Int)+1:=wr64_of (by omega) (by unfold maxLen at hm; omega);have ih:f39_26n2 f bm1 ((k:Int)+1)=f39_26n2L bm1 rest ((k:Int)+1):=f39_26n2L_eq bm1 rest f (k+1) hd' hm (by simpa using hf);rw [f39_26n2,f39_26n2L];simp only [decide_eq_true hk,cond_true,at_nat,hx,Option.bind_some,hw,ih]
theorem f39_26n2_run(bm1:List Qb)(hm:bm1.length≤maxLen):f39_26n2 FUEL bm1 0=f39_26n2L bm1 bm1 0:=f39_26n2L_eq bm1 bm1 FUEL 0 List.drop_zero hm (lt_FUEL hm)
inductive f39_26n1O where
 | norm
 | ret (v44:Int)
def f39_26n1E(bm1:List Qb):f39_26n1O→Ex×Tr×Hp
 | .norm=>(.norm,mkS [],[])
 | .ret v44=>(.ret,mkS [(4,(jI v44))],[])
def f39_26n1S(bm1:List Qb):Tr×Hp:=(mkS [(0,(jL 6 Qb.cells bm1)),(1,(.pl (.fn 26)))],[])
noncomputable def f39_26n1(bm1:List Qb):Option f39_26n1O :=
 (f39_26n2 FUEL bm1 0).bind fun o41=>match o41 with
 | .exit0=>some .norm
 | .ret v43=>some (.ret v43)
theorem f39_26n1_ok(bm1:List Qb){o:f39_26n1O}(h:f39_26n1 bm1=some o):T Try.prog Try.f39.ntmps 0 (cL (Qi 1 c39)) (f39_26n1S bm1) (·=f39_26n1E bm1 o):=by
 unfold f39_26n1 at h;refine rN Qe 1 [([],[],[(1,.val (jI (bm1.length:Int)))])] [] [] [] [0,1,7,8] (f39_26n2S bm1 0) (ap (Qu (xs:=bm1) (c:=Qb.cells)) an) ?_;obtain ⟨o41,h42,h⟩:=Qc h;cases o41 with
 | exit0 =>
  obtain rfl:=Qd h;exact T.last' (T.bl (i:=0) (by kernel_rfl) (by kernel_rfl) (f39_26n2_ok FUEL bm1 0 h42)) (tds:=[]) (m:=[]) (keep:=[]) (st2:=(f39_26n1E bm1 .norm).2) (by kernel_rfl) an rfl
 | ret v43 =>
  obtain rfl:=Qd h;exact T.last' (T.bl (i:=0) (by kernel_rfl) (by kernel_rfl) (f39_26n2_ok FUEL bm1 0 h42)) (tds:=[]) (m:=[]) (keep:=[4]) (st2:=(f39_26n1E bm1 (.ret v43)).2) (by kernel_rfl) an rfl
inductive f39_26n0O where
 | ret (v48:Int)
def f39_26n0E(a1:List Qb):f39_26n0O→Ex×Tr×Hp
 | .ret v48=>(.ret,mkS [(4,(jI v48))],[])
def f39_26n0S(a1:List Qb):Tr×Hp:=(Qad [(jL 6 Qb.cells a1),(.pl (.fn 26))] 0 .leaf,[])
noncomputable def f39_26n0(a1:List Qb):Option f39_26n0O :=
 (f39_26n1 a1).bind fun o45=>match o45 with
 | .norm=>some (.ret (-1))
 | .ret v47=>some (.ret v47)
theorem f39_26n0_ok(a1:List Qb){o:f39_26n0O}(h:f39_26n0 a1=some o):T Try.prog Try.f39.ntmps 0 c39 (f39_26n0S a1) (·=f39_26n0E a1 o):=by
 unfold f39_26n0 at h;refine rN Qe 1 [j3] [] [] [] [0,1] (f39_26n1S a1) an ?_;obtain ⟨o45,h46,h⟩:=Qc h;cases o45 with
 | norm =>
  refine T.oneN (by kernel_rfl) (f39_26n1_ok a1 h46) (st2:=(f39_26n1E a1 .norm).2) rfl ?_;obtain rfl:=Qd h;exact rE Qe [j3] [] [] [] [4] (.ret,(f39_26n0E a1 (.ret (-1))).2) an rfl
 | ret v47 =>
  obtain rfl:=Qd h;exact T.oneX' (by kernel_rfl) (f39_26n1_ok a1 h46) (tds:=[]) (m:=[]) (keep:=[4]) (st2:=(f39_26n0E a1 (.ret v47)).2) (by kernel_rfl) an rfl rfl
noncomputable def f39_26(a1:List Qb):Option Int:=(f39_26n0 a1).bind fun o=>match o with
 | .ret v48=>some v48
theorem f39_26_ok(a1:List Qb){r:Int}(h:f39_26 a1=some r):Qk Try.prog false 39 [(jL 6 Qb.cells a1),(.pl (.fn 26))] [] (jI r) []:=by
 unfold f39_26 at h;obtain ⟨o,ho,h⟩:=Qc h;cases o with
 | ret v48 =>
  obtain rfl:=Qd h;exact Qk.plain Qe (f:=Try.f39) (c:=c39) (by kernel_rfl) (by kernel_rfl) (by kernel_rfl) (by kernel_rfl) ((f39_26n0_ok a1 ho).mono fun r e=>by subst e; exact ⟨.inl rfl,(jI v48),(jI v48),by kernel_rfl,by kernel_rfl,((Wk.refl _):Wk (jI v48) (jI v48))⟩)
end Go.Proofs.Ytglmageljnlhcaa
namespace Go.Proofs.Ytglmageljnlhcaa
set_option linter.unusedVariables false
set_option linter.unusedSimpArgs false
set_option maxRecDepth 100000
open Go.RowKit
noncomputable def c28:Code:=Try.f28.body.getD .skip
inductive f28_26n0O where
 | ret (v6:Bool)
def f28_26n0E(a1:List Qb):f28_26n0O→Ex×Tr×Hp
 | .ret v6=>(.ret,mkS [(4,(jB v6))],[])
def f28_26n0S(a1:List Qb):Tr×Hp:=(Qad [(jL 6 Qb.cells a1),(.pl (.fn 26))] 0 .leaf,[])
noncomputable def f28_26n0(a1:List Qb):Option f28_26n0O :=
 (f39_26 a1).bind fun x4 =>
 some (.ret (decide (0≤x4)))
theorem f28_26n0_ok(a1:List Qb){o:f28_26n0O}(h:f28_26n0 a1=some o):T Try.prog Try.f28.ntmps 0 c28 (f28_26n0S a1) (·=f28_26n0E a1 o):=by
 unfold f28_26n0 at h;obtain ⟨x4,h5,h⟩:=Qc h;obtain rfl:=Qd h;exact rE Qe [j3,([],[jH 2 (jI x4)],[])] [] [] [] [4] (.ret,(f28_26n0E a1 (.ret (decide (0≤x4)))).2) (ap (f39_26_ok a1 h5) an) rfl
noncomputable def f28_26(a1:List Qb):Option Bool:=(f28_26n0 a1).bind fun o=>match o with
 | .ret v6=>some v6
theorem f28_26_ok(a1:List Qb){r:Bool}(h:f28_26 a1=some r):Qk Try.prog false 28 [(jL 6 Qb.cells a1),(.pl (.fn 26))] [] (jB r) []:=by
 unfold f28_26 at h;obtain ⟨o,ho,h⟩:=Qc h;cases o with
 | ret v6 =>
  obtain rfl:=Qd h;exact Qk.plain Qe (f:=Try.f28) (c:=c28) (by kernel_rfl) (by kernel_rfl) (by kernel_rfl) (by kernel_rfl) ((f28_26n0_ok a1 ho).mono fun r e=>by subst e; exact ⟨.inl rfl,(jB v6),(jB v6),by kernel_rfl,by kernel_rfl,((Wk.refl _):Wk (jB v6) (jB v6))⟩)

noncomputable def c15:Code:=Try.f15.body.getD .skip
inductive f15n0O where
 | ret (v10:Int)
def f15n0E(a1:List Qb):f15n0O→Ex×Tr×Hp
 | .ret v10=>(.ret,mkS [(2,(jI v10))],[])
def f15n0S(a1:List Qb):Tr×Hp:=(Qad [(jL 6 Qb.cells a1)] 0 .leaf,[])
noncomputable def f15n0(a1:List Qb):Option f15n0O :=
 bif decide (500<(a1.length:Int)) then
  some (.ret 8)
 else
  (f28_26 a1).bind fun x7 =>
  bif x7 then
   some (.ret 8)
  else
   some (.ret 0)
theorem f15n0_ok(a1:List Qb){o:f15n0O}(h:f15n0 a1=some o):T Try.prog Try.f15.ntmps 0 c15 (f15n0S a1) (·=f15n0E a1 o):=by
 unfold f15n0 at h;rcases Qf h with ⟨h6,h⟩|⟨h6,h⟩
 ·obtain rfl:=Qd h;exact rK Qe 3 [j3,j3,(jT [4,5,6],[(7,.bool true)],[(1,.val (jI (a1.length:Int)))]),j3] [none] [] [] [2] .ret ((f15n0E a1 (.ret 8)).2) (ap (Qu (xs:=a1) (c:=Qb.cells)) (ap4 h6 an)) rfl
 ·obtain ⟨x7,h8,h⟩:=Qc h;rcases Qf h with ⟨h9,h⟩|⟨h9,h⟩
  ·obtain rfl:=Qd h;exact rK Qe 3 [j3,j3,(jF [4,5,6],[jH 6 (jB x7),(7,.bool false)],[(1,.val (jI (a1.length:Int)))]),j3] [some true] [] [] [2] .ret ((f15n0E a1 (.ret 8)).2) (ap (Qu (xs:=a1) (c:=Qb.cells)) (ap4 h6 (ap (f28_26_ok a1 h8) (ap h9 an)))) rfl
  ·obtain rfl:=Qd h;exact rE Qe [j3,j3,(jF [4,5,6],[jH 6 (jB x7),(7,.bool false)],[(1,.val (jI (a1.length:Int)))]),j3] [some false] [] [] [2] (.ret,(f15n0E a1 (.ret 0)).2) (ap (Qu (xs:=a1) (c:=Qb.cells)) (ap4 h6 (ap (f28_26_ok a1 h8) (ap h9 an)))) rfl
noncomputable def f15(a1:List Qb):Option Int:=(f15n0 a1).bind fun o=>match o with
 | .ret v10=>some v10
theorem f15_ok(a1:List Qb){r:Int}(h:f15 a1=some r):Qk Try.prog false 15 [(jL 6 Qb.cells a1)] [] (jI r) []:=by
 unfold f15 at h;obtain ⟨o,ho,h⟩:=Qc h;cases o with
 | ret v10 =>
  obtain rfl:=Qd h;exact Qk.plain Qe (f:=Try.f15) (c:=c15) (by kernel_rfl) (by kernel_rfl) (by kernel_rfl) (by kernel_rfl) ((f15n0_ok a1 ho).mono fun r e=>by subst e; exact ⟨.inl rfl,(jI v10),(jI v10),by kernel_rfl,by kernel_rfl,((Wk.refl _):Wk (jI v10) (jI v10))⟩)

noncomputable def c17:Code:=Try.f17.body.getD .skip
inductive f17n0O where
 | ret (v7:Qb)
def f17n0E(a1:Key_)(a2 a3:ByteArray)(a4:Int):f17n0O→Ex×Tr×Hp
 | .ret v7=>(.ret,mkS [(8,(.bp 0 0)),(9,(.pl (.bool (!(decide (a4=0))))))],[some (.box 46 ((Qb.cells v7).map .pl))])
def f17n0S(a1:Key_)(a2 a3:ByteArray)(a4:Int):Tr×Hp:=(Qad [(jA Key_.cells a1),(jS a2),(jS a3),(jI a4)] 0 .leaf,[])
noncomputable def f17n0(a1:Key_)(a2 a3:ByteArray)(a4:Int):Option f17n0O :=
 bif decide (a4<0) then
  some (.ret (Qb.mk a1.date a1.set a1.ccy a3 a2 (wr64 (0-a4))))
 else
  some (.ret (Qb.mk a1.date a1.set a1.ccy a2 a3 a4))
theorem f17n0_ok(a1:Key_)(a2 a3:ByteArray)(a4:Int){o:f17n0O}(h:f17n0 a1 a2 a3 a4=some o):T Try.prog Try.f17.ntmps 0 c17 (f17n0S a1 a2 a3 a4) (·=f17n0E a1 a2 a3 a4 o):=by
 unfold f17n0 at h;rcases Qf h with ⟨h6,h⟩|⟨h6,h⟩
 ·obtain rfl:=Qd h;exact rE Qe [j3,j3,j3,j3,j3] [some true] [] [1] [8,9] (.ret,(f17n0E a1 a2 a3 a4 (.ret (Qb.mk a1.date a1.set a1.ccy a3 a2 (wr64 (0-a4))))).2) (ap h6 an) rfl
 ·obtain rfl:=Qd h;exact rE Qe [j3,j3,j3,j3] [some false] [] [1] [8,9] (.ret,(f17n0E a1 a2 a3 a4 (.ret (Qb.mk a1.date a1.set a1.ccy a2 a3 a4))).2) (ap h6 an) rfl
noncomputable def f17(a1:Key_)(a2 a3:ByteArray)(a4:Int):Option (Qb×Bool):=(f17n0 a1 a2 a3 a4).bind fun o=>match o with
 | .ret v7=>some (v7,(!(decide (a4=0))))
theorem f17_ok(a1:Key_)(a2 a3:ByteArray)(a4:Int){r:Qb×Bool}(h:f17 a1 a2 a3 a4=some r):Qk Try.prog false 17 [(jA Key_.cells a1),(jS a2),(jS a3),(jI a4)] [] (.tup [(jA Qb.cells r.1),(jB r.2)]) []:=by
 unfold f17 at h;obtain ⟨o,ho,h⟩:=Qc h;cases o with
 | ret v7 =>
  obtain rfl:=Qd h;exact Qk.plain Qe (f:=Try.f17) (c:=c17) (by kernel_rfl) (by kernel_rfl) (by kernel_rfl) (by kernel_rfl) ((f17n0_ok a1 a2 a3 a4 ho).mono fun r e=>by subst e; exact ⟨.inl rfl,(.tup [(jA Qb.cells v7),(.pl (.bool (!(decide (a4=0)))))]),(.tup [(jA Qb.cells v7),(.pl (.bool (!(decide (a4=0)))))]),by kernel_rfl,by kernel_rfl,((Wk.refl _):Wk (.tup [(jA Qb.cells v7),(.pl (.bool (!(decide (a4=0)))))]) (.tup [(jA Qb.cells v7),(.pl (.bool (!(decide (a4=0)))))]))⟩)

noncomputable def c32:Code:=Try.f32.body.getD .skip
inductive f32n0O where
 | ret
def f32n0E(a1:Int):f32n0O→Ex×Tr×Hp
 | .ret=>(.ret,mkS [(2,(.pl (.bool (!(decide (a1=a1))))))],[])
def f32n0S(a1:Int):Tr×Hp:=(Qad [(jI a1)] 0 .leaf,[])
noncomputable def f32n0(a1:Int):Option f32n0O :=
 some .ret
theorem f32n0_ok(a1:Int){o:f32n0O}(h:f32n0 a1=some o):T Try.prog Try.f32.ntmps 0 c32 (f32n0S a1) (·=f32n0E a1 o):=by
 unfold f32n0 at h;obtain rfl:=Qd h;exact rE Qe [j3,j3] [] [] [] [2] (.ret,(f32n0E a1 .ret).2) an rfl
noncomputable def f32(a1:Int):Option Bool:=(f32n0 a1).bind fun o=>match o with
 | .ret=>some (!(decide (a1=a1)))
theorem f32_ok(a1:Int){r:Bool}(h:f32 a1=some r):Qk Try.prog false 32 [(jI a1)] [] (jB r) []:=by
 unfold f32 at h;obtain ⟨o,ho,h⟩:=Qc h;cases o with
 | ret =>
  obtain rfl:=Qd h;exact Qk.plain Qe (f:=Try.f32) (c:=c32) (by kernel_rfl) (by kernel_rfl) (by kernel_rfl) (by kernel_rfl) ((f32n0_ok a1 ho).mono fun r e=>by subst e; exact ⟨.inl rfl,(.pl (.bool (!(decide (a1=a1))))),(.pl (.bool (!(decide (a1=a1))))),by kernel_rfl,by kernel_rfl,((Wk.refl _):Wk (.pl (.bool (!(decide (a1=a1))))) (.pl (.bool (!(decide (a1=a1))))))⟩)

noncomputable def c21:Code:=Try.f21.body.getD .skip
inductive f21n0O where
 | ret (v21:Int)
def f21n0E(a1 a2:Int):f21n0O→Ex×Tr×Hp
 | .ret v21=>(.ret,mkS [(4,(jI v21))],[])
def f21n0S(a1 a2:Int):Tr×Hp:=(Qad [(jI a1),(jI a2)] 0 .leaf,[])
noncomputable def f21n0(a1 a2:Int):Option f21n0O :=
 (f32 a1).bind fun x5 =>
 (f32 a2).bind fun x9 =>
 bif x5 then
  bif x9 then
   some (.ret 0)
  else
   some (.ret (-1))
 else
  bif x9 then
   some (.ret 1)
  else
   bif decide (a1<a2) then
    some (.ret (-1))
   else
    bif decide (a2<a1) then
     some (.ret 1)
    else
     some (.ret 0)
theorem f21n0_ok(a1 a2:Int){o:f21n0O}(h:f21n0 a1 a2=some o):T Try.prog Try.f21.ntmps 0 c21 (f21n0S a1 a2) (·=f21n0E a1 a2 o):=by
 unfold f21n0 at h;obtain ⟨x5,h6,h⟩:=Qc h;obtain ⟨x9,h10,h⟩:=Qc h;rcases Qf h with ⟨h13,h⟩|⟨h13,h⟩
 ·rcases Qf h with ⟨h14,h⟩|⟨h14,h⟩
  ·obtain rfl:=Qd h;exact rK Qe 4 [j3,([],[jH 1 (jB x5)],[]),([],[jH 1 (jB x9)],[]),j3,j3,j3] [some true,some true] [] [] [4] .ret ((f21n0E a1 a2 (.ret 0)).2) (ap (f32_ok a1 h6) (ap (f32_ok a2 h10) (ap h13 (ap h14 an)))) rfl
  ·obtain rfl:=Qd h;exact rK Qe 4 [j3,([],[jH 1 (jB x5)],[]),([],[jH 1 (jB x9)],[]),j3,j3,j3] [some true,some false] [] [] [4] .ret ((f21n0E a1 a2 (.ret (-1))).2) (ap (f32_ok a1 h6) (ap (f32_ok a2 h10) (ap h13 (ap h14 an)))) rfl
 ·rcases Qf h with ⟨h16,h⟩|⟨h16,h⟩
  ·obtain rfl:=Qd h;exact rK Qe 5 [j3,([],[jH 1 (jB x5)],[]),([],[jH 1 (jB x9)],[]),j3,j3,j3] [some false,some true] [] [] [4] .ret ((f21n0E a1 a2 (.ret 1)).2) (ap (f32_ok a1 h6) (ap (f32_ok a2 h10) (ap h13 (ap h16 an)))) rfl
  ·rcases Qf h with ⟨h18,h⟩|⟨h18,h⟩
   ·obtain rfl:=Qd h;exact rK Qe 6 [j3,([],[jH 1 (jB x5)],[]),([],[jH 1 (jB x9)],[]),j3,j3,j3,j3] [some false,some false,some true] [] [] [4] .ret ((f21n0E a1 a2 (.ret (-1))).2) (ap (f32_ok a1 h6) (ap (f32_ok a2 h10) (ap h13 (ap h16 (ap h18 an))))) rfl
   ·rcases Qf h with ⟨h20,h⟩|⟨h20,h⟩
    ·obtain rfl:=Qd h;exact rK Qe 7 [j3,([],[jH 1 (jB x5)],[]),([],[jH 1 (jB x9)],[]),j3,j3,j3,j3,j3] [some false,some false,some false,some true] [] [] [4] .ret ((f21n0E a1 a2 (.ret 1)).2) (ap (f32_ok a1 h6) (ap (f32_ok a2 h10) (ap h13 (ap h16 (ap h18 (ap h20 an)))))) rfl
    ·obtain rfl:=Qd h;exact rE Qe [j3,([],[jH 1 (jB x5)],[]),([],[jH 1 (jB x9)],[]),j3,j3,j3,j3,j3] [some false,some false,some false,some false] [] [] [4] (.ret,(f21n0E a1 a2 (.ret 0)).2) (ap (f32_ok a1 h6) (ap (f32_ok a2 h10) (ap h13 (ap h16 (ap h18 (ap h20 an)))))) rfl
noncomputable def f21(a1 a2:Int):Option Int:=(f21n0 a1 a2).bind fun o=>match o with
 | .ret v21=>some v21
theorem f21_ok(a1 a2:Int){r:Int}(h:f21 a1 a2=some r):Qk Try.prog false 21 [(jI a1),(jI a2)] [] (jI r) []:=by
 unfold f21 at h;obtain ⟨o,ho,h⟩:=Qc h;cases o with
 | ret v21 =>
  obtain rfl:=Qd h;exact Qk.plain Qe (f:=Try.f21) (c:=c21) (by kernel_rfl) (by kernel_rfl) (by kernel_rfl) (by kernel_rfl) ((f21n0_ok a1 a2 ho).mono fun r e=>by subst e; exact ⟨.inl rfl,(jI v21),(jI v21),by kernel_rfl,by kernel_rfl,((Wk.refl _):Wk (jI v21) (jI v21))⟩)

noncomputable def c19:Code:=Try.f19.body.getD .skip
inductive f19n0O where
 | ret (v19:Int)
def f19n0E(a1 a2:Ql):f19n0O→Ex×Tr×Hp
 | .ret v19=>(.ret,mkS [(4,(jI v19))],[])
def f19n0S(a1 a2:Ql):Tr×Hp:=(Qad [(jA Ql.cells a1),(jA Ql.cells a2)] 0 .leaf,[])
noncomputable def f19n0(a1 a2:Ql):Option f19n0O :=
 (f21 a1.flow.Date a2.flow.Date).bind fun x11 =>
 (f22 a1.flow.Ccy a2.flow.Ccy).bind fun x13 =>
 (f22 a1.party a2.party).bind fun x15 =>
 (f20 [x11,x13,x15]).bind fun x17 =>
 some (.ret x17)
theorem f19n0_ok(a1 a2:Ql){o:f19n0O}(h:f19n0 a1 a2=some o):T Try.prog Try.f19.ntmps 0 c19 (f19n0S a1 a2) (·=f19n0E a1 a2 o):=by
 unfold f19n0 at h;obtain ⟨x11,h12,h⟩:=Qc h;obtain ⟨x13,h14,h⟩:=Qc h;obtain ⟨x15,h16,h⟩:=Qc h;obtain ⟨x17,h18,h⟩:=Qc h;obtain rfl:=Qd h
 exact rE Qe [j3,([],[jH 6 (jI x11),jH 13 (jI x13),jH 18 (jI x15),jH 20 (jI x17)],[])] [] [] [] [4] (.ret,(f19n0E a1 a2 (.ret x17)).2) (ap (Qac (e:=⟨false,22,[(jS a1.flow.Ccy),(jS a2.flow.Ccy)],[],(jI x13),[]⟩) (f:=⟨false,22,[(jS a1.party),(jS a2.party)],[],(jI x15),[]⟩) (fun k=>by simp only [jL,jS,jI,jB,jA,Qa.cells_eq,Qa.map_eq,Qb.cells_eq,Qb.map_eq,Key_.cells_eq,Key_.map_eq,List.cons.injEq,AV.pl.injEq,PV.str.injEq,PV.int.injEq,PV.bool.injEq,PV.agg.injEq,PV.sl.injEq,and_true,true_and] at k; have e0:x13=x15:=Option.some.inj (by rw [←h14,←h16]; first | exact congrArg _ k | (obtain ⟨k1,_⟩:=k; simp only [k1]; done) | simp only [k]); exact ⟨by rw [e0],rfl⟩)) (ap (f21_ok a1.flow.Date a2.flow.Date h12) (ap (f22_ok a1.flow.Ccy a2.flow.Ccy h14) (ap (f22_ok a1.party a2.party h16) (ap (f20_ok [x11,x13,x15] h18) an))))) rfl
noncomputable def f19(a1 a2:Ql):Option Int:=(f19n0 a1 a2).bind fun o=>match o with
 | .ret v19=>some v19
theorem f19_ok(a1 a2:Ql){r:Int}(h:f19 a1 a2=some r):Qk Try.prog false 19 [(jA Ql.cells a1),(jA Ql.cells a2)] [] (jI r) []:=by
 unfold f19 at h;obtain ⟨o,ho,h⟩:=Qc h;cases o with
 | ret v19 =>
  obtain rfl:=Qd h;exact Qk.plain Qe (f:=Try.f19) (c:=c19) (by kernel_rfl) (by kernel_rfl) (by kernel_rfl) (by kernel_rfl) ((f19n0_ok a1 a2 ho).mono fun r e=>by subst e; exact ⟨.inl rfl,(jI v19),(jI v19),by kernel_rfl,by kernel_rfl,((Wk.refl _):Wk (jI v19) (jI v19))⟩)

instance:Inhabited Ql:=⟨(Ql.mk Qau (Qb.mk 0 Qau Qau Qau Qau 0))⟩
def so18_19_good(xs:List Ql):Prop:=∃c:Ql→Ql→Int,(∀x y,f19 x y=some (c x y))∧Go.Sort.SWO (ltOf c)∧xs.length<4611686018427387904
open Classical in
noncomputable def so18_19(xs:List Ql):Option (List Ql):=if h:so18_19_good xs then some (sortL h.choose xs) else none
theorem so18_19_val{xs:List Ql}{c:Ql→Ql→Int}(hc:∀x y,f19 x y=some (c x y))(o:Go.Sort.SWO (ltOf c))(hl:xs.length<4611686018427387904):so18_19 xs=some (sortL c xs):=by
 have h:so18_19_good xs:=⟨c,hc,o,hl⟩;unfold so18_19;rw [dif_pos h];have e:h.choose=c:=funext fun x=>funext fun y=>Option.some.inj ((h.choose_spec.1 x y).symm.trans (hc x y));rw [e]
theorem so18_19_ok(xs:List Ql){r:List Ql}(h:so18_19 xs=some r) :
  Qk Try.prog true 18 [.own 0,.pl (.fn 19)] [some (.row false 7 (xs.map Ql.cells))] (.tup []) [some (.row false 7 (r.map Ql.cells))]:=by
 unfold so18_19 at h
 by_cases hc:so18_19_good xs
 ·rw [dif_pos hc] at h;obtain rfl:=Qd h;have hs:=hc.choose_spec;exact sort_callS (cells:=Ql.cells) so_lays rfl so_agg so_size (enters_of Try.func18 (by kernel_rfl) rfl) (fun _=>rfl) (fun x q hq=>by
   simp only [Ql.cells,List.mem_cons,List.not_mem_nil,or_false] at hq;rcases hq with rfl | rfl | rfl | rfl | rfl | rfl | rfl<;>rfl) _ hs.2.1 (fun x y=>f19_ok _ _ (hs.1 x y)) xs hs.2.2
 ·rw [dif_neg hc] at h; cases h


noncomputable def c7:Code:=Try.f7.body.getD .skip
inductive f7n2O where
 | exit0 (v37:List (Key_×Int))
def f7n2E(bb1:ByteArray)(bm2:List Qb):f7n2O→Ex×Tr×Hp
 | .exit0 v37=>((.exit 0),mkS [(0,(jS bb1)),(7,(.mp 0))],[some (.map (v37.map (mkv (pAgg Key_.cells) (pInt .i64))))])
def f7n2S(bb1:ByteArray)(bm2:List Qb)(v29:Int)(v30:List (Key_×Int)):Tr×Hp:=(mkS [(0,(jS bb1)),(7,(.mp 0)),(27,(jL 6 Qb.cells bm2)),(28,(jI (bm2.length:Int))),(29,(jI v29))],[some (.map (v30.map (mkv (pAgg Key_.cells) (pInt .i64))))])
noncomputable def f7n2:Nat→ByteArray→List Qb→Int→List (Key_×Int)→Option f7n2O
 | 0,_,_,_,_=>none
 | f+1,bb1,bm2,v29,v30 =>
  bif decide (v29<(bm2.length:Int)) then
   (at? bm2 v29).bind fun x35 =>
   (f7n2 f bb1 bm2 (wr64 (v29+1)) (mPut Key_.eqb (Key_.mk x35.Date x35.To x35.Ccy) (wr64 ((mGet Key_.eqb 0 (Key_.mk x35.Date x35.To x35.Ccy) (mPut Key_.eqb (Key_.mk x35.Date x35.From x35.Ccy) (wr64 ((mGet Key_.eqb 0 (Key_.mk x35.Date x35.From x35.Ccy) v30)-x35.Amount)) v30))+x35.Amount)) (mPut Key_.eqb (Key_.mk x35.Date x35.From x35.Ccy) (wr64 ((mGet Key_.eqb 0 (Key_.mk x35.Date x35.From x35.Ccy) v30)-x35.Amount)) v30)))
  else
   some (.exit0 v30)
theorem f7n2_ok:∀(f:Nat)(bb1:ByteArray)(bm2:List Qb)(v29:Int)(v30:List (Key_×Int)){o:f7n2O},f7n2 f bb1 bm2 v29 v30=some o→TL Try.prog Try.f7.ntmps 0 f (cL (cL (Qi 1 (cL (Qi 4 c7))))) (f7n2S bb1 bm2 v29 v30) (·=f7n2E bb1 bm2 o)
 | 0,_,_,_,_,o,h=>by rw [f7n2] at h; cases h
 | f+1,bb1,bm2,v29,v30,o,h=>by
  rw [f7n2] at h;refine TL.body (K:=fun s=>∃v29:Int,∃v30:List (Key_×Int),s=(f7n2S bb1 bm2 v29 v30)∧f7n2 f bb1 bm2 v29 v30=some o) ?_ (by rintro _ ⟨v29,v30,rfl,hk⟩; exact f7n2_ok f _ _ _ _ hk);rcases Qf h with ⟨h32,h⟩|⟨h32,h⟩
  ·obtain ⟨x35,h36,h⟩:=Qc h
   exact rE Qe [j3,([],[(0,.idx (Int.toNat v29) (Qb.cells x35))],[]),([],[(8,.look ((pInt .i64) (mGet Key_.eqb 0 (Key_.mk x35.Date x35.From x35.Ccy) v30)) (mHas Key_.eqb (Key_.mk x35.Date x35.From x35.Ccy) v30)),(12,.ment ((pInt .i64) (mGet Key_.eqb 0 (Key_.mk x35.Date x35.From x35.Ccy) v30)) (mIdx Key_.eqb (Key_.mk x35.Date x35.From x35.Ccy) v30) ((mEns Key_.eqb 0 (Key_.mk x35.Date x35.From x35.Ccy) v30).map (mkv (pAgg Key_.cells) (pInt .i64)))),(14,.mst (mIdx Key_.eqb (Key_.mk x35.Date x35.From x35.Ccy) v30) ((pAgg Key_.cells) (Key_.mk x35.Date x35.From x35.Ccy)) ((pInt .i64) (mGet Key_.eqb 0 (Key_.mk x35.Date x35.From x35.Ccy) v30)))],[(14,.map 0 ((mPut Key_.eqb (Key_.mk x35.Date x35.From x35.Ccy) (wr64 ((mGet Key_.eqb 0 (Key_.mk x35.Date x35.From x35.Ccy) v30)-x35.Amount)) v30).map (mkv (pAgg Key_.cells) (pInt .i64))))]),([],[(8,.look ((pInt .i64) (mGet Key_.eqb 0 (Key_.mk x35.Date x35.To x35.Ccy) (mPut Key_.eqb (Key_.mk x35.Date x35.From x35.Ccy) (wr64 ((mGet Key_.eqb 0 (Key_.mk x35.Date x35.From x35.Ccy) v30)-x35.Amount)) v30))) (mHas Key_.eqb (Key_.mk x35.Date x35.To x35.Ccy) (mPut Key_.eqb (Key_.mk x35.Date x35.From x35.Ccy) (wr64 ((mGet Key_.eqb 0 (Key_.mk x35.Date x35.From x35.Ccy) v30)-x35.Amount)) v30))),(12,.ment ((pInt .i64) (mGet Key_.eqb 0 (Key_.mk x35.Date x35.To x35.Ccy) (mPut Key_.eqb (Key_.mk x35.Date x35.From x35.Ccy) (wr64 ((mGet Key_.eqb 0 (Key_.mk x35.Date x35.From x35.Ccy) v30)-x35.Amount)) v30))) (mIdx Key_.eqb (Key_.mk x35.Date x35.To x35.Ccy) (mPut Key_.eqb (Key_.mk x35.Date x35.From x35.Ccy) (wr64 ((mGet Key_.eqb 0 (Key_.mk x35.Date x35.From x35.Ccy) v30)-x35.Amount)) v30)) ((mEns Key_.eqb 0 (Key_.mk x35.Date x35.To x35.Ccy) (mPut Key_.eqb (Key_.mk x35.Date x35.From x35.Ccy) (wr64 ((mGet Key_.eqb 0 (Key_.mk x35.Date x35.From x35.Ccy) v30)-x35.Amount)) v30)).map (mkv (pAgg Key_.cells) (pInt .i64)))),(14,.mst (mIdx Key_.eqb (Key_.mk x35.Date x35.To x35.Ccy) (mPut Key_.eqb (Key_.mk x35.Date x35.From x35.Ccy) (wr64 ((mGet Key_.eqb 0 (Key_.mk x35.Date x35.From x35.Ccy) v30)-x35.Amount)) v30)) ((pAgg Key_.cells) (Key_.mk x35.Date x35.To x35.Ccy)) ((pInt .i64) (mGet Key_.eqb 0 (Key_.mk x35.Date x35.To x35.Ccy) (mPut Key_.eqb (Key_.mk x35.Date x35.From x35.Ccy) (wr64 ((mGet Key_.eqb 0 (Key_.mk x35.Date x35.From x35.Ccy) v30)-x35.Amount)) v30))))],[(14,.map 0 ((mPut Key_.eqb (Key_.mk x35.Date x35.To x35.Ccy) (wr64 ((mGet Key_.eqb 0 (Key_.mk x35.Date x35.To x35.Ccy) (mPut Key_.eqb (Key_.mk x35.Date x35.From x35.Ccy) (wr64 ((mGet Key_.eqb 0 (Key_.mk x35.Date x35.From x35.Ccy) v30)-x35.Amount)) v30))+x35.Amount)) (mPut Key_.eqb (Key_.mk x35.Date x35.From x35.Ccy) (wr64 ((mGet Key_.eqb 0 (Key_.mk x35.Date x35.From x35.Ccy) v30)-x35.Amount)) v30)).map (mkv (pAgg Key_.cells) (pInt .i64))))]),j3] [some true] [] [0] [0,7,27,28,29] (.norm,(f7n2S bb1 bm2 (wr64 (v29+1)) (mPut Key_.eqb (Key_.mk x35.Date x35.To x35.Ccy) (wr64 ((mGet Key_.eqb 0 (Key_.mk x35.Date x35.To x35.Ccy) (mPut Key_.eqb (Key_.mk x35.Date x35.From x35.Ccy) (wr64 ((mGet Key_.eqb 0 (Key_.mk x35.Date x35.From x35.Ccy) v30)-x35.Amount)) v30))+x35.Amount)) (mPut Key_.eqb (Key_.mk x35.Date x35.From x35.Ccy) (wr64 ((mGet Key_.eqb 0 (Key_.mk x35.Date x35.From x35.Ccy) v30)-x35.Amount)) v30)))) (ap h32 (ap (Qg h36).1 (ap (Qo Qb.cells (Qg h36).2) (ap (look_map (vp:=(pInt .i64)) (e:=3) key_48 0 (by kernel_rfl) (Key_.mk x35.Date x35.From x35.Ccy) v30) (ap (ment_map (vp:=(pInt .i64)) (e:=3) key_48 0 (by kernel_rfl) (Key_.mk x35.Date x35.From x35.Ccy) v30) (ap (rfl:((mIdx Key_.eqb (Key_.mk x35.Date x35.From x35.Ccy) v30):Int)=(((mIdx Key_.eqb (Key_.mk x35.Date x35.From x35.Ccy) v30):Nat):Int)) (ap (mst_at (vp:=(pInt .i64)) key_48 0 (Key_.mk x35.Date x35.From x35.Ccy) v30) (ap (mst_put (vp:=(pInt .i64)) key_48 0 (wr64 ((mGet Key_.eqb 0 (Key_.mk x35.Date x35.From x35.Ccy) v30)-x35.Amount)) (Key_.mk x35.Date x35.From x35.Ccy) v30) (ap (look_map (vp:=(pInt .i64)) (e:=3) key_48 0 (by kernel_rfl) (Key_.mk x35.Date x35.To x35.Ccy) (mPut Key_.eqb (Key_.mk x35.Date x35.From x35.Ccy) (wr64 ((mGet Key_.eqb 0 (Key_.mk x35.Date x35.From x35.Ccy) v30)-x35.Amount)) v30)) (ap (ment_map (vp:=(pInt .i64)) (e:=3) key_48 0 (by kernel_rfl) (Key_.mk x35.Date x35.To x35.Ccy) (mPut Key_.eqb (Key_.mk x35.Date x35.From x35.Ccy) (wr64 ((mGet Key_.eqb 0 (Key_.mk x35.Date x35.From x35.Ccy) v30)-x35.Amount)) v30)) (ap (rfl:((mIdx Key_.eqb (Key_.mk x35.Date x35.To x35.Ccy) (mPut Key_.eqb (Key_.mk x35.Date x35.From x35.Ccy) (wr64 ((mGet Key_.eqb 0 (Key_.mk x35.Date x35.From x35.Ccy) v30)-x35.Amount)) v30)):Int)=(((mIdx Key_.eqb (Key_.mk x35.Date x35.To x35.Ccy) (mPut Key_.eqb (Key_.mk x35.Date x35.From x35.Ccy) (wr64 ((mGet Key_.eqb 0 (Key_.mk x35.Date x35.From x35.Ccy) v30)-x35.Amount)) v30)):Nat):Int)) (ap (mst_at (vp:=(pInt .i64)) key_48 0 (Key_.mk x35.Date x35.To x35.Ccy) (mPut Key_.eqb (Key_.mk x35.Date x35.From x35.Ccy) (wr64 ((mGet Key_.eqb 0 (Key_.mk x35.Date x35.From x35.Ccy) v30)-x35.Amount)) v30)) (ap (mst_put (vp:=(pInt .i64)) key_48 0 (wr64 ((mGet Key_.eqb 0 (Key_.mk x35.Date x35.To x35.Ccy) (mPut Key_.eqb (Key_.mk x35.Date x35.From x35.Ccy) (wr64 ((mGet Key_.eqb 0 (Key_.mk x35.Date x35.From x35.Ccy) v30)-x35.Amount)) v30))+x35.Amount)) (Key_.mk x35.Date x35.To x35.Ccy) (mPut Key_.eqb (Key_.mk x35.Date x35.From x35.Ccy) (wr64 ((mGet Key_.eqb 0 (Key_.mk x35.Date x35.From x35.Ccy) v30)-x35.Amount)) v30)) an))))))))))))) (Qv.norm ⟨(wr64 (v29+1)),(mPut Key_.eqb (Key_.mk x35.Date x35.To x35.Ccy) (wr64 ((mGet Key_.eqb 0 (Key_.mk x35.Date x35.To x35.Ccy) (mPut Key_.eqb (Key_.mk x35.Date x35.From x35.Ccy) (wr64 ((mGet Key_.eqb 0 (Key_.mk x35.Date x35.From x35.Ccy) v30)-x35.Amount)) v30))+x35.Amount)) (mPut Key_.eqb (Key_.mk x35.Date x35.From x35.Ccy) (wr64 ((mGet Key_.eqb 0 (Key_.mk x35.Date x35.From x35.Ccy) v30)-x35.Amount)) v30)),rfl,h⟩)
  ·obtain rfl:=Qd h;exact rK Qe 2 [j3] [some false] [] [0] [0,7] (.exit 0) ((f7n2E bb1 bm2 (.exit0 v30)).2) (ap h32 an) (Qv.out rfl rfl)
noncomputable def f7n2L(bb1:ByteArray)(bm2:List Qb):List Qb→Int→(List (Key_×Int))→Option f7n2O
 | [],v29,v30 =>
  some (.exit0 v30)
 | x0::rest,v29,v30 =>
  (f7n2L bb1 bm2 rest (v29+1) (mPut Key_.eqb (Key_.mk x0.Date x0.To x0.Ccy) (wr64 ((mGet Key_.eqb 0 (Key_.mk x0.Date x0.To x0.Ccy) (mPut Key_.eqb (Key_.mk x0.Date x0.From x0.Ccy) (wr64 ((mGet Key_.eqb 0 (Key_.mk x0.Date x0.From x0.Ccy) v30)-x0.Amount)) v30))+x0.Amount)) (mPut Key_.eqb (Key_.mk x0.Date x0.From x0.Ccy) (wr64 ((mGet Key_.eqb 0 (Key_.mk x0.Date x0.From x0.Ccy) v30)-x0.Amount)) v30)))
theorem f7n2L_eq(bb1:ByteArray)(bm2:List Qb):∀(rest:List Qb)(f k:Nat)(v30:List (Key_×Int)),bm2.drop k=rest→bm2.length≤maxLen→rest.length<f→f7n2 f bb1 bm2 (k:Int) v30=f7n2L bb1 bm2 rest (k:Int) v30
 | _,0,_,_,_,_,hf=>absurd hf (Nat.not_lt_zero _)
 | [],f+1,k,v30,hd,hm,hf=>by
  have hk:¬((k:Int)<(bm2.length:Int)):=by have:=Qbp hd; omega
  rw [f7n2,f7n2L];simp only [decide_eq_false hk,cond_false]
 | x0::rest,f+1,k,v30,hd,hm,hf=>by
  obtain ⟨hx,hlt,hd'⟩:=Qba hd;have hk:(k:Int)<(bm2.length:Int):=by omega
  have hw:wr64 ((k:Int)+1)=(k:Int)+1:=wr64_of (by omega) (by unfold maxLen at hm; omega);have ih:∀(v30:List (Key_×Int)),f7n2 f bb1 bm2 ((k:Int)+1) v30=f7n2L bb1 bm2 rest ((k:Int)+1) v30:=fun v30=>f7n2L_eq bb1 bm2 rest f (k+1) v30 hd' hm (by simpa using hf);rw [f7n2,f7n2L];simp only [decide_eq_true hk,cond_true,at_nat,hx,Option.bind_some,hw,ih]
theorem f7n2_run(bb1:ByteArray)(bm2:List Qb)(v30:List (Key_×Int))(hm:bm2.length≤maxLen):f7n2 FUEL bb1 bm2 0 v30=f7n2L bb1 bm2 bm2 0 v30:=f7n2L_eq bb1 bm2 bm2 FUEL 0 v30 List.drop_zero hm (lt_FUEL hm)
inductive f7n1O where
 | norm (v41:List (Key_×Int))
def f7n1E(bb1:ByteArray)(bm2:List Qb):f7n1O→Ex×Tr×Hp
 | .norm v41=>(.norm,mkS [(0,(jS bb1)),(7,(.mp 0))],[some (.map (v41.map (mkv (pAgg Key_.cells) (pInt .i64))))])
def f7n1S(bb1:ByteArray)(bm2:List Qb):Tr×Hp:=(mkS [(0,(jS bb1)),(1,(jL 6 Qb.cells bm2)),(7,(.mp 0))],[some (.map ([].map (mkv (pAgg Key_.cells) (pInt .i64))))])
noncomputable def f7n1(bb1:ByteArray)(bm2:List Qb):Option f7n1O :=
 (f7n2 FUEL bb1 bm2 0 []).bind fun o38=>match o38 with
 | .exit0 v40=>some (.norm v40)
theorem f7n1_ok(bb1:ByteArray)(bm2:List Qb){o:f7n1O}(h:f7n1 bb1 bm2=some o):T Try.prog Try.f7.ntmps 0 (cL (Qi 4 c7)) (f7n1S bb1 bm2) (·=f7n1E bb1 bm2 o):=by
 unfold f7n1 at h;refine rN Qe 1 [([],[],[(1,.val (jI (bm2.length:Int)))])] [] [] [0] [0,7,27,28,29] (f7n2S bb1 bm2 0 []) (ap (Qu (xs:=bm2) (c:=Qb.cells)) an) ?_;obtain ⟨o38,h39,h⟩:=Qc h;cases o38 with
 | exit0 v40 =>
  obtain rfl:=Qd h;exact T.last' (T.bl (i:=0) (by kernel_rfl) (by kernel_rfl) (f7n2_ok FUEL bb1 bm2 0 [] h39)) (tds:=[]) (m:=[0]) (keep:=[0,7]) (st2:=(f7n1E bb1 bm2 (.norm v40)).2) (by kernel_rfl) an rfl
inductive f7n4O where
 | exit2 (v90:List Ql)
 | ret
def f7n4E(bb1:ByteArray)(bo2:List (Key_×Int)):f7n4O→Ex×Tr×Hp
 | .exit2 v90=>((.exit 2),mkS [(10,(.own 0))],[jR 7 Ql.cells v90])
 | .ret=>(.ret,mkS [(4,(.pl (.sl .nil 0 []))),(5,(jI 14))],[])
def f7n4S(bb1:ByteArray)(bo2:List (Key_×Int))(v74:List Ql)(sn0:List Nat):Tr×Hp:=(mkS [(0,(jS bb1)),(10,(.own 0)),(63,(.it 1))],[jR 7 Ql.cells v74,some (.iter 2 (bo2.map (mkv (pAgg Key_.cells) (pInt .i64))).length sn0),some (.map (bo2.map (mkv (pAgg Key_.cells) (pInt .i64))))])
noncomputable def f7n4(bb1:ByteArray)(bo2:List (Key_×Int)):List (Key_×Int)→(List Ql)→Option f7n4O
 | [],v74 =>
  some (.exit2 v74)
 | x76::rest,v74 =>
  bif (seq x76.1.set bb1) then
   (f7n4 bb1 bo2 rest v74)
  else
   bif (decide (1125899906842624<(mxI x76.2 (wr64 (0-x76.2))))) then
    some .ret
   else
    (f17 (Key_.mk x76.1.date Qau x76.1.ccy) bb1 x76.1.set x76.2).bind fun x86 =>
    bif x86.2 then
     req (fit (v74.length+1) 96) <|
     (f7n4 bb1 bo2 rest (v74++[(Ql.mk x76.1.set x86.1)]))
    else
     (f7n4 bb1 bo2 rest v74)
theorem f7n4_ok(bb1:ByteArray)(bo2:List (Key_×Int)):∀(f:Nat)(sn0 rem:List Nat)(v74:List Ql){Q:f7n4O→Prop},Rem bo2.length sn0 rem→rem.length<f→(∀p,p.Perm rem→∃o,f7n4 bb1 bo2 (ords bo2 p) v74=some o∧Q o)→TL Try.prog Try.f7.ntmps 0 f (cL (cL (Qi 1 (cL (Qi 1 (Qi 1 (Qi 4 c7))))))) (f7n4S bb1 bo2 v74 sn0) (fun r=>∃o,Q o∧r=f7n4E bb1 bo2 o)
 | 0,_,_,_,_,_,hf,_=>absurd hf (Nat.not_lt_zero _)
 | f+1,sn0,rem,v74,Q,hR,hf,H=>by
  refine TL.bodyQ (K:=fun s=>∃(sn0 rem:List Nat) (v74:List Ql),s=f7n4S bb1 bo2 v74 sn0∧Rem bo2.length sn0 rem∧rem.length<f∧(∀p,p.Perm rem→∃o,f7n4 bb1 bo2 (ords bo2 p) v74=some o∧Q o)) ?_ (by rintro _ ⟨sn0,rem,v74,rfl,h1,h2,h3⟩; exact f7n4_ok bb1 bo2 f sn0 rem v74 h1 h2 h3);refine T.oneNext Qe (x:=.tmp 63) (t:=64) (tb:=65) (i:=1) (o:=2) (m:=(bo2.map (mkv (pAgg Key_.cells) (pInt .i64))).length) (seen:=sn0) (kvs:=(bo2.map (mkv (pAgg Key_.cells) (pInt .i64)))) (by kernel_rfl) (by kernel_rfl) (by kernel_rfl) (by kernel_rfl) (by kernel_rfl) (by kernel_rfl) rfl (fun hs=>?_) (fun j75 k v hj hs hx=>?_)
  ·obtain rfl:=hR.none (by simpa using hs);obtain ⟨o,h0,hq⟩:=H [] (List.Perm.refl _);have h:f7n4 bb1 bo2 [] v74=some o:=h0;rw [f7n4] at h;obtain rfl:=Qd h;exact rK Qe 1 [] [none] [] [0] [10] (.exit 2) ((f7n4E bb1 bo2 (.exit2 v74)).2) an (LoopQ2.out ⟨_,hq,rfl⟩ rfl)
  ·obtain ⟨x76,h77,rfl,rfl⟩:=mkv_at hx;obtain ⟨hR2,hlen,hP⟩:=hR.step (j:=j75) (by simpa using hj) hs;have H2:∀p,p.Perm (rem.erase j75)→∃o,f7n4 bb1 bo2 (x76::ords bo2 p) v74=some o∧Q o:=fun p hp=>by obtain ⟨o,h,hq⟩:=H _ (hP p hp); rw [ords_cons h77] at h; exact ⟨o,h,hq⟩
   obtain ⟨o,h,hq⟩:=H2 _ (List.Perm.refl _);rw [f7n4] at h;rcases Qf h with ⟨h84,h⟩|⟨h84,h⟩
   ·exact rE Qe [([],[(0,.entr j75 ((pAgg Key_.cells) x76.1) ((pInt .i64) x76.2))],[]),j3] [none,some true] [] [0,1,2] [0,10,63] (.norm,(f7n4S bb1 bo2 v74 (sn0++[j75]))) (ap (last_app (seen:=sn0) (j:=j75)) (ap (rfl:(bo2.map (mkv (pAgg Key_.cells) (pInt .i64))).length=(bo2.map (mkv (pAgg Key_.cells) (pInt .i64))).length) (ap (at_mkv (kp:=(pAgg Key_.cells)) (vp:=(pInt .i64)) h77) (ap h84 an)))) (LoopQ2.norm ⟨sn0++[j75],rem.erase j75,v74,rfl,hR2,by omega,fun p hp=>by obtain ⟨o,h,hq⟩:=H2 p hp; refine ⟨o,?_,hq⟩; rw [f7n4] at h; simp only [h84,cond_true,cond_false,Option.bind_some,req] at h; exact h⟩)
   ·rcases Qf h with ⟨h85,h⟩|⟨h85,h⟩
    ·obtain rfl:=Qd h;exact rE Qe [([],[(0,.entr j75 ((pAgg Key_.cells) x76.1) ((pInt .i64) x76.2))],[]),j3,j3,j3] [none,some false,some true] [] [] [4,5] (.ret,(f7n4E bb1 bo2 .ret).2) (ap (last_app (seen:=sn0) (j:=j75)) (ap (rfl:(bo2.map (mkv (pAgg Key_.cells) (pInt .i64))).length=(bo2.map (mkv (pAgg Key_.cells) (pInt .i64))).length) (ap (at_mkv (kp:=(pAgg Key_.cells)) (vp:=(pInt .i64)) h77) (ap h84 (ap h85 an))))) (LoopQ2.out ⟨_,hq,rfl⟩ rfl)
    ·obtain ⟨x86,h87,h⟩:=Qc h;rcases Qf h with ⟨h88,h⟩|⟨h88,h⟩
     ·obtain ⟨h89,h⟩:=Qm h
      exact rE Qe [([],[(0,.entr j75 ((pAgg Key_.cells) x76.1) ((pInt .i64) x76.2))],[]),j3,j3,([],[jH 9 (.tup [(jA Qb.cells x86.1),(jB x86.2)])],[]),j3,([],[(6,.fits)],[(6,.row 6 ((v74++[(Ql.mk x76.1.set x86.1)]).map Ql.cells))])] [none,some false,some false,some true] [] [6,1,2] [0,10,63] (.norm,(f7n4S bb1 bo2 (v74++[(Ql.mk x76.1.set x86.1)]) (sn0++[j75]))) (ap (last_app (seen:=sn0) (j:=j75)) (ap (rfl:(bo2.map (mkv (pAgg Key_.cells) (pInt .i64))).length=(bo2.map (mkv (pAgg Key_.cells) (pInt .i64))).length) (ap (at_mkv (kp:=(pAgg Key_.cells)) (vp:=(pInt .i64)) h77) (ap h84 (ap h85 (ap (f17_ok (Key_.mk x76.1.date Qau x76.1.ccy) bb1 x76.1.set x76.2 h87) (ap h88 (ap (fit_map (te:=ti53) (xs:=v74) (n:=1) (c:=Ql.cells) h89 rfl) (ap (app_cv (xs:=v74) (ys:=[(Ql.mk x76.1.set x86.1)]) (c:=Ql.cells)) an))))))))) (LoopQ2.norm ⟨sn0++[j75],rem.erase j75,(v74++[(Ql.mk x76.1.set x86.1)]),rfl,hR2,by omega,fun p hp=>by obtain ⟨o,h,hq⟩:=H2 p hp; refine ⟨o,?_,hq⟩; rw [f7n4] at h; simp only [h84,h85,h87,h88,h89,cond_true,cond_false,Option.bind_some,req] at h; exact h⟩)
     ·exact rE Qe [([],[(0,.entr j75 ((pAgg Key_.cells) x76.1) ((pInt .i64) x76.2))],[]),j3,j3,([],[jH 9 (.tup [(jA Qb.cells x86.1),(jB x86.2)])],[]),j3] [none,some false,some false,some false] [] [0,1,2] [0,10,63] (.norm,(f7n4S bb1 bo2 v74 (sn0++[j75]))) (ap (last_app (seen:=sn0) (j:=j75)) (ap (rfl:(bo2.map (mkv (pAgg Key_.cells) (pInt .i64))).length=(bo2.map (mkv (pAgg Key_.cells) (pInt .i64))).length) (ap (at_mkv (kp:=(pAgg Key_.cells)) (vp:=(pInt .i64)) h77) (ap h84 (ap h85 (ap (f17_ok (Key_.mk x76.1.date Qau x76.1.ccy) bb1 x76.1.set x76.2 h87) (ap h88 an))))))) (LoopQ2.norm ⟨sn0++[j75],rem.erase j75,v74,rfl,hR2,by omega,fun p hp=>by obtain ⟨o,h,hq⟩:=H2 p hp; refine ⟨o,?_,hq⟩; rw [f7n4] at h; simp only [h84,h85,h87,h88,cond_true,cond_false,Option.bind_some,req] at h; exact h⟩)
inductive f7n3O where
 | norm (v94:List Ql)
 | ret
def f7n3E(bb1:ByteArray)(bo2:List (Key_×Int)):f7n3O→Ex×Tr×Hp
 | .norm v94=>(.norm,mkS [(10,(.own 0))],[jR 7 Ql.cells v94])
 | .ret=>(.ret,mkS [(4,(.pl (.sl .nil 0 []))),(5,(jI 14))],[])
def f7n3S(bb1:ByteArray)(bo2:List (Key_×Int)):Tr×Hp:=(mkS [(0,(jS bb1)),(7,(.mp 0)),(10,(.pl (.sl .nil 0 [])))],[some (.map (bo2.map (mkv (pAgg Key_.cells) (pInt .i64))))])
noncomputable def f7n3(bb1:ByteArray)(bo2 p:List (Key_×Int)):Option f7n3O :=
 (f7n4 bb1 bo2 p []).bind fun o91=>match o91 with
 | .exit2 v93=>some (.norm v93)
 | .ret=>some .ret
theorem f7n3_ok(bb1:ByteArray)(bo2:List (Key_×Int)){Q:f7n3O→Prop}(H:∀p,p.Perm bo2→∃o,f7n3 bb1 bo2 p=some o∧Q o):T Try.prog Try.f7.ntmps 0 (cL (Qi 1 (Qi 1 (Qi 4 c7)))) (f7n3S bb1 bo2) (fun r=>∃o,Q o∧r=f7n3E bb1 bo2 o):=by
 refine rN Qe 1 [j3] [] [.mat 10 7] [2,1,0] [0,10,63] (f7n4S bb1 bo2 [] []) an ?_;refine T.lastQ (T.blQ (i:=2) (by kernel_rfl) (by kernel_rfl) (f7n4_ok bb1 bo2 _ [] (List.range bo2.length) [] (Rem.start _) (Nat.lt_succ_self _) (Q:=fun y=>∃o,(match y with | .exit2 v93=>some (.norm v93) | .ret=>some .ret)=some o∧Q o) (fun p hp=>by obtain ⟨o,h,hq⟩:=H _ (ords_perm hp); unfold f7n3 at h; obtain ⟨y,hy,h⟩:=bind_ex h; exact ⟨y,hy,o,h,hq⟩))) ?_
 rintro y ⟨o,h,hq⟩
 cases y with
 | exit2 v93 =>
  obtain rfl:=Qd h;exact Tidy.of [] [0] [10] ((f7n3E bb1 bo2 (.norm v93)).2) (by kernel_rfl) an ⟨_,hq,rfl⟩
 | ret =>
  obtain rfl:=Qd h;exact Tidy.of [] [] [4,5] ((f7n3E bb1 bo2 .ret).2) (by kernel_rfl) an ⟨_,hq,rfl⟩
inductive f7n6O where
 | exit4 (v130:List Qb)
def f7n6E(bp1:List Ql):f7n6O→Ex×Tr×Hp
 | .exit4 v130=>((.exit 4),mkS [(15,(.own 0))],[jR 6 Qb.cells v130])
def f7n6S(bp1:List Ql)(v120:Int)(v121:List Qb):Tr×Hp:=(mkS [(15,(.own 0)),(104,(.own 1)),(105,(jI (bp1.length:Int))),(106,(jI v120))],[jR 6 Qb.cells v121,jR 7 Ql.cells bp1])
noncomputable def f7n6:Nat→List Ql→Int→List Qb→Option f7n6O
 | 0,_,_,_=>none
 | f+1,bp1,v120,v121 =>
  bif decide (v120<(bp1.length:Int)) then
   (at? bp1 v120).bind fun x127 =>
   req (fit (v121.length+1) 80) <|
   (f7n6 f bp1 (wr64 (v120+1)) (v121++[x127.flow]))
  else
   some (.exit4 v121)
theorem f7n6_ok:∀(f:Nat)(bp1:List Ql)(v120:Int)(v121:List Qb){o:f7n6O},f7n6 f bp1 v120 v121=some o→TL Try.prog Try.f7.ntmps 0 f (cL (cL (Qi 1 (cL (Qi 3 (Qi 1 (Qi 1 (Qi 1 (Qi 4 c7))))))))) (f7n6S bp1 v120 v121) (·=f7n6E bp1 o)
 | 0,_,_,_,o,h=>by rw [f7n6] at h; cases h
 | f+1,bp1,v120,v121,o,h=>by
  rw [f7n6] at h;refine TL.body (K:=fun s=>∃v120:Int,∃v121:List Qb,s=(f7n6S bp1 v120 v121)∧f7n6 f bp1 v120 v121=some o) ?_ (by rintro _ ⟨v120,v121,rfl,hk⟩; exact f7n6_ok f _ _ _ hk);rcases Qf h with ⟨h123,h⟩|⟨h123,h⟩
  ·obtain ⟨x127,h128,h⟩:=Qc h;obtain ⟨h129,h⟩:=Qm h;exact rE Qe [j3,([],[(0,.at_ (Int.toNat v120)),(1,.idx 0 (Ql.cells x127))],[]),([],[(4,.fits)],[(4,.row 4 ((v121++[x127.flow]).map Qb.cells))]),j3] [some true] [] [4,1] [15,104,105,106] (.norm,(f7n6S bp1 (wr64 (v120+1)) (v121++[x127.flow]))) (ap h123 (ap (Qg h128).1 (ap (lt_map Ql.cells (Qg h128).2) (ap (Qo Ql.cells (Qg h128).2) (ap (fit_map (te:=ti46) (xs:=v121) (n:=1) (c:=Qb.cells) h129 rfl) (ap (app_cv (xs:=v121) (ys:=[x127.flow]) (c:=Qb.cells)) an)))))) (Qv.norm ⟨(wr64 (v120+1)),(v121++[x127.flow]),rfl,h⟩)
  ·obtain rfl:=Qd h;exact rK Qe 2 [j3] [some false] [] [0] [15] (.exit 4) ((f7n6E bp1 (.exit4 v121)).2) (ap h123 an) (Qv.out rfl rfl)
noncomputable def f7n6L(bp1:List Ql):List Ql→Int→(List Qb)→Option f7n6O
 | [],v120,v121 =>
  some (.exit4 v121)
 | x0::rest,v120,v121 =>
  req (fit (v121.length+1) 80) <|
  (f7n6L bp1 rest (v120+1) (v121++[x0.flow]))
theorem f7n6L_eq(bp1:List Ql):∀(rest:List Ql)(f k:Nat)(v121:List Qb),bp1.drop k=rest→bp1.length≤maxLen→rest.length<f→f7n6 f bp1 (k:Int) v121=f7n6L bp1 rest (k:Int) v121
 | _,0,_,_,_,_,hf=>absurd hf (Nat.not_lt_zero _)
 | [],f+1,k,v121,hd,hm,hf=>by
  have hk:¬((k:Int)<(bp1.length:Int)):=by have:=Qbp hd; omega
  rw [f7n6,f7n6L];simp only [decide_eq_false hk,cond_false]
 | x0::rest,f+1,k,v121,hd,hm,hf=>by
  obtain ⟨hx,hlt,hd'⟩:=Qba hd;have hk:(k:Int)<(bp1.length:Int):=by omega
  have hw:wr64 ((k:Int)+1)=(k:Int)+1:=wr64_of (by omega) (by unfold maxLen at hm; omega);have ih:∀(v121:List Qb),f7n6 f bp1 ((k:Int)+1) v121=f7n6L bp1 rest ((k:Int)+1) v121:=fun v121=>f7n6L_eq bp1 rest f (k+1) v121 hd' hm (by simpa using hf);rw [f7n6,f7n6L];simp only [decide_eq_true hk,cond_true,at_nat,hx,Option.bind_some,hw,ih]
theorem f7n6_run(bp1:List Ql)(v121:List Qb)(hm:bp1.length≤maxLen):f7n6 FUEL bp1 0 v121=f7n6L bp1 bp1 0 v121:=f7n6L_eq bp1 bp1 FUEL 0 v121 List.drop_zero hm (lt_FUEL hm)
inductive f7n5O where
 | norm (v134:List Qb)
def f7n5E(bp1:List Ql):f7n5O→Ex×Tr×Hp
 | .norm v134=>(.norm,mkS [(15,(.own 0))],[jR 6 Qb.cells v134])
def f7n5S(bp1:List Ql):Tr×Hp:=(mkS [(10,(.own 0)),(15,(.pl (.sl .nil 0 [])))],[jR 7 Ql.cells bp1])
noncomputable def f7n5(bp1:List Ql):Option f7n5O :=
 (f7n6 FUEL bp1 0 []).bind fun o131=>match o131 with
 | .exit4 v133=>some (.norm v133)
theorem f7n5_ok(bp1:List Ql){o:f7n5O}(h:f7n5 bp1=some o):T Try.prog Try.f7.ntmps 0 (cL (Qi 3 (Qi 1 (Qi 1 (Qi 1 (Qi 4 c7)))))) (f7n5S bp1) (·=f7n5E bp1 o):=by
 unfold f7n5 at h;refine rN Qe 1 [([],[],[(1,.val (jI (bp1.length:Int)))])] [] [.mat 15 6] [1,0] [15,104,105,106] (f7n6S bp1 0 []) (ap (Qu (xs:=bp1) (c:=Ql.cells)) an) ?_;obtain ⟨o131,h132,h⟩:=Qc h;cases o131 with
 | exit4 v133 =>
  obtain rfl:=Qd h;exact T.last' (T.bl (i:=4) (by kernel_rfl) (by kernel_rfl) (f7n6_ok FUEL bp1 0 [] h132)) (tds:=[]) (m:=[0]) (keep:=[15]) (st2:=(f7n5E bp1 (.norm v133)).2) (by kernel_rfl) an rfl
inductive f7n0O where
 | ret (v138:Int) (v139:List Qb)
def f7n0E(a1:ByteArray)(a2:List Qb):f7n0O→Ex×Tr×Hp
 | .ret v138 v139=>(.ret,mkS [(4,(.own 0)),(5,(jI v138))],[jR 6 Qb.cells v139])
def f7n0S(a1:ByteArray)(a2:List Qb):Tr×Hp:=(Qad [(jS a1),(jL 6 Qb.cells a2)] 0 .leaf,[])
noncomputable def f7n0(a1:ByteArray)(a2:List Qb):Option f7n0O :=
 (f15 a2).bind fun x6 =>
 bif decide (x6=0) then
  (f16 a1).bind fun x12 =>
  bif x12 then
   (f7n1 a1 a2).bind fun o42=>match o42 with
   | .norm v44=>(anyOrder v44 fun p=>(f7n3 a1 v44 p).bind fun o95=>match o95 with
    | .norm v97=>bif decide (500<(v97.length:Int)) then
      some (.ret 4 [])
     else
      (so18_19 v97).bind fun x102 =>
      (f7n5 x102).bind fun o135=>match o135 with
      | .norm v137=>some (.ret 0 v137)
    | .ret=>some (.ret 14 []))
  else
   some (.ret 2 [])
 else
  some (.ret x6 [])
theorem f7n0_ok(a1:ByteArray)(a2:List Qb){o:f7n0O}(h:f7n0 a1 a2=some o):T Try.prog Try.f7.ntmps 0 c7 (f7n0S a1 a2) (·=f7n0E a1 a2 o):=by
 unfold f7n0 at h;obtain ⟨x6,h7,h⟩:=Qc h;rcases Qf h with ⟨h8,h⟩|⟨h8,h⟩
 ·obtain ⟨x12,h13,h⟩:=Qc h;rcases Qf h with ⟨h14,h⟩|⟨h14,h⟩
  ·refine rN Qe 4 [j3,([],[jH 1 (jI x6)],[]),j3,([],[jH 1 (jB x12)],[]),j3] [some false,some false] [] [0] [0,1,7] (f7n1S a1 a2) (ap (f15_ok a2 h7) (ap (Qab h8) (ap (Qy a1 h13) (ap (Qab h14) an)))) ?_;obtain ⟨o42,h43,h⟩:=Qc h;cases o42 with
   | norm v44 =>
    refine T.oneN (by kernel_rfl) (f7n1_ok a1 a2 h43) (st2:=(f7n1E a1 a2 (.norm v44)).2) rfl ?_;refine rN Qe 1 [j3] [] [] [0] [0,7,10] (f7n3S a1 v44) an ?_;refine T.oneQ (by kernel_rfl) (f7n3_ok a1 v44 (fun p hp=>bind_ex (anyOrder_at h p hp))) ?_;intro o95 h;cases o95 with
    | norm v97 =>
     refine OneR.go ((f7n3E a1 v44 (.norm v97)).2) rfl ?_;rcases Qf h with ⟨h99,h⟩|⟨h99,h⟩
     ·obtain rfl:=Qd h;exact rK Qe 1 [([],[],[(1,.val (jI (v97.length:Int)))]),j3] [some true] [.mat 4 6] [1] [4,5] .ret ((f7n0E a1 a2 (.ret 4 [])).2) (ap (Qu (xs:=v97) (c:=Ql.cells)) (ap h99 an)) rfl
     ·obtain ⟨x102,h103,h⟩:=Qc h;refine rN Qe 3 [([],[],[(1,.val (jI (v97.length:Int)))]),([],[(1,.call (.tup []) [jR 7 Ql.cells x102])],[]),j3] [some false] [] [0] [10,15] (f7n5S x102) (ap (Qu (xs:=v97) (c:=Ql.cells)) (ap h99 (ap (so18_19_ok v97 h103) an))) ?_;obtain ⟨o135,h136,h⟩:=Qc h;cases o135 with
      | norm v137 =>
       refine T.oneN (by kernel_rfl) (f7n5_ok x102 h136) (st2:=(f7n5E x102 (.norm v137)).2) rfl ?_;obtain rfl:=Qd h;exact rE Qe [j3] [] [] [0] [4,5] (.ret,(f7n0E a1 a2 (.ret 0 v137)).2) an rfl
    | ret =>
     obtain rfl:=Qd h;exact OneR.out [.mat 4 6] [0] [4,5] ((f7n0E a1 a2 (.ret 14 [])).2) (by kernel_rfl) an rfl rfl
  ·obtain rfl:=Qd h;exact rK Qe 3 [j3,([],[jH 1 (jI x6)],[]),j3,([],[jH 1 (jB x12)],[]),j3] [some false,some true] [.mat 4 6] [0] [4,5] .ret ((f7n0E a1 a2 (.ret 2 [])).2) (ap (f15_ok a2 h7) (ap (Qab h8) (ap (Qy a1 h13) (ap (Qbc h14) an)))) rfl
 ·obtain rfl:=Qd h;exact rK Qe 2 [j3,([],[jH 1 (jI x6)],[]),j3,j3] [some true] [.mat 4 6] [0] [4,5] .ret ((f7n0E a1 a2 (.ret x6 [])).2) (ap (f15_ok a2 h7) (ap (Qbc h8) an)) rfl
noncomputable def f7(a1:ByteArray)(a2:List Qb):Option ((List Qb)×Int):=(f7n0 a1 a2).bind fun o=>match o with
 | .ret v138 v139=>some (v139,v138)
theorem f7_ok(a1:ByteArray)(a2:List Qb){r:(List Qb)×Int}(h:f7 a1 a2=some r):Qk Try.prog false 7 [(jS a1),(jL 6 Qb.cells a2)] [] (.tup [(jL 6 Qb.cells r.1),(jI r.2)]) []:=by
 unfold f7 at h;obtain ⟨o,ho,h⟩:=Qc h;cases o with
 | ret v138 v139 =>
  obtain rfl:=Qd h;exact Qk.plain Qe (f:=Try.f7) (c:=c7) (by kernel_rfl) (by kernel_rfl) (by kernel_rfl) (by kernel_rfl) ((f7n0_ok a1 a2 ho).mono fun r e=>by subst e; exact ⟨.inl rfl,(.tup [(.own 0),(jI v138)]),(.tup [(jL 6 Qb.cells v139),(jI v138)]),by kernel_rfl,by kernel_rfl,((Wk.refl _):Wk (.tup [(jL 6 Qb.cells v139),(jI v138)]) (.tup [(jL 6 Qb.cells v139),(jI v138)]))⟩)

noncomputable def c9:Code:=Try.f9.body.getD .skip
inductive f9n2O where
 | exit0
 | ret
def f9n2E(bm1 bm2:List Qb):f9n2O→Ex×Tr×Hp
 | .exit0=>((.exit 0),mkS [],[])
 | .ret=>(.ret,mkS [(4,(jB false))],[])
def f9n2S(bm1 bm2:List Qb)(v30:Int):Tr×Hp:=(mkS [(0,(jL 6 Qb.cells bm1)),(1,(jL 6 Qb.cells bm2)),(5,(jI v30))],[])
noncomputable def f9n2:Nat→List Qb→List Qb→Int→Option f9n2O
 | 0,_,_,_=>none
 | f+1,bm1,bm2,v30 =>
  bif decide (v30<(bm1.length:Int)) then
   (at? bm1 v30).bind fun x38 =>
   (at? bm2 v30).bind fun x40 =>
   bif (Qb.eqb x38 x40) then
    (f9n2 f bm1 bm2 (wr64 (v30+1)))
   else
    some .ret
  else
   some .exit0
theorem f9n2_ok:∀(f:Nat)(bm1 bm2:List Qb)(v30:Int){o:f9n2O},f9n2 f bm1 bm2 v30=some o→TL Try.prog Try.f9.ntmps 0 f (cL (cL (Qi 1 (cL (Qi 2 c9))))) (f9n2S bm1 bm2 v30) (·=f9n2E bm1 bm2 o)
 | 0,_,_,_,o,h=>by rw [f9n2] at h; cases h
 | f+1,bm1,bm2,v30,o,h=>by
  rw [f9n2] at h;refine TL.body (K:=fun s=>∃v30:Int,s=(f9n2S bm1 bm2 v30)∧f9n2 f bm1 bm2 v30=some o) ?_ (by rintro _ ⟨v30,rfl,hk⟩; exact f9n2_ok f _ _ _ hk);rcases Qf h with ⟨h32,h⟩|⟨h32,h⟩
  ·obtain ⟨x38,h39,h⟩:=Qc h;obtain ⟨x40,h41,h⟩:=Qc h;rcases Qf h with ⟨h42,h⟩|⟨h42,h⟩
   ·exact rE Qe [([],[],[(2,.val (jI (bm1.length:Int)))]),([],[(2,.idx (Int.toNat v30) (Qb.cells x38)),(6,.idx (Int.toNat v30) (Qb.cells x40)),(8,.bool (Qb.eqb x38 x40))],[]),j3] [some true,some false] [] [] [0,1,5] (.norm,(f9n2S bm1 bm2 (wr64 (v30+1)))) (ap (Qu (xs:=bm1) (c:=Qb.cells)) (ap h32 (ap (Qg h39).1 (ap (Qo Qb.cells (Qg h39).2) (ap (Qg h41).1 (ap (Qo Qb.cells (Qg h41).2) (ap (Qb.eqb_ok x38 x40) (ap (Qab h42) an)))))))) (Qv.norm ⟨(wr64 (v30+1)),rfl,h⟩)
   ·obtain rfl:=Qd h;exact rK Qe 2 [([],[],[(2,.val (jI (bm1.length:Int)))]),([],[(2,.idx (Int.toNat v30) (Qb.cells x38)),(6,.idx (Int.toNat v30) (Qb.cells x40)),(8,.bool (Qb.eqb x38 x40))],[]),j3] [some true,some true] [] [] [4] .ret ((f9n2E bm1 bm2 .ret).2) (ap (Qu (xs:=bm1) (c:=Qb.cells)) (ap h32 (ap (Qg h39).1 (ap (Qo Qb.cells (Qg h39).2) (ap (Qg h41).1 (ap (Qo Qb.cells (Qg h41).2) (ap (Qb.eqb_ok x38 x40) (ap (Qbc h42) an)))))))) (Qv.out rfl rfl)
  ·obtain rfl:=Qd h;exact rK Qe 1 [([],[],[(2,.val (jI (bm1.length:Int)))])] [some false] [] [] [] (.exit 0) ((f9n2E bm1 bm2 .exit0).2) (ap (Qu (xs:=bm1) (c:=Qb.cells)) (ap h32 an)) (Qv.out rfl rfl)
noncomputable def f9n2L(bm1 bm2:List Qb):List Qb→Int→Option f9n2O
 | [],v30 =>
  some .exit0
 | x0::rest,v30 =>
  (at? bm2 v30).bind fun x40 =>
  bif (Qb.eqb x0 x40) then
   (f9n2L bm1 bm2 rest (v30+1))
  else
   some .ret
theorem f9n2L_eq(bm1 bm2:List Qb):∀(rest:List Qb)(f k:Nat),bm1.drop k=rest→bm1.length≤maxLen→rest.length<f→f9n2 f bm1 bm2 (k:Int)=f9n2L bm1 bm2 rest (k:Int)
 | _,0,_,_,_,hf=>absurd hf (Nat.not_lt_zero _)
 | [],f+1,k,hd,hm,hf=>by
  have hk:¬((k:Int)<(bm1.length:Int)):=by have:=Qbp hd; omega
  rw [f9n2,f9n2L];simp only [decide_eq_false hk,cond_false]
 | x0::rest,f+1,k,hd,hm,hf=>by
  obtain ⟨hx,hlt,hd'⟩:=Qba hd;have hk:(k:Int)<(bm1.length:Int):=by omega
  have hw:wr64 ((k:Int)+1)=(k:Int)+1:=wr64_of (by omega) (by unfold maxLen at hm; omega);have ih:f9n2 f bm1 bm2 ((k:Int)+1)=f9n2L bm1 bm2 rest ((k:Int)+1):=f9n2L_eq bm1 bm2 rest f (k+1) hd' hm (by simpa using hf);rw [f9n2,f9n2L];simp only [decide_eq_true hk,cond_true,at_nat,hx,Option.bind_some,hw,ih]
theorem f9n2_run(bm1 bm2:List Qb)(hm:bm1.length≤maxLen):f9n2 FUEL bm1 bm2 0=f9n2L bm1 bm2 bm1 0:=f9n2L_eq bm1 bm2 bm1 FUEL 0 List.drop_zero hm (lt_FUEL hm)
inductive f9n1O where
 | norm
 | ret
def f9n1E(bm1 bm2:List Qb):f9n1O→Ex×Tr×Hp
 | .norm=>(.norm,mkS [],[])
 | .ret=>(.ret,mkS [(4,(jB false))],[])
def f9n1S(bm1 bm2:List Qb):Tr×Hp:=(mkS [(0,(jL 6 Qb.cells bm1)),(1,(jL 6 Qb.cells bm2))],[])
noncomputable def f9n1(bm1 bm2:List Qb):Option f9n1O :=
 (f9n2 FUEL bm1 bm2 0).bind fun o43=>match o43 with
 | .exit0=>some .norm
 | .ret=>some .ret
theorem f9n1_ok(bm1 bm2:List Qb){o:f9n1O}(h:f9n1 bm1 bm2=some o):T Try.prog Try.f9.ntmps 0 (cL (Qi 2 c9)) (f9n1S bm1 bm2) (·=f9n1E bm1 bm2 o):=by
 unfold f9n1 at h;refine rN Qe 1 [j3] [] [] [] [0,1,5] (f9n2S bm1 bm2 0) an ?_;obtain ⟨o43,h44,h⟩:=Qc h;cases o43 with
 | exit0 =>
  obtain rfl:=Qd h;exact T.last' (T.bl (i:=0) (by kernel_rfl) (by kernel_rfl) (f9n2_ok FUEL bm1 bm2 0 h44)) (tds:=[]) (m:=[]) (keep:=[]) (st2:=(f9n1E bm1 bm2 .norm).2) (by kernel_rfl) an rfl
 | ret =>
  obtain rfl:=Qd h;exact T.last' (T.bl (i:=0) (by kernel_rfl) (by kernel_rfl) (f9n2_ok FUEL bm1 bm2 0 h44)) (tds:=[]) (m:=[]) (keep:=[4]) (st2:=(f9n1E bm1 bm2 .ret).2) (by kernel_rfl) an rfl
inductive f9n0O where
 | ret (v47:Bool)
def f9n0E(a1 a2:List Qb):f9n0O→Ex×Tr×Hp
 | .ret v47=>(.ret,mkS [(4,(jB v47))],[])
def f9n0S(a1 a2:List Qb):Tr×Hp:=(Qad [(jL 6 Qb.cells a1),(jL 6 Qb.cells a2)] 0 .leaf,[])
noncomputable def f9n0(a1 a2:List Qb):Option f9n0O :=
 bif decide ((a1.length:Int)=(a2.length:Int)) then
  (f9n1 a1 a2).bind fun o45=>match o45 with
  | .norm=>some (.ret true)
  | .ret=>some (.ret false)
 else
  some (.ret false)
theorem f9n0_ok(a1 a2:List Qb){o:f9n0O}(h:f9n0 a1 a2=some o):T Try.prog Try.f9.ntmps 0 c9 (f9n0S a1 a2) (·=f9n0E a1 a2 o):=by
 unfold f9n0 at h;rcases Qf h with ⟨h4,h⟩|⟨h4,h⟩
 ·refine rN Qe 2 [j3,([],[],[(1,.val (jI (a1.length:Int))),(3,.val (jI (a2.length:Int)))])] [some false] [] [] [0,1] (f9n1S a1 a2) (ap (Qu (xs:=a1) (c:=Qb.cells)) (ap (Qu (xs:=a2) (c:=Qb.cells)) (ap (Qab h4) an))) ?_;obtain ⟨o45,h46,h⟩:=Qc h;cases o45 with
  | norm =>
   refine T.oneN (by kernel_rfl) (f9n1_ok a1 a2 h46) (st2:=(f9n1E a1 a2 .norm).2) rfl ?_;obtain rfl:=Qd h;exact rE Qe [j3] [] [] [] [4] (.ret,(f9n0E a1 a2 (.ret true)).2) an rfl
  | ret =>
   obtain rfl:=Qd h;exact T.oneX' (by kernel_rfl) (f9n1_ok a1 a2 h46) (tds:=[]) (m:=[]) (keep:=[4]) (st2:=(f9n0E a1 a2 (.ret false)).2) (by kernel_rfl) an rfl rfl
 ·obtain rfl:=Qd h;exact rK Qe 2 [j3,([],[],[(1,.val (jI (a1.length:Int))),(3,.val (jI (a2.length:Int)))]),j3] [some true] [] [] [4] .ret ((f9n0E a1 a2 (.ret false)).2) (ap (Qu (xs:=a1) (c:=Qb.cells)) (ap (Qu (xs:=a2) (c:=Qb.cells)) (ap (Qbc h4) an))) rfl
noncomputable def f9(a1 a2:List Qb):Option Bool:=(f9n0 a1 a2).bind fun o=>match o with
 | .ret v47=>some v47
theorem f9_ok(a1 a2:List Qb){r:Bool}(h:f9 a1 a2=some r):Qk Try.prog false 9 [(jL 6 Qb.cells a1),(jL 6 Qb.cells a2)] [] (jB r) []:=by
 unfold f9 at h;obtain ⟨o,ho,h⟩:=Qc h;cases o with
 | ret v47 =>
  obtain rfl:=Qd h;exact Qk.plain Qe (f:=Try.f9) (c:=c9) (by kernel_rfl) (by kernel_rfl) (by kernel_rfl) (by kernel_rfl) ((f9n0_ok a1 a2 ho).mono fun r e=>by subst e; exact ⟨.inl rfl,(jB v47),(jB v47),by kernel_rfl,by kernel_rfl,((Wk.refl _):Wk (jB v47) (jB v47))⟩)

noncomputable def c4:Code:=Try.f4.body.getD .skip
inductive f4n0O where
 | ret (v49:Bool)
def f4n0E:f4n0O→Ex×Tr×Hp
 | .ret v49=>(.ret,mkS [(0,(jB v49))],[])
def f4n0S:Tr×Hp:=(Qad [] 0 .leaf,[])
noncomputable def f4n0:Option f4n0O :=
 (f6r1 [(Qa.mk str_A str_B Qag 5),(Qa.mk str_B str_C Qag 3),(Qa.mk str_C str_A Qag 4)]).bind fun x3 =>
 (f8 [(Qa.mk str_A str_B Qag 5),(Qa.mk str_B str_C Qag 3),(Qa.mk str_C str_A Qag 4)] 1).bind fun x9 =>
 (f7 Qt x9).bind fun x11 =>
 req (decide (x3.1+x3.2.1≤x3.2.2.2.length)) <|
 (f8 ((x3.2.2.2.drop x3.1).take x3.2.1) 1).bind fun x31 =>
 (f7 Qt x31).bind fun x33 =>
 bif decide (x3.2.2.1=0) then
  bif (decide (((x3.2.1:Nat):Int)=2)) then
   bif decide (x11.2=0) then
    bif decide (x33.2=0) then
     bif decide ((x11.1.length:Int)=3) then
      (f9 x11.1 x33.1).bind fun x47 =>
      some (.ret x47)
     else
      some (.ret false)
    else
     some (.ret false)
   else
    some (.ret false)
  else
   some (.ret false)
 else
  some (.ret false)
theorem f4n0_ok{o:f4n0O}(h:f4n0=some o):T Try.prog Try.f4.ntmps 0 c4 f4n0S (·=f4n0E o):=by
 unfold f4n0 at h;obtain ⟨x3,h4,h⟩:=Qc h;obtain ⟨x9,h10,h⟩:=Qc h;obtain ⟨x11,h12,h⟩:=Qc h
 refine rN Qe 4 [j3,j3,([],[(1,.call (.tup [(.vw 1 x3.1 x3.2.1),(jI x3.2.2.1)]) [some (.row false 4 ([(Qa.mk str_A str_B Qag 5),(Qa.mk str_B str_C Qag 3),(Qa.mk str_C str_A Qag 4)].map Qa.cells)),jR 4 Qa.cells x3.2.2.2])],[]),([],[jH 1 (jL 6 Qb.cells x9),jH 2 (.tup [(jL 6 Qb.cells x11.1),(jI x11.2)])],[])] [] [] [1] [2,3,4,5] (mkS [(2,(.vw 0 x3.1 x3.2.1)),(3,(jI x3.2.2.1)),(4,(jL 6 Qb.cells x11.1)),(5,(jI x11.2))],[jR 4 Qa.cells x3.2.2.2]) (ap (f6r1_ok [(Qa.mk str_A str_B Qag 5),(Qa.mk str_B str_C Qag 3),(Qa.mk str_C str_A Qag 4)] h4) (ap (f8_ok [(Qa.mk str_A str_B Qag 5),(Qa.mk str_B str_C Qag 3),(Qa.mk str_C str_A Qag 4)] 1 h10) (ap (f7_ok Qt x9 h12) an))) ?_
 obtain ⟨h30,h⟩:=Qm h;obtain ⟨x31,h32,h⟩:=Qc h;obtain ⟨x33,h34,h⟩:=Qc h;rcases Qf h with ⟨h42,h⟩|⟨h42,h⟩
 ·rcases Qf h with ⟨h43,h⟩|⟨h43,h⟩
  ·rcases Qf h with ⟨h44,h⟩|⟨h44,h⟩
   ·rcases Qf h with ⟨h45,h⟩|⟨h45,h⟩
    ·rcases Qf h with ⟨h46,h⟩|⟨h46,h⟩
     ·obtain ⟨x47,h48,h⟩:=Qc h;obtain rfl:=Qd h
      exact rE Qe [([],[jH 1 (jL 6 Qb.cells x31),jH 2 (.tup [(jL 6 Qb.cells x33.1),(jI x33.2)])],[]),(jT [3,4,5,8,9,12,13,16,17,18,21,22,23],[(6,.bool true),(10,.bool true),(14,.bool true),(19,.bool true),jH 23 (jB x47),(24,.bool true)],[(17,.val (jI (x11.1.length:Int)))])] [] [] [] [0] (.ret,(f4n0E (.ret x47)).2) (ap (Qae (c:=Qa.cells) h30) (ap (show Qk Try.prog false 8 [(.pl (.sl .any 4 (((x3.2.2.2.map Qa.cells).drop x3.1).take x3.2.1))),(.pl (.int .u8 1))] [] (jL 6 Qb.cells x31) [] from (by have h:=(f8_ok ((x3.2.2.2.drop x3.1).take x3.2.1) 1 h32); simpa only [jL,List.map_take,List.map_drop] using h)) (ap (f7_ok Qt x31 h34) (ap4 h42 (ap3 h43 (ap3 h44 (ap2 h45 (ap (Qu (xs:=x11.1) (c:=Qb.cells)) (ap2 h45 (ap4 h46 (ap (f9_ok x11.1 x33.1 h48) an))))))))))) rfl
     ·obtain rfl:=Qd h;exact rE Qe [([],[jH 1 (jL 6 Qb.cells x31),jH 2 (.tup [(jL 6 Qb.cells x33.1),(jI x33.2)])],[]),(jF [21,22,23]++jT [3,4,5,8,9,12,13,16,17,18],[(6,.bool true),(10,.bool true),(14,.bool true),(19,.bool true),(24,.bool false)],[(17,.val (jI (x11.1.length:Int)))])] [] [] [] [0] (.ret,(f4n0E (.ret false)).2) (ap (Qae (c:=Qa.cells) h30) (ap (show Qk Try.prog false 8 [(.pl (.sl .any 4 (((x3.2.2.2.map Qa.cells).drop x3.1).take x3.2.1))),(.pl (.int .u8 1))] [] (jL 6 Qb.cells x31) [] from (by have h:=(f8_ok ((x3.2.2.2.drop x3.1).take x3.2.1) 1 h32); simpa only [jL,List.map_take,List.map_drop] using h)) (ap (f7_ok Qt x31 h34) (ap4 h42 (ap3 h43 (ap3 h44 (ap2 h45 (ap (Qu (xs:=x11.1) (c:=Qb.cells)) (ap2 h45 (ap4 h46 an)))))))))) rfl
    ·obtain rfl:=Qd h;exact rE Qe [([],[jH 1 (jL 6 Qb.cells x31),jH 2 (.tup [(jL 6 Qb.cells x33.1),(jI x33.2)])],[]),(jF [16,17,18]++jT [3,4,5,8,9,12,13],[(6,.bool true),(10,.bool true),(14,.bool true),(19,.bool false)],[])] [] [] [] [0] (.ret,(f4n0E (.ret false)).2) (ap (Qae (c:=Qa.cells) h30) (ap (show Qk Try.prog false 8 [(.pl (.sl .any 4 (((x3.2.2.2.map Qa.cells).drop x3.1).take x3.2.1))),(.pl (.int .u8 1))] [] (jL 6 Qb.cells x31) [] from (by have h:=(f8_ok ((x3.2.2.2.drop x3.1).take x3.2.1) 1 h32); simpa only [jL,List.map_take,List.map_drop] using h)) (ap (f7_ok Qt x31 h34) (ap4 h42 (ap3 h43 (ap3 h44 (ap4 h45 an))))))) rfl
   ·obtain rfl:=Qd h;exact rE Qe [([],[jH 1 (jL 6 Qb.cells x31),jH 2 (.tup [(jL 6 Qb.cells x33.1),(jI x33.2)])],[]),(jF [12,13]++jT [3,4,5,8,9],[(6,.bool true),(10,.bool true),(14,.bool false)],[])] [] [] [] [0] (.ret,(f4n0E (.ret false)).2) (ap (Qae (c:=Qa.cells) h30) (ap (show Qk Try.prog false 8 [(.pl (.sl .any 4 (((x3.2.2.2.map Qa.cells).drop x3.1).take x3.2.1))),(.pl (.int .u8 1))] [] (jL 6 Qb.cells x31) [] from (by have h:=(f8_ok ((x3.2.2.2.drop x3.1).take x3.2.1) 1 h32); simpa only [jL,List.map_take,List.map_drop] using h)) (ap (f7_ok Qt x31 h34) (ap4 h42 (ap3 h43 (ap3 h44 an)))))) rfl
  ·obtain rfl:=Qd h;exact rE Qe [([],[jH 1 (jL 6 Qb.cells x31),jH 2 (.tup [(jL 6 Qb.cells x33.1),(jI x33.2)])],[]),(jF [8,9]++jT [3,4,5],[(6,.bool true),(10,.bool false)],[])] [] [] [] [0] (.ret,(f4n0E (.ret false)).2) (ap (Qae (c:=Qa.cells) h30) (ap (show Qk Try.prog false 8 [(.pl (.sl .any 4 (((x3.2.2.2.map Qa.cells).drop x3.1).take x3.2.1))),(.pl (.int .u8 1))] [] (jL 6 Qb.cells x31) [] from (by have h:=(f8_ok ((x3.2.2.2.drop x3.1).take x3.2.1) 1 h32); simpa only [jL,List.map_take,List.map_drop] using h)) (ap (f7_ok Qt x31 h34) (ap4 h42 (ap3 h43 an))))) rfl
 ·obtain rfl:=Qd h;exact rE Qe [([],[jH 1 (jL 6 Qb.cells x31),jH 2 (.tup [(jL 6 Qb.cells x33.1),(jI x33.2)])],[]),(jF [3,4,5],[(6,.bool false)],[])] [] [] [] [0] (.ret,(f4n0E (.ret false)).2) (ap (Qae (c:=Qa.cells) h30) (ap (show Qk Try.prog false 8 [(.pl (.sl .any 4 (((x3.2.2.2.map Qa.cells).drop x3.1).take x3.2.1))),(.pl (.int .u8 1))] [] (jL 6 Qb.cells x31) [] from (by have h:=(f8_ok ((x3.2.2.2.drop x3.1).take x3.2.1) 1 h32); simpa only [jL,List.map_take,List.map_drop] using h)) (ap (f7_ok Qt x31 h34) (ap4 h42 an)))) rfl
noncomputable def f4:Option Bool:=f4n0.bind fun o=>match o with
 | .ret v49=>some v49
theorem f4_ok{r:Bool}(h:f4=some r):Qk Try.prog false 4 [] [] (jB r) []:=by
 unfold f4 at h;obtain ⟨o,ho,h⟩:=Qc h;cases o with
 | ret v49 =>
  obtain rfl:=Qd h;exact Qk.plain Qe (f:=Try.f4) (c:=c4) (by kernel_rfl) (by kernel_rfl) (by kernel_rfl) (by kernel_rfl) ((f4n0_ok  ho).mono fun r e=>by subst e; exact ⟨.inl rfl,(jB v49),(jB v49),by kernel_rfl,by kernel_rfl,((Wk.refl _):Wk (jB v49) (jB v49))⟩)

noncomputable def c5:Code:=Try.f5.body.getD .skip
inductive f5n2O where
 | norm (v12:Bool)
def f5n2E(ba1:List Qa):f5n2O→Ex×Tr×Hp
 | .norm v12=>(.norm,mkS [(0,(jL 4 Qa.cells ba1)),(16,(jB v12))],[])
def f5n2S(ba1:List Qa):Tr×Hp:=(mkS [(0,(jL 4 Qa.cells ba1))],[])
noncomputable def f5n2(ba1:List Qa):Option f5n2O :=
 bif decide (30<(ba1.length:Int)) then
  bif decide ((ba1.length:Int)≤200) then
   some (.norm true)
  else
   some (.norm (decide (210<(ba1.length:Int))))
 else
  some (.norm (decide (210<(ba1.length:Int))))
theorem f5n2_ok(ba1:List Qa){o:f5n2O}(h:f5n2 ba1=some o):T Try.prog Try.f5.ntmps 0 (cL (Qi 0 (cL (Qi 1 c5)))) (f5n2S ba1) (·=f5n2E ba1 o):=by
 unfold f5n2 at h;rcases Qf h with ⟨h10,h⟩|⟨h10,h⟩
 ·rcases Qf h with ⟨h11,h⟩|⟨h11,h⟩
  ·obtain rfl:=Qd h;exact rE Qe [(jT [4,5,6,9,10,11],[(7,.bool true),(12,.bool true)],[(1,.val (jI (ba1.length:Int))),(5,.val (jI (ba1.length:Int)))])] [] [] [] [0,16] (.norm,(f5n2E ba1 (.norm true)).2) (ap (Qu (xs:=ba1) (c:=Qa.cells)) (ap2 h10 (ap (Qu (xs:=ba1) (c:=Qa.cells)) (ap2 h10 (ap4 h11 an))))) rfl
  ·obtain rfl:=Qd h;exact rE Qe [(jF [9,10,11]++jT [4,5,6],[(7,.bool true),(12,.bool false)],[(1,.val (jI (ba1.length:Int))),(5,.val (jI (ba1.length:Int))),(10,.val (jI (ba1.length:Int)))])] [] [] [] [0,16] (.norm,(f5n2E ba1 (.norm (decide (210<(ba1.length:Int))))).2) (ap (Qu (xs:=ba1) (c:=Qa.cells)) (ap2 h10 (ap (Qu (xs:=ba1) (c:=Qa.cells)) (ap2 h10 (ap2 h11 (ap (Qu (xs:=ba1) (c:=Qa.cells)) (ap2 h11 an))))))) rfl
 ·obtain rfl:=Qd h;exact rE Qe [(jF [4,5,6],[(7,.bool false)],[(1,.val (jI (ba1.length:Int))),(10,.val (jI (ba1.length:Int)))])] [] [] [] [0,16] (.norm,(f5n2E ba1 (.norm (decide (210<(ba1.length:Int))))).2) (ap (Qu (xs:=ba1) (c:=Qa.cells)) (ap4 h10 (ap (Qu (xs:=ba1) (c:=Qa.cells)) an))) rfl
inductive f5n1O where
 | norm
 | ret
def f5n1E(ba1:List Qa):f5n1O→Ex×Tr×Hp
 | .norm=>(.norm,mkS [(0,(jL 4 Qa.cells ba1))],[])
 | .ret=>(.ret,mkS [(2,(jB true))],[])
def f5n1S(ba1:List Qa):Tr×Hp:=(mkS [(0,(jL 4 Qa.cells ba1))],[])
noncomputable def f5n1(ba1:List Qa):Option f5n1O :=
 (f5n2 ba1).bind fun o13=>match o13 with
 | .norm v15=>bif v15 then
   some .ret
  else
   some .norm
theorem f5n1_ok(ba1:List Qa){o:f5n1O}(h:f5n1 ba1=some o):T Try.prog Try.f5.ntmps 0 (cL (Qi 1 c5)) (f5n1S ba1) (·=f5n1E ba1 o):=by
 unfold f5n1 at h;refine rN Qe 0 [] [] [] [] [0] (f5n2S ba1) an ?_;obtain ⟨o13,h14,h⟩:=Qc h;cases o13 with
 | norm v15 =>
  refine T.oneN (by kernel_rfl) (f5n2_ok ba1 h14) (st2:=(f5n2E ba1 (.norm v15)).2) rfl ?_;rcases Qf h with ⟨h17,h⟩|⟨h17,h⟩
  ·obtain rfl:=Qd h;exact rE Qe [j3] [some true] [] [] [2] (.ret,(f5n1E ba1 .ret).2) (ap h17 an) rfl
  ·obtain rfl:=Qd h;exact rE Qe [] [some false] [] [] [0] (.norm,(f5n1E ba1 .norm).2) (ap h17 an) rfl
inductive f5n4O where
 | exit0
 | ret
def f5n4E(ba1:List Qa):f5n4O→Ex×Tr×Hp
 | .exit0=>((.exit 0),mkS [],[])
 | .ret=>(.ret,mkS [(2,(jB true))],[])
def f5n4S(ba1:List Qa)(v45:Int):Tr×Hp:=(mkS [(0,(jL 4 Qa.cells ba1)),(3,(jI v45))],[])
noncomputable def f5n4:Nat→List Qa→Int→Option f5n4O
 | 0,_,_=>none
 | f+1,ba1,v45 =>
  bif decide (v45<(ba1.length:Int)) then
   (at? ba1 v45).bind fun x53 =>
   bif decide (1000<(x53.From.size:Int)) then
    some .ret
   else
    bif decide (1000<(x53.To.size:Int)) then
     some .ret
    else
     bif decide (1000<(x53.Contract.size:Int)) then
      some .ret
     else
      (f5n4 f ba1 (wr64 (v45+1)))
  else
   some .exit0
theorem f5n4_ok:∀(f:Nat)(ba1:List Qa)(v45:Int){o:f5n4O},f5n4 f ba1 v45=some o→TL Try.prog Try.f5.ntmps 0 f (cL (cL (Qi 1 (cL (Qi 0 (Qi 1 (Qi 1 c5))))))) (f5n4S ba1 v45) (·=f5n4E ba1 o)
 | 0,_,_,o,h=>by rw [f5n4] at h; cases h
 | f+1,ba1,v45,o,h=>by
  rw [f5n4] at h;refine TL.body (K:=fun s=>∃v45:Int,s=(f5n4S ba1 v45)∧f5n4 f ba1 v45=some o) ?_ (by rintro _ ⟨v45,rfl,hk⟩; exact f5n4_ok f _ _ hk);rcases Qf h with ⟨h47,h⟩|⟨h47,h⟩
  ·obtain ⟨x53,h54,h⟩:=Qc h;rcases Qf h with ⟨h55,h⟩|⟨h55,h⟩
   ·obtain rfl:=Qd h;exact rK Qe 2 [([],[],[(2,.val (jI (ba1.length:Int)))]),(jT [8,9,10,11,12,13,14],[(2,.idx (Int.toNat v45) (Qa.cells x53)),(15,.bool true)],[]),j3] [some true,none] [] [] [2] .ret ((f5n4E ba1 .ret).2) (ap (Qu (xs:=ba1) (c:=Qa.cells)) (ap h47 (ap (Qg h54).1 (ap (Qo Qa.cells (Qg h54).2) (ap4 h55 (ap4 h55 an)))))) (Qv.out rfl rfl)
   ·rcases Qf h with ⟨h56,h⟩|⟨h56,h⟩
    ·obtain rfl:=Qd h;exact rK Qe 2 [([],[],[(2,.val (jI (ba1.length:Int)))]),(jF [8,9,10,11,12,13,14]++jT [17,18,19,20,21,22,23],[(2,.idx (Int.toNat v45) (Qa.cells x53)),(10,.idx (Int.toNat v45) (Qa.cells x53)),(15,.bool false),(24,.bool true)],[]),j3] [some true,none] [] [] [2] .ret ((f5n4E ba1 .ret).2) (ap (Qu (xs:=ba1) (c:=Qa.cells)) (ap h47 (ap (Qg h54).1 (ap (Qo Qa.cells (Qg h54).2) (ap3 h55 (ap (Qg h54).1 (ap (Qo Qa.cells (Qg h54).2) (ap h55 (ap4 h55 (ap4 h56 (ap4 h56 an))))))))))) (Qv.out rfl rfl)
    ·rcases Qf h with ⟨h57,h⟩|⟨h57,h⟩
     ·obtain rfl:=Qd h;exact rK Qe 2 [([],[],[(2,.val (jI (ba1.length:Int)))]),(jF [8,9,10,11,12,13,14,17,18,19,20,21,22,23],[(2,.idx (Int.toNat v45) (Qa.cells x53)),(10,.idx (Int.toNat v45) (Qa.cells x53)),(15,.bool false),(19,.idx (Int.toNat v45) (Qa.cells x53)),(24,.bool false)],[]),j3] [some true,some true] [] [] [2] .ret ((f5n4E ba1 .ret).2) (ap (Qu (xs:=ba1) (c:=Qa.cells)) (ap h47 (ap (Qg h54).1 (ap (Qo Qa.cells (Qg h54).2) (ap3 h55 (ap (Qg h54).1 (ap (Qo Qa.cells (Qg h54).2) (ap h55 (ap4 h55 (ap3 h56 (ap (Qg h54).1 (ap (Qo Qa.cells (Qg h54).2) (ap h56 (ap4 h56 (ap h57 an))))))))))))))) (Qv.out rfl rfl)
     ·exact rE Qe [([],[],[(2,.val (jI (ba1.length:Int)))]),(jF [8,9,10,11,12,13,14,17,18,19,20,21,22,23],[(2,.idx (Int.toNat v45) (Qa.cells x53)),(10,.idx (Int.toNat v45) (Qa.cells x53)),(15,.bool false),(19,.idx (Int.toNat v45) (Qa.cells x53)),(24,.bool false)],[]),j3] [some true,some false] [] [] [0,3] (.norm,(f5n4S ba1 (wr64 (v45+1)))) (ap (Qu (xs:=ba1) (c:=Qa.cells)) (ap h47 (ap (Qg h54).1 (ap (Qo Qa.cells (Qg h54).2) (ap3 h55 (ap (Qg h54).1 (ap (Qo Qa.cells (Qg h54).2) (ap h55 (ap4 h55 (ap3 h56 (ap (Qg h54).1 (ap (Qo Qa.cells (Qg h54).2) (ap h56 (ap4 h56 (ap h57 an))))))))))))))) (Qv.norm ⟨(wr64 (v45+1)),rfl,h⟩)
  ·obtain rfl:=Qd h;exact rK Qe 1 [([],[],[(2,.val (jI (ba1.length:Int)))])] [some false] [] [] [] (.exit 0) ((f5n4E ba1 .exit0).2) (ap (Qu (xs:=ba1) (c:=Qa.cells)) (ap h47 an)) (Qv.out rfl rfl)
noncomputable def f5n4L(ba1:List Qa):List Qa→Int→Option f5n4O
 | [],v45 =>
  some .exit0
 | x0::rest,v45 =>
  bif decide (1000<(x0.From.size:Int)) then
   some .ret
  else
   bif decide (1000<(x0.To.size:Int)) then
    some .ret
   else
    bif decide (1000<(x0.Contract.size:Int)) then
     some .ret
    else
     (f5n4L ba1 rest (v45+1))
theorem f5n4L_eq(ba1:List Qa):∀(rest:List Qa)(f k:Nat),ba1.drop k=rest→ba1.length≤maxLen→rest.length<f→f5n4 f ba1 (k:Int)=f5n4L ba1 rest (k:Int)
 | _,0,_,_,_,hf=>absurd hf (Nat.not_lt_zero _)
 | [],f+1,k,hd,hm,hf=>by
  have hk:¬((k:Int)<(ba1.length:Int)):=by have:=Qbp hd; omega
  rw [f5n4,f5n4L];simp only [decide_eq_false hk,cond_false]
 | x0::rest,f+1,k,hd,hm,hf=>by
  obtain ⟨hx,hlt,hd'⟩:=Qba hd;have hk:(k:Int)<(ba1.length:Int):=by omega
  have hw:wr64 ((k:Int)+1)=(k:Int)+1:=wr64_of (by omega) (by unfold maxLen at hm; omega);have ih:f5n4 f ba1 ((k:Int)+1)=f5n4L ba1 rest ((k:Int)+1):=f5n4L_eq ba1 rest f (k+1) hd' hm (by simpa using hf);rw [f5n4,f5n4L];simp only [decide_eq_true hk,cond_true,at_nat,hx,Option.bind_some,hw,ih]
theorem f5n4_run(ba1:List Qa)(hm:ba1.length≤maxLen):f5n4 FUEL ba1 0=f5n4L ba1 ba1 0:=f5n4L_eq ba1 ba1 FUEL 0 List.drop_zero hm (lt_FUEL hm)
inductive f5n3O where
 | norm
 | ret
def f5n3E(ba1:List Qa):f5n3O→Ex×Tr×Hp
 | .norm=>(.norm,mkS [],[])
 | .ret=>(.ret,mkS [(2,(jB true))],[])
def f5n3S(ba1:List Qa):Tr×Hp:=(mkS [(0,(jL 4 Qa.cells ba1))],[])
noncomputable def f5n3(ba1:List Qa):Option f5n3O :=
 (f5n4 FUEL ba1 0).bind fun o58=>match o58 with
 | .exit0=>some .norm
 | .ret=>some .ret
theorem f5n3_ok(ba1:List Qa){o:f5n3O}(h:f5n3 ba1=some o):T Try.prog Try.f5.ntmps 0 (cL (Qi 0 (Qi 1 (Qi 1 c5)))) (f5n3S ba1) (·=f5n3E ba1 o):=by
 unfold f5n3 at h;refine rN Qe 1 [j3] [] [] [] [0,3] (f5n4S ba1 0) an ?_;obtain ⟨o58,h59,h⟩:=Qc h;cases o58 with
 | exit0 =>
  obtain rfl:=Qd h;exact T.last' (T.bl (i:=0) (by kernel_rfl) (by kernel_rfl) (f5n4_ok FUEL ba1 0 h59)) (tds:=[]) (m:=[]) (keep:=[]) (st2:=(f5n3E ba1 .norm).2) (by kernel_rfl) an rfl
 | ret =>
  obtain rfl:=Qd h;exact T.last' (T.bl (i:=0) (by kernel_rfl) (by kernel_rfl) (f5n4_ok FUEL ba1 0 h59)) (tds:=[]) (m:=[]) (keep:=[2]) (st2:=(f5n3E ba1 .ret).2) (by kernel_rfl) an rfl
inductive f5n0O where
 | ret (v62:Bool)
def f5n0E(a1:List Qa):f5n0O→Ex×Tr×Hp
 | .ret v62=>(.ret,mkS [(2,(jB v62))],[])
def f5n0S(a1:List Qa):Tr×Hp:=(Qad [(jL 4 Qa.cells a1)] 0 .leaf,[])
noncomputable def f5n0(a1:List Qa):Option f5n0O :=
 (f5n1 a1).bind fun o18=>match o18 with
 | .norm=>(f5n3 a1).bind fun o60=>match o60 with
  | .norm=>some (.ret false)
  | .ret=>some (.ret true)
 | .ret=>some (.ret true)
theorem f5n0_ok(a1:List Qa){o:f5n0O}(h:f5n0 a1=some o):T Try.prog Try.f5.ntmps 0 c5 (f5n0S a1) (·=f5n0E a1 o):=by
 unfold f5n0 at h;refine rN Qe 1 [j3] [] [] [] [0] (f5n1S a1) an ?_;obtain ⟨o18,h19,h⟩:=Qc h;cases o18 with
 | norm =>
  refine T.oneN (by kernel_rfl) (f5n1_ok a1 h19) (st2:=(f5n1E a1 .norm).2) rfl ?_;refine rN Qe 0 [] [] [] [] [0] (f5n3S a1) an ?_;obtain ⟨o60,h61,h⟩:=Qc h;cases o60 with
  | norm =>
   refine T.oneN (by kernel_rfl) (f5n3_ok a1 h61) (st2:=(f5n3E a1 .norm).2) rfl ?_;obtain rfl:=Qd h;exact rE Qe [j3] [] [] [] [2] (.ret,(f5n0E a1 (.ret false)).2) an rfl
  | ret =>
   obtain rfl:=Qd h;exact T.oneX' (by kernel_rfl) (f5n3_ok a1 h61) (tds:=[]) (m:=[]) (keep:=[2]) (st2:=(f5n0E a1 (.ret true)).2) (by kernel_rfl) an rfl rfl
 | ret =>
  obtain rfl:=Qd h;exact T.oneX' (by kernel_rfl) (f5n1_ok a1 h19) (tds:=[]) (m:=[]) (keep:=[2]) (st2:=(f5n0E a1 (.ret true)).2) (by kernel_rfl) an rfl rfl
noncomputable def f5(a1:List Qa):Option Bool:=(f5n0 a1).bind fun o=>match o with
 | .ret v62=>some v62
theorem f5_ok(a1:List Qa){r:Bool}(h:f5 a1=some r):Qk Try.prog false 5 [(jL 4 Qa.cells a1)] [] (jB r) []:=by
 unfold f5 at h;obtain ⟨o,ho,h⟩:=Qc h;cases o with
 | ret v62 =>
  obtain rfl:=Qd h;exact Qk.plain Qe (f:=Try.f5) (c:=c5) (by kernel_rfl) (by kernel_rfl) (by kernel_rfl) (by kernel_rfl) ((f5n0_ok a1 ho).mono fun r e=>by subst e; exact ⟨.inl rfl,(jB v62),(jB v62),by kernel_rfl,by kernel_rfl,((Wk.refl _):Wk (jB v62) (jB v62))⟩)

inductive f11r2n0O where
 | ret (v5:List Qa)
def f11r2n0E(a1:List Qa):f11r2n0O→Ex×Tr×Hp
 | .ret v5=>(.ret,mkS [(2,(.own 0))],[jR 4 Qa.cells v5])
def f11r2n0S(a1:List Qa):Tr×Hp:=(Qad [(jL 4 Qa.cells a1)] 0 .leaf,[])
noncomputable def f11r2n0(a1:List Qa):Option f11r2n0O :=
 bif (a1.isEmpty) then
  some (.ret [])
 else
  req (fit a1.length 56) <|
  some (.ret a1)
theorem f11r2n0_ok(a1:List Qa){o:f11r2n0O}(h:f11r2n0 a1=some o):T Try.prog Try.f11.ntmps 0 c11 (f11r2n0S a1) (·=f11r2n0E a1 o):=by
 unfold f11r2n0 at h;refine rN Qe 1 [j3] [] [] [] [0] (mkS [(0,(jL 4 Qa.cells a1))],[]) an ?_;refine T.nest (by kernel_rfl) ?_;rcases Qf h with ⟨h2,h⟩|⟨h2,h⟩
 ·refine rN Qe 0 [] [] [] [] [0] (mkS [(0,(jL 4 Qa.cells a1))],[]) an ?_;refine T.oneNil Qe (x:=.tmp 0) (t:=22) (t3:=3) (t4:=4) (sz:=4) (es:=(a1.map Qa.cells)) (by kernel_rfl) (by kernel_rfl) (by kernel_rfl) (by kernel_rfl) (by kernel_rfl) (fun b hb=>?_);cases b
  ·refine rE Qe [] [none] [] [] [0] (.norm,(mkS [(0,(jL 4 Qa.cells a1))],[])) an (ThenQ.norm ?_);obtain rfl:=Qd h;exact rE Qe [([],[(2,.app false)],[])] [] [] [0] [2] (.ret,(f11r2n0E a1 (.ret [])).2) (ap (nil_map (c:=Qa.cells) h2) an) rfl
  ·obtain rfl:=Qd h;exact rE Qe [j3] [none] [.mat 2 4] [0] [2] (.ret,(f11r2n0E a1 (.ret [])).2) an (ThenQ.out rfl rfl)
 ·refine rN Qe 0 [] [] [] [] [0] (mkS [(0,(jL 4 Qa.cells a1))],[]) an ?_;refine T.oneNil Qe (x:=.tmp 0) (t:=22) (t3:=3) (t4:=4) (sz:=4) (es:=(a1.map Qa.cells)) (by kernel_rfl) (by kernel_rfl) (by kernel_rfl) (by kernel_rfl) (by kernel_rfl) (fun b hb=>?_);cases b
  ·refine rE Qe [] [none] [] [] [0] (.norm,(mkS [(0,(jL 4 Qa.cells a1))],[])) an (ThenQ.norm ?_);obtain ⟨h4,h⟩:=Qm h;obtain rfl:=Qd h;exact rE Qe [([],[(2,.app true)],[])] [] [] [1] [2] (.ret,(f11r2n0E a1 (.ret a1)).2) (ap (fit_map0z (te:=ti26) (xs:=a1) (c:=Qa.cells) h4 rfl) (ap (ne_map (c:=Qa.cells) h2) (ap (len_all (c:=Qa.cells) (xs:=a1) (n:=4) (fun _=>rfl)) an))) rfl
  ·exact absurd (hb rfl) (ne_map (c:=Qa.cells) h2)
noncomputable def f11r2(a1:List Qa):Option (List Qa):=(f11r2n0 a1).bind fun o=>match o with
 | .ret v5=>some v5
theorem f11r2_ok(a1:List Qa){r:List Qa}(h:f11r2 a1=some r):Qk Try.prog true 11 [(jL 4 Qa.cells a1)] [] (.own 0) [jR 4 Qa.cells r]:=by
 unfold f11r2 at h;obtain ⟨o,ho,h⟩:=Qc h;cases o with
 | ret v5 =>
  obtain rfl:=Qd h;exact Qk.shared Qe (f:=Try.f11) (c:=c11) (by kernel_rfl) (by kernel_rfl) (by kernel_rfl) ((f11r2n0_ok a1 ho).mono fun r e=>by subst e; exact ⟨.inl rfl,by kernel_rfl,by kernel_rfl⟩)

inductive f6r2n4O where
 | exit2 (v446:Int)
def f6r2n4E(bh1 bh2:Nat)(bk3:Bool)(bf4:List Int)(ba6:List Qa):f6r2n4O→Ex×Tr×Hp
 | .exit2 v446=>((.exit 2),mkS [(5,(.vw 0 bh1 bh2)),(6,(.pl (.sl (bif bk3 then Fl.nil else Fl.any) 1 (bf4.map (cInt .i64))))),(7,(jI v446))],[jR 4 Qa.cells ba6])
def f6r2n4S(bh1 bh2:Nat)(bk3:Bool)(bf4:List Int)(ba6:List Qa)(v432 v433:Int):Tr×Hp:=(mkS [(5,(.vw 0 bh1 bh2)),(6,(.pl (.sl (bif bk3 then Fl.nil else Fl.any) 1 (bf4.map (cInt .i64))))),(7,(jI v432)),(32,(.pl (.sl (bif bk3 then Fl.nil else Fl.any) 1 (bf4.map (cInt .i64))))),(33,(jI (bf4.length:Int))),(34,(jI v433))],[jR 4 Qa.cells ba6])
noncomputable def f6r2n4:Nat→Nat→Nat→Bool→List Int→List Qa→Int→Int→Option f6r2n4O
 | 0,_,_,_,_,_,_,_=>none
 | f+1,bh1,bh2,bk3,bf4,ba6,v432,v433 =>
  bif decide (v433<(bf4.length:Int)) then
   (at? bf4 v433).bind fun x441 =>
   req (decide (bh1+bh2≤ba6.length)) <|
   (at? ((ba6.drop bh1).take bh2) x441).bind fun x444 =>
   (f6r2n4 f bh1 bh2 bk3 bf4 ba6 (mnI v432 x444.Amount) (wr64 (v433+1)))
  else
   some (.exit2 v432)
theorem f6r2n4_ok:∀(f bh1 bh2:Nat)(bk3:Bool)(bf4:List Int)(ba6:List Qa)(v432 v433:Int){o:f6r2n4O},f6r2n4 f bh1 bh2 bk3 bf4 ba6 v432 v433=some o→TL Try.prog Try.f6.ntmps 0 f (cL (cL (Qi 1 (cL (Qi 1 (cL (cL (Qi 1 (cL (cL (Qi 1 (cL (Qi 3 c6))))))))))))) (f6r2n4S bh1 bh2 bk3 bf4 ba6 v432 v433) (·=f6r2n4E bh1 bh2 bk3 bf4 ba6 o)
 | 0,_,_,_,_,_,_,_,o,h=>by rw [f6r2n4] at h; cases h
 | f+1,bh1,bh2,bk3,bf4,ba6,v432,v433,o,h=>by
  rw [f6r2n4] at h;refine TL.body (K:=fun s=>∃v432:Int,∃v433:Int,s=(f6r2n4S bh1 bh2 bk3 bf4 ba6 v432 v433)∧f6r2n4 f bh1 bh2 bk3 bf4 ba6 v432 v433=some o) ?_ (by rintro _ ⟨v432,v433,rfl,hk⟩; exact f6r2n4_ok f _ _ _ _ _ _ _ hk);rcases Qf h with ⟨h435,h⟩|⟨h435,h⟩
  ·obtain ⟨x441,h442,h⟩:=Qc h;obtain ⟨h443,h⟩:=Qm h;obtain ⟨x444,h445,h⟩:=Qc h;exact rE Qe [j3,([],[(0,.idx (Int.toNat v433) ((cInt .i64) x441))],[]),([],[(3,.at_ (Int.toNat x441)),(5,.idx 0 (Qa.cells x444))],[]),j3] [some true] [] [0] [5,6,7,32,33,34] (.norm,(f6r2n4S bh1 bh2 bk3 bf4 ba6 (mnI v432 x444.Amount) (wr64 (v433+1)))) (ap h435 (ap (Qg h442).1 (ap (Qo (cInt .i64) (Qg h442).2) (ap (Qg h445).1 (ap (vw_lt h445) (ap (Qae (c:=Qa.cells) h443) (ap (Qo Qa.cells (vw_at h445)) an))))))) (Qv.norm ⟨(mnI v432 x444.Amount),(wr64 (v433+1)),rfl,h⟩)
  ·obtain rfl:=Qd h;exact rK Qe 2 [j3] [some false] [] [0] [5,6,7] (.exit 2) ((f6r2n4E bh1 bh2 bk3 bf4 ba6 (.exit2 v432)).2) (ap h435 an) (Qv.out rfl rfl)
noncomputable def f6r2n4L(bh1 bh2:Nat)(bk3:Bool)(bf4:List Int)(ba6:List Qa):List Int→Int→Int→Option f6r2n4O
 | [],v432,v433 =>
  some (.exit2 v432)
 | x0::rest,v432,v433 =>
  req (decide (bh1+bh2≤ba6.length)) <|
  (at? ((ba6.drop bh1).take bh2) x0).bind fun x444 =>
  (f6r2n4L bh1 bh2 bk3 bf4 ba6 rest (mnI v432 x444.Amount) (v433+1))
theorem f6r2n4L_eq(bh1 bh2:Nat)(bk3:Bool)(bf4:List Int)(ba6:List Qa):∀(rest:List Int)(f k:Nat)(v432:Int),bf4.drop k=rest→bf4.length≤maxLen→rest.length<f→f6r2n4 f bh1 bh2 bk3 bf4 ba6 v432 (k:Int)=f6r2n4L bh1 bh2 bk3 bf4 ba6 rest v432 (k:Int)
 | _,0,_,_,_,_,hf=>absurd hf (Nat.not_lt_zero _)
 | [],f+1,k,v432,hd,hm,hf=>by
  have hk:¬((k:Int)<(bf4.length:Int)):=by have:=Qbp hd; omega
  rw [f6r2n4,f6r2n4L];simp only [decide_eq_false hk,cond_false]
 | x0::rest,f+1,k,v432,hd,hm,hf=>by
  obtain ⟨hx,hlt,hd'⟩:=Qba hd;have hk:(k:Int)<(bf4.length:Int):=by omega
  have hw:wr64 ((k:Int)+1)=(k:Int)+1:=wr64_of (by omega) (by unfold maxLen at hm; omega);have ih:∀(v432:Int),f6r2n4 f bh1 bh2 bk3 bf4 ba6 v432 ((k:Int)+1)=f6r2n4L bh1 bh2 bk3 bf4 ba6 rest v432 ((k:Int)+1):=fun v432=>f6r2n4L_eq bh1 bh2 bk3 bf4 ba6 rest f (k+1) v432 hd' hm (by simpa using hf);rw [f6r2n4,f6r2n4L];simp only [decide_eq_true hk,cond_true,at_nat,hx,Option.bind_some,hw,ih]
theorem f6r2n4_run(bh1 bh2:Nat)(bk3:Bool)(bf4:List Int)(ba6:List Qa)(v432:Int)(hm:bf4.length≤maxLen):f6r2n4 FUEL bh1 bh2 bk3 bf4 ba6 v432 0=f6r2n4L bh1 bh2 bk3 bf4 ba6 bf4 v432 0:=f6r2n4L_eq bh1 bh2 bk3 bf4 ba6 bf4 FUEL 0 v432 List.drop_zero hm (lt_FUEL hm)
inductive f6r2n3O where
 | norm (v450:Int)
def f6r2n3E(bh1 bh2:Nat)(bk3:Bool)(bf4:List Int)(be5:Qa)(ba6:List Qa):f6r2n3O→Ex×Tr×Hp
 | .norm v450=>(.norm,mkS [(5,(.vw 0 bh1 bh2)),(6,(.pl (.sl (bif bk3 then Fl.nil else Fl.any) 1 (bf4.map (cInt .i64))))),(7,(jI v450))],[jR 4 Qa.cells ba6])
def f6r2n3S(bh1 bh2:Nat)(bk3:Bool)(bf4:List Int)(be5:Qa)(ba6:List Qa):Tr×Hp:=(mkS [(5,(.vw 0 bh1 bh2)),(6,(.pl (.sl (bif bk3 then Fl.nil else Fl.any) 1 (bf4.map (cInt .i64))))),(7,(jI be5.Amount))],[jR 4 Qa.cells ba6])
noncomputable def f6r2n3(bh1 bh2:Nat)(bk3:Bool)(bf4:List Int)(be5:Qa)(ba6:List Qa):Option f6r2n3O :=
 (f6r2n4 FUEL bh1 bh2 bk3 bf4 ba6 be5.Amount 0).bind fun o447=>match o447 with
 | .exit2 v449=>some (.norm v449)
theorem f6r2n3_ok(bh1 bh2:Nat)(bk3:Bool)(bf4:List Int)(be5:Qa)(ba6:List Qa){o:f6r2n3O}(h:f6r2n3 bh1 bh2 bk3 bf4 be5 ba6=some o):T Try.prog Try.f6.ntmps 0 (cL (Qi 1 (cL (cL (Qi 1 (cL (cL (Qi 1 (cL (Qi 3 c6)))))))))) (f6r2n3S bh1 bh2 bk3 bf4 be5 ba6) (·=f6r2n3E bh1 bh2 bk3 bf4 be5 ba6 o):=by
 unfold f6r2n3 at h;refine rN Qe 1 [([],[],[(1,.val (jI (bf4.length:Int)))])] [] [] [0] [5,6,7,32,33,34] (f6r2n4S bh1 bh2 bk3 bf4 ba6 be5.Amount 0) (ap (Qu (xs:=bf4) (c:=(cInt .i64))) an) ?_;obtain ⟨o447,h448,h⟩:=Qc h;cases o447 with
 | exit2 v449 =>
  obtain rfl:=Qd h;exact T.last' (T.bl (i:=2) (by kernel_rfl) (by kernel_rfl) (f6r2n4_ok FUEL bh1 bh2 bk3 bf4 ba6 be5.Amount 0 h448)) (tds:=[]) (m:=[0]) (keep:=[5,6,7]) (st2:=(f6r2n3E bh1 bh2 bk3 bf4 be5 ba6 (.norm v449)).2) (by kernel_rfl) an rfl
inductive f6r2n6O where
 | exit4 (v494:List Qa)
def f6r2n6E(bh1 bh2:Nat)(bd5:Int)(bk3:Bool)(bf4:List Int):f6r2n6O→Ex×Tr×Hp
 | .exit4 v494=>((.exit 4),mkS [(5,(.vw 0 bh1 bh2))],[jR 4 Qa.cells v494])
def f6r2n6S(bh1 bh2:Nat)(bd5:Int)(bk3:Bool)(bf4:List Int)(v480:Int)(v481:List Qa):Tr×Hp:=(mkS [(5,(.vw 0 bh1 bh2)),(7,(jI bd5)),(46,(.pl (.sl (bif bk3 then Fl.nil else Fl.any) 1 (bf4.map (cInt .i64))))),(47,(jI (bf4.length:Int))),(48,(jI v480))],[jR 4 Qa.cells v481])
noncomputable def f6r2n6:Nat→Nat→Nat→Int→Bool→List Int→Int→List Qa→Option f6r2n6O
 | 0,_,_,_,_,_,_,_=>none
 | f+1,bh1,bh2,bd5,bk3,bf4,v480,v481 =>
  bif decide (v480<(bf4.length:Int)) then
   (at? bf4 v480).bind fun x489 =>
   req (decide (bh1+bh2≤v481.length)) <|
   (at? ((v481.drop bh1).take bh2) x489).bind fun x492 =>
   (f6r2n6 f bh1 bh2 bd5 bk3 bf4 (wr64 (v480+1)) (v481.set (bh1+(Int.toNat x489)) (Qa.mk x492.From x492.To x492.Contract (wr64 (x492.Amount-bd5)))))
  else
   some (.exit4 v481)
theorem f6r2n6_ok:∀(f bh1 bh2:Nat)(bd5:Int)(bk3:Bool)(bf4:List Int)(v480:Int)(v481:List Qa){o:f6r2n6O},f6r2n6 f bh1 bh2 bd5 bk3 bf4 v480 v481=some o→TL Try.prog Try.f6.ntmps 0 f (cL (cL (Qi 1 (cL (Qi 0 (Qi 1 (Qi 1 (cL (cL (Qi 1 (cL (cL (Qi 1 (cL (Qi 3 c6))))))))))))))) (f6r2n6S bh1 bh2 bd5 bk3 bf4 v480 v481) (·=f6r2n6E bh1 bh2 bd5 bk3 bf4 o)
 | 0,_,_,_,_,_,_,_,o,h=>by rw [f6r2n6] at h; cases h
 | f+1,bh1,bh2,bd5,bk3,bf4,v480,v481,o,h=>by
  rw [f6r2n6] at h;refine TL.body (K:=fun s=>∃v480:Int,∃v481:List Qa,s=(f6r2n6S bh1 bh2 bd5 bk3 bf4 v480 v481)∧f6r2n6 f bh1 bh2 bd5 bk3 bf4 v480 v481=some o) ?_ (by rintro _ ⟨v480,v481,rfl,hk⟩; exact f6r2n6_ok f _ _ _ _ _ _ _ hk);rcases Qf h with ⟨h483,h⟩|⟨h483,h⟩
  ·obtain ⟨x489,h490,h⟩:=Qc h;obtain ⟨h491,h⟩:=Qm h;obtain ⟨x492,h493,h⟩:=Qc h
   exact rE Qe [j3,([],[(0,.idx (Int.toNat v480) ((cInt .i64) x489))],[]),([],[(2,.at_ (Int.toNat x489)),(4,.idx 0 (Qa.cells x492)),(7,.at_ (Int.toNat x489)),(9,.idx 0 (Qa.cells x492))],[(9,.row 0 ((v481.set (bh1+(Int.toNat x489)) (Qa.mk x492.From x492.To x492.Contract (wr64 (x492.Amount-bd5)))).map Qa.cells))]),j3] [some true] [] [0] [5,7,46,47,48] (.norm,(f6r2n6S bh1 bh2 bd5 bk3 bf4 (wr64 (v480+1)) (v481.set (bh1+(Int.toNat x489)) (Qa.mk x492.From x492.To x492.Contract (wr64 (x492.Amount-bd5)))))) (ap h483 (ap (Qg h490).1 (ap (Qo (cInt .i64) (Qg h490).2) (ap (Qg h493).1 (ap (vw_lt h493) (ap (Qae (c:=Qa.cells) h491) (ap (Qo Qa.cells (vw_at h493)) (ap (Qg h493).1 (ap (vw_lt h493) (ap (Qae (c:=Qa.cells) h491) (ap (Qo Qa.cells (vw_at h493)) (ap (set_cv (xs:=v481) (c:=Qa.cells) (k:=(bh1+(Int.toNat x489))) (x:=(Qa.mk x492.From x492.To x492.Contract (wr64 (x492.Amount-bd5))))) an)))))))))))) (Qv.norm ⟨(wr64 (v480+1)),(v481.set (bh1+(Int.toNat x489)) (Qa.mk x492.From x492.To x492.Contract (wr64 (x492.Amount-bd5)))),rfl,h⟩)
  ·obtain rfl:=Qd h;exact rK Qe 2 [j3] [some false] [] [0] [5] (.exit 4) ((f6r2n6E bh1 bh2 bd5 bk3 bf4 (.exit4 v481)).2) (ap h483 an) (Qv.out rfl rfl)
noncomputable def f6r2n6L(bh1 bh2:Nat)(bd5:Int)(bk3:Bool)(bf4:List Int):List Int→Int→(List Qa)→Option f6r2n6O
 | [],v480,v481 =>
  some (.exit4 v481)
 | x0::rest,v480,v481 =>
  req (decide (bh1+bh2≤v481.length)) <|
  (at? ((v481.drop bh1).take bh2) x0).bind fun x492 =>
  (f6r2n6L bh1 bh2 bd5 bk3 bf4 rest (v480+1) (v481.set (bh1+(Int.toNat x0)) (Qa.mk x492.From x492.To x492.Contract (wr64 (x492.Amount-bd5)))))
theorem f6r2n6L_eq(bh1 bh2:Nat)(bd5:Int)(bk3:Bool)(bf4:List Int):∀(rest:List Int)(f k:Nat)(v481:List Qa),bf4.drop k=rest→bf4.length≤maxLen→rest.length<f→f6r2n6 f bh1 bh2 bd5 bk3 bf4 (k:Int) v481=f6r2n6L bh1 bh2 bd5 bk3 bf4 rest (k:Int) v481
 | _,0,_,_,_,_,hf=>absurd hf (Nat.not_lt_zero _)
 | [],f+1,k,v481,hd,hm,hf=>by
  have hk:¬((k:Int)<(bf4.length:Int)):=by have:=Qbp hd; omega
  rw [f6r2n6,f6r2n6L];simp only [decide_eq_false hk,cond_false]
 | x0::rest,f+1,k,v481,hd,hm,hf=>by
  obtain ⟨hx,hlt,hd'⟩:=Qba hd;have hk:(k:Int)<(bf4.length:Int):=by omega
  have hw:wr64 ((k:Int)+1)=(k:Int)+1:=wr64_of (by omega) (by unfold maxLen at hm; omega);have ih:∀(v481:List Qa),f6r2n6 f bh1 bh2 bd5 bk3 bf4 ((k:Int)+1) v481=f6r2n6L bh1 bh2 bd5 bk3 bf4 rest ((k:Int)+1) v481:=fun v481=>f6r2n6L_eq bh1 bh2 bd5 bk3 bf4 rest f (k+1) v481 hd' hm (by simpa using hf);rw [f6r2n6,f6r2n6L];simp only [decide_eq_true hk,cond_true,at_nat,hx,Option.bind_some,hw,ih]
theorem f6r2n6_run(bh1 bh2:Nat)(bd5:Int)(bk3:Bool)(bf4:List Int)(v481:List Qa)(hm:bf4.length≤maxLen):f6r2n6 FUEL bh1 bh2 bd5 bk3 bf4 0 v481=f6r2n6L bh1 bh2 bd5 bk3 bf4 bf4 0 v481:=f6r2n6L_eq bh1 bh2 bd5 bk3 bf4 bf4 FUEL 0 v481 List.drop_zero hm (lt_FUEL hm)
inductive f6r2n5O where
 | norm (v498:List Qa)
def f6r2n5E(bh1 bh2:Nat)(bk3:Bool)(bf4:List Int)(bd5:Int)(ba6:List Qa):f6r2n5O→Ex×Tr×Hp
 | .norm v498=>(.norm,mkS [(5,(.vw 0 bh1 bh2))],[jR 4 Qa.cells v498])
def f6r2n5S(bh1 bh2:Nat)(bk3:Bool)(bf4:List Int)(bd5:Int)(ba6:List Qa):Tr×Hp:=(mkS [(5,(.vw 0 bh1 bh2)),(6,(.pl (.sl (bif bk3 then Fl.nil else Fl.any) 1 (bf4.map (cInt .i64))))),(7,(jI bd5))],[jR 4 Qa.cells ba6])
noncomputable def f6r2n5(bh1 bh2:Nat)(bk3:Bool)(bf4:List Int)(bd5:Int)(ba6:List Qa):Option f6r2n5O :=
 (f6r2n6 FUEL bh1 bh2 bd5 bk3 bf4 0 ba6).bind fun o495=>match o495 with
 | .exit4 v497=>some (.norm v497)
theorem f6r2n5_ok(bh1 bh2:Nat)(bk3:Bool)(bf4:List Int)(bd5:Int)(ba6:List Qa){o:f6r2n5O}(h:f6r2n5 bh1 bh2 bk3 bf4 bd5 ba6=some o):T Try.prog Try.f6.ntmps 0 (cL (Qi 0 (Qi 1 (Qi 1 (cL (cL (Qi 1 (cL (cL (Qi 1 (cL (Qi 3 c6)))))))))))) (f6r2n5S bh1 bh2 bk3 bf4 bd5 ba6) (·=f6r2n5E bh1 bh2 bk3 bf4 bd5 ba6 o):=by
 unfold f6r2n5 at h;refine rN Qe 1 [([],[],[(1,.val (jI (bf4.length:Int)))])] [] [] [0] [5,7,46,47,48] (f6r2n6S bh1 bh2 bd5 bk3 bf4 0 ba6) (ap (Qu (xs:=bf4) (c:=(cInt .i64))) an) ?_;obtain ⟨o495,h496,h⟩:=Qc h;cases o495 with
 | exit4 v497 =>
  obtain rfl:=Qd h;exact T.last' (T.bl (i:=4) (by kernel_rfl) (by kernel_rfl) (f6r2n6_ok FUEL bh1 bh2 bd5 bk3 bf4 0 ba6 h496)) (tds:=[]) (m:=[0]) (keep:=[5]) (st2:=(f6r2n5E bh1 bh2 bk3 bf4 bd5 ba6 (.norm v497)).2) (by kernel_rfl) an rfl
inductive f6r2n2O where
 | norm (v506:Nat) (v507:Nat) (v508:List Qa)
def f6r2n2E(bh1 bh2:Nat)(bk3:Bool)(bf4:List Int)(ba5:List Qa):f6r2n2O→Ex×Tr×Hp
 | .norm v506 v507 v508=>(.norm,mkS [(5,(.vw 0 v506 v507))],[jR 4 Qa.cells v508])
def f6r2n2S(bh1 bh2:Nat)(bk3:Bool)(bf4:List Int)(ba5:List Qa):Tr×Hp:=(mkS [(5,(.vw 0 bh1 bh2)),(6,(.pl (.sl (bif bk3 then Fl.nil else Fl.any) 1 (bf4.map (cInt .i64)))))],[jR 4 Qa.cells ba5])
noncomputable def f6r2n2(bh1 bh2:Nat)(bk3:Bool)(bf4:List Int)(ba5:List Qa):Option f6r2n2O :=
 (at? bf4 0).bind fun x401 =>
 req (decide (bh1+bh2≤ba5.length)) <|
 (at? ((ba5.drop bh1).take bh2) x401).bind fun x404 =>
 (f6r2n3 bh1 bh2 bk3 bf4 x404 ba5).bind fun o451=>match o451 with
 | .norm v453=>(f6r2n5 bh1 bh2 bk3 bf4 v453 ba5).bind fun o499=>match o499 with
  | .norm v501=>(f13r3 bh1 bh2 v501).bind fun x504 =>
   some (.norm x504.1 x504.2.1 x504.2.2)
theorem f6r2n2_ok(bh1 bh2:Nat)(bk3:Bool)(bf4:List Int)(ba5:List Qa){o:f6r2n2O}(h:f6r2n2 bh1 bh2 bk3 bf4 ba5=some o):T Try.prog Try.f6.ntmps 0 (cL (Qi 1 (cL (cL (Qi 1 (cL (Qi 3 c6))))))) (f6r2n2S bh1 bh2 bk3 bf4 ba5) (·=f6r2n2E bh1 bh2 bk3 bf4 ba5 o):=by
 unfold f6r2n2 at h;refine T.block' (i:=1) (by kernel_rfl) ?_;obtain ⟨x401,h402,h⟩:=Qc h;obtain ⟨h403,h⟩:=Qm h;obtain ⟨x404,h405,h⟩:=Qc h;refine rN Qe 1 [([],[(2,.idx (Int.toNat 0) ((cInt .i64) x401)),(4,.at_ (Int.toNat x401)),(6,.idx 0 (Qa.cells x404))],[])] [] [] [0] [5,6,7] (f6r2n3S bh1 bh2 bk3 bf4 x404 ba5) (ap (Qg h402).1 (ap (Qo (cInt .i64) (Qg h402).2) (ap (Qg h405).1 (ap (vw_lt h405) (ap (Qae (c:=Qa.cells) h403) (ap (Qo Qa.cells (vw_at h405)) an)))))) ?_;obtain ⟨o451,h452,h⟩:=Qc h;cases o451 with
 | norm v453 =>
  refine T.oneN (by kernel_rfl) (f6r2n3_ok bh1 bh2 bk3 bf4 x404 ba5 h452) (st2:=(f6r2n3E bh1 bh2 bk3 bf4 x404 ba5 (.norm v453)).2) rfl ?_;refine rN Qe 0 [] [] [] [0] [5,6,7] (f6r2n5S bh1 bh2 bk3 bf4 v453 ba5) an ?_;obtain ⟨o499,h500,h⟩:=Qc h;cases o499 with
  | norm v501 =>
   refine T.oneN (by kernel_rfl) (f6r2n5_ok bh1 bh2 bk3 bf4 v453 ba5 h500) (st2:=(f6r2n5E bh1 bh2 bk3 bf4 v453 ba5 (.norm v501)).2) rfl ?_;obtain ⟨x504,h505,h⟩:=Qc h;obtain rfl:=Qd h;exact rE Qe [([],[(1,.call (.vw 0 x504.1 x504.2.1) [jR 4 Qa.cells x504.2.2])],[])] [] [] [0] [5] (.norm,(f6r2n2E bh1 bh2 bk3 bf4 ba5 (.norm x504.1 x504.2.1 x504.2.2)).2) (ap (f13r3_ok bh1 bh2 v501 h505) an) rfl
inductive f6r2n7O where
 | exit0 (v518:Nat) (v519:Nat) (v520:List Qa)
def f6r2n7E:f6r2n7O→Ex×Tr×Hp
 | .exit0 v518 v519 v520=>((.exit 0),mkS [(5,(.vw 0 v518 v519))],[jR 4 Qa.cells v520])
def f6r2n7S(v387 v388:Nat)(v389:Bool)(v390:List Int)(v391:List Qa):Tr×Hp:=(mkS [(5,(.vw 0 v387 v388)),(6,(.pl (.sl (bif v389 then Fl.nil else Fl.any) 1 (v390.map (cInt .i64)))))],[jR 4 Qa.cells v391])
noncomputable def f6r2n7:Nat→Nat→Nat→Bool→List Int→List Qa→Option f6r2n7O
 | 0,_,_,_,_,_=>none
 | f+1,v387,v388,v389,v390,v391 =>
  bif v389 then
   some (.exit0 v387 v388 v391)
  else
   req (!(v390.isEmpty)) <|
   (f6r2n2 v387 v388 v389 v390 v391).bind fun o509=>match o509 with
   | .norm v511 v512 v513=>(f12r3 v511 v512 v513).bind fun x516 =>
    (f6r2n7 f v511 v512 x516.1 x516.2 v513)
theorem f6r2n7_ok:∀(f v387 v388:Nat)(v389:Bool)(v390:List Int)(v391:List Qa){o:f6r2n7O},f6r2n7 f v387 v388 v389 v390 v391=some o→TL Try.prog Try.f6.ntmps 0 f (cL (cL (Qi 1 (cL (Qi 3 c6))))) (f6r2n7S v387 v388 v389 v390 v391) (·=f6r2n7E o)
 | 0,_,_,_,_,_,o,h=>by rw [f6r2n7] at h; cases h
 | f+1,v387,v388,v389,v390,v391,o,h=>by
  rw [f6r2n7] at h;refine TL.body (K:=fun s=>∃v387:Nat,∃v388:Nat,∃v389:Bool,∃v390:List Int,∃v391:List Qa,s=(f6r2n7S v387 v388 v389 v390 v391)∧f6r2n7 f v387 v388 v389 v390 v391=some o) ?_ (by rintro _ ⟨v387,v388,v389,v390,v391,rfl,hk⟩; exact f6r2n7_ok f _ _ _ _ _ hk);rcases Qf h with ⟨h394,h⟩|⟨h394,h⟩
  ·obtain rfl:=Qd h;exact rK Qe 1 [([],[(1,.app true)],[])] [none] [] [0] [5] (.exit 0) ((f6r2n7E (.exit0 v387 v388 v391)).2) (ap (fl_t h394) an) (Qv.out rfl rfl)
  ·obtain ⟨h395,h⟩:=Qm h;refine rN Qe 1 [([],[(1,.app false)],[])] [none] [] [0] [5,6] (f6r2n2S v387 v388 v389 v390 v391) (ap (fl_f h394) (ap (ne_map (c:=(cInt .i64)) (by simpa using h395)) an)) ?_;obtain ⟨o509,h510,h⟩:=Qc h;cases o509 with
   | norm v511 v512 v513 =>
    refine T.oneN (by kernel_rfl) (f6r2n2_ok v387 v388 v389 v390 v391 h510) (st2:=(f6r2n2E v387 v388 v389 v390 v391 (.norm v511 v512 v513)).2) rfl ?_;obtain ⟨x516,h517,h⟩:=Qc h;exact rE Qe [([],[(1,.call (.pl (.sl (bif x516.1 then Fl.nil else Fl.any) 1 (x516.2.map (cInt .i64)))) [jR 4 Qa.cells v513])],[])] [] [] [0] [5,6] (.norm,(f6r2n7S v511 v512 x516.1 x516.2 v513)) (ap (f12r3_ok v511 v512 v513 h517) an) (Qv.norm ⟨v511,v512,x516.1,x516.2,v513,rfl,h⟩)
inductive f6r2n1O where
 | norm (v526:Nat) (v527:Nat) (v528:List Qa)
def f6r2n1E(ba1:List Qa):f6r2n1O→Ex×Tr×Hp
 | .norm v526 v527 v528=>(.norm,mkS [(5,(.vw 0 v526 v527))],[jR 4 Qa.cells v528])
def f6r2n1S(ba1:List Qa):Tr×Hp:=(mkS [(5,(.own 0))],[jR 4 Qa.cells ba1])
noncomputable def f6r2n1(ba1:List Qa):Option f6r2n1O :=
 (f12r1 ba1).bind fun x14 =>
 (f6r2n7 FUEL 0 ba1.length x14.1 x14.2 ba1).bind fun o521=>match o521 with
 | .exit0 v523 v524 v525=>some (.norm v523 v524 v525)
theorem f6r2n1_ok(ba1:List Qa){o:f6r2n1O}(h:f6r2n1 ba1=some o):T Try.prog Try.f6.ntmps 0 (cL (Qi 3 c6)) (f6r2n1S ba1) (·=f6r2n1E ba1 o):=by
 unfold f6r2n1 at h;obtain ⟨x14,h15,h⟩:=Qc h;refine rN Qe 1 [([],[(1,.call (.pl (.sl (bif x14.1 then Fl.nil else Fl.any) 1 (x14.2.map (cInt .i64)))) [jR 4 Qa.cells ba1])],[])] [] [.ovw 5 ba1.length] [0] [5,6] (f6r2n7S 0 ba1.length x14.1 x14.2 ba1) (ap (f12r1_ok ba1 h15) (ap (len_ov (xs:=ba1) (c:=Qa.cells)) an)) ?_;obtain ⟨o521,h522,h⟩:=Qc h;cases o521 with
 | exit0 v523 v524 v525 =>
  obtain rfl:=Qd h;exact T.last' (T.bl (i:=0) (by kernel_rfl) (by kernel_rfl) (f6r2n7_ok FUEL 0 ba1.length x14.1 x14.2 ba1 h522)) (tds:=[]) (m:=[0]) (keep:=[5]) (st2:=(f6r2n1E ba1 (.norm v523 v524 v525)).2) (by kernel_rfl) an rfl
inductive f6r2n0O where
 | ret (v534:Nat) (v535:Nat) (v536:Int) (v537:List Qa)
def f6r2n0E(a1:List Qa):f6r2n0O→Ex×Tr×Hp
 | .ret v534 v535 v536 v537=>(.ret,mkS [(2,(.vw 0 v534 v535)),(3,(jI v536))],[jR 4 Qa.cells v537])
def f6r2n0S(a1:List Qa):Tr×Hp:=(Qad [(jL 4 Qa.cells a1)] 0 .leaf,[])
noncomputable def f6r2n0(a1:List Qa):Option f6r2n0O :=
 (f10 a1).bind fun x5 =>
 bif decide (x5=0) then
  (f11r2 a1).bind fun x10 =>
  (f6r2n1 x10).bind fun o529=>match o529 with
  | .norm v531 v532 v533=>some (.ret v531 v532 0 v533)
 else
  some (.ret 0 0 x5 [])
theorem f6r2n0_ok(a1:List Qa){o:f6r2n0O}(h:f6r2n0 a1=some o):T Try.prog Try.f6.ntmps 0 c6 (f6r2n0S a1) (·=f6r2n0E a1 o):=by
 unfold f6r2n0 at h;obtain ⟨x5,h6,h⟩:=Qc h;rcases Qf h with ⟨h7,h⟩|⟨h7,h⟩
 ·obtain ⟨x10,h11,h⟩:=Qc h;refine rN Qe 3 [j3,([],[jH 1 (jI x5)],[]),j3,([],[(1,.call (.own 0) [jR 4 Qa.cells x10])],[])] [some false] [] [0] [5] (f6r2n1S x10) (ap (f10_ok a1 h6) (ap (Qab h7) (ap (f11r2_ok a1 h11) an))) ?_;obtain ⟨o529,h530,h⟩:=Qc h;cases o529 with
  | norm v531 v532 v533 =>
   refine T.oneN (by kernel_rfl) (f6r2n1_ok x10 h530) (st2:=(f6r2n1E x10 (.norm v531 v532 v533)).2) rfl ?_;obtain rfl:=Qd h;exact rE Qe [j3] [] [] [0] [2,3] (.ret,(f6r2n0E a1 (.ret v531 v532 0 v533)).2) an rfl
 ·obtain rfl:=Qd h;exact rK Qe 2 [j3,([],[jH 1 (jI x5)],[]),j3,j3] [some true] [.mat 2 4,.ovw 2 0] [0] [2,3] .ret ((f6r2n0E a1 (.ret 0 0 x5 [])).2) (ap (f10_ok a1 h6) (ap (Qbc h7) (ap (len_ov (xs:=[]) (c:=Qa.cells)) an))) rfl
noncomputable def f6r2(a1:List Qa):Option (Nat×Nat×Int×(List Qa)):=(f6r2n0 a1).bind fun o=>match o with
 | .ret v534 v535 v536 v537=>some (v534,v535,v536,v537)
theorem f6r2_ok(a1:List Qa){r:Nat×Nat×Int×(List Qa)}(h:f6r2 a1=some r):Qk Try.prog true 6 [(jL 4 Qa.cells a1)] [] (.tup [(.vw 0 r.1 r.2.1),(jI r.2.2.1)]) [jR 4 Qa.cells r.2.2.2]:=by
 unfold f6r2 at h;obtain ⟨o,ho,h⟩:=Qc h;cases o with
 | ret v534 v535 v536 v537 =>
  obtain rfl:=Qd h;exact Qk.shared Qe (f:=Try.f6) (c:=c6) (by kernel_rfl) (by kernel_rfl) (by kernel_rfl) ((f6r2n0_ok a1 ho).mono fun r e=>by subst e; exact ⟨.inl rfl,by kernel_rfl,by kernel_rfl⟩)

noncomputable def c3:Code:=Try.f3.body.getD .skip
inductive f3n2O where
 | exit0
 | ret
def f3n2E(ba1:List Qa)(bd2:Int)(bk3:Bool):f3n2O→Ex×Tr×Hp
 | .exit0=>((.exit 0),mkS [(0,(jL 4 Qa.cells ba1)),(1,(.pl (.int .u8 bd2))),(5,(jB bk3))],[])
 | .ret=>(.ret,mkS [(4,(jB bk3))],[])
def f3n2S(ba1:List Qa)(bd2:Int)(bk3:Bool)(v34:Int):Tr×Hp:=(mkS [(0,(jL 4 Qa.cells ba1)),(1,(.pl (.int .u8 bd2))),(5,(jB bk3)),(6,(jI v34))],[])
noncomputable def f3n2:Nat→List Qa→Int→Bool→Int→Option f3n2O
 | 0,_,_,_,_=>none
 | f+1,ba1,bd2,bk3,v34 =>
  bif decide (v34<(ba1.length:Int)) then
   (at? ba1 v34).bind fun x40 =>
   bif decide (1099511627776<x40.Amount) then
    some .ret
   else
    (f3n2 f ba1 bd2 bk3 (wr64 (v34+1)))
  else
   some .exit0
theorem f3n2_ok:∀(f:Nat)(ba1:List Qa)(bd2:Int)(bk3:Bool)(v34:Int){o:f3n2O},f3n2 f ba1 bd2 bk3 v34=some o→TL Try.prog Try.f3.ntmps 0 f (cL (cL (Qi 1 (cL (Qi 3 c3))))) (f3n2S ba1 bd2 bk3 v34) (·=f3n2E ba1 bd2 bk3 o)
 | 0,_,_,_,_,o,h=>by rw [f3n2] at h; cases h
 | f+1,ba1,bd2,bk3,v34,o,h=>by
  rw [f3n2] at h;refine TL.body (K:=fun s=>∃v34:Int,s=(f3n2S ba1 bd2 bk3 v34)∧f3n2 f ba1 bd2 bk3 v34=some o) ?_ (by rintro _ ⟨v34,rfl,hk⟩; exact f3n2_ok f _ _ _ _ hk);rcases Qf h with ⟨h36,h⟩|⟨h36,h⟩
  ·obtain ⟨x40,h41,h⟩:=Qc h;rcases Qf h with ⟨h42,h⟩|⟨h42,h⟩
   ·obtain rfl:=Qd h;exact rK Qe 2 [([],[],[(2,.val (jI (ba1.length:Int)))]),([],[(2,.idx (Int.toNat v34) (Qa.cells x40))],[]),j3] [some true,some true] [] [] [4] .ret ((f3n2E ba1 bd2 bk3 .ret).2) (ap (Qu (xs:=ba1) (c:=Qa.cells)) (ap h36 (ap (Qg h41).1 (ap (Qo Qa.cells (Qg h41).2) (ap h42 an))))) (Qv.out rfl rfl)
   ·exact rE Qe [([],[],[(2,.val (jI (ba1.length:Int)))]),([],[(2,.idx (Int.toNat v34) (Qa.cells x40))],[]),j3] [some true,some false] [] [] [0,1,5,6] (.norm,(f3n2S ba1 bd2 bk3 (wr64 (v34+1)))) (ap (Qu (xs:=ba1) (c:=Qa.cells)) (ap h36 (ap (Qg h41).1 (ap (Qo Qa.cells (Qg h41).2) (ap h42 an))))) (Qv.norm ⟨(wr64 (v34+1)),rfl,h⟩)
  ·obtain rfl:=Qd h;exact rK Qe 1 [([],[],[(2,.val (jI (ba1.length:Int)))])] [some false] [] [] [0,1,5] (.exit 0) ((f3n2E ba1 bd2 bk3 .exit0).2) (ap (Qu (xs:=ba1) (c:=Qa.cells)) (ap h36 an)) (Qv.out rfl rfl)
noncomputable def f3n2L(ba1:List Qa)(bd2:Int)(bk3:Bool):List Qa→Int→Option f3n2O
 | [],v34 =>
  some .exit0
 | x0::rest,v34 =>
  bif decide (1099511627776<x0.Amount) then
   some .ret
  else
   (f3n2L ba1 bd2 bk3 rest (v34+1))
theorem f3n2L_eq(ba1:List Qa)(bd2:Int)(bk3:Bool):∀(rest:List Qa)(f k:Nat),ba1.drop k=rest→ba1.length≤maxLen→rest.length<f→f3n2 f ba1 bd2 bk3 (k:Int)=f3n2L ba1 bd2 bk3 rest (k:Int)
 | _,0,_,_,_,hf=>absurd hf (Nat.not_lt_zero _)
 | [],f+1,k,hd,hm,hf=>by
  have hk:¬((k:Int)<(ba1.length:Int)):=by have:=Qbp hd; omega
  rw [f3n2,f3n2L];simp only [decide_eq_false hk,cond_false]
 | x0::rest,f+1,k,hd,hm,hf=>by
  obtain ⟨hx,hlt,hd'⟩:=Qba hd;have hk:(k:Int)<(ba1.length:Int):=by omega
  have hw:wr64 ((k:Int)+1)=(k:Int)+1:=wr64_of (by omega) (by unfold maxLen at hm; omega);have ih:f3n2 f ba1 bd2 bk3 ((k:Int)+1)=f3n2L ba1 bd2 bk3 rest ((k:Int)+1):=f3n2L_eq ba1 bd2 bk3 rest f (k+1) hd' hm (by simpa using hf);rw [f3n2,f3n2L];simp only [decide_eq_true hk,cond_true,at_nat,hx,Option.bind_some,hw,ih]
theorem f3n2_run(ba1:List Qa)(bd2:Int)(bk3:Bool)(hm:ba1.length≤maxLen):f3n2 FUEL ba1 bd2 bk3 0=f3n2L ba1 bd2 bk3 ba1 0:=f3n2L_eq ba1 bd2 bk3 ba1 FUEL 0 List.drop_zero hm (lt_FUEL hm)
inductive f3n1O where
 | norm
 | ret
def f3n1E(ba1:List Qa)(bd2:Int)(bk3:Bool):f3n1O→Ex×Tr×Hp
 | .norm=>(.norm,mkS [(0,(jL 4 Qa.cells ba1)),(1,(.pl (.int .u8 bd2))),(5,(jB bk3))],[])
 | .ret=>(.ret,mkS [(4,(jB bk3))],[])
def f3n1S(ba1:List Qa)(bd2:Int)(bk3:Bool):Tr×Hp:=(mkS [(0,(jL 4 Qa.cells ba1)),(1,(.pl (.int .u8 bd2))),(5,(jB bk3))],[])
noncomputable def f3n1(ba1:List Qa)(bd2:Int)(bk3:Bool):Option f3n1O :=
 (f3n2 FUEL ba1 bd2 bk3 0).bind fun o43=>match o43 with
 | .exit0=>some .norm
 | .ret=>some .ret
theorem f3n1_ok(ba1:List Qa)(bd2:Int)(bk3:Bool){o:f3n1O}(h:f3n1 ba1 bd2 bk3=some o):T Try.prog Try.f3.ntmps 0 (cL (Qi 3 c3)) (f3n1S ba1 bd2 bk3) (·=f3n1E ba1 bd2 bk3 o):=by
 unfold f3n1 at h;refine rN Qe 1 [j3] [] [] [] [0,1,5,6] (f3n2S ba1 bd2 bk3 0) an ?_;obtain ⟨o43,h44,h⟩:=Qc h;cases o43 with
 | exit0 =>
  obtain rfl:=Qd h;exact T.last' (T.bl (i:=0) (by kernel_rfl) (by kernel_rfl) (f3n2_ok FUEL ba1 bd2 bk3 0 h44)) (tds:=[]) (m:=[]) (keep:=[0,1,5]) (st2:=(f3n1E ba1 bd2 bk3 .norm).2) (by kernel_rfl) an rfl
 | ret =>
  obtain rfl:=Qd h;exact T.last' (T.bl (i:=0) (by kernel_rfl) (by kernel_rfl) (f3n2_ok FUEL ba1 bd2 bk3 0 h44)) (tds:=[]) (m:=[]) (keep:=[4]) (st2:=(f3n1E ba1 bd2 bk3 .ret).2) (by kernel_rfl) an rfl
inductive f3n0O where
 | ret (v89:Bool)
def f3n0E(a1:List Qa)(a2:Int):f3n0O→Ex×Tr×Hp
 | .ret v89=>(.ret,mkS [(4,(jB v89))],[])
def f3n0S(a1:List Qa)(a2:Int):Tr×Hp:=(Qad [(jL 4 Qa.cells a1),(.pl (.int .u8 a2))] 0 .leaf,[])
noncomputable def f3n0(a1:List Qa)(a2:Int):Option f3n0O :=
 f4.bind fun x5 =>
 (f5 a1).bind fun x12 =>
 bif x12 then
  some (.ret x5)
 else
  bif decide (200<(a1.length:Int)) then
   some (.ret x5)
  else
   bif x5 then
    (f3n1 a1 a2 x5).bind fun o45=>match o45 with
    | .norm=>(f6r2 a1).bind fun x49 =>
     bif decide (x49.2.2.1=0) then
      (f8 a1 a2).bind fun x57 =>
      (f7 Qt x57).bind fun x59 =>
      req (decide (x49.1+x49.2.1≤x49.2.2.2.length)) <|
      (f8 ((x49.2.2.2.drop x49.1).take x49.2.1) a2).bind fun x67 =>
      (f7 Qt x67).bind fun x69 =>
      bif decide (x59.2=x69.2) then
       (f9 x59.1 x69.1).bind fun x84 =>
       bif x84 then
        bif decide (x59.2=0) then
         some (.ret (decide (((x49.2.1:Nat):Int)≤(a1.length:Int))))
        else
         bif decide (x59.2=14) then
          some (.ret (decide (((x49.2.1:Nat):Int)≤(a1.length:Int))))
         else
          some (.ret false)
       else
        some (.ret false)
      else
       some (.ret false)
     else
      some (.ret (decide (((x49.2.1:Nat):Int)=0)))
    | .ret=>some (.ret x5)
   else
    some (.ret x5)
theorem f3n0_ok(a1:List Qa)(a2:Int){o:f3n0O}(h:f3n0 a1 a2=some o):T Try.prog Try.f3.ntmps 0 c3 (f3n0S a1 a2) (·=f3n0E a1 a2 o):=by
 unfold f3n0 at h;obtain ⟨x5,h6,h⟩:=Qc h;obtain ⟨x12,h13,h⟩:=Qc h;rcases Qf h with ⟨h14,h⟩|⟨h14,h⟩
 ·obtain rfl:=Qd h;exact rK Qe 3 [j3,([],[jH 0 (jB x5)],[]),(jT [3,4,5],[jH 1 (jB x12),(6,.bool true)],[]),j3] [none] [] [] [4] .ret ((f3n0E a1 a2 (.ret x5)).2) (ap (f4_ok h6) (ap4 h14 (ap (f5_ok a1 h13) an))) rfl
 ·rcases Qf h with ⟨h15,h⟩|⟨h15,h⟩
  ·obtain rfl:=Qd h;exact rK Qe 3 [j3,([],[jH 0 (jB x5)],[]),(jF [3,4,5]++jT [8,9],[jH 1 (jB x12),(6,.bool false),(10,.bool true)],[(4,.val (jI (a1.length:Int)))]),j3] [none] [] [] [4] .ret ((f3n0E a1 a2 (.ret x5)).2) (ap (f4_ok h6) (ap2 h14 (ap (Qu (xs:=a1) (c:=Qa.cells)) (ap2 h14 (ap3 h15 (ap (f5_ok a1 h13) an)))))) rfl
  ·rcases Qf h with ⟨h16,h⟩|⟨h16,h⟩
   ·refine rN Qe 3 [j3,([],[jH 0 (jB x5)],[]),(jF [3,4,5,8,9],[jH 1 (jB x12),(6,.bool false),(10,.bool false)],[(4,.val (jI (a1.length:Int)))])] [some false] [] [] [0,1,5] (f3n1S a1 a2 x5) (ap (f4_ok h6) (ap2 h14 (ap (Qu (xs:=a1) (c:=Qa.cells)) (ap2 h14 (ap3 h15 (ap (f5_ok a1 h13) (ap (Qab h16) an))))))) ?_;obtain ⟨o45,h46,h⟩:=Qc h;cases o45 with
    | norm =>
     refine T.oneN (by kernel_rfl) (f3n1_ok a1 a2 x5 h46) (st2:=(f3n1E a1 a2 x5 .norm).2) rfl ?_;obtain ⟨x49,h50,h⟩:=Qc h;rcases Qf h with ⟨h52,h⟩|⟨h52,h⟩
     ·obtain ⟨x57,h58,h⟩:=Qc h;obtain ⟨x59,h60,h⟩:=Qc h;obtain ⟨h66,h⟩:=Qm h;obtain ⟨x67,h68,h⟩:=Qc h;obtain ⟨x69,h70,h⟩:=Qc h;rcases Qf h with ⟨h83,h⟩|⟨h83,h⟩
      ·obtain ⟨x84,h85,h⟩:=Qc h;rcases Qf h with ⟨h86,h⟩|⟨h86,h⟩
       ·rcases Qf h with ⟨h87,h⟩|⟨h87,h⟩
        ·obtain rfl:=Qd h
         exact rE Qe [([],[(1,.call (.tup [(.vw 0 x49.1 x49.2.1),(jI x49.2.2.1)]) [jR 4 Qa.cells x49.2.2.2])],[]),j3,([],[jH 2 (jL 6 Qb.cells x57),jH 3 (.tup [(jL 6 Qb.cells x59.1),(jI x59.2)])],[]),([],[jH 2 (jL 6 Qb.cells x67),jH 3 (.tup [(jL 6 Qb.cells x69.1),(jI x69.2)])],[]),(jT [2,3,4,7,8,9,12,13,14,15,16,17],[(5,.bool true),jH 9 (jB x84),(10,.bool true),(17,.bool true),(18,.bool true)],[(23,.val (jI (a1.length:Int)))])] [some false] [] [] [4] (.ret,(f3n0E a1 a2 (.ret (decide (((x49.2.1:Nat):Int)≤(a1.length:Int))))).2) (ap (f6r2_ok a1 h50) (ap (Qab h52) (ap (f8_ok a1 a2 h58) (ap (f7_ok Qt x57 h60) (ap (Qae (c:=Qa.cells) h66) (ap (show Qk Try.prog false 8 [(.pl (.sl .any 4 (((x49.2.2.2.map Qa.cells).drop x49.1).take x49.2.1))),(.pl (.int .u8 a2))] [] (jL 6 Qb.cells x67) [] from (by have h:=(f8_ok ((x49.2.2.2.drop x49.1).take x49.2.1) a2 h68); simpa only [jL,List.map_take,List.map_drop] using h)) (ap (f7_ok Qt x67 h70) (ap4 h16 (ap4 h83 (ap3 h86 (ap2 h87 (ap h86 (ap h87 (ap h86 (ap (Qu (xs:=a1) (c:=Qa.cells)) (ap (f9_ok x59.1 x69.1 h85) an)))))))))))))))) rfl
        ·rcases Qf h with ⟨h88,h⟩|⟨h88,h⟩
         ·obtain rfl:=Qd h
          exact rE Qe [([],[(1,.call (.tup [(.vw 0 x49.1 x49.2.1),(jI x49.2.2.1)]) [jR 4 Qa.cells x49.2.2.2])],[]),j3,([],[jH 2 (jL 6 Qb.cells x57),jH 3 (.tup [(jL 6 Qb.cells x59.1),(jI x59.2)])],[]),([],[jH 2 (jL 6 Qb.cells x67),jH 3 (.tup [(jL 6 Qb.cells x69.1),(jI x69.2)])],[]),(jF [15,16]++jT [2,3,4,7,8,9,12,13,14,17,20,21,22,23,24],[(5,.bool true),jH 9 (jB x84),(10,.bool true),(17,.bool false),(18,.bool true),(25,.bool true)],[(23,.val (jI (a1.length:Int)))])] [some false] [] [] [4] (.ret,(f3n0E a1 a2 (.ret (decide (((x49.2.1:Nat):Int)≤(a1.length:Int))))).2) (ap (f6r2_ok a1 h50) (ap (Qab h52) (ap (f8_ok a1 a2 h58) (ap (f7_ok Qt x57 h60) (ap (Qae (c:=Qa.cells) h66) (ap (show Qk Try.prog false 8 [(.pl (.sl .any 4 (((x49.2.2.2.map Qa.cells).drop x49.1).take x49.2.1))),(.pl (.int .u8 a2))] [] (jL 6 Qb.cells x67) [] from (by have h:=(f8_ok ((x49.2.2.2.drop x49.1).take x49.2.1) a2 h68); simpa only [jL,List.map_take,List.map_drop] using h)) (ap (f7_ok Qt x67 h70) (ap4 h16 (ap4 h83 (ap3 h86 (ap2 h87 (ap h86 (ap h87 (ap h86 (ap4 h88 (ap (Qu (xs:=a1) (c:=Qa.cells)) (ap2 h88 (ap (f9_ok x59.1 x69.1 h85) an)))))))))))))))))) rfl
         ·obtain rfl:=Qd h
          exact rE Qe [([],[(1,.call (.tup [(.vw 0 x49.1 x49.2.1),(jI x49.2.2.1)]) [jR 4 Qa.cells x49.2.2.2])],[]),j3,([],[jH 2 (jL 6 Qb.cells x57),jH 3 (.tup [(jL 6 Qb.cells x59.1),(jI x59.2)])],[]),([],[jH 2 (jL 6 Qb.cells x67),jH 3 (.tup [(jL 6 Qb.cells x69.1),(jI x69.2)])],[]),(jF [15,16,20,21,22,23,24]++jT [2,3,4,7,8,9,12,13,14,17],[(5,.bool true),jH 9 (jB x84),(10,.bool true),(17,.bool false),(18,.bool true),(25,.bool false)],[])] [some false] [] [] [4] (.ret,(f3n0E a1 a2 (.ret false)).2) (ap (f6r2_ok a1 h50) (ap (Qab h52) (ap (f8_ok a1 a2 h58) (ap (f7_ok Qt x57 h60) (ap (Qae (c:=Qa.cells) h66) (ap (show Qk Try.prog false 8 [(.pl (.sl .any 4 (((x49.2.2.2.map Qa.cells).drop x49.1).take x49.2.1))),(.pl (.int .u8 a2))] [] (jL 6 Qb.cells x67) [] from (by have h:=(f8_ok ((x49.2.2.2.drop x49.1).take x49.2.1) a2 h68); simpa only [jL,List.map_take,List.map_drop] using h)) (ap (f7_ok Qt x67 h70) (ap4 h16 (ap4 h83 (ap3 h86 (ap2 h87 (ap h86 (ap h87 (ap h86 (ap2 h88 (ap4 h88 (ap (f9_ok x59.1 x69.1 h85) an))))))))))))))))) rfl
       ·obtain rfl:=Qd h
        exact rE Qe [([],[(1,.call (.tup [(.vw 0 x49.1 x49.2.1),(jI x49.2.2.1)]) [jR 4 Qa.cells x49.2.2.2])],[]),j3,([],[jH 2 (jL 6 Qb.cells x57),jH 3 (.tup [(jL 6 Qb.cells x59.1),(jI x59.2)])],[]),([],[jH 2 (jL 6 Qb.cells x67),jH 3 (.tup [(jL 6 Qb.cells x69.1),(jI x69.2)])],[]),(jF [12,13,14,17]++jT [2,3,4,7,8,9],[(5,.bool true),jH 9 (jB x84),(10,.bool true),(18,.bool false)],[])] [some false] [] [] [4] (.ret,(f3n0E a1 a2 (.ret false)).2) (ap (f6r2_ok a1 h50) (ap (Qab h52) (ap (f8_ok a1 a2 h58) (ap (f7_ok Qt x57 h60) (ap (Qae (c:=Qa.cells) h66) (ap (show Qk Try.prog false 8 [(.pl (.sl .any 4 (((x49.2.2.2.map Qa.cells).drop x49.1).take x49.2.1))),(.pl (.int .u8 a2))] [] (jL 6 Qb.cells x67) [] from (by have h:=(f8_ok ((x49.2.2.2.drop x49.1).take x49.2.1) a2 h68); simpa only [jL,List.map_take,List.map_drop] using h)) (ap (f7_ok Qt x67 h70) (ap4 h16 (ap4 h83 (ap h86 (ap4 h86 (ap (f9_ok x59.1 x69.1 h85) an)))))))))))) rfl
      ·obtain rfl:=Qd h
       exact rE Qe [([],[(1,.call (.tup [(.vw 0 x49.1 x49.2.1),(jI x49.2.2.1)]) [jR 4 Qa.cells x49.2.2.2])],[]),j3,([],[jH 2 (jL 6 Qb.cells x57),jH 3 (.tup [(jL 6 Qb.cells x59.1),(jI x59.2)])],[]),([],[jH 2 (jL 6 Qb.cells x67),jH 3 (.tup [(jL 6 Qb.cells x69.1),(jI x69.2)])],[]),(jF [7,8,9]++jT [2,3,4],[(5,.bool true),(10,.bool false)],[])] [some false] [] [] [4] (.ret,(f3n0E a1 a2 (.ret false)).2) (ap (f6r2_ok a1 h50) (ap (Qab h52) (ap (f8_ok a1 a2 h58) (ap (f7_ok Qt x57 h60) (ap (Qae (c:=Qa.cells) h66) (ap (show Qk Try.prog false 8 [(.pl (.sl .any 4 (((x49.2.2.2.map Qa.cells).drop x49.1).take x49.2.1))),(.pl (.int .u8 a2))] [] (jL 6 Qb.cells x67) [] from (by have h:=(f8_ok ((x49.2.2.2.drop x49.1).take x49.2.1) a2 h68); simpa only [jL,List.map_take,List.map_drop] using h)) (ap (f7_ok Qt x67 h70) (ap4 h16 (ap4 h83 an))))))))) rfl
     ·obtain rfl:=Qd h;exact rK Qe 2 [([],[(1,.call (.tup [(.vw 0 x49.1 x49.2.1),(jI x49.2.2.1)]) [jR 4 Qa.cells x49.2.2.2])],[]),j3,(jT [2,3,4],[(5,.bool true)],[])] [some true] [] [] [4] .ret ((f3n0E a1 a2 (.ret (decide (((x49.2.1:Nat):Int)=0)))).2) (ap (f6r2_ok a1 h50) (ap (Qbc h52) (ap4 h16 an))) rfl
    | ret =>
     obtain rfl:=Qd h;exact T.oneX' (by kernel_rfl) (f3n1_ok a1 a2 x5 h46) (tds:=[]) (m:=[]) (keep:=[4]) (st2:=(f3n0E a1 a2 (.ret x5)).2) (by kernel_rfl) an rfl rfl
   ·obtain rfl:=Qd h;exact rK Qe 3 [j3,([],[jH 0 (jB x5)],[]),(jF [3,4,5,8,9],[jH 1 (jB x12),(6,.bool false),(10,.bool false)],[(4,.val (jI (a1.length:Int)))]),j3] [some true] [] [] [4] .ret ((f3n0E a1 a2 (.ret x5)).2) (ap (f4_ok h6) (ap2 h14 (ap (Qu (xs:=a1) (c:=Qa.cells)) (ap2 h14 (ap3 h15 (ap (f5_ok a1 h13) (ap (Qbc h16) an))))))) rfl
noncomputable def f3(a1:List Qa)(a2:Int):Option Bool:=(f3n0 a1 a2).bind fun o=>match o with
 | .ret v89=>some v89
theorem f3_ok(a1:List Qa)(a2:Int){r:Bool}(h:f3 a1 a2=some r):Qk Try.prog false 3 [(jL 4 Qa.cells a1),(.pl (.int .u8 a2))] [] (jB r) []:=by
 unfold f3 at h;obtain ⟨o,ho,h⟩:=Qc h;cases o with
 | ret v89 =>
  obtain rfl:=Qd h;exact Qk.plain Qe (f:=Try.f3) (c:=c3) (by kernel_rfl) (by kernel_rfl) (by kernel_rfl) (by kernel_rfl) ((f3n0_ok a1 a2 ho).mono fun r e=>by subst e; exact ⟨.inl rfl,(jB v89),(jB v89),by kernel_rfl,by kernel_rfl,((Wk.refl _):Wk (jB v89) (jB v89))⟩)
end Go.Proofs.Ytglmageljnlhcaa
namespace Go.Proofs.Ytglmageljnlhcaa
set_option linter.unusedVariables false
set_option linter.unusedSimpArgs false
open Go.RowKit
abbrev NF:=Qb
theorem f29_eq(c:Int):f29 c=some (ltrI c):=by
 unfold f29 f29n0 ltrI;cases decide (97≤c)<;>cases decide (c≤122)<;>cases decide (65≤c)<;>cases decide (c≤90)<;>rfl
theorem f16n2_eq{s:ByteArray}{k:Int}{b:UInt8}(h:at? s.data.toList k=some b):f16n2 s k=some (bif chB b then .norm else .ret):=by
 have h3:f16n3 s b k=some (.norm (!(chB b))):=by
  unfold f16n3 chB othI;rw [f29_eq,ltNot,ltNot];simp only [Option.bind_some];cases ltrI b.toNat<;>cases decide ((48:Int)≤(b.toNat:Int))<;>cases decide ((b.toNat:Int)≤57)<;>cases decide ((b.toNat:Int)=95)<;>cases decide ((b.toNat:Int)=45)<;>rfl
 unfold f16n2;rw [h];simp only [Option.bind_some,h3];cases chB b<;>rfl
theorem f16n4_at(s:ByteArray)(hs:s.data.toList.length≤1000):∀(r:List UInt8)(f k:Nat),s.data.toList.drop k=r→r.length<f→f16n4 f s (k:Int)=some (bif r.all chB then .exit0 else .ret)
 | _,0,_,_,h=>absurd h (Nat.not_lt_zero _)
 | [],f+1,k,hd,_=>by
  have:=Qbp hd;rw [f16n4,sizeList,decide_eq_false (by omega),cond_false]; rfl
 | b::r,f+1,k,hd,hf=>by
  obtain ⟨h1,h2,h3⟩:=dropAt hd;rw [f16n4,sizeList,decide_eq_true (by omega),cond_true,f16n2_eq h1,List.all_cons];cases chB b with
  | false=>rfl
  | true =>
   simp only [cond_true,Option.bind_some,Bool.true_and];rw [wrSucc (by omega)];exact f16n4_at s hs r f (k+1) h3 (by simpa using hf)
theorem f16_eq(s:ByteArray):f16 s=some (nmB s):=by
 unfold f16 f16n0 nmB;rw [sizeList]
 by_cases hs:s.data.toList.length≤40
 ·have h1:f16n1 s=some (bif s.data.toList.all chB then .norm else .ret):=by
   unfold f16n1;have:=f16n4_at s (by omega) s.data.toList FUEL 0 List.drop_zero (Qay (by omega));rw [show ((0:Nat):Int)=0 from rfl] at this;rw [this];cases s.data.toList.all chB<;>rfl
  rw [h1];generalize s.data.toList=l at hs;rw [decide_eq_false (by omega:¬(40:Int)<(l.length:Int))];cases l with
  | nil=>rfl
  | cons b r =>
   have h0:at? (b::r) 0=some b:=rfl;rw [decide_eq_false (by simp; omega:¬(((b::r).length:Nat):Int)<1),h0];simp only [cond_false,Option.bind_some,f29_eq,isNm,decide_eq_true hs,Bool.true_and,List.all_cons,chB];cases ltrI b.toNat<;>cases othI b.toNat<;>cases r.all chB<;>rfl
 ·rw [decide_eq_false (by omega:¬((s.data.toList.length:Nat):Int)<1),decide_eq_true (by omega:(40:Int)<((s.data.toList.length:Nat):Int))];have:isNm s.data.toList=false:=by
   generalize s.data.toList=l at hs;cases l with
   | nil=>rfl
   | cons b r=>simp only [isNm,decide_eq_false hs,Bool.false_and]
  rw [this]; rfl
theorem f32_eq(a:Int):f32 a=some false:=by unfold f32 f32n0; simp
theorem f33_eq(a:ByteArray):f33 a=some false:=by unfold f33 f33n0; simp [Qbg]
theorem f21_eq(a b:Int):f21 a b=some (cmpI a b):=by
 unfold f21 f21n0 cmpI;rw [f32_eq,f32_eq];simp only [Option.bind_some,cond_false];cases decide (a<b)<;>cases decide (b<a)<;>rfl
theorem f22_eq(a b:ByteArray):f22 a b=some (cmpB a b):=by
 unfold f22 f22n0 cmpB;rw [f33_eq,f33_eq];simp only [Option.bind_some,cond_false];cases slt a b<;>cases seq a b<;>rfl
theorem f20_eq(x y z:Int):f20 [x,y,z]=some (cmpOr x (cmpOr y z)):=by
 unfold f20 f20n0 f20n1 cmpOr;rw [f20n2_run [x,y,z] (Qbt (by simp))]
 by_cases hx:x=0
 ·by_cases hy:y=0
  ·by_cases hz:z=0
   ·subst hx hy hz; rfl
   ·subst hx hy; simp only [f20n2L,decide_eq_false hz,decide_true,cond_true,cond_false,Option.bind_some]
  ·subst hx; simp only [f20n2L,decide_eq_false hy,decide_true,cond_true,cond_false,Option.bind_some]
 ·simp only [f20n2L,decide_eq_false hx,cond_false,Option.bind_some]
theorem cmpOr_zero{a b:Int} : cmpOr a b=0↔a=0∧b=0:=by
 unfold cmpOr
 by_cases h:a=0
 ·rw [decide_eq_true h]; simp [h]
 ·rw [decide_eq_false h]; simp [h]
def namesB(x:NF):Bool:=(seq x.Set Qau||nmB x.Set)&&(nmB x.Ccy&&(nmB x.From&&(nmB x.To&&!(seq x.From x.To))))
def goodF(x:NF):Bool:=namesB x&&(decide (0≤x.Date)&&(decide (x.Date≤99999)&&(decide (1≤x.Amount)&&decide (x.Amount≤1125899906842624))))
theorem f27_eq(x:NF):f27 x=some (goodF x):=by
 have h1:f27n1 x=some (.norm (namesB x)):=by
  unfold f27n1 namesB;rw [f16_eq,f16_eq,f16_eq,f16_eq];cases seq x.Set Qau<;>cases nmB x.Set<;>cases nmB x.Ccy<;>cases nmB x.From<;>cases nmB x.To<;>cases seq x.From x.To<;>rfl
 unfold f27 f27n0 goodF;rw [h1];cases namesB x<;>cases decide (0≤x.Date)<;>cases decide (x.Date≤99999)<;>cases decide (1≤x.Amount)<;>cases decide (x.Amount≤1125899906842624)<;>rfl
theorem f39n2L_eq(bg:List NF):∀(l:List NF)(v:Int),0≤v→∃o,f39_26n2L bg l v=some o∧(l.all goodF=true→o = .exit0)∧(l.all goodF=false→∃w,0≤w∧o = .ret w)
 | [],v,_=>⟨.exit0,rfl,fun _=>rfl,fun h=>by cases h⟩
 | x::r,v,hv=>by
  have e56:f26 x=some (!(goodF x)):=by unfold f26 f26n0; rw [f27_eq]; rfl
  obtain ⟨o,h1,h2,h3⟩:=f39n2L_eq bg r (v+1) (by omega);rw [f39_26n2L,e56,List.all_cons];simp only [Option.bind_some];cases goodF x with
  | true=>exact ⟨o,h1,by simpa using h2,by simpa using h3⟩
  | false=>exact ⟨.ret v,rfl,fun h=>by simp at h,fun _=>⟨v,hv,rfl⟩⟩
def listB(l:List NF):Bool:=decide (l.length≤500)&&l.all goodF
theorem f15_eq{l:List NF}(hm:l.length≤maxLen):f15 l=some (bif listB l then 0 else 8):=by
 have hc:f28_26 l=some (!(l.all goodF)):=by
  obtain ⟨o,h1,h2,h3⟩:=f39n2L_eq l l 0 (by omega);unfold f28_26 f28_26n0 f39_26 f39_26n0 f39_26n1;rw [f39_26n2_run l hm,h1];cases ha:l.all goodF with
  | true=>rw [h2 ha]; rfl
  | false =>
   obtain ⟨w,hw,e⟩:=h3 ha;rw [e];simp only [Option.bind_some];rw [decide_eq_true hw]; rfl
 unfold f15 f15n0 listB;rw [ltNot,show decide ((l.length:Int)≤500)=decide (l.length≤500) by congr 1; apply propext; omega,hc];cases decide (l.length≤500)<;>cases l.all goodF<;>rfl
theorem key_iff(a b:Key_):Key_.eqb a b=true↔a=b:=⟨Key_.eqb_eq,fun h=>by subst h; simp [Key_.eqb,Qbg]⟩
abbrev KM:=List (Key_×Int)
def gK(k:Key_)(m:KM):Int:=mGet Key_.eqb 0 k m
def sF(w:NF→Int):List NF→Int
 | []=>0
 | x::r=>w x+sF w r
theorem sF_app(w:NF→Int):∀a b:List NF,sF w (a++b)=sF w a+sF w b
 | [],b=>by simp [sF]
 | x::a,b=>by simp only [List.cons_append,sF,sF_app w a b]; omega
theorem sF_bound(w:NF→Int)(b:Int):∀l:List NF,(∀x∈l,-b≤w x∧w x≤b)→-(b*l.length)≤sF w l∧sF w l≤b*l.length
 | [],_=>by simp [sF]
 | x::r,h=>by
  have h1:=h x List.mem_cons_self;have h2:=sF_bound w b r fun y hy=>h y (List.mem_cons_of_mem _ hy);simp only [sF,List.length_cons,Int.natCast_add,Int.mul_add];simp only [Int.natCast_one,Int.mul_one];omega
theorem goodF_amt{x:NF}(h:goodF x=true):1≤x.Amount∧x.Amount≤1125899906842624:=by
 unfold goodF at h;simp only [Bool.and_eq_true,decide_eq_true_eq] at h;exact h.2.2.2
def mk1(k:Key_)(a b:ByteArray)(n:Int):NF:=bif decide (n<0) then ⟨k.date,k.set,k.ccy,b,a,-n⟩ else ⟨k.date,k.set,k.ccy,a,b,n⟩
theorem f17_eq{k:Key_}{a b:ByteArray}{n:Int}(h1:-4611686018427387904≤n):f17 k a b n=some (mk1 k a b n,!decide (n=0)):=by
 unfold f17 f17n0 mk1;rw [show wr64 (0-n)=wr64 (-n) by rw [Int.zero_sub]]
 by_cases h:n<0
 ·rw [decide_eq_true h,cond_true,cond_true,wrIn (by omega) (by omega)]; rfl
 ·rw [decide_eq_false h]; rfl
def okAmt(n:Int):Bool:=decide (-1125899906842624≤n)&&decide (n≤1125899906842624)
theorem mx_eq{n:Int}(h1:-4611686018427387904≤n)(h2:n≤4611686018427387904):decide ((1125899906842624:Int)<mxI n (wr64 (0-n))) = !okAmt n:=by
 rw [wrIn (n:=0-n) (by omega) (by omega)];unfold okAmt;have e:mxI n (0-n)=if 0≤n then n else -n:=by
  unfold mxI
  by_cases h:0≤n
  ·rw [if_pos h,decide_eq_false (by omega)]; rfl
  ·rw [if_neg h,decide_eq_true (by omega),cond_true]; omega
 rw [e,←Bool.decide_and,←decide_not]
 apply decide_eq_decide.2
 split<;>omega

def kT(x:NF):Key_:=⟨x.Date,x.To,x.Ccy⟩
def kF(x:NF):Key_:=⟨x.Date,x.From,x.Ccy⟩
def putF(x:NF)(m:KM):KM:=mPut Key_.eqb (kF x) (gK (kF x) m-x.Amount) m
def putT(x:NF)(m:KM):KM:=mPut Key_.eqb (kT x) (gK (kT x) m+x.Amount) m
def addH:List NF→KM→KM
 | [],m=>m
 | x::r,m=>addH r (putT x (putF x m))
def wH(k:Key_)(x:NF):Int:=(bif Key_.eqb k (kT x) then x.Amount else 0)-(bif Key_.eqb k (kF x) then x.Amount else 0)
theorem gK_put(k q:Key_)(v:Int)(m:KM):gK q (mPut Key_.eqb k v m)=bif Key_.eqb q k then v else gK q m:=by unfold gK; exact mgetPut key_iff _ _ _ _ m
theorem gK_F(k:Key_)(x:NF)(m:KM):gK k (putF x m)=gK k m-(bif Key_.eqb k (kF x) then x.Amount else 0):=by
 unfold putF;rw [gK_put];cases h:Key_.eqb k (kF x) with
 | true=>rw [(key_iff _ _).1 h]; rfl
 | false=>simp
theorem gK_T(k:Key_)(x:NF)(m:KM):gK k (putT x m)=gK k m+(bif Key_.eqb k (kT x) then x.Amount else 0):=by
 unfold putT;rw [gK_put];cases h:Key_.eqb k (kT x) with
 | true=>rw [(key_iff _ _).1 h]; rfl
 | false=>simp
theorem addH_get(k:Key_):∀(l:List NF)(m:KM),gK k (addH l m)=gK k m+sF (wH k) l
 | [],m=>by simp [addH,sF]
 | x::r,m=>by rw [addH,addH_get k r,gK_T,gK_F,sF,wH]; omega
theorem addH_nd:∀(l:List NF){m:KM},ndK m→ndK (addH l m)
 | [],m,h=>h
 | x::r,m,h=>addH_nd r (mputNd key_iff (mputNd key_iff h))
theorem addH_len:∀(l:List NF)(m:KM),(addH l m).length≤m.length+2*l.length
 | [],m=>by simp [addH]
 | x::r,m=>by
  have h1:=addH_len r (putT x (putF x m));have h2:=mputLen (E:=Key_.eqb) (kT x) (gK (kT x) (putF x m)+x.Amount) (putF x m);have h3:=mputLen (E:=Key_.eqb) (kF x) (gK (kF x) m-x.Amount) m;rw [addH];unfold putT putF at *;simp only [List.length_cons];omega
theorem addH_app:∀(a b:List NF)(m:KM),addH (a++b) m=addH b (addH a m)
 | [],b,m=>rfl
 | x::a,b,m=>by rw [List.cons_append,addH,addH]; exact addH_app a b _
theorem wH_bd{k:Key_}{l:List NF}(hg:∀x∈l,goodF x=true)(hl:l.length≤500) : -562949953421312000≤sF (wH k) l∧sF (wH k) l≤562949953421312000:=by
 have:=sF_bound (wH k) 1125899906842624 l fun x hx=>by
  have:=goodF_amt (hg x hx);unfold wH;cases Key_.eqb k (kT x)<;>cases Key_.eqb k (kF x)<;>simp only [cond_true,cond_false]<;>omega
 omega
def Qbj(l:List NF):KM:=addH l []
theorem gH_bd{l:List NF}(hg:∀x∈l,goodF x=true)(hl:l.length≤500)(k:Key_) : -562949953421312000≤gK k (Qbj l)∧gK k (Qbj l)≤562949953421312000:=by
 unfold Qbj;rw [addH_get];have:=wH_bd (k:=k) hg hl;have e:gK k []=0:=rfl;omega
theorem sumsH_mem{l:List NF}{e:Key_×Int}(he:e∈Qbj l):gK e.1 (Qbj l)=e.2 :=
 mgetMem key_iff (z:=(0:Int)) (k:=e.1) (v:=e.2) (addH_nd l List.Pairwise.nil) he
theorem sumsH_bd{l:List NF}(hg:∀x∈l,goodF x=true)(hl:l.length≤500):∀e∈Qbj l,-562949953421312000≤e.2∧e.2≤562949953421312000:=fun e he=>by
 have:=gH_bd hg hl e.1;rw [sumsH_mem he] at this;exact this
theorem f7w_eq(hub:ByteArray){bg:List NF}(hg:∀x∈bg,goodF x=true)(hl:bg.length≤500):∀(l pre:List NF)(v:Int),bg=pre++l→f7n2L hub bg l v (addH pre [])=some (.exit0 (Qbj bg))
 | [],pre,v,h=>by rw [List.append_nil] at h; subst h; rfl
 | x::r,pre,v,h=>by
  have ih:=f7w_eq hub hg hl r (pre++[x]) (v+1) (by rw [h]; simp);have hx:goodF x=true:=hg x (by rw [h]; simp);have hp:∀y∈pre,goodF y=true:=fun y hy=>hg y (by rw [h]; simp [hy]);have hpl:pre.length+1≤500:=by rw [h] at hl; simp at hl; omega
  have ha:=goodF_amt hx;have hb1:=gH_bd hp (by omega) (kF x);have hb2:=gH_bd hp (by omega) (kT x);rw [addH_app,addH] at ih;unfold Qbj at hb1 hb2;have e1:wr64 (mGet Key_.eqb 0 (Key_.mk x.Date x.From x.Ccy) (addH pre [])-x.Amount)=gK (kF x) (addH pre [])-x.Amount:=by
   show wr64 (gK (kF x) (addH pre [])-x.Amount)=_;rw [wrIn (by omega) (by omega)]
  have e2:wr64 (mGet Key_.eqb 0 (Key_.mk x.Date x.To x.Ccy) (putF x (addH pre []))+x.Amount)=gK (kT x) (putF x (addH pre []))+x.Amount:=by
   show wr64 (gK (kT x) (putF x (addH pre []))+x.Amount)=_;have:=gK_F (kT x) x (addH pre []);rw [this];cases Key_.eqb (kT x) (kF x)<;>simp only [cond_true,cond_false]<;>rw [wrIn (by omega) (by omega)]
  rw [f7n2L,e1];show f7n2L hub bg r (v+1) (mPut Key_.eqb (Key_.mk x.Date x.To x.Ccy) (wr64 (mGet Key_.eqb 0 (Key_.mk x.Date x.To x.Ccy) (putF x (addH pre []))+x.Amount)) (putF x (addH pre [])))=_;rw [e2];exact ih

def shr(hub:ByteArray)(e:Key_×Int):Ql:=⟨e.1.set,mk1 ⟨e.1.date,Qau,e.1.ccy⟩ hub e.1.set e.2⟩
def selH(hub:ByteArray)(e:Key_×Int):Bool:=!(seq e.1.set hub)&&!(decide (e.2=0))
def okH(hub:ByteArray)(p:KM):Bool:=p.all fun e=>seq e.1.set hub||okAmt e.2
def madeH(hub:ByteArray)(p:KM):List Ql:=(p.filter (selH hub)).map (shr hub)
theorem madeH_cons(hub:ByteArray)(e:Key_×Int)(p:KM):madeH hub (e::p)=(bif selH hub e then [shr hub e] else [])++madeH hub p:=by
 unfold madeH;rw [List.filter_cons];cases selH hub e<;>simp
theorem f7n4_eq(hub:ByteArray)(bi:KM):∀(p:KM)(o:List Ql),(∀e∈p,-562949953421312000≤e.2∧e.2≤562949953421312000)→o.length+p.length≤10000 →
  f7n4 hub bi p o=some (bif okH hub p then .exit2 (o++madeH hub p) else .ret)
 | [],o,_,_=>by simp [f7n4,madeH,okH]
 | e::p,o,hb,hn=>by
  simp only [List.length_cons] at hn;have he:=hb e List.mem_cons_self;have ih:=fun o'=>f7n4_eq hub bi p o' fun x hx=>hb x (List.mem_cons_of_mem _ hx);unfold okH at ih ⊢;rw [f7n4,mx_eq (by omega) (by omega),List.all_cons,madeH_cons];unfold selH;cases seq e.1.set hub with
  | true=>simp only [cond_true,Bool.true_or,Bool.true_and,Bool.not_true,Bool.false_and,cond_false,List.nil_append]; exact ih o (by omega)
  | false =>
   cases okAmt e.2 with
   | false=>rfl
   | true =>
    simp only [Bool.not_true,cond_false,Option.bind_some,Bool.true_and,Bool.false_or,Bool.not_false];rw [f17_eq (by omega)];simp only [Option.bind_some];cases h0:decide (e.2=0) with
    | true=>simp only [Bool.not_true,cond_false,List.nil_append]; exact ih o (by omega)
    | false =>
     simp only [Bool.not_false,cond_true];rw [req,fitSmall (by omega) (by omega),cond_true];have:=ih (o++[shr hub e]) (by simp; omega);simpa [shr] using this
def cS(a b:Ql):Int:=cmpOr (cmpI a.flow.Date b.flow.Date) (cmpOr (cmpB a.flow.Ccy b.flow.Ccy) (cmpB a.party b.party))
theorem cS_cmp:Cmp cS:=(Cmp.int fun x:Ql=>x.flow.Date).lex ((Cmp.str fun x:Ql=>x.flow.Ccy).lex (Cmp.str Ql.party))
theorem f19_eq(a b:Ql):f19 a b=some (cS a b):=by
 unfold f19 f19n0;rw [f21_eq,f22_eq,f22_eq];simp only [Option.bind_some,f20_eq];rfl
theorem cS_zero{a b:Ql} : cS a b=0↔a.flow.Date=b.flow.Date∧a.flow.Ccy=b.flow.Ccy∧a.party=b.party:=by
 unfold cS;rw [cmpOr_zero,cmpOr_zero,cmpI_zero,cmpB_zero,cmpB_zero]
abbrev ltS:Ql→Ql→Bool:=fun x y=>decide (cS x y<0)
theorem swo_S:SWo ltS:=cS_cmp.swo
theorem sortL_S{a b:List Ql}(hp:b.Perm a)(hn:a.Pairwise fun x y=>eqv ltS x y=false):sortL cS b=sortS ltS a :=
 sortS_of swo_S (sortL_sorted cS_cmp.SWO b) (Cl.of_perm ((sortL_perm cS_cmp.SWO b).trans hp) hn swo_S)
theorem mk1_fields(k:Key_)(a b:ByteArray)(n:Int):(mk1 k a b n).Date=k.date∧(mk1 k a b n).Set=k.set∧(mk1 k a b n).Ccy=k.ccy:=by
 unfold mk1;cases decide (n<0)<;>exact ⟨rfl,rfl,rfl⟩
theorem madeH_key(hub:ByteArray){m:KM}(h:ndK m):(madeH hub m).Pairwise fun x y=>eqv ltS x y=false:=by
 unfold madeH;rw [List.pairwise_map];refine (h.sublist List.filter_sublist).imp fun {a b} hab=>?_;cases e:eqv ltS (shr hub a) (shr hub b) with
 | false=>rfl
 | true =>
  obtain ⟨h1,h2,h3⟩:=cS_zero.1 (cS_cmp.eqv.1 e);unfold shr at h1 h2 h3;simp only [mk1_fields] at h1 h2 h3;refine absurd ?_ hab;obtain ⟨⟨d,p,c⟩,n⟩:=a;obtain ⟨⟨d',p',c'⟩,n'⟩:=b;simp only at h1 h2 h3;rw [h1,h2,h3]
theorem madeH_len(hub:ByteArray)(p:KM):(madeH hub p).length≤p.length:=by
 unfold madeH; rw [List.length_map]; exact List.length_filter_le _ _
theorem f7u_eq(bm:List Ql):∀(l:List Ql)(v:Int)(o:List NF),o.length+l.length≤10000→f7n6L bm l v o=some (.exit4 (o++l.map Ql.flow))
 | [],v,o,_=>by simp [f7n6L]
 | x::r,v,o,h=>by
  simp only [List.length_cons] at h;rw [f7n6L,req,fitSmall (by omega) (by omega),cond_true,f7u_eq bm r (v+1) (o++[x.flow]) (by simp; omega)]
  simp
def hubM(hub:ByteArray)(m:KM):List NF×Int:=bif okH hub m then bif decide (500<(madeH hub m).length) then ([],4) else ((sortS ltS (madeH hub m)).map Ql.flow,0) else ([],14)
def hubS(hub:ByteArray)(l:List NF):List NF×Int:=bif listB l then bif nmB hub then hubM hub (Qbj l) else ([],2) else ([],8)
theorem listB_iff{l:List NF}(h:listB l=true):l.length≤500∧∀x∈l,goodF x=true:=by
 unfold listB at h
 rwa [Bool.and_eq_true,decide_eq_true_eq,List.all_eq_true] at h
theorem f7_eq(hub:ByteArray){l:List NF}(hm:l.length≤maxLen):f7 hub l=some (hubS hub l):=by
 unfold f7 f7n0 hubS;rw [f15_eq hm];cases hc:listB l with
 | false=>rfl
 | true =>
  obtain ⟨hl,hg⟩:=listB_iff hc;simp only [cond_true,Option.bind_some,decide_true,f16_eq];cases nmB hub with
  | false=>rfl
  | true =>
   have h1:f7n1 hub l=some (.norm (Qbj l)):=by
    unfold f7n1;rw [f7n2_run hub l [] (Qbt (by omega))];have:=f7w_eq hub hg hl l [] 0 rfl;have this':f7n2L hub l l 0 []=_:=this;rw [this']; rfl
   have hlen:(Qbj l).length≤1000:=by
    have:=addH_len l [];unfold Qbj;simp only [List.length_nil] at this;omega
   have h3:∀p,p.Perm (Qbj l)→f7n3 hub (Qbj l) p=some (bif okH hub (Qbj l) then .norm (madeH hub p) else .ret):=fun p hp=>by
    unfold f7n3;rw [f7n4_eq hub _ p [] (fun e he=>sumsH_bd hg hl e (hp.mem_iff.1 he)) (by rw [hp.length_eq]; simp; omega)];unfold okH;rw [hp.all_eq];cases (Qbj l).all fun e=>seq e.1.set hub||okAmt e.2<;>rfl
   have hn:=madeH_len hub (Qbj l);unfold hubM;simp only [cond_true,h1,Option.bind_some];cases ho:okH hub (Qbj l) with
   | false =>
    rw [anyOrder_of (o:=f7n0O.ret 14 []) fun p hp=>?_]
    ·rfl
    ·rw [h3 p hp,ho]; rfl
   | true =>
    rw [anyOrder_of (o:=bif decide (500<(madeH hub (Qbj l)).length) then f7n0O.ret 4 [] else f7n0O.ret 0 ((sortS ltS (madeH hub (Qbj l))).map Ql.flow)) fun p hp=>?_]
    ·cases decide (500<(madeH hub (Qbj l)).length)<;>rfl
    ·have hp2:(madeH hub p).Perm (madeH hub (Qbj l)):=(hp.filter _).map _;rw [h3 p hp,ho];simp only [cond_true,Option.bind_some];rw [hp2.length_eq,show decide ((500:Int)<(((madeH hub (Qbj l)).length:Nat):Int))=decide (500<(madeH hub (Qbj l)).length) by congr 1; apply propext; omega]
     by_cases h5:500<(madeH hub (Qbj l)).length
     ·rw [decide_eq_true h5]; rfl
     ·rw [decide_eq_false h5,cond_false,cond_false,so18_19_val f19_eq cS_cmp.SWO (by rw [hp2.length_eq]; omega)];have e:=sortL_S hp2 (madeH_key hub (addH_nd l List.Pairwise.nil));have hsl:(sortS ltS (madeH hub (Qbj l))).length≤1000:=by rw [sortS_len swo_S]; omega
      simp only [Option.bind_some];have e':sortL cS (madeH hub p)=sortS ltS (madeH hub (Qbj l)):=e;rw [e'];unfold f7n5;rw [f7n6_run (sortS ltS (madeH hub (Qbj l))) [] (Qbt (by omega)),f7u_eq _ _ 0 [] (by simp; omega)];rfl
theorem eqb_refl(x:NF):Qb.eqb x x=true:=by unfold Qb.eqb; simp [Qbg]
theorem f9n2L_same(a b:List NF):∀(l pre:List NF),b=pre++l→f9n2L a b l ((pre.length:Nat):Int)=some .exit0
 | [],pre,_=>rfl
 | x::r,pre,h=>by
  have ih:=f9n2L_same a b r (pre++[x]) (by rw [h]; simp);rw [List.length_append,show (((pre.length + [x].length:Nat)):Int)=(pre.length:Int)+1 from by simp] at ih;rw [f9n2L,at_len (a:=pre) (x:=x) (b:=r) h rfl];simp only [Option.bind_some,eqb_refl,cond_true];exact ih
theorem f9_same{a b:List NF}(h:a=b)(hl:a.length≤1000000):f9 a b=some true:=by
 subst h;have:f9n1 a a=some .norm:=by
  unfold f9n1;rw [f9n2_run a a (Qbt hl)];have:=f9n2L_same a a a [] rfl;have this':f9n2L a a a 0=_:=this;rw [this']; rfl
 unfold f9 f9n0;rw [this,decide_eq_true rfl]; rfl
end Go.Proofs.Ytglmageljnlhcaa
namespace Go.Proofs.Ytglmageljnlhcaa
set_option linter.unusedVariables false
set_option linter.unusedSimpArgs false
open Go.RowKit
theorem nodup_perm{α:Type} : ∀{a b:List α},a.Pairwise (fun x y=>x≠y)→b.Pairwise (fun x y=>x≠y)→(∀x,x∈a↔x∈b)→a.Perm b
 | [],b,_,_,h=>by
  cases b with
  | nil=>exact .refl _
  | cons y r=>exact absurd ((h y).2 List.mem_cons_self) List.not_mem_nil
 | x::a,b,ha,hb,h=>by
  obtain ⟨b1,b2,rfl⟩:=List.append_of_mem ((h x).1 List.mem_cons_self);have hx:=List.pairwise_cons.1 ha;have hb':=List.pairwise_append.1 hb;have hb2:=List.pairwise_cons.1 hb'.2.1;have hn:(b1++b2).Pairwise fun x y=>x≠y:=List.pairwise_append.2 ⟨hb'.1,hb2.2,fun u hu v hv=>hb'.2.2 u hu v (List.mem_cons_of_mem _ hv)⟩;have ih:=nodup_perm hx.2 hn fun y=>by
   constructor
   ·intro hy;have:=(h y).1 (List.mem_cons_of_mem _ hy);rcases List.mem_append.1 this with k | k
    ·exact List.mem_append_left _ k
    ·rcases List.mem_cons.1 k with rfl | k
     ·exact absurd rfl (hx.1 y hy)
     ·exact List.mem_append_right _ k
   ·intro hy;have hm:y∈b1++x::b2:=by
     rcases List.mem_append.1 hy with k | k
     ·exact List.mem_append_left _ k
     ·exact List.mem_append_right _ (List.mem_cons_of_mem _ k)
    rcases List.mem_cons.1 ((h y).2 hm) with rfl | k
    ·rcases List.mem_append.1 hy with k | k
     ·exact absurd rfl (hb'.2.2 y k y List.mem_cons_self)
     ·exact absurd rfl (hb2.1 y k)
    ·exact k
  exact (ih.cons x).trans List.perm_middle.symm
def nzK(m:KM):KM:=m.filter fun e=>!(decide (e.2=0))
theorem gK_mem{k:Key_} : ∀{m:KM},gK k m≠0→(k,gK k m)∈m
 | [],h=>absurd rfl h
 | (a,w)::r,h=>by
  unfold gK at h ⊢;rw [mGet] at h ⊢;cases hk:Key_.eqb k a with
  | true =>
   have:=(key_iff _ _).1 hk; subst this;exact List.mem_cons_self
  | false =>
   rw [hk] at h;exact List.mem_cons_of_mem _ (gK_mem (m:=r) h)
theorem nzK_perm{a b:KM}(ha:ndK a)(hb:ndK b)(h:∀k,gK k a=gK k b):(nzK a).Perm (nzK b):=by
 have one:∀{a b:KM},ndK a→(∀k,gK k a=gK k b)→∀x,x∈nzK a→x∈nzK b:=fun {a b} ha h x hx=>by
  unfold nzK at hx ⊢;obtain ⟨h1,h2⟩:=List.mem_filter.1 hx;refine List.mem_filter.2 ⟨?_,h2⟩;have e1:gK x.1 a=x.2:=mgetMem key_iff (z:=(0:Int)) (k:=x.1) (v:=x.2) ha h1;have e2:gK x.1 b=x.2:=(h x.1).symm.trans e1;have hn:x.2≠0:=by simpa using h2
  have:=gK_mem (k:=x.1) (m:=b) (by rw [e2]; exact hn);rw [e2] at this;exact this
 exact nodup_perm ((ha.sublist List.filter_sublist).imp fun k e=>k (by rw [e])) ((hb.sublist List.filter_sublist).imp fun k e=>k (by rw [e])) fun x=>⟨one ha h x,one hb (fun k=>(h k).symm) x⟩
theorem okH_nz(hub:ByteArray):∀m:KM,okH hub m=okH hub (nzK m)
 | []=>rfl
 | e::r=>by
  have ih:=okH_nz hub r;unfold okH nzK at *;rw [List.all_cons,List.filter_cons,ih]
  by_cases h:e.2=0
  ·rw [decide_eq_true h,if_neg (by simp),h];have:okAmt 0=true:=by decide
   rw [this]; simp
  ·rw [decide_eq_false h,if_pos (by rfl),List.all_cons]
theorem madeH_nz(hub:ByteArray):∀m:KM,madeH hub m=madeH hub (nzK m)
 | []=>rfl
 | e::r=>by
  rw [madeH_cons,madeH_nz hub r];unfold nzK;rw [List.filter_cons]
  by_cases h:e.2=0
  ·rw [decide_eq_true h,if_neg (by simp)];unfold selH;rw [decide_eq_true h]; simp
  ·rw [decide_eq_false h,if_pos (by rfl),madeH_cons]
theorem hubM_same(hub:ByteArray){a b:KM}(ha:ndK a)(hb:ndK b)(h:∀k,gK k a=gK k b):hubM hub a=hubM hub b:=by
 have hp:=nzK_perm ha hb h;have h1:(madeH hub a).Perm (madeH hub b):=by
  rw [madeH_nz hub a,madeH_nz hub b];exact (hp.filter _).map _
 have h2:okH hub a=okH hub b:=by
  rw [okH_nz hub a,okH_nz hub b];unfold okH;exact hp.all_eq
 unfold hubM;rw [h2,h1.length_eq,sort_perm h1 (madeH_key hub hb) swo_S]
theorem hubS_same(hub:ByteArray){a b:List NF}(ha:listB a=true)(hb:listB b=true)(h:∀k,sF (wH k) a=sF (wH k) b):hubS hub a=hubS hub b:=by
 unfold hubS;rw [ha,hb,hubM_same hub (a:=Qbj a) (b:=Qbj b) (addH_nd a List.Pairwise.nil) (addH_nd b List.Pairwise.nil) fun k=>by unfold Qbj; rw [addH_get,addH_get,h k]]
end Go.Proofs.Ytglmageljnlhcaa
namespace Go.Proofs.Ytglmageljnlhcaa
set_option linter.unusedVariables false
set_option linter.unusedSimpArgs false
open Go.RowKit
abbrev CT:=Qa

def sg(k:ByteArray)(x:CT):Int:=(bif seq x.To k then 1 else 0)-(bif seq x.From k then 1 else 0)
def nw(w:ByteArray→Int)(k:ByteArray)(x:CT):Int:=w x.Contract*x.Amount*sg k x
def sT(g:CT→Int):List CT→Int
 | []=>0
 | x::r=>g x+sT g r
def les(n:Int)(x:CT):CT:=⟨x.From,x.To,x.Contract,x.Amount-n⟩
def les1(n:Int):Nat→List CT→List CT
 | _,[]=>[]
 | 0,x::r=>les n x::r
 | i+1,x::r=>x::les1 n i r
theorem Qbe(n:Int):∀(i:Nat)(l:List CT),(les1 n i l).length=l.length
 | _,[]=>by cases ‹Nat›<;>rfl
 | 0,x::r=>rfl
 | i+1,x::r=>by rw [les1,List.length_cons,Qbe n i r,List.length_cons]
theorem les1_set(n:Int):∀(i:Nat)(l:List CT)(h:i<l.length),les1 n i l=l.set i (les n l[i])
 | _,[],h=>by cases h
 | 0,x::r,_=>rfl
 | i+1,x::r,h=>by
  rw [les1,les1_set n i r (by simpa using h)]; rfl
theorem les1_get(n:Int)(l:List CT)(i j:Nat)(hi:i<l.length)(hj:j<l.length):(les1 n i l)[j]'(by rw [Qbe]; exact hj)=if i=j then les n l[j] else l[j]:=by
 have h:=les1_set n i l hi;have:(les1 n i l)[j]'(by rw [Qbe]; exact hj)=(l.set i (les n l[i]))[j]'(by rw [List.length_set]; exact hj):=by congr 1
 rw [this,List.getElem_set]
 by_cases e:i=j
 ·subst e; simp
 ·rw [if_neg e,if_neg e]
theorem les1_sum(w:ByteArray→Int)(k:ByteArray)(n:Int):∀(i:Nat)(l:List CT)(h:i<l.length),sT (nw w k) (les1 n i l)=sT (nw w k) l-n*(w l[i].Contract*sg k l[i])
 | _,[],h=>by cases h
 | 0,x::r,_=>by
  rw [les1,sT,sT];show w x.Contract*(x.Amount-n)*sg k x+_=w x.Contract*x.Amount*sg k x+_-n*(w x.Contract*sg k x);rw [Int.mul_sub,Int.sub_mul];have:w x.Contract*n*sg k x=n*(w x.Contract*sg k x):=by rw [Int.mul_comm (w x.Contract) n,Int.mul_assoc]
  omega
 | i+1,x::r,h=>by
  have hr:i<r.length:=by simpa using h
  rw [les1,sT,sT,les1_sum w k n i r hr];show _=_-n*(w (r[i]).Contract*sg k r[i]);omega
def lesL(n:Int):List Nat→List CT→List CT
 | [],l=>l
 | i::c,l=>lesL n c (les1 n i l)
theorem lesL_len(n:Int):∀(c:List Nat)(l:List CT),(lesL n c l).length=l.length
 | [],_=>rfl
 | i::c,l=>by rw [lesL,lesL_len n c,Qbe]
def sam(a b:CT):Prop:=a.From=b.From∧a.To=b.To∧a.Contract=b.Contract
theorem les_sam(n:Int)(x:CT):sam (les n x) x:=⟨rfl,rfl,rfl⟩
theorem les1_sam(n:Int)(l:List CT)(i j:Nat)(hi:i<l.length)(hj:j<l.length):sam ((les1 n i l)[j]'(by rw [Qbe]; exact hj)) l[j]:=by
 rw [les1_get n l i j hi hj]
 by_cases e:i=j
 ·rw [if_pos e]; exact les_sam n _
 ·rw [if_neg e]; exact ⟨rfl,rfl,rfl⟩
theorem sg_sam{k:ByteArray}{a b:CT}(h:sam a b):sg k a=sg k b:=by unfold sg; rw [h.1,h.2.1]
def cyS(w:ByteArray→Int)(k:ByteArray)(l:List CT):List Nat→Int
 | []=>0
 | i::c=>(match l[i]? with | some x=>w x.Contract*sg k x | none=>0)+cyS w k l c
theorem cyS_sam(w:ByteArray→Int)(k:ByteArray){l m:List CT}(hlen:l.length=m.length) (h:∀j (hj:j<l.length),sam l[j] (m[j]'(by omega))):∀c:List Nat,cyS w k l c=cyS w k m c
 | []=>rfl
 | i::c=>by
  rw [cyS,cyS,cyS_sam w k hlen h c]
  congr 1
  by_cases hi:i<l.length
  ·rw [List.getElem?_eq_getElem hi,List.getElem?_eq_getElem (by omega:i<m.length)];have:=h i hi;show w l[i].Contract*sg k l[i]=w (m[i]'_).Contract*sg k (m[i]'_);rw [sg_sam this,this.2.2]
  ·rw [List.getElem?_eq_none (by omega),List.getElem?_eq_none (by omega)]
theorem lesL_sum(w:ByteArray→Int)(k:ByteArray)(n:Int):∀(c:List Nat)(l:List CT),(∀i∈c,i<l.length)→sT (nw w k) (lesL n c l)=sT (nw w k) l-n*cyS w k l c
 | [],l,_=>by rw [lesL,cyS]; omega
 | i::c,l,h=>by
  have hi:=h i List.mem_cons_self;rw [lesL,lesL_sum w k n c _ fun j hj=>by rw [Qbe]; exact h j (List.mem_cons_of_mem _ hj),les1_sum w k n i l hi,cyS,List.getElem?_eq_getElem hi];rw [cyS_sam w k (Qbe n i l) (fun j hj=>les1_sam n l i j hi (by rw [Qbe] at hj; exact hj)) c,Int.mul_add];show _=_-(n*(w l[i].Contract*sg k l[i])+_);omega
theorem lesL_get(n:Int):∀(c:List Nat)(l:List CT)(hc:∀i∈c,i<l.length)(hn:c.Nodup)(j:Nat)(hj:j<l.length),(lesL n c l)[j]'(by rw [lesL_len]; exact hj)=if j∈c then les n l[j] else l[j]
 | [],l,_,_,j,hj=>by simp [lesL]
 | i::c,l,hc,hn,j,hj=>by
  have hi:=hc i List.mem_cons_self;have hn':=List.nodup_cons.1 hn;have ih:=lesL_get n c (les1 n i l) (fun q hq=>by rw [Qbe]; exact hc q (List.mem_cons_of_mem _ hq)) hn'.2 j (by rw [Qbe]; exact hj);have e:(lesL n (i::c) l)[j]'(by rw [lesL_len]; exact hj)=(lesL n c (les1 n i l))[j]'(by rw [lesL_len,Qbe]; exact hj):=rfl;rw [e,ih];have hg:=les1_get n l i j hi hj
  by_cases e1:i=j
  ·subst e1;rw [if_neg hn'.1,if_pos List.mem_cons_self,hg,if_pos rfl]
  ·rw [hg,if_neg e1]
   by_cases e2:j∈c
   ·rw [if_pos e2,if_pos (List.mem_cons_of_mem _ e2)]
   ·rw [if_neg e2,if_neg (by intro h; rcases List.mem_cons.1 h with h | h; exact e1 h.symm; exact e2 h)]

def Way(l:List CT)(K:ByteArray):ByteArray→ByteArray→List Nat→Prop
 | a,b,[]=>a=b
 | a,b,i::c=>∃x,l[i]?=some x∧x.From=a∧x.Contract=K∧Way l K x.To b c
theorem Way.snoc{l:List CT}{K:ByteArray} : ∀{c:List Nat} {a b:ByteArray},Way l K a b c→∀{i:Nat} {x:CT},l[i]?=some x→x.From=b→x.Contract=K→Way l K a x.To (c++[i])
 | [],a,b,h,i,x,h1,h2,h3=>by
  have:a=b:=h;subst this;exact ⟨x,h1,h2,h3,rfl⟩
 | j::c,a,b,h,i,x,h1,h2,h3=>by
  obtain ⟨y,k1,k2,k3,k4⟩:=h;exact ⟨y,k1,k2,k3,k4.snoc h1 h2 h3⟩
theorem Way.sum{l:List CT}{K:ByteArray}(w:ByteArray→Int)(k:ByteArray):∀{c:List Nat} {a b:ByteArray},Way l K a b c→cyS w k l c=w K*((bif seq b k then 1 else 0)-(bif seq a k then 1 else 0))
 | [],a,b,h=>by
  have:a=b:=h;subst this;rw [cyS,Int.sub_self,Int.mul_zero]
 | j::c,a,b,h=>by
  obtain ⟨y,k1,k2,k3,k4⟩:=h;rw [cyS,k4.sum w k,k1];show w y.Contract*sg k y+_=_;unfold sg;rw [k3,k2,←Int.mul_add]
  congr 1
  omega
theorem Way.lt{l:List CT}{K:ByteArray} : ∀{c:List Nat} {a b:ByteArray},Way l K a b c→∀i∈c,i<l.length
 | j::c,a,b,h,i,hi=>by
  obtain ⟨y,k1,_,_,k4⟩:=h;rcases List.mem_cons.1 hi with rfl | hi
  ·exact (List.getElem?_eq_some_iff.1 k1).1
  ·exact k4.lt i hi
theorem round_sum{l:List CT}{K a:ByteArray}{c:List Nat}(h:Way l K a a c)(w:ByteArray→Int)(k:ByteArray)(n:Int):sT (nw w k) (lesL n c l)=sT (nw w k) l:=by
 rw [lesL_sum w k n c l h.lt,h.sum w k]; simp
def Qaz(l:List CT):List CT:=l.filter fun x=>!(decide (x.Amount=0))
theorem drop_sum(w:ByteArray→Int)(k:ByteArray):∀l:List CT,sT (nw w k) (Qaz l)=sT (nw w k) l
 | []=>rfl
 | x::r=>by
  have ih:=drop_sum w k r;unfold Qaz at *;rw [List.filter_cons]
  by_cases h:x.Amount=0
  ·rw [decide_eq_true h,if_neg (by simp),ih,sT];unfold nw;rw [h]; simp
  ·rw [decide_eq_false h,if_pos (by rfl),sT,sT,ih]
end Go.Proofs.Ytglmageljnlhcaa
