/- Functions of the program, plainly, and that the machine computes them. No condition. -/
import Derived.Test.YtbgjlpdeoljmiaaM3
namespace Go.Proofs.Ytbgjlpdeoljmiaa
set_option linter.unusedVariables false
set_option linter.unusedSimpArgs false
set_option maxRecDepth 100000
open Go.RowKit
noncomputable def c16 : Code := Try.f16.body.getD .skip
inductive f16n1O where
  | ret (v56 : Int) (v57 : List JournalRecord)
def f16n1E (a1 : List Int) : f16n1O → Ex × Tr × Hp
  | .ret v56 v57 => (.ret, mkS [(2, (.bp 0 0)), (3, (.pl (.int .i64 v56)))], [some (.box [(.own 1)]), some (.row false 3 (v57.map JournalRecord.cells))])
def f16n1S (a1 : List Int) (v35 : Int) (v36 : Int) (v37 : Int) (v38 : Int) (v39 : Reader_) (v40 : List JournalRecord) (v41 : List (Account_ × Int)) : Tr × Hp := (mkS [(0, (.pl (.sl .any 1 (a1.map (cInt .u8))))), (2, (.bp 0 0)), (4, (.bp 1 0)), (5, (.bp 2 0)), (6, (.bp 3 0)), (7, (.pl (.int .i64 v35))), (8, (.pl (.int .u64 v36)))], [some (.box [(.pl (.sl .nil 0 []))]), some (.box [(.own 4)]), some (.box [(.mp 5), (.pl (.int .i64 v37)), (.pl (.int .i64 v38))]), some (.box ((Reader_.cells v39).map .pl)), some (.row false 3 (v40.map JournalRecord.cells)), some (.map (v41.map (mkv (pAgg Account_.cells) (pInt .i64))))])
noncomputable def f16n1 : Nat → List Int → Int → Int → Int → Int → Reader_ → List JournalRecord → List (Account_ × Int) → Option f16n1O
  | 0, _, _, _, _, _, _, _, _ => none
  | f + 1, a1, v35, v36, v37, v38, v39, v40, v41 =>
    (f43r1 (wr64 (v38 + 1)) v36 v39).bind fun x44 =>
    bif x44.2.2.2.2.1 then
      (f44r3 x44.2.1 x44.2.2.1 v37 v38 x44.2.2.2.2.2 v41).bind fun x51 =>
      bif x51.1 then
        req (fit (v40.length + 1) 48) <|
        (f16n1 f a1 (wr64 ((a1.length : Int) - (x44.1.b.length : Int))) x44.2.2.2.1 x51.2.1 x51.2.2.1 x44.1 (v40 ++ [(JournalRecord.mk x44.2.1 x44.2.2.1 x44.2.2.2.2.2)]) x51.2.2.2)
      else
        some (.ret v35 v40)
    else
      some (.ret v35 v40)
theorem f16n1_ok : ∀ (f : Nat) (a1 : List Int) (v35 : Int) (v36 : Int) (v37 : Int) (v38 : Int) (v39 : Reader_) (v40 : List JournalRecord) (v41 : List (Account_ × Int)) {o : f16n1O}, (f16n1 f a1 v35 v36 v37 v38 v39 v40 v41) = some o → TL Try.prog Try.f16.ntmps 0 f (cL (cL (dropC 5 c16))) (f16n1S a1 v35 v36 v37 v38 v39 v40 v41) (fun r => r = f16n1E a1 o)
  | 0, _, _, _, _, _, _, _, _, o, h => by rw [f16n1] at h; cases h
  | f + 1, a1, v35, v36, v37, v38, v39, v40, v41, o, h => by
    rw [f16n1] at h
    refine TL.body (K := fun s => ∃ v35 : Int, ∃ v36 : Int, ∃ v37 : Int, ∃ v38 : Int, ∃ v39 : Reader_, ∃ v40 : List JournalRecord, ∃ v41 : List (Account_ × Int), s = (f16n1S a1 v35 v36 v37 v38 v39 v40 v41) ∧ (f16n1 f a1 v35 v36 v37 v38 v39 v40 v41) = some o) ?_ (by rintro _ ⟨v35, v36, v37, v38, v39, v40, v41, rfl, hk⟩; exact f16n1_ok f _ _ _ _ _ _ _ _ hk)
    refine T.block' (i := 1) (by kernel_rfl) ?_
    obtain ⟨x44, h45, h⟩ := bind_cases h
    rcases cond_cases h with ⟨h50, h⟩ | ⟨h50, h⟩
    · obtain ⟨x51, h52, h⟩ := bind_cases h
      rcases cond_cases h with ⟨h53, h⟩ | ⟨h53, h⟩
      · obtain ⟨h55, h⟩ := req_cases h
        exact run_end cfg_ok (rs := [([], [(7, .call (.tup [(.agg [(.pl (.int .i64 x44.2.1)), (.pl (.str x44.2.2.1)), (.own 9)]), (.pl (.int .u64 x44.2.2.2.1)), (.pl (.bool x44.2.2.2.2.1))]) [none, none, none, some (.box ((Reader_.cells x44.1).map .pl)), none, none, some (.box [(.pl (.int .i64 x44.2.1)), (.pl (.str x44.2.2.1)), (.own 9)]), some (.box (((cInt .u64) x44.2.2.2.1).map .pl)), some (.box ((cBool x44.2.2.2.2.1).map .pl)), some (.row false 3 (x44.2.2.2.2.2.map JournalLine.cells))])], []), ([(3, false), (4, false), (5, false), (6, false)], [(5, .call (.pl (.bool x51.1)) [none, none, some (.box [(.mp 5), (.pl (.int .i64 x51.2.1)), (.pl (.int .i64 x51.2.2.1))]), none, none, some (.map (x51.2.2.2.map (mkv (pAgg Account_.cells) (pInt .i64)))), none, none, none, some (.row false 3 (x44.2.2.2.2.2.map JournalLine.cells)), none]), (7, .bool false)], []), ([], [(4, .fits)], [(4, .row 12 ((v40 ++ [(JournalRecord.mk x44.2.1 x44.2.2.1 x44.2.2.2.2.2)]).map JournalRecord.cells))]), ([], [], [(1, .val (.pl (.int .i64 (a1.length : Int)))), (6, .val (.pl (.int .i64 (x44.1.b.length : Int))))])]) (ps := [some false]) (tds := []) (m := [0, 1, 2, 3, 12, 5]) (keep := [0, 2, 4, 5, 6, 7, 8]) (r := (.norm, (f16n1S a1 (wr64 ((a1.length : Int) - (x44.1.b.length : Int))) x44.2.2.2.1 x51.2.1 x51.2.2.1 x44.1 (v40 ++ [(JournalRecord.mk x44.2.1 x44.2.2.1 x44.2.2.2.2.2)]) x51.2.2.2))) (by kernel_rfl) (ap (CallS.ren (args' := [(.bp 3 0), (.pl (.int .i64 (wr64 (v38 + 1)))), (.pl (.int .u64 v36))]) (v' := (.tup [(.agg [(.pl (.int .i64 x44.2.1)), (.pl (.str x44.2.2.1)), (.own 9)]), (.pl (.int .u64 x44.2.2.2.1)), (.pl (.bool x44.2.2.2.2.1))])) (B := [none, none, none, some (.box ((Reader_.cells v39).map .pl)), none, none]) (B' := [none, none, none, some (.box ((Reader_.cells x44.1).map .pl)), none, none, some (.box [(.pl (.int .i64 x44.2.1)), (.pl (.str x44.2.2.1)), (.own 9)]), some (.box (((cInt .u64) x44.2.2.2.1).map .pl)), some (.box ((cBool x44.2.2.2.2.1).map .pl)), some (.row false 3 (x44.2.2.2.2.2.map JournalLine.cells))]) 6 [3] (f43r1_ok (wr64 (v38 + 1)) v36 v39 h45) (by kernel_rfl) (by kernel_rfl) (by kernel_rfl) (by kernel_rfl) (by kernel_rfl) (by kernel_rfl)) (ap (not_t h50) (ap (not_t h50) (ap (not_t h50) (ap (not_t h50) (ap (not_t h50) (ap (CallS.ren (args' := [(.bp 2 0), (.agg [(.pl (.int .i64 x44.2.1)), (.pl (.str x44.2.2.1)), (.own 9)])]) (v' := (.pl (.bool x51.1))) (B := [none, none, some (.box [(.mp 5), (.pl (.int .i64 v37)), (.pl (.int .i64 v38))]), none, none, some (.map (v41.map (mkv (pAgg Account_.cells) (pInt .i64)))), none, none, none, some (.row false 3 (x44.2.2.2.2.2.map JournalLine.cells)), none]) (B' := [none, none, some (.box [(.mp 5), (.pl (.int .i64 x51.2.1)), (.pl (.int .i64 x51.2.2.1))]), none, none, some (.map (x51.2.2.2.map (mkv (pAgg Account_.cells) (pInt .i64)))), none, none, none, some (.row false 3 (x44.2.2.2.2.2.map JournalLine.cells)), none]) 11 [2, 9, 5] (f44r3_ok x44.2.1 x44.2.2.1 v37 v38 x44.2.2.2.2.2 v41 h52) (by kernel_rfl) (by kernel_rfl) (by kernel_rfl) (by kernel_rfl) (by kernel_rfl) (by kernel_rfl)) (ap (not_t h53) (ap (fit_map (te := ti47) (xs := v40) (n := 1) (c := JournalRecord.cells) h55 rfl) (ap (app_cv (xs := v40) (ys := [(JournalRecord.mk x44.2.1 x44.2.2.1 x44.2.2.2.2.2)]) (c := JournalRecord.cells)) (ap (len_cv (xs := a1) (c := (cInt .u8))) (ap (len_cv (xs := x44.1.b) (c := (cInt .u8))) an)))))))))))) (LoopQ.norm ⟨(wr64 ((a1.length : Int) - (x44.1.b.length : Int))), x44.2.2.2.1, x51.2.1, x51.2.2.1, x44.1, (v40 ++ [(JournalRecord.mk x44.2.1 x44.2.2.1 x44.2.2.2.2.2)]), x51.2.2.2, rfl, h⟩)
      · obtain rfl := some_inj h
        exact runK_end cfg_ok (k := 2) (rs := [([], [(7, .call (.tup [(.agg [(.pl (.int .i64 x44.2.1)), (.pl (.str x44.2.2.1)), (.own 9)]), (.pl (.int .u64 x44.2.2.2.1)), (.pl (.bool x44.2.2.2.2.1))]) [none, none, none, some (.box ((Reader_.cells x44.1).map .pl)), none, none, some (.box [(.pl (.int .i64 x44.2.1)), (.pl (.str x44.2.2.1)), (.own 9)]), some (.box (((cInt .u64) x44.2.2.2.1).map .pl)), some (.box ((cBool x44.2.2.2.2.1).map .pl)), some (.row false 3 (x44.2.2.2.2.2.map JournalLine.cells))])], []), ([(3, false), (4, false), (5, false), (6, false)], [(5, .call (.pl (.bool x51.1)) [none, none, some (.box [(.mp 5), (.pl (.int .i64 x51.2.1)), (.pl (.int .i64 x51.2.2.1))]), none, none, some (.map (x51.2.2.2.map (mkv (pAgg Account_.cells) (pInt .i64)))), none, none, none, some (.row false 3 (x44.2.2.2.2.2.map JournalLine.cells)), none]), (7, .bool false)], []), ([], [], [])]) (ps := [some true]) (tds := []) (m := [0, 4]) (keep := [2, 3]) (ex := .ret) (st' := (f16n1E a1 (.ret v35 v40)).2) (by kernel_rfl) (ap (CallS.ren (args' := [(.bp 3 0), (.pl (.int .i64 (wr64 (v38 + 1)))), (.pl (.int .u64 v36))]) (v' := (.tup [(.agg [(.pl (.int .i64 x44.2.1)), (.pl (.str x44.2.2.1)), (.own 9)]), (.pl (.int .u64 x44.2.2.2.1)), (.pl (.bool x44.2.2.2.2.1))])) (B := [none, none, none, some (.box ((Reader_.cells v39).map .pl)), none, none]) (B' := [none, none, none, some (.box ((Reader_.cells x44.1).map .pl)), none, none, some (.box [(.pl (.int .i64 x44.2.1)), (.pl (.str x44.2.2.1)), (.own 9)]), some (.box (((cInt .u64) x44.2.2.2.1).map .pl)), some (.box ((cBool x44.2.2.2.2.1).map .pl)), some (.row false 3 (x44.2.2.2.2.2.map JournalLine.cells))]) 6 [3] (f43r1_ok (wr64 (v38 + 1)) v36 v39 h45) (by kernel_rfl) (by kernel_rfl) (by kernel_rfl) (by kernel_rfl) (by kernel_rfl) (by kernel_rfl)) (ap (not_t h50) (ap (not_t h50) (ap (not_t h50) (ap (not_t h50) (ap (not_t h50) (ap (CallS.ren (args' := [(.bp 2 0), (.agg [(.pl (.int .i64 x44.2.1)), (.pl (.str x44.2.2.1)), (.own 9)])]) (v' := (.pl (.bool x51.1))) (B := [none, none, some (.box [(.mp 5), (.pl (.int .i64 v37)), (.pl (.int .i64 v38))]), none, none, some (.map (v41.map (mkv (pAgg Account_.cells) (pInt .i64)))), none, none, none, some (.row false 3 (x44.2.2.2.2.2.map JournalLine.cells)), none]) (B' := [none, none, some (.box [(.mp 5), (.pl (.int .i64 x51.2.1)), (.pl (.int .i64 x51.2.2.1))]), none, none, some (.map (x51.2.2.2.map (mkv (pAgg Account_.cells) (pInt .i64)))), none, none, none, some (.row false 3 (x44.2.2.2.2.2.map JournalLine.cells)), none]) 11 [2, 9, 5] (f44r3_ok x44.2.1 x44.2.2.1 v37 v38 x44.2.2.2.2.2 v41 h52) (by kernel_rfl) (by kernel_rfl) (by kernel_rfl) (by kernel_rfl) (by kernel_rfl) (by kernel_rfl)) (ap (not_f h53) an)))))))) (fun h => nomatch h) (LoopQ.out rfl rfl)
    · obtain rfl := some_inj h
      exact runK_end cfg_ok (k := 2) (rs := [([], [(7, .call (.tup [(.agg [(.pl (.int .i64 x44.2.1)), (.pl (.str x44.2.2.1)), (.own 9)]), (.pl (.int .u64 x44.2.2.2.1)), (.pl (.bool x44.2.2.2.2.1))]) [none, none, none, some (.box ((Reader_.cells x44.1).map .pl)), none, none, some (.box [(.pl (.int .i64 x44.2.1)), (.pl (.str x44.2.2.1)), (.own 9)]), some (.box (((cInt .u64) x44.2.2.2.1).map .pl)), some (.box ((cBool x44.2.2.2.2.1).map .pl)), some (.row false 3 (x44.2.2.2.2.2.map JournalLine.cells))])], []), ([(3, true), (4, true), (5, true), (6, true)], [(7, .bool true)], []), ([], [], [])]) (ps := [none]) (tds := []) (m := [0, 4]) (keep := [2, 3]) (ex := .ret) (st' := (f16n1E a1 (.ret v35 v40)).2) (by kernel_rfl) (ap (CallS.ren (args' := [(.bp 3 0), (.pl (.int .i64 (wr64 (v38 + 1)))), (.pl (.int .u64 v36))]) (v' := (.tup [(.agg [(.pl (.int .i64 x44.2.1)), (.pl (.str x44.2.2.1)), (.own 9)]), (.pl (.int .u64 x44.2.2.2.1)), (.pl (.bool x44.2.2.2.2.1))])) (B := [none, none, none, some (.box ((Reader_.cells v39).map .pl)), none, none]) (B' := [none, none, none, some (.box ((Reader_.cells x44.1).map .pl)), none, none, some (.box [(.pl (.int .i64 x44.2.1)), (.pl (.str x44.2.2.1)), (.own 9)]), some (.box (((cInt .u64) x44.2.2.2.1).map .pl)), some (.box ((cBool x44.2.2.2.2.1).map .pl)), some (.row false 3 (x44.2.2.2.2.2.map JournalLine.cells))]) 6 [3] (f43r1_ok (wr64 (v38 + 1)) v36 v39 h45) (by kernel_rfl) (by kernel_rfl) (by kernel_rfl) (by kernel_rfl) (by kernel_rfl) (by kernel_rfl)) (ap (not_f h50) (ap (not_f h50) (ap (not_f h50) (ap (not_f h50) (ap (not_f h50) an)))))) (fun h => nomatch h) (LoopQ.out rfl rfl)
inductive f16n0O where
  | ret (v62 : Int) (v63 : List JournalRecord)
def f16n0E (a1 : List Int) : f16n0O → Ex × Tr × Hp
  | .ret v62 v63 => (.ret, mkS [(2, (.bp 0 0)), (3, (.pl (.int .i64 v62)))], [some (.box [(.own 1)]), some (.row false 3 (v63.map JournalRecord.cells))])
def f16n0S (a1 : List Int) : Tr × Hp := (initS [(.pl (.sl .any 1 (a1.map (cInt .u8))))] 0 .leaf, [])
noncomputable def f16n0 (a1 : List Int) : Option f16n0O :=
  (f16n1 FUEL a1 0 0 0 0 (Reader_.mk a1) [] []).bind fun o58 => match o58 with
  | .ret v60 v61 => some (.ret v60 v61)
theorem f16n0_ok (a1 : List Int) {o : f16n0O} (h : (f16n0 a1) = some o) : T Try.prog Try.f16.ntmps 0 c16 (f16n0S a1) (fun r => r = f16n0E a1 o) := by
  unfold f16n0 at h
  refine runK_norm cfg_ok (k := 5) (rs := [([], [], []), ([], [], []), ([], [], []), ([], [], []), ([], [], [])]) (ps := []) (tds := [.matC 1 0 3]) (m := [0, 1, 3, 4, 5, 2]) (keep := [0, 2, 4, 5, 6, 7, 8]) (st' := (f16n1S a1 0 0 0 0 (Reader_.mk a1) [] [])) (by kernel_rfl) an ?_
  obtain ⟨o58, h59, h⟩ := bind_cases h
  cases o58 with
  | ret v60 v61 =>
    obtain rfl := some_inj h
    exact T.last' (T.bl (i := 0) (by kernel_rfl) (by kernel_rfl) (f16n1_ok FUEL a1 0 0 0 0 (Reader_.mk a1) [] [] h59)) (tds := []) (m := [0, 1]) (keep := [2, 3]) (st2 := (f16n0E a1 (.ret v60 v61)).2) (by kernel_rfl) an rfl
noncomputable def f16 (a1 : List Int) : Option (Journal × Int) := (f16n0 a1).bind fun o => match o with
  | .ret v62 v63 => some ((Journal.mk v63), v62)
theorem f16_ok (a1 : List Int) {r : Journal × Int} (h : (f16 a1) = some r) : CallS Try.prog false 16 [(.pl (.sl .any 1 (a1.map (cInt .u8))))] [] (.tup [(.pl (.agg (Journal.cells r.1))), (.pl (.int .i64 r.2))]) [] := by
  unfold f16 at h
  obtain ⟨o, ho, h⟩ := bind_cases h
  cases o with
  | ret v62 v63 =>
    obtain rfl := some_inj h
    exact CallS.plain cfg_ok (f := Try.f16) (c := c16) (by kernel_rfl) (by kernel_rfl) (by kernel_rfl) (by kernel_rfl) ((f16n0_ok a1 ho).mono fun r e => by subst e; exact ⟨.inl rfl, (.tup [(.agg [(.own 1)]), (.pl (.int .i64 v62))]), (.tup [(.pl (.agg (Journal.cells (Journal.mk v63)))), (.pl (.int .i64 v62))]), by kernel_rfl, by kernel_rfl, ((Wk.refl _) : Wk (.tup [(.pl (.agg (Journal.cells (Journal.mk v63)))), (.pl (.int .i64 v62))]) (.tup [(.pl (.agg (Journal.cells (Journal.mk v63)))), (.pl (.int .i64 v62))]))⟩)

noncomputable def c25 : Code := Try.f25.body.getD .skip
inductive f25n0O where
  | ret (v10 : Int) (v11 : Int)
def f25n0E (a1 : Journal) (a2 : ByteArray) (a3 : ByteArray) : f25n0O → Ex × Tr × Hp
  | .ret v10 v11 => (.ret, mkS [(6, (.pl (.int .i64 v10))), (7, (.pl (.int .i64 v11)))], [])
def f25n0S (a1 : Journal) (a2 : ByteArray) (a3 : ByteArray) : Tr × Hp := (initS [(.pl (.agg (Journal.cells a1))), (.pl (.str a2)), (.pl (.str a3))] 0 .leaf, [])
noncomputable def f25n0 (a1 : Journal) (a2 : ByteArray) (a3 : ByteArray) : Option f25n0O :=
  (f47r1 a1).bind fun x6 =>
  bif x6.1 then
    some (.ret (mGet Account_.eqb 0 (Account_.mk a2 a3) x6.2.2.2) 0)
  else
    some (.ret 0 8)
theorem f25n0_ok (a1 : Journal) (a2 : ByteArray) (a3 : ByteArray) {o : f25n0O} (h : (f25n0 a1 a2 a3) = some o) : T Try.prog Try.f25.ntmps 0 c25 (f25n0S a1 a2 a3) (fun r => r = f25n0E a1 a2 a3 o) := by
  unfold f25n0 at h
  obtain ⟨x6, h7, h⟩ := bind_cases h
  rcases cond_cases h with ⟨h9, h⟩ | ⟨h9, h⟩
  · obtain rfl := some_inj h
    exact run_end cfg_ok (rs := [([], [], []), ([], [(1, .call (.tup [(.bp 1 0), (.pl (.bool x6.1))]) [none, some (.box [(.mp 2), (.pl (.int .i64 x6.2.1)), (.pl (.int .i64 x6.2.2.1))]), some (.map (x6.2.2.2.map (mkv (pAgg Account_.cells) (pInt .i64))))])], []), ([], [], []), ([], [(7, .look ((pInt .i64) (mGet Account_.eqb 0 (Account_.mk a2 a3) x6.2.2.2)) (mHas Account_.eqb (Account_.mk a2 a3) x6.2.2.2))], [])]) (ps := [some false]) (tds := []) (m := []) (keep := [6, 7]) (r := (.ret, (f25n0E a1 a2 a3 (.ret (mGet Account_.eqb 0 (Account_.mk a2 a3) x6.2.2.2) 0)).2)) (by kernel_rfl) (ap (CallS.ren (args' := [(.pl (.agg (Journal.cells a1)))]) (v' := (.tup [(.bp 1 0), (.pl (.bool x6.1))])) (B := [none]) (B' := [none, some (.box [(.mp 2), (.pl (.int .i64 x6.2.1)), (.pl (.int .i64 x6.2.2.1))]), some (.map (x6.2.2.2.map (mkv (pAgg Account_.cells) (pInt .i64))))]) 1 [] (f47r1_ok a1 h7) (by kernel_rfl) (by kernel_rfl) (by kernel_rfl) (by kernel_rfl) (by kernel_rfl) (by kernel_rfl)) (ap (not_t h9) (ap (look_map (vp := (pInt .i64)) (e := 3) key_95 0 (by kernel_rfl) (Account_.mk a2 a3) x6.2.2.2) an))) rfl
  · obtain rfl := some_inj h
    exact runK_end cfg_ok (k := 3) (rs := [([], [], []), ([], [(1, .call (.tup [(.bp 1 0), (.pl (.bool x6.1))]) [none, some (.box [(.mp 2), (.pl (.int .i64 x6.2.1)), (.pl (.int .i64 x6.2.2.1))]), some (.map (x6.2.2.2.map (mkv (pAgg Account_.cells) (pInt .i64))))])], []), ([], [], []), ([], [], [])]) (ps := [some true]) (tds := []) (m := []) (keep := [6, 7]) (ex := .ret) (st' := (f25n0E a1 a2 a3 (.ret 0 8)).2) (by kernel_rfl) (ap (CallS.ren (args' := [(.pl (.agg (Journal.cells a1)))]) (v' := (.tup [(.bp 1 0), (.pl (.bool x6.1))])) (B := [none]) (B' := [none, some (.box [(.mp 2), (.pl (.int .i64 x6.2.1)), (.pl (.int .i64 x6.2.2.1))]), some (.map (x6.2.2.2.map (mkv (pAgg Account_.cells) (pInt .i64))))]) 1 [] (f47r1_ok a1 h7) (by kernel_rfl) (by kernel_rfl) (by kernel_rfl) (by kernel_rfl) (by kernel_rfl) (by kernel_rfl)) (ap (not_f h9) an)) (fun h => nomatch h) rfl
noncomputable def f25 (a1 : Journal) (a2 : ByteArray) (a3 : ByteArray) : Option (Int × Int) := (f25n0 a1 a2 a3).bind fun o => match o with
  | .ret v10 v11 => some (v10, v11)
theorem f25_ok (a1 : Journal) (a2 : ByteArray) (a3 : ByteArray) {r : Int × Int} (h : (f25 a1 a2 a3) = some r) : CallS Try.prog false 25 [(.pl (.agg (Journal.cells a1))), (.pl (.str a2)), (.pl (.str a3))] [] (.tup [(.pl (.int .i64 r.1)), (.pl (.int .i64 r.2))]) [] := by
  unfold f25 at h
  obtain ⟨o, ho, h⟩ := bind_cases h
  cases o with
  | ret v10 v11 =>
    obtain rfl := some_inj h
    exact CallS.plain cfg_ok (f := Try.f25) (c := c25) (by kernel_rfl) (by kernel_rfl) (by kernel_rfl) (by kernel_rfl) ((f25n0_ok a1 a2 a3 ho).mono fun r e => by subst e; exact ⟨.inl rfl, (.tup [(.pl (.int .i64 v10)), (.pl (.int .i64 v11))]), (.tup [(.pl (.int .i64 v10)), (.pl (.int .i64 v11))]), by kernel_rfl, by kernel_rfl, ((Wk.refl _) : Wk (.tup [(.pl (.int .i64 v10)), (.pl (.int .i64 v11))]) (.tup [(.pl (.int .i64 v10)), (.pl (.int .i64 v11))]))⟩)

noncomputable def c27 : Code := Try.f27.body.getD .skip
inductive f27n2O where
  | exit0
  | ret
def f27n2E (bb1 : JournalRecord) (bb2 : JournalRecord) : f27n2O → Ex × Tr × Hp
  | .exit0 => ((.exit 0), mkS [], [])
  | .ret => (.ret, mkS [(4, (.pl (.bool false)))], [])
def f27n2S (bb1 : JournalRecord) (bb2 : JournalRecord) (v34 : Int) : Tr × Hp := (mkS [(2, (.bp 0 0)), (3, (.bp 1 0)), (5, (.pl (.int .i64 v34)))], [some (.box ((JournalRecord.cells bb1).map .pl)), some (.box ((JournalRecord.cells bb2).map .pl))])
noncomputable def f27n2 : Nat → JournalRecord → JournalRecord → Int → Option f27n2O
  | 0, _, _, _ => none
  | f + 1, bb1, bb2, v34 =>
    bif (decide (v34 < (bb1.Lines.length : Int))) then
      (at? bb1.Lines v34).bind fun x42 =>
      (at? bb2.Lines v34).bind fun x44 =>
      bif (JournalLine.eqb x42 x44) then
        (f27n2 f bb1 bb2 (wr64 (v34 + 1)))
      else
        some .ret
    else
      some .exit0
theorem f27n2_ok : ∀ (f : Nat) (bb1 : JournalRecord) (bb2 : JournalRecord) (v34 : Int) {o : f27n2O}, (f27n2 f bb1 bb2 v34) = some o → TL Try.prog Try.f27.ntmps 0 f (cL (cL (dropC 1 (cL (dropC 2 c27))))) (f27n2S bb1 bb2 v34) (fun r => r = f27n2E bb1 bb2 o)
  | 0, _, _, _, o, h => by rw [f27n2] at h; cases h
  | f + 1, bb1, bb2, v34, o, h => by
    rw [f27n2] at h
    refine TL.body (K := fun s => ∃ v34 : Int, s = (f27n2S bb1 bb2 v34) ∧ (f27n2 f bb1 bb2 v34) = some o) ?_ (by rintro _ ⟨v34, rfl, hk⟩; exact f27n2_ok f _ _ _ hk)
    rcases cond_cases h with ⟨h36, h⟩ | ⟨h36, h⟩
    · obtain ⟨x42, h43, h⟩ := bind_cases h
      obtain ⟨x44, h45, h⟩ := bind_cases h
      rcases cond_cases h with ⟨h46, h⟩ | ⟨h46, h⟩
      · exact run_end cfg_ok (rs := [([], [], [(3, .val (.pl (.int .i64 (bb1.Lines.length : Int))))]), ([], [(3, .idx (Int.toNat v34) (JournalLine.cells x42)), (8, .idx (Int.toNat v34) (JournalLine.cells x44)), (10, .bool (JournalLine.eqb x42 x44))], []), ([], [], [])]) (ps := [some true, some false]) (tds := []) (m := [0, 1]) (keep := [2, 3, 5]) (r := (.norm, (f27n2S bb1 bb2 (wr64 (v34 + 1))))) (by kernel_rfl) (ap (len_cv (xs := bb1.Lines) (c := JournalLine.cells)) (ap h36 (ap (at_some h43).1 (ap (at_map JournalLine.cells (at_some h43).2) (ap (at_some h45).1 (ap (at_map JournalLine.cells (at_some h45).2) (ap (JournalLine.eqb_ok x42 x44) (ap (not_t h46) an)))))))) (LoopQ.norm ⟨(wr64 (v34 + 1)), rfl, h⟩)
      · obtain rfl := some_inj h
        exact runK_end cfg_ok (k := 2) (rs := [([], [], [(3, .val (.pl (.int .i64 (bb1.Lines.length : Int))))]), ([], [(3, .idx (Int.toNat v34) (JournalLine.cells x42)), (8, .idx (Int.toNat v34) (JournalLine.cells x44)), (10, .bool (JournalLine.eqb x42 x44))], []), ([], [], [])]) (ps := [some true, some true]) (tds := []) (m := []) (keep := [4]) (ex := .ret) (st' := (f27n2E bb1 bb2 .ret).2) (by kernel_rfl) (ap (len_cv (xs := bb1.Lines) (c := JournalLine.cells)) (ap h36 (ap (at_some h43).1 (ap (at_map JournalLine.cells (at_some h43).2) (ap (at_some h45).1 (ap (at_map JournalLine.cells (at_some h45).2) (ap (JournalLine.eqb_ok x42 x44) (ap (not_f h46) an)))))))) (fun h => nomatch h) (LoopQ.out rfl rfl)
    · obtain rfl := some_inj h
      exact runK_end cfg_ok (k := 1) (rs := [([], [], [(3, .val (.pl (.int .i64 (bb1.Lines.length : Int))))])]) (ps := [some false]) (tds := []) (m := []) (keep := []) (ex := (.exit 0)) (st' := (f27n2E bb1 bb2 .exit0).2) (by kernel_rfl) (ap (len_cv (xs := bb1.Lines) (c := JournalLine.cells)) (ap h36 an)) (fun h => nomatch h) (LoopQ.out rfl rfl)
noncomputable def f27n2L (bb1 : JournalRecord) (bb2 : JournalRecord) : List JournalLine → Int → Option f27n2O
  | [], v34 =>
    some .exit0
  | x0 :: rest, v34 =>
    (at? bb2.Lines v34).bind fun x44 =>
    bif (JournalLine.eqb x0 x44) then
      (f27n2L bb1 bb2 rest (v34 + 1))
    else
      some .ret
theorem f27n2L_eq (bb1 : JournalRecord) (bb2 : JournalRecord) : ∀ (rest : List JournalLine) (f k : Nat), bb1.Lines.drop k = rest → bb1.Lines.length ≤ maxLen → rest.length < f → f27n2 f bb1 bb2 (k : Int) = f27n2L bb1 bb2 rest (k : Int)
  | _, 0, _, _, _, hf => absurd hf (Nat.not_lt_zero _)
  | [], f + 1, k, hd, hm, hf => by
    have hk : ¬ ((k : Int) < (bb1.Lines.length : Int)) := by have := drop_nil hd; omega
    rw [f27n2, f27n2L]
    simp only [decide_eq_false hk, cond_false]
  | x0 :: rest, f + 1, k, hd, hm, hf => by
    obtain ⟨hx, hlt, hd'⟩ := drop_cons hd
    have hk : (k : Int) < (bb1.Lines.length : Int) := by omega
    have hw : wr64 ((k : Int) + 1) = (k : Int) + 1 := wr64_of (by omega) (by unfold maxLen at hm; omega)
    have ih : f27n2 f bb1 bb2 ((k : Int) + 1) = f27n2L bb1 bb2 rest ((k : Int) + 1) := f27n2L_eq bb1 bb2 rest f (k + 1) hd' hm (by simpa using hf)
    rw [f27n2, f27n2L]
    simp only [decide_eq_true hk, cond_true, at_nat, hx, Option.bind_some, hw, ih]
theorem f27n2_run (bb1 : JournalRecord) (bb2 : JournalRecord) (hm : bb1.Lines.length ≤ maxLen) : f27n2 FUEL bb1 bb2 0 = f27n2L bb1 bb2 bb1.Lines 0 := f27n2L_eq bb1 bb2 bb1.Lines FUEL 0 List.drop_zero hm (lt_FUEL hm)
inductive f27n1O where
  | norm
  | ret
def f27n1E (bb1 : JournalRecord) (bb2 : JournalRecord) : f27n1O → Ex × Tr × Hp
  | .norm => (.norm, mkS [], [])
  | .ret => (.ret, mkS [(4, (.pl (.bool false)))], [])
def f27n1S (bb1 : JournalRecord) (bb2 : JournalRecord) : Tr × Hp := (mkS [(2, (.bp 0 0)), (3, (.bp 1 0))], [some (.box ((JournalRecord.cells bb1).map .pl)), some (.box ((JournalRecord.cells bb2).map .pl))])
noncomputable def f27n1 (bb1 : JournalRecord) (bb2 : JournalRecord) : Option f27n1O :=
  (f27n2 FUEL bb1 bb2 0).bind fun o47 => match o47 with
  | .exit0 => some .norm
  | .ret => some .ret
theorem f27n1_ok (bb1 : JournalRecord) (bb2 : JournalRecord) {o : f27n1O} (h : (f27n1 bb1 bb2) = some o) : T Try.prog Try.f27.ntmps 0 (cL (dropC 2 c27)) (f27n1S bb1 bb2) (fun r => r = f27n1E bb1 bb2 o) := by
  unfold f27n1 at h
  refine runK_norm cfg_ok (k := 1) (rs := [([], [], [])]) (ps := []) (tds := []) (m := [0, 1]) (keep := [2, 3, 5]) (st' := (f27n2S bb1 bb2 0)) (by kernel_rfl) an ?_
  obtain ⟨o47, h48, h⟩ := bind_cases h
  cases o47 with
  | exit0 =>
    obtain rfl := some_inj h
    exact T.last' (T.bl (i := 0) (by kernel_rfl) (by kernel_rfl) (f27n2_ok FUEL bb1 bb2 0 h48)) (tds := []) (m := []) (keep := []) (st2 := (f27n1E bb1 bb2 .norm).2) (by kernel_rfl) an rfl
  | ret =>
    obtain rfl := some_inj h
    exact T.last' (T.bl (i := 0) (by kernel_rfl) (by kernel_rfl) (f27n2_ok FUEL bb1 bb2 0 h48)) (tds := []) (m := []) (keep := [4]) (st2 := (f27n1E bb1 bb2 .ret).2) (by kernel_rfl) an rfl
inductive f27n0O where
  | ret (v51 : Bool)
def f27n0E (a1 : JournalRecord) (a2 : JournalRecord) : f27n0O → Ex × Tr × Hp
  | .ret v51 => (.ret, mkS [(4, (.pl (.bool v51)))], [])
def f27n0S (a1 : JournalRecord) (a2 : JournalRecord) : Tr × Hp := (initS [(.pl (.agg (JournalRecord.cells a1))), (.pl (.agg (JournalRecord.cells a2)))] 0 .leaf, [])
noncomputable def f27n0 (a1 : JournalRecord) (a2 : JournalRecord) : Option f27n0O :=
  bif (decide (a1.Day = a2.Day)) then
    bif (seq a1.Text a2.Text) then
      bif (decide ((a1.Lines.length : Int) = (a2.Lines.length : Int))) then
        (f27n1 a1 a2).bind fun o49 => match o49 with
        | .norm => some (.ret true)
        | .ret => some (.ret false)
      else
        some (.ret false)
    else
      some (.ret false)
  else
    some (.ret false)
theorem f27n0_ok (a1 : JournalRecord) (a2 : JournalRecord) {o : f27n0O} (h : (f27n0 a1 a2) = some o) : T Try.prog Try.f27.ntmps 0 c27 (f27n0S a1 a2) (fun r => r = f27n0E a1 a2 o) := by
  unfold f27n0 at h
  rcases cond_cases h with ⟨h6, h⟩ | ⟨h6, h⟩
  · rcases cond_cases h with ⟨h7, h⟩ | ⟨h7, h⟩
    · rcases cond_cases h with ⟨h8, h⟩ | ⟨h8, h⟩
      · refine runK_norm cfg_ok (k := 2) (rs := [([], [], []), ([(6, false), (7, false), (8, false), (9, false), (10, false), (13, false), (14, false), (15, false), (16, false), (17, false), (18, false), (19, false)], [(11, .bool false), (20, .bool false)], [(15, .val (.pl (.int .i64 (a1.Lines.length : Int)))), (18, .val (.pl (.int .i64 (a2.Lines.length : Int))))])]) (ps := [some false]) (tds := []) (m := [0, 1]) (keep := [2, 3]) (st' := (f27n1S a1 a2)) (by kernel_rfl) (ap (not_t h6) (ap (not_t h6) (ap (not_t h6) (ap (not_t h6) (ap (not_t h6) (ap (not_t h6) (ap (not_t h7) (ap (not_t h7) (ap (not_t h7) (ap (len_cv (xs := a1.Lines) (c := JournalLine.cells)) (ap (not_t h7) (ap (not_t h7) (ap (not_t h7) (ap (len_cv (xs := a2.Lines) (c := JournalLine.cells)) (ap (not_t h7) (ap (not_t h7) (ap (not_t h8) an))))))))))))))))) ?_
        obtain ⟨o49, h50, h⟩ := bind_cases h
        cases o49 with
        | norm =>
          refine T.oneN (by kernel_rfl) (f27n1_ok a1 a2 h50) (st2 := (f27n1E a1 a2 .norm).2) rfl ?_
          obtain rfl := some_inj h
          exact run_end cfg_ok (rs := [([], [], [])]) (ps := []) (tds := []) (m := []) (keep := [4]) (r := (.ret, (f27n0E a1 a2 (.ret true)).2)) (by kernel_rfl) an rfl
        | ret =>
          obtain rfl := some_inj h
          exact T.oneX' (by kernel_rfl) (f27n1_ok a1 a2 h50) (tds := []) (m := []) (keep := [4]) (st2 := (f27n0E a1 a2 (.ret false)).2) (by kernel_rfl) an rfl rfl
      · obtain rfl := some_inj h
        exact runK_end cfg_ok (k := 2) (rs := [([], [], []), ([(6, false), (7, false), (8, false), (9, false), (10, false), (13, false), (14, false), (15, false), (16, false), (17, false), (18, false), (19, false)], [(11, .bool false), (20, .bool false)], [(15, .val (.pl (.int .i64 (a1.Lines.length : Int)))), (18, .val (.pl (.int .i64 (a2.Lines.length : Int))))]), ([], [], [])]) (ps := [some true]) (tds := []) (m := []) (keep := [4]) (ex := .ret) (st' := (f27n0E a1 a2 (.ret false)).2) (by kernel_rfl) (ap (not_t h6) (ap (not_t h6) (ap (not_t h6) (ap (not_t h6) (ap (not_t h6) (ap (not_t h6) (ap (not_t h7) (ap (not_t h7) (ap (not_t h7) (ap (len_cv (xs := a1.Lines) (c := JournalLine.cells)) (ap (not_t h7) (ap (not_t h7) (ap (not_t h7) (ap (len_cv (xs := a2.Lines) (c := JournalLine.cells)) (ap (not_t h7) (ap (not_t h7) (ap (not_f h8) an))))))))))))))))) (fun h => nomatch h) rfl
    · obtain rfl := some_inj h
      exact runK_end cfg_ok (k := 2) (rs := [([], [], []), ([(6, false), (7, false), (8, false), (9, false), (10, false), (13, true), (14, true), (15, true), (16, true), (17, true), (18, true), (19, true)], [(11, .bool false), (20, .bool true)], []), ([], [], [])]) (ps := [none]) (tds := []) (m := []) (keep := [4]) (ex := .ret) (st' := (f27n0E a1 a2 (.ret false)).2) (by kernel_rfl) (ap (not_t h6) (ap (not_t h6) (ap (not_t h6) (ap (not_t h6) (ap (not_t h6) (ap (not_t h6) (ap (not_f h7) (ap (not_f h7) (ap (not_f h7) (ap (not_f h7) (ap (not_f h7) (ap (not_f h7) (ap (not_f h7) (ap (not_f h7) an)))))))))))))) (fun h => nomatch h) rfl
  · obtain rfl := some_inj h
    exact runK_end cfg_ok (k := 2) (rs := [([], [], []), ([(6, true), (7, true), (8, true), (9, true), (10, true)], [(11, .bool true)], []), ([], [], [])]) (ps := [none]) (tds := []) (m := []) (keep := [4]) (ex := .ret) (st' := (f27n0E a1 a2 (.ret false)).2) (by kernel_rfl) (ap (not_f h6) (ap (not_f h6) (ap (not_f h6) (ap (not_f h6) (ap (not_f h6) (ap (not_f h6) an)))))) (fun h => nomatch h) rfl
noncomputable def f27 (a1 : JournalRecord) (a2 : JournalRecord) : Option Bool := (f27n0 a1 a2).bind fun o => match o with
  | .ret v51 => some v51
theorem f27_ok (a1 : JournalRecord) (a2 : JournalRecord) {r : Bool} (h : (f27 a1 a2) = some r) : CallS Try.prog false 27 [(.pl (.agg (JournalRecord.cells a1))), (.pl (.agg (JournalRecord.cells a2)))] [] (.pl (.bool r)) [] := by
  unfold f27 at h
  obtain ⟨o, ho, h⟩ := bind_cases h
  cases o with
  | ret v51 =>
    obtain rfl := some_inj h
    exact CallS.plain cfg_ok (f := Try.f27) (c := c27) (by kernel_rfl) (by kernel_rfl) (by kernel_rfl) (by kernel_rfl) ((f27n0_ok a1 a2 ho).mono fun r e => by subst e; exact ⟨.inl rfl, (.pl (.bool v51)), (.pl (.bool v51)), by kernel_rfl, by kernel_rfl, ((Wk.refl _) : Wk (.pl (.bool v51)) (.pl (.bool v51)))⟩)

noncomputable def c19 : Code := Try.f19.body.getD .skip
inductive f19n2O where
  | exit0
  | ret
def f19n2E (ba1 : Journal) (ba2 : Journal) : f19n2O → Ex × Tr × Hp
  | .exit0 => ((.exit 0), mkS [], [])
  | .ret => (.ret, mkS [(4, (.pl (.bool false)))], [])
def f19n2S (ba1 : Journal) (ba2 : Journal) (v38 : Int) : Tr × Hp := (mkS [(2, (.bp 0 0)), (3, (.bp 1 0)), (5, (.pl (.int .i64 v38)))], [some (.box ((Journal.cells ba1).map .pl)), some (.box ((Journal.cells ba2).map .pl))])
noncomputable def f19n2 : Nat → Journal → Journal → Int → Option f19n2O
  | 0, _, _, _ => none
  | f + 1, ba1, ba2, v38 =>
    bif (decide (v38 < (ba1.Records.length : Int))) then
      (at? ba1.Records v38).bind fun x48 =>
      (at? ba2.Records v38).bind fun x50 =>
      (f27 x48 x50).bind fun x52 =>
      bif x52 then
        (f19n2 f ba1 ba2 (wr64 (v38 + 1)))
      else
        some .ret
    else
      some .exit0
theorem f19n2_ok : ∀ (f : Nat) (ba1 : Journal) (ba2 : Journal) (v38 : Int) {o : f19n2O}, (f19n2 f ba1 ba2 v38) = some o → TL Try.prog Try.f19.ntmps 0 f (cL (cL (dropC 1 (cL (dropC 2 c19))))) (f19n2S ba1 ba2 v38) (fun r => r = f19n2E ba1 ba2 o)
  | 0, _, _, _, o, h => by rw [f19n2] at h; cases h
  | f + 1, ba1, ba2, v38, o, h => by
    rw [f19n2] at h
    refine TL.body (K := fun s => ∃ v38 : Int, s = (f19n2S ba1 ba2 v38) ∧ (f19n2 f ba1 ba2 v38) = some o) ?_ (by rintro _ ⟨v38, rfl, hk⟩; exact f19n2_ok f _ _ _ hk)
    rcases cond_cases h with ⟨h40, h⟩ | ⟨h40, h⟩
    · obtain ⟨x48, h49, h⟩ := bind_cases h
      obtain ⟨x50, h51, h⟩ := bind_cases h
      obtain ⟨x52, h53, h⟩ := bind_cases h
      rcases cond_cases h with ⟨h54, h⟩ | ⟨h54, h⟩
      · exact run_end cfg_ok (rs := [([], [], [(3, .val (.pl (.int .i64 (ba1.Records.length : Int))))]), ([], [(3, .idx (Int.toNat v38) (JournalRecord.cells x48)), (8, .idx (Int.toNat v38) (JournalRecord.cells x50)), (10, .call (.pl (.bool x52)) [])], []), ([], [], [])]) (ps := [some true, some false]) (tds := []) (m := [0, 1]) (keep := [2, 3, 5]) (r := (.norm, (f19n2S ba1 ba2 (wr64 (v38 + 1))))) (by kernel_rfl) (ap (len_cv (xs := ba1.Records) (c := JournalRecord.cells)) (ap h40 (ap (at_some h49).1 (ap (at_map JournalRecord.cells (at_some h49).2) (ap (at_some h51).1 (ap (at_map JournalRecord.cells (at_some h51).2) (ap (f27_ok x48 x50 h53) (ap (not_t h54) an)))))))) (LoopQ.norm ⟨(wr64 (v38 + 1)), rfl, h⟩)
      · obtain rfl := some_inj h
        exact runK_end cfg_ok (k := 2) (rs := [([], [], [(3, .val (.pl (.int .i64 (ba1.Records.length : Int))))]), ([], [(3, .idx (Int.toNat v38) (JournalRecord.cells x48)), (8, .idx (Int.toNat v38) (JournalRecord.cells x50)), (10, .call (.pl (.bool x52)) [])], []), ([], [], [])]) (ps := [some true, some true]) (tds := []) (m := []) (keep := [4]) (ex := .ret) (st' := (f19n2E ba1 ba2 .ret).2) (by kernel_rfl) (ap (len_cv (xs := ba1.Records) (c := JournalRecord.cells)) (ap h40 (ap (at_some h49).1 (ap (at_map JournalRecord.cells (at_some h49).2) (ap (at_some h51).1 (ap (at_map JournalRecord.cells (at_some h51).2) (ap (f27_ok x48 x50 h53) (ap (not_f h54) an)))))))) (fun h => nomatch h) (LoopQ.out rfl rfl)
    · obtain rfl := some_inj h
      exact runK_end cfg_ok (k := 1) (rs := [([], [], [(3, .val (.pl (.int .i64 (ba1.Records.length : Int))))])]) (ps := [some false]) (tds := []) (m := []) (keep := []) (ex := (.exit 0)) (st' := (f19n2E ba1 ba2 .exit0).2) (by kernel_rfl) (ap (len_cv (xs := ba1.Records) (c := JournalRecord.cells)) (ap h40 an)) (fun h => nomatch h) (LoopQ.out rfl rfl)
noncomputable def f19n2L (ba1 : Journal) (ba2 : Journal) : List JournalRecord → Int → Option f19n2O
  | [], v38 =>
    some .exit0
  | x0 :: rest, v38 =>
    (at? ba2.Records v38).bind fun x50 =>
    (f27 x0 x50).bind fun x52 =>
    bif x52 then
      (f19n2L ba1 ba2 rest (v38 + 1))
    else
      some .ret
theorem f19n2L_eq (ba1 : Journal) (ba2 : Journal) : ∀ (rest : List JournalRecord) (f k : Nat), ba1.Records.drop k = rest → ba1.Records.length ≤ maxLen → rest.length < f → f19n2 f ba1 ba2 (k : Int) = f19n2L ba1 ba2 rest (k : Int)
  | _, 0, _, _, _, hf => absurd hf (Nat.not_lt_zero _)
  | [], f + 1, k, hd, hm, hf => by
    have hk : ¬ ((k : Int) < (ba1.Records.length : Int)) := by have := drop_nil hd; omega
    rw [f19n2, f19n2L]
    simp only [decide_eq_false hk, cond_false]
  | x0 :: rest, f + 1, k, hd, hm, hf => by
    obtain ⟨hx, hlt, hd'⟩ := drop_cons hd
    have hk : (k : Int) < (ba1.Records.length : Int) := by omega
    have hw : wr64 ((k : Int) + 1) = (k : Int) + 1 := wr64_of (by omega) (by unfold maxLen at hm; omega)
    have ih : f19n2 f ba1 ba2 ((k : Int) + 1) = f19n2L ba1 ba2 rest ((k : Int) + 1) := f19n2L_eq ba1 ba2 rest f (k + 1) hd' hm (by simpa using hf)
    rw [f19n2, f19n2L]
    simp only [decide_eq_true hk, cond_true, at_nat, hx, Option.bind_some, hw, ih]
theorem f19n2_run (ba1 : Journal) (ba2 : Journal) (hm : ba1.Records.length ≤ maxLen) : f19n2 FUEL ba1 ba2 0 = f19n2L ba1 ba2 ba1.Records 0 := f19n2L_eq ba1 ba2 ba1.Records FUEL 0 List.drop_zero hm (lt_FUEL hm)
inductive f19n1O where
  | norm
  | ret
def f19n1E (ba1 : Journal) (ba2 : Journal) : f19n1O → Ex × Tr × Hp
  | .norm => (.norm, mkS [], [])
  | .ret => (.ret, mkS [(4, (.pl (.bool false)))], [])
def f19n1S (ba1 : Journal) (ba2 : Journal) : Tr × Hp := (mkS [(2, (.bp 0 0)), (3, (.bp 1 0))], [some (.box ((Journal.cells ba1).map .pl)), some (.box ((Journal.cells ba2).map .pl))])
noncomputable def f19n1 (ba1 : Journal) (ba2 : Journal) : Option f19n1O :=
  (f19n2 FUEL ba1 ba2 0).bind fun o55 => match o55 with
  | .exit0 => some .norm
  | .ret => some .ret
theorem f19n1_ok (ba1 : Journal) (ba2 : Journal) {o : f19n1O} (h : (f19n1 ba1 ba2) = some o) : T Try.prog Try.f19.ntmps 0 (cL (dropC 2 c19)) (f19n1S ba1 ba2) (fun r => r = f19n1E ba1 ba2 o) := by
  unfold f19n1 at h
  refine runK_norm cfg_ok (k := 1) (rs := [([], [], [])]) (ps := []) (tds := []) (m := [0, 1]) (keep := [2, 3, 5]) (st' := (f19n2S ba1 ba2 0)) (by kernel_rfl) an ?_
  obtain ⟨o55, h56, h⟩ := bind_cases h
  cases o55 with
  | exit0 =>
    obtain rfl := some_inj h
    exact T.last' (T.bl (i := 0) (by kernel_rfl) (by kernel_rfl) (f19n2_ok FUEL ba1 ba2 0 h56)) (tds := []) (m := []) (keep := []) (st2 := (f19n1E ba1 ba2 .norm).2) (by kernel_rfl) an rfl
  | ret =>
    obtain rfl := some_inj h
    exact T.last' (T.bl (i := 0) (by kernel_rfl) (by kernel_rfl) (f19n2_ok FUEL ba1 ba2 0 h56)) (tds := []) (m := []) (keep := [4]) (st2 := (f19n1E ba1 ba2 .ret).2) (by kernel_rfl) an rfl
inductive f19n0O where
  | ret (v59 : Bool)
def f19n0E (a1 : Journal) (a2 : Journal) : f19n0O → Ex × Tr × Hp
  | .ret v59 => (.ret, mkS [(4, (.pl (.bool v59)))], [])
def f19n0S (a1 : Journal) (a2 : Journal) : Tr × Hp := (initS [(.pl (.agg (Journal.cells a1))), (.pl (.agg (Journal.cells a2)))] 0 .leaf, [])
noncomputable def f19n0 (a1 : Journal) (a2 : Journal) : Option f19n0O :=
  bif (decide ((a1.Records.length : Int) = (a2.Records.length : Int))) then
    (f19n1 a1 a2).bind fun o57 => match o57 with
    | .norm => some (.ret true)
    | .ret => some (.ret false)
  else
    some (.ret false)
theorem f19n0_ok (a1 : Journal) (a2 : Journal) {o : f19n0O} (h : (f19n0 a1 a2) = some o) : T Try.prog Try.f19.ntmps 0 c19 (f19n0S a1 a2) (fun r => r = f19n0E a1 a2 o) := by
  unfold f19n0 at h
  rcases cond_cases h with ⟨h4, h⟩ | ⟨h4, h⟩
  · refine runK_norm cfg_ok (k := 2) (rs := [([], [], []), ([], [], [(2, .val (.pl (.int .i64 (a1.Records.length : Int)))), (5, .val (.pl (.int .i64 (a2.Records.length : Int))))])]) (ps := [some false]) (tds := []) (m := [0, 1]) (keep := [2, 3]) (st' := (f19n1S a1 a2)) (by kernel_rfl) (ap (len_cv (xs := a1.Records) (c := JournalRecord.cells)) (ap (len_cv (xs := a2.Records) (c := JournalRecord.cells)) (ap (not_t h4) an))) ?_
    obtain ⟨o57, h58, h⟩ := bind_cases h
    cases o57 with
    | norm =>
      refine T.oneN (by kernel_rfl) (f19n1_ok a1 a2 h58) (st2 := (f19n1E a1 a2 .norm).2) rfl ?_
      obtain rfl := some_inj h
      exact run_end cfg_ok (rs := [([], [], [])]) (ps := []) (tds := []) (m := []) (keep := [4]) (r := (.ret, (f19n0E a1 a2 (.ret true)).2)) (by kernel_rfl) an rfl
    | ret =>
      obtain rfl := some_inj h
      exact T.oneX' (by kernel_rfl) (f19n1_ok a1 a2 h58) (tds := []) (m := []) (keep := [4]) (st2 := (f19n0E a1 a2 (.ret false)).2) (by kernel_rfl) an rfl rfl
  · obtain rfl := some_inj h
    exact runK_end cfg_ok (k := 2) (rs := [([], [], []), ([], [], [(2, .val (.pl (.int .i64 (a1.Records.length : Int)))), (5, .val (.pl (.int .i64 (a2.Records.length : Int))))]), ([], [], [])]) (ps := [some true]) (tds := []) (m := []) (keep := [4]) (ex := .ret) (st' := (f19n0E a1 a2 (.ret false)).2) (by kernel_rfl) (ap (len_cv (xs := a1.Records) (c := JournalRecord.cells)) (ap (len_cv (xs := a2.Records) (c := JournalRecord.cells)) (ap (not_f h4) an))) (fun h => nomatch h) rfl
noncomputable def f19 (a1 : Journal) (a2 : Journal) : Option Bool := (f19n0 a1 a2).bind fun o => match o with
  | .ret v59 => some v59
theorem f19_ok (a1 : Journal) (a2 : Journal) {r : Bool} (h : (f19 a1 a2) = some r) : CallS Try.prog false 19 [(.pl (.agg (Journal.cells a1))), (.pl (.agg (Journal.cells a2)))] [] (.pl (.bool r)) [] := by
  unfold f19 at h
  obtain ⟨o, ho, h⟩ := bind_cases h
  cases o with
  | ret v59 =>
    obtain rfl := some_inj h
    exact CallS.plain cfg_ok (f := Try.f19) (c := c19) (by kernel_rfl) (by kernel_rfl) (by kernel_rfl) (by kernel_rfl) ((f19n0_ok a1 a2 ho).mono fun r e => by subst e; exact ⟨.inl rfl, (.pl (.bool v59)), (.pl (.bool v59)), by kernel_rfl, by kernel_rfl, ((Wk.refl _) : Wk (.pl (.bool v59)) (.pl (.bool v59)))⟩)

noncomputable def c11 : Code := Try.f11.body.getD .skip
inductive f11n2O where
  | exit0 (v51 : Int)
def f11n2E (bk1 : Journal × Int) (bl2 : Int × (List Int)) : f11n2O → Ex × Tr × Hp
  | .exit0 v51 => ((.exit 0), mkS [(1, (.bp 0 0)), (3, (.own 1)), (5, (.pl (.int .u64 v51)))], [some (.box ((Journal.cells bk1.1).map .pl)), some (.row false 1 (bl2.2.map (cInt .u8)))])
def f11n2S (bk1 : Journal × Int) (bl2 : Int × (List Int)) (v47 : Int) (v48 : Int) : Tr × Hp := (mkS [(1, (.bp 0 0)), (3, (.own 1)), (5, (.pl (.int .u64 v47))), (6, (.pl (.int .i64 v48)))], [some (.box ((Journal.cells bk1.1).map .pl)), some (.row false 1 (bl2.2.map (cInt .u8)))])
noncomputable def f11n2 : Nat → Journal × Int → Int × (List Int) → Int → Int → Option f11n2O
  | 0, _, _, _, _ => none
  | f + 1, bk1, bl2, v47, v48 =>
    bif (decide (v48 < 8)) then
      (f11n2 f bk1 bl2 (wru64 (v47 * 1099511628211)) (wr64 (v48 + 1)))
    else
      some (.exit0 v47)
theorem f11n2_ok : ∀ (f : Nat) (bk1 : Journal × Int) (bl2 : Int × (List Int)) (v47 : Int) (v48 : Int) {o : f11n2O}, (f11n2 f bk1 bl2 v47 v48) = some o → TL Try.prog Try.f11.ntmps 0 f (cL (cL (dropC 1 (cL (dropC 5 c11))))) (f11n2S bk1 bl2 v47 v48) (fun r => r = f11n2E bk1 bl2 o)
  | 0, _, _, _, _, o, h => by rw [f11n2] at h; cases h
  | f + 1, bk1, bl2, v47, v48, o, h => by
    rw [f11n2] at h
    refine TL.body (K := fun s => ∃ v47 : Int, ∃ v48 : Int, s = (f11n2S bk1 bl2 v47 v48) ∧ (f11n2 f bk1 bl2 v47 v48) = some o) ?_ (by rintro _ ⟨v47, v48, rfl, hk⟩; exact f11n2_ok f _ _ _ _ hk)
    rcases cond_cases h with ⟨h50, h⟩ | ⟨h50, h⟩
    · exact run_end cfg_ok (rs := [([], [], []), ([], [], []), ([], [], [])]) (ps := [some true]) (tds := []) (m := [0, 1]) (keep := [1, 3, 5, 6]) (r := (.norm, (f11n2S bk1 bl2 (wru64 (v47 * 1099511628211)) (wr64 (v48 + 1))))) (by kernel_rfl) (ap h50 an) (LoopQ.norm ⟨(wru64 (v47 * 1099511628211)), (wr64 (v48 + 1)), rfl, h⟩)
    · obtain rfl := some_inj h
      exact runK_end cfg_ok (k := 1) (rs := [([], [], [])]) (ps := [some false]) (tds := []) (m := [0, 1]) (keep := [1, 3, 5]) (ex := (.exit 0)) (st' := (f11n2E bk1 bl2 (.exit0 v47)).2) (by kernel_rfl) (ap h50 an) (fun h => nomatch h) (LoopQ.out rfl rfl)
inductive f11n1O where
  | norm (v55 : Int)
def f11n1E (bk1 : Journal × Int) (bl2 : Int × (List Int)) : f11n1O → Ex × Tr × Hp
  | .norm v55 => (.norm, mkS [(1, (.bp 0 0)), (3, (.own 1)), (5, (.pl (.int .u64 v55)))], [some (.box ((Journal.cells bk1.1).map .pl)), some (.row false 1 (bl2.2.map (cInt .u8)))])
def f11n1S (bk1 : Journal × Int) (bl2 : Int × (List Int)) : Tr × Hp := (mkS [(1, (.bp 0 0)), (3, (.own 1)), (5, (.pl (.int .u64 14695981039346656037)))], [some (.box ((Journal.cells bk1.1).map .pl)), some (.row false 1 (bl2.2.map (cInt .u8)))])
noncomputable def f11n1 (bk1 : Journal × Int) (bl2 : Int × (List Int)) : Option f11n1O :=
  (f11n2 FUEL bk1 bl2 14695981039346656037 0).bind fun o52 => match o52 with
  | .exit0 v54 => some (.norm v54)
theorem f11n1_ok (bk1 : Journal × Int) (bl2 : Int × (List Int)) {o : f11n1O} (h : (f11n1 bk1 bl2) = some o) : T Try.prog Try.f11.ntmps 0 (cL (dropC 5 c11)) (f11n1S bk1 bl2) (fun r => r = f11n1E bk1 bl2 o) := by
  unfold f11n1 at h
  refine runK_norm cfg_ok (k := 1) (rs := [([], [], [])]) (ps := []) (tds := []) (m := [0, 1]) (keep := [1, 3, 5, 6]) (st' := (f11n2S bk1 bl2 14695981039346656037 0)) (by kernel_rfl) an ?_
  obtain ⟨o52, h53, h⟩ := bind_cases h
  cases o52 with
  | exit0 v54 =>
    obtain rfl := some_inj h
    exact T.last' (T.bl (i := 0) (by kernel_rfl) (by kernel_rfl) (f11n2_ok FUEL bk1 bl2 14695981039346656037 0 h53)) (tds := []) (m := [0, 1]) (keep := [1, 3, 5]) (st2 := (f11n1E bk1 bl2 (.norm v54)).2) (by kernel_rfl) an rfl
inductive f11n0O where
  | ret (v83 : Bool)
def f11n0E : f11n0O → Ex × Tr × Hp
  | .ret v83 => (.ret, mkS [(0, (.pl (.bool v83)))], [])
def f11n0S : Tr × Hp := (initS [] 0 .leaf, [])
noncomputable def f11n0 : Option f11n0O :=
  f36.bind fun x7 =>
  (f37r1 5).bind fun x9 =>
  (f30 x7 1 str_x78 [(JournalLine.mk str_a str_EUR 5), (JournalLine.mk str_b str_EUR (wr64 (0 - 5)))]).bind fun x11 =>
  (f13r1 x11.1).bind fun x15 =>
  bif (decide (x11.2 = 0)) then
    bif (decide (x15.1 = 0)) then
      bif (decide ((x15.2.length : Int) = 51)) then
        req (cutB 0 4 x15.2.length) <|
        (f18 ((x15.2.drop 0).take ((Int.toNat 4) - 0)) [39, 0, 0, 0]).bind fun x34 =>
        bif x34 then
          req (cutB 4 43 x15.2.length) <|
          f38r1.bind fun x38 =>
          (f18 ((x15.2.drop (Int.toNat 4)).take ((Int.toNat 43) - (Int.toNat 4))) [1, 0, 0, 0, 1, 0, 0, 0, 1, 120, 2, 1, 97, 3, 69, 85, 82, 5, 0, 0, 0, 0, 0, 0, 0, 1, 98, 3, 69, 85, 82, 251, 255, 255, 255, 255, 255, 255, 255]).bind fun x40 =>
          bif x40 then
            (f11n1 x11 x15).bind fun o56 => match o56 with
            | .norm v58 => (f16 x15.2).bind fun x61 =>
              (f25 x11.1 str_b str_EUR).bind fun x65 =>
              (f20 0 []).bind fun x75 =>
              bif (decide (x75 = v58)) then
                (f19 x11.1 x61.1).bind fun x78 =>
                bif x78 then
                  bif (decide (x61.2 = 51)) then
                    bif (decide (x65.2 = 0)) then
                      some (.ret (decide (x65.1 = (-5))))
                    else
                      some (.ret false)
                  else
                    some (.ret false)
                else
                  some (.ret false)
              else
                some (.ret false)
          else
            some (.ret false)
        else
          some (.ret false)
      else
        some (.ret false)
    else
      some (.ret false)
  else
    some (.ret false)
theorem f11n0_ok {o : f11n0O} (h : f11n0 = some o) : T Try.prog Try.f11.ntmps 0 c11 f11n0S (fun r => r = f11n0E o) := by
  unfold f11n0 at h
  obtain ⟨x7, h8, h⟩ := bind_cases h
  obtain ⟨x9, h10, h⟩ := bind_cases h
  obtain ⟨x11, h12, h⟩ := bind_cases h
  obtain ⟨x15, h16, h⟩ := bind_cases h
  rcases cond_cases h with ⟨h30, h⟩ | ⟨h30, h⟩
  · rcases cond_cases h with ⟨h31, h⟩ | ⟨h31, h⟩
    · rcases cond_cases h with ⟨h32, h⟩ | ⟨h32, h⟩
      · obtain ⟨h33, h⟩ := req_cases h
        obtain ⟨x34, h35, h⟩ := bind_cases h
        rcases cond_cases h with ⟨h36, h⟩ | ⟨h36, h⟩
        · obtain ⟨h37, h⟩ := req_cases h
          obtain ⟨x38, h39, h⟩ := bind_cases h
          obtain ⟨x40, h41, h⟩ := bind_cases h
          rcases cond_cases h with ⟨h42, h⟩ | ⟨h42, h⟩
          · refine runK_norm cfg_ok (k := 5) (rs := [([], [], []), ([], [(0, .call (.pl (.agg (Journal.cells x7))) []), (1, .call (.own 0) [some (.row false 3 ([(JournalLine.mk str_a str_EUR 5), (JournalLine.mk str_b str_EUR (wr64 (0 - 5)))].map JournalLine.cells))]), (2, .call (.tup [(.pl (.agg (Journal.cells x11.1))), (.pl (.int .i64 x11.2))]) [])], []), ([], [(1, .call (.tup [(.own 2), (.pl (.int .i64 x15.1))]) [none, none, some (.row false 1 (x15.2.map (cInt .u8)))])], []), ([(3, false), (4, false), (7, false), (8, false), (9, false), (12, false), (13, false), (14, false), (15, false), (16, false), (19, false), (20, false), (21, false), (22, false), (23, false)], [(5, .bool false), (10, .bool false), (13, .cut 0 (Int.toNat 4)), (15, .call (.pl (.bool x34)) []), (17, .bool false), (20, .cut (Int.toNat 4) (Int.toNat 43)), (21, .call (.own 5) [none, none, none, none, none, some (.row false 1 ([1, 0, 0, 0, 1, 0, 0, 0, 1, 120, 2, 1, 97, 3, 69, 85, 82, 5, 0, 0, 0, 0, 0, 0, 0, 1, 98, 3, 69, 85, 82, 251, 255, 255, 255, 255, 255, 255, 255].map (cInt .u8)))]), (22, .call (.pl (.bool x40)) []), (24, .bool false)], [(8, .val (.pl (.int .i64 (x15.2.length : Int))))]), ([], [], [])]) (ps := [some false]) (tds := []) (m := [1, 2]) (keep := [1, 3, 5]) (st' := (f11n1S x11 x15)) (by kernel_rfl) (ap (f36_ok h8) (ap (f37r1_ok 5 h10) (ap (f30_ok x7 1 str_x78 [(JournalLine.mk str_a str_EUR 5), (JournalLine.mk str_b str_EUR (wr64 (0 - 5)))] h12) (ap (CallS.ren (args' := [(.pl (.agg (Journal.cells x11.1)))]) (v' := (.tup [(.own 2), (.pl (.int .i64 x15.1))])) (B := [none, none]) (B' := [none, none, some (.row false 1 (x15.2.map (cInt .u8)))]) 2 [] (f13r1_ok x11.1 h16) (by kernel_rfl) (by kernel_rfl) (by kernel_rfl) (by kernel_rfl) (by kernel_rfl) (by kernel_rfl)) (ap (not_t h30) (ap (not_t h30) (ap (not_t h30) (ap (not_t h31) (ap (not_t h31) (ap (len_cv (xs := x15.2) (c := (cInt .u8))) (ap (not_t h31) (ap (not_t h31) (ap (not_t h32) (ap (not_t h32) (ap (cut_hn_1_map (c := (cInt .u8)) h33) (ap (cut_hn_2 h33) (ap (cut_hn_3 h33) (ap (cut_hn_4_map (c := (cInt .u8)) h33) (ap (not_t h32) (ap (not_t h32) (ap (vw_le (cut_hn_3 h33) (cut_hn_4_map (c := (cInt .u8)) h33)) (ap (not_t h32) (ap (not_t h32) (ap (not_t h36) (ap (not_t h36) (ap (cut_hl_1_map (c := (cInt .u8)) h37) (ap (cut_hl_2 h37) (ap (cut_hl_3 h37) (ap (cut_hl_4_map (c := (cInt .u8)) h37) (ap (not_t h36) (ap (not_t h36) (ap (vw_le (cut_hl_3 h37) (cut_hl_4_map (c := (cInt .u8)) h37)) (ap (not_t h36) (ap (not_t h36) (ap (same_len (e := ⟨false, 18, [(.pl (.sl .any 1 (((x15.2.map (cInt .u8)).drop 0).take ((Int.toNat 4) - 0)))), (.pl (.sl .any 1 ([39, 0, 0, 0].map (cInt .u8))))], [], (.pl (.bool x34)), []⟩) (f := ⟨false, 18, [(.pl (.sl .any 1 (((x15.2.map (cInt .u8)).drop (Int.toNat 4)).take ((Int.toNat 43) - (Int.toNat 4))))), (.pl (.sl .any 1 ([1, 0, 0, 0, 1, 0, 0, 0, 1, 120, 2, 1, 97, 3, 69, 85, 82, 5, 0, 0, 0, 0, 0, 0, 0, 1, 98, 3, 69, 85, 82, 251, 255, 255, 255, 255, 255, 255, 255].map (cInt .u8))))], [], (.pl (.bool x40)), []⟩) 1 (by kernel_rfl)) (ap (show CallS Try.prog false 18 [(.pl (.sl .any 1 (((x15.2.map (cInt .u8)).drop 0).take ((Int.toNat 4) - 0)))), (.pl (.sl .any 1 ([39, 0, 0, 0].map (cInt .u8))))] [] (.pl (.bool x34)) [] from (by have h := (f18_ok ((x15.2.drop 0).take ((Int.toNat 4) - 0)) [39, 0, 0, 0] h35); simpa only [List.map_take, List.map_drop] using h)) (ap (CallS.ren (args' := []) (v' := (.own 5)) (B := [none, none, none, none, none]) (B' := [none, none, none, none, none, some (.row false 1 ([1, 0, 0, 0, 1, 0, 0, 0, 1, 120, 2, 1, 97, 3, 69, 85, 82, 5, 0, 0, 0, 0, 0, 0, 0, 1, 98, 3, 69, 85, 82, 251, 255, 255, 255, 255, 255, 255, 255].map (cInt .u8)))]) 5 [] (f38r1_ok h39) (by kernel_rfl) (by kernel_rfl) (by kernel_rfl) (by kernel_rfl) (by kernel_rfl) (by kernel_rfl)) (ap (show CallS Try.prog false 18 [(.pl (.sl .any 1 (((x15.2.map (cInt .u8)).drop (Int.toNat 4)).take ((Int.toNat 43) - (Int.toNat 4))))), (.pl (.sl .any 1 ([1, 0, 0, 0, 1, 0, 0, 0, 1, 120, 2, 1, 97, 3, 69, 85, 82, 5, 0, 0, 0, 0, 0, 0, 0, 1, 98, 3, 69, 85, 82, 251, 255, 255, 255, 255, 255, 255, 255].map (cInt .u8))))] [] (.pl (.bool x40)) [] from (by have h := (f18_ok ((x15.2.drop (Int.toNat 4)).take ((Int.toNat 43) - (Int.toNat 4))) [1, 0, 0, 0, 1, 0, 0, 0, 1, 120, 2, 1, 97, 3, 69, 85, 82, 5, 0, 0, 0, 0, 0, 0, 0, 1, 98, 3, 69, 85, 82, 251, 255, 255, 255, 255, 255, 255, 255] h41); simpa only [List.map_take, List.map_drop] using h)) (ap (not_t h42) an))))))))))))))))))))))))))))))))))))))) ?_
            obtain ⟨o56, h57, h⟩ := bind_cases h
            cases o56 with
            | norm v58 =>
              refine T.oneN (by kernel_rfl) (f11n1_ok x11 x15 h57) (st2 := (f11n1E x11 x15 (.norm v58)).2) rfl ?_
              obtain ⟨x61, h62, h⟩ := bind_cases h
              obtain ⟨x65, h66, h⟩ := bind_cases h
              obtain ⟨x75, h76, h⟩ := bind_cases h
              rcases cond_cases h with ⟨h77, h⟩ | ⟨h77, h⟩
              · obtain ⟨x78, h79, h⟩ := bind_cases h
                rcases cond_cases h with ⟨h80, h⟩ | ⟨h80, h⟩
                · rcases cond_cases h with ⟨h81, h⟩ | ⟨h81, h⟩
                  · rcases cond_cases h with ⟨h82, h⟩ | ⟨h82, h⟩
                    · obtain rfl := some_inj h
                      exact run_end cfg_ok (rs := [([], [(1, .call (.tup [(.pl (.agg (Journal.cells x61.1))), (.pl (.int .i64 x61.2))]) [])], []), ([], [(1, .call (.tup [(.pl (.int .i64 x65.1)), (.pl (.int .i64 x65.2))]) [])], []), ([(4, true), (5, true), (6, true), (9, true), (10, true), (13, true), (14, true), (17, true), (18, true)], [(0, .call (.pl (.int .u64 x75)) []), (6, .call (.pl (.bool x78)) []), (7, .bool true), (11, .bool true), (15, .bool true), (19, .bool true)], [])]) (ps := []) (tds := []) (m := []) (keep := [0]) (r := (.ret, (f11n0E (.ret (decide (x65.1 = (-5))))).2)) (by kernel_rfl) (ap (f16_ok x15.2 h62) (ap (f25_ok x11.1 str_b str_EUR h66) (ap h77 (ap h77 (ap h77 (ap h77 (ap h80 (ap h80 (ap h80 (ap h81 (ap h81 (ap h81 (ap h82 (ap h82 (ap h82 (ap (CallS.wk (args' := [(.pl (.int .u64 0)), (.pl (.sl .nil 0 []))]) (f20_ok 0 [] h76) (wlc (Wk.refl _) (wlc (Wk.pl (WkP.nil (f := .nil) (sz := 0) (sz' := 1))) wln)) (Wk.refl _) rfl) (ap (f19_ok x11.1 x61.1 h79) an))))))))))))))))) rfl
                    · obtain rfl := some_inj h
                      exact run_end cfg_ok (rs := [([], [(1, .call (.tup [(.pl (.agg (Journal.cells x61.1))), (.pl (.int .i64 x61.2))]) [])], []), ([], [(1, .call (.tup [(.pl (.int .i64 x65.1)), (.pl (.int .i64 x65.2))]) [])], []), ([(4, true), (5, true), (6, true), (9, true), (10, true), (13, true), (14, true), (17, false), (18, false)], [(0, .call (.pl (.int .u64 x75)) []), (6, .call (.pl (.bool x78)) []), (7, .bool true), (11, .bool true), (15, .bool true), (19, .bool false)], [])]) (ps := []) (tds := []) (m := []) (keep := [0]) (r := (.ret, (f11n0E (.ret false)).2)) (by kernel_rfl) (ap (f16_ok x15.2 h62) (ap (f25_ok x11.1 str_b str_EUR h66) (ap h77 (ap h77 (ap h77 (ap h77 (ap h80 (ap h80 (ap h80 (ap h81 (ap h81 (ap h81 (ap h82 (ap h82 (ap h82 (ap (CallS.wk (args' := [(.pl (.int .u64 0)), (.pl (.sl .nil 0 []))]) (f20_ok 0 [] h76) (wlc (Wk.refl _) (wlc (Wk.pl (WkP.nil (f := .nil) (sz := 0) (sz' := 1))) wln)) (Wk.refl _) rfl) (ap (f19_ok x11.1 x61.1 h79) an))))))))))))))))) rfl
                  · obtain rfl := some_inj h
                    exact run_end cfg_ok (rs := [([], [(1, .call (.tup [(.pl (.agg (Journal.cells x61.1))), (.pl (.int .i64 x61.2))]) [])], []), ([], [(1, .call (.tup [(.pl (.int .i64 x65.1)), (.pl (.int .i64 x65.2))]) [])], []), ([(4, true), (5, true), (6, true), (9, true), (10, true), (13, false), (14, false)], [(0, .call (.pl (.int .u64 x75)) []), (6, .call (.pl (.bool x78)) []), (7, .bool true), (11, .bool true), (15, .bool false)], [])]) (ps := []) (tds := []) (m := []) (keep := [0]) (r := (.ret, (f11n0E (.ret false)).2)) (by kernel_rfl) (ap (f16_ok x15.2 h62) (ap (f25_ok x11.1 str_b str_EUR h66) (ap h77 (ap h77 (ap h77 (ap h77 (ap h80 (ap h80 (ap h80 (ap h81 (ap h81 (ap h81 (ap (CallS.wk (args' := [(.pl (.int .u64 0)), (.pl (.sl .nil 0 []))]) (f20_ok 0 [] h76) (wlc (Wk.refl _) (wlc (Wk.pl (WkP.nil (f := .nil) (sz := 0) (sz' := 1))) wln)) (Wk.refl _) rfl) (ap (f19_ok x11.1 x61.1 h79) an)))))))))))))) rfl
                · obtain rfl := some_inj h
                  exact run_end cfg_ok (rs := [([], [(1, .call (.tup [(.pl (.agg (Journal.cells x61.1))), (.pl (.int .i64 x61.2))]) [])], []), ([], [(1, .call (.tup [(.pl (.int .i64 x65.1)), (.pl (.int .i64 x65.2))]) [])], []), ([(4, true), (5, true), (6, true), (9, false), (10, false)], [(0, .call (.pl (.int .u64 x75)) []), (6, .call (.pl (.bool x78)) []), (7, .bool true), (11, .bool false)], [])]) (ps := []) (tds := []) (m := []) (keep := [0]) (r := (.ret, (f11n0E (.ret false)).2)) (by kernel_rfl) (ap (f16_ok x15.2 h62) (ap (f25_ok x11.1 str_b str_EUR h66) (ap h77 (ap h77 (ap h77 (ap h77 (ap h80 (ap h80 (ap h80 (ap (CallS.wk (args' := [(.pl (.int .u64 0)), (.pl (.sl .nil 0 []))]) (f20_ok 0 [] h76) (wlc (Wk.refl _) (wlc (Wk.pl (WkP.nil (f := .nil) (sz := 0) (sz' := 1))) wln)) (Wk.refl _) rfl) (ap (f19_ok x11.1 x61.1 h79) an))))))))))) rfl
              · obtain rfl := some_inj h
                exact run_end cfg_ok (rs := [([], [(1, .call (.tup [(.pl (.agg (Journal.cells x61.1))), (.pl (.int .i64 x61.2))]) [])], []), ([], [(1, .call (.tup [(.pl (.int .i64 x65.1)), (.pl (.int .i64 x65.2))]) [])], []), ([(4, false), (5, false), (6, false)], [(0, .call (.pl (.int .u64 x75)) []), (7, .bool false)], [])]) (ps := []) (tds := []) (m := []) (keep := [0]) (r := (.ret, (f11n0E (.ret false)).2)) (by kernel_rfl) (ap (f16_ok x15.2 h62) (ap (f25_ok x11.1 str_b str_EUR h66) (ap h77 (ap h77 (ap h77 (ap h77 (ap (CallS.wk (args' := [(.pl (.int .u64 0)), (.pl (.sl .nil 0 []))]) (f20_ok 0 [] h76) (wlc (Wk.refl _) (wlc (Wk.pl (WkP.nil (f := .nil) (sz := 0) (sz' := 1))) wln)) (Wk.refl _) rfl) an))))))) rfl
          · obtain rfl := some_inj h
            exact runK_end cfg_ok (k := 4) (rs := [([], [], []), ([], [(0, .call (.pl (.agg (Journal.cells x7))) []), (1, .call (.own 0) [some (.row false 3 ([(JournalLine.mk str_a str_EUR 5), (JournalLine.mk str_b str_EUR (wr64 (0 - 5)))].map JournalLine.cells))]), (2, .call (.tup [(.pl (.agg (Journal.cells x11.1))), (.pl (.int .i64 x11.2))]) [])], []), ([], [(1, .call (.tup [(.own 2), (.pl (.int .i64 x15.1))]) [none, none, some (.row false 1 (x15.2.map (cInt .u8)))])], []), ([(3, false), (4, false), (7, false), (8, false), (9, false), (12, false), (13, false), (14, false), (15, false), (16, false), (19, false), (20, false), (21, false), (22, false), (23, false)], [(5, .bool false), (10, .bool false), (13, .cut 0 (Int.toNat 4)), (15, .call (.pl (.bool x34)) []), (17, .bool false), (20, .cut (Int.toNat 4) (Int.toNat 43)), (21, .call (.own 5) [none, none, none, none, none, some (.row false 1 ([1, 0, 0, 0, 1, 0, 0, 0, 1, 120, 2, 1, 97, 3, 69, 85, 82, 5, 0, 0, 0, 0, 0, 0, 0, 1, 98, 3, 69, 85, 82, 251, 255, 255, 255, 255, 255, 255, 255].map (cInt .u8)))]), (22, .call (.pl (.bool x40)) []), (24, .bool false)], [(8, .val (.pl (.int .i64 (x15.2.length : Int))))]), ([], [], [])]) (ps := [some true]) (tds := []) (m := []) (keep := [0]) (ex := .ret) (st' := (f11n0E (.ret false)).2) (by kernel_rfl) (ap (f36_ok h8) (ap (f37r1_ok 5 h10) (ap (f30_ok x7 1 str_x78 [(JournalLine.mk str_a str_EUR 5), (JournalLine.mk str_b str_EUR (wr64 (0 - 5)))] h12) (ap (CallS.ren (args' := [(.pl (.agg (Journal.cells x11.1)))]) (v' := (.tup [(.own 2), (.pl (.int .i64 x15.1))])) (B := [none, none]) (B' := [none, none, some (.row false 1 (x15.2.map (cInt .u8)))]) 2 [] (f13r1_ok x11.1 h16) (by kernel_rfl) (by kernel_rfl) (by kernel_rfl) (by kernel_rfl) (by kernel_rfl) (by kernel_rfl)) (ap (not_t h30) (ap (not_t h30) (ap (not_t h30) (ap (not_t h31) (ap (not_t h31) (ap (len_cv (xs := x15.2) (c := (cInt .u8))) (ap (not_t h31) (ap (not_t h31) (ap (not_t h32) (ap (not_t h32) (ap (cut_hn_1_map (c := (cInt .u8)) h33) (ap (cut_hn_2 h33) (ap (cut_hn_3 h33) (ap (cut_hn_4_map (c := (cInt .u8)) h33) (ap (not_t h32) (ap (not_t h32) (ap (vw_le (cut_hn_3 h33) (cut_hn_4_map (c := (cInt .u8)) h33)) (ap (not_t h32) (ap (not_t h32) (ap (not_t h36) (ap (not_t h36) (ap (cut_hl_1_map (c := (cInt .u8)) h37) (ap (cut_hl_2 h37) (ap (cut_hl_3 h37) (ap (cut_hl_4_map (c := (cInt .u8)) h37) (ap (not_t h36) (ap (not_t h36) (ap (vw_le (cut_hl_3 h37) (cut_hl_4_map (c := (cInt .u8)) h37)) (ap (not_t h36) (ap (not_t h36) (ap (same_len (e := ⟨false, 18, [(.pl (.sl .any 1 (((x15.2.map (cInt .u8)).drop 0).take ((Int.toNat 4) - 0)))), (.pl (.sl .any 1 ([39, 0, 0, 0].map (cInt .u8))))], [], (.pl (.bool x34)), []⟩) (f := ⟨false, 18, [(.pl (.sl .any 1 (((x15.2.map (cInt .u8)).drop (Int.toNat 4)).take ((Int.toNat 43) - (Int.toNat 4))))), (.pl (.sl .any 1 ([1, 0, 0, 0, 1, 0, 0, 0, 1, 120, 2, 1, 97, 3, 69, 85, 82, 5, 0, 0, 0, 0, 0, 0, 0, 1, 98, 3, 69, 85, 82, 251, 255, 255, 255, 255, 255, 255, 255].map (cInt .u8))))], [], (.pl (.bool x40)), []⟩) 1 (by kernel_rfl)) (ap (show CallS Try.prog false 18 [(.pl (.sl .any 1 (((x15.2.map (cInt .u8)).drop 0).take ((Int.toNat 4) - 0)))), (.pl (.sl .any 1 ([39, 0, 0, 0].map (cInt .u8))))] [] (.pl (.bool x34)) [] from (by have h := (f18_ok ((x15.2.drop 0).take ((Int.toNat 4) - 0)) [39, 0, 0, 0] h35); simpa only [List.map_take, List.map_drop] using h)) (ap (CallS.ren (args' := []) (v' := (.own 5)) (B := [none, none, none, none, none]) (B' := [none, none, none, none, none, some (.row false 1 ([1, 0, 0, 0, 1, 0, 0, 0, 1, 120, 2, 1, 97, 3, 69, 85, 82, 5, 0, 0, 0, 0, 0, 0, 0, 1, 98, 3, 69, 85, 82, 251, 255, 255, 255, 255, 255, 255, 255].map (cInt .u8)))]) 5 [] (f38r1_ok h39) (by kernel_rfl) (by kernel_rfl) (by kernel_rfl) (by kernel_rfl) (by kernel_rfl) (by kernel_rfl)) (ap (show CallS Try.prog false 18 [(.pl (.sl .any 1 (((x15.2.map (cInt .u8)).drop (Int.toNat 4)).take ((Int.toNat 43) - (Int.toNat 4))))), (.pl (.sl .any 1 ([1, 0, 0, 0, 1, 0, 0, 0, 1, 120, 2, 1, 97, 3, 69, 85, 82, 5, 0, 0, 0, 0, 0, 0, 0, 1, 98, 3, 69, 85, 82, 251, 255, 255, 255, 255, 255, 255, 255].map (cInt .u8))))] [] (.pl (.bool x40)) [] from (by have h := (f18_ok ((x15.2.drop (Int.toNat 4)).take ((Int.toNat 43) - (Int.toNat 4))) [1, 0, 0, 0, 1, 0, 0, 0, 1, 120, 2, 1, 97, 3, 69, 85, 82, 5, 0, 0, 0, 0, 0, 0, 0, 1, 98, 3, 69, 85, 82, 251, 255, 255, 255, 255, 255, 255, 255] h41); simpa only [List.map_take, List.map_drop] using h)) (ap (not_f h42) an))))))))))))))))))))))))))))))))))))))) (fun h => nomatch h) rfl
        · obtain rfl := some_inj h
          exact runK_end cfg_ok (k := 4) (rs := [([], [], []), ([], [(0, .call (.pl (.agg (Journal.cells x7))) []), (1, .call (.own 0) [some (.row false 3 ([(JournalLine.mk str_a str_EUR 5), (JournalLine.mk str_b str_EUR (wr64 (0 - 5)))].map JournalLine.cells))]), (2, .call (.tup [(.pl (.agg (Journal.cells x11.1))), (.pl (.int .i64 x11.2))]) [])], []), ([], [(1, .call (.tup [(.own 2), (.pl (.int .i64 x15.1))]) [none, none, some (.row false 1 (x15.2.map (cInt .u8)))])], []), ([(3, false), (4, false), (7, false), (8, false), (9, false), (12, false), (13, false), (14, false), (15, false), (16, false), (19, true), (20, true), (21, true), (22, true), (23, true)], [(5, .bool false), (10, .bool false), (13, .cut 0 (Int.toNat 4)), (15, .call (.pl (.bool x34)) []), (17, .bool false), (24, .bool true)], [(8, .val (.pl (.int .i64 (x15.2.length : Int))))]), ([], [], [])]) (ps := [none]) (tds := []) (m := []) (keep := [0]) (ex := .ret) (st' := (f11n0E (.ret false)).2) (by kernel_rfl) (ap (f36_ok h8) (ap (f37r1_ok 5 h10) (ap (f30_ok x7 1 str_x78 [(JournalLine.mk str_a str_EUR 5), (JournalLine.mk str_b str_EUR (wr64 (0 - 5)))] h12) (ap (CallS.ren (args' := [(.pl (.agg (Journal.cells x11.1)))]) (v' := (.tup [(.own 2), (.pl (.int .i64 x15.1))])) (B := [none, none]) (B' := [none, none, some (.row false 1 (x15.2.map (cInt .u8)))]) 2 [] (f13r1_ok x11.1 h16) (by kernel_rfl) (by kernel_rfl) (by kernel_rfl) (by kernel_rfl) (by kernel_rfl) (by kernel_rfl)) (ap (not_t h30) (ap (not_t h30) (ap (not_t h30) (ap (not_t h31) (ap (not_t h31) (ap (len_cv (xs := x15.2) (c := (cInt .u8))) (ap (not_t h31) (ap (not_t h31) (ap (not_t h32) (ap (not_t h32) (ap (cut_hn_1_map (c := (cInt .u8)) h33) (ap (cut_hn_2 h33) (ap (cut_hn_3 h33) (ap (cut_hn_4_map (c := (cInt .u8)) h33) (ap (not_t h32) (ap (not_t h32) (ap (vw_le (cut_hn_3 h33) (cut_hn_4_map (c := (cInt .u8)) h33)) (ap (not_t h32) (ap (not_t h32) (ap (not_f h36) (ap (not_f h36) (ap (not_f h36) (ap (not_f h36) (ap (not_f h36) (ap (not_f h36) (ap (show CallS Try.prog false 18 [(.pl (.sl .any 1 (((x15.2.map (cInt .u8)).drop 0).take ((Int.toNat 4) - 0)))), (.pl (.sl .any 1 ([39, 0, 0, 0].map (cInt .u8))))] [] (.pl (.bool x34)) [] from (by have h := (f18_ok ((x15.2.drop 0).take ((Int.toNat 4) - 0)) [39, 0, 0, 0] h35); simpa only [List.map_take, List.map_drop] using h)) an)))))))))))))))))))))))))))))) (fun h => nomatch h) rfl
      · obtain rfl := some_inj h
        exact runK_end cfg_ok (k := 4) (rs := [([], [], []), ([], [(0, .call (.pl (.agg (Journal.cells x7))) []), (1, .call (.own 0) [some (.row false 3 ([(JournalLine.mk str_a str_EUR 5), (JournalLine.mk str_b str_EUR (wr64 (0 - 5)))].map JournalLine.cells))]), (2, .call (.tup [(.pl (.agg (Journal.cells x11.1))), (.pl (.int .i64 x11.2))]) [])], []), ([], [(1, .call (.tup [(.own 2), (.pl (.int .i64 x15.1))]) [none, none, some (.row false 1 (x15.2.map (cInt .u8)))])], []), ([(3, false), (4, false), (7, false), (8, false), (9, false), (12, true), (13, true), (14, true), (15, true), (16, true)], [(5, .bool false), (10, .bool false), (17, .bool true)], [(8, .val (.pl (.int .i64 (x15.2.length : Int))))]), ([], [], [])]) (ps := [none]) (tds := []) (m := []) (keep := [0]) (ex := .ret) (st' := (f11n0E (.ret false)).2) (by kernel_rfl) (ap (f36_ok h8) (ap (f37r1_ok 5 h10) (ap (f30_ok x7 1 str_x78 [(JournalLine.mk str_a str_EUR 5), (JournalLine.mk str_b str_EUR (wr64 (0 - 5)))] h12) (ap (CallS.ren (args' := [(.pl (.agg (Journal.cells x11.1)))]) (v' := (.tup [(.own 2), (.pl (.int .i64 x15.1))])) (B := [none, none]) (B' := [none, none, some (.row false 1 (x15.2.map (cInt .u8)))]) 2 [] (f13r1_ok x11.1 h16) (by kernel_rfl) (by kernel_rfl) (by kernel_rfl) (by kernel_rfl) (by kernel_rfl) (by kernel_rfl)) (ap (not_t h30) (ap (not_t h30) (ap (not_t h30) (ap (not_t h31) (ap (not_t h31) (ap (len_cv (xs := x15.2) (c := (cInt .u8))) (ap (not_t h31) (ap (not_t h31) (ap (not_f h32) (ap (not_f h32) (ap (not_f h32) (ap (not_f h32) (ap (not_f h32) (ap (not_f h32) an)))))))))))))))))) (fun h => nomatch h) rfl
    · obtain rfl := some_inj h
      exact runK_end cfg_ok (k := 4) (rs := [([], [], []), ([], [(0, .call (.pl (.agg (Journal.cells x7))) []), (1, .call (.own 0) [some (.row false 3 ([(JournalLine.mk str_a str_EUR 5), (JournalLine.mk str_b str_EUR (wr64 (0 - 5)))].map JournalLine.cells))]), (2, .call (.tup [(.pl (.agg (Journal.cells x11.1))), (.pl (.int .i64 x11.2))]) [])], []), ([], [(1, .call (.tup [(.own 2), (.pl (.int .i64 x15.1))]) [none, none, some (.row false 1 (x15.2.map (cInt .u8)))])], []), ([(3, false), (4, false), (7, true), (8, true), (9, true)], [(5, .bool false), (10, .bool true)], []), ([], [], [])]) (ps := [none]) (tds := []) (m := []) (keep := [0]) (ex := .ret) (st' := (f11n0E (.ret false)).2) (by kernel_rfl) (ap (f36_ok h8) (ap (f37r1_ok 5 h10) (ap (f30_ok x7 1 str_x78 [(JournalLine.mk str_a str_EUR 5), (JournalLine.mk str_b str_EUR (wr64 (0 - 5)))] h12) (ap (CallS.ren (args' := [(.pl (.agg (Journal.cells x11.1)))]) (v' := (.tup [(.own 2), (.pl (.int .i64 x15.1))])) (B := [none, none]) (B' := [none, none, some (.row false 1 (x15.2.map (cInt .u8)))]) 2 [] (f13r1_ok x11.1 h16) (by kernel_rfl) (by kernel_rfl) (by kernel_rfl) (by kernel_rfl) (by kernel_rfl) (by kernel_rfl)) (ap (not_t h30) (ap (not_t h30) (ap (not_t h30) (ap (not_f h31) (ap (not_f h31) (ap (not_f h31) (ap (not_f h31) an))))))))))) (fun h => nomatch h) rfl
  · obtain rfl := some_inj h
    exact runK_end cfg_ok (k := 4) (rs := [([], [], []), ([], [(0, .call (.pl (.agg (Journal.cells x7))) []), (1, .call (.own 0) [some (.row false 3 ([(JournalLine.mk str_a str_EUR 5), (JournalLine.mk str_b str_EUR (wr64 (0 - 5)))].map JournalLine.cells))]), (2, .call (.tup [(.pl (.agg (Journal.cells x11.1))), (.pl (.int .i64 x11.2))]) [])], []), ([], [(1, .call (.tup [(.own 2), (.pl (.int .i64 x15.1))]) [none, none, some (.row false 1 (x15.2.map (cInt .u8)))])], []), ([(3, true), (4, true)], [(5, .bool true)], []), ([], [], [])]) (ps := [none]) (tds := []) (m := []) (keep := [0]) (ex := .ret) (st' := (f11n0E (.ret false)).2) (by kernel_rfl) (ap (f36_ok h8) (ap (f37r1_ok 5 h10) (ap (f30_ok x7 1 str_x78 [(JournalLine.mk str_a str_EUR 5), (JournalLine.mk str_b str_EUR (wr64 (0 - 5)))] h12) (ap (CallS.ren (args' := [(.pl (.agg (Journal.cells x11.1)))]) (v' := (.tup [(.own 2), (.pl (.int .i64 x15.1))])) (B := [none, none]) (B' := [none, none, some (.row false 1 (x15.2.map (cInt .u8)))]) 2 [] (f13r1_ok x11.1 h16) (by kernel_rfl) (by kernel_rfl) (by kernel_rfl) (by kernel_rfl) (by kernel_rfl) (by kernel_rfl)) (ap (not_f h30) (ap (not_f h30) (ap (not_f h30) an))))))) (fun h => nomatch h) rfl
noncomputable def f11 : Option Bool := f11n0.bind fun o => match o with
  | .ret v83 => some v83
theorem f11_ok {r : Bool} (h : f11 = some r) : CallS Try.prog false 11 [] [] (.pl (.bool r)) [] := by
  unfold f11 at h
  obtain ⟨o, ho, h⟩ := bind_cases h
  cases o with
  | ret v83 =>
    obtain rfl := some_inj h
    exact CallS.plain cfg_ok (f := Try.f11) (c := c11) (by kernel_rfl) (by kernel_rfl) (by kernel_rfl) (by kernel_rfl) ((f11n0_ok  ho).mono fun r e => by subst e; exact ⟨.inl rfl, (.pl (.bool v83)), (.pl (.bool v83)), by kernel_rfl, by kernel_rfl, ((Wk.refl _) : Wk (.pl (.bool v83)) (.pl (.bool v83)))⟩)

noncomputable def c29 : Code := Try.f29.body.getD .skip
inductive f29n2O where
  | exit0
  | ret
def f29n2E (bc1 : List JournalLine) : f29n2O → Ex × Tr × Hp
  | .exit0 => ((.exit 0), mkS [(0, (.pl (.sl .any 3 (bc1.map JournalLine.cells))))], [])
  | .ret => (.ret, mkS [(2, (.pl (.bool true)))], [])
def f29n2S (bc1 : List JournalLine) (v25 : Int) : Tr × Hp := (mkS [(0, (.pl (.sl .any 3 (bc1.map JournalLine.cells)))), (3, (.pl (.int .i64 v25)))], [])
noncomputable def f29n2 : Nat → List JournalLine → Int → Option f29n2O
  | 0, _, _ => none
  | f + 1, bc1, v25 =>
    bif (decide (v25 < (bc1.length : Int))) then
      bif (decide (v25 ≤ 40)) then
        (at? bc1 v25).bind fun x34 =>
        bif (decide (300 < (x34.Account.size : Int))) then
          some .ret
        else
          bif (decide (300 < (x34.Ccy.size : Int))) then
            some .ret
          else
            (f29n2 f bc1 (wr64 (v25 + 1)))
      else
        some .exit0
    else
      some .exit0
theorem f29n2_ok : ∀ (f : Nat) (bc1 : List JournalLine) (v25 : Int) {o : f29n2O}, (f29n2 f bc1 v25) = some o → TL Try.prog Try.f29.ntmps 0 f (cL (cL (dropC 1 (cL (dropC 1 c29))))) (f29n2S bc1 v25) (fun r => r = f29n2E bc1 o)
  | 0, _, _, o, h => by rw [f29n2] at h; cases h
  | f + 1, bc1, v25, o, h => by
    rw [f29n2] at h
    refine TL.body (K := fun s => ∃ v25 : Int, s = (f29n2S bc1 v25) ∧ (f29n2 f bc1 v25) = some o) ?_ (by rintro _ ⟨v25, rfl, hk⟩; exact f29n2_ok f _ _ hk)
    rcases cond_cases h with ⟨h28, h⟩ | ⟨h28, h⟩
    · rcases cond_cases h with ⟨h29, h⟩ | ⟨h29, h⟩
      · obtain ⟨x34, h35, h⟩ := bind_cases h
        rcases cond_cases h with ⟨h36, h⟩ | ⟨h36, h⟩
        · obtain rfl := some_inj h
          exact runK_end cfg_ok (k := 2) (rs := [([(5, true), (6, true)], [(7, .bool true)], [(2, .val (.pl (.int .i64 (bc1.length : Int))))]), ([(8, true), (9, true), (10, true), (11, true), (12, true), (13, true), (14, true)], [(2, .idx (Int.toNat v25) (JournalLine.cells x34)), (15, .bool true)], []), ([], [], [])]) (ps := [some true, none]) (tds := []) (m := []) (keep := [2]) (ex := .ret) (st' := (f29n2E bc1 .ret).2) (by kernel_rfl) (ap (len_cv (xs := bc1) (c := JournalLine.cells)) (ap h28 (ap h28 (ap h28 (ap h29 (ap (at_some h35).1 (ap (at_map JournalLine.cells (at_some h35).2) (ap h36 (ap h36 (ap h36 (ap h36 (ap h36 (ap h36 (ap h36 (ap h36 an))))))))))))))) (fun h => nomatch h) (LoopQ.out rfl rfl)
        · rcases cond_cases h with ⟨h37, h⟩ | ⟨h37, h⟩
          · obtain rfl := some_inj h
            exact runK_end cfg_ok (k := 2) (rs := [([(5, true), (6, true)], [(7, .bool true)], [(2, .val (.pl (.int .i64 (bc1.length : Int))))]), ([(8, false), (9, false), (10, false), (11, false), (12, false), (13, false), (14, false)], [(2, .idx (Int.toNat v25) (JournalLine.cells x34)), (10, .idx (Int.toNat v25) (JournalLine.cells x34)), (15, .bool false)], []), ([], [], [])]) (ps := [some true, some true]) (tds := []) (m := []) (keep := [2]) (ex := .ret) (st' := (f29n2E bc1 .ret).2) (by kernel_rfl) (ap (len_cv (xs := bc1) (c := JournalLine.cells)) (ap h28 (ap h28 (ap h28 (ap h29 (ap (at_some h35).1 (ap (at_map JournalLine.cells (at_some h35).2) (ap h36 (ap h36 (ap h36 (ap (at_some h35).1 (ap (at_map JournalLine.cells (at_some h35).2) (ap h36 (ap h36 (ap h36 (ap h36 (ap h36 (ap h37 an)))))))))))))))))) (fun h => nomatch h) (LoopQ.out rfl rfl)
          · exact run_end cfg_ok (rs := [([(5, true), (6, true)], [(7, .bool true)], [(2, .val (.pl (.int .i64 (bc1.length : Int))))]), ([(8, false), (9, false), (10, false), (11, false), (12, false), (13, false), (14, false)], [(2, .idx (Int.toNat v25) (JournalLine.cells x34)), (10, .idx (Int.toNat v25) (JournalLine.cells x34)), (15, .bool false)], []), ([], [], [])]) (ps := [some true, some false]) (tds := []) (m := []) (keep := [0, 3]) (r := (.norm, (f29n2S bc1 (wr64 (v25 + 1))))) (by kernel_rfl) (ap (len_cv (xs := bc1) (c := JournalLine.cells)) (ap h28 (ap h28 (ap h28 (ap h29 (ap (at_some h35).1 (ap (at_map JournalLine.cells (at_some h35).2) (ap h36 (ap h36 (ap h36 (ap (at_some h35).1 (ap (at_map JournalLine.cells (at_some h35).2) (ap h36 (ap h36 (ap h36 (ap h36 (ap h36 (ap h37 an)))))))))))))))))) (LoopQ.norm ⟨(wr64 (v25 + 1)), rfl, h⟩)
      · obtain rfl := some_inj h
        exact runK_end cfg_ok (k := 1) (rs := [([(5, true), (6, true)], [(7, .bool true)], [(2, .val (.pl (.int .i64 (bc1.length : Int))))])]) (ps := [some false]) (tds := []) (m := []) (keep := [0]) (ex := (.exit 0)) (st' := (f29n2E bc1 .exit0).2) (by kernel_rfl) (ap (len_cv (xs := bc1) (c := JournalLine.cells)) (ap h28 (ap h28 (ap h28 (ap h29 an))))) (fun h => nomatch h) (LoopQ.out rfl rfl)
    · obtain rfl := some_inj h
      exact runK_end cfg_ok (k := 1) (rs := [([(5, false), (6, false)], [(7, .bool false)], [(2, .val (.pl (.int .i64 (bc1.length : Int))))])]) (ps := [none]) (tds := []) (m := []) (keep := [0]) (ex := (.exit 0)) (st' := (f29n2E bc1 .exit0).2) (by kernel_rfl) (ap (len_cv (xs := bc1) (c := JournalLine.cells)) (ap h28 (ap h28 (ap h28 an)))) (fun h => nomatch h) (LoopQ.out rfl rfl)
noncomputable def f29n2L (bc1 : List JournalLine) : List JournalLine → Int → Option f29n2O
  | [], v25 =>
    some .exit0
  | x0 :: rest, v25 =>
    bif (decide (v25 ≤ 40)) then
      bif (decide (300 < (x0.Account.size : Int))) then
        some .ret
      else
        bif (decide (300 < (x0.Ccy.size : Int))) then
          some .ret
        else
          (f29n2L bc1 rest (v25 + 1))
    else
      some .exit0
theorem f29n2L_eq (bc1 : List JournalLine) : ∀ (rest : List JournalLine) (f k : Nat), bc1.drop k = rest → bc1.length ≤ maxLen → rest.length < f → f29n2 f bc1 (k : Int) = f29n2L bc1 rest (k : Int)
  | _, 0, _, _, _, hf => absurd hf (Nat.not_lt_zero _)
  | [], f + 1, k, hd, hm, hf => by
    have hk : ¬ ((k : Int) < (bc1.length : Int)) := by have := drop_nil hd; omega
    rw [f29n2, f29n2L]
    simp only [decide_eq_false hk, cond_false]
  | x0 :: rest, f + 1, k, hd, hm, hf => by
    obtain ⟨hx, hlt, hd'⟩ := drop_cons hd
    have hk : (k : Int) < (bc1.length : Int) := by omega
    have hw : wr64 ((k : Int) + 1) = (k : Int) + 1 := wr64_of (by omega) (by unfold maxLen at hm; omega)
    have ih : f29n2 f bc1 ((k : Int) + 1) = f29n2L bc1 rest ((k : Int) + 1) := f29n2L_eq bc1 rest f (k + 1) hd' hm (by simpa using hf)
    rw [f29n2, f29n2L]
    simp only [decide_eq_true hk, cond_true, at_nat, hx, Option.bind_some, hw, ih]
theorem f29n2_run (bc1 : List JournalLine) (hm : bc1.length ≤ maxLen) : f29n2 FUEL bc1 0 = f29n2L bc1 bc1 0 := f29n2L_eq bc1 bc1 FUEL 0 List.drop_zero hm (lt_FUEL hm)
inductive f29n1O where
  | norm
  | ret
def f29n1E (bc1 : List JournalLine) : f29n1O → Ex × Tr × Hp
  | .norm => (.norm, mkS [(0, (.pl (.sl .any 3 (bc1.map JournalLine.cells))))], [])
  | .ret => (.ret, mkS [(2, (.pl (.bool true)))], [])
def f29n1S (bc1 : List JournalLine) : Tr × Hp := (mkS [(0, (.pl (.sl .any 3 (bc1.map JournalLine.cells))))], [])
noncomputable def f29n1 (bc1 : List JournalLine) : Option f29n1O :=
  (f29n2 FUEL bc1 0).bind fun o38 => match o38 with
  | .exit0 => some .norm
  | .ret => some .ret
theorem f29n1_ok (bc1 : List JournalLine) {o : f29n1O} (h : (f29n1 bc1) = some o) : T Try.prog Try.f29.ntmps 0 (cL (dropC 1 c29)) (f29n1S bc1) (fun r => r = f29n1E bc1 o) := by
  unfold f29n1 at h
  refine runK_norm cfg_ok (k := 1) (rs := [([], [], [])]) (ps := []) (tds := []) (m := []) (keep := [0, 3]) (st' := (f29n2S bc1 0)) (by kernel_rfl) an ?_
  obtain ⟨o38, h39, h⟩ := bind_cases h
  cases o38 with
  | exit0 =>
    obtain rfl := some_inj h
    exact T.last' (T.bl (i := 0) (by kernel_rfl) (by kernel_rfl) (f29n2_ok FUEL bc1 0 h39)) (tds := []) (m := []) (keep := [0]) (st2 := (f29n1E bc1 .norm).2) (by kernel_rfl) an rfl
  | ret =>
    obtain rfl := some_inj h
    exact T.last' (T.bl (i := 0) (by kernel_rfl) (by kernel_rfl) (f29n2_ok FUEL bc1 0 h39)) (tds := []) (m := []) (keep := [2]) (st2 := (f29n1E bc1 .ret).2) (by kernel_rfl) an rfl
inductive f29n0O where
  | ret (v42 : Bool)
def f29n0E (a1 : List JournalLine) : f29n0O → Ex × Tr × Hp
  | .ret v42 => (.ret, mkS [(2, (.pl (.bool v42)))], [])
def f29n0S (a1 : List JournalLine) : Tr × Hp := (initS [(.pl (.sl .any 3 (a1.map JournalLine.cells)))] 0 .leaf, [])
noncomputable def f29n0 (a1 : List JournalLine) : Option f29n0O :=
  (f29n1 a1).bind fun o40 => match o40 with
  | .norm => some (.ret (decide (40 < (a1.length : Int))))
  | .ret => some (.ret true)
theorem f29n0_ok (a1 : List JournalLine) {o : f29n0O} (h : (f29n0 a1) = some o) : T Try.prog Try.f29.ntmps 0 c29 (f29n0S a1) (fun r => r = f29n0E a1 o) := by
  unfold f29n0 at h
  refine runK_norm cfg_ok (k := 1) (rs := [([], [], [])]) (ps := []) (tds := []) (m := []) (keep := [0]) (st' := (f29n1S a1)) (by kernel_rfl) an ?_
  obtain ⟨o40, h41, h⟩ := bind_cases h
  cases o40 with
  | norm =>
    refine T.oneN (by kernel_rfl) (f29n1_ok a1 h41) (st2 := (f29n1E a1 .norm).2) rfl ?_
    obtain rfl := some_inj h
    exact run_end cfg_ok (rs := [([], [], [(1, .val (.pl (.int .i64 (a1.length : Int))))])]) (ps := []) (tds := []) (m := []) (keep := [2]) (r := (.ret, (f29n0E a1 (.ret (decide (40 < (a1.length : Int))))).2)) (by kernel_rfl) (ap (len_cv (xs := a1) (c := JournalLine.cells)) an) rfl
  | ret =>
    obtain rfl := some_inj h
    exact T.oneX' (by kernel_rfl) (f29n1_ok a1 h41) (tds := []) (m := []) (keep := [2]) (st2 := (f29n0E a1 (.ret true)).2) (by kernel_rfl) an rfl rfl
noncomputable def f29 (a1 : List JournalLine) : Option Bool := (f29n0 a1).bind fun o => match o with
  | .ret v42 => some v42
theorem f29_ok (a1 : List JournalLine) {r : Bool} (h : (f29 a1) = some r) : CallS Try.prog false 29 [(.pl (.sl .any 3 (a1.map JournalLine.cells)))] [] (.pl (.bool r)) [] := by
  unfold f29 at h
  obtain ⟨o, ho, h⟩ := bind_cases h
  cases o with
  | ret v42 =>
    obtain rfl := some_inj h
    exact CallS.plain cfg_ok (f := Try.f29) (c := c29) (by kernel_rfl) (by kernel_rfl) (by kernel_rfl) (by kernel_rfl) ((f29n0_ok a1 ho).mono fun r e => by subst e; exact ⟨.inl rfl, (.pl (.bool v42)), (.pl (.bool v42)), by kernel_rfl, by kernel_rfl, ((Wk.refl _) : Wk (.pl (.bool v42)) (.pl (.bool v42)))⟩)

noncomputable def c23 : Code := Try.f23.body.getD .skip
inductive f23n2O where
  | exit0
  | ret
def f23n2E (bn1 : List Entry) : f23n2O → Ex × Tr × Hp
  | .exit0 => ((.exit 0), mkS [(0, (.pl (.sl .any 3 (bn1.map Entry.cells))))], [])
  | .ret => (.ret, mkS [(2, (.pl (.bool true)))], [])
def f23n2S (bn1 : List Entry) (v41 : Int) : Tr × Hp := (mkS [(0, (.pl (.sl .any 3 (bn1.map Entry.cells)))), (3, (.pl (.int .i64 v41)))], [])
noncomputable def f23n2 : Nat → List Entry → Int → Option f23n2O
  | 0, _, _ => none
  | f + 1, bn1, v41 =>
    bif (decide (v41 < (bn1.length : Int))) then
      bif (decide (v41 ≤ 60)) then
        (at? bn1 v41).bind fun x54 =>
        (f29 x54.Lines).bind fun x56 =>
        bif x56 then
          some .ret
        else
          bif (decide (300 < (x54.Text.size : Int))) then
            some .ret
          else
            bif (decide (x54.After < (-1))) then
              some .ret
            else
              bif (decide (2000 < x54.After)) then
                some .ret
              else
                (f23n2 f bn1 (wr64 (v41 + 1)))
      else
        some .exit0
    else
      some .exit0
theorem f23n2_ok : ∀ (f : Nat) (bn1 : List Entry) (v41 : Int) {o : f23n2O}, (f23n2 f bn1 v41) = some o → TL Try.prog Try.f23.ntmps 0 f (cL (cL (dropC 1 (cL (dropC 1 c23))))) (f23n2S bn1 v41) (fun r => r = f23n2E bn1 o)
  | 0, _, _, o, h => by rw [f23n2] at h; cases h
  | f + 1, bn1, v41, o, h => by
    rw [f23n2] at h
    refine TL.body (K := fun s => ∃ v41 : Int, s = (f23n2S bn1 v41) ∧ (f23n2 f bn1 v41) = some o) ?_ (by rintro _ ⟨v41, rfl, hk⟩; exact f23n2_ok f _ _ hk)
    rcases cond_cases h with ⟨h44, h⟩ | ⟨h44, h⟩
    · rcases cond_cases h with ⟨h45, h⟩ | ⟨h45, h⟩
      · obtain ⟨x54, h55, h⟩ := bind_cases h
        obtain ⟨x56, h57, h⟩ := bind_cases h
        rcases cond_cases h with ⟨h58, h⟩ | ⟨h58, h⟩
        · obtain rfl := some_inj h
          exact runK_end cfg_ok (k := 2) (rs := [([(5, true), (6, true)], [(7, .bool true)], [(2, .val (.pl (.int .i64 (bn1.length : Int))))]), ([(7, true), (8, true), (9, true), (10, true), (11, true), (12, true), (13, true)], [(2, .idx (Int.toNat v41) (Entry.cells x54)), (5, .call (.pl (.bool x56)) []), (14, .bool true)], []), ([], [], [])]) (ps := [some true, none]) (tds := []) (m := []) (keep := [2]) (ex := .ret) (st' := (f23n2E bn1 .ret).2) (by kernel_rfl) (ap (len_cv (xs := bn1) (c := Entry.cells)) (ap h44 (ap h44 (ap h44 (ap h45 (ap (at_some h55).1 (ap (at_map Entry.cells (at_some h55).2) (ap h58 (ap h58 (ap h58 (ap h58 (ap h58 (ap h58 (ap h58 (ap h58 (ap (f29_ok x54.Lines h57) an)))))))))))))))) (fun h => nomatch h) (LoopQ.out rfl rfl)
        · rcases cond_cases h with ⟨h59, h⟩ | ⟨h59, h⟩
          · obtain rfl := some_inj h
            exact runK_end cfg_ok (k := 2) (rs := [([(5, true), (6, true)], [(7, .bool true)], [(2, .val (.pl (.int .i64 (bn1.length : Int))))]), ([(7, false), (8, false), (9, false), (10, false), (11, false), (12, false), (13, false), (16, true), (17, true), (18, true), (19, true), (20, true), (21, true)], [(2, .idx (Int.toNat v41) (Entry.cells x54)), (5, .call (.pl (.bool x56)) []), (9, .idx (Int.toNat v41) (Entry.cells x54)), (14, .bool false), (22, .bool true)], []), ([], [], [])]) (ps := [some true, none]) (tds := []) (m := []) (keep := [2]) (ex := .ret) (st' := (f23n2E bn1 .ret).2) (by kernel_rfl) (ap (len_cv (xs := bn1) (c := Entry.cells)) (ap h44 (ap h44 (ap h44 (ap h45 (ap (at_some h55).1 (ap (at_map Entry.cells (at_some h55).2) (ap h58 (ap h58 (ap h58 (ap (at_some h55).1 (ap (at_map Entry.cells (at_some h55).2) (ap h58 (ap h58 (ap h58 (ap h58 (ap h58 (ap h59 (ap h59 (ap h59 (ap h59 (ap h59 (ap h59 (ap h59 (ap (f29_ok x54.Lines h57) an))))))))))))))))))))))))) (fun h => nomatch h) (LoopQ.out rfl rfl)
          · rcases cond_cases h with ⟨h60, h⟩ | ⟨h60, h⟩
            · obtain rfl := some_inj h
              exact runK_end cfg_ok (k := 2) (rs := [([(5, true), (6, true)], [(7, .bool true)], [(2, .val (.pl (.int .i64 (bn1.length : Int))))]), ([(7, false), (8, false), (9, false), (10, false), (11, false), (12, false), (13, false), (16, false), (17, false), (18, false), (19, false), (20, false), (21, false), (24, true), (25, true), (26, true), (27, true), (28, true), (29, true)], [(2, .idx (Int.toNat v41) (Entry.cells x54)), (5, .call (.pl (.bool x56)) []), (9, .idx (Int.toNat v41) (Entry.cells x54)), (14, .bool false), (18, .idx (Int.toNat v41) (Entry.cells x54)), (22, .bool false), (30, .bool true)], []), ([], [], [])]) (ps := [some true, none]) (tds := []) (m := []) (keep := [2]) (ex := .ret) (st' := (f23n2E bn1 .ret).2) (by kernel_rfl) (ap (len_cv (xs := bn1) (c := Entry.cells)) (ap h44 (ap h44 (ap h44 (ap h45 (ap (at_some h55).1 (ap (at_map Entry.cells (at_some h55).2) (ap h58 (ap h58 (ap h58 (ap (at_some h55).1 (ap (at_map Entry.cells (at_some h55).2) (ap h58 (ap h58 (ap h58 (ap h58 (ap h58 (ap h59 (ap h59 (ap h59 (ap (at_some h55).1 (ap (at_map Entry.cells (at_some h55).2) (ap h59 (ap h59 (ap h59 (ap h59 (ap h60 (ap h60 (ap h60 (ap h60 (ap h60 (ap h60 (ap h60 (ap (f29_ok x54.Lines h57) an)))))))))))))))))))))))))))))))))) (fun h => nomatch h) (LoopQ.out rfl rfl)
            · rcases cond_cases h with ⟨h61, h⟩ | ⟨h61, h⟩
              · obtain rfl := some_inj h
                exact runK_end cfg_ok (k := 2) (rs := [([(5, true), (6, true)], [(7, .bool true)], [(2, .val (.pl (.int .i64 (bn1.length : Int))))]), ([(7, false), (8, false), (9, false), (10, false), (11, false), (12, false), (13, false), (16, false), (17, false), (18, false), (19, false), (20, false), (21, false), (24, false), (25, false), (26, false), (27, false), (28, false), (29, false)], [(2, .idx (Int.toNat v41) (Entry.cells x54)), (5, .call (.pl (.bool x56)) []), (9, .idx (Int.toNat v41) (Entry.cells x54)), (14, .bool false), (18, .idx (Int.toNat v41) (Entry.cells x54)), (22, .bool false), (26, .idx (Int.toNat v41) (Entry.cells x54)), (30, .bool false)], []), ([], [], [])]) (ps := [some true, some true]) (tds := []) (m := []) (keep := [2]) (ex := .ret) (st' := (f23n2E bn1 .ret).2) (by kernel_rfl) (ap (len_cv (xs := bn1) (c := Entry.cells)) (ap h44 (ap h44 (ap h44 (ap h45 (ap (at_some h55).1 (ap (at_map Entry.cells (at_some h55).2) (ap h58 (ap h58 (ap h58 (ap (at_some h55).1 (ap (at_map Entry.cells (at_some h55).2) (ap h58 (ap h58 (ap h58 (ap h58 (ap h58 (ap h59 (ap h59 (ap h59 (ap (at_some h55).1 (ap (at_map Entry.cells (at_some h55).2) (ap h59 (ap h59 (ap h59 (ap h59 (ap h60 (ap h60 (ap h60 (ap (at_some h55).1 (ap (at_map Entry.cells (at_some h55).2) (ap h60 (ap h60 (ap h60 (ap h60 (ap (f29_ok x54.Lines h57) (ap h61 an))))))))))))))))))))))))))))))))))))) (fun h => nomatch h) (LoopQ.out rfl rfl)
              · exact run_end cfg_ok (rs := [([(5, true), (6, true)], [(7, .bool true)], [(2, .val (.pl (.int .i64 (bn1.length : Int))))]), ([(7, false), (8, false), (9, false), (10, false), (11, false), (12, false), (13, false), (16, false), (17, false), (18, false), (19, false), (20, false), (21, false), (24, false), (25, false), (26, false), (27, false), (28, false), (29, false)], [(2, .idx (Int.toNat v41) (Entry.cells x54)), (5, .call (.pl (.bool x56)) []), (9, .idx (Int.toNat v41) (Entry.cells x54)), (14, .bool false), (18, .idx (Int.toNat v41) (Entry.cells x54)), (22, .bool false), (26, .idx (Int.toNat v41) (Entry.cells x54)), (30, .bool false)], []), ([], [], [])]) (ps := [some true, some false]) (tds := []) (m := []) (keep := [0, 3]) (r := (.norm, (f23n2S bn1 (wr64 (v41 + 1))))) (by kernel_rfl) (ap (len_cv (xs := bn1) (c := Entry.cells)) (ap h44 (ap h44 (ap h44 (ap h45 (ap (at_some h55).1 (ap (at_map Entry.cells (at_some h55).2) (ap h58 (ap h58 (ap h58 (ap (at_some h55).1 (ap (at_map Entry.cells (at_some h55).2) (ap h58 (ap h58 (ap h58 (ap h58 (ap h58 (ap h59 (ap h59 (ap h59 (ap (at_some h55).1 (ap (at_map Entry.cells (at_some h55).2) (ap h59 (ap h59 (ap h59 (ap h59 (ap h60 (ap h60 (ap h60 (ap (at_some h55).1 (ap (at_map Entry.cells (at_some h55).2) (ap h60 (ap h60 (ap h60 (ap h60 (ap (f29_ok x54.Lines h57) (ap h61 an))))))))))))))))))))))))))))))))))))) (LoopQ.norm ⟨(wr64 (v41 + 1)), rfl, h⟩)
      · obtain rfl := some_inj h
        exact runK_end cfg_ok (k := 1) (rs := [([(5, true), (6, true)], [(7, .bool true)], [(2, .val (.pl (.int .i64 (bn1.length : Int))))])]) (ps := [some false]) (tds := []) (m := []) (keep := [0]) (ex := (.exit 0)) (st' := (f23n2E bn1 .exit0).2) (by kernel_rfl) (ap (len_cv (xs := bn1) (c := Entry.cells)) (ap h44 (ap h44 (ap h44 (ap h45 an))))) (fun h => nomatch h) (LoopQ.out rfl rfl)
    · obtain rfl := some_inj h
      exact runK_end cfg_ok (k := 1) (rs := [([(5, false), (6, false)], [(7, .bool false)], [(2, .val (.pl (.int .i64 (bn1.length : Int))))])]) (ps := [none]) (tds := []) (m := []) (keep := [0]) (ex := (.exit 0)) (st' := (f23n2E bn1 .exit0).2) (by kernel_rfl) (ap (len_cv (xs := bn1) (c := Entry.cells)) (ap h44 (ap h44 (ap h44 an)))) (fun h => nomatch h) (LoopQ.out rfl rfl)
noncomputable def f23n2L (bn1 : List Entry) : List Entry → Int → Option f23n2O
  | [], v41 =>
    some .exit0
  | x0 :: rest, v41 =>
    bif (decide (v41 ≤ 60)) then
      (f29 x0.Lines).bind fun x56 =>
      bif x56 then
        some .ret
      else
        bif (decide (300 < (x0.Text.size : Int))) then
          some .ret
        else
          bif (decide (x0.After < (-1))) then
            some .ret
          else
            bif (decide (2000 < x0.After)) then
              some .ret
            else
              (f23n2L bn1 rest (v41 + 1))
    else
      some .exit0
theorem f23n2L_eq (bn1 : List Entry) : ∀ (rest : List Entry) (f k : Nat), bn1.drop k = rest → bn1.length ≤ maxLen → rest.length < f → f23n2 f bn1 (k : Int) = f23n2L bn1 rest (k : Int)
  | _, 0, _, _, _, hf => absurd hf (Nat.not_lt_zero _)
  | [], f + 1, k, hd, hm, hf => by
    have hk : ¬ ((k : Int) < (bn1.length : Int)) := by have := drop_nil hd; omega
    rw [f23n2, f23n2L]
    simp only [decide_eq_false hk, cond_false]
  | x0 :: rest, f + 1, k, hd, hm, hf => by
    obtain ⟨hx, hlt, hd'⟩ := drop_cons hd
    have hk : (k : Int) < (bn1.length : Int) := by omega
    have hw : wr64 ((k : Int) + 1) = (k : Int) + 1 := wr64_of (by omega) (by unfold maxLen at hm; omega)
    have ih : f23n2 f bn1 ((k : Int) + 1) = f23n2L bn1 rest ((k : Int) + 1) := f23n2L_eq bn1 rest f (k + 1) hd' hm (by simpa using hf)
    rw [f23n2, f23n2L]
    simp only [decide_eq_true hk, cond_true, at_nat, hx, Option.bind_some, hw, ih]
theorem f23n2_run (bn1 : List Entry) (hm : bn1.length ≤ maxLen) : f23n2 FUEL bn1 0 = f23n2L bn1 bn1 0 := f23n2L_eq bn1 bn1 FUEL 0 List.drop_zero hm (lt_FUEL hm)
inductive f23n1O where
  | norm
  | ret
def f23n1E (bn1 : List Entry) : f23n1O → Ex × Tr × Hp
  | .norm => (.norm, mkS [(0, (.pl (.sl .any 3 (bn1.map Entry.cells))))], [])
  | .ret => (.ret, mkS [(2, (.pl (.bool true)))], [])
def f23n1S (bn1 : List Entry) : Tr × Hp := (mkS [(0, (.pl (.sl .any 3 (bn1.map Entry.cells))))], [])
noncomputable def f23n1 (bn1 : List Entry) : Option f23n1O :=
  (f23n2 FUEL bn1 0).bind fun o62 => match o62 with
  | .exit0 => some .norm
  | .ret => some .ret
theorem f23n1_ok (bn1 : List Entry) {o : f23n1O} (h : (f23n1 bn1) = some o) : T Try.prog Try.f23.ntmps 0 (cL (dropC 1 c23)) (f23n1S bn1) (fun r => r = f23n1E bn1 o) := by
  unfold f23n1 at h
  refine runK_norm cfg_ok (k := 1) (rs := [([], [], [])]) (ps := []) (tds := []) (m := []) (keep := [0, 3]) (st' := (f23n2S bn1 0)) (by kernel_rfl) an ?_
  obtain ⟨o62, h63, h⟩ := bind_cases h
  cases o62 with
  | exit0 =>
    obtain rfl := some_inj h
    exact T.last' (T.bl (i := 0) (by kernel_rfl) (by kernel_rfl) (f23n2_ok FUEL bn1 0 h63)) (tds := []) (m := []) (keep := [0]) (st2 := (f23n1E bn1 .norm).2) (by kernel_rfl) an rfl
  | ret =>
    obtain rfl := some_inj h
    exact T.last' (T.bl (i := 0) (by kernel_rfl) (by kernel_rfl) (f23n2_ok FUEL bn1 0 h63)) (tds := []) (m := []) (keep := [2]) (st2 := (f23n1E bn1 .ret).2) (by kernel_rfl) an rfl
inductive f23n0O where
  | ret (v66 : Bool)
def f23n0E (a1 : List Entry) : f23n0O → Ex × Tr × Hp
  | .ret v66 => (.ret, mkS [(2, (.pl (.bool v66)))], [])
def f23n0S (a1 : List Entry) : Tr × Hp := (initS [(.pl (.sl .any 3 (a1.map Entry.cells)))] 0 .leaf, [])
noncomputable def f23n0 (a1 : List Entry) : Option f23n0O :=
  (f23n1 a1).bind fun o64 => match o64 with
  | .norm => some (.ret (decide (60 < (a1.length : Int))))
  | .ret => some (.ret true)
theorem f23n0_ok (a1 : List Entry) {o : f23n0O} (h : (f23n0 a1) = some o) : T Try.prog Try.f23.ntmps 0 c23 (f23n0S a1) (fun r => r = f23n0E a1 o) := by
  unfold f23n0 at h
  refine runK_norm cfg_ok (k := 1) (rs := [([], [], [])]) (ps := []) (tds := []) (m := []) (keep := [0]) (st' := (f23n1S a1)) (by kernel_rfl) an ?_
  obtain ⟨o64, h65, h⟩ := bind_cases h
  cases o64 with
  | norm =>
    refine T.oneN (by kernel_rfl) (f23n1_ok a1 h65) (st2 := (f23n1E a1 .norm).2) rfl ?_
    obtain rfl := some_inj h
    exact run_end cfg_ok (rs := [([], [], [(1, .val (.pl (.int .i64 (a1.length : Int))))])]) (ps := []) (tds := []) (m := []) (keep := [2]) (r := (.ret, (f23n0E a1 (.ret (decide (60 < (a1.length : Int))))).2)) (by kernel_rfl) (ap (len_cv (xs := a1) (c := Entry.cells)) an) rfl
  | ret =>
    obtain rfl := some_inj h
    exact T.oneX' (by kernel_rfl) (f23n1_ok a1 h65) (tds := []) (m := []) (keep := [2]) (st2 := (f23n0E a1 (.ret true)).2) (by kernel_rfl) an rfl rfl
noncomputable def f23 (a1 : List Entry) : Option Bool := (f23n0 a1).bind fun o => match o with
  | .ret v66 => some v66
theorem f23_ok (a1 : List Entry) {r : Bool} (h : (f23 a1) = some r) : CallS Try.prog false 23 [(.pl (.sl .any 3 (a1.map Entry.cells)))] [] (.pl (.bool r)) [] := by
  unfold f23 at h
  obtain ⟨o, ho, h⟩ := bind_cases h
  cases o with
  | ret v66 =>
    obtain rfl := some_inj h
    exact CallS.plain cfg_ok (f := Try.f23) (c := c23) (by kernel_rfl) (by kernel_rfl) (by kernel_rfl) (by kernel_rfl) ((f23n0_ok a1 ho).mono fun r e => by subst e; exact ⟨.inl rfl, (.pl (.bool v66)), (.pl (.bool v66)), by kernel_rfl, by kernel_rfl, ((Wk.refl _) : Wk (.pl (.bool v66)) (.pl (.bool v66)))⟩)

noncomputable def c24 : Code := Try.f24.body.getD .skip
inductive f24r1n2O where
  | exit0 (v48 : Journal)
def f24r1n2E (bn1 : List Entry) : f24r1n2O → Ex × Tr × Hp
  | .exit0 v48 => ((.exit 0), mkS [(2, (.bp 0 0)), (3, (.bp 1 0))], [some (.box [(.pl (.sl .nil 0 []))]), some (.box ((Journal.cells v48).map .pl))])
def f24r1n2S (bn1 : List Entry) (v33 : Int) (v34 : Int) (v35 : Journal) : Tr × Hp := (mkS [(0, (.pl (.sl .any 3 (bn1.map Entry.cells)))), (2, (.bp 0 0)), (3, (.bp 1 0)), (4, (.pl (.int .i64 v33))), (5, (.pl (.int .i64 v34)))], [some (.box [(.pl (.sl .nil 0 []))]), some (.box ((Journal.cells v35).map .pl))])
noncomputable def f24r1n2 : Nat → List Entry → Int → Int → Journal → Option f24r1n2O
  | 0, _, _, _, _ => none
  | f + 1, bn1, v33, v34, v35 =>
    bif (decide (v34 < (bn1.length : Int))) then
      (at? bn1 v34).bind fun x43 =>
      (f30 v35 (wr64 (v33 + x43.After)) x43.Text x43.Lines).bind fun x45 =>
      bif (decide (x45.2 = 0)) then
        (f24r1n2 f bn1 (wr64 (v33 + x43.After)) (wr64 (v34 + 1)) x45.1)
      else
        (f24r1n2 f bn1 v33 (wr64 (v34 + 1)) v35)
    else
      some (.exit0 v35)
theorem f24r1n2_ok : ∀ (f : Nat) (bn1 : List Entry) (v33 : Int) (v34 : Int) (v35 : Journal) {o : f24r1n2O}, (f24r1n2 f bn1 v33 v34 v35) = some o → TL Try.prog Try.f24.ntmps 0 f (cL (cL (dropC 1 (cL (dropC 3 c24))))) (f24r1n2S bn1 v33 v34 v35) (fun r => r = f24r1n2E bn1 o)
  | 0, _, _, _, _, o, h => by rw [f24r1n2] at h; cases h
  | f + 1, bn1, v33, v34, v35, o, h => by
    rw [f24r1n2] at h
    refine TL.body (K := fun s => ∃ v33 : Int, ∃ v34 : Int, ∃ v35 : Journal, s = (f24r1n2S bn1 v33 v34 v35) ∧ (f24r1n2 f bn1 v33 v34 v35) = some o) ?_ (by rintro _ ⟨v33, v34, v35, rfl, hk⟩; exact f24r1n2_ok f _ _ _ _ hk)
    rcases cond_cases h with ⟨h37, h⟩ | ⟨h37, h⟩
    · obtain ⟨x43, h44, h⟩ := bind_cases h
      obtain ⟨x45, h46, h⟩ := bind_cases h
      rcases cond_cases h with ⟨h47, h⟩ | ⟨h47, h⟩
      · exact run_end cfg_ok (rs := [([], [], [(2, .val (.pl (.int .i64 (bn1.length : Int))))]), ([], [(4, .idx (Int.toNat v34) (Entry.cells x43)), (10, .idx (Int.toNat v34) (Entry.cells x43)), (15, .idx (Int.toNat v34) (Entry.cells x43)), (18, .call (.tup [(.pl (.agg (Journal.cells x45.1))), (.pl (.int .i64 x45.2))]) [])], []), ([], [], []), ([], [], []), ([], [(3, .idx (Int.toNat v34) (Entry.cells x43))], []), ([], [], [])]) (ps := [some true, some true]) (tds := []) (m := [0, 1]) (keep := [0, 2, 3, 4, 5]) (r := (.norm, (f24r1n2S bn1 (wr64 (v33 + x43.After)) (wr64 (v34 + 1)) x45.1))) (by kernel_rfl) (ap (len_cv (xs := bn1) (c := Entry.cells)) (ap h37 (ap (at_some h44).1 (ap (at_map Entry.cells (at_some h44).2) (ap (at_some h44).1 (ap (at_map Entry.cells (at_some h44).2) (ap (at_some h44).1 (ap (at_map Entry.cells (at_some h44).2) (ap (f30_ok v35 (wr64 (v33 + x43.After)) x43.Text x43.Lines h46) (ap h47 (ap (at_some h44).1 (ap (at_map Entry.cells (at_some h44).2) an)))))))))))) (LoopQ.norm ⟨(wr64 (v33 + x43.After)), (wr64 (v34 + 1)), x45.1, rfl, h⟩)
      · exact run_end cfg_ok (rs := [([], [], [(2, .val (.pl (.int .i64 (bn1.length : Int))))]), ([], [(4, .idx (Int.toNat v34) (Entry.cells x43)), (10, .idx (Int.toNat v34) (Entry.cells x43)), (15, .idx (Int.toNat v34) (Entry.cells x43)), (18, .call (.tup [(.pl (.agg (Journal.cells x45.1))), (.pl (.int .i64 x45.2))]) [])], []), ([], [], []), ([], [], [])]) (ps := [some true, some false]) (tds := []) (m := [0, 1]) (keep := [0, 2, 3, 4, 5]) (r := (.norm, (f24r1n2S bn1 v33 (wr64 (v34 + 1)) v35))) (by kernel_rfl) (ap (len_cv (xs := bn1) (c := Entry.cells)) (ap h37 (ap (at_some h44).1 (ap (at_map Entry.cells (at_some h44).2) (ap (at_some h44).1 (ap (at_map Entry.cells (at_some h44).2) (ap (at_some h44).1 (ap (at_map Entry.cells (at_some h44).2) (ap (f30_ok v35 (wr64 (v33 + x43.After)) x43.Text x43.Lines h46) (ap h47 an)))))))))) (LoopQ.norm ⟨v33, (wr64 (v34 + 1)), v35, rfl, h⟩)
    · obtain rfl := some_inj h
      exact runK_end cfg_ok (k := 1) (rs := [([], [], [(2, .val (.pl (.int .i64 (bn1.length : Int))))])]) (ps := [some false]) (tds := []) (m := [0, 1]) (keep := [2, 3]) (ex := (.exit 0)) (st' := (f24r1n2E bn1 (.exit0 v35)).2) (by kernel_rfl) (ap (len_cv (xs := bn1) (c := Entry.cells)) (ap h37 an)) (fun h => nomatch h) (LoopQ.out rfl rfl)
noncomputable def f24r1n2L (bn1 : List Entry) : List Entry → Int → Int → Journal → Option f24r1n2O
  | [], v33, v34, v35 =>
    some (.exit0 v35)
  | x0 :: rest, v33, v34, v35 =>
    (f30 v35 (wr64 (v33 + x0.After)) x0.Text x0.Lines).bind fun x45 =>
    bif (decide (x45.2 = 0)) then
      (f24r1n2L bn1 rest (wr64 (v33 + x0.After)) (v34 + 1) x45.1)
    else
      (f24r1n2L bn1 rest v33 (v34 + 1) v35)
theorem f24r1n2L_eq (bn1 : List Entry) : ∀ (rest : List Entry) (f k : Nat) (v33 : Int) (v35 : Journal), bn1.drop k = rest → bn1.length ≤ maxLen → rest.length < f → f24r1n2 f bn1 v33 (k : Int) v35 = f24r1n2L bn1 rest v33 (k : Int) v35
  | _, 0, _, _, _, _, _, hf => absurd hf (Nat.not_lt_zero _)
  | [], f + 1, k, v33, v35, hd, hm, hf => by
    have hk : ¬ ((k : Int) < (bn1.length : Int)) := by have := drop_nil hd; omega
    rw [f24r1n2, f24r1n2L]
    simp only [decide_eq_false hk, cond_false]
  | x0 :: rest, f + 1, k, v33, v35, hd, hm, hf => by
    obtain ⟨hx, hlt, hd'⟩ := drop_cons hd
    have hk : (k : Int) < (bn1.length : Int) := by omega
    have hw : wr64 ((k : Int) + 1) = (k : Int) + 1 := wr64_of (by omega) (by unfold maxLen at hm; omega)
    have ih : ∀ (v33 : Int) (v35 : Journal), f24r1n2 f bn1 v33 ((k : Int) + 1) v35 = f24r1n2L bn1 rest v33 ((k : Int) + 1) v35 := fun v33 v35 => f24r1n2L_eq bn1 rest f (k + 1) v33 v35 hd' hm (by simpa using hf)
    rw [f24r1n2, f24r1n2L]
    simp only [decide_eq_true hk, cond_true, at_nat, hx, Option.bind_some, hw, ih]
theorem f24r1n2_run (bn1 : List Entry) (v33 : Int) (v35 : Journal) (hm : bn1.length ≤ maxLen) : f24r1n2 FUEL bn1 v33 0 v35 = f24r1n2L bn1 bn1 v33 0 v35 := f24r1n2L_eq bn1 bn1 FUEL 0 v33 v35 List.drop_zero hm (lt_FUEL hm)
inductive f24r1n1O where
  | norm (v52 : Journal)
def f24r1n1E (bn1 : List Entry) (ba2 : Journal) : f24r1n1O → Ex × Tr × Hp
  | .norm v52 => (.norm, mkS [(2, (.bp 0 0)), (3, (.bp 1 0))], [some (.box [(.pl (.sl .nil 0 []))]), some (.box ((Journal.cells v52).map .pl))])
def f24r1n1S (bn1 : List Entry) (ba2 : Journal) : Tr × Hp := (mkS [(0, (.pl (.sl .any 3 (bn1.map Entry.cells)))), (2, (.bp 0 0)), (3, (.bp 1 0)), (4, (.pl (.int .i64 0)))], [some (.box [(.pl (.sl .nil 0 []))]), some (.box ((Journal.cells ba2).map .pl))])
noncomputable def f24r1n1 (bn1 : List Entry) (ba2 : Journal) : Option f24r1n1O :=
  (f24r1n2 FUEL bn1 0 0 ba2).bind fun o49 => match o49 with
  | .exit0 v51 => some (.norm v51)
theorem f24r1n1_ok (bn1 : List Entry) (ba2 : Journal) {o : f24r1n1O} (h : (f24r1n1 bn1 ba2) = some o) : T Try.prog Try.f24.ntmps 0 (cL (dropC 3 c24)) (f24r1n1S bn1 ba2) (fun r => r = f24r1n1E bn1 ba2 o) := by
  unfold f24r1n1 at h
  refine runK_norm cfg_ok (k := 1) (rs := [([], [], [])]) (ps := []) (tds := []) (m := [0, 1]) (keep := [0, 2, 3, 4, 5]) (st' := (f24r1n2S bn1 0 0 ba2)) (by kernel_rfl) an ?_
  obtain ⟨o49, h50, h⟩ := bind_cases h
  cases o49 with
  | exit0 v51 =>
    obtain rfl := some_inj h
    exact T.last' (T.bl (i := 0) (by kernel_rfl) (by kernel_rfl) (f24r1n2_ok FUEL bn1 0 0 ba2 h50)) (tds := []) (m := [0, 1]) (keep := [2, 3]) (st2 := (f24r1n1E bn1 ba2 (.norm v51)).2) (by kernel_rfl) an rfl
inductive f24r1n0O where
  | ret (v56 : Journal)
def f24r1n0E (a1 : List Entry) : f24r1n0O → Ex × Tr × Hp
  | .ret v56 => (.ret, mkS [(2, (.bp 0 0))], [some (.box ((Journal.cells v56).map .pl))])
def f24r1n0S (a1 : List Entry) : Tr × Hp := (initS [(.pl (.sl .any 3 (a1.map Entry.cells)))] 0 .leaf, [])
noncomputable def f24r1n0 (a1 : List Entry) : Option f24r1n0O :=
  f36.bind fun x4 =>
  (f24r1n1 a1 x4).bind fun o53 => match o53 with
  | .norm v55 => some (.ret v55)
theorem f24r1n0_ok (a1 : List Entry) {o : f24r1n0O} (h : (f24r1n0 a1) = some o) : T Try.prog Try.f24.ntmps 0 c24 (f24r1n0S a1) (fun r => r = f24r1n0E a1 o) := by
  unfold f24r1n0 at h
  obtain ⟨x4, h5, h⟩ := bind_cases h
  refine runK_norm cfg_ok (k := 3) (rs := [([], [], []), ([], [(0, .call (.pl (.agg (Journal.cells x4))) [])], []), ([], [], [])]) (ps := []) (tds := []) (m := [0, 1]) (keep := [0, 2, 3, 4]) (st' := (f24r1n1S a1 x4)) (by kernel_rfl) (ap (f36_ok h5) an) ?_
  obtain ⟨o53, h54, h⟩ := bind_cases h
  cases o53 with
  | norm v55 =>
    refine T.oneN (by kernel_rfl) (f24r1n1_ok a1 x4 h54) (st2 := (f24r1n1E a1 x4 (.norm v55)).2) rfl ?_
    obtain rfl := some_inj h
    exact run_end cfg_ok (rs := [([], [], [])]) (ps := []) (tds := []) (m := [0]) (keep := [2]) (r := (.ret, (f24r1n0E a1 (.ret v55)).2)) (by kernel_rfl) an rfl
noncomputable def f24r1 (a1 : List Entry) : Option Journal := (f24r1n0 a1).bind fun o => match o with
  | .ret v56 => some v56
theorem f24r1_ok (a1 : List Entry) {r : Journal} (h : (f24r1 a1) = some r) : CallS Try.prog true 24 [(.pl (.sl .any 3 (a1.map Entry.cells)))] [] (.pl (.agg (Journal.cells r))) [some (.box ((Journal.cells r).map .pl))] := by
  unfold f24r1 at h
  obtain ⟨o, ho, h⟩ := bind_cases h
  cases o with
  | ret v56 =>
    obtain rfl := some_inj h
    exact CallS.shared cfg_ok (f := Try.f24) (c := c24) (by kernel_rfl) (by kernel_rfl) (by kernel_rfl) ((f24r1n0_ok a1 ho).mono fun r e => by subst e; exact ⟨.inl rfl, by kernel_rfl, by kernel_rfl⟩)

noncomputable def c26 : Code := Try.f26.body.getD .skip
inductive f26r1n2O where
  | exit0 (v82 : Int) (v83 : List Int)
  | ret (v84 : List Int)
def f26r1n2E (bl1 : Int × (List Int)) (ba2 : Journal) : f26r1n2O → Ex × Tr × Hp
  | .exit0 v82 v83 => ((.exit 0), mkS [(5, (.own 0)), (6, (.pl (.int .i64 bl1.1))), (7, (.own 1)), (8, (.pl (.int .i64 v82)))], [some (.row false 1 (bl1.2.map (cInt .u8))), some (.row false 1 (v83.map (cInt .i64)))])
  | .ret v84 => (.ret, mkS [(2, (.own 0)), (3, (.own 1)), (4, (.pl (.bool false)))], [some (.row false 1 (bl1.2.map (cInt .u8))), some (.row false 1 (v84.map (cInt .i64)))])
def f26r1n2S (bl1 : Int × (List Int)) (ba2 : Journal) (v55 : Int) (v56 : Int) (v57 : List Int) : Tr × Hp := (mkS [(1, (.bp 0 0)), (5, (.own 1)), (6, (.pl (.int .i64 bl1.1))), (7, (.own 2)), (8, (.pl (.int .i64 v55))), (9, (.pl (.int .i64 v56)))], [some (.box ((Journal.cells ba2).map .pl)), some (.row false 1 (bl1.2.map (cInt .u8))), some (.row false 1 (v57.map (cInt .i64)))])
noncomputable def f26r1n2 : Nat → Int × (List Int) → Journal → Int → Int → List Int → Option f26r1n2O
  | 0, _, _, _, _, _ => none
  | f + 1, bl1, ba2, v55, v56, v57 =>
    bif (decide (v56 < (ba2.Records.length : Int))) then
      req (cutB 0 (wr64 (v56 + 1)) ba2.Records.length) <|
      (f13r1 (Journal.mk ((ba2.Records.take (Int.toNat (wr64 (v56 + 1)))).drop 0))).bind fun x72 =>
      bif (decide (x72.1 = 0)) then
        bif (decide ((x72.2.length : Int) < (wr64 (v55 + 13)))) then
          some (.ret v57)
        else
          bif (decide ((bl1.2.length : Int) < (x72.2.length : Int))) then
            some (.ret v57)
          else
            req (cutB 0 (x72.2.length : Int) bl1.2.length) <|
            (f18 x72.2 ((bl1.2.drop 0).take ((Int.toNat (x72.2.length : Int)) - 0))).bind fun x78 =>
            bif x78 then
              req (fit (v57.length + 1) 8) <|
              (f26r1n2 f bl1 ba2 (x72.2.length : Int) (wr64 (v56 + 1)) (v57 ++ [(x72.2.length : Int)]))
            else
              some (.ret v57)
      else
        some (.ret v57)
    else
      some (.exit0 v55 v57)
theorem f26r1n2_ok : ∀ (f : Nat) (bl1 : Int × (List Int)) (ba2 : Journal) (v55 : Int) (v56 : Int) (v57 : List Int) {o : f26r1n2O}, (f26r1n2 f bl1 ba2 v55 v56 v57) = some o → TL Try.prog Try.f26.ntmps 0 f (cL (cL (dropC 1 (cL (dropC 4 c26))))) (f26r1n2S bl1 ba2 v55 v56 v57) (fun r => r = f26r1n2E bl1 ba2 o)
  | 0, _, _, _, _, _, o, h => by rw [f26r1n2] at h; cases h
  | f + 1, bl1, ba2, v55, v56, v57, o, h => by
    rw [f26r1n2] at h
    refine TL.body (K := fun s => ∃ v55 : Int, ∃ v56 : Int, ∃ v57 : List Int, s = (f26r1n2S bl1 ba2 v55 v56 v57) ∧ (f26r1n2 f bl1 ba2 v55 v56 v57) = some o) ?_ (by rintro _ ⟨v55, v56, v57, rfl, hk⟩; exact f26r1n2_ok f _ _ _ _ _ hk)
    rcases cond_cases h with ⟨h59, h⟩ | ⟨h59, h⟩
    · obtain ⟨h71, h⟩ := req_cases h
      obtain ⟨x72, h73, h⟩ := bind_cases h
      rcases cond_cases h with ⟨h74, h⟩ | ⟨h74, h⟩
      · rcases cond_cases h with ⟨h75, h⟩ | ⟨h75, h⟩
        · obtain rfl := some_inj h
          exact runK_end cfg_ok (k := 2) (rs := [([], [], [(3, .val (.pl (.int .i64 (ba2.Records.length : Int))))]), ([], [(4, .cut 0 (Int.toNat (wr64 (v56 + 1)))), (6, .call (.tup [(.own 3), (.pl (.int .i64 x72.1))]) [none, none, none, some (.row false 1 (x72.2.map (cInt .u8)))])], [(4, .val (.pl (.sl .any 3 (((ba2.Records.take (Int.toNat (wr64 (v56 + 1)))).drop 0).map JournalRecord.cells))))]), ([(3, false), (4, false), (5, false), (6, false), (7, false), (10, true), (11, true), (12, true), (13, true), (14, true)], [(8, .bool false), (15, .bool true)], [(4, .val (.pl (.int .i64 (x72.2.length : Int))))]), ([], [], [])]) (ps := [some true, none]) (tds := []) (m := [1, 2]) (keep := [2, 3, 4]) (ex := .ret) (st' := (f26r1n2E bl1 ba2 (.ret v57)).2) (by kernel_rfl) (ap (len_cv (xs := ba2.Records) (c := JournalRecord.cells)) (ap h59 (ap (cut_hn_1_map (c := JournalRecord.cells) h71) (ap (cut_hn_2 h71) (ap (cut_hn_3 h71) (ap (cut_hn_4_map (c := JournalRecord.cells) h71) (ap (congrArg (fun l => AV.pl (.sl .any 3 l)) (cut_cv (xs := ba2.Records) (c := JournalRecord.cells) (n := (Int.toNat (wr64 (v56 + 1)))) (m := 0))) (ap (CallS.ren (args' := [(.pl (.agg (Journal.cells (Journal.mk ((ba2.Records.take (Int.toNat (wr64 (v56 + 1)))).drop 0)))))]) (v' := (.tup [(.own 3), (.pl (.int .i64 x72.1))])) (B := [none, none, none]) (B' := [none, none, none, some (.row false 1 (x72.2.map (cInt .u8)))]) 3 [] (f13r1_ok (Journal.mk ((ba2.Records.take (Int.toNat (wr64 (v56 + 1)))).drop 0)) h73) (by kernel_rfl) (by kernel_rfl) (by kernel_rfl) (by kernel_rfl) (by kernel_rfl) (by kernel_rfl)) (ap (not_t h74) (ap (not_t h74) (ap (len_cv (xs := x72.2) (c := (cInt .u8))) (ap (not_t h74) (ap (not_t h74) (ap (not_t h74) (ap (not_t h74) (ap h75 (ap h75 (ap h75 (ap h75 (ap h75 (ap h75 an))))))))))))))))))))) (fun h => nomatch h) (LoopQ.out rfl rfl)
        · rcases cond_cases h with ⟨h76, h⟩ | ⟨h76, h⟩
          · obtain rfl := some_inj h
            exact runK_end cfg_ok (k := 2) (rs := [([], [], [(3, .val (.pl (.int .i64 (ba2.Records.length : Int))))]), ([], [(4, .cut 0 (Int.toNat (wr64 (v56 + 1)))), (6, .call (.tup [(.own 3), (.pl (.int .i64 x72.1))]) [none, none, none, some (.row false 1 (x72.2.map (cInt .u8)))])], [(4, .val (.pl (.sl .any 3 (((ba2.Records.take (Int.toNat (wr64 (v56 + 1)))).drop 0).map JournalRecord.cells))))]), ([(3, false), (4, false), (5, false), (6, false), (7, false), (10, false), (11, false), (12, false), (13, false), (14, false), (17, true), (18, true), (19, true), (20, true), (21, true), (22, true), (23, true)], [(8, .bool false), (15, .bool false), (24, .bool true)], [(4, .val (.pl (.int .i64 (x72.2.length : Int)))), (11, .val (.pl (.int .i64 (x72.2.length : Int)))), (13, .val (.pl (.int .i64 (bl1.2.length : Int))))]), ([], [], [])]) (ps := [some true, none]) (tds := []) (m := [1, 2]) (keep := [2, 3, 4]) (ex := .ret) (st' := (f26r1n2E bl1 ba2 (.ret v57)).2) (by kernel_rfl) (ap (len_cv (xs := ba2.Records) (c := JournalRecord.cells)) (ap h59 (ap (cut_hn_1_map (c := JournalRecord.cells) h71) (ap (cut_hn_2 h71) (ap (cut_hn_3 h71) (ap (cut_hn_4_map (c := JournalRecord.cells) h71) (ap (congrArg (fun l => AV.pl (.sl .any 3 l)) (cut_cv (xs := ba2.Records) (c := JournalRecord.cells) (n := (Int.toNat (wr64 (v56 + 1)))) (m := 0))) (ap (CallS.ren (args' := [(.pl (.agg (Journal.cells (Journal.mk ((ba2.Records.take (Int.toNat (wr64 (v56 + 1)))).drop 0)))))]) (v' := (.tup [(.own 3), (.pl (.int .i64 x72.1))])) (B := [none, none, none]) (B' := [none, none, none, some (.row false 1 (x72.2.map (cInt .u8)))]) 3 [] (f13r1_ok (Journal.mk ((ba2.Records.take (Int.toNat (wr64 (v56 + 1)))).drop 0)) h73) (by kernel_rfl) (by kernel_rfl) (by kernel_rfl) (by kernel_rfl) (by kernel_rfl) (by kernel_rfl)) (ap (not_t h74) (ap (not_t h74) (ap (len_cv (xs := x72.2) (c := (cInt .u8))) (ap (not_t h74) (ap (not_t h74) (ap (not_t h74) (ap (not_t h74) (ap h75 (ap h75 (ap (len_cv (xs := x72.2) (c := (cInt .u8))) (ap h75 (ap h75 (ap (len_cv (xs := bl1.2) (c := (cInt .u8))) (ap h75 (ap h75 (ap h76 (ap h76 (ap h76 (ap h76 (ap h76 (ap h76 (ap h76 (ap h76 an))))))))))))))))))))))))))))))) (fun h => nomatch h) (LoopQ.out rfl rfl)
          · obtain ⟨h77, h⟩ := req_cases h
            obtain ⟨x78, h79, h⟩ := bind_cases h
            rcases cond_cases h with ⟨h80, h⟩ | ⟨h80, h⟩
            · obtain ⟨h81, h⟩ := req_cases h
              exact run_end cfg_ok (rs := [([], [], [(3, .val (.pl (.int .i64 (ba2.Records.length : Int))))]), ([], [(4, .cut 0 (Int.toNat (wr64 (v56 + 1)))), (6, .call (.tup [(.own 3), (.pl (.int .i64 x72.1))]) [none, none, none, some (.row false 1 (x72.2.map (cInt .u8)))])], [(4, .val (.pl (.sl .any 3 (((ba2.Records.take (Int.toNat (wr64 (v56 + 1)))).drop 0).map JournalRecord.cells))))]), ([(3, false), (4, false), (5, false), (6, false), (7, false), (10, false), (11, false), (12, false), (13, false), (14, false), (17, false), (18, false), (19, false), (20, false), (21, false), (22, false), (23, false)], [(8, .bool false), (15, .bool false), (21, .cut 0 (Int.toNat (x72.2.length : Int))), (22, .call (.pl (.bool x78)) []), (24, .bool false)], [(4, .val (.pl (.int .i64 (x72.2.length : Int)))), (11, .val (.pl (.int .i64 (x72.2.length : Int)))), (13, .val (.pl (.int .i64 (bl1.2.length : Int)))), (20, .val (.pl (.int .i64 (x72.2.length : Int))))]), ([], [], [(1, .val (.pl (.int .i64 (x72.2.length : Int))))]), ([], [(3, .fits)], [(3, .row 5 ((v57 ++ [(x72.2.length : Int)]).map (cInt .i64)))]), ([], [], [])]) (ps := [some true, some false]) (tds := []) (m := [0, 1, 5]) (keep := [1, 5, 6, 7, 8, 9]) (r := (.norm, (f26r1n2S bl1 ba2 (x72.2.length : Int) (wr64 (v56 + 1)) (v57 ++ [(x72.2.length : Int)])))) (by kernel_rfl) (ap (len_cv (xs := ba2.Records) (c := JournalRecord.cells)) (ap h59 (ap (cut_hn_1_map (c := JournalRecord.cells) h71) (ap (cut_hn_2 h71) (ap (cut_hn_3 h71) (ap (cut_hn_4_map (c := JournalRecord.cells) h71) (ap (congrArg (fun l => AV.pl (.sl .any 3 l)) (cut_cv (xs := ba2.Records) (c := JournalRecord.cells) (n := (Int.toNat (wr64 (v56 + 1)))) (m := 0))) (ap (CallS.ren (args' := [(.pl (.agg (Journal.cells (Journal.mk ((ba2.Records.take (Int.toNat (wr64 (v56 + 1)))).drop 0)))))]) (v' := (.tup [(.own 3), (.pl (.int .i64 x72.1))])) (B := [none, none, none]) (B' := [none, none, none, some (.row false 1 (x72.2.map (cInt .u8)))]) 3 [] (f13r1_ok (Journal.mk ((ba2.Records.take (Int.toNat (wr64 (v56 + 1)))).drop 0)) h73) (by kernel_rfl) (by kernel_rfl) (by kernel_rfl) (by kernel_rfl) (by kernel_rfl) (by kernel_rfl)) (ap (not_t h74) (ap (not_t h74) (ap (len_cv (xs := x72.2) (c := (cInt .u8))) (ap (not_t h74) (ap (not_t h74) (ap (not_t h74) (ap (not_t h74) (ap h75 (ap h75 (ap (len_cv (xs := x72.2) (c := (cInt .u8))) (ap h75 (ap h75 (ap (len_cv (xs := bl1.2) (c := (cInt .u8))) (ap h75 (ap h75 (ap h76 (ap h76 (ap h76 (ap h76 (ap (len_cv (xs := x72.2) (c := (cInt .u8))) (ap h76 (ap (cut_hn_1_map (c := (cInt .u8)) h77) (ap (cut_hn_2 h77) (ap (cut_hn_3 h77) (ap (cut_hn_4_map (c := (cInt .u8)) h77) (ap h76 (ap (vw_le (cut_hn_3 h77) (cut_hn_4_map (c := (cInt .u8)) h77)) (ap h76 (ap h76 (ap (show CallS Try.prog false 18 [(.pl (.sl .any 1 (x72.2.map (cInt .u8)))), (.pl (.sl .any 1 (((bl1.2.map (cInt .u8)).drop 0).take ((Int.toNat (x72.2.length : Int)) - 0))))] [] (.pl (.bool x78)) [] from (by have h := (f18_ok x72.2 ((bl1.2.drop 0).take ((Int.toNat (x72.2.length : Int)) - 0)) h79); simpa only [List.map_take, List.map_drop] using h)) (ap (not_t h80) (ap (len_cv (xs := x72.2) (c := (cInt .u8))) (ap (fit_map (te := ti3) (xs := v57) (n := 1) (c := (cInt .i64)) h81 rfl) (ap (app_cv (xs := v57) (ys := [(x72.2.length : Int)]) (c := (cInt .i64))) an)))))))))))))))))))))))))))))))))))))))))) (LoopQ.norm ⟨(x72.2.length : Int), (wr64 (v56 + 1)), (v57 ++ [(x72.2.length : Int)]), rfl, h⟩)
            · obtain rfl := some_inj h
              exact runK_end cfg_ok (k := 2) (rs := [([], [], [(3, .val (.pl (.int .i64 (ba2.Records.length : Int))))]), ([], [(4, .cut 0 (Int.toNat (wr64 (v56 + 1)))), (6, .call (.tup [(.own 3), (.pl (.int .i64 x72.1))]) [none, none, none, some (.row false 1 (x72.2.map (cInt .u8)))])], [(4, .val (.pl (.sl .any 3 (((ba2.Records.take (Int.toNat (wr64 (v56 + 1)))).drop 0).map JournalRecord.cells))))]), ([(3, false), (4, false), (5, false), (6, false), (7, false), (10, false), (11, false), (12, false), (13, false), (14, false), (17, false), (18, false), (19, false), (20, false), (21, false), (22, false), (23, false)], [(8, .bool false), (15, .bool false), (21, .cut 0 (Int.toNat (x72.2.length : Int))), (22, .call (.pl (.bool x78)) []), (24, .bool false)], [(4, .val (.pl (.int .i64 (x72.2.length : Int)))), (11, .val (.pl (.int .i64 (x72.2.length : Int)))), (13, .val (.pl (.int .i64 (bl1.2.length : Int)))), (20, .val (.pl (.int .i64 (x72.2.length : Int))))]), ([], [], [])]) (ps := [some true, some true]) (tds := []) (m := [1, 2]) (keep := [2, 3, 4]) (ex := .ret) (st' := (f26r1n2E bl1 ba2 (.ret v57)).2) (by kernel_rfl) (ap (len_cv (xs := ba2.Records) (c := JournalRecord.cells)) (ap h59 (ap (cut_hn_1_map (c := JournalRecord.cells) h71) (ap (cut_hn_2 h71) (ap (cut_hn_3 h71) (ap (cut_hn_4_map (c := JournalRecord.cells) h71) (ap (congrArg (fun l => AV.pl (.sl .any 3 l)) (cut_cv (xs := ba2.Records) (c := JournalRecord.cells) (n := (Int.toNat (wr64 (v56 + 1)))) (m := 0))) (ap (CallS.ren (args' := [(.pl (.agg (Journal.cells (Journal.mk ((ba2.Records.take (Int.toNat (wr64 (v56 + 1)))).drop 0)))))]) (v' := (.tup [(.own 3), (.pl (.int .i64 x72.1))])) (B := [none, none, none]) (B' := [none, none, none, some (.row false 1 (x72.2.map (cInt .u8)))]) 3 [] (f13r1_ok (Journal.mk ((ba2.Records.take (Int.toNat (wr64 (v56 + 1)))).drop 0)) h73) (by kernel_rfl) (by kernel_rfl) (by kernel_rfl) (by kernel_rfl) (by kernel_rfl) (by kernel_rfl)) (ap (not_t h74) (ap (not_t h74) (ap (len_cv (xs := x72.2) (c := (cInt .u8))) (ap (not_t h74) (ap (not_t h74) (ap (not_t h74) (ap (not_t h74) (ap h75 (ap h75 (ap (len_cv (xs := x72.2) (c := (cInt .u8))) (ap h75 (ap h75 (ap (len_cv (xs := bl1.2) (c := (cInt .u8))) (ap h75 (ap h75 (ap h76 (ap h76 (ap h76 (ap h76 (ap (len_cv (xs := x72.2) (c := (cInt .u8))) (ap h76 (ap (cut_hn_1_map (c := (cInt .u8)) h77) (ap (cut_hn_2 h77) (ap (cut_hn_3 h77) (ap (cut_hn_4_map (c := (cInt .u8)) h77) (ap h76 (ap (vw_le (cut_hn_3 h77) (cut_hn_4_map (c := (cInt .u8)) h77)) (ap h76 (ap h76 (ap (show CallS Try.prog false 18 [(.pl (.sl .any 1 (x72.2.map (cInt .u8)))), (.pl (.sl .any 1 (((bl1.2.map (cInt .u8)).drop 0).take ((Int.toNat (x72.2.length : Int)) - 0))))] [] (.pl (.bool x78)) [] from (by have h := (f18_ok x72.2 ((bl1.2.drop 0).take ((Int.toNat (x72.2.length : Int)) - 0)) h79); simpa only [List.map_take, List.map_drop] using h)) (ap (not_f h80) an))))))))))))))))))))))))))))))))))))))) (fun h => nomatch h) (LoopQ.out rfl rfl)
      · obtain rfl := some_inj h
        exact runK_end cfg_ok (k := 2) (rs := [([], [], [(3, .val (.pl (.int .i64 (ba2.Records.length : Int))))]), ([], [(4, .cut 0 (Int.toNat (wr64 (v56 + 1)))), (6, .call (.tup [(.own 3), (.pl (.int .i64 x72.1))]) [none, none, none, some (.row false 1 (x72.2.map (cInt .u8)))])], [(4, .val (.pl (.sl .any 3 (((ba2.Records.take (Int.toNat (wr64 (v56 + 1)))).drop 0).map JournalRecord.cells))))]), ([(3, true), (4, true), (5, true), (6, true), (7, true)], [(8, .bool true)], []), ([], [], [])]) (ps := [some true, none]) (tds := []) (m := [1, 2]) (keep := [2, 3, 4]) (ex := .ret) (st' := (f26r1n2E bl1 ba2 (.ret v57)).2) (by kernel_rfl) (ap (len_cv (xs := ba2.Records) (c := JournalRecord.cells)) (ap h59 (ap (cut_hn_1_map (c := JournalRecord.cells) h71) (ap (cut_hn_2 h71) (ap (cut_hn_3 h71) (ap (cut_hn_4_map (c := JournalRecord.cells) h71) (ap (congrArg (fun l => AV.pl (.sl .any 3 l)) (cut_cv (xs := ba2.Records) (c := JournalRecord.cells) (n := (Int.toNat (wr64 (v56 + 1)))) (m := 0))) (ap (CallS.ren (args' := [(.pl (.agg (Journal.cells (Journal.mk ((ba2.Records.take (Int.toNat (wr64 (v56 + 1)))).drop 0)))))]) (v' := (.tup [(.own 3), (.pl (.int .i64 x72.1))])) (B := [none, none, none]) (B' := [none, none, none, some (.row false 1 (x72.2.map (cInt .u8)))]) 3 [] (f13r1_ok (Journal.mk ((ba2.Records.take (Int.toNat (wr64 (v56 + 1)))).drop 0)) h73) (by kernel_rfl) (by kernel_rfl) (by kernel_rfl) (by kernel_rfl) (by kernel_rfl) (by kernel_rfl)) (ap (not_f h74) (ap (not_f h74) (ap (not_f h74) (ap (not_f h74) (ap (not_f h74) (ap (not_f h74) an)))))))))))))) (fun h => nomatch h) (LoopQ.out rfl rfl)
    · obtain rfl := some_inj h
      exact runK_end cfg_ok (k := 1) (rs := [([], [], [(3, .val (.pl (.int .i64 (ba2.Records.length : Int))))])]) (ps := [some false]) (tds := []) (m := [1, 2]) (keep := [5, 6, 7, 8]) (ex := (.exit 0)) (st' := (f26r1n2E bl1 ba2 (.exit0 v55 v57)).2) (by kernel_rfl) (ap (len_cv (xs := ba2.Records) (c := JournalRecord.cells)) (ap h59 an)) (fun h => nomatch h) (LoopQ.out rfl rfl)
inductive f26r1n1O where
  | norm (v90 : Int) (v91 : List Int)
  | ret (v92 : List Int)
def f26r1n1E (bl1 : Int × (List Int)) (ba2 : Journal) : f26r1n1O → Ex × Tr × Hp
  | .norm v90 v91 => (.norm, mkS [(5, (.own 0)), (6, (.pl (.int .i64 bl1.1))), (7, (.own 1)), (8, (.pl (.int .i64 v90)))], [some (.row false 1 (bl1.2.map (cInt .u8))), some (.row false 1 (v91.map (cInt .i64)))])
  | .ret v92 => (.ret, mkS [(2, (.own 0)), (3, (.own 1)), (4, (.pl (.bool false)))], [some (.row false 1 (bl1.2.map (cInt .u8))), some (.row false 1 (v92.map (cInt .i64)))])
def f26r1n1S (bl1 : Int × (List Int)) (ba2 : Journal) : Tr × Hp := (mkS [(1, (.bp 0 0)), (5, (.own 1)), (6, (.pl (.int .i64 bl1.1))), (7, (.own 2)), (8, (.pl (.int .i64 0)))], [some (.box ((Journal.cells ba2).map .pl)), some (.row false 1 (bl1.2.map (cInt .u8))), some (.row false 1 ([].map (cInt .i64)))])
noncomputable def f26r1n1 (bl1 : Int × (List Int)) (ba2 : Journal) : Option f26r1n1O :=
  (f26r1n2 FUEL bl1 ba2 0 0 []).bind fun o85 => match o85 with
  | .exit0 v87 v88 => some (.norm v87 v88)
  | .ret v89 => some (.ret v89)
theorem f26r1n1_ok (bl1 : Int × (List Int)) (ba2 : Journal) {o : f26r1n1O} (h : (f26r1n1 bl1 ba2) = some o) : T Try.prog Try.f26.ntmps 0 (cL (dropC 4 c26)) (f26r1n1S bl1 ba2) (fun r => r = f26r1n1E bl1 ba2 o) := by
  unfold f26r1n1 at h
  refine runK_norm cfg_ok (k := 1) (rs := [([], [], [])]) (ps := []) (tds := []) (m := [0, 1, 2]) (keep := [1, 5, 6, 7, 8, 9]) (st' := (f26r1n2S bl1 ba2 0 0 [])) (by kernel_rfl) an ?_
  obtain ⟨o85, h86, h⟩ := bind_cases h
  cases o85 with
  | exit0 v87 v88 =>
    obtain rfl := some_inj h
    exact T.last' (T.bl (i := 0) (by kernel_rfl) (by kernel_rfl) (f26r1n2_ok FUEL bl1 ba2 0 0 [] h86)) (tds := []) (m := [0, 1]) (keep := [5, 6, 7, 8]) (st2 := (f26r1n1E bl1 ba2 (.norm v87 v88)).2) (by kernel_rfl) an rfl
  | ret v89 =>
    obtain rfl := some_inj h
    exact T.last' (T.bl (i := 0) (by kernel_rfl) (by kernel_rfl) (f26r1n2_ok FUEL bl1 ba2 0 0 [] h86)) (tds := []) (m := [0, 1]) (keep := [2, 3, 4]) (st2 := (f26r1n1E bl1 ba2 (.ret v89)).2) (by kernel_rfl) an rfl
inductive f26r1n0O where
  | ret (v100 : Bool) (v101 : List Int) (v102 : List Int)
def f26r1n0E (a1 : Journal) : f26r1n0O → Ex × Tr × Hp
  | .ret v100 v101 v102 => (.ret, mkS [(2, (.own 0)), (3, (.own 1)), (4, (.pl (.bool v100)))], [some (.row false 1 (v101.map (cInt .u8))), some (.row false 1 (v102.map (cInt .i64)))])
def f26r1n0S (a1 : Journal) : Tr × Hp := (initS [(.pl (.agg (Journal.cells a1)))] 0 .leaf, [])
noncomputable def f26r1n0 (a1 : Journal) : Option f26r1n0O :=
  (f13r1 a1).bind fun x4 =>
  (f26r1n1 x4 a1).bind fun o93 => match o93 with
  | .norm v95 v96 => bif (decide (x4.1 = 0)) then
      some (.ret (decide (v95 = (x4.2.length : Int))) x4.2 v96)
    else
      some (.ret false x4.2 v96)
  | .ret v99 => some (.ret false x4.2 v99)
theorem f26r1n0_ok (a1 : Journal) {o : f26r1n0O} (h : (f26r1n0 a1) = some o) : T Try.prog Try.f26.ntmps 0 c26 (f26r1n0S a1) (fun r => r = f26r1n0E a1 o) := by
  unfold f26r1n0 at h
  obtain ⟨x4, h5, h⟩ := bind_cases h
  refine runK_norm cfg_ok (k := 4) (rs := [([], [], []), ([], [(1, .call (.tup [(.own 1), (.pl (.int .i64 x4.1))]) [none, some (.row false 1 (x4.2.map (cInt .u8)))])], []), ([], [], []), ([], [], [])]) (ps := []) (tds := []) (m := [0, 1, 2]) (keep := [1, 5, 6, 7, 8]) (st' := (f26r1n1S x4 a1)) (by kernel_rfl) (ap (CallS.ren (args' := [(.pl (.agg (Journal.cells a1)))]) (v' := (.tup [(.own 1), (.pl (.int .i64 x4.1))])) (B := [none]) (B' := [none, some (.row false 1 (x4.2.map (cInt .u8)))]) 1 [] (f13r1_ok a1 h5) (by kernel_rfl) (by kernel_rfl) (by kernel_rfl) (by kernel_rfl) (by kernel_rfl) (by kernel_rfl)) an) ?_
  obtain ⟨o93, h94, h⟩ := bind_cases h
  cases o93 with
  | norm v95 v96 =>
    refine T.oneN (by kernel_rfl) (f26r1n1_ok x4 a1 h94) (st2 := (f26r1n1E x4 a1 (.norm v95 v96)).2) rfl ?_
    rcases cond_cases h with ⟨h98, h⟩ | ⟨h98, h⟩
    · obtain rfl := some_inj h
      exact run_end cfg_ok (rs := [([(5, true), (6, true), (7, true), (8, true)], [(9, .bool true)], [(7, .val (.pl (.int .i64 (x4.2.length : Int))))])]) (ps := []) (tds := []) (m := [0, 1]) (keep := [2, 3, 4]) (r := (.ret, (f26r1n0E a1 (.ret (decide (v95 = (x4.2.length : Int))) x4.2 v96)).2)) (by kernel_rfl) (ap h98 (ap h98 (ap h98 (ap (len_cv (xs := x4.2) (c := (cInt .u8))) (ap h98 (ap h98 an)))))) rfl
    · obtain rfl := some_inj h
      exact run_end cfg_ok (rs := [([(5, false), (6, false), (7, false), (8, false)], [(9, .bool false)], [])]) (ps := []) (tds := []) (m := [0, 1]) (keep := [2, 3, 4]) (r := (.ret, (f26r1n0E a1 (.ret false x4.2 v96)).2)) (by kernel_rfl) (ap h98 (ap h98 (ap h98 (ap h98 (ap h98 an))))) rfl
  | ret v99 =>
    obtain rfl := some_inj h
    exact T.oneX' (by kernel_rfl) (f26r1n1_ok x4 a1 h94) (tds := []) (m := [0, 1]) (keep := [2, 3, 4]) (st2 := (f26r1n0E a1 (.ret false x4.2 v99)).2) (by kernel_rfl) an rfl rfl
noncomputable def f26r1 (a1 : Journal) : Option (Bool × (List Int) × (List Int)) := (f26r1n0 a1).bind fun o => match o with
  | .ret v100 v101 v102 => some (v100, v101, v102)
theorem f26r1_ok (a1 : Journal) {r : Bool × (List Int) × (List Int)} (h : (f26r1 a1) = some r) : CallS Try.prog true 26 [(.pl (.agg (Journal.cells a1)))] [] (.tup [(.own 0), (.own 1), (.pl (.bool r.1))]) [some (.row false 1 (r.2.1.map (cInt .u8))), some (.row false 1 (r.2.2.map (cInt .i64)))] := by
  unfold f26r1 at h
  obtain ⟨o, ho, h⟩ := bind_cases h
  cases o with
  | ret v100 v101 v102 =>
    obtain rfl := some_inj h
    exact CallS.shared cfg_ok (f := Try.f26) (c := c26) (by kernel_rfl) (by kernel_rfl) (by kernel_rfl) ((f26r1n0_ok a1 ho).mono fun r e => by subst e; exact ⟨.inl rfl, by kernel_rfl, by kernel_rfl⟩)
end Go.Proofs.Ytbgjlpdeoljmiaa
