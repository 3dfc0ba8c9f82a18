/- Functions of the program, plainly, and that the machine computes them. No condition. -/
import Derived.Test.YtbgjlpdeoljmiaaY4
namespace Go.Proofs.Ytbgjlpdeoljmiaa
set_option linter.unusedVariables false
set_option linter.unusedSimpArgs false
set_option maxRecDepth 100000
open Go.RowKit
noncomputable def c26 : Code := Try.f26.body.getD .skip
inductive f26r1n2O where
  | exit0 (v82 : Int) (v83 : List Int)
  | ret (v84 : List Int)
def f26r1n2E (bk1 : (List Int) × Int) (ba2 : Journal) : f26r1n2O → Ex × Tr × Hp
  | .exit0 v82 v83 => ((.exit 0), mkS [(5, (.pl (.sl .any 1 (bk1.1.map (cInt .u8))))), (6, (.pl (.int .i64 bk1.2))), (7, (.own 0)), (8, (.pl (.int .i64 v82)))], [some (.row false 1 (v83.map (cInt .i64)))])
  | .ret v84 => (.ret, mkS [(2, (.pl (.sl .any 1 (bk1.1.map (cInt .u8))))), (3, (.own 0)), (4, (.pl (.bool false)))], [some (.row false 1 (v84.map (cInt .i64)))])
def f26r1n2S (bk1 : (List Int) × Int) (ba2 : Journal) (v55 : Int) (v56 : Int) (v57 : List Int) : Tr × Hp := (mkS [(1, (.bp 0 0)), (5, (.pl (.sl .any 1 (bk1.1.map (cInt .u8))))), (6, (.pl (.int .i64 bk1.2))), (7, (.own 1)), (8, (.pl (.int .i64 v55))), (9, (.pl (.int .i64 v56)))], [some (.box ((Journal.cells ba2).map .pl)), some (.row false 1 (v57.map (cInt .i64)))])
noncomputable def f26r1n2 : Nat → (List Int) × Int → Journal → Int → Int → List Int → Option f26r1n2O
  | 0, _, _, _, _, _ => none
  | f + 1, bk1, ba2, v55, v56, v57 =>
    bif (decide (v56 < (ba2.Records.length : Int))) then
      req (cutB 0 (wr64 (v56 + 1)) ba2.Records.length) <|
      (f13 (Journal.mk ((ba2.Records.take (Int.toNat (wr64 (v56 + 1)))).drop 0))).bind fun x72 =>
      bif (decide (x72.2 = 0)) then
        bif (decide ((x72.1.length : Int) < (wr64 (v55 + 13)))) then
          some (.ret v57)
        else
          bif (decide ((bk1.1.length : Int) < (x72.1.length : Int))) then
            some (.ret v57)
          else
            req (cutB 0 (x72.1.length : Int) bk1.1.length) <|
            (f18 x72.1 ((bk1.1.take (Int.toNat (x72.1.length : Int))).drop 0)).bind fun x78 =>
            bif x78 then
              req (fit (v57.length + 1) 8) <|
              (f26r1n2 f bk1 ba2 (x72.1.length : Int) (wr64 (v56 + 1)) (v57 ++ [(x72.1.length : Int)]))
            else
              some (.ret v57)
      else
        some (.ret v57)
    else
      some (.exit0 v55 v57)
theorem f26r1n2_ok : ∀ (f : Nat) (bk1 : (List Int) × Int) (ba2 : Journal) (v55 : Int) (v56 : Int) (v57 : List Int) {o : f26r1n2O}, (f26r1n2 f bk1 ba2 v55 v56 v57) = some o → TL Try.prog Try.f26.ntmps 0 f (cL (cL (dropC 1 (cL (dropC 4 c26))))) (f26r1n2S bk1 ba2 v55 v56 v57) (fun r => r = f26r1n2E bk1 ba2 o)
  | 0, _, _, _, _, _, o, h => by rw [f26r1n2] at h; cases h
  | f + 1, bk1, ba2, v55, v56, v57, o, h => by
    rw [f26r1n2] at h
    refine TL.body (K := fun s => ∃ v55 : Int, ∃ v56 : Int, ∃ v57 : List Int, s = (f26r1n2S bk1 ba2 v55 v56 v57) ∧ (f26r1n2 f bk1 ba2 v55 v56 v57) = some o) ?_ (by rintro _ ⟨v55, v56, v57, rfl, hk⟩; exact f26r1n2_ok f _ _ _ _ _ hk)
    rcases cond_cases h with ⟨h59, h⟩ | ⟨h59, h⟩
    · obtain ⟨h71, h⟩ := req_cases h
      obtain ⟨x72, h73, h⟩ := bind_cases h
      rcases cond_cases h with ⟨h74, h⟩ | ⟨h74, h⟩
      · rcases cond_cases h with ⟨h75, h⟩ | ⟨h75, h⟩
        · obtain rfl := some_inj h
          exact runK_end cfg_ok (k := 2) (rs := [([], [], [(3, .val (.pl (.int .i64 (ba2.Records.length : Int))))]), ([], [(4, .cut 0 (Int.toNat (wr64 (v56 + 1)))), (6, .call (.tup [(.pl (.sl .any 1 (x72.1.map (cInt .u8)))), (.pl (.int .i64 x72.2))]) [])], [(4, .val (.pl (.sl .any 3 (((ba2.Records.take (Int.toNat (wr64 (v56 + 1)))).drop 0).map JournalRecord.cells))))]), ([(3, false), (4, false), (5, false), (6, false), (7, false), (10, true), (11, true), (12, true), (13, true), (14, true)], [(8, .bool false), (15, .bool true)], [(4, .val (.pl (.int .i64 (x72.1.length : Int))))]), ([], [], [])]) (ps := [some true, none]) (tds := []) (m := [1]) (keep := [2, 3, 4]) (ex := .ret) (st' := (f26r1n2E bk1 ba2 (.ret v57)).2) (by kernel_rfl) (ap (len_cv (xs := ba2.Records) (c := JournalRecord.cells)) (ap h59 (ap (cut_hn_1_map (c := JournalRecord.cells) h71) (ap (cut_hn_2 h71) (ap (cut_hn_3 h71) (ap (cut_hn_4_map (c := JournalRecord.cells) h71) (ap (congrArg (fun l => AV.pl (.sl .any 3 l)) (cut_cv (xs := ba2.Records) (c := JournalRecord.cells) (n := (Int.toNat (wr64 (v56 + 1)))) (m := 0))) (ap (f13_ok (Journal.mk ((ba2.Records.take (Int.toNat (wr64 (v56 + 1)))).drop 0)) h73) (ap (not_t h74) (ap (not_t h74) (ap (len_cv (xs := x72.1) (c := (cInt .u8))) (ap (not_t h74) (ap (not_t h74) (ap (not_t h74) (ap (not_t h74) (ap h75 (ap h75 (ap h75 (ap h75 (ap h75 (ap h75 an))))))))))))))))))))) (fun h => nomatch h) (LoopQ.out rfl rfl)
        · rcases cond_cases h with ⟨h76, h⟩ | ⟨h76, h⟩
          · obtain rfl := some_inj h
            exact runK_end cfg_ok (k := 2) (rs := [([], [], [(3, .val (.pl (.int .i64 (ba2.Records.length : Int))))]), ([], [(4, .cut 0 (Int.toNat (wr64 (v56 + 1)))), (6, .call (.tup [(.pl (.sl .any 1 (x72.1.map (cInt .u8)))), (.pl (.int .i64 x72.2))]) [])], [(4, .val (.pl (.sl .any 3 (((ba2.Records.take (Int.toNat (wr64 (v56 + 1)))).drop 0).map JournalRecord.cells))))]), ([(3, false), (4, false), (5, false), (6, false), (7, false), (10, false), (11, false), (12, false), (13, false), (14, false), (17, true), (18, true), (19, true), (20, true), (21, true), (22, true), (23, true)], [(8, .bool false), (15, .bool false), (24, .bool true)], [(4, .val (.pl (.int .i64 (x72.1.length : Int)))), (11, .val (.pl (.int .i64 (x72.1.length : Int)))), (13, .val (.pl (.int .i64 (bk1.1.length : Int))))]), ([], [], [])]) (ps := [some true, none]) (tds := []) (m := [1]) (keep := [2, 3, 4]) (ex := .ret) (st' := (f26r1n2E bk1 ba2 (.ret v57)).2) (by kernel_rfl) (ap (len_cv (xs := ba2.Records) (c := JournalRecord.cells)) (ap h59 (ap (cut_hn_1_map (c := JournalRecord.cells) h71) (ap (cut_hn_2 h71) (ap (cut_hn_3 h71) (ap (cut_hn_4_map (c := JournalRecord.cells) h71) (ap (congrArg (fun l => AV.pl (.sl .any 3 l)) (cut_cv (xs := ba2.Records) (c := JournalRecord.cells) (n := (Int.toNat (wr64 (v56 + 1)))) (m := 0))) (ap (f13_ok (Journal.mk ((ba2.Records.take (Int.toNat (wr64 (v56 + 1)))).drop 0)) h73) (ap (not_t h74) (ap (not_t h74) (ap (len_cv (xs := x72.1) (c := (cInt .u8))) (ap (not_t h74) (ap (not_t h74) (ap (not_t h74) (ap (not_t h74) (ap h75 (ap h75 (ap (len_cv (xs := x72.1) (c := (cInt .u8))) (ap h75 (ap h75 (ap (len_cv (xs := bk1.1) (c := (cInt .u8))) (ap h75 (ap h75 (ap h76 (ap h76 (ap h76 (ap h76 (ap h76 (ap h76 (ap h76 (ap h76 an))))))))))))))))))))))))))))))) (fun h => nomatch h) (LoopQ.out rfl rfl)
          · obtain ⟨h77, h⟩ := req_cases h
            obtain ⟨x78, h79, h⟩ := bind_cases h
            rcases cond_cases h with ⟨h80, h⟩ | ⟨h80, h⟩
            · obtain ⟨h81, h⟩ := req_cases h
              exact run_end cfg_ok (rs := [([], [], [(3, .val (.pl (.int .i64 (ba2.Records.length : Int))))]), ([], [(4, .cut 0 (Int.toNat (wr64 (v56 + 1)))), (6, .call (.tup [(.pl (.sl .any 1 (x72.1.map (cInt .u8)))), (.pl (.int .i64 x72.2))]) [])], [(4, .val (.pl (.sl .any 3 (((ba2.Records.take (Int.toNat (wr64 (v56 + 1)))).drop 0).map JournalRecord.cells))))]), ([(3, false), (4, false), (5, false), (6, false), (7, false), (10, false), (11, false), (12, false), (13, false), (14, false), (17, false), (18, false), (19, false), (20, false), (21, false), (22, false), (23, false)], [(8, .bool false), (15, .bool false), (21, .cut 0 (Int.toNat (x72.1.length : Int))), (22, .call (.pl (.bool x78)) []), (24, .bool false)], [(4, .val (.pl (.int .i64 (x72.1.length : Int)))), (11, .val (.pl (.int .i64 (x72.1.length : Int)))), (13, .val (.pl (.int .i64 (bk1.1.length : Int)))), (20, .val (.pl (.int .i64 (x72.1.length : Int)))), (21, .val (.pl (.sl .any 1 (((bk1.1.take (Int.toNat (x72.1.length : Int))).drop 0).map (cInt .u8)))))]), ([], [], [(1, .val (.pl (.int .i64 (x72.1.length : Int))))]), ([], [(3, .fits)], [(3, .row 3 ((v57 ++ [(x72.1.length : Int)]).map (cInt .i64)))]), ([], [], [])]) (ps := [some true, some false]) (tds := []) (m := [0, 3]) (keep := [1, 5, 6, 7, 8, 9]) (r := (.norm, (f26r1n2S bk1 ba2 (x72.1.length : Int) (wr64 (v56 + 1)) (v57 ++ [(x72.1.length : Int)])))) (by kernel_rfl) (ap (len_cv (xs := ba2.Records) (c := JournalRecord.cells)) (ap h59 (ap (cut_hn_1_map (c := JournalRecord.cells) h71) (ap (cut_hn_2 h71) (ap (cut_hn_3 h71) (ap (cut_hn_4_map (c := JournalRecord.cells) h71) (ap (congrArg (fun l => AV.pl (.sl .any 3 l)) (cut_cv (xs := ba2.Records) (c := JournalRecord.cells) (n := (Int.toNat (wr64 (v56 + 1)))) (m := 0))) (ap (f13_ok (Journal.mk ((ba2.Records.take (Int.toNat (wr64 (v56 + 1)))).drop 0)) h73) (ap (not_t h74) (ap (not_t h74) (ap (len_cv (xs := x72.1) (c := (cInt .u8))) (ap (not_t h74) (ap (not_t h74) (ap (not_t h74) (ap (not_t h74) (ap h75 (ap h75 (ap (len_cv (xs := x72.1) (c := (cInt .u8))) (ap h75 (ap h75 (ap (len_cv (xs := bk1.1) (c := (cInt .u8))) (ap h75 (ap h75 (ap h76 (ap h76 (ap h76 (ap h76 (ap (len_cv (xs := x72.1) (c := (cInt .u8))) (ap h76 (ap (cut_hn_1_map (c := (cInt .u8)) h77) (ap (cut_hn_2 h77) (ap (cut_hn_3 h77) (ap (cut_hn_4_map (c := (cInt .u8)) h77) (ap (congrArg (fun l => AV.pl (.sl .any 1 l)) (cut_cv (xs := bk1.1) (c := (cInt .u8)) (n := (Int.toNat (x72.1.length : Int))) (m := 0))) (ap h76 (ap h76 (ap h76 (ap (f18_ok x72.1 ((bk1.1.take (Int.toNat (x72.1.length : Int))).drop 0) h79) (ap (not_t h80) (ap (len_cv (xs := x72.1) (c := (cInt .u8))) (ap (fit_map (te := ti3) (xs := v57) (n := 1) (c := (cInt .i64)) h81 rfl) (ap (app_cv (xs := v57) (ys := [(x72.1.length : Int)]) (c := (cInt .i64))) an)))))))))))))))))))))))))))))))))))))))))) (LoopQ.norm ⟨(x72.1.length : Int), (wr64 (v56 + 1)), (v57 ++ [(x72.1.length : Int)]), rfl, h⟩)
            · obtain rfl := some_inj h
              exact runK_end cfg_ok (k := 2) (rs := [([], [], [(3, .val (.pl (.int .i64 (ba2.Records.length : Int))))]), ([], [(4, .cut 0 (Int.toNat (wr64 (v56 + 1)))), (6, .call (.tup [(.pl (.sl .any 1 (x72.1.map (cInt .u8)))), (.pl (.int .i64 x72.2))]) [])], [(4, .val (.pl (.sl .any 3 (((ba2.Records.take (Int.toNat (wr64 (v56 + 1)))).drop 0).map JournalRecord.cells))))]), ([(3, false), (4, false), (5, false), (6, false), (7, false), (10, false), (11, false), (12, false), (13, false), (14, false), (17, false), (18, false), (19, false), (20, false), (21, false), (22, false), (23, false)], [(8, .bool false), (15, .bool false), (21, .cut 0 (Int.toNat (x72.1.length : Int))), (22, .call (.pl (.bool x78)) []), (24, .bool false)], [(4, .val (.pl (.int .i64 (x72.1.length : Int)))), (11, .val (.pl (.int .i64 (x72.1.length : Int)))), (13, .val (.pl (.int .i64 (bk1.1.length : Int)))), (20, .val (.pl (.int .i64 (x72.1.length : Int)))), (21, .val (.pl (.sl .any 1 (((bk1.1.take (Int.toNat (x72.1.length : Int))).drop 0).map (cInt .u8)))))]), ([], [], [])]) (ps := [some true, some true]) (tds := []) (m := [1]) (keep := [2, 3, 4]) (ex := .ret) (st' := (f26r1n2E bk1 ba2 (.ret v57)).2) (by kernel_rfl) (ap (len_cv (xs := ba2.Records) (c := JournalRecord.cells)) (ap h59 (ap (cut_hn_1_map (c := JournalRecord.cells) h71) (ap (cut_hn_2 h71) (ap (cut_hn_3 h71) (ap (cut_hn_4_map (c := JournalRecord.cells) h71) (ap (congrArg (fun l => AV.pl (.sl .any 3 l)) (cut_cv (xs := ba2.Records) (c := JournalRecord.cells) (n := (Int.toNat (wr64 (v56 + 1)))) (m := 0))) (ap (f13_ok (Journal.mk ((ba2.Records.take (Int.toNat (wr64 (v56 + 1)))).drop 0)) h73) (ap (not_t h74) (ap (not_t h74) (ap (len_cv (xs := x72.1) (c := (cInt .u8))) (ap (not_t h74) (ap (not_t h74) (ap (not_t h74) (ap (not_t h74) (ap h75 (ap h75 (ap (len_cv (xs := x72.1) (c := (cInt .u8))) (ap h75 (ap h75 (ap (len_cv (xs := bk1.1) (c := (cInt .u8))) (ap h75 (ap h75 (ap h76 (ap h76 (ap h76 (ap h76 (ap (len_cv (xs := x72.1) (c := (cInt .u8))) (ap h76 (ap (cut_hn_1_map (c := (cInt .u8)) h77) (ap (cut_hn_2 h77) (ap (cut_hn_3 h77) (ap (cut_hn_4_map (c := (cInt .u8)) h77) (ap (congrArg (fun l => AV.pl (.sl .any 1 l)) (cut_cv (xs := bk1.1) (c := (cInt .u8)) (n := (Int.toNat (x72.1.length : Int))) (m := 0))) (ap h76 (ap h76 (ap h76 (ap (f18_ok x72.1 ((bk1.1.take (Int.toNat (x72.1.length : Int))).drop 0) h79) (ap (not_f h80) an))))))))))))))))))))))))))))))))))))))) (fun h => nomatch h) (LoopQ.out rfl rfl)
      · obtain rfl := some_inj h
        exact runK_end cfg_ok (k := 2) (rs := [([], [], [(3, .val (.pl (.int .i64 (ba2.Records.length : Int))))]), ([], [(4, .cut 0 (Int.toNat (wr64 (v56 + 1)))), (6, .call (.tup [(.pl (.sl .any 1 (x72.1.map (cInt .u8)))), (.pl (.int .i64 x72.2))]) [])], [(4, .val (.pl (.sl .any 3 (((ba2.Records.take (Int.toNat (wr64 (v56 + 1)))).drop 0).map JournalRecord.cells))))]), ([(3, true), (4, true), (5, true), (6, true), (7, true)], [(8, .bool true)], []), ([], [], [])]) (ps := [some true, none]) (tds := []) (m := [1]) (keep := [2, 3, 4]) (ex := .ret) (st' := (f26r1n2E bk1 ba2 (.ret v57)).2) (by kernel_rfl) (ap (len_cv (xs := ba2.Records) (c := JournalRecord.cells)) (ap h59 (ap (cut_hn_1_map (c := JournalRecord.cells) h71) (ap (cut_hn_2 h71) (ap (cut_hn_3 h71) (ap (cut_hn_4_map (c := JournalRecord.cells) h71) (ap (congrArg (fun l => AV.pl (.sl .any 3 l)) (cut_cv (xs := ba2.Records) (c := JournalRecord.cells) (n := (Int.toNat (wr64 (v56 + 1)))) (m := 0))) (ap (f13_ok (Journal.mk ((ba2.Records.take (Int.toNat (wr64 (v56 + 1)))).drop 0)) h73) (ap (not_f h74) (ap (not_f h74) (ap (not_f h74) (ap (not_f h74) (ap (not_f h74) (ap (not_f h74) an)))))))))))))) (fun h => nomatch h) (LoopQ.out rfl rfl)
    · obtain rfl := some_inj h
      exact runK_end cfg_ok (k := 1) (rs := [([], [], [(3, .val (.pl (.int .i64 (ba2.Records.length : Int))))])]) (ps := [some false]) (tds := []) (m := [1]) (keep := [5, 6, 7, 8]) (ex := (.exit 0)) (st' := (f26r1n2E bk1 ba2 (.exit0 v55 v57)).2) (by kernel_rfl) (ap (len_cv (xs := ba2.Records) (c := JournalRecord.cells)) (ap h59 an)) (fun h => nomatch h) (LoopQ.out rfl rfl)
inductive f26r1n1O where
  | norm (v90 : Int) (v91 : List Int)
  | ret (v92 : List Int)
def f26r1n1E (bk1 : (List Int) × Int) (ba2 : Journal) : f26r1n1O → Ex × Tr × Hp
  | .norm v90 v91 => (.norm, mkS [(5, (.pl (.sl .any 1 (bk1.1.map (cInt .u8))))), (6, (.pl (.int .i64 bk1.2))), (7, (.own 0)), (8, (.pl (.int .i64 v90)))], [some (.row false 1 (v91.map (cInt .i64)))])
  | .ret v92 => (.ret, mkS [(2, (.pl (.sl .any 1 (bk1.1.map (cInt .u8))))), (3, (.own 0)), (4, (.pl (.bool false)))], [some (.row false 1 (v92.map (cInt .i64)))])
def f26r1n1S (bk1 : (List Int) × Int) (ba2 : Journal) : Tr × Hp := (mkS [(1, (.bp 0 0)), (5, (.pl (.sl .any 1 (bk1.1.map (cInt .u8))))), (6, (.pl (.int .i64 bk1.2))), (7, (.own 1)), (8, (.pl (.int .i64 0)))], [some (.box ((Journal.cells ba2).map .pl)), some (.row false 1 ([].map (cInt .i64)))])
noncomputable def f26r1n1 (bk1 : (List Int) × Int) (ba2 : Journal) : Option f26r1n1O :=
  (f26r1n2 FUEL bk1 ba2 0 0 []).bind fun o85 => match o85 with
  | .exit0 v87 v88 => some (.norm v87 v88)
  | .ret v89 => some (.ret v89)
theorem f26r1n1_ok (bk1 : (List Int) × Int) (ba2 : Journal) {o : f26r1n1O} (h : (f26r1n1 bk1 ba2) = some o) : T Try.prog Try.f26.ntmps 0 (cL (dropC 4 c26)) (f26r1n1S bk1 ba2) (fun r => r = f26r1n1E bk1 ba2 o) := by
  unfold f26r1n1 at h
  refine runK_norm cfg_ok (k := 1) (rs := [([], [], [])]) (ps := []) (tds := []) (m := [0, 1]) (keep := [1, 5, 6, 7, 8, 9]) (st' := (f26r1n2S bk1 ba2 0 0 [])) (by kernel_rfl) an ?_
  obtain ⟨o85, h86, h⟩ := bind_cases h
  cases o85 with
  | exit0 v87 v88 =>
    obtain rfl := some_inj h
    exact T.last' (T.bl (i := 0) (by kernel_rfl) (by kernel_rfl) (f26r1n2_ok FUEL bk1 ba2 0 0 [] h86)) (tds := []) (m := [0]) (keep := [5, 6, 7, 8]) (st2 := (f26r1n1E bk1 ba2 (.norm v87 v88)).2) (by kernel_rfl) an rfl
  | ret v89 =>
    obtain rfl := some_inj h
    exact T.last' (T.bl (i := 0) (by kernel_rfl) (by kernel_rfl) (f26r1n2_ok FUEL bk1 ba2 0 0 [] h86)) (tds := []) (m := [0]) (keep := [2, 3, 4]) (st2 := (f26r1n1E bk1 ba2 (.ret v89)).2) (by kernel_rfl) an rfl
inductive f26r1n0O where
  | ret (v100 : List Int) (v101 : Bool) (v102 : List Int)
def f26r1n0E (a1 : Journal) : f26r1n0O → Ex × Tr × Hp
  | .ret v100 v101 v102 => (.ret, mkS [(2, (.pl (.sl .any 1 (v100.map (cInt .u8))))), (3, (.own 0)), (4, (.pl (.bool v101)))], [some (.row false 1 (v102.map (cInt .i64)))])
def f26r1n0S (a1 : Journal) : Tr × Hp := (initS [(.pl (.agg (Journal.cells a1)))] 0 .leaf, [])
noncomputable def f26r1n0 (a1 : Journal) : Option f26r1n0O :=
  (f13 a1).bind fun x4 =>
  (f26r1n1 x4 a1).bind fun o93 => match o93 with
  | .norm v95 v96 => bif (decide (x4.2 = 0)) then
      some (.ret x4.1 (decide (v95 = (x4.1.length : Int))) v96)
    else
      some (.ret x4.1 false v96)
  | .ret v99 => some (.ret x4.1 false v99)
theorem f26r1n0_ok (a1 : Journal) {o : f26r1n0O} (h : (f26r1n0 a1) = some o) : T Try.prog Try.f26.ntmps 0 c26 (f26r1n0S a1) (fun r => r = f26r1n0E a1 o) := by
  unfold f26r1n0 at h
  obtain ⟨x4, h5, h⟩ := bind_cases h
  refine runK_norm cfg_ok (k := 4) (rs := [([], [], []), ([], [(1, .call (.tup [(.pl (.sl .any 1 (x4.1.map (cInt .u8)))), (.pl (.int .i64 x4.2))]) [])], []), ([], [], []), ([], [], [])]) (ps := []) (tds := []) (m := [0, 1]) (keep := [1, 5, 6, 7, 8]) (st' := (f26r1n1S x4 a1)) (by kernel_rfl) (ap (f13_ok a1 h5) an) ?_
  obtain ⟨o93, h94, h⟩ := bind_cases h
  cases o93 with
  | norm v95 v96 =>
    refine T.oneN (by kernel_rfl) (f26r1n1_ok x4 a1 h94) (st2 := (f26r1n1E x4 a1 (.norm v95 v96)).2) rfl ?_
    rcases cond_cases h with ⟨h98, h⟩ | ⟨h98, h⟩
    · obtain rfl := some_inj h
      exact run_end cfg_ok (rs := [([(5, true), (6, true), (7, true), (8, true)], [(9, .bool true)], [(7, .val (.pl (.int .i64 (x4.1.length : Int))))])]) (ps := []) (tds := []) (m := [0]) (keep := [2, 3, 4]) (r := (.ret, (f26r1n0E a1 (.ret x4.1 (decide (v95 = (x4.1.length : Int))) v96)).2)) (by kernel_rfl) (ap h98 (ap h98 (ap h98 (ap (len_cv (xs := x4.1) (c := (cInt .u8))) (ap h98 (ap h98 an)))))) rfl
    · obtain rfl := some_inj h
      exact run_end cfg_ok (rs := [([(5, false), (6, false), (7, false), (8, false)], [(9, .bool false)], [])]) (ps := []) (tds := []) (m := [0]) (keep := [2, 3, 4]) (r := (.ret, (f26r1n0E a1 (.ret x4.1 false v96)).2)) (by kernel_rfl) (ap h98 (ap h98 (ap h98 (ap h98 (ap h98 an))))) rfl
  | ret v99 =>
    obtain rfl := some_inj h
    exact T.oneX' (by kernel_rfl) (f26r1n1_ok x4 a1 h94) (tds := []) (m := [0]) (keep := [2, 3, 4]) (st2 := (f26r1n0E a1 (.ret x4.1 false v99)).2) (by kernel_rfl) an rfl rfl
noncomputable def f26r1 (a1 : Journal) : Option ((List Int) × Bool × (List Int)) := (f26r1n0 a1).bind fun o => match o with
  | .ret v100 v101 v102 => some (v100, v101, v102)
theorem f26r1_ok (a1 : Journal) {r : (List Int) × Bool × (List Int)} (h : (f26r1 a1) = some r) : CallS Try.prog true 26 [(.pl (.agg (Journal.cells a1)))] [] (.tup [(.pl (.sl .any 1 (r.1.map (cInt .u8)))), (.own 0), (.pl (.bool r.2.1))]) [some (.row false 1 (r.2.2.map (cInt .i64)))] := by
  unfold f26r1 at h
  obtain ⟨o, ho, h⟩ := bind_cases h
  cases o with
  | ret v100 v101 v102 =>
    obtain rfl := some_inj h
    exact CallS.shared cfg_ok (f := Try.f26) (c := c26) (by kernel_rfl) (by kernel_rfl) (by kernel_rfl) ((f26r1n0_ok a1 ho).mono fun r e => by subst e; exact ⟨.inl rfl, by kernel_rfl, by kernel_rfl⟩)

noncomputable def c5 : Code := Try.f5.body.getD .skip
inductive f5n1O where
  | exit0 (v58 : Int)
def f5n1E (a2 : Int) (a3 : List Int) (x6 : Bool) (x24 : (List Int) × Bool × (List Int)) (x20 : Journal) : f5n1O → Ex × Tr × Hp
  | .exit0 v58 => ((.exit 0), mkS [(1, (.pl (.int .i64 a2))), (2, (.pl (.sl .any 1 (a3.map (cInt .u8))))), (7, (.pl (.bool x6))), (8, (.bp 0 0)), (9, (.pl (.sl .any 1 (x24.1.map (cInt .u8))))), (12, (.pl (.int .i64 v58)))], [some (.box ((Journal.cells x20).map .pl))])
def f5n1S (a2 : Int) (a3 : List Int) (x6 : Bool) (x24 : (List Int) × Bool × (List Int)) (x20 : Journal) (v49 : Int) : Tr × Hp := (mkS [(1, (.pl (.int .i64 a2))), (2, (.pl (.sl .any 1 (a3.map (cInt .u8))))), (7, (.pl (.bool x6))), (8, (.bp 0 0)), (9, (.pl (.sl .any 1 (x24.1.map (cInt .u8))))), (10, (.own 1)), (12, (.pl (.int .i64 v49)))], [some (.box ((Journal.cells x20).map .pl)), some (.row false 1 (x24.2.2.map (cInt .i64)))])
noncomputable def f5n1 : Nat → Int → List Int → Bool → (List Int) × Bool × (List Int) → Journal → Int → Option f5n1O
  | 0, _, _, _, _, _, _ => none
  | f + 1, a2, a3, x6, x24, x20, v49 =>
    bif (decide (v49 < (x24.2.2.length : Int))) then
      (at? x24.2.2 v49).bind fun x55 =>
      bif (decide (x55 ≤ a2)) then
        (f5n1 f a2 a3 x6 x24 x20 (wr64 (v49 + 1)))
      else
        some (.exit0 v49)
    else
      some (.exit0 v49)
theorem f5n1_ok : ∀ (f : Nat) (a2 : Int) (a3 : List Int) (x6 : Bool) (x24 : (List Int) × Bool × (List Int)) (x20 : Journal) (v49 : Int) {o : f5n1O}, (f5n1 f a2 a3 x6 x24 x20 v49) = some o → TL Try.prog Try.f5.ntmps 0 f (cL (cL (cL (dropC 7 c5)))) (f5n1S a2 a3 x6 x24 x20 v49) (fun r => r = f5n1E a2 a3 x6 x24 x20 o)
  | 0, _, _, _, _, _, _, o, h => by rw [f5n1] at h; cases h
  | f + 1, a2, a3, x6, x24, x20, v49, o, h => by
    rw [f5n1] at h
    refine TL.body (K := fun s => ∃ v49 : Int, s = (f5n1S a2 a3 x6 x24 x20 v49) ∧ (f5n1 f a2 a3 x6 x24 x20 v49) = some o) ?_ (by rintro _ ⟨v49, rfl, hk⟩; exact f5n1_ok f _ _ _ _ _ _ hk)
    rcases cond_cases h with ⟨h54, h⟩ | ⟨h54, h⟩
    · obtain ⟨x55, h56, h⟩ := bind_cases h
      rcases cond_cases h with ⟨h57, h⟩ | ⟨h57, h⟩
      · exact run_end cfg_ok (rs := [([(5, true), (6, true), (7, true), (8, true), (9, true), (10, true)], [(7, .at_ (Int.toNat v49)), (8, .idx 0 ((cInt .i64) x55)), (11, .bool true)], [(2, .val (.pl (.int .i64 (x24.2.2.length : Int))))]), ([], [], [])]) (ps := [some true]) (tds := []) (m := [0, 1]) (keep := [1, 2, 7, 8, 9, 10, 12]) (r := (.norm, (f5n1S a2 a3 x6 x24 x20 (wr64 (v49 + 1))))) (by kernel_rfl) (ap (len_cv (xs := x24.2.2) (c := (cInt .i64))) (ap h54 (ap h54 (ap h54 (ap (at_some h56).1 (ap (lt_map (cInt .i64) (at_some h56).2) (ap h54 (ap (at_map (cInt .i64) (at_some h56).2) (ap h54 (ap h54 (ap h54 (ap h57 an)))))))))))) (LoopQ.norm ⟨(wr64 (v49 + 1)), rfl, h⟩)
      · obtain rfl := some_inj h
        exact runK_end cfg_ok (k := 1) (rs := [([(5, true), (6, true), (7, true), (8, true), (9, true), (10, true)], [(7, .at_ (Int.toNat v49)), (8, .idx 0 ((cInt .i64) x55)), (11, .bool true)], [(2, .val (.pl (.int .i64 (x24.2.2.length : Int))))])]) (ps := [some false]) (tds := []) (m := [0]) (keep := [1, 2, 7, 8, 9, 12]) (ex := (.exit 0)) (st' := (f5n1E a2 a3 x6 x24 x20 (.exit0 v49)).2) (by kernel_rfl) (ap (len_cv (xs := x24.2.2) (c := (cInt .i64))) (ap h54 (ap h54 (ap h54 (ap (at_some h56).1 (ap (lt_map (cInt .i64) (at_some h56).2) (ap h54 (ap (at_map (cInt .i64) (at_some h56).2) (ap h54 (ap h54 (ap h54 (ap h57 an)))))))))))) (fun h => nomatch h) (LoopQ.out rfl rfl)
    · obtain rfl := some_inj h
      exact runK_end cfg_ok (k := 1) (rs := [([(5, false), (6, false), (7, false), (8, false), (9, false), (10, false)], [(11, .bool false)], [(2, .val (.pl (.int .i64 (x24.2.2.length : Int))))])]) (ps := [none]) (tds := []) (m := [0]) (keep := [1, 2, 7, 8, 9, 12]) (ex := (.exit 0)) (st' := (f5n1E a2 a3 x6 x24 x20 (.exit0 v49)).2) (by kernel_rfl) (ap (len_cv (xs := x24.2.2) (c := (cInt .i64))) (ap h54 (ap h54 (ap h54 (ap h54 (ap h54 (ap h54 (ap h54 an)))))))) (fun h => nomatch h) (LoopQ.out rfl rfl)
noncomputable def f5n1L (a2 : Int) (a3 : List Int) (x6 : Bool) (x24 : (List Int) × Bool × (List Int)) (x20 : Journal) : List Int → Int → Option f5n1O
  | [], v49 =>
    some (.exit0 v49)
  | x0 :: rest, v49 =>
    bif (decide (x0 ≤ a2)) then
      (f5n1L a2 a3 x6 x24 x20 rest (v49 + 1))
    else
      some (.exit0 v49)
theorem f5n1L_eq (a2 : Int) (a3 : List Int) (x6 : Bool) (x24 : (List Int) × Bool × (List Int)) (x20 : Journal) : ∀ (rest : List Int) (f k : Nat), x24.2.2.drop k = rest → x24.2.2.length ≤ maxLen → rest.length < f → f5n1 f a2 a3 x6 x24 x20 (k : Int) = f5n1L a2 a3 x6 x24 x20 rest (k : Int)
  | _, 0, _, _, _, hf => absurd hf (Nat.not_lt_zero _)
  | [], f + 1, k, hd, hm, hf => by
    have hk : ¬ ((k : Int) < (x24.2.2.length : Int)) := by have := drop_nil hd; omega
    rw [f5n1, f5n1L]
    simp only [decide_eq_false hk, cond_false]
  | x0 :: rest, f + 1, k, hd, hm, hf => by
    obtain ⟨hx, hlt, hd'⟩ := drop_cons hd
    have hk : (k : Int) < (x24.2.2.length : Int) := by omega
    have hw : wr64 ((k : Int) + 1) = (k : Int) + 1 := wr64_of (by omega) (by unfold maxLen at hm; omega)
    have ih : f5n1 f a2 a3 x6 x24 x20 ((k : Int) + 1) = f5n1L a2 a3 x6 x24 x20 rest ((k : Int) + 1) := f5n1L_eq a2 a3 x6 x24 x20 rest f (k + 1) hd' hm (by simpa using hf)
    rw [f5n1, f5n1L]
    simp only [decide_eq_true hk, cond_true, at_nat, hx, Option.bind_some, hw, ih]
theorem f5n1_run (a2 : Int) (a3 : List Int) (x6 : Bool) (x24 : (List Int) × Bool × (List Int)) (x20 : Journal) (hm : x24.2.2.length ≤ maxLen) : f5n1 FUEL a2 a3 x6 x24 x20 0 = f5n1L a2 a3 x6 x24 x20 x24.2.2 0 := f5n1L_eq a2 a3 x6 x24 x20 x24.2.2 FUEL 0 List.drop_zero hm (lt_FUEL hm)
inductive f5n2O where
  | norm (v83 : List Int)
def f5n2E (bf1 : Int) (bj2 : List Int) (bo3 : Bool) (bp4 : (List Int) × Bool × (List Int)) (bf5 : Int) (ba6 : Journal) : f5n2O → Ex × Tr × Hp
  | .norm v83 => (.norm, mkS [(2, (.pl (.sl .any 1 (bj2.map (cInt .u8))))), (7, (.pl (.bool bo3))), (8, (.bp 0 0)), (12, (.pl (.int .i64 bf5))), (13, (.own 1))], [some (.box ((Journal.cells ba6).map .pl)), some (.row false 1 (v83.map (cInt .u8)))])
def f5n2S (bf1 : Int) (bj2 : List Int) (bo3 : Bool) (bp4 : (List Int) × Bool × (List Int)) (bf5 : Int) (ba6 : Journal) : Tr × Hp := (mkS [(1, (.pl (.int .i64 bf1))), (2, (.pl (.sl .any 1 (bj2.map (cInt .u8))))), (7, (.pl (.bool bo3))), (8, (.bp 0 0)), (9, (.pl (.sl .any 1 (bp4.1.map (cInt .u8))))), (12, (.pl (.int .i64 bf5)))], [some (.box ((Journal.cells ba6).map .pl))])
noncomputable def f5n2 (bf1 : Int) (bj2 : List Int) (bo3 : Bool) (bp4 : (List Int) × Bool × (List Int)) (bf5 : Int) (ba6 : Journal) : Option f5n2O :=
  req (cutB 0 bf1 bp4.1.length) <|
  bif (((bp4.1.take (Int.toNat bf1)).drop 0).isEmpty) then
    bif (bj2.isEmpty) then
      some (.norm [])
    else
      req (fit bj2.length 1) <|
      some (.norm bj2)
  else
    req (fit ((bp4.1.take (Int.toNat bf1)).drop 0).length 1) <|
    bif (bj2.isEmpty) then
      some (.norm ((bp4.1.take (Int.toNat bf1)).drop 0))
    else
      req (fit (((bp4.1.take (Int.toNat bf1)).drop 0).length + bj2.length) 1) <|
      some (.norm (((bp4.1.take (Int.toNat bf1)).drop 0) ++ bj2))
theorem f5n2_ok (bf1 : Int) (bj2 : List Int) (bo3 : Bool) (bp4 : (List Int) × Bool × (List Int)) (bf5 : Int) (ba6 : Journal) {o : f5n2O} (h : (f5n2 bf1 bj2 bo3 bp4 bf5 ba6) = some o) : T Try.prog Try.f5.ntmps 0 (cL (dropC 0 (dropC 1 (dropC 7 c5)))) (f5n2S bf1 bj2 bo3 bp4 bf5 ba6) (fun r => r = f5n2E bf1 bj2 bo3 bp4 bf5 ba6 o) := by
  unfold f5n2 at h
  obtain ⟨h76, h⟩ := req_cases h
  rcases cond_cases h with ⟨h77, h⟩ | ⟨h77, h⟩
  · rcases cond_cases h with ⟨h78, h⟩ | ⟨h78, h⟩
    · obtain rfl := some_inj h
      exact run_end cfg_ok (rs := [([], [(3, .cut 0 (Int.toNat bf1)), (4, .app false), (6, .app false)], [(3, .val (.pl (.sl .any 1 (((bp4.1.take (Int.toNat bf1)).drop 0).map (cInt .u8)))))])]) (ps := []) (tds := []) (m := [0, 1]) (keep := [2, 7, 8, 12, 13]) (r := (.norm, (f5n2E bf1 bj2 bo3 bp4 bf5 ba6 (.norm [])).2)) (by kernel_rfl) (ap (cut_hn_1_map (c := (cInt .u8)) h76) (ap (cut_hn_2 h76) (ap (cut_hn_3 h76) (ap (cut_hn_4_map (c := (cInt .u8)) h76) (ap (congrArg (fun l => AV.pl (.sl .any 1 l)) (cut_cv (xs := bp4.1) (c := (cInt .u8)) (n := (Int.toNat bf1)) (m := 0))) (ap (nil_map (c := (cInt .u8)) h77) (ap (nil_map (c := (cInt .u8)) h78) an))))))) rfl
    · obtain ⟨h79, h⟩ := req_cases h
      obtain rfl := some_inj h
      exact run_end cfg_ok (rs := [([], [(3, .cut 0 (Int.toNat bf1)), (4, .app false), (6, .app true)], [(3, .val (.pl (.sl .any 1 (((bp4.1.take (Int.toNat bf1)).drop 0).map (cInt .u8)))))])]) (ps := []) (tds := []) (m := [0, 2]) (keep := [2, 7, 8, 12, 13]) (r := (.norm, (f5n2E bf1 bj2 bo3 bp4 bf5 ba6 (.norm bj2)).2)) (by kernel_rfl) (ap (cut_hn_1_map (c := (cInt .u8)) h76) (ap (cut_hn_2 h76) (ap (cut_hn_3 h76) (ap (cut_hn_4_map (c := (cInt .u8)) h76) (ap (congrArg (fun l => AV.pl (.sl .any 1 l)) (cut_cv (xs := bp4.1) (c := (cInt .u8)) (n := (Int.toNat bf1)) (m := 0))) (ap (nil_map (c := (cInt .u8)) h77) (ap (fit_map0z (te := ti5) (xs := bj2) (c := (cInt .u8)) h79 rfl) (ap (ne_map (c := (cInt .u8)) h78) (ap (len_all (c := (cInt .u8)) (xs := bj2) (n := 1) (fun _ => rfl)) an))))))))) rfl
  · obtain ⟨h80, h⟩ := req_cases h
    rcases cond_cases h with ⟨h81, h⟩ | ⟨h81, h⟩
    · obtain rfl := some_inj h
      exact run_end cfg_ok (rs := [([], [(3, .cut 0 (Int.toNat bf1)), (4, .app true), (6, .app false)], [(3, .val (.pl (.sl .any 1 (((bp4.1.take (Int.toNat bf1)).drop 0).map (cInt .u8)))))])]) (ps := []) (tds := []) (m := [0, 2]) (keep := [2, 7, 8, 12, 13]) (r := (.norm, (f5n2E bf1 bj2 bo3 bp4 bf5 ba6 (.norm ((bp4.1.take (Int.toNat bf1)).drop 0))).2)) (by kernel_rfl) (ap (cut_hn_1_map (c := (cInt .u8)) h76) (ap (cut_hn_2 h76) (ap (cut_hn_3 h76) (ap (cut_hn_4_map (c := (cInt .u8)) h76) (ap (congrArg (fun l => AV.pl (.sl .any 1 l)) (cut_cv (xs := bp4.1) (c := (cInt .u8)) (n := (Int.toNat bf1)) (m := 0))) (ap (fit_map0z (te := ti5) (xs := ((bp4.1.take (Int.toNat bf1)).drop 0)) (c := (cInt .u8)) h80 rfl) (ap (ne_map (c := (cInt .u8)) h77) (ap (len_all (c := (cInt .u8)) (xs := ((bp4.1.take (Int.toNat bf1)).drop 0)) (n := 1) (fun _ => rfl)) (ap (nil_map (c := (cInt .u8)) h81) an))))))))) rfl
    · obtain ⟨h82, h⟩ := req_cases h
      obtain rfl := some_inj h
      exact run_end cfg_ok (rs := [([], [(3, .cut 0 (Int.toNat bf1)), (4, .app true), (6, .app true)], [(3, .val (.pl (.sl .any 1 (((bp4.1.take (Int.toNat bf1)).drop 0).map (cInt .u8))))), (6, .row 3 ((((bp4.1.take (Int.toNat bf1)).drop 0) ++ bj2).map (cInt .u8)))])]) (ps := []) (tds := []) (m := [0, 3]) (keep := [2, 7, 8, 12, 13]) (r := (.norm, (f5n2E bf1 bj2 bo3 bp4 bf5 ba6 (.norm (((bp4.1.take (Int.toNat bf1)).drop 0) ++ bj2))).2)) (by kernel_rfl) (ap (cut_hn_1_map (c := (cInt .u8)) h76) (ap (cut_hn_2 h76) (ap (cut_hn_3 h76) (ap (cut_hn_4_map (c := (cInt .u8)) h76) (ap (congrArg (fun l => AV.pl (.sl .any 1 l)) (cut_cv (xs := bp4.1) (c := (cInt .u8)) (n := (Int.toNat bf1)) (m := 0))) (ap (fit_map0z (te := ti5) (xs := ((bp4.1.take (Int.toNat bf1)).drop 0)) (c := (cInt .u8)) h80 rfl) (ap (ne_map (c := (cInt .u8)) h77) (ap (len_all (c := (cInt .u8)) (xs := ((bp4.1.take (Int.toNat bf1)).drop 0)) (n := 1) (fun _ => rfl)) (ap (fit_map2 (te := ti5) (xs := ((bp4.1.take (Int.toNat bf1)).drop 0)) (ys := bj2) (c := (cInt .u8)) (d := (cInt .u8)) h82 rfl) (ap (ne_map (c := (cInt .u8)) h81) (ap (len_all (c := (cInt .u8)) (xs := bj2) (n := 1) (fun _ => rfl)) (ap (app_cv (xs := ((bp4.1.take (Int.toNat bf1)).drop 0)) (ys := bj2) (c := (cInt .u8))) an)))))))))))) rfl
inductive f5n4O where
  | norm (v113 : Bool)
def f5n4E (bj1 : List Int) (bo2 : Bool) (bf3 : Int) (bj4 : List Int) (bl5 : Journal × Int) (ba6 : Journal) : f5n4O → Ex × Tr × Hp
  | .norm v113 => (.norm, mkS [(7, (.pl (.bool bo2))), (8, (.bp 0 0)), (12, (.pl (.int .i64 bf3))), (13, (.pl (.sl .any 1 (bj4.map (cInt .u8))))), (14, (.bp 1 0)), (15, (.pl (.int .i64 bl5.2))), (108, (.pl (.bool v113)))], [some (.box ((Journal.cells ba6).map .pl)), some (.box ((Journal.cells bl5.1).map .pl))])
def f5n4S (bj1 : List Int) (bo2 : Bool) (bf3 : Int) (bj4 : List Int) (bl5 : Journal × Int) (ba6 : Journal) : Tr × Hp := (mkS [(2, (.pl (.sl .any 1 (bj1.map (cInt .u8))))), (7, (.pl (.bool bo2))), (8, (.bp 0 0)), (12, (.pl (.int .i64 bf3))), (13, (.pl (.sl .any 1 (bj4.map (cInt .u8))))), (14, (.bp 1 0)), (15, (.pl (.int .i64 bl5.2)))], [some (.box ((Journal.cells ba6).map .pl)), some (.box ((Journal.cells bl5.1).map .pl))])
noncomputable def f5n4 (bj1 : List Int) (bo2 : Bool) (bf3 : Int) (bj4 : List Int) (bl5 : Journal × Int) (ba6 : Journal) : Option f5n4O :=
  bif (decide ((bl5.1.Records.length : Int) < bf3)) then
    some (.norm true)
  else
    bif (decide ((bj1.length : Int) = 0)) then
      bif (decide ((bl5.1.Records.length : Int) = bf3)) then
        bif (decide (bl5.2 < 0)) then
          some (.norm true)
        else
          some (.norm (decide ((bj4.length : Int) < bl5.2)))
      else
        some (.norm true)
    else
      bif (decide (bl5.2 < 0)) then
        some (.norm true)
      else
        some (.norm (decide ((bj4.length : Int) < bl5.2)))
theorem f5n4_ok (bj1 : List Int) (bo2 : Bool) (bf3 : Int) (bj4 : List Int) (bl5 : Journal × Int) (ba6 : Journal) {o : f5n4O} (h : (f5n4 bj1 bo2 bf3 bj4 bl5 ba6) = some o) : T Try.prog Try.f5.ntmps 0 (cL (dropC 0 (cL (dropC 1 (dropC 1 (dropC 0 (dropC 1 (dropC 7 c5)))))))) (f5n4S bj1 bo2 bf3 bj4 bl5 ba6) (fun r => r = f5n4E bj1 bo2 bf3 bj4 bl5 ba6 o) := by
  unfold f5n4 at h
  rcases cond_cases h with ⟨h108, h⟩ | ⟨h108, h⟩
  · obtain rfl := some_inj h
    exact run_end cfg_ok (rs := [([(6, true), (7, true), (8, true), (9, true), (15, true)], [(16, .bool true)], [(2, .val (.pl (.int .i64 (bl5.1.Records.length : Int))))])]) (ps := []) (tds := []) (m := [0, 1]) (keep := [7, 8, 12, 13, 14, 15, 108]) (r := (.norm, (f5n4E bj1 bo2 bf3 bj4 bl5 ba6 (.norm true)).2)) (by kernel_rfl) (ap (len_cv (xs := bl5.1.Records) (c := JournalRecord.cells)) (ap h108 (ap h108 (ap h108 (ap h108 (ap h108 (ap h108 an))))))) rfl
  · rcases cond_cases h with ⟨h109, h⟩ | ⟨h109, h⟩
    · rcases cond_cases h with ⟨h110, h⟩ | ⟨h110, h⟩
      · rcases cond_cases h with ⟨h111, h⟩ | ⟨h111, h⟩
        · obtain rfl := some_inj h
          exact run_end cfg_ok (rs := [([(6, false), (7, false), (8, false), (9, false), (10, true), (11, true), (12, true), (13, true), (14, true), (15, false), (18, false), (19, false), (22, true), (23, true), (24, true), (25, true)], [(15, .bool true), (16, .bool false), (20, .bool false), (26, .bool true)], [(2, .val (.pl (.int .i64 (bl5.1.Records.length : Int)))), (7, .val (.pl (.int .i64 (bj1.length : Int)))), (12, .val (.pl (.int .i64 (bl5.1.Records.length : Int))))])]) (ps := []) (tds := []) (m := [0, 1]) (keep := [7, 8, 12, 13, 14, 15, 108]) (r := (.norm, (f5n4E bj1 bo2 bf3 bj4 bl5 ba6 (.norm true)).2)) (by kernel_rfl) (ap (len_cv (xs := bl5.1.Records) (c := JournalRecord.cells)) (ap h108 (ap h108 (ap (len_cv (xs := bj1) (c := (cInt .u8))) (ap h108 (ap h108 (ap h109 (ap h109 (ap h109 (ap (len_cv (xs := bl5.1.Records) (c := JournalRecord.cells)) (ap h109 (ap h109 (ap h108 (ap h109 (ap h108 (ap (not_t h110) (ap (not_t h110) (ap (not_t h110) (ap h111 (ap h111 (ap h111 (ap h111 (ap h111 an))))))))))))))))))))))) rfl
        · obtain rfl := some_inj h
          exact run_end cfg_ok (rs := [([(6, false), (7, false), (8, false), (9, false), (10, true), (11, true), (12, true), (13, true), (14, true), (15, false), (18, false), (19, false), (22, false), (23, false), (24, false), (25, false)], [(15, .bool true), (16, .bool false), (20, .bool false), (26, .bool false)], [(2, .val (.pl (.int .i64 (bl5.1.Records.length : Int)))), (7, .val (.pl (.int .i64 (bj1.length : Int)))), (12, .val (.pl (.int .i64 (bl5.1.Records.length : Int)))), (24, .val (.pl (.int .i64 (bj4.length : Int))))])]) (ps := []) (tds := []) (m := [0, 1]) (keep := [7, 8, 12, 13, 14, 15, 108]) (r := (.norm, (f5n4E bj1 bo2 bf3 bj4 bl5 ba6 (.norm (decide ((bj4.length : Int) < bl5.2)))).2)) (by kernel_rfl) (ap (len_cv (xs := bl5.1.Records) (c := JournalRecord.cells)) (ap h108 (ap h108 (ap (len_cv (xs := bj1) (c := (cInt .u8))) (ap h108 (ap h108 (ap h109 (ap h109 (ap h109 (ap (len_cv (xs := bl5.1.Records) (c := JournalRecord.cells)) (ap h109 (ap h109 (ap h108 (ap h109 (ap h108 (ap (not_t h110) (ap (not_t h110) (ap (not_t h110) (ap h111 (ap h111 (ap h111 (ap (len_cv (xs := bj4) (c := (cInt .u8))) (ap h111 (ap h111 an)))))))))))))))))))))))) rfl
      · obtain rfl := some_inj h
        exact run_end cfg_ok (rs := [([(6, false), (7, false), (8, false), (9, false), (10, true), (11, true), (12, true), (13, true), (14, true), (15, false), (18, true), (19, true)], [(15, .bool true), (16, .bool false), (20, .bool true)], [(2, .val (.pl (.int .i64 (bl5.1.Records.length : Int)))), (7, .val (.pl (.int .i64 (bj1.length : Int)))), (12, .val (.pl (.int .i64 (bl5.1.Records.length : Int))))])]) (ps := []) (tds := []) (m := [0, 1]) (keep := [7, 8, 12, 13, 14, 15, 108]) (r := (.norm, (f5n4E bj1 bo2 bf3 bj4 bl5 ba6 (.norm true)).2)) (by kernel_rfl) (ap (len_cv (xs := bl5.1.Records) (c := JournalRecord.cells)) (ap h108 (ap h108 (ap (len_cv (xs := bj1) (c := (cInt .u8))) (ap h108 (ap h108 (ap h109 (ap h109 (ap h109 (ap (len_cv (xs := bl5.1.Records) (c := JournalRecord.cells)) (ap h109 (ap h109 (ap h108 (ap h109 (ap h108 (ap (not_f h110) (ap (not_f h110) (ap (not_f h110) an)))))))))))))))))) rfl
    · rcases cond_cases h with ⟨h112, h⟩ | ⟨h112, h⟩
      · obtain rfl := some_inj h
        exact run_end cfg_ok (rs := [([(6, false), (7, false), (8, false), (9, false), (10, false), (11, false), (12, false), (13, false), (14, false), (15, false), (22, true), (23, true), (24, true), (25, true)], [(15, .bool false), (16, .bool false), (26, .bool true)], [(2, .val (.pl (.int .i64 (bl5.1.Records.length : Int)))), (7, .val (.pl (.int .i64 (bj1.length : Int))))])]) (ps := []) (tds := []) (m := [0, 1]) (keep := [7, 8, 12, 13, 14, 15, 108]) (r := (.norm, (f5n4E bj1 bo2 bf3 bj4 bl5 ba6 (.norm true)).2)) (by kernel_rfl) (ap (len_cv (xs := bl5.1.Records) (c := JournalRecord.cells)) (ap h108 (ap h108 (ap (len_cv (xs := bj1) (c := (cInt .u8))) (ap h108 (ap h108 (ap h109 (ap h109 (ap h109 (ap h109 (ap h109 (ap h108 (ap h109 (ap h108 (ap h112 (ap h112 (ap h112 (ap h112 (ap h112 an))))))))))))))))))) rfl
      · obtain rfl := some_inj h
        exact run_end cfg_ok (rs := [([(6, false), (7, false), (8, false), (9, false), (10, false), (11, false), (12, false), (13, false), (14, false), (15, false), (22, false), (23, false), (24, false), (25, false)], [(15, .bool false), (16, .bool false), (26, .bool false)], [(2, .val (.pl (.int .i64 (bl5.1.Records.length : Int)))), (7, .val (.pl (.int .i64 (bj1.length : Int)))), (24, .val (.pl (.int .i64 (bj4.length : Int))))])]) (ps := []) (tds := []) (m := [0, 1]) (keep := [7, 8, 12, 13, 14, 15, 108]) (r := (.norm, (f5n4E bj1 bo2 bf3 bj4 bl5 ba6 (.norm (decide ((bj4.length : Int) < bl5.2)))).2)) (by kernel_rfl) (ap (len_cv (xs := bl5.1.Records) (c := JournalRecord.cells)) (ap h108 (ap h108 (ap (len_cv (xs := bj1) (c := (cInt .u8))) (ap h108 (ap h108 (ap h109 (ap h109 (ap h109 (ap h109 (ap h109 (ap h108 (ap h109 (ap h108 (ap h112 (ap h112 (ap h112 (ap (len_cv (xs := bj4) (c := (cInt .u8))) (ap h112 (ap h112 an)))))))))))))))))))) rfl
inductive f5n3O where
  | norm
  | ret
def f5n3E (bj1 : List Int) (bo2 : Bool) (bf3 : Int) (bj4 : List Int) (bl5 : Journal × Int) (ba6 : Journal) : f5n3O → Ex × Tr × Hp
  | .norm => (.norm, mkS [(7, (.pl (.bool bo2))), (8, (.bp 0 0)), (12, (.pl (.int .i64 bf3))), (13, (.pl (.sl .any 1 (bj4.map (cInt .u8))))), (14, (.bp 1 0)), (15, (.pl (.int .i64 bl5.2)))], [some (.box ((Journal.cells ba6).map .pl)), some (.box ((Journal.cells bl5.1).map .pl))])
  | .ret => (.ret, mkS [(6, (.pl (.bool false)))], [])
def f5n3S (bj1 : List Int) (bo2 : Bool) (bf3 : Int) (bj4 : List Int) (bl5 : Journal × Int) (ba6 : Journal) : Tr × Hp := (mkS [(2, (.pl (.sl .any 1 (bj1.map (cInt .u8))))), (7, (.pl (.bool bo2))), (8, (.bp 0 0)), (12, (.pl (.int .i64 bf3))), (13, (.pl (.sl .any 1 (bj4.map (cInt .u8))))), (14, (.bp 1 0)), (15, (.pl (.int .i64 bl5.2)))], [some (.box ((Journal.cells ba6).map .pl)), some (.box ((Journal.cells bl5.1).map .pl))])
noncomputable def f5n3 (bj1 : List Int) (bo2 : Bool) (bf3 : Int) (bj4 : List Int) (bl5 : Journal × Int) (ba6 : Journal) : Option f5n3O :=
  (f5n4 bj1 bo2 bf3 bj4 bl5 ba6).bind fun o114 => match o114 with
  | .norm v116 => bif v116 then
      some .ret
    else
      some .norm
theorem f5n3_ok (bj1 : List Int) (bo2 : Bool) (bf3 : Int) (bj4 : List Int) (bl5 : Journal × Int) (ba6 : Journal) {o : f5n3O} (h : (f5n3 bj1 bo2 bf3 bj4 bl5 ba6) = some o) : T Try.prog Try.f5.ntmps 0 (cL (dropC 1 (dropC 1 (dropC 0 (dropC 1 (dropC 7 c5)))))) (f5n3S bj1 bo2 bf3 bj4 bl5 ba6) (fun r => r = f5n3E bj1 bo2 bf3 bj4 bl5 ba6 o) := by
  unfold f5n3 at h
  refine runK_norm cfg_ok (k := 0) (rs := []) (ps := []) (tds := []) (m := [0, 1]) (keep := [2, 7, 8, 12, 13, 14, 15]) (st' := (f5n4S bj1 bo2 bf3 bj4 bl5 ba6)) (by kernel_rfl) an ?_
  obtain ⟨o114, h115, h⟩ := bind_cases h
  cases o114 with
  | norm v116 =>
    refine T.oneN (by kernel_rfl) (f5n4_ok bj1 bo2 bf3 bj4 bl5 ba6 h115) (st2 := (f5n4E bj1 bo2 bf3 bj4 bl5 ba6 (.norm v116)).2) rfl ?_
    rcases cond_cases h with ⟨h118, h⟩ | ⟨h118, h⟩
    · obtain rfl := some_inj h
      exact run_end cfg_ok (rs := [([], [], [])]) (ps := [some true]) (tds := []) (m := []) (keep := [6]) (r := (.ret, (f5n3E bj1 bo2 bf3 bj4 bl5 ba6 .ret).2)) (by kernel_rfl) (ap h118 an) rfl
    · obtain rfl := some_inj h
      exact run_end cfg_ok (rs := []) (ps := [some false]) (tds := []) (m := [0, 1]) (keep := [7, 8, 12, 13, 14, 15]) (r := (.norm, (f5n3E bj1 bo2 bf3 bj4 bl5 ba6 .norm).2)) (by kernel_rfl) (ap h118 an) rfl
inductive f5n6O where
  | exit2
  | ret
def f5n6E (bo1 : Bool) (bf2 : Int) (bj3 : List Int) (bl4 : Journal × Int) (ba5 : Journal) : f5n6O → Ex × Tr × Hp
  | .exit2 => ((.exit 2), mkS [(7, (.pl (.bool bo1))), (13, (.pl (.sl .any 1 (bj3.map (cInt .u8))))), (14, (.bp 0 0)), (15, (.pl (.int .i64 bl4.2)))], [some (.box ((Journal.cells bl4.1).map .pl))])
  | .ret => (.ret, mkS [(6, (.pl (.bool false)))], [])
def f5n6S (bo1 : Bool) (bf2 : Int) (bj3 : List Int) (bl4 : Journal × Int) (ba5 : Journal) (v154 : Int) : Tr × Hp := (mkS [(7, (.pl (.bool bo1))), (8, (.bp 0 0)), (12, (.pl (.int .i64 bf2))), (13, (.pl (.sl .any 1 (bj3.map (cInt .u8))))), (14, (.bp 1 0)), (15, (.pl (.int .i64 bl4.2))), (16, (.pl (.int .i64 v154)))], [some (.box ((Journal.cells ba5).map .pl)), some (.box ((Journal.cells bl4.1).map .pl))])
noncomputable def f5n6 : Nat → Bool → Int → List Int → Journal × Int → Journal → Int → Option f5n6O
  | 0, _, _, _, _, _, _ => none
  | f + 1, bo1, bf2, bj3, bl4, ba5, v154 =>
    bif (decide (v154 < bf2)) then
      (at? bl4.1.Records v154).bind fun x164 =>
      (at? ba5.Records v154).bind fun x166 =>
      (f27 x164 x166).bind fun x168 =>
      bif x168 then
        (f5n6 f bo1 bf2 bj3 bl4 ba5 (wr64 (v154 + 1)))
      else
        some .ret
    else
      some .exit2
theorem f5n6_ok : ∀ (f : Nat) (bo1 : Bool) (bf2 : Int) (bj3 : List Int) (bl4 : Journal × Int) (ba5 : Journal) (v154 : Int) {o : f5n6O}, (f5n6 f bo1 bf2 bj3 bl4 ba5 v154) = some o → TL Try.prog Try.f5.ntmps 0 f (cL (cL (dropC 1 (cL (dropC 0 (dropC 1 (dropC 1 (dropC 1 (dropC 0 (dropC 1 (dropC 7 c5))))))))))) (f5n6S bo1 bf2 bj3 bl4 ba5 v154) (fun r => r = f5n6E bo1 bf2 bj3 bl4 ba5 o)
  | 0, _, _, _, _, _, _, o, h => by rw [f5n6] at h; cases h
  | f + 1, bo1, bf2, bj3, bl4, ba5, v154, o, h => by
    rw [f5n6] at h
    refine TL.body (K := fun s => ∃ v154 : Int, s = (f5n6S bo1 bf2 bj3 bl4 ba5 v154) ∧ (f5n6 f bo1 bf2 bj3 bl4 ba5 v154) = some o) ?_ (by rintro _ ⟨v154, rfl, hk⟩; exact f5n6_ok f _ _ _ _ _ _ hk)
    rcases cond_cases h with ⟨h156, h⟩ | ⟨h156, h⟩
    · obtain ⟨x164, h165, h⟩ := bind_cases h
      obtain ⟨x166, h167, h⟩ := bind_cases h
      obtain ⟨x168, h169, h⟩ := bind_cases h
      rcases cond_cases h with ⟨h170, h⟩ | ⟨h170, h⟩
      · exact run_end cfg_ok (rs := [([], [], []), ([], [(3, .idx (Int.toNat v154) (JournalRecord.cells x164)), (8, .idx (Int.toNat v154) (JournalRecord.cells x166)), (10, .call (.pl (.bool x168)) [])], []), ([], [], [])]) (ps := [some true, some false]) (tds := []) (m := [0, 1]) (keep := [7, 8, 12, 13, 14, 15, 16]) (r := (.norm, (f5n6S bo1 bf2 bj3 bl4 ba5 (wr64 (v154 + 1))))) (by kernel_rfl) (ap h156 (ap (at_some h165).1 (ap (at_map JournalRecord.cells (at_some h165).2) (ap (at_some h167).1 (ap (at_map JournalRecord.cells (at_some h167).2) (ap (f27_ok x164 x166 h169) (ap (not_t h170) an))))))) (LoopQ.norm ⟨(wr64 (v154 + 1)), rfl, h⟩)
      · obtain rfl := some_inj h
        exact runK_end cfg_ok (k := 2) (rs := [([], [], []), ([], [(3, .idx (Int.toNat v154) (JournalRecord.cells x164)), (8, .idx (Int.toNat v154) (JournalRecord.cells x166)), (10, .call (.pl (.bool x168)) [])], []), ([], [], [])]) (ps := [some true, some true]) (tds := []) (m := []) (keep := [6]) (ex := .ret) (st' := (f5n6E bo1 bf2 bj3 bl4 ba5 .ret).2) (by kernel_rfl) (ap h156 (ap (at_some h165).1 (ap (at_map JournalRecord.cells (at_some h165).2) (ap (at_some h167).1 (ap (at_map JournalRecord.cells (at_some h167).2) (ap (f27_ok x164 x166 h169) (ap (not_f h170) an))))))) (fun h => nomatch h) (LoopQ.out rfl rfl)
    · obtain rfl := some_inj h
      exact runK_end cfg_ok (k := 1) (rs := [([], [], [])]) (ps := [some false]) (tds := []) (m := [1]) (keep := [7, 13, 14, 15]) (ex := (.exit 2)) (st' := (f5n6E bo1 bf2 bj3 bl4 ba5 .exit2).2) (by kernel_rfl) (ap h156 an) (fun h => nomatch h) (LoopQ.out rfl rfl)
inductive f5n5O where
  | norm
  | ret
def f5n5E (bo1 : Bool) (bf2 : Int) (bj3 : List Int) (bl4 : Journal × Int) (ba5 : Journal) : f5n5O → Ex × Tr × Hp
  | .norm => (.norm, mkS [(7, (.pl (.bool bo1))), (13, (.pl (.sl .any 1 (bj3.map (cInt .u8))))), (14, (.bp 0 0)), (15, (.pl (.int .i64 bl4.2)))], [some (.box ((Journal.cells bl4.1).map .pl))])
  | .ret => (.ret, mkS [(6, (.pl (.bool false)))], [])
def f5n5S (bo1 : Bool) (bf2 : Int) (bj3 : List Int) (bl4 : Journal × Int) (ba5 : Journal) : Tr × Hp := (mkS [(7, (.pl (.bool bo1))), (8, (.bp 0 0)), (12, (.pl (.int .i64 bf2))), (13, (.pl (.sl .any 1 (bj3.map (cInt .u8))))), (14, (.bp 1 0)), (15, (.pl (.int .i64 bl4.2)))], [some (.box ((Journal.cells ba5).map .pl)), some (.box ((Journal.cells bl4.1).map .pl))])
noncomputable def f5n5 (bo1 : Bool) (bf2 : Int) (bj3 : List Int) (bl4 : Journal × Int) (ba5 : Journal) : Option f5n5O :=
  (f5n6 FUEL bo1 bf2 bj3 bl4 ba5 0).bind fun o171 => match o171 with
  | .exit2 => some .norm
  | .ret => some .ret
theorem f5n5_ok (bo1 : Bool) (bf2 : Int) (bj3 : List Int) (bl4 : Journal × Int) (ba5 : Journal) {o : f5n5O} (h : (f5n5 bo1 bf2 bj3 bl4 ba5) = some o) : T Try.prog Try.f5.ntmps 0 (cL (dropC 0 (dropC 1 (dropC 1 (dropC 1 (dropC 0 (dropC 1 (dropC 7 c5)))))))) (f5n5S bo1 bf2 bj3 bl4 ba5) (fun r => r = f5n5E bo1 bf2 bj3 bl4 ba5 o) := by
  unfold f5n5 at h
  refine runK_norm cfg_ok (k := 1) (rs := [([], [], [])]) (ps := []) (tds := []) (m := [0, 1]) (keep := [7, 8, 12, 13, 14, 15, 16]) (st' := (f5n6S bo1 bf2 bj3 bl4 ba5 0)) (by kernel_rfl) an ?_
  obtain ⟨o171, h172, h⟩ := bind_cases h
  cases o171 with
  | exit2 =>
    obtain rfl := some_inj h
    exact T.last' (T.bl (i := 2) (by kernel_rfl) (by kernel_rfl) (f5n6_ok FUEL bo1 bf2 bj3 bl4 ba5 0 h172)) (tds := []) (m := [0]) (keep := [7, 13, 14, 15]) (st2 := (f5n5E bo1 bf2 bj3 bl4 ba5 .norm).2) (by kernel_rfl) an rfl
  | ret =>
    obtain rfl := some_inj h
    exact T.last' (T.bl (i := 2) (by kernel_rfl) (by kernel_rfl) (f5n6_ok FUEL bo1 bf2 bj3 bl4 ba5 0 h172)) (tds := []) (m := []) (keep := [6]) (st2 := (f5n5E bo1 bf2 bj3 bl4 ba5 .ret).2) (by kernel_rfl) an rfl
inductive f5n0O where
  | ret (v187 : Bool)
def f5n0E (a1 : List Entry) (a2 : Int) (a3 : List Int) : f5n0O → Ex × Tr × Hp
  | .ret v187 => (.ret, mkS [(6, (.pl (.bool v187)))], [])
def f5n0S (a1 : List Entry) (a2 : Int) (a3 : List Int) : Tr × Hp := (initS [(.pl (.sl .any 3 (a1.map Entry.cells))), (.pl (.int .i64 a2)), (.pl (.sl .any 1 (a3.map (cInt .u8))))] 0 .leaf, [])
noncomputable def f5n0 (a1 : List Entry) (a2 : Int) (a3 : List Int) : Option f5n0O :=
  f11.bind fun x6 =>
  (f23 a1).bind fun x13 =>
  bif x13 then
    some (.ret x6)
  else
    bif (decide (2000 < (a3.length : Int))) then
      some (.ret x6)
    else
      bif x6 then
        (f24r1 a1).bind fun x20 =>
        (f26r1 x20).bind fun x24 =>
        bif x24.2.1 then
          bif (decide (a2 < 0)) then
            some (.ret x24.2.1)
          else
            bif (decide ((x24.1.length : Int) < a2)) then
              some (.ret x24.2.1)
            else
              (f5n1 FUEL a2 a3 x6 x24 x20 0).bind fun o59 => match o59 with
              | .exit0 v61 => (f5n2 a2 a3 x6 x24 v61 x20).bind fun o84 => match o84 with
                | .norm v86 => (f16 v86).bind fun x89 =>
                  (f5n3 a3 x6 v61 v86 x89 x20).bind fun o119 => match o119 with
                  | .norm => (f5n5 x6 v61 v86 x89 x20).bind fun o173 => match o173 with
                    | .norm => (f13 x89.1).bind fun x177 =>
                      bif (decide (x177.2 = 0)) then
                        req (cutB 0 x89.2 v86.length) <|
                        (f18 x177.1 ((v86.take (Int.toNat x89.2)).drop 0)).bind fun x185 =>
                        some (.ret x185)
                      else
                        some (.ret false)
                    | .ret => some (.ret false)
                  | .ret => some (.ret false)
        else
          some (.ret x24.2.1)
      else
        some (.ret x6)
theorem f5n0_ok (a1 : List Entry) (a2 : Int) (a3 : List Int) {o : f5n0O} (h : (f5n0 a1 a2 a3) = some o) : T Try.prog Try.f5.ntmps 0 c5 (f5n0S a1 a2 a3) (fun r => r = f5n0E a1 a2 a3 o) := by
  unfold f5n0 at h
  obtain ⟨x6, h7, h⟩ := bind_cases h
  obtain ⟨x13, h14, h⟩ := bind_cases h
  rcases cond_cases h with ⟨h15, h⟩ | ⟨h15, h⟩
  · obtain rfl := some_inj h
    exact runK_end cfg_ok (k := 3) (rs := [([], [], []), ([], [(0, .call (.pl (.bool x6)) [])], []), ([(3, true), (4, true), (5, true)], [(1, .call (.pl (.bool x13)) []), (6, .bool true)], []), ([], [], [])]) (ps := [none]) (tds := []) (m := []) (keep := [6]) (ex := .ret) (st' := (f5n0E a1 a2 a3 (.ret x6)).2) (by kernel_rfl) (ap (f11_ok h7) (ap h15 (ap h15 (ap h15 (ap h15 (ap (f23_ok a1 h14) an)))))) (fun h => nomatch h) rfl
  · rcases cond_cases h with ⟨h16, h⟩ | ⟨h16, h⟩
    · obtain rfl := some_inj h
      exact runK_end cfg_ok (k := 3) (rs := [([], [], []), ([], [(0, .call (.pl (.bool x6)) [])], []), ([(3, false), (4, false), (5, false), (8, true), (9, true)], [(1, .call (.pl (.bool x13)) []), (6, .bool false), (10, .bool true)], [(4, .val (.pl (.int .i64 (a3.length : Int))))]), ([], [], [])]) (ps := [none]) (tds := []) (m := []) (keep := [6]) (ex := .ret) (st' := (f5n0E a1 a2 a3 (.ret x6)).2) (by kernel_rfl) (ap (f11_ok h7) (ap h15 (ap h15 (ap (len_cv (xs := a3) (c := (cInt .u8))) (ap h15 (ap h15 (ap h16 (ap h16 (ap h16 (ap (f23_ok a1 h14) an)))))))))) (fun h => nomatch h) rfl
    · rcases cond_cases h with ⟨h17, h⟩ | ⟨h17, h⟩
      · obtain ⟨x20, h21, h⟩ := bind_cases h
        obtain ⟨x24, h25, h⟩ := bind_cases h
        rcases cond_cases h with ⟨h29, h⟩ | ⟨h29, h⟩
        · rcases cond_cases h with ⟨h30, h⟩ | ⟨h30, h⟩
          · obtain rfl := some_inj h
            exact runK_end cfg_ok (k := 6) (rs := [([], [], []), ([], [(0, .call (.pl (.bool x6)) [])], []), ([(3, false), (4, false), (5, false), (8, false), (9, false)], [(1, .call (.pl (.bool x13)) []), (6, .bool false), (10, .bool false)], [(4, .val (.pl (.int .i64 (a3.length : Int))))]), ([], [(1, .call (.pl (.agg (Journal.cells x20))) [some (.box ((Journal.cells x20).map .pl))])], []), ([], [(1, .call (.tup [(.pl (.sl .any 1 (x24.1.map (cInt .u8)))), (.own 2), (.pl (.bool x24.2.1))]) [none, none, some (.row false 1 (x24.2.2.map (cInt .i64)))])], []), ([(3, false), (4, false), (7, true), (8, true), (9, true), (10, true)], [(5, .bool false), (11, .bool true)], []), ([(2, true)], [(3, .bool true)], [])]) (ps := [some false, none]) (tds := []) (m := []) (keep := [6]) (ex := .ret) (st' := (f5n0E a1 a2 a3 (.ret x24.2.1)).2) (by kernel_rfl) (ap (f11_ok h7) (ap h15 (ap h15 (ap (len_cv (xs := a3) (c := (cInt .u8))) (ap h15 (ap h15 (ap h16 (ap h16 (ap h16 (ap (f23_ok a1 h14) (ap (not_t h17) (ap (f24r1_ok a1 h21) (ap (CallS.ren (args' := [(.pl (.agg (Journal.cells x20)))]) (v' := (.tup [(.pl (.sl .any 1 (x24.1.map (cInt .u8)))), (.own 2), (.pl (.bool x24.2.1))])) (B := [none, none]) (B' := [none, none, some (.row false 1 (x24.2.2.map (cInt .i64)))]) 2 [] (f26r1_ok x20 h25) (by kernel_rfl) (by kernel_rfl) (by kernel_rfl) (by kernel_rfl) (by kernel_rfl) (by kernel_rfl)) (ap (not_t h29) (ap (not_t h29) (ap (not_t h29) (ap h30 (ap h30 (ap h30 (ap h30 (ap h30 (ap h17 (ap h17 an))))))))))))))))))))))) (fun h => nomatch h) rfl
          · rcases cond_cases h with ⟨h31, h⟩ | ⟨h31, h⟩
            · obtain rfl := some_inj h
              exact runK_end cfg_ok (k := 6) (rs := [([], [], []), ([], [(0, .call (.pl (.bool x6)) [])], []), ([(3, false), (4, false), (5, false), (8, false), (9, false)], [(1, .call (.pl (.bool x13)) []), (6, .bool false), (10, .bool false)], [(4, .val (.pl (.int .i64 (a3.length : Int))))]), ([], [(1, .call (.pl (.agg (Journal.cells x20))) [some (.box ((Journal.cells x20).map .pl))])], []), ([], [(1, .call (.tup [(.pl (.sl .any 1 (x24.1.map (cInt .u8)))), (.own 2), (.pl (.bool x24.2.1))]) [none, none, some (.row false 1 (x24.2.2.map (cInt .i64)))])], []), ([(3, false), (4, false), (7, false), (8, false), (9, false), (10, false)], [(5, .bool false), (11, .bool false)], [(9, .val (.pl (.int .i64 (x24.1.length : Int))))]), ([(2, true)], [(3, .bool true)], [])]) (ps := [some false, some true]) (tds := []) (m := []) (keep := [6]) (ex := .ret) (st' := (f5n0E a1 a2 a3 (.ret x24.2.1)).2) (by kernel_rfl) (ap (f11_ok h7) (ap h15 (ap h15 (ap (len_cv (xs := a3) (c := (cInt .u8))) (ap h15 (ap h15 (ap h16 (ap h16 (ap h16 (ap (f23_ok a1 h14) (ap (not_t h17) (ap (f24r1_ok a1 h21) (ap (CallS.ren (args' := [(.pl (.agg (Journal.cells x20)))]) (v' := (.tup [(.pl (.sl .any 1 (x24.1.map (cInt .u8)))), (.own 2), (.pl (.bool x24.2.1))])) (B := [none, none]) (B' := [none, none, some (.row false 1 (x24.2.2.map (cInt .i64)))]) 2 [] (f26r1_ok x20 h25) (by kernel_rfl) (by kernel_rfl) (by kernel_rfl) (by kernel_rfl) (by kernel_rfl) (by kernel_rfl)) (ap (not_t h29) (ap (not_t h29) (ap (not_t h29) (ap h30 (ap h30 (ap h30 (ap (len_cv (xs := x24.1) (c := (cInt .u8))) (ap h30 (ap h30 (ap h31 (ap h17 (ap h17 an))))))))))))))))))))))))) (fun h => nomatch h) rfl
            · refine runK_norm cfg_ok (k := 7) (rs := [([], [], []), ([], [(0, .call (.pl (.bool x6)) [])], []), ([(3, false), (4, false), (5, false), (8, false), (9, false)], [(1, .call (.pl (.bool x13)) []), (6, .bool false), (10, .bool false)], [(4, .val (.pl (.int .i64 (a3.length : Int))))]), ([], [(1, .call (.pl (.agg (Journal.cells x20))) [some (.box ((Journal.cells x20).map .pl))])], []), ([], [(1, .call (.tup [(.pl (.sl .any 1 (x24.1.map (cInt .u8)))), (.own 2), (.pl (.bool x24.2.1))]) [none, none, some (.row false 1 (x24.2.2.map (cInt .i64)))])], []), ([(3, false), (4, false), (7, false), (8, false), (9, false), (10, false)], [(5, .bool false), (11, .bool false)], [(9, .val (.pl (.int .i64 (x24.1.length : Int))))]), ([], [], [])]) (ps := [some false, some false]) (tds := []) (m := [1, 2]) (keep := [1, 2, 7, 8, 9, 10, 12]) (st' := (f5n1S a2 a3 x6 x24 x20 0)) (by kernel_rfl) (ap (f11_ok h7) (ap h15 (ap h15 (ap (len_cv (xs := a3) (c := (cInt .u8))) (ap h15 (ap h15 (ap h16 (ap h16 (ap h16 (ap (f23_ok a1 h14) (ap (not_t h17) (ap (f24r1_ok a1 h21) (ap (CallS.ren (args' := [(.pl (.agg (Journal.cells x20)))]) (v' := (.tup [(.pl (.sl .any 1 (x24.1.map (cInt .u8)))), (.own 2), (.pl (.bool x24.2.1))])) (B := [none, none]) (B' := [none, none, some (.row false 1 (x24.2.2.map (cInt .i64)))]) 2 [] (f26r1_ok x20 h25) (by kernel_rfl) (by kernel_rfl) (by kernel_rfl) (by kernel_rfl) (by kernel_rfl) (by kernel_rfl)) (ap (not_t h29) (ap (not_t h29) (ap (not_t h29) (ap h30 (ap h30 (ap h30 (ap (len_cv (xs := x24.1) (c := (cInt .u8))) (ap h30 (ap h30 (ap h31 an))))))))))))))))))))))) ?_
              obtain ⟨o59, h60, h⟩ := bind_cases h
              cases o59 with
              | exit0 v61 =>
                refine T.oneN (by kernel_rfl) (T.bl (i := 0) (by kernel_rfl) (by kernel_rfl) (f5n1_ok FUEL a2 a3 x6 x24 x20 0 h60)) (st2 := (f5n1E a2 a3 x6 x24 x20 (.exit0 v61)).2) rfl ?_
                refine runK_norm cfg_ok (k := 0) (rs := []) (ps := []) (tds := []) (m := [0]) (keep := [1, 2, 7, 8, 9, 12]) (st' := (f5n2S a2 a3 x6 x24 v61 x20)) (by kernel_rfl) an ?_
                obtain ⟨o84, h85, h⟩ := bind_cases h
                cases o84 with
                | norm v86 =>
                  refine T.oneN (by kernel_rfl) (f5n2_ok a2 a3 x6 x24 v61 x20 h85) (st2 := (f5n2E a2 a3 x6 x24 v61 x20 (.norm v86)).2) rfl ?_
                  obtain ⟨x89, h90, h⟩ := bind_cases h
                  refine runK_norm cfg_ok (k := 1) (rs := [([], [(1, .call (.tup [(.pl (.agg (Journal.cells x89.1))), (.pl (.int .i64 x89.2))]) [])], [])]) (ps := []) (tds := [.frz 13]) (m := [0, 2]) (keep := [2, 7, 8, 12, 13, 14, 15]) (st' := (f5n3S a3 x6 v61 v86 x89 x20)) (by kernel_rfl) (ap (f16_ok v86 h90) an) ?_
                  obtain ⟨o119, h120, h⟩ := bind_cases h
                  cases o119 with
                  | norm =>
                    refine T.oneN (by kernel_rfl) (f5n3_ok a3 x6 v61 v86 x89 x20 h120) (st2 := (f5n3E a3 x6 v61 v86 x89 x20 .norm).2) rfl ?_
                    refine runK_norm cfg_ok (k := 0) (rs := []) (ps := []) (tds := []) (m := [0, 1]) (keep := [7, 8, 12, 13, 14, 15]) (st' := (f5n5S x6 v61 v86 x89 x20)) (by kernel_rfl) an ?_
                    obtain ⟨o173, h174, h⟩ := bind_cases h
                    cases o173 with
                    | norm =>
                      refine T.oneN (by kernel_rfl) (f5n5_ok x6 v61 v86 x89 x20 h174) (st2 := (f5n5E x6 v61 v86 x89 x20 .norm).2) rfl ?_
                      obtain ⟨x177, h178, h⟩ := bind_cases h
                      rcases cond_cases h with ⟨h183, h⟩ | ⟨h183, h⟩
                      · obtain ⟨h184, h⟩ := req_cases h
                        obtain ⟨x185, h186, h⟩ := bind_cases h
                        obtain rfl := some_inj h
                        exact run_end cfg_ok (rs := [([], [(1, .call (.tup [(.pl (.sl .any 1 (x177.1.map (cInt .u8)))), (.pl (.int .i64 x177.2))]) [])], []), ([(2, true), (3, true), (6, true), (7, true), (8, true), (9, true), (10, true)], [(4, .bool true), (9, .cut 0 (Int.toNat x89.2)), (10, .call (.pl (.bool x185)) []), (11, .bool true)], [(9, .val (.pl (.sl .any 1 (((v86.take (Int.toNat x89.2)).drop 0).map (cInt .u8)))))])]) (ps := []) (tds := []) (m := []) (keep := [6]) (r := (.ret, (f5n0E a1 a2 a3 (.ret x185)).2)) (by kernel_rfl) (ap (f13_ok x89.1 h178) (ap h17 (ap h17 (ap h17 (ap h183 (ap h183 (ap h183 (ap h183 (ap (cut_hn_1_map (c := (cInt .u8)) h184) (ap (cut_hn_2 h184) (ap (cut_hn_3 h184) (ap (cut_hn_4_map (c := (cInt .u8)) h184) (ap (congrArg (fun l => AV.pl (.sl .any 1 l)) (cut_cv (xs := v86) (c := (cInt .u8)) (n := (Int.toNat x89.2)) (m := 0))) (ap h183 (ap h183 (ap (f18_ok x177.1 ((v86.take (Int.toNat x89.2)).drop 0) h186) an)))))))))))))))) rfl
                      · obtain rfl := some_inj h
                        exact run_end cfg_ok (rs := [([], [(1, .call (.tup [(.pl (.sl .any 1 (x177.1.map (cInt .u8)))), (.pl (.int .i64 x177.2))]) [])], []), ([(2, true), (3, true), (6, false), (7, false), (8, false), (9, false), (10, false)], [(4, .bool true), (11, .bool false)], [])]) (ps := []) (tds := []) (m := []) (keep := [6]) (r := (.ret, (f5n0E a1 a2 a3 (.ret false)).2)) (by kernel_rfl) (ap (f13_ok x89.1 h178) (ap h17 (ap h17 (ap h17 (ap h183 (ap h183 (ap h183 (ap h183 (ap h183 (ap h183 an)))))))))) rfl
                    | ret =>
                      obtain rfl := some_inj h
                      exact T.oneX' (by kernel_rfl) (f5n5_ok x6 v61 v86 x89 x20 h174) (tds := []) (m := []) (keep := [6]) (st2 := (f5n0E a1 a2 a3 (.ret false)).2) (by kernel_rfl) an rfl rfl
                  | ret =>
                    obtain rfl := some_inj h
                    exact T.oneX' (by kernel_rfl) (f5n3_ok a3 x6 v61 v86 x89 x20 h120) (tds := []) (m := []) (keep := [6]) (st2 := (f5n0E a1 a2 a3 (.ret false)).2) (by kernel_rfl) an rfl rfl
        · obtain rfl := some_inj h
          exact runK_end cfg_ok (k := 6) (rs := [([], [], []), ([], [(0, .call (.pl (.bool x6)) [])], []), ([(3, false), (4, false), (5, false), (8, false), (9, false)], [(1, .call (.pl (.bool x13)) []), (6, .bool false), (10, .bool false)], [(4, .val (.pl (.int .i64 (a3.length : Int))))]), ([], [(1, .call (.pl (.agg (Journal.cells x20))) [some (.box ((Journal.cells x20).map .pl))])], []), ([], [(1, .call (.tup [(.pl (.sl .any 1 (x24.1.map (cInt .u8)))), (.own 2), (.pl (.bool x24.2.1))]) [none, none, some (.row false 1 (x24.2.2.map (cInt .i64)))])], []), ([(3, true), (4, true)], [(5, .bool true)], []), ([(2, true)], [(3, .bool true)], [])]) (ps := [some false, none]) (tds := []) (m := []) (keep := [6]) (ex := .ret) (st' := (f5n0E a1 a2 a3 (.ret x24.2.1)).2) (by kernel_rfl) (ap (f11_ok h7) (ap h15 (ap h15 (ap (len_cv (xs := a3) (c := (cInt .u8))) (ap h15 (ap h15 (ap h16 (ap h16 (ap h16 (ap (f23_ok a1 h14) (ap (not_t h17) (ap (f24r1_ok a1 h21) (ap (CallS.ren (args' := [(.pl (.agg (Journal.cells x20)))]) (v' := (.tup [(.pl (.sl .any 1 (x24.1.map (cInt .u8)))), (.own 2), (.pl (.bool x24.2.1))])) (B := [none, none]) (B' := [none, none, some (.row false 1 (x24.2.2.map (cInt .i64)))]) 2 [] (f26r1_ok x20 h25) (by kernel_rfl) (by kernel_rfl) (by kernel_rfl) (by kernel_rfl) (by kernel_rfl) (by kernel_rfl)) (ap (not_f h29) (ap (not_f h29) (ap (not_f h29) (ap h17 (ap h17 an)))))))))))))))))) (fun h => nomatch h) rfl
      · obtain rfl := some_inj h
        exact runK_end cfg_ok (k := 3) (rs := [([], [], []), ([], [(0, .call (.pl (.bool x6)) [])], []), ([(3, false), (4, false), (5, false), (8, false), (9, false)], [(1, .call (.pl (.bool x13)) []), (6, .bool false), (10, .bool false)], [(4, .val (.pl (.int .i64 (a3.length : Int))))]), ([], [], [])]) (ps := [some true]) (tds := []) (m := []) (keep := [6]) (ex := .ret) (st' := (f5n0E a1 a2 a3 (.ret x6)).2) (by kernel_rfl) (ap (f11_ok h7) (ap h15 (ap h15 (ap (len_cv (xs := a3) (c := (cInt .u8))) (ap h15 (ap h15 (ap h16 (ap h16 (ap h16 (ap (f23_ok a1 h14) (ap (not_f h17) an))))))))))) (fun h => nomatch h) rfl
noncomputable def f5 (a1 : List Entry) (a2 : Int) (a3 : List Int) : Option Bool := (f5n0 a1 a2 a3).bind fun o => match o with
  | .ret v187 => some v187
theorem f5_ok (a1 : List Entry) (a2 : Int) (a3 : List Int) {r : Bool} (h : (f5 a1 a2 a3) = some r) : CallS Try.prog false 5 [(.pl (.sl .any 3 (a1.map Entry.cells))), (.pl (.int .i64 a2)), (.pl (.sl .any 1 (a3.map (cInt .u8))))] [] (.pl (.bool r)) [] := by
  unfold f5 at h
  obtain ⟨o, ho, h⟩ := bind_cases h
  cases o with
  | ret v187 =>
    obtain rfl := some_inj h
    exact CallS.plain cfg_ok (f := Try.f5) (c := c5) (by kernel_rfl) (by kernel_rfl) (by kernel_rfl) (by kernel_rfl) ((f5n0_ok a1 a2 a3 ho).mono fun r e => by subst e; exact ⟨.inl rfl, (.pl (.bool v187)), (.pl (.bool v187)), by kernel_rfl, by kernel_rfl, ((Wk.refl _) : Wk (.pl (.bool v187)) (.pl (.bool v187)))⟩)
end Go.Proofs.Ytbgjlpdeoljmiaa
