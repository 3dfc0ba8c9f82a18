/- Functions of the program, plainly, and that the machine computes them. No condition. -/
import Derived.Test.YtbgjlpdeoljmiaaX7
namespace Go.Proofs.Ytbgjlpdeoljmiaa
set_option linter.unusedVariables false
set_option linter.unusedSimpArgs false
set_option maxRecDepth 100000
open Go.RowKit
/-! ### novation/novationlaw38.JournalBack -/
noncomputable def c7 : Code := Try.f7.body.getD .skip
inductive f7n0O where
  | ret (v63 : Bool)
def f7n0E (a1 : Journal) (a2 : List Int) : f7n0O → Ex × Tr × Hp
  | .ret v63 => (.ret, mkS [(4, (.pl (.bool v63)))], [])
def f7n0S (a1 : Journal) (a2 : List Int) : Tr × Hp := (initS [(.pl (.agg (Journal.cells a1))), (.pl (.sl .any 1 (a2.map (cInt .u8))))] 0 .leaf, [])
noncomputable def f7n0 (a1 : Journal) (a2 : List Int) : Option f7n0O :=
  f11.bind fun x5 =>
  (f12 a1).bind fun x12 =>
  bif x12 then
    some (.ret x5)
  else
    bif (decide (20000 < (a2.length : Int))) then
      some (.ret x5)
    else
      bif x5 then
        (f16 a2).bind fun x19 =>
        (f13 x19.1).bind fun x23 =>
        bif (decide (x23.2 = 0)) then
          bif (decide (x19.2 < 0)) then
            some (.ret false)
          else
            bif (decide ((a2.length : Int) < x19.2)) then
              some (.ret false)
            else
              req (cutB 0 x19.2 a2.length) <|
              (f18 x23.1 ((a2.take (Int.toNat x19.2)).drop 0)).bind fun x36 =>
              bif x36 then
                (f14r1 a1).bind fun x43 =>
                (f13 (Journal.mk x43)).bind fun x45 =>
                bif (decide (x45.2 = 0)) then
                  (f16 x45.1).bind fun x53 =>
                  bif (decide (x53.2 = (x45.1.length : Int))) then
                    (f19 x53.1 a1).bind fun x59 =>
                    some (.ret x59)
                  else
                    some (.ret false)
                else
                  (f28 a1).bind fun x61 =>
                  some (.ret (decide (x61 = 8)))
              else
                some (.ret false)
        else
          some (.ret false)
      else
        some (.ret x5)
theorem f7n0_ok (a1 : Journal) (a2 : List Int) {o : f7n0O} (h : (f7n0 a1 a2) = some o) : T Try.prog Try.f7.ntmps 0 c7 (f7n0S a1 a2) (fun r => r = f7n0E a1 a2 o) := by
  unfold f7n0 at h
  obtain ⟨x5, h6, h⟩ := bind_cases h
  obtain ⟨x12, h13, h⟩ := bind_cases h
  rcases cond_cases h with ⟨h14, h⟩ | ⟨h14, h⟩
  · obtain rfl := some_inj h
    exact runK_end cfg_ok (k := 3) (rs := [([], [], []), ([], [(0, .call (.pl (.bool x5)) [])], []), ([(3, true), (4, true), (5, true)], [(1, .call (.pl (.bool x12)) []), (6, .bool true)], []), ([], [], [])]) (ps := [none]) (tds := []) (m := []) (keep := [4]) (ex := .ret) (st' := (f7n0E a1 a2 (.ret x5)).2) (by kernel_rfl) (ap (f11_ok h6) (ap h14 (ap h14 (ap h14 (ap h14 (ap (f12_ok a1 h13) an)))))) (fun h => nomatch h) rfl
  · rcases cond_cases h with ⟨h15, h⟩ | ⟨h15, h⟩
    · obtain rfl := some_inj h
      exact runK_end cfg_ok (k := 3) (rs := [([], [], []), ([], [(0, .call (.pl (.bool x5)) [])], []), ([(3, false), (4, false), (5, false), (8, true), (9, true)], [(1, .call (.pl (.bool x12)) []), (6, .bool false), (10, .bool true)], [(4, .val (.pl (.int .i64 (a2.length : Int))))]), ([], [], [])]) (ps := [none]) (tds := []) (m := []) (keep := [4]) (ex := .ret) (st' := (f7n0E a1 a2 (.ret x5)).2) (by kernel_rfl) (ap (f11_ok h6) (ap h14 (ap h14 (ap (len_cv (xs := a2) (c := (cInt .u8))) (ap h14 (ap h14 (ap h15 (ap h15 (ap h15 (ap (f12_ok a1 h13) an)))))))))) (fun h => nomatch h) rfl
    · rcases cond_cases h with ⟨h16, h⟩ | ⟨h16, h⟩
      · obtain ⟨x19, h20, h⟩ := bind_cases h
        obtain ⟨x23, h24, h⟩ := bind_cases h
        rcases cond_cases h with ⟨h32, h⟩ | ⟨h32, h⟩
        · rcases cond_cases h with ⟨h33, h⟩ | ⟨h33, h⟩
          · obtain rfl := some_inj h
            exact runK_end cfg_ok (k := 6) (rs := [([], [], []), ([], [(0, .call (.pl (.bool x5)) [])], []), ([(3, false), (4, false), (5, false), (8, false), (9, false)], [(1, .call (.pl (.bool x12)) []), (6, .bool false), (10, .bool false)], [(4, .val (.pl (.int .i64 (a2.length : Int))))]), ([], [(1, .call (.tup [(.pl (.agg (Journal.cells x19.1))), (.pl (.int .i64 x19.2))]) [])], []), ([], [(1, .call (.tup [(.pl (.sl .any 1 (x23.1.map (cInt .u8)))), (.pl (.int .i64 x23.2))]) [])], []), ([(3, false), (4, false), (7, true), (8, true), (9, true), (10, true)], [(5, .bool false), (11, .bool true)], []), ([], [], [])]) (ps := [some false, none]) (tds := []) (m := []) (keep := [4]) (ex := .ret) (st' := (f7n0E a1 a2 (.ret false)).2) (by kernel_rfl) (ap (f11_ok h6) (ap h14 (ap h14 (ap (len_cv (xs := a2) (c := (cInt .u8))) (ap h14 (ap h14 (ap h15 (ap h15 (ap h15 (ap (f12_ok a1 h13) (ap (not_t h16) (ap (f16_ok a2 h20) (ap (f13_ok x19.1 h24) (ap (not_t h32) (ap (not_t h32) (ap (not_t h32) (ap h33 (ap h33 (ap h33 (ap h33 (ap h33 an))))))))))))))))))))) (fun h => nomatch h) rfl
          · rcases cond_cases h with ⟨h34, h⟩ | ⟨h34, h⟩
            · obtain rfl := some_inj h
              exact runK_end cfg_ok (k := 6) (rs := [([], [], []), ([], [(0, .call (.pl (.bool x5)) [])], []), ([(3, false), (4, false), (5, false), (8, false), (9, false)], [(1, .call (.pl (.bool x12)) []), (6, .bool false), (10, .bool false)], [(4, .val (.pl (.int .i64 (a2.length : Int))))]), ([], [(1, .call (.tup [(.pl (.agg (Journal.cells x19.1))), (.pl (.int .i64 x19.2))]) [])], []), ([], [(1, .call (.tup [(.pl (.sl .any 1 (x23.1.map (cInt .u8)))), (.pl (.int .i64 x23.2))]) [])], []), ([(3, false), (4, false), (7, false), (8, false), (9, false), (10, false), (13, true), (14, true), (15, true), (16, true), (17, true), (18, true)], [(5, .bool false), (11, .bool false), (19, .bool true)], [(9, .val (.pl (.int .i64 (a2.length : Int))))]), ([], [], [])]) (ps := [some false, none]) (tds := []) (m := []) (keep := [4]) (ex := .ret) (st' := (f7n0E a1 a2 (.ret false)).2) (by kernel_rfl) (ap (f11_ok h6) (ap h14 (ap h14 (ap (len_cv (xs := a2) (c := (cInt .u8))) (ap h14 (ap h14 (ap h15 (ap h15 (ap h15 (ap (f12_ok a1 h13) (ap (not_t h16) (ap (f16_ok a2 h20) (ap (f13_ok x19.1 h24) (ap (not_t h32) (ap (not_t h32) (ap (not_t h32) (ap h33 (ap h33 (ap h33 (ap (len_cv (xs := a2) (c := (cInt .u8))) (ap h33 (ap h33 (ap h34 (ap h34 (ap h34 (ap h34 (ap h34 (ap h34 (ap h34 an))))))))))))))))))))))))))))) (fun h => nomatch h) rfl
            · obtain ⟨h35, h⟩ := req_cases h
              obtain ⟨x36, h37, h⟩ := bind_cases h
              rcases cond_cases h with ⟨h38, h⟩ | ⟨h38, h⟩
              · obtain ⟨x43, h44, h⟩ := bind_cases h
                obtain ⟨x45, h46, h⟩ := bind_cases h
                rcases cond_cases h with ⟨h50, h⟩ | ⟨h50, h⟩
                · obtain ⟨x53, h54, h⟩ := bind_cases h
                  rcases cond_cases h with ⟨h58, h⟩ | ⟨h58, h⟩
                  · obtain ⟨x59, h60, h⟩ := bind_cases h
                    obtain rfl := some_inj h
                    exact run_end cfg_ok (rs := [([], [], []), ([], [(0, .call (.pl (.bool x5)) [])], []), ([(3, false), (4, false), (5, false), (8, false), (9, false)], [(1, .call (.pl (.bool x12)) []), (6, .bool false), (10, .bool false)], [(4, .val (.pl (.int .i64 (a2.length : Int))))]), ([], [(1, .call (.tup [(.pl (.agg (Journal.cells x19.1))), (.pl (.int .i64 x19.2))]) [])], []), ([], [(1, .call (.tup [(.pl (.sl .any 1 (x23.1.map (cInt .u8)))), (.pl (.int .i64 x23.2))]) [])], []), ([(3, false), (4, false), (7, false), (8, false), (9, false), (10, false), (13, false), (14, false), (15, false), (16, false), (17, false), (18, false)], [(5, .bool false), (11, .bool false), (16, .cut 0 (Int.toNat x19.2)), (17, .call (.pl (.bool x36)) []), (19, .bool false)], [(9, .val (.pl (.int .i64 (a2.length : Int)))), (16, .val (.pl (.sl .any 1 (((a2.take (Int.toNat x19.2)).drop 0).map (cInt .u8)))))]), ([], [(1, .call (.agg [(.own 3)]) [none, none, some (.box [(.own 3)]), some (.row false 3 (x43.map JournalRecord.cells))]), (2, .call (.tup [(.pl (.sl .any 1 (x45.1.map (cInt .u8)))), (.pl (.int .i64 x45.2))]) [])], []), ([], [], []), ([], [(1, .call (.tup [(.pl (.agg (Journal.cells x53.1))), (.pl (.int .i64 x53.2))]) [])], []), ([(2, true), (3, true), (4, true), (5, true), (8, true), (9, true), (10, true)], [(6, .bool true), (10, .call (.pl (.bool x59)) []), (11, .bool true)], [(4, .val (.pl (.int .i64 (x45.1.length : Int))))])]) (ps := [some false, some false, some false]) (tds := []) (m := []) (keep := [4]) (r := (.ret, (f7n0E a1 a2 (.ret x59)).2)) (by kernel_rfl) (ap (f11_ok h6) (ap h14 (ap h14 (ap (len_cv (xs := a2) (c := (cInt .u8))) (ap h14 (ap h14 (ap h15 (ap h15 (ap h15 (ap (f12_ok a1 h13) (ap (not_t h16) (ap (f16_ok a2 h20) (ap (f13_ok x19.1 h24) (ap (not_t h32) (ap (not_t h32) (ap (not_t h32) (ap h33 (ap h33 (ap h33 (ap (len_cv (xs := a2) (c := (cInt .u8))) (ap h33 (ap h33 (ap h34 (ap h34 (ap h34 (ap h34 (ap (cut_hn_1_map (c := (cInt .u8)) h35) (ap (cut_hn_2 h35) (ap (cut_hn_3 h35) (ap (cut_hn_4_map (c := (cInt .u8)) h35) (ap (congrArg (fun l => AV.pl (.sl .any 1 l)) (cut_cv (xs := a2) (c := (cInt .u8)) (n := (Int.toNat x19.2)) (m := 0))) (ap h34 (ap h34 (ap h34 (ap (f18_ok x23.1 ((a2.take (Int.toNat x19.2)).drop 0) h37) (ap (not_t h38) (ap (CallS.ren (args' := [(.pl (.agg (Journal.cells a1)))]) (v' := (.agg [(.own 3)])) (B := [none, none]) (B' := [none, none, some (.box [(.own 3)]), some (.row false 3 (x43.map JournalRecord.cells))]) 2 [] (f14r1_ok a1 h44) (by kernel_rfl) (by kernel_rfl) (by kernel_rfl) (by kernel_rfl) (by kernel_rfl) (by kernel_rfl)) (ap (f13_ok (Journal.mk x43) h46) (ap (not_t h50) (ap (f16_ok x45.1 h54) (ap h16 (ap h16 (ap h16 (ap (len_cv (xs := x45.1) (c := (cInt .u8))) (ap h16 (ap h16 (ap h58 (ap h58 (ap h58 (ap h58 (ap (f19_ok x53.1 a1 h60) an))))))))))))))))))))))))))))))))))))))))))))))))))) rfl
                  · obtain rfl := some_inj h
                    exact run_end cfg_ok (rs := [([], [], []), ([], [(0, .call (.pl (.bool x5)) [])], []), ([(3, false), (4, false), (5, false), (8, false), (9, false)], [(1, .call (.pl (.bool x12)) []), (6, .bool false), (10, .bool false)], [(4, .val (.pl (.int .i64 (a2.length : Int))))]), ([], [(1, .call (.tup [(.pl (.agg (Journal.cells x19.1))), (.pl (.int .i64 x19.2))]) [])], []), ([], [(1, .call (.tup [(.pl (.sl .any 1 (x23.1.map (cInt .u8)))), (.pl (.int .i64 x23.2))]) [])], []), ([(3, false), (4, false), (7, false), (8, false), (9, false), (10, false), (13, false), (14, false), (15, false), (16, false), (17, false), (18, false)], [(5, .bool false), (11, .bool false), (16, .cut 0 (Int.toNat x19.2)), (17, .call (.pl (.bool x36)) []), (19, .bool false)], [(9, .val (.pl (.int .i64 (a2.length : Int)))), (16, .val (.pl (.sl .any 1 (((a2.take (Int.toNat x19.2)).drop 0).map (cInt .u8)))))]), ([], [(1, .call (.agg [(.own 3)]) [none, none, some (.box [(.own 3)]), some (.row false 3 (x43.map JournalRecord.cells))]), (2, .call (.tup [(.pl (.sl .any 1 (x45.1.map (cInt .u8)))), (.pl (.int .i64 x45.2))]) [])], []), ([], [], []), ([], [(1, .call (.tup [(.pl (.agg (Journal.cells x53.1))), (.pl (.int .i64 x53.2))]) [])], []), ([(2, true), (3, true), (4, true), (5, true), (8, false), (9, false), (10, false)], [(6, .bool true), (11, .bool false)], [(4, .val (.pl (.int .i64 (x45.1.length : Int))))])]) (ps := [some false, some false, some false]) (tds := []) (m := []) (keep := [4]) (r := (.ret, (f7n0E a1 a2 (.ret false)).2)) (by kernel_rfl) (ap (f11_ok h6) (ap h14 (ap h14 (ap (len_cv (xs := a2) (c := (cInt .u8))) (ap h14 (ap h14 (ap h15 (ap h15 (ap h15 (ap (f12_ok a1 h13) (ap (not_t h16) (ap (f16_ok a2 h20) (ap (f13_ok x19.1 h24) (ap (not_t h32) (ap (not_t h32) (ap (not_t h32) (ap h33 (ap h33 (ap h33 (ap (len_cv (xs := a2) (c := (cInt .u8))) (ap h33 (ap h33 (ap h34 (ap h34 (ap h34 (ap h34 (ap (cut_hn_1_map (c := (cInt .u8)) h35) (ap (cut_hn_2 h35) (ap (cut_hn_3 h35) (ap (cut_hn_4_map (c := (cInt .u8)) h35) (ap (congrArg (fun l => AV.pl (.sl .any 1 l)) (cut_cv (xs := a2) (c := (cInt .u8)) (n := (Int.toNat x19.2)) (m := 0))) (ap h34 (ap h34 (ap h34 (ap (f18_ok x23.1 ((a2.take (Int.toNat x19.2)).drop 0) h37) (ap (not_t h38) (ap (CallS.ren (args' := [(.pl (.agg (Journal.cells a1)))]) (v' := (.agg [(.own 3)])) (B := [none, none]) (B' := [none, none, some (.box [(.own 3)]), some (.row false 3 (x43.map JournalRecord.cells))]) 2 [] (f14r1_ok a1 h44) (by kernel_rfl) (by kernel_rfl) (by kernel_rfl) (by kernel_rfl) (by kernel_rfl) (by kernel_rfl)) (ap (f13_ok (Journal.mk x43) h46) (ap (not_t h50) (ap (f16_ok x45.1 h54) (ap h16 (ap h16 (ap h16 (ap (len_cv (xs := x45.1) (c := (cInt .u8))) (ap h16 (ap h16 (ap h58 (ap h58 (ap h58 (ap h58 an)))))))))))))))))))))))))))))))))))))))))))))))))) rfl
                · obtain ⟨x61, h62, h⟩ := bind_cases h
                  obtain rfl := some_inj h
                  exact runK_end cfg_ok (k := 8) (rs := [([], [], []), ([], [(0, .call (.pl (.bool x5)) [])], []), ([(3, false), (4, false), (5, false), (8, false), (9, false)], [(1, .call (.pl (.bool x12)) []), (6, .bool false), (10, .bool false)], [(4, .val (.pl (.int .i64 (a2.length : Int))))]), ([], [(1, .call (.tup [(.pl (.agg (Journal.cells x19.1))), (.pl (.int .i64 x19.2))]) [])], []), ([], [(1, .call (.tup [(.pl (.sl .any 1 (x23.1.map (cInt .u8)))), (.pl (.int .i64 x23.2))]) [])], []), ([(3, false), (4, false), (7, false), (8, false), (9, false), (10, false), (13, false), (14, false), (15, false), (16, false), (17, false), (18, false)], [(5, .bool false), (11, .bool false), (16, .cut 0 (Int.toNat x19.2)), (17, .call (.pl (.bool x36)) []), (19, .bool false)], [(9, .val (.pl (.int .i64 (a2.length : Int)))), (16, .val (.pl (.sl .any 1 (((a2.take (Int.toNat x19.2)).drop 0).map (cInt .u8)))))]), ([], [(1, .call (.agg [(.own 3)]) [none, none, some (.box [(.own 3)]), some (.row false 3 (x43.map JournalRecord.cells))]), (2, .call (.tup [(.pl (.sl .any 1 (x45.1.map (cInt .u8)))), (.pl (.int .i64 x45.2))]) [])], []), ([], [], []), ([(2, true), (3, true), (4, true)], [(3, .call (.pl (.int .i64 x61)) []), (5, .bool true)], [])]) (ps := [some false, some false, some true]) (tds := []) (m := []) (keep := [4]) (ex := .ret) (st' := (f7n0E a1 a2 (.ret (decide (x61 = 8)))).2) (by kernel_rfl) (ap (f11_ok h6) (ap h14 (ap h14 (ap (len_cv (xs := a2) (c := (cInt .u8))) (ap h14 (ap h14 (ap h15 (ap h15 (ap h15 (ap (f12_ok a1 h13) (ap (not_t h16) (ap (f16_ok a2 h20) (ap (f13_ok x19.1 h24) (ap (not_t h32) (ap (not_t h32) (ap (not_t h32) (ap h33 (ap h33 (ap h33 (ap (len_cv (xs := a2) (c := (cInt .u8))) (ap h33 (ap h33 (ap h34 (ap h34 (ap h34 (ap h34 (ap (cut_hn_1_map (c := (cInt .u8)) h35) (ap (cut_hn_2 h35) (ap (cut_hn_3 h35) (ap (cut_hn_4_map (c := (cInt .u8)) h35) (ap (congrArg (fun l => AV.pl (.sl .any 1 l)) (cut_cv (xs := a2) (c := (cInt .u8)) (n := (Int.toNat x19.2)) (m := 0))) (ap h34 (ap h34 (ap h34 (ap (f18_ok x23.1 ((a2.take (Int.toNat x19.2)).drop 0) h37) (ap (not_t h38) (ap (CallS.ren (args' := [(.pl (.agg (Journal.cells a1)))]) (v' := (.agg [(.own 3)])) (B := [none, none]) (B' := [none, none, some (.box [(.own 3)]), some (.row false 3 (x43.map JournalRecord.cells))]) 2 [] (f14r1_ok a1 h44) (by kernel_rfl) (by kernel_rfl) (by kernel_rfl) (by kernel_rfl) (by kernel_rfl) (by kernel_rfl)) (ap (f13_ok (Journal.mk x43) h46) (ap (not_f h50) (ap h16 (ap h16 (ap h16 (ap h16 (ap (f28_ok a1 h62) an)))))))))))))))))))))))))))))))))))))))))))) (fun h => nomatch h) rfl
              · obtain rfl := some_inj h
                exact runK_end cfg_ok (k := 6) (rs := [([], [], []), ([], [(0, .call (.pl (.bool x5)) [])], []), ([(3, false), (4, false), (5, false), (8, false), (9, false)], [(1, .call (.pl (.bool x12)) []), (6, .bool false), (10, .bool false)], [(4, .val (.pl (.int .i64 (a2.length : Int))))]), ([], [(1, .call (.tup [(.pl (.agg (Journal.cells x19.1))), (.pl (.int .i64 x19.2))]) [])], []), ([], [(1, .call (.tup [(.pl (.sl .any 1 (x23.1.map (cInt .u8)))), (.pl (.int .i64 x23.2))]) [])], []), ([(3, false), (4, false), (7, false), (8, false), (9, false), (10, false), (13, false), (14, false), (15, false), (16, false), (17, false), (18, false)], [(5, .bool false), (11, .bool false), (16, .cut 0 (Int.toNat x19.2)), (17, .call (.pl (.bool x36)) []), (19, .bool false)], [(9, .val (.pl (.int .i64 (a2.length : Int)))), (16, .val (.pl (.sl .any 1 (((a2.take (Int.toNat x19.2)).drop 0).map (cInt .u8)))))]), ([], [], [])]) (ps := [some false, some true]) (tds := []) (m := []) (keep := [4]) (ex := .ret) (st' := (f7n0E a1 a2 (.ret false)).2) (by kernel_rfl) (ap (f11_ok h6) (ap h14 (ap h14 (ap (len_cv (xs := a2) (c := (cInt .u8))) (ap h14 (ap h14 (ap h15 (ap h15 (ap h15 (ap (f12_ok a1 h13) (ap (not_t h16) (ap (f16_ok a2 h20) (ap (f13_ok x19.1 h24) (ap (not_t h32) (ap (not_t h32) (ap (not_t h32) (ap h33 (ap h33 (ap h33 (ap (len_cv (xs := a2) (c := (cInt .u8))) (ap h33 (ap h33 (ap h34 (ap h34 (ap h34 (ap h34 (ap (cut_hn_1_map (c := (cInt .u8)) h35) (ap (cut_hn_2 h35) (ap (cut_hn_3 h35) (ap (cut_hn_4_map (c := (cInt .u8)) h35) (ap (congrArg (fun l => AV.pl (.sl .any 1 l)) (cut_cv (xs := a2) (c := (cInt .u8)) (n := (Int.toNat x19.2)) (m := 0))) (ap h34 (ap h34 (ap h34 (ap (f18_ok x23.1 ((a2.take (Int.toNat x19.2)).drop 0) h37) (ap (not_f h38) an)))))))))))))))))))))))))))))))))))) (fun h => nomatch h) rfl
        · obtain rfl := some_inj h
          exact runK_end cfg_ok (k := 6) (rs := [([], [], []), ([], [(0, .call (.pl (.bool x5)) [])], []), ([(3, false), (4, false), (5, false), (8, false), (9, false)], [(1, .call (.pl (.bool x12)) []), (6, .bool false), (10, .bool false)], [(4, .val (.pl (.int .i64 (a2.length : Int))))]), ([], [(1, .call (.tup [(.pl (.agg (Journal.cells x19.1))), (.pl (.int .i64 x19.2))]) [])], []), ([], [(1, .call (.tup [(.pl (.sl .any 1 (x23.1.map (cInt .u8)))), (.pl (.int .i64 x23.2))]) [])], []), ([(3, true), (4, true)], [(5, .bool true)], []), ([], [], [])]) (ps := [some false, none]) (tds := []) (m := []) (keep := [4]) (ex := .ret) (st' := (f7n0E a1 a2 (.ret false)).2) (by kernel_rfl) (ap (f11_ok h6) (ap h14 (ap h14 (ap (len_cv (xs := a2) (c := (cInt .u8))) (ap h14 (ap h14 (ap h15 (ap h15 (ap h15 (ap (f12_ok a1 h13) (ap (not_t h16) (ap (f16_ok a2 h20) (ap (f13_ok x19.1 h24) (ap (not_f h32) (ap (not_f h32) (ap (not_f h32) an)))))))))))))))) (fun h => nomatch h) rfl
      · obtain rfl := some_inj h
        exact runK_end cfg_ok (k := 3) (rs := [([], [], []), ([], [(0, .call (.pl (.bool x5)) [])], []), ([(3, false), (4, false), (5, false), (8, false), (9, false)], [(1, .call (.pl (.bool x12)) []), (6, .bool false), (10, .bool false)], [(4, .val (.pl (.int .i64 (a2.length : Int))))]), ([], [], [])]) (ps := [some true]) (tds := []) (m := []) (keep := [4]) (ex := .ret) (st' := (f7n0E a1 a2 (.ret x5)).2) (by kernel_rfl) (ap (f11_ok h6) (ap h14 (ap h14 (ap (len_cv (xs := a2) (c := (cInt .u8))) (ap h14 (ap h14 (ap h15 (ap h15 (ap h15 (ap (f12_ok a1 h13) (ap (not_f h16) an))))))))))) (fun h => nomatch h) rfl
noncomputable def f7 (a1 : Journal) (a2 : List Int) : Option Bool := (f7n0 a1 a2).bind fun o => match o with
  | .ret v63 => some v63
theorem f7_ok (a1 : Journal) (a2 : List Int) {r : Bool} (h : (f7 a1 a2) = some r) : CallS Try.prog false 7 [(.pl (.agg (Journal.cells a1))), (.pl (.sl .any 1 (a2.map (cInt .u8))))] [] (.pl (.bool r)) [] := by
  unfold f7 at h
  obtain ⟨o, ho, h⟩ := bind_cases h
  cases o with
  | ret v63 =>
    obtain rfl := some_inj h
    exact CallS.plain cfg_ok (f := Try.f7) (c := c7) (by kernel_rfl) (by kernel_rfl) (by kernel_rfl) (by kernel_rfl) ((f7n0_ok a1 a2 ho).mono fun r e => by subst e; exact ⟨.inl rfl, (.pl (.bool v63)), (.pl (.bool v63)), by kernel_rfl, by kernel_rfl, ((Wk.refl _) : Wk (.pl (.bool v63)) (.pl (.bool v63)))⟩)
end Go.Proofs.Ytbgjlpdeoljmiaa
