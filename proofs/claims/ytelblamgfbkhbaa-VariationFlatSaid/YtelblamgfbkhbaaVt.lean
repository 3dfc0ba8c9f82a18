/- Several texts in one. No condition. -/
import Derived.Test.YtelblamgfbkhbaaA1
namespace Go.Proofs.Ytelblamgfbkhbaa
set_option linter.unusedVariables false
set_option linter.unusedSimpArgs false
set_option maxRecDepth 100000
open Go.RowKit
noncomputable def c16 : Code := Try.f16.body.getD .skip
inductive f16n0O where
  | ret (v81 : Int) (v82 : Int) (v83 : List VariationPosition)
def f16n0E (a1 : Variation) (a2 : ByteArray) (a3 : ByteArray) (a4 : ByteArray) (a5 : Int) (a6 : Int) : f16n0O → Ex × Tr × Hp
  | .ret v81 v82 v83 => (.ret, mkS [(12, (.bp 0 0)), (13, (.pl (.int .i64 v81)))], [some (.box [(.pl (.int .i64 v82)), (.own 1)]), some (.row false 4 (v83.map VariationPosition.cells))])
def f16n0S (a1 : Variation) (a2 : ByteArray) (a3 : ByteArray) (a4 : ByteArray) (a5 : Int) (a6 : Int) : Tr × Hp := (initS [(.pl (.agg (Variation.cells a1))), (.pl (.str a2)), (.pl (.str a3)), (.pl (.str a4)), (.pl (.int .i64 a5)), (.pl (.int .i64 a6))] 0 .leaf, [])
noncomputable def f16n0 (a1 : Variation) (a2 : ByteArray) (a3 : ByteArray) (a4 : ByteArray) (a5 : Int) (a6 : Int) : Option f16n0O :=
  (f26 a1).bind fun x10 =>
  bif (decide (x10 = 0)) then
    (f44 a2).bind fun x28 =>
    bif x28 then
      (f44 a3).bind fun x31 =>
      bif x31 then
        bif (seq a2 a3) then
          some (.ret 2 0 [])
        else
          (f45 a4).bind fun x35 =>
          bif x35 then
            bif (decide (a5 < 1)) then
              some (.ret 2 0 [])
            else
              bif (decide (1048576 < a5)) then
                some (.ret 2 0 [])
              else
                (f37 a6 536870912).bind fun x40 =>
                bif x40 then
                  (f47r1 a1.Positions).bind fun x47 =>
                  (f46r1 a2 a4 a5 (wr64 (a5 * a6)) x47).bind fun x49 =>
                  (f46r1 a3 a4 (wr64 (0 - a5)) (wr64 ((wr64 (0 - a5)) * a6)) x49.1).bind fun x53 =>
                  (f37 x53.2.Quantity 1048576).bind fun x68 =>
                  bif x68 then
                    (f37 x49.2.Quantity 1048576).bind fun x71 =>
                    bif x71 then
                      (f37 x53.2.Basis 1125899906842624).bind fun x74 =>
                      bif x74 then
                        (f37 x49.2.Basis 1125899906842624).bind fun x77 =>
                        bif x77 then
                          bif (decide (200 < (x53.1.length : Int))) then
                            some (.ret 22 0 [])
                          else
                            some (.ret 0 a1.Day x53.1)
                        else
                          some (.ret 14 0 [])
                      else
                        some (.ret 14 0 [])
                    else
                      some (.ret 52 0 [])
                  else
                    some (.ret 52 0 [])
                else
                  some (.ret 2 0 [])
          else
            some (.ret 2 0 [])
      else
        some (.ret 2 0 [])
    else
      some (.ret 2 0 [])
  else
    some (.ret x10 0 [])
theorem f16n0_ok (a1 : Variation) (a2 : ByteArray) (a3 : ByteArray) (a4 : ByteArray) (a5 : Int) (a6 : Int) {o : f16n0O} (h : (f16n0 a1 a2 a3 a4 a5 a6) = some o) : T Try.prog Try.f16.ntmps 0 c16 (f16n0S a1 a2 a3 a4 a5 a6) (fun r => r = f16n0E a1 a2 a3 a4 a5 a6 o) := by
  unfold f16n0 at h
  obtain ⟨x10, h11, h⟩ := bind_cases h
  rcases cond_cases h with ⟨h12, h⟩ | ⟨h12, h⟩
  · obtain ⟨x28, h29, h⟩ := bind_cases h
    rcases cond_cases h with ⟨h30, h⟩ | ⟨h30, h⟩
    · obtain ⟨x31, h32, h⟩ := bind_cases h
      rcases cond_cases h with ⟨h33, h⟩ | ⟨h33, h⟩
      · rcases cond_cases h with ⟨h34, h⟩ | ⟨h34, h⟩
        · obtain rfl := some_inj h
          exact runK_end cfg_ok (k := 3) (rs := [([], [], []), ([], [(1, .call (.pl (.int .i64 x10)) [])], []), ([], [], []), ([(4, false), (5, false), (6, false), (9, false), (10, false), (11, false), (14, true), (15, true), (16, true)], [(1, .call (.pl (.bool x28)) []), (5, .call (.pl (.bool x31)) []), (7, .bool false), (12, .bool false), (17, .bool true)], []), ([], [], [])]) (ps := [some false, none]) (tds := [.matC 1 1 4]) (m := [1, 2]) (keep := [12, 13]) (ex := .ret) (st' := (f16n0E a1 a2 a3 a4 a5 a6 (.ret 2 0 [])).2) (by kernel_rfl) (ap (f26_ok a1 h11) (ap (not_t h12) (ap (not_t h30) (ap (not_t h30) (ap (not_t h30) (ap (not_t h30) (ap (not_t h33) (ap (not_t h33) (ap (not_t h33) (ap (not_t h33) (ap h34 (ap h34 (ap h34 (ap h34 (ap (f44_ok a2 h29) (ap (f44_ok a3 h32) an)))))))))))))))) (fun h => nomatch h) rfl
        · obtain ⟨x35, h36, h⟩ := bind_cases h
          rcases cond_cases h with ⟨h37, h⟩ | ⟨h37, h⟩
          · rcases cond_cases h with ⟨h38, h⟩ | ⟨h38, h⟩
            · obtain rfl := some_inj h
              exact runK_end cfg_ok (k := 3) (rs := [([], [], []), ([], [(1, .call (.pl (.int .i64 x10)) [])], []), ([], [], []), ([(4, false), (5, false), (6, false), (9, false), (10, false), (11, false), (14, false), (15, false), (16, false), (19, false), (20, false), (23, true), (24, true)], [(1, .call (.pl (.bool x28)) []), (5, .call (.pl (.bool x31)) []), (7, .bool false), (12, .bool false), (15, .call (.pl (.bool x35)) []), (17, .bool false), (21, .bool false), (25, .bool true)], []), ([], [], [])]) (ps := [some false, none]) (tds := [.matC 1 1 4]) (m := [1, 2]) (keep := [12, 13]) (ex := .ret) (st' := (f16n0E a1 a2 a3 a4 a5 a6 (.ret 2 0 [])).2) (by kernel_rfl) (ap (f26_ok a1 h11) (ap (not_t h12) (ap (not_t h30) (ap (not_t h30) (ap (not_t h30) (ap (not_t h30) (ap (not_t h33) (ap (not_t h33) (ap (not_t h33) (ap (not_t h33) (ap h34 (ap h34 (ap h34 (ap h34 (ap (not_t h37) (ap (not_t h37) (ap (not_t h37) (ap h38 (ap h38 (ap h38 (ap (f44_ok a2 h29) (ap (f44_ok a3 h32) (ap (f45_ok a4 h36) an))))))))))))))))))))))) (fun h => nomatch h) rfl
            · rcases cond_cases h with ⟨h39, h⟩ | ⟨h39, h⟩
              · obtain rfl := some_inj h
                exact runK_end cfg_ok (k := 3) (rs := [([], [], []), ([], [(1, .call (.pl (.int .i64 x10)) [])], []), ([], [], []), ([(4, false), (5, false), (6, false), (9, false), (10, false), (11, false), (14, false), (15, false), (16, false), (19, false), (20, false), (23, false), (24, false), (27, true), (28, true), (29, true)], [(1, .call (.pl (.bool x28)) []), (5, .call (.pl (.bool x31)) []), (7, .bool false), (12, .bool false), (15, .call (.pl (.bool x35)) []), (17, .bool false), (21, .bool false), (25, .bool false), (30, .bool true)], []), ([], [], [])]) (ps := [some false, none]) (tds := [.matC 1 1 4]) (m := [1, 2]) (keep := [12, 13]) (ex := .ret) (st' := (f16n0E a1 a2 a3 a4 a5 a6 (.ret 2 0 [])).2) (by kernel_rfl) (ap (f26_ok a1 h11) (ap (not_t h12) (ap (not_t h30) (ap (not_t h30) (ap (not_t h30) (ap (not_t h30) (ap (not_t h33) (ap (not_t h33) (ap (not_t h33) (ap (not_t h33) (ap h34 (ap h34 (ap h34 (ap h34 (ap (not_t h37) (ap (not_t h37) (ap (not_t h37) (ap h38 (ap h38 (ap h38 (ap h39 (ap h39 (ap h39 (ap h39 (ap (f44_ok a2 h29) (ap (f44_ok a3 h32) (ap (f45_ok a4 h36) an))))))))))))))))))))))))))) (fun h => nomatch h) rfl
              · obtain ⟨x40, h41, h⟩ := bind_cases h
                rcases cond_cases h with ⟨h42, h⟩ | ⟨h42, h⟩
                · obtain ⟨x47, h48, h⟩ := bind_cases h
                  obtain ⟨x49, h50, h⟩ := bind_cases h
                  obtain ⟨x53, h54, h⟩ := bind_cases h
                  obtain ⟨x68, h69, h⟩ := bind_cases h
                  rcases cond_cases h with ⟨h70, h⟩ | ⟨h70, h⟩
                  · obtain ⟨x71, h72, h⟩ := bind_cases h
                    rcases cond_cases h with ⟨h73, h⟩ | ⟨h73, h⟩
                    · obtain ⟨x74, h75, h⟩ := bind_cases h
                      rcases cond_cases h with ⟨h76, h⟩ | ⟨h76, h⟩
                      · obtain ⟨x77, h78, h⟩ := bind_cases h
                        rcases cond_cases h with ⟨h79, h⟩ | ⟨h79, h⟩
                        · rcases cond_cases h with ⟨h80, h⟩ | ⟨h80, h⟩
                          · obtain rfl := some_inj h
                            exact runK_end cfg_ok (k := 6) (rs := [([], [], []), ([], [(1, .call (.pl (.int .i64 x10)) [])], []), ([], [], []), ([(4, false), (5, false), (6, false), (9, false), (10, false), (11, false), (14, false), (15, false), (16, false), (19, false), (20, false), (23, false), (24, false), (27, false), (28, false), (29, false)], [(1, .call (.pl (.bool x28)) []), (5, .call (.pl (.bool x31)) []), (7, .bool false), (12, .bool false), (15, .call (.pl (.bool x35)) []), (17, .bool false), (21, .bool false), (25, .bool false), (28, .call (.pl (.bool x40)) []), (30, .bool false)], []), ([], [(2, .call (.own 2) [none, none, some (.row false 4 (x47.map VariationPosition.cells))]), (9, .call (.tup [(.own 3), (.pl (.agg (VariationPosition.cells x49.2)))]) [none, none, none, some (.row false 4 (x49.1.map VariationPosition.cells)), some (.box ((VariationPosition.cells x49.2).map .pl))])], []), ([], [(9, .call (.tup [(.own 6), (.pl (.agg (VariationPosition.cells x53.2)))]) [none, none, none, none, none, none, some (.row false 4 (x53.1.map VariationPosition.cells)), some (.box ((VariationPosition.cells x53.2).map .pl))])], []), ([(5, false), (6, false), (7, false), (8, false)], [(2, .call (.pl (.bool x68)) []), (7, .call (.pl (.bool x71)) []), (9, .bool false)], []), ([(5, false), (6, false), (7, false), (8, false)], [(2, .call (.pl (.bool x74)) []), (7, .call (.pl (.bool x77)) []), (9, .bool false)], []), ([], [], [(1, .val (.pl (.int .i64 (x53.1.length : Int))))]), ([], [], [])]) (ps := [some false, some false, some false, some false, some true]) (tds := [.matC 1 1 4]) (m := [1, 9]) (keep := [12, 13]) (ex := .ret) (st' := (f16n0E a1 a2 a3 a4 a5 a6 (.ret 22 0 [])).2) (by kernel_rfl) (ap (f26_ok a1 h11) (ap (not_t h12) (ap (not_t h30) (ap (not_t h30) (ap (not_t h30) (ap (not_t h30) (ap (not_t h33) (ap (not_t h33) (ap (not_t h33) (ap (not_t h33) (ap h34 (ap h34 (ap h34 (ap h34 (ap (not_t h37) (ap (not_t h37) (ap (not_t h37) (ap h38 (ap h38 (ap h38 (ap h39 (ap h39 (ap h39 (ap h39 (ap (f44_ok a2 h29) (ap (f44_ok a3 h32) (ap (f45_ok a4 h36) (ap (f37_ok a6 536870912 h41) (ap (not_t h42) (ap (CallS.ren (args' := [(.pl (.sl .any 4 (a1.Positions.map VariationPosition.cells)))]) (v' := (.own 2)) (B := [none, none]) (B' := [none, none, some (.row false 4 (x47.map VariationPosition.cells))]) 2 [] (f47r1_ok a1.Positions h48) (by kernel_rfl) (by kernel_rfl) (by kernel_rfl) (by kernel_rfl) (by kernel_rfl) (by kernel_rfl)) (ap (CallS.ren (args' := [(.own 2), (.pl (.str a2)), (.pl (.str a4)), (.pl (.int .i64 a5)), (.pl (.int .i64 (wr64 (a5 * a6))))]) (v' := (.tup [(.own 3), (.pl (.agg (VariationPosition.cells x49.2)))])) (B := [none, none, some (.row false 4 (x47.map VariationPosition.cells))]) (B' := [none, none, none, some (.row false 4 (x49.1.map VariationPosition.cells)), some (.box ((VariationPosition.cells x49.2).map .pl))]) 3 [2] (f46r1_ok a2 a4 a5 (wr64 (a5 * a6)) x47 h50) (by kernel_rfl) (by kernel_rfl) (by kernel_rfl) (by kernel_rfl) (by kernel_rfl) (by kernel_rfl)) (ap (CallS.ren (args' := [(.own 3), (.pl (.str a3)), (.pl (.str a4)), (.pl (.int .i64 (wr64 (0 - a5)))), (.pl (.int .i64 (wr64 ((wr64 (0 - a5)) * a6))))]) (v' := (.tup [(.own 6), (.pl (.agg (VariationPosition.cells x53.2)))])) (B := [none, none, none, some (.row false 4 (x49.1.map VariationPosition.cells)), none, none]) (B' := [none, none, none, none, none, none, some (.row false 4 (x53.1.map VariationPosition.cells)), some (.box ((VariationPosition.cells x53.2).map .pl))]) 6 [3] (f46r1_ok a3 a4 (wr64 (0 - a5)) (wr64 ((wr64 (0 - a5)) * a6)) x49.1 h54) (by kernel_rfl) (by kernel_rfl) (by kernel_rfl) (by kernel_rfl) (by kernel_rfl) (by kernel_rfl)) (ap (not_t h70) (ap (not_t h70) (ap (not_t h70) (ap (not_t h70) (ap (not_t h70) (ap (f37_ok x53.2.Quantity 1048576 h69) (ap (f37_ok x49.2.Quantity 1048576 h72) (ap (not_t h73) (ap (not_t h76) (ap (not_t h76) (ap (not_t h76) (ap (not_t h76) (ap (not_t h76) (ap (f37_ok x53.2.Basis 1125899906842624 h75) (ap (f37_ok x49.2.Basis 1125899906842624 h78) (ap (not_t h79) (ap (len_cv (xs := x53.1) (c := VariationPosition.cells)) (ap h80 an)))))))))))))))))))))))))))))))))))))))))))))))))) (fun h => nomatch h) rfl
                          · obtain rfl := some_inj h
                            exact run_end cfg_ok (rs := [([], [], []), ([], [(1, .call (.pl (.int .i64 x10)) [])], []), ([], [], []), ([(4, false), (5, false), (6, false), (9, false), (10, false), (11, false), (14, false), (15, false), (16, false), (19, false), (20, false), (23, false), (24, false), (27, false), (28, false), (29, false)], [(1, .call (.pl (.bool x28)) []), (5, .call (.pl (.bool x31)) []), (7, .bool false), (12, .bool false), (15, .call (.pl (.bool x35)) []), (17, .bool false), (21, .bool false), (25, .bool false), (28, .call (.pl (.bool x40)) []), (30, .bool false)], []), ([], [(2, .call (.own 2) [none, none, some (.row false 4 (x47.map VariationPosition.cells))]), (9, .call (.tup [(.own 3), (.pl (.agg (VariationPosition.cells x49.2)))]) [none, none, none, some (.row false 4 (x49.1.map VariationPosition.cells)), some (.box ((VariationPosition.cells x49.2).map .pl))])], []), ([], [(9, .call (.tup [(.own 6), (.pl (.agg (VariationPosition.cells x53.2)))]) [none, none, none, none, none, none, some (.row false 4 (x53.1.map VariationPosition.cells)), some (.box ((VariationPosition.cells x53.2).map .pl))])], []), ([(5, false), (6, false), (7, false), (8, false)], [(2, .call (.pl (.bool x68)) []), (7, .call (.pl (.bool x71)) []), (9, .bool false)], []), ([(5, false), (6, false), (7, false), (8, false)], [(2, .call (.pl (.bool x74)) []), (7, .call (.pl (.bool x77)) []), (9, .bool false)], []), ([], [], [(1, .val (.pl (.int .i64 (x53.1.length : Int))))]), ([], [], [])]) (ps := [some false, some false, some false, some false, some false]) (tds := []) (m := [1, 6]) (keep := [12, 13]) (r := (.ret, (f16n0E a1 a2 a3 a4 a5 a6 (.ret 0 a1.Day x53.1)).2)) (by kernel_rfl) (ap (f26_ok a1 h11) (ap (not_t h12) (ap (not_t h30) (ap (not_t h30) (ap (not_t h30) (ap (not_t h30) (ap (not_t h33) (ap (not_t h33) (ap (not_t h33) (ap (not_t h33) (ap h34 (ap h34 (ap h34 (ap h34 (ap (not_t h37) (ap (not_t h37) (ap (not_t h37) (ap h38 (ap h38 (ap h38 (ap h39 (ap h39 (ap h39 (ap h39 (ap (f44_ok a2 h29) (ap (f44_ok a3 h32) (ap (f45_ok a4 h36) (ap (f37_ok a6 536870912 h41) (ap (not_t h42) (ap (CallS.ren (args' := [(.pl (.sl .any 4 (a1.Positions.map VariationPosition.cells)))]) (v' := (.own 2)) (B := [none, none]) (B' := [none, none, some (.row false 4 (x47.map VariationPosition.cells))]) 2 [] (f47r1_ok a1.Positions h48) (by kernel_rfl) (by kernel_rfl) (by kernel_rfl) (by kernel_rfl) (by kernel_rfl) (by kernel_rfl)) (ap (CallS.ren (args' := [(.own 2), (.pl (.str a2)), (.pl (.str a4)), (.pl (.int .i64 a5)), (.pl (.int .i64 (wr64 (a5 * a6))))]) (v' := (.tup [(.own 3), (.pl (.agg (VariationPosition.cells x49.2)))])) (B := [none, none, some (.row false 4 (x47.map VariationPosition.cells))]) (B' := [none, none, none, some (.row false 4 (x49.1.map VariationPosition.cells)), some (.box ((VariationPosition.cells x49.2).map .pl))]) 3 [2] (f46r1_ok a2 a4 a5 (wr64 (a5 * a6)) x47 h50) (by kernel_rfl) (by kernel_rfl) (by kernel_rfl) (by kernel_rfl) (by kernel_rfl) (by kernel_rfl)) (ap (CallS.ren (args' := [(.own 3), (.pl (.str a3)), (.pl (.str a4)), (.pl (.int .i64 (wr64 (0 - a5)))), (.pl (.int .i64 (wr64 ((wr64 (0 - a5)) * a6))))]) (v' := (.tup [(.own 6), (.pl (.agg (VariationPosition.cells x53.2)))])) (B := [none, none, none, some (.row false 4 (x49.1.map VariationPosition.cells)), none, none]) (B' := [none, none, none, none, none, none, some (.row false 4 (x53.1.map VariationPosition.cells)), some (.box ((VariationPosition.cells x53.2).map .pl))]) 6 [3] (f46r1_ok a3 a4 (wr64 (0 - a5)) (wr64 ((wr64 (0 - a5)) * a6)) x49.1 h54) (by kernel_rfl) (by kernel_rfl) (by kernel_rfl) (by kernel_rfl) (by kernel_rfl) (by kernel_rfl)) (ap (not_t h70) (ap (not_t h70) (ap (not_t h70) (ap (not_t h70) (ap (not_t h70) (ap (f37_ok x53.2.Quantity 1048576 h69) (ap (f37_ok x49.2.Quantity 1048576 h72) (ap (not_t h73) (ap (not_t h76) (ap (not_t h76) (ap (not_t h76) (ap (not_t h76) (ap (not_t h76) (ap (f37_ok x53.2.Basis 1125899906842624 h75) (ap (f37_ok x49.2.Basis 1125899906842624 h78) (ap (not_t h79) (ap (len_cv (xs := x53.1) (c := VariationPosition.cells)) (ap h80 an)))))))))))))))))))))))))))))))))))))))))))))))))) rfl
                        · obtain rfl := some_inj h
                          exact runK_end cfg_ok (k := 6) (rs := [([], [], []), ([], [(1, .call (.pl (.int .i64 x10)) [])], []), ([], [], []), ([(4, false), (5, false), (6, false), (9, false), (10, false), (11, false), (14, false), (15, false), (16, false), (19, false), (20, false), (23, false), (24, false), (27, false), (28, false), (29, false)], [(1, .call (.pl (.bool x28)) []), (5, .call (.pl (.bool x31)) []), (7, .bool false), (12, .bool false), (15, .call (.pl (.bool x35)) []), (17, .bool false), (21, .bool false), (25, .bool false), (28, .call (.pl (.bool x40)) []), (30, .bool false)], []), ([], [(2, .call (.own 2) [none, none, some (.row false 4 (x47.map VariationPosition.cells))]), (9, .call (.tup [(.own 3), (.pl (.agg (VariationPosition.cells x49.2)))]) [none, none, none, some (.row false 4 (x49.1.map VariationPosition.cells)), some (.box ((VariationPosition.cells x49.2).map .pl))])], []), ([], [(9, .call (.tup [(.own 6), (.pl (.agg (VariationPosition.cells x53.2)))]) [none, none, none, none, none, none, some (.row false 4 (x53.1.map VariationPosition.cells)), some (.box ((VariationPosition.cells x53.2).map .pl))])], []), ([(5, false), (6, false), (7, false), (8, false)], [(2, .call (.pl (.bool x68)) []), (7, .call (.pl (.bool x71)) []), (9, .bool false)], []), ([(5, false), (6, false), (7, false), (8, false)], [(2, .call (.pl (.bool x74)) []), (7, .call (.pl (.bool x77)) []), (9, .bool false)], []), ([], [], [])]) (ps := [some false, some false, some false, some true]) (tds := [.matC 1 1 4]) (m := [1, 9]) (keep := [12, 13]) (ex := .ret) (st' := (f16n0E a1 a2 a3 a4 a5 a6 (.ret 14 0 [])).2) (by kernel_rfl) (ap (f26_ok a1 h11) (ap (not_t h12) (ap (not_t h30) (ap (not_t h30) (ap (not_t h30) (ap (not_t h30) (ap (not_t h33) (ap (not_t h33) (ap (not_t h33) (ap (not_t h33) (ap h34 (ap h34 (ap h34 (ap h34 (ap (not_t h37) (ap (not_t h37) (ap (not_t h37) (ap h38 (ap h38 (ap h38 (ap h39 (ap h39 (ap h39 (ap h39 (ap (f44_ok a2 h29) (ap (f44_ok a3 h32) (ap (f45_ok a4 h36) (ap (f37_ok a6 536870912 h41) (ap (not_t h42) (ap (CallS.ren (args' := [(.pl (.sl .any 4 (a1.Positions.map VariationPosition.cells)))]) (v' := (.own 2)) (B := [none, none]) (B' := [none, none, some (.row false 4 (x47.map VariationPosition.cells))]) 2 [] (f47r1_ok a1.Positions h48) (by kernel_rfl) (by kernel_rfl) (by kernel_rfl) (by kernel_rfl) (by kernel_rfl) (by kernel_rfl)) (ap (CallS.ren (args' := [(.own 2), (.pl (.str a2)), (.pl (.str a4)), (.pl (.int .i64 a5)), (.pl (.int .i64 (wr64 (a5 * a6))))]) (v' := (.tup [(.own 3), (.pl (.agg (VariationPosition.cells x49.2)))])) (B := [none, none, some (.row false 4 (x47.map VariationPosition.cells))]) (B' := [none, none, none, some (.row false 4 (x49.1.map VariationPosition.cells)), some (.box ((VariationPosition.cells x49.2).map .pl))]) 3 [2] (f46r1_ok a2 a4 a5 (wr64 (a5 * a6)) x47 h50) (by kernel_rfl) (by kernel_rfl) (by kernel_rfl) (by kernel_rfl) (by kernel_rfl) (by kernel_rfl)) (ap (CallS.ren (args' := [(.own 3), (.pl (.str a3)), (.pl (.str a4)), (.pl (.int .i64 (wr64 (0 - a5)))), (.pl (.int .i64 (wr64 ((wr64 (0 - a5)) * a6))))]) (v' := (.tup [(.own 6), (.pl (.agg (VariationPosition.cells x53.2)))])) (B := [none, none, none, some (.row false 4 (x49.1.map VariationPosition.cells)), none, none]) (B' := [none, none, none, none, none, none, some (.row false 4 (x53.1.map VariationPosition.cells)), some (.box ((VariationPosition.cells x53.2).map .pl))]) 6 [3] (f46r1_ok a3 a4 (wr64 (0 - a5)) (wr64 ((wr64 (0 - a5)) * a6)) x49.1 h54) (by kernel_rfl) (by kernel_rfl) (by kernel_rfl) (by kernel_rfl) (by kernel_rfl) (by kernel_rfl)) (ap (not_t h70) (ap (not_t h70) (ap (not_t h70) (ap (not_t h70) (ap (not_t h70) (ap (f37_ok x53.2.Quantity 1048576 h69) (ap (f37_ok x49.2.Quantity 1048576 h72) (ap (not_t h73) (ap (not_t h76) (ap (not_t h76) (ap (not_t h76) (ap (not_t h76) (ap (not_t h76) (ap (f37_ok x53.2.Basis 1125899906842624 h75) (ap (f37_ok x49.2.Basis 1125899906842624 h78) (ap (not_f h79) an)))))))))))))))))))))))))))))))))))))))))))))))) (fun h => nomatch h) rfl
                      · obtain rfl := some_inj h
                        exact runK_end cfg_ok (k := 6) (rs := [([], [], []), ([], [(1, .call (.pl (.int .i64 x10)) [])], []), ([], [], []), ([(4, false), (5, false), (6, false), (9, false), (10, false), (11, false), (14, false), (15, false), (16, false), (19, false), (20, false), (23, false), (24, false), (27, false), (28, false), (29, false)], [(1, .call (.pl (.bool x28)) []), (5, .call (.pl (.bool x31)) []), (7, .bool false), (12, .bool false), (15, .call (.pl (.bool x35)) []), (17, .bool false), (21, .bool false), (25, .bool false), (28, .call (.pl (.bool x40)) []), (30, .bool false)], []), ([], [(2, .call (.own 2) [none, none, some (.row false 4 (x47.map VariationPosition.cells))]), (9, .call (.tup [(.own 3), (.pl (.agg (VariationPosition.cells x49.2)))]) [none, none, none, some (.row false 4 (x49.1.map VariationPosition.cells)), some (.box ((VariationPosition.cells x49.2).map .pl))])], []), ([], [(9, .call (.tup [(.own 6), (.pl (.agg (VariationPosition.cells x53.2)))]) [none, none, none, none, none, none, some (.row false 4 (x53.1.map VariationPosition.cells)), some (.box ((VariationPosition.cells x53.2).map .pl))])], []), ([(5, false), (6, false), (7, false), (8, false)], [(2, .call (.pl (.bool x68)) []), (7, .call (.pl (.bool x71)) []), (9, .bool false)], []), ([(5, true), (6, true), (7, true), (8, true)], [(2, .call (.pl (.bool x74)) []), (9, .bool true)], []), ([], [], [])]) (ps := [some false, some false, some false, none]) (tds := [.matC 1 1 4]) (m := [1, 9]) (keep := [12, 13]) (ex := .ret) (st' := (f16n0E a1 a2 a3 a4 a5 a6 (.ret 14 0 [])).2) (by kernel_rfl) (ap (f26_ok a1 h11) (ap (not_t h12) (ap (not_t h30) (ap (not_t h30) (ap (not_t h30) (ap (not_t h30) (ap (not_t h33) (ap (not_t h33) (ap (not_t h33) (ap (not_t h33) (ap h34 (ap h34 (ap h34 (ap h34 (ap (not_t h37) (ap (not_t h37) (ap (not_t h37) (ap h38 (ap h38 (ap h38 (ap h39 (ap h39 (ap h39 (ap h39 (ap (f44_ok a2 h29) (ap (f44_ok a3 h32) (ap (f45_ok a4 h36) (ap (f37_ok a6 536870912 h41) (ap (not_t h42) (ap (CallS.ren (args' := [(.pl (.sl .any 4 (a1.Positions.map VariationPosition.cells)))]) (v' := (.own 2)) (B := [none, none]) (B' := [none, none, some (.row false 4 (x47.map VariationPosition.cells))]) 2 [] (f47r1_ok a1.Positions h48) (by kernel_rfl) (by kernel_rfl) (by kernel_rfl) (by kernel_rfl) (by kernel_rfl) (by kernel_rfl)) (ap (CallS.ren (args' := [(.own 2), (.pl (.str a2)), (.pl (.str a4)), (.pl (.int .i64 a5)), (.pl (.int .i64 (wr64 (a5 * a6))))]) (v' := (.tup [(.own 3), (.pl (.agg (VariationPosition.cells x49.2)))])) (B := [none, none, some (.row false 4 (x47.map VariationPosition.cells))]) (B' := [none, none, none, some (.row false 4 (x49.1.map VariationPosition.cells)), some (.box ((VariationPosition.cells x49.2).map .pl))]) 3 [2] (f46r1_ok a2 a4 a5 (wr64 (a5 * a6)) x47 h50) (by kernel_rfl) (by kernel_rfl) (by kernel_rfl) (by kernel_rfl) (by kernel_rfl) (by kernel_rfl)) (ap (CallS.ren (args' := [(.own 3), (.pl (.str a3)), (.pl (.str a4)), (.pl (.int .i64 (wr64 (0 - a5)))), (.pl (.int .i64 (wr64 ((wr64 (0 - a5)) * a6))))]) (v' := (.tup [(.own 6), (.pl (.agg (VariationPosition.cells x53.2)))])) (B := [none, none, none, some (.row false 4 (x49.1.map VariationPosition.cells)), none, none]) (B' := [none, none, none, none, none, none, some (.row false 4 (x53.1.map VariationPosition.cells)), some (.box ((VariationPosition.cells x53.2).map .pl))]) 6 [3] (f46r1_ok a3 a4 (wr64 (0 - a5)) (wr64 ((wr64 (0 - a5)) * a6)) x49.1 h54) (by kernel_rfl) (by kernel_rfl) (by kernel_rfl) (by kernel_rfl) (by kernel_rfl) (by kernel_rfl)) (ap (not_t h70) (ap (not_t h70) (ap (not_t h70) (ap (not_t h70) (ap (not_t h70) (ap (f37_ok x53.2.Quantity 1048576 h69) (ap (f37_ok x49.2.Quantity 1048576 h72) (ap (not_t h73) (ap (not_f h76) (ap (not_f h76) (ap (not_f h76) (ap (not_f h76) (ap (not_f h76) (ap (f37_ok x53.2.Basis 1125899906842624 h75) an)))))))))))))))))))))))))))))))))))))))))))))) (fun h => nomatch h) rfl
                    · obtain rfl := some_inj h
                      exact runK_end cfg_ok (k := 6) (rs := [([], [], []), ([], [(1, .call (.pl (.int .i64 x10)) [])], []), ([], [], []), ([(4, false), (5, false), (6, false), (9, false), (10, false), (11, false), (14, false), (15, false), (16, false), (19, false), (20, false), (23, false), (24, false), (27, false), (28, false), (29, false)], [(1, .call (.pl (.bool x28)) []), (5, .call (.pl (.bool x31)) []), (7, .bool false), (12, .bool false), (15, .call (.pl (.bool x35)) []), (17, .bool false), (21, .bool false), (25, .bool false), (28, .call (.pl (.bool x40)) []), (30, .bool false)], []), ([], [(2, .call (.own 2) [none, none, some (.row false 4 (x47.map VariationPosition.cells))]), (9, .call (.tup [(.own 3), (.pl (.agg (VariationPosition.cells x49.2)))]) [none, none, none, some (.row false 4 (x49.1.map VariationPosition.cells)), some (.box ((VariationPosition.cells x49.2).map .pl))])], []), ([], [(9, .call (.tup [(.own 6), (.pl (.agg (VariationPosition.cells x53.2)))]) [none, none, none, none, none, none, some (.row false 4 (x53.1.map VariationPosition.cells)), some (.box ((VariationPosition.cells x53.2).map .pl))])], []), ([(5, false), (6, false), (7, false), (8, false)], [(2, .call (.pl (.bool x68)) []), (7, .call (.pl (.bool x71)) []), (9, .bool false)], []), ([], [], [])]) (ps := [some false, some false, some true]) (tds := [.matC 1 1 4]) (m := [1, 9]) (keep := [12, 13]) (ex := .ret) (st' := (f16n0E a1 a2 a3 a4 a5 a6 (.ret 52 0 [])).2) (by kernel_rfl) (ap (f26_ok a1 h11) (ap (not_t h12) (ap (not_t h30) (ap (not_t h30) (ap (not_t h30) (ap (not_t h30) (ap (not_t h33) (ap (not_t h33) (ap (not_t h33) (ap (not_t h33) (ap h34 (ap h34 (ap h34 (ap h34 (ap (not_t h37) (ap (not_t h37) (ap (not_t h37) (ap h38 (ap h38 (ap h38 (ap h39 (ap h39 (ap h39 (ap h39 (ap (f44_ok a2 h29) (ap (f44_ok a3 h32) (ap (f45_ok a4 h36) (ap (f37_ok a6 536870912 h41) (ap (not_t h42) (ap (CallS.ren (args' := [(.pl (.sl .any 4 (a1.Positions.map VariationPosition.cells)))]) (v' := (.own 2)) (B := [none, none]) (B' := [none, none, some (.row false 4 (x47.map VariationPosition.cells))]) 2 [] (f47r1_ok a1.Positions h48) (by kernel_rfl) (by kernel_rfl) (by kernel_rfl) (by kernel_rfl) (by kernel_rfl) (by kernel_rfl)) (ap (CallS.ren (args' := [(.own 2), (.pl (.str a2)), (.pl (.str a4)), (.pl (.int .i64 a5)), (.pl (.int .i64 (wr64 (a5 * a6))))]) (v' := (.tup [(.own 3), (.pl (.agg (VariationPosition.cells x49.2)))])) (B := [none, none, some (.row false 4 (x47.map VariationPosition.cells))]) (B' := [none, none, none, some (.row false 4 (x49.1.map VariationPosition.cells)), some (.box ((VariationPosition.cells x49.2).map .pl))]) 3 [2] (f46r1_ok a2 a4 a5 (wr64 (a5 * a6)) x47 h50) (by kernel_rfl) (by kernel_rfl) (by kernel_rfl) (by kernel_rfl) (by kernel_rfl) (by kernel_rfl)) (ap (CallS.ren (args' := [(.own 3), (.pl (.str a3)), (.pl (.str a4)), (.pl (.int .i64 (wr64 (0 - a5)))), (.pl (.int .i64 (wr64 ((wr64 (0 - a5)) * a6))))]) (v' := (.tup [(.own 6), (.pl (.agg (VariationPosition.cells x53.2)))])) (B := [none, none, none, some (.row false 4 (x49.1.map VariationPosition.cells)), none, none]) (B' := [none, none, none, none, none, none, some (.row false 4 (x53.1.map VariationPosition.cells)), some (.box ((VariationPosition.cells x53.2).map .pl))]) 6 [3] (f46r1_ok a3 a4 (wr64 (0 - a5)) (wr64 ((wr64 (0 - a5)) * a6)) x49.1 h54) (by kernel_rfl) (by kernel_rfl) (by kernel_rfl) (by kernel_rfl) (by kernel_rfl) (by kernel_rfl)) (ap (not_t h70) (ap (not_t h70) (ap (not_t h70) (ap (not_t h70) (ap (not_t h70) (ap (f37_ok x53.2.Quantity 1048576 h69) (ap (f37_ok x49.2.Quantity 1048576 h72) (ap (not_f h73) an)))))))))))))))))))))))))))))))))))))))) (fun h => nomatch h) rfl
                  · obtain rfl := some_inj h
                    exact runK_end cfg_ok (k := 6) (rs := [([], [], []), ([], [(1, .call (.pl (.int .i64 x10)) [])], []), ([], [], []), ([(4, false), (5, false), (6, false), (9, false), (10, false), (11, false), (14, false), (15, false), (16, false), (19, false), (20, false), (23, false), (24, false), (27, false), (28, false), (29, false)], [(1, .call (.pl (.bool x28)) []), (5, .call (.pl (.bool x31)) []), (7, .bool false), (12, .bool false), (15, .call (.pl (.bool x35)) []), (17, .bool false), (21, .bool false), (25, .bool false), (28, .call (.pl (.bool x40)) []), (30, .bool false)], []), ([], [(2, .call (.own 2) [none, none, some (.row false 4 (x47.map VariationPosition.cells))]), (9, .call (.tup [(.own 3), (.pl (.agg (VariationPosition.cells x49.2)))]) [none, none, none, some (.row false 4 (x49.1.map VariationPosition.cells)), some (.box ((VariationPosition.cells x49.2).map .pl))])], []), ([], [(9, .call (.tup [(.own 6), (.pl (.agg (VariationPosition.cells x53.2)))]) [none, none, none, none, none, none, some (.row false 4 (x53.1.map VariationPosition.cells)), some (.box ((VariationPosition.cells x53.2).map .pl))])], []), ([(5, true), (6, true), (7, true), (8, true)], [(2, .call (.pl (.bool x68)) []), (9, .bool true)], []), ([], [], [])]) (ps := [some false, some false, none]) (tds := [.matC 1 1 4]) (m := [1, 9]) (keep := [12, 13]) (ex := .ret) (st' := (f16n0E a1 a2 a3 a4 a5 a6 (.ret 52 0 [])).2) (by kernel_rfl) (ap (f26_ok a1 h11) (ap (not_t h12) (ap (not_t h30) (ap (not_t h30) (ap (not_t h30) (ap (not_t h30) (ap (not_t h33) (ap (not_t h33) (ap (not_t h33) (ap (not_t h33) (ap h34 (ap h34 (ap h34 (ap h34 (ap (not_t h37) (ap (not_t h37) (ap (not_t h37) (ap h38 (ap h38 (ap h38 (ap h39 (ap h39 (ap h39 (ap h39 (ap (f44_ok a2 h29) (ap (f44_ok a3 h32) (ap (f45_ok a4 h36) (ap (f37_ok a6 536870912 h41) (ap (not_t h42) (ap (CallS.ren (args' := [(.pl (.sl .any 4 (a1.Positions.map VariationPosition.cells)))]) (v' := (.own 2)) (B := [none, none]) (B' := [none, none, some (.row false 4 (x47.map VariationPosition.cells))]) 2 [] (f47r1_ok a1.Positions h48) (by kernel_rfl) (by kernel_rfl) (by kernel_rfl) (by kernel_rfl) (by kernel_rfl) (by kernel_rfl)) (ap (CallS.ren (args' := [(.own 2), (.pl (.str a2)), (.pl (.str a4)), (.pl (.int .i64 a5)), (.pl (.int .i64 (wr64 (a5 * a6))))]) (v' := (.tup [(.own 3), (.pl (.agg (VariationPosition.cells x49.2)))])) (B := [none, none, some (.row false 4 (x47.map VariationPosition.cells))]) (B' := [none, none, none, some (.row false 4 (x49.1.map VariationPosition.cells)), some (.box ((VariationPosition.cells x49.2).map .pl))]) 3 [2] (f46r1_ok a2 a4 a5 (wr64 (a5 * a6)) x47 h50) (by kernel_rfl) (by kernel_rfl) (by kernel_rfl) (by kernel_rfl) (by kernel_rfl) (by kernel_rfl)) (ap (CallS.ren (args' := [(.own 3), (.pl (.str a3)), (.pl (.str a4)), (.pl (.int .i64 (wr64 (0 - a5)))), (.pl (.int .i64 (wr64 ((wr64 (0 - a5)) * a6))))]) (v' := (.tup [(.own 6), (.pl (.agg (VariationPosition.cells x53.2)))])) (B := [none, none, none, some (.row false 4 (x49.1.map VariationPosition.cells)), none, none]) (B' := [none, none, none, none, none, none, some (.row false 4 (x53.1.map VariationPosition.cells)), some (.box ((VariationPosition.cells x53.2).map .pl))]) 6 [3] (f46r1_ok a3 a4 (wr64 (0 - a5)) (wr64 ((wr64 (0 - a5)) * a6)) x49.1 h54) (by kernel_rfl) (by kernel_rfl) (by kernel_rfl) (by kernel_rfl) (by kernel_rfl) (by kernel_rfl)) (ap (not_f h70) (ap (not_f h70) (ap (not_f h70) (ap (not_f h70) (ap (not_f h70) (ap (f37_ok x53.2.Quantity 1048576 h69) an)))))))))))))))))))))))))))))))))))))) (fun h => nomatch h) rfl
                · obtain rfl := some_inj h
                  exact runK_end cfg_ok (k := 3) (rs := [([], [], []), ([], [(1, .call (.pl (.int .i64 x10)) [])], []), ([], [], []), ([(4, false), (5, false), (6, false), (9, false), (10, false), (11, false), (14, false), (15, false), (16, false), (19, false), (20, false), (23, false), (24, false), (27, false), (28, false), (29, false)], [(1, .call (.pl (.bool x28)) []), (5, .call (.pl (.bool x31)) []), (7, .bool false), (12, .bool false), (15, .call (.pl (.bool x35)) []), (17, .bool false), (21, .bool false), (25, .bool false), (28, .call (.pl (.bool x40)) []), (30, .bool false)], []), ([], [], [])]) (ps := [some false, some true]) (tds := [.matC 1 1 4]) (m := [1, 2]) (keep := [12, 13]) (ex := .ret) (st' := (f16n0E a1 a2 a3 a4 a5 a6 (.ret 2 0 [])).2) (by kernel_rfl) (ap (f26_ok a1 h11) (ap (not_t h12) (ap (not_t h30) (ap (not_t h30) (ap (not_t h30) (ap (not_t h30) (ap (not_t h33) (ap (not_t h33) (ap (not_t h33) (ap (not_t h33) (ap h34 (ap h34 (ap h34 (ap h34 (ap (not_t h37) (ap (not_t h37) (ap (not_t h37) (ap h38 (ap h38 (ap h38 (ap h39 (ap h39 (ap h39 (ap h39 (ap (f44_ok a2 h29) (ap (f44_ok a3 h32) (ap (f45_ok a4 h36) (ap (f37_ok a6 536870912 h41) (ap (not_f h42) an))))))))))))))))))))))))))))) (fun h => nomatch h) rfl
          · obtain rfl := some_inj h
            exact runK_end cfg_ok (k := 3) (rs := [([], [], []), ([], [(1, .call (.pl (.int .i64 x10)) [])], []), ([], [], []), ([(4, false), (5, false), (6, false), (9, false), (10, false), (11, false), (14, false), (15, false), (16, false), (19, true), (20, true)], [(1, .call (.pl (.bool x28)) []), (5, .call (.pl (.bool x31)) []), (7, .bool false), (12, .bool false), (15, .call (.pl (.bool x35)) []), (17, .bool false), (21, .bool true)], []), ([], [], [])]) (ps := [some false, none]) (tds := [.matC 1 1 4]) (m := [1, 2]) (keep := [12, 13]) (ex := .ret) (st' := (f16n0E a1 a2 a3 a4 a5 a6 (.ret 2 0 [])).2) (by kernel_rfl) (ap (f26_ok a1 h11) (ap (not_t h12) (ap (not_t h30) (ap (not_t h30) (ap (not_t h30) (ap (not_t h30) (ap (not_t h33) (ap (not_t h33) (ap (not_t h33) (ap (not_t h33) (ap h34 (ap h34 (ap h34 (ap h34 (ap (not_f h37) (ap (not_f h37) (ap (not_f h37) (ap (f44_ok a2 h29) (ap (f44_ok a3 h32) (ap (f45_ok a4 h36) an)))))))))))))))))))) (fun h => nomatch h) rfl
      · obtain rfl := some_inj h
        exact runK_end cfg_ok (k := 3) (rs := [([], [], []), ([], [(1, .call (.pl (.int .i64 x10)) [])], []), ([], [], []), ([(4, false), (5, false), (6, false), (9, true), (10, true), (11, true)], [(1, .call (.pl (.bool x28)) []), (5, .call (.pl (.bool x31)) []), (7, .bool false), (12, .bool true)], []), ([], [], [])]) (ps := [some false, none]) (tds := [.matC 1 1 4]) (m := [1, 2]) (keep := [12, 13]) (ex := .ret) (st' := (f16n0E a1 a2 a3 a4 a5 a6 (.ret 2 0 [])).2) (by kernel_rfl) (ap (f26_ok a1 h11) (ap (not_t h12) (ap (not_t h30) (ap (not_t h30) (ap (not_t h30) (ap (not_t h30) (ap (not_f h33) (ap (not_f h33) (ap (not_f h33) (ap (not_f h33) (ap (f44_ok a2 h29) (ap (f44_ok a3 h32) an)))))))))))) (fun h => nomatch h) rfl
    · obtain rfl := some_inj h
      exact runK_end cfg_ok (k := 3) (rs := [([], [], []), ([], [(1, .call (.pl (.int .i64 x10)) [])], []), ([], [], []), ([(4, true), (5, true), (6, true)], [(1, .call (.pl (.bool x28)) []), (7, .bool true)], []), ([], [], [])]) (ps := [some false, none]) (tds := [.matC 1 1 4]) (m := [1, 2]) (keep := [12, 13]) (ex := .ret) (st' := (f16n0E a1 a2 a3 a4 a5 a6 (.ret 2 0 [])).2) (by kernel_rfl) (ap (f26_ok a1 h11) (ap (not_t h12) (ap (not_f h30) (ap (not_f h30) (ap (not_f h30) (ap (not_f h30) (ap (f44_ok a2 h29) an))))))) (fun h => nomatch h) rfl
  · obtain rfl := some_inj h
    exact runK_end cfg_ok (k := 2) (rs := [([], [], []), ([], [(1, .call (.pl (.int .i64 x10)) [])], []), ([], [], []), ([], [], [])]) (ps := [some true]) (tds := [.matC 1 1 4]) (m := [1, 2]) (keep := [12, 13]) (ex := .ret) (st' := (f16n0E a1 a2 a3 a4 a5 a6 (.ret x10 0 [])).2) (by kernel_rfl) (ap (f26_ok a1 h11) (ap (not_f h12) an)) (fun h => nomatch h) rfl
noncomputable def f16 (a1 : Variation) (a2 : ByteArray) (a3 : ByteArray) (a4 : ByteArray) (a5 : Int) (a6 : Int) : Option (Variation × Int) := (f16n0 a1 a2 a3 a4 a5 a6).bind fun o => match o with
  | .ret v81 v82 v83 => some ((Variation.mk v82 v83), v81)
theorem f16_ok (a1 : Variation) (a2 : ByteArray) (a3 : ByteArray) (a4 : ByteArray) (a5 : Int) (a6 : Int) {r : Variation × Int} (h : (f16 a1 a2 a3 a4 a5 a6) = some r) : CallS Try.prog false 16 [(.pl (.agg (Variation.cells a1))), (.pl (.str a2)), (.pl (.str a3)), (.pl (.str a4)), (.pl (.int .i64 a5)), (.pl (.int .i64 a6))] [] (.tup [(.pl (.agg (Variation.cells r.1))), (.pl (.int .i64 r.2))]) [] := by
  unfold f16 at h
  obtain ⟨o, ho, h⟩ := bind_cases h
  cases o with
  | ret v81 v82 v83 =>
    obtain rfl := some_inj h
    exact CallS.plain cfg_ok (f := Try.f16) (c := c16) (by kernel_rfl) (by kernel_rfl) (by kernel_rfl) (by kernel_rfl) ((f16n0_ok a1 a2 a3 a4 a5 a6 ho).mono fun r e => by subst e; exact ⟨.inl rfl, (.tup [(.agg [(.pl (.int .i64 v82)), (.own 1)]), (.pl (.int .i64 v81))]), (.tup [(.pl (.agg (Variation.cells (Variation.mk v82 v83)))), (.pl (.int .i64 v81))]), by kernel_rfl, by kernel_rfl, ((Wk.refl _) : Wk (.tup [(.pl (.agg (Variation.cells (Variation.mk v82 v83)))), (.pl (.int .i64 v81))]) (.tup [(.pl (.agg (Variation.cells (Variation.mk v82 v83)))), (.pl (.int .i64 v81))]))⟩)

noncomputable def c23 : Code := Try.f23.body.getD .skip
inductive f23r1n0O where
  | ret
def f23r1n0E (a1 : Int) : f23r1n0O → Ex × Tr × Hp
  | .ret => (.ret, mkS [(2, (.own 0))], [some (.row false 2 ([(VariationPrice.mk str_p a1)].map VariationPrice.cells))])
def f23r1n0S (a1 : Int) : Tr × Hp := (initS [(.pl (.int .i64 a1))] 0 .leaf, [])
noncomputable def f23r1n0 (a1 : Int) : Option f23r1n0O :=
  some .ret
theorem f23r1n0_ok (a1 : Int) {o : f23r1n0O} (h : (f23r1n0 a1) = some o) : T Try.prog Try.f23.ntmps 0 c23 (f23r1n0S a1) (fun r => r = f23r1n0E a1 o) := by
  unfold f23r1n0 at h
  obtain rfl := some_inj h
  exact run_end cfg_ok (rs := [([], [], []), ([], [], [])]) (ps := []) (tds := []) (m := [0]) (keep := [2]) (r := (.ret, (f23r1n0E a1 .ret).2)) (by kernel_rfl) an rfl
noncomputable def f23r1 (a1 : Int) : Option Unit := (f23r1n0 a1).bind fun o => match o with
  | .ret => some ()
theorem f23r1_ok (a1 : Int) {r : Unit} (h : (f23r1 a1) = some r) : CallS Try.prog true 23 [(.pl (.int .i64 a1))] [] (.own 0) [some (.row false 2 ([(VariationPrice.mk str_p a1)].map VariationPrice.cells))] := by
  unfold f23r1 at h
  obtain ⟨o, ho, h⟩ := bind_cases h
  cases o with
  | ret =>
    obtain rfl := some_inj h
    exact CallS.shared cfg_ok (f := Try.f23) (c := c23) (by kernel_rfl) (by kernel_rfl) (by kernel_rfl) ((f23r1n0_ok a1 ho).mono fun r e => by subst e; exact ⟨.inl rfl, by kernel_rfl, by kernel_rfl⟩)

noncomputable def c35 : Code := Try.f35.body.getD .skip
inductive f35n2O where
  | exit0
  | ret
def f35n2E (bh1 : List VariationPrice) : f35n2O → Ex × Tr × Hp
  | .exit0 => ((.exit 0), mkS [(0, (.pl (.sl .any 2 (bh1.map VariationPrice.cells))))], [])
  | .ret => (.ret, mkS [(2, (.pl (.bool false)))], [])
def f35n2S (bh1 : List VariationPrice) (v59 : Int) : Tr × Hp := (mkS [(0, (.pl (.sl .any 2 (bh1.map VariationPrice.cells)))), (5, (.pl (.sl .any 2 (bh1.map VariationPrice.cells)))), (6, (.pl (.int .i64 (bh1.length : Int)))), (7, (.pl (.int .i64 v59)))], [])
noncomputable def f35n2 : Nat → List VariationPrice → Int → Option f35n2O
  | 0, _, _ => none
  | f + 1, bh1, v59 =>
    bif (decide (v59 < (bh1.length : Int))) then
      (at? bh1 v59).bind fun x80 =>
      bif (decide (0 < v59)) then
        (at? bh1 (wr64 (v59 - 1))).bind fun x83 =>
        bif (slt x83.Product x80.Product) then
          (f45 x80.Product).bind fun x86 =>
          bif x86 then
            (f37 x80.Price 536870912).bind fun x89 =>
            bif x89 then
              (f35n2 f bh1 (wr64 (v59 + 1)))
            else
              some .ret
          else
            some .ret
        else
          some .ret
      else
        (f45 x80.Product).bind fun x92 =>
        bif x92 then
          (f37 x80.Price 536870912).bind fun x95 =>
          bif x95 then
            (f35n2 f bh1 (wr64 (v59 + 1)))
          else
            some .ret
        else
          some .ret
    else
      some .exit0
theorem f35n2_ok : ∀ (f : Nat) (bh1 : List VariationPrice) (v59 : Int) {o : f35n2O}, (f35n2 f bh1 v59) = some o → TL Try.prog Try.f35.ntmps 0 f (cL (cL (dropC 1 (cL (dropC 1 c35))))) (f35n2S bh1 v59) (fun r => r = f35n2E bh1 o)
  | 0, _, _, o, h => by rw [f35n2] at h; cases h
  | f + 1, bh1, v59, o, h => by
    rw [f35n2] at h
    refine TL.body (K := fun s => ∃ v59 : Int, s = (f35n2S bh1 v59) ∧ (f35n2 f bh1 v59) = some o) ?_ (by rintro _ ⟨v59, rfl, hk⟩; exact f35n2_ok f _ _ hk)
    rcases cond_cases h with ⟨h61, h⟩ | ⟨h61, h⟩
    · obtain ⟨x80, h81, h⟩ := bind_cases h
      rcases cond_cases h with ⟨h82, h⟩ | ⟨h82, h⟩
      · obtain ⟨x83, h84, h⟩ := bind_cases h
        rcases cond_cases h with ⟨h85, h⟩ | ⟨h85, h⟩
        · obtain ⟨x86, h87, h⟩ := bind_cases h
          rcases cond_cases h with ⟨h88, h⟩ | ⟨h88, h⟩
          · obtain ⟨x89, h90, h⟩ := bind_cases h
            rcases cond_cases h with ⟨h91, h⟩ | ⟨h91, h⟩
            · exact run_end cfg_ok (rs := [([], [], []), ([], [(1, .idx (Int.toNat v59) (VariationPrice.cells x80))], []), ([(3, true), (4, true), (5, true), (6, true), (7, true), (8, true), (9, true), (10, true), (11, true), (14, false), (15, false), (16, false), (17, false), (20, false), (21, false), (22, false), (23, false)], [(6, .idx (Int.toNat (wr64 (v59 - 1))) (VariationPrice.cells x83)), (12, .bool true), (16, .call (.pl (.bool x86)) []), (18, .bool false), (22, .call (.pl (.bool x89)) []), (24, .bool false)], []), ([], [], [])]) (ps := [some true, some false]) (tds := []) (m := []) (keep := [0, 5, 6, 7]) (r := (.norm, (f35n2S bh1 (wr64 (v59 + 1))))) (by kernel_rfl) (ap h61 (ap (at_some h81).1 (ap (at_map VariationPrice.cells (at_some h81).2) (ap h82 (ap h82 (ap h82 (ap h82 (ap (at_some h84).1 (ap (at_map VariationPrice.cells (at_some h84).2) (ap h82 (ap h82 (ap h82 (ap h82 (ap h82 (ap h82 (ap (not_t h85) (ap (not_t h85) (ap (not_t h85) (ap (not_t h85) (ap (not_t h85) (ap (not_t h88) (ap (not_t h88) (ap (not_t h88) (ap (not_t h88) (ap (not_t h88) (ap (f45_ok x80.Product h87) (ap (f37_ok x80.Price 536870912 h90) (ap (not_t h91) an)))))))))))))))))))))))))))) (LoopQ.norm ⟨(wr64 (v59 + 1)), rfl, h⟩)
            · obtain rfl := some_inj h
              exact runK_end cfg_ok (k := 3) (rs := [([], [], []), ([], [(1, .idx (Int.toNat v59) (VariationPrice.cells x80))], []), ([(3, true), (4, true), (5, true), (6, true), (7, true), (8, true), (9, true), (10, true), (11, true), (14, false), (15, false), (16, false), (17, false), (20, false), (21, false), (22, false), (23, false)], [(6, .idx (Int.toNat (wr64 (v59 - 1))) (VariationPrice.cells x83)), (12, .bool true), (16, .call (.pl (.bool x86)) []), (18, .bool false), (22, .call (.pl (.bool x89)) []), (24, .bool false)], []), ([], [], [])]) (ps := [some true, some true]) (tds := []) (m := []) (keep := [2]) (ex := .ret) (st' := (f35n2E bh1 .ret).2) (by kernel_rfl) (ap h61 (ap (at_some h81).1 (ap (at_map VariationPrice.cells (at_some h81).2) (ap h82 (ap h82 (ap h82 (ap h82 (ap (at_some h84).1 (ap (at_map VariationPrice.cells (at_some h84).2) (ap h82 (ap h82 (ap h82 (ap h82 (ap h82 (ap h82 (ap (not_t h85) (ap (not_t h85) (ap (not_t h85) (ap (not_t h85) (ap (not_t h85) (ap (not_t h88) (ap (not_t h88) (ap (not_t h88) (ap (not_t h88) (ap (not_t h88) (ap (f45_ok x80.Product h87) (ap (f37_ok x80.Price 536870912 h90) (ap (not_f h91) an)))))))))))))))))))))))))))) (fun h => nomatch h) (LoopQ.out rfl rfl)
          · obtain rfl := some_inj h
            exact runK_end cfg_ok (k := 3) (rs := [([], [], []), ([], [(1, .idx (Int.toNat v59) (VariationPrice.cells x80))], []), ([(3, true), (4, true), (5, true), (6, true), (7, true), (8, true), (9, true), (10, true), (11, true), (14, false), (15, false), (16, false), (17, false), (20, true), (21, true), (22, true), (23, true)], [(6, .idx (Int.toNat (wr64 (v59 - 1))) (VariationPrice.cells x83)), (12, .bool true), (16, .call (.pl (.bool x86)) []), (18, .bool false), (24, .bool true)], []), ([], [], [])]) (ps := [some true, none]) (tds := []) (m := []) (keep := [2]) (ex := .ret) (st' := (f35n2E bh1 .ret).2) (by kernel_rfl) (ap h61 (ap (at_some h81).1 (ap (at_map VariationPrice.cells (at_some h81).2) (ap h82 (ap h82 (ap h82 (ap h82 (ap (at_some h84).1 (ap (at_map VariationPrice.cells (at_some h84).2) (ap h82 (ap h82 (ap h82 (ap h82 (ap h82 (ap h82 (ap (not_t h85) (ap (not_t h85) (ap (not_t h85) (ap (not_t h85) (ap (not_t h85) (ap (not_f h88) (ap (not_f h88) (ap (not_f h88) (ap (not_f h88) (ap (not_f h88) (ap (f45_ok x80.Product h87) an)))))))))))))))))))))))))) (fun h => nomatch h) (LoopQ.out rfl rfl)
        · obtain rfl := some_inj h
          exact runK_end cfg_ok (k := 3) (rs := [([], [], []), ([], [(1, .idx (Int.toNat v59) (VariationPrice.cells x80))], []), ([(3, true), (4, true), (5, true), (6, true), (7, true), (8, true), (9, true), (10, true), (11, true), (14, true), (15, true), (16, true), (17, true)], [(6, .idx (Int.toNat (wr64 (v59 - 1))) (VariationPrice.cells x83)), (12, .bool true), (18, .bool true)], []), ([], [], [])]) (ps := [some true, none]) (tds := []) (m := []) (keep := [2]) (ex := .ret) (st' := (f35n2E bh1 .ret).2) (by kernel_rfl) (ap h61 (ap (at_some h81).1 (ap (at_map VariationPrice.cells (at_some h81).2) (ap h82 (ap h82 (ap h82 (ap h82 (ap (at_some h84).1 (ap (at_map VariationPrice.cells (at_some h84).2) (ap h82 (ap h82 (ap h82 (ap h82 (ap h82 (ap h82 (ap (not_f h85) (ap (not_f h85) (ap (not_f h85) (ap (not_f h85) (ap (not_f h85) an)))))))))))))))))))) (fun h => nomatch h) (LoopQ.out rfl rfl)
      · obtain ⟨x92, h93, h⟩ := bind_cases h
        rcases cond_cases h with ⟨h94, h⟩ | ⟨h94, h⟩
        · obtain ⟨x95, h96, h⟩ := bind_cases h
          rcases cond_cases h with ⟨h97, h⟩ | ⟨h97, h⟩
          · exact run_end cfg_ok (rs := [([], [], []), ([], [(1, .idx (Int.toNat v59) (VariationPrice.cells x80))], []), ([(3, false), (4, false), (5, false), (6, false), (7, false), (8, false), (9, false), (10, false), (11, false), (20, false), (21, false), (22, false), (23, false)], [(12, .bool false), (16, .call (.pl (.bool x92)) []), (22, .call (.pl (.bool x95)) []), (24, .bool false)], []), ([], [], [])]) (ps := [some true, some false]) (tds := []) (m := []) (keep := [0, 5, 6, 7]) (r := (.norm, (f35n2S bh1 (wr64 (v59 + 1))))) (by kernel_rfl) (ap h61 (ap (at_some h81).1 (ap (at_map VariationPrice.cells (at_some h81).2) (ap h82 (ap h82 (ap h82 (ap h82 (ap h82 (ap h82 (ap h82 (ap h82 (ap h82 (ap h82 (ap (not_t h94) (ap (not_t h94) (ap (not_t h94) (ap (not_t h94) (ap (not_t h94) (ap (f45_ok x80.Product h93) (ap (f37_ok x80.Price 536870912 h96) (ap (not_t h97) an))))))))))))))))))))) (LoopQ.norm ⟨(wr64 (v59 + 1)), rfl, h⟩)
          · obtain rfl := some_inj h
            exact runK_end cfg_ok (k := 3) (rs := [([], [], []), ([], [(1, .idx (Int.toNat v59) (VariationPrice.cells x80))], []), ([(3, false), (4, false), (5, false), (6, false), (7, false), (8, false), (9, false), (10, false), (11, false), (20, false), (21, false), (22, false), (23, false)], [(12, .bool false), (16, .call (.pl (.bool x92)) []), (22, .call (.pl (.bool x95)) []), (24, .bool false)], []), ([], [], [])]) (ps := [some true, some true]) (tds := []) (m := []) (keep := [2]) (ex := .ret) (st' := (f35n2E bh1 .ret).2) (by kernel_rfl) (ap h61 (ap (at_some h81).1 (ap (at_map VariationPrice.cells (at_some h81).2) (ap h82 (ap h82 (ap h82 (ap h82 (ap h82 (ap h82 (ap h82 (ap h82 (ap h82 (ap h82 (ap (not_t h94) (ap (not_t h94) (ap (not_t h94) (ap (not_t h94) (ap (not_t h94) (ap (f45_ok x80.Product h93) (ap (f37_ok x80.Price 536870912 h96) (ap (not_f h97) an))))))))))))))))))))) (fun h => nomatch h) (LoopQ.out rfl rfl)
        · obtain rfl := some_inj h
          exact runK_end cfg_ok (k := 3) (rs := [([], [], []), ([], [(1, .idx (Int.toNat v59) (VariationPrice.cells x80))], []), ([(3, false), (4, false), (5, false), (6, false), (7, false), (8, false), (9, false), (10, false), (11, false), (20, true), (21, true), (22, true), (23, true)], [(12, .bool false), (16, .call (.pl (.bool x92)) []), (24, .bool true)], []), ([], [], [])]) (ps := [some true, none]) (tds := []) (m := []) (keep := [2]) (ex := .ret) (st' := (f35n2E bh1 .ret).2) (by kernel_rfl) (ap h61 (ap (at_some h81).1 (ap (at_map VariationPrice.cells (at_some h81).2) (ap h82 (ap h82 (ap h82 (ap h82 (ap h82 (ap h82 (ap h82 (ap h82 (ap h82 (ap h82 (ap (not_f h94) (ap (not_f h94) (ap (not_f h94) (ap (not_f h94) (ap (not_f h94) (ap (f45_ok x80.Product h93) an))))))))))))))))))) (fun h => nomatch h) (LoopQ.out rfl rfl)
    · obtain rfl := some_inj h
      exact runK_end cfg_ok (k := 2) (rs := [([], [], [])]) (ps := [some false]) (tds := []) (m := []) (keep := [0]) (ex := (.exit 0)) (st' := (f35n2E bh1 .exit0).2) (by kernel_rfl) (ap h61 an) (fun h => nomatch h) (LoopQ.out rfl rfl)
noncomputable def f35n2L (bh1 : List VariationPrice) : List VariationPrice → Int → Option f35n2O
  | [], v59 =>
    some .exit0
  | x0 :: rest, v59 =>
    bif (decide (0 < v59)) then
      (at? bh1 (wr64 (v59 - 1))).bind fun x83 =>
      bif (slt x83.Product x0.Product) then
        (f45 x0.Product).bind fun x86 =>
        bif x86 then
          (f37 x0.Price 536870912).bind fun x89 =>
          bif x89 then
            (f35n2L bh1 rest (v59 + 1))
          else
            some .ret
        else
          some .ret
      else
        some .ret
    else
      (f45 x0.Product).bind fun x92 =>
      bif x92 then
        (f37 x0.Price 536870912).bind fun x95 =>
        bif x95 then
          (f35n2L bh1 rest (v59 + 1))
        else
          some .ret
      else
        some .ret
theorem f35n2L_eq (bh1 : List VariationPrice) : ∀ (rest : List VariationPrice) (f k : Nat), bh1.drop k = rest → bh1.length ≤ maxLen → rest.length < f → f35n2 f bh1 (k : Int) = f35n2L bh1 rest (k : Int)
  | _, 0, _, _, _, hf => absurd hf (Nat.not_lt_zero _)
  | [], f + 1, k, hd, hm, hf => by
    have hk : ¬ ((k : Int) < (bh1.length : Int)) := by have := drop_nil hd; omega
    rw [f35n2, f35n2L]
    simp only [decide_eq_false hk, cond_false]
  | x0 :: rest, f + 1, k, hd, hm, hf => by
    obtain ⟨hx, hlt, hd'⟩ := drop_cons hd
    have hk : (k : Int) < (bh1.length : Int) := by omega
    have hw : wr64 ((k : Int) + 1) = (k : Int) + 1 := wr64_of (by omega) (by unfold maxLen at hm; omega)
    have ih : f35n2 f bh1 ((k : Int) + 1) = f35n2L bh1 rest ((k : Int) + 1) := f35n2L_eq bh1 rest f (k + 1) hd' hm (by simpa using hf)
    rw [f35n2, f35n2L]
    simp only [decide_eq_true hk, cond_true, at_nat, hx, Option.bind_some, hw, ih]
theorem f35n2_run (bh1 : List VariationPrice) (hm : bh1.length ≤ maxLen) : f35n2 FUEL bh1 0 = f35n2L bh1 bh1 0 := f35n2L_eq bh1 bh1 FUEL 0 List.drop_zero hm (lt_FUEL hm)
inductive f35n1O where
  | norm
  | ret
def f35n1E (bh1 : List VariationPrice) : f35n1O → Ex × Tr × Hp
  | .norm => (.norm, mkS [(0, (.pl (.sl .any 2 (bh1.map VariationPrice.cells))))], [])
  | .ret => (.ret, mkS [(2, (.pl (.bool false)))], [])
def f35n1S (bh1 : List VariationPrice) : Tr × Hp := (mkS [(0, (.pl (.sl .any 2 (bh1.map VariationPrice.cells))))], [])
noncomputable def f35n1 (bh1 : List VariationPrice) : Option f35n1O :=
  (f35n2 FUEL bh1 0).bind fun o98 => match o98 with
  | .exit0 => some .norm
  | .ret => some .ret
theorem f35n1_ok (bh1 : List VariationPrice) {o : f35n1O} (h : (f35n1 bh1) = some o) : T Try.prog Try.f35.ntmps 0 (cL (dropC 1 c35)) (f35n1S bh1) (fun r => r = f35n1E bh1 o) := by
  unfold f35n1 at h
  refine runK_norm cfg_ok (k := 1) (rs := [([], [], [(1, .val (.pl (.int .i64 (bh1.length : Int))))])]) (ps := []) (tds := []) (m := []) (keep := [0, 5, 6, 7]) (st' := (f35n2S bh1 0)) (by kernel_rfl) (ap (len_cv (xs := bh1) (c := VariationPrice.cells)) an) ?_
  obtain ⟨o98, h99, h⟩ := bind_cases h
  cases o98 with
  | exit0 =>
    obtain rfl := some_inj h
    exact T.last' (T.bl (i := 0) (by kernel_rfl) (by kernel_rfl) (f35n2_ok FUEL bh1 0 h99)) (tds := []) (m := []) (keep := [0]) (st2 := (f35n1E bh1 .norm).2) (by kernel_rfl) an rfl
  | ret =>
    obtain rfl := some_inj h
    exact T.last' (T.bl (i := 0) (by kernel_rfl) (by kernel_rfl) (f35n2_ok FUEL bh1 0 h99)) (tds := []) (m := []) (keep := [2]) (st2 := (f35n1E bh1 .ret).2) (by kernel_rfl) an rfl
inductive f35n0O where
  | ret (v102 : Bool)
def f35n0E (a1 : List VariationPrice) : f35n0O → Ex × Tr × Hp
  | .ret v102 => (.ret, mkS [(2, (.pl (.bool v102)))], [])
def f35n0S (a1 : List VariationPrice) : Tr × Hp := (initS [(.pl (.sl .any 2 (a1.map VariationPrice.cells)))] 0 .leaf, [])
noncomputable def f35n0 (a1 : List VariationPrice) : Option f35n0O :=
  (f35n1 a1).bind fun o100 => match o100 with
  | .norm => some (.ret (decide ((a1.length : Int) ≤ 200)))
  | .ret => some (.ret false)
theorem f35n0_ok (a1 : List VariationPrice) {o : f35n0O} (h : (f35n0 a1) = some o) : T Try.prog Try.f35.ntmps 0 c35 (f35n0S a1) (fun r => r = f35n0E a1 o) := by
  unfold f35n0 at h
  refine runK_norm cfg_ok (k := 1) (rs := [([], [], [])]) (ps := []) (tds := []) (m := []) (keep := [0]) (st' := (f35n1S a1)) (by kernel_rfl) an ?_
  obtain ⟨o100, h101, h⟩ := bind_cases h
  cases o100 with
  | norm =>
    refine T.oneN (by kernel_rfl) (f35n1_ok a1 h101) (st2 := (f35n1E a1 .norm).2) rfl ?_
    obtain rfl := some_inj h
    exact run_end cfg_ok (rs := [([], [], [(1, .val (.pl (.int .i64 (a1.length : Int))))])]) (ps := []) (tds := []) (m := []) (keep := [2]) (r := (.ret, (f35n0E a1 (.ret (decide ((a1.length : Int) ≤ 200)))).2)) (by kernel_rfl) (ap (len_cv (xs := a1) (c := VariationPrice.cells)) an) rfl
  | ret =>
    obtain rfl := some_inj h
    exact T.oneX' (by kernel_rfl) (f35n1_ok a1 h101) (tds := []) (m := []) (keep := [2]) (st2 := (f35n0E a1 (.ret false)).2) (by kernel_rfl) an rfl rfl
noncomputable def f35 (a1 : List VariationPrice) : Option Bool := (f35n0 a1).bind fun o => match o with
  | .ret v102 => some v102
theorem f35_ok (a1 : List VariationPrice) {r : Bool} (h : (f35 a1) = some r) : CallS Try.prog false 35 [(.pl (.sl .any 2 (a1.map VariationPrice.cells)))] [] (.pl (.bool r)) [] := by
  unfold f35 at h
  obtain ⟨o, ho, h⟩ := bind_cases h
  cases o with
  | ret v102 =>
    obtain rfl := some_inj h
    exact CallS.plain cfg_ok (f := Try.f35) (c := c35) (by kernel_rfl) (by kernel_rfl) (by kernel_rfl) (by kernel_rfl) ((f35n0_ok a1 ho).mono fun r e => by subst e; exact ⟨.inl rfl, (.pl (.bool v102)), (.pl (.bool v102)), by kernel_rfl, by kernel_rfl, ((Wk.refl _) : Wk (.pl (.bool v102)) (.pl (.bool v102)))⟩)

noncomputable def c58 : Code := Try.f58.body.getD .skip
inductive f58n0O where
  | ret (v7 : Int)
def f58n0E (a1 : VariationPrice) (a2 : ByteArray) : f58n0O → Ex × Tr × Hp
  | .ret v7 => (.ret, mkS [(4, (.pl (.int .i64 v7)))], [])
def f58n0S (a1 : VariationPrice) (a2 : ByteArray) : Tr × Hp := (initS [(.pl (.agg (VariationPrice.cells a1))), (.pl (.str a2))] 0 .leaf, [])
noncomputable def f58n0 (a1 : VariationPrice) (a2 : ByteArray) : Option f58n0O :=
  (f40 a1.Product a2).bind fun x5 =>
  some (.ret x5)
theorem f58n0_ok (a1 : VariationPrice) (a2 : ByteArray) {o : f58n0O} (h : (f58n0 a1 a2) = some o) : T Try.prog Try.f58.ntmps 0 c58 (f58n0S a1 a2) (fun r => r = f58n0E a1 a2 o) := by
  unfold f58n0 at h
  obtain ⟨x5, h6, h⟩ := bind_cases h
  obtain rfl := some_inj h
  exact run_end cfg_ok (rs := [([], [], []), ([], [(3, .call (.pl (.int .i64 x5)) [])], [])]) (ps := []) (tds := []) (m := []) (keep := [4]) (r := (.ret, (f58n0E a1 a2 (.ret x5)).2)) (by kernel_rfl) (ap (f40_ok a1.Product a2 h6) an) rfl
noncomputable def f58 (a1 : VariationPrice) (a2 : ByteArray) : Option Int := (f58n0 a1 a2).bind fun o => match o with
  | .ret v7 => some v7
theorem f58_ok (a1 : VariationPrice) (a2 : ByteArray) {r : Int} (h : (f58 a1 a2) = some r) : CallS Try.prog false 58 [(.pl (.agg (VariationPrice.cells a1))), (.pl (.str a2))] [] (.pl (.int .i64 r)) [] := by
  unfold f58 at h
  obtain ⟨o, ho, h⟩ := bind_cases h
  cases o with
  | ret v7 =>
    obtain rfl := some_inj h
    exact CallS.plain cfg_ok (f := Try.f58) (c := c58) (by kernel_rfl) (by kernel_rfl) (by kernel_rfl) (by kernel_rfl) ((f58n0_ok a1 a2 ho).mono fun r e => by subst e; exact ⟨.inl rfl, (.pl (.int .i64 v7)), (.pl (.int .i64 v7)), by kernel_rfl, by kernel_rfl, ((Wk.refl _) : Wk (.pl (.int .i64 v7)) (.pl (.int .i64 v7)))⟩)

noncomputable def c57 : Code := Try.f57.body.getD .skip
inductive f57_58n1O where
  | exit0 (v43 : Int)
def f57_58n1E (a1 : List VariationPrice) (a2 : ByteArray) : f57_58n1O → Ex × Tr × Hp
  | .exit0 v43 => ((.exit 0), mkS [(0, (.pl (.sl .any 2 (a1.map VariationPrice.cells)))), (1, (.pl (.str a2))), (2, (.pl (.fn 58))), (8, (.pl (.int .i64 (a1.length : Int)))), (9, (.pl (.int .i64 v43)))], [])
def f57_58n1S (a1 : List VariationPrice) (a2 : ByteArray) (v29 : Int) (v30 : Int) : Tr × Hp := (mkS [(0, (.pl (.sl .any 2 (a1.map VariationPrice.cells)))), (1, (.pl (.str a2))), (2, (.pl (.fn 58))), (8, (.pl (.int .i64 (a1.length : Int)))), (9, (.pl (.int .i64 v29))), (10, (.pl (.int .i64 v30)))], [])
noncomputable def f57_58n1 : Nat → List VariationPrice → ByteArray → Int → Int → Option f57_58n1O
  | 0, _, _, _, _ => none
  | f + 1, a1, a2, v29, v30 =>
    bif (decide (v29 < v30)) then
      (at? a1 (wr64 (shrK .u64 (wru64 (wr64 (v29 + v30))) 1))).bind fun x38 =>
      (f58 x38 a2).bind fun x40 =>
      bif (decide (x40 < 0)) then
        (f57_58n1 f a1 a2 (wr64 ((wr64 (shrK .u64 (wru64 (wr64 (v29 + v30))) 1)) + 1)) v30)
      else
        (f57_58n1 f a1 a2 v29 (wr64 (shrK .u64 (wru64 (wr64 (v29 + v30))) 1)))
    else
      some (.exit0 v29)
theorem f57_58n1_ok : ∀ (f : Nat) (a1 : List VariationPrice) (a2 : ByteArray) (v29 : Int) (v30 : Int) {o : f57_58n1O}, (f57_58n1 f a1 a2 v29 v30) = some o → TL Try.prog Try.f57.ntmps 0 f (cL (cL (cL (dropC 3 c57)))) (f57_58n1S a1 a2 v29 v30) (fun r => r = f57_58n1E a1 a2 o)
  | 0, _, _, _, _, o, h => by rw [f57_58n1] at h; cases h
  | f + 1, a1, a2, v29, v30, o, h => by
    rw [f57_58n1] at h
    refine TL.body (K := fun s => ∃ v29 : Int, ∃ v30 : Int, s = (f57_58n1S a1 a2 v29 v30) ∧ (f57_58n1 f a1 a2 v29 v30) = some o) ?_ (by rintro _ ⟨v29, v30, rfl, hk⟩; exact f57_58n1_ok f _ _ _ _ hk)
    rcases cond_cases h with ⟨h32, h⟩ | ⟨h32, h⟩
    · obtain ⟨x38, h39, h⟩ := bind_cases h
      obtain ⟨x40, h41, h⟩ := bind_cases h
      rcases cond_cases h with ⟨h42, h⟩ | ⟨h42, h⟩
      · exact run_end cfg_ok (rs := [([], [], []), ([], [], []), ([], [(3, .idx (Int.toNat (wr64 (shrK .u64 (wru64 (wr64 (v29 + v30))) 1))) (VariationPrice.cells x38)), (6, .call (.pl (.int .i64 x40)) [])], []), ([], [], [])]) (ps := [some true, some true]) (tds := []) (m := []) (keep := [0, 1, 2, 8, 9, 10]) (r := (.norm, (f57_58n1S a1 a2 (wr64 ((wr64 (shrK .u64 (wru64 (wr64 (v29 + v30))) 1)) + 1)) v30))) (by kernel_rfl) (ap h32 (ap (at_some h39).1 (ap (at_map VariationPrice.cells (at_some h39).2) (ap (f58_ok x38 a2 h41) (ap h42 an))))) (LoopQ.norm ⟨(wr64 ((wr64 (shrK .u64 (wru64 (wr64 (v29 + v30))) 1)) + 1)), v30, rfl, h⟩)
      · exact run_end cfg_ok (rs := [([], [], []), ([], [], []), ([], [(3, .idx (Int.toNat (wr64 (shrK .u64 (wru64 (wr64 (v29 + v30))) 1))) (VariationPrice.cells x38)), (6, .call (.pl (.int .i64 x40)) [])], []), ([], [], [])]) (ps := [some true, some false]) (tds := []) (m := []) (keep := [0, 1, 2, 8, 9, 10]) (r := (.norm, (f57_58n1S a1 a2 v29 (wr64 (shrK .u64 (wru64 (wr64 (v29 + v30))) 1))))) (by kernel_rfl) (ap h32 (ap (at_some h39).1 (ap (at_map VariationPrice.cells (at_some h39).2) (ap (f58_ok x38 a2 h41) (ap h42 an))))) (LoopQ.norm ⟨v29, (wr64 (shrK .u64 (wru64 (wr64 (v29 + v30))) 1)), rfl, h⟩)
    · obtain rfl := some_inj h
      exact runK_end cfg_ok (k := 1) (rs := [([], [], [])]) (ps := [some false]) (tds := []) (m := []) (keep := [0, 1, 2, 8, 9]) (ex := (.exit 0)) (st' := (f57_58n1E a1 a2 (.exit0 v29)).2) (by kernel_rfl) (ap h32 an) (fun h => nomatch h) (LoopQ.out rfl rfl)
inductive f57_58n0O where
  | ret (v57 : Int) (v58 : Bool)
def f57_58n0E (a1 : List VariationPrice) (a2 : ByteArray) : f57_58n0O → Ex × Tr × Hp
  | .ret v57 v58 => (.ret, mkS [(6, (.pl (.int .i64 v57))), (7, (.pl (.bool v58)))], [])
def f57_58n0S (a1 : List VariationPrice) (a2 : ByteArray) : Tr × Hp := (initS [(.pl (.sl .any 2 (a1.map VariationPrice.cells))), (.pl (.str a2)), (.pl (.fn 58))] 0 .leaf, [])
noncomputable def f57_58n0 (a1 : List VariationPrice) (a2 : ByteArray) : Option f57_58n0O :=
  (f57_58n1 FUEL a1 a2 0 (a1.length : Int)).bind fun o44 => match o44 with
  | .exit0 v46 => bif (decide (v46 < (a1.length : Int))) then
      (at? a1 v46).bind fun x53 =>
      (f58 x53 a2).bind fun x55 =>
      some (.ret v46 (decide (x55 = 0)))
    else
      some (.ret v46 false)
theorem f57_58n0_ok (a1 : List VariationPrice) (a2 : ByteArray) {o : f57_58n0O} (h : (f57_58n0 a1 a2) = some o) : T Try.prog Try.f57.ntmps 0 c57 (f57_58n0S a1 a2) (fun r => r = f57_58n0E a1 a2 o) := by
  unfold f57_58n0 at h
  refine runK_norm cfg_ok (k := 3) (rs := [([], [], []), ([], [], [(1, .val (.pl (.int .i64 (a1.length : Int))))]), ([], [], [])]) (ps := []) (tds := []) (m := []) (keep := [0, 1, 2, 8, 9, 10]) (st' := (f57_58n1S a1 a2 0 (a1.length : Int))) (by kernel_rfl) (ap (len_cv (xs := a1) (c := VariationPrice.cells)) an) ?_
  obtain ⟨o44, h45, h⟩ := bind_cases h
  cases o44 with
  | exit0 v46 =>
    refine T.oneN (by kernel_rfl) (T.bl (i := 0) (by kernel_rfl) (by kernel_rfl) (f57_58n1_ok FUEL a1 a2 0 (a1.length : Int) h45)) (st2 := (f57_58n1E a1 a2 (.exit0 v46)).2) rfl ?_
    rcases cond_cases h with ⟨h52, h⟩ | ⟨h52, h⟩
    · obtain ⟨x53, h54, h⟩ := bind_cases h
      obtain ⟨x55, h56, h⟩ := bind_cases h
      obtain rfl := some_inj h
      exact run_end cfg_ok (rs := [([(5, true), (6, true), (7, true), (8, true), (9, true), (10, true), (11, true), (12, true)], [(8, .idx (Int.toNat v46) (VariationPrice.cells x53)), (11, .call (.pl (.int .i64 x55)) []), (13, .bool true)], [])]) (ps := []) (tds := []) (m := []) (keep := [6, 7]) (r := (.ret, (f57_58n0E a1 a2 (.ret v46 (decide (x55 = 0)))).2)) (by kernel_rfl) (ap h52 (ap h52 (ap h52 (ap h52 (ap (at_some h54).1 (ap (at_map VariationPrice.cells (at_some h54).2) (ap h52 (ap h52 (ap h52 (ap h52 (ap h52 (ap (f58_ok x53 a2 h56) an)))))))))))) rfl
    · obtain rfl := some_inj h
      exact run_end cfg_ok (rs := [([(5, false), (6, false), (7, false), (8, false), (9, false), (10, false), (11, false), (12, false)], [(13, .bool false)], [])]) (ps := []) (tds := []) (m := []) (keep := [6, 7]) (r := (.ret, (f57_58n0E a1 a2 (.ret v46 false)).2)) (by kernel_rfl) (ap h52 (ap h52 (ap h52 (ap h52 (ap h52 (ap h52 (ap h52 (ap h52 (ap h52 an))))))))) rfl
noncomputable def f57_58 (a1 : List VariationPrice) (a2 : ByteArray) : Option (Int × Bool) := (f57_58n0 a1 a2).bind fun o => match o with
  | .ret v57 v58 => some (v57, v58)
theorem f57_58_ok (a1 : List VariationPrice) (a2 : ByteArray) {r : Int × Bool} (h : (f57_58 a1 a2) = some r) : CallS Try.prog false 57 [(.pl (.sl .any 2 (a1.map VariationPrice.cells))), (.pl (.str a2)), (.pl (.fn 58))] [] (.tup [(.pl (.int .i64 r.1)), (.pl (.bool r.2))]) [] := by
  unfold f57_58 at h
  obtain ⟨o, ho, h⟩ := bind_cases h
  cases o with
  | ret v57 v58 =>
    obtain rfl := some_inj h
    exact CallS.plain cfg_ok (f := Try.f57) (c := c57) (by kernel_rfl) (by kernel_rfl) (by kernel_rfl) (by kernel_rfl) ((f57_58n0_ok a1 a2 ho).mono fun r e => by subst e; exact ⟨.inl rfl, (.tup [(.pl (.int .i64 v57)), (.pl (.bool v58))]), (.tup [(.pl (.int .i64 v57)), (.pl (.bool v58))]), by kernel_rfl, by kernel_rfl, ((Wk.refl _) : Wk (.tup [(.pl (.int .i64 v57)), (.pl (.bool v58))]) (.tup [(.pl (.int .i64 v57)), (.pl (.bool v58))]))⟩)

noncomputable def c36 : Code := Try.f36.body.getD .skip
inductive f36n0O where
  | ret (v15 : Int) (v16 : Bool)
def f36n0E (a1 : VariationPosition) (a2 : List VariationPrice) : f36n0O → Ex × Tr × Hp
  | .ret v15 v16 => (.ret, mkS [(4, (.pl (.int .i64 v15))), (5, (.pl (.bool v16)))], [])
def f36n0S (a1 : VariationPosition) (a2 : List VariationPrice) : Tr × Hp := (initS [(.pl (.agg (VariationPosition.cells a1))), (.pl (.sl .any 2 (a2.map VariationPrice.cells)))] 0 .leaf, [])
noncomputable def f36n0 (a1 : VariationPosition) (a2 : List VariationPrice) : Option f36n0O :=
  bif (decide (a1.Quantity = 0)) then
    some (.ret 0 true)
  else
    (f57_58 a2 a1.Product).bind fun x7 =>
    bif x7.2 then
      (at? a2 x7.1).bind fun x13 =>
      some (.ret (wr64 (a1.Quantity * x13.Price)) true)
    else
      some (.ret 0 false)
theorem f36n0_ok (a1 : VariationPosition) (a2 : List VariationPrice) {o : f36n0O} (h : (f36n0 a1 a2) = some o) : T Try.prog Try.f36.ntmps 0 c36 (f36n0S a1 a2) (fun r => r = f36n0E a1 a2 o) := by
  unfold f36n0 at h
  rcases cond_cases h with ⟨h4, h⟩ | ⟨h4, h⟩
  · obtain rfl := some_inj h
    exact runK_end cfg_ok (k := 2) (rs := [([], [], []), ([], [], []), ([], [], [])]) (ps := [some true]) (tds := []) (m := []) (keep := [4, 5]) (ex := .ret) (st' := (f36n0E a1 a2 (.ret 0 true)).2) (by kernel_rfl) (ap h4 an) (fun h => nomatch h) rfl
  · obtain ⟨x7, h8, h⟩ := bind_cases h
    rcases cond_cases h with ⟨h10, h⟩ | ⟨h10, h⟩
    · obtain ⟨x13, h14, h⟩ := bind_cases h
      obtain rfl := some_inj h
      exact run_end cfg_ok (rs := [([], [], []), ([], [], []), ([], [(3, .call (.tup [(.pl (.int .i64 x7.1)), (.pl (.bool x7.2))]) [])], []), ([], [], []), ([], [(4, .idx (Int.toNat x7.1) (VariationPrice.cells x13))], [])]) (ps := [some false, some false]) (tds := []) (m := []) (keep := [4, 5]) (r := (.ret, (f36n0E a1 a2 (.ret (wr64 (a1.Quantity * x13.Price)) true)).2)) (by kernel_rfl) (ap h4 (ap (f57_58_ok a2 a1.Product h8) (ap (not_t h10) (ap (at_some h14).1 (ap (at_map VariationPrice.cells (at_some h14).2) an))))) rfl
    · obtain rfl := some_inj h
      exact runK_end cfg_ok (k := 4) (rs := [([], [], []), ([], [], []), ([], [(3, .call (.tup [(.pl (.int .i64 x7.1)), (.pl (.bool x7.2))]) [])], []), ([], [], []), ([], [], [])]) (ps := [some false, some true]) (tds := []) (m := []) (keep := [4, 5]) (ex := .ret) (st' := (f36n0E a1 a2 (.ret 0 false)).2) (by kernel_rfl) (ap h4 (ap (f57_58_ok a2 a1.Product h8) (ap (not_f h10) an))) (fun h => nomatch h) rfl
noncomputable def f36 (a1 : VariationPosition) (a2 : List VariationPrice) : Option (Int × Bool) := (f36n0 a1 a2).bind fun o => match o with
  | .ret v15 v16 => some (v15, v16)
theorem f36_ok (a1 : VariationPosition) (a2 : List VariationPrice) {r : Int × Bool} (h : (f36 a1 a2) = some r) : CallS Try.prog false 36 [(.pl (.agg (VariationPosition.cells a1))), (.pl (.sl .any 2 (a2.map VariationPrice.cells)))] [] (.tup [(.pl (.int .i64 r.1)), (.pl (.bool r.2))]) [] := by
  unfold f36 at h
  obtain ⟨o, ho, h⟩ := bind_cases h
  cases o with
  | ret v15 v16 =>
    obtain rfl := some_inj h
    exact CallS.plain cfg_ok (f := Try.f36) (c := c36) (by kernel_rfl) (by kernel_rfl) (by kernel_rfl) (by kernel_rfl) ((f36n0_ok a1 a2 ho).mono fun r e => by subst e; exact ⟨.inl rfl, (.tup [(.pl (.int .i64 v15)), (.pl (.bool v16))]), (.tup [(.pl (.int .i64 v15)), (.pl (.bool v16))]), by kernel_rfl, by kernel_rfl, ((Wk.refl _) : Wk (.tup [(.pl (.int .i64 v15)), (.pl (.bool v16))]) (.tup [(.pl (.int .i64 v15)), (.pl (.bool v16))]))⟩)

noncomputable def c39 : Code := Try.f39.body.getD .skip
inductive f39n0O where
  | ret (v7 : Int)
def f39n0E (a1 : VariationPayment) (a2 : VariationPayment) : f39n0O → Ex × Tr × Hp
  | .ret v7 => (.ret, mkS [(4, (.pl (.int .i64 v7)))], [])
def f39n0S (a1 : VariationPayment) (a2 : VariationPayment) : Tr × Hp := (initS [(.pl (.agg (VariationPayment.cells a1))), (.pl (.agg (VariationPayment.cells a2)))] 0 .leaf, [])
noncomputable def f39n0 (a1 : VariationPayment) (a2 : VariationPayment) : Option f39n0O :=
  (f40 a1.Member a2.Member).bind fun x5 =>
  some (.ret x5)
theorem f39n0_ok (a1 : VariationPayment) (a2 : VariationPayment) {o : f39n0O} (h : (f39n0 a1 a2) = some o) : T Try.prog Try.f39.ntmps 0 c39 (f39n0S a1 a2) (fun r => r = f39n0E a1 a2 o) := by
  unfold f39n0 at h
  obtain ⟨x5, h6, h⟩ := bind_cases h
  obtain rfl := some_inj h
  exact run_end cfg_ok (rs := [([], [], []), ([], [(4, .call (.pl (.int .i64 x5)) [])], [])]) (ps := []) (tds := []) (m := []) (keep := [4]) (r := (.ret, (f39n0E a1 a2 (.ret x5)).2)) (by kernel_rfl) (ap (f40_ok a1.Member a2.Member h6) an) rfl
noncomputable def f39 (a1 : VariationPayment) (a2 : VariationPayment) : Option Int := (f39n0 a1 a2).bind fun o => match o with
  | .ret v7 => some v7
theorem f39_ok (a1 : VariationPayment) (a2 : VariationPayment) {r : Int} (h : (f39 a1 a2) = some r) : CallS Try.prog false 39 [(.pl (.agg (VariationPayment.cells a1))), (.pl (.agg (VariationPayment.cells a2)))] [] (.pl (.int .i64 r)) [] := by
  unfold f39 at h
  obtain ⟨o, ho, h⟩ := bind_cases h
  cases o with
  | ret v7 =>
    obtain rfl := some_inj h
    exact CallS.plain cfg_ok (f := Try.f39) (c := c39) (by kernel_rfl) (by kernel_rfl) (by kernel_rfl) (by kernel_rfl) ((f39n0_ok a1 a2 ho).mono fun r e => by subst e; exact ⟨.inl rfl, (.pl (.int .i64 v7)), (.pl (.int .i64 v7)), by kernel_rfl, by kernel_rfl, ((Wk.refl _) : Wk (.pl (.int .i64 v7)) (.pl (.int .i64 v7)))⟩)

instance : Inhabited VariationPayment := ⟨by constructor <;> exact default⟩
theorem f61_val (a : ByteArray) : f61 a = some false := by
  unfold f61 f61n0
  simp [seq_refl]
theorem f40_val (a b : ByteArray) : f40 a b = some (cmpB a b) := by
  unfold f40 f40n0 cmpB
  rw [f61_val, f61_val]
  simp only [Option.bind_some, cond_false]
  cases slt a b <;> cases seq a b <;> rfl
theorem f39_val (x y : VariationPayment) : f39 x y = some (cmpB x.Member y.Member) := by
  unfold f39 f39n0
  rw [f40_val]
  rfl
def so38_39 (xs : List VariationPayment) : Option (List VariationPayment) := bif decide (xs.length < 4611686018427387904) && nodupK (fun x => x.Member) xs then some (isort (fun x => x.Member) xs) else none
theorem so38_39_ok (xs : List VariationPayment) {r : List VariationPayment} (h : so38_39 xs = some r) :
    CallS Try.prog true 38 [.own 0, .pl (.fn 39)] [some (.row false 2 (xs.map VariationPayment.cells))] (.tup []) [some (.row false 2 (r.map VariationPayment.cells))] := by
  unfold so38_39 at h
  cases hc : (decide (xs.length < 4611686018427387904) && nodupK (fun x => x.Member) xs) with
  | false => rw [hc] at h; cases h
  | true =>
    rw [hc] at h
    simp only [cond_true, Option.some.injEq] at h
    rw [Bool.and_eq_true] at hc
    subst h
    rw [← sortL_isort (fun x : VariationPayment => x.Member) hc.2]
    exact sort_callS (cells := VariationPayment.cells) so_lays rfl so_agg so_size (enters_of Try.func38 (by kernel_rfl) rfl) (fun _ => rfl) (fun x q hq => by
      simp only [VariationPayment.cells, List.mem_cons, List.not_mem_nil, or_false] at hq
      rcases hq with rfl | rfl <;> rfl) _ (swo_key fun x => x.Member) (fun x y => f39_ok _ _ (f39_val x y)) xs (of_decide_eq_true hc.1)


noncomputable def c14 : Code := Try.f14.body.getD .skip
inductive f14n1O where
  | norm (v29 : Int)
def f14n1E (be1 : Int) (bh2 : List VariationPrice) (be3 : Int) (ba4 : Variation) : f14n1O → Ex × Tr × Hp
  | .norm v29 => (.norm, mkS [(1, (.pl (.int .i64 be1))), (2, (.pl (.sl .any 2 (bh2.map VariationPrice.cells)))), (3, (.bp 0 0)), (6, (.bp 1 0)), (9, (.pl (.int .i64 v29)))], [some (.box ((Variation.cells ba4).map .pl)), some (.box [(.pl (.int .i64 0)), (.pl (.sl .nil 0 []))])])
def f14n1S (be1 : Int) (bh2 : List VariationPrice) (be3 : Int) (ba4 : Variation) : Tr × Hp := (mkS [(1, (.pl (.int .i64 be1))), (2, (.pl (.sl .any 2 (bh2.map VariationPrice.cells)))), (3, (.bp 0 0)), (6, (.bp 1 0)), (9, (.pl (.int .i64 be3)))], [some (.box ((Variation.cells ba4).map .pl)), some (.box [(.pl (.int .i64 0)), (.pl (.sl .nil 0 []))])])
noncomputable def f14n1 (be1 : Int) (bh2 : List VariationPrice) (be3 : Int) (ba4 : Variation) : Option f14n1O :=
  bif (decide (be3 = 0)) then
    bif (decide (be1 < 0)) then
      some (.norm 2)
    else
      bif (decide (99999 < be1)) then
        some (.norm 2)
      else
        (f35 bh2).bind fun x25 =>
        bif x25 then
          bif (decide (be1 ≤ ba4.Day)) then
            some (.norm 21)
          else
            some (.norm be3)
        else
          some (.norm 2)
  else
    some (.norm be3)
theorem f14n1_ok (be1 : Int) (bh2 : List VariationPrice) (be3 : Int) (ba4 : Variation) {o : f14n1O} (h : (f14n1 be1 bh2 be3 ba4) = some o) : T Try.prog Try.f14.ntmps 0 (cL (dropC 2 c14)) (f14n1S be1 bh2 be3 ba4) (fun r => r = f14n1E be1 bh2 be3 ba4 o) := by
  unfold f14n1 at h
  rcases cond_cases h with ⟨h22, h⟩ | ⟨h22, h⟩
  · rcases cond_cases h with ⟨h23, h⟩ | ⟨h23, h⟩
    · obtain rfl := some_inj h
      exact run_end cfg_ok (rs := [([], [], []), ([(3, true), (4, true)], [(5, .bool true)], []), ([], [], [])]) (ps := [some false, none]) (tds := []) (m := [0, 1]) (keep := [1, 2, 3, 6, 9]) (r := (.norm, (f14n1E be1 bh2 be3 ba4 (.norm 2)).2)) (by kernel_rfl) (ap (not_t h22) (ap h23 (ap h23 (ap h23 an)))) rfl
    · rcases cond_cases h with ⟨h24, h⟩ | ⟨h24, h⟩
      · obtain rfl := some_inj h
        exact run_end cfg_ok (rs := [([], [], []), ([(3, false), (4, false), (7, true), (8, true), (9, true)], [(5, .bool false), (10, .bool true)], []), ([], [], [])]) (ps := [some false, none]) (tds := []) (m := [0, 1]) (keep := [1, 2, 3, 6, 9]) (r := (.norm, (f14n1E be1 bh2 be3 ba4 (.norm 2)).2)) (by kernel_rfl) (ap (not_t h22) (ap h23 (ap h23 (ap h23 (ap h24 (ap h24 (ap h24 (ap h24 an)))))))) rfl
      · obtain ⟨x25, h26, h⟩ := bind_cases h
        rcases cond_cases h with ⟨h27, h⟩ | ⟨h27, h⟩
        · rcases cond_cases h with ⟨h28, h⟩ | ⟨h28, h⟩
          · obtain rfl := some_inj h
            exact run_end cfg_ok (rs := [([], [], []), ([(3, false), (4, false), (7, false), (8, false), (9, false)], [(5, .bool false), (8, .call (.pl (.bool x25)) []), (10, .bool false)], []), ([], [], []), ([], [], [])]) (ps := [some false, some false, some true]) (tds := []) (m := [0, 1]) (keep := [1, 2, 3, 6, 9]) (r := (.norm, (f14n1E be1 bh2 be3 ba4 (.norm 21)).2)) (by kernel_rfl) (ap (not_t h22) (ap h23 (ap h23 (ap h23 (ap h24 (ap h24 (ap h24 (ap h24 (ap (f35_ok bh2 h26) (ap (not_t h27) (ap h28 an))))))))))) rfl
          · obtain rfl := some_inj h
            exact run_end cfg_ok (rs := [([], [], []), ([(3, false), (4, false), (7, false), (8, false), (9, false)], [(5, .bool false), (8, .call (.pl (.bool x25)) []), (10, .bool false)], []), ([], [], [])]) (ps := [some false, some false, some false]) (tds := []) (m := [0, 1]) (keep := [1, 2, 3, 6, 9]) (r := (.norm, (f14n1E be1 bh2 be3 ba4 (.norm be3)).2)) (by kernel_rfl) (ap (not_t h22) (ap h23 (ap h23 (ap h23 (ap h24 (ap h24 (ap h24 (ap h24 (ap (f35_ok bh2 h26) (ap (not_t h27) (ap h28 an))))))))))) rfl
        · obtain rfl := some_inj h
          exact run_end cfg_ok (rs := [([], [], []), ([(3, false), (4, false), (7, false), (8, false), (9, false)], [(5, .bool false), (8, .call (.pl (.bool x25)) []), (10, .bool false)], []), ([], [], [])]) (ps := [some false, some true]) (tds := []) (m := [0, 1]) (keep := [1, 2, 3, 6, 9]) (r := (.norm, (f14n1E be1 bh2 be3 ba4 (.norm 2)).2)) (by kernel_rfl) (ap (not_t h22) (ap h23 (ap h23 (ap h23 (ap h24 (ap h24 (ap h24 (ap h24 (ap (f35_ok bh2 h26) (ap (not_f h27) an)))))))))) rfl
  · obtain rfl := some_inj h
    exact run_end cfg_ok (rs := [([], [], [])]) (ps := [some true]) (tds := []) (m := [0, 1]) (keep := [1, 2, 3, 6, 9]) (r := (.norm, (f14n1E be1 bh2 be3 ba4 (.norm be3)).2)) (by kernel_rfl) (ap (not_f h22) an) rfl
inductive f14n3O where
  | exit1 (v87 : List (ByteArray × Int)) (v88 : List VariationPosition)
  | ret
def f14n3E (bh1 : List VariationPrice) (ba2 : Variation) (be3 : Int) : f14n3O → Ex × Tr × Hp
  | .exit1 v87 v88 => ((.exit 1), mkS [(6, (.bp 0 0)), (10, (.bp 1 0)), (11, (.mp 2))], [some (.box [(.pl (.int .i64 0)), (.pl (.sl .nil 0 []))]), some (.box [(.pl (.int .i64 be3)), (.own 3)]), some (.map (v87.map (mkv pStr (pInt .i64)))), some (.row false 4 (v88.map VariationPosition.cells))])
  | .ret => (.ret, mkS [(6, (.bp 0 0)), (7, (.pl (.sl .nil 0 []))), (8, (.pl (.int .i64 30)))], [some (.box [(.pl (.int .i64 0)), (.pl (.sl .nil 0 []))])])
def f14n3S (bh1 : List VariationPrice) (ba2 : Variation) (be3 : Int) (v68 : Int) (v69 : List (ByteArray × Int)) (v70 : List VariationPosition) : Tr × Hp := (mkS [(2, (.pl (.sl .any 2 (bh1.map VariationPrice.cells)))), (6, (.bp 0 0)), (10, (.bp 1 0)), (11, (.mp 2)), (49, (.pl (.sl .any 4 (ba2.Positions.map VariationPosition.cells)))), (50, (.pl (.int .i64 (ba2.Positions.length : Int)))), (51, (.pl (.int .i64 v68)))], [some (.box [(.pl (.int .i64 0)), (.pl (.sl .nil 0 []))]), some (.box [(.pl (.int .i64 be3)), (.own 3)]), some (.map (v69.map (mkv pStr (pInt .i64)))), some (.row false 4 (v70.map VariationPosition.cells))])
noncomputable def f14n3 : Nat → List VariationPrice → Variation → Int → Int → List (ByteArray × Int) → List VariationPosition → Option f14n3O
  | 0, _, _, _, _, _, _ => none
  | f + 1, bh1, ba2, be3, v68, v69, v70 =>
    bif (decide (v68 < (ba2.Positions.length : Int))) then
      (at? ba2.Positions v68).bind fun x80 =>
      (f36 x80 bh1).bind fun x82 =>
      bif x82.2 then
        bif (decide (x80.Quantity = 0)) then
          (f14n3 f bh1 ba2 be3 (wr64 (v68 + 1)) (mPut seq x80.Member (wr64 ((mGet seq 0 x80.Member v69) + (wr64 (x82.1 - x80.Basis)))) v69) v70)
        else
          req (fit (v70.length + 1) 48) <|
          (f14n3 f bh1 ba2 be3 (wr64 (v68 + 1)) (mPut seq x80.Member (wr64 ((mGet seq 0 x80.Member v69) + (wr64 (x82.1 - x80.Basis)))) v69) (v70 ++ [(VariationPosition.mk x80.Member x80.Product x80.Quantity x82.1)]))
      else
        some .ret
    else
      some (.exit1 v69 v70)
theorem f14n3_ok : ∀ (f : Nat) (bh1 : List VariationPrice) (ba2 : Variation) (be3 : Int) (v68 : Int) (v69 : List (ByteArray × Int)) (v70 : List VariationPosition) {o : f14n3O}, (f14n3 f bh1 ba2 be3 v68 v69 v70) = some o → TL Try.prog Try.f14.ntmps 0 f (cL (cL (dropC 1 (cL (dropC 3 (dropC 1 (dropC 2 c14))))))) (f14n3S bh1 ba2 be3 v68 v69 v70) (fun r => r = f14n3E bh1 ba2 be3 o)
  | 0, _, _, _, _, _, _, o, h => by rw [f14n3] at h; cases h
  | f + 1, bh1, ba2, be3, v68, v69, v70, o, h => by
    rw [f14n3] at h
    refine TL.body (K := fun s => ∃ v68 : Int, ∃ v69 : List (ByteArray × Int), ∃ v70 : List VariationPosition, s = (f14n3S bh1 ba2 be3 v68 v69 v70) ∧ (f14n3 f bh1 ba2 be3 v68 v69 v70) = some o) ?_ (by rintro _ ⟨v68, v69, v70, rfl, hk⟩; exact f14n3_ok f _ _ _ _ _ _ hk)
    rcases cond_cases h with ⟨h72, h⟩ | ⟨h72, h⟩
    · obtain ⟨x80, h81, h⟩ := bind_cases h
      obtain ⟨x82, h83, h⟩ := bind_cases h
      rcases cond_cases h with ⟨h84, h⟩ | ⟨h84, h⟩
      · rcases cond_cases h with ⟨h85, h⟩ | ⟨h85, h⟩
        · exact run_end cfg_ok (rs := [([], [], []), ([], [(0, .idx (Int.toNat v68) (VariationPosition.cells x80))], []), ([], [(2, .call (.tup [(.pl (.int .i64 x82.1)), (.pl (.bool x82.2))]) [])], []), ([], [], []), ([], [(3, .look ((pInt .i64) (mGet seq 0 x80.Member v69)) (mHas seq x80.Member v69)), (9, .mset ((mPut seq x80.Member (wr64 ((mGet seq 0 x80.Member v69) + (wr64 (x82.1 - x80.Basis)))) v69).map (mkv pStr (pInt .i64))))], []), ([], [], []), ([], [], []), ([], [], [])]) (ps := [some true, some false, some false]) (tds := []) (m := [0, 1, 2, 3]) (keep := [2, 6, 10, 11, 49, 50, 51]) (r := (.norm, (f14n3S bh1 ba2 be3 (wr64 (v68 + 1)) (mPut seq x80.Member (wr64 ((mGet seq 0 x80.Member v69) + (wr64 (x82.1 - x80.Basis)))) v69) v70))) (by kernel_rfl) (ap h72 (ap (at_some h81).1 (ap (at_map VariationPosition.cells (at_some h81).2) (ap (f36_ok x80 bh1 h83) (ap (not_t h84) (ap (look_map (vp := (pInt .i64)) (e := 3) key_9 0 (by kernel_rfl) x80.Member v69) (ap (mset_map (vp := (pInt .i64)) key_9 x80.Member (wr64 ((mGet seq 0 x80.Member v69) + (wr64 (x82.1 - x80.Basis)))) v69) (ap (not_t h85) an)))))))) (LoopQ.norm ⟨(wr64 (v68 + 1)), (mPut seq x80.Member (wr64 ((mGet seq 0 x80.Member v69) + (wr64 (x82.1 - x80.Basis)))) v69), v70, rfl, h⟩)
        · obtain ⟨h86, h⟩ := req_cases h
          exact run_end cfg_ok (rs := [([], [], []), ([], [(0, .idx (Int.toNat v68) (VariationPosition.cells x80))], []), ([], [(2, .call (.tup [(.pl (.int .i64 x82.1)), (.pl (.bool x82.2))]) [])], []), ([], [], []), ([], [(3, .look ((pInt .i64) (mGet seq 0 x80.Member v69)) (mHas seq x80.Member v69)), (9, .mset ((mPut seq x80.Member (wr64 ((mGet seq 0 x80.Member v69) + (wr64 (x82.1 - x80.Basis)))) v69).map (mkv pStr (pInt .i64))))], []), ([], [], []), ([], [], []), ([], [(4, .fits)], [(4, .row 6 ((v70 ++ [(VariationPosition.mk x80.Member x80.Product x80.Quantity x82.1)]).map VariationPosition.cells))]), ([], [], [])]) (ps := [some true, some false, some true]) (tds := []) (m := [0, 1, 2, 6]) (keep := [2, 6, 10, 11, 49, 50, 51]) (r := (.norm, (f14n3S bh1 ba2 be3 (wr64 (v68 + 1)) (mPut seq x80.Member (wr64 ((mGet seq 0 x80.Member v69) + (wr64 (x82.1 - x80.Basis)))) v69) (v70 ++ [(VariationPosition.mk x80.Member x80.Product x80.Quantity x82.1)])))) (by kernel_rfl) (ap h72 (ap (at_some h81).1 (ap (at_map VariationPosition.cells (at_some h81).2) (ap (f36_ok x80 bh1 h83) (ap (not_t h84) (ap (look_map (vp := (pInt .i64)) (e := 3) key_9 0 (by kernel_rfl) x80.Member v69) (ap (mset_map (vp := (pInt .i64)) key_9 x80.Member (wr64 ((mGet seq 0 x80.Member v69) + (wr64 (x82.1 - x80.Basis)))) v69) (ap (not_f h85) (ap (fit_map (te := ti52) (xs := v70) (n := 1) (c := VariationPosition.cells) h86 rfl) (ap (app_cv (xs := v70) (ys := [(VariationPosition.mk x80.Member x80.Product x80.Quantity x82.1)]) (c := VariationPosition.cells)) an)))))))))) (LoopQ.norm ⟨(wr64 (v68 + 1)), (mPut seq x80.Member (wr64 ((mGet seq 0 x80.Member v69) + (wr64 (x82.1 - x80.Basis)))) v69), (v70 ++ [(VariationPosition.mk x80.Member x80.Product x80.Quantity x82.1)]), rfl, h⟩)
      · obtain rfl := some_inj h
        exact runK_end cfg_ok (k := 3) (rs := [([], [], []), ([], [(0, .idx (Int.toNat v68) (VariationPosition.cells x80))], []), ([], [(2, .call (.tup [(.pl (.int .i64 x82.1)), (.pl (.bool x82.2))]) [])], []), ([], [], []), ([], [], [])]) (ps := [some true, some true]) (tds := []) (m := [0]) (keep := [6, 7, 8]) (ex := .ret) (st' := (f14n3E bh1 ba2 be3 .ret).2) (by kernel_rfl) (ap h72 (ap (at_some h81).1 (ap (at_map VariationPosition.cells (at_some h81).2) (ap (f36_ok x80 bh1 h83) (ap (not_f h84) an))))) (fun h => nomatch h) (LoopQ.out rfl rfl)
    · obtain rfl := some_inj h
      exact runK_end cfg_ok (k := 2) (rs := [([], [], [])]) (ps := [some false]) (tds := []) (m := [0, 1, 2, 3]) (keep := [6, 10, 11]) (ex := (.exit 1)) (st' := (f14n3E bh1 ba2 be3 (.exit1 v69 v70)).2) (by kernel_rfl) (ap h72 an) (fun h => nomatch h) (LoopQ.out rfl rfl)
noncomputable def f14n3L (bh1 : List VariationPrice) (ba2 : Variation) (be3 : Int) : List VariationPosition → Int → (List (ByteArray × Int)) → (List VariationPosition) → Option f14n3O
  | [], v68, v69, v70 =>
    some (.exit1 v69 v70)
  | x0 :: rest, v68, v69, v70 =>
    (f36 x0 bh1).bind fun x82 =>
    bif x82.2 then
      bif (decide (x0.Quantity = 0)) then
        (f14n3L bh1 ba2 be3 rest (v68 + 1) (mPut seq x0.Member (wr64 ((mGet seq 0 x0.Member v69) + (wr64 (x82.1 - x0.Basis)))) v69) v70)
      else
        req (fit (v70.length + 1) 48) <|
        (f14n3L bh1 ba2 be3 rest (v68 + 1) (mPut seq x0.Member (wr64 ((mGet seq 0 x0.Member v69) + (wr64 (x82.1 - x0.Basis)))) v69) (v70 ++ [(VariationPosition.mk x0.Member x0.Product x0.Quantity x82.1)]))
    else
      some .ret
theorem f14n3L_eq (bh1 : List VariationPrice) (ba2 : Variation) (be3 : Int) : ∀ (rest : List VariationPosition) (f k : Nat) (v69 : List (ByteArray × Int)) (v70 : List VariationPosition), ba2.Positions.drop k = rest → ba2.Positions.length ≤ maxLen → rest.length < f → f14n3 f bh1 ba2 be3 (k : Int) v69 v70 = f14n3L bh1 ba2 be3 rest (k : Int) v69 v70
  | _, 0, _, _, _, _, _, hf => absurd hf (Nat.not_lt_zero _)
  | [], f + 1, k, v69, v70, hd, hm, hf => by
    have hk : ¬ ((k : Int) < (ba2.Positions.length : Int)) := by have := drop_nil hd; omega
    rw [f14n3, f14n3L]
    simp only [decide_eq_false hk, cond_false]
  | x0 :: rest, f + 1, k, v69, v70, hd, hm, hf => by
    obtain ⟨hx, hlt, hd'⟩ := drop_cons hd
    have hk : (k : Int) < (ba2.Positions.length : Int) := by omega
    have hw : wr64 ((k : Int) + 1) = (k : Int) + 1 := wr64_of (by omega) (by unfold maxLen at hm; omega)
    have ih : ∀ (v69 : List (ByteArray × Int)) (v70 : List VariationPosition), f14n3 f bh1 ba2 be3 ((k : Int) + 1) v69 v70 = f14n3L bh1 ba2 be3 rest ((k : Int) + 1) v69 v70 := fun v69 v70 => f14n3L_eq bh1 ba2 be3 rest f (k + 1) v69 v70 hd' hm (by simpa using hf)
    rw [f14n3, f14n3L]
    simp only [decide_eq_true hk, cond_true, at_nat, hx, Option.bind_some, hw, ih]
theorem f14n3_run (bh1 : List VariationPrice) (ba2 : Variation) (be3 : Int) (v69 : List (ByteArray × Int)) (v70 : List VariationPosition) (hm : ba2.Positions.length ≤ maxLen) : f14n3 FUEL bh1 ba2 be3 0 v69 v70 = f14n3L bh1 ba2 be3 ba2.Positions 0 v69 v70 := f14n3L_eq bh1 ba2 be3 ba2.Positions FUEL 0 v69 v70 List.drop_zero hm (lt_FUEL hm)
inductive f14n2O where
  | norm (v93 : List (ByteArray × Int)) (v94 : List VariationPosition)
  | ret
def f14n2E (bh1 : List VariationPrice) (ba2 : Variation) (be3 : Int) : f14n2O → Ex × Tr × Hp
  | .norm v93 v94 => (.norm, mkS [(6, (.bp 0 0)), (10, (.bp 1 0)), (11, (.mp 2))], [some (.box [(.pl (.int .i64 0)), (.pl (.sl .nil 0 []))]), some (.box [(.pl (.int .i64 be3)), (.own 3)]), some (.map (v93.map (mkv pStr (pInt .i64)))), some (.row false 4 (v94.map VariationPosition.cells))])
  | .ret => (.ret, mkS [(6, (.bp 0 0)), (7, (.pl (.sl .nil 0 []))), (8, (.pl (.int .i64 30)))], [some (.box [(.pl (.int .i64 0)), (.pl (.sl .nil 0 []))])])
def f14n2S (bh1 : List VariationPrice) (ba2 : Variation) (be3 : Int) : Tr × Hp := (mkS [(2, (.pl (.sl .any 2 (bh1.map VariationPrice.cells)))), (3, (.bp 0 0)), (6, (.bp 1 0)), (10, (.bp 2 0)), (11, (.mp 3))], [some (.box ((Variation.cells ba2).map .pl)), some (.box [(.pl (.int .i64 0)), (.pl (.sl .nil 0 []))]), some (.box [(.pl (.int .i64 be3)), (.pl (.sl .nil 0 []))]), some (.map ([].map (mkv pStr (pInt .i64))))])
noncomputable def f14n2 (bh1 : List VariationPrice) (ba2 : Variation) (be3 : Int) : Option f14n2O :=
  (f14n3 FUEL bh1 ba2 be3 0 [] []).bind fun o89 => match o89 with
  | .exit1 v91 v92 => some (.norm v91 v92)
  | .ret => some .ret
theorem f14n2_ok (bh1 : List VariationPrice) (ba2 : Variation) (be3 : Int) {o : f14n2O} (h : (f14n2 bh1 ba2 be3) = some o) : T Try.prog Try.f14.ntmps 0 (cL (dropC 3 (dropC 1 (dropC 2 c14)))) (f14n2S bh1 ba2 be3) (fun r => r = f14n2E bh1 ba2 be3 o) := by
  unfold f14n2 at h
  refine runK_norm cfg_ok (k := 1) (rs := [([], [], [(2, .val (.pl (.int .i64 (ba2.Positions.length : Int))))])]) (ps := []) (tds := [.matC 2 1 4]) (m := [1, 2, 3, 4]) (keep := [2, 6, 10, 11, 49, 50, 51]) (st' := (f14n3S bh1 ba2 be3 0 [] [])) (by kernel_rfl) (ap (len_cv (xs := ba2.Positions) (c := VariationPosition.cells)) an) ?_
  obtain ⟨o89, h90, h⟩ := bind_cases h
  cases o89 with
  | exit1 v91 v92 =>
    obtain rfl := some_inj h
    exact T.last' (T.bl (i := 1) (by kernel_rfl) (by kernel_rfl) (f14n3_ok FUEL bh1 ba2 be3 0 [] [] h90)) (tds := []) (m := [0, 1, 2, 3]) (keep := [6, 10, 11]) (st2 := (f14n2E bh1 ba2 be3 (.norm v91 v92)).2) (by kernel_rfl) an rfl
  | ret =>
    obtain rfl := some_inj h
    exact T.last' (T.bl (i := 1) (by kernel_rfl) (by kernel_rfl) (f14n3_ok FUEL bh1 ba2 be3 0 [] [] h90)) (tds := []) (m := [0]) (keep := [6, 7, 8]) (st2 := (f14n2E bh1 ba2 be3 .ret).2) (by kernel_rfl) an rfl
inductive f14n5O where
  | exit3 (v138 : List VariationPayment)
  | ret
def f14n5E (be1 : Int) (bg3 : List VariationPosition) (bi2 : List (ByteArray × Int)) : f14n5O → Ex × Tr × Hp
  | .exit3 v138 => ((.exit 3), mkS [(6, (.bp 0 0)), (10, (.bp 1 0)), (16, (.own 2))], [some (.box [(.pl (.int .i64 0)), (.pl (.sl .nil 0 []))]), some (.box [(.pl (.int .i64 be1)), (.own 3)]), some (.row false 2 (v138.map VariationPayment.cells)), some (.row false 4 (bg3.map VariationPosition.cells))])
  | .ret => (.ret, mkS [(6, (.bp 0 0)), (7, (.pl (.sl .nil 0 []))), (8, (.pl (.int .i64 14)))], [some (.box [(.pl (.int .i64 0)), (.pl (.sl .nil 0 []))])])
def f14n5S (be1 : Int) (bg3 : List VariationPosition) (bi2 : List (ByteArray × Int)) (v124 : List VariationPayment) (sn0 : List Nat) : Tr × Hp := (mkS [(6, (.bp 0 0)), (10, (.bp 1 0)), (16, (.own 2)), (86, (.it 3))], [some (.box [(.pl (.int .i64 0)), (.pl (.sl .nil 0 []))]), some (.box [(.pl (.int .i64 be1)), (.own 4)]), some (.row false 2 (v124.map VariationPayment.cells)), some (.iter 5 (bi2.map (mkv pStr (pInt .i64))).length sn0), some (.row false 4 (bg3.map VariationPosition.cells)), some (.map (bi2.map (mkv pStr (pInt .i64))))])
noncomputable def f14n5 (be1 : Int) (bg3 : List VariationPosition) (bi2 : List (ByteArray × Int)) : List (ByteArray × Int) → (List VariationPayment) → Option f14n5O
  | [], v124 =>
    some (.exit3 v124)
  | x126 :: rest, v124 =>
    (f37 x126.2 1125899906842624).bind fun x133 =>
    bif x133 then
      bif (decide (x126.2 = 0)) then
        (f14n5 be1 bg3 bi2 rest v124)
      else
        req (fit (v124.length + 1) 24) <|
        (f14n5 be1 bg3 bi2 rest (v124 ++ [(VariationPayment.mk x126.1 x126.2)]))
    else
      some .ret
theorem f14n5_ok (be1 : Int) (bg3 : List VariationPosition) (bi2 : List (ByteArray × Int)) : ∀ (f : Nat) (sn0 rem : List Nat) (v124 : List VariationPayment) {Q : f14n5O → Prop}, Rem bi2.length sn0 rem → rem.length < f → (∀ p, p.Perm rem → ∃ o, f14n5 be1 bg3 bi2 (ords bi2 p) v124 = some o ∧ Q o) → TL Try.prog Try.f14.ntmps 0 f (cL (cL (dropC 1 (cL (dropC 1 (dropC 1 (dropC 3 (dropC 1 (dropC 2 c14))))))))) (f14n5S be1 bg3 bi2 v124 sn0) (fun r => ∃ o, Q o ∧ r = f14n5E be1 bg3 bi2 o)
  | 0, _, _, _, _, _, hf, _ => absurd hf (Nat.not_lt_zero _)
  | f + 1, sn0, rem, v124, Q, hR, hf, H => by
    refine TL.bodyQ (K := fun s => ∃ (sn0 rem : List Nat) (v124 : List VariationPayment), s = f14n5S be1 bg3 bi2 v124 sn0 ∧ Rem bi2.length sn0 rem ∧ rem.length < f ∧ (∀ p, p.Perm rem → ∃ o, f14n5 be1 bg3 bi2 (ords bi2 p) v124 = some o ∧ Q o)) ?_ (by rintro _ ⟨sn0, rem, v124, rfl, h1, h2, h3⟩; exact f14n5_ok be1 bg3 bi2 f sn0 rem v124 h1 h2 h3)
    refine T.oneNext cfg_ok (x := .tmp 86) (t := 87) (tb := 88) (i := 3) (o := 5) (m := (bi2.map (mkv pStr (pInt .i64))).length) (seen := sn0) (kvs := (bi2.map (mkv pStr (pInt .i64)))) (by kernel_rfl) (by kernel_rfl) (by kernel_rfl) (by kernel_rfl) (by kernel_rfl) (by kernel_rfl) rfl (fun hs => ?_) (fun j125 k v hj hs hx => ?_)
    · obtain rfl := hR.none (by simpa using hs)
      obtain ⟨o, h0, hq⟩ := H [] (List.Perm.refl _)
      have h : f14n5 be1 bg3 bi2 [] v124 = some o := h0
      rw [f14n5] at h
      obtain rfl := some_inj h
      exact runK_end cfg_ok (k := 1) (rs := []) (ps := [none]) (tds := []) (m := [0, 1, 2, 4]) (keep := [6, 10, 16]) (ex := (.exit 3)) (st' := (f14n5E be1 bg3 bi2 (.exit3 v124)).2) (by kernel_rfl) an (fun h => nomatch h) (LoopQ2.out ⟨_, hq, rfl⟩ rfl)
    · obtain ⟨x126, h127, rfl, rfl⟩ := mkv_at hx
      obtain ⟨hR2, hlen, hP⟩ := hR.step (j := j125) (by simpa using hj) hs
      have H2 : ∀ p, p.Perm (rem.erase j125) → ∃ o, f14n5 be1 bg3 bi2 (x126 :: ords bi2 p) v124 = some o ∧ Q o := fun p hp => by obtain ⟨o, h, hq⟩ := H _ (hP p hp); rw [ords_cons h127] at h; exact ⟨o, h, hq⟩
      obtain ⟨o, h, hq⟩ := H2 _ (List.Perm.refl _)
      rw [f14n5] at h
      obtain ⟨x133, h134, h⟩ := bind_cases h
      rcases cond_cases h with ⟨h135, h⟩ | ⟨h135, h⟩
      · rcases cond_cases h with ⟨h136, h⟩ | ⟨h136, h⟩
        · exact run_end cfg_ok (rs := [([], [(0, .entr j125 (pStr x126.1) ((pInt .i64) x126.2))], []), ([], [(1, .call (.pl (.bool x133)) [])], []), ([], [], [])]) (ps := [none, some false, some false]) (tds := []) (m := [0, 1, 2, 3, 4, 5]) (keep := [6, 10, 16, 86]) (r := (.norm, (f14n5S be1 bg3 bi2 v124 (sn0 ++ [j125])))) (by kernel_rfl) (ap (last_app (seen := sn0) (j := j125)) (ap (rfl : (bi2.map (mkv pStr (pInt .i64))).length = (bi2.map (mkv pStr (pInt .i64))).length) (ap (at_mkv (kp := pStr) (vp := (pInt .i64)) h127) (ap (f37_ok x126.2 1125899906842624 h134) (ap (not_t h135) (ap (not_t h136) an)))))) (LoopQ2.norm ⟨sn0 ++ [j125], rem.erase j125, v124, rfl, hR2, by omega, fun p hp => by obtain ⟨o, h, hq⟩ := H2 p hp; refine ⟨o, ?_, hq⟩; rw [f14n5] at h; simp only [h134, h135, h136, cond_true, cond_false, Option.bind_some, req] at h; exact h⟩)
        · obtain ⟨h137, h⟩ := req_cases h
          exact run_end cfg_ok (rs := [([], [(0, .entr j125 (pStr x126.1) ((pInt .i64) x126.2))], []), ([], [(1, .call (.pl (.bool x133)) [])], []), ([], [], []), ([], [(5, .fits)], [(5, .row 7 ((v124 ++ [(VariationPayment.mk x126.1 x126.2)]).map VariationPayment.cells))])]) (ps := [none, some false, some true]) (tds := []) (m := [0, 1, 7, 3, 4, 5]) (keep := [6, 10, 16, 86]) (r := (.norm, (f14n5S be1 bg3 bi2 (v124 ++ [(VariationPayment.mk x126.1 x126.2)]) (sn0 ++ [j125])))) (by kernel_rfl) (ap (last_app (seen := sn0) (j := j125)) (ap (rfl : (bi2.map (mkv pStr (pInt .i64))).length = (bi2.map (mkv pStr (pInt .i64))).length) (ap (at_mkv (kp := pStr) (vp := (pInt .i64)) h127) (ap (f37_ok x126.2 1125899906842624 h134) (ap (not_t h135) (ap (not_f h136) (ap (fit_map (te := ti48) (xs := v124) (n := 1) (c := VariationPayment.cells) h137 rfl) (ap (app_cv (xs := v124) (ys := [(VariationPayment.mk x126.1 x126.2)]) (c := VariationPayment.cells)) an)))))))) (LoopQ2.norm ⟨sn0 ++ [j125], rem.erase j125, (v124 ++ [(VariationPayment.mk x126.1 x126.2)]), rfl, hR2, by omega, fun p hp => by obtain ⟨o, h, hq⟩ := H2 p hp; refine ⟨o, ?_, hq⟩; rw [f14n5] at h; simp only [h134, h135, h136, h137, cond_true, cond_false, Option.bind_some, req] at h; exact h⟩)
      · obtain rfl := some_inj h
        exact run_end cfg_ok (rs := [([], [(0, .entr j125 (pStr x126.1) ((pInt .i64) x126.2))], []), ([], [(1, .call (.pl (.bool x133)) [])], []), ([], [], [])]) (ps := [none, some true]) (tds := []) (m := [0]) (keep := [6, 7, 8]) (r := (.ret, (f14n5E be1 bg3 bi2 .ret).2)) (by kernel_rfl) (ap (last_app (seen := sn0) (j := j125)) (ap (rfl : (bi2.map (mkv pStr (pInt .i64))).length = (bi2.map (mkv pStr (pInt .i64))).length) (ap (at_mkv (kp := pStr) (vp := (pInt .i64)) h127) (ap (f37_ok x126.2 1125899906842624 h134) (ap (not_f h135) an))))) (LoopQ2.out ⟨_, hq, rfl⟩ rfl)
inductive f14n4O where
  | norm (v142 : List VariationPayment)
  | ret
def f14n4E (be1 : Int) (bi2 : List (ByteArray × Int)) (bg3 : List VariationPosition) : f14n4O → Ex × Tr × Hp
  | .norm v142 => (.norm, mkS [(6, (.bp 0 0)), (10, (.bp 1 0)), (16, (.own 2))], [some (.box [(.pl (.int .i64 0)), (.pl (.sl .nil 0 []))]), some (.box [(.pl (.int .i64 be1)), (.own 3)]), some (.row false 2 (v142.map VariationPayment.cells)), some (.row false 4 (bg3.map VariationPosition.cells))])
  | .ret => (.ret, mkS [(6, (.bp 0 0)), (7, (.pl (.sl .nil 0 []))), (8, (.pl (.int .i64 14)))], [some (.box [(.pl (.int .i64 0)), (.pl (.sl .nil 0 []))])])
def f14n4S (be1 : Int) (bi2 : List (ByteArray × Int)) (bg3 : List VariationPosition) : Tr × Hp := (mkS [(6, (.bp 0 0)), (10, (.bp 1 0)), (11, (.mp 2)), (16, (.pl (.sl .nil 0 [])))], [some (.box [(.pl (.int .i64 0)), (.pl (.sl .nil 0 []))]), some (.box [(.pl (.int .i64 be1)), (.own 3)]), some (.map (bi2.map (mkv pStr (pInt .i64)))), some (.row false 4 (bg3.map VariationPosition.cells))])
noncomputable def f14n4 (be1 : Int) (bi2 : List (ByteArray × Int)) (bg3 : List VariationPosition) (p : List (ByteArray × Int)) : Option f14n4O :=
  (f14n5 be1 bg3 bi2 p []).bind fun o139 => match o139 with
  | .exit3 v141 => some (.norm v141)
  | .ret => some .ret
theorem f14n4_ok (be1 : Int) (bi2 : List (ByteArray × Int)) (bg3 : List VariationPosition) {Q : f14n4O → Prop} (H : ∀ p, p.Perm bi2 → ∃ o, f14n4 be1 bi2 bg3 p = some o ∧ Q o) : T Try.prog Try.f14.ntmps 0 (cL (dropC 1 (dropC 1 (dropC 3 (dropC 1 (dropC 2 c14)))))) (f14n4S be1 bi2 bg3) (fun r => ∃ o, Q o ∧ r = f14n4E be1 bi2 bg3 o) := by
  refine runK_norm cfg_ok (k := 1) (rs := [([], [], [])]) (ps := []) (tds := [.mat 16 2]) (m := [0, 1, 5, 4, 3, 2]) (keep := [6, 10, 16, 86]) (st' := (f14n5S be1 bg3 bi2 [] [])) (by kernel_rfl) an ?_
  refine T.lastQ (T.blQ (i := 3) (by kernel_rfl) (by kernel_rfl) (f14n5_ok be1 bg3 bi2 _ [] (List.range bi2.length) [] (Rem.start _) (Nat.lt_succ_self _) (Q := fun y => ∃ o, (match y with | .exit3 v141 => some (.norm v141) | .ret => some .ret) = some o ∧ Q o) (fun p hp => by obtain ⟨o, h, hq⟩ := H _ (ords_perm hp); unfold f14n4 at h; obtain ⟨y, hy, h⟩ := bind_ex h; exact ⟨y, hy, o, h, hq⟩))) ?_
  rintro y ⟨o, h, hq⟩
  cases y with
  | exit3 v141 =>
    obtain rfl := some_inj h
    exact Tidy.of [] [0, 1, 2, 3] [6, 10, 16] ((f14n4E be1 bi2 bg3 (.norm v141)).2) (by kernel_rfl) an ⟨_, hq, rfl⟩
  | ret =>
    obtain rfl := some_inj h
    exact Tidy.of [] [0] [6, 7, 8] ((f14n4E be1 bi2 bg3 .ret).2) (by kernel_rfl) an ⟨_, hq, rfl⟩
inductive f14n0O where
  | ret (v150 : Int) (v151 : Int) (v152 : List VariationPayment) (v153 : List VariationPosition)
def f14n0E (a1 : Variation) (a2 : Int) (a3 : List VariationPrice) : f14n0O → Ex × Tr × Hp
  | .ret v150 v151 v152 v153 => (.ret, mkS [(6, (.bp 0 0)), (7, (.own 1)), (8, (.pl (.int .i64 v150)))], [some (.box [(.pl (.int .i64 v151)), (.own 2)]), some (.row false 2 (v152.map VariationPayment.cells)), some (.row false 4 (v153.map VariationPosition.cells))])
def f14n0S (a1 : Variation) (a2 : Int) (a3 : List VariationPrice) : Tr × Hp := (initS [(.pl (.agg (Variation.cells a1))), (.pl (.int .i64 a2)), (.pl (.sl .any 2 (a3.map VariationPrice.cells)))] 0 .leaf, [])
noncomputable def f14n0 (a1 : Variation) (a2 : Int) (a3 : List VariationPrice) : Option f14n0O :=
  (f26 a1).bind fun x6 =>
  (f14n1 a2 a3 x6 a1).bind fun o30 => match o30 with
  | .norm v32 => bif (decide (v32 = 0)) then
      (f14n2 a3 a1 a2).bind fun o95 => match o95 with
      | .norm v97 v98 => (anyOrder v97 fun p => (f14n4 a2 v97 v98 p).bind fun o143 => match o143 with
        | .norm v145 => (so38_39 v145).bind fun x148 =>
          some (.ret 0 a2 x148 v98)
        | .ret => some (.ret 14 0 [] []))
      | .ret => some (.ret 30 0 [] [])
    else
      some (.ret v32 0 [] [])
theorem f14n0_ok (a1 : Variation) (a2 : Int) (a3 : List VariationPrice) {o : f14n0O} (h : (f14n0 a1 a2 a3) = some o) : T Try.prog Try.f14.ntmps 0 c14 (f14n0S a1 a2 a3) (fun r => r = f14n0E a1 a2 a3 o) := by
  unfold f14n0 at h
  obtain ⟨x6, h7, h⟩ := bind_cases h
  refine runK_norm cfg_ok (k := 2) (rs := [([], [], []), ([], [(1, .call (.pl (.int .i64 x6)) [])], [])]) (ps := []) (tds := []) (m := [0, 1]) (keep := [1, 2, 3, 6, 9]) (st' := (f14n1S a2 a3 x6 a1)) (by kernel_rfl) (ap (f26_ok a1 h7) an) ?_
  obtain ⟨o30, h31, h⟩ := bind_cases h
  cases o30 with
  | norm v32 =>
    refine T.oneN (by kernel_rfl) (f14n1_ok a2 a3 x6 a1 h31) (st2 := (f14n1E a2 a3 x6 a1 (.norm v32)).2) rfl ?_
    rcases cond_cases h with ⟨h34, h⟩ | ⟨h34, h⟩
    · refine runK_norm cfg_ok (k := 3) (rs := [([], [], []), ([], [], []), ([], [], [])]) (ps := [some false]) (tds := []) (m := [0, 1, 2, 3]) (keep := [2, 3, 6, 10, 11]) (st' := (f14n2S a3 a1 a2)) (by kernel_rfl) (ap (not_t h34) an) ?_
      obtain ⟨o95, h96, h⟩ := bind_cases h
      cases o95 with
      | norm v97 v98 =>
        refine T.oneN (by kernel_rfl) (f14n2_ok a3 a1 a2 h96) (st2 := (f14n2E a3 a1 a2 (.norm v97 v98)).2) rfl ?_
        refine runK_norm cfg_ok (k := 1) (rs := [([], [], [])]) (ps := []) (tds := []) (m := [0, 1, 2, 3]) (keep := [6, 10, 11, 16]) (st' := (f14n4S a2 v97 v98)) (by kernel_rfl) an ?_
        refine T.oneQ (by kernel_rfl) (f14n4_ok a2 v97 v98 (fun p hp => bind_ex (anyOrder_at h p hp))) ?_
        intro o143 h
        cases o143 with
        | norm v145 =>
          refine OneR.go ((f14n4E a2 v97 v98 (.norm v145)).2) rfl ?_
          obtain ⟨x148, h149, h⟩ := bind_cases h
          obtain rfl := some_inj h
          exact run_end cfg_ok (rs := [([], [(1, .call (.tup []) [none, none, some (.row false 2 (x148.map VariationPayment.cells)), none])], []), ([], [], [])]) (ps := []) (tds := []) (m := [0, 2, 3]) (keep := [6, 7, 8]) (r := (.ret, (f14n0E a1 a2 a3 (.ret 0 a2 x148 v98)).2)) (by kernel_rfl) (ap (CallS.ren (args' := [(.own 2), (.pl (.fn 39))]) (v' := (.tup [])) (B := [none, none, some (.row false 2 (v145.map VariationPayment.cells)), none]) (B' := [none, none, some (.row false 2 (x148.map VariationPayment.cells)), none]) 4 [2] (so38_39_ok v145 h149) (by kernel_rfl) (by kernel_rfl) (by kernel_rfl) (by kernel_rfl) (by kernel_rfl) (by kernel_rfl)) an) rfl
        | ret =>
          obtain rfl := some_inj h
          exact OneR.out [.mat 7 2, .matC 0 1 4] [0, 1, 2] [6, 7, 8] ((f14n0E a1 a2 a3 (.ret 14 0 [] [])).2) (by kernel_rfl) an rfl rfl
      | ret =>
        obtain rfl := some_inj h
        exact T.oneX' (by kernel_rfl) (f14n2_ok a3 a1 a2 h96) (tds := [.mat 7 2, .matC 0 1 4]) (m := [0, 1, 2]) (keep := [6, 7, 8]) (st2 := (f14n0E a1 a2 a3 (.ret 30 0 [] [])).2) (by kernel_rfl) an rfl rfl
    · obtain rfl := some_inj h
      exact runK_end cfg_ok (k := 1) (rs := [([], [], []), ([], [], [])]) (ps := [some true]) (tds := [.mat 7 2, .matC 1 1 4]) (m := [1, 2, 3]) (keep := [6, 7, 8]) (ex := .ret) (st' := (f14n0E a1 a2 a3 (.ret v32 0 [] [])).2) (by kernel_rfl) (ap (not_f h34) an) (fun h => nomatch h) rfl
noncomputable def f14 (a1 : Variation) (a2 : Int) (a3 : List VariationPrice) : Option (Variation × (List VariationPayment) × Int) := (f14n0 a1 a2 a3).bind fun o => match o with
  | .ret v150 v151 v152 v153 => some ((Variation.mk v151 v153), v152, v150)
theorem f14_ok (a1 : Variation) (a2 : Int) (a3 : List VariationPrice) {r : Variation × (List VariationPayment) × Int} (h : (f14 a1 a2 a3) = some r) : CallS Try.prog false 14 [(.pl (.agg (Variation.cells a1))), (.pl (.int .i64 a2)), (.pl (.sl .any 2 (a3.map VariationPrice.cells)))] [] (.tup [(.pl (.agg (Variation.cells r.1))), (.pl (.sl .any 2 (r.2.1.map VariationPayment.cells))), (.pl (.int .i64 r.2.2))]) [] := by
  unfold f14 at h
  obtain ⟨o, ho, h⟩ := bind_cases h
  cases o with
  | ret v150 v151 v152 v153 =>
    obtain rfl := some_inj h
    exact CallS.plain cfg_ok (f := Try.f14) (c := c14) (by kernel_rfl) (by kernel_rfl) (by kernel_rfl) (by kernel_rfl) ((f14n0_ok a1 a2 a3 ho).mono fun r e => by subst e; exact ⟨.inl rfl, (.tup [(.agg [(.pl (.int .i64 v151)), (.own 2)]), (.own 1), (.pl (.int .i64 v150))]), (.tup [(.pl (.agg (Variation.cells (Variation.mk v151 v153)))), (.pl (.sl .any 2 (v152.map VariationPayment.cells))), (.pl (.int .i64 v150))]), by kernel_rfl, by kernel_rfl, ((Wk.refl _) : Wk (.tup [(.pl (.agg (Variation.cells (Variation.mk v151 v153)))), (.pl (.sl .any 2 (v152.map VariationPayment.cells))), (.pl (.int .i64 v150))]) (.tup [(.pl (.agg (Variation.cells (Variation.mk v151 v153)))), (.pl (.sl .any 2 (v152.map VariationPayment.cells))), (.pl (.int .i64 v150))]))⟩)

noncomputable def c25 : Code := Try.f25.body.getD .skip
inductive f25n0O where
  | ret
def f25n0E (a1 : Int) : f25n0O → Ex × Tr × Hp
  | .ret => (.ret, mkS [(2, (.own 0))], [some (.row false 2 ([(VariationPayment.mk str_a (wr64 (0 - a1))), (VariationPayment.mk str_b a1)].map VariationPayment.cells))])
def f25n0S (a1 : Int) : Tr × Hp := (initS [(.pl (.int .i64 a1))] 0 .leaf, [])
noncomputable def f25n0 (a1 : Int) : Option f25n0O :=
  some .ret
theorem f25n0_ok (a1 : Int) {o : f25n0O} (h : (f25n0 a1) = some o) : T Try.prog Try.f25.ntmps 0 c25 (f25n0S a1) (fun r => r = f25n0E a1 o) := by
  unfold f25n0 at h
  obtain rfl := some_inj h
  exact run_end cfg_ok (rs := [([], [], []), ([], [], [])]) (ps := []) (tds := []) (m := [0]) (keep := [2]) (r := (.ret, (f25n0E a1 .ret).2)) (by kernel_rfl) an rfl
noncomputable def f25 (a1 : Int) : Option (List VariationPayment) := (f25n0 a1).bind fun o => match o with
  | .ret => some [(VariationPayment.mk str_a (wr64 (0 - a1))), (VariationPayment.mk str_b a1)]
theorem f25_ok (a1 : Int) {r : List VariationPayment} (h : (f25 a1) = some r) : CallS Try.prog false 25 [(.pl (.int .i64 a1))] [] (.pl (.sl .any 2 (r.map VariationPayment.cells))) [] := by
  unfold f25 at h
  obtain ⟨o, ho, h⟩ := bind_cases h
  cases o with
  | ret =>
    obtain rfl := some_inj h
    exact CallS.plain cfg_ok (f := Try.f25) (c := c25) (by kernel_rfl) (by kernel_rfl) (by kernel_rfl) (by kernel_rfl) ((f25n0_ok a1 ho).mono fun r e => by subst e; exact ⟨.inl rfl, (.own 0), (.pl (.sl .any 2 ([(VariationPayment.mk str_a (wr64 (0 - a1))), (VariationPayment.mk str_b a1)].map VariationPayment.cells))), by kernel_rfl, by kernel_rfl, ((Wk.refl _) : Wk (.pl (.sl .any 2 ([(VariationPayment.mk str_a (wr64 (0 - a1))), (VariationPayment.mk str_b a1)].map VariationPayment.cells))) (.pl (.sl .any 2 ([(VariationPayment.mk str_a (wr64 (0 - a1))), (VariationPayment.mk str_b a1)].map VariationPayment.cells))))⟩)

noncomputable def c19 : Code := Try.f19.body.getD .skip
inductive f19n2O where
  | exit0
  | ret
def f19n2E (bj1 : List VariationPayment) (bj2 : List VariationPayment) : f19n2O → Ex × Tr × Hp
  | .exit0 => ((.exit 0), mkS [], [])
  | .ret => (.ret, mkS [(4, (.pl (.bool false)))], [])
def f19n2S (bj1 : List VariationPayment) (bj2 : List VariationPayment) (v30 : Int) : Tr × Hp := (mkS [(0, (.pl (.sl .any 2 (bj1.map VariationPayment.cells)))), (1, (.pl (.sl .any 2 (bj2.map VariationPayment.cells)))), (5, (.pl (.int .i64 v30)))], [])
noncomputable def f19n2 : Nat → List VariationPayment → List VariationPayment → Int → Option f19n2O
  | 0, _, _, _ => none
  | f + 1, bj1, bj2, v30 =>
    bif (decide (v30 < (bj1.length : Int))) then
      (at? bj1 v30).bind fun x38 =>
      (at? bj2 v30).bind fun x40 =>
      bif (VariationPayment.eqb x38 x40) then
        (f19n2 f bj1 bj2 (wr64 (v30 + 1)))
      else
        some .ret
    else
      some .exit0
theorem f19n2_ok : ∀ (f : Nat) (bj1 : List VariationPayment) (bj2 : List VariationPayment) (v30 : Int) {o : f19n2O}, (f19n2 f bj1 bj2 v30) = some o → TL Try.prog Try.f19.ntmps 0 f (cL (cL (dropC 1 (cL (dropC 2 c19))))) (f19n2S bj1 bj2 v30) (fun r => r = f19n2E bj1 bj2 o)
  | 0, _, _, _, o, h => by rw [f19n2] at h; cases h
  | f + 1, bj1, bj2, v30, o, h => by
    rw [f19n2] at h
    refine TL.body (K := fun s => ∃ v30 : Int, s = (f19n2S bj1 bj2 v30) ∧ (f19n2 f bj1 bj2 v30) = some o) ?_ (by rintro _ ⟨v30, rfl, hk⟩; exact f19n2_ok f _ _ _ hk)
    rcases cond_cases h with ⟨h32, h⟩ | ⟨h32, h⟩
    · obtain ⟨x38, h39, h⟩ := bind_cases h
      obtain ⟨x40, h41, h⟩ := bind_cases h
      rcases cond_cases h with ⟨h42, h⟩ | ⟨h42, h⟩
      · exact run_end cfg_ok (rs := [([], [], [(2, .val (.pl (.int .i64 (bj1.length : Int))))]), ([], [(2, .idx (Int.toNat v30) (VariationPayment.cells x38)), (6, .idx (Int.toNat v30) (VariationPayment.cells x40)), (8, .bool (VariationPayment.eqb x38 x40))], []), ([], [], [])]) (ps := [some true, some false]) (tds := []) (m := []) (keep := [0, 1, 5]) (r := (.norm, (f19n2S bj1 bj2 (wr64 (v30 + 1))))) (by kernel_rfl) (ap (len_cv (xs := bj1) (c := VariationPayment.cells)) (ap h32 (ap (at_some h39).1 (ap (at_map VariationPayment.cells (at_some h39).2) (ap (at_some h41).1 (ap (at_map VariationPayment.cells (at_some h41).2) (ap (VariationPayment.eqb_ok x38 x40) (ap (not_t h42) an)))))))) (LoopQ.norm ⟨(wr64 (v30 + 1)), rfl, h⟩)
      · obtain rfl := some_inj h
        exact runK_end cfg_ok (k := 2) (rs := [([], [], [(2, .val (.pl (.int .i64 (bj1.length : Int))))]), ([], [(2, .idx (Int.toNat v30) (VariationPayment.cells x38)), (6, .idx (Int.toNat v30) (VariationPayment.cells x40)), (8, .bool (VariationPayment.eqb x38 x40))], []), ([], [], [])]) (ps := [some true, some true]) (tds := []) (m := []) (keep := [4]) (ex := .ret) (st' := (f19n2E bj1 bj2 .ret).2) (by kernel_rfl) (ap (len_cv (xs := bj1) (c := VariationPayment.cells)) (ap h32 (ap (at_some h39).1 (ap (at_map VariationPayment.cells (at_some h39).2) (ap (at_some h41).1 (ap (at_map VariationPayment.cells (at_some h41).2) (ap (VariationPayment.eqb_ok x38 x40) (ap (not_f h42) an)))))))) (fun h => nomatch h) (LoopQ.out rfl rfl)
    · obtain rfl := some_inj h
      exact runK_end cfg_ok (k := 1) (rs := [([], [], [(2, .val (.pl (.int .i64 (bj1.length : Int))))])]) (ps := [some false]) (tds := []) (m := []) (keep := []) (ex := (.exit 0)) (st' := (f19n2E bj1 bj2 .exit0).2) (by kernel_rfl) (ap (len_cv (xs := bj1) (c := VariationPayment.cells)) (ap h32 an)) (fun h => nomatch h) (LoopQ.out rfl rfl)
inductive f19n1O where
  | norm
  | ret
def f19n1E (bj1 : List VariationPayment) (bj2 : List VariationPayment) : f19n1O → Ex × Tr × Hp
  | .norm => (.norm, mkS [], [])
  | .ret => (.ret, mkS [(4, (.pl (.bool false)))], [])
def f19n1S (bj1 : List VariationPayment) (bj2 : List VariationPayment) : Tr × Hp := (mkS [(0, (.pl (.sl .any 2 (bj1.map VariationPayment.cells)))), (1, (.pl (.sl .any 2 (bj2.map VariationPayment.cells))))], [])
noncomputable def f19n1 (bj1 : List VariationPayment) (bj2 : List VariationPayment) : Option f19n1O :=
  (f19n2 FUEL bj1 bj2 0).bind fun o43 => match o43 with
  | .exit0 => some .norm
  | .ret => some .ret
theorem f19n1_ok (bj1 : List VariationPayment) (bj2 : List VariationPayment) {o : f19n1O} (h : (f19n1 bj1 bj2) = some o) : T Try.prog Try.f19.ntmps 0 (cL (dropC 2 c19)) (f19n1S bj1 bj2) (fun r => r = f19n1E bj1 bj2 o) := by
  unfold f19n1 at h
  refine runK_norm cfg_ok (k := 1) (rs := [([], [], [])]) (ps := []) (tds := []) (m := []) (keep := [0, 1, 5]) (st' := (f19n2S bj1 bj2 0)) (by kernel_rfl) an ?_
  obtain ⟨o43, h44, h⟩ := bind_cases h
  cases o43 with
  | exit0 =>
    obtain rfl := some_inj h
    exact T.last' (T.bl (i := 0) (by kernel_rfl) (by kernel_rfl) (f19n2_ok FUEL bj1 bj2 0 h44)) (tds := []) (m := []) (keep := []) (st2 := (f19n1E bj1 bj2 .norm).2) (by kernel_rfl) an rfl
  | ret =>
    obtain rfl := some_inj h
    exact T.last' (T.bl (i := 0) (by kernel_rfl) (by kernel_rfl) (f19n2_ok FUEL bj1 bj2 0 h44)) (tds := []) (m := []) (keep := [4]) (st2 := (f19n1E bj1 bj2 .ret).2) (by kernel_rfl) an rfl
inductive f19n0O where
  | ret (v47 : Bool)
def f19n0E (a1 : List VariationPayment) (a2 : List VariationPayment) : f19n0O → Ex × Tr × Hp
  | .ret v47 => (.ret, mkS [(4, (.pl (.bool v47)))], [])
def f19n0S (a1 : List VariationPayment) (a2 : List VariationPayment) : Tr × Hp := (initS [(.pl (.sl .any 2 (a1.map VariationPayment.cells))), (.pl (.sl .any 2 (a2.map VariationPayment.cells)))] 0 .leaf, [])
noncomputable def f19n0 (a1 : List VariationPayment) (a2 : List VariationPayment) : Option f19n0O :=
  bif (decide ((a1.length : Int) = (a2.length : Int))) then
    (f19n1 a1 a2).bind fun o45 => match o45 with
    | .norm => some (.ret true)
    | .ret => some (.ret false)
  else
    some (.ret false)
theorem f19n0_ok (a1 : List VariationPayment) (a2 : List VariationPayment) {o : f19n0O} (h : (f19n0 a1 a2) = some o) : T Try.prog Try.f19.ntmps 0 c19 (f19n0S a1 a2) (fun r => r = f19n0E a1 a2 o) := by
  unfold f19n0 at h
  rcases cond_cases h with ⟨h4, h⟩ | ⟨h4, h⟩
  · refine runK_norm cfg_ok (k := 2) (rs := [([], [], []), ([], [], [(1, .val (.pl (.int .i64 (a1.length : Int)))), (3, .val (.pl (.int .i64 (a2.length : Int))))])]) (ps := [some false]) (tds := []) (m := []) (keep := [0, 1]) (st' := (f19n1S a1 a2)) (by kernel_rfl) (ap (len_cv (xs := a1) (c := VariationPayment.cells)) (ap (len_cv (xs := a2) (c := VariationPayment.cells)) (ap (not_t h4) an))) ?_
    obtain ⟨o45, h46, h⟩ := bind_cases h
    cases o45 with
    | norm =>
      refine T.oneN (by kernel_rfl) (f19n1_ok a1 a2 h46) (st2 := (f19n1E a1 a2 .norm).2) rfl ?_
      obtain rfl := some_inj h
      exact run_end cfg_ok (rs := [([], [], [])]) (ps := []) (tds := []) (m := []) (keep := [4]) (r := (.ret, (f19n0E a1 a2 (.ret true)).2)) (by kernel_rfl) an rfl
    | ret =>
      obtain rfl := some_inj h
      exact T.oneX' (by kernel_rfl) (f19n1_ok a1 a2 h46) (tds := []) (m := []) (keep := [4]) (st2 := (f19n0E a1 a2 (.ret false)).2) (by kernel_rfl) an rfl rfl
  · obtain rfl := some_inj h
    exact runK_end cfg_ok (k := 2) (rs := [([], [], []), ([], [], [(1, .val (.pl (.int .i64 (a1.length : Int)))), (3, .val (.pl (.int .i64 (a2.length : Int))))]), ([], [], [])]) (ps := [some true]) (tds := []) (m := []) (keep := [4]) (ex := .ret) (st' := (f19n0E a1 a2 (.ret false)).2) (by kernel_rfl) (ap (len_cv (xs := a1) (c := VariationPayment.cells)) (ap (len_cv (xs := a2) (c := VariationPayment.cells)) (ap (not_f h4) an))) (fun h => nomatch h) rfl
noncomputable def f19 (a1 : List VariationPayment) (a2 : List VariationPayment) : Option Bool := (f19n0 a1 a2).bind fun o => match o with
  | .ret v47 => some v47
theorem f19_ok (a1 : List VariationPayment) (a2 : List VariationPayment) {r : Bool} (h : (f19 a1 a2) = some r) : CallS Try.prog false 19 [(.pl (.sl .any 2 (a1.map VariationPayment.cells))), (.pl (.sl .any 2 (a2.map VariationPayment.cells)))] [] (.pl (.bool r)) [] := by
  unfold f19 at h
  obtain ⟨o, ho, h⟩ := bind_cases h
  cases o with
  | ret v47 =>
    obtain rfl := some_inj h
    exact CallS.plain cfg_ok (f := Try.f19) (c := c19) (by kernel_rfl) (by kernel_rfl) (by kernel_rfl) (by kernel_rfl) ((f19n0_ok a1 a2 ho).mono fun r e => by subst e; exact ⟨.inl rfl, (.pl (.bool v47)), (.pl (.bool v47)), by kernel_rfl, by kernel_rfl, ((Wk.refl _) : Wk (.pl (.bool v47)) (.pl (.bool v47)))⟩)
end Go.Proofs.Ytelblamgfbkhbaa
namespace Go.Proofs.Ytelblamgfbkhbaa
set_option linter.unusedVariables false
set_option linter.unusedSimpArgs false
set_option maxRecDepth 100000
open Go.RowKit
noncomputable def c10 : Code := Try.f10.body.getD .skip
inductive f10n0O where
  | ret (v71 : Bool)
def f10n0E : f10n0O → Ex × Tr × Hp
  | .ret v71 => (.ret, mkS [(0, (.pl (.bool v71)))], [])
def f10n0S : Tr × Hp := (initS [] 0 .leaf, [])
noncomputable def f10n0 : Option f10n0O :=
  (f12 0).bind fun x3 =>
  (f16 x3.1 str_b str_a str_p 3 10).bind fun x7 =>
  (f23r1 12).bind fun x13 =>
  (f14 x7.1 1 [(VariationPrice.mk str_p 12)]).bind fun x15 =>
  (f23r1 11).bind fun x21 =>
  (f14 x15.1 2 [(VariationPrice.mk str_p 11)]).bind fun x23 =>
  (f23r1 11).bind fun x29 =>
  (f14 x7.1 2 [(VariationPrice.mk str_p 11)]).bind fun x31 =>
  bif (decide (x3.2 = 0)) then
    bif (decide (x7.2 = 0)) then
      bif (decide (x15.2.2 = 0)) then
        (f25 6).bind fun x55 =>
        (f19 x15.2.1 x55).bind fun x57 =>
        bif x57 then
          bif (decide (x23.2.2 = 0)) then
            (f25 (-3)).bind fun x61 =>
            (f19 x23.2.1 x61).bind fun x63 =>
            bif x63 then
              bif (decide (x31.2.2 = 0)) then
                (f25 3).bind fun x67 =>
                (f19 x31.2.1 x67).bind fun x69 =>
                some (.ret x69)
              else
                some (.ret false)
            else
              some (.ret false)
          else
            some (.ret false)
        else
          some (.ret false)
      else
        some (.ret false)
    else
      some (.ret false)
  else
    some (.ret false)
theorem f10n0_ok {o : f10n0O} (h : f10n0 = some o) : T Try.prog Try.f10.ntmps 0 c10 f10n0S (fun r => r = f10n0E o) := by
  unfold f10n0 at h
  obtain ⟨x3, h4, h⟩ := bind_cases h
  obtain ⟨x7, h8, h⟩ := bind_cases h
  obtain ⟨x13, h14, h⟩ := bind_cases h
  obtain ⟨x15, h16, h⟩ := bind_cases h
  obtain ⟨x21, h22, h⟩ := bind_cases h
  obtain ⟨x23, h24, h⟩ := bind_cases h
  obtain ⟨x29, h30, h⟩ := bind_cases h
  obtain ⟨x31, h32, h⟩ := bind_cases h
  rcases cond_cases h with ⟨h52, h⟩ | ⟨h52, h⟩
  · rcases cond_cases h with ⟨h53, h⟩ | ⟨h53, h⟩
    · rcases cond_cases h with ⟨h54, h⟩ | ⟨h54, h⟩
      · obtain ⟨x55, h56, h⟩ := bind_cases h
        obtain ⟨x57, h58, h⟩ := bind_cases h
        rcases cond_cases h with ⟨h59, h⟩ | ⟨h59, h⟩
        · rcases cond_cases h with ⟨h60, h⟩ | ⟨h60, h⟩
          · obtain ⟨x61, h62, h⟩ := bind_cases h
            obtain ⟨x63, h64, h⟩ := bind_cases h
            rcases cond_cases h with ⟨h65, h⟩ | ⟨h65, h⟩
            · rcases cond_cases h with ⟨h66, h⟩ | ⟨h66, h⟩
              · obtain ⟨x67, h68, h⟩ := bind_cases h
                obtain ⟨x69, h70, h⟩ := bind_cases h
                obtain rfl := some_inj h
                exact run_end cfg_ok (rs := [([], [], []), ([], [(0, .call (.tup [(.pl (.agg (Variation.cells x3.1))), (.pl (.int .i64 x3.2))]) [])], []), ([], [(1, .call (.tup [(.pl (.agg (Variation.cells x7.1))), (.pl (.int .i64 x7.2))]) [])], []), ([], [(1, .call (.own 3) [none, none, none, some (.row false 2 ([(VariationPrice.mk str_p 12)].map VariationPrice.cells))]), (2, .call (.tup [(.pl (.agg (Variation.cells x15.1))), (.pl (.sl .any 2 (x15.2.1.map VariationPayment.cells))), (.pl (.int .i64 x15.2.2))]) [])], []), ([], [(1, .call (.own 6) [none, none, none, none, none, none, some (.row false 2 ([(VariationPrice.mk str_p 11)].map VariationPrice.cells))]), (2, .call (.tup [(.pl (.agg (Variation.cells x23.1))), (.pl (.sl .any 2 (x23.2.1.map VariationPayment.cells))), (.pl (.int .i64 x23.2.2))]) [])], []), ([], [(1, .call (.own 9) [none, none, none, none, none, none, none, none, none, some (.row false 2 ([(VariationPrice.mk str_p 11)].map VariationPrice.cells))]), (2, .call (.tup [(.pl (.agg (Variation.cells x31.1))), (.pl (.sl .any 2 (x31.2.1.map VariationPayment.cells))), (.pl (.int .i64 x31.2.2))]) [])], []), ([(3, true), (4, true), (7, true), (8, true), (11, true), (12, true), (13, true), (16, true), (17, true), (20, true), (21, true), (22, true), (25, true), (26, true), (29, true), (30, true), (31, true)], [(5, .bool true), (9, .bool true), (12, .call (.pl (.sl .any 2 (x55.map VariationPayment.cells))) []), (13, .call (.pl (.bool x57)) []), (14, .bool true), (18, .bool true), (21, .call (.pl (.sl .any 2 (x61.map VariationPayment.cells))) []), (22, .call (.pl (.bool x63)) []), (23, .bool true), (27, .bool true), (30, .call (.pl (.sl .any 2 (x67.map VariationPayment.cells))) []), (31, .call (.pl (.bool x69)) []), (32, .bool true)], [])]) (ps := []) (tds := []) (m := []) (keep := [0]) (r := (.ret, (f10n0E (.ret x69)).2)) (by kernel_rfl) (ap (f12_ok 0 h4) (ap (f16_ok x3.1 str_b str_a str_p 3 10 h8) (ap (CallS.ren (args' := [(.pl (.int .i64 12))]) (v' := (.own 3)) (B := [none, none, none]) (B' := [none, none, none, some (.row false 2 ([(VariationPrice.mk str_p 12)].map VariationPrice.cells))]) 3 [] (f23r1_ok 12 h14) (by kernel_rfl) (by kernel_rfl) (by kernel_rfl) (by kernel_rfl) (by kernel_rfl) (by kernel_rfl)) (ap (f14_ok x7.1 1 [(VariationPrice.mk str_p 12)] h16) (ap (CallS.ren (args' := [(.pl (.int .i64 11))]) (v' := (.own 6)) (B := [none, none, none, none, none, none]) (B' := [none, none, none, none, none, none, some (.row false 2 ([(VariationPrice.mk str_p 11)].map VariationPrice.cells))]) 6 [] (f23r1_ok 11 h22) (by kernel_rfl) (by kernel_rfl) (by kernel_rfl) (by kernel_rfl) (by kernel_rfl) (by kernel_rfl)) (ap (f14_ok x15.1 2 [(VariationPrice.mk str_p 11)] h24) (ap (CallS.ren (args' := [(.pl (.int .i64 11))]) (v' := (.own 9)) (B := [none, none, none, none, none, none, none, none, none]) (B' := [none, none, none, none, none, none, none, none, none, some (.row false 2 ([(VariationPrice.mk str_p 11)].map VariationPrice.cells))]) 9 [] (f23r1_ok 11 h30) (by kernel_rfl) (by kernel_rfl) (by kernel_rfl) (by kernel_rfl) (by kernel_rfl) (by kernel_rfl)) (ap (f14_ok x7.1 2 [(VariationPrice.mk str_p 11)] h32) (ap h52 (ap h52 (ap h52 (ap h53 (ap h53 (ap h53 (ap h54 (ap h54 (ap h54 (ap h54 (ap h59 (ap h59 (ap h59 (ap h60 (ap h60 (ap h60 (ap h60 (ap h65 (ap h65 (ap h65 (ap h66 (ap h66 (ap h66 (ap h66 (ap (f25_ok 6 h56) (ap (f19_ok x15.2.1 x55 h58) (ap (f25_ok (-3) h62) (ap (f19_ok x23.2.1 x61 h64) (ap (f25_ok 3 h68) (ap (f19_ok x31.2.1 x67 h70) an)))))))))))))))))))))))))))))))))))))) rfl
              · obtain rfl := some_inj h
                exact run_end cfg_ok (rs := [([], [], []), ([], [(0, .call (.tup [(.pl (.agg (Variation.cells x3.1))), (.pl (.int .i64 x3.2))]) [])], []), ([], [(1, .call (.tup [(.pl (.agg (Variation.cells x7.1))), (.pl (.int .i64 x7.2))]) [])], []), ([], [(1, .call (.own 3) [none, none, none, some (.row false 2 ([(VariationPrice.mk str_p 12)].map VariationPrice.cells))]), (2, .call (.tup [(.pl (.agg (Variation.cells x15.1))), (.pl (.sl .any 2 (x15.2.1.map VariationPayment.cells))), (.pl (.int .i64 x15.2.2))]) [])], []), ([], [(1, .call (.own 6) [none, none, none, none, none, none, some (.row false 2 ([(VariationPrice.mk str_p 11)].map VariationPrice.cells))]), (2, .call (.tup [(.pl (.agg (Variation.cells x23.1))), (.pl (.sl .any 2 (x23.2.1.map VariationPayment.cells))), (.pl (.int .i64 x23.2.2))]) [])], []), ([], [(1, .call (.own 9) [none, none, none, none, none, none, none, none, none, some (.row false 2 ([(VariationPrice.mk str_p 11)].map VariationPrice.cells))]), (2, .call (.tup [(.pl (.agg (Variation.cells x31.1))), (.pl (.sl .any 2 (x31.2.1.map VariationPayment.cells))), (.pl (.int .i64 x31.2.2))]) [])], []), ([(3, true), (4, true), (7, true), (8, true), (11, true), (12, true), (13, true), (16, true), (17, true), (20, true), (21, true), (22, true), (25, true), (26, true), (29, false), (30, false), (31, false)], [(5, .bool true), (9, .bool true), (12, .call (.pl (.sl .any 2 (x55.map VariationPayment.cells))) []), (13, .call (.pl (.bool x57)) []), (14, .bool true), (18, .bool true), (21, .call (.pl (.sl .any 2 (x61.map VariationPayment.cells))) []), (22, .call (.pl (.bool x63)) []), (23, .bool true), (27, .bool true), (32, .bool false)], [])]) (ps := []) (tds := []) (m := []) (keep := [0]) (r := (.ret, (f10n0E (.ret false)).2)) (by kernel_rfl) (ap (f12_ok 0 h4) (ap (f16_ok x3.1 str_b str_a str_p 3 10 h8) (ap (CallS.ren (args' := [(.pl (.int .i64 12))]) (v' := (.own 3)) (B := [none, none, none]) (B' := [none, none, none, some (.row false 2 ([(VariationPrice.mk str_p 12)].map VariationPrice.cells))]) 3 [] (f23r1_ok 12 h14) (by kernel_rfl) (by kernel_rfl) (by kernel_rfl) (by kernel_rfl) (by kernel_rfl) (by kernel_rfl)) (ap (f14_ok x7.1 1 [(VariationPrice.mk str_p 12)] h16) (ap (CallS.ren (args' := [(.pl (.int .i64 11))]) (v' := (.own 6)) (B := [none, none, none, none, none, none]) (B' := [none, none, none, none, none, none, some (.row false 2 ([(VariationPrice.mk str_p 11)].map VariationPrice.cells))]) 6 [] (f23r1_ok 11 h22) (by kernel_rfl) (by kernel_rfl) (by kernel_rfl) (by kernel_rfl) (by kernel_rfl) (by kernel_rfl)) (ap (f14_ok x15.1 2 [(VariationPrice.mk str_p 11)] h24) (ap (CallS.ren (args' := [(.pl (.int .i64 11))]) (v' := (.own 9)) (B := [none, none, none, none, none, none, none, none, none]) (B' := [none, none, none, none, none, none, none, none, none, some (.row false 2 ([(VariationPrice.mk str_p 11)].map VariationPrice.cells))]) 9 [] (f23r1_ok 11 h30) (by kernel_rfl) (by kernel_rfl) (by kernel_rfl) (by kernel_rfl) (by kernel_rfl) (by kernel_rfl)) (ap (f14_ok x7.1 2 [(VariationPrice.mk str_p 11)] h32) (ap h52 (ap h52 (ap h52 (ap h53 (ap h53 (ap h53 (ap h54 (ap h54 (ap h54 (ap h54 (ap h59 (ap h59 (ap h59 (ap h60 (ap h60 (ap h60 (ap h60 (ap h65 (ap h65 (ap h65 (ap h66 (ap h66 (ap h66 (ap h66 (ap (f25_ok 6 h56) (ap (f19_ok x15.2.1 x55 h58) (ap (f25_ok (-3) h62) (ap (f19_ok x23.2.1 x61 h64) an)))))))))))))))))))))))))))))))))))) rfl
            · obtain rfl := some_inj h
              exact run_end cfg_ok (rs := [([], [], []), ([], [(0, .call (.tup [(.pl (.agg (Variation.cells x3.1))), (.pl (.int .i64 x3.2))]) [])], []), ([], [(1, .call (.tup [(.pl (.agg (Variation.cells x7.1))), (.pl (.int .i64 x7.2))]) [])], []), ([], [(1, .call (.own 3) [none, none, none, some (.row false 2 ([(VariationPrice.mk str_p 12)].map VariationPrice.cells))]), (2, .call (.tup [(.pl (.agg (Variation.cells x15.1))), (.pl (.sl .any 2 (x15.2.1.map VariationPayment.cells))), (.pl (.int .i64 x15.2.2))]) [])], []), ([], [(1, .call (.own 6) [none, none, none, none, none, none, some (.row false 2 ([(VariationPrice.mk str_p 11)].map VariationPrice.cells))]), (2, .call (.tup [(.pl (.agg (Variation.cells x23.1))), (.pl (.sl .any 2 (x23.2.1.map VariationPayment.cells))), (.pl (.int .i64 x23.2.2))]) [])], []), ([], [(1, .call (.own 9) [none, none, none, none, none, none, none, none, none, some (.row false 2 ([(VariationPrice.mk str_p 11)].map VariationPrice.cells))]), (2, .call (.tup [(.pl (.agg (Variation.cells x31.1))), (.pl (.sl .any 2 (x31.2.1.map VariationPayment.cells))), (.pl (.int .i64 x31.2.2))]) [])], []), ([(3, true), (4, true), (7, true), (8, true), (11, true), (12, true), (13, true), (16, true), (17, true), (20, true), (21, true), (22, true), (25, false), (26, false)], [(5, .bool true), (9, .bool true), (12, .call (.pl (.sl .any 2 (x55.map VariationPayment.cells))) []), (13, .call (.pl (.bool x57)) []), (14, .bool true), (18, .bool true), (21, .call (.pl (.sl .any 2 (x61.map VariationPayment.cells))) []), (22, .call (.pl (.bool x63)) []), (23, .bool true), (27, .bool false)], [])]) (ps := []) (tds := []) (m := []) (keep := [0]) (r := (.ret, (f10n0E (.ret false)).2)) (by kernel_rfl) (ap (f12_ok 0 h4) (ap (f16_ok x3.1 str_b str_a str_p 3 10 h8) (ap (CallS.ren (args' := [(.pl (.int .i64 12))]) (v' := (.own 3)) (B := [none, none, none]) (B' := [none, none, none, some (.row false 2 ([(VariationPrice.mk str_p 12)].map VariationPrice.cells))]) 3 [] (f23r1_ok 12 h14) (by kernel_rfl) (by kernel_rfl) (by kernel_rfl) (by kernel_rfl) (by kernel_rfl) (by kernel_rfl)) (ap (f14_ok x7.1 1 [(VariationPrice.mk str_p 12)] h16) (ap (CallS.ren (args' := [(.pl (.int .i64 11))]) (v' := (.own 6)) (B := [none, none, none, none, none, none]) (B' := [none, none, none, none, none, none, some (.row false 2 ([(VariationPrice.mk str_p 11)].map VariationPrice.cells))]) 6 [] (f23r1_ok 11 h22) (by kernel_rfl) (by kernel_rfl) (by kernel_rfl) (by kernel_rfl) (by kernel_rfl) (by kernel_rfl)) (ap (f14_ok x15.1 2 [(VariationPrice.mk str_p 11)] h24) (ap (CallS.ren (args' := [(.pl (.int .i64 11))]) (v' := (.own 9)) (B := [none, none, none, none, none, none, none, none, none]) (B' := [none, none, none, none, none, none, none, none, none, some (.row false 2 ([(VariationPrice.mk str_p 11)].map VariationPrice.cells))]) 9 [] (f23r1_ok 11 h30) (by kernel_rfl) (by kernel_rfl) (by kernel_rfl) (by kernel_rfl) (by kernel_rfl) (by kernel_rfl)) (ap (f14_ok x7.1 2 [(VariationPrice.mk str_p 11)] h32) (ap h52 (ap h52 (ap h52 (ap h53 (ap h53 (ap h53 (ap h54 (ap h54 (ap h54 (ap h54 (ap h59 (ap h59 (ap h59 (ap h60 (ap h60 (ap h60 (ap h60 (ap h65 (ap h65 (ap h65 (ap (f25_ok 6 h56) (ap (f19_ok x15.2.1 x55 h58) (ap (f25_ok (-3) h62) (ap (f19_ok x23.2.1 x61 h64) an)))))))))))))))))))))))))))))))) rfl
          · obtain rfl := some_inj h
            exact run_end cfg_ok (rs := [([], [], []), ([], [(0, .call (.tup [(.pl (.agg (Variation.cells x3.1))), (.pl (.int .i64 x3.2))]) [])], []), ([], [(1, .call (.tup [(.pl (.agg (Variation.cells x7.1))), (.pl (.int .i64 x7.2))]) [])], []), ([], [(1, .call (.own 3) [none, none, none, some (.row false 2 ([(VariationPrice.mk str_p 12)].map VariationPrice.cells))]), (2, .call (.tup [(.pl (.agg (Variation.cells x15.1))), (.pl (.sl .any 2 (x15.2.1.map VariationPayment.cells))), (.pl (.int .i64 x15.2.2))]) [])], []), ([], [(1, .call (.own 6) [none, none, none, none, none, none, some (.row false 2 ([(VariationPrice.mk str_p 11)].map VariationPrice.cells))]), (2, .call (.tup [(.pl (.agg (Variation.cells x23.1))), (.pl (.sl .any 2 (x23.2.1.map VariationPayment.cells))), (.pl (.int .i64 x23.2.2))]) [])], []), ([], [(1, .call (.own 9) [none, none, none, none, none, none, none, none, none, some (.row false 2 ([(VariationPrice.mk str_p 11)].map VariationPrice.cells))]), (2, .call (.tup [(.pl (.agg (Variation.cells x31.1))), (.pl (.sl .any 2 (x31.2.1.map VariationPayment.cells))), (.pl (.int .i64 x31.2.2))]) [])], []), ([(3, true), (4, true), (7, true), (8, true), (11, true), (12, true), (13, true), (16, true), (17, true), (20, false), (21, false), (22, false)], [(5, .bool true), (9, .bool true), (12, .call (.pl (.sl .any 2 (x55.map VariationPayment.cells))) []), (13, .call (.pl (.bool x57)) []), (14, .bool true), (18, .bool true), (23, .bool false)], [])]) (ps := []) (tds := []) (m := []) (keep := [0]) (r := (.ret, (f10n0E (.ret false)).2)) (by kernel_rfl) (ap (f12_ok 0 h4) (ap (f16_ok x3.1 str_b str_a str_p 3 10 h8) (ap (CallS.ren (args' := [(.pl (.int .i64 12))]) (v' := (.own 3)) (B := [none, none, none]) (B' := [none, none, none, some (.row false 2 ([(VariationPrice.mk str_p 12)].map VariationPrice.cells))]) 3 [] (f23r1_ok 12 h14) (by kernel_rfl) (by kernel_rfl) (by kernel_rfl) (by kernel_rfl) (by kernel_rfl) (by kernel_rfl)) (ap (f14_ok x7.1 1 [(VariationPrice.mk str_p 12)] h16) (ap (CallS.ren (args' := [(.pl (.int .i64 11))]) (v' := (.own 6)) (B := [none, none, none, none, none, none]) (B' := [none, none, none, none, none, none, some (.row false 2 ([(VariationPrice.mk str_p 11)].map VariationPrice.cells))]) 6 [] (f23r1_ok 11 h22) (by kernel_rfl) (by kernel_rfl) (by kernel_rfl) (by kernel_rfl) (by kernel_rfl) (by kernel_rfl)) (ap (f14_ok x15.1 2 [(VariationPrice.mk str_p 11)] h24) (ap (CallS.ren (args' := [(.pl (.int .i64 11))]) (v' := (.own 9)) (B := [none, none, none, none, none, none, none, none, none]) (B' := [none, none, none, none, none, none, none, none, none, some (.row false 2 ([(VariationPrice.mk str_p 11)].map VariationPrice.cells))]) 9 [] (f23r1_ok 11 h30) (by kernel_rfl) (by kernel_rfl) (by kernel_rfl) (by kernel_rfl) (by kernel_rfl) (by kernel_rfl)) (ap (f14_ok x7.1 2 [(VariationPrice.mk str_p 11)] h32) (ap h52 (ap h52 (ap h52 (ap h53 (ap h53 (ap h53 (ap h54 (ap h54 (ap h54 (ap h54 (ap h59 (ap h59 (ap h59 (ap h60 (ap h60 (ap h60 (ap h60 (ap (f25_ok 6 h56) (ap (f19_ok x15.2.1 x55 h58) an))))))))))))))))))))))))))) rfl
        · obtain rfl := some_inj h
          exact run_end cfg_ok (rs := [([], [], []), ([], [(0, .call (.tup [(.pl (.agg (Variation.cells x3.1))), (.pl (.int .i64 x3.2))]) [])], []), ([], [(1, .call (.tup [(.pl (.agg (Variation.cells x7.1))), (.pl (.int .i64 x7.2))]) [])], []), ([], [(1, .call (.own 3) [none, none, none, some (.row false 2 ([(VariationPrice.mk str_p 12)].map VariationPrice.cells))]), (2, .call (.tup [(.pl (.agg (Variation.cells x15.1))), (.pl (.sl .any 2 (x15.2.1.map VariationPayment.cells))), (.pl (.int .i64 x15.2.2))]) [])], []), ([], [(1, .call (.own 6) [none, none, none, none, none, none, some (.row false 2 ([(VariationPrice.mk str_p 11)].map VariationPrice.cells))]), (2, .call (.tup [(.pl (.agg (Variation.cells x23.1))), (.pl (.sl .any 2 (x23.2.1.map VariationPayment.cells))), (.pl (.int .i64 x23.2.2))]) [])], []), ([], [(1, .call (.own 9) [none, none, none, none, none, none, none, none, none, some (.row false 2 ([(VariationPrice.mk str_p 11)].map VariationPrice.cells))]), (2, .call (.tup [(.pl (.agg (Variation.cells x31.1))), (.pl (.sl .any 2 (x31.2.1.map VariationPayment.cells))), (.pl (.int .i64 x31.2.2))]) [])], []), ([(3, true), (4, true), (7, true), (8, true), (11, true), (12, true), (13, true), (16, false), (17, false)], [(5, .bool true), (9, .bool true), (12, .call (.pl (.sl .any 2 (x55.map VariationPayment.cells))) []), (13, .call (.pl (.bool x57)) []), (14, .bool true), (18, .bool false)], [])]) (ps := []) (tds := []) (m := []) (keep := [0]) (r := (.ret, (f10n0E (.ret false)).2)) (by kernel_rfl) (ap (f12_ok 0 h4) (ap (f16_ok x3.1 str_b str_a str_p 3 10 h8) (ap (CallS.ren (args' := [(.pl (.int .i64 12))]) (v' := (.own 3)) (B := [none, none, none]) (B' := [none, none, none, some (.row false 2 ([(VariationPrice.mk str_p 12)].map VariationPrice.cells))]) 3 [] (f23r1_ok 12 h14) (by kernel_rfl) (by kernel_rfl) (by kernel_rfl) (by kernel_rfl) (by kernel_rfl) (by kernel_rfl)) (ap (f14_ok x7.1 1 [(VariationPrice.mk str_p 12)] h16) (ap (CallS.ren (args' := [(.pl (.int .i64 11))]) (v' := (.own 6)) (B := [none, none, none, none, none, none]) (B' := [none, none, none, none, none, none, some (.row false 2 ([(VariationPrice.mk str_p 11)].map VariationPrice.cells))]) 6 [] (f23r1_ok 11 h22) (by kernel_rfl) (by kernel_rfl) (by kernel_rfl) (by kernel_rfl) (by kernel_rfl) (by kernel_rfl)) (ap (f14_ok x15.1 2 [(VariationPrice.mk str_p 11)] h24) (ap (CallS.ren (args' := [(.pl (.int .i64 11))]) (v' := (.own 9)) (B := [none, none, none, none, none, none, none, none, none]) (B' := [none, none, none, none, none, none, none, none, none, some (.row false 2 ([(VariationPrice.mk str_p 11)].map VariationPrice.cells))]) 9 [] (f23r1_ok 11 h30) (by kernel_rfl) (by kernel_rfl) (by kernel_rfl) (by kernel_rfl) (by kernel_rfl) (by kernel_rfl)) (ap (f14_ok x7.1 2 [(VariationPrice.mk str_p 11)] h32) (ap h52 (ap h52 (ap h52 (ap h53 (ap h53 (ap h53 (ap h54 (ap h54 (ap h54 (ap h54 (ap h59 (ap h59 (ap h59 (ap (f25_ok 6 h56) (ap (f19_ok x15.2.1 x55 h58) an))))))))))))))))))))))) rfl
      · obtain rfl := some_inj h
        exact run_end cfg_ok (rs := [([], [], []), ([], [(0, .call (.tup [(.pl (.agg (Variation.cells x3.1))), (.pl (.int .i64 x3.2))]) [])], []), ([], [(1, .call (.tup [(.pl (.agg (Variation.cells x7.1))), (.pl (.int .i64 x7.2))]) [])], []), ([], [(1, .call (.own 3) [none, none, none, some (.row false 2 ([(VariationPrice.mk str_p 12)].map VariationPrice.cells))]), (2, .call (.tup [(.pl (.agg (Variation.cells x15.1))), (.pl (.sl .any 2 (x15.2.1.map VariationPayment.cells))), (.pl (.int .i64 x15.2.2))]) [])], []), ([], [(1, .call (.own 6) [none, none, none, none, none, none, some (.row false 2 ([(VariationPrice.mk str_p 11)].map VariationPrice.cells))]), (2, .call (.tup [(.pl (.agg (Variation.cells x23.1))), (.pl (.sl .any 2 (x23.2.1.map VariationPayment.cells))), (.pl (.int .i64 x23.2.2))]) [])], []), ([], [(1, .call (.own 9) [none, none, none, none, none, none, none, none, none, some (.row false 2 ([(VariationPrice.mk str_p 11)].map VariationPrice.cells))]), (2, .call (.tup [(.pl (.agg (Variation.cells x31.1))), (.pl (.sl .any 2 (x31.2.1.map VariationPayment.cells))), (.pl (.int .i64 x31.2.2))]) [])], []), ([(3, true), (4, true), (7, true), (8, true), (11, false), (12, false), (13, false)], [(5, .bool true), (9, .bool true), (14, .bool false)], [])]) (ps := []) (tds := []) (m := []) (keep := [0]) (r := (.ret, (f10n0E (.ret false)).2)) (by kernel_rfl) (ap (f12_ok 0 h4) (ap (f16_ok x3.1 str_b str_a str_p 3 10 h8) (ap (CallS.ren (args' := [(.pl (.int .i64 12))]) (v' := (.own 3)) (B := [none, none, none]) (B' := [none, none, none, some (.row false 2 ([(VariationPrice.mk str_p 12)].map VariationPrice.cells))]) 3 [] (f23r1_ok 12 h14) (by kernel_rfl) (by kernel_rfl) (by kernel_rfl) (by kernel_rfl) (by kernel_rfl) (by kernel_rfl)) (ap (f14_ok x7.1 1 [(VariationPrice.mk str_p 12)] h16) (ap (CallS.ren (args' := [(.pl (.int .i64 11))]) (v' := (.own 6)) (B := [none, none, none, none, none, none]) (B' := [none, none, none, none, none, none, some (.row false 2 ([(VariationPrice.mk str_p 11)].map VariationPrice.cells))]) 6 [] (f23r1_ok 11 h22) (by kernel_rfl) (by kernel_rfl) (by kernel_rfl) (by kernel_rfl) (by kernel_rfl) (by kernel_rfl)) (ap (f14_ok x15.1 2 [(VariationPrice.mk str_p 11)] h24) (ap (CallS.ren (args' := [(.pl (.int .i64 11))]) (v' := (.own 9)) (B := [none, none, none, none, none, none, none, none, none]) (B' := [none, none, none, none, none, none, none, none, none, some (.row false 2 ([(VariationPrice.mk str_p 11)].map VariationPrice.cells))]) 9 [] (f23r1_ok 11 h30) (by kernel_rfl) (by kernel_rfl) (by kernel_rfl) (by kernel_rfl) (by kernel_rfl) (by kernel_rfl)) (ap (f14_ok x7.1 2 [(VariationPrice.mk str_p 11)] h32) (ap h52 (ap h52 (ap h52 (ap h53 (ap h53 (ap h53 (ap h54 (ap h54 (ap h54 (ap h54 an)))))))))))))))))) rfl
    · obtain rfl := some_inj h
      exact run_end cfg_ok (rs := [([], [], []), ([], [(0, .call (.tup [(.pl (.agg (Variation.cells x3.1))), (.pl (.int .i64 x3.2))]) [])], []), ([], [(1, .call (.tup [(.pl (.agg (Variation.cells x7.1))), (.pl (.int .i64 x7.2))]) [])], []), ([], [(1, .call (.own 3) [none, none, none, some (.row false 2 ([(VariationPrice.mk str_p 12)].map VariationPrice.cells))]), (2, .call (.tup [(.pl (.agg (Variation.cells x15.1))), (.pl (.sl .any 2 (x15.2.1.map VariationPayment.cells))), (.pl (.int .i64 x15.2.2))]) [])], []), ([], [(1, .call (.own 6) [none, none, none, none, none, none, some (.row false 2 ([(VariationPrice.mk str_p 11)].map VariationPrice.cells))]), (2, .call (.tup [(.pl (.agg (Variation.cells x23.1))), (.pl (.sl .any 2 (x23.2.1.map VariationPayment.cells))), (.pl (.int .i64 x23.2.2))]) [])], []), ([], [(1, .call (.own 9) [none, none, none, none, none, none, none, none, none, some (.row false 2 ([(VariationPrice.mk str_p 11)].map VariationPrice.cells))]), (2, .call (.tup [(.pl (.agg (Variation.cells x31.1))), (.pl (.sl .any 2 (x31.2.1.map VariationPayment.cells))), (.pl (.int .i64 x31.2.2))]) [])], []), ([(3, true), (4, true), (7, false), (8, false)], [(5, .bool true), (9, .bool false)], [])]) (ps := []) (tds := []) (m := []) (keep := [0]) (r := (.ret, (f10n0E (.ret false)).2)) (by kernel_rfl) (ap (f12_ok 0 h4) (ap (f16_ok x3.1 str_b str_a str_p 3 10 h8) (ap (CallS.ren (args' := [(.pl (.int .i64 12))]) (v' := (.own 3)) (B := [none, none, none]) (B' := [none, none, none, some (.row false 2 ([(VariationPrice.mk str_p 12)].map VariationPrice.cells))]) 3 [] (f23r1_ok 12 h14) (by kernel_rfl) (by kernel_rfl) (by kernel_rfl) (by kernel_rfl) (by kernel_rfl) (by kernel_rfl)) (ap (f14_ok x7.1 1 [(VariationPrice.mk str_p 12)] h16) (ap (CallS.ren (args' := [(.pl (.int .i64 11))]) (v' := (.own 6)) (B := [none, none, none, none, none, none]) (B' := [none, none, none, none, none, none, some (.row false 2 ([(VariationPrice.mk str_p 11)].map VariationPrice.cells))]) 6 [] (f23r1_ok 11 h22) (by kernel_rfl) (by kernel_rfl) (by kernel_rfl) (by kernel_rfl) (by kernel_rfl) (by kernel_rfl)) (ap (f14_ok x15.1 2 [(VariationPrice.mk str_p 11)] h24) (ap (CallS.ren (args' := [(.pl (.int .i64 11))]) (v' := (.own 9)) (B := [none, none, none, none, none, none, none, none, none]) (B' := [none, none, none, none, none, none, none, none, none, some (.row false 2 ([(VariationPrice.mk str_p 11)].map VariationPrice.cells))]) 9 [] (f23r1_ok 11 h30) (by kernel_rfl) (by kernel_rfl) (by kernel_rfl) (by kernel_rfl) (by kernel_rfl) (by kernel_rfl)) (ap (f14_ok x7.1 2 [(VariationPrice.mk str_p 11)] h32) (ap h52 (ap h52 (ap h52 (ap h53 (ap h53 (ap h53 an)))))))))))))) rfl
  · obtain rfl := some_inj h
    exact run_end cfg_ok (rs := [([], [], []), ([], [(0, .call (.tup [(.pl (.agg (Variation.cells x3.1))), (.pl (.int .i64 x3.2))]) [])], []), ([], [(1, .call (.tup [(.pl (.agg (Variation.cells x7.1))), (.pl (.int .i64 x7.2))]) [])], []), ([], [(1, .call (.own 3) [none, none, none, some (.row false 2 ([(VariationPrice.mk str_p 12)].map VariationPrice.cells))]), (2, .call (.tup [(.pl (.agg (Variation.cells x15.1))), (.pl (.sl .any 2 (x15.2.1.map VariationPayment.cells))), (.pl (.int .i64 x15.2.2))]) [])], []), ([], [(1, .call (.own 6) [none, none, none, none, none, none, some (.row false 2 ([(VariationPrice.mk str_p 11)].map VariationPrice.cells))]), (2, .call (.tup [(.pl (.agg (Variation.cells x23.1))), (.pl (.sl .any 2 (x23.2.1.map VariationPayment.cells))), (.pl (.int .i64 x23.2.2))]) [])], []), ([], [(1, .call (.own 9) [none, none, none, none, none, none, none, none, none, some (.row false 2 ([(VariationPrice.mk str_p 11)].map VariationPrice.cells))]), (2, .call (.tup [(.pl (.agg (Variation.cells x31.1))), (.pl (.sl .any 2 (x31.2.1.map VariationPayment.cells))), (.pl (.int .i64 x31.2.2))]) [])], []), ([(3, false), (4, false)], [(5, .bool false)], [])]) (ps := []) (tds := []) (m := []) (keep := [0]) (r := (.ret, (f10n0E (.ret false)).2)) (by kernel_rfl) (ap (f12_ok 0 h4) (ap (f16_ok x3.1 str_b str_a str_p 3 10 h8) (ap (CallS.ren (args' := [(.pl (.int .i64 12))]) (v' := (.own 3)) (B := [none, none, none]) (B' := [none, none, none, some (.row false 2 ([(VariationPrice.mk str_p 12)].map VariationPrice.cells))]) 3 [] (f23r1_ok 12 h14) (by kernel_rfl) (by kernel_rfl) (by kernel_rfl) (by kernel_rfl) (by kernel_rfl) (by kernel_rfl)) (ap (f14_ok x7.1 1 [(VariationPrice.mk str_p 12)] h16) (ap (CallS.ren (args' := [(.pl (.int .i64 11))]) (v' := (.own 6)) (B := [none, none, none, none, none, none]) (B' := [none, none, none, none, none, none, some (.row false 2 ([(VariationPrice.mk str_p 11)].map VariationPrice.cells))]) 6 [] (f23r1_ok 11 h22) (by kernel_rfl) (by kernel_rfl) (by kernel_rfl) (by kernel_rfl) (by kernel_rfl) (by kernel_rfl)) (ap (f14_ok x15.1 2 [(VariationPrice.mk str_p 11)] h24) (ap (CallS.ren (args' := [(.pl (.int .i64 11))]) (v' := (.own 9)) (B := [none, none, none, none, none, none, none, none, none]) (B' := [none, none, none, none, none, none, none, none, none, some (.row false 2 ([(VariationPrice.mk str_p 11)].map VariationPrice.cells))]) 9 [] (f23r1_ok 11 h30) (by kernel_rfl) (by kernel_rfl) (by kernel_rfl) (by kernel_rfl) (by kernel_rfl) (by kernel_rfl)) (ap (f14_ok x7.1 2 [(VariationPrice.mk str_p 11)] h32) (ap h52 (ap h52 (ap h52 an))))))))))) rfl
noncomputable def f10 : Option Bool := f10n0.bind fun o => match o with
  | .ret v71 => some v71
theorem f10_ok {r : Bool} (h : f10 = some r) : CallS Try.prog false 10 [] [] (.pl (.bool r)) [] := by
  unfold f10 at h
  obtain ⟨o, ho, h⟩ := bind_cases h
  cases o with
  | ret v71 =>
    obtain rfl := some_inj h
    exact CallS.plain cfg_ok (f := Try.f10) (c := c10) (by kernel_rfl) (by kernel_rfl) (by kernel_rfl) (by kernel_rfl) ((f10n0_ok  ho).mono fun r e => by subst e; exact ⟨.inl rfl, (.pl (.bool v71)), (.pl (.bool v71)), by kernel_rfl, by kernel_rfl, ((Wk.refl _) : Wk (.pl (.bool v71)) (.pl (.bool v71)))⟩)

noncomputable def c11 : Code := Try.f11.body.getD .skip
inductive f11n2O where
  | exit0
  | ret
def f11n2E (bk1 : List Op_) : f11n2O → Ex × Tr × Hp
  | .exit0 => ((.exit 0), mkS [(0, (.pl (.sl .any 8 (bk1.map Op_.cells))))], [])
  | .ret => (.ret, mkS [(2, (.pl (.bool true)))], [])
def f11n2S (bk1 : List Op_) (v29 : Int) : Tr × Hp := (mkS [(0, (.pl (.sl .any 8 (bk1.map Op_.cells)))), (3, (.pl (.int .i64 v29)))], [])
noncomputable def f11n2 : Nat → List Op_ → Int → Option f11n2O
  | 0, _, _ => none
  | f + 1, bk1, v29 =>
    bif (decide (v29 < (bk1.length : Int))) then
      bif (decide (v29 ≤ 100)) then
        (at? bk1 v29).bind fun x39 =>
        bif (decide (220 < (x39.Prices.length : Int))) then
          some .ret
        else
          bif (decide (x39.Day < (-1))) then
            some .ret
          else
            bif (decide (100000 < x39.Day)) then
              some .ret
            else
              (f11n2 f bk1 (wr64 (v29 + 1)))
      else
        some .exit0
    else
      some .exit0
theorem f11n2_ok : ∀ (f : Nat) (bk1 : List Op_) (v29 : Int) {o : f11n2O}, (f11n2 f bk1 v29) = some o → TL Try.prog Try.f11.ntmps 0 f (cL (cL (dropC 1 (cL (dropC 1 c11))))) (f11n2S bk1 v29) (fun r => r = f11n2E bk1 o)
  | 0, _, _, o, h => by rw [f11n2] at h; cases h
  | f + 1, bk1, v29, o, h => by
    rw [f11n2] at h
    refine TL.body (K := fun s => ∃ v29 : Int, s = (f11n2S bk1 v29) ∧ (f11n2 f bk1 v29) = some o) ?_ (by rintro _ ⟨v29, rfl, hk⟩; exact f11n2_ok f _ _ hk)
    rcases cond_cases h with ⟨h32, h⟩ | ⟨h32, h⟩
    · rcases cond_cases h with ⟨h33, h⟩ | ⟨h33, h⟩
      · obtain ⟨x39, h40, h⟩ := bind_cases h
        rcases cond_cases h with ⟨h41, h⟩ | ⟨h41, h⟩
        · obtain rfl := some_inj h
          exact runK_end cfg_ok (k := 2) (rs := [([(5, true), (6, true)], [(7, .bool true)], [(2, .val (.pl (.int .i64 (bk1.length : Int))))]), ([(8, true), (9, true), (10, true), (11, true), (12, true), (13, true)], [(2, .idx (Int.toNat v29) (Op_.cells x39)), (14, .bool true)], [(5, .val (.pl (.int .i64 (x39.Prices.length : Int))))]), ([], [], [])]) (ps := [some true, none]) (tds := []) (m := []) (keep := [2]) (ex := .ret) (st' := (f11n2E bk1 .ret).2) (by kernel_rfl) (ap (len_cv (xs := bk1) (c := Op_.cells)) (ap h32 (ap h32 (ap h32 (ap h33 (ap (at_some h40).1 (ap (at_map Op_.cells (at_some h40).2) (ap (len_cv (xs := x39.Prices) (c := VariationPrice.cells)) (ap h41 (ap h41 (ap h41 (ap h41 (ap h41 (ap h41 (ap h41 an))))))))))))))) (fun h => nomatch h) (LoopQ.out rfl rfl)
        · rcases cond_cases h with ⟨h42, h⟩ | ⟨h42, h⟩
          · obtain rfl := some_inj h
            exact runK_end cfg_ok (k := 2) (rs := [([(5, true), (6, true)], [(7, .bool true)], [(2, .val (.pl (.int .i64 (bk1.length : Int))))]), ([(8, false), (9, false), (10, false), (11, false), (12, false), (13, false), (16, true), (17, true), (18, true), (19, true), (20, true), (21, true)], [(2, .idx (Int.toNat v29) (Op_.cells x39)), (10, .idx (Int.toNat v29) (Op_.cells x39)), (14, .bool false), (22, .bool true)], [(5, .val (.pl (.int .i64 (x39.Prices.length : Int))))]), ([], [], [])]) (ps := [some true, none]) (tds := []) (m := []) (keep := [2]) (ex := .ret) (st' := (f11n2E bk1 .ret).2) (by kernel_rfl) (ap (len_cv (xs := bk1) (c := Op_.cells)) (ap h32 (ap h32 (ap h32 (ap h33 (ap (at_some h40).1 (ap (at_map Op_.cells (at_some h40).2) (ap (len_cv (xs := x39.Prices) (c := VariationPrice.cells)) (ap h41 (ap h41 (ap h41 (ap (at_some h40).1 (ap (at_map Op_.cells (at_some h40).2) (ap h41 (ap h41 (ap h41 (ap h41 (ap h42 (ap h42 (ap h42 (ap h42 (ap h42 (ap h42 (ap h42 an)))))))))))))))))))))))) (fun h => nomatch h) (LoopQ.out rfl rfl)
          · rcases cond_cases h with ⟨h43, h⟩ | ⟨h43, h⟩
            · obtain rfl := some_inj h
              exact runK_end cfg_ok (k := 2) (rs := [([(5, true), (6, true)], [(7, .bool true)], [(2, .val (.pl (.int .i64 (bk1.length : Int))))]), ([(8, false), (9, false), (10, false), (11, false), (12, false), (13, false), (16, false), (17, false), (18, false), (19, false), (20, false), (21, false)], [(2, .idx (Int.toNat v29) (Op_.cells x39)), (10, .idx (Int.toNat v29) (Op_.cells x39)), (14, .bool false), (18, .idx (Int.toNat v29) (Op_.cells x39)), (22, .bool false)], [(5, .val (.pl (.int .i64 (x39.Prices.length : Int))))]), ([], [], [])]) (ps := [some true, some true]) (tds := []) (m := []) (keep := [2]) (ex := .ret) (st' := (f11n2E bk1 .ret).2) (by kernel_rfl) (ap (len_cv (xs := bk1) (c := Op_.cells)) (ap h32 (ap h32 (ap h32 (ap h33 (ap (at_some h40).1 (ap (at_map Op_.cells (at_some h40).2) (ap (len_cv (xs := x39.Prices) (c := VariationPrice.cells)) (ap h41 (ap h41 (ap h41 (ap (at_some h40).1 (ap (at_map Op_.cells (at_some h40).2) (ap h41 (ap h41 (ap h41 (ap h41 (ap h42 (ap h42 (ap h42 (ap (at_some h40).1 (ap (at_map Op_.cells (at_some h40).2) (ap h42 (ap h42 (ap h42 (ap h42 (ap h43 an))))))))))))))))))))))))))) (fun h => nomatch h) (LoopQ.out rfl rfl)
            · exact run_end cfg_ok (rs := [([(5, true), (6, true)], [(7, .bool true)], [(2, .val (.pl (.int .i64 (bk1.length : Int))))]), ([(8, false), (9, false), (10, false), (11, false), (12, false), (13, false), (16, false), (17, false), (18, false), (19, false), (20, false), (21, false)], [(2, .idx (Int.toNat v29) (Op_.cells x39)), (10, .idx (Int.toNat v29) (Op_.cells x39)), (14, .bool false), (18, .idx (Int.toNat v29) (Op_.cells x39)), (22, .bool false)], [(5, .val (.pl (.int .i64 (x39.Prices.length : Int))))]), ([], [], [])]) (ps := [some true, some false]) (tds := []) (m := []) (keep := [0, 3]) (r := (.norm, (f11n2S bk1 (wr64 (v29 + 1))))) (by kernel_rfl) (ap (len_cv (xs := bk1) (c := Op_.cells)) (ap h32 (ap h32 (ap h32 (ap h33 (ap (at_some h40).1 (ap (at_map Op_.cells (at_some h40).2) (ap (len_cv (xs := x39.Prices) (c := VariationPrice.cells)) (ap h41 (ap h41 (ap h41 (ap (at_some h40).1 (ap (at_map Op_.cells (at_some h40).2) (ap h41 (ap h41 (ap h41 (ap h41 (ap h42 (ap h42 (ap h42 (ap (at_some h40).1 (ap (at_map Op_.cells (at_some h40).2) (ap h42 (ap h42 (ap h42 (ap h42 (ap h43 an))))))))))))))))))))))))))) (LoopQ.norm ⟨(wr64 (v29 + 1)), rfl, h⟩)
      · obtain rfl := some_inj h
        exact runK_end cfg_ok (k := 1) (rs := [([(5, true), (6, true)], [(7, .bool true)], [(2, .val (.pl (.int .i64 (bk1.length : Int))))])]) (ps := [some false]) (tds := []) (m := []) (keep := [0]) (ex := (.exit 0)) (st' := (f11n2E bk1 .exit0).2) (by kernel_rfl) (ap (len_cv (xs := bk1) (c := Op_.cells)) (ap h32 (ap h32 (ap h32 (ap h33 an))))) (fun h => nomatch h) (LoopQ.out rfl rfl)
    · obtain rfl := some_inj h
      exact runK_end cfg_ok (k := 1) (rs := [([(5, false), (6, false)], [(7, .bool false)], [(2, .val (.pl (.int .i64 (bk1.length : Int))))])]) (ps := [none]) (tds := []) (m := []) (keep := [0]) (ex := (.exit 0)) (st' := (f11n2E bk1 .exit0).2) (by kernel_rfl) (ap (len_cv (xs := bk1) (c := Op_.cells)) (ap h32 (ap h32 (ap h32 an)))) (fun h => nomatch h) (LoopQ.out rfl rfl)
noncomputable def f11n2L (bk1 : List Op_) : List Op_ → Int → Option f11n2O
  | [], v29 =>
    some .exit0
  | x0 :: rest, v29 =>
    bif (decide (v29 ≤ 100)) then
      bif (decide (220 < (x0.Prices.length : Int))) then
        some .ret
      else
        bif (decide (x0.Day < (-1))) then
          some .ret
        else
          bif (decide (100000 < x0.Day)) then
            some .ret
          else
            (f11n2L bk1 rest (v29 + 1))
    else
      some .exit0
theorem f11n2L_eq (bk1 : List Op_) : ∀ (rest : List Op_) (f k : Nat), bk1.drop k = rest → bk1.length ≤ maxLen → rest.length < f → f11n2 f bk1 (k : Int) = f11n2L bk1 rest (k : Int)
  | _, 0, _, _, _, hf => absurd hf (Nat.not_lt_zero _)
  | [], f + 1, k, hd, hm, hf => by
    have hk : ¬ ((k : Int) < (bk1.length : Int)) := by have := drop_nil hd; omega
    rw [f11n2, f11n2L]
    simp only [decide_eq_false hk, cond_false]
  | x0 :: rest, f + 1, k, hd, hm, hf => by
    obtain ⟨hx, hlt, hd'⟩ := drop_cons hd
    have hk : (k : Int) < (bk1.length : Int) := by omega
    have hw : wr64 ((k : Int) + 1) = (k : Int) + 1 := wr64_of (by omega) (by unfold maxLen at hm; omega)
    have ih : f11n2 f bk1 ((k : Int) + 1) = f11n2L bk1 rest ((k : Int) + 1) := f11n2L_eq bk1 rest f (k + 1) hd' hm (by simpa using hf)
    rw [f11n2, f11n2L]
    simp only [decide_eq_true hk, cond_true, at_nat, hx, Option.bind_some, hw, ih]
theorem f11n2_run (bk1 : List Op_) (hm : bk1.length ≤ maxLen) : f11n2 FUEL bk1 0 = f11n2L bk1 bk1 0 := f11n2L_eq bk1 bk1 FUEL 0 List.drop_zero hm (lt_FUEL hm)
inductive f11n1O where
  | norm
  | ret
def f11n1E (bk1 : List Op_) : f11n1O → Ex × Tr × Hp
  | .norm => (.norm, mkS [(0, (.pl (.sl .any 8 (bk1.map Op_.cells))))], [])
  | .ret => (.ret, mkS [(2, (.pl (.bool true)))], [])
def f11n1S (bk1 : List Op_) : Tr × Hp := (mkS [(0, (.pl (.sl .any 8 (bk1.map Op_.cells))))], [])
noncomputable def f11n1 (bk1 : List Op_) : Option f11n1O :=
  (f11n2 FUEL bk1 0).bind fun o44 => match o44 with
  | .exit0 => some .norm
  | .ret => some .ret
theorem f11n1_ok (bk1 : List Op_) {o : f11n1O} (h : (f11n1 bk1) = some o) : T Try.prog Try.f11.ntmps 0 (cL (dropC 1 c11)) (f11n1S bk1) (fun r => r = f11n1E bk1 o) := by
  unfold f11n1 at h
  refine runK_norm cfg_ok (k := 1) (rs := [([], [], [])]) (ps := []) (tds := []) (m := []) (keep := [0, 3]) (st' := (f11n2S bk1 0)) (by kernel_rfl) an ?_
  obtain ⟨o44, h45, h⟩ := bind_cases h
  cases o44 with
  | exit0 =>
    obtain rfl := some_inj h
    exact T.last' (T.bl (i := 0) (by kernel_rfl) (by kernel_rfl) (f11n2_ok FUEL bk1 0 h45)) (tds := []) (m := []) (keep := [0]) (st2 := (f11n1E bk1 .norm).2) (by kernel_rfl) an rfl
  | ret =>
    obtain rfl := some_inj h
    exact T.last' (T.bl (i := 0) (by kernel_rfl) (by kernel_rfl) (f11n2_ok FUEL bk1 0 h45)) (tds := []) (m := []) (keep := [2]) (st2 := (f11n1E bk1 .ret).2) (by kernel_rfl) an rfl
inductive f11n0O where
  | ret (v48 : Bool)
def f11n0E (a1 : List Op_) : f11n0O → Ex × Tr × Hp
  | .ret v48 => (.ret, mkS [(2, (.pl (.bool v48)))], [])
def f11n0S (a1 : List Op_) : Tr × Hp := (initS [(.pl (.sl .any 8 (a1.map Op_.cells)))] 0 .leaf, [])
noncomputable def f11n0 (a1 : List Op_) : Option f11n0O :=
  (f11n1 a1).bind fun o46 => match o46 with
  | .norm => some (.ret (decide (100 < (a1.length : Int))))
  | .ret => some (.ret true)
theorem f11n0_ok (a1 : List Op_) {o : f11n0O} (h : (f11n0 a1) = some o) : T Try.prog Try.f11.ntmps 0 c11 (f11n0S a1) (fun r => r = f11n0E a1 o) := by
  unfold f11n0 at h
  refine runK_norm cfg_ok (k := 1) (rs := [([], [], [])]) (ps := []) (tds := []) (m := []) (keep := [0]) (st' := (f11n1S a1)) (by kernel_rfl) an ?_
  obtain ⟨o46, h47, h⟩ := bind_cases h
  cases o46 with
  | norm =>
    refine T.oneN (by kernel_rfl) (f11n1_ok a1 h47) (st2 := (f11n1E a1 .norm).2) rfl ?_
    obtain rfl := some_inj h
    exact run_end cfg_ok (rs := [([], [], [(1, .val (.pl (.int .i64 (a1.length : Int))))])]) (ps := []) (tds := []) (m := []) (keep := [2]) (r := (.ret, (f11n0E a1 (.ret (decide (100 < (a1.length : Int))))).2)) (by kernel_rfl) (ap (len_cv (xs := a1) (c := Op_.cells)) an) rfl
  | ret =>
    obtain rfl := some_inj h
    exact T.oneX' (by kernel_rfl) (f11n1_ok a1 h47) (tds := []) (m := []) (keep := [2]) (st2 := (f11n0E a1 (.ret true)).2) (by kernel_rfl) an rfl rfl
noncomputable def f11 (a1 : List Op_) : Option Bool := (f11n0 a1).bind fun o => match o with
  | .ret v48 => some v48
theorem f11_ok (a1 : List Op_) {r : Bool} (h : (f11 a1) = some r) : CallS Try.prog false 11 [(.pl (.sl .any 8 (a1.map Op_.cells)))] [] (.pl (.bool r)) [] := by
  unfold f11 at h
  obtain ⟨o, ho, h⟩ := bind_cases h
  cases o with
  | ret v48 =>
    obtain rfl := some_inj h
    exact CallS.plain cfg_ok (f := Try.f11) (c := c11) (by kernel_rfl) (by kernel_rfl) (by kernel_rfl) (by kernel_rfl) ((f11n0_ok a1 ho).mono fun r e => by subst e; exact ⟨.inl rfl, (.pl (.bool v48)), (.pl (.bool v48)), by kernel_rfl, by kernel_rfl, ((Wk.refl _) : Wk (.pl (.bool v48)) (.pl (.bool v48)))⟩)







end Go.Proofs.Ytelblamgfbkhbaa
namespace Go.Proofs.Ytelblamgfbkhbaa
set_option linter.unusedVariables false
set_option linter.unusedSimpArgs false
set_option maxRecDepth 100000
open Go.RowKit





end Go.Proofs.Ytelblamgfbkhbaa
namespace Go.Proofs.Ytelblamgfbkhbaa
set_option linter.unusedVariables false
set_option linter.unusedSimpArgs false
set_option maxRecDepth 100000
open Go.RowKit
noncomputable def c3 : Code := Try.f3.body.getD .skip
theorem f3n2_ok : ∀ (f : Nat) (bk1 : List Op_) (bl2 : Bool) (v139 : Int) (v140 : Variation) (v141 : Variation) {o : f3n2O}, (f3n2 f bk1 bl2 v139 v140 v141) = some o → TL Try.prog Try.f3.ntmps 0 f (cL (cL (dropC 1 (cL (dropC 6 c3))))) (f3n2S bk1 bl2 v139 v140 v141) (fun r => r = f3n2E bk1 bl2 o)
  | 0, _, _, _, _, _, o, h => by rw [f3n2] at h; cases h
  | f + 1, bk1, bl2, v139, v140, v141, o, h => by
    rw [f3n2] at h
    refine TL.body (K := fun s => ∃ v139 : Int, ∃ v140 : Variation, ∃ v141 : Variation, s = (f3n2S bk1 bl2 v139 v140 v141) ∧ (f3n2 f bk1 bl2 v139 v140 v141) = some o) ?_ (by rintro _ ⟨v139, v140, v141, rfl, hk⟩; exact f3n2_ok f _ _ _ _ _ hk)
    rcases cond_cases h with ⟨h143, h⟩ | ⟨h143, h⟩
    · obtain ⟨x171, h172, h⟩ := bind_cases h
      rcases cond_cases h with ⟨h173, h⟩ | ⟨h173, h⟩
      · obtain ⟨x174, h175, h⟩ := bind_cases h
        obtain ⟨x176, h177, h⟩ := bind_cases h
        obtain ⟨x178, h179, h⟩ := bind_cases h
        rcases cond_cases h with ⟨h180, h⟩ | ⟨h180, h⟩
        · obtain ⟨x181, h182, h⟩ := bind_cases h
          rcases cond_cases h with ⟨h183, h⟩ | ⟨h183, h⟩
          · rcases cond_cases h with ⟨h184, h⟩ | ⟨h184, h⟩
            · rcases cond_cases h with ⟨h185, h⟩ | ⟨h185, h⟩
              · exact run_end cfg_ok (rs := [([], [], [(2, .val (.pl (.int .i64 (bk1.length : Int))))]), ([], [(2, .idx (Int.toNat v139) (Op_.cells x171))], []), ([], [], []), ([], [], []), ([], [], []), ([], [(8, .call (.tup [(.pl (.agg (Variation.cells x174.1))), (.pl (.sl .any 2 (x174.2.1.map VariationPayment.cells))), (.pl (.int .i64 x174.2.2))]) [])], []), ([], [(8, .call (.tup [(.pl (.agg (Variation.cells x176.1))), (.pl (.sl .any 2 (x176.2.1.map VariationPayment.cells))), (.pl (.int .i64 x176.2.2))]) [])], []), ([(5, false), (6, false), (7, false), (8, false), (11, false), (12, false), (13, false)], [(2, .call (.pl (.bool x178)) []), (7, .call (.pl (.bool x181)) []), (9, .bool false), (14, .bool false)], []), ([], [], []), ([], [], []), ([], [], [])]) (ps := [some true, some true, some false, some true]) (tds := []) (m := [0, 1]) (keep := [0, 3, 4, 6, 8]) (r := (.norm, (f3n2S bk1 bl2 (wr64 (v139 + 1)) x174.1 x176.1))) (by kernel_rfl) (ap (len_cv (xs := bk1) (c := Op_.cells)) (ap h143 (ap (at_some h172).1 (ap (at_map Op_.cells (at_some h172).2) (ap h173 (ap (f14_ok v140 (wr64 (v140.Day + x171.Day)) x171.Prices h175) (ap (f15_ok v141 (wr64 (v141.Day + x171.Day)) x171.Prices h177) (ap (not_t h180) (ap (not_t h180) (ap (not_t h180) (ap (not_t h180) (ap (not_t h180) (ap (not_t h183) (ap (not_t h183) (ap (not_t h183) (ap (not_t h183) (ap (f18_ok x174.1 x176.1 h179) (ap (f19_ok x174.2.1 x176.2.1 h182) (ap (not_t h184) (ap h185 an)))))))))))))))))))) (LoopQ.norm ⟨(wr64 (v139 + 1)), x174.1, x176.1, rfl, h⟩)
              · exact run_end cfg_ok (rs := [([], [], [(2, .val (.pl (.int .i64 (bk1.length : Int))))]), ([], [(2, .idx (Int.toNat v139) (Op_.cells x171))], []), ([], [], []), ([], [], []), ([], [], []), ([], [(8, .call (.tup [(.pl (.agg (Variation.cells x174.1))), (.pl (.sl .any 2 (x174.2.1.map VariationPayment.cells))), (.pl (.int .i64 x174.2.2))]) [])], []), ([], [(8, .call (.tup [(.pl (.agg (Variation.cells x176.1))), (.pl (.sl .any 2 (x176.2.1.map VariationPayment.cells))), (.pl (.int .i64 x176.2.2))]) [])], []), ([(5, false), (6, false), (7, false), (8, false), (11, false), (12, false), (13, false)], [(2, .call (.pl (.bool x178)) []), (7, .call (.pl (.bool x181)) []), (9, .bool false), (14, .bool false)], []), ([], [], []), ([], [], [])]) (ps := [some true, some true, some false, some false]) (tds := []) (m := [0, 1]) (keep := [0, 3, 4, 6, 8]) (r := (.norm, (f3n2S bk1 bl2 (wr64 (v139 + 1)) v140 v141))) (by kernel_rfl) (ap (len_cv (xs := bk1) (c := Op_.cells)) (ap h143 (ap (at_some h172).1 (ap (at_map Op_.cells (at_some h172).2) (ap h173 (ap (f14_ok v140 (wr64 (v140.Day + x171.Day)) x171.Prices h175) (ap (f15_ok v141 (wr64 (v141.Day + x171.Day)) x171.Prices h177) (ap (not_t h180) (ap (not_t h180) (ap (not_t h180) (ap (not_t h180) (ap (not_t h180) (ap (not_t h183) (ap (not_t h183) (ap (not_t h183) (ap (not_t h183) (ap (f18_ok x174.1 x176.1 h179) (ap (f19_ok x174.2.1 x176.2.1 h182) (ap (not_t h184) (ap h185 an)))))))))))))))))))) (LoopQ.norm ⟨(wr64 (v139 + 1)), v140, v141, rfl, h⟩)
            · obtain rfl := some_inj h
              exact runK_end cfg_ok (k := 2) (rs := [([], [], [(2, .val (.pl (.int .i64 (bk1.length : Int))))]), ([], [(2, .idx (Int.toNat v139) (Op_.cells x171))], []), ([], [], []), ([], [], []), ([], [], []), ([], [(8, .call (.tup [(.pl (.agg (Variation.cells x174.1))), (.pl (.sl .any 2 (x174.2.1.map VariationPayment.cells))), (.pl (.int .i64 x174.2.2))]) [])], []), ([], [(8, .call (.tup [(.pl (.agg (Variation.cells x176.1))), (.pl (.sl .any 2 (x176.2.1.map VariationPayment.cells))), (.pl (.int .i64 x176.2.2))]) [])], []), ([(5, false), (6, false), (7, false), (8, false), (11, false), (12, false), (13, false)], [(2, .call (.pl (.bool x178)) []), (7, .call (.pl (.bool x181)) []), (9, .bool false), (14, .bool false)], []), ([], [], [])]) (ps := [some true, some true, some true]) (tds := []) (m := []) (keep := [2]) (ex := .ret) (st' := (f3n2E bk1 bl2 .ret).2) (by kernel_rfl) (ap (len_cv (xs := bk1) (c := Op_.cells)) (ap h143 (ap (at_some h172).1 (ap (at_map Op_.cells (at_some h172).2) (ap h173 (ap (f14_ok v140 (wr64 (v140.Day + x171.Day)) x171.Prices h175) (ap (f15_ok v141 (wr64 (v141.Day + x171.Day)) x171.Prices h177) (ap (not_t h180) (ap (not_t h180) (ap (not_t h180) (ap (not_t h180) (ap (not_t h180) (ap (not_t h183) (ap (not_t h183) (ap (not_t h183) (ap (not_t h183) (ap (f18_ok x174.1 x176.1 h179) (ap (f19_ok x174.2.1 x176.2.1 h182) (ap (not_f h184) an))))))))))))))))))) (fun h => nomatch h) (LoopQ.out rfl rfl)
          · obtain rfl := some_inj h
            exact runK_end cfg_ok (k := 2) (rs := [([], [], [(2, .val (.pl (.int .i64 (bk1.length : Int))))]), ([], [(2, .idx (Int.toNat v139) (Op_.cells x171))], []), ([], [], []), ([], [], []), ([], [], []), ([], [(8, .call (.tup [(.pl (.agg (Variation.cells x174.1))), (.pl (.sl .any 2 (x174.2.1.map VariationPayment.cells))), (.pl (.int .i64 x174.2.2))]) [])], []), ([], [(8, .call (.tup [(.pl (.agg (Variation.cells x176.1))), (.pl (.sl .any 2 (x176.2.1.map VariationPayment.cells))), (.pl (.int .i64 x176.2.2))]) [])], []), ([(5, false), (6, false), (7, false), (8, false), (11, true), (12, true), (13, true)], [(2, .call (.pl (.bool x178)) []), (7, .call (.pl (.bool x181)) []), (9, .bool false), (14, .bool true)], []), ([], [], [])]) (ps := [some true, some true, none]) (tds := []) (m := []) (keep := [2]) (ex := .ret) (st' := (f3n2E bk1 bl2 .ret).2) (by kernel_rfl) (ap (len_cv (xs := bk1) (c := Op_.cells)) (ap h143 (ap (at_some h172).1 (ap (at_map Op_.cells (at_some h172).2) (ap h173 (ap (f14_ok v140 (wr64 (v140.Day + x171.Day)) x171.Prices h175) (ap (f15_ok v141 (wr64 (v141.Day + x171.Day)) x171.Prices h177) (ap (not_t h180) (ap (not_t h180) (ap (not_t h180) (ap (not_t h180) (ap (not_t h180) (ap (not_f h183) (ap (not_f h183) (ap (not_f h183) (ap (not_f h183) (ap (f18_ok x174.1 x176.1 h179) (ap (f19_ok x174.2.1 x176.2.1 h182) an)))))))))))))))))) (fun h => nomatch h) (LoopQ.out rfl rfl)
        · obtain rfl := some_inj h
          exact runK_end cfg_ok (k := 2) (rs := [([], [], [(2, .val (.pl (.int .i64 (bk1.length : Int))))]), ([], [(2, .idx (Int.toNat v139) (Op_.cells x171))], []), ([], [], []), ([], [], []), ([], [], []), ([], [(8, .call (.tup [(.pl (.agg (Variation.cells x174.1))), (.pl (.sl .any 2 (x174.2.1.map VariationPayment.cells))), (.pl (.int .i64 x174.2.2))]) [])], []), ([], [(8, .call (.tup [(.pl (.agg (Variation.cells x176.1))), (.pl (.sl .any 2 (x176.2.1.map VariationPayment.cells))), (.pl (.int .i64 x176.2.2))]) [])], []), ([(5, true), (6, true), (7, true), (8, true)], [(2, .call (.pl (.bool x178)) []), (9, .bool true)], []), ([], [], [])]) (ps := [some true, some true, none]) (tds := []) (m := []) (keep := [2]) (ex := .ret) (st' := (f3n2E bk1 bl2 .ret).2) (by kernel_rfl) (ap (len_cv (xs := bk1) (c := Op_.cells)) (ap h143 (ap (at_some h172).1 (ap (at_map Op_.cells (at_some h172).2) (ap h173 (ap (f14_ok v140 (wr64 (v140.Day + x171.Day)) x171.Prices h175) (ap (f15_ok v141 (wr64 (v141.Day + x171.Day)) x171.Prices h177) (ap (not_f h180) (ap (not_f h180) (ap (not_f h180) (ap (not_f h180) (ap (not_f h180) (ap (f18_ok x174.1 x176.1 h179) an))))))))))))) (fun h => nomatch h) (LoopQ.out rfl rfl)
      · obtain ⟨x186, h187, h⟩ := bind_cases h
        obtain ⟨x188, h189, h⟩ := bind_cases h
        obtain ⟨x190, h191, h⟩ := bind_cases h
        rcases cond_cases h with ⟨h192, h⟩ | ⟨h192, h⟩
        · obtain ⟨x193, h194, h⟩ := bind_cases h
          rcases cond_cases h with ⟨h195, h⟩ | ⟨h195, h⟩
          · rcases cond_cases h with ⟨h196, h⟩ | ⟨h196, h⟩
            · rcases cond_cases h with ⟨h197, h⟩ | ⟨h197, h⟩
              · exact run_end cfg_ok (rs := [([], [], [(2, .val (.pl (.int .i64 (bk1.length : Int))))]), ([], [(2, .idx (Int.toNat v139) (Op_.cells x171))], []), ([], [], []), ([], [], []), ([], [], []), ([], [(11, .call (.tup [(.pl (.agg (Variation.cells x186.1))), (.pl (.int .i64 x186.2))]) [])], []), ([], [(11, .call (.tup [(.pl (.agg (Variation.cells x188.1))), (.pl (.int .i64 x188.2))]) [])], []), ([(5, false), (6, false), (7, false), (8, false), (11, false), (12, false), (13, false)], [(2, .call (.pl (.bool x190)) []), (7, .call (.pl (.bool x193)) []), (9, .bool false), (14, .bool false)], []), ([], [], []), ([], [], []), ([], [], [])]) (ps := [some true, some false, some false, some true]) (tds := []) (m := [0, 1]) (keep := [0, 3, 4, 6, 8]) (r := (.norm, (f3n2S bk1 bl2 (wr64 (v139 + 1)) x186.1 x188.1))) (by kernel_rfl) (ap (len_cv (xs := bk1) (c := Op_.cells)) (ap h143 (ap (at_some h172).1 (ap (at_map Op_.cells (at_some h172).2) (ap h173 (ap (f16_ok v140 x171.Buyer x171.Seller x171.Product x171.Quantity x171.Price h187) (ap (f17_ok v141 x171.Buyer x171.Seller x171.Product x171.Quantity x171.Price h189) (ap (not_t h192) (ap (not_t h192) (ap (not_t h192) (ap (not_t h192) (ap (not_t h192) (ap (not_t h195) (ap (not_t h195) (ap (not_t h195) (ap (not_t h195) (ap (f18_ok x186.1 x188.1 h191) (ap (CallS.wk (args' := [(.pl (.sl .nil 0 [])), (.pl (.sl .nil 0 []))]) (f19_ok [] [] h194) (wlc (Wk.pl (WkP.nil (f := .nil) (sz := 0) (sz' := 2))) (wlc (Wk.pl (WkP.nil (f := .nil) (sz := 0) (sz' := 2))) wln)) (Wk.refl _) rfl) (ap (not_t h196) (ap h197 an)))))))))))))))))))) (LoopQ.norm ⟨(wr64 (v139 + 1)), x186.1, x188.1, rfl, h⟩)
              · exact run_end cfg_ok (rs := [([], [], [(2, .val (.pl (.int .i64 (bk1.length : Int))))]), ([], [(2, .idx (Int.toNat v139) (Op_.cells x171))], []), ([], [], []), ([], [], []), ([], [], []), ([], [(11, .call (.tup [(.pl (.agg (Variation.cells x186.1))), (.pl (.int .i64 x186.2))]) [])], []), ([], [(11, .call (.tup [(.pl (.agg (Variation.cells x188.1))), (.pl (.int .i64 x188.2))]) [])], []), ([(5, false), (6, false), (7, false), (8, false), (11, false), (12, false), (13, false)], [(2, .call (.pl (.bool x190)) []), (7, .call (.pl (.bool x193)) []), (9, .bool false), (14, .bool false)], []), ([], [], []), ([], [], [])]) (ps := [some true, some false, some false, some false]) (tds := []) (m := [0, 1]) (keep := [0, 3, 4, 6, 8]) (r := (.norm, (f3n2S bk1 bl2 (wr64 (v139 + 1)) v140 v141))) (by kernel_rfl) (ap (len_cv (xs := bk1) (c := Op_.cells)) (ap h143 (ap (at_some h172).1 (ap (at_map Op_.cells (at_some h172).2) (ap h173 (ap (f16_ok v140 x171.Buyer x171.Seller x171.Product x171.Quantity x171.Price h187) (ap (f17_ok v141 x171.Buyer x171.Seller x171.Product x171.Quantity x171.Price h189) (ap (not_t h192) (ap (not_t h192) (ap (not_t h192) (ap (not_t h192) (ap (not_t h192) (ap (not_t h195) (ap (not_t h195) (ap (not_t h195) (ap (not_t h195) (ap (f18_ok x186.1 x188.1 h191) (ap (CallS.wk (args' := [(.pl (.sl .nil 0 [])), (.pl (.sl .nil 0 []))]) (f19_ok [] [] h194) (wlc (Wk.pl (WkP.nil (f := .nil) (sz := 0) (sz' := 2))) (wlc (Wk.pl (WkP.nil (f := .nil) (sz := 0) (sz' := 2))) wln)) (Wk.refl _) rfl) (ap (not_t h196) (ap h197 an)))))))))))))))))))) (LoopQ.norm ⟨(wr64 (v139 + 1)), v140, v141, rfl, h⟩)
            · obtain rfl := some_inj h
              exact runK_end cfg_ok (k := 2) (rs := [([], [], [(2, .val (.pl (.int .i64 (bk1.length : Int))))]), ([], [(2, .idx (Int.toNat v139) (Op_.cells x171))], []), ([], [], []), ([], [], []), ([], [], []), ([], [(11, .call (.tup [(.pl (.agg (Variation.cells x186.1))), (.pl (.int .i64 x186.2))]) [])], []), ([], [(11, .call (.tup [(.pl (.agg (Variation.cells x188.1))), (.pl (.int .i64 x188.2))]) [])], []), ([(5, false), (6, false), (7, false), (8, false), (11, false), (12, false), (13, false)], [(2, .call (.pl (.bool x190)) []), (7, .call (.pl (.bool x193)) []), (9, .bool false), (14, .bool false)], []), ([], [], [])]) (ps := [some true, some false, some true]) (tds := []) (m := []) (keep := [2]) (ex := .ret) (st' := (f3n2E bk1 bl2 .ret).2) (by kernel_rfl) (ap (len_cv (xs := bk1) (c := Op_.cells)) (ap h143 (ap (at_some h172).1 (ap (at_map Op_.cells (at_some h172).2) (ap h173 (ap (f16_ok v140 x171.Buyer x171.Seller x171.Product x171.Quantity x171.Price h187) (ap (f17_ok v141 x171.Buyer x171.Seller x171.Product x171.Quantity x171.Price h189) (ap (not_t h192) (ap (not_t h192) (ap (not_t h192) (ap (not_t h192) (ap (not_t h192) (ap (not_t h195) (ap (not_t h195) (ap (not_t h195) (ap (not_t h195) (ap (f18_ok x186.1 x188.1 h191) (ap (CallS.wk (args' := [(.pl (.sl .nil 0 [])), (.pl (.sl .nil 0 []))]) (f19_ok [] [] h194) (wlc (Wk.pl (WkP.nil (f := .nil) (sz := 0) (sz' := 2))) (wlc (Wk.pl (WkP.nil (f := .nil) (sz := 0) (sz' := 2))) wln)) (Wk.refl _) rfl) (ap (not_f h196) an))))))))))))))))))) (fun h => nomatch h) (LoopQ.out rfl rfl)
          · obtain rfl := some_inj h
            exact runK_end cfg_ok (k := 2) (rs := [([], [], [(2, .val (.pl (.int .i64 (bk1.length : Int))))]), ([], [(2, .idx (Int.toNat v139) (Op_.cells x171))], []), ([], [], []), ([], [], []), ([], [], []), ([], [(11, .call (.tup [(.pl (.agg (Variation.cells x186.1))), (.pl (.int .i64 x186.2))]) [])], []), ([], [(11, .call (.tup [(.pl (.agg (Variation.cells x188.1))), (.pl (.int .i64 x188.2))]) [])], []), ([(5, false), (6, false), (7, false), (8, false), (11, true), (12, true), (13, true)], [(2, .call (.pl (.bool x190)) []), (7, .call (.pl (.bool x193)) []), (9, .bool false), (14, .bool true)], []), ([], [], [])]) (ps := [some true, some false, none]) (tds := []) (m := []) (keep := [2]) (ex := .ret) (st' := (f3n2E bk1 bl2 .ret).2) (by kernel_rfl) (ap (len_cv (xs := bk1) (c := Op_.cells)) (ap h143 (ap (at_some h172).1 (ap (at_map Op_.cells (at_some h172).2) (ap h173 (ap (f16_ok v140 x171.Buyer x171.Seller x171.Product x171.Quantity x171.Price h187) (ap (f17_ok v141 x171.Buyer x171.Seller x171.Product x171.Quantity x171.Price h189) (ap (not_t h192) (ap (not_t h192) (ap (not_t h192) (ap (not_t h192) (ap (not_t h192) (ap (not_f h195) (ap (not_f h195) (ap (not_f h195) (ap (not_f h195) (ap (f18_ok x186.1 x188.1 h191) (ap (CallS.wk (args' := [(.pl (.sl .nil 0 [])), (.pl (.sl .nil 0 []))]) (f19_ok [] [] h194) (wlc (Wk.pl (WkP.nil (f := .nil) (sz := 0) (sz' := 2))) (wlc (Wk.pl (WkP.nil (f := .nil) (sz := 0) (sz' := 2))) wln)) (Wk.refl _) rfl) an)))))))))))))))))) (fun h => nomatch h) (LoopQ.out rfl rfl)
        · obtain rfl := some_inj h
          exact runK_end cfg_ok (k := 2) (rs := [([], [], [(2, .val (.pl (.int .i64 (bk1.length : Int))))]), ([], [(2, .idx (Int.toNat v139) (Op_.cells x171))], []), ([], [], []), ([], [], []), ([], [], []), ([], [(11, .call (.tup [(.pl (.agg (Variation.cells x186.1))), (.pl (.int .i64 x186.2))]) [])], []), ([], [(11, .call (.tup [(.pl (.agg (Variation.cells x188.1))), (.pl (.int .i64 x188.2))]) [])], []), ([(5, true), (6, true), (7, true), (8, true)], [(2, .call (.pl (.bool x190)) []), (9, .bool true)], []), ([], [], [])]) (ps := [some true, some false, none]) (tds := []) (m := []) (keep := [2]) (ex := .ret) (st' := (f3n2E bk1 bl2 .ret).2) (by kernel_rfl) (ap (len_cv (xs := bk1) (c := Op_.cells)) (ap h143 (ap (at_some h172).1 (ap (at_map Op_.cells (at_some h172).2) (ap h173 (ap (f16_ok v140 x171.Buyer x171.Seller x171.Product x171.Quantity x171.Price h187) (ap (f17_ok v141 x171.Buyer x171.Seller x171.Product x171.Quantity x171.Price h189) (ap (not_f h192) (ap (not_f h192) (ap (not_f h192) (ap (not_f h192) (ap (not_f h192) (ap (f18_ok x186.1 x188.1 h191) an))))))))))))) (fun h => nomatch h) (LoopQ.out rfl rfl)
    · obtain rfl := some_inj h
      exact runK_end cfg_ok (k := 1) (rs := [([], [], [(2, .val (.pl (.int .i64 (bk1.length : Int))))])]) (ps := [some false]) (tds := []) (m := []) (keep := [3]) (ex := (.exit 0)) (st' := (f3n2E bk1 bl2 .exit0).2) (by kernel_rfl) (ap (len_cv (xs := bk1) (c := Op_.cells)) (ap h143 an)) (fun h => nomatch h) (LoopQ.out rfl rfl)



noncomputable def c4 : Code := Try.f4.body.getD .skip
theorem f4n6_ok : ∀ (f : Nat) (bl1 : Bool) (bq2 : Variation × (List VariationPayment) × Int) (be3 : Int) (ba4 : Variation) (bj5 : List VariationPayment) (v257 : Int) (v258 : Int) {o : f4n6O}, (f4n6 f bl1 bq2 be3 ba4 bj5 v257 v258) = some o → TL Try.prog Try.f4.ntmps 0 f (cL (cL (dropC 1 (cL (dropC 1 (cL (cL (dropC 1 (cL (cL (dropC 1 (cL (dropC 2 (dropC 1 (dropC 5 c4))))))))))))))) (f4n6S bl1 bq2 be3 ba4 bj5 v257 v258) (fun r => r = f4n6E bl1 bq2 be3 ba4 bj5 o)
  | 0, _, _, _, _, _, _, _, o, h => by rw [f4n6] at h; cases h
  | f + 1, bl1, bq2, be3, ba4, bj5, v257, v258, o, h => by
    rw [f4n6] at h
    refine TL.body (K := fun s => ∃ v257 : Int, ∃ v258 : Int, s = (f4n6S bl1 bq2 be3 ba4 bj5 v257 v258) ∧ (f4n6 f bl1 bq2 be3 ba4 bj5 v257 v258) = some o) ?_ (by rintro _ ⟨v257, v258, rfl, hk⟩; exact f4n6_ok f _ _ _ _ _ _ _ hk)
    rcases cond_cases h with ⟨h260, h⟩ | ⟨h260, h⟩
    · obtain ⟨x266, h267, h⟩ := bind_cases h
      obtain ⟨x268, h269, h⟩ := bind_cases h
      rcases cond_cases h with ⟨h270, h⟩ | ⟨h270, h⟩
      · exact run_end cfg_ok (rs := [([], [], [(2, .val (.pl (.int .i64 (bj5.length : Int))))]), ([], [(2, .at_ (Int.toNat v258)), (4, .idx 0 (VariationPayment.cells x266)), (7, .at_ (Int.toNat be3)), (9, .idx 0 (VariationPayment.cells x268))], []), ([], [(3, .at_ (Int.toNat v258)), (5, .idx 0 (VariationPayment.cells x266))], []), ([], [], [])]) (ps := [some true, some true]) (tds := []) (m := [0, 1, 2]) (keep := [5, 6, 7, 12, 13, 15, 16, 17]) (r := (.norm, (f4n6S bl1 bq2 be3 ba4 bj5 (wr64 (v257 + x266.Amount)) (wr64 (v258 + 1))))) (by kernel_rfl) (ap (len_cv (xs := bj5) (c := VariationPayment.cells)) (ap h260 (ap (at_some h267).1 (ap (lt_map VariationPayment.cells (at_some h267).2) (ap (at_map VariationPayment.cells (at_some h267).2) (ap (at_some h269).1 (ap (lt_map VariationPayment.cells (at_some h269).2) (ap (at_map VariationPayment.cells (at_some h269).2) (ap h270 (ap (at_some h267).1 (ap (lt_map VariationPayment.cells (at_some h267).2) (ap (at_map VariationPayment.cells (at_some h267).2) an)))))))))))) (LoopQ.norm ⟨(wr64 (v257 + x266.Amount)), (wr64 (v258 + 1)), rfl, h⟩)
      · exact run_end cfg_ok (rs := [([], [], [(2, .val (.pl (.int .i64 (bj5.length : Int))))]), ([], [(2, .at_ (Int.toNat v258)), (4, .idx 0 (VariationPayment.cells x266)), (7, .at_ (Int.toNat be3)), (9, .idx 0 (VariationPayment.cells x268))], []), ([], [], [])]) (ps := [some true, some false]) (tds := []) (m := [0, 1, 2]) (keep := [5, 6, 7, 12, 13, 15, 16, 17]) (r := (.norm, (f4n6S bl1 bq2 be3 ba4 bj5 v257 (wr64 (v258 + 1))))) (by kernel_rfl) (ap (len_cv (xs := bj5) (c := VariationPayment.cells)) (ap h260 (ap (at_some h267).1 (ap (lt_map VariationPayment.cells (at_some h267).2) (ap (at_map VariationPayment.cells (at_some h267).2) (ap (at_some h269).1 (ap (lt_map VariationPayment.cells (at_some h269).2) (ap (at_map VariationPayment.cells (at_some h269).2) (ap h270 an))))))))) (LoopQ.norm ⟨v257, (wr64 (v258 + 1)), rfl, h⟩)
    · obtain rfl := some_inj h
      exact runK_end cfg_ok (k := 1) (rs := [([], [], [(2, .val (.pl (.int .i64 (bj5.length : Int))))])]) (ps := [some false]) (tds := []) (m := [0, 1, 2]) (keep := [5, 6, 7, 12, 13, 15, 16]) (ex := (.exit 4)) (st' := (f4n6E bl1 bq2 be3 ba4 bj5 (.exit4 v257)).2) (by kernel_rfl) (ap (len_cv (xs := bj5) (c := VariationPayment.cells)) (ap h260 an)) (fun h => nomatch h) (LoopQ.out rfl rfl)
theorem f4n7_ok : ∀ (f : Nat) (bl1 : Bool) (bq2 : Variation × (List VariationPayment) × Int) (ba3 : Variation) (bj4 : List VariationPayment) (v228 : Int) {o : f4n7O}, (f4n7 f bl1 bq2 ba3 bj4 v228) = some o → TL Try.prog Try.f4.ntmps 0 f (cL (cL (dropC 1 (cL (dropC 2 (dropC 1 (dropC 5 c4))))))) (f4n7S bl1 bq2 ba3 bj4 v228) (fun r => r = f4n7E bl1 bq2 ba3 bj4 o)
  | 0, _, _, _, _, _, o, h => by rw [f4n7] at h; cases h
  | f + 1, bl1, bq2, ba3, bj4, v228, o, h => by
    rw [f4n7] at h
    refine TL.body (K := fun s => ∃ v228 : Int, s = (f4n7S bl1 bq2 ba3 bj4 v228) ∧ (f4n7 f bl1 bq2 ba3 bj4 v228) = some o) ?_ (by rintro _ ⟨v228, rfl, hk⟩; exact f4n7_ok f _ _ _ _ _ hk)
    rcases cond_cases h with ⟨h230, h⟩ | ⟨h230, h⟩
    · refine runK_norm cfg_ok (k := 1) (rs := [([], [], [(2, .val (.pl (.int .i64 (bj4.length : Int))))])]) (ps := [some true]) (tds := []) (m := [0, 1, 2]) (keep := [5, 6, 7, 12, 13, 15]) (st' := (f4n4S bl1 bq2 v228 ba3 bj4)) (by kernel_rfl) (ap (len_cv (xs := bj4) (c := VariationPayment.cells)) (ap h230 an)) ?_
      obtain ⟨o289, h290, h⟩ := bind_cases h
      cases o289 with
      | norm =>
        refine T.oneN (by kernel_rfl) (f4n4_ok bl1 bq2 v228 ba3 bj4 h290) (st2 := (f4n4E bl1 bq2 v228 ba3 bj4 .norm).2) rfl ?_
        exact run_end cfg_ok (rs := [([], [], [])]) (ps := []) (tds := []) (m := [0, 1, 2]) (keep := [5, 6, 7, 12, 13, 15]) (r := (.norm, (f4n7S bl1 bq2 ba3 bj4 (wr64 (v228 + 1))))) (by kernel_rfl) an (LoopQ.norm ⟨(wr64 (v228 + 1)), rfl, h⟩)
      | ret =>
        obtain rfl := some_inj h
        exact T.oneX' (by kernel_rfl) (f4n4_ok bl1 bq2 v228 ba3 bj4 h290) (tds := []) (m := []) (keep := [4]) (st2 := (f4n7E bl1 bq2 ba3 bj4 .ret).2) (by kernel_rfl) an rfl (LoopQ.out rfl rfl)
    · obtain rfl := some_inj h
      exact runK_end cfg_ok (k := 1) (rs := [([], [], [(2, .val (.pl (.int .i64 (bj4.length : Int))))])]) (ps := [some false]) (tds := []) (m := [0, 1, 2]) (keep := [5, 6, 7, 12, 13]) (ex := (.exit 2)) (st' := (f4n7E bl1 bq2 ba3 bj4 .exit2).2) (by kernel_rfl) (ap (len_cv (xs := bj4) (c := VariationPayment.cells)) (ap h230 an)) (fun h => nomatch h) (LoopQ.out rfl rfl)

noncomputable def c5 : Code := Try.f5.body.getD .skip
inductive f5n3O where
  | norm (v527 : Int) (v528 : Variation)
def f5n3E (bk1 : List Op_) (bl2 : Bool) (be3 : Int) (ba4 : Variation) (br5 : Op_) : f5n3O → Ex × Tr × Hp
  | .norm v527 v528 => (.norm, mkS [(0, (.pl (.sl .any 8 (bk1.map Op_.cells)))), (3, (.pl (.bool bl2))), (4, (.bp 0 0)), (6, (.pl (.int .i64 be3))), (8, (.bp 1 0)), (9, (.pl (.int .i64 v527)))], [some (.box ((Variation.cells ba4).map .pl)), some (.box ((Variation.cells v528).map .pl))])
def f5n3S (bk1 : List Op_) (bl2 : Bool) (be3 : Int) (ba4 : Variation) (br5 : Op_) : Tr × Hp := (mkS [(0, (.pl (.sl .any 8 (bk1.map Op_.cells)))), (3, (.pl (.bool bl2))), (4, (.bp 0 0)), (6, (.pl (.int .i64 be3))), (7, (.bp 1 0)), (8, (.bp 2 0))], [some (.box ((Variation.cells ba4).map .pl)), some (.box ((Op_.cells br5).map .pl)), some (.box [(.pl (.int .i64 0)), (.pl (.sl .nil 0 []))])])
noncomputable def f5n3 (bk1 : List Op_) (bl2 : Bool) (be3 : Int) (ba4 : Variation) (br5 : Op_) : Option f5n3O :=
  bif (decide (br5.Kind = 0)) then
    (f14 ba4 (wr64 (ba4.Day + br5.Day)) br5.Prices).bind fun x523 =>
    some (.norm x523.2.2 x523.1)
  else
    (f16 ba4 br5.Buyer br5.Seller br5.Product br5.Quantity br5.Price).bind fun x525 =>
    some (.norm x525.2 x525.1)
theorem f5n3_ok (bk1 : List Op_) (bl2 : Bool) (be3 : Int) (ba4 : Variation) (br5 : Op_) {o : f5n3O} (h : (f5n3 bk1 bl2 be3 ba4 br5) = some o) : T Try.prog Try.f5.ntmps 0 (cL (dropC 2 (cL (cL (dropC 1 (cL (cL (dropC 1 (cL (dropC 5 c5)))))))))) (f5n3S bk1 bl2 be3 ba4 br5) (fun r => r = f5n3E bk1 bl2 be3 ba4 br5 o) := by
  unfold f5n3 at h
  rcases cond_cases h with ⟨h522, h⟩ | ⟨h522, h⟩
  · obtain ⟨x523, h524, h⟩ := bind_cases h
    obtain rfl := some_inj h
    exact run_end cfg_ok (rs := [([], [], []), ([], [(8, .call (.tup [(.pl (.agg (Variation.cells x523.1))), (.pl (.sl .any 2 (x523.2.1.map VariationPayment.cells))), (.pl (.int .i64 x523.2.2))]) [])], [])]) (ps := [some true]) (tds := []) (m := [0, 2]) (keep := [0, 3, 4, 6, 8, 9]) (r := (.norm, (f5n3E bk1 bl2 be3 ba4 br5 (.norm x523.2.2 x523.1)).2)) (by kernel_rfl) (ap h522 (ap (f14_ok ba4 (wr64 (ba4.Day + br5.Day)) br5.Prices h524) an)) rfl
  · obtain ⟨x525, h526, h⟩ := bind_cases h
    obtain rfl := some_inj h
    exact run_end cfg_ok (rs := [([], [], []), ([], [(11, .call (.tup [(.pl (.agg (Variation.cells x525.1))), (.pl (.int .i64 x525.2))]) [])], [])]) (ps := [some false]) (tds := []) (m := [0, 2]) (keep := [0, 3, 4, 6, 8, 9]) (r := (.norm, (f5n3E bk1 bl2 be3 ba4 br5 (.norm x525.2 x525.1)).2)) (by kernel_rfl) (ap h522 (ap (f16_ok ba4 br5.Buyer br5.Seller br5.Product br5.Quantity br5.Price h526) an)) rfl
inductive f5n6O where
  | exit4 (v709 : Int) (v710 : Int)
def f5n6E (bk1 : List Op_) (bl2 : Bool) (be3 : Int) (be4 : Int) (ba5 : Variation) (bo6 : VariationPosition) : f5n6O → Ex × Tr × Hp
  | .exit4 v709 v710 => ((.exit 4), mkS [(0, (.pl (.sl .any 8 (bk1.map Op_.cells)))), (3, (.pl (.bool bl2))), (4, (.bp 0 0)), (6, (.pl (.int .i64 be3))), (10, (.pl (.int .i64 be4))), (11, (.bp 1 0)), (12, (.pl (.int .i64 v709))), (13, (.pl (.int .i64 v710)))], [some (.box ((Variation.cells ba5).map .pl)), some (.box ((VariationPosition.cells bo6).map .pl))])
def f5n6S (bk1 : List Op_) (bl2 : Bool) (be3 : Int) (be4 : Int) (ba5 : Variation) (bo6 : VariationPosition) (v698 : Int) (v699 : Int) (v700 : Int) : Tr × Hp := (mkS [(0, (.pl (.sl .any 8 (bk1.map Op_.cells)))), (3, (.pl (.bool bl2))), (4, (.bp 0 0)), (6, (.pl (.int .i64 be3))), (10, (.pl (.int .i64 be4))), (11, (.bp 1 0)), (12, (.pl (.int .i64 v698))), (13, (.pl (.int .i64 v699))), (14, (.pl (.int .i64 v700)))], [some (.box ((Variation.cells ba5).map .pl)), some (.box ((VariationPosition.cells bo6).map .pl))])
noncomputable def f5n6 : Nat → List Op_ → Bool → Int → Int → Variation → VariationPosition → Int → Int → Int → Option f5n6O
  | 0, _, _, _, _, _, _, _, _, _ => none
  | f + 1, bk1, bl2, be3, be4, ba5, bo6, v698, v699, v700 =>
    bif (decide (v700 < (ba5.Positions.length : Int))) then
      (at? ba5.Positions v700).bind fun x706 =>
      bif (seq x706.Product bo6.Product) then
        (f5n6 f bk1 bl2 be3 be4 ba5 bo6 (wr64 (v698 + x706.Quantity)) (wr64 (v699 + x706.Basis)) (wr64 (v700 + 1)))
      else
        (f5n6 f bk1 bl2 be3 be4 ba5 bo6 v698 v699 (wr64 (v700 + 1)))
    else
      some (.exit4 v698 v699)
theorem f5n6_ok : ∀ (f : Nat) (bk1 : List Op_) (bl2 : Bool) (be3 : Int) (be4 : Int) (ba5 : Variation) (bo6 : VariationPosition) (v698 : Int) (v699 : Int) (v700 : Int) {o : f5n6O}, (f5n6 f bk1 bl2 be3 be4 ba5 bo6 v698 v699 v700) = some o → TL Try.prog Try.f5.ntmps 0 f (cL (cL (dropC 1 (cL (dropC 2 (cL (cL (dropC 1 (cL (cL (dropC 3 (dropC 1 (dropC 2 (cL (cL (dropC 1 (cL (cL (dropC 1 (cL (dropC 5 c5))))))))))))))))))))) (f5n6S bk1 bl2 be3 be4 ba5 bo6 v698 v699 v700) (fun r => r = f5n6E bk1 bl2 be3 be4 ba5 bo6 o)
  | 0, _, _, _, _, _, _, _, _, _, o, h => by rw [f5n6] at h; cases h
  | f + 1, bk1, bl2, be3, be4, ba5, bo6, v698, v699, v700, o, h => by
    rw [f5n6] at h
    refine TL.body (K := fun s => ∃ v698 : Int, ∃ v699 : Int, ∃ v700 : Int, s = (f5n6S bk1 bl2 be3 be4 ba5 bo6 v698 v699 v700) ∧ (f5n6 f bk1 bl2 be3 be4 ba5 bo6 v698 v699 v700) = some o) ?_ (by rintro _ ⟨v698, v699, v700, rfl, hk⟩; exact f5n6_ok f _ _ _ _ _ _ _ _ _ hk)
    rcases cond_cases h with ⟨h702, h⟩ | ⟨h702, h⟩
    · obtain ⟨x706, h707, h⟩ := bind_cases h
      rcases cond_cases h with ⟨h708, h⟩ | ⟨h708, h⟩
      · exact run_end cfg_ok (rs := [([], [], [(3, .val (.pl (.int .i64 (ba5.Positions.length : Int))))]), ([], [(3, .idx (Int.toNat v700) (VariationPosition.cells x706))], []), ([], [(4, .idx (Int.toNat v700) (VariationPosition.cells x706))], []), ([], [(4, .idx (Int.toNat v700) (VariationPosition.cells x706))], []), ([], [], [])]) (ps := [some true, some true]) (tds := []) (m := [0, 1]) (keep := [0, 3, 4, 6, 10, 11, 12, 13, 14]) (r := (.norm, (f5n6S bk1 bl2 be3 be4 ba5 bo6 (wr64 (v698 + x706.Quantity)) (wr64 (v699 + x706.Basis)) (wr64 (v700 + 1))))) (by kernel_rfl) (ap (len_cv (xs := ba5.Positions) (c := VariationPosition.cells)) (ap h702 (ap (at_some h707).1 (ap (at_map VariationPosition.cells (at_some h707).2) (ap h708 (ap (at_some h707).1 (ap (at_map VariationPosition.cells (at_some h707).2) (ap (at_some h707).1 (ap (at_map VariationPosition.cells (at_some h707).2) an))))))))) (LoopQ.norm ⟨(wr64 (v698 + x706.Quantity)), (wr64 (v699 + x706.Basis)), (wr64 (v700 + 1)), rfl, h⟩)
      · exact run_end cfg_ok (rs := [([], [], [(3, .val (.pl (.int .i64 (ba5.Positions.length : Int))))]), ([], [(3, .idx (Int.toNat v700) (VariationPosition.cells x706))], []), ([], [], [])]) (ps := [some true, some false]) (tds := []) (m := [0, 1]) (keep := [0, 3, 4, 6, 10, 11, 12, 13, 14]) (r := (.norm, (f5n6S bk1 bl2 be3 be4 ba5 bo6 v698 v699 (wr64 (v700 + 1))))) (by kernel_rfl) (ap (len_cv (xs := ba5.Positions) (c := VariationPosition.cells)) (ap h702 (ap (at_some h707).1 (ap (at_map VariationPosition.cells (at_some h707).2) (ap h708 an))))) (LoopQ.norm ⟨v698, v699, (wr64 (v700 + 1)), rfl, h⟩)
    · obtain rfl := some_inj h
      exact runK_end cfg_ok (k := 1) (rs := [([], [], [(3, .val (.pl (.int .i64 (ba5.Positions.length : Int))))])]) (ps := [some false]) (tds := []) (m := [0, 1]) (keep := [0, 3, 4, 6, 10, 11, 12, 13]) (ex := (.exit 4)) (st' := (f5n6E bk1 bl2 be3 be4 ba5 bo6 (.exit4 v698 v699)).2) (by kernel_rfl) (ap (len_cv (xs := ba5.Positions) (c := VariationPosition.cells)) (ap h702 an)) (fun h => nomatch h) (LoopQ.out rfl rfl)
noncomputable def f5n6L (bk1 : List Op_) (bl2 : Bool) (be3 : Int) (be4 : Int) (ba5 : Variation) (bo6 : VariationPosition) : List VariationPosition → Int → Int → Int → Option f5n6O
  | [], v698, v699, v700 =>
    some (.exit4 v698 v699)
  | x0 :: rest, v698, v699, v700 =>
    bif (seq x0.Product bo6.Product) then
      (f5n6L bk1 bl2 be3 be4 ba5 bo6 rest (wr64 (v698 + x0.Quantity)) (wr64 (v699 + x0.Basis)) (v700 + 1))
    else
      (f5n6L bk1 bl2 be3 be4 ba5 bo6 rest v698 v699 (v700 + 1))
theorem f5n6L_eq (bk1 : List Op_) (bl2 : Bool) (be3 : Int) (be4 : Int) (ba5 : Variation) (bo6 : VariationPosition) : ∀ (rest : List VariationPosition) (f k : Nat) (v698 : Int) (v699 : Int), ba5.Positions.drop k = rest → ba5.Positions.length ≤ maxLen → rest.length < f → f5n6 f bk1 bl2 be3 be4 ba5 bo6 v698 v699 (k : Int) = f5n6L bk1 bl2 be3 be4 ba5 bo6 rest v698 v699 (k : Int)
  | _, 0, _, _, _, _, _, hf => absurd hf (Nat.not_lt_zero _)
  | [], f + 1, k, v698, v699, hd, hm, hf => by
    have hk : ¬ ((k : Int) < (ba5.Positions.length : Int)) := by have := drop_nil hd; omega
    rw [f5n6, f5n6L]
    simp only [decide_eq_false hk, cond_false]
  | x0 :: rest, f + 1, k, v698, v699, hd, hm, hf => by
    obtain ⟨hx, hlt, hd'⟩ := drop_cons hd
    have hk : (k : Int) < (ba5.Positions.length : Int) := by omega
    have hw : wr64 ((k : Int) + 1) = (k : Int) + 1 := wr64_of (by omega) (by unfold maxLen at hm; omega)
    have ih : ∀ (v698 : Int) (v699 : Int), f5n6 f bk1 bl2 be3 be4 ba5 bo6 v698 v699 ((k : Int) + 1) = f5n6L bk1 bl2 be3 be4 ba5 bo6 rest v698 v699 ((k : Int) + 1) := fun v698 v699 => f5n6L_eq bk1 bl2 be3 be4 ba5 bo6 rest f (k + 1) v698 v699 hd' hm (by simpa using hf)
    rw [f5n6, f5n6L]
    simp only [decide_eq_true hk, cond_true, at_nat, hx, Option.bind_some, hw, ih]
theorem f5n6_run (bk1 : List Op_) (bl2 : Bool) (be3 : Int) (be4 : Int) (ba5 : Variation) (bo6 : VariationPosition) (v698 : Int) (v699 : Int) (hm : ba5.Positions.length ≤ maxLen) : f5n6 FUEL bk1 bl2 be3 be4 ba5 bo6 v698 v699 0 = f5n6L bk1 bl2 be3 be4 ba5 bo6 ba5.Positions v698 v699 0 := f5n6L_eq bk1 bl2 be3 be4 ba5 bo6 ba5.Positions FUEL 0 v698 v699 List.drop_zero hm (lt_FUEL hm)
inductive f5n5O where
  | norm (v715 : Int) (v716 : Int)
def f5n5E (bk1 : List Op_) (bl2 : Bool) (be3 : Int) (be4 : Int) (ba5 : Variation) (bo6 : VariationPosition) : f5n5O → Ex × Tr × Hp
  | .norm v715 v716 => (.norm, mkS [(0, (.pl (.sl .any 8 (bk1.map Op_.cells)))), (3, (.pl (.bool bl2))), (4, (.bp 0 0)), (6, (.pl (.int .i64 be3))), (10, (.pl (.int .i64 be4))), (11, (.bp 1 0)), (12, (.pl (.int .i64 v715))), (13, (.pl (.int .i64 v716)))], [some (.box ((Variation.cells ba5).map .pl)), some (.box ((VariationPosition.cells bo6).map .pl))])
def f5n5S (bk1 : List Op_) (bl2 : Bool) (be3 : Int) (be4 : Int) (ba5 : Variation) (bo6 : VariationPosition) : Tr × Hp := (mkS [(0, (.pl (.sl .any 8 (bk1.map Op_.cells)))), (3, (.pl (.bool bl2))), (4, (.bp 0 0)), (6, (.pl (.int .i64 be3))), (10, (.pl (.int .i64 be4))), (11, (.bp 1 0)), (12, (.pl (.int .i64 0))), (13, (.pl (.int .i64 0)))], [some (.box ((Variation.cells ba5).map .pl)), some (.box ((VariationPosition.cells bo6).map .pl))])
noncomputable def f5n5 (bk1 : List Op_) (bl2 : Bool) (be3 : Int) (be4 : Int) (ba5 : Variation) (bo6 : VariationPosition) : Option f5n5O :=
  (f5n6 FUEL bk1 bl2 be3 be4 ba5 bo6 0 0 0).bind fun o711 => match o711 with
  | .exit4 v713 v714 => some (.norm v713 v714)
theorem f5n5_ok (bk1 : List Op_) (bl2 : Bool) (be3 : Int) (be4 : Int) (ba5 : Variation) (bo6 : VariationPosition) {o : f5n5O} (h : (f5n5 bk1 bl2 be3 be4 ba5 bo6) = some o) : T Try.prog Try.f5.ntmps 0 (cL (dropC 2 (cL (cL (dropC 1 (cL (cL (dropC 3 (dropC 1 (dropC 2 (cL (cL (dropC 1 (cL (cL (dropC 1 (cL (dropC 5 c5)))))))))))))))))) (f5n5S bk1 bl2 be3 be4 ba5 bo6) (fun r => r = f5n5E bk1 bl2 be3 be4 ba5 bo6 o) := by
  unfold f5n5 at h
  refine runK_norm cfg_ok (k := 1) (rs := [([], [], [])]) (ps := []) (tds := []) (m := [0, 1]) (keep := [0, 3, 4, 6, 10, 11, 12, 13, 14]) (st' := (f5n6S bk1 bl2 be3 be4 ba5 bo6 0 0 0)) (by kernel_rfl) an ?_
  obtain ⟨o711, h712, h⟩ := bind_cases h
  cases o711 with
  | exit4 v713 v714 =>
    obtain rfl := some_inj h
    exact T.last' (T.bl (i := 4) (by kernel_rfl) (by kernel_rfl) (f5n6_ok FUEL bk1 bl2 be3 be4 ba5 bo6 0 0 0 h712)) (tds := []) (m := [0, 1]) (keep := [0, 3, 4, 6, 10, 11, 12, 13]) (st2 := (f5n5E bk1 bl2 be3 be4 ba5 bo6 (.norm v713 v714)).2) (by kernel_rfl) an rfl
inductive f5n7O where
  | norm (v733 : Bool)
def f5n7E (bk1 : List Op_) (bl2 : Bool) (be3 : Int) (be4 : Int) (be5 : Int) (be6 : Int) (ba7 : Variation) (bo8 : VariationPosition) : f5n7O → Ex × Tr × Hp
  | .norm v733 => (.norm, mkS [(0, (.pl (.sl .any 8 (bk1.map Op_.cells)))), (3, (.pl (.bool bl2))), (4, (.bp 0 0)), (6, (.pl (.int .i64 be3))), (10, (.pl (.int .i64 be4))), (138, (.pl (.bool v733)))], [some (.box ((Variation.cells ba7).map .pl))])
def f5n7S (bk1 : List Op_) (bl2 : Bool) (be3 : Int) (be4 : Int) (be5 : Int) (be6 : Int) (ba7 : Variation) (bo8 : VariationPosition) : Tr × Hp := (mkS [(0, (.pl (.sl .any 8 (bk1.map Op_.cells)))), (3, (.pl (.bool bl2))), (4, (.bp 0 0)), (6, (.pl (.int .i64 be3))), (10, (.pl (.int .i64 be4))), (11, (.bp 1 0)), (12, (.pl (.int .i64 be5))), (13, (.pl (.int .i64 be6)))], [some (.box ((Variation.cells ba7).map .pl)), some (.box ((VariationPosition.cells bo8).map .pl))])
noncomputable def f5n7 (bk1 : List Op_) (bl2 : Bool) (be3 : Int) (be4 : Int) (be5 : Int) (be6 : Int) (ba7 : Variation) (bo8 : VariationPosition) : Option f5n7O :=
  bif (decide (be5 = 0)) then
    bif (decide (be6 = 0)) then
      bif (decide (bo8.Quantity = 0)) then
        bif (decide (bo8.Basis = 0)) then
          some (.norm true)
        else
          some (.norm (seq bo8.Member str_house))
      else
        some (.norm (seq bo8.Member str_house))
    else
      some (.norm true)
  else
    some (.norm true)
theorem f5n7_ok (bk1 : List Op_) (bl2 : Bool) (be3 : Int) (be4 : Int) (be5 : Int) (be6 : Int) (ba7 : Variation) (bo8 : VariationPosition) {o : f5n7O} (h : (f5n7 bk1 bl2 be3 be4 be5 be6 ba7 bo8) = some o) : T Try.prog Try.f5.ntmps 0 (cL (dropC 0 (dropC 1 (dropC 2 (cL (cL (dropC 1 (cL (cL (dropC 3 (dropC 1 (dropC 2 (cL (cL (dropC 1 (cL (cL (dropC 1 (cL (dropC 5 c5)))))))))))))))))))) (f5n7S bk1 bl2 be3 be4 be5 be6 ba7 bo8) (fun r => r = f5n7E bk1 bl2 be3 be4 be5 be6 ba7 bo8 o) := by
  unfold f5n7 at h
  rcases cond_cases h with ⟨h729, h⟩ | ⟨h729, h⟩
  · rcases cond_cases h with ⟨h730, h⟩ | ⟨h730, h⟩
    · rcases cond_cases h with ⟨h731, h⟩ | ⟨h731, h⟩
      · rcases cond_cases h with ⟨h732, h⟩ | ⟨h732, h⟩
        · obtain rfl := some_inj h
          exact run_end cfg_ok (rs := [([(3, false), (4, false), (7, false), (8, false), (9, false), (10, false), (11, true), (12, true), (13, true), (14, false), (17, true), (18, true), (19, true)], [(5, .bool false), (14, .bool true), (15, .bool false), (20, .bool true)], [])]) (ps := []) (tds := []) (m := [0]) (keep := [0, 3, 4, 6, 10, 138]) (r := (.norm, (f5n7E bk1 bl2 be3 be4 be5 be6 ba7 bo8 (.norm true)).2)) (by kernel_rfl) (ap (not_t h729) (ap (not_t h729) (ap (not_t h729) (ap (not_t h730) (ap (not_t h730) (ap (not_t h730) (ap (not_t h730) (ap h731 (ap h731 (ap h731 (ap (not_t h730) (ap h731 (ap (not_t h730) (ap h732 (ap h732 (ap h732 (ap h732 an))))))))))))))))) rfl
        · obtain rfl := some_inj h
          exact run_end cfg_ok (rs := [([(3, false), (4, false), (7, false), (8, false), (9, false), (10, false), (11, true), (12, true), (13, true), (14, false), (17, false), (18, false), (19, false)], [(5, .bool false), (14, .bool true), (15, .bool false), (20, .bool false)], [])]) (ps := []) (tds := []) (m := [0]) (keep := [0, 3, 4, 6, 10, 138]) (r := (.norm, (f5n7E bk1 bl2 be3 be4 be5 be6 ba7 bo8 (.norm (seq bo8.Member str_house))).2)) (by kernel_rfl) (ap (not_t h729) (ap (not_t h729) (ap (not_t h729) (ap (not_t h730) (ap (not_t h730) (ap (not_t h730) (ap (not_t h730) (ap h731 (ap h731 (ap h731 (ap (not_t h730) (ap h731 (ap (not_t h730) (ap h732 (ap h732 (ap h732 (ap h732 an))))))))))))))))) rfl
      · obtain rfl := some_inj h
        exact run_end cfg_ok (rs := [([(3, false), (4, false), (7, false), (8, false), (9, false), (10, false), (11, false), (12, false), (13, false), (14, false)], [(5, .bool false), (14, .bool false), (15, .bool false)], [])]) (ps := []) (tds := []) (m := [0]) (keep := [0, 3, 4, 6, 10, 138]) (r := (.norm, (f5n7E bk1 bl2 be3 be4 be5 be6 ba7 bo8 (.norm (seq bo8.Member str_house))).2)) (by kernel_rfl) (ap (not_t h729) (ap (not_t h729) (ap (not_t h729) (ap (not_t h730) (ap (not_t h730) (ap (not_t h730) (ap (not_t h730) (ap h731 (ap h731 (ap h731 (ap (not_t h730) (ap h731 (ap (not_t h730) an))))))))))))) rfl
    · obtain rfl := some_inj h
      exact run_end cfg_ok (rs := [([(3, false), (4, false), (7, true), (8, true), (9, true), (10, true), (14, true)], [(5, .bool false), (15, .bool true)], [])]) (ps := []) (tds := []) (m := [0]) (keep := [0, 3, 4, 6, 10, 138]) (r := (.norm, (f5n7E bk1 bl2 be3 be4 be5 be6 ba7 bo8 (.norm true)).2)) (by kernel_rfl) (ap (not_t h729) (ap (not_t h729) (ap (not_t h729) (ap (not_f h730) (ap (not_f h730) (ap (not_f h730) (ap (not_f h730) (ap (not_f h730) (ap (not_f h730) an))))))))) rfl
  · obtain rfl := some_inj h
    exact run_end cfg_ok (rs := [([(3, true), (4, true)], [(5, .bool true)], [])]) (ps := []) (tds := []) (m := [0]) (keep := [0, 3, 4, 6, 10, 138]) (r := (.norm, (f5n7E bk1 bl2 be3 be4 be5 be6 ba7 bo8 (.norm true)).2)) (by kernel_rfl) (ap (not_f h729) (ap (not_f h729) (ap (not_f h729) an))) rfl
inductive f5n4O where
  | norm
  | ret
def f5n4E (bk1 : List Op_) (bl2 : Bool) (be3 : Int) (be4 : Int) (ba5 : Variation) : f5n4O → Ex × Tr × Hp
  | .norm => (.norm, mkS [(0, (.pl (.sl .any 8 (bk1.map Op_.cells)))), (3, (.pl (.bool bl2))), (4, (.bp 0 0)), (6, (.pl (.int .i64 be3))), (10, (.pl (.int .i64 be4)))], [some (.box ((Variation.cells ba5).map .pl))])
  | .ret => (.ret, mkS [(2, (.pl (.bool false)))], [])
def f5n4S (bk1 : List Op_) (bl2 : Bool) (be3 : Int) (be4 : Int) (ba5 : Variation) : Tr × Hp := (mkS [(0, (.pl (.sl .any 8 (bk1.map Op_.cells)))), (3, (.pl (.bool bl2))), (4, (.bp 0 0)), (6, (.pl (.int .i64 be3))), (10, (.pl (.int .i64 be4)))], [some (.box ((Variation.cells ba5).map .pl))])
noncomputable def f5n4 (bk1 : List Op_) (bl2 : Bool) (be3 : Int) (be4 : Int) (ba5 : Variation) : Option f5n4O :=
  (at? ba5.Positions be4).bind fun x677 =>
  (f5n5 bk1 bl2 be3 be4 ba5 x677).bind fun o717 => match o717 with
  | .norm v719 v720 => (f5n7 bk1 bl2 be3 be4 v719 v720 ba5 x677).bind fun o734 => match o734 with
    | .norm v736 => bif v736 then
        some .ret
      else
        some .norm
theorem f5n4_ok (bk1 : List Op_) (bl2 : Bool) (be3 : Int) (be4 : Int) (ba5 : Variation) {o : f5n4O} (h : (f5n4 bk1 bl2 be3 be4 ba5) = some o) : T Try.prog Try.f5.ntmps 0 (cL (dropC 1 (cL (cL (dropC 3 (dropC 1 (dropC 2 (cL (cL (dropC 1 (cL (cL (dropC 1 (cL (dropC 5 c5))))))))))))))) (f5n4S bk1 bl2 be3 be4 ba5) (fun r => r = f5n4E bk1 bl2 be3 be4 ba5 o) := by
  unfold f5n4 at h
  refine T.block' (i := 3) (by kernel_rfl) ?_
  obtain ⟨x677, h678, h⟩ := bind_cases h
  refine runK_norm cfg_ok (k := 2) (rs := [([], [(3, .idx (Int.toNat be4) (VariationPosition.cells x677))], []), ([], [], [])]) (ps := []) (tds := []) (m := [0, 1]) (keep := [0, 3, 4, 6, 10, 11, 12, 13]) (st' := (f5n5S bk1 bl2 be3 be4 ba5 x677)) (by kernel_rfl) (ap (at_some h678).1 (ap (at_map VariationPosition.cells (at_some h678).2) an)) ?_
  obtain ⟨o717, h718, h⟩ := bind_cases h
  cases o717 with
  | norm v719 v720 =>
    refine T.oneN (by kernel_rfl) (f5n5_ok bk1 bl2 be3 be4 ba5 x677 h718) (st2 := (f5n5E bk1 bl2 be3 be4 ba5 x677 (.norm v719 v720)).2) rfl ?_
    refine runK_norm cfg_ok (k := 0) (rs := []) (ps := []) (tds := []) (m := [0, 1]) (keep := [0, 3, 4, 6, 10, 11, 12, 13]) (st' := (f5n7S bk1 bl2 be3 be4 v719 v720 ba5 x677)) (by kernel_rfl) an ?_
    obtain ⟨o734, h735, h⟩ := bind_cases h
    cases o734 with
    | norm v736 =>
      refine T.oneN (by kernel_rfl) (f5n7_ok bk1 bl2 be3 be4 v719 v720 ba5 x677 h735) (st2 := (f5n7E bk1 bl2 be3 be4 v719 v720 ba5 x677 (.norm v736)).2) rfl ?_
      rcases cond_cases h with ⟨h738, h⟩ | ⟨h738, h⟩
      · obtain rfl := some_inj h
        exact run_end cfg_ok (rs := [([], [], [])]) (ps := [some true]) (tds := []) (m := []) (keep := [2]) (r := (.ret, (f5n4E bk1 bl2 be3 be4 ba5 .ret).2)) (by kernel_rfl) (ap h738 an) rfl
      · obtain rfl := some_inj h
        exact run_end cfg_ok (rs := []) (ps := [some false]) (tds := []) (m := [0]) (keep := [0, 3, 4, 6, 10]) (r := (.norm, (f5n4E bk1 bl2 be3 be4 ba5 .norm).2)) (by kernel_rfl) (ap h738 an) rfl
inductive f5n8O where
  | exit2
  | ret
def f5n8E (bk1 : List Op_) (bl2 : Bool) (be3 : Int) (v532 : Variation) : f5n8O → Ex × Tr × Hp
  | .exit2 => ((.exit 2), mkS [(0, (.pl (.sl .any 8 (bk1.map Op_.cells)))), (3, (.pl (.bool bl2))), (4, (.bp 0 0)), (6, (.pl (.int .i64 be3)))], [some (.box ((Variation.cells v532).map .pl))])
  | .ret => (.ret, mkS [(2, (.pl (.bool false)))], [])
def f5n8S (bk1 : List Op_) (bl2 : Bool) (be3 : Int) (v532 : Variation) (v672 : Int) : Tr × Hp := (mkS [(0, (.pl (.sl .any 8 (bk1.map Op_.cells)))), (3, (.pl (.bool bl2))), (4, (.bp 0 0)), (6, (.pl (.int .i64 be3))), (10, (.pl (.int .i64 v672)))], [some (.box ((Variation.cells v532).map .pl))])
noncomputable def f5n8 : Nat → List Op_ → Bool → Int → Variation → Int → Option f5n8O
  | 0, _, _, _, _, _ => none
  | f + 1, bk1, bl2, be3, v532, v672 =>
    bif (decide (v672 < (v532.Positions.length : Int))) then
      (f5n4 bk1 bl2 be3 v672 v532).bind fun o739 => match o739 with
      | .norm => (f5n8 f bk1 bl2 be3 v532 (wr64 (v672 + 1)))
      | .ret => some .ret
    else
      some .exit2
theorem f5n8_ok : ∀ (f : Nat) (bk1 : List Op_) (bl2 : Bool) (be3 : Int) (v532 : Variation) (v672 : Int) {o : f5n8O}, (f5n8 f bk1 bl2 be3 v532 v672) = some o → TL Try.prog Try.f5.ntmps 0 f (cL (cL (dropC 3 (dropC 1 (dropC 2 (cL (cL (dropC 1 (cL (cL (dropC 1 (cL (dropC 5 c5))))))))))))) (f5n8S bk1 bl2 be3 v532 v672) (fun r => r = f5n8E bk1 bl2 be3 v532 o)
  | 0, _, _, _, _, _, o, h => by rw [f5n8] at h; cases h
  | f + 1, bk1, bl2, be3, v532, v672, o, h => by
    rw [f5n8] at h
    refine TL.body (K := fun s => ∃ v672 : Int, s = (f5n8S bk1 bl2 be3 v532 v672) ∧ (f5n8 f bk1 bl2 be3 v532 v672) = some o) ?_ (by rintro _ ⟨v672, rfl, hk⟩; exact f5n8_ok f _ _ _ _ _ hk)
    rcases cond_cases h with ⟨h674, h⟩ | ⟨h674, h⟩
    · refine runK_norm cfg_ok (k := 1) (rs := [([], [], [(3, .val (.pl (.int .i64 (v532.Positions.length : Int))))])]) (ps := [some true]) (tds := []) (m := [0]) (keep := [0, 3, 4, 6, 10]) (st' := (f5n4S bk1 bl2 be3 v672 v532)) (by kernel_rfl) (ap (len_cv (xs := v532.Positions) (c := VariationPosition.cells)) (ap h674 an)) ?_
      obtain ⟨o739, h740, h⟩ := bind_cases h
      cases o739 with
      | norm =>
        refine T.oneN (by kernel_rfl) (f5n4_ok bk1 bl2 be3 v672 v532 h740) (st2 := (f5n4E bk1 bl2 be3 v672 v532 .norm).2) rfl ?_
        exact run_end cfg_ok (rs := [([], [], [])]) (ps := []) (tds := []) (m := [0]) (keep := [0, 3, 4, 6, 10]) (r := (.norm, (f5n8S bk1 bl2 be3 v532 (wr64 (v672 + 1))))) (by kernel_rfl) an (LoopQ.norm ⟨(wr64 (v672 + 1)), rfl, h⟩)
      | ret =>
        obtain rfl := some_inj h
        exact T.oneX' (by kernel_rfl) (f5n4_ok bk1 bl2 be3 v672 v532 h740) (tds := []) (m := []) (keep := [2]) (st2 := (f5n8E bk1 bl2 be3 v532 .ret).2) (by kernel_rfl) an rfl (LoopQ.out rfl rfl)
    · obtain rfl := some_inj h
      exact runK_end cfg_ok (k := 1) (rs := [([], [], [(3, .val (.pl (.int .i64 (v532.Positions.length : Int))))])]) (ps := [some false]) (tds := []) (m := [0]) (keep := [0, 3, 4, 6]) (ex := (.exit 2)) (st' := (f5n8E bk1 bl2 be3 v532 .exit2).2) (by kernel_rfl) (ap (len_cv (xs := v532.Positions) (c := VariationPosition.cells)) (ap h674 an)) (fun h => nomatch h) (LoopQ.out rfl rfl)
inductive f5n2O where
  | norm (v743 : Variation)
  | ret
def f5n2E (bk1 : List Op_) (bl2 : Bool) (be3 : Int) (ba4 : Variation) : f5n2O → Ex × Tr × Hp
  | .norm v743 => (.norm, mkS [(0, (.pl (.sl .any 8 (bk1.map Op_.cells)))), (3, (.pl (.bool bl2))), (4, (.bp 0 0)), (6, (.pl (.int .i64 be3)))], [some (.box ((Variation.cells v743).map .pl))])
  | .ret => (.ret, mkS [(2, (.pl (.bool false)))], [])
def f5n2S (bk1 : List Op_) (bl2 : Bool) (be3 : Int) (ba4 : Variation) : Tr × Hp := (mkS [(0, (.pl (.sl .any 8 (bk1.map Op_.cells)))), (3, (.pl (.bool bl2))), (4, (.bp 0 0)), (6, (.pl (.int .i64 be3)))], [some (.box ((Variation.cells ba4).map .pl))])
noncomputable def f5n2 (bk1 : List Op_) (bl2 : Bool) (be3 : Int) (ba4 : Variation) : Option f5n2O :=
  (at? bk1 be3).bind fun x510 =>
  (f5n3 bk1 bl2 be3 ba4 x510).bind fun o529 => match o529 with
  | .norm v531 v532 => bif (decide (v531 = 0)) then
      (f5n8 FUEL bk1 bl2 be3 v532 0).bind fun o741 => match o741 with
      | .exit2 => some (.norm v532)
      | .ret => some .ret
    else
      some (.norm ba4)
theorem f5n2_ok (bk1 : List Op_) (bl2 : Bool) (be3 : Int) (ba4 : Variation) {o : f5n2O} (h : (f5n2 bk1 bl2 be3 ba4) = some o) : T Try.prog Try.f5.ntmps 0 (cL (dropC 1 (cL (cL (dropC 1 (cL (dropC 5 c5))))))) (f5n2S bk1 bl2 be3 ba4) (fun r => r = f5n2E bk1 bl2 be3 ba4 o) := by
  unfold f5n2 at h
  refine T.block' (i := 1) (by kernel_rfl) ?_
  obtain ⟨x510, h511, h⟩ := bind_cases h
  refine runK_norm cfg_ok (k := 2) (rs := [([], [(2, .idx (Int.toNat be3) (Op_.cells x510))], []), ([], [], [])]) (ps := []) (tds := []) (m := [0, 1, 2]) (keep := [0, 3, 4, 6, 7, 8]) (st' := (f5n3S bk1 bl2 be3 ba4 x510)) (by kernel_rfl) (ap (at_some h511).1 (ap (at_map Op_.cells (at_some h511).2) an)) ?_
  obtain ⟨o529, h530, h⟩ := bind_cases h
  cases o529 with
  | norm v531 v532 =>
    refine T.oneN (by kernel_rfl) (f5n3_ok bk1 bl2 be3 ba4 x510 h530) (st2 := (f5n3E bk1 bl2 be3 ba4 x510 (.norm v531 v532)).2) rfl ?_
    rcases cond_cases h with ⟨h534, h⟩ | ⟨h534, h⟩
    · refine runK_norm cfg_ok (k := 3) (rs := [([], [], []), ([], [], []), ([], [], [])]) (ps := [some false]) (tds := []) (m := [0]) (keep := [0, 3, 4, 6, 10]) (st' := (f5n8S bk1 bl2 be3 v532 0)) (by kernel_rfl) (ap (not_t h534) an) ?_
      obtain ⟨o741, h742, h⟩ := bind_cases h
      cases o741 with
      | exit2 =>
        obtain rfl := some_inj h
        exact T.last' (T.bl (i := 2) (by kernel_rfl) (by kernel_rfl) (f5n8_ok FUEL bk1 bl2 be3 v532 0 h742)) (tds := []) (m := [0]) (keep := [0, 3, 4, 6]) (st2 := (f5n2E bk1 bl2 be3 ba4 (.norm v532)).2) (by kernel_rfl) an rfl
      | ret =>
        obtain rfl := some_inj h
        exact T.last' (T.bl (i := 2) (by kernel_rfl) (by kernel_rfl) (f5n8_ok FUEL bk1 bl2 be3 v532 0 h742)) (tds := []) (m := []) (keep := [2]) (st2 := (f5n2E bk1 bl2 be3 ba4 .ret).2) (by kernel_rfl) an rfl
    · obtain rfl := some_inj h
      exact runK_end cfg_ok (k := 1) (rs := [([], [], [])]) (ps := [some true]) (tds := []) (m := [0]) (keep := [0, 3, 4, 6]) (ex := (.exit 1)) (st' := (f5n2E bk1 bl2 be3 ba4 (.norm ba4)).2) (by kernel_rfl) (ap (not_f h534) an) (fun h => nomatch h) rfl
inductive f5n9O where
  | exit0
  | ret
def f5n9E (bk1 : List Op_) (bl2 : Bool) : f5n9O → Ex × Tr × Hp
  | .exit0 => ((.exit 0), mkS [(3, (.pl (.bool bl2)))], [])
  | .ret => (.ret, mkS [(2, (.pl (.bool false)))], [])
def f5n9S (bk1 : List Op_) (bl2 : Bool) (v504 : Int) (v505 : Variation) : Tr × Hp := (mkS [(0, (.pl (.sl .any 8 (bk1.map Op_.cells)))), (3, (.pl (.bool bl2))), (4, (.bp 0 0)), (6, (.pl (.int .i64 v504)))], [some (.box ((Variation.cells v505).map .pl))])
noncomputable def f5n9 : Nat → List Op_ → Bool → Int → Variation → Option f5n9O
  | 0, _, _, _, _ => none
  | f + 1, bk1, bl2, v504, v505 =>
    bif (decide (v504 < (bk1.length : Int))) then
      (f5n2 bk1 bl2 v504 v505).bind fun o744 => match o744 with
      | .norm v746 => (f5n9 f bk1 bl2 (wr64 (v504 + 1)) v746)
      | .ret => some .ret
    else
      some .exit0
theorem f5n9_ok : ∀ (f : Nat) (bk1 : List Op_) (bl2 : Bool) (v504 : Int) (v505 : Variation) {o : f5n9O}, (f5n9 f bk1 bl2 v504 v505) = some o → TL Try.prog Try.f5.ntmps 0 f (cL (cL (dropC 1 (cL (dropC 5 c5))))) (f5n9S bk1 bl2 v504 v505) (fun r => r = f5n9E bk1 bl2 o)
  | 0, _, _, _, _, o, h => by rw [f5n9] at h; cases h
  | f + 1, bk1, bl2, v504, v505, o, h => by
    rw [f5n9] at h
    refine TL.body (K := fun s => ∃ v504 : Int, ∃ v505 : Variation, s = (f5n9S bk1 bl2 v504 v505) ∧ (f5n9 f bk1 bl2 v504 v505) = some o) ?_ (by rintro _ ⟨v504, v505, rfl, hk⟩; exact f5n9_ok f _ _ _ _ hk)
    rcases cond_cases h with ⟨h507, h⟩ | ⟨h507, h⟩
    · refine runK_norm cfg_ok (k := 1) (rs := [([], [], [(2, .val (.pl (.int .i64 (bk1.length : Int))))])]) (ps := [some true]) (tds := []) (m := [0]) (keep := [0, 3, 4, 6]) (st' := (f5n2S bk1 bl2 v504 v505)) (by kernel_rfl) (ap (len_cv (xs := bk1) (c := Op_.cells)) (ap h507 an)) ?_
      obtain ⟨o744, h745, h⟩ := bind_cases h
      cases o744 with
      | norm v746 =>
        refine T.oneN (by kernel_rfl) (f5n2_ok bk1 bl2 v504 v505 h745) (st2 := (f5n2E bk1 bl2 v504 v505 (.norm v746)).2) rfl ?_
        exact run_end cfg_ok (rs := [([], [], [])]) (ps := []) (tds := []) (m := [0]) (keep := [0, 3, 4, 6]) (r := (.norm, (f5n9S bk1 bl2 (wr64 (v504 + 1)) v746))) (by kernel_rfl) an (LoopQ.norm ⟨(wr64 (v504 + 1)), v746, rfl, h⟩)
      | ret =>
        obtain rfl := some_inj h
        exact T.oneX' (by kernel_rfl) (f5n2_ok bk1 bl2 v504 v505 h745) (tds := []) (m := []) (keep := [2]) (st2 := (f5n9E bk1 bl2 .ret).2) (by kernel_rfl) an rfl (LoopQ.out rfl rfl)
    · obtain rfl := some_inj h
      exact runK_end cfg_ok (k := 1) (rs := [([], [], [(2, .val (.pl (.int .i64 (bk1.length : Int))))])]) (ps := [some false]) (tds := []) (m := []) (keep := [3]) (ex := (.exit 0)) (st' := (f5n9E bk1 bl2 .exit0).2) (by kernel_rfl) (ap (len_cv (xs := bk1) (c := Op_.cells)) (ap h507 an)) (fun h => nomatch h) (LoopQ.out rfl rfl)
inductive f5n1O where
  | norm
  | ret
def f5n1E (bk1 : List Op_) (bl2 : Bool) (bm3 : Variation × Int) : f5n1O → Ex × Tr × Hp
  | .norm => (.norm, mkS [(3, (.pl (.bool bl2)))], [])
  | .ret => (.ret, mkS [(2, (.pl (.bool false)))], [])
def f5n1S (bk1 : List Op_) (bl2 : Bool) (bm3 : Variation × Int) : Tr × Hp := (mkS [(0, (.pl (.sl .any 8 (bk1.map Op_.cells)))), (3, (.pl (.bool bl2))), (4, (.bp 0 0))], [some (.box ((Variation.cells bm3.1).map .pl))])
noncomputable def f5n1 (bk1 : List Op_) (bl2 : Bool) (bm3 : Variation × Int) : Option f5n1O :=
  (f5n9 FUEL bk1 bl2 0 bm3.1).bind fun o747 => match o747 with
  | .exit0 => some .norm
  | .ret => some .ret
theorem f5n1_ok (bk1 : List Op_) (bl2 : Bool) (bm3 : Variation × Int) {o : f5n1O} (h : (f5n1 bk1 bl2 bm3) = some o) : T Try.prog Try.f5.ntmps 0 (cL (dropC 5 c5)) (f5n1S bk1 bl2 bm3) (fun r => r = f5n1E bk1 bl2 bm3 o) := by
  unfold f5n1 at h
  refine runK_norm cfg_ok (k := 1) (rs := [([], [], [])]) (ps := []) (tds := []) (m := [0]) (keep := [0, 3, 4, 6]) (st' := (f5n9S bk1 bl2 0 bm3.1)) (by kernel_rfl) an ?_
  obtain ⟨o747, h748, h⟩ := bind_cases h
  cases o747 with
  | exit0 =>
    obtain rfl := some_inj h
    exact T.last' (T.bl (i := 0) (by kernel_rfl) (by kernel_rfl) (f5n9_ok FUEL bk1 bl2 0 bm3.1 h748)) (tds := []) (m := []) (keep := [3]) (st2 := (f5n1E bk1 bl2 bm3 .norm).2) (by kernel_rfl) an rfl
  | ret =>
    obtain rfl := some_inj h
    exact T.last' (T.bl (i := 0) (by kernel_rfl) (by kernel_rfl) (f5n9_ok FUEL bk1 bl2 0 bm3.1 h748)) (tds := []) (m := []) (keep := [2]) (st2 := (f5n1E bk1 bl2 bm3 .ret).2) (by kernel_rfl) an rfl
inductive f5n0O where
  | ret (v751 : Bool)
def f5n0E (a1 : List Op_) : f5n0O → Ex × Tr × Hp
  | .ret v751 => (.ret, mkS [(2, (.pl (.bool v751)))], [])
def f5n0S (a1 : List Op_) : Tr × Hp := (initS [(.pl (.sl .any 8 (a1.map Op_.cells)))] 0 .leaf, [])
noncomputable def f5n0 (a1 : List Op_) : Option f5n0O :=
  f10.bind fun x4 =>
  (f11 a1).bind fun x10 =>
  bif x10 then
    some (.ret x4)
  else
    bif x4 then
      (f12 0).bind fun x16 =>
      bif (decide (x16.2 = 0)) then
        (f5n1 a1 x4 x16).bind fun o749 => match o749 with
        | .norm => some (.ret x4)
        | .ret => some (.ret false)
      else
        some (.ret false)
    else
      some (.ret x4)
theorem f5n0_ok (a1 : List Op_) {o : f5n0O} (h : (f5n0 a1) = some o) : T Try.prog Try.f5.ntmps 0 c5 (f5n0S a1) (fun r => r = f5n0E a1 o) := by
  unfold f5n0 at h
  obtain ⟨x4, h5, h⟩ := bind_cases h
  obtain ⟨x10, h11, h⟩ := bind_cases h
  rcases cond_cases h with ⟨h12, h⟩ | ⟨h12, h⟩
  · obtain rfl := some_inj h
    exact runK_end cfg_ok (k := 3) (rs := [([], [], []), ([], [(0, .call (.pl (.bool x4)) [])], []), ([(3, true), (4, true)], [(1, .call (.pl (.bool x10)) []), (5, .bool true)], []), ([], [], [])]) (ps := [none]) (tds := []) (m := []) (keep := [2]) (ex := .ret) (st' := (f5n0E a1 (.ret x4)).2) (by kernel_rfl) (ap (f10_ok h5) (ap h12 (ap h12 (ap h12 (ap (f11_ok a1 h11) an))))) (fun h => nomatch h) rfl
  · rcases cond_cases h with ⟨h13, h⟩ | ⟨h13, h⟩
    · obtain ⟨x16, h17, h⟩ := bind_cases h
      rcases cond_cases h with ⟨h19, h⟩ | ⟨h19, h⟩
      · refine runK_norm cfg_ok (k := 5) (rs := [([], [], []), ([], [(0, .call (.pl (.bool x4)) [])], []), ([(3, false), (4, false)], [(1, .call (.pl (.bool x10)) []), (5, .bool false)], []), ([], [(0, .call (.tup [(.pl (.agg (Variation.cells x16.1))), (.pl (.int .i64 x16.2))]) [])], []), ([], [], [])]) (ps := [some false, some false]) (tds := []) (m := [0]) (keep := [0, 3, 4]) (st' := (f5n1S a1 x4 x16)) (by kernel_rfl) (ap (f10_ok h5) (ap h12 (ap h12 (ap h12 (ap (f11_ok a1 h11) (ap (not_t h13) (ap (f12_ok 0 h17) (ap (not_t h19) an)))))))) ?_
        obtain ⟨o749, h750, h⟩ := bind_cases h
        cases o749 with
        | norm =>
          refine T.oneN (by kernel_rfl) (f5n1_ok a1 x4 x16 h750) (st2 := (f5n1E a1 x4 x16 .norm).2) rfl ?_
          obtain rfl := some_inj h
          exact run_end cfg_ok (rs := [([], [], [])]) (ps := []) (tds := []) (m := []) (keep := [2]) (r := (.ret, (f5n0E a1 (.ret x4)).2)) (by kernel_rfl) an rfl
        | ret =>
          obtain rfl := some_inj h
          exact T.oneX' (by kernel_rfl) (f5n1_ok a1 x4 x16 h750) (tds := []) (m := []) (keep := [2]) (st2 := (f5n0E a1 (.ret false)).2) (by kernel_rfl) an rfl rfl
      · obtain rfl := some_inj h
        exact runK_end cfg_ok (k := 5) (rs := [([], [], []), ([], [(0, .call (.pl (.bool x4)) [])], []), ([(3, false), (4, false)], [(1, .call (.pl (.bool x10)) []), (5, .bool false)], []), ([], [(0, .call (.tup [(.pl (.agg (Variation.cells x16.1))), (.pl (.int .i64 x16.2))]) [])], []), ([], [], []), ([], [], [])]) (ps := [some false, some true]) (tds := []) (m := []) (keep := [2]) (ex := .ret) (st' := (f5n0E a1 (.ret false)).2) (by kernel_rfl) (ap (f10_ok h5) (ap h12 (ap h12 (ap h12 (ap (f11_ok a1 h11) (ap (not_t h13) (ap (f12_ok 0 h17) (ap (not_f h19) an)))))))) (fun h => nomatch h) rfl
    · obtain rfl := some_inj h
      exact runK_end cfg_ok (k := 3) (rs := [([], [], []), ([], [(0, .call (.pl (.bool x4)) [])], []), ([(3, false), (4, false)], [(1, .call (.pl (.bool x10)) []), (5, .bool false)], []), ([], [], [])]) (ps := [some true]) (tds := []) (m := []) (keep := [2]) (ex := .ret) (st' := (f5n0E a1 (.ret x4)).2) (by kernel_rfl) (ap (f10_ok h5) (ap h12 (ap h12 (ap h12 (ap (f11_ok a1 h11) (ap (not_f h13) an)))))) (fun h => nomatch h) rfl
noncomputable def f5 (a1 : List Op_) : Option Bool := (f5n0 a1).bind fun o => match o with
  | .ret v751 => some v751
theorem f5_ok (a1 : List Op_) {r : Bool} (h : (f5 a1) = some r) : CallS Try.prog false 5 [(.pl (.sl .any 8 (a1.map Op_.cells)))] [] (.pl (.bool r)) [] := by
  unfold f5 at h
  obtain ⟨o, ho, h⟩ := bind_cases h
  cases o with
  | ret v751 =>
    obtain rfl := some_inj h
    exact CallS.plain cfg_ok (f := Try.f5) (c := c5) (by kernel_rfl) (by kernel_rfl) (by kernel_rfl) (by kernel_rfl) ((f5n0_ok a1 ho).mono fun r e => by subst e; exact ⟨.inl rfl, (.pl (.bool v751)), (.pl (.bool v751)), by kernel_rfl, by kernel_rfl, ((Wk.refl _) : Wk (.pl (.bool v751)) (.pl (.bool v751)))⟩)
end Go.Proofs.Ytelblamgfbkhbaa
namespace Go.Proofs.Ytelblamgfbkhbaa
set_option linter.unusedVariables false
set_option linter.unusedSimpArgs false
set_option maxRecDepth 100000
open Go.RowKit



noncomputable def c6 : Code := Try.f6.body.getD .skip


noncomputable def c7 : Code := Try.f7.body.getD .skip

end Go.Proofs.Ytelblamgfbkhbaa
namespace Go.Proofs.Ytelblamgfbkhbaa
set_option linter.unusedVariables false
set_option linter.unusedSimpArgs false
set_option maxRecDepth 100000
open Go.RowKit

end Go.Proofs.Ytelblamgfbkhbaa
namespace Go.Proofs.Ytelblamgfbkhbaa
set_option linter.unusedVariables false
theorem perm_two {α : Type} {a b : α} {p : List α} (h : p.Perm [a, b]) : p = [a, b] ∨ p = [b, a] := by
  match p, h with
  | [], h => exact absurd h.length_eq (by simp)
  | [_], h => exact absurd h.length_eq (by simp)
  | _ :: _ :: _ :: _, h => exact absurd h.length_eq (by simp)
  | [x, y], h =>
    rcases List.mem_cons.1 (h.mem_iff.1 (List.mem_cons_self)) with rfl | hx
    · left
      have := List.Perm.cons_inv h
      rw [List.perm_singleton.1 this]
    · right
      obtain rfl := List.mem_singleton.1 hx
      have h2 : [x, y].Perm [x, a] := h.trans (List.Perm.swap _ _ _)
      have := List.Perm.cons_inv h2
      rw [List.perm_singleton.1 this]
theorem f14_two {s : Variation} {d : Int} {ps : List VariationPrice} {a b : ByteArray × Int} {out : List VariationPosition} {o : f14n0O} (h1 : f26 s = some 0) (h2 : f14n1 d ps 0 s = some (.norm 0)) (h3 : f14n2 ps s d = some (.norm [a, b] out))
    (h4 : ((f14n4 d [a, b] out [a, b]).bind fun o143 => match o143 with
        | .norm v145 => (so38_39 v145).bind fun x148 => some (.ret 0 d x148 out)
        | .ret => some (.ret 14 0 [] [])) = some o)
    (h5 : ((f14n4 d [a, b] out [b, a]).bind fun o143 => match o143 with
        | .norm v145 => (so38_39 v145).bind fun x148 => some (.ret 0 d x148 out)
        | .ret => some (.ret 14 0 [] [])) = some o) : f14n0 s d ps = some o := by
  unfold f14n0
  rw [h1]
  simp only [Option.bind_some]
  rw [h2]
  simp only [Option.bind_some, decide_true, cond_true]
  rw [h3]
  simp only [Option.bind_some]
  refine anyOrder_of fun p hp => ?_
  rcases perm_two hp with rfl | rfl
  · exact h4
  · exact h5
theorem f14_of {s : Variation} {d : Int} {ps : List VariationPrice} {v150 v151 : Int} {v152 : List VariationPayment} {v153 : List VariationPosition} (h : f14n0 s d ps = some (.ret v150 v151 v152 v153)) : f14 s d ps = some ((Variation.mk v151 v153), v152, v150) := by
  unfold f14; rw [h]; rfl
def exS : Variation := ⟨0, [⟨str_a, str_p, -3, -30⟩, ⟨str_b, str_p, 3, 30⟩]⟩
def exT : Variation := ⟨1, [⟨str_a, str_p, -3, -36⟩, ⟨str_b, str_p, 3, 36⟩]⟩
theorem ex1 : f16 (Variation.mk 0 []) str_b str_a str_p 3 10 = some (exS, 0) := by kernel_rfl
theorem ex2 : f14 exS 1 [(VariationPrice.mk str_p 12)] = some (exT, [⟨str_a, -6⟩, ⟨str_b, 6⟩], 0) :=
  f14_of (f14_two (a := (str_a, -6)) (b := (str_b, 6)) (out := exT.Positions) (by kernel_rfl) (by kernel_rfl) (by kernel_rfl) (by kernel_rfl) (by kernel_rfl))
theorem ex3 : f14 exT 2 [(VariationPrice.mk str_p 11)] = some (⟨2, [⟨str_a, str_p, -3, -33⟩, ⟨str_b, str_p, 3, 33⟩]⟩, [⟨str_a, 3⟩, ⟨str_b, -3⟩], 0) :=
  f14_of (f14_two (a := (str_a, 3)) (b := (str_b, -3)) (out := [⟨str_a, str_p, -3, -33⟩, ⟨str_b, str_p, 3, 33⟩]) (by kernel_rfl) (by kernel_rfl) (by kernel_rfl) (by kernel_rfl) (by kernel_rfl))
theorem ex4 : f14 exS 2 [(VariationPrice.mk str_p 11)] = some (⟨2, [⟨str_a, str_p, -3, -33⟩, ⟨str_b, str_p, 3, 33⟩]⟩, [⟨str_a, -3⟩, ⟨str_b, 3⟩], 0) :=
  f14_of (f14_two (a := (str_a, -3)) (b := (str_b, 3)) (out := [⟨str_a, str_p, -3, -33⟩, ⟨str_b, str_p, 3, 33⟩]) (by kernel_rfl) (by kernel_rfl) (by kernel_rfl) (by kernel_rfl) (by kernel_rfl))
theorem ex0 : f12 0 = some (Variation.mk 0 [], 0) := by kernel_rfl
theorem alive_t : f10 = some true := by
  have k1 : f25 6 = some [⟨str_a, -6⟩, ⟨str_b, 6⟩] := by kernel_rfl
  have k2 : f25 (-3) = some [⟨str_a, 3⟩, ⟨str_b, -3⟩] := by kernel_rfl
  have k3 : f25 3 = some [⟨str_a, -3⟩, ⟨str_b, 3⟩] := by kernel_rfl
  have m1 : f19 [⟨str_a, -6⟩, ⟨str_b, 6⟩] [⟨str_a, -6⟩, ⟨str_b, 6⟩] = some true := by kernel_rfl
  have m2 : f19 [⟨str_a, 3⟩, ⟨str_b, -3⟩] [⟨str_a, 3⟩, ⟨str_b, -3⟩] = some true := by kernel_rfl
  have m3 : f19 [⟨str_a, -3⟩, ⟨str_b, 3⟩] [⟨str_a, -3⟩, ⟨str_b, 3⟩] = some true := by kernel_rfl
  have r1 : f23r1 12 = some () := rfl
  have r2 : f23r1 11 = some () := rfl
  unfold f10 f10n0
  simp only [ex0, ex1, ex2, ex3, ex4, k1, k2, k3, m1, m2, m3, r1, r2, Option.bind_some, decide_true, cond_true]
end Go.Proofs.Ytelblamgfbkhbaa
namespace Go.Proofs.Ytelblamgfbkhbaa
set_option linter.unusedVariables false
set_option linter.unusedSimpArgs false
open Go.RowKit
abbrev VP := VariationPosition
theorem fit_small {n b : Nat} (h : n ≤ 1000000) (hb : b ≤ 1000000) : fit n b = true := by
  unfold fit
  have : n * b ≤ 1000000 * 1000000 := Nat.mul_le_mul h hb
  simp only [Bool.and_eq_true, Nat.ble_eq]
  omega
theorem lt_not (a b : Int) : decide (a < b) = !decide (b ≤ a) := by
  by_cases h : a < b
  · rw [decide_eq_true h, decide_eq_false (by omega)]; rfl
  · rw [decide_eq_false h, decide_eq_true (by omega)]; rfl
theorem dec_nat (a b : Nat) : decide ((a : Int) ≤ (b : Int)) = decide (a ≤ b) := by congr 1; apply propext; omega
theorem wr_in {n : Int} (h1 : -9223372036854775808 ≤ n) (h2 : n ≤ 9223372036854775807) : wr64 n = n := w64 rfl h1 h2

def letterI (c : Int) : Bool := (decide (97 ≤ c) && decide (c ≤ 122)) || (decide (65 ≤ c) && decide (c ≤ 90))
def otherI (c : Int) : Bool := (decide (48 ≤ c) && decide (c ≤ 57)) || (decide (c = 95) || decide (c = 45))
theorem f62_eq (c : Int) : f62 c = some (letterI c) := by
  unfold f62 f62n0 letterI
  cases decide (97 ≤ c) <;> cases decide (c ≤ 122) <;> cases decide (65 ≤ c) <;> cases decide (c ≤ 90) <;> rfl
def charB (b : UInt8) : Bool := letterI b.toNat || otherI b.toNat
def isName (l : List UInt8) : Bool := match l with
  | [] => false
  | b :: r => decide (l.length ≤ 40) && (letterI b.toNat && r.all charB)
theorem f45n2L_at (bc : ByteArray) : ∀ (l : List UInt8) (v : Int), f45n2L bc l v = some (bif l.all charB then .exit0 else .ret)
  | [], v => rfl
  | b :: r, v => by
    rw [f45n2L, f62_eq]
    simp only [Option.bind_some, f45n2L_at bc r, lt_not, List.all_cons, charB, otherI]
    cases letterI b.toNat <;> cases decide ((48 : Int) ≤ (b.toNat : Int)) <;> cases decide ((b.toNat : Int) ≤ 57) <;> cases decide ((b.toNat : Int) = 95) <;> cases decide ((b.toNat : Int) = 45) <;> rfl
theorem size_list' (s : ByteArray) : s.size = s.data.toList.length := rfl
theorem f45_eq (s : ByteArray) : f45 s = some (isName s.data.toList) := by
  unfold f45 f45n0 f45n1
  rw [size_list']
  by_cases hs : s.data.toList.length ≤ 40
  · have hm : s.data.toList.length ≤ maxLen := Nat.le_trans hs (by unfold maxLen; decide)
    rw [f45n2_run s hm, f45n2L_at]
    generalize s.data.toList = l at hs hm
    cases l with
    | nil => rfl
    | cons b r =>
      have h1 : ¬ (((b :: r).length : Nat) : Int) < 1 := by simp; omega
      have h2 : ¬ (40 : Int) < (((b :: r).length : Nat) : Int) := by omega
      rw [decide_eq_false h1, decide_eq_false h2]
      have h0 : at? (b :: r) 0 = some b := rfl
      simp only [cond_false, h0, Option.bind_some, f62_eq, isName, List.all_cons, charB, decide_eq_true hs]
      cases letterI b.toNat <;> cases r.all charB <;> cases otherI b.toNat <;> rfl
  · have h1 : ¬ ((s.data.toList.length : Nat) : Int) < 1 := by omega
    have h2 : (40 : Int) < ((s.data.toList.length : Nat) : Int) := by omega
    rw [decide_eq_false h1, decide_eq_true h2]
    have : isName s.data.toList = false := by
      generalize s.data.toList = l at hs
      cases l with
      | nil => rfl
      | cons b r => simp only [isName, decide_eq_false hs, Bool.false_and]
    rw [this]; rfl
def nameB (s : ByteArray) : Bool := isName s.data.toList
def partyB (s : ByteArray) : Bool := !(seq s str_house) && nameB s
theorem f44_eq (s : ByteArray) : f44 s = some (partyB s) := by
  unfold f44 f44n0 partyB nameB
  rw [f45_eq]
  cases seq s str_house <;> rfl

def inR (n lim : Int) : Bool := decide (-lim ≤ n) && decide (n ≤ lim)
theorem f37_eq (n : Int) {lim : Int} (h0 : 0 ≤ lim) (h : lim ≤ 9223372036854775807) : f37 n lim = some (inR n lim) := by
  unfold f37 f37n0 inR
  rw [show wr64 (0 - lim) = -lim from w64 (by omega) (by omega) (by omega)]
  cases decide (-lim ≤ n) <;> rfl
theorem f37_q (n : Int) : f37 n 1048576 = some (inR n 1048576) := f37_eq n (by decide) (by decide)
theorem f37_b (n : Int) : f37 n 1125899906842624 = some (inR n 1125899906842624) := f37_eq n (by decide) (by decide)
theorem f37_p (n : Int) : f37 n 536870912 = some (inR n 536870912) := f37_eq n (by decide) (by decide)
theorem inR_iff {n lim : Int} : inR n lim = true ↔ -lim ≤ n ∧ n ≤ lim := by simp [inR]
def zeroP (x : VP) : Bool := decide (x.Quantity = 0) && decide (x.Basis = 0)
theorem eqb_zero (x : VP) : VariationPosition.eqb x (VariationPosition.mk x.Member x.Product 0 0) = zeroP x := by
  unfold VariationPosition.eqb zeroP
  rw [seq_refl, seq_refl]; rfl
def keyLt (a b : VP) : Bool := slt a.Member b.Member || (seq a.Member b.Member && slt a.Product b.Product)
def cmpK (a b : VP) : Int := bif decide (cmpB a.Member b.Member = 0) then cmpB a.Product b.Product else cmpB a.Member b.Member
theorem f66_two (x y : Int) : f66 [x, y] = some (bif decide (x = 0) then y else x) := by
  unfold f66 f66n0 f66n1
  rw [f66n2_run [x, y] (by show (2 : Nat) ≤ maxLen; unfold maxLen; decide)]
  by_cases hx : x = 0
  · by_cases hy : y = 0
    · subst hx; subst hy; rfl
    · simp only [f66n2L, decide_eq_true hx, decide_eq_false hy, cond_true, cond_false, Option.bind_some]
  · simp only [f66n2L, decide_eq_false hx, cond_false, Option.bind_some]
theorem f53_eq (a b : VP) : f53 a b = some (cmpK a b) := by
  unfold f53 f53n0
  rw [f40_val, f40_val]
  simp only [Option.bind_some]
  rw [f66_two]
  rfl
theorem cmpK_neg (a b : VP) : decide (cmpK a b < 0) = keyLt a b := by
  unfold cmpK keyLt
  cases h : slt a.Member b.Member with
  | true =>
    have h1 := cmpB_neg.2 h
    rw [decide_eq_false (by omega : ¬ cmpB a.Member b.Member = 0)]
    simp [h1]
  | false =>
    cases k : seq a.Member b.Member with
    | true =>
      rw [decide_eq_true (cmpB_zero.2 (seq_iff.1 k))]
      simp only [cond_true, Bool.false_or, Bool.true_and]
      cases h2 : slt a.Product b.Product with
      | true => exact decide_eq_true (cmpB_neg.2 h2)
      | false => exact decide_eq_false fun h3 => by rw [cmpB_neg.1 h3] at h2; cases h2
    | false =>
      have h1 : ¬ cmpB a.Member b.Member = 0 := fun e => by rw [seq_iff.2 (cmpB_zero.1 e)] at k; cases k
      have h2 : ¬ cmpB a.Member b.Member < 0 := fun e => by rw [cmpB_neg.1 e] at h; cases h
      rw [decide_eq_false h1]
      simp only [cond_false, decide_eq_false h2, Bool.false_and, Bool.or_self]
theorem cmpK_zero {a b : VP} : cmpK a b = 0 ↔ a.Member = b.Member ∧ a.Product = b.Product := by
  unfold cmpK
  by_cases h : cmpB a.Member b.Member = 0
  · rw [decide_eq_true h]; simp only [cond_true, cmpB_zero]; exact ⟨fun k => ⟨cmpB_zero.1 h, k⟩, fun k => k.2⟩
  · rw [decide_eq_false h]; simp only [cond_false]; exact ⟨fun k => absurd k h, fun k => absurd (cmpB_zero.2 k.1) h⟩

def goodP (x : VP) : Bool := inR x.Quantity 1048576 && (inR x.Basis 1125899906842624 && (!zeroP x && (partyB x.Member && nameB x.Product)))
def ordAt : Option VP → VP → Bool
  | none, _ => true
  | some y, x => keyLt y x
def okL : Option VP → List VP → Bool
  | _, [] => true
  | p, x :: r => ordAt p x && (goodP x && okL (some x) r)
def accL : List VP → List (ByteArray × Sums_) → List (ByteArray × Sums_)
  | [], m => m
  | x :: r, m => accL r (mPut seq x.Product (Sums_.mk (wr64 ((mGet seq (Sums_.mk 0 0) x.Product m).quantity + x.Quantity)) (wr64 ((mGet seq (Sums_.mk 0 0) x.Product m).basis + x.Basis))) m)
theorem f26n2L_at (s : Variation) : ∀ (l pre : List VP) (m : List (ByteArray × Sums_)), s.Positions = pre ++ l → s.Positions.length ≤ 1000 → f26n2L s l ((pre.length : Nat) : Int) m = some (bif okL pre.getLast? l then .exit0 (accL l m) else .ret)
  | [], pre, m, _, _ => rfl
  | x :: r, pre, m, h, hb => by
    have ih := f26n2L_at s r (pre ++ [x]) (mPut seq x.Product (Sums_.mk (wr64 ((mGet seq (Sums_.mk 0 0) x.Product m).quantity + x.Quantity)) (wr64 ((mGet seq (Sums_.mk 0 0) x.Product m).basis + x.Basis))) m) (by rw [h]; simp) hb
    rw [List.length_append, List.getLast?_concat, show (((pre.length + [x].length : Nat)) : Int) = (pre.length : Int) + 1 from by simp] at ih
    have e45 : f45 x.Product = some (nameB x.Product) := f45_eq _
    rw [f26n2L]
    simp only [f37_q, f37_b, Option.bind_some, eqb_zero, f44_eq, e45, ih, okL, goodP]
    rcases List.eq_nil_or_concat pre with rfl | ⟨q, y, rfl⟩
    · simp only [List.length_nil, Int.natCast_zero, decide_true, cond_true, List.getLast?_nil, ordAt, Bool.true_and]
      cases inR x.Quantity 1048576 <;> cases inR x.Basis 1125899906842624 <;> cases zeroP x <;> cases partyB x.Member <;> cases nameB x.Product <;> cases okL (some x) r <;> rfl
    · rw [List.concat_eq_append] at h ⊢
      have hne : ¬ (((q ++ [y]).length : Nat) : Int) = 0 := by simp; omega
      have hlen : q.length + 1 ≤ 1000 := by rw [h] at hb; simp at hb; omega
      have hw : wr64 ((((q ++ [y]).length : Nat) : Int) - 1) = ((q.length : Nat) : Int) := w64 (by simp) (by omega) (by omega)
      have hat : at? s.Positions ((q.length : Nat) : Int) = some y := by rw [at_nat, h]; simp
      rw [decide_eq_false hne, hw, hat, List.getLast?_concat]
      simp only [cond_false, Option.bind_some, f53_eq, cmpK_neg, ordAt]
      cases inR x.Quantity 1048576 <;> cases inR x.Basis 1125899906842624 <;> cases zeroP x <;> cases partyB x.Member <;> cases nameB x.Product <;> cases okL (some x) r <;> cases keyLt y x <;> rfl
def zeroM (m : List (ByteArray × Sums_)) : Bool := m.all fun x => Sums_.eqb x.2 (Sums_.mk 0 0)
theorem f26n4_eq (bd : List (ByteArray × Sums_)) : ∀ l : List (ByteArray × Sums_), f26n4 bd l = some (bif zeroM l then .exit2 else .ret)
  | [] => rfl
  | x :: r => by
    rw [f26n4, f26n4_eq bd r, zeroM, zeroM, List.all_cons]
    cases Sums_.eqb x.2 (Sums_.mk 0 0) <;> rfl
theorem f26n3_eq (bd : List (ByteArray × Sums_)) : f26n3 bd = some (bif zeroM bd then .norm else .ret) := by
  unfold f26n3
  have hp : ∀ p, p.Perm bd → f26n4 bd p = some (bif zeroM bd then .exit2 else .ret) := fun p hp => by
    rw [f26n4_eq, zeroM, hp.all_eq]; rfl
  rw [anyOrder_of hp]
  cases zeroM bd <;> rfl
def checkB (s : Variation) : Bool := decide (0 ≤ s.Day) && (decide (s.Day ≤ 99999) && (decide (s.Positions.length ≤ 200) && (okL none s.Positions && zeroM (accL s.Positions []))))
theorem f26_eq (s : Variation) : f26 s = some (bif checkB s then 0 else 8) := by
  unfold f26 f26n0 f26n1 checkB
  rw [lt_not, lt_not, lt_not, show decide ((s.Positions.length : Int) ≤ 200) = decide (s.Positions.length ≤ 200) from dec_nat _ 200]
  by_cases hl : s.Positions.length ≤ 200
  · have hm : s.Positions.length ≤ maxLen := Nat.le_trans hl (by unfold maxLen; decide)
    rw [f26n2_run s [] hm]
    have := f26n2L_at s s.Positions [] [] rfl (by omega)
    rw [show (((([] : List VP).length : Nat)) : Int) = 0 from rfl, List.getLast?_nil] at this
    rw [this, decide_eq_true hl]
    cases decide (0 ≤ s.Day) with
    | false => rfl
    | true => cases decide (s.Day ≤ 99999) with
      | false => rfl
      | true => cases okL none s.Positions with
        | false => rfl
        | true =>
          simp only [Bool.not_true, cond_false, cond_true, Option.bind_some, f26n3_eq, Bool.true_and]
          cases zeroM (accL s.Positions []) <;> rfl
  · rw [decide_eq_false hl]
    cases decide (0 ≤ s.Day) <;> cases decide (s.Day ≤ 99999) <;> rfl
end Go.Proofs.Ytelblamgfbkhbaa
namespace Go.Proofs.Ytelblamgfbkhbaa
set_option linter.unusedVariables false
set_option linter.unusedSimpArgs false
open Go.RowKit
theorem wr_l (a b : Int) : wr64 (wr64 a + b) = wr64 (a + b) := by
  show IntKind.i64.wrap (IntKind.i64.wrap a + b) = IntKind.i64.wrap (a + b)
  simp only [IntKind.wrap_i64]; omega

theorem keyLt_iff {a b : VP} : keyLt a b = true ↔ slt a.Member b.Member = true ∨ (a.Member = b.Member ∧ slt a.Product b.Product = true) := by
  unfold keyLt
  rw [Bool.or_eq_true, Bool.and_eq_true, seq_iff]
theorem keyLt_trans {a b c : VP} (h : keyLt a b = true) (k : keyLt b c = true) : keyLt a c = true := by
  rw [keyLt_iff] at *
  rcases h with h | ⟨h, h'⟩ <;> rcases k with k | ⟨k, k'⟩
  · exact .inl (slt_trans h k)
  · exact .inl (by rw [← k]; exact h)
  · exact .inl (by rw [h]; exact k)
  · exact .inr ⟨h.trans k, slt_trans h' k'⟩
def sameK (a b : VP) : Bool := seq a.Member b.Member && seq a.Product b.Product
theorem sameK_iff {a b : VP} : sameK a b = true ↔ a.Member = b.Member ∧ a.Product = b.Product := by
  unfold sameK
  rw [Bool.and_eq_true, seq_iff, seq_iff]
theorem cmpK_same (a b : VP) : decide (cmpK a b = 0) = sameK a b := by
  cases h : sameK a b with
  | true => exact decide_eq_true (cmpK_zero.2 (sameK_iff.1 h))
  | false => exact decide_eq_false fun e => by rw [sameK_iff.2 (cmpK_zero.1 e)] at h; cases h
theorem keyLt_total {a b : VP} (h : keyLt a b = false) (k : sameK a b = false) : keyLt b a = true := by
  rw [keyLt_iff]
  unfold keyLt sameK at *
  rw [Bool.or_eq_false_iff] at h
  cases m : slt b.Member a.Member with
  | true => exact .inl rfl
  | false =>
    have e := slt_total h.1 m
    rw [e, seq_refl, Bool.true_and] at k h
    have h2 : slt a.Product b.Product = false := h.2
    cases n : slt b.Product a.Product with
    | true => exact .inr ⟨e.symm, rfl⟩
    | false => rw [slt_total h2 n, seq_refl] at k; cases k
theorem keyLt_r {a b c : VP} (h : sameK a b = true) : keyLt c a = keyLt c b := by
  obtain ⟨h1, h2⟩ := sameK_iff.1 h
  unfold keyLt; rw [h1, h2]
abbrev Srt (l : List VP) : Prop := l.Pairwise fun a b => keyLt a b = true
theorem okL_some : ∀ {l : List VP} {p : VP}, okL (some p) l = true ↔ (p :: l).Pairwise (fun a b => keyLt a b = true) ∧ ∀ x ∈ l, goodP x = true
  | [], p => by simp [okL]
  | y :: r, p => by
    rw [okL, ordAt, Bool.and_eq_true, Bool.and_eq_true, okL_some (l := r)]
    constructor
    · rintro ⟨h1, h2, h3, h4⟩
      refine ⟨List.pairwise_cons.2 ⟨fun z hz => ?_, h3⟩, fun z hz => ?_⟩
      · rcases List.mem_cons.1 hz with rfl | hz
        · exact h1
        · exact keyLt_trans h1 ((List.pairwise_cons.1 h3).1 z hz)
      · rcases List.mem_cons.1 hz with rfl | hz
        · exact h2
        · exact h4 z hz
    · rintro ⟨h1, h2⟩
      have h3 := List.pairwise_cons.1 h1
      exact ⟨h3.1 y List.mem_cons_self, h2 y List.mem_cons_self, h3.2, fun z hz => h2 z (List.mem_cons_of_mem _ hz)⟩
theorem okL_none {l : List VP} : okL none l = true ↔ Srt l ∧ ∀ x ∈ l, goodP x = true := by
  cases l with
  | nil => simp [okL]
  | cons y r =>
    rw [okL, ordAt, Bool.and_eq_true, Bool.and_eq_true, okL_some]
    constructor
    · rintro ⟨_, h2, h3, h4⟩
      refine ⟨h3, fun z hz => ?_⟩
      rcases List.mem_cons.1 hz with rfl | hz
      · exact h2
      · exact h4 z hz
    · rintro ⟨h1, h2⟩
      exact ⟨rfl, h2 y List.mem_cons_self, h1, fun z hz => h2 z (List.mem_cons_of_mem _ hz)⟩
section
variable {V : Type}
theorem get_put (z v : V) (k q : ByteArray) : ∀ m : List (ByteArray × V), mGet seq z q (mPut seq k v m) = bif seq q k then v else mGet seq z q m
  | [] => by simp [mPut, mGet]
  | (a, w) :: r => by
    simp only [mPut, mGet]
    cases hk : seq k a with
    | true =>
      have := seq_iff.1 hk; subst this
      simp only [cond_true, mGet]
      cases seq q k <;> rfl
    | false =>
      simp only [cond_false, mGet]
      cases hq : seq q a with
      | true =>
        have := seq_iff.1 hq; subst this
        simp only [cond_true]
        cases h : seq q k with
        | true => have := seq_iff.1 h; subst this; rw [seq_refl] at hk; cases hk
        | false => rfl
      | false => simp only [cond_false]; exact get_put z v k q r
abbrev ndM (m : List (ByteArray × V)) : Prop := m.Pairwise fun a b => a.1 ≠ b.1
theorem put_mem {k : ByteArray} {v : V} {x : ByteArray × V} : ∀ {m : List (ByteArray × V)}, x ∈ mPut seq k v m → x = (k, v) ∨ x ∈ m
  | [], h => by left; simpa [mPut] using h
  | (a, w) :: r, h => by
    rw [mPut] at h
    cases hk : seq k a with
    | true =>
      rw [hk, cond_true] at h
      have := seq_iff.1 hk; subst this
      rcases List.mem_cons.1 h with h | h
      · exact .inl h
      · exact .inr (List.mem_cons_of_mem _ h)
    | false =>
      rw [hk, cond_false] at h
      rcases List.mem_cons.1 h with h | h
      · exact .inr (by rw [h]; exact List.mem_cons_self)
      · rcases put_mem h with h | h
        · exact .inl h
        · exact .inr (List.mem_cons_of_mem _ h)
theorem put_nd {k : ByteArray} {v : V} : ∀ {m : List (ByteArray × V)}, ndM m → ndM (mPut seq k v m)
  | [], _ => by simp [mPut, ndM]
  | (a, w) :: r, h => by
    have h' := List.pairwise_cons.1 h
    rw [mPut]
    cases hk : seq k a with
    | true => exact List.pairwise_cons.2 ⟨fun y hy => h'.1 y hy, h'.2⟩
    | false =>
      refine List.pairwise_cons.2 ⟨fun y hy => ?_, put_nd h'.2⟩
      rcases put_mem hy with rfl | hy
      · intro e
        have e' : a = k := e
        rw [e', seq_refl] at hk; cases hk
      · exact h'.1 y hy
theorem get_mem {z : V} {k : ByteArray} {v : V} : ∀ {m : List (ByteArray × V)}, ndM m → (k, v) ∈ m → mGet seq z k m = v
  | (a, w) :: r, h, hm => by
    have h' := List.pairwise_cons.1 h
    rw [mGet]
    rcases List.mem_cons.1 hm with e | hm
    · have e1 : k = a := congrArg Prod.fst e
      have e2 : v = w := congrArg Prod.snd e
      rw [e1, e2, seq_refl]; rfl
    · cases hk : seq k a with
      | true => exact absurd (seq_iff.1 hk).symm (h'.1 _ hm)
      | false => exact get_mem h'.2 hm
end
def sm (w : VP → Int) : List VP → Int
  | [] => 0
  | x :: r => w x + sm w r
theorem sm_app (w : VP → Int) : ∀ l r : List VP, sm w (l ++ r) = sm w l + sm w r
  | [], r => by simp [sm]
  | x :: l, r => by simp only [List.cons_append, sm, sm_app w l r]; omega
theorem sm_bound (w : VP → Int) (b : Int) : ∀ l : List VP, (∀ x ∈ l, -b ≤ w x ∧ w x ≤ b) → -(b * l.length) ≤ sm w l ∧ sm w l ≤ b * l.length
  | [], _ => by simp [sm]
  | x :: r, h => by
    have h1 := h x List.mem_cons_self
    have h2 := sm_bound w b r fun y hy => h y (List.mem_cons_of_mem _ hy)
    simp only [sm, List.length_cons, Int.natCast_add, Int.mul_add]
    simp only [Int.natCast_one, Int.mul_one]
    omega
def wq (p : ByteArray) (x : VP) : Int := bif seq x.Product p then x.Quantity else 0
def wb (p : ByteArray) (x : VP) : Int := bif seq x.Product p then x.Basis else 0
theorem acc_get (p : ByteArray) : ∀ (l : List VP) (m : List (ByteArray × Sums_)) (a b : Int), mGet seq (Sums_.mk 0 0) p m = ⟨wr64 a, wr64 b⟩ → mGet seq (Sums_.mk 0 0) p (accL l m) = ⟨wr64 (a + sm (wq p) l), wr64 (b + sm (wb p) l)⟩
  | [], m, a, b, h => by simpa [accL, sm] using h
  | x :: r, m, a, b, h => by
    rw [accL, acc_get p r _ (a + wq p x) (b + wb p x)]
    · simp only [sm, Int.add_assoc]
    · rw [get_put]
      cases hk : seq p x.Product with
      | true =>
        have := seq_iff.1 hk; subst this
        simp only [cond_true, h, wr_l, wq, wb, seq_refl]
      | false =>
        have : seq x.Product p = false := by
          cases k : seq x.Product p with
          | false => rfl
          | true => rw [seq_iff.1 k, seq_refl] at hk; cases hk
        simp only [cond_false, h, wq, wb, this, Int.add_zero]
theorem acc_nd : ∀ (l : List VP) {m : List (ByteArray × Sums_)}, ndM m → ndM (accL l m)
  | [], m, h => h
  | x :: r, m, h => acc_nd r (put_nd h)
theorem acc_nil (p : ByteArray) (l : List VP) : mGet seq (Sums_.mk 0 0) p (accL l []) = ⟨wr64 (sm (wq p) l), wr64 (sm (wb p) l)⟩ := by
  have := acc_get p l [] 0 0 rfl
  simpa using this
theorem zget {m : List (ByteArray × Sums_)} (h : zeroM m = true) (p : ByteArray) : mGet seq (Sums_.mk 0 0) p m = ⟨0, 0⟩ := by
  induction m with
  | nil => rfl
  | cons x r ih =>
    obtain ⟨k, ⟨a, b⟩⟩ := x
    unfold zeroM at h
    rw [List.all_cons, Bool.and_eq_true] at h
    have h1 := h.1
    simp only [Sums_.eqb, Bool.and_eq_true, decide_eq_true_eq] at h1
    rw [mGet, ih h.2, h1.1, h1.2]
    cases seq p k <;> rfl
def Flat (l : List VP) : Prop := ∀ p, sm (wq p) l = 0 ∧ sm (wb p) l = 0
theorem good_q {x : VP} (h : goodP x = true) : -1048576 ≤ x.Quantity ∧ x.Quantity ≤ 1048576 := by
  unfold goodP at h; rw [Bool.and_eq_true] at h; exact inR_iff.1 h.1
theorem good_b {x : VP} (h : goodP x = true) : -1125899906842624 ≤ x.Basis ∧ x.Basis ≤ 1125899906842624 := by
  unfold goodP at h; rw [Bool.and_eq_true, Bool.and_eq_true] at h; exact inR_iff.1 h.2.1
theorem wq_bound {l : List VP} (h : ∀ x ∈ l, goodP x = true) (hl : l.length ≤ 200) (p : ByteArray) : -209715200 ≤ sm (wq p) l ∧ sm (wq p) l ≤ 209715200 := by
  have := sm_bound (wq p) 1048576 l fun x hx => by
    have := good_q (h x hx)
    unfold wq
    cases seq x.Product p <;> simp only [cond_true, cond_false] <;> omega
  omega
theorem wb_bound {l : List VP} (h : ∀ x ∈ l, goodP x = true) (hl : l.length ≤ 200) (p : ByteArray) : -225179981368524800 ≤ sm (wb p) l ∧ sm (wb p) l ≤ 225179981368524800 := by
  have := sm_bound (wb p) 1125899906842624 l fun x hx => by
    have := good_b (h x hx)
    unfold wb
    cases seq x.Product p <;> simp only [cond_true, cond_false] <;> omega
  omega
theorem zeroM_iff {l : List VP} (h : ∀ x ∈ l, goodP x = true) (hl : l.length ≤ 200) : zeroM (accL l []) = true ↔ Flat l := by
  constructor
  · intro hz p
    have h1 := acc_nil p l
    rw [zget hz p, Sums_.mk.injEq] at h1
    have h2 := wq_bound h hl p
    have h3 := wb_bound h hl p
    rw [wr_in (by omega) (by omega), wr_in (by omega) (by omega)] at h1
    exact ⟨h1.1.symm, h1.2.symm⟩
  · intro hf
    unfold zeroM
    rw [List.all_eq_true]
    rintro ⟨k, v⟩ hx
    have h1 := get_mem (z := Sums_.mk 0 0) (acc_nd l (m := []) List.Pairwise.nil) hx
    rw [acc_nil, (hf k).1, (hf k).2] at h1
    rw [← h1]; rfl
structure Ok (s : Variation) : Prop where
  d0 : 0 ≤ s.Day
  d1 : s.Day ≤ 99999
  len : s.Positions.length ≤ 200
  srt : Srt s.Positions
  good : ∀ x ∈ s.Positions, goodP x = true
  flat : Flat s.Positions
theorem check_iff {s : Variation} : checkB s = true ↔ Ok s := by
  unfold checkB
  simp only [Bool.and_eq_true, decide_eq_true_eq, okL_none]
  constructor
  · rintro ⟨h1, h2, h3, ⟨h4, h5⟩, h6⟩
    exact ⟨h1, h2, h3, h4, h5, (zeroM_iff h5 h3).1 h6⟩
  · rintro ⟨h1, h2, h3, h4, h5, h6⟩
    exact ⟨h1, h2, h3, ⟨h4, h5⟩, (zeroM_iff h5 h3).2 h6⟩

abbrev midI (lo hi : Int) : Int := wr64 (shrK .u64 (wru64 (wr64 (lo + hi))) 1)
theorem mid_eq {lo hi : Nat} (h : lo + hi ≤ 1000000) : midI lo hi = (((lo + hi) / 2 : Nat) : Int) := by
  have h1 : wr64 ((lo : Int) + (hi : Int)) = ((lo + hi : Nat) : Int) := by rw [wr_in (by omega) (by omega)]; omega
  have h2 : wru64 ((lo + hi : Nat) : Int) = ((lo + hi : Nat) : Int) := by
    show IntKind.u64.wrap _ = _
    rw [IntKind.wrap_u64]; omega
  unfold midI
  rw [h1, h2]
  have h3 : shrK .u64 ((lo + hi : Nat) : Int) 1 = (((lo + hi) / 2 : Nat) : Int) := by
    show Int.fdiv _ (2 ^ (min (1 : Int).toNat IntKind.u64.bits)) = _
    have : (2 : Int) ^ (min (1 : Int).toNat IntKind.u64.bits) = 2 := by decide
    rw [this, Int.fdiv_eq_ediv_of_nonneg _ (by omega)]
    omega
  rw [h3, wr_in (by omega) (by omega)]
def bsr {α : Type} (c : α → Int) (l : List α) : Nat → Int → Int → Option Int
  | 0, _, _ => none
  | f + 1, lo, hi => bif decide (lo < hi) then (at? l (midI lo hi)).bind fun x => bif decide (c x < 0) then bsr c l f (wr64 (midI lo hi + 1)) hi else bsr c l f lo (midI lo hi) else some lo
theorem bsr_ok {α : Type} (c : α → Int) (l : List α) (hl : l.length ≤ 400000) (mono : ∀ (i j : Nat) (x y : α), i ≤ j → l[i]? = some x → l[j]? = some y → c y < 0 → c x < 0) :
    ∀ (f lo hi : Nat), lo ≤ hi → hi ≤ l.length → hi - lo < f → (∀ (j : Nat) (x : α), j < lo → l[j]? = some x → c x < 0) → (∀ (j : Nat) (x : α), hi ≤ j → l[j]? = some x → ¬ c x < 0) →
      ∃ i : Nat, bsr c l f lo hi = some (i : Int) ∧ i ≤ l.length ∧ (∀ (j : Nat) (x : α), j < i → l[j]? = some x → c x < 0) ∧ (∀ (j : Nat) (x : α), i ≤ j → l[j]? = some x → ¬ c x < 0)
  | 0, lo, hi, _, _, h, _, _ => by omega
  | f + 1, lo, hi, h1, h2, h3, h4, h5 => by
    rw [bsr]
    by_cases h : lo < hi
    · have hm : (lo + hi) / 2 < l.length := by omega
      obtain ⟨x, hx⟩ : ∃ x, l[(lo + hi) / 2]? = some x := ⟨l[(lo + hi) / 2], List.getElem?_eq_getElem hm⟩
      rw [decide_eq_true (by omega : (lo : Int) < (hi : Int)), mid_eq (by omega), at_nat, hx]
      simp only [cond_true, Option.bind_some]
      by_cases hc : c x < 0
      · rw [decide_eq_true hc, cond_true, wr_in (by omega) (by omega)]
        have := bsr_ok c l hl mono f ((lo + hi) / 2 + 1) hi (by omega) h2 (by omega) (fun j y hj hy => mono j _ y x (by omega) hy hx hc) h5
        simpa using this
      · rw [decide_eq_false hc, cond_false]
        exact bsr_ok c l hl mono f lo ((lo + hi) / 2) (by omega) (by omega) (by omega) h4 fun j y hj hy e => hc (mono _ j x y hj hx hy e)
    · rw [decide_eq_false (by omega : ¬ (lo : Int) < (hi : Int)), cond_false]
      have : lo = hi := by omega
      subst this
      exact ⟨lo, rfl, h2, h4, h5⟩
theorem bsr_split {α : Type} (c : α → Int) (l : List α) (hl : l.length ≤ 400000) (mono : ∀ (i j : Nat) (x y : α), i ≤ j → l[i]? = some x → l[j]? = some y → c y < 0 → c x < 0) :
    ∃ pre post : List α, l = pre ++ post ∧ bsr c l FUEL 0 l.length = some (pre.length : Int) ∧ (∀ x ∈ pre, c x < 0) ∧ (∀ x ∈ post, ¬ c x < 0) := by
  obtain ⟨i, h1, h2, h3, h4⟩ := bsr_ok c l hl mono FUEL 0 l.length (by omega) (by omega) (by unfold FUEL; omega) (fun j x hj => by omega) (fun j x hj hx => by have := lt_of_at hx; omega)
  refine ⟨l.take i, l.drop i, (List.take_append_drop i l).symm, ?_, fun x hx => ?_, fun x hx => ?_⟩
  · rw [List.length_take, Nat.min_eq_left h2]; exact h1
  · obtain ⟨j, hj⟩ := List.mem_iff_getElem?.1 hx
    have := lt_of_at hj
    rw [List.length_take] at this
    rw [List.getElem?_take_of_lt (by omega)] at hj
    exact h3 j x (by omega) hj
  · obtain ⟨j, hj⟩ := List.mem_iff_getElem?.1 hx
    rw [List.getElem?_drop] at hj
    exact h4 (i + j) x (by omega) hj
theorem f63_53n1_eq (l : List VP) (k : VP) : ∀ (f : Nat) (lo hi : Int), f63_53n1 f l k lo hi = (bsr (fun x => cmpK x k) l f lo hi).map .exit0
  | 0, lo, hi => rfl
  | f + 1, lo, hi => by
    rw [f63_53n1, bsr]
    cases decide (lo < hi) with
    | false => rfl
    | true =>
      simp only [cond_true]
      cases at? l (midI lo hi) with
      | none => rfl
      | some x =>
        simp only [Option.bind_some, f53_eq, f63_53n1_eq l k f]
        cases decide (cmpK x k < 0) <;> rfl
def headB (g : VP → Bool) : List VP → Bool
  | [] => false
  | x :: _ => g x
theorem f63_53_eq {l : List VP} (hs : Srt l) (hl : l.length ≤ 400000) (k : VP) : ∃ pre post : List VP, l = pre ++ post ∧ f63_53 l k = some ((pre.length : Int), headB (fun x => sameK x k) post) ∧ (∀ x ∈ pre, keyLt x k = true) ∧ (∀ x ∈ post, keyLt x k = false) := by
  obtain ⟨pre, post, h1, h2, h3, h4⟩ := bsr_split (fun x => cmpK x k) l hl fun i j x y hij hx hy hc => by
    rcases Nat.lt_or_ge i j with h | h
    · have h1 := List.pairwise_iff_getElem.1 hs i j (lt_of_at hx) (lt_of_at hy) h
      rw [(List.getElem?_eq_some_iff.1 hx).2, (List.getElem?_eq_some_iff.1 hy).2] at h1
      have h2 : keyLt y k = true := by rw [← cmpK_neg]; exact decide_eq_true hc
      have := keyLt_trans h1 h2
      rw [← cmpK_neg] at this
      exact of_decide_eq_true this
    · have : i = j := by omega
      subst this
      rw [hx] at hy; obtain rfl := Option.some.inj hy; exact hc
  refine ⟨pre, post, h1, ?_, fun x hx => by rw [← cmpK_neg]; exact decide_eq_true (h3 x hx), fun x hx => by rw [← cmpK_neg]; exact decide_eq_false (h4 x hx)⟩
  unfold f63_53 f63_53n0
  rw [f63_53n1_eq, h2]
  simp only [Option.map_some, Option.bind_some]
  cases post with
  | nil =>
    rw [h1, decide_eq_false (by simp)]; rfl
  | cons x r =>
    have hx : l[pre.length]? = some x := by rw [h1]; simp
    rw [decide_eq_true (by have := lt_of_at hx; omega), at_nat, hx]
    simp only [cond_true, Option.bind_some, f53_eq, cmpK_same]
    rfl
end Go.Proofs.Ytelblamgfbkhbaa
namespace Go.Proofs.Ytelblamgfbkhbaa
set_option linter.unusedVariables false
set_option linter.unusedSimpArgs false
open Go.RowKit
def nz (x : VP) : List VP := bif zeroP x then [] else [x]
def upd (x : VP) (q b : Int) : VP := ⟨x.Member, x.Product, wr64 (x.Quantity + q), wr64 (x.Basis + b)⟩
def putL (k : VP) (q b : Int) : List VP → List VP
  | [] => nz (upd k q b)
  | x :: r => bif keyLt x k then x :: putL k q b r else bif sameK x k then nz (upd x q b) ++ r else nz (upd k q b) ++ x :: r
def putP (k : VP) (q b : Int) : List VP → VP
  | [] => upd k q b
  | x :: r => bif keyLt x k then putP k q b r else bif sameK x k then upd x q b else upd k q b
theorem putL_pre {k : VP} {q b : Int} : ∀ {pre post : List VP}, (∀ x ∈ pre, keyLt x k = true) → putL k q b (pre ++ post) = pre ++ putL k q b post ∧ putP k q b (pre ++ post) = putP k q b post
  | [], post, _ => ⟨rfl, rfl⟩
  | x :: pre, post, h => by
    have h1 := h x List.mem_cons_self
    have h2 := putL_pre (q := q) (b := b) (pre := pre) (post := post) fun y hy => h y (List.mem_cons_of_mem _ hy)
    simp only [List.cons_append, putL, putP, h1, cond_true, h2]
    exact ⟨trivial, trivial⟩
theorem f46r1_at {l pre r : List VP} {x : VP} {m p : ByteArray} {q b : Int} {f : Bool} (hl : pre.length ≤ 100000) (h1 : f63_53 l ⟨m, p, 0, 0⟩ = some ((pre.length : Int), f)) (h2 : f46r1n1 q b ((pre.length : Int), f) l m p = some (.norm (pre ++ x :: r))) (hm : x.Member = m) (hp : x.Product = p) :
    f46r1 m p q b l = some (pre ++ (nz (upd x q b) ++ r), upd x q b) := by
  subst hm hp
  have hat : at? (pre ++ x :: r) ((pre.length : Nat) : Int) = some x := by rw [at_nat]; simp
  have e := eqb_zero (upd x q b)
  simp only [upd] at e
  unfold f46r1 f46r1n0
  rw [h1]
  simp only [Option.bind_some]
  rw [h2]
  simp only [Option.bind_some]
  rw [hat]
  simp only [Option.bind_some, e, Int.toNat_natCast]
  unfold nz upd
  cases zeroP ⟨x.Member, x.Product, wr64 (x.Quantity + q), wr64 (x.Basis + b)⟩ with
  | false => simp
  | true =>
    have hw : wr64 ((pre.length : Int) + 1) = (pre.length : Int) + 1 := wr_in (by omega) (by omega)
    unfold de65
    rw [hw, decide_eq_true (by omega : (0 : Int) ≤ (pre.length : Int)), decide_eq_true (rfl : (pre.length : Int) + 1 = (pre.length : Int) + 1), decide_eq_true (by simp; omega : (pre.length : Int) < _)]
    simp
theorem fits52 {n : Nat} (h : n ≤ 1000000) : fitsB n te52 = true := by
  have : fit n 48 = true := fit_small h (by omega)
  exact fit_of this rfl
theorem f46r1_eq {l : List VP} (hs : Srt l) (hl : l.length ≤ 100000) (m p : ByteArray) (q b : Int) : f46r1 m p q b l = some (putL ⟨m, p, 0, 0⟩ q b l, putP ⟨m, p, 0, 0⟩ q b l) := by
  obtain ⟨pre, post, rfl, h2, h3, h4⟩ := f63_53_eq hs (by omega) ⟨m, p, 0, 0⟩
  obtain ⟨e1, e2⟩ := putL_pre (k := ⟨m, p, 0, 0⟩) (q := q) (b := b) (post := post) h3
  rw [List.length_append] at hl
  rw [e1, e2]
  have ins : f46r1n1 q b ((pre.length : Int), false) (pre ++ post) m p = some (.norm (pre ++ ⟨m, p, 0, 0⟩ :: post)) := by
    unfold f46r1n1 in64
    rw [cond_false]
    rw [fits52 (by rw [List.length_append]; omega), decide_eq_true (by omega : (0 : Int) ≤ (pre.length : Int)), decide_eq_true (by rw [List.length_append]; omega : (pre.length : Int) ≤ _)]
    simp
  cases post with
  | nil =>
    have := f46r1_at (by omega) h2 ins rfl rfl
    rw [List.append_nil (nz _)] at this
    exact this
  | cons x r =>
    have hx := h4 x List.mem_cons_self
    rw [putL, putP, hx, cond_false, cond_false]
    cases hk : sameK x ⟨m, p, 0, 0⟩ with
    | true =>
      rw [headB, hk] at h2
      exact f46r1_at (by omega) h2 rfl (sameK_iff.1 hk).1 (sameK_iff.1 hk).2
    | false =>
      rw [headB, hk] at h2
      exact f46r1_at (by omega) h2 ins rfl rfl

theorem nz_mem {x y : VP} : y ∈ nz x ↔ y = x ∧ zeroP x = false := by
  unfold nz
  cases zeroP x <;> simp
theorem putP_key (k : VP) (q b : Int) : ∀ l : List VP, sameK (putP k q b l) k = true
  | [] => by simp [putP, upd, sameK, seq_refl]
  | x :: r => by
    rw [putP]
    cases keyLt x k with
    | true => exact putP_key k q b r
    | false =>
      cases h : sameK x k with
      | true => exact h
      | false => simp [upd, sameK, seq_refl]
theorem put_mem' {k : VP} {q b : Int} {y : VP} : ∀ {l : List VP}, y ∈ putL k q b l → y ∈ l ∨ (y = putP k q b l ∧ zeroP y = false)
  | [], h => .inr (by have := nz_mem.1 h; exact ⟨this.1, by rw [this.1]; exact this.2⟩)
  | x :: r, h => by
    rw [putL] at h
    rw [putP]
    cases h1 : keyLt x k with
    | true =>
      rw [h1, cond_true] at h
      rcases List.mem_cons.1 h with h | h
      · exact .inl (by rw [h]; exact List.mem_cons_self)
      · rcases put_mem' h with h | h
        · exact .inl (List.mem_cons_of_mem _ h)
        · exact .inr h
    | false =>
      rw [h1, cond_false] at h
      cases h2 : sameK x k with
      | true =>
        rw [h2, cond_true] at h
        rcases List.mem_append.1 h with h | h
        · have := nz_mem.1 h; exact .inr ⟨this.1, by rw [this.1]; exact this.2⟩
        · exact .inl (List.mem_cons_of_mem _ h)
      | false =>
        rw [h2, cond_false] at h
        rcases List.mem_append.1 h with h | h
        · have := nz_mem.1 h; exact .inr ⟨this.1, by rw [this.1]; exact this.2⟩
        · exact .inl h
theorem put_len (k : VP) (q b : Int) : ∀ l : List VP, (putL k q b l).length ≤ l.length + 1
  | [] => by unfold putL nz; cases zeroP (upd k q b) <;> simp
  | x :: r => by
    have := put_len k q b r
    rw [putL]
    cases keyLt x k with
    | true => simp only [cond_true, List.length_cons]; omega
    | false => cases sameK x k with
      | true => unfold nz; cases zeroP (upd x q b) <;> simp <;> omega
      | false => unfold nz; cases zeroP (upd k q b) <;> simp
theorem put_srt {k : VP} {q b : Int} : ∀ {l : List VP}, Srt l → Srt (putL k q b l)
  | [], _ => by unfold putL nz; cases zeroP (upd k q b) <;> simp [Srt]
  | x :: r, h => by
    have h' := List.pairwise_cons.1 h
    rw [putL]
    cases h1 : keyLt x k with
    | true =>
      refine List.pairwise_cons.2 ⟨fun y hy => ?_, put_srt h'.2⟩
      rcases put_mem' hy with hy | ⟨rfl, _⟩
      · exact h'.1 y hy
      · rw [keyLt_r (putP_key k q b r)]; exact h1
    | false =>
      cases h2 : sameK x k with
      | true =>
        rw [cond_false, cond_true]
        unfold nz
        cases zeroP (upd x q b) with
        | true => exact h'.2
        | false => exact List.pairwise_cons.2 ⟨fun y hy => h'.1 y hy, h'.2⟩
      | false =>
        rw [cond_false, cond_false]
        unfold nz
        cases zeroP (upd k q b) with
        | true => exact h
        | false =>
          have h3 := keyLt_total h1 h2
          refine List.pairwise_cons.2 ⟨fun y hy => ?_, h⟩
          rcases List.mem_cons.1 hy with rfl | hy
          · exact h3
          · exact keyLt_trans h3 (h'.1 y hy)
theorem sm_nz {w : VP → Int} (h0 : ∀ x, zeroP x = true → w x = 0) (x : VP) : sm w (nz x) = w x := by
  unfold nz
  cases h : zeroP x with
  | true => simp [sm, h0 x h]
  | false => simp [sm]
theorem sm_put {w : VP → Int} {k : VP} {q b d : Int} (h0 : ∀ x, zeroP x = true → w x = 0) (hk : w (upd k q b) = d) : ∀ {l : List VP}, (∀ x ∈ l, sameK x k = true → w (upd x q b) = w x + d) → sm w (putL k q b l) = sm w l + d
  | [], _ => by rw [putL, sm_nz h0, hk]; simp [sm]
  | x :: r, h => by
    have ih := sm_put h0 hk (l := r) fun y hy => h y (List.mem_cons_of_mem _ hy)
    rw [putL]
    cases keyLt x k with
    | true => simp only [cond_true, sm, ih]; omega
    | false =>
      cases h2 : sameK x k with
      | true => simp only [cond_true, cond_false, sm_app, sm_nz h0, h x List.mem_cons_self h2, sm]; omega
      | false => simp only [cond_false, sm_app, sm_nz h0, hk, sm]; omega

def vl (k : VP) : List VP → Int × Int
  | [] => (0, 0)
  | x :: r => bif sameK x k then (x.Quantity, x.Basis) else vl k r
end Go.Proofs.Ytelblamgfbkhbaa
namespace Go.Proofs.Ytelblamgfbkhbaa
set_option linter.unusedVariables false
set_option linter.unusedSimpArgs false
open Go.RowKit
theorem mul_bd {a b : Int} {x y : Nat} (h : a.natAbs ≤ x) (k : b.natAbs ≤ y) : (a * b).natAbs ≤ x * y := by
  rw [Int.natAbs_mul]; exact Nat.mul_le_mul h k
theorem f47r1_eq {l : List VP} (h : l.length ≤ 1000000) : f47r1 l = some l := by
  unfold f47r1 f47r1n0
  cases l with
  | nil => rfl
  | cons x r => rw [req, fit_small h (by omega)]; rfl
abbrev kOf (m p : ByteArray) : VP := ⟨m, p, 0, 0⟩
def tA (s : Variation) (bu pr : ByteArray) (q p : Int) : VP := putP (kOf bu pr) q (q * p) s.Positions
def tL1 (s : Variation) (bu pr : ByteArray) (q p : Int) : List VP := putL (kOf bu pr) q (q * p) s.Positions
def tB (s : Variation) (bu se pr : ByteArray) (q p : Int) : VP := putP (kOf se pr) (-q) (-(q * p)) (tL1 s bu pr q p)
def tL2 (s : Variation) (bu se pr : ByteArray) (q p : Int) : List VP := putL (kOf se pr) (-q) (-(q * p)) (tL1 s bu pr q p)
def askB (bu se pr : ByteArray) (q p : Int) : Bool := partyB bu && (partyB se && (!(seq bu se) && (nameB pr && (decide (1 ≤ q) && (decide (q ≤ 1048576) && inR p 536870912)))))
def noV : Variation := ⟨0, []⟩
def tradeS (s : Variation) (bu se pr : ByteArray) (q p : Int) : Variation × Int :=
  bif checkB s then
    bif askB bu se pr q p then
      bif inR (tB s bu se pr q p).Quantity 1048576 && inR (tA s bu pr q p).Quantity 1048576 then
        bif inR (tB s bu se pr q p).Basis 1125899906842624 && inR (tA s bu pr q p).Basis 1125899906842624 then
          bif decide ((tL2 s bu se pr q p).length ≤ 200) then (⟨s.Day, tL2 s bu se pr q p⟩, 0) else (noV, 22)
        else (noV, 14)
      else (noV, 52)
    else (noV, 2)
  else (noV, 8)
structure Ask (bu se pr : ByteArray) (q p : Int) : Prop where
  bp : partyB bu = true
  sp : partyB se = true
  ne : seq bu se = false
  np : nameB pr = true
  q0 : 1 ≤ q
  q1 : q ≤ 1048576
  p0 : -536870912 ≤ p
  p1 : p ≤ 536870912
theorem ask_iff {bu se pr : ByteArray} {q p : Int} : askB bu se pr q p = true ↔ Ask bu se pr q p := by
  unfold askB
  simp only [Bool.and_eq_true, decide_eq_true_eq, Bool.not_eq_true', inR_iff]
  exact ⟨fun ⟨a, b, c, d, e, f, g, h⟩ => ⟨a, b, c, d, e, f, g, h⟩, fun ⟨a, b, c, d, e, f, g, h⟩ => ⟨a, b, c, d, e, f, g, h⟩⟩
theorem Ask.m {bu se pr : ByteArray} {q p : Int} (h : Ask bu se pr q p) : -562949953421312 ≤ q * p ∧ q * p ≤ 562949953421312 := by
  have := mul_bd (a := q) (b := p) (x := 1048576) (y := 536870912) (by have := h.q0; have := h.q1; omega) (by have := h.p0; have := h.p1; omega)
  omega
theorem f16_eq (s : Variation) (bu se pr : ByteArray) (q p : Int) : f16 s bu se pr q p = some (tradeS s bu se pr q p) := by
  have e45 : f45 pr = some (nameB pr) := f45_eq _
  unfold f16 f16n0 tradeS
  rw [f26_eq]
  cases hc : checkB s with
  | false => rfl
  | true =>
    have ok := check_iff.1 hc
    rw [lt_not, lt_not]
    simp only [cond_true, Option.bind_some, f44_eq, e45, f37_p, decide_true]
    cases ha : askB bu se pr q p with
    | false =>
      simp only [cond_false]
      unfold askB at ha
      revert ha
      cases partyB bu with
      | false => intro _; rfl
      | true => cases partyB se with
        | false => intro _; rfl
        | true => cases seq bu se with
          | true => intro _; rfl
          | false => cases nameB pr with
            | false => intro _; rfl
            | true => cases decide (1 ≤ q) with
              | false => intro _; rfl
              | true => cases decide (q ≤ 1048576) with
                | false => intro _; rfl
                | true => cases inR p 536870912 with
                  | false => intro _; rfl
                  | true => intro h; cases h
    | true =>
      have a := ask_iff.1 ha
      have hm := a.m
      have hq0 := a.q0
      have hq1 := a.q1
      have e1 : wr64 (q * p) = q * p := wr_in (by omega) (by omega)
      have e2 : wr64 (0 - q) = -q := w64 (by omega) (by omega) (by omega)
      have e3 : wr64 (-q * p) = -(q * p) := w64 (by rw [Int.neg_mul]) (by omega) (by omega)
      have e4 : f47r1 s.Positions = some s.Positions := f47r1_eq (by have := ok.len; omega)
      have e5 : f46r1 bu pr q (q * p) s.Positions = some (tL1 s bu pr q p, tA s bu pr q p) := f46r1_eq ok.srt (by have := ok.len; omega) _ _ _ _
      have e6 : f46r1 se pr (-q) (-(q * p)) (tL1 s bu pr q p) = some (tL2 s bu se pr q p, tB s bu se pr q p) := f46r1_eq (put_srt ok.srt) (by have := ok.len; have := put_len (kOf bu pr) q (q * p) s.Positions; omega) _ _ _ _
      have hp : inR p 536870912 = true := inR_iff.2 ⟨a.p0, a.p1⟩
      have hl : decide ((200 : Int) < ((tL2 s bu se pr q p).length : Int)) = !decide ((tL2 s bu se pr q p).length ≤ 200) := by rw [lt_not]; congr 1; exact dec_nat _ 200
      simp only [a.bp, a.sp, a.ne, a.np, decide_eq_true hq0, decide_eq_true hq1, hp, Bool.not_true, cond_true, cond_false, e1, e2, e3, e4, e5, e6, Option.bind_some, f37_q, f37_b, hl]
      cases inR (tB s bu se pr q p).Quantity 1048576 with
      | false => rfl
      | true => cases inR (tA s bu pr q p).Quantity 1048576 with
        | false => rfl
        | true => cases inR (tB s bu se pr q p).Basis 1125899906842624 with
          | false => rfl
          | true => cases inR (tA s bu pr q p).Basis 1125899906842624 with
            | false => rfl
            | true => cases decide ((tL2 s bu se pr q p).length ≤ 200) <;> rfl

abbrev Bd (l : List VP) : Prop := ∀ x ∈ l, (-1048576 ≤ x.Quantity ∧ x.Quantity ≤ 1048576) ∧ (-1125899906842624 ≤ x.Basis ∧ x.Basis ≤ 1125899906842624)
theorem zero_wq (p : ByteArray) (x : VP) (h : zeroP x = true) : wq p x = 0 := by
  unfold zeroP at h
  rw [Bool.and_eq_true, decide_eq_true_eq, decide_eq_true_eq] at h
  unfold wq; rw [h.1]; cases seq x.Product p <;> rfl
theorem zero_wb (p : ByteArray) (x : VP) (h : zeroP x = true) : wb p x = 0 := by
  unfold zeroP at h
  rw [Bool.and_eq_true, decide_eq_true_eq, decide_eq_true_eq] at h
  unfold wb; rw [h.2]; cases seq x.Product p <;> rfl
section
variable {m p : ByteArray} {q b : Int} {l : List VP} (hb : Bd l) (hq : -1048576 ≤ q ∧ q ≤ 1048576) (hm : -1125899906842624 ≤ b ∧ b ≤ 1125899906842624)
include hb hq
theorem put_wq (g : ByteArray) : sm (wq g) (putL (kOf m p) q b l) = sm (wq g) l + bif seq p g then q else 0 := by
  refine sm_put (zero_wq g) ?_ fun x hx hk => ?_
  · simp only [wq, upd, kOf, Int.zero_add]
    rw [wr_in (n := q) (by omega) (by omega)]
  · have := (hb x hx).1
    have e : x.Product = p := (sameK_iff.1 hk).2
    simp only [wq, upd, e]
    rw [wr_in (n := x.Quantity + q) (by omega) (by omega)]
    cases seq p g <;> simp
omit hq
include hm
theorem put_wb (g : ByteArray) : sm (wb g) (putL (kOf m p) q b l) = sm (wb g) l + bif seq p g then b else 0 := by
  refine sm_put (zero_wb g) ?_ fun x hx hk => ?_
  · simp only [wb, upd, kOf, Int.zero_add]
    rw [wr_in (n := b) (by omega) (by omega)]
  · have := (hb x hx).2
    have e : x.Product = p := (sameK_iff.1 hk).2
    simp only [wb, upd, e]
    rw [wr_in (n := x.Basis + b) (by omega) (by omega)]
    cases seq p g <;> simp
end
theorem good_bd {l : List VP} (h : ∀ x ∈ l, goodP x = true) : Bd l := fun x hx => ⟨good_q (h x hx), good_b (h x hx)⟩
theorem good_of {x : VP} (h1 : inR x.Quantity 1048576 = true) (h2 : inR x.Basis 1125899906842624 = true) (h3 : zeroP x = false) (h4 : partyB x.Member = true) (h5 : nameB x.Product = true) : goodP x = true := by
  unfold goodP; rw [h1, h2, h3, h4, h5]; rfl
theorem good_nz {x : VP} (h : goodP x = true) : zeroP x = false := by
  unfold goodP at h
  simp only [Bool.and_eq_true, Bool.not_eq_true'] at h
  exact h.2.2.1
theorem good_m {x : VP} (h : goodP x = true) : partyB x.Member = true := by
  unfold goodP at h
  simp only [Bool.and_eq_true, Bool.not_eq_true'] at h
  exact h.2.2.2.1
theorem good_p {x : VP} (h : goodP x = true) : nameB x.Product = true := by
  unfold goodP at h
  simp only [Bool.and_eq_true, Bool.not_eq_true'] at h
  exact h.2.2.2.2
structure Took (s : Variation) (bu se pr : ByteArray) (q p : Int) : Prop where
  ok : Ok s
  ask : Ask bu se pr q p
  qb : inR (tB s bu se pr q p).Quantity 1048576 = true
  qa : inR (tA s bu pr q p).Quantity 1048576 = true
  bb : inR (tB s bu se pr q p).Basis 1125899906842624 = true
  ba : inR (tA s bu pr q p).Basis 1125899906842624 = true
  len : (tL2 s bu se pr q p).length ≤ 200
theorem trade_took {s : Variation} {bu se pr : ByteArray} {q p : Int} (h : (tradeS s bu se pr q p).2 = 0) : Took s bu se pr q p ∧ tradeS s bu se pr q p = (⟨s.Day, tL2 s bu se pr q p⟩, 0) := by
  unfold tradeS at h ⊢
  cases h1 : checkB s with
  | false => rw [h1] at h; cases h
  | true =>
    cases h2 : askB bu se pr q p with
    | false => rw [h1, h2] at h; cases h
    | true =>
      cases h3 : inR (tB s bu se pr q p).Quantity 1048576 && inR (tA s bu pr q p).Quantity 1048576 with
      | false => rw [h1, h2, h3] at h; cases h
      | true =>
        cases h4 : inR (tB s bu se pr q p).Basis 1125899906842624 && inR (tA s bu pr q p).Basis 1125899906842624 with
        | false => rw [h1, h2, h3, h4] at h; cases h
        | true =>
          cases h5 : decide ((tL2 s bu se pr q p).length ≤ 200) with
          | false => rw [h1, h2, h3, h4, h5] at h; cases h
          | true =>
            rw [Bool.and_eq_true] at h3 h4
            exact ⟨⟨check_iff.1 h1, ask_iff.1 h2, h3.1, h3.2, h4.1, h4.2, of_decide_eq_true h5⟩, rfl⟩
section
variable {s : Variation} {bu se pr : ByteArray} {q p : Int} (h : Took s bu se pr q p)
include h
theorem Took.good1 : ∀ x ∈ tL1 s bu pr q p, goodP x = true := fun x hx => by
  rcases put_mem' hx with hx | ⟨rfl, hz⟩
  · exact h.ok.good x hx
  · have k := sameK_iff.1 (putP_key (kOf bu pr) q (q * p) s.Positions)
    exact good_of h.qa h.ba hz (by rw [k.1]; exact h.ask.bp) (by rw [k.2]; exact h.ask.np)
theorem Took.srt1 : Srt (tL1 s bu pr q p) := put_srt h.ok.srt
theorem Took.good2 : ∀ x ∈ tL2 s bu se pr q p, goodP x = true := fun x hx => by
  rcases put_mem' hx with hx | ⟨rfl, hz⟩
  · exact h.good1 x hx
  · have k := sameK_iff.1 (putP_key (kOf se pr) (-q) (-(q * p)) (tL1 s bu pr q p))
    exact good_of h.qb h.bb hz (by rw [k.1]; exact h.ask.sp) (by rw [k.2]; exact h.ask.np)
theorem Took.out : Ok ⟨s.Day, tL2 s bu se pr q p⟩ where
  d0 := h.ok.d0
  d1 := h.ok.d1
  len := h.len
  srt := put_srt h.srt1
  good := h.good2
  flat := fun g => by
    have m := h.ask.m
    have q0 := h.ask.q0
    have q1 := h.ask.q1
    have f := h.ok.flat g
    have a1 := put_wq (m := bu) (p := pr) (q := q) (b := q * p) (good_bd h.ok.good) (by omega) g
    have a2 := put_wq (m := se) (p := pr) (q := -q) (b := -(q * p)) (good_bd h.good1) (by omega) g
    have b1 := put_wb (m := bu) (p := pr) (q := q) (b := q * p) (good_bd h.ok.good) (by omega) g
    have b2 := put_wb (m := se) (p := pr) (q := -q) (b := -(q * p)) (good_bd h.good1) (by omega) g
    show sm (wq g) (putL _ _ _ (tL1 s bu pr q p)) = 0 ∧ sm (wb g) (putL _ _ _ (tL1 s bu pr q p)) = 0
    rw [a2, b2]
    unfold tL1
    rw [a1, b1, f.1, f.2]
    cases seq pr g <;> simp only [cond_true, cond_false] <;> omega
end
end Go.Proofs.Ytelblamgfbkhbaa
