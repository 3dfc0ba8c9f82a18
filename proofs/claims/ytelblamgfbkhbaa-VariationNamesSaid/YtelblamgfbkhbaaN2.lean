/- Functions of the program, plainly, and that the machine computes them. No condition. -/
import Derived.Test.YtelblamgfbkhbaaN1
namespace Go.Proofs.Ytelblamgfbkhbaa
set_option linter.unusedVariables false
set_option linter.unusedSimpArgs false
set_option maxRecDepth 100000
open Go.RowKit
/-! ### novation/variation.Trade -/
noncomputable def c16 : Code := Try.f16.body.getD .skip
inductive f16n0O where
  | ret (v81 : Int) (v82 : Int) (v83 : List VariationPosition)
def f16n0E (a1 : Variation) (a2 : ByteArray) (a3 : ByteArray) (a4 : ByteArray) (a5 : Int) (a6 : Int) : f16n0O → Ex × Tr × Hp
  | .ret v81 v82 v83 => (.ret, mkS [(12, (.bp 0 0)), (13, (.pl (.int .i64 v81)))], [some (.box [(.pl (.int .i64 v82)), (.own 1)]), some (.row false 4 (v83.map VariationPosition.cells))])
def f16n0S (a1 : Variation) (a2 : ByteArray) (a3 : ByteArray) (a4 : ByteArray) (a5 : Int) (a6 : Int) : Tr × Hp := (initS [(.pl (.agg (Variation.cells a1))), (.pl (.str a2)), (.pl (.str a3)), (.pl (.str a4)), (.pl (.int .i64 a5)), (.pl (.int .i64 a6))] 0 .leaf, [])
noncomputable def f16n0 (a1 : Variation) (a2 : ByteArray) (a3 : ByteArray) (a4 : ByteArray) (a5 : Int) (a6 : Int) : Option f16n0O :=
  (f26 a1).bind fun x10 =>
  bif (decide (x10 = 0)) then
    (f44 a2).bind fun x28 =>
    bif x28 then
      (f44 a3).bind fun x31 =>
      bif x31 then
        bif (seq a2 a3) then
          some (.ret 2 0 [])
        else
          (f45 a4).bind fun x35 =>
          bif x35 then
            bif (decide (a5 < 1)) then
              some (.ret 2 0 [])
            else
              bif (decide (1048576 < a5)) then
                some (.ret 2 0 [])
              else
                (f37 a6 536870912).bind fun x40 =>
                bif x40 then
                  (f47r1 a1.Positions).bind fun x47 =>
                  (f46r1 a2 a4 a5 (wr64 (a5 * a6)) x47).bind fun x49 =>
                  (f46r1 a3 a4 (wr64 (0 - a5)) (wr64 ((wr64 (0 - a5)) * a6)) x49.1).bind fun x53 =>
                  (f37 x53.2.Quantity 1048576).bind fun x68 =>
                  bif x68 then
                    (f37 x49.2.Quantity 1048576).bind fun x71 =>
                    bif x71 then
                      (f37 x53.2.Basis 1125899906842624).bind fun x74 =>
                      bif x74 then
                        (f37 x49.2.Basis 1125899906842624).bind fun x77 =>
                        bif x77 then
                          bif (decide (200 < (x53.1.length : Int))) then
                            some (.ret 22 0 [])
                          else
                            some (.ret 0 a1.Day x53.1)
                        else
                          some (.ret 14 0 [])
                      else
                        some (.ret 14 0 [])
                    else
                      some (.ret 52 0 [])
                  else
                    some (.ret 52 0 [])
                else
                  some (.ret 2 0 [])
          else
            some (.ret 2 0 [])
      else
        some (.ret 2 0 [])
    else
      some (.ret 2 0 [])
  else
    some (.ret x10 0 [])
theorem f16n0_ok (a1 : Variation) (a2 : ByteArray) (a3 : ByteArray) (a4 : ByteArray) (a5 : Int) (a6 : Int) {o : f16n0O} (h : (f16n0 a1 a2 a3 a4 a5 a6) = some o) : T Try.prog Try.f16.ntmps 0 c16 (f16n0S a1 a2 a3 a4 a5 a6) (fun r => r = f16n0E a1 a2 a3 a4 a5 a6 o) := by
  unfold f16n0 at h
  obtain ⟨x10, h11, h⟩ := bind_cases h
  rcases cond_cases h with ⟨h12, h⟩ | ⟨h12, h⟩
  · obtain ⟨x28, h29, h⟩ := bind_cases h
    rcases cond_cases h with ⟨h30, h⟩ | ⟨h30, h⟩
    · obtain ⟨x31, h32, h⟩ := bind_cases h
      rcases cond_cases h with ⟨h33, h⟩ | ⟨h33, h⟩
      · rcases cond_cases h with ⟨h34, h⟩ | ⟨h34, h⟩
        · obtain rfl := some_inj h
          exact runK_end cfg_ok (k := 3) (rs := [([], [], []), ([], [(1, .call (.pl (.int .i64 x10)) [])], []), ([], [], []), ([(4, false), (5, false), (6, false), (9, false), (10, false), (11, false), (14, true), (15, true), (16, true)], [(1, .call (.pl (.bool x28)) []), (5, .call (.pl (.bool x31)) []), (7, .bool false), (12, .bool false), (17, .bool true)], []), ([], [], [])]) (ps := [some false, none]) (tds := [.matC 1 1 4]) (m := [1, 2]) (keep := [12, 13]) (ex := .ret) (st' := (f16n0E a1 a2 a3 a4 a5 a6 (.ret 2 0 [])).2) (by kernel_rfl) (ap (f26_ok a1 h11) (ap (not_t h12) (ap (not_t h30) (ap (not_t h30) (ap (not_t h30) (ap (not_t h30) (ap (not_t h33) (ap (not_t h33) (ap (not_t h33) (ap (not_t h33) (ap h34 (ap h34 (ap h34 (ap h34 (ap (f44_ok a2 h29) (ap (f44_ok a3 h32) an)))))))))))))))) (fun h => nomatch h) rfl
        · obtain ⟨x35, h36, h⟩ := bind_cases h
          rcases cond_cases h with ⟨h37, h⟩ | ⟨h37, h⟩
          · rcases cond_cases h with ⟨h38, h⟩ | ⟨h38, h⟩
            · obtain rfl := some_inj h
              exact runK_end cfg_ok (k := 3) (rs := [([], [], []), ([], [(1, .call (.pl (.int .i64 x10)) [])], []), ([], [], []), ([(4, false), (5, false), (6, false), (9, false), (10, false), (11, false), (14, false), (15, false), (16, false), (19, false), (20, false), (23, true), (24, true)], [(1, .call (.pl (.bool x28)) []), (5, .call (.pl (.bool x31)) []), (7, .bool false), (12, .bool false), (15, .call (.pl (.bool x35)) []), (17, .bool false), (21, .bool false), (25, .bool true)], []), ([], [], [])]) (ps := [some false, none]) (tds := [.matC 1 1 4]) (m := [1, 2]) (keep := [12, 13]) (ex := .ret) (st' := (f16n0E a1 a2 a3 a4 a5 a6 (.ret 2 0 [])).2) (by kernel_rfl) (ap (f26_ok a1 h11) (ap (not_t h12) (ap (not_t h30) (ap (not_t h30) (ap (not_t h30) (ap (not_t h30) (ap (not_t h33) (ap (not_t h33) (ap (not_t h33) (ap (not_t h33) (ap h34 (ap h34 (ap h34 (ap h34 (ap (not_t h37) (ap (not_t h37) (ap (not_t h37) (ap h38 (ap h38 (ap h38 (ap (f44_ok a2 h29) (ap (f44_ok a3 h32) (ap (f45_ok a4 h36) an))))))))))))))))))))))) (fun h => nomatch h) rfl
            · rcases cond_cases h with ⟨h39, h⟩ | ⟨h39, h⟩
              · obtain rfl := some_inj h
                exact runK_end cfg_ok (k := 3) (rs := [([], [], []), ([], [(1, .call (.pl (.int .i64 x10)) [])], []), ([], [], []), ([(4, false), (5, false), (6, false), (9, false), (10, false), (11, false), (14, false), (15, false), (16, false), (19, false), (20, false), (23, false), (24, false), (27, true), (28, true), (29, true)], [(1, .call (.pl (.bool x28)) []), (5, .call (.pl (.bool x31)) []), (7, .bool false), (12, .bool false), (15, .call (.pl (.bool x35)) []), (17, .bool false), (21, .bool false), (25, .bool false), (30, .bool true)], []), ([], [], [])]) (ps := [some false, none]) (tds := [.matC 1 1 4]) (m := [1, 2]) (keep := [12, 13]) (ex := .ret) (st' := (f16n0E a1 a2 a3 a4 a5 a6 (.ret 2 0 [])).2) (by kernel_rfl) (ap (f26_ok a1 h11) (ap (not_t h12) (ap (not_t h30) (ap (not_t h30) (ap (not_t h30) (ap (not_t h30) (ap (not_t h33) (ap (not_t h33) (ap (not_t h33) (ap (not_t h33) (ap h34 (ap h34 (ap h34 (ap h34 (ap (not_t h37) (ap (not_t h37) (ap (not_t h37) (ap h38 (ap h38 (ap h38 (ap h39 (ap h39 (ap h39 (ap h39 (ap (f44_ok a2 h29) (ap (f44_ok a3 h32) (ap (f45_ok a4 h36) an))))))))))))))))))))))))))) (fun h => nomatch h) rfl
              · obtain ⟨x40, h41, h⟩ := bind_cases h
                rcases cond_cases h with ⟨h42, h⟩ | ⟨h42, h⟩
                · obtain ⟨x47, h48, h⟩ := bind_cases h
                  obtain ⟨x49, h50, h⟩ := bind_cases h
                  obtain ⟨x53, h54, h⟩ := bind_cases h
                  obtain ⟨x68, h69, h⟩ := bind_cases h
                  rcases cond_cases h with ⟨h70, h⟩ | ⟨h70, h⟩
                  · obtain ⟨x71, h72, h⟩ := bind_cases h
                    rcases cond_cases h with ⟨h73, h⟩ | ⟨h73, h⟩
                    · obtain ⟨x74, h75, h⟩ := bind_cases h
                      rcases cond_cases h with ⟨h76, h⟩ | ⟨h76, h⟩
                      · obtain ⟨x77, h78, h⟩ := bind_cases h
                        rcases cond_cases h with ⟨h79, h⟩ | ⟨h79, h⟩
                        · rcases cond_cases h with ⟨h80, h⟩ | ⟨h80, h⟩
                          · obtain rfl := some_inj h
                            exact runK_end cfg_ok (k := 6) (rs := [([], [], []), ([], [(1, .call (.pl (.int .i64 x10)) [])], []), ([], [], []), ([(4, false), (5, false), (6, false), (9, false), (10, false), (11, false), (14, false), (15, false), (16, false), (19, false), (20, false), (23, false), (24, false), (27, false), (28, false), (29, false)], [(1, .call (.pl (.bool x28)) []), (5, .call (.pl (.bool x31)) []), (7, .bool false), (12, .bool false), (15, .call (.pl (.bool x35)) []), (17, .bool false), (21, .bool false), (25, .bool false), (28, .call (.pl (.bool x40)) []), (30, .bool false)], []), ([], [(2, .call (.own 2) [none, none, some (.row false 4 (x47.map VariationPosition.cells))]), (9, .call (.tup [(.own 3), (.pl (.agg (VariationPosition.cells x49.2)))]) [none, none, none, some (.row false 4 (x49.1.map VariationPosition.cells)), some (.box ((VariationPosition.cells x49.2).map .pl))])], []), ([], [(9, .call (.tup [(.own 6), (.pl (.agg (VariationPosition.cells x53.2)))]) [none, none, none, none, none, none, some (.row false 4 (x53.1.map VariationPosition.cells)), some (.box ((VariationPosition.cells x53.2).map .pl))])], []), ([(5, false), (6, false), (7, false), (8, false)], [(2, .call (.pl (.bool x68)) []), (7, .call (.pl (.bool x71)) []), (9, .bool false)], []), ([(5, false), (6, false), (7, false), (8, false)], [(2, .call (.pl (.bool x74)) []), (7, .call (.pl (.bool x77)) []), (9, .bool false)], []), ([], [], [(1, .val (.pl (.int .i64 (x53.1.length : Int))))]), ([], [], [])]) (ps := [some false, some false, some false, some false, some true]) (tds := [.matC 1 1 4]) (m := [1, 9]) (keep := [12, 13]) (ex := .ret) (st' := (f16n0E a1 a2 a3 a4 a5 a6 (.ret 22 0 [])).2) (by kernel_rfl) (ap (f26_ok a1 h11) (ap (not_t h12) (ap (not_t h30) (ap (not_t h30) (ap (not_t h30) (ap (not_t h30) (ap (not_t h33) (ap (not_t h33) (ap (not_t h33) (ap (not_t h33) (ap h34 (ap h34 (ap h34 (ap h34 (ap (not_t h37) (ap (not_t h37) (ap (not_t h37) (ap h38 (ap h38 (ap h38 (ap h39 (ap h39 (ap h39 (ap h39 (ap (f44_ok a2 h29) (ap (f44_ok a3 h32) (ap (f45_ok a4 h36) (ap (f37_ok a6 536870912 h41) (ap (not_t h42) (ap (CallS.ren (args' := [(.pl (.sl .any 4 (a1.Positions.map VariationPosition.cells)))]) (v' := (.own 2)) (B := [none, none]) (B' := [none, none, some (.row false 4 (x47.map VariationPosition.cells))]) 2 [] (f47r1_ok a1.Positions h48) (by kernel_rfl) (by kernel_rfl) (by kernel_rfl) (by kernel_rfl) (by kernel_rfl) (by kernel_rfl)) (ap (CallS.ren (args' := [(.own 2), (.pl (.str a2)), (.pl (.str a4)), (.pl (.int .i64 a5)), (.pl (.int .i64 (wr64 (a5 * a6))))]) (v' := (.tup [(.own 3), (.pl (.agg (VariationPosition.cells x49.2)))])) (B := [none, none, some (.row false 4 (x47.map VariationPosition.cells))]) (B' := [none, none, none, some (.row false 4 (x49.1.map VariationPosition.cells)), some (.box ((VariationPosition.cells x49.2).map .pl))]) 3 [2] (f46r1_ok a2 a4 a5 (wr64 (a5 * a6)) x47 h50) (by kernel_rfl) (by kernel_rfl) (by kernel_rfl) (by kernel_rfl) (by kernel_rfl) (by kernel_rfl)) (ap (CallS.ren (args' := [(.own 3), (.pl (.str a3)), (.pl (.str a4)), (.pl (.int .i64 (wr64 (0 - a5)))), (.pl (.int .i64 (wr64 ((wr64 (0 - a5)) * a6))))]) (v' := (.tup [(.own 6), (.pl (.agg (VariationPosition.cells x53.2)))])) (B := [none, none, none, some (.row false 4 (x49.1.map VariationPosition.cells)), none, none]) (B' := [none, none, none, none, none, none, some (.row false 4 (x53.1.map VariationPosition.cells)), some (.box ((VariationPosition.cells x53.2).map .pl))]) 6 [3] (f46r1_ok a3 a4 (wr64 (0 - a5)) (wr64 ((wr64 (0 - a5)) * a6)) x49.1 h54) (by kernel_rfl) (by kernel_rfl) (by kernel_rfl) (by kernel_rfl) (by kernel_rfl) (by kernel_rfl)) (ap (not_t h70) (ap (not_t h70) (ap (not_t h70) (ap (not_t h70) (ap (not_t h70) (ap (f37_ok x53.2.Quantity 1048576 h69) (ap (f37_ok x49.2.Quantity 1048576 h72) (ap (not_t h73) (ap (not_t h76) (ap (not_t h76) (ap (not_t h76) (ap (not_t h76) (ap (not_t h76) (ap (f37_ok x53.2.Basis 1125899906842624 h75) (ap (f37_ok x49.2.Basis 1125899906842624 h78) (ap (not_t h79) (ap (len_cv (xs := x53.1) (c := VariationPosition.cells)) (ap h80 an)))))))))))))))))))))))))))))))))))))))))))))))))) (fun h => nomatch h) rfl
                          · obtain rfl := some_inj h
                            exact run_end cfg_ok (rs := [([], [], []), ([], [(1, .call (.pl (.int .i64 x10)) [])], []), ([], [], []), ([(4, false), (5, false), (6, false), (9, false), (10, false), (11, false), (14, false), (15, false), (16, false), (19, false), (20, false), (23, false), (24, false), (27, false), (28, false), (29, false)], [(1, .call (.pl (.bool x28)) []), (5, .call (.pl (.bool x31)) []), (7, .bool false), (12, .bool false), (15, .call (.pl (.bool x35)) []), (17, .bool false), (21, .bool false), (25, .bool false), (28, .call (.pl (.bool x40)) []), (30, .bool false)], []), ([], [(2, .call (.own 2) [none, none, some (.row false 4 (x47.map VariationPosition.cells))]), (9, .call (.tup [(.own 3), (.pl (.agg (VariationPosition.cells x49.2)))]) [none, none, none, some (.row false 4 (x49.1.map VariationPosition.cells)), some (.box ((VariationPosition.cells x49.2).map .pl))])], []), ([], [(9, .call (.tup [(.own 6), (.pl (.agg (VariationPosition.cells x53.2)))]) [none, none, none, none, none, none, some (.row false 4 (x53.1.map VariationPosition.cells)), some (.box ((VariationPosition.cells x53.2).map .pl))])], []), ([(5, false), (6, false), (7, false), (8, false)], [(2, .call (.pl (.bool x68)) []), (7, .call (.pl (.bool x71)) []), (9, .bool false)], []), ([(5, false), (6, false), (7, false), (8, false)], [(2, .call (.pl (.bool x74)) []), (7, .call (.pl (.bool x77)) []), (9, .bool false)], []), ([], [], [(1, .val (.pl (.int .i64 (x53.1.length : Int))))]), ([], [], [])]) (ps := [some false, some false, some false, some false, some false]) (tds := []) (m := [1, 6]) (keep := [12, 13]) (r := (.ret, (f16n0E a1 a2 a3 a4 a5 a6 (.ret 0 a1.Day x53.1)).2)) (by kernel_rfl) (ap (f26_ok a1 h11) (ap (not_t h12) (ap (not_t h30) (ap (not_t h30) (ap (not_t h30) (ap (not_t h30) (ap (not_t h33) (ap (not_t h33) (ap (not_t h33) (ap (not_t h33) (ap h34 (ap h34 (ap h34 (ap h34 (ap (not_t h37) (ap (not_t h37) (ap (not_t h37) (ap h38 (ap h38 (ap h38 (ap h39 (ap h39 (ap h39 (ap h39 (ap (f44_ok a2 h29) (ap (f44_ok a3 h32) (ap (f45_ok a4 h36) (ap (f37_ok a6 536870912 h41) (ap (not_t h42) (ap (CallS.ren (args' := [(.pl (.sl .any 4 (a1.Positions.map VariationPosition.cells)))]) (v' := (.own 2)) (B := [none, none]) (B' := [none, none, some (.row false 4 (x47.map VariationPosition.cells))]) 2 [] (f47r1_ok a1.Positions h48) (by kernel_rfl) (by kernel_rfl) (by kernel_rfl) (by kernel_rfl) (by kernel_rfl) (by kernel_rfl)) (ap (CallS.ren (args' := [(.own 2), (.pl (.str a2)), (.pl (.str a4)), (.pl (.int .i64 a5)), (.pl (.int .i64 (wr64 (a5 * a6))))]) (v' := (.tup [(.own 3), (.pl (.agg (VariationPosition.cells x49.2)))])) (B := [none, none, some (.row false 4 (x47.map VariationPosition.cells))]) (B' := [none, none, none, some (.row false 4 (x49.1.map VariationPosition.cells)), some (.box ((VariationPosition.cells x49.2).map .pl))]) 3 [2] (f46r1_ok a2 a4 a5 (wr64 (a5 * a6)) x47 h50) (by kernel_rfl) (by kernel_rfl) (by kernel_rfl) (by kernel_rfl) (by kernel_rfl) (by kernel_rfl)) (ap (CallS.ren (args' := [(.own 3), (.pl (.str a3)), (.pl (.str a4)), (.pl (.int .i64 (wr64 (0 - a5)))), (.pl (.int .i64 (wr64 ((wr64 (0 - a5)) * a6))))]) (v' := (.tup [(.own 6), (.pl (.agg (VariationPosition.cells x53.2)))])) (B := [none, none, none, some (.row false 4 (x49.1.map VariationPosition.cells)), none, none]) (B' := [none, none, none, none, none, none, some (.row false 4 (x53.1.map VariationPosition.cells)), some (.box ((VariationPosition.cells x53.2).map .pl))]) 6 [3] (f46r1_ok a3 a4 (wr64 (0 - a5)) (wr64 ((wr64 (0 - a5)) * a6)) x49.1 h54) (by kernel_rfl) (by kernel_rfl) (by kernel_rfl) (by kernel_rfl) (by kernel_rfl) (by kernel_rfl)) (ap (not_t h70) (ap (not_t h70) (ap (not_t h70) (ap (not_t h70) (ap (not_t h70) (ap (f37_ok x53.2.Quantity 1048576 h69) (ap (f37_ok x49.2.Quantity 1048576 h72) (ap (not_t h73) (ap (not_t h76) (ap (not_t h76) (ap (not_t h76) (ap (not_t h76) (ap (not_t h76) (ap (f37_ok x53.2.Basis 1125899906842624 h75) (ap (f37_ok x49.2.Basis 1125899906842624 h78) (ap (not_t h79) (ap (len_cv (xs := x53.1) (c := VariationPosition.cells)) (ap h80 an)))))))))))))))))))))))))))))))))))))))))))))))))) rfl
                        · obtain rfl := some_inj h
                          exact runK_end cfg_ok (k := 6) (rs := [([], [], []), ([], [(1, .call (.pl (.int .i64 x10)) [])], []), ([], [], []), ([(4, false), (5, false), (6, false), (9, false), (10, false), (11, false), (14, false), (15, false), (16, false), (19, false), (20, false), (23, false), (24, false), (27, false), (28, false), (29, false)], [(1, .call (.pl (.bool x28)) []), (5, .call (.pl (.bool x31)) []), (7, .bool false), (12, .bool false), (15, .call (.pl (.bool x35)) []), (17, .bool false), (21, .bool false), (25, .bool false), (28, .call (.pl (.bool x40)) []), (30, .bool false)], []), ([], [(2, .call (.own 2) [none, none, some (.row false 4 (x47.map VariationPosition.cells))]), (9, .call (.tup [(.own 3), (.pl (.agg (VariationPosition.cells x49.2)))]) [none, none, none, some (.row false 4 (x49.1.map VariationPosition.cells)), some (.box ((VariationPosition.cells x49.2).map .pl))])], []), ([], [(9, .call (.tup [(.own 6), (.pl (.agg (VariationPosition.cells x53.2)))]) [none, none, none, none, none, none, some (.row false 4 (x53.1.map VariationPosition.cells)), some (.box ((VariationPosition.cells x53.2).map .pl))])], []), ([(5, false), (6, false), (7, false), (8, false)], [(2, .call (.pl (.bool x68)) []), (7, .call (.pl (.bool x71)) []), (9, .bool false)], []), ([(5, false), (6, false), (7, false), (8, false)], [(2, .call (.pl (.bool x74)) []), (7, .call (.pl (.bool x77)) []), (9, .bool false)], []), ([], [], [])]) (ps := [some false, some false, some false, some true]) (tds := [.matC 1 1 4]) (m := [1, 9]) (keep := [12, 13]) (ex := .ret) (st' := (f16n0E a1 a2 a3 a4 a5 a6 (.ret 14 0 [])).2) (by kernel_rfl) (ap (f26_ok a1 h11) (ap (not_t h12) (ap (not_t h30) (ap (not_t h30) (ap (not_t h30) (ap (not_t h30) (ap (not_t h33) (ap (not_t h33) (ap (not_t h33) (ap (not_t h33) (ap h34 (ap h34 (ap h34 (ap h34 (ap (not_t h37) (ap (not_t h37) (ap (not_t h37) (ap h38 (ap h38 (ap h38 (ap h39 (ap h39 (ap h39 (ap h39 (ap (f44_ok a2 h29) (ap (f44_ok a3 h32) (ap (f45_ok a4 h36) (ap (f37_ok a6 536870912 h41) (ap (not_t h42) (ap (CallS.ren (args' := [(.pl (.sl .any 4 (a1.Positions.map VariationPosition.cells)))]) (v' := (.own 2)) (B := [none, none]) (B' := [none, none, some (.row false 4 (x47.map VariationPosition.cells))]) 2 [] (f47r1_ok a1.Positions h48) (by kernel_rfl) (by kernel_rfl) (by kernel_rfl) (by kernel_rfl) (by kernel_rfl) (by kernel_rfl)) (ap (CallS.ren (args' := [(.own 2), (.pl (.str a2)), (.pl (.str a4)), (.pl (.int .i64 a5)), (.pl (.int .i64 (wr64 (a5 * a6))))]) (v' := (.tup [(.own 3), (.pl (.agg (VariationPosition.cells x49.2)))])) (B := [none, none, some (.row false 4 (x47.map VariationPosition.cells))]) (B' := [none, none, none, some (.row false 4 (x49.1.map VariationPosition.cells)), some (.box ((VariationPosition.cells x49.2).map .pl))]) 3 [2] (f46r1_ok a2 a4 a5 (wr64 (a5 * a6)) x47 h50) (by kernel_rfl) (by kernel_rfl) (by kernel_rfl) (by kernel_rfl) (by kernel_rfl) (by kernel_rfl)) (ap (CallS.ren (args' := [(.own 3), (.pl (.str a3)), (.pl (.str a4)), (.pl (.int .i64 (wr64 (0 - a5)))), (.pl (.int .i64 (wr64 ((wr64 (0 - a5)) * a6))))]) (v' := (.tup [(.own 6), (.pl (.agg (VariationPosition.cells x53.2)))])) (B := [none, none, none, some (.row false 4 (x49.1.map VariationPosition.cells)), none, none]) (B' := [none, none, none, none, none, none, some (.row false 4 (x53.1.map VariationPosition.cells)), some (.box ((VariationPosition.cells x53.2).map .pl))]) 6 [3] (f46r1_ok a3 a4 (wr64 (0 - a5)) (wr64 ((wr64 (0 - a5)) * a6)) x49.1 h54) (by kernel_rfl) (by kernel_rfl) (by kernel_rfl) (by kernel_rfl) (by kernel_rfl) (by kernel_rfl)) (ap (not_t h70) (ap (not_t h70) (ap (not_t h70) (ap (not_t h70) (ap (not_t h70) (ap (f37_ok x53.2.Quantity 1048576 h69) (ap (f37_ok x49.2.Quantity 1048576 h72) (ap (not_t h73) (ap (not_t h76) (ap (not_t h76) (ap (not_t h76) (ap (not_t h76) (ap (not_t h76) (ap (f37_ok x53.2.Basis 1125899906842624 h75) (ap (f37_ok x49.2.Basis 1125899906842624 h78) (ap (not_f h79) an)))))))))))))))))))))))))))))))))))))))))))))))) (fun h => nomatch h) rfl
                      · obtain rfl := some_inj h
                        exact runK_end cfg_ok (k := 6) (rs := [([], [], []), ([], [(1, .call (.pl (.int .i64 x10)) [])], []), ([], [], []), ([(4, false), (5, false), (6, false), (9, false), (10, false), (11, false), (14, false), (15, false), (16, false), (19, false), (20, false), (23, false), (24, false), (27, false), (28, false), (29, false)], [(1, .call (.pl (.bool x28)) []), (5, .call (.pl (.bool x31)) []), (7, .bool false), (12, .bool false), (15, .call (.pl (.bool x35)) []), (17, .bool false), (21, .bool false), (25, .bool false), (28, .call (.pl (.bool x40)) []), (30, .bool false)], []), ([], [(2, .call (.own 2) [none, none, some (.row false 4 (x47.map VariationPosition.cells))]), (9, .call (.tup [(.own 3), (.pl (.agg (VariationPosition.cells x49.2)))]) [none, none, none, some (.row false 4 (x49.1.map VariationPosition.cells)), some (.box ((VariationPosition.cells x49.2).map .pl))])], []), ([], [(9, .call (.tup [(.own 6), (.pl (.agg (VariationPosition.cells x53.2)))]) [none, none, none, none, none, none, some (.row false 4 (x53.1.map VariationPosition.cells)), some (.box ((VariationPosition.cells x53.2).map .pl))])], []), ([(5, false), (6, false), (7, false), (8, false)], [(2, .call (.pl (.bool x68)) []), (7, .call (.pl (.bool x71)) []), (9, .bool false)], []), ([(5, true), (6, true), (7, true), (8, true)], [(2, .call (.pl (.bool x74)) []), (9, .bool true)], []), ([], [], [])]) (ps := [some false, some false, some false, none]) (tds := [.matC 1 1 4]) (m := [1, 9]) (keep := [12, 13]) (ex := .ret) (st' := (f16n0E a1 a2 a3 a4 a5 a6 (.ret 14 0 [])).2) (by kernel_rfl) (ap (f26_ok a1 h11) (ap (not_t h12) (ap (not_t h30) (ap (not_t h30) (ap (not_t h30) (ap (not_t h30) (ap (not_t h33) (ap (not_t h33) (ap (not_t h33) (ap (not_t h33) (ap h34 (ap h34 (ap h34 (ap h34 (ap (not_t h37) (ap (not_t h37) (ap (not_t h37) (ap h38 (ap h38 (ap h38 (ap h39 (ap h39 (ap h39 (ap h39 (ap (f44_ok a2 h29) (ap (f44_ok a3 h32) (ap (f45_ok a4 h36) (ap (f37_ok a6 536870912 h41) (ap (not_t h42) (ap (CallS.ren (args' := [(.pl (.sl .any 4 (a1.Positions.map VariationPosition.cells)))]) (v' := (.own 2)) (B := [none, none]) (B' := [none, none, some (.row false 4 (x47.map VariationPosition.cells))]) 2 [] (f47r1_ok a1.Positions h48) (by kernel_rfl) (by kernel_rfl) (by kernel_rfl) (by kernel_rfl) (by kernel_rfl) (by kernel_rfl)) (ap (CallS.ren (args' := [(.own 2), (.pl (.str a2)), (.pl (.str a4)), (.pl (.int .i64 a5)), (.pl (.int .i64 (wr64 (a5 * a6))))]) (v' := (.tup [(.own 3), (.pl (.agg (VariationPosition.cells x49.2)))])) (B := [none, none, some (.row false 4 (x47.map VariationPosition.cells))]) (B' := [none, none, none, some (.row false 4 (x49.1.map VariationPosition.cells)), some (.box ((VariationPosition.cells x49.2).map .pl))]) 3 [2] (f46r1_ok a2 a4 a5 (wr64 (a5 * a6)) x47 h50) (by kernel_rfl) (by kernel_rfl) (by kernel_rfl) (by kernel_rfl) (by kernel_rfl) (by kernel_rfl)) (ap (CallS.ren (args' := [(.own 3), (.pl (.str a3)), (.pl (.str a4)), (.pl (.int .i64 (wr64 (0 - a5)))), (.pl (.int .i64 (wr64 ((wr64 (0 - a5)) * a6))))]) (v' := (.tup [(.own 6), (.pl (.agg (VariationPosition.cells x53.2)))])) (B := [none, none, none, some (.row false 4 (x49.1.map VariationPosition.cells)), none, none]) (B' := [none, none, none, none, none, none, some (.row false 4 (x53.1.map VariationPosition.cells)), some (.box ((VariationPosition.cells x53.2).map .pl))]) 6 [3] (f46r1_ok a3 a4 (wr64 (0 - a5)) (wr64 ((wr64 (0 - a5)) * a6)) x49.1 h54) (by kernel_rfl) (by kernel_rfl) (by kernel_rfl) (by kernel_rfl) (by kernel_rfl) (by kernel_rfl)) (ap (not_t h70) (ap (not_t h70) (ap (not_t h70) (ap (not_t h70) (ap (not_t h70) (ap (f37_ok x53.2.Quantity 1048576 h69) (ap (f37_ok x49.2.Quantity 1048576 h72) (ap (not_t h73) (ap (not_f h76) (ap (not_f h76) (ap (not_f h76) (ap (not_f h76) (ap (not_f h76) (ap (f37_ok x53.2.Basis 1125899906842624 h75) an)))))))))))))))))))))))))))))))))))))))))))))) (fun h => nomatch h) rfl
                    · obtain rfl := some_inj h
                      exact runK_end cfg_ok (k := 6) (rs := [([], [], []), ([], [(1, .call (.pl (.int .i64 x10)) [])], []), ([], [], []), ([(4, false), (5, false), (6, false), (9, false), (10, false), (11, false), (14, false), (15, false), (16, false), (19, false), (20, false), (23, false), (24, false), (27, false), (28, false), (29, false)], [(1, .call (.pl (.bool x28)) []), (5, .call (.pl (.bool x31)) []), (7, .bool false), (12, .bool false), (15, .call (.pl (.bool x35)) []), (17, .bool false), (21, .bool false), (25, .bool false), (28, .call (.pl (.bool x40)) []), (30, .bool false)], []), ([], [(2, .call (.own 2) [none, none, some (.row false 4 (x47.map VariationPosition.cells))]), (9, .call (.tup [(.own 3), (.pl (.agg (VariationPosition.cells x49.2)))]) [none, none, none, some (.row false 4 (x49.1.map VariationPosition.cells)), some (.box ((VariationPosition.cells x49.2).map .pl))])], []), ([], [(9, .call (.tup [(.own 6), (.pl (.agg (VariationPosition.cells x53.2)))]) [none, none, none, none, none, none, some (.row false 4 (x53.1.map VariationPosition.cells)), some (.box ((VariationPosition.cells x53.2).map .pl))])], []), ([(5, false), (6, false), (7, false), (8, false)], [(2, .call (.pl (.bool x68)) []), (7, .call (.pl (.bool x71)) []), (9, .bool false)], []), ([], [], [])]) (ps := [some false, some false, some true]) (tds := [.matC 1 1 4]) (m := [1, 9]) (keep := [12, 13]) (ex := .ret) (st' := (f16n0E a1 a2 a3 a4 a5 a6 (.ret 52 0 [])).2) (by kernel_rfl) (ap (f26_ok a1 h11) (ap (not_t h12) (ap (not_t h30) (ap (not_t h30) (ap (not_t h30) (ap (not_t h30) (ap (not_t h33) (ap (not_t h33) (ap (not_t h33) (ap (not_t h33) (ap h34 (ap h34 (ap h34 (ap h34 (ap (not_t h37) (ap (not_t h37) (ap (not_t h37) (ap h38 (ap h38 (ap h38 (ap h39 (ap h39 (ap h39 (ap h39 (ap (f44_ok a2 h29) (ap (f44_ok a3 h32) (ap (f45_ok a4 h36) (ap (f37_ok a6 536870912 h41) (ap (not_t h42) (ap (CallS.ren (args' := [(.pl (.sl .any 4 (a1.Positions.map VariationPosition.cells)))]) (v' := (.own 2)) (B := [none, none]) (B' := [none, none, some (.row false 4 (x47.map VariationPosition.cells))]) 2 [] (f47r1_ok a1.Positions h48) (by kernel_rfl) (by kernel_rfl) (by kernel_rfl) (by kernel_rfl) (by kernel_rfl) (by kernel_rfl)) (ap (CallS.ren (args' := [(.own 2), (.pl (.str a2)), (.pl (.str a4)), (.pl (.int .i64 a5)), (.pl (.int .i64 (wr64 (a5 * a6))))]) (v' := (.tup [(.own 3), (.pl (.agg (VariationPosition.cells x49.2)))])) (B := [none, none, some (.row false 4 (x47.map VariationPosition.cells))]) (B' := [none, none, none, some (.row false 4 (x49.1.map VariationPosition.cells)), some (.box ((VariationPosition.cells x49.2).map .pl))]) 3 [2] (f46r1_ok a2 a4 a5 (wr64 (a5 * a6)) x47 h50) (by kernel_rfl) (by kernel_rfl) (by kernel_rfl) (by kernel_rfl) (by kernel_rfl) (by kernel_rfl)) (ap (CallS.ren (args' := [(.own 3), (.pl (.str a3)), (.pl (.str a4)), (.pl (.int .i64 (wr64 (0 - a5)))), (.pl (.int .i64 (wr64 ((wr64 (0 - a5)) * a6))))]) (v' := (.tup [(.own 6), (.pl (.agg (VariationPosition.cells x53.2)))])) (B := [none, none, none, some (.row false 4 (x49.1.map VariationPosition.cells)), none, none]) (B' := [none, none, none, none, none, none, some (.row false 4 (x53.1.map VariationPosition.cells)), some (.box ((VariationPosition.cells x53.2).map .pl))]) 6 [3] (f46r1_ok a3 a4 (wr64 (0 - a5)) (wr64 ((wr64 (0 - a5)) * a6)) x49.1 h54) (by kernel_rfl) (by kernel_rfl) (by kernel_rfl) (by kernel_rfl) (by kernel_rfl) (by kernel_rfl)) (ap (not_t h70) (ap (not_t h70) (ap (not_t h70) (ap (not_t h70) (ap (not_t h70) (ap (f37_ok x53.2.Quantity 1048576 h69) (ap (f37_ok x49.2.Quantity 1048576 h72) (ap (not_f h73) an)))))))))))))))))))))))))))))))))))))))) (fun h => nomatch h) rfl
                  · obtain rfl := some_inj h
                    exact runK_end cfg_ok (k := 6) (rs := [([], [], []), ([], [(1, .call (.pl (.int .i64 x10)) [])], []), ([], [], []), ([(4, false), (5, false), (6, false), (9, false), (10, false), (11, false), (14, false), (15, false), (16, false), (19, false), (20, false), (23, false), (24, false), (27, false), (28, false), (29, false)], [(1, .call (.pl (.bool x28)) []), (5, .call (.pl (.bool x31)) []), (7, .bool false), (12, .bool false), (15, .call (.pl (.bool x35)) []), (17, .bool false), (21, .bool false), (25, .bool false), (28, .call (.pl (.bool x40)) []), (30, .bool false)], []), ([], [(2, .call (.own 2) [none, none, some (.row false 4 (x47.map VariationPosition.cells))]), (9, .call (.tup [(.own 3), (.pl (.agg (VariationPosition.cells x49.2)))]) [none, none, none, some (.row false 4 (x49.1.map VariationPosition.cells)), some (.box ((VariationPosition.cells x49.2).map .pl))])], []), ([], [(9, .call (.tup [(.own 6), (.pl (.agg (VariationPosition.cells x53.2)))]) [none, none, none, none, none, none, some (.row false 4 (x53.1.map VariationPosition.cells)), some (.box ((VariationPosition.cells x53.2).map .pl))])], []), ([(5, true), (6, true), (7, true), (8, true)], [(2, .call (.pl (.bool x68)) []), (9, .bool true)], []), ([], [], [])]) (ps := [some false, some false, none]) (tds := [.matC 1 1 4]) (m := [1, 9]) (keep := [12, 13]) (ex := .ret) (st' := (f16n0E a1 a2 a3 a4 a5 a6 (.ret 52 0 [])).2) (by kernel_rfl) (ap (f26_ok a1 h11) (ap (not_t h12) (ap (not_t h30) (ap (not_t h30) (ap (not_t h30) (ap (not_t h30) (ap (not_t h33) (ap (not_t h33) (ap (not_t h33) (ap (not_t h33) (ap h34 (ap h34 (ap h34 (ap h34 (ap (not_t h37) (ap (not_t h37) (ap (not_t h37) (ap h38 (ap h38 (ap h38 (ap h39 (ap h39 (ap h39 (ap h39 (ap (f44_ok a2 h29) (ap (f44_ok a3 h32) (ap (f45_ok a4 h36) (ap (f37_ok a6 536870912 h41) (ap (not_t h42) (ap (CallS.ren (args' := [(.pl (.sl .any 4 (a1.Positions.map VariationPosition.cells)))]) (v' := (.own 2)) (B := [none, none]) (B' := [none, none, some (.row false 4 (x47.map VariationPosition.cells))]) 2 [] (f47r1_ok a1.Positions h48) (by kernel_rfl) (by kernel_rfl) (by kernel_rfl) (by kernel_rfl) (by kernel_rfl) (by kernel_rfl)) (ap (CallS.ren (args' := [(.own 2), (.pl (.str a2)), (.pl (.str a4)), (.pl (.int .i64 a5)), (.pl (.int .i64 (wr64 (a5 * a6))))]) (v' := (.tup [(.own 3), (.pl (.agg (VariationPosition.cells x49.2)))])) (B := [none, none, some (.row false 4 (x47.map VariationPosition.cells))]) (B' := [none, none, none, some (.row false 4 (x49.1.map VariationPosition.cells)), some (.box ((VariationPosition.cells x49.2).map .pl))]) 3 [2] (f46r1_ok a2 a4 a5 (wr64 (a5 * a6)) x47 h50) (by kernel_rfl) (by kernel_rfl) (by kernel_rfl) (by kernel_rfl) (by kernel_rfl) (by kernel_rfl)) (ap (CallS.ren (args' := [(.own 3), (.pl (.str a3)), (.pl (.str a4)), (.pl (.int .i64 (wr64 (0 - a5)))), (.pl (.int .i64 (wr64 ((wr64 (0 - a5)) * a6))))]) (v' := (.tup [(.own 6), (.pl (.agg (VariationPosition.cells x53.2)))])) (B := [none, none, none, some (.row false 4 (x49.1.map VariationPosition.cells)), none, none]) (B' := [none, none, none, none, none, none, some (.row false 4 (x53.1.map VariationPosition.cells)), some (.box ((VariationPosition.cells x53.2).map .pl))]) 6 [3] (f46r1_ok a3 a4 (wr64 (0 - a5)) (wr64 ((wr64 (0 - a5)) * a6)) x49.1 h54) (by kernel_rfl) (by kernel_rfl) (by kernel_rfl) (by kernel_rfl) (by kernel_rfl) (by kernel_rfl)) (ap (not_f h70) (ap (not_f h70) (ap (not_f h70) (ap (not_f h70) (ap (not_f h70) (ap (f37_ok x53.2.Quantity 1048576 h69) an)))))))))))))))))))))))))))))))))))))) (fun h => nomatch h) rfl
                · obtain rfl := some_inj h
                  exact runK_end cfg_ok (k := 3) (rs := [([], [], []), ([], [(1, .call (.pl (.int .i64 x10)) [])], []), ([], [], []), ([(4, false), (5, false), (6, false), (9, false), (10, false), (11, false), (14, false), (15, false), (16, false), (19, false), (20, false), (23, false), (24, false), (27, false), (28, false), (29, false)], [(1, .call (.pl (.bool x28)) []), (5, .call (.pl (.bool x31)) []), (7, .bool false), (12, .bool false), (15, .call (.pl (.bool x35)) []), (17, .bool false), (21, .bool false), (25, .bool false), (28, .call (.pl (.bool x40)) []), (30, .bool false)], []), ([], [], [])]) (ps := [some false, some true]) (tds := [.matC 1 1 4]) (m := [1, 2]) (keep := [12, 13]) (ex := .ret) (st' := (f16n0E a1 a2 a3 a4 a5 a6 (.ret 2 0 [])).2) (by kernel_rfl) (ap (f26_ok a1 h11) (ap (not_t h12) (ap (not_t h30) (ap (not_t h30) (ap (not_t h30) (ap (not_t h30) (ap (not_t h33) (ap (not_t h33) (ap (not_t h33) (ap (not_t h33) (ap h34 (ap h34 (ap h34 (ap h34 (ap (not_t h37) (ap (not_t h37) (ap (not_t h37) (ap h38 (ap h38 (ap h38 (ap h39 (ap h39 (ap h39 (ap h39 (ap (f44_ok a2 h29) (ap (f44_ok a3 h32) (ap (f45_ok a4 h36) (ap (f37_ok a6 536870912 h41) (ap (not_f h42) an))))))))))))))))))))))))))))) (fun h => nomatch h) rfl
          · obtain rfl := some_inj h
            exact runK_end cfg_ok (k := 3) (rs := [([], [], []), ([], [(1, .call (.pl (.int .i64 x10)) [])], []), ([], [], []), ([(4, false), (5, false), (6, false), (9, false), (10, false), (11, false), (14, false), (15, false), (16, false), (19, true), (20, true)], [(1, .call (.pl (.bool x28)) []), (5, .call (.pl (.bool x31)) []), (7, .bool false), (12, .bool false), (15, .call (.pl (.bool x35)) []), (17, .bool false), (21, .bool true)], []), ([], [], [])]) (ps := [some false, none]) (tds := [.matC 1 1 4]) (m := [1, 2]) (keep := [12, 13]) (ex := .ret) (st' := (f16n0E a1 a2 a3 a4 a5 a6 (.ret 2 0 [])).2) (by kernel_rfl) (ap (f26_ok a1 h11) (ap (not_t h12) (ap (not_t h30) (ap (not_t h30) (ap (not_t h30) (ap (not_t h30) (ap (not_t h33) (ap (not_t h33) (ap (not_t h33) (ap (not_t h33) (ap h34 (ap h34 (ap h34 (ap h34 (ap (not_f h37) (ap (not_f h37) (ap (not_f h37) (ap (f44_ok a2 h29) (ap (f44_ok a3 h32) (ap (f45_ok a4 h36) an)))))))))))))))))))) (fun h => nomatch h) rfl
      · obtain rfl := some_inj h
        exact runK_end cfg_ok (k := 3) (rs := [([], [], []), ([], [(1, .call (.pl (.int .i64 x10)) [])], []), ([], [], []), ([(4, false), (5, false), (6, false), (9, true), (10, true), (11, true)], [(1, .call (.pl (.bool x28)) []), (5, .call (.pl (.bool x31)) []), (7, .bool false), (12, .bool true)], []), ([], [], [])]) (ps := [some false, none]) (tds := [.matC 1 1 4]) (m := [1, 2]) (keep := [12, 13]) (ex := .ret) (st' := (f16n0E a1 a2 a3 a4 a5 a6 (.ret 2 0 [])).2) (by kernel_rfl) (ap (f26_ok a1 h11) (ap (not_t h12) (ap (not_t h30) (ap (not_t h30) (ap (not_t h30) (ap (not_t h30) (ap (not_f h33) (ap (not_f h33) (ap (not_f h33) (ap (not_f h33) (ap (f44_ok a2 h29) (ap (f44_ok a3 h32) an)))))))))))) (fun h => nomatch h) rfl
    · obtain rfl := some_inj h
      exact runK_end cfg_ok (k := 3) (rs := [([], [], []), ([], [(1, .call (.pl (.int .i64 x10)) [])], []), ([], [], []), ([(4, true), (5, true), (6, true)], [(1, .call (.pl (.bool x28)) []), (7, .bool true)], []), ([], [], [])]) (ps := [some false, none]) (tds := [.matC 1 1 4]) (m := [1, 2]) (keep := [12, 13]) (ex := .ret) (st' := (f16n0E a1 a2 a3 a4 a5 a6 (.ret 2 0 [])).2) (by kernel_rfl) (ap (f26_ok a1 h11) (ap (not_t h12) (ap (not_f h30) (ap (not_f h30) (ap (not_f h30) (ap (not_f h30) (ap (f44_ok a2 h29) an))))))) (fun h => nomatch h) rfl
  · obtain rfl := some_inj h
    exact runK_end cfg_ok (k := 2) (rs := [([], [], []), ([], [(1, .call (.pl (.int .i64 x10)) [])], []), ([], [], []), ([], [], [])]) (ps := [some true]) (tds := [.matC 1 1 4]) (m := [1, 2]) (keep := [12, 13]) (ex := .ret) (st' := (f16n0E a1 a2 a3 a4 a5 a6 (.ret x10 0 [])).2) (by kernel_rfl) (ap (f26_ok a1 h11) (ap (not_f h12) an)) (fun h => nomatch h) rfl
noncomputable def f16 (a1 : Variation) (a2 : ByteArray) (a3 : ByteArray) (a4 : ByteArray) (a5 : Int) (a6 : Int) : Option (Variation × Int) := (f16n0 a1 a2 a3 a4 a5 a6).bind fun o => match o with
  | .ret v81 v82 v83 => some ((Variation.mk v82 v83), v81)
theorem f16_ok (a1 : Variation) (a2 : ByteArray) (a3 : ByteArray) (a4 : ByteArray) (a5 : Int) (a6 : Int) {r : Variation × Int} (h : (f16 a1 a2 a3 a4 a5 a6) = some r) : CallS Try.prog false 16 [(.pl (.agg (Variation.cells a1))), (.pl (.str a2)), (.pl (.str a3)), (.pl (.str a4)), (.pl (.int .i64 a5)), (.pl (.int .i64 a6))] [] (.tup [(.pl (.agg (Variation.cells r.1))), (.pl (.int .i64 r.2))]) [] := by
  unfold f16 at h
  obtain ⟨o, ho, h⟩ := bind_cases h
  cases o with
  | ret v81 v82 v83 =>
    obtain rfl := some_inj h
    exact CallS.plain cfg_ok (f := Try.f16) (c := c16) (by kernel_rfl) (by kernel_rfl) (by kernel_rfl) (by kernel_rfl) ((f16n0_ok a1 a2 a3 a4 a5 a6 ho).mono fun r e => by subst e; exact ⟨.inl rfl, (.tup [(.agg [(.pl (.int .i64 v82)), (.own 1)]), (.pl (.int .i64 v81))]), (.tup [(.pl (.agg (Variation.cells (Variation.mk v82 v83)))), (.pl (.int .i64 v81))]), by kernel_rfl, by kernel_rfl, ((Wk.refl _) : Wk (.tup [(.pl (.agg (Variation.cells (Variation.mk v82 v83)))), (.pl (.int .i64 v81))]) (.tup [(.pl (.agg (Variation.cells (Variation.mk v82 v83)))), (.pl (.int .i64 v81))]))⟩)
/-! ### novation/novationlaw37.at -/
noncomputable def c23 : Code := Try.f23.body.getD .skip
inductive f23r1n0O where
  | ret
def f23r1n0E (a1 : Int) : f23r1n0O → Ex × Tr × Hp
  | .ret => (.ret, mkS [(2, (.own 0))], [some (.row false 2 ([(VariationPrice.mk str_p a1)].map VariationPrice.cells))])
def f23r1n0S (a1 : Int) : Tr × Hp := (initS [(.pl (.int .i64 a1))] 0 .leaf, [])
noncomputable def f23r1n0 (a1 : Int) : Option f23r1n0O :=
  some .ret
theorem f23r1n0_ok (a1 : Int) {o : f23r1n0O} (h : (f23r1n0 a1) = some o) : T Try.prog Try.f23.ntmps 0 c23 (f23r1n0S a1) (fun r => r = f23r1n0E a1 o) := by
  unfold f23r1n0 at h
  obtain rfl := some_inj h
  exact run_end cfg_ok (rs := [([], [], []), ([], [], [])]) (ps := []) (tds := []) (m := [0]) (keep := [2]) (r := (.ret, (f23r1n0E a1 .ret).2)) (by kernel_rfl) an rfl
noncomputable def f23r1 (a1 : Int) : Option Unit := (f23r1n0 a1).bind fun o => match o with
  | .ret => some ()
theorem f23r1_ok (a1 : Int) {r : Unit} (h : (f23r1 a1) = some r) : CallS Try.prog true 23 [(.pl (.int .i64 a1))] [] (.own 0) [some (.row false 2 ([(VariationPrice.mk str_p a1)].map VariationPrice.cells))] := by
  unfold f23r1 at h
  obtain ⟨o, ho, h⟩ := bind_cases h
  cases o with
  | ret =>
    obtain rfl := some_inj h
    exact CallS.shared cfg_ok (f := Try.f23) (c := c23) (by kernel_rfl) (by kernel_rfl) (by kernel_rfl) ((f23r1n0_ok a1 ho).mono fun r e => by subst e; exact ⟨.inl rfl, by kernel_rfl, by kernel_rfl⟩)
/-! ### novation/variation.priced -/
noncomputable def c35 : Code := Try.f35.body.getD .skip
inductive f35n2O where
  | exit0
  | ret
def f35n2E (bh1 : List VariationPrice) : f35n2O → Ex × Tr × Hp
  | .exit0 => ((.exit 0), mkS [(0, (.pl (.sl .any 2 (bh1.map VariationPrice.cells))))], [])
  | .ret => (.ret, mkS [(2, (.pl (.bool false)))], [])
def f35n2S (bh1 : List VariationPrice) (v59 : Int) : Tr × Hp := (mkS [(0, (.pl (.sl .any 2 (bh1.map VariationPrice.cells)))), (5, (.pl (.sl .any 2 (bh1.map VariationPrice.cells)))), (6, (.pl (.int .i64 (bh1.length : Int)))), (7, (.pl (.int .i64 v59)))], [])
noncomputable def f35n2 : Nat → List VariationPrice → Int → Option f35n2O
  | 0, _, _ => none
  | f + 1, bh1, v59 =>
    bif (decide (v59 < (bh1.length : Int))) then
      (at? bh1 v59).bind fun x80 =>
      bif (decide (0 < v59)) then
        (at? bh1 (wr64 (v59 - 1))).bind fun x83 =>
        bif (slt x83.Product x80.Product) then
          (f45 x80.Product).bind fun x86 =>
          bif x86 then
            (f37 x80.Price 536870912).bind fun x89 =>
            bif x89 then
              (f35n2 f bh1 (wr64 (v59 + 1)))
            else
              some .ret
          else
            some .ret
        else
          some .ret
      else
        (f45 x80.Product).bind fun x92 =>
        bif x92 then
          (f37 x80.Price 536870912).bind fun x95 =>
          bif x95 then
            (f35n2 f bh1 (wr64 (v59 + 1)))
          else
            some .ret
        else
          some .ret
    else
      some .exit0
theorem f35n2_ok : ∀ (f : Nat) (bh1 : List VariationPrice) (v59 : Int) {o : f35n2O}, (f35n2 f bh1 v59) = some o → TL Try.prog Try.f35.ntmps 0 f (cL (cL (dropC 1 (cL (dropC 1 c35))))) (f35n2S bh1 v59) (fun r => r = f35n2E bh1 o)
  | 0, _, _, o, h => by rw [f35n2] at h; cases h
  | f + 1, bh1, v59, o, h => by
    rw [f35n2] at h
    refine TL.body (K := fun s => ∃ v59 : Int, s = (f35n2S bh1 v59) ∧ (f35n2 f bh1 v59) = some o) ?_ (by rintro _ ⟨v59, rfl, hk⟩; exact f35n2_ok f _ _ hk)
    rcases cond_cases h with ⟨h61, h⟩ | ⟨h61, h⟩
    · obtain ⟨x80, h81, h⟩ := bind_cases h
      rcases cond_cases h with ⟨h82, h⟩ | ⟨h82, h⟩
      · obtain ⟨x83, h84, h⟩ := bind_cases h
        rcases cond_cases h with ⟨h85, h⟩ | ⟨h85, h⟩
        · obtain ⟨x86, h87, h⟩ := bind_cases h
          rcases cond_cases h with ⟨h88, h⟩ | ⟨h88, h⟩
          · obtain ⟨x89, h90, h⟩ := bind_cases h
            rcases cond_cases h with ⟨h91, h⟩ | ⟨h91, h⟩
            · exact run_end cfg_ok (rs := [([], [], []), ([], [(1, .idx (Int.toNat v59) (VariationPrice.cells x80))], []), ([(3, true), (4, true), (5, true), (6, true), (7, true), (8, true), (9, true), (10, true), (11, true), (14, false), (15, false), (16, false), (17, false), (20, false), (21, false), (22, false), (23, false)], [(6, .idx (Int.toNat (wr64 (v59 - 1))) (VariationPrice.cells x83)), (12, .bool true), (16, .call (.pl (.bool x86)) []), (18, .bool false), (22, .call (.pl (.bool x89)) []), (24, .bool false)], []), ([], [], [])]) (ps := [some true, some false]) (tds := []) (m := []) (keep := [0, 5, 6, 7]) (r := (.norm, (f35n2S bh1 (wr64 (v59 + 1))))) (by kernel_rfl) (ap h61 (ap (at_some h81).1 (ap (at_map VariationPrice.cells (at_some h81).2) (ap h82 (ap h82 (ap h82 (ap h82 (ap (at_some h84).1 (ap (at_map VariationPrice.cells (at_some h84).2) (ap h82 (ap h82 (ap h82 (ap h82 (ap h82 (ap h82 (ap (not_t h85) (ap (not_t h85) (ap (not_t h85) (ap (not_t h85) (ap (not_t h85) (ap (not_t h88) (ap (not_t h88) (ap (not_t h88) (ap (not_t h88) (ap (not_t h88) (ap (f45_ok x80.Product h87) (ap (f37_ok x80.Price 536870912 h90) (ap (not_t h91) an)))))))))))))))))))))))))))) (LoopQ.norm ⟨(wr64 (v59 + 1)), rfl, h⟩)
            · obtain rfl := some_inj h
              exact runK_end cfg_ok (k := 3) (rs := [([], [], []), ([], [(1, .idx (Int.toNat v59) (VariationPrice.cells x80))], []), ([(3, true), (4, true), (5, true), (6, true), (7, true), (8, true), (9, true), (10, true), (11, true), (14, false), (15, false), (16, false), (17, false), (20, false), (21, false), (22, false), (23, false)], [(6, .idx (Int.toNat (wr64 (v59 - 1))) (VariationPrice.cells x83)), (12, .bool true), (16, .call (.pl (.bool x86)) []), (18, .bool false), (22, .call (.pl (.bool x89)) []), (24, .bool false)], []), ([], [], [])]) (ps := [some true, some true]) (tds := []) (m := []) (keep := [2]) (ex := .ret) (st' := (f35n2E bh1 .ret).2) (by kernel_rfl) (ap h61 (ap (at_some h81).1 (ap (at_map VariationPrice.cells (at_some h81).2) (ap h82 (ap h82 (ap h82 (ap h82 (ap (at_some h84).1 (ap (at_map VariationPrice.cells (at_some h84).2) (ap h82 (ap h82 (ap h82 (ap h82 (ap h82 (ap h82 (ap (not_t h85) (ap (not_t h85) (ap (not_t h85) (ap (not_t h85) (ap (not_t h85) (ap (not_t h88) (ap (not_t h88) (ap (not_t h88) (ap (not_t h88) (ap (not_t h88) (ap (f45_ok x80.Product h87) (ap (f37_ok x80.Price 536870912 h90) (ap (not_f h91) an)))))))))))))))))))))))))))) (fun h => nomatch h) (LoopQ.out rfl rfl)
          · obtain rfl := some_inj h
            exact runK_end cfg_ok (k := 3) (rs := [([], [], []), ([], [(1, .idx (Int.toNat v59) (VariationPrice.cells x80))], []), ([(3, true), (4, true), (5, true), (6, true), (7, true), (8, true), (9, true), (10, true), (11, true), (14, false), (15, false), (16, false), (17, false), (20, true), (21, true), (22, true), (23, true)], [(6, .idx (Int.toNat (wr64 (v59 - 1))) (VariationPrice.cells x83)), (12, .bool true), (16, .call (.pl (.bool x86)) []), (18, .bool false), (24, .bool true)], []), ([], [], [])]) (ps := [some true, none]) (tds := []) (m := []) (keep := [2]) (ex := .ret) (st' := (f35n2E bh1 .ret).2) (by kernel_rfl) (ap h61 (ap (at_some h81).1 (ap (at_map VariationPrice.cells (at_some h81).2) (ap h82 (ap h82 (ap h82 (ap h82 (ap (at_some h84).1 (ap (at_map VariationPrice.cells (at_some h84).2) (ap h82 (ap h82 (ap h82 (ap h82 (ap h82 (ap h82 (ap (not_t h85) (ap (not_t h85) (ap (not_t h85) (ap (not_t h85) (ap (not_t h85) (ap (not_f h88) (ap (not_f h88) (ap (not_f h88) (ap (not_f h88) (ap (not_f h88) (ap (f45_ok x80.Product h87) an)))))))))))))))))))))))))) (fun h => nomatch h) (LoopQ.out rfl rfl)
        · obtain rfl := some_inj h
          exact runK_end cfg_ok (k := 3) (rs := [([], [], []), ([], [(1, .idx (Int.toNat v59) (VariationPrice.cells x80))], []), ([(3, true), (4, true), (5, true), (6, true), (7, true), (8, true), (9, true), (10, true), (11, true), (14, true), (15, true), (16, true), (17, true)], [(6, .idx (Int.toNat (wr64 (v59 - 1))) (VariationPrice.cells x83)), (12, .bool true), (18, .bool true)], []), ([], [], [])]) (ps := [some true, none]) (tds := []) (m := []) (keep := [2]) (ex := .ret) (st' := (f35n2E bh1 .ret).2) (by kernel_rfl) (ap h61 (ap (at_some h81).1 (ap (at_map VariationPrice.cells (at_some h81).2) (ap h82 (ap h82 (ap h82 (ap h82 (ap (at_some h84).1 (ap (at_map VariationPrice.cells (at_some h84).2) (ap h82 (ap h82 (ap h82 (ap h82 (ap h82 (ap h82 (ap (not_f h85) (ap (not_f h85) (ap (not_f h85) (ap (not_f h85) (ap (not_f h85) an)))))))))))))))))))) (fun h => nomatch h) (LoopQ.out rfl rfl)
      · obtain ⟨x92, h93, h⟩ := bind_cases h
        rcases cond_cases h with ⟨h94, h⟩ | ⟨h94, h⟩
        · obtain ⟨x95, h96, h⟩ := bind_cases h
          rcases cond_cases h with ⟨h97, h⟩ | ⟨h97, h⟩
          · exact run_end cfg_ok (rs := [([], [], []), ([], [(1, .idx (Int.toNat v59) (VariationPrice.cells x80))], []), ([(3, false), (4, false), (5, false), (6, false), (7, false), (8, false), (9, false), (10, false), (11, false), (20, false), (21, false), (22, false), (23, false)], [(12, .bool false), (16, .call (.pl (.bool x92)) []), (22, .call (.pl (.bool x95)) []), (24, .bool false)], []), ([], [], [])]) (ps := [some true, some false]) (tds := []) (m := []) (keep := [0, 5, 6, 7]) (r := (.norm, (f35n2S bh1 (wr64 (v59 + 1))))) (by kernel_rfl) (ap h61 (ap (at_some h81).1 (ap (at_map VariationPrice.cells (at_some h81).2) (ap h82 (ap h82 (ap h82 (ap h82 (ap h82 (ap h82 (ap h82 (ap h82 (ap h82 (ap h82 (ap (not_t h94) (ap (not_t h94) (ap (not_t h94) (ap (not_t h94) (ap (not_t h94) (ap (f45_ok x80.Product h93) (ap (f37_ok x80.Price 536870912 h96) (ap (not_t h97) an))))))))))))))))))))) (LoopQ.norm ⟨(wr64 (v59 + 1)), rfl, h⟩)
          · obtain rfl := some_inj h
            exact runK_end cfg_ok (k := 3) (rs := [([], [], []), ([], [(1, .idx (Int.toNat v59) (VariationPrice.cells x80))], []), ([(3, false), (4, false), (5, false), (6, false), (7, false), (8, false), (9, false), (10, false), (11, false), (20, false), (21, false), (22, false), (23, false)], [(12, .bool false), (16, .call (.pl (.bool x92)) []), (22, .call (.pl (.bool x95)) []), (24, .bool false)], []), ([], [], [])]) (ps := [some true, some true]) (tds := []) (m := []) (keep := [2]) (ex := .ret) (st' := (f35n2E bh1 .ret).2) (by kernel_rfl) (ap h61 (ap (at_some h81).1 (ap (at_map VariationPrice.cells (at_some h81).2) (ap h82 (ap h82 (ap h82 (ap h82 (ap h82 (ap h82 (ap h82 (ap h82 (ap h82 (ap h82 (ap (not_t h94) (ap (not_t h94) (ap (not_t h94) (ap (not_t h94) (ap (not_t h94) (ap (f45_ok x80.Product h93) (ap (f37_ok x80.Price 536870912 h96) (ap (not_f h97) an))))))))))))))))))))) (fun h => nomatch h) (LoopQ.out rfl rfl)
        · obtain rfl := some_inj h
          exact runK_end cfg_ok (k := 3) (rs := [([], [], []), ([], [(1, .idx (Int.toNat v59) (VariationPrice.cells x80))], []), ([(3, false), (4, false), (5, false), (6, false), (7, false), (8, false), (9, false), (10, false), (11, false), (20, true), (21, true), (22, true), (23, true)], [(12, .bool false), (16, .call (.pl (.bool x92)) []), (24, .bool true)], []), ([], [], [])]) (ps := [some true, none]) (tds := []) (m := []) (keep := [2]) (ex := .ret) (st' := (f35n2E bh1 .ret).2) (by kernel_rfl) (ap h61 (ap (at_some h81).1 (ap (at_map VariationPrice.cells (at_some h81).2) (ap h82 (ap h82 (ap h82 (ap h82 (ap h82 (ap h82 (ap h82 (ap h82 (ap h82 (ap h82 (ap (not_f h94) (ap (not_f h94) (ap (not_f h94) (ap (not_f h94) (ap (not_f h94) (ap (f45_ok x80.Product h93) an))))))))))))))))))) (fun h => nomatch h) (LoopQ.out rfl rfl)
    · obtain rfl := some_inj h
      exact runK_end cfg_ok (k := 2) (rs := [([], [], [])]) (ps := [some false]) (tds := []) (m := []) (keep := [0]) (ex := (.exit 0)) (st' := (f35n2E bh1 .exit0).2) (by kernel_rfl) (ap h61 an) (fun h => nomatch h) (LoopQ.out rfl rfl)
noncomputable def f35n2L (bh1 : List VariationPrice) : List VariationPrice → Int → Option f35n2O
  | [], v59 =>
    some .exit0
  | x0 :: rest, v59 =>
    bif (decide (0 < v59)) then
      (at? bh1 (wr64 (v59 - 1))).bind fun x83 =>
      bif (slt x83.Product x0.Product) then
        (f45 x0.Product).bind fun x86 =>
        bif x86 then
          (f37 x0.Price 536870912).bind fun x89 =>
          bif x89 then
            (f35n2L bh1 rest (v59 + 1))
          else
            some .ret
        else
          some .ret
      else
        some .ret
    else
      (f45 x0.Product).bind fun x92 =>
      bif x92 then
        (f37 x0.Price 536870912).bind fun x95 =>
        bif x95 then
          (f35n2L bh1 rest (v59 + 1))
        else
          some .ret
      else
        some .ret
theorem f35n2L_eq (bh1 : List VariationPrice) : ∀ (rest : List VariationPrice) (f k : Nat), bh1.drop k = rest → bh1.length ≤ maxLen → rest.length < f → f35n2 f bh1 (k : Int) = f35n2L bh1 rest (k : Int)
  | _, 0, _, _, _, hf => absurd hf (Nat.not_lt_zero _)
  | [], f + 1, k, hd, hm, hf => by
    have hk : ¬ ((k : Int) < (bh1.length : Int)) := by have := drop_nil hd; omega
    rw [f35n2, f35n2L]
    simp only [decide_eq_false hk, cond_false]
  | x0 :: rest, f + 1, k, hd, hm, hf => by
    obtain ⟨hx, hlt, hd'⟩ := drop_cons hd
    have hk : (k : Int) < (bh1.length : Int) := by omega
    have hw : wr64 ((k : Int) + 1) = (k : Int) + 1 := wr64_of (by omega) (by unfold maxLen at hm; omega)
    have ih : f35n2 f bh1 ((k : Int) + 1) = f35n2L bh1 rest ((k : Int) + 1) := f35n2L_eq bh1 rest f (k + 1) hd' hm (by simpa using hf)
    rw [f35n2, f35n2L]
    simp only [decide_eq_true hk, cond_true, at_nat, hx, Option.bind_some, hw, ih]
theorem f35n2_run (bh1 : List VariationPrice) (hm : bh1.length ≤ maxLen) : f35n2 FUEL bh1 0 = f35n2L bh1 bh1 0 := f35n2L_eq bh1 bh1 FUEL 0 List.drop_zero hm (lt_FUEL hm)
inductive f35n1O where
  | norm
  | ret
def f35n1E (bh1 : List VariationPrice) : f35n1O → Ex × Tr × Hp
  | .norm => (.norm, mkS [(0, (.pl (.sl .any 2 (bh1.map VariationPrice.cells))))], [])
  | .ret => (.ret, mkS [(2, (.pl (.bool false)))], [])
def f35n1S (bh1 : List VariationPrice) : Tr × Hp := (mkS [(0, (.pl (.sl .any 2 (bh1.map VariationPrice.cells))))], [])
noncomputable def f35n1 (bh1 : List VariationPrice) : Option f35n1O :=
  (f35n2 FUEL bh1 0).bind fun o98 => match o98 with
  | .exit0 => some .norm
  | .ret => some .ret
theorem f35n1_ok (bh1 : List VariationPrice) {o : f35n1O} (h : (f35n1 bh1) = some o) : T Try.prog Try.f35.ntmps 0 (cL (dropC 1 c35)) (f35n1S bh1) (fun r => r = f35n1E bh1 o) := by
  unfold f35n1 at h
  refine runK_norm cfg_ok (k := 1) (rs := [([], [], [(1, .val (.pl (.int .i64 (bh1.length : Int))))])]) (ps := []) (tds := []) (m := []) (keep := [0, 5, 6, 7]) (st' := (f35n2S bh1 0)) (by kernel_rfl) (ap (len_cv (xs := bh1) (c := VariationPrice.cells)) an) ?_
  obtain ⟨o98, h99, h⟩ := bind_cases h
  cases o98 with
  | exit0 =>
    obtain rfl := some_inj h
    exact T.last' (T.bl (i := 0) (by kernel_rfl) (by kernel_rfl) (f35n2_ok FUEL bh1 0 h99)) (tds := []) (m := []) (keep := [0]) (st2 := (f35n1E bh1 .norm).2) (by kernel_rfl) an rfl
  | ret =>
    obtain rfl := some_inj h
    exact T.last' (T.bl (i := 0) (by kernel_rfl) (by kernel_rfl) (f35n2_ok FUEL bh1 0 h99)) (tds := []) (m := []) (keep := [2]) (st2 := (f35n1E bh1 .ret).2) (by kernel_rfl) an rfl
inductive f35n0O where
  | ret (v102 : Bool)
def f35n0E (a1 : List VariationPrice) : f35n0O → Ex × Tr × Hp
  | .ret v102 => (.ret, mkS [(2, (.pl (.bool v102)))], [])
def f35n0S (a1 : List VariationPrice) : Tr × Hp := (initS [(.pl (.sl .any 2 (a1.map VariationPrice.cells)))] 0 .leaf, [])
noncomputable def f35n0 (a1 : List VariationPrice) : Option f35n0O :=
  (f35n1 a1).bind fun o100 => match o100 with
  | .norm => some (.ret (decide ((a1.length : Int) ≤ 200)))
  | .ret => some (.ret false)
theorem f35n0_ok (a1 : List VariationPrice) {o : f35n0O} (h : (f35n0 a1) = some o) : T Try.prog Try.f35.ntmps 0 c35 (f35n0S a1) (fun r => r = f35n0E a1 o) := by
  unfold f35n0 at h
  refine runK_norm cfg_ok (k := 1) (rs := [([], [], [])]) (ps := []) (tds := []) (m := []) (keep := [0]) (st' := (f35n1S a1)) (by kernel_rfl) an ?_
  obtain ⟨o100, h101, h⟩ := bind_cases h
  cases o100 with
  | norm =>
    refine T.oneN (by kernel_rfl) (f35n1_ok a1 h101) (st2 := (f35n1E a1 .norm).2) rfl ?_
    obtain rfl := some_inj h
    exact run_end cfg_ok (rs := [([], [], [(1, .val (.pl (.int .i64 (a1.length : Int))))])]) (ps := []) (tds := []) (m := []) (keep := [2]) (r := (.ret, (f35n0E a1 (.ret (decide ((a1.length : Int) ≤ 200)))).2)) (by kernel_rfl) (ap (len_cv (xs := a1) (c := VariationPrice.cells)) an) rfl
  | ret =>
    obtain rfl := some_inj h
    exact T.oneX' (by kernel_rfl) (f35n1_ok a1 h101) (tds := []) (m := []) (keep := [2]) (st2 := (f35n0E a1 (.ret false)).2) (by kernel_rfl) an rfl rfl
noncomputable def f35 (a1 : List VariationPrice) : Option Bool := (f35n0 a1).bind fun o => match o with
  | .ret v102 => some v102
theorem f35_ok (a1 : List VariationPrice) {r : Bool} (h : (f35 a1) = some r) : CallS Try.prog false 35 [(.pl (.sl .any 2 (a1.map VariationPrice.cells)))] [] (.pl (.bool r)) [] := by
  unfold f35 at h
  obtain ⟨o, ho, h⟩ := bind_cases h
  cases o with
  | ret v102 =>
    obtain rfl := some_inj h
    exact CallS.plain cfg_ok (f := Try.f35) (c := c35) (by kernel_rfl) (by kernel_rfl) (by kernel_rfl) (by kernel_rfl) ((f35n0_ok a1 ho).mono fun r e => by subst e; exact ⟨.inl rfl, (.pl (.bool v102)), (.pl (.bool v102)), by kernel_rfl, by kernel_rfl, ((Wk.refl _) : Wk (.pl (.bool v102)) (.pl (.bool v102)))⟩)
/-! ### novation/variation.value$1 -/
noncomputable def c58 : Code := Try.f58.body.getD .skip
inductive f58n0O where
  | ret (v7 : Int)
def f58n0E (a1 : VariationPrice) (a2 : ByteArray) : f58n0O → Ex × Tr × Hp
  | .ret v7 => (.ret, mkS [(4, (.pl (.int .i64 v7)))], [])
def f58n0S (a1 : VariationPrice) (a2 : ByteArray) : Tr × Hp := (initS [(.pl (.agg (VariationPrice.cells a1))), (.pl (.str a2))] 0 .leaf, [])
noncomputable def f58n0 (a1 : VariationPrice) (a2 : ByteArray) : Option f58n0O :=
  (f40 a1.Product a2).bind fun x5 =>
  some (.ret x5)
theorem f58n0_ok (a1 : VariationPrice) (a2 : ByteArray) {o : f58n0O} (h : (f58n0 a1 a2) = some o) : T Try.prog Try.f58.ntmps 0 c58 (f58n0S a1 a2) (fun r => r = f58n0E a1 a2 o) := by
  unfold f58n0 at h
  obtain ⟨x5, h6, h⟩ := bind_cases h
  obtain rfl := some_inj h
  exact run_end cfg_ok (rs := [([], [], []), ([], [(3, .call (.pl (.int .i64 x5)) [])], [])]) (ps := []) (tds := []) (m := []) (keep := [4]) (r := (.ret, (f58n0E a1 a2 (.ret x5)).2)) (by kernel_rfl) (ap (f40_ok a1.Product a2 h6) an) rfl
noncomputable def f58 (a1 : VariationPrice) (a2 : ByteArray) : Option Int := (f58n0 a1 a2).bind fun o => match o with
  | .ret v7 => some v7
theorem f58_ok (a1 : VariationPrice) (a2 : ByteArray) {r : Int} (h : (f58 a1 a2) = some r) : CallS Try.prog false 58 [(.pl (.agg (VariationPrice.cells a1))), (.pl (.str a2))] [] (.pl (.int .i64 r)) [] := by
  unfold f58 at h
  obtain ⟨o, ho, h⟩ := bind_cases h
  cases o with
  | ret v7 =>
    obtain rfl := some_inj h
    exact CallS.plain cfg_ok (f := Try.f58) (c := c58) (by kernel_rfl) (by kernel_rfl) (by kernel_rfl) (by kernel_rfl) ((f58n0_ok a1 a2 ho).mono fun r e => by subst e; exact ⟨.inl rfl, (.pl (.int .i64 v7)), (.pl (.int .i64 v7)), by kernel_rfl, by kernel_rfl, ((Wk.refl _) : Wk (.pl (.int .i64 v7)) (.pl (.int .i64 v7)))⟩)
/-! ### slices.BinarySearchFunc[[]novation/api.VariationPrice,novation/api.VariationPrice,string] -/
noncomputable def c57 : Code := Try.f57.body.getD .skip
inductive f57_58n1O where
  | exit0 (v43 : Int)
def f57_58n1E (a1 : List VariationPrice) (a2 : ByteArray) : f57_58n1O → Ex × Tr × Hp
  | .exit0 v43 => ((.exit 0), mkS [(0, (.pl (.sl .any 2 (a1.map VariationPrice.cells)))), (1, (.pl (.str a2))), (2, (.pl (.fn 58))), (8, (.pl (.int .i64 (a1.length : Int)))), (9, (.pl (.int .i64 v43)))], [])
def f57_58n1S (a1 : List VariationPrice) (a2 : ByteArray) (v29 : Int) (v30 : Int) : Tr × Hp := (mkS [(0, (.pl (.sl .any 2 (a1.map VariationPrice.cells)))), (1, (.pl (.str a2))), (2, (.pl (.fn 58))), (8, (.pl (.int .i64 (a1.length : Int)))), (9, (.pl (.int .i64 v29))), (10, (.pl (.int .i64 v30)))], [])
noncomputable def f57_58n1 : Nat → List VariationPrice → ByteArray → Int → Int → Option f57_58n1O
  | 0, _, _, _, _ => none
  | f + 1, a1, a2, v29, v30 =>
    bif (decide (v29 < v30)) then
      (at? a1 (wr64 (shrK .u64 (wru64 (wr64 (v29 + v30))) 1))).bind fun x38 =>
      (f58 x38 a2).bind fun x40 =>
      bif (decide (x40 < 0)) then
        (f57_58n1 f a1 a2 (wr64 ((wr64 (shrK .u64 (wru64 (wr64 (v29 + v30))) 1)) + 1)) v30)
      else
        (f57_58n1 f a1 a2 v29 (wr64 (shrK .u64 (wru64 (wr64 (v29 + v30))) 1)))
    else
      some (.exit0 v29)
theorem f57_58n1_ok : ∀ (f : Nat) (a1 : List VariationPrice) (a2 : ByteArray) (v29 : Int) (v30 : Int) {o : f57_58n1O}, (f57_58n1 f a1 a2 v29 v30) = some o → TL Try.prog Try.f57.ntmps 0 f (cL (cL (cL (dropC 3 c57)))) (f57_58n1S a1 a2 v29 v30) (fun r => r = f57_58n1E a1 a2 o)
  | 0, _, _, _, _, o, h => by rw [f57_58n1] at h; cases h
  | f + 1, a1, a2, v29, v30, o, h => by
    rw [f57_58n1] at h
    refine TL.body (K := fun s => ∃ v29 : Int, ∃ v30 : Int, s = (f57_58n1S a1 a2 v29 v30) ∧ (f57_58n1 f a1 a2 v29 v30) = some o) ?_ (by rintro _ ⟨v29, v30, rfl, hk⟩; exact f57_58n1_ok f _ _ _ _ hk)
    rcases cond_cases h with ⟨h32, h⟩ | ⟨h32, h⟩
    · obtain ⟨x38, h39, h⟩ := bind_cases h
      obtain ⟨x40, h41, h⟩ := bind_cases h
      rcases cond_cases h with ⟨h42, h⟩ | ⟨h42, h⟩
      · exact run_end cfg_ok (rs := [([], [], []), ([], [], []), ([], [(3, .idx (Int.toNat (wr64 (shrK .u64 (wru64 (wr64 (v29 + v30))) 1))) (VariationPrice.cells x38)), (6, .call (.pl (.int .i64 x40)) [])], []), ([], [], [])]) (ps := [some true, some true]) (tds := []) (m := []) (keep := [0, 1, 2, 8, 9, 10]) (r := (.norm, (f57_58n1S a1 a2 (wr64 ((wr64 (shrK .u64 (wru64 (wr64 (v29 + v30))) 1)) + 1)) v30))) (by kernel_rfl) (ap h32 (ap (at_some h39).1 (ap (at_map VariationPrice.cells (at_some h39).2) (ap (f58_ok x38 a2 h41) (ap h42 an))))) (LoopQ.norm ⟨(wr64 ((wr64 (shrK .u64 (wru64 (wr64 (v29 + v30))) 1)) + 1)), v30, rfl, h⟩)
      · exact run_end cfg_ok (rs := [([], [], []), ([], [], []), ([], [(3, .idx (Int.toNat (wr64 (shrK .u64 (wru64 (wr64 (v29 + v30))) 1))) (VariationPrice.cells x38)), (6, .call (.pl (.int .i64 x40)) [])], []), ([], [], [])]) (ps := [some true, some false]) (tds := []) (m := []) (keep := [0, 1, 2, 8, 9, 10]) (r := (.norm, (f57_58n1S a1 a2 v29 (wr64 (shrK .u64 (wru64 (wr64 (v29 + v30))) 1))))) (by kernel_rfl) (ap h32 (ap (at_some h39).1 (ap (at_map VariationPrice.cells (at_some h39).2) (ap (f58_ok x38 a2 h41) (ap h42 an))))) (LoopQ.norm ⟨v29, (wr64 (shrK .u64 (wru64 (wr64 (v29 + v30))) 1)), rfl, h⟩)
    · obtain rfl := some_inj h
      exact runK_end cfg_ok (k := 1) (rs := [([], [], [])]) (ps := [some false]) (tds := []) (m := []) (keep := [0, 1, 2, 8, 9]) (ex := (.exit 0)) (st' := (f57_58n1E a1 a2 (.exit0 v29)).2) (by kernel_rfl) (ap h32 an) (fun h => nomatch h) (LoopQ.out rfl rfl)
inductive f57_58n0O where
  | ret (v57 : Int) (v58 : Bool)
def f57_58n0E (a1 : List VariationPrice) (a2 : ByteArray) : f57_58n0O → Ex × Tr × Hp
  | .ret v57 v58 => (.ret, mkS [(6, (.pl (.int .i64 v57))), (7, (.pl (.bool v58)))], [])
def f57_58n0S (a1 : List VariationPrice) (a2 : ByteArray) : Tr × Hp := (initS [(.pl (.sl .any 2 (a1.map VariationPrice.cells))), (.pl (.str a2)), (.pl (.fn 58))] 0 .leaf, [])
noncomputable def f57_58n0 (a1 : List VariationPrice) (a2 : ByteArray) : Option f57_58n0O :=
  (f57_58n1 FUEL a1 a2 0 (a1.length : Int)).bind fun o44 => match o44 with
  | .exit0 v46 => bif (decide (v46 < (a1.length : Int))) then
      (at? a1 v46).bind fun x53 =>
      (f58 x53 a2).bind fun x55 =>
      some (.ret v46 (decide (x55 = 0)))
    else
      some (.ret v46 false)
theorem f57_58n0_ok (a1 : List VariationPrice) (a2 : ByteArray) {o : f57_58n0O} (h : (f57_58n0 a1 a2) = some o) : T Try.prog Try.f57.ntmps 0 c57 (f57_58n0S a1 a2) (fun r => r = f57_58n0E a1 a2 o) := by
  unfold f57_58n0 at h
  refine runK_norm cfg_ok (k := 3) (rs := [([], [], []), ([], [], [(1, .val (.pl (.int .i64 (a1.length : Int))))]), ([], [], [])]) (ps := []) (tds := []) (m := []) (keep := [0, 1, 2, 8, 9, 10]) (st' := (f57_58n1S a1 a2 0 (a1.length : Int))) (by kernel_rfl) (ap (len_cv (xs := a1) (c := VariationPrice.cells)) an) ?_
  obtain ⟨o44, h45, h⟩ := bind_cases h
  cases o44 with
  | exit0 v46 =>
    refine T.oneN (by kernel_rfl) (T.bl (i := 0) (by kernel_rfl) (by kernel_rfl) (f57_58n1_ok FUEL a1 a2 0 (a1.length : Int) h45)) (st2 := (f57_58n1E a1 a2 (.exit0 v46)).2) rfl ?_
    rcases cond_cases h with ⟨h52, h⟩ | ⟨h52, h⟩
    · obtain ⟨x53, h54, h⟩ := bind_cases h
      obtain ⟨x55, h56, h⟩ := bind_cases h
      obtain rfl := some_inj h
      exact run_end cfg_ok (rs := [([(5, true), (6, true), (7, true), (8, true), (9, true), (10, true), (11, true), (12, true)], [(8, .idx (Int.toNat v46) (VariationPrice.cells x53)), (11, .call (.pl (.int .i64 x55)) []), (13, .bool true)], [])]) (ps := []) (tds := []) (m := []) (keep := [6, 7]) (r := (.ret, (f57_58n0E a1 a2 (.ret v46 (decide (x55 = 0)))).2)) (by kernel_rfl) (ap h52 (ap h52 (ap h52 (ap h52 (ap (at_some h54).1 (ap (at_map VariationPrice.cells (at_some h54).2) (ap h52 (ap h52 (ap h52 (ap h52 (ap h52 (ap (f58_ok x53 a2 h56) an)))))))))))) rfl
    · obtain rfl := some_inj h
      exact run_end cfg_ok (rs := [([(5, false), (6, false), (7, false), (8, false), (9, false), (10, false), (11, false), (12, false)], [(13, .bool false)], [])]) (ps := []) (tds := []) (m := []) (keep := [6, 7]) (r := (.ret, (f57_58n0E a1 a2 (.ret v46 false)).2)) (by kernel_rfl) (ap h52 (ap h52 (ap h52 (ap h52 (ap h52 (ap h52 (ap h52 (ap h52 (ap h52 an))))))))) rfl
noncomputable def f57_58 (a1 : List VariationPrice) (a2 : ByteArray) : Option (Int × Bool) := (f57_58n0 a1 a2).bind fun o => match o with
  | .ret v57 v58 => some (v57, v58)
theorem f57_58_ok (a1 : List VariationPrice) (a2 : ByteArray) {r : Int × Bool} (h : (f57_58 a1 a2) = some r) : CallS Try.prog false 57 [(.pl (.sl .any 2 (a1.map VariationPrice.cells))), (.pl (.str a2)), (.pl (.fn 58))] [] (.tup [(.pl (.int .i64 r.1)), (.pl (.bool r.2))]) [] := by
  unfold f57_58 at h
  obtain ⟨o, ho, h⟩ := bind_cases h
  cases o with
  | ret v57 v58 =>
    obtain rfl := some_inj h
    exact CallS.plain cfg_ok (f := Try.f57) (c := c57) (by kernel_rfl) (by kernel_rfl) (by kernel_rfl) (by kernel_rfl) ((f57_58n0_ok a1 a2 ho).mono fun r e => by subst e; exact ⟨.inl rfl, (.tup [(.pl (.int .i64 v57)), (.pl (.bool v58))]), (.tup [(.pl (.int .i64 v57)), (.pl (.bool v58))]), by kernel_rfl, by kernel_rfl, ((Wk.refl _) : Wk (.tup [(.pl (.int .i64 v57)), (.pl (.bool v58))]) (.tup [(.pl (.int .i64 v57)), (.pl (.bool v58))]))⟩)
/-! ### novation/variation.value -/
noncomputable def c36 : Code := Try.f36.body.getD .skip
inductive f36n0O where
  | ret (v15 : Int) (v16 : Bool)
def f36n0E (a1 : VariationPosition) (a2 : List VariationPrice) : f36n0O → Ex × Tr × Hp
  | .ret v15 v16 => (.ret, mkS [(4, (.pl (.int .i64 v15))), (5, (.pl (.bool v16)))], [])
def f36n0S (a1 : VariationPosition) (a2 : List VariationPrice) : Tr × Hp := (initS [(.pl (.agg (VariationPosition.cells a1))), (.pl (.sl .any 2 (a2.map VariationPrice.cells)))] 0 .leaf, [])
noncomputable def f36n0 (a1 : VariationPosition) (a2 : List VariationPrice) : Option f36n0O :=
  bif (decide (a1.Quantity = 0)) then
    some (.ret 0 true)
  else
    (f57_58 a2 a1.Product).bind fun x7 =>
    bif x7.2 then
      (at? a2 x7.1).bind fun x13 =>
      some (.ret (wr64 (a1.Quantity * x13.Price)) true)
    else
      some (.ret 0 false)
theorem f36n0_ok (a1 : VariationPosition) (a2 : List VariationPrice) {o : f36n0O} (h : (f36n0 a1 a2) = some o) : T Try.prog Try.f36.ntmps 0 c36 (f36n0S a1 a2) (fun r => r = f36n0E a1 a2 o) := by
  unfold f36n0 at h
  rcases cond_cases h with ⟨h4, h⟩ | ⟨h4, h⟩
  · obtain rfl := some_inj h
    exact runK_end cfg_ok (k := 2) (rs := [([], [], []), ([], [], []), ([], [], [])]) (ps := [some true]) (tds := []) (m := []) (keep := [4, 5]) (ex := .ret) (st' := (f36n0E a1 a2 (.ret 0 true)).2) (by kernel_rfl) (ap h4 an) (fun h => nomatch h) rfl
  · obtain ⟨x7, h8, h⟩ := bind_cases h
    rcases cond_cases h with ⟨h10, h⟩ | ⟨h10, h⟩
    · obtain ⟨x13, h14, h⟩ := bind_cases h
      obtain rfl := some_inj h
      exact run_end cfg_ok (rs := [([], [], []), ([], [], []), ([], [(3, .call (.tup [(.pl (.int .i64 x7.1)), (.pl (.bool x7.2))]) [])], []), ([], [], []), ([], [(4, .idx (Int.toNat x7.1) (VariationPrice.cells x13))], [])]) (ps := [some false, some false]) (tds := []) (m := []) (keep := [4, 5]) (r := (.ret, (f36n0E a1 a2 (.ret (wr64 (a1.Quantity * x13.Price)) true)).2)) (by kernel_rfl) (ap h4 (ap (f57_58_ok a2 a1.Product h8) (ap (not_t h10) (ap (at_some h14).1 (ap (at_map VariationPrice.cells (at_some h14).2) an))))) rfl
    · obtain rfl := some_inj h
      exact runK_end cfg_ok (k := 4) (rs := [([], [], []), ([], [], []), ([], [(3, .call (.tup [(.pl (.int .i64 x7.1)), (.pl (.bool x7.2))]) [])], []), ([], [], []), ([], [], [])]) (ps := [some false, some true]) (tds := []) (m := []) (keep := [4, 5]) (ex := .ret) (st' := (f36n0E a1 a2 (.ret 0 false)).2) (by kernel_rfl) (ap h4 (ap (f57_58_ok a2 a1.Product h8) (ap (not_f h10) an))) (fun h => nomatch h) rfl
noncomputable def f36 (a1 : VariationPosition) (a2 : List VariationPrice) : Option (Int × Bool) := (f36n0 a1 a2).bind fun o => match o with
  | .ret v15 v16 => some (v15, v16)
theorem f36_ok (a1 : VariationPosition) (a2 : List VariationPrice) {r : Int × Bool} (h : (f36 a1 a2) = some r) : CallS Try.prog false 36 [(.pl (.agg (VariationPosition.cells a1))), (.pl (.sl .any 2 (a2.map VariationPrice.cells)))] [] (.tup [(.pl (.int .i64 r.1)), (.pl (.bool r.2))]) [] := by
  unfold f36 at h
  obtain ⟨o, ho, h⟩ := bind_cases h
  cases o with
  | ret v15 v16 =>
    obtain rfl := some_inj h
    exact CallS.plain cfg_ok (f := Try.f36) (c := c36) (by kernel_rfl) (by kernel_rfl) (by kernel_rfl) (by kernel_rfl) ((f36n0_ok a1 a2 ho).mono fun r e => by subst e; exact ⟨.inl rfl, (.tup [(.pl (.int .i64 v15)), (.pl (.bool v16))]), (.tup [(.pl (.int .i64 v15)), (.pl (.bool v16))]), by kernel_rfl, by kernel_rfl, ((Wk.refl _) : Wk (.tup [(.pl (.int .i64 v15)), (.pl (.bool v16))]) (.tup [(.pl (.int .i64 v15)), (.pl (.bool v16))]))⟩)
/-! ### novation/variation.Settle$1 -/
noncomputable def c39 : Code := Try.f39.body.getD .skip
inductive f39n0O where
  | ret (v7 : Int)
def f39n0E (a1 : VariationPayment) (a2 : VariationPayment) : f39n0O → Ex × Tr × Hp
  | .ret v7 => (.ret, mkS [(4, (.pl (.int .i64 v7)))], [])
def f39n0S (a1 : VariationPayment) (a2 : VariationPayment) : Tr × Hp := (initS [(.pl (.agg (VariationPayment.cells a1))), (.pl (.agg (VariationPayment.cells a2)))] 0 .leaf, [])
noncomputable def f39n0 (a1 : VariationPayment) (a2 : VariationPayment) : Option f39n0O :=
  (f40 a1.Member a2.Member).bind fun x5 =>
  some (.ret x5)
theorem f39n0_ok (a1 : VariationPayment) (a2 : VariationPayment) {o : f39n0O} (h : (f39n0 a1 a2) = some o) : T Try.prog Try.f39.ntmps 0 c39 (f39n0S a1 a2) (fun r => r = f39n0E a1 a2 o) := by
  unfold f39n0 at h
  obtain ⟨x5, h6, h⟩ := bind_cases h
  obtain rfl := some_inj h
  exact run_end cfg_ok (rs := [([], [], []), ([], [(4, .call (.pl (.int .i64 x5)) [])], [])]) (ps := []) (tds := []) (m := []) (keep := [4]) (r := (.ret, (f39n0E a1 a2 (.ret x5)).2)) (by kernel_rfl) (ap (f40_ok a1.Member a2.Member h6) an) rfl
noncomputable def f39 (a1 : VariationPayment) (a2 : VariationPayment) : Option Int := (f39n0 a1 a2).bind fun o => match o with
  | .ret v7 => some v7
theorem f39_ok (a1 : VariationPayment) (a2 : VariationPayment) {r : Int} (h : (f39 a1 a2) = some r) : CallS Try.prog false 39 [(.pl (.agg (VariationPayment.cells a1))), (.pl (.agg (VariationPayment.cells a2)))] [] (.pl (.int .i64 r)) [] := by
  unfold f39 at h
  obtain ⟨o, ho, h⟩ := bind_cases h
  cases o with
  | ret v7 =>
    obtain rfl := some_inj h
    exact CallS.plain cfg_ok (f := Try.f39) (c := c39) (by kernel_rfl) (by kernel_rfl) (by kernel_rfl) (by kernel_rfl) ((f39n0_ok a1 a2 ho).mono fun r e => by subst e; exact ⟨.inl rfl, (.pl (.int .i64 v7)), (.pl (.int .i64 v7)), by kernel_rfl, by kernel_rfl, ((Wk.refl _) : Wk (.pl (.int .i64 v7)) (.pl (.int .i64 v7)))⟩)
/-! ### slices.SortFunc[[]novation/api.VariationPayment,novation/api.VariationPayment] -/
instance : Inhabited VariationPayment := ⟨by constructor <;> exact default⟩
theorem f61_val (a : ByteArray) : f61 a = some false := by
  unfold f61 f61n0
  simp [seq_refl]
theorem f40_val (a b : ByteArray) : f40 a b = some (cmpB a b) := by
  unfold f40 f40n0 cmpB
  rw [f61_val, f61_val]
  simp only [Option.bind_some, cond_false]
  cases slt a b <;> cases seq a b <;> rfl
theorem f39_val (x y : VariationPayment) : f39 x y = some (cmpB x.Member y.Member) := by
  unfold f39 f39n0
  rw [f40_val]
  rfl
def so38_39 (xs : List VariationPayment) : Option (List VariationPayment) := bif decide (xs.length < 4611686018427387904) && nodupK (fun x => x.Member) xs then some (isort (fun x => x.Member) xs) else none
theorem so38_39_ok (xs : List VariationPayment) {r : List VariationPayment} (h : so38_39 xs = some r) :
    CallS Try.prog true 38 [.own 0, .pl (.fn 39)] [some (.row false 2 (xs.map VariationPayment.cells))] (.tup []) [some (.row false 2 (r.map VariationPayment.cells))] := by
  unfold so38_39 at h
  cases hc : (decide (xs.length < 4611686018427387904) && nodupK (fun x => x.Member) xs) with
  | false => rw [hc] at h; cases h
  | true =>
    rw [hc] at h
    simp only [cond_true, Option.some.injEq] at h
    rw [Bool.and_eq_true] at hc
    subst h
    rw [← sortL_isort (fun x : VariationPayment => x.Member) hc.2]
    exact sort_callS (cells := VariationPayment.cells) so_lays rfl so_agg so_size (enters_of Try.func38 (by kernel_rfl) rfl) (fun _ => rfl) (fun x q hq => by
      simp only [VariationPayment.cells, List.mem_cons, List.not_mem_nil, or_false] at hq
      rcases hq with rfl | rfl <;> rfl) _ (swo_key fun x => x.Member) (fun x y => f39_ok _ _ (f39_val x y)) xs (of_decide_eq_true hc.1)

/-! ### novation/variation.Settle -/
noncomputable def c14 : Code := Try.f14.body.getD .skip
inductive f14n1O where
  | norm (v29 : Int)
def f14n1E (be1 : Int) (bh2 : List VariationPrice) (be3 : Int) (ba4 : Variation) : f14n1O → Ex × Tr × Hp
  | .norm v29 => (.norm, mkS [(1, (.pl (.int .i64 be1))), (2, (.pl (.sl .any 2 (bh2.map VariationPrice.cells)))), (3, (.bp 0 0)), (6, (.bp 1 0)), (9, (.pl (.int .i64 v29)))], [some (.box ((Variation.cells ba4).map .pl)), some (.box [(.pl (.int .i64 0)), (.pl (.sl .nil 0 []))])])
def f14n1S (be1 : Int) (bh2 : List VariationPrice) (be3 : Int) (ba4 : Variation) : Tr × Hp := (mkS [(1, (.pl (.int .i64 be1))), (2, (.pl (.sl .any 2 (bh2.map VariationPrice.cells)))), (3, (.bp 0 0)), (6, (.bp 1 0)), (9, (.pl (.int .i64 be3)))], [some (.box ((Variation.cells ba4).map .pl)), some (.box [(.pl (.int .i64 0)), (.pl (.sl .nil 0 []))])])
noncomputable def f14n1 (be1 : Int) (bh2 : List VariationPrice) (be3 : Int) (ba4 : Variation) : Option f14n1O :=
  bif (decide (be3 = 0)) then
    bif (decide (be1 < 0)) then
      some (.norm 2)
    else
      bif (decide (99999 < be1)) then
        some (.norm 2)
      else
        (f35 bh2).bind fun x25 =>
        bif x25 then
          bif (decide (be1 ≤ ba4.Day)) then
            some (.norm 21)
          else
            some (.norm be3)
        else
          some (.norm 2)
  else
    some (.norm be3)
theorem f14n1_ok (be1 : Int) (bh2 : List VariationPrice) (be3 : Int) (ba4 : Variation) {o : f14n1O} (h : (f14n1 be1 bh2 be3 ba4) = some o) : T Try.prog Try.f14.ntmps 0 (cL (dropC 2 c14)) (f14n1S be1 bh2 be3 ba4) (fun r => r = f14n1E be1 bh2 be3 ba4 o) := by
  unfold f14n1 at h
  rcases cond_cases h with ⟨h22, h⟩ | ⟨h22, h⟩
  · rcases cond_cases h with ⟨h23, h⟩ | ⟨h23, h⟩
    · obtain rfl := some_inj h
      exact run_end cfg_ok (rs := [([], [], []), ([(3, true), (4, true)], [(5, .bool true)], []), ([], [], [])]) (ps := [some false, none]) (tds := []) (m := [0, 1]) (keep := [1, 2, 3, 6, 9]) (r := (.norm, (f14n1E be1 bh2 be3 ba4 (.norm 2)).2)) (by kernel_rfl) (ap (not_t h22) (ap h23 (ap h23 (ap h23 an)))) rfl
    · rcases cond_cases h with ⟨h24, h⟩ | ⟨h24, h⟩
      · obtain rfl := some_inj h
        exact run_end cfg_ok (rs := [([], [], []), ([(3, false), (4, false), (7, true), (8, true), (9, true)], [(5, .bool false), (10, .bool true)], []), ([], [], [])]) (ps := [some false, none]) (tds := []) (m := [0, 1]) (keep := [1, 2, 3, 6, 9]) (r := (.norm, (f14n1E be1 bh2 be3 ba4 (.norm 2)).2)) (by kernel_rfl) (ap (not_t h22) (ap h23 (ap h23 (ap h23 (ap h24 (ap h24 (ap h24 (ap h24 an)))))))) rfl
      · obtain ⟨x25, h26, h⟩ := bind_cases h
        rcases cond_cases h with ⟨h27, h⟩ | ⟨h27, h⟩
        · rcases cond_cases h with ⟨h28, h⟩ | ⟨h28, h⟩
          · obtain rfl := some_inj h
            exact run_end cfg_ok (rs := [([], [], []), ([(3, false), (4, false), (7, false), (8, false), (9, false)], [(5, .bool false), (8, .call (.pl (.bool x25)) []), (10, .bool false)], []), ([], [], []), ([], [], [])]) (ps := [some false, some false, some true]) (tds := []) (m := [0, 1]) (keep := [1, 2, 3, 6, 9]) (r := (.norm, (f14n1E be1 bh2 be3 ba4 (.norm 21)).2)) (by kernel_rfl) (ap (not_t h22) (ap h23 (ap h23 (ap h23 (ap h24 (ap h24 (ap h24 (ap h24 (ap (f35_ok bh2 h26) (ap (not_t h27) (ap h28 an))))))))))) rfl
          · obtain rfl := some_inj h
            exact run_end cfg_ok (rs := [([], [], []), ([(3, false), (4, false), (7, false), (8, false), (9, false)], [(5, .bool false), (8, .call (.pl (.bool x25)) []), (10, .bool false)], []), ([], [], [])]) (ps := [some false, some false, some false]) (tds := []) (m := [0, 1]) (keep := [1, 2, 3, 6, 9]) (r := (.norm, (f14n1E be1 bh2 be3 ba4 (.norm be3)).2)) (by kernel_rfl) (ap (not_t h22) (ap h23 (ap h23 (ap h23 (ap h24 (ap h24 (ap h24 (ap h24 (ap (f35_ok bh2 h26) (ap (not_t h27) (ap h28 an))))))))))) rfl
        · obtain rfl := some_inj h
          exact run_end cfg_ok (rs := [([], [], []), ([(3, false), (4, false), (7, false), (8, false), (9, false)], [(5, .bool false), (8, .call (.pl (.bool x25)) []), (10, .bool false)], []), ([], [], [])]) (ps := [some false, some true]) (tds := []) (m := [0, 1]) (keep := [1, 2, 3, 6, 9]) (r := (.norm, (f14n1E be1 bh2 be3 ba4 (.norm 2)).2)) (by kernel_rfl) (ap (not_t h22) (ap h23 (ap h23 (ap h23 (ap h24 (ap h24 (ap h24 (ap h24 (ap (f35_ok bh2 h26) (ap (not_f h27) an)))))))))) rfl
  · obtain rfl := some_inj h
    exact run_end cfg_ok (rs := [([], [], [])]) (ps := [some true]) (tds := []) (m := [0, 1]) (keep := [1, 2, 3, 6, 9]) (r := (.norm, (f14n1E be1 bh2 be3 ba4 (.norm be3)).2)) (by kernel_rfl) (ap (not_f h22) an) rfl
inductive f14n3O where
  | exit1 (v87 : List (ByteArray × Int)) (v88 : List VariationPosition)
  | ret
def f14n3E (bh1 : List VariationPrice) (ba2 : Variation) (be3 : Int) : f14n3O → Ex × Tr × Hp
  | .exit1 v87 v88 => ((.exit 1), mkS [(6, (.bp 0 0)), (10, (.bp 1 0)), (11, (.mp 2))], [some (.box [(.pl (.int .i64 0)), (.pl (.sl .nil 0 []))]), some (.box [(.pl (.int .i64 be3)), (.own 3)]), some (.map (v87.map (mkv pStr (pInt .i64)))), some (.row false 4 (v88.map VariationPosition.cells))])
  | .ret => (.ret, mkS [(6, (.bp 0 0)), (7, (.pl (.sl .nil 0 []))), (8, (.pl (.int .i64 30)))], [some (.box [(.pl (.int .i64 0)), (.pl (.sl .nil 0 []))])])
def f14n3S (bh1 : List VariationPrice) (ba2 : Variation) (be3 : Int) (v68 : Int) (v69 : List (ByteArray × Int)) (v70 : List VariationPosition) : Tr × Hp := (mkS [(2, (.pl (.sl .any 2 (bh1.map VariationPrice.cells)))), (6, (.bp 0 0)), (10, (.bp 1 0)), (11, (.mp 2)), (49, (.pl (.sl .any 4 (ba2.Positions.map VariationPosition.cells)))), (50, (.pl (.int .i64 (ba2.Positions.length : Int)))), (51, (.pl (.int .i64 v68)))], [some (.box [(.pl (.int .i64 0)), (.pl (.sl .nil 0 []))]), some (.box [(.pl (.int .i64 be3)), (.own 3)]), some (.map (v69.map (mkv pStr (pInt .i64)))), some (.row false 4 (v70.map VariationPosition.cells))])
noncomputable def f14n3 : Nat → List VariationPrice → Variation → Int → Int → List (ByteArray × Int) → List VariationPosition → Option f14n3O
  | 0, _, _, _, _, _, _ => none
  | f + 1, bh1, ba2, be3, v68, v69, v70 =>
    bif (decide (v68 < (ba2.Positions.length : Int))) then
      (at? ba2.Positions v68).bind fun x80 =>
      (f36 x80 bh1).bind fun x82 =>
      bif x82.2 then
        bif (decide (x80.Quantity = 0)) then
          (f14n3 f bh1 ba2 be3 (wr64 (v68 + 1)) (mPut seq x80.Member (wr64 ((mGet seq 0 x80.Member v69) + (wr64 (x82.1 - x80.Basis)))) v69) v70)
        else
          req (fit (v70.length + 1) 48) <|
          (f14n3 f bh1 ba2 be3 (wr64 (v68 + 1)) (mPut seq x80.Member (wr64 ((mGet seq 0 x80.Member v69) + (wr64 (x82.1 - x80.Basis)))) v69) (v70 ++ [(VariationPosition.mk x80.Member x80.Product x80.Quantity x82.1)]))
      else
        some .ret
    else
      some (.exit1 v69 v70)
theorem f14n3_ok : ∀ (f : Nat) (bh1 : List VariationPrice) (ba2 : Variation) (be3 : Int) (v68 : Int) (v69 : List (ByteArray × Int)) (v70 : List VariationPosition) {o : f14n3O}, (f14n3 f bh1 ba2 be3 v68 v69 v70) = some o → TL Try.prog Try.f14.ntmps 0 f (cL (cL (dropC 1 (cL (dropC 3 (dropC 1 (dropC 2 c14))))))) (f14n3S bh1 ba2 be3 v68 v69 v70) (fun r => r = f14n3E bh1 ba2 be3 o)
  | 0, _, _, _, _, _, _, o, h => by rw [f14n3] at h; cases h
  | f + 1, bh1, ba2, be3, v68, v69, v70, o, h => by
    rw [f14n3] at h
    refine TL.body (K := fun s => ∃ v68 : Int, ∃ v69 : List (ByteArray × Int), ∃ v70 : List VariationPosition, s = (f14n3S bh1 ba2 be3 v68 v69 v70) ∧ (f14n3 f bh1 ba2 be3 v68 v69 v70) = some o) ?_ (by rintro _ ⟨v68, v69, v70, rfl, hk⟩; exact f14n3_ok f _ _ _ _ _ _ hk)
    rcases cond_cases h with ⟨h72, h⟩ | ⟨h72, h⟩
    · obtain ⟨x80, h81, h⟩ := bind_cases h
      obtain ⟨x82, h83, h⟩ := bind_cases h
      rcases cond_cases h with ⟨h84, h⟩ | ⟨h84, h⟩
      · rcases cond_cases h with ⟨h85, h⟩ | ⟨h85, h⟩
        · exact run_end cfg_ok (rs := [([], [], []), ([], [(0, .idx (Int.toNat v68) (VariationPosition.cells x80))], []), ([], [(2, .call (.tup [(.pl (.int .i64 x82.1)), (.pl (.bool x82.2))]) [])], []), ([], [], []), ([], [(3, .look ((pInt .i64) (mGet seq 0 x80.Member v69)) (mHas seq x80.Member v69)), (9, .mset ((mPut seq x80.Member (wr64 ((mGet seq 0 x80.Member v69) + (wr64 (x82.1 - x80.Basis)))) v69).map (mkv pStr (pInt .i64))))], []), ([], [], []), ([], [], []), ([], [], [])]) (ps := [some true, some false, some false]) (tds := []) (m := [0, 1, 2, 3]) (keep := [2, 6, 10, 11, 49, 50, 51]) (r := (.norm, (f14n3S bh1 ba2 be3 (wr64 (v68 + 1)) (mPut seq x80.Member (wr64 ((mGet seq 0 x80.Member v69) + (wr64 (x82.1 - x80.Basis)))) v69) v70))) (by kernel_rfl) (ap h72 (ap (at_some h81).1 (ap (at_map VariationPosition.cells (at_some h81).2) (ap (f36_ok x80 bh1 h83) (ap (not_t h84) (ap (look_map (vp := (pInt .i64)) (e := 3) key_9 0 (by kernel_rfl) x80.Member v69) (ap (mset_map (vp := (pInt .i64)) key_9 x80.Member (wr64 ((mGet seq 0 x80.Member v69) + (wr64 (x82.1 - x80.Basis)))) v69) (ap (not_t h85) an)))))))) (LoopQ.norm ⟨(wr64 (v68 + 1)), (mPut seq x80.Member (wr64 ((mGet seq 0 x80.Member v69) + (wr64 (x82.1 - x80.Basis)))) v69), v70, rfl, h⟩)
        · obtain ⟨h86, h⟩ := req_cases h
          exact run_end cfg_ok (rs := [([], [], []), ([], [(0, .idx (Int.toNat v68) (VariationPosition.cells x80))], []), ([], [(2, .call (.tup [(.pl (.int .i64 x82.1)), (.pl (.bool x82.2))]) [])], []), ([], [], []), ([], [(3, .look ((pInt .i64) (mGet seq 0 x80.Member v69)) (mHas seq x80.Member v69)), (9, .mset ((mPut seq x80.Member (wr64 ((mGet seq 0 x80.Member v69) + (wr64 (x82.1 - x80.Basis)))) v69).map (mkv pStr (pInt .i64))))], []), ([], [], []), ([], [], []), ([], [(4, .fits)], [(4, .row 6 ((v70 ++ [(VariationPosition.mk x80.Member x80.Product x80.Quantity x82.1)]).map VariationPosition.cells))]), ([], [], [])]) (ps := [some true, some false, some true]) (tds := []) (m := [0, 1, 2, 6]) (keep := [2, 6, 10, 11, 49, 50, 51]) (r := (.norm, (f14n3S bh1 ba2 be3 (wr64 (v68 + 1)) (mPut seq x80.Member (wr64 ((mGet seq 0 x80.Member v69) + (wr64 (x82.1 - x80.Basis)))) v69) (v70 ++ [(VariationPosition.mk x80.Member x80.Product x80.Quantity x82.1)])))) (by kernel_rfl) (ap h72 (ap (at_some h81).1 (ap (at_map VariationPosition.cells (at_some h81).2) (ap (f36_ok x80 bh1 h83) (ap (not_t h84) (ap (look_map (vp := (pInt .i64)) (e := 3) key_9 0 (by kernel_rfl) x80.Member v69) (ap (mset_map (vp := (pInt .i64)) key_9 x80.Member (wr64 ((mGet seq 0 x80.Member v69) + (wr64 (x82.1 - x80.Basis)))) v69) (ap (not_f h85) (ap (fit_map (te := ti52) (xs := v70) (n := 1) (c := VariationPosition.cells) h86 rfl) (ap (app_cv (xs := v70) (ys := [(VariationPosition.mk x80.Member x80.Product x80.Quantity x82.1)]) (c := VariationPosition.cells)) an)))))))))) (LoopQ.norm ⟨(wr64 (v68 + 1)), (mPut seq x80.Member (wr64 ((mGet seq 0 x80.Member v69) + (wr64 (x82.1 - x80.Basis)))) v69), (v70 ++ [(VariationPosition.mk x80.Member x80.Product x80.Quantity x82.1)]), rfl, h⟩)
      · obtain rfl := some_inj h
        exact runK_end cfg_ok (k := 3) (rs := [([], [], []), ([], [(0, .idx (Int.toNat v68) (VariationPosition.cells x80))], []), ([], [(2, .call (.tup [(.pl (.int .i64 x82.1)), (.pl (.bool x82.2))]) [])], []), ([], [], []), ([], [], [])]) (ps := [some true, some true]) (tds := []) (m := [0]) (keep := [6, 7, 8]) (ex := .ret) (st' := (f14n3E bh1 ba2 be3 .ret).2) (by kernel_rfl) (ap h72 (ap (at_some h81).1 (ap (at_map VariationPosition.cells (at_some h81).2) (ap (f36_ok x80 bh1 h83) (ap (not_f h84) an))))) (fun h => nomatch h) (LoopQ.out rfl rfl)
    · obtain rfl := some_inj h
      exact runK_end cfg_ok (k := 2) (rs := [([], [], [])]) (ps := [some false]) (tds := []) (m := [0, 1, 2, 3]) (keep := [6, 10, 11]) (ex := (.exit 1)) (st' := (f14n3E bh1 ba2 be3 (.exit1 v69 v70)).2) (by kernel_rfl) (ap h72 an) (fun h => nomatch h) (LoopQ.out rfl rfl)
noncomputable def f14n3L (bh1 : List VariationPrice) (ba2 : Variation) (be3 : Int) : List VariationPosition → Int → (List (ByteArray × Int)) → (List VariationPosition) → Option f14n3O
  | [], v68, v69, v70 =>
    some (.exit1 v69 v70)
  | x0 :: rest, v68, v69, v70 =>
    (f36 x0 bh1).bind fun x82 =>
    bif x82.2 then
      bif (decide (x0.Quantity = 0)) then
        (f14n3L bh1 ba2 be3 rest (v68 + 1) (mPut seq x0.Member (wr64 ((mGet seq 0 x0.Member v69) + (wr64 (x82.1 - x0.Basis)))) v69) v70)
      else
        req (fit (v70.length + 1) 48) <|
        (f14n3L bh1 ba2 be3 rest (v68 + 1) (mPut seq x0.Member (wr64 ((mGet seq 0 x0.Member v69) + (wr64 (x82.1 - x0.Basis)))) v69) (v70 ++ [(VariationPosition.mk x0.Member x0.Product x0.Quantity x82.1)]))
    else
      some .ret
theorem f14n3L_eq (bh1 : List VariationPrice) (ba2 : Variation) (be3 : Int) : ∀ (rest : List VariationPosition) (f k : Nat) (v69 : List (ByteArray × Int)) (v70 : List VariationPosition), ba2.Positions.drop k = rest → ba2.Positions.length ≤ maxLen → rest.length < f → f14n3 f bh1 ba2 be3 (k : Int) v69 v70 = f14n3L bh1 ba2 be3 rest (k : Int) v69 v70
  | _, 0, _, _, _, _, _, hf => absurd hf (Nat.not_lt_zero _)
  | [], f + 1, k, v69, v70, hd, hm, hf => by
    have hk : ¬ ((k : Int) < (ba2.Positions.length : Int)) := by have := drop_nil hd; omega
    rw [f14n3, f14n3L]
    simp only [decide_eq_false hk, cond_false]
  | x0 :: rest, f + 1, k, v69, v70, hd, hm, hf => by
    obtain ⟨hx, hlt, hd'⟩ := drop_cons hd
    have hk : (k : Int) < (ba2.Positions.length : Int) := by omega
    have hw : wr64 ((k : Int) + 1) = (k : Int) + 1 := wr64_of (by omega) (by unfold maxLen at hm; omega)
    have ih : ∀ (v69 : List (ByteArray × Int)) (v70 : List VariationPosition), f14n3 f bh1 ba2 be3 ((k : Int) + 1) v69 v70 = f14n3L bh1 ba2 be3 rest ((k : Int) + 1) v69 v70 := fun v69 v70 => f14n3L_eq bh1 ba2 be3 rest f (k + 1) v69 v70 hd' hm (by simpa using hf)
    rw [f14n3, f14n3L]
    simp only [decide_eq_true hk, cond_true, at_nat, hx, Option.bind_some, hw, ih]
theorem f14n3_run (bh1 : List VariationPrice) (ba2 : Variation) (be3 : Int) (v69 : List (ByteArray × Int)) (v70 : List VariationPosition) (hm : ba2.Positions.length ≤ maxLen) : f14n3 FUEL bh1 ba2 be3 0 v69 v70 = f14n3L bh1 ba2 be3 ba2.Positions 0 v69 v70 := f14n3L_eq bh1 ba2 be3 ba2.Positions FUEL 0 v69 v70 List.drop_zero hm (lt_FUEL hm)
inductive f14n2O where
  | norm (v93 : List (ByteArray × Int)) (v94 : List VariationPosition)
  | ret
def f14n2E (bh1 : List VariationPrice) (ba2 : Variation) (be3 : Int) : f14n2O → Ex × Tr × Hp
  | .norm v93 v94 => (.norm, mkS [(6, (.bp 0 0)), (10, (.bp 1 0)), (11, (.mp 2))], [some (.box [(.pl (.int .i64 0)), (.pl (.sl .nil 0 []))]), some (.box [(.pl (.int .i64 be3)), (.own 3)]), some (.map (v93.map (mkv pStr (pInt .i64)))), some (.row false 4 (v94.map VariationPosition.cells))])
  | .ret => (.ret, mkS [(6, (.bp 0 0)), (7, (.pl (.sl .nil 0 []))), (8, (.pl (.int .i64 30)))], [some (.box [(.pl (.int .i64 0)), (.pl (.sl .nil 0 []))])])
def f14n2S (bh1 : List VariationPrice) (ba2 : Variation) (be3 : Int) : Tr × Hp := (mkS [(2, (.pl (.sl .any 2 (bh1.map VariationPrice.cells)))), (3, (.bp 0 0)), (6, (.bp 1 0)), (10, (.bp 2 0)), (11, (.mp 3))], [some (.box ((Variation.cells ba2).map .pl)), some (.box [(.pl (.int .i64 0)), (.pl (.sl .nil 0 []))]), some (.box [(.pl (.int .i64 be3)), (.pl (.sl .nil 0 []))]), some (.map ([].map (mkv pStr (pInt .i64))))])
noncomputable def f14n2 (bh1 : List VariationPrice) (ba2 : Variation) (be3 : Int) : Option f14n2O :=
  (f14n3 FUEL bh1 ba2 be3 0 [] []).bind fun o89 => match o89 with
  | .exit1 v91 v92 => some (.norm v91 v92)
  | .ret => some .ret
theorem f14n2_ok (bh1 : List VariationPrice) (ba2 : Variation) (be3 : Int) {o : f14n2O} (h : (f14n2 bh1 ba2 be3) = some o) : T Try.prog Try.f14.ntmps 0 (cL (dropC 3 (dropC 1 (dropC 2 c14)))) (f14n2S bh1 ba2 be3) (fun r => r = f14n2E bh1 ba2 be3 o) := by
  unfold f14n2 at h
  refine runK_norm cfg_ok (k := 1) (rs := [([], [], [(2, .val (.pl (.int .i64 (ba2.Positions.length : Int))))])]) (ps := []) (tds := [.matC 2 1 4]) (m := [1, 2, 3, 4]) (keep := [2, 6, 10, 11, 49, 50, 51]) (st' := (f14n3S bh1 ba2 be3 0 [] [])) (by kernel_rfl) (ap (len_cv (xs := ba2.Positions) (c := VariationPosition.cells)) an) ?_
  obtain ⟨o89, h90, h⟩ := bind_cases h
  cases o89 with
  | exit1 v91 v92 =>
    obtain rfl := some_inj h
    exact T.last' (T.bl (i := 1) (by kernel_rfl) (by kernel_rfl) (f14n3_ok FUEL bh1 ba2 be3 0 [] [] h90)) (tds := []) (m := [0, 1, 2, 3]) (keep := [6, 10, 11]) (st2 := (f14n2E bh1 ba2 be3 (.norm v91 v92)).2) (by kernel_rfl) an rfl
  | ret =>
    obtain rfl := some_inj h
    exact T.last' (T.bl (i := 1) (by kernel_rfl) (by kernel_rfl) (f14n3_ok FUEL bh1 ba2 be3 0 [] [] h90)) (tds := []) (m := [0]) (keep := [6, 7, 8]) (st2 := (f14n2E bh1 ba2 be3 .ret).2) (by kernel_rfl) an rfl
inductive f14n5O where
  | exit3 (v138 : List VariationPayment)
  | ret
def f14n5E (be1 : Int) (bg3 : List VariationPosition) (bi2 : List (ByteArray × Int)) : f14n5O → Ex × Tr × Hp
  | .exit3 v138 => ((.exit 3), mkS [(6, (.bp 0 0)), (10, (.bp 1 0)), (16, (.own 2))], [some (.box [(.pl (.int .i64 0)), (.pl (.sl .nil 0 []))]), some (.box [(.pl (.int .i64 be1)), (.own 3)]), some (.row false 2 (v138.map VariationPayment.cells)), some (.row false 4 (bg3.map VariationPosition.cells))])
  | .ret => (.ret, mkS [(6, (.bp 0 0)), (7, (.pl (.sl .nil 0 []))), (8, (.pl (.int .i64 14)))], [some (.box [(.pl (.int .i64 0)), (.pl (.sl .nil 0 []))])])
def f14n5S (be1 : Int) (bg3 : List VariationPosition) (bi2 : List (ByteArray × Int)) (v124 : List VariationPayment) (sn0 : List Nat) : Tr × Hp := (mkS [(6, (.bp 0 0)), (10, (.bp 1 0)), (16, (.own 2)), (86, (.it 3))], [some (.box [(.pl (.int .i64 0)), (.pl (.sl .nil 0 []))]), some (.box [(.pl (.int .i64 be1)), (.own 4)]), some (.row false 2 (v124.map VariationPayment.cells)), some (.iter 5 (bi2.map (mkv pStr (pInt .i64))).length sn0), some (.row false 4 (bg3.map VariationPosition.cells)), some (.map (bi2.map (mkv pStr (pInt .i64))))])
noncomputable def f14n5 (be1 : Int) (bg3 : List VariationPosition) (bi2 : List (ByteArray × Int)) : List (ByteArray × Int) → (List VariationPayment) → Option f14n5O
  | [], v124 =>
    some (.exit3 v124)
  | x126 :: rest, v124 =>
    (f37 x126.2 1125899906842624).bind fun x133 =>
    bif x133 then
      bif (decide (x126.2 = 0)) then
        (f14n5 be1 bg3 bi2 rest v124)
      else
        req (fit (v124.length + 1) 24) <|
        (f14n5 be1 bg3 bi2 rest (v124 ++ [(VariationPayment.mk x126.1 x126.2)]))
    else
      some .ret
theorem f14n5_ok (be1 : Int) (bg3 : List VariationPosition) (bi2 : List (ByteArray × Int)) : ∀ (f : Nat) (sn0 rem : List Nat) (v124 : List VariationPayment) {Q : f14n5O → Prop}, Rem bi2.length sn0 rem → rem.length < f → (∀ p, p.Perm rem → ∃ o, f14n5 be1 bg3 bi2 (ords bi2 p) v124 = some o ∧ Q o) → TL Try.prog Try.f14.ntmps 0 f (cL (cL (dropC 1 (cL (dropC 1 (dropC 1 (dropC 3 (dropC 1 (dropC 2 c14))))))))) (f14n5S be1 bg3 bi2 v124 sn0) (fun r => ∃ o, Q o ∧ r = f14n5E be1 bg3 bi2 o)
  | 0, _, _, _, _, _, hf, _ => absurd hf (Nat.not_lt_zero _)
  | f + 1, sn0, rem, v124, Q, hR, hf, H => by
    refine TL.bodyQ (K := fun s => ∃ (sn0 rem : List Nat) (v124 : List VariationPayment), s = f14n5S be1 bg3 bi2 v124 sn0 ∧ Rem bi2.length sn0 rem ∧ rem.length < f ∧ (∀ p, p.Perm rem → ∃ o, f14n5 be1 bg3 bi2 (ords bi2 p) v124 = some o ∧ Q o)) ?_ (by rintro _ ⟨sn0, rem, v124, rfl, h1, h2, h3⟩; exact f14n5_ok be1 bg3 bi2 f sn0 rem v124 h1 h2 h3)
    refine T.oneNext cfg_ok (x := .tmp 86) (t := 87) (tb := 88) (i := 3) (o := 5) (m := (bi2.map (mkv pStr (pInt .i64))).length) (seen := sn0) (kvs := (bi2.map (mkv pStr (pInt .i64)))) (by kernel_rfl) (by kernel_rfl) (by kernel_rfl) (by kernel_rfl) (by kernel_rfl) (by kernel_rfl) rfl (fun hs => ?_) (fun j125 k v hj hs hx => ?_)
    · obtain rfl := hR.none (by simpa using hs)
      obtain ⟨o, h0, hq⟩ := H [] (List.Perm.refl _)
      have h : f14n5 be1 bg3 bi2 [] v124 = some o := h0
      rw [f14n5] at h
      obtain rfl := some_inj h
      exact runK_end cfg_ok (k := 1) (rs := []) (ps := [none]) (tds := []) (m := [0, 1, 2, 4]) (keep := [6, 10, 16]) (ex := (.exit 3)) (st' := (f14n5E be1 bg3 bi2 (.exit3 v124)).2) (by kernel_rfl) an (fun h => nomatch h) (LoopQ2.out ⟨_, hq, rfl⟩ rfl)
    · obtain ⟨x126, h127, rfl, rfl⟩ := mkv_at hx
      obtain ⟨hR2, hlen, hP⟩ := hR.step (j := j125) (by simpa using hj) hs
      have H2 : ∀ p, p.Perm (rem.erase j125) → ∃ o, f14n5 be1 bg3 bi2 (x126 :: ords bi2 p) v124 = some o ∧ Q o := fun p hp => by obtain ⟨o, h, hq⟩ := H _ (hP p hp); rw [ords_cons h127] at h; exact ⟨o, h, hq⟩
      obtain ⟨o, h, hq⟩ := H2 _ (List.Perm.refl _)
      rw [f14n5] at h
      obtain ⟨x133, h134, h⟩ := bind_cases h
      rcases cond_cases h with ⟨h135, h⟩ | ⟨h135, h⟩
      · rcases cond_cases h with ⟨h136, h⟩ | ⟨h136, h⟩
        · exact run_end cfg_ok (rs := [([], [(0, .entr j125 (pStr x126.1) ((pInt .i64) x126.2))], []), ([], [(1, .call (.pl (.bool x133)) [])], []), ([], [], [])]) (ps := [none, some false, some false]) (tds := []) (m := [0, 1, 2, 3, 4, 5]) (keep := [6, 10, 16, 86]) (r := (.norm, (f14n5S be1 bg3 bi2 v124 (sn0 ++ [j125])))) (by kernel_rfl) (ap (last_app (seen := sn0) (j := j125)) (ap (rfl : (bi2.map (mkv pStr (pInt .i64))).length = (bi2.map (mkv pStr (pInt .i64))).length) (ap (at_mkv (kp := pStr) (vp := (pInt .i64)) h127) (ap (f37_ok x126.2 1125899906842624 h134) (ap (not_t h135) (ap (not_t h136) an)))))) (LoopQ2.norm ⟨sn0 ++ [j125], rem.erase j125, v124, rfl, hR2, by omega, fun p hp => by obtain ⟨o, h, hq⟩ := H2 p hp; refine ⟨o, ?_, hq⟩; rw [f14n5] at h; simp only [h134, h135, h136, cond_true, cond_false, Option.bind_some, req] at h; exact h⟩)
        · obtain ⟨h137, h⟩ := req_cases h
          exact run_end cfg_ok (rs := [([], [(0, .entr j125 (pStr x126.1) ((pInt .i64) x126.2))], []), ([], [(1, .call (.pl (.bool x133)) [])], []), ([], [], []), ([], [(5, .fits)], [(5, .row 7 ((v124 ++ [(VariationPayment.mk x126.1 x126.2)]).map VariationPayment.cells))])]) (ps := [none, some false, some true]) (tds := []) (m := [0, 1, 7, 3, 4, 5]) (keep := [6, 10, 16, 86]) (r := (.norm, (f14n5S be1 bg3 bi2 (v124 ++ [(VariationPayment.mk x126.1 x126.2)]) (sn0 ++ [j125])))) (by kernel_rfl) (ap (last_app (seen := sn0) (j := j125)) (ap (rfl : (bi2.map (mkv pStr (pInt .i64))).length = (bi2.map (mkv pStr (pInt .i64))).length) (ap (at_mkv (kp := pStr) (vp := (pInt .i64)) h127) (ap (f37_ok x126.2 1125899906842624 h134) (ap (not_t h135) (ap (not_f h136) (ap (fit_map (te := ti48) (xs := v124) (n := 1) (c := VariationPayment.cells) h137 rfl) (ap (app_cv (xs := v124) (ys := [(VariationPayment.mk x126.1 x126.2)]) (c := VariationPayment.cells)) an)))))))) (LoopQ2.norm ⟨sn0 ++ [j125], rem.erase j125, (v124 ++ [(VariationPayment.mk x126.1 x126.2)]), rfl, hR2, by omega, fun p hp => by obtain ⟨o, h, hq⟩ := H2 p hp; refine ⟨o, ?_, hq⟩; rw [f14n5] at h; simp only [h134, h135, h136, h137, cond_true, cond_false, Option.bind_some, req] at h; exact h⟩)
      · obtain rfl := some_inj h
        exact run_end cfg_ok (rs := [([], [(0, .entr j125 (pStr x126.1) ((pInt .i64) x126.2))], []), ([], [(1, .call (.pl (.bool x133)) [])], []), ([], [], [])]) (ps := [none, some true]) (tds := []) (m := [0]) (keep := [6, 7, 8]) (r := (.ret, (f14n5E be1 bg3 bi2 .ret).2)) (by kernel_rfl) (ap (last_app (seen := sn0) (j := j125)) (ap (rfl : (bi2.map (mkv pStr (pInt .i64))).length = (bi2.map (mkv pStr (pInt .i64))).length) (ap (at_mkv (kp := pStr) (vp := (pInt .i64)) h127) (ap (f37_ok x126.2 1125899906842624 h134) (ap (not_f h135) an))))) (LoopQ2.out ⟨_, hq, rfl⟩ rfl)
inductive f14n4O where
  | norm (v142 : List VariationPayment)
  | ret
def f14n4E (be1 : Int) (bi2 : List (ByteArray × Int)) (bg3 : List VariationPosition) : f14n4O → Ex × Tr × Hp
  | .norm v142 => (.norm, mkS [(6, (.bp 0 0)), (10, (.bp 1 0)), (16, (.own 2))], [some (.box [(.pl (.int .i64 0)), (.pl (.sl .nil 0 []))]), some (.box [(.pl (.int .i64 be1)), (.own 3)]), some (.row false 2 (v142.map VariationPayment.cells)), some (.row false 4 (bg3.map VariationPosition.cells))])
  | .ret => (.ret, mkS [(6, (.bp 0 0)), (7, (.pl (.sl .nil 0 []))), (8, (.pl (.int .i64 14)))], [some (.box [(.pl (.int .i64 0)), (.pl (.sl .nil 0 []))])])
def f14n4S (be1 : Int) (bi2 : List (ByteArray × Int)) (bg3 : List VariationPosition) : Tr × Hp := (mkS [(6, (.bp 0 0)), (10, (.bp 1 0)), (11, (.mp 2)), (16, (.pl (.sl .nil 0 [])))], [some (.box [(.pl (.int .i64 0)), (.pl (.sl .nil 0 []))]), some (.box [(.pl (.int .i64 be1)), (.own 3)]), some (.map (bi2.map (mkv pStr (pInt .i64)))), some (.row false 4 (bg3.map VariationPosition.cells))])
noncomputable def f14n4 (be1 : Int) (bi2 : List (ByteArray × Int)) (bg3 : List VariationPosition) (p : List (ByteArray × Int)) : Option f14n4O :=
  (f14n5 be1 bg3 bi2 p []).bind fun o139 => match o139 with
  | .exit3 v141 => some (.norm v141)
  | .ret => some .ret
theorem f14n4_ok (be1 : Int) (bi2 : List (ByteArray × Int)) (bg3 : List VariationPosition) {Q : f14n4O → Prop} (H : ∀ p, p.Perm bi2 → ∃ o, f14n4 be1 bi2 bg3 p = some o ∧ Q o) : T Try.prog Try.f14.ntmps 0 (cL (dropC 1 (dropC 1 (dropC 3 (dropC 1 (dropC 2 c14)))))) (f14n4S be1 bi2 bg3) (fun r => ∃ o, Q o ∧ r = f14n4E be1 bi2 bg3 o) := by
  refine runK_norm cfg_ok (k := 1) (rs := [([], [], [])]) (ps := []) (tds := [.mat 16 2]) (m := [0, 1, 5, 4, 3, 2]) (keep := [6, 10, 16, 86]) (st' := (f14n5S be1 bg3 bi2 [] [])) (by kernel_rfl) an ?_
  refine T.lastQ (T.blQ (i := 3) (by kernel_rfl) (by kernel_rfl) (f14n5_ok be1 bg3 bi2 _ [] (List.range bi2.length) [] (Rem.start _) (Nat.lt_succ_self _) (Q := fun y => ∃ o, (match y with | .exit3 v141 => some (.norm v141) | .ret => some .ret) = some o ∧ Q o) (fun p hp => by obtain ⟨o, h, hq⟩ := H _ (ords_perm hp); unfold f14n4 at h; obtain ⟨y, hy, h⟩ := bind_ex h; exact ⟨y, hy, o, h, hq⟩))) ?_
  rintro y ⟨o, h, hq⟩
  cases y with
  | exit3 v141 =>
    obtain rfl := some_inj h
    exact Tidy.of [] [0, 1, 2, 3] [6, 10, 16] ((f14n4E be1 bi2 bg3 (.norm v141)).2) (by kernel_rfl) an ⟨_, hq, rfl⟩
  | ret =>
    obtain rfl := some_inj h
    exact Tidy.of [] [0] [6, 7, 8] ((f14n4E be1 bi2 bg3 .ret).2) (by kernel_rfl) an ⟨_, hq, rfl⟩
inductive f14n0O where
  | ret (v150 : Int) (v151 : Int) (v152 : List VariationPayment) (v153 : List VariationPosition)
def f14n0E (a1 : Variation) (a2 : Int) (a3 : List VariationPrice) : f14n0O → Ex × Tr × Hp
  | .ret v150 v151 v152 v153 => (.ret, mkS [(6, (.bp 0 0)), (7, (.own 1)), (8, (.pl (.int .i64 v150)))], [some (.box [(.pl (.int .i64 v151)), (.own 2)]), some (.row false 2 (v152.map VariationPayment.cells)), some (.row false 4 (v153.map VariationPosition.cells))])
def f14n0S (a1 : Variation) (a2 : Int) (a3 : List VariationPrice) : Tr × Hp := (initS [(.pl (.agg (Variation.cells a1))), (.pl (.int .i64 a2)), (.pl (.sl .any 2 (a3.map VariationPrice.cells)))] 0 .leaf, [])
noncomputable def f14n0 (a1 : Variation) (a2 : Int) (a3 : List VariationPrice) : Option f14n0O :=
  (f26 a1).bind fun x6 =>
  (f14n1 a2 a3 x6 a1).bind fun o30 => match o30 with
  | .norm v32 => bif (decide (v32 = 0)) then
      (f14n2 a3 a1 a2).bind fun o95 => match o95 with
      | .norm v97 v98 => (anyOrder v97 fun p => (f14n4 a2 v97 v98 p).bind fun o143 => match o143 with
        | .norm v145 => (so38_39 v145).bind fun x148 =>
          some (.ret 0 a2 x148 v98)
        | .ret => some (.ret 14 0 [] []))
      | .ret => some (.ret 30 0 [] [])
    else
      some (.ret v32 0 [] [])
theorem f14n0_ok (a1 : Variation) (a2 : Int) (a3 : List VariationPrice) {o : f14n0O} (h : (f14n0 a1 a2 a3) = some o) : T Try.prog Try.f14.ntmps 0 c14 (f14n0S a1 a2 a3) (fun r => r = f14n0E a1 a2 a3 o) := by
  unfold f14n0 at h
  obtain ⟨x6, h7, h⟩ := bind_cases h
  refine runK_norm cfg_ok (k := 2) (rs := [([], [], []), ([], [(1, .call (.pl (.int .i64 x6)) [])], [])]) (ps := []) (tds := []) (m := [0, 1]) (keep := [1, 2, 3, 6, 9]) (st' := (f14n1S a2 a3 x6 a1)) (by kernel_rfl) (ap (f26_ok a1 h7) an) ?_
  obtain ⟨o30, h31, h⟩ := bind_cases h
  cases o30 with
  | norm v32 =>
    refine T.oneN (by kernel_rfl) (f14n1_ok a2 a3 x6 a1 h31) (st2 := (f14n1E a2 a3 x6 a1 (.norm v32)).2) rfl ?_
    rcases cond_cases h with ⟨h34, h⟩ | ⟨h34, h⟩
    · refine runK_norm cfg_ok (k := 3) (rs := [([], [], []), ([], [], []), ([], [], [])]) (ps := [some false]) (tds := []) (m := [0, 1, 2, 3]) (keep := [2, 3, 6, 10, 11]) (st' := (f14n2S a3 a1 a2)) (by kernel_rfl) (ap (not_t h34) an) ?_
      obtain ⟨o95, h96, h⟩ := bind_cases h
      cases o95 with
      | norm v97 v98 =>
        refine T.oneN (by kernel_rfl) (f14n2_ok a3 a1 a2 h96) (st2 := (f14n2E a3 a1 a2 (.norm v97 v98)).2) rfl ?_
        refine runK_norm cfg_ok (k := 1) (rs := [([], [], [])]) (ps := []) (tds := []) (m := [0, 1, 2, 3]) (keep := [6, 10, 11, 16]) (st' := (f14n4S a2 v97 v98)) (by kernel_rfl) an ?_
        refine T.oneQ (by kernel_rfl) (f14n4_ok a2 v97 v98 (fun p hp => bind_ex (anyOrder_at h p hp))) ?_
        intro o143 h
        cases o143 with
        | norm v145 =>
          refine OneR.go ((f14n4E a2 v97 v98 (.norm v145)).2) rfl ?_
          obtain ⟨x148, h149, h⟩ := bind_cases h
          obtain rfl := some_inj h
          exact run_end cfg_ok (rs := [([], [(1, .call (.tup []) [none, none, some (.row false 2 (x148.map VariationPayment.cells)), none])], []), ([], [], [])]) (ps := []) (tds := []) (m := [0, 2, 3]) (keep := [6, 7, 8]) (r := (.ret, (f14n0E a1 a2 a3 (.ret 0 a2 x148 v98)).2)) (by kernel_rfl) (ap (CallS.ren (args' := [(.own 2), (.pl (.fn 39))]) (v' := (.tup [])) (B := [none, none, some (.row false 2 (v145.map VariationPayment.cells)), none]) (B' := [none, none, some (.row false 2 (x148.map VariationPayment.cells)), none]) 4 [2] (so38_39_ok v145 h149) (by kernel_rfl) (by kernel_rfl) (by kernel_rfl) (by kernel_rfl) (by kernel_rfl) (by kernel_rfl)) an) rfl
        | ret =>
          obtain rfl := some_inj h
          exact OneR.out [.mat 7 2, .matC 0 1 4] [0, 1, 2] [6, 7, 8] ((f14n0E a1 a2 a3 (.ret 14 0 [] [])).2) (by kernel_rfl) an rfl rfl
      | ret =>
        obtain rfl := some_inj h
        exact T.oneX' (by kernel_rfl) (f14n2_ok a3 a1 a2 h96) (tds := [.mat 7 2, .matC 0 1 4]) (m := [0, 1, 2]) (keep := [6, 7, 8]) (st2 := (f14n0E a1 a2 a3 (.ret 30 0 [] [])).2) (by kernel_rfl) an rfl rfl
    · obtain rfl := some_inj h
      exact runK_end cfg_ok (k := 1) (rs := [([], [], []), ([], [], [])]) (ps := [some true]) (tds := [.mat 7 2, .matC 1 1 4]) (m := [1, 2, 3]) (keep := [6, 7, 8]) (ex := .ret) (st' := (f14n0E a1 a2 a3 (.ret v32 0 [] [])).2) (by kernel_rfl) (ap (not_f h34) an) (fun h => nomatch h) rfl
noncomputable def f14 (a1 : Variation) (a2 : Int) (a3 : List VariationPrice) : Option (Variation × (List VariationPayment) × Int) := (f14n0 a1 a2 a3).bind fun o => match o with
  | .ret v150 v151 v152 v153 => some ((Variation.mk v151 v153), v152, v150)
theorem f14_ok (a1 : Variation) (a2 : Int) (a3 : List VariationPrice) {r : Variation × (List VariationPayment) × Int} (h : (f14 a1 a2 a3) = some r) : CallS Try.prog false 14 [(.pl (.agg (Variation.cells a1))), (.pl (.int .i64 a2)), (.pl (.sl .any 2 (a3.map VariationPrice.cells)))] [] (.tup [(.pl (.agg (Variation.cells r.1))), (.pl (.sl .any 2 (r.2.1.map VariationPayment.cells))), (.pl (.int .i64 r.2.2))]) [] := by
  unfold f14 at h
  obtain ⟨o, ho, h⟩ := bind_cases h
  cases o with
  | ret v150 v151 v152 v153 =>
    obtain rfl := some_inj h
    exact CallS.plain cfg_ok (f := Try.f14) (c := c14) (by kernel_rfl) (by kernel_rfl) (by kernel_rfl) (by kernel_rfl) ((f14n0_ok a1 a2 a3 ho).mono fun r e => by subst e; exact ⟨.inl rfl, (.tup [(.agg [(.pl (.int .i64 v151)), (.own 2)]), (.own 1), (.pl (.int .i64 v150))]), (.tup [(.pl (.agg (Variation.cells (Variation.mk v151 v153)))), (.pl (.sl .any 2 (v152.map VariationPayment.cells))), (.pl (.int .i64 v150))]), by kernel_rfl, by kernel_rfl, ((Wk.refl _) : Wk (.tup [(.pl (.agg (Variation.cells (Variation.mk v151 v153)))), (.pl (.sl .any 2 (v152.map VariationPayment.cells))), (.pl (.int .i64 v150))]) (.tup [(.pl (.agg (Variation.cells (Variation.mk v151 v153)))), (.pl (.sl .any 2 (v152.map VariationPayment.cells))), (.pl (.int .i64 v150))]))⟩)
/-! ### novation/variation.Value -/
noncomputable def c24 : Code := Try.f24.body.getD .skip
inductive f24n2O where
  | exit0 (v62 : Int)
  | ret
def f24n2E (bb1 : ByteArray) (bh2 : List VariationPrice) (ba3 : Variation) : f24n2O → Ex × Tr × Hp
  | .exit0 v62 => ((.exit 0), mkS [(9, (.pl (.int .i64 v62)))], [])
  | .ret => (.ret, mkS [(6, (.pl (.int .i64 0))), (7, (.pl (.int .i64 30)))], [])
def f24n2S (bb1 : ByteArray) (bh2 : List VariationPrice) (ba3 : Variation) (v46 : Int) (v47 : Int) : Tr × Hp := (mkS [(1, (.pl (.str bb1))), (2, (.pl (.sl .any 2 (bh2.map VariationPrice.cells)))), (9, (.pl (.int .i64 v46))), (23, (.pl (.sl .any 4 (ba3.Positions.map VariationPosition.cells)))), (24, (.pl (.int .i64 (ba3.Positions.length : Int)))), (25, (.pl (.int .i64 v47)))], [])
noncomputable def f24n2 : Nat → ByteArray → List VariationPrice → Variation → Int → Int → Option f24n2O
  | 0, _, _, _, _, _ => none
  | f + 1, bb1, bh2, ba3, v46, v47 =>
    bif (decide (v47 < (ba3.Positions.length : Int))) then
      (at? ba3.Positions v47).bind fun x56 =>
      bif (seq x56.Member bb1) then
        (f36 x56 bh2).bind fun x59 =>
        bif x59.2 then
          (f24n2 f bb1 bh2 ba3 (wr64 (v46 + x59.1)) (wr64 (v47 + 1)))
        else
          some .ret
      else
        (f24n2 f bb1 bh2 ba3 v46 (wr64 (v47 + 1)))
    else
      some (.exit0 v46)
theorem f24n2_ok : ∀ (f : Nat) (bb1 : ByteArray) (bh2 : List VariationPrice) (ba3 : Variation) (v46 : Int) (v47 : Int) {o : f24n2O}, (f24n2 f bb1 bh2 ba3 v46 v47) = some o → TL Try.prog Try.f24.ntmps 0 f (cL (cL (dropC 1 (cL (dropC 4 c24))))) (f24n2S bb1 bh2 ba3 v46 v47) (fun r => r = f24n2E bb1 bh2 ba3 o)
  | 0, _, _, _, _, _, o, h => by rw [f24n2] at h; cases h
  | f + 1, bb1, bh2, ba3, v46, v47, o, h => by
    rw [f24n2] at h
    refine TL.body (K := fun s => ∃ v46 : Int, ∃ v47 : Int, s = (f24n2S bb1 bh2 ba3 v46 v47) ∧ (f24n2 f bb1 bh2 ba3 v46 v47) = some o) ?_ (by rintro _ ⟨v46, v47, rfl, hk⟩; exact f24n2_ok f _ _ _ _ _ hk)
    rcases cond_cases h with ⟨h49, h⟩ | ⟨h49, h⟩
    · obtain ⟨x56, h57, h⟩ := bind_cases h
      rcases cond_cases h with ⟨h58, h⟩ | ⟨h58, h⟩
      · obtain ⟨x59, h60, h⟩ := bind_cases h
        rcases cond_cases h with ⟨h61, h⟩ | ⟨h61, h⟩
        · exact run_end cfg_ok (rs := [([], [], []), ([], [(0, .idx (Int.toNat v47) (VariationPosition.cells x56))], []), ([], [], []), ([], [(2, .call (.tup [(.pl (.int .i64 x59.1)), (.pl (.bool x59.2))]) [])], []), ([], [], []), ([], [], []), ([], [], [])]) (ps := [some true, some false, some false]) (tds := []) (m := []) (keep := [1, 2, 9, 23, 24, 25]) (r := (.norm, (f24n2S bb1 bh2 ba3 (wr64 (v46 + x59.1)) (wr64 (v47 + 1))))) (by kernel_rfl) (ap h49 (ap (at_some h57).1 (ap (at_map VariationPosition.cells (at_some h57).2) (ap (not_t h58) (ap (f36_ok x56 bh2 h60) (ap (not_t h61) an)))))) (LoopQ.norm ⟨(wr64 (v46 + x59.1)), (wr64 (v47 + 1)), rfl, h⟩)
        · obtain rfl := some_inj h
          exact runK_end cfg_ok (k := 3) (rs := [([], [], []), ([], [(0, .idx (Int.toNat v47) (VariationPosition.cells x56))], []), ([], [], []), ([], [(2, .call (.tup [(.pl (.int .i64 x59.1)), (.pl (.bool x59.2))]) [])], []), ([], [], []), ([], [], [])]) (ps := [some true, some false, some true]) (tds := []) (m := []) (keep := [6, 7]) (ex := .ret) (st' := (f24n2E bb1 bh2 ba3 .ret).2) (by kernel_rfl) (ap h49 (ap (at_some h57).1 (ap (at_map VariationPosition.cells (at_some h57).2) (ap (not_t h58) (ap (f36_ok x56 bh2 h60) (ap (not_f h61) an)))))) (fun h => nomatch h) (LoopQ.out rfl rfl)
      · exact run_end cfg_ok (rs := [([], [], []), ([], [(0, .idx (Int.toNat v47) (VariationPosition.cells x56))], []), ([], [], []), ([], [], [])]) (ps := [some true, some true]) (tds := []) (m := []) (keep := [1, 2, 9, 23, 24, 25]) (r := (.norm, (f24n2S bb1 bh2 ba3 v46 (wr64 (v47 + 1))))) (by kernel_rfl) (ap h49 (ap (at_some h57).1 (ap (at_map VariationPosition.cells (at_some h57).2) (ap (not_f h58) an)))) (LoopQ.norm ⟨v46, (wr64 (v47 + 1)), rfl, h⟩)
    · obtain rfl := some_inj h
      exact runK_end cfg_ok (k := 2) (rs := [([], [], [])]) (ps := [some false]) (tds := []) (m := []) (keep := [9]) (ex := (.exit 0)) (st' := (f24n2E bb1 bh2 ba3 (.exit0 v46)).2) (by kernel_rfl) (ap h49 an) (fun h => nomatch h) (LoopQ.out rfl rfl)
noncomputable def f24n2L (bb1 : ByteArray) (bh2 : List VariationPrice) (ba3 : Variation) : List VariationPosition → Int → Int → Option f24n2O
  | [], v46, v47 =>
    some (.exit0 v46)
  | x0 :: rest, v46, v47 =>
    bif (seq x0.Member bb1) then
      (f36 x0 bh2).bind fun x59 =>
      bif x59.2 then
        (f24n2L bb1 bh2 ba3 rest (wr64 (v46 + x59.1)) (v47 + 1))
      else
        some .ret
    else
      (f24n2L bb1 bh2 ba3 rest v46 (v47 + 1))
theorem f24n2L_eq (bb1 : ByteArray) (bh2 : List VariationPrice) (ba3 : Variation) : ∀ (rest : List VariationPosition) (f k : Nat) (v46 : Int), ba3.Positions.drop k = rest → ba3.Positions.length ≤ maxLen → rest.length < f → f24n2 f bb1 bh2 ba3 v46 (k : Int) = f24n2L bb1 bh2 ba3 rest v46 (k : Int)
  | _, 0, _, _, _, _, hf => absurd hf (Nat.not_lt_zero _)
  | [], f + 1, k, v46, hd, hm, hf => by
    have hk : ¬ ((k : Int) < (ba3.Positions.length : Int)) := by have := drop_nil hd; omega
    rw [f24n2, f24n2L]
    simp only [decide_eq_false hk, cond_false]
  | x0 :: rest, f + 1, k, v46, hd, hm, hf => by
    obtain ⟨hx, hlt, hd'⟩ := drop_cons hd
    have hk : (k : Int) < (ba3.Positions.length : Int) := by omega
    have hw : wr64 ((k : Int) + 1) = (k : Int) + 1 := wr64_of (by omega) (by unfold maxLen at hm; omega)
    have ih : ∀ (v46 : Int), f24n2 f bb1 bh2 ba3 v46 ((k : Int) + 1) = f24n2L bb1 bh2 ba3 rest v46 ((k : Int) + 1) := fun v46 => f24n2L_eq bb1 bh2 ba3 rest f (k + 1) v46 hd' hm (by simpa using hf)
    rw [f24n2, f24n2L]
    simp only [decide_eq_true hk, cond_true, at_nat, hx, Option.bind_some, hw, ih]
theorem f24n2_run (bb1 : ByteArray) (bh2 : List VariationPrice) (ba3 : Variation) (v46 : Int) (hm : ba3.Positions.length ≤ maxLen) : f24n2 FUEL bb1 bh2 ba3 v46 0 = f24n2L bb1 bh2 ba3 ba3.Positions v46 0 := f24n2L_eq bb1 bh2 ba3 ba3.Positions FUEL 0 v46 List.drop_zero hm (lt_FUEL hm)
inductive f24n1O where
  | norm (v66 : Int)
  | ret
def f24n1E (bb1 : ByteArray) (bh2 : List VariationPrice) (ba3 : Variation) : f24n1O → Ex × Tr × Hp
  | .norm v66 => (.norm, mkS [(9, (.pl (.int .i64 v66)))], [])
  | .ret => (.ret, mkS [(6, (.pl (.int .i64 0))), (7, (.pl (.int .i64 30)))], [])
def f24n1S (bb1 : ByteArray) (bh2 : List VariationPrice) (ba3 : Variation) : Tr × Hp := (mkS [(1, (.pl (.str bb1))), (2, (.pl (.sl .any 2 (bh2.map VariationPrice.cells)))), (3, (.bp 0 0)), (9, (.pl (.int .i64 0)))], [some (.box ((Variation.cells ba3).map .pl))])
noncomputable def f24n1 (bb1 : ByteArray) (bh2 : List VariationPrice) (ba3 : Variation) : Option f24n1O :=
  (f24n2 FUEL bb1 bh2 ba3 0 0).bind fun o63 => match o63 with
  | .exit0 v65 => some (.norm v65)
  | .ret => some .ret
theorem f24n1_ok (bb1 : ByteArray) (bh2 : List VariationPrice) (ba3 : Variation) {o : f24n1O} (h : (f24n1 bb1 bh2 ba3) = some o) : T Try.prog Try.f24.ntmps 0 (cL (dropC 4 c24)) (f24n1S bb1 bh2 ba3) (fun r => r = f24n1E bb1 bh2 ba3 o) := by
  unfold f24n1 at h
  refine runK_norm cfg_ok (k := 1) (rs := [([], [], [(2, .val (.pl (.int .i64 (ba3.Positions.length : Int))))])]) (ps := []) (tds := []) (m := []) (keep := [1, 2, 9, 23, 24, 25]) (st' := (f24n2S bb1 bh2 ba3 0 0)) (by kernel_rfl) (ap (len_cv (xs := ba3.Positions) (c := VariationPosition.cells)) an) ?_
  obtain ⟨o63, h64, h⟩ := bind_cases h
  cases o63 with
  | exit0 v65 =>
    obtain rfl := some_inj h
    exact T.last' (T.bl (i := 0) (by kernel_rfl) (by kernel_rfl) (f24n2_ok FUEL bb1 bh2 ba3 0 0 h64)) (tds := []) (m := []) (keep := [9]) (st2 := (f24n1E bb1 bh2 ba3 (.norm v65)).2) (by kernel_rfl) an rfl
  | ret =>
    obtain rfl := some_inj h
    exact T.last' (T.bl (i := 0) (by kernel_rfl) (by kernel_rfl) (f24n2_ok FUEL bb1 bh2 ba3 0 0 h64)) (tds := []) (m := []) (keep := [6, 7]) (st2 := (f24n1E bb1 bh2 ba3 .ret).2) (by kernel_rfl) an rfl
inductive f24n0O where
  | ret (v76 : Int) (v77 : Int)
def f24n0E (a1 : Variation) (a2 : ByteArray) (a3 : List VariationPrice) : f24n0O → Ex × Tr × Hp
  | .ret v76 v77 => (.ret, mkS [(6, (.pl (.int .i64 v76))), (7, (.pl (.int .i64 v77)))], [])
def f24n0S (a1 : Variation) (a2 : ByteArray) (a3 : List VariationPrice) : Tr × Hp := (initS [(.pl (.agg (Variation.cells a1))), (.pl (.str a2)), (.pl (.sl .any 2 (a3.map VariationPrice.cells)))] 0 .leaf, [])
noncomputable def f24n0 (a1 : Variation) (a2 : ByteArray) (a3 : List VariationPrice) : Option f24n0O :=
  (f26 a1).bind fun x7 =>
  bif (decide (x7 = 0)) then
    (f35 a3).bind fun x13 =>
    bif x13 then
      (f24n1 a2 a3 a1).bind fun o67 => match o67 with
      | .norm v69 => (f37 v69 1125899906842624).bind fun x73 =>
        bif x73 then
          some (.ret v69 0)
        else
          some (.ret 0 14)
      | .ret => some (.ret 0 30)
    else
      some (.ret 0 2)
  else
    some (.ret 0 x7)
theorem f24n0_ok (a1 : Variation) (a2 : ByteArray) (a3 : List VariationPrice) {o : f24n0O} (h : (f24n0 a1 a2 a3) = some o) : T Try.prog Try.f24.ntmps 0 c24 (f24n0S a1 a2 a3) (fun r => r = f24n0E a1 a2 a3 o) := by
  unfold f24n0 at h
  obtain ⟨x7, h8, h⟩ := bind_cases h
  rcases cond_cases h with ⟨h9, h⟩ | ⟨h9, h⟩
  · obtain ⟨x13, h14, h⟩ := bind_cases h
    rcases cond_cases h with ⟨h15, h⟩ | ⟨h15, h⟩
    · refine runK_norm cfg_ok (k := 4) (rs := [([], [], []), ([], [(1, .call (.pl (.int .i64 x7)) [])], []), ([], [], []), ([], [(1, .call (.pl (.bool x13)) [])], []), ([], [], [])]) (ps := [some false, some false]) (tds := []) (m := [0]) (keep := [1, 2, 3, 9]) (st' := (f24n1S a2 a3 a1)) (by kernel_rfl) (ap (f26_ok a1 h8) (ap (not_t h9) (ap (f35_ok a3 h14) (ap (not_t h15) an)))) ?_
      obtain ⟨o67, h68, h⟩ := bind_cases h
      cases o67 with
      | norm v69 =>
        refine T.oneN (by kernel_rfl) (f24n1_ok a2 a3 a1 h68) (st2 := (f24n1E a2 a3 a1 (.norm v69)).2) rfl ?_
        obtain ⟨x73, h74, h⟩ := bind_cases h
        rcases cond_cases h with ⟨h75, h⟩ | ⟨h75, h⟩
        · obtain rfl := some_inj h
          exact run_end cfg_ok (rs := [([], [(1, .call (.pl (.bool x73)) [])], []), ([], [], [])]) (ps := [some false]) (tds := []) (m := []) (keep := [6, 7]) (r := (.ret, (f24n0E a1 a2 a3 (.ret v69 0)).2)) (by kernel_rfl) (ap (f37_ok v69 1125899906842624 h74) (ap (not_t h75) an)) rfl
        · obtain rfl := some_inj h
          exact runK_end cfg_ok (k := 1) (rs := [([], [(1, .call (.pl (.bool x73)) [])], []), ([], [], [])]) (ps := [some true]) (tds := []) (m := []) (keep := [6, 7]) (ex := .ret) (st' := (f24n0E a1 a2 a3 (.ret 0 14)).2) (by kernel_rfl) (ap (f37_ok v69 1125899906842624 h74) (ap (not_f h75) an)) (fun h => nomatch h) rfl
      | ret =>
        obtain rfl := some_inj h
        exact T.oneX' (by kernel_rfl) (f24n1_ok a2 a3 a1 h68) (tds := []) (m := []) (keep := [6, 7]) (st2 := (f24n0E a1 a2 a3 (.ret 0 30)).2) (by kernel_rfl) an rfl rfl
    · obtain rfl := some_inj h
      exact runK_end cfg_ok (k := 3) (rs := [([], [], []), ([], [(1, .call (.pl (.int .i64 x7)) [])], []), ([], [], []), ([], [(1, .call (.pl (.bool x13)) [])], []), ([], [], [])]) (ps := [some false, some true]) (tds := []) (m := []) (keep := [6, 7]) (ex := .ret) (st' := (f24n0E a1 a2 a3 (.ret 0 2)).2) (by kernel_rfl) (ap (f26_ok a1 h8) (ap (not_t h9) (ap (f35_ok a3 h14) (ap (not_f h15) an)))) (fun h => nomatch h) rfl
  · obtain rfl := some_inj h
    exact runK_end cfg_ok (k := 2) (rs := [([], [], []), ([], [(1, .call (.pl (.int .i64 x7)) [])], []), ([], [], []), ([], [], [])]) (ps := [some true]) (tds := []) (m := []) (keep := [6, 7]) (ex := .ret) (st' := (f24n0E a1 a2 a3 (.ret 0 x7)).2) (by kernel_rfl) (ap (f26_ok a1 h8) (ap (not_f h9) an)) (fun h => nomatch h) rfl
noncomputable def f24 (a1 : Variation) (a2 : ByteArray) (a3 : List VariationPrice) : Option (Int × Int) := (f24n0 a1 a2 a3).bind fun o => match o with
  | .ret v76 v77 => some (v76, v77)
theorem f24_ok (a1 : Variation) (a2 : ByteArray) (a3 : List VariationPrice) {r : Int × Int} (h : (f24 a1 a2 a3) = some r) : CallS Try.prog false 24 [(.pl (.agg (Variation.cells a1))), (.pl (.str a2)), (.pl (.sl .any 2 (a3.map VariationPrice.cells)))] [] (.tup [(.pl (.int .i64 r.1)), (.pl (.int .i64 r.2))]) [] := by
  unfold f24 at h
  obtain ⟨o, ho, h⟩ := bind_cases h
  cases o with
  | ret v76 v77 =>
    obtain rfl := some_inj h
    exact CallS.plain cfg_ok (f := Try.f24) (c := c24) (by kernel_rfl) (by kernel_rfl) (by kernel_rfl) (by kernel_rfl) ((f24n0_ok a1 a2 a3 ho).mono fun r e => by subst e; exact ⟨.inl rfl, (.tup [(.pl (.int .i64 v76)), (.pl (.int .i64 v77))]), (.tup [(.pl (.int .i64 v76)), (.pl (.int .i64 v77))]), by kernel_rfl, by kernel_rfl, ((Wk.refl _) : Wk (.tup [(.pl (.int .i64 v76)), (.pl (.int .i64 v77))]) (.tup [(.pl (.int .i64 v76)), (.pl (.int .i64 v77))]))⟩)
end Go.Proofs.Ytelblamgfbkhbaa
